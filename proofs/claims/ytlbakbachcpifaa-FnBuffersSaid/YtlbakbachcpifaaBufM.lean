/- What a buffer's run holds in memory. -/
import Derived.Test.YtlbakbachcpifaaBuf
namespace Go.Proofs.Ytlbakbachcpifaa
open Go.RowKit
set_option linter.unusedVariables false
set_option linter.unusedSimpArgs false

structure BufM (E EO : Nat) (w wr : World) (out st : List Int) (tr : List (List Int)) (rows : List Value) (vo vt vs : Value) : Prop where
  ow : Own wr E w.heap.size vo (ints out)
  os : Own wr E w.heap.size vs (ints st)
  ap : ∀ g, vo.ownBlock = some g → vs.ownBlock ≠ some g
  ot : Own wr EO w.heap.size vt rows
  rw : RowsOwn wr E w.heap.size wr.heap.size rows tr
  aro : ∀ r ∈ rows, ∀ k, r.ownBlock = some k → vo.ownBlock ≠ some k
  ars : ∀ r ∈ rows, ∀ k, r.ownBlock = some k → vs.ownBlock ≠ some k
  bel : Below w.heap.size w wr
section
variable {E EO : Nat} {w wr w2 w5 w7 : World} {out out' st st' b : List Int} {tr : List (List Int)} {rows : List Value} {vo vo' vt vt' vs vs' v5 : Value}
theorem RowsOwn.lt_mem {T B : Nat} {xss : List (List Int)} (h : RowsOwn w E B T rows xss) {r : Value} (hr : r ∈ rows) {k : Nat} (hk : r.ownBlock = some k) : k < T := by
  obtain ⟨i, hi, rfl⟩ := List.getElem_of_mem hr
  obtain ⟨xs, _, _, h3⟩ := h.2.1 i _ (List.getElem?_eq_getElem hi)
  exact h3 k hk
theorem BufM.turnS (H : BufM E EO w wr out st tr rows vo vt vs) (hne : EO ≠ E) (hg : wr.grownBy w2 vs.ownBlock) (hos : Own w2 E w.heap.size vs' (ints st')) (hb : ∀ g, vs'.ownBlock = some g → vs.ownBlock = some g ∨ wr.heap.size ≤ g) : BufM E EO w w2 out st' tr rows vo vt vs' where
  ow := H.ow.apart hg H.ap
  os := hos
  ap := fun g h1 h2 => by
    rcases hb g h2 with h | h
    · exact H.ap g h1 h
    · have := (H.ow.lt g h1).2; omega
  ot := H.ot.apart hg (H.ot.elem_ne H.os hne)
  rw := (H.rw.grown hg H.ars).mono (Nat.le_refl _) hg.size
  aro := H.aro
  ars := fun r hr k h1 h2 => by
    rcases hb k h2 with h | h
    · exact H.ars r hr k h1 h
    · have := H.rw.lt_mem hr h1; omega
  bel := H.bel.grown hg H.bel.size fun r hr => (H.os.lt r hr).1
theorem BufM.turnO (H : BufM E EO w wr out st tr rows vo vt vs) (hne : EO ≠ E) (hg : wr.grownBy w2 vo.ownBlock) (hoo : Own w2 E w.heap.size vo' (ints out')) (hb : ∀ g, vo'.ownBlock = some g → vo.ownBlock = some g ∨ wr.heap.size ≤ g) : BufM E EO w w2 out' st tr rows vo' vt vs where
  ow := hoo
  os := H.os.apart hg (fun g h1 h2 => H.ap g h2 h1)
  ap := fun g h1 h2 => by
    rcases hb g h1 with h | h
    · exact H.ap g h h2
    · have := (H.os.lt g h2).2; omega
  ot := H.ot.apart hg (H.ot.elem_ne H.ow hne)
  rw := (H.rw.grown hg H.aro).mono (Nat.le_refl _) hg.size
  aro := fun r hr k h1 h2 => by
    rcases hb k h2 with h | h
    · exact H.aro r hr k h1 h
    · have := H.rw.lt_mem hr h1; omega
  ars := H.ars
  bel := H.bel.grown hg H.bel.size fun r hr => (H.ow.lt r hr).1
theorem BufM.below (H : BufM E EO w wr out st tr rows vo vt vs) (hb : Below wr.heap.size wr w2) : BufM E EO w w2 out st tr rows vo vt vs :=
  ⟨H.ow.below hb, H.os.below hb, H.ap, H.ot.below hb, (H.rw.below hb).mono (Nat.le_refl _) hb.size, H.aro, H.ars, H.bel.trans (hb.mono H.bel.size)⟩
theorem BufM.cutS (H : BufM E EO w wr out st tr rows vo vt vs) (hos : Own wr E w.heap.size vs' (ints st')) (hb : ∀ g, vs'.ownBlock = some g → vs.ownBlock = some g) : BufM E EO w wr out st' tr rows vo vt vs' :=
  ⟨H.ow, hos, fun g h1 h2 => H.ap g h1 (hb g h2), H.ot, H.rw, H.aro, fun r hr k h1 h2 => H.ars r hr k h1 (hb k h2), H.bel⟩
theorem BufM.trace (H : BufM E EO w wr out st tr rows vo vt vs) (hne : EO ≠ E) (hb : Below wr.heap.size wr w5) (h5 : Own w5 E wr.heap.size v5 (ints b)) (hg : w5.grownBy w7 vt.ownBlock) (hot : Own w7 EO w.heap.size vt' (rows ++ [v5])) : BufM E EO w w7 out st (tr ++ [b]) (rows ++ [v5]) vo vt' vs := by
  have H5 := H.below hb
  have hsz := H.bel.size
  have hr5 := (H.rw.below hb).snoc (T' := w5.heap.size) (h5.mono hsz) (fun k hk => h5.lt k hk) hb.size
  refine ⟨H5.ow.apart hg (fun g h1 h2 => H5.ot.elem_ne H5.ow hne g h2 h1), H5.os.apart hg (fun g h1 h2 => H5.ot.elem_ne H5.os hne g h2 h1), H.ap, hot, (hr5.outer hg H5.ot hne).mono (Nat.le_refl _) hg.size, fun r hr k h1 h2 => ?_, fun r hr k h1 h2 => ?_, H5.bel.grown hg H5.bel.size fun r hr => (H5.ot.lt r hr).1⟩
  · rcases List.mem_append.1 hr with hr | hr
    · exact H.aro r hr k h1 h2
    · rw [List.mem_singleton] at hr
      subst hr
      have := (h5.lt k h1).1
      have := (H.ow.lt k h2).2
      omega
  · rcases List.mem_append.1 hr with hr | hr
    · exact H.ars r hr k h1 h2
    · rw [List.mem_singleton] at hr
      subst hr
      have := (h5.lt k h1).1
      have := (H.os.lt k h2).2
      omega
theorem BufM.drewN (H : BufM E EO w wr out st tr rows vo vt vs) (n : Nat) : BufM E EO w (wr.drewN n) out st tr rows vo vt vs := H.below (Dr.below ((Dr.refl _).step _) _)
theorem hat_new {v v' : Value} {n : Nat} (h : v'.ownBlock = v.ownBlock ∨ ∃ k, n ≤ k ∧ v'.ownBlock = some k) : ∀ g, v'.ownBlock = some g → v.ownBlock = some g ∨ n ≤ g := by
  intro g hg
  rcases h with h | ⟨k, hk, h⟩
  · exact .inl (h ▸ hg)
  · rw [h] at hg
    cases hg
    exact .inr hk
theorem cut_block {a : Option Addr} {n c m k q : Nat} : ∀ g, (Value.slice (if q = k then a else a.map (·.add k)) m c).ownBlock = some g → (Value.slice a n c).ownBlock = some g := by
  intro g hg
  cases a with
  | none => split at hg <;> exact hg
  | some p =>
    split at hg
    · exact hg
    · have : (p.add k).block = g := Option.some.inj hg
      rw [block_of_add] at this
      simp [Value.ownBlock, this]
/-- A run's slices: what is written, and what was in the buffer before each. -/
def RetBuf (E EO : Nat) (out : List Int) (tr : List (List Int)) (w : World) (e : Ending) (w' : World) : Prop :=
  ∃ vo vt, e = .returned (.tuple #[vo, vt]) ∧ Own w' E w.heap.size vo (ints out) ∧ Own2 w' EO E w.heap.size w'.heap.size vt tr ∧ Below w.heap.size w w'
theorem BufM.ret (H : BufM E EO w wr out st tr rows vo vt vs) : RetBuf E EO out tr w (.returned (.tuple #[vo, vt])) wr :=
  ⟨vo, vt, rfl, H.ow, ⟨rows, H.ot, fun k hk => (H.ot.lt k hk).2, H.rw⟩, H.bel⟩
end

end Go.Proofs.Ytlbakbachcpifaa
