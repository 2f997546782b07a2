/- Joined texts of the proof: Clone, Buf, BufM. -/
import Derived.WalkKit
import Derived.WalkSpells
import Derived.WalkLawsBesides
import Derived.Deep.Draws
import Derived.Lib.Hide
import Derived.RegionTactic
import Derived.Test.YtggblfnajeikjaaGreatRows
import Derived.BigQuiet
import Derived.Deep.QuietTactic
import Derived.Lib.LazyBuf
import Derived.Test.YtggblfnajeikjaaGreatJ1
import Derived.Test.YtggblfnajeikjaaGreatJ2
import Derived.Test.YtggblfnajeikjaaGreatJ4
import Derived.Test.YtggblfnajeikjaaGreatJ6
namespace Go.Proofs.YtggblfnajeikjaaGreat
open Go.RowKit
set_option linter.unusedVariables false
set_option linter.unusedSimpArgs false

theorem oneCell_ints (xs : List Int) : ∀ u ∈ ints xs, u.oneCell' = true := by
  intro u hu
  simp only [ints, List.mem_map] at hu
  obtain ⟨x, _, rfl⟩ := hu
  rfl
set_option maxHeartbeats 400000 in
theorem f_Clone (v : Value) (xs : List Int) (w : World) (h : Rd w v (ints xs)) (hl : xs.length ≤ 2000000) :
    Calls Tryz.prog 70 #[v] w (RetOwn 3 (ints xs) w) := by
  obtain ⟨a, c, rfl, h2, h3⟩ := h.formi
  cases a with
  | none =>
    have hx : xs = [] := by
      cases xs with
      | nil => rfl
      | cons y t => obtain ⟨ad, x, e, _⟩ := h.int (k := 0) (by simp); cases e
    subst hx
    have q : ∀ W, (binOp .eql 33 (.slice none 0 c) (.slice none 0 0)).run Tryz.prog W = .ok (.bool true) W := fun W => run_eql_slice_nil W _ _ none 0 c Tryz.underlying33
    go_enter Tryz.func70, Tryz.ntmps70
    go_wp2
    go_ret
    exact RetOwn.nil w _
  | some ad =>
    have h' := h.alloc (.cells #[] 3)
    have HL := Lib.hid hl
    clear hl
    have q : ∀ W, (binOp .eql 33 (.slice (some ad) xs.length c) (.slice none 0 0)).run Tryz.prog W = .ok (.bool false) W := fun W => run_eql_slice_nil W _ _ (some ad) xs.length c Tryz.underlying33
    go_enter Tryz.func70, Tryz.ntmps70
    go_wp2_with (at_builtin; refine wpList_app (B := w.heap.size) rfl _ _ 33 rfl elI rfl (Own.lit0 w 3 (Nat.le_refl _)) rfl h' (oneCell_ints _) (by simp) (by simp only [ints_length, List.length_nil]; have := HL.out; omega) (by simp only [ints_length, List.length_nil]; have := HL.out; omega) ?_; intro b cc w2 ho2 hg2 hat2; have hb2 := ((Below.refl w.heap.size w).alloc (Nat.le_refl _) (.cells #[] 3)).grown hg2 (by simp) (fun r hr => ((Own.lit0 w 3 (Nat.le_refl _)).lt r hr).1))
    go_ret
    exact ⟨_, rfl, ho2, hb2⟩

end Go.Proofs.YtggblfnajeikjaaGreat

namespace Go.Proofs.YtggblfnajeikjaaGreat
open Go.RowKit
set_option linter.unusedVariables false
set_option linter.unusedSimpArgs false

theorem f_Contains (v : Value) (xs : List Int) (x : Int) (w : World) (h : Rd w v (ints xs)) :
    Calls Tryz.prog 92 #[v, .int .i64 x] w fun e w' => e = .returned (.bool (decide (x ∈ xs))) ∧ w = w' := by
  have H := f_Index v xs x w h
  have HI : Hid (decide (0 ≤ idxOf (fun y => decide (x = y)) xs) = decide (x ∈ xs)) := by rw [Hid, idxOf_any, any_eq_mem]
  clear h
  generalize idxOf (fun y => decide (x = y)) xs = r at *
  go_enter Tryz.func92, Tryz.ntmps92
  go_wp2_with (go_at_call 123; refine H.mono ?_; rintro e w' ⟨rfl, rfl⟩)
  go_ret
  exact ⟨ret_bool (by rw [← HI.out]), rfl⟩

end Go.Proofs.YtggblfnajeikjaaGreat

namespace Go.Proofs.YtggblfnajeikjaaGreat
open Go.RowKit
set_option linter.unusedVariables false
set_option linter.unusedSimpArgs false

structure BufM (E EO : Nat) (w wr : World) (out st : List Int) (tr : List (List Int)) (rows : List Value) (vo vt vs : Value) : Prop where
  ow : Own wr E w.heap.size vo (ints out)
  os : Own wr E w.heap.size vs (ints st)
  ap : ∀ g, vo.ownBlock = some g → vs.ownBlock ≠ some g
  ot : Own wr EO w.heap.size vt rows
  rw : RowsOwn wr E w.heap.size wr.heap.size rows tr
  aro : ∀ r ∈ rows, ∀ k, r.ownBlock = some k → vo.ownBlock ≠ some k
  ars : ∀ r ∈ rows, ∀ k, r.ownBlock = some k → vs.ownBlock ≠ some k
  bel : Below w.heap.size w wr
section
variable {E EO : Nat} {w wr w2 w5 w7 : World} {out out' st st' b : List Int} {tr : List (List Int)} {rows : List Value} {vo vo' vt vt' vs vs' v5 : Value}
theorem RowsOwn.lt_mem {T B : Nat} {xss : List (List Int)} (h : RowsOwn w E B T rows xss) {r : Value} (hr : r ∈ rows) {k : Nat} (hk : r.ownBlock = some k) : k < T := by
  obtain ⟨i, hi, rfl⟩ := List.getElem_of_mem hr
  obtain ⟨xs, _, _, h3⟩ := h.2.1 i _ (List.getElem?_eq_getElem hi)
  exact h3 k hk
theorem BufM.turnS (H : BufM E EO w wr out st tr rows vo vt vs) (hne : EO ≠ E) (hg : wr.grownBy w2 vs.ownBlock) (hos : Own w2 E w.heap.size vs' (ints st')) (hb : ∀ g, vs'.ownBlock = some g → vs.ownBlock = some g ∨ wr.heap.size ≤ g) : BufM E EO w w2 out st' tr rows vo vt vs' where
  ow := H.ow.apart hg H.ap
  os := hos
  ap := fun g h1 h2 => by
    rcases hb g h2 with h | h
    · exact H.ap g h1 h
    · have := (H.ow.lt g h1).2; omega
  ot := H.ot.apart hg (H.ot.elem_ne H.os hne)
  rw := (H.rw.grown hg H.ars).mono (Nat.le_refl _) hg.size
  aro := H.aro
  ars := fun r hr k h1 h2 => by
    rcases hb k h2 with h | h
    · exact H.ars r hr k h1 h
    · have := H.rw.lt_mem hr h1; omega
  bel := H.bel.grown hg H.bel.size fun r hr => (H.os.lt r hr).1
theorem BufM.turnO (H : BufM E EO w wr out st tr rows vo vt vs) (hne : EO ≠ E) (hg : wr.grownBy w2 vo.ownBlock) (hoo : Own w2 E w.heap.size vo' (ints out')) (hb : ∀ g, vo'.ownBlock = some g → vo.ownBlock = some g ∨ wr.heap.size ≤ g) : BufM E EO w w2 out' st tr rows vo' vt vs where
  ow := hoo
  os := H.os.apart hg (fun g h1 h2 => H.ap g h2 h1)
  ap := fun g h1 h2 => by
    rcases hb g h1 with h | h
    · exact H.ap g h h2
    · have := (H.os.lt g h2).2; omega
  ot := H.ot.apart hg (H.ot.elem_ne H.ow hne)
  rw := (H.rw.grown hg H.aro).mono (Nat.le_refl _) hg.size
  aro := fun r hr k h1 h2 => by
    rcases hb k h2 with h | h
    · exact H.aro r hr k h1 h
    · have := H.rw.lt_mem hr h1; omega
  ars := H.ars
  bel := H.bel.grown hg H.bel.size fun r hr => (H.ow.lt r hr).1
theorem BufM.below (H : BufM E EO w wr out st tr rows vo vt vs) (hb : Below wr.heap.size wr w2) : BufM E EO w w2 out st tr rows vo vt vs :=
  ⟨H.ow.below hb, H.os.below hb, H.ap, H.ot.below hb, (H.rw.below hb).mono (Nat.le_refl _) hb.size, H.aro, H.ars, H.bel.trans (hb.mono H.bel.size)⟩
theorem BufM.cutS (H : BufM E EO w wr out st tr rows vo vt vs) (hos : Own wr E w.heap.size vs' (ints st')) (hb : ∀ g, vs'.ownBlock = some g → vs.ownBlock = some g) : BufM E EO w wr out st' tr rows vo vt vs' :=
  ⟨H.ow, hos, fun g h1 h2 => H.ap g h1 (hb g h2), H.ot, H.rw, H.aro, fun r hr k h1 h2 => H.ars r hr k h1 (hb k h2), H.bel⟩
theorem BufM.trace (H : BufM E EO w wr out st tr rows vo vt vs) (hne : EO ≠ E) (hb : Below wr.heap.size wr w5) (h5 : Own w5 E wr.heap.size v5 (ints b)) (hg : w5.grownBy w7 vt.ownBlock) (hot : Own w7 EO w.heap.size vt' (rows ++ [v5])) : BufM E EO w w7 out st (tr ++ [b]) (rows ++ [v5]) vo vt' vs := by
  have H5 := H.below hb
  have hsz := H.bel.size
  have hr5 := (H.rw.below hb).snoc (T' := w5.heap.size) (h5.mono hsz) (fun k hk => h5.lt k hk) hb.size
  refine ⟨H5.ow.apart hg (fun g h1 h2 => H5.ot.elem_ne H5.ow hne g h2 h1), H5.os.apart hg (fun g h1 h2 => H5.ot.elem_ne H5.os hne g h2 h1), H.ap, hot, (hr5.outer hg H5.ot hne).mono (Nat.le_refl _) hg.size, fun r hr k h1 h2 => ?_, fun r hr k h1 h2 => ?_, H5.bel.grown hg H5.bel.size fun r hr => (H5.ot.lt r hr).1⟩
  · rcases List.mem_append.1 hr with hr | hr
    · exact H.aro r hr k h1 h2
    · rw [List.mem_singleton] at hr
      subst hr
      have := (h5.lt k h1).1
      have := (H.ow.lt k h2).2
      omega
  · rcases List.mem_append.1 hr with hr | hr
    · exact H.ars r hr k h1 h2
    · rw [List.mem_singleton] at hr
      subst hr
      have := (h5.lt k h1).1
      have := (H.os.lt k h2).2
      omega
theorem BufM.drewN (H : BufM E EO w wr out st tr rows vo vt vs) (n : Nat) : BufM E EO w (wr.drewN n) out st tr rows vo vt vs := H.below (Dr.below ((Dr.refl _).step _) _)
theorem hat_new {v v' : Value} {n : Nat} (h : v'.ownBlock = v.ownBlock ∨ ∃ k, n ≤ k ∧ v'.ownBlock = some k) : ∀ g, v'.ownBlock = some g → v.ownBlock = some g ∨ n ≤ g := by
  intro g hg
  rcases h with h | ⟨k, hk, h⟩
  · exact .inl (h ▸ hg)
  · rw [h] at hg
    cases hg
    exact .inr hk
theorem cut_block {a : Option Addr} {n c m k q : Nat} : ∀ g, (Value.slice (if q = k then a else a.map (·.add k)) m c).ownBlock = some g → (Value.slice a n c).ownBlock = some g := by
  intro g hg
  cases a with
  | none => split at hg <;> exact hg
  | some p =>
    split at hg
    · exact hg
    · have : (p.add k).block = g := Option.some.inj hg
      rw [block_of_add] at this
      simp [Value.ownBlock, this]
/-- A run's slices: what is written, and what was in the buffer before each. -/
def RetBuf (E EO : Nat) (out : List Int) (tr : List (List Int)) (w : World) (e : Ending) (w' : World) : Prop :=
  ∃ vo vt, e = .returned (.tuple #[vo, vt]) ∧ Own w' E w.heap.size vo (ints out) ∧ Own2 w' EO E w.heap.size w'.heap.size vt tr ∧ Below w.heap.size w w'
theorem BufM.ret (H : BufM E EO w wr out st tr rows vo vt vs) : RetBuf E EO out tr w (.returned (.tuple #[vo, vt])) wr :=
  ⟨vo, vt, rfl, H.ow, ⟨rows, H.ot, fun k hk => (H.ot.lt k hk).2, H.rw⟩, H.bel⟩
end

end Go.Proofs.YtggblfnajeikjaaGreat
