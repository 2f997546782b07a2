/- Walks: the cheapest merge, in the program: its state. -/
import Derived.Test.YtlmbaijkeahkfaaDoorCheap
namespace Go.Proofs.YtlmbaijkeahkfaaDoor
open Go.RowKit
set_option linter.unusedVariables false
set_option linter.unusedSimpArgs false

/-- The state of the cheapest merge: the runs' slice in its box, the members' slices, the depths. -/
structure ChSt (w wr : World) (br g m cap n : Nat) (cur : Array Value) (ws : List Int) (vs : List Value) (mss : List (List Int)) (vd : Value) (ds : List Int) : Prop where
  runs : RunsAt wr br g m cap cur ws vs
  ne : br ≠ g
  brb : w.heap.size ≤ br
  gb : w.heap.size ≤ g
  mem : MemAt wr w.heap.size n vs mss
  dep : Own wr 3 w.heap.size vd (ints ds)
  ap : ∀ u ∈ vs, ∀ b, u.ownBlock = some b → vd.ownBlock ≠ some b
  bel : Below w.heap.size w wr
/-- One more slice beside the state: owned, of numbers below n, apart from the depths. -/
structure MsAt (w wr : World) (n : Nat) (vd u : Value) (ms : List Int) : Prop where
  own : Own wr 3 w.heap.size u (ints ms)
  rng : ∀ x ∈ ms, 0 ≤ x ∧ x < (n : Int)
  ap : ∀ b, u.ownBlock = some b → vd.ownBlock ≠ some b
section
variable {w wr w' : World} {br g m cap n : Nat} {cur cur' : Array Value} {ws : List Int} {vs : List Value} {mss : List (List Int)} {vd u v : Value} {ds ms : List Int}
theorem MsAt.below (h : MsAt w wr n vd u ms) (hb : Below wr.heap.size wr w') : MsAt w w' n vd u ms := ⟨h.own.below hb, h.rng, h.ap⟩
theorem MsAt.keep (h : MsAt w wr n vd u ms) (hb : ∀ b, u.ownBlock = some b → w'.heap[b]? = wr.heap[b]?) : MsAt w w' n vd u ms := ⟨h.own.keep fun k _ e => hb k e.symm, h.rng, h.ap⟩
theorem ChSt.below (h : ChSt w wr br g m cap n cur ws vs mss vd ds) (hb : Below wr.heap.size wr w') : ChSt w w' br g m cap n cur ws vs mss vd ds :=
  ⟨h.runs.below hb, h.ne, h.brb, h.gb, h.mem.below hb, h.dep.below hb, h.ap, h.bel.trans (hb.mono h.bel.size)⟩
/-- A slice of numbers lies neither in the box nor in the row. -/
theorem ChSt.far (h : ChSt w wr br g m cap n cur ws vs mss vd ds) {B : Nat} {ys : List Int} (ho : Own wr 3 B u (ints ys)) : ∀ b, u.ownBlock = some b → b < wr.heap.size ∧ b ≠ br ∧ b ≠ g := fun b hb =>
  ⟨(ho.lt b hb).2, fun e => own_ne_box ho h.runs.box (by decide) (e ▸ hb), fun e => own_ne_box ho h.runs.row (by decide) (e ▸ hb)⟩
/-- Behind the closure: the state is one run shorter; the run's members are beside it. -/
theorem ChSt.took (h : ChSt w wr br g m cap n cur ws vs mss vd ds) (hu : vs[minI ws]? = some u) (hr : RunsAt w' br g (m - 1) cap cur' (restL ws) (vs.eraseIdx (minI ws))) (hf : Fr (fun k => k < wr.heap.size ∧ k ≠ br ∧ k ≠ g) wr w') :
    ∃ ms, mss[minI ws]? = some ms ∧ tot (mss.eraseIdx (minI ws)) + ms.length = tot mss ∧ ChSt w w' br g (m - 1) cap n cur' (restL ws) (vs.eraseIdx (minI ws)) (mss.eraseIdx (minI ws)) vd ds ∧ MsAt w w' n vd u ms := by
  obtain ⟨ms, hm, ho, hrg, hl⟩ := h.mem.get hu
  have hfar : ∀ x ∈ vs, ∀ b, x.ownBlock = some b → b < wr.heap.size ∧ b ≠ br ∧ b ≠ g := fun x hx b hb => by
    obtain ⟨ys, hy⟩ := h.mem.mem hx
    exact h.far hy b hb
  have hbel : Below w.heap.size w w' := ⟨hf.os.trans h.bel.os, hf.tape.trans h.bel.tape, hf.output.trans h.bel.output, Nat.le_trans h.bel.size hf.size, fun k hk => (hf.block k ⟨by have := h.bel.size; omega, by have := h.brb; omega, by have := h.gb; omega⟩).trans (h.bel.block k hk)⟩
  refine ⟨ms, hm, tot_erase hm, ⟨hr, h.ne, h.brb, h.gb, (h.mem.fr hf hfar).erase _, h.dep.keep fun k _ e => hf.block k (h.far h.dep k e.symm), fun x hx => h.ap x (List.mem_of_mem_eraseIdx hx), hbel⟩, ?_⟩
  exact ⟨ho.keep fun k _ e => hf.block k (hfar u (List.mem_of_getElem? hu) k e.symm), hrg, h.ap u (List.mem_of_getElem? hu)⟩
/-- A slice beside the state is kept by the closure. -/
theorem ChSt.kept (h : ChSt w wr br g m cap n cur ws vs mss vd ds) (hm : MsAt w wr n vd v ms) (hf : Fr (fun k => k < wr.heap.size ∧ k ≠ br ∧ k ≠ g) wr w') : MsAt w w' n vd v ms :=
  hm.keep fun b hb => hf.block b (h.far hm.own b hb)
/-- One run is appended. -/
theorem ChSt.app {w1 : World} {g1 cap1 um uc : Nat} {ua : Option Addr} {x : Int} (h : ChSt w wr br g m cap n cur ws vs mss vd ds) (hu : MsAt w wr n vd (.slice ua um uc) ms) (ht : tot mss + ms.length ≤ n)
    (ho : w1.ownsRow 0 90 2 (.slice (some ⟨g1, 0, none⟩) (m + 1) cap1) (m + 1) (cur.toList.take (m * 2) ++ [.int .i64 x, .slice ua um uc])) (hg : wr.grownBy w1 (some g)) (hat : some g = some g1 ∨ g1 = wr.heap.size) :
    ∃ cur1, ChSt w (w1.setCell ⟨br, 0, none⟩ (.slice (some ⟨g1, 0, none⟩) (m + 1) cap1)) br g1 (m + 1) cap1 n cur1 (ws ++ [x]) (vs ++ [.slice ua um uc]) (mss ++ [ms]) vd ds := by
  obtain ⟨h1, ⟨cur1, h2⟩, h3⟩ := h.runs.app h.ne ho hg hat
  have hfar : ∀ x ∈ vs, ∀ b, x.ownBlock = some b → b < wr.heap.size ∧ b ≠ br ∧ b ≠ g := fun x hx b hb => by
    obtain ⟨ys, hy⟩ := h.mem.mem hx
    exact h.far hy b hb
  have hbel : Below w.heap.size w (w1.setCell ⟨br, 0, none⟩ (.slice (some ⟨g1, 0, none⟩) (m + 1) cap1)) := ⟨h3.os.trans h.bel.os, h3.tape.trans h.bel.tape, h3.output.trans h.bel.output, Nat.le_trans h.bel.size h3.size, fun k hk => (h3.block k ⟨by have := h.bel.size; omega, by have := h.brb; omega, by have := h.gb; omega⟩).trans (h.bel.block k hk)⟩
  have hum := h.kept hu h3
  refine ⟨cur1, h2, h1, h.brb, ?_, (h.mem.fr h3 hfar).snoc hum.own hum.rng ht, h.dep.keep fun k _ e => h3.block k (h.far h.dep k e.symm), fun y hy => ?_, hbel⟩
  · rcases hat with e | e
    · injection e with e; have := h.gb; omega
    · have := h.bel.size; omega
  · rcases List.mem_append.1 hy with hy | hy
    · exact h.ap y hy
    · rw [List.mem_singleton] at hy; subst hy; exact hu.ap
/-- The depths are made. -/
theorem ChSt.withd {b : Addr} (h : ChSt w wr br g m cap n cur ws vs mss vd ds) (hb : b.block = wr.heap.size) {ds' : List Int} {dn dc : Nat} (ho : Own w' 3 wr.heap.size (.slice (some b) dn dc) (ints ds')) (hg : wr.grownBy w' none) :
    ChSt w w' br g m cap n cur ws vs mss (.slice (some b) dn dc) ds' := by
  have hbl : Below wr.heap.size wr w' := (Below.refl _ _).grown hg (Nat.le_refl _) (fun _ h => by cases h)
  have h1 := h.below hbl
  refine ⟨h1.runs, h1.ne, h1.brb, h1.gb, h1.mem, ho.mono h.bel.size, fun u hu q hq e => ?_, h1.bel⟩
  obtain ⟨ys, hy⟩ := h.mem.mem hu
  have := (h.far hy q hq).1
  simp only [Value.ownBlock, Option.some.injEq] at e
  omega
/-- A depth is written. -/
theorem ChSt.setd {ad : Addr} {dn dc k : Nat} (h : ChSt w wr br g m cap n cur ws vs mss (.slice (some ad) dn dc) ds) (hk : k < ds.length) (y : Int) :
    ChSt w (wr.setCell (ad.add k) (.int .i64 y)) br g m cap n cur ws vs mss (.slice (some ad) dn dc) (ds.set k y) ∧ ∀ b, (Value.slice (some ad) dn dc).ownBlock ≠ some b → (wr.setCell (ad.add k) (.int .i64 y)).heap[b]? = wr.heap[b]? := by
  have hb : ∀ b, (Value.slice (some ad) dn dc).ownBlock ≠ some b → (wr.setCell (ad.add k) (.int .i64 y)).heap[b]? = wr.heap[b]? := fun b hb => heap_setCell_other wr _ b _ fun e => hb (by rw [e, block_of_add]; rfl)
  obtain ⟨h1, h2⟩ := h.dep.seti rfl hk y
  obtain ⟨_, hn1, hn2⟩ := h.far h.dep ad.block rfl
  have hbx := (hb br (by intro e; injection e with e; exact hn1 e)).trans h.runs.box
  have hrw := (hb g (by intro e; injection e with e; exact hn2 e)).trans h.runs.row
  refine ⟨⟨⟨hbx, hrw, h.runs.size, h.runs.le, h.runs.capLe, h.runs.wl, h.runs.vl, h.runs.wc, h.runs.vc, h.runs.sl⟩, h.ne, h.brb, h.gb, h.mem.keep fun u hu b e => hb b (h.ap u hu b e), h1, h.ap, ?_⟩, hb⟩
  exact h.dep.below_set rfl hk _ h.bel (Nat.le_refl _)
end

end Go.Proofs.YtlmbaijkeahkfaaDoor
