/- Words for frames: blocks that are kept. -/
import Derived.Test.YtlmbaijkeahkfaaDoorMem
namespace Go.Proofs.YtlmbaijkeahkfaaDoor
open Go.RowKit
set_option linter.unusedVariables false
set_option linter.unusedSimpArgs false

/-- The blocks in K are as they were. -/
structure Fr (K : Nat → Prop) (w w' : World) : Prop where
  os : w'.os = w.os
  tape : w'.tape = w.tape
  output : w'.output = w.output
  size : w.heap.size ≤ w'.heap.size
  block : ∀ k, K k → w'.heap[k]? = w.heap[k]?
section
variable {K : Nat → Prop} {w w' w2 : World} {E B : Nat} {v : Value} {xs : List Value}
theorem Fr.refl (K : Nat → Prop) (w : World) : Fr K w w := ⟨rfl, rfl, rfl, Nat.le_refl _, fun _ _ => rfl⟩
theorem Fr.trans (h : Fr K w w') (k : Fr K w' w2) : Fr K w w2 := ⟨k.os.trans h.os, k.tape.trans h.tape, k.output.trans h.output, Nat.le_trans h.size k.size, fun i hi => (k.block i hi).trans (h.block i hi)⟩
theorem Fr.row {r : Option Nat} (hg : w.grownBy w' r) (hr : ∀ g, r = some g → ¬ K g) (hK : ∀ k, K k → k < w.heap.size) : Fr K w w' :=
  ⟨hg.os, hg.tape, hg.output, hg.size, fun k hk => hg.block k (hK k hk) fun e => hr k e.symm hk⟩
theorem Fr.setCell {p : Addr} (hp : ¬ K p.block) (u : Value) : Fr K w (w.setCell p u) :=
  ⟨rfl, rfl, rfl, by simp, fun k hk => heap_setCell_other w p k u fun e => hp (e ▸ hk)⟩
theorem Fr.below (h : Below w.heap.size w w') (hK : ∀ k, K k → k < w.heap.size) : Fr K w w' := ⟨h.os, h.tape, h.output, h.size, fun k hk => h.block k (hK k hk)⟩
theorem Fr.mono {K' : Nat → Prop} (h : Fr K w w') (hK : ∀ k, K' k → K k) : Fr K' w w' := ⟨h.os, h.tape, h.output, h.size, fun k hk => h.block k (hK k hk)⟩
theorem Fr.to_below (h : Fr K w w') (hK : ∀ k, k < B → K k) : Below B w w' := ⟨h.os, h.tape, h.output, h.size, fun k hk => h.block k (hK k hk)⟩
theorem own_ne_box {F g : Nat} {cur : Array Value} (h : Own w E B v xs) (hb : w.heap[g]? = some (.cells cur F (0, 0))) (hne : F ≠ E) : v.ownBlock ≠ some g := by
  intro e
  rcases h with ⟨rfl, _⟩ | ⟨g1, o1, c1, cur1, rfl, _, hh1, _⟩
  · cases e
  · simp only [Value.ownBlock, Option.some.injEq] at e
    subst e
    rw [hh1] at hb
    injection hb with hb
    injection hb with _ e
    exact hne e.symm
theorem Fr.rd (h : Fr K w w') {u : Value} {ys : List Int} (hr : Rd w u (ints ys)) (hu : 0 < ys.length → ∀ g, u.ownBlock = some g → K g) : Rd w' u (ints ys) := by
  by_cases hy : 0 < ys.length
  · exact hr.keep fun p _ e => World.cell?_of_block (h.block _ (hu hy _ e.symm))
  · obtain ⟨a, c, e, h1, h2, _⟩ := hr
    exact ⟨a, c, e, h1, h2, fun hn => absurd (by rwa [ints_length] at hn) hy⟩
theorem box_lt {g F : Nat} {cur : Array Value} (hb : w.heap[g]? = some (.cells cur F (0, 0))) : g < w.heap.size := (Array.getElem?_eq_some_iff.1 hb).1
theorem box_cell {g F : Nat} {cur : Array Value} (hb : w.heap[g]? = some (.cells cur F (0, 0))) (i : Nat) : w.cell? ⟨g, i, none⟩ = cur[i]? := cell_of_row w g i cur F (0, 0) hb
end

end Go.Proofs.YtlmbaijkeahkfaaDoor
