/- Walks: what the exact laws over networks share. -/
import Derived.Test.YtlmbaijkeahkfaaDoorCountReg
import Derived.Test.YtlmbaijkeahkfaaDoorBase
namespace Go.Proofs.YtlmbaijkeahkfaaDoor
open Go.RowKit
set_option linter.unusedVariables false
set_option linter.unusedSimpArgs false

theorem Chg.cell {B T : Nat} {w w' : World} (h : Chg B T w w') {p : Addr} (hp : p.block < w.heap.size) (hd : p.block < B ∨ T ≤ p.block) : w'.cell? p = w.cell? p := by
  have := h.block _ hp hd
  simp only [World.cell?, this]
theorem box_store (w : World) (x y : Value) (T : Nat) : ∃ w', Below w.heap.size w w' ∧ w'.cell? ⟨w.heap.size, 0, none⟩ = some x ∧ w'.cell? ⟨w.heap.size, 1, none⟩ = some y ∧
    w.alloc (.cells #[x, y] T) = w' := by
  refine ⟨_, ?_, ?_, ?_, rfl⟩
  · exact (Below.refl _ _).alloc (Nat.le_refl _) _
  · go_simp
  · go_simp
theorem eqNet_t (n : Int) (v u : Value) (xss : List (List Int)) (w : World) (hx : Rd2 w v xss) (hy : Rd2 w u xss) :
    Calls Tryd.prog 19 #[.agg #[.int .i64 n, v], .agg #[.int .i64 n, u]] w (RetB (.bool true) w) := by
  have := eqNetwork_c n n v u xss xss w hx hy
  rwa [eqII_self] at this

end Go.Proofs.YtlmbaijkeahkfaaDoor
