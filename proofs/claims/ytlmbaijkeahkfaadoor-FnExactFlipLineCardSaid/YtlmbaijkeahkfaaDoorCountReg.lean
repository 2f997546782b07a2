/- Walks: registers of a pipe. -/
import Derived.Test.YtlmbaijkeahkfaaDoorDepth2
namespace Go.Proofs.YtlmbaijkeahkfaaDoor
open Go.RowKit
set_option linter.unusedVariables false
set_option linter.unusedSimpArgs false

theorem lvM_mem (xss : List (List Int)) : ∀ (k : Nat), ∀ x ∈ (lvM xss k).2, 0 ≤ x ∧ x ≤ k
  | 0, x, hx => by simp [lvM] at hx
  | k + 1, x, hx => by
    have ih := lvM_mem xss k
    simp only [lvM] at hx
    split at hx
    · rename_i a b _
      have h1 := lvM_bound xss k a.toNat
      have h2 := lvM_bound xss k b.toNat
      simp only [List.mem_append, List.mem_cons, List.not_mem_nil, or_false] at hx
      rcases hx with hx | rfl
      · have := ih x hx; omega
      · omega
    · have := ih x hx; omega
theorem mostL_bound {xs : List Int} {B : Int} (hB : 0 ≤ B) (h : ∀ x ∈ xs, 0 ≤ x ∧ x ≤ B) : ∀ k, 0 ≤ mostL xs k ∧ mostL xs k ≤ B
  | 0 => ⟨Int.le_refl _, hB⟩
  | k + 1 => by
    have ih := mostL_bound hB h k
    have hg : 0 ≤ xs.getD k 0 ∧ xs.getD k 0 ≤ B := by
      rw [List.getD_eq_getElem?_getD]
      cases hx : xs[k]? with
      | none => exact ⟨Int.le_refl _, hB⟩
      | some x => exact h x (List.mem_of_getElem? hx)
    simp only [mostL]
    omega
theorem depthOf_bound {n : Int} {xss : List (List Int)} (h : netOk n xss = true) : 0 ≤ depthOf n xss ∧ depthOf n xss ≤ 60 := by
  obtain ⟨N, rfl, _, _, h60⟩ := netOk_n h
  unfold depthOf
  rw [if_pos h]
  exact mostL_bound (by omega) (fun x hx => by have := lvM_mem xss _ x hx; omega) _
def countReg (n : Int) (xss : List (List Int)) : Int := if netOk n xss then n * depthOf n xss else -1

end Go.Proofs.YtlmbaijkeahkfaaDoor
