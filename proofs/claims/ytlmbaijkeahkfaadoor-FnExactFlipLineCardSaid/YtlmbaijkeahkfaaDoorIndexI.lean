/- Walks: slices.Index. -/
import Derived.Test.YtlmbaijkeahkfaaDoorSlicesWalks
namespace Go.Proofs.YtlmbaijkeahkfaaDoor
open Go.RowKit
set_option linter.unusedVariables false
set_option linter.unusedSimpArgs false

theorem any_eq_mem (x : Int) (xs : List Int) : xs.any (fun y => decide (x = y)) = decide (x ∈ xs) := by
  rw [Bool.eq_iff_iff, List.any_eq_true]
  simp
set_option maxHeartbeats 400000 in
theorem f_Index (v : Value) (xs : List Int) (x : Int) (w : World) (h : Rd w v (ints xs)) :
    Calls Tryd.prog 87 #[v, .int .i64 x] w fun e w' => e = .returned (.int .i64 (idxOf (fun y => decide (x = y)) xs)) ∧ w = w' := by
  obtain ⟨a, c, rfl, h2, h3⟩ := h.formi
  go_enter Tryd.func87, Tryd.ntmps87
  go_wp2
  go_loop [8] (fun i => ∃ k : Nat, k ≤ xs.length ∧ i = .int .i64 k ∧ (∀ j y, j < k → xs[j]? = some y → decide (x = y) = false)) (fun i => xs.length - (intOf i).toNat)
  case atStart => exact ⟨0, Nat.zero_le _, rfl, fun j y hj => by omega⟩
  case round =>
    obtain ⟨k, hkl, rfl, hno⟩ := hrel
    have HN := Lib.hid hno
    clear hno
    by_cases hlt : k < xs.length
    · obtain ⟨ad, y, rfl, hc, hy⟩ := h.int hlt
      cases hp : (x == y)
      · go_wp2
        go_round
        case rel => exact ⟨k + 1, by omega, by go_num, fun j z hj hz => by
          by_cases e : j = k
          · subst e
            rw [hy.out] at hz
            cases hz
            simpa using hp
          · exact HN.out j z (by omega) hz⟩
        case measure => simp [intOf]; omega
      · have HE := Lib.hid (idxOf_yes (p := fun y => decide (x = y)) hy.out (by simpa using hp) HN.out)
        go_wp2
        go_ret
        exact ⟨ret_int HE.out.symm, rfl⟩
    · obtain rfl : k = xs.length := by omega
      have HE := Lib.hid (idxOf_no (p := fun y => decide (x = y)) HN.out)
      go_wp2
      go_ret
      exact ⟨ret_int HE.out.symm, rfl⟩

end Go.Proofs.YtlmbaijkeahkfaaDoor
