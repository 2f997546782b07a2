/- Walks: a buffer, the program. -/
import Derived.Test.YtlbakbachcpifaaSort2
import Derived.Test.YtlbakbachcpifaaPlainBuf
import Derived.Test.YtlbakbachcpifaaSlicesWalks
import Derived.Test.YtlbakbachcpifaaClone
namespace Go.Proofs.Ytlbakbachcpifaa
open Go.RowKit
set_option linter.unusedVariables false
set_option linter.unusedSimpArgs false

theorem any_eq_mem (x : Int) (xs : List Int) : xs.any (fun y => decide (x = y)) = decide (x ∈ xs) := by
  rw [Bool.eq_iff_iff, List.any_eq_true]
  simp
set_option maxHeartbeats 400000 in
theorem f_Index (v : Value) (xs : List Int) (x : Int) (w : World) (h : Rd w v (ints xs)) :
    Calls Try.prog 90 #[v, .int .i64 x] w fun e w' => e = .returned (.int .i64 (idxOf (fun y => decide (x = y)) xs)) ∧ w = w' := by
  obtain ⟨a, c, rfl, h2, h3⟩ := h.formi
  go_enter Try.func90, Try.ntmps90
  go_wp2
  go_loop [8] (fun i => ∃ k : Nat, k ≤ xs.length ∧ i = .int .i64 k ∧ (∀ j y, j < k → xs[j]? = some y → decide (x = y) = false)) (fun i => xs.length - (intOf i).toNat)
  case atStart => exact ⟨0, Nat.zero_le _, rfl, fun j y hj => by omega⟩
  case round =>
    obtain ⟨k, hkl, rfl, hno⟩ := hrel
    have HN := Lib.hid hno
    clear hno
    by_cases hlt : k < xs.length
    · obtain ⟨ad, y, rfl, hc, hy⟩ := h.int hlt
      cases hp : (x == y)
      · go_wp2
        go_round
        case rel => exact ⟨k + 1, by omega, by go_num, fun j z hj hz => by
          by_cases e : j = k
          · subst e
            rw [hy.out] at hz
            cases hz
            simpa using hp
          · exact HN.out j z (by omega) hz⟩
        case measure => simp [intOf]; omega
      · have HE := Lib.hid (idxOf_yes (p := fun y => decide (x = y)) hy.out (by simpa using hp) HN.out)
        go_wp2
        go_ret
        exact ⟨ret_int HE.out.symm, rfl⟩
    · obtain rfl : k = xs.length := by omega
      have HE := Lib.hid (idxOf_no (p := fun y => decide (x = y)) HN.out)
      go_wp2
      go_ret
      exact ⟨ret_int HE.out.symm, rfl⟩
theorem f_Contains (v : Value) (xs : List Int) (x : Int) (w : World) (h : Rd w v (ints xs)) :
    Calls Try.prog 84 #[v, .int .i64 x] w fun e w' => e = .returned (.bool (decide (x ∈ xs))) ∧ w = w' := by
  have H := f_Index v xs x w h
  have HI : Hid (decide (0 ≤ idxOf (fun y => decide (x = y)) xs) = decide (x ∈ xs)) := by rw [Hid, idxOf_any, any_eq_mem]
  clear h
  generalize idxOf (fun y => decide (x = y)) xs = r at *
  go_enter Try.func84, Try.ntmps84
  go_wp2_with (go_at_call 90; refine H.mono ?_; rintro e w' ⟨rfl, rfl⟩)
  go_ret
  exact ⟨ret_bool (by rw [← HI.out]), rfl⟩

end Go.Proofs.Ytlbakbachcpifaa
