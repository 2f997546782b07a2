/- Walks: lists that rise; searches among rows. -/
import Derived.Test.YtlmbaijkeahkfaaDoorNumWalks
import Derived.Test.YtlmbaijkeahkfaaDoorPlainDigits
namespace Go.Proofs.YtlmbaijkeahkfaaDoor
open Go.RowKit
set_option linter.unusedVariables false
set_option linter.unusedSimpArgs false

set_option maxHeartbeats 400000 in
theorem s_l03Rises (v : Value) (xs : List Int) (w : World) (h : Rd w v (ints xs)) : Calls Tryd.prog 157 #[v] w (RetQ (.bool (adjB xs)) w) := by
  obtain ⟨a, c, rfl, h2, h3⟩ := h.formi
  go_enter Tryd.func157, Tryd.ntmps157
  go_wp2
  go_loopw [3] (fun i wr => ∃ n : Nat, n ≤ xs.length ∧ i = .int .i64 ((n : Int) + 1) ∧ Dr w wr ∧ Hid (∀ (m : Nat) y z, m < n → xs[m]? = some y → xs[m + 1]? = some z → y ≤ z)) (fun i _ => xs.length + 1 - (intOf i).toNat)
  case atStart => exact ⟨0, Nat.zero_le _, rfl, Dr.refl _, fun m _ _ hm => by omega⟩
  case round =>
    obtain ⟨n, hn, rfl, hdr, HN⟩ := hrel
    by_cases hlt : n + 1 < xs.length
    · obtain ⟨ad, y, rfl, hc3, hy⟩ := (h.dr hdr).int (show n < xs.length by omega)
      obtain ⟨ad2, z, had, hc4, hz⟩ := (h.dr hdr).int hlt
      obtain rfl : ad = ad2 := by injection had
      clear had
      rw [add_succ] at hc4
      have i1 : (n : Int) + 1 < (xs.length : Int) := by omega
      have i2 : (n : Int) < (xs.length : Int) := by omega
      have i3 : (0 : Int) ≤ (n : Int) := by omega
      have i4 : (0 : Int) ≤ (n : Int) + 1 := by omega
      have i5 : ((n : Int) + 1).toNat = n + 1 := by omega
      go_wp2
      go_quiet (fail)
      go_wp2
      · have hlt9 : z < y := by assumption
        go_ret
        exact ⟨ret_bool (adjB_no hy.out hz.out hlt9).symm, hdr.step _⟩
      · have hle9 : y ≤ z := by assumption
        go_roundw
        case rel => exact ⟨n + 1, by omega, by go_num, hdr.step _, fun m y' z' hm hy' hz' => by
          by_cases e : m = n
          · subst e
            rw [hy.out] at hy'
            rw [hz.out] at hz'
            cases hy'
            cases hz'
            exact hle9
          · exact HN.out m y' z' (by omega) hy' hz'⟩
        case measure => simp [intOf]; omega
    · go_wp2
      go_ret
      refine ⟨ret_bool (adjB_iff.2 fun m a b ha hb => ?_).symm, hdr⟩
      have hm := (List.getElem?_eq_some_iff.1 hb).1
      exact HN.out m a b (by omega) ha hb

theorem f_isNaN (x : Int) (w : World) : Calls Tryd.prog 189 #[.int .i64 x] w fun e w' => e = .returned (.bool false) ∧ w = w' := by
  go_enter Tryd.func189, Tryd.ntmps189
  go_wp2
  go_ret
  exact ⟨rfl, rfl⟩

theorem f_cmpLess (x y : Int) (w : World) : Calls Tryd.prog 175 #[.int .i64 x, .int .i64 y] w fun e w' => e = .returned (.bool (decide (x < y))) ∧ w = w' := by
  go_enter Tryd.func175, Tryd.ntmps175
  go_wp2_with (go_at_call 189; refine (f_isNaN _ _).mono ?_; rintro e w' ⟨rfl, rfl⟩)
  go_ret
  exact ⟨rfl, rfl⟩

end Go.Proofs.YtlmbaijkeahkfaaDoor
