/- Walks: digits. -/
import Derived.Test.YtnjdihbaofclbaaSlicesWalks
namespace Go.Proofs.Ytnjdihbaofclbaa
open Go.RowKit
set_option linter.unusedVariables false
set_option linter.unusedSimpArgs false

def plainB (x : Int) : Bool := inB x 0 999999
def digitsOk (xs : List Int) (b : Int) : Bool := decide (xs.length ≤ 16) && inB b 2 16 && xs.all plainB
theorem digitsOk_iff {xs : List Int} {b : Int} : digitsOk xs b = true ↔ xs.length ≤ 16 ∧ (2 ≤ b ∧ b ≤ 16) ∧ ∀ x ∈ xs, 0 ≤ x ∧ x ≤ 999999 := by
  simp [digitsOk, plainB, inB_iff, and_assoc]

theorem k_DigitsOk1 : Known 53 := known Try.func53 (by kernel_rfl) (by kernel_rfl)
theorem i_DigitsOk1 (x : Int) (w : World) : Calls Try.prog 53 #[.int .i64 x] w fun e w' => e = .returned (.bool (!plainB x)) ∧ w = w' := by
  have H : Hid (plainB x = inB x 0 999999) := rfl
  go_enter Try.func53, Try.ntmps53
  go_wp2_with (go_at_call 48; refine (i_isPlain _ _).mono ?_; rintro e w' ⟨rfl, rfl⟩)
  go_ret
  exact ⟨ret_bool (by rw [H.out]), rfl⟩

set_option maxHeartbeats 400000 in
theorem i_DigitsOk (v : Value) (xs : List Int) (b : Int) (w : World) (h : Rd w v (ints xs)) :
    Calls Try.prog 20 #[v, .int .i64 b] w fun e w' => e = .returned (.bool (digitsOk xs b)) ∧ w = w' := by
  obtain ⟨a, c, rfl, h2, h3⟩ := h.formi
  have HF := f_ContainsFunc (fun x => !plainB x) 53 #[] k_DigitsOk1 _ xs w h (fun x _ => by simpa using i_DigitsOk1 x w)
  have HR : Hid (digitsOk xs b = (decide (xs.length ≤ 16) && inB b 2 16 && !(xs.any fun x => !plainB x))) := by
    show _ = _
    rw [List.not_any_eq_all_not]
    simp [digitsOk]
  generalize (xs.any fun x => !plainB x) = r at *
  by_cases h16 : xs.length ≤ 16
  · cases hb : inB b 2 16
    · go_enter Try.func20, Try.ntmps20
      go_wp2_with (go_at_call 49; refine (i_isDigitBase _ _).mono ?_; rintro e w' ⟨rfl, rfl⟩)
      go_ret
      exact ⟨ret_bool (by rw [HR.out]; simp [hb]), rfl⟩
    · go_enter Try.func20, Try.ntmps20
      go_wp2_with (first | (go_at_call 49; refine (i_isDigitBase _ _).mono ?_; rintro e w' ⟨rfl, rfl⟩) | (go_at_call 52; refine HF.mono ?_; rintro e w' ⟨rfl, rfl⟩))
      go_ret
      exact ⟨ret_bool (by rw [HR.out]; simp [hb, h16]), rfl⟩
  · have hd : decide ((xs.length : Int) ≤ 16) = false := by simp; omega
    go_enter Try.func20, Try.ntmps20
    go_wp2
    go_ret
    exact ⟨ret_bool (by rw [HR.out]; simp [h16]), rfl⟩

set_option maxHeartbeats 400000 in
theorem s_DigitsOk (v : Value) (xs : List Int) (b : Int) (w : World) (h : Rd w v (ints xs)) :
    Calls Try.prog 18 #[v, .int .i64 b] w fun e w' => e = .returned (.bool (digitsOk xs b)) ∧ w = w' := by
  obtain ⟨a, c, rfl, h2, h3⟩ := h.formi
  by_cases h16 : xs.length ≤ 16
  · have hd : decide ((xs.length : Int) > 16) = false := by simp; omega
    cases hb : inB b 2 16
    · go_enter Try.func18, Try.ntmps18
      go_wp2_with (go_at_call 46; refine (s_l01In _ _ _ _).mono ?_; rintro e w' ⟨rfl, rfl⟩)
      go_ret
      exact ⟨ret_bool (by simp [digitsOk, hb]), rfl⟩
    · go_enter Try.func18, Try.ntmps18
      go_wp2_with (go_at_call 46; refine (s_l01In _ _ _ _).mono ?_; rintro e w' ⟨rfl, rfl⟩)
      go_loop [17] (fun i => ∃ k : Nat, k ≤ xs.length ∧ i = .int .i64 k ∧ (∀ (j : Nat) x, j < k → xs[j]? = some x → inB x 0 999999 = true)) (fun i => xs.length - (intOf i).toNat)
      case atStart => exact ⟨0, Nat.zero_le _, rfl, fun j _ hj => by omega⟩
      case round =>
        obtain ⟨k, hk, rfl, hno⟩ := hrel
        have HN := Lib.hid hno
        clear hno
        by_cases hlt : k < xs.length
        · obtain ⟨ad, x, rfl, hc, hx⟩ := h.int hlt
          cases hp : inB x 0 999999
          · go_wp2_with (go_at_call 46; refine (s_l01In _ _ _ _).mono ?_; rintro e w' ⟨rfl, rfl⟩)
            go_ret
            refine ⟨ret_bool ?_, rfl⟩
            symm
            have hm := List.mem_of_getElem? hx.out
            simp only [digitsOk, Bool.and_eq_false_iff]
            right
            rw [List.all_eq_false]
            exact ⟨x, hm, by simp [plainB, hp]⟩
          · go_wp2_with (go_at_call 46; refine (s_l01In _ _ _ _).mono ?_; rintro e w' ⟨rfl, rfl⟩)
            go_round
            case rel => exact ⟨k + 1, by omega, by go_num, fun j y hj hy => by
              by_cases e : j = k
              · subst e
                rw [hx.out] at hy
                cases hy
                exact hp
              · exact HN.out j y (by omega) hy⟩
            case measure => simp [intOf]; omega
        · obtain rfl : k = xs.length := by omega
          go_wp2
          go_ret
          refine ⟨ret_bool ?_, rfl⟩
          symm
          simp only [digitsOk, h16, hb, decide_true, Bool.true_and, List.all_eq_true]
          intro x hx
          obtain ⟨j, hj, rfl⟩ := List.getElem_of_mem hx
          exact HN.out j _ hj (List.getElem?_eq_getElem hj)
  · have hd : decide ((xs.length : Int) > 16) = true := by simp; omega
    go_enter Try.func18, Try.ntmps18
    go_wp2
    go_ret
    exact ⟨ret_bool (by simp [digitsOk, h16]), rfl⟩

set_option maxHeartbeats 400000 in
theorem law_DigitsOk (w : World) (v : Value) (xs : List Int) (h : Rd w v (ints xs)) (_ : I64s xs) (b : Int) (_ : I64 b) : Calls Try.prog 5 #[v, .int .i64 b] w (Law w) := by
  obtain ⟨a, c, rfl, h2, h3⟩ := h.formi
  by_cases hl : xs.length ≤ 1048576
  · have hd : decide ((xs.length : Int) > 1048576) = false := by simp; omega
    go_enter Try.func5, Try.ntmps5
    go_wp2_with fail
    refine (toIntS_c _ xs _ h (by omega)).mono ?_
    rintro e w1 ⟨v1, rfl, o1, b1⟩
    go_wp2_with fail
    refine (s_DigitsOk _ xs _ _ o1.rd).mono ?_
    rintro e w' ⟨rfl, rfl⟩
    go_wp2_with fail
    refine (toIntS_c _ xs _ (h.below b1) (by omega)).mono ?_
    rintro e w2 ⟨v2, rfl, o2, b2⟩
    go_wp2_with fail
    refine (i_DigitsOk _ xs _ _ o2.rd).mono ?_
    rintro e w' ⟨rfl, rfl⟩
    go_wp2_with fail
    have b2' := b1.trans (b2.mono b1.size)
    refine (toIntS_c _ xs _ (h.below b2') (by omega)).mono ?_
    rintro e w3 ⟨v3, rfl, o3, b3⟩
    go_wp2_with fail
    refine (eqIntS_c _ _ xs xs _ (o2.below b3).rd o3.rd).mono ?_
    rintro e w4 ⟨rfl, d4⟩
    rw [eqI_self]
    go_wp2_with fail
    go_ret
    exact ⟨rfl, (b2'.trans (b3.mono (by have := b1.size; have := b2.size; omega))).trans (d4.below _)⟩
  · have hd : decide ((xs.length : Int) > 1048576) = true := by simp; omega
    go_enter Try.func5, Try.ntmps5
    go_wp2
    go_ret
    exact ⟨rfl, Below.refl _ _⟩

end Go.Proofs.Ytnjdihbaofclbaa
