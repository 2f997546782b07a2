/- Walks: small functions on integers. -/
import Derived.Test.YtnjdihbaofclbaaBase
namespace Go.Proofs.Ytnjdihbaofclbaa
open Go.RowKit
set_option linter.unusedVariables false
set_option linter.unusedSimpArgs false

/-- A test that answers whether a number lies between two others. -/
def inB (x lo hi : Int) : Bool := decide (lo ≤ x) && decide (x ≤ hi)
theorem inB_iff {x lo hi : Int} : inB x lo hi = true ↔ lo ≤ x ∧ x ≤ hi := by simp [inB]
theorem inB_no {x lo hi : Int} : inB x lo hi = false ↔ ¬ (lo ≤ x ∧ x ≤ hi) := by rw [← inB_iff]; simp

/-- Function f has a text of its own: a call enters it. -/
def Known (f : Nat) : Prop := ∀ (args : Array Value) (w : World), (callFunc f args).run Try.prog w = .ok (.enter f args) w
theorem known {f : Nat} {fn : Func} (hf : Try.prog.funcs[f]? = some fn) (hn : (fn.name == "runtime.NumGoroutine") = false) (hb : fn.body.isNone = false) : Known f := by
  intro args w
  have hn' : ¬ fn.name = "runtime.NumGoroutine" := by simpa using hn
  have hb' : ¬ fn.body = none := by intro e; rw [e] at hb; cases hb
  simp [callFunc, hf, hn', hb']

set_option maxHeartbeats 400000 in
theorem s_l01In (x lo hi : Int) (w : World) : Calls Try.prog 46 #[.int .i64 x, .int .i64 lo, .int .i64 hi] w fun e w' => e = .returned (.bool (inB x lo hi)) ∧ w = w' := by
  by_cases h : lo ≤ x
  · have h1 : decide (lo ≤ x) = true := by simpa using h
    go_enter Try.func46, Try.ntmps46
    go_wp2
    go_ret
    exact ⟨ret_bool (by simp [inB, h]; try omega), rfl⟩
  · have h1 : decide (lo ≤ x) = false := by simpa using h
    go_enter Try.func46, Try.ntmps46
    go_wp2
    go_ret
    exact ⟨ret_bool (by simp [inB, h]; try omega), rfl⟩

theorem i_isPlain (x : Int) (w : World) : Calls Try.prog 48 #[.int .i64 x] w fun e w' => e = .returned (.bool (inB x 0 999999)) ∧ w = w' := by
  by_cases h : 0 ≤ x
  · go_enter Try.func48, Try.ntmps48
    go_wp2
    go_ret
    exact ⟨ret_bool (by simp [inB, h]; try omega), rfl⟩
  · have h1 : decide (0 ≤ x) = false := by simpa using h
    go_enter Try.func48, Try.ntmps48
    go_wp2
    go_ret
    exact ⟨ret_bool (by simp [inB, h]; try omega), rfl⟩

theorem i_isDigitBase (x : Int) (w : World) : Calls Try.prog 49 #[.int .i64 x] w fun e w' => e = .returned (.bool (inB x 2 16)) ∧ w = w' := by
  by_cases h : 2 ≤ x
  · go_enter Try.func49, Try.ntmps49
    go_wp2
    go_ret
    exact ⟨ret_bool (by simp [inB, h]; try omega), rfl⟩
  · have h1 : decide (2 ≤ x) = false := by simpa using h
    go_enter Try.func49, Try.ntmps49
    go_wp2
    go_ret
    exact ⟨ret_bool (by simp [inB, h]; try omega), rfl⟩

theorem i_isPlace (x : Int) (w : World) : Calls Try.prog 50 #[.int .i64 x] w fun e w' => e = .returned (.bool (inB x 0 20)) ∧ w = w' := by
  by_cases h : 0 ≤ x
  · go_enter Try.func50, Try.ntmps50
    go_wp2
    go_ret
    exact ⟨ret_bool (by simp [inB, h]; try omega), rfl⟩
  · have h1 : decide (0 ≤ x) = false := by simpa using h
    go_enter Try.func50, Try.ntmps50
    go_wp2
    go_ret
    exact ⟨ret_bool (by simp [inB, h]; try omega), rfl⟩

theorem ediv_pow_succ (n b : Int) (k : Nat) (hb : 0 ≤ b) : n / b ^ (k + 1) = n / b ^ k / b := by
  rw [Int.pow_succ, Int.ediv_ediv_of_nonneg (Int.pow_nonneg hb)]
theorem ediv_pow_bd (n b : Int) (k : Nat) (hn : 0 ≤ n) (hb : 0 ≤ b) : 0 ≤ n / b ^ k ∧ n / b ^ k ≤ n := by
  have hp : 0 ≤ b ^ k := Int.pow_nonneg hb
  exact ⟨Int.ediv_nonneg hn hp, Int.ediv_le_self _ hn⟩
def dig (n b : Int) (d : Nat) : Int := n / b ^ d % b
theorem dig_bd (n b : Int) (d : Nat) (hb : 2 ≤ b) : 0 ≤ dig n b d ∧ dig n b d < b := ⟨Int.emod_nonneg _ (by omega), Int.emod_lt_of_pos _ (by omega)⟩

set_option maxHeartbeats 400000 in
theorem i_digit (n b : Int) (d : Int) (w : World) (hn : 0 ≤ n) (hn2 : n ≤ 999999) (hb : 2 ≤ b) (hb2 : b ≤ 16) (hd : 0 ≤ d) (hd2 : d ≤ 20) :
    Calls Try.prog 51 #[.int .i64 n, .int .i64 b, .int .i64 d] w fun e w' => e = .returned (.int .i64 (dig n b d.toNat)) ∧ w = w' := by
  obtain ⟨m, rfl⟩ := Int.eq_ofNat_of_zero_le hd
  rw [Int.toNat_natCast]
  go_enter Try.func51, Try.ntmps51
  go_wp2
  go_loop [0, 8] (fun v i => ∃ k : Nat, k ≤ m ∧ i = .int .i64 k ∧ v = .int .i64 (n / b ^ k)) (fun _ i => m - (intOf i).toNat)
  case atStart => exact ⟨0, Nat.zero_le _, rfl, by simp⟩
  case round =>
    obtain ⟨k, hk, rfl, rfl⟩ := hrel
    have hbd := ediv_pow_bd n b k hn (by omega)
    have hq : 0 ≤ n / b ^ k := hbd.1
    have hq2 : n / b ^ k ≤ 999999 := by omega
    have H := Lib.hid (ediv_pow_succ n b k (by omega))
    have HE : k = m → Hid (dig n b m = n / b ^ k % b) := fun e => by subst e; rfl
    generalize n / b ^ k = q at *
    clear hbd
    by_cases hlt : k < m
    · go_wp2
      go_round
      case rel => exact ⟨k + 1, by omega, by go_num, by rw [H.out]⟩
      case measure => simp [intOf]; omega
    · obtain rfl : k = m := by omega
      have HE' := HE rfl
      clear HE
      go_wp2
      go_ret
      exact ⟨ret_int HE'.out.symm, rfl⟩

set_option maxHeartbeats 400000 in
theorem s_l27Digit (n b : Int) (d : Int) (w : World) (hn : 0 ≤ n) (hn2 : n ≤ 999999) (hb : 2 ≤ b) (hb2 : b ≤ 16) (hd : 0 ≤ d) (hd2 : d ≤ 20) :
    Calls Try.prog 47 #[.int .i64 n, .int .i64 b, .int .i64 d] w fun e w' => e = .returned (.int .i64 (dig n b d.toNat)) ∧ w = w' := by
  obtain ⟨m, rfl⟩ := Int.eq_ofNat_of_zero_le hd
  rw [Int.toNat_natCast]
  go_enter Try.func47, Try.ntmps47
  go_wp2
  go_loop [0, 7] (fun v i => ∃ k : Nat, k ≤ m ∧ i = .int .i64 k ∧ v = .int .i64 (n / b ^ k)) (fun _ i => m - (intOf i).toNat)
  case atStart => exact ⟨0, Nat.zero_le _, rfl, by simp⟩
  case round =>
    obtain ⟨k, hk, rfl, rfl⟩ := hrel
    have hbd := ediv_pow_bd n b k hn (by omega)
    have hq : 0 ≤ n / b ^ k := hbd.1
    have hq2 : n / b ^ k ≤ 999999 := by omega
    have H := Lib.hid (ediv_pow_succ n b k (by omega))
    have HE : k = m → Hid (dig n b m = n / b ^ k % b) := fun e => by subst e; rfl
    generalize n / b ^ k = q at *
    clear hbd
    by_cases hlt : k < m
    · go_wp2
      go_round
      case rel => exact ⟨k + 1, by omega, by go_num, by rw [H.out]⟩
      case measure => simp [intOf]; omega
    · obtain rfl : k = m := by omega
      have HE' := HE rfl
      clear HE
      go_wp2
      go_ret
      exact ⟨ret_int HE'.out.symm, rfl⟩

def digitOf (n b d : Int) : Int := if inB n 0 999999 && inB b 2 16 && inB d 0 20 then dig n b d.toNat else -1

theorem i_DigitOf (n b d : Int) (w : World) : Calls Try.prog 17 #[.int .i64 n, .int .i64 b, .int .i64 d] w fun e w' => e = .returned (.int .i64 (digitOf n b d)) ∧ w = w' := by
  have H : Hid (digitOf n b d = if inB n 0 999999 && inB b 2 16 && inB d 0 20 then dig n b d.toNat else -1) := rfl
  cases h1 : inB n 0 999999
  · go_enter Try.func17, Try.ntmps17
    go_wp2_with (go_at_call 48; refine (i_isPlain _ _).mono ?_; rintro e w' ⟨rfl, rfl⟩)
    go_ret
    exact ⟨ret_int (by rw [H.out]; simp [h1]), rfl⟩
  cases h2 : inB b 2 16
  · go_enter Try.func17, Try.ntmps17
    go_wp2_with (first | (go_at_call 48; refine (i_isPlain _ _).mono ?_; rintro e w' ⟨rfl, rfl⟩) | (go_at_call 49; refine (i_isDigitBase _ _).mono ?_; rintro e w' ⟨rfl, rfl⟩))
    go_ret
    exact ⟨ret_int (by rw [H.out]; simp [h2]), rfl⟩
  cases h3 : inB d 0 20
  · go_enter Try.func17, Try.ntmps17
    go_wp2_with (first | (go_at_call 48; refine (i_isPlain _ _).mono ?_; rintro e w' ⟨rfl, rfl⟩) | (go_at_call 49; refine (i_isDigitBase _ _).mono ?_; rintro e w' ⟨rfl, rfl⟩) | (go_at_call 50; refine (i_isPlace _ _).mono ?_; rintro e w' ⟨rfl, rfl⟩))
    go_ret
    exact ⟨ret_int (by rw [H.out]; simp [h3]), rfl⟩
  · have a1 := inB_iff.1 h1
    have a2 := inB_iff.1 h2
    have a3 := inB_iff.1 h3
    go_enter Try.func17, Try.ntmps17
    go_wp2_with (first | (go_at_call 48; refine (i_isPlain _ _).mono ?_; rintro e w' ⟨rfl, rfl⟩) | (go_at_call 49; refine (i_isDigitBase _ _).mono ?_; rintro e w' ⟨rfl, rfl⟩) | (go_at_call 50; refine (i_isPlace _ _).mono ?_; rintro e w' ⟨rfl, rfl⟩) | (go_at_call 51; refine (i_digit _ _ _ _ a1.1 a1.2 a2.1 a2.2 a3.1 a3.2).mono ?_; rintro e w' ⟨rfl, rfl⟩))
    go_ret
    exact ⟨ret_int (by rw [H.out]; simp [h1, h2, h3]), rfl⟩

theorem s_DigitOf (n b d : Int) (w : World) : Calls Try.prog 16 #[.int .i64 n, .int .i64 b, .int .i64 d] w fun e w' => e = .returned (.int .i64 (digitOf n b d)) ∧ w = w' := by
  have H : Hid (digitOf n b d = if inB n 0 999999 && inB b 2 16 && inB d 0 20 then dig n b d.toNat else -1) := rfl
  cases h1 : inB n 0 999999
  · go_enter Try.func16, Try.ntmps16
    go_wp2_with (go_at_call 46; refine (s_l01In _ _ _ _).mono ?_; rintro e w' ⟨rfl, rfl⟩)
    go_ret
    exact ⟨ret_int (by rw [H.out]; simp [h1]), rfl⟩
  cases h2 : inB b 2 16
  · go_enter Try.func16, Try.ntmps16
    go_wp2_with (go_at_call 46; refine (s_l01In _ _ _ _).mono ?_; rintro e w' ⟨rfl, rfl⟩)
    go_ret
    exact ⟨ret_int (by rw [H.out]; simp [h2]), rfl⟩
  cases h3 : inB d 0 20
  · go_enter Try.func16, Try.ntmps16
    go_wp2_with (go_at_call 46; refine (s_l01In _ _ _ _).mono ?_; rintro e w' ⟨rfl, rfl⟩)
    go_ret
    exact ⟨ret_int (by rw [H.out]; simp [h3]), rfl⟩
  · have a1 := inB_iff.1 h1
    have a2 := inB_iff.1 h2
    have a3 := inB_iff.1 h3
    go_enter Try.func16, Try.ntmps16
    go_wp2_with (first | (go_at_call 46; refine (s_l01In _ _ _ _).mono ?_; rintro e w' ⟨rfl, rfl⟩) | (go_at_call 47; refine (s_l27Digit _ _ _ _ a1.1 a1.2 a2.1 a2.2 a3.1 a3.2).mono ?_; rintro e w' ⟨rfl, rfl⟩))
    go_ret
    exact ⟨ret_int (by rw [H.out]; simp [h1, h2, h3]), rfl⟩

theorem law_DigitOf (w : World) (n : Int) (_ : I64 n) (b : Int) (_ : I64 b) (d : Int) (_ : I64 d) : Calls Try.prog 4 #[.int .i64 n, .int .i64 b, .int .i64 d] w (Law w) := by
  go_enter Try.func4, Try.ntmps4
  go_wp2_with (first | (go_at_call 16; refine (s_DigitOf _ _ _ _).mono ?_; rintro e w' ⟨rfl, rfl⟩) | (go_at_call 17; refine (i_DigitOf _ _ _ _).mono ?_; rintro e w' ⟨rfl, rfl⟩))
  go_ret
  exact ⟨rfl, Below.refl _ _⟩

end Go.Proofs.Ytnjdihbaofclbaa
