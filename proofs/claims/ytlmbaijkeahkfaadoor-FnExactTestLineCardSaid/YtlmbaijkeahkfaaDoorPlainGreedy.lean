/- Plain laws: greedy choices, sets of bits. -/
import Derived.IntWalk
import Derived.Laws.Bits64b
namespace Go.Proofs.YtlmbaijkeahkfaaDoor
set_option linter.unusedVariables false
set_option linter.unusedSimpArgs false

theorem ofInt_nat64 (a : Nat) (h : a < 18446744073709551616) : (BitVec.ofInt 64 (a : Int)).toNat = a := by
  rw [BitVec.ofInt_natCast, BitVec.toNat_ofNat]; exact Nat.mod_eq_of_lt (by omega)
theorem wrapN {x : Nat} (h : x < 9223372036854775808) : IntKind.i64.wrap (x : Int) = (x : Int) := IntWalk.i64_in _ (by omega)
theorem and_i64 (a b : Nat) (ha : a < 9223372036854775808) (hb : b < 9223372036854775808) : bits BinOp.and IntKind.i64 (a : Int) (b : Int) = ((a &&& b : Nat) : Int) := by
  have hx : a &&& b < 2 ^ 63 := Nat.and_lt_two_pow _ (by omega)
  show IntKind.i64.wrap ((BitVec.ofInt 64 (a : Int) &&& BitVec.ofInt 64 (b : Int)).toNat : Int) = _
  rw [BitVec.toNat_and, ofInt_nat64 a (by omega), ofInt_nat64 b (by omega)]
  exact wrapN (by omega)
theorem or_i64 (a b : Nat) (ha : a < 9223372036854775808) (hb : b < 9223372036854775808) : bits BinOp.or IntKind.i64 (a : Int) (b : Int) = ((a ||| b : Nat) : Int) := by
  have hx : a ||| b < 2 ^ 63 := Nat.or_lt_two_pow (by omega) (by omega)
  show IntKind.i64.wrap ((BitVec.ofInt 64 (a : Int) ||| BitVec.ofInt 64 (b : Int)).toNat : Int) = _
  rw [BitVec.toNat_or, ofInt_nat64 a (by omega), ofInt_nat64 b (by omega)]
  exact wrapN (by omega)
/-- a without b. -/
theorem andNot_i64 (a b : Nat) (ha : a < 9223372036854775808) (hb : b < 9223372036854775808) : ∃ c : Nat, bits BinOp.andNot IntKind.i64 (a : Int) (b : Int) = (c : Int) ∧ c < 9223372036854775808 ∧ ∀ j, c.testBit j = (a.testBit j && !b.testBit j) := by
  have hc : ∀ j, (BitVec.ofInt 64 (a : Int) &&& ~~~ BitVec.ofInt 64 (b : Int)).toNat.testBit j = (a.testBit j && !b.testBit j) := fun j => by
    have h1 : (BitVec.ofInt 64 (a : Int)).getLsbD j = a.testBit j := by rw [← BitVec.testBit_toNat, ofInt_nat64 a (by omega)]
    have h2 : (BitVec.ofInt 64 (b : Int)).getLsbD j = b.testBit j := by rw [← BitVec.testBit_toNat, ofInt_nat64 b (by omega)]
    rw [BitVec.testBit_toNat, BitVec.getLsbD_and, BitVec.getLsbD_not, h1, h2]
    by_cases hj : j < 64
    · simp [hj]
    · have : a.testBit j = false := Nat.testBit_lt_two_pow (Nat.lt_of_lt_of_le (show a < 2 ^ 63 by omega) (Nat.pow_le_pow_right (by decide) (by omega)))
      simp [this]
  have hlt : (BitVec.ofInt 64 (a : Int) &&& ~~~ BitVec.ofInt 64 (b : Int)).toNat < 9223372036854775808 := by
    have : (BitVec.ofInt 64 (a : Int) &&& ~~~ BitVec.ofInt 64 (b : Int)).toNat ≤ a := by
      rw [BitVec.toNat_and, ofInt_nat64 a (by omega)]
      exact Nat.and_le_left
    omega
  exact ⟨_, wrapN hlt, hlt, hc⟩

/-- How many of the first k bits are there. -/
def popK (m : Nat) : Nat → Nat
  | 0 => 0
  | k + 1 => popK m k + (if m.testBit k then 1 else 0)
theorem popK_le (m : Nat) : ∀ k, popK m k ≤ k
  | 0 => Nat.le_refl _
  | k + 1 => by have := popK_le m k; simp only [popK]; split <;> omega
theorem popK_half (m : Nat) : ∀ k, popK m (k + 1) = m % 2 + popK (m / 2) k
  | 0 => by
    simp only [popK, Nat.zero_add, Nat.add_zero, Nat.testBit_zero]
    rcases Nat.mod_two_eq_zero_or_one m with h | h <;> simp [h]
  | k + 1 => by
    rw [popK, popK_half m k]
    simp only [popK, Nat.testBit_succ]
    omega
theorem popK_top {m k : Nat} (h : m < 2 ^ k) : popK m (k + 1) = popK m k := by
  simp [popK, Nat.testBit_lt_two_pow h]
def popN (m : Nat) : Nat := popK m 62
theorem popN_half {m : Nat} (h : m < 2 ^ 62) : popN m = m % 2 + popN (m / 2) := by
  rw [popN, popN, ← popK_top h, popK_half]
theorem popN_zero : popN 0 = 0 := by decide
theorem popK_count (m : Nat) : ∀ k, popK m k = ((List.range k).filter m.testBit).length
  | 0 => rfl
  | k + 1 => by
    rw [List.range_succ, List.filter_append, List.length_append, popK, popK_count m k]
    cases h : m.testBit k <;> simp [h]
/-- The bits below n that p holds of. -/
def setB (p : Nat → Bool) : Nat → Nat
  | 0 => 0
  | n + 1 => if p n then setB p n ||| (1 <<< n) else setB p n
theorem setB_lt (p : Nat → Bool) : ∀ n, setB p n < 2 ^ n
  | 0 => by simp [setB]
  | n + 1 => by
    have ih := setB_lt p n
    have h2 : 2 ^ n < 2 ^ (n + 1) := Nat.pow_lt_pow_right (by decide) (by omega)
    simp only [setB]
    split
    · exact Nat.or_lt_two_pow (by omega) (by rw [Nat.one_shiftLeft]; exact h2)
    · omega
theorem setB_bit (p : Nat → Bool) (j : Nat) : ∀ n, (setB p n).testBit j = (decide (j < n) && p j)
  | 0 => by simp [setB]
  | n + 1 => by
    have ih := setB_bit p j n
    have h1 : (1 <<< n).testBit j = decide (j = n) := by
      rw [Nat.one_shiftLeft, Nat.testBit_two_pow, decide_eq_decide]
      exact eq_comm
    simp only [setB]
    by_cases e : j = n
    · subst e
      cases hp : p j <;> simp [hp, ih, h1]
    · have e2 : decide (j < n + 1) = decide (j < n) := by rw [decide_eq_decide]; omega
      cases hp : p n <;> simp [hp, ih, h1, e, e2]
theorem setB_all (n : Nat) : setB (fun _ => true) n = 2 ^ n - 1 := by
  apply Nat.eq_of_testBit_eq
  intro j
  rw [setB_bit, Nat.testBit_two_pow_sub_one]
  simp

/-! the greedy choice -/
section
variable (f : Nat → Nat → Bool)
def cntG (left : List Nat) (m : Nat) : Nat := (left.filter (f m)).length
/-- The first of the choices below m with the most, and how many these are. -/
def bestG (left : List Nat) : Nat → Nat × Nat
  | 0 => (0, 0)
  | m + 1 => if (bestG left m).2 < cntG f left m then (m, cntG f left m) else bestG left m
theorem bestG_cnt (left : List Nat) : ∀ m, (bestG f left m).2 ≠ 0 → (bestG f left m).2 = cntG f left (bestG f left m).1 ∧ (bestG f left m).1 < m
  | 0, h => absurd rfl h
  | m + 1, h => by
    simp only [bestG] at h ⊢
    split
    · exact ⟨rfl, Nat.lt_succ_self _⟩
    · rename_i hh
      rw [if_neg hh] at h
      have := bestG_cnt left m h
      exact ⟨this.1, by omega⟩
theorem bestG_le (left : List Nat) : ∀ m, (bestG f left m).2 ≤ left.length
  | 0 => Nat.zero_le _
  | m + 1 => by
    simp only [bestG]
    split
    · exact List.length_filter_le _ _
    · exact bestG_le left m
theorem filter_lens (left : List Nat) (p : Nat → Bool) : (left.filter p).length + (left.filter fun j => !p j).length = left.length := by
  induction left with
  | nil => rfl
  | cons x t ih => cases h : p x <;> simp [h] <;> omega
theorem greedy_lt {left : List Nat} {M : Nat} (h : (bestG f left M).2 ≠ 0) : (left.filter fun j => !f (bestG f left M).1 j).length < left.length := by
  have h1 := (bestG_cnt f left M h).1
  have h2 := filter_lens left (f (bestG f left M).1)
  unfold cntG at h1
  omega
def nextG (M : Nat) (left : List Nat) : List Nat := left.filter fun j => !f (bestG f left M).1 j
def greedyG (M : Nat) (left : List Nat) : List Int :=
  if h : (bestG f left M).2 = 0 then [] else ((bestG f left M).1 : Int) :: greedyG M (nextG f M left)
termination_by left.length
decreasing_by exact greedy_lt f h
theorem greedyG_end {M : Nat} {left : List Nat} (h : (bestG f left M).2 = 0) : greedyG f M left = [] := by rw [greedyG, dif_pos h]
theorem greedyG_step {M : Nat} {left : List Nat} (h : (bestG f left M).2 ≠ 0) : greedyG f M left = ((bestG f left M).1 : Int) :: greedyG f M (nextG f M left) := by rw [greedyG, dif_neg h]
theorem greedyG_len (M : Nat) : ∀ (n : Nat) (left : List Nat), left.length ≤ n → (greedyG f M left).length ≤ left.length ∧ ∀ x ∈ greedyG f M left, 0 ≤ x ∧ x < M
  | n, left, hn => by
    by_cases h : (bestG f left M).2 = 0
    · rw [greedyG_end f h]; exact ⟨Nat.zero_le _, fun x hx => by cases hx⟩
    · have h1 := greedy_lt f h
      have h2 := (bestG_cnt f left M h).2
      match n, hn with
      | 0, hn => omega
      | n + 1, hn =>
        have h3 : (nextG f M left).length < left.length := h1
        have ih := greedyG_len M n (nextG f M left) (by omega)
        rw [greedyG_step f h]
        refine ⟨by simp only [List.length_cons]; omega, fun x hx => ?_⟩
        rcases List.mem_cons.1 hx with rfl | hx
        · omega
        · exact ih.2 x hx
/-- The list of the bits of a set. -/
def bitsL (b n : Nat) : List Nat := (List.range n).filter b.testBit
theorem cnt_bits (b n m : Nat) (hn : n ≤ 62) (hb : b < 2 ^ n) : popN (setB (f m) n &&& b) = cntG f (bitsL b n) m := by
  have hx : setB (f m) n &&& b < 2 ^ n := Nat.and_lt_two_pow _ hb
  have : ∀ d, popK (setB (f m) n &&& b) (n + d) = popK (setB (f m) n &&& b) n := fun d => by
    induction d with
    | zero => rfl
    | succ d ih => rw [← Nat.add_assoc, popK_top (Nat.lt_of_lt_of_le hx (Nat.pow_le_pow_right (by decide) (by omega))), ih]
  have h1 := this (62 - n)
  rw [show n + (62 - n) = 62 by omega] at h1
  rw [popN, h1, popK_count, cntG, bitsL, List.filter_filter]
  congr 1
  apply List.filter_congr
  intro j hj
  simp only [List.mem_range] at hj
  rw [Nat.testBit_and, setB_bit]
  simp [hj]
theorem bitsL_without {b c n m : Nat} (h : ∀ j, c.testBit j = (b.testBit j && !(setB (f m) n).testBit j)) : bitsL c n = (bitsL b n).filter fun j => !f m j := by
  rw [bitsL, bitsL, List.filter_filter]
  apply List.filter_congr
  intro j hj
  simp only [List.mem_range] at hj
  rw [h, setB_bit]
  simp [hj, Bool.and_comm]
theorem bitsL_all (n : Nat) : bitsL (2 ^ n - 1) n = List.range n := by
  rw [bitsL, List.filter_eq_self]
  intro j hj
  simp only [List.mem_range] at hj
  rw [Nat.testBit_two_pow_sub_one]
  simpa using hj
theorem bitsL_bound {p : Nat → Bool} {c n : Nat} {b : Nat} (hb : b < 2 ^ n) (h : ∀ j, c.testBit j = (b.testBit j && !(setB p n).testBit j)) : c < 2 ^ n :=
  Nat.lt_pow_two_of_testBit _ fun j hj => by
    rw [h, Nat.testBit_lt_two_pow (Nat.lt_of_lt_of_le hb (Nat.pow_le_pow_right (by decide) hj))]
    rfl
end
/-- A fault's number is three times its comparator's and its kind. -/
def rowJ (j : Nat) : List Int := [((j / 3 : Nat) : Int), ((j % 3 : Nat) : Int)]

end Go.Proofs.YtlmbaijkeahkfaaDoor
