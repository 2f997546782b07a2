/- Joined texts of the proof: PlainDigits, PlainLosers. -/
namespace Go.Proofs.YtggblfnajeikjaaGreat
set_option linter.unusedVariables false
set_option linter.unusedSimpArgs false

theorem foldl_take_succ {α β : Type} (f : β → α → β) (a : β) (xs : List α) (k : Nat) (x : α) (h : xs[k]? = some x) : (xs.take (k + 1)).foldl f a = f ((xs.take k).foldl f a) x := by
  obtain ⟨hk, rfl⟩ := List.getElem?_eq_some_iff.1 h
  rw [List.take_succ_eq_append_getElem hk, List.foldl_append]
  rfl

/-- The number of digits of a number. -/
def ndig (b n : Nat) : Nat := if h : 2 ≤ b ∧ 0 < n then 1 + ndig b (n / b) else 0
termination_by n
decreasing_by exact Nat.div_lt_self h.2 (by omega)

theorem ndig_zero (b : Nat) : ndig b 0 = 0 := by rw [ndig]; simp
theorem ndig_pos {b n : Nat} (hb : 2 ≤ b) (hn : 0 < n) : ndig b n = 1 + ndig b (n / b) := by rw [ndig]; simp [hb, hn]
theorem ndig_mono {b : Nat} (hb : 2 ≤ b) : ∀ (n m : Nat), m ≤ n → ndig b m ≤ ndig b n := by
  intro n
  induction n using Nat.strongRecOn with
  | ind n ih =>
    intro m hm
    by_cases h0 : m = 0
    · subst h0; rw [ndig_zero]; omega
    · rw [ndig_pos hb (by omega), ndig_pos hb (show 0 < n by omega)]
      have := ih (n / b) (Nat.div_lt_self (by omega) (by omega)) (m / b) (Nat.div_le_div_right hm)
      omega
theorem ndig_max {b : Nat} (hb : 2 ≤ b) (m n : Nat) : ndig b (max m n) = max (ndig b m) (ndig b n) := by
  by_cases h : m ≤ n
  · rw [Nat.max_eq_right h, Nat.max_eq_right (ndig_mono hb _ _ h)]
  · rw [Nat.max_eq_left (by omega), Nat.max_eq_left (ndig_mono hb _ _ (by omega))]
theorem ndig_le {b : Nat} (hb : 2 ≤ b) : ∀ (k n : Nat), n < 2 ^ k → ndig b n ≤ k := by
  intro k
  induction k with
  | zero => intro n hn; obtain rfl : n = 0 := by omega
            rw [ndig_zero]; omega
  | succ k ih =>
    intro n hn
    by_cases h0 : n = 0
    · subst h0; rw [ndig_zero]; omega
    · rw [ndig_pos hb (by omega)]
      have : n / b ≤ n / 2 := Nat.div_le_div_left hb (by omega)
      have := ih (n / b) (by rw [Nat.pow_succ] at hn; omega)
      omega

def maxOf (xs : List Int) : Int := xs.foldl max 0
def maxDig (b : Nat) (xs : List Int) : Nat := xs.foldl (fun k x => max k (ndig b x.toNat)) 0

theorem maxDig_eq {b : Nat} (hb : 2 ≤ b) (xs : List Int) (h : ∀ x ∈ xs, 0 ≤ x) : maxDig b xs = ndig b (maxOf xs).toNat := by
  have : ∀ (l : List Int) (a : Int) (k : Nat), 0 ≤ a → k = ndig b a.toNat → (∀ x ∈ l, 0 ≤ x) → l.foldl (fun k x => max k (ndig b x.toNat)) k = ndig b (l.foldl max a).toNat := by
    intro l
    induction l with
    | nil => intro a k _ h1 _; exact h1
    | cons x l ih =>
      intro a k h0 h1 h2
      refine ih (max a x) _ (by omega) ?_ fun y hy => h2 y (by simp [hy])
      show max k (ndig b x.toNat) = _
      rw [h1, ← ndig_max hb]
      congr 1
      omega
  exact this xs 0 0 (by omega) (by simp [ndig_zero]) h

/-- Each number is at most the next one. -/
def adjB (ys : List Int) : Bool := (List.range (ys.length - 1)).all fun i => decide (ys.getD i 0 ≤ ys.getD (i + 1) 0)
theorem adjB_iff {ys : List Int} : adjB ys = true ↔ ∀ i a b, ys[i]? = some a → ys[i + 1]? = some b → a ≤ b := by
  simp only [adjB, List.all_eq_true, List.mem_range, decide_eq_true_eq]
  constructor
  · intro h i a b ha hb
    have h1 := (List.getElem?_eq_some_iff.1 hb).1
    have := h i (by omega)
    simpa [List.getD, ha, hb] using this
  · intro h i hi
    have h1 : i < ys.length := by omega
    have h2 : i + 1 < ys.length := by omega
    have := h i _ _ (List.getElem?_eq_getElem h1) (List.getElem?_eq_getElem h2)
    simpa [List.getD, h1, h2] using this
theorem adjB_no {ys : List Int} {i : Nat} {a b : Int} (ha : ys[i]? = some a) (hb : ys[i + 1]? = some b) (h : b < a) : adjB ys = false := by
  cases e : adjB ys
  · rfl
  · have := adjB_iff.1 e i a b ha hb
    omega

theorem ndig_int {b n : Int} (hb : 2 ≤ b) (hn : 0 < n) : ndig b.toNat n.toNat = 1 + ndig b.toNat (n / b).toNat := by
  obtain ⟨c, rfl⟩ := Int.eq_ofNat_of_zero_le (show 0 ≤ b by omega)
  obtain ⟨m, rfl⟩ := Int.eq_ofNat_of_zero_le (show 0 ≤ n by omega)
  have e : ((m : Int) / (c : Int)).toNat = m / c := by rw [← Int.natCast_ediv, Int.toNat_natCast]
  rw [e, Int.toNat_natCast, Int.toNat_natCast]
  exact ndig_pos (by omega) (by omega)
theorem ndig_20 {b n : Int} (hb : 2 ≤ b) (hn : n ≤ 999999) : ndig b.toNat n.toNat ≤ 20 := ndig_le (by omega) 20 _ (by omega)
theorem int_div_lt {n b : Int} (hb : 2 ≤ b) (hn : 0 < n) : 0 ≤ n / b ∧ n / b < n := by
  refine ⟨Int.ediv_nonneg (by omega) (by omega), Int.ediv_lt_of_lt_mul (by omega) ?_⟩
  have : n * 1 < n * b := Int.mul_lt_mul_of_pos_left (by omega) hn
  omega
end Go.Proofs.YtggblfnajeikjaaGreat

namespace Go.Proofs.YtggblfnajeikjaaGreat
set_option linter.unusedVariables false
set_option linter.unusedSimpArgs false

def rOf (p : Int) : Int := if p ≤ 1 then 0 else if p ≤ 2 then 1 else if p ≤ 4 then 2 else 3
end Go.Proofs.YtggblfnajeikjaaGreat
