/- Plain laws: lists and digits; no program in sight. -/
namespace Go.Proofs.YtlmbaijkeahkfaaDoor
set_option linter.unusedVariables false
set_option linter.unusedSimpArgs false

theorem foldl_take_succ {α β : Type} (f : β → α → β) (a : β) (xs : List α) (k : Nat) (x : α) (h : xs[k]? = some x) : (xs.take (k + 1)).foldl f a = f ((xs.take k).foldl f a) x := by
  obtain ⟨hk, rfl⟩ := List.getElem?_eq_some_iff.1 h
  rw [List.take_succ_eq_append_getElem hk, List.foldl_append]
  rfl

/-- The number of digits of a number. -/
def ndig (b n : Nat) : Nat := if h : 2 ≤ b ∧ 0 < n then 1 + ndig b (n / b) else 0
termination_by n
decreasing_by exact Nat.div_lt_self h.2 (by omega)

theorem ndig_zero (b : Nat) : ndig b 0 = 0 := by rw [ndig]; simp
theorem ndig_pos {b n : Nat} (hb : 2 ≤ b) (hn : 0 < n) : ndig b n = 1 + ndig b (n / b) := by rw [ndig]; simp [hb, hn]
theorem ndig_mono {b : Nat} (hb : 2 ≤ b) : ∀ (n m : Nat), m ≤ n → ndig b m ≤ ndig b n := by
  intro n
  induction n using Nat.strongRecOn with
  | ind n ih =>
    intro m hm
    by_cases h0 : m = 0
    · subst h0; rw [ndig_zero]; omega
    · rw [ndig_pos hb (by omega), ndig_pos hb (show 0 < n by omega)]
      have := ih (n / b) (Nat.div_lt_self (by omega) (by omega)) (m / b) (Nat.div_le_div_right hm)
      omega
theorem ndig_max {b : Nat} (hb : 2 ≤ b) (m n : Nat) : ndig b (max m n) = max (ndig b m) (ndig b n) := by
  by_cases h : m ≤ n
  · rw [Nat.max_eq_right h, Nat.max_eq_right (ndig_mono hb _ _ h)]
  · rw [Nat.max_eq_left (by omega), Nat.max_eq_left (ndig_mono hb _ _ (by omega))]
theorem ndig_le {b : Nat} (hb : 2 ≤ b) : ∀ (k n : Nat), n < 2 ^ k → ndig b n ≤ k := by
  intro k
  induction k with
  | zero => intro n hn; obtain rfl : n = 0 := by omega
            rw [ndig_zero]; omega
  | succ k ih =>
    intro n hn
    by_cases h0 : n = 0
    · subst h0; rw [ndig_zero]; omega
    · rw [ndig_pos hb (by omega)]
      have : n / b ≤ n / 2 := Nat.div_le_div_left hb (by omega)
      have := ih (n / b) (by rw [Nat.pow_succ] at hn; omega)
      omega

def maxOf (xs : List Int) : Int := xs.foldl max 0
def maxDig (b : Nat) (xs : List Int) : Nat := xs.foldl (fun k x => max k (ndig b x.toNat)) 0

theorem maxOf_bd (xs : List Int) (h : ∀ x ∈ xs, 0 ≤ x ∧ x ≤ 999999) : 0 ≤ maxOf xs ∧ maxOf xs ≤ 999999 := by
  have : ∀ (l : List Int) (a : Int), 0 ≤ a → a ≤ 999999 → (∀ x ∈ l, 0 ≤ x ∧ x ≤ 999999) → 0 ≤ l.foldl max a ∧ l.foldl max a ≤ 999999 := by
    intro l
    induction l with
    | nil => intro a h1 h2 _; exact ⟨h1, h2⟩
    | cons x l ih =>
      intro a h1 h2 h3
      have hx := h3 x (by simp)
      exact ih (max a x) (by omega) (by omega) fun y hy => h3 y (by simp [hy])
  exact this xs 0 (by omega) (by omega) h
theorem maxDig_eq {b : Nat} (hb : 2 ≤ b) (xs : List Int) (h : ∀ x ∈ xs, 0 ≤ x) : maxDig b xs = ndig b (maxOf xs).toNat := by
  have : ∀ (l : List Int) (a : Int) (k : Nat), 0 ≤ a → k = ndig b a.toNat → (∀ x ∈ l, 0 ≤ x) → l.foldl (fun k x => max k (ndig b x.toNat)) k = ndig b (l.foldl max a).toNat := by
    intro l
    induction l with
    | nil => intro a k _ h1 _; exact h1
    | cons x l ih =>
      intro a k h0 h1 h2
      refine ih (max a x) _ (by omega) ?_ fun y hy => h2 y (by simp [hy])
      show max k (ndig b x.toNat) = _
      rw [h1, ← ndig_max hb]
      congr 1
      omega
  exact this xs 0 0 (by omega) (by simp [ndig_zero]) h

/-- Each number is at most the next one. -/
def adjB (ys : List Int) : Bool := (List.range (ys.length - 1)).all fun i => decide (ys.getD i 0 ≤ ys.getD (i + 1) 0)
theorem adjB_iff {ys : List Int} : adjB ys = true ↔ ∀ i a b, ys[i]? = some a → ys[i + 1]? = some b → a ≤ b := by
  simp only [adjB, List.all_eq_true, List.mem_range, decide_eq_true_eq]
  constructor
  · intro h i a b ha hb
    have h1 := (List.getElem?_eq_some_iff.1 hb).1
    have := h i (by omega)
    simpa [List.getD, ha, hb] using this
  · intro h i hi
    have h1 : i < ys.length := by omega
    have h2 : i + 1 < ys.length := by omega
    have := h i _ _ (List.getElem?_eq_getElem h1) (List.getElem?_eq_getElem h2)
    simpa [List.getD, h1, h2] using this
theorem adjB_no {ys : List Int} {i : Nat} {a b : Int} (ha : ys[i]? = some a) (hb : ys[i + 1]? = some b) (h : b < a) : adjB ys = false := by
  cases e : adjB ys
  · rfl
  · have := adjB_iff.1 e i a b ha hb
    omega

theorem sorted_bad {xs : List Int} {P m y r : Int} {n : Nat} (hy : xs[n]? = some y) (hr : r = y % P) (hm : ∀ y, 0 < n → xs[n - 1]? = some y → m = y % P) (hz : n = 0 → m = 0) (h0 : 0 ≤ r) (hlt : r < m) : adjB (xs.map fun x => x % P) = false := by
  rcases Nat.eq_zero_or_pos n with e | e
  · have := hz e; omega
  · have h1 := (List.getElem?_eq_some_iff.1 hy).1
    have h2 : xs[n - 1]? = some xs[n - 1] := List.getElem?_eq_getElem (by omega)
    have h3 := hm _ e h2
    refine adjB_no (i := n - 1) (a := xs[n - 1] % P) (b := y % P) (by rw [List.getElem?_map, h2]; rfl) (by rw [show n - 1 + 1 = n by omega, List.getElem?_map, hy]; rfl) (by omega)
theorem sorted_next {xs : List Int} {P m y r : Int} {n : Nat} (hy : xs[n]? = some y) (hr : r = y % P) (hm : ∀ y, 0 < n → xs[n - 1]? = some y → m = y % P) (hle : m ≤ r)
    (hN : ∀ (m : Nat) y z, m + 1 < n → xs[m]? = some y → xs[m + 1]? = some z → y % P ≤ z % P) : ∀ (m : Nat) y z, m + 1 < n + 1 → xs[m]? = some y → xs[m + 1]? = some z → y % P ≤ z % P := by
  intro k u z hk hu hz
  by_cases e : k + 1 = n
  · subst e
    rw [hy] at hz
    cases hz
    have := hm u (by omega) (by simpa using hu)
    omega
  · exact hN k u z (by omega) hu hz

def countsOf (key : Int → Int) (b : Nat) (xs : List Int) : List Int := (List.range b).map fun (v : Nat) => ((xs.filter fun x => key x == (v : Int)).length : Int)
theorem countsOf_length (key : Int → Int) (b : Nat) (xs : List Int) : (countsOf key b xs).length = b := by simp [countsOf]
theorem countsOf_get (key : Int → Int) (b : Nat) (xs : List Int) (v : Nat) (h : v < b) : (countsOf key b xs)[v]? = some ((xs.filter fun x => key x == (v : Int)).length : Int) := by simp [countsOf, h]
theorem countsOf_nil (key : Int → Int) (b : Nat) : countsOf key b [] = List.replicate b 0 := by
  apply List.ext_getElem?
  intro j
  by_cases h : j < b
  · rw [countsOf_get _ _ _ _ h]; simp [h]
  · rw [List.getElem?_eq_none (by rw [countsOf_length]; omega), List.getElem?_eq_none (by simp; omega)]
theorem countsOf_step (key : Int → Int) (b : Nat) (xs : List Int) (x : Int) (v : Nat) (hv : key x = (v : Int)) (h : v < b) :
    countsOf key b (xs ++ [x]) = (countsOf key b xs).set v (((xs.filter fun x => key x == (v : Int)).length : Int) + 1) := by
  apply List.ext_getElem?
  intro j
  rw [List.getElem?_set]
  by_cases hj : j < b
  · rw [countsOf_get _ _ _ _ hj, List.filter_append, List.length_append]
    by_cases e : v = j
    · subst e
      rw [if_pos rfl, if_pos (by rw [countsOf_length]; exact h)]
      simp [hv]
    · rw [if_neg e, countsOf_get _ _ _ _ hj]
      have : (key x == (j : Int)) = false := by rw [hv]; simp; omega
      simp [this]
  · rw [List.getElem?_eq_none (by rw [countsOf_length]; omega)]
    by_cases e : v = j
    · omega
    · rw [if_neg e, List.getElem?_eq_none (by rw [countsOf_length]; omega)]
theorem count_le (key : Int → Int) (xs : List Int) (v : Int) : (xs.filter fun x => key x == v).length ≤ xs.length := List.length_filter_le _ _
theorem take_snoc {α : Type} {xs : List α} {k : Nat} {x : α} (h : xs[k]? = some x) : xs.take (k + 1) = xs.take k ++ [x] := by
  obtain ⟨hk, rfl⟩ := List.getElem?_eq_some_iff.1 h
  exact List.take_succ_eq_append_getElem hk
theorem min_step {B b : Int} (hb : 1 ≤ b) : min (min B 16000000 * b) 16000000 = min (B * b) 16000000 := by
  by_cases e : B ≤ 16000000
  · have h : min B 16000000 = B := by omega
    rw [h]
  · have h : min B 16000000 = 16000000 := by omega
    have h1 : 16000000 * 1 ≤ 16000000 * b := Int.mul_le_mul_of_nonneg_left hb (by omega)
    have h2 : 16000000 * b ≤ B * b := Int.mul_le_mul_of_nonneg_right (by omega) (by omega)
    rw [h]
    omega
theorem ndig_int {b n : Int} (hb : 2 ≤ b) (hn : 0 < n) : ndig b.toNat n.toNat = 1 + ndig b.toNat (n / b).toNat := by
  obtain ⟨c, rfl⟩ := Int.eq_ofNat_of_zero_le (show 0 ≤ b by omega)
  obtain ⟨m, rfl⟩ := Int.eq_ofNat_of_zero_le (show 0 ≤ n by omega)
  have e : ((m : Int) / (c : Int)).toNat = m / c := by rw [← Int.natCast_ediv, Int.toNat_natCast]
  rw [e, Int.toNat_natCast, Int.toNat_natCast]
  exact ndig_pos (by omega) (by omega)
theorem ndig_20 {b n : Int} (hb : 2 ≤ b) (hn : n ≤ 999999) : ndig b.toNat n.toNat ≤ 20 := ndig_le (by omega) 20 _ (by omega)
theorem int_div_lt {n b : Int} (hb : 2 ≤ b) (hn : 0 < n) : 0 ≤ n / b ∧ n / b < n := by
  refine ⟨Int.ediv_nonneg (by omega) (by omega), Int.ediv_lt_of_lt_mul (by omega) ?_⟩
  have : n * 1 < n * b := Int.mul_lt_mul_of_pos_left (by omega) hn
  omega
end Go.Proofs.YtlmbaijkeahkfaaDoor
