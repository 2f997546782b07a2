/- Plain laws: ways through a tree of matches; no program in sight. -/
namespace Go.Proofs.YtlmbaijkeahkfaaDoor
set_option linter.unusedVariables false
set_option linter.unusedSimpArgs false

def pairUp : List Int → List Int
  | a :: b :: t => (a + b) :: pairUp t
  | [a] => [a]
  | [] => []
def sumI (xs : List Int) : Int := xs.foldr (· + ·) 0
def NonNeg (xs : List Int) : Prop := ∀ x ∈ xs, 0 ≤ x

theorem pairUp_length : ∀ xs : List Int, (pairUp xs).length = (xs.length + 1) / 2
  | [] => rfl
  | [a] => by simp [pairUp]
  | a :: b :: t => by have := pairUp_length t; simp only [pairUp, List.length_cons]; omega
theorem pairUp_sum : ∀ xs : List Int, sumI (pairUp xs) = sumI xs
  | [] => rfl
  | [a] => rfl
  | a :: b :: t => by have := pairUp_sum t; simp only [pairUp, sumI, List.foldr_cons] at this ⊢; omega
theorem pairUp_nonneg : ∀ xs : List Int, NonNeg xs → NonNeg (pairUp xs)
  | [], h => h
  | [a], h => h
  | a :: b :: t, h => by
    have h1 := pairUp_nonneg t fun x hx => h x (by simp [hx])
    have ha := h a (by simp)
    have hb := h b (by simp)
    intro x hx
    simp only [pairUp, List.mem_cons] at hx
    rcases hx with rfl | hx
    · omega
    · exact h1 x hx
theorem sumI_le {xs : List Int} (h : NonNeg xs) : ∀ x ∈ xs, x ≤ sumI xs := by
  induction xs with
  | nil => intro x hx; cases hx
  | cons a t ih =>
    intro x hx
    have ha := h a (by simp)
    have ht : NonNeg t := fun y hy => h y (by simp [hy])
    have hs : 0 ≤ sumI t := by
      clear ih hx h
      induction t with
      | nil => simp [sumI]
      | cons b u ih2 =>
        have := ih2 fun y hy => ht y (by simp [hy])
        have := ht b (by simp)
        simp only [sumI, List.foldr_cons] at *
        omega
    simp only [List.mem_cons] at hx
    simp only [sumI, List.foldr_cons] at hs ⊢
    rcases hx with rfl | hx
    · omega
    · have := ih ht x hx
      simp only [sumI] at this
      omega
theorem drop_two {xs : List Int} {i : Nat} {a b : Int} (ha : xs[i]? = some a) (hb : xs[i + 1]? = some b) : xs.drop i = a :: b :: xs.drop (i + 2) := by
  obtain ⟨h1, rfl⟩ := List.getElem?_eq_some_iff.1 ha
  obtain ⟨h2, rfl⟩ := List.getElem?_eq_some_iff.1 hb
  rw [List.drop_eq_getElem_cons h1, List.drop_eq_getElem_cons h2]
theorem drop_last {xs : List Int} {i : Nat} {a : Int} (ha : xs[i]? = some a) (hi : i + 1 = xs.length) : xs.drop i = [a] := by
  obtain ⟨h1, rfl⟩ := List.getElem?_eq_some_iff.1 ha
  rw [List.drop_eq_getElem_cons h1, List.drop_eq_nil_of_le (by omega)]

def wayF : Nat → List Int → Nat → List Int
  | 0, _, _ => []
  | f + 1, sizes, k => if sizes.length ≤ 1 then [] else (sizes[k ^^^ 1]?).toList ++ wayF f (pairUp sizes) (k / 2)
theorem wayF_end (f : Nat) (sizes : List Int) (k : Nat) (h : sizes.length ≤ 1) : wayF f sizes k = [] := by
  cases f <;> simp [wayF, h]
theorem wayF_step (f : Nat) (sizes : List Int) (k : Nat) (h : 1 < sizes.length) (hf : sizes.length ≤ f + 1) : ∃ f', f = f' + 1 ∧ (pairUp sizes).length ≤ f' + 1 ∧ wayF f sizes k = (sizes[k ^^^ 1]?).toList ++ wayF f' (pairUp sizes) (k / 2) := by
  obtain ⟨f', rfl⟩ : ∃ f', f = f' + 1 := ⟨f - 1, by omega⟩
  exact ⟨f', rfl, by rw [pairUp_length]; omega, by rw [wayF, if_neg (by omega)]⟩
/-- How many players could come to each match from the other side. -/
def wayOf (players k : Nat) : List Int := wayF players (List.replicate players 1) k
theorem xor_one : ∀ k : Nat, k ≤ 8 → k ^^^ 1 = if k % 2 = 1 then k - 1 else k + 1 := by decide
theorem sumI_ones (n : Nat) : sumI (List.replicate n 1) = n := by
  induction n with
  | zero => rfl
  | succ n ih => simp only [List.replicate_succ, sumI, List.foldr_cons] at ih ⊢; rw [ih]; omega

def rOf (p : Int) : Int := if p ≤ 1 then 0 else if p ≤ 2 then 1 else if p ≤ 4 then 2 else 3
end Go.Proofs.YtlmbaijkeahkfaaDoor
