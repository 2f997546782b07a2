/- Insertion sorts on lists: no program in sight. -/
import Derived.Lib.Hide
namespace Go.Proofs.YtlmbaijkeahkfaaDoor
set_option linter.unusedVariables false

/-- x goes in from the great end; the list stands with the greatest number first. -/
def insR : List Int → Int → List Int
  | [], x => [x]
  | y :: t, x => if x < y then y :: insR t x else x :: y :: t
def sortR (xs : List Int) : List Int := xs.foldl insR []
/-- The numbers in order. -/
def srt (xs : List Int) : List Int := (sortR xs).reverse

theorem insR_length (s : List Int) (x : Int) : (insR s x).length = s.length + 1 := by
  induction s with
  | nil => rfl
  | cons y t ih =>
    simp only [insR]
    split
    · simp only [List.length_cons, ih]
    · rfl
theorem insR_mem (s : List Int) (x y : Int) : y ∈ insR s x ↔ y = x ∨ y ∈ s := by
  induction s with
  | nil => simp [insR]
  | cons z t ih =>
    simp only [insR]
    split
    · simp only [List.mem_cons, ih]
      constructor
      · rintro (h | h | h) <;> simp [h]
      · rintro (h | h | h) <;> simp [h]
    · simp only [List.mem_cons]
def Desc (s : List Int) : Prop := s.Pairwise (fun a b => b ≤ a)
theorem insR_desc {s : List Int} (h : Desc s) (x : Int) : Desc (insR s x) := by
  induction s with
  | nil => simp [insR, Desc]
  | cons y t ih =>
    have h1 := List.pairwise_cons.1 h
    simp only [insR]
    split
    · rename_i hx
      refine List.pairwise_cons.2 ⟨fun a ha => ?_, ih h1.2⟩
      rcases (insR_mem t x a).1 ha with rfl | ha
      · omega
      · exact h1.1 a ha
    · rename_i hx
      refine List.pairwise_cons.2 ⟨fun a ha => ?_, h⟩
      rcases List.mem_cons.1 ha with rfl | ha
      · omega
      · have := h1.1 a ha; omega
theorem sortR_snoc (xs : List Int) (x : Int) : sortR (xs ++ [x]) = insR (sortR xs) x := by simp [sortR]
theorem sortR_desc (xs : List Int) : Desc (sortR xs) := by
  have : ∀ (s : List Int), Desc s → Desc (xs.foldl insR s) := by
    induction xs with
    | nil => intro s h; exact h
    | cons x t ih => intro s h; exact ih _ (insR_desc h x)
  exact this [] (by simp [Desc])
theorem foldl_length (xs : List Int) : ∀ s : List Int, (xs.foldl insR s).length = s.length + xs.length := by
  induction xs with
  | nil => intro s; rfl
  | cons x t ih => intro s; rw [List.foldl_cons, ih, insR_length, List.length_cons]; omega
theorem srt_length (xs : List Int) : (srt xs).length = xs.length := by
  simp only [srt, sortR, List.length_reverse, foldl_length, List.length_nil]; omega
theorem foldl_mem (xs : List Int) (y : Int) : ∀ s : List Int, y ∈ xs.foldl insR s ↔ y ∈ s ∨ y ∈ xs := by
  induction xs with
  | nil => intro s; simp
  | cons x t ih =>
    intro s
    rw [List.foldl_cons, ih, insR_mem, List.mem_cons]
    constructor
    · rintro ((h | h) | h) <;> simp [h]
    · rintro (h | h | h) <;> simp [h]
theorem srt_mem (xs : List Int) (y : Int) : y ∈ srt xs ↔ y ∈ xs := by
  simp only [srt, sortR, List.mem_reverse, foldl_mem, List.not_mem_nil, false_or]
/-- A list in order stays as it is. -/
theorem insR_top {s : List Int} {x : Int} (h : ∀ y ∈ s, y ≤ x) : insR s x = x :: s := by
  cases s with
  | nil => rfl
  | cons y t =>
    have := h y (List.mem_cons_self ..)
    simp only [insR]
    rw [if_neg (by omega)]
theorem foldl_asc (xs : List Int) : ∀ s : List Int, Desc (xs.reverse ++ s) → xs.foldl insR s = xs.reverse ++ s := by
  induction xs with
  | nil => intro s _; rfl
  | cons x t ih =>
    intro s h
    rw [List.reverse_cons, List.append_assoc, List.singleton_append] at h
    have h1 : Desc (x :: s) := (List.pairwise_append.1 h).2.1
    rw [List.foldl_cons, insR_top (List.pairwise_cons.1 h1).1, ih _ h, List.reverse_cons, List.append_assoc, List.singleton_append]
theorem srt_asc {b : List Int} (h : Desc b.reverse) : srt b = b := by
  have := foldl_asc b [] (by simpa using h)
  rw [List.append_nil] at this
  simp only [srt, sortR, this, List.reverse_reverse]
theorem srt_desc (xs : List Int) : Desc (srt xs).reverse := by
  rw [srt, List.reverse_reverse]
  exact sortR_desc xs
theorem srt_srt (xs : List Int) : srt (srt xs) = srt xs := srt_asc (srt_desc xs)
theorem sortR_srt (xs : List Int) : sortR (srt xs) = sortR xs := by
  have := congrArg List.reverse (srt_srt xs)
  simpa only [srt, List.reverse_reverse] using this
theorem srt_app (xs : List Int) (x : Int) : srt (srt xs ++ [x]) = srt (xs ++ [x]) := by
  simp only [srt, sortR_snoc]
  rw [← srt, sortR_srt]
theorem desc_tail {x : Int} {b : List Int} (h : Desc (x :: b).reverse) : Desc b.reverse := by
  rw [List.reverse_cons] at h
  exact (List.pairwise_append.1 h).1

/-- Number j sinks to its place among those before it. -/
def sink (ys : List Int) : Nat → List Int
  | 0 => ys
  | j + 1 => if ys.getD (j + 1) 0 < ys.getD j 0 then sink ((ys.set (j + 1) (ys.getD j 0)).set j (ys.getD (j + 1) 0)) j else ys
theorem sink_length (ys : List Int) (j : Nat) : (sink ys j).length = ys.length := by
  induction j generalizing ys with
  | zero => rfl
  | succ j ih =>
    simp only [sink]
    split
    · rw [ih]; simp
    · rfl
theorem sink_ins : ∀ (s : List Int) (x : Int) (rest : List Int), sink (s.reverse ++ x :: rest) s.length = (insR s x).reverse ++ rest
  | [], x, rest => rfl
  | y :: t, x, rest => by
    have e : (y :: t).reverse ++ x :: rest = t.reverse ++ y :: x :: rest := by simp
    have g0 : (t.reverse ++ y :: x :: rest).getD t.length 0 = y := by simp [List.getD_eq_getElem?_getD]
    have g1 : (t.reverse ++ y :: x :: rest).getD (t.length + 1) 0 = x := by
      rw [List.getD_eq_getElem?_getD, List.getElem?_append_right (by simp)]
      simp
    have g2 : ((t.reverse ++ y :: x :: rest).set (t.length + 1) y).set t.length x = t.reverse ++ x :: y :: rest := by
      rw [List.set_append_right _ _ (by simp), List.set_append_right _ _ (by simp)]
      simp
    rw [e, List.length_cons, sink, g0, g1, insR]
    split
    · rw [g2, sink_ins t x (y :: rest)]
      simp
    · simp
/-- The first k + 1 numbers are in order. -/
def srtK (xs : List Int) : Nat → List Int
  | 0 => xs
  | k + 1 => sink (srtK xs k) (k + 1)
theorem srtK_length (xs : List Int) (k : Nat) : (srtK xs k).length = xs.length := by
  induction k with
  | zero => rfl
  | succ k ih => rw [srtK, sink_length, ih]
theorem sortR_length (xs : List Int) : (sortR xs).length = xs.length := by
  have := srt_length xs
  simpa only [srt, List.length_reverse] using this
theorem srtK_eq (xs : List Int) : ∀ k, k < xs.length → srtK xs k = srt (xs.take (k + 1)) ++ xs.drop (k + 1)
  | 0, h => by
    cases xs with
    | nil => simp at h
    | cons x t => simp [srtK, srt, sortR, insR]
  | k + 1, h => by
    have ih := srtK_eq xs k (by omega)
    have hd : xs.drop (k + 1) = xs[k + 1] :: xs.drop (k + 1 + 1) := List.drop_eq_getElem_cons h
    have ht : xs.take (k + 1 + 1) = xs.take (k + 1) ++ [xs[k + 1]] := List.take_succ_eq_append_getElem h
    have hl : (sortR (xs.take (k + 1))).length = k + 1 := by rw [sortR_length, List.length_take]; omega
    have := sink_ins (sortR (xs.take (k + 1))) xs[k + 1] (xs.drop (k + 1 + 1))
    rw [hl] at this
    rw [srtK, ih, srt, hd, this, srt, ht, sortR_snoc]
theorem srtK_all {xs : List Int} {n : Nat} (h : xs.length = n) : srtK xs (n - 1) = srt xs := by
  by_cases h0 : n = 0
  · subst h0
    have : xs = [] := List.eq_nil_of_length_eq_zero h
    subst this
    rfl
  · rw [srtK_eq xs (n - 1) (by omega), show n - 1 + 1 = n by omega, ← h, List.take_length, List.drop_length, List.append_nil]

theorem insR_app {x : Int} {T : List Int} (hT : ∀ y, T.head? = some y → ¬ x < y) : ∀ R : List Int, (∀ y ∈ R, x < y) → insR (R ++ T) x = R ++ x :: T
  | [], _ => by
    cases T with
    | nil => rfl
    | cons y t => simp only [List.nil_append, insR]; rw [if_neg (hT y rfl)]
  | z :: R, h => by
    rw [List.cons_append, insR, if_pos (h z (List.mem_cons_self ..)), insR_app hT R (fun y hy => h y (List.mem_cons_of_mem _ hy)), List.cons_append]
theorem ins_at {s : List Int} {x : Int} {q : Nat} (hq : q ≤ s.length) (h1 : ∀ (j : Nat) y, q ≤ j → s[j]? = some y → x < y) (h2 : ∀ y, 0 < q → s[q - 1]? = some y → ¬ x < y) : (insR s.reverse x).reverse = s.take q ++ x :: s.drop q := by
  have e : s.reverse = (s.drop q).reverse ++ (s.take q).reverse := by rw [← List.reverse_append, List.take_append_drop]
  rw [e, insR_app]
  · simp
  · intro y hy
    rw [List.head?_reverse, List.getLast?_eq_getElem?, List.length_take, List.getElem?_take] at hy
    have hq0 : 0 < q := by
      by_cases h0 : q = 0
      · subst h0; simp at hy
      · omega
    rw [show min q s.length = q by omega, if_pos (by omega)] at hy
    exact h2 y hq0 hy
  · intro y hy
    rw [List.mem_reverse] at hy
    obtain ⟨j, hj, rfl⟩ := List.getElem_of_mem hy
    rw [List.getElem_drop]
    exact h1 (q + j) _ (by omega) (List.getElem?_eq_getElem _)
theorem srt_step {xs : List Int} {k : Nat} {x : Int} {q : Nat} (hx : xs[k]? = some x) (hq : q ≤ (srt (xs.take k)).length) (h1 : ∀ (j : Nat) y, q ≤ j → (srt (xs.take k))[j]? = some y → x < y) (h2 : ∀ y, 0 < q → (srt (xs.take k))[q - 1]? = some y → ¬ x < y) :
    srt (xs.take (k + 1)) = (srt (xs.take k)).take q ++ x :: (srt (xs.take k)).drop q := by
  obtain ⟨hk, rfl⟩ := List.getElem?_eq_some_iff.1 hx
  rw [← ins_at hq h1 h2, List.take_succ_eq_append_getElem hk]
  simp only [srt, sortR_snoc, List.reverse_reverse]

end Go.Proofs.YtlmbaijkeahkfaaDoor
