/- A stable insertion sort by a key, and the same numbers key by key: no program in sight. -/
import Derived.Lib.Hide
namespace Go.Proofs.YtdagkgkllgpeeaaDoor
set_option linter.unusedVariables false

section
variable (key : Int → Int)
/-- x goes in from the great end, behind its equals; the list stands with the greatest key first. -/
def insK : List Int → Int → List Int
  | [], x => [x]
  | y :: t, x => if key x < key y then y :: insK t x else x :: y :: t
def sortK (xs : List Int) : List Int := xs.foldl (insK key) []
def srtS (xs : List Int) : List Int := (sortK key xs).reverse
theorem insK_length (s : List Int) (x : Int) : (insK key s x).length = s.length + 1 := by
  induction s with
  | nil => rfl
  | cons y t ih =>
    simp only [insK]
    split
    · simp only [List.length_cons, ih]
    · rfl
theorem sortK_snoc (xs : List Int) (x : Int) : sortK key (xs ++ [x]) = insK key (sortK key xs) x := by simp [sortK]
theorem foldlK_length (xs : List Int) : ∀ s : List Int, (xs.foldl (insK key) s).length = s.length + xs.length := by
  induction xs with
  | nil => intro s; rfl
  | cons x t ih => intro s; rw [List.foldl_cons, ih, insK_length, List.length_cons]; omega
theorem sortK_length (xs : List Int) : (sortK key xs).length = xs.length := by simp [sortK, foldlK_length]
theorem srtS_length (xs : List Int) : (srtS key xs).length = xs.length := by simp [srtS, sortK_length]

/-- Number j sinks to its place among those before it. -/
def sinkK (ys : List Int) : Nat → List Int
  | 0 => ys
  | j + 1 => if key (ys.getD (j + 1) 0) < key (ys.getD j 0) then sinkK ((ys.set (j + 1) (ys.getD j 0)).set j (ys.getD (j + 1) 0)) j else ys
theorem sinkK_length (ys : List Int) (j : Nat) : (sinkK key ys j).length = ys.length := by
  induction j generalizing ys with
  | zero => rfl
  | succ j ih =>
    simp only [sinkK]
    split
    · rw [ih]; simp
    · rfl
theorem sinkK_ins : ∀ (s : List Int) (x : Int) (rest : List Int), sinkK key (s.reverse ++ x :: rest) s.length = (insK key s x).reverse ++ rest
  | [], x, rest => rfl
  | y :: t, x, rest => by
    have e : (y :: t).reverse ++ x :: rest = t.reverse ++ y :: x :: rest := by simp
    have g0 : (t.reverse ++ y :: x :: rest).getD t.length 0 = y := by simp [List.getD_eq_getElem?_getD]
    have g1 : (t.reverse ++ y :: x :: rest).getD (t.length + 1) 0 = x := by
      rw [List.getD_eq_getElem?_getD, List.getElem?_append_right (by simp)]
      simp
    have g2 : ((t.reverse ++ y :: x :: rest).set (t.length + 1) y).set t.length x = t.reverse ++ x :: y :: rest := by
      rw [List.set_append_right _ _ (by simp), List.set_append_right _ _ (by simp)]
      simp
    rw [e, List.length_cons, sinkK, g0, g1, insK]
    split
    · rw [g2, sinkK_ins t x (y :: rest)]
      simp
    · simp
/-- The first k + 1 numbers are in order. -/
def srtKK (xs : List Int) : Nat → List Int
  | 0 => xs
  | k + 1 => sinkK key (srtKK xs k) (k + 1)
theorem srtKK_length (xs : List Int) (k : Nat) : (srtKK key xs k).length = xs.length := by
  induction k with
  | zero => rfl
  | succ k ih => rw [srtKK, sinkK_length, ih]
theorem srtKK_eq (xs : List Int) : ∀ k, k < xs.length → srtKK key xs k = srtS key (xs.take (k + 1)) ++ xs.drop (k + 1)
  | 0, h => by
    cases xs with
    | nil => simp at h
    | cons x t => simp [srtKK, srtS, sortK, insK]
  | k + 1, h => by
    have ih := srtKK_eq xs k (by omega)
    have hd : xs.drop (k + 1) = xs[k + 1] :: xs.drop (k + 1 + 1) := List.drop_eq_getElem_cons h
    have ht : xs.take (k + 1 + 1) = xs.take (k + 1) ++ [xs[k + 1]] := List.take_succ_eq_append_getElem h
    have hl : (sortK key (xs.take (k + 1))).length = k + 1 := by rw [sortK_length, List.length_take]; omega
    have := sinkK_ins key (sortK key (xs.take (k + 1))) xs[k + 1] (xs.drop (k + 1 + 1))
    rw [hl] at this
    rw [srtKK, ih, srtS, hd, this, srtS, ht, sortK_snoc]
theorem srtKK_all {xs : List Int} {n : Nat} (h : xs.length = n) : srtKK key xs (n - 1) = srtS key xs := by
  by_cases h0 : n = 0
  · subst h0
    have : xs = [] := List.eq_nil_of_length_eq_zero h
    subst this
    rfl
  · rw [srtKK_eq key xs (n - 1) (by omega), show n - 1 + 1 = n by omega, ← h, List.take_length, List.drop_length, List.append_nil]
theorem insK_app {x : Int} {T : List Int} (hT : ∀ y, T.head? = some y → ¬ key x < key y) : ∀ R : List Int, (∀ y ∈ R, key x < key y) → insK key (R ++ T) x = R ++ x :: T
  | [], _ => by
    cases T with
    | nil => rfl
    | cons y t => simp only [List.nil_append, insK]; rw [if_neg (hT y rfl)]
  | z :: R, h => by
    rw [List.cons_append, insK, if_pos (h z (List.mem_cons_self ..)), insK_app hT R (fun y hy => h y (List.mem_cons_of_mem _ hy)), List.cons_append]
/-- The numbers key by key, the keys below b. -/
def byKey (xs : List Int) : Nat → List Int
  | 0 => []
  | v + 1 => byKey xs v ++ xs.filter (fun x => decide (key x = (v : Int)))
theorem byKey_mem (xs : List Int) : ∀ (b : Nat) (y : Int), y ∈ byKey key xs b → key y < (b : Int)
  | 0, y, h => by simp [byKey] at h
  | v + 1, y, h => by
    rw [byKey, List.mem_append] at h
    rcases h with h | h
    · have := byKey_mem xs v y h; omega
    · rw [List.mem_filter] at h
      have := of_decide_eq_true h.2
      omega
/-- The rest: keys from v up to b. -/
theorem byKey_split (xs : List Int) (v : Nat) : ∀ d : Nat, ∃ R, byKey key xs (v + d) = byKey key xs v ++ R ∧ ∀ y ∈ R, (v : Int) ≤ key y
  | 0 => ⟨[], by simp, fun y h => by cases h⟩
  | d + 1 => by
    obtain ⟨R, h1, h2⟩ := byKey_split xs v d
    refine ⟨R ++ xs.filter (fun x => decide (key x = ((v + d : Nat) : Int))), ?_, fun y hy => ?_⟩
    · rw [← Nat.add_assoc, byKey, h1, List.append_assoc]
    · rcases List.mem_append.1 hy with hy | hy
      · exact h2 y hy
      · rw [List.mem_filter] at hy
        have := of_decide_eq_true hy.2
        omega
theorem byKey_snoc_lo (xs : List Int) (x : Int) : ∀ b : Nat, (b : Int) ≤ key x → byKey key (xs ++ [x]) b = byKey key xs b
  | 0, _ => rfl
  | v + 1, h => by
    rw [byKey, byKey, byKey_snoc_lo xs x v (by omega), List.filter_append]
    have : ¬ key x = (v : Int) := by omega
    simp [this]
theorem byKey_snoc (xs : List Int) (x : Int) (k : Nat) (hk : key x = (k : Int)) : ∀ d : Nat, ∃ R, (∀ y ∈ R, key x < key y) ∧ byKey key xs (k + 1 + d) = byKey key xs (k + 1) ++ R ∧ byKey key (xs ++ [x]) (k + 1 + d) = byKey key xs (k + 1) ++ x :: R
  | 0 => by
    refine ⟨[], (fun y h => by cases h), by simp, ?_⟩
    rw [Nat.add_zero, byKey, byKey, byKey_snoc_lo key xs x k (by omega), List.filter_append]
    simp [hk]
  | d + 1 => by
    obtain ⟨R, h0, h1, h2⟩ := byKey_snoc xs x k hk d
    refine ⟨R ++ xs.filter (fun x => decide (key x = ((k + 1 + d : Nat) : Int))), fun y hy => ?_, ?_, ?_⟩
    · rcases List.mem_append.1 hy with hy | hy
      · exact h0 y hy
      · rw [List.mem_filter] at hy
        have := of_decide_eq_true hy.2
        omega
    · rw [← Nat.add_assoc, byKey, h1, List.append_assoc]
    · rw [← Nat.add_assoc, byKey, h2, List.filter_append]
      have : ¬ key x = ((k + 1 + d : Nat) : Int) := by omega
      have e : [x].filter (fun x => decide (key x = ((k + 1 + d : Nat) : Int))) = [] := by rw [List.filter_cons, if_neg (by simpa using this)]; rfl
      rw [e, List.append_nil, List.append_assoc, List.cons_append]
theorem srtS_byKey {xs : List Int} {b : Nat} (h : ∀ x ∈ xs, 0 ≤ key x ∧ key x < (b : Int)) : srtS key xs = byKey key xs b := by
  have : ∀ n, n ≤ xs.length → srtS key (xs.take n) = byKey key (xs.take n) b := by
    intro n
    induction n with
    | zero =>
      intro _
      have e : ∀ v, byKey key [] v = [] := by
        intro v
        induction v with
        | zero => rfl
        | succ v ih => simp [byKey, ih]
      simp [srtS, sortK, e]
    | succ n ih =>
      intro hn
      have hx := h xs[n] (List.getElem_mem _)
      rw [List.take_succ_eq_append_getElem (by omega)]
      obtain ⟨k, hk⟩ : ∃ k : Nat, key xs[n] = (k : Int) := ⟨(key xs[n]).toNat, by omega⟩
      obtain ⟨d, hd⟩ : ∃ d, b = k + 1 + d := ⟨b - (k + 1), by omega⟩
      obtain ⟨R, h0, h1, h2⟩ := byKey_snoc key (xs.take n) xs[n] k hk d
      rw [hd, h2, srtS, sortK_snoc]
      have e : sortK key (xs.take n) = R.reverse ++ (byKey key (xs.take n) (k + 1)).reverse := by
        have := congrArg List.reverse (ih (by omega))
        rw [srtS, List.reverse_reverse, hd, h1, List.reverse_append] at this
        exact this
      rw [e, insK_app]
      · simp
      · intro y hy
        rw [List.head?_reverse] at hy
        have := byKey_mem key _ _ y (List.mem_of_getLast? hy)
        omega
      · intro y hy
        exact h0 y (List.mem_reverse.1 hy)
  have := this xs.length (Nat.le_refl _)
  rwa [List.take_length] at this
end

end Go.Proofs.YtdagkgkllgpeeaaDoor
