/- Plain laws: blocks that change places, number by number. -/
import Derived.Test.YtdagkgkllgpeeaaDoorPlainMerge
namespace Go.Proofs.YtdagkgkllgpeeaaDoor
set_option linter.unusedVariables false
set_option linter.unusedSimpArgs false

def swp (xs : List Int) (i j : Nat) : List Int := (xs.set i (xs.getD j 0)).set j (xs.getD i 0)
theorem swp_length (xs : List Int) (i j : Nat) : (swp xs i j).length = xs.length := by simp [swp]
theorem swp_of {xs : List Int} {i j : Nat} {x y : Int} (hx : xs[i]? = some x) (hy : xs[j]? = some y) : swp xs i j = (xs.set i y).set j x := by
  simp [swp, List.getD_eq_getElem?_getD, hx, hy]
theorem swp_mem {xs : List Int} {i j : Nat} (hi : i < xs.length) (hj : j < xs.length) {z : Int} (h : z ∈ swp xs i j) : z ∈ xs := by
  rw [swp_of (List.getElem?_eq_getElem hi) (List.getElem?_eq_getElem hj)] at h
  rcases List.mem_or_eq_of_mem_set h with h | rfl
  · rcases List.mem_or_eq_of_mem_set h with h | rfl
    · exact h
    · exact List.getElem_mem _
  · exact List.getElem_mem _
theorem swp_blocks (P Y S : List Int) (x z : Int) : swp (P ++ (x :: (Y ++ (z :: S)))) P.length (P.length + 1 + Y.length) = P ++ (z :: (Y ++ (x :: S))) := by
  have h1 : (P ++ (x :: (Y ++ (z :: S))))[P.length]? = some x := by simp
  have h2 : (P ++ (x :: (Y ++ (z :: S))))[P.length + 1 + Y.length]? = some z := by
    rw [List.getElem?_append_right (by omega), show P.length + 1 + Y.length - P.length = Y.length + 1 by omega, List.getElem?_cons_succ, List.getElem?_append_right (by omega)]
    simp
  rw [swp_of h1 h2, List.set_append_right _ _ (Nat.le_refl _), List.set_append_right _ _ (by omega), show P.length + 1 + Y.length - P.length = Y.length + 1 by omega]
  simp
/-- cnt numbers from a on change places with those from b on. -/
def swapN (xs : List Int) (a b : Nat) : Nat → List Int
  | 0 => xs
  | c + 1 => swapN (swp xs a b) (a + 1) (b + 1) c
theorem swapN_blocks : ∀ (X Z P Y S : List Int), X.length = Z.length → swapN (P ++ (X ++ (Y ++ (Z ++ S)))) P.length (P.length + X.length + Y.length) X.length = P ++ (Z ++ (Y ++ (X ++ S)))
  | [], [], P, Y, S, _ => by simp [swapN]
  | [], z :: Z, P, Y, S, h => by simp at h
  | x :: X, [], P, Y, S, h => by simp at h
  | x :: X, z :: Z, P, Y, S, h => by
    have ih := swapN_blocks X Z (P ++ [z]) (Y ++ [x]) S (by simpa using h)
    have e := swp_blocks P (X ++ Y) (Z ++ S) x z
    have e1 : P ++ (x :: X ++ (Y ++ (z :: Z ++ S))) = P ++ (x :: ((X ++ Y) ++ (z :: (Z ++ S)))) := by simp
    have e2 : P.length + (x :: X).length + Y.length = P.length + 1 + (X ++ Y).length := by simp; omega
    rw [e1, e2, List.length_cons, swapN, e]
    have e3 : P ++ (z :: ((X ++ Y) ++ (x :: (Z ++ S)))) = P ++ [z] ++ (X ++ (Y ++ [x] ++ (Z ++ S))) := by simp
    have e4 : P.length + 1 + (X ++ Y).length + 1 = (P ++ [z]).length + X.length + (Y ++ [x]).length := by simp; omega
    have e5 : P.length + 1 = (P ++ [z]).length := by simp
    rw [e3, e4, e5, ih]
    simp
/-- Number k goes up by cnt places. -/
def upN (xs : List Int) (k : Nat) : Nat → List Int
  | 0 => xs
  | c + 1 => upN (swp xs k (k + 1)) (k + 1) c
theorem upN_blocks : ∀ (B P R : List Int) (x : Int), upN (P ++ (x :: (B ++ R))) P.length B.length = P ++ (B ++ (x :: R))
  | [], P, R, x => by simp [upN]
  | y :: B, P, R, x => by
    have ih := upN_blocks B (P ++ [y]) R x
    have e := swp_blocks P [] (B ++ R) x y
    simp only [List.nil_append, List.length_nil, Nat.add_zero] at e
    rw [List.length_cons, upN, List.cons_append, e]
    have e3 : P ++ (y :: (x :: (B ++ R))) = P ++ [y] ++ (x :: (B ++ R)) := by simp
    have e5 : P.length + 1 = (P ++ [y]).length := by simp
    rw [e3, e5, ih]
    simp
/-- Number k goes down by cnt places. -/
def downN (xs : List Int) (k : Nat) : Nat → List Int
  | 0 => xs
  | c + 1 => downN (swp xs k (k - 1)) (k - 1) c
theorem swp_comm {xs : List Int} {i j : Nat} (hi : i < xs.length) (hj : j < xs.length) (h : i ≠ j) : swp xs i j = swp xs j i := by
  have h1 := List.getElem?_eq_getElem hi
  have h2 := List.getElem?_eq_getElem hj
  rw [swp_of h1 h2, swp_of h2 h1, List.set_comm _ _ (by omega)]
theorem downN_blocks : ∀ (n : Nat) (A P R : List Int) (x : Int), A.length = n → downN (P ++ (A ++ (x :: R))) (P.length + n) n = P ++ (x :: (A ++ R))
  | 0, A, P, R, x, h => by
    have := List.eq_nil_of_length_eq_zero h
    subst this
    simp [downN]
  | n + 1, A, P, R, x, h => by
    obtain ⟨A', y, rfl⟩ : ∃ A' y, A = A' ++ [y] := ⟨A.dropLast, A.getLast (by intro e; simp [e] at h), (List.dropLast_concat_getLast _).symm⟩
    have hl : A'.length = n := by simpa using h
    have ih := downN_blocks n A' P (y :: R) x hl
    have e := swp_blocks (P ++ A') [] R y x
    simp only [List.nil_append, List.length_nil, Nat.add_zero, List.length_append, hl] at e
    have e1 : P ++ (A' ++ [y] ++ (x :: R)) = P ++ A' ++ (y :: (x :: R)) := by simp
    rw [downN, e1, show P.length + (n + 1) - 1 = P.length + n by omega, show P.length + (n + 1) = P.length + n + 1 by omega, swp_comm (by simp; omega) (by simp; omega) (by omega), e]
    have e2 : P ++ A' ++ (x :: (y :: R)) = P ++ (A' ++ (x :: (y :: R))) := by simp
    rw [e2, ih]
    simp
theorem sink_pre {key : Int → Int} (P : List Int) : ∀ (c : Nat) (ys : List Int), c < ys.length → ∀ y z : Int, ys[c]? = some y → 0 < c → ys[c - 1]? = some z → (P ++ ys)[P.length + c]? = some y ∧ (P ++ ys)[P.length + (c - 1)]? = some z := by
  intro c ys hc y z hy h0 hz
  constructor
  · rw [List.getElem?_append_right (by omega)]; simpa using hy
  · rw [List.getElem?_append_right (by omega)]; simpa using hz
theorem set_pre (P ys : List Int) (c : Nat) (y : Int) : (P ++ ys).set (P.length + c) y = P ++ ys.set c y := by
  rw [List.set_append_right _ _ (by omega)]
  simp
theorem get_pre (P ys : List Int) (c : Nat) : (P ++ ys)[P.length + c]? = ys[c]? := by
  rw [List.getElem?_append_right (by omega)]
  simp
/-- Of four blocks: the second and the third. -/
theorem get_A {P A B S : List Int} {c : Nat} (h1 : P.length ≤ c) (h2 : c < P.length + A.length) : (P ++ (A ++ (B ++ S)))[c]? = A[c - P.length]? := by
  rw [List.getElem?_append_right h1, List.getElem?_append_left (by omega)]
theorem get_B {P A B S : List Int} {c : Nat} (h1 : P.length + A.length ≤ c) (h2 : c < P.length + A.length + B.length) : (P ++ (A ++ (B ++ S)))[c]? = B[c - (P.length + A.length)]? := by
  rw [List.getElem?_append_right (by omega), List.getElem?_append_right (by omega), List.getElem?_append_left (by omega)]
  congr 1
  omega

/-- One number ahead of a sorted block, or behind it: where it goes. -/
theorem first_cut {key : Int → Int} {x : Int} {B : List Int} (hB : KAsc key B) (t : Nat) (ht : t ≤ B.length)
    (h1 : t = 0 ∨ ∃ y, B[t - 1]? = some y ∧ key y < key x) (h2 : t = B.length ∨ ∃ y, B[t]? = some y ∧ key x ≤ key y) : srtS key ([x] ++ B) = B.take t ++ x :: B.drop t := by
  have := srtS_first (key := key) (x := x) (B1 := B.take t) (B2 := B.drop t) (by rw [List.take_append_drop]; exact hB) (fun y hy => ?_) (fun y hy => ?_)
  · rwa [List.take_append_drop] at this
  · obtain ⟨i, hi, hyi⟩ := mem_take_get hy
    rcases h1 with h1 | ⟨z, hz, hk⟩
    · omega
    · have := asc_get hB hyi hz (by omega); omega
  · obtain ⟨i, hi, hyi⟩ := mem_drop_get hy
    have := (List.getElem?_eq_some_iff.1 hyi).1
    rcases h2 with h2 | ⟨z, hz, hk⟩
    · omega
    · have := asc_get hB hz hyi hi; omega
theorem last_cut {key : Int → Int} {x : Int} {A : List Int} (hA : KAsc key A) (t : Nat) (ht : t ≤ A.length)
    (h1 : t = 0 ∨ ∃ y, A[t - 1]? = some y ∧ key y ≤ key x) (h2 : t = A.length ∨ ∃ y, A[t]? = some y ∧ key x < key y) : srtS key (A ++ [x]) = A.take t ++ x :: A.drop t := by
  have := srtS_last (key := key) (x := x) (A1 := A.take t) (A2 := A.drop t) (by rw [List.take_append_drop]; exact hA) (fun y hy => ?_) (fun y hy => ?_)
  · rwa [List.take_append_drop] at this
  · obtain ⟨i, hi, hyi⟩ := mem_take_get hy
    rcases h1 with h1 | ⟨z, hz, hk⟩
    · omega
    · have := asc_get hA hyi hz (by omega); omega
  · obtain ⟨i, hi, hyi⟩ := mem_drop_get hy
    have := (List.getElem?_eq_some_iff.1 hyi).1
    rcases h2 with h2 | ⟨z, hz, hk⟩
    · omega
    · have := asc_get hA hz hyi hi; omega

end Go.Proofs.YtdagkgkllgpeeaaDoor
