/- Plain: measures of disorder. -/
import Derived.Test.YtdagkgkllgpeeaaDoorLists
namespace Go.Proofs.YtdagkgkllgpeeaaDoor
set_option linter.unusedVariables false
set_option linter.unusedSimpArgs false

theorem getD_ok {T : List Int} {k : Nat} {t : Int} (h : T[k]? = some t) : T.getD k 0 = t := by rw [List.getD_eq_getElem?_getD, h]; rfl
theorem take_ok {xs : List Int} {k : Nat} {x : Int} (h : xs[k]? = some x) : xs.take (k + 1) = xs.take k ++ [x] := by rw [List.take_add_one, h]; rfl
theorem drop_ok {xs : List Int} {k : Nat} {x : Int} (h : xs[k]? = some x) : xs.drop k = x :: xs.drop (k + 1) := by
  obtain ⟨hk, rfl⟩ := List.getElem?_eq_some_iff.1 h
  exact List.drop_eq_getElem_cons hk
/-- Pairs that stand the wrong way round. -/
def invN : List Int → Nat
  | [] => 0
  | x :: xs => xs.countP (fun y => decide (y < x)) + invN xs
theorem invN_snoc (y : Int) : ∀ xs : List Int, invN (xs ++ [y]) = invN xs + xs.countP (fun z => decide (y < z))
  | [] => by simp [invN]
  | x :: xs => by
    simp only [List.cons_append, invN, List.countP_append, List.countP_cons, List.countP_nil, invN_snoc y xs]
    omega
theorem invN_le : ∀ xs : List Int, invN xs ≤ xs.length * xs.length
  | [] => by simp [invN]
  | x :: xs => by
    have h1 := invN_le xs
    have h2 := List.countP_le_length (p := fun y => decide (y < x)) (l := xs)
    simp only [invN, List.length_cons]
    rw [Nat.add_mul, Nat.mul_add]
    omega
def cntsL (xs : List Int) (k : Nat) : List Int := (List.range k).map fun i => (((xs.take i).countP (fun z => decide (xs.getD i 0 < z)) : Nat) : Int)
theorem cntsL_len (xs : List Int) (k : Nat) : (cntsL xs k).length = k := by simp [cntsL]
theorem cntsL_succ {xs : List Int} {k : Nat} {x : Int} (h : xs[k]? = some x) : cntsL xs (k + 1) = cntsL xs k ++ [(((xs.take k).countP (fun z => decide (x < z)) : Nat) : Int)] := by
  rw [cntsL, List.range_succ, List.map_append, List.map_cons, List.map_nil, getD_ok h]; rfl
theorem cntsL_get {xs : List Int} {n k : Nat} {v : Int} (hn : n = xs.length) (h : (cntsL xs n)[k]? = some v) : ∃ x : Int, xs[k]? = some x ∧ v = (((xs.take k).countP (fun z => decide (x < z)) : Nat) : Int) := by
  have hk : k < n := by have := (List.getElem?_eq_some_iff.1 h).1; rwa [cntsL_len] at this
  refine ⟨xs[k]'(by omega), List.getElem?_eq_getElem (by omega), ?_⟩
  simp only [cntsL, List.getElem?_map, List.getElem?_range hk, Option.map_some, Option.some.injEq] at h
  rw [getD_ok (List.getElem?_eq_getElem (show k < xs.length by omega))] at h
  exact h.symm
theorem invN_take {xs : List Int} {k : Nat} {x : Int} (h : xs[k]? = some x) : invN (xs.take (k + 1)) = invN (xs.take k) + (xs.take k).countP (fun z => decide (x < z)) := by rw [take_ok h, invN_snoc]
theorem countP_take {xs : List Int} {k : Nat} {x : Int} (p : Int → Bool) (h : xs[k]? = some x) : (xs.take (k + 1)).countP p = (xs.take k).countP p + (if p x = true then 1 else 0) := by
  rw [take_ok h, List.countP_append, List.countP_cons, List.countP_nil]; omega
/-- Runs that rise. -/
def runB (xs : List Int) (k : Nat) : Bool := decide (k = 0) || decide (xs.getD k 0 < xs.getD (k - 1) 0)
def runN (xs : List Int) : Nat → Nat
  | 0 => 0
  | k + 1 => runN xs k + (if runB xs k = true then 1 else 0)
theorem runN_le (xs : List Int) : ∀ k, runN xs k ≤ k
  | 0 => Nat.le_refl _
  | k + 1 => by
    have := runN_le xs k
    rw [runN]
    split <;> omega
theorem runN_pos (xs : List Int) : ∀ k, 1 ≤ runN xs (k + 1)
  | 0 => by simp [runN, runB]
  | k + 1 => by
    have := runN_pos xs k
    rw [runN]
    omega
/-- The longest that rise and end at each place. -/
def dpIn (xs L : List Int) (y : Int) : Nat → Int
  | 0 => 1
  | k + 1 => if xs.getD k 0 ≤ y then max (dpIn xs L y k) (L.getD k 0 + 1) else dpIn xs L y k
def dpL (xs : List Int) : Nat → List Int
  | 0 => []
  | i + 1 => dpL xs i ++ [dpIn xs (dpL xs i) (xs.getD i 0) i]
def dpB (xs : List Int) : Nat → Int
  | 0 => 0
  | i + 1 => max (dpB xs i) (dpIn xs (dpL xs i) (xs.getD i 0) i)
theorem dpL_len (xs : List Int) : ∀ i, (dpL xs i).length = i
  | 0 => rfl
  | i + 1 => by rw [dpL, List.length_append, dpL_len xs i]; rfl
theorem dpIn_bd {xs L : List Int} {y : Int} {m : Int} (hL : ∀ v ∈ L, v ≤ m) (hm : 0 ≤ m) : ∀ k, 1 ≤ dpIn xs L y k ∧ dpIn xs L y k ≤ m + 1
  | 0 => by simp [dpIn]; omega
  | k + 1 => by
    have h1 := dpIn_bd (xs := xs) (y := y) hL hm k
    have h2 : L.getD k 0 ≤ m := by
      rw [List.getD_eq_getElem?_getD]
      cases h : L[k]? with
      | none => simpa using hm
      | some v => exact hL v (List.mem_of_getElem? h)
    rw [dpIn]
    split <;> omega
theorem dpL_bd (xs : List Int) : ∀ i, ∀ v ∈ dpL xs i, v ≤ (i : Int)
  | 0 => by simp [dpL]
  | i + 1 => by
    intro v hv
    rw [dpL, List.mem_append, List.mem_singleton] at hv
    rcases hv with hv | rfl
    · have := dpL_bd xs i v hv; omega
    · have := (dpIn_bd (xs := xs) (y := xs.getD i 0) (dpL_bd xs i) (by omega) i).2
      omega
theorem dpB_bd (xs : List Int) : ∀ i, 0 ≤ dpB xs i ∧ dpB xs i ≤ (i : Int)
  | 0 => by simp [dpB]
  | i + 1 => by
    have h1 := dpB_bd xs i
    have h2 := dpIn_bd (xs := xs) (y := xs.getD i 0) (dpL_bd xs i) (by omega) i
    rw [dpB]
    omega
/-- How far a number has to go. -/
def farN (q : List Int) : Nat → Int
  | 0 => 0
  | k + 1 => max (farN q k) (max ((k : Int) - q.getD k 0) (q.getD k 0 - (k : Int)))
theorem farN_bd {q : List Int} {m : Int} (hq : ∀ v ∈ q, 0 ≤ v ∧ v < m) (hm : 0 ≤ m) : ∀ k : Nat, (k : Int) ≤ m → 0 ≤ farN q k ∧ farN q k ≤ m
  | 0, _ => by simp [farN]; exact hm
  | k + 1, hk => by
    have h1 := farN_bd hq hm k (by omega)
    have h2 : 0 ≤ q.getD k 0 ∧ q.getD k 0 ≤ m := by
      rw [List.getD_eq_getElem?_getD]
      cases h : q[k]? with
      | none => exact ⟨Int.le_refl _, hm⟩
      | some v => have := hq v (List.mem_of_getElem? h); exact ⟨this.1, by show v ≤ m; omega⟩
    rw [farN]
    omega

end Go.Proofs.YtdagkgkllgpeeaaDoor
