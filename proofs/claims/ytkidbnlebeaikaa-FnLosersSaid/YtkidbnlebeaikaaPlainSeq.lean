/- Plain laws: numbers taken one after the other. -/
import Derived.Test.YtkidbnlebeaikaaPlainTree
namespace Go.Proofs.Ytkidbnlebeaikaa
set_option linter.unusedVariables false
set_option linter.unusedSimpArgs false

def bump (t : List Int) (a : Nat) : List Int := t.set a (t.getD a 0 + 1)
theorem bump_eq {t : List Int} {a : Nat} {n : Int} (h : t[a]? = some n) : bump t a = t.set a (n + 1) := by
  unfold bump
  rw [List.getD_eq_getElem?_getD, h]
  rfl
theorem bump_length (t : List Int) (a : Nat) : (bump t a).length = t.length := by simp [bump]

def rest : List (List Int) → List Int → Nat
  | xs :: xss, n :: t => (xs.length - n.toNat) + rest xss t
  | _, _ => 0
theorem rest_le : ∀ (xss : List (List Int)) (t : List Int), (∀ xs ∈ xss, xs.length ≤ 10) → rest xss t ≤ 10 * xss.length
  | [], t, h => by simp [rest]
  | xs :: xss, [], h => by simp [rest]
  | xs :: xss, n :: t, h => by
    have h1 := rest_le xss t fun y hy => h y (by simp [hy])
    have h2 := h xs (by simp)
    simp only [rest, List.length_cons]
    omega
theorem rest_bump : ∀ (xss : List (List Int)) (t : List Int) (a n : Nat) (xs : List Int), xss[a]? = some xs → t[a]? = some (n : Int) → n < xs.length → rest xss t = rest xss (t.set a ((n : Int) + 1)) + 1
  | [], t, a, n, xs, h1, h2, h3 => by simp at h1
  | ys :: xss, [], a, n, xs, h1, h2, h3 => by simp at h2
  | ys :: xss, m :: t, 0, n, xs, h1, h2, h3 => by
    simp only [List.getElem?_cons_zero, Option.some.injEq] at h1 h2
    subst h1 h2
    simp only [List.set_cons_zero, rest]
    omega
  | ys :: xss, m :: t, a + 1, n, xs, h1, h2, h3 => by
    simp only [List.getElem?_cons_succ] at h1 h2
    have := rest_bump xss t a n xs h1 h2 h3
    simp only [List.set_cons_succ, rest]
    omega

/-- the players of all numbers -/
def seqFrom (xss : List (List Int)) : Nat → List Int → List Int
  | 0, t => []
  | f + 1, t => if headOf xss t (winOf xss t) = none then [] else (winOf xss t : Int) :: seqFrom xss f (bump t (winOf xss t))
theorem seq_done {xss : List (List Int)} {t : List Int} (f : Nat) (h : headOf xss t (winOf xss t) = none) : seqFrom xss f t = [] := by
  cases f <;> simp [seqFrom, h]
theorem seq_step {xss : List (List Int)} {t : List Int} {f n : Nat} {xs : List Int} (hx : xss[winOf xss t]? = some xs) (ht : t[winOf xss t]? = some (n : Int)) (h : n < xs.length) (hr : rest xss t ≤ f) :
    ∃ f', f = f' + 1 ∧ rest xss (bump t (winOf xss t)) ≤ f' ∧ seqFrom xss f t = (winOf xss t : Int) :: seqFrom xss f' (bump t (winOf xss t)) := by
  have h1 := rest_bump xss t _ n xs hx ht h
  have h2 : headOf xss t (winOf xss t) ≠ none := by rw [headOf_some hx ht (List.getElem?_eq_getElem h)]; simp
  rw [bump_eq ht]
  cases f with
  | zero => omega
  | succ f => exact ⟨f, rfl, by omega, by rw [← bump_eq ht]; simp [seqFrom, h2]⟩
theorem seq_len {xss : List (List Int)} : ∀ (f : Nat) (t : List Int), (seqFrom xss f t).length ≤ f
  | 0, t => by simp [seqFrom]
  | f + 1, t => by
    have := seq_len (xss := xss) f (bump t (winOf xss t))
    simp only [seqFrom]
    split
    · simp
    · simp only [List.length_cons]; omega
/-- the numbers along a way of players -/
def numsAlong (xss : List (List Int)) : List Int → List Int → List Int
  | t, [] => []
  | t, w :: s => ((xss[w.toNat]?.getD []).getD (t.getD w.toNat 0).toNat 0) :: numsAlong xss (bump t w.toNat) s
theorem nums_len (xss : List (List Int)) : ∀ (t s : List Int), (numsAlong xss t s).length = s.length
  | t, [] => rfl
  | t, w :: s => by simp [numsAlong, nums_len xss _ s]
theorem nums_step {xss : List (List Int)} {t xs s : List Int} {a n : Nat} {y : Int} (hx : xss[a]? = some xs) (ht : t[a]? = some (n : Int)) (hy : xs[n]? = some y) : numsAlong xss t ((a : Int) :: s) = y :: numsAlong xss (bump t a) s := by
  simp only [numsAlong, Int.toNat_natCast]
  rw [hx, List.getD_eq_getElem?_getD, List.getD_eq_getElem?_getD, ht]
  simp [hy]

def zeros (n : Nat) : List Int := List.replicate n 0
def allFrom (xss : List (List Int)) : List Int := seqFrom xss 80 (zeros xss.length)
def allNums (xss : List (List Int)) : List Int := numsAlong xss (zeros xss.length) (allFrom xss)

end Go.Proofs.Ytkidbnlebeaikaa
