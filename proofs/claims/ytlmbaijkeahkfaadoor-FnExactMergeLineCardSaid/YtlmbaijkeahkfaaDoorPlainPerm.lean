/- Sorting gives a permutation, and the only one that rises: no program in sight. -/
import Derived.Test.YtlmbaijkeahkfaaDoorPlainSort
import Derived.Test.YtlmbaijkeahkfaaDoorPlainDigits
namespace Go.Proofs.YtlmbaijkeahkfaaDoor
set_option linter.unusedVariables false

theorem insR_perm (s : List Int) (x : Int) : (insR s x).Perm (x :: s) := by
  induction s with
  | nil => exact List.Perm.refl _
  | cons y t ih =>
    simp only [insR]
    split
    · exact (List.Perm.cons y ih).trans (List.Perm.swap x y t)
    · exact List.Perm.refl _
theorem sortR_perm (xs : List Int) : ∀ s : List Int, (xs.foldl insR s).Perm (xs ++ s) := by
  induction xs with
  | nil => intro s; exact List.Perm.refl _
  | cons x t ih =>
    intro s
    rw [List.foldl_cons]
    refine (ih _).trans ?_
    refine ((insR_perm s x).append_left t).trans ?_
    exact List.perm_middle
theorem srt_perm (xs : List Int) : (srt xs).Perm xs := by
  have := sortR_perm xs []
  rw [List.append_nil] at this
  exact (List.reverse_perm _).trans this
theorem srt_pair (xs : List Int) : (srt xs).Pairwise (· ≤ ·) := by
  have := srt_desc xs
  rw [Desc, List.pairwise_reverse] at this
  exact this
theorem srt_unique {xs ys : List Int} (hp : ys.Perm xs) (hs : ys.Pairwise (· ≤ ·)) : ys = srt xs :=
  List.Perm.eq_of_pairwise (fun a b _ _ h1 h2 => Int.le_antisymm h1 h2) hs (srt_pair xs) (hp.trans (srt_perm xs).symm)
theorem srt_congr {xs ys : List Int} (hp : ys.Perm xs) : srt ys = srt xs := srt_unique ((srt_perm ys).trans hp) (srt_pair ys)
theorem adjB_pair {ys : List Int} (h : ys.Pairwise (· ≤ ·)) : adjB ys = true :=
  adjB_iff.2 fun i a b ha hb => by
    obtain ⟨h1, rfl⟩ := List.getElem?_eq_some_iff.1 ha
    obtain ⟨h2, rfl⟩ := List.getElem?_eq_some_iff.1 hb
    exact List.pairwise_iff_getElem.1 h i (i + 1) h1 h2 (by omega)
theorem pair_of_adj {ys : List Int} (h : ∀ i a b, ys[i]? = some a → ys[i + 1]? = some b → a ≤ b) : ys.Pairwise (· ≤ ·) := by
  induction ys with
  | nil => exact List.Pairwise.nil
  | cons x t ih =>
    have iht := ih (fun i a b ha hb => h (i + 1) a b (by simpa using ha) (by simpa using hb))
    refine List.pairwise_cons.2 ⟨fun y hy => ?_, iht⟩
    cases t with
    | nil => cases hy
    | cons z u =>
      have hxz : x ≤ z := h 0 x z rfl rfl
      rcases List.mem_cons.1 hy with rfl | hy
      · exact hxz
      · exact Int.le_trans hxz ((List.pairwise_cons.1 iht).1 y hy)
theorem pair_adjB {ys : List Int} (h : adjB ys = true) : ys.Pairwise (· ≤ ·) := pair_of_adj (adjB_iff.1 h)

end Go.Proofs.YtlmbaijkeahkfaaDoor
