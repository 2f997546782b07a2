/- Words for memory: one row of a slice of slices turns. -/
import Derived.Test.YtlmbaijkeahkfaaDoorApp
namespace Go.Proofs.YtlmbaijkeahkfaaDoor
open Go.RowKit
set_option linter.unusedVariables false
set_option linter.unusedSimpArgs false

theorem RowsOwn.set {w w2 : World} {E B T T' j : Nat} {rows : List Value} {r r' : Value} {xss : List (List Int)} {ys : List Int} (h : RowsOwn w E B T rows xss) (hr : rows[j]? = some r) (hg : w.grownBy w2 r.ownBlock) (ho : Own w2 E B r' (ints ys)) (hT : T ≤ T')
    (hat : ∀ g, r'.ownBlock = some g → r.ownBlock = some g ∨ T ≤ g) (hT' : ∀ g, r'.ownBlock = some g → g < T') : RowsOwn w2 E B T' (rows.set j r') (xss.set j ys) := by
  have hj := (List.getElem?_eq_some_iff.1 hr).1
  refine ⟨by simp [h.1], fun i s hs => ?_, fun i k s t hik hs ht g hg2 => ?_⟩
  · rw [List.getElem?_set] at hs
    by_cases e : j = i
    · subst e
      rw [if_pos rfl, if_pos hj] at hs
      cases hs
      exact ⟨ys, by rw [List.getElem?_set, if_pos rfl, if_pos (by rw [← h.1]; exact hj)], ho, hT'⟩
    · rw [if_neg e] at hs
      obtain ⟨xs, h1, h2, h3⟩ := h.2.1 i s hs
      refine ⟨xs, by rw [List.getElem?_set, if_neg e]; exact h1, h2.apart hg fun g hg2 e2 => ?_, fun g hg2 => Nat.lt_of_lt_of_le (h3 g hg2) hT⟩
      rcases Nat.lt_or_gt_of_ne e with e3 | e3
      · exact h.2.2 j i r s e3 hr hs g e2 hg2
      · exact h.2.2 i j s r e3 hs hr g hg2 e2
  · rw [List.getElem?_set] at hs ht
    by_cases e : j = i
    · subst e
      rw [if_pos rfl, if_pos hj] at hs
      cases hs
      rw [if_neg (by omega)] at ht
      intro e2
      obtain ⟨_, _, _, h3⟩ := h.2.1 k t ht
      rcases hat g hg2 with e3 | e3
      · exact h.2.2 j k r t hik hr ht g e3 e2
      · have := h3 g e2; omega
    · rw [if_neg e] at hs
      by_cases e4 : j = k
      · subst e4
        rw [if_pos rfl, if_pos hj] at ht
        cases ht
        intro e2
        obtain ⟨_, _, _, h3⟩ := h.2.1 i s hs
        rcases hat g e2 with e3 | e3
        · exact h.2.2 i j s r hik hs hr g hg2 e3
        · have := h3 g hg2; omega
      · rw [if_neg e4] at ht
        exact h.2.2 i k s t hik hs ht g hg2

end Go.Proofs.YtlmbaijkeahkfaaDoor
