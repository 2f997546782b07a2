/- Joined texts of the proof: PlainDigits. -/
namespace Go.Proofs.YtggblfnajeikjaaGreatDoor
set_option linter.unusedVariables false
set_option linter.unusedSimpArgs false

/-- Each number is at most the next one. -/
def adjB (ys : List Int) : Bool := (List.range (ys.length - 1)).all fun i => decide (ys.getD i 0 ≤ ys.getD (i + 1) 0)
theorem adjB_iff {ys : List Int} : adjB ys = true ↔ ∀ i a b, ys[i]? = some a → ys[i + 1]? = some b → a ≤ b := by
  simp only [adjB, List.all_eq_true, List.mem_range, decide_eq_true_eq]
  constructor
  · intro h i a b ha hb
    have h1 := (List.getElem?_eq_some_iff.1 hb).1
    have := h i (by omega)
    simpa [List.getD, ha, hb] using this
  · intro h i hi
    have h1 : i < ys.length := by omega
    have h2 : i + 1 < ys.length := by omega
    have := h i _ _ (List.getElem?_eq_getElem h1) (List.getElem?_eq_getElem h2)
    simpa [List.getD, h1, h2] using this
theorem adjB_no {ys : List Int} {i : Nat} {a b : Int} (ha : ys[i]? = some a) (hb : ys[i + 1]? = some b) (h : b < a) : adjB ys = false := by
  cases e : adjB ys
  · rfl
  · have := adjB_iff.1 e i a b ha hb
    omega

end Go.Proofs.YtggblfnajeikjaaGreatDoor
