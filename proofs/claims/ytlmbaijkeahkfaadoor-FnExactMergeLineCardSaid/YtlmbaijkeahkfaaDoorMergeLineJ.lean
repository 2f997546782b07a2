/- Walks: the line on lengths of runs, in the program. -/
import Derived.Test.YtlmbaijkeahkfaaDoorCheapI
namespace Go.Proofs.YtlmbaijkeahkfaaDoor
open Go.RowKit
set_option linter.unusedVariables false
set_option linter.unusedSimpArgs false

theorem i_CheapestMerge (v : Value) (xs : List Int) (w : World) (h : Rd w v (ints xs)) (hs : lensB xs = true) : Calls Tryd.prog 33 #[v] w (RetB (.int .i64 (cm xs)) w) := i_CheapestMergeOf i_cheapest v xs w h hs
theorem I_MergeLine (w : World) (v : Value) (xs : List Int) (h : Rd w v (ints xs)) (hi : I64s xs) (hl : xs.length ≤ 1048576) (ht : Tab w) : Calls Tryd.prog 11 #[v] w (RetB (.string (bstr (mergeLine xs))) w) := I_MergeLineOf i_CheapestMerge w v xs h hi hl ht

end Go.Proofs.YtlmbaijkeahkfaaDoor
