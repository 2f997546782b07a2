/- Walks: slices.Sort of at most twelve numbers; slices.Contains. -/
import Derived.Test.YtnjdihbaofclbaaApp
import Derived.Test.YtnjdihbaofclbaaPlainSort
namespace Go.Proofs.Ytnjdihbaofclbaa
open Go.RowKit
set_option linter.unusedVariables false
set_option linter.unusedSimpArgs false

end Go.Proofs.Ytnjdihbaofclbaa
