/- Walks: slices.Sort of at most twelve numbers; slices.Contains. -/
import Derived.Test.YtkidbnlebeaikaaApp
import Derived.Test.YtkidbnlebeaikaaPlainSort
namespace Go.Proofs.Ytkidbnlebeaikaa
open Go.RowKit
set_option linter.unusedVariables false
set_option linter.unusedSimpArgs false

end Go.Proofs.Ytkidbnlebeaikaa
