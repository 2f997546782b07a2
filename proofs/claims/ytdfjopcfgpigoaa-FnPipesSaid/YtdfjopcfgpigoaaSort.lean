/- Walks: slices.Sort of at most twelve numbers; slices.Contains. -/
import Derived.Test.YtdfjopcfgpigoaaApp
import Derived.Test.YtdfjopcfgpigoaaPlainSort
namespace Go.Proofs.Ytdfjopcfgpigoaa
open Go.RowKit
set_option linter.unusedVariables false
set_option linter.unusedSimpArgs false

end Go.Proofs.Ytdfjopcfgpigoaa
