/- Walks: the reference's sort. -/
import Derived.Test.YtdfjopcfgpigoaaSort
namespace Go.Proofs.Ytdfjopcfgpigoaa
open Go.RowKit
set_option linter.unusedVariables false
set_option linter.unusedSimpArgs false

end Go.Proofs.Ytdfjopcfgpigoaa
