/- Walks: functions of the library's package slices, at ints. -/
import Derived.Test.YtdfjopcfgpigoaaNumWalks
namespace Go.Proofs.Ytdfjopcfgpigoaa
open Go.RowKit
set_option linter.unusedVariables false
set_option linter.unusedSimpArgs false

end Go.Proofs.Ytdfjopcfgpigoaa
