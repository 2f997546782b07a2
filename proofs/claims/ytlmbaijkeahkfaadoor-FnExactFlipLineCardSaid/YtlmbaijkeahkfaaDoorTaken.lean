/- Walks: what is taken from lists. -/
import Derived.Test.YtlmbaijkeahkfaaDoorLosers
namespace Go.Proofs.YtlmbaijkeahkfaaDoor
open Go.RowKit
set_option linter.unusedVariables false
set_option linter.unusedSimpArgs false

end Go.Proofs.YtlmbaijkeahkfaaDoor
