/- Walks: trees of losers. -/
import Derived.Test.YtlmbaijkeahkfaaDoorLists
import Derived.Test.YtlmbaijkeahkfaaDoorPlainLosers
namespace Go.Proofs.YtlmbaijkeahkfaaDoor
open Go.RowKit
set_option linter.unusedVariables false
set_option linter.unusedSimpArgs false

end Go.Proofs.YtlmbaijkeahkfaaDoor
