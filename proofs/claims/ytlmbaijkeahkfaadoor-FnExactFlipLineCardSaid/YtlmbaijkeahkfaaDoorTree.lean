/- Walks: matches. -/
import Derived.Test.YtlmbaijkeahkfaaDoorTaken
import Derived.Test.YtlmbaijkeahkfaaDoorPlainTree
import Derived.Deep.RegionHeld3
namespace Go.Proofs.YtlmbaijkeahkfaaDoor
open Go.RowKit
set_option linter.unusedVariables false
set_option linter.unusedSimpArgs false

end Go.Proofs.YtlmbaijkeahkfaaDoor
