/- Walks: lists that rise; searches among rows. -/
import Derived.Test.YtnjdihbaofclbaaNumWalks
import Derived.Test.YtnjdihbaofclbaaPlainDigits
namespace Go.Proofs.Ytnjdihbaofclbaa
open Go.RowKit
set_option linter.unusedVariables false
set_option linter.unusedSimpArgs false

theorem f_isNaN (x : Int) (w : World) : Calls Try.prog 72 #[.int .i64 x] w fun e w' => e = .returned (.bool false) ∧ w = w' := by
  go_enter Try.func72, Try.ntmps72
  go_wp2
  go_ret
  exact ⟨rfl, rfl⟩

end Go.Proofs.Ytnjdihbaofclbaa
