/- Joined texts of the proof: SpecLate. -/
import Derived.WalkKit
import Derived.WalkSpells
import Derived.WalkLawsBesides
import Derived.Deep.Draws
import Derived.Lib.Hide
import Derived.RegionTactic
import Derived.Test.YtggblfnajeikjaaGreatDoorRows
import Derived.BigQuiet
import Derived.Deep.QuietTactic
import Derived.Deep.DeepCutAuto
import Derived.Deep.LoopGhost
import Derived.BigRegion
import Derived.Test.YtggblfnajeikjaaGreatDoorJ1
import Derived.Test.YtggblfnajeikjaaGreatDoorJ2
import Derived.Test.YtggblfnajeikjaaGreatDoorJ6
import Derived.Test.YtggblfnajeikjaaGreatDoorJ7
namespace Go.Proofs.YtggblfnajeikjaaGreatDoor
open Go.RowKit
set_option linter.unusedVariables false
set_option linter.unusedSimpArgs false

theorem ltK_nat (T : List Int) (y : Nat) : ltK T (y : Int) = T.getD y 0 := by simp [ltK]
theorem getD_of {T : List Int} {k : Nat} {t : Int} (h : T[k]? = some t) : T.getD k 0 = t := by rw [List.getD_eq_getElem?_getD, h]; rfl
end Go.Proofs.YtggblfnajeikjaaGreatDoor
