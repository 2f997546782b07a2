/- Joined texts of the proof: SpecLate. -/
import Derived.Deep.LoopGhost
import Derived.Deep.DeepCutAuto
import Derived.BigRegion
import Derived.Test.YtggblfnajeikjaaGreatDoorJ5
namespace Go.Proofs.YtggblfnajeikjaaGreatDoor
open Go.RowKit
set_option linter.unusedVariables false
set_option linter.unusedSimpArgs false
set_option maxRecDepth 100000
set_option maxHeartbeats 16000000
theorem ltK_nat (T:List Int) (y:Nat):ltK T (y:Int)=T.getD y 0:=by simp [ltK]
theorem getD_of {T:List Int} {k:Nat} {t:Int} (h:T[k]?=some t):T.getD k 0=t:=by rw [List.getD_eq_getElem?_getD,h];rfl
end Go.Proofs.YtggblfnajeikjaaGreatDoor
