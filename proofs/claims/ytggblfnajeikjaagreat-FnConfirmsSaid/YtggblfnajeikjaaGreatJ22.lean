/- Joined texts of the proof: FabB. -/
import Derived.WalkKit
import Derived.WalkSpells
import Derived.WalkLawsBesides
import Derived.Deep.Draws
import Derived.Lib.Hide
import Derived.RegionTactic
import Derived.Test.YtggblfnajeikjaaGreatRows
import Derived.BigQuiet
import Derived.Deep.QuietTactic
import Derived.Deep.RegionHeld3
import Derived.Deep.DeepCutAuto
import Derived.Deep.LoopGhost
import Derived.Lib.AppendZeros
import Derived.Test.YtggblfnajeikjaaGreatJ1
import Derived.Test.YtggblfnajeikjaaGreatJ4
import Derived.Test.YtggblfnajeikjaaGreatJ6
import Derived.Test.YtggblfnajeikjaaGreatJ8
import Derived.Test.YtggblfnajeikjaaGreatJ9
import Derived.Test.YtggblfnajeikjaaGreatJ12
import Derived.Test.YtggblfnajeikjaaGreatJ13
import Derived.Test.YtggblfnajeikjaaGreatJ17
namespace Go.Proofs.YtggblfnajeikjaaGreat
open Go.RowKit
set_option linter.unusedVariables false
set_option linter.unusedSimpArgs false

theorem OwnsL.of_heap {w w' : World} {E B : Nat} {L : List (Value × List Int)} (H : OwnsL w E B L) (e : w'.heap = w.heap) : OwnsL w' E B L := ⟨fun p hp => (H.own p hp).keep fun k _ _ => by rw [e], H.ap⟩

section
variable {w w' : World} {E F B : Nat} {L : List (Value × List Int)} {b : Addr} {n c k : Nat} {xs : List Int} {p0 p1 p2 p3 : Value × List Int}
end
section
variable {E EB B n h ca k : Nat} {ba bf bl bu bw bs : Addr} {A F L U W : List Int} {S : List Bool} {w0 w : World}
end
end Go.Proofs.YtggblfnajeikjaaGreat
