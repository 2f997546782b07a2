/- Joined texts of the proof: OutLate. -/
import Derived.WalkKit
import Derived.WalkSpells
import Derived.WalkLawsBesides
import Derived.Deep.Draws
import Derived.Lib.Hide
import Derived.RegionTactic
import Derived.Test.YtggblfnajeikjaaGreatRows
import Derived.BigQuiet
import Derived.Deep.QuietTactic
import Derived.Deep.RegionHeld3
import Derived.Deep.DeepCutAuto
import Derived.Deep.LoopGhost
import Derived.BigRegion
import Derived.Test.YtggblfnajeikjaaGreatJ1
import Derived.Test.YtggblfnajeikjaaGreatJ2
import Derived.Test.YtggblfnajeikjaaGreatJ4
import Derived.Test.YtggblfnajeikjaaGreatJ6
import Derived.Test.YtggblfnajeikjaaGreatJ8
import Derived.Test.YtggblfnajeikjaaGreatJ15
import Derived.Test.YtggblfnajeikjaaGreatJ18
namespace Go.Proofs.YtggblfnajeikjaaGreat
open Go.RowKit
set_option linter.unusedVariables false
set_option linter.unusedSimpArgs false

section
variable {w w' : World} {E B : Nat} {L L1 L2 : List (Value × List Int)}
theorem OwnsL.setBox {F g off : Nat} {cur : Array Value} (h : OwnsL w E B L) (hb : w.heap[g]? = some (.cells cur F (0, 0))) (hne : F ≠ E) (u : Value) : OwnsL (w.setCell ⟨g, off, none⟩ u) E B L :=
  ⟨fun p hp => (h.own p hp).setCell (own_ne_box (h.own p hp) hb hne) u, h.ap⟩
theorem OwnsL.o5 {p0 p1 p2 p3 p4 p5 : Value × List Int} (h : OwnsL w E B (p0 :: p1 :: p2 :: p3 :: p4 :: p5 :: L)) : Own w E B p5.1 (ints p5.2) := h.own p5 (by simp)
end

end Go.Proofs.YtggblfnajeikjaaGreat
