/- Joined texts of the proof: SymM. -/
import Derived.WalkKit
import Derived.WalkSpells
import Derived.WalkLawsBesides
import Derived.Deep.Draws
import Derived.Lib.Hide
import Derived.RegionTactic
import Derived.Test.YtggblfnajeikjaaGreatRows
import Derived.BigQuiet
import Derived.Deep.QuietTactic
import Derived.Deep.RegionHeld3
import Derived.BigRegion
import Derived.Test.YtggblfnajeikjaaGreatJ1
import Derived.Test.YtggblfnajeikjaaGreatJ2
import Derived.Test.YtggblfnajeikjaaGreatJ4
import Derived.Test.YtggblfnajeikjaaGreatJ6
import Derived.Test.YtggblfnajeikjaaGreatJ8
namespace Go.Proofs.YtggblfnajeikjaaGreat
open Go.RowKit
set_option linter.unusedVariables false
set_option linter.unusedSimpArgs false

/-- What the walk knows of a function that compares: where the world may have turned in one block alone, it answers by the keys. -/
def CmpOk (key : Int → Int) (p : Int → Prop) (fn : Nat) (cap : Array Value) (row : Option Nat) (w : World) : Prop :=
  ∀ (wx : World) (x y : Int), w.grownBy wx row → p x → p y → Calls Tryz.prog fn (#[.int .i64 x, .int .i64 y] ++ cap) wx (RetQ (.int .i64 (cmpV key x y)) wx)
theorem CmpOk.up {key : Int → Int} {p : Int → Prop} {fn : Nat} {cap : Array Value} {row : Option Nat} {w w' : World} (h : CmpOk key p fn cap row w) (hg : w.grownBy w' row) : CmpOk key p fn cap row w' :=
  fun wx x y h1 => h wx x y (grownBy_trans hg h1)
end Go.Proofs.YtggblfnajeikjaaGreat
