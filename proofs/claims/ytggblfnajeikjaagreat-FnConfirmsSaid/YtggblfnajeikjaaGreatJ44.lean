/- Joined texts of the proof: ConfV. -/
import Derived.WalkKit
import Derived.WalkSpells
import Derived.WalkLawsBesides
import Derived.Deep.Draws
import Derived.Lib.Hide
import Derived.RegionTactic
import Derived.Lib.SmallJoins
import Derived.Test.YtggblfnajeikjaaGreatRows
import Derived.BigQuiet
import Derived.Deep.QuietTactic
import Derived.Deep.RegionHeld3
import Derived.Deep.DeepCutAuto
import Derived.Deep.LoopGhost
import Derived.IntWalk
import Derived.Laws.BitsAllLaws
import Derived.Laws.BitsLemmas
import Derived.Deep.RegionLaw
import Derived.Lib.AppendZeros
import Derived.Lib.LazyBuf
import Derived.Lib.ItoaNum
import Derived.Deep.RegionWith
import Derived.Maps.OwnOps
import Derived.Maps.OwnSet
import Derived.Maps.Views
import Derived.Carry
import Derived.Shelf.Strconv.Itoa0
import Derived.Shelf.Sort.Plain
import Derived.Shelf.Slices.Reverse
import Derived.Ground.Names2Prog
import Derived.Shelf.Slices.CompactI
import Derived.Test.YtggblfnajeikjaaGreatProg
import Derived.Lib.RowBridge
import Derived.Sort.OwnSortedInts
import Derived.BigRegion
import Derived.Lib.Join
import Derived.Lib.SliceRun
import Derived.Deep.AppendLies
import Derived.Test.YtggblfnajeikjaaGreatJ1
import Derived.Test.YtggblfnajeikjaaGreatJ2
import Derived.Test.YtggblfnajeikjaaGreatJ3
import Derived.Test.YtggblfnajeikjaaGreatJ4
import Derived.Test.YtggblfnajeikjaaGreatJ5
import Derived.Test.YtggblfnajeikjaaGreatJ6
import Derived.Test.YtggblfnajeikjaaGreatJ8
import Derived.Test.YtggblfnajeikjaaGreatJ9
import Derived.Test.YtggblfnajeikjaaGreatJ10
import Derived.Test.YtggblfnajeikjaaGreatJ11
import Derived.Test.YtggblfnajeikjaaGreatJ12
import Derived.Test.YtggblfnajeikjaaGreatJ13
import Derived.Test.YtggblfnajeikjaaGreatJ14
import Derived.Test.YtggblfnajeikjaaGreatJ15
import Derived.Test.YtggblfnajeikjaaGreatJ16
import Derived.Test.YtggblfnajeikjaaGreatJ17
import Derived.Test.YtggblfnajeikjaaGreatJ18
import Derived.Test.YtggblfnajeikjaaGreatJ19
import Derived.Test.YtggblfnajeikjaaGreatJ20
import Derived.Test.YtggblfnajeikjaaGreatJ21
import Derived.Test.YtggblfnajeikjaaGreatJ22
import Derived.Test.YtggblfnajeikjaaGreatJ23
import Derived.Test.YtggblfnajeikjaaGreatJ24
import Derived.Test.YtggblfnajeikjaaGreatJ25
import Derived.Test.YtggblfnajeikjaaGreatJ26
import Derived.Test.YtggblfnajeikjaaGreatJ27
import Derived.Test.YtggblfnajeikjaaGreatJ28
import Derived.Test.YtggblfnajeikjaaGreatJ29
import Derived.Test.YtggblfnajeikjaaGreatJ30
import Derived.Test.YtggblfnajeikjaaGreatJ31
import Derived.Test.YtggblfnajeikjaaGreatJ32
import Derived.Test.YtggblfnajeikjaaGreatJ33
import Derived.Test.YtggblfnajeikjaaGreatJ35
import Derived.Test.YtggblfnajeikjaaGreatJ36
import Derived.Test.YtggblfnajeikjaaGreatJ37
import Derived.Test.YtggblfnajeikjaaGreatJ38
import Derived.Test.YtggblfnajeikjaaGreatJ39
import Derived.Test.YtggblfnajeikjaaGreatJ40
import Derived.Test.YtggblfnajeikjaaGreatJ41
import Derived.Test.YtggblfnajeikjaaGreatJ42
namespace Go.Proofs.YtggblfnajeikjaaGreat
open Go.RowKit
set_option linter.unusedVariables false
set_option linter.unusedSimpArgs false

theorem vA : apM con0 [4, 2, 3, 1] con0.length = [1, 2, 3, 4] := by decide +kernel
theorem vE1 : wordOf [1, 0, 2] = [112, 112, 116, 116, 112, 116] := by decide +kernel
theorem vE2 : (shortB [1, 0, 2] && canB [1, 0, 2]) = true := by decide +kernel
theorem vG1 : sixB [1, 0] = true := by decide +kernel
theorem vG2 : bestL [1, 0] = [2] := by
  have h0 : findE 0 [1, 0] = none := by decide +kernel
  have h1 : findE 1 [1, 0] = none := by decide +kernel
  have h2 : findE 2 [1, 0] = some [2] := by decide +kernel
  rw [bestL, fstSome_some (k := 2) (y := [2]) (fun j hj => by
    obtain rfl | rfl : j = 0 ∨ j = 1 := by omega
    · exact h0
    · exact h1) h2 (by omega)]
  rfl
theorem vH1 : listsOk [[1, 4], [2, 3]] = true := by decide +kernel
theorem vH2 : numsOk [[1, 4], [2, 3]] = [1, 2, 3, 4] := by decide +kernel
theorem vM1 : lensB [1, 2, 3] = true := by decide +kernel
theorem vM2 : cm [1, 2, 3] = 9 := by decide +kernel
theorem vB : bufNeed [2, 1, 0] = 3 := by decide +kernel
theorem vS : slackNeed [5, 2, 9] = 3 := by decide +kernel
theorem vP : passesNeeded [100] 10 = 3 := by decide +kernel
theorem vMB : matchesBound 8 10 = 34 := by decide +kernel

end Go.Proofs.YtggblfnajeikjaaGreat
