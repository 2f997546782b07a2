/- Joined texts of the proof: FabC. -/
import Derived.WalkKit
import Derived.WalkSpells
import Derived.WalkLawsBesides
import Derived.Deep.Draws
import Derived.Lib.Hide
import Derived.RegionTactic
import Derived.Test.YtggblfnajeikjaaGreatRows
import Derived.BigQuiet
import Derived.Deep.QuietTactic
import Derived.Deep.RegionHeld3
import Derived.Deep.DeepCutAuto
import Derived.Deep.LoopGhost
import Derived.Deep.RegionLaw
import Derived.Lib.AppendZeros
import Derived.Test.YtggblfnajeikjaaGreatJ1
import Derived.Test.YtggblfnajeikjaaGreatJ4
import Derived.Test.YtggblfnajeikjaaGreatJ6
import Derived.Test.YtggblfnajeikjaaGreatJ8
import Derived.Test.YtggblfnajeikjaaGreatJ9
import Derived.Test.YtggblfnajeikjaaGreatJ12
import Derived.Test.YtggblfnajeikjaaGreatJ13
import Derived.Test.YtggblfnajeikjaaGreatJ17
import Derived.Test.YtggblfnajeikjaaGreatJ22
namespace Go.Proofs.YtggblfnajeikjaaGreat
open Go.RowKit
set_option linter.unusedVariables false
set_option linter.unusedSimpArgs false

theorem i_setTwo (v : Value) (x : Nat → Nat) (w : World) (hr : Rd w v (ints (natA 2 x))) : Calls Tryz.prog 68 #[v] w (RetOwn 3 (ints [((x 0 : Nat) : Int)]) w) := by
  obtain ⟨a, c, rfl, hnc, hc⟩ := hr.formi
  rw [natA_len] at hr hnc ⊢
  obtain ⟨ad, rfl, _⟩ := hr.cell (k := 0) (by rw [ints_length, natA_len]; omega)
  have hx := hr.cell_int' (natA_get x (show 0 < 2 by omega))
  have hx' : w.cell? ad = some (.int .i64 ((x 0 : Nat) : Int)) := by simpa [Addr.add] using hx
  generalize x 0 = X at hx hx' ⊢
  go_enter Tryz.func68, Tryz.ntmps68
  go_wp2
  go_ret
  exact ⟨_, rfl, Own.lit w 3 w.heap.size #[.int .i64 (X : Int)] (Nat.le_refl _) (by simp), (Below.refl _ _).alloc (Nat.le_refl _) _⟩
end Go.Proofs.YtggblfnajeikjaaGreat
