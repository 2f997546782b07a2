/- Joined texts of the proof: Res. -/
import Derived.WalkKit
import Derived.WalkSpells
import Derived.WalkLawsBesides
import Derived.Deep.Draws
import Derived.Lib.Hide
import Derived.RegionTactic
import Derived.Test.YtggblfnajeikjaaGreatRows
import Derived.BigQuiet
import Derived.Deep.QuietTactic
import Derived.Deep.RegionHeld3
import Derived.Deep.DeepCutAuto
import Derived.Deep.LoopGhost
import Derived.Shelf.Strconv.Itoa0
import Derived.Shelf.Sort.Plain
import Derived.Shelf.Slices.Reverse
import Derived.Ground.Names2Prog
import Derived.Shelf.Slices.CompactI
import Derived.Test.YtggblfnajeikjaaGreatProg
import Derived.Lib.RowBridge
import Derived.Sort.OwnSortedInts
import Derived.Test.YtggblfnajeikjaaGreatJ1
import Derived.Test.YtggblfnajeikjaaGreatJ3
import Derived.Test.YtggblfnajeikjaaGreatJ4
import Derived.Test.YtggblfnajeikjaaGreatJ5
import Derived.Test.YtggblfnajeikjaaGreatJ6
import Derived.Test.YtggblfnajeikjaaGreatJ8
import Derived.Test.YtggblfnajeikjaaGreatJ9
import Derived.Test.YtggblfnajeikjaaGreatJ12
import Derived.Test.YtggblfnajeikjaaGreatJ32
namespace Go.Proofs.YtggblfnajeikjaaGreat
open Go.RowKit
set_option linter.unusedVariables false
set_option linter.unusedSimpArgs false

def natsI (l : List Nat) : List Int := l.map fun (x : Nat) => (x : Int)
theorem natsI_len (l : List Nat) : (natsI l).length = l.length := by simp [natsI]
theorem natsI_get {l : List Nat} {k x : Nat} (h : l[k]? = some x) : (natsI l)[k]? = some (x : Int) := by simp [natsI, h]
theorem natsI_app (a b : List Nat) : natsI (a ++ b) = natsI a ++ natsI b := by simp [natsI]
set_option maxHeartbeats 1000000 in
theorem i_allMasks (N : Nat) (h8 : N ≤ 8) (w : World) : Calls Tryz.prog 60 #[.int .i64 N] w (RetOwn 3 (ints (natsI (List.range (2 ^ N)))) w) := by
  have hp := pow_le8 h8
  have e2 := shl_of N (by omega)
  obtain ⟨M, hM⟩ : ∃ M, 2 ^ N = M := ⟨_, rfl⟩
  rw [hM] at hp e2 ⊢
  clear hM
  have hlit := Own.lit0 (B := w.heap.size) w 3 (Nat.le_refl _)
  have hbA : Below w.heap.size w (w.alloc (.cells #[] 3)) := (Below.refl _ _).alloc (Nat.le_refl _) _
  go_enter Tryz.func60, Tryz.ntmps60
  go_wp2
  try rw [e2]
  clear e2
  go_loopg [3, 8] M (fun g vo iv wr => ∃ k : Nat, g = M - k ∧ k ≤ M ∧ iv = .int .i64 k ∧ Own wr 3 w.heap.size vo (ints (natsI (List.range k))) ∧ Below w.heap.size w wr)
  case atStart => exact ⟨0, rfl, Nat.zero_le _, rfl, hlit, hbA⟩
  case round =>
    clear hlit hbA
    obtain ⟨k, hg, hkl, rfl, ho, hb⟩ := hrel
    obtain ⟨ao, no, co, rfl, HN, _, _⟩ := ho.rd.formN
    by_cases hlt : k < M
    · have HLo : Hid ((ints (natsI (List.range k))).length = no) := by rw [Hid, ints_length, HN.out]
      have hno : no ≤ 256 := by have := HN.out; rw [natsI_len, List.length_range] at this; omega
      have HS : Hid (natsI (List.range (k + 1)) = natsI (List.range k) ++ [(k : Int)]) := by rw [Hid, List.range_succ, natsI_app]; rfl
      have hsb := hb.size
      have hn1 : (no + 1) * 8 ≤ 140737488355328 := by omega
      have hn2 : no + 1 ≤ 9223372036854775807 := by omega
      go_wp2_with (at_builtin; (refine wpList_app1m rfl _ _ 33 rfl elI ?_ ho ?_ ?_ hsb no HLo.out hn1 hn2 ?_); (focus exact rfl); (focus (simp [Act.eval])); (focus exact rfl); intro bn cn' w6 ho6 hg6 hat6)
      have hb6 := hb.grown hg6 hsb fun r hr => (ho.lt r hr).1
      go_roundg (M - (k + 1))
      case measure => omega
      case rel => exact ⟨k + 1, rfl, by omega, by go_num, by rw [HS.out, ints_append]; exact ho6, hb6⟩
    · obtain rfl : M = k := by omega
      go_wp2
      go_ret
      exact ⟨_, rfl, ho, hb⟩

end Go.Proofs.YtggblfnajeikjaaGreat
