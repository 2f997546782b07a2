/- Joined texts of the proof: LosersNum. -/
import Derived.WalkKit
import Derived.WalkSpells
import Derived.WalkLawsBesides
import Derived.Deep.Draws
import Derived.Lib.Hide
import Derived.RegionTactic
import Derived.Test.YtggblfnajeikjaaGreatRows
import Derived.BigQuiet
import Derived.Deep.QuietTactic
import Derived.Deep.RegionHeld3
import Derived.Laws.BitsAllLaws
import Derived.Laws.BitsLemmas
import Derived.Test.YtggblfnajeikjaaGreatJ1
import Derived.Test.YtggblfnajeikjaaGreatJ4
import Derived.Test.YtggblfnajeikjaaGreatJ6
namespace Go.Proofs.YtggblfnajeikjaaGreat
open Go.RowKit
set_option linter.unusedVariables false
set_option linter.unusedSimpArgs false

def matchesBound (p n : Int) : Int := if inB p 1 8 && inB n 0 80 then p - 1 + rOf p * max 0 (n - 1) else -1

theorem rOf_1 {p : Int} (h : 1 < p) : (1 : Int) ≤ rOf p := by unfold rOf; repeat' split; all_goals omega
theorem rOf_2 {p : Int} (h : 2 < p) : (2 : Int) ≤ rOf p := by unfold rOf; repeat' split; all_goals omega
theorem rOf_3 {p : Int} (h : 4 < p) : (3 : Int) ≤ rOf p := by unfold rOf; repeat' split; all_goals omega
theorem rOf_at0 {p : Int} (h : p ≤ 1) : rOf p = 0 := by unfold rOf; repeat' split; all_goals omega
theorem rOf_at1 {p : Int} (h : p ≤ 2) (h' : (1 : Int) ≤ rOf p) : rOf p = 1 := by unfold rOf at *; repeat' split at h'; all_goals (repeat' split; all_goals omega)
theorem rOf_at2 {p : Int} (h : p ≤ 4) (h' : (2 : Int) ≤ rOf p) : rOf p = 2 := by unfold rOf at *; repeat' split at h'; all_goals (repeat' split; all_goals omega)
theorem rOf_at3 {p : Int} (h' : (3 : Int) ≤ rOf p) : rOf p = 3 := by unfold rOf at *; repeat' split at h'; all_goals (repeat' split; all_goals omega)

set_option maxHeartbeats 400000 in
theorem i_MatchesBound (p n : Int) (w : World) : Calls Tryz.prog 24 #[.int .i64 p, .int .i64 n] w fun e w' => e = .returned (.int .i64 (matchesBound p n)) ∧ w = w' := by
  by_cases c1 : p < 1
  · have d1 : decide (p < 1) = true := by simpa using c1
    go_enter Tryz.func24, Tryz.ntmps24
    go_wp2
    go_ret
    exact ⟨ret_int (by simp [matchesBound, inB]; omega), rfl⟩
  have d1 : decide (p < 1) = false := by simpa using c1
  by_cases c2 : 8 < p
  · have d2 : decide (p > 8) = true := by simpa using c2
    go_enter Tryz.func24, Tryz.ntmps24
    go_wp2
    go_ret
    exact ⟨ret_int (by simp [matchesBound, inB]; omega), rfl⟩
  have d2 : decide (p > 8) = false := by simpa using c2
  by_cases c3 : n < 0
  · have d3 : decide (n < 0) = true := by simpa using c3
    go_enter Tryz.func24, Tryz.ntmps24
    go_wp2
    go_ret
    exact ⟨ret_int (by simp [matchesBound, inB]; omega), rfl⟩
  have d3 : decide (n < 0) = false := by simpa using c3
  by_cases c4 : 80 < n
  · have d4 : decide (n > 80) = true := by simpa using c4
    go_enter Tryz.func24, Tryz.ntmps24
    go_wp2
    go_ret
    exact ⟨ret_int (by simp [matchesBound, inB]; omega), rfl⟩
  have d4 : decide (n > 80) = false := by simpa using c4
  have h1 : inB p 1 8 = true := inB_iff.2 (by omega)
  have h2 : inB n 0 80 = true := inB_iff.2 (by omega)
  have HR : Hid (matchesBound p n = p - 1 + rOf p * max 0 (n - 1)) := by simp [matchesBound, h1, h2, Hid]
  clear h1 h2
  go_enter Tryz.func24, Tryz.ntmps24
  go_wp2
  go_loop [5] (fun i => ∃ k : Nat, k ≤ 3 ∧ Hid ((k : Int) ≤ rOf p) ∧ i = .int .i64 k) (fun i => 3 - (intOf i).toNat)
  case atStart => exact ⟨0, by omega, by show _ ≤ _; unfold rOf; split <;> (try split) <;> (try split) <;> omega, rfl⟩
  case round =>
    obtain ⟨k, hk, hr, rfl⟩ := hrel
    rcases (show k = 0 ∨ k = 1 ∨ k = 2 ∨ k = 3 by omega) with rfl | rfl | rfl | rfl
    all_goals go_wp2
    all_goals first
      | (go_round
         case rel => first | exact ⟨1, by omega, rOf_1 (by assumption), rfl⟩ | exact ⟨2, by omega, rOf_2 (by assumption), rfl⟩ | exact ⟨3, by omega, rOf_3 (by assumption), rfl⟩
         case measure => simp [intOf])
      | (go_ret
         refine ⟨ret_int ?_, rfl⟩
         rw [HR.out]
         first | rw [rOf_at0 (by assumption)] | rw [rOf_at1 (by assumption) hr.out] | rw [rOf_at2 (by assumption) hr.out] | rw [rOf_at3 hr.out]
         try simp
         try omega)

end Go.Proofs.YtggblfnajeikjaaGreat
