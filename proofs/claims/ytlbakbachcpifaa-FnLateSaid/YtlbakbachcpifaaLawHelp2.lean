/- Walks: the laws' stairs. -/
import Derived.Test.YtlbakbachcpifaaLawHelp
import Derived.Test.YtlbakbachcpifaaPlainTree
import Derived.Test.YtlbakbachcpifaaPlainPerm
namespace Go.Proofs.Ytlbakbachcpifaa
open Go.RowKit
set_option linter.unusedVariables false
set_option linter.unusedSimpArgs false

theorem srt_stairs (n : Nat) : srt (stairs n) = stairs n := (srt_unique (List.Perm.refl _) ((stairs_sorted n).imp (by intro a b h; omega))).symm
set_option maxHeartbeats 400000 in
theorem stairs_c (n : Nat) (w : World) (hn : n ≤ 1000000) : Calls Try.prog 29 #[.int .i64 (n : Int)] w (RetOwn 3 (ints (stairs n)) w) := by
  go_enter Try.func29, Try.ntmps29
  go_wp2
  go_loopw [3, 4] (fun vo i wr => ∃ j : Nat, j ≤ n ∧ i = .int .i64 j ∧ Own wr 3 w.heap.size vo (ints (stairs j)) ∧ Below w.heap.size w wr)
    (fun _ i _ => n - (intOf i).toNat)
  case atStart => exact ⟨0, Nat.zero_le _, rfl, Own.lit0 w _ (Nat.le_refl _), (Below.refl _ _).alloc (Nat.le_refl _) _⟩
  case round =>
    obtain ⟨j, hj, rfl, hs, hb⟩ := hrel
    obtain ⟨az, cs, rfl, _, hcs⟩ := hs.rd.formi
    have hL := stairs_length j
    by_cases hlt : j < n
    · go_wp2_with (at_builtin; refine wpList_app1 rfl _ _ 22 rfl elI rfl hs rfl rfl hb.size (by rw [ints_length]; omega) (by rw [ints_length]; omega) ?_; intro bn cn' w2 hs2 hgrow hat)
      have hb2 := hb.grown hgrow hb.size fun r hr => (hs.lt r hr).1
      go_roundw
      case rel => exact ⟨j + 1, by omega, by go_num, by rw [stairs_succ, ints_append]; exact hs2, hb2⟩
      case measure => simp [intOf]; omega
    · obtain rfl : n = j := by omega
      go_wp2
      go_ret
      exact ⟨_, rfl, hs, hb⟩

end Go.Proofs.Ytlbakbachcpifaa
