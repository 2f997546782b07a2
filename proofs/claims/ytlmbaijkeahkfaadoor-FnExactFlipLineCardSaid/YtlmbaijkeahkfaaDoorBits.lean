/- Walks: bits of small masks. -/
import Derived.Test.YtlmbaijkeahkfaaDoorNumWalks
import Derived.BigQuiet
import Derived.Deep.QuietTactic
import Derived.Deep.LoopGhost
namespace Go.Proofs.YtlmbaijkeahkfaaDoor
open Go.RowKit
set_option linter.unusedVariables false
set_option linter.unusedSimpArgs false

def bitsB (m : Nat) : List Bool := (List.range 8).map fun i => m.testBit i
def onesN (m : Nat) : Nat := (bitsB m).countP fun b => b

set_option maxHeartbeats 1000000 in
theorem f_OnesCount64 (m : Nat) (hm : m < 256) (w : World) : Calls Tryd.prog 160 #[.int .u64 (m : Int)] w fun e w' => e = .returned (.int .i64 (onesN m : Nat)) ∧ w = w' := by
  go_enter Tryd.func160, Tryd.ntmps160
  go_wp2
  go_ret
  refine ⟨congrArg (fun z => Ending.returned (Value.int .i64 z)) ?_, rfl⟩
  revert m
  decide +kernel

theorem f_OnesCount (m : Nat) (hm : m < 256) (w : World) : Calls Tryd.prog 142 #[.int .u64 (m : Int)] w fun e w' => e = .returned (.int .i64 (onesN m : Nat)) ∧ w = w' := by
  have HK := Lib.hid (f_OnesCount64 m hm w)
  go_enter Tryd.func142, Tryd.ntmps142
  go_wp2_with (go_at_call 160; refine HK.out.mono ?_; rintro e w' ⟨rfl, rfl⟩)
  go_ret
  exact ⟨rfl, rfl⟩

theorem i_ones (m : Nat) (hm : m < 256) (w : World) : Calls Tryd.prog 99 #[.int .i64 (m : Int)] w fun e w' => e = .returned (.int .i64 (onesN m : Nat)) ∧ w = w' := by
  have HK := Lib.hid (f_OnesCount m hm w)
  have e1 : IntKind.u64.wrap (m : Int) = (m : Int) := by
    revert m; intro m hm _
    exact (by decide +kernel : ∀ m : Nat, m < 256 → IntKind.u64.wrap (m : Int) = (m : Int)) m hm
  go_enter Tryd.func99, Tryd.ntmps99
  go_wp2_with (go_at_call 142; refine HK.out.mono ?_; rintro e w' ⟨rfl, rfl⟩)
  go_ret
  exact ⟨rfl, rfl⟩

def stepN (m i k : Nat) : Nat := if m.testBit i && !m.testBit k then (m ^^^ (1 <<< i)) ^^^ (1 <<< k) else m
theorem bit_of : ∀ m : Nat, m < 256 → ∀ i : Nat, i < 8 → bits BinOp.and IntKind.i64 ((m : Int) / 2 ^ i) 1 = (if m.testBit i then 1 else 0) := by decide +kernel
theorem xor_of : ∀ m : Nat, m < 256 → ∀ i : Nat, i < 8 → bits BinOp.xor IntKind.i64 (m : Int) (wrap64 (2 ^ i)) = ((m ^^^ (1 <<< i) : Nat) : Int) ∧ m ^^^ (1 <<< i) < 256 := by decide +kernel
set_option maxHeartbeats 1000000 in
theorem i_step (m i k : Nat) (hm : m < 256) (hi : i < 8) (hk : k < 8) (w : World) : Calls Tryd.prog 153 #[.int .i64 (m : Int), .int .i64 (i : Int), .int .i64 (k : Int)] w fun e w' => e = .returned (.int .i64 (stepN m i k : Nat)) ∧ Dr w w' := by
  have b1 := bit_of m hm i hi
  have b2 := bit_of m hm k hk
  cases h1 : m.testBit i
  · have HR : Hid (stepN m i k = m) := by rw [Hid, stepN, h1]; rfl
    rw [h1] at b1
    have c1 : bits BinOp.and IntKind.i64 ((m : Int) / 2 ^ i) 1 = 0 := b1
    clear b1 b2 h1
    go_enter Tryd.func153, Tryd.ntmps153
    go_wp2
    go_ret
    exact ⟨by rw [HR.out]; rfl, Dr.refl _⟩
  · cases h2 : m.testBit k
    · have HR : Hid (stepN m i k = (m ^^^ (1 <<< i)) ^^^ (1 <<< k)) := by rw [Hid, stepN, h1, h2]; rfl
      rw [h1] at b1
      rw [h2] at b2
      have c1 : bits BinOp.and IntKind.i64 ((m : Int) / 2 ^ i) 1 = 1 := b1
      have c2 : bits BinOp.and IntKind.i64 ((m : Int) / 2 ^ k) 1 = 0 := b2
      clear b1 b2
      go_enter Tryd.func153, Tryd.ntmps153
      go_wp2
      go_quiet (fail)
      go_wp2
      go_ret
      have x1 := xor_of m hm i hi
      have x2 := xor_of _ x1.2 k hk
      exact ⟨by rw [HR.out, ← x2.1, ← x1.1]; rfl, (Dr.refl _).step _⟩
    · have HR : Hid (stepN m i k = m) := by rw [Hid, stepN, h1, h2]; rfl
      rw [h1] at b1
      rw [h2] at b2
      have c1 : bits BinOp.and IntKind.i64 ((m : Int) / 2 ^ i) 1 = 1 := b1
      have c2 : bits BinOp.and IntKind.i64 ((m : Int) / 2 ^ k) 1 = 1 := b2
      clear b1 b2 h1 h2
      go_enter Tryd.func153, Tryd.ntmps153
      go_wp2
      go_ret
      exact ⟨by rw [HR.out]; rfl, Dr.refl _⟩

def sortedN (n k : Nat) : Nat := (2 ^ k - 1) * 2 ^ (n - k)
theorem sorted_of : ∀ k : Nat, k < 9 → ∀ d : Nat, d < 9 → k + d < 9 → wrap64 (wrap64 (wrap64 (2 ^ k) - 1) * 2 ^ (k + d - k)) = ((sortedN (k + d) k : Nat) : Int) := by decide +kernel
set_option maxHeartbeats 1000000 in
theorem i_sorted (n m : Nat) (hm : m < 256) (hn : n ≤ 8) (hk : onesN m ≤ n) (w : World) : Calls Tryd.prog 158 #[.int .i64 (n : Int), .int .i64 (m : Int)] w fun e w' => e = .returned (.int .i64 (sortedN n (onesN m) : Nat)) ∧ w = w' := by
  have HK := Lib.hid (i_ones m hm w)
  generalize onesN m = k at *
  obtain ⟨d, rfl⟩ : ∃ d, n = k + d := ⟨n - k, by omega⟩
  go_enter Tryd.func158, Tryd.ntmps158
  go_wp2_with (go_at_call 99; refine HK.out.mono ?_; rintro e w' ⟨rfl, rfl⟩)
  go_ret
  exact ⟨by rw [← sorted_of k (by omega) d (by omega) (by omega)]; rfl, rfl⟩

theorem ones_half : ∀ m : Nat, m < 256 → onesN m = onesN (m / 2) + m % 2 := by decide +kernel
theorem and_one : ∀ m : Nat, m < 256 → bits BinOp.and IntKind.i64 (m : Int) 1 = ((m % 2 : Nat) : Int) := by decide +kernel
theorem onesN_le : ∀ m : Nat, m < 256 → onesN m ≤ 8 := by decide +kernel
set_option maxHeartbeats 1000000 in
theorem s_l03Ones (m : Nat) (hm : m < 256) (w : World) : Calls Tryd.prog 112 #[.int .i64 (m : Int)] w fun e w' => e = .returned (.int .i64 (onesN m : Nat)) ∧ w = w' := by
  have HLE := Lib.hid (onesN_le m hm)
  go_enter Tryd.func112, Tryd.ntmps112
  go_wp2
  go_loopg [0, 3] m (fun g mv kv wr => ∃ (r k : Nat), g = r ∧ r < 256 ∧ mv = .int .i64 (r : Int) ∧ kv = .int .i64 (k : Int) ∧ w = wr ∧ Hid (onesN m = k + onesN r))
  case atStart => exact ⟨m, 0, rfl, hm, rfl, rfl, rfl, by rw [Hid, Nat.zero_add]⟩
  case round =>
    obtain ⟨r, k, hg, hr, rfl, rfl, rfl, HK⟩ := hrel
    have hk8 : k ≤ 8 := by have := HK.out; have := HLE.out; omega
    rcases Nat.eq_zero_or_pos r with h0 | h0
    · subst h0
      have HZ : Hid (onesN m = k) := by have := HK.out; rw [show onesN 0 = 0 by decide +kernel] at this; exact this
      have d0 : decide (((0 : Nat) : Int) > 0) = false := rfl
      go_wp2
      go_ret
      exact ⟨by rw [HZ.out]; rfl, rfl⟩
    · have d0 : decide ((r : Int) > 0) = true := by simp; omega
      have d1 : (0 : Int) < (r : Int) := by omega
      have ha := and_one r hr
      have HZ : Hid (onesN m = (k + r % 2) + onesN (r / 2)) := by have := HK.out; rw [ones_half r hr] at this; rw [Hid]; omega
      go_wp2
      go_roundg (r / 2)
      case measure => omega
      case rel => exact ⟨r / 2, k + r % 2, rfl, by omega, by go_num, by go_num, rfl, HZ⟩

set_option maxHeartbeats 1000000 in
theorem s_l03Sorted (n m : Nat) (hm : m < 256) (hn : n ≤ 8) (hk : onesN m ≤ n) (w : World) : Calls Tryd.prog 139 #[.int .i64 (n : Int), .int .i64 (m : Int)] w fun e w' => e = .returned (.bool (decide (m = sortedN n (onesN m)))) ∧ w = w' := by
  have HK := Lib.hid (s_l03Ones m hm w)
  generalize onesN m = k at *
  obtain ⟨d, rfl⟩ : ∃ d, n = k + d := ⟨n - k, by omega⟩
  have HS := Lib.hid (sorted_of k (by omega) d (by omega) (by omega))
  go_enter Tryd.func139, Tryd.ntmps139
  go_wp2_with (go_at_call 112; refine HK.out.mono ?_; rintro e w' ⟨rfl, rfl⟩)
  go_ret
  refine ⟨ret_bool ?_, rfl⟩
  have hs := HS.out
  rw [Nat.add_sub_cancel_left] at hs
  rw [hs]
  by_cases he : m = sortedN (k + d) k
  · simp [← he]
  · have : ¬ (m : Int) = ((sortedN (k + d) k : Nat) : Int) := by omega
    simp [he, this]

end Go.Proofs.YtlmbaijkeahkfaaDoor
