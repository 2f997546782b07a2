/- Joined texts of the proof: ConfA, DrawsB, DrawsC, ConfG. -/
import Derived.WalkKit
import Derived.WalkSpells
import Derived.WalkLawsBesides
import Derived.Deep.Draws
import Derived.Lib.Hide
import Derived.RegionTactic
import Derived.Test.YtggblfnajeikjaaGreatRows
import Derived.BigQuiet
import Derived.Deep.QuietTactic
import Derived.Deep.RegionHeld3
import Derived.Deep.DeepCutAuto
import Derived.Deep.LoopGhost
import Derived.IntWalk
import Derived.Test.YtggblfnajeikjaaGreatJ1
import Derived.Test.YtggblfnajeikjaaGreatJ4
import Derived.Test.YtggblfnajeikjaaGreatJ6
import Derived.Test.YtggblfnajeikjaaGreatJ8
namespace Go.Proofs.YtggblfnajeikjaaGreat
open Go.RowKit
set_option linter.unusedVariables false
set_option linter.unusedSimpArgs false

theorem i_isFew3 (w : World) : Calls Tryz.prog 91 #[.int .i64 3] w fun e w' => e = .returned (.bool true) ∧ w = w' := by
  go_enter Tryz.func91, Tryz.ntmps91
  go_wp2
  go_ret
  exact ⟨rfl, rfl⟩
theorem i_isFew4 (w : World) : Calls Tryz.prog 91 #[.int .i64 4] w fun e w' => e = .returned (.bool true) ∧ w = w' := by
  go_enter Tryz.func91, Tryz.ntmps91
  go_wp2
  go_ret
  exact ⟨rfl, rfl⟩

theorem i_LeastPairs4 (w : World) : Calls Tryz.prog 47 #[.int .i64 4] w (RetB (.int .i64 5) w) := by
  go_enter Tryz.func47, Tryz.ntmps47
  go_wp2_with (go_at_call 91; refine (i_isFew4 _).mono ?_; rintro e w' ⟨rfl, rfl⟩)
  go_ret
  exact ⟨rfl, (Below.refl _ _).alloc (Nat.le_refl _) _⟩

theorem i_areCounted33 (w : World) : Calls Tryz.prog 58 #[.int .i64 3, .int .i64 3] w fun e w' => e = .returned (.bool true) ∧ w = w' := by
  go_enter Tryz.func58, Tryz.ntmps58
  go_wp2_with (go_at_call 91; refine (i_isFew3 _).mono ?_; rintro e w' ⟨rfl, rfl⟩)
  go_ret
  exact ⟨rfl, rfl⟩

theorem i_CountUnsortedMasks8 (w : World) : Calls Tryz.prog 11 #[.int .i64 8] w (RetB (.int .i64 247) w) := by
  have HI : ∀ W : World, Calls Tryz.prog 40 #[.int .i64 8] W fun e w' => e = .returned (.bool true) ∧ W = w' := fun W => i_isWires 8 W
  go_enter Tryz.func11, Tryz.ntmps11
  go_wp2_with (go_at_call 40; refine (HI _).mono ?_; rintro e w' ⟨rfl, rfl⟩)
  go_ret
  exact ⟨rfl, Below.refl _ _⟩

theorem i_areParts (m n : Nat) (h1 : m ≤ 8) (h2 : n ≤ 8) (h3 : 1 ≤ m + n) (h4 : m + n ≤ 8) (w : World) : Calls Tryz.prog 51 #[.int .i64 (m : Int), .int .i64 (n : Int)] w fun e w' => e = .returned (.bool true) ∧ w = w' := by
  have HI := i_isWires ((m : Int) + (n : Int)) w
  rw [inB_iff.2 (by omega)] at HI
  have HI2 := Lib.hid HI
  have i1 : (m : Int) ≥ 0 := by omega
  have i2 : (n : Int) ≥ 0 := by omega
  go_enter Tryz.func51, Tryz.ntmps51
  go_wp2_with (go_at_call 40; refine HI2.out.mono ?_; rintro e w' ⟨rfl, rfl⟩)
  go_ret
  exact ⟨rfl, rfl⟩

theorem i_CountMergeMasks44 (w : World) : Calls Tryz.prog 14 #[.int .i64 4, .int .i64 4] w (RetB (.int .i64 25) w) := by
  have HI : ∀ W : World, Calls Tryz.prog 51 #[.int .i64 4, .int .i64 4] W fun e w' => e = .returned (.bool true) ∧ W = w' := fun W => i_areParts 4 4 (by omega) (by omega) (by omega) (by omega) W
  go_enter Tryz.func14, Tryz.ntmps14
  go_wp2_with (go_at_call 51; refine (HI _).mono ?_; rintro e w' ⟨rfl, rfl⟩)
  go_ret
  exact ⟨rfl, Below.refl _ _⟩

theorem i_isPower8 (w : World) : Calls Tryz.prog 43 #[.int .i64 8] w fun e w' => e = .returned (.bool true) ∧ w = w' := by
  go_enter Tryz.func43, Tryz.ntmps43
  go_wp2
  go_ret
  exact ⟨rfl, rfl⟩

theorem i_switchCount8 (w : World) : Calls Tryz.prog 52 #[.int .i64 8] w (RetB (.int .i64 20) w) := by
  go_enter Tryz.func52, Tryz.ntmps52
  go_wp2
  go_ret
  exact ⟨rfl, (Below.refl _ _).alloc (Nat.le_refl _) _⟩
theorem i_SwitchCount8 (w : World) : Calls Tryz.prog 15 #[.int .i64 8] w (RetB (.int .i64 20) w) := by
  go_enter Tryz.func15, Tryz.ntmps15
  go_wp2_with (first
    | (go_at_call 43; refine (i_isPower8 _).mono ?_; rintro e w' ⟨rfl, rfl⟩)
    | (go_at_call 52; refine (i_switchCount8 _).mono ?_; rintro e w1 ⟨rfl, hb1⟩))
  go_ret
  exact ⟨rfl, hb1⟩

theorem i_CountPassing8 (w : World) : Calls Tryz.prog 16 #[.int .i64 8] w (RetB (.int .i64 4096) w) := by
  have HI : ∀ W : World, Calls Tryz.prog 53 #[.int .i64 8] W fun e w' => e = .returned (.int .i64 3) ∧ W = w' := fun W => by
    go_enter Tryz.func53, Tryz.ntmps53
    go_wp2
    go_ret
    exact ⟨rfl, rfl⟩
  go_enter Tryz.func16, Tryz.ntmps16
  go_wp2_with (go_at_call 53; refine (HI _).mono ?_; rintro e w' ⟨rfl, rfl⟩)
  go_ret
  exact ⟨rfl, Below.refl _ _⟩

theorem i_ShearBound4 (w : World) : Calls Tryz.prog 20 #[.int .i64 4] w (RetB (.int .i64 5) w) := by
  go_enter Tryz.func20, Tryz.ntmps20
  go_wp2
  go_ret
  exact ⟨rfl, (Below.refl _ _).alloc (Nat.le_refl _) _⟩

theorem i_RoundsFor92 (w : World) : Calls Tryz.prog 22 #[.int .i64 9, .int .i64 2] w (RetB (.int .i64 4) w) := by
  go_enter Tryz.func22, Tryz.ntmps22
  go_wp2
  go_loopg [5, 6] 4 (fun g kv nv wr => ∃ j : Nat, g = 4 - j ∧ j ≤ 4 ∧ kv = .int .i64 (j : Int) ∧ nv = .int .i64 ((2 ^ j : Nat) : Int) ∧ w = wr)
  case atStart => exact ⟨0, rfl, Nat.zero_le _, rfl, rfl, rfl⟩
  case round =>
    obtain ⟨j, hg, hj, rfl, rfl, rfl⟩ := hrel
    obtain rfl | rfl | rfl | rfl | rfl : j = 0 ∨ j = 1 ∨ j = 2 ∨ j = 3 ∨ j = 4 := by omega
    · go_wp2
      go_roundg (4 - 1)
      case measure => omega
      case rel => exact ⟨1, rfl, by omega, rfl, rfl, rfl⟩
    · go_wp2
      go_roundg (4 - 2)
      case measure => omega
      case rel => exact ⟨2, rfl, by omega, rfl, rfl, rfl⟩
    · go_wp2
      go_roundg (4 - 3)
      case measure => omega
      case rel => exact ⟨3, rfl, by omega, rfl, rfl, rfl⟩
    · go_wp2
      go_roundg (4 - 4)
      case measure => omega
      case rel => exact ⟨4, rfl, by omega, rfl, rfl, rfl⟩
    · go_wp2
      go_ret
      exact ⟨rfl, Below.refl _ _⟩

def facN : Nat → Nat
  | 0 => 1
  | n + 1 => facN n * (n + 1)
theorem facN_le : ∀ n, n < 9 → facN n ≤ 40320 := by decide
theorem shl17 : ∀ n : Nat, n < 17 → wrap64 (2 ^ n) = ((2 ^ n : Nat) : Int) := by decide +kernel
set_option maxHeartbeats 1000000 in
theorem i_PairBound (n B : Nat) (h1 : 1 ≤ n) (h8 : n ≤ 8) (hB : B ≤ 16) (hb : facN n ≤ 2 ^ B) (hlt : ∀ b, b < B → 2 ^ b < facN n) (w : World) : Calls Tryz.prog 12 #[.int .i64 (n : Int)] w (RetB (.int .i64 (B : Int)) w) := by
  have HI := i_isWires (n : Int) w
  rw [inB_iff.2 (by omega)] at HI
  have HI2 := Lib.hid HI
  clear HI
  have HLT := Lib.hid hlt
  have HBB := Lib.hid hb
  clear hb hlt
  go_enter Tryz.func12, Tryz.ntmps12
  go_wp2_with (go_at_call 40; refine HI2.out.mono ?_; rintro e w' ⟨rfl, rfl⟩)
  go_loopg [3, 10] n (fun g ov iv wr => ∃ k : Nat, g = n - k ∧ k ≤ n ∧ iv = .int .i64 (k : Int) ∧ ov = .int .i64 ((facN k : Nat) : Int) ∧ w = wr)
  case atStart => exact ⟨0, rfl, Nat.zero_le _, rfl, rfl, rfl⟩
  case round =>
    obtain ⟨k, hg, hk, rfl, rfl, rfl⟩ := hrel
    by_cases hkn : k < n
    · have hf1 := facN_le (k + 1) (by omega)
      have HF : Hid (facN (k + 1) = facN k * (k + 1)) := rfl
      have hf0 := facN_le k (by omega)
      generalize facN k = q at *
      have hq : IntKind.i64.wrap ((q : Int) * ((k : Int) + 1)) = ((facN (k + 1) : Nat) : Int) := by
        rw [HF.out, IntKind.wrap_i64]; push_cast; rw [HF.out] at hf1; rw [show (q : Int) * ((k : Int) + 1) = ((q * (k + 1) : Nat) : Int) by push_cast; rfl]; omega
      obtain ⟨r, hr⟩ : ∃ r, facN (k + 1) = r := ⟨_, rfl⟩
      have HR := Lib.hid hr
      rw [hr] at hq hf1
      clear hr
      go_wp2
      go_roundg (n - (k + 1))
      case measure => omega
      case rel => exact ⟨k + 1, rfl, hkn, by go_num, by rw [HR.out], rfl⟩
    · obtain rfl : k = n := by omega
      have HF8 := Lib.hid (facN_le k (by omega))
      clear hg
      obtain ⟨q, hq⟩ : ∃ q, facN k = q := ⟨_, rfl⟩
      rw [hq] at HLT HBB HF8 ⊢
      clear hq
      go_wp2
      go_loopg [5] B (fun g ov wr => ∃ b : Nat, g = B - b ∧ b ≤ B ∧ ov = .int .i64 (b : Int) ∧ w = wr)
      case atStart => exact ⟨0, rfl, Nat.zero_le _, rfl, rfl⟩
      case round =>
        obtain ⟨b, hg, hbB, rfl, rfl⟩ := hrel
        have e2 := shl17 b (by omega)
        by_cases hb : b < B
        · have h2 := HLT.out b hb
          generalize 2 ^ b = p at e2 h2
          have i1 : (p : Int) < (q : Int) := by omega
          go_wp2
          go_roundg (B - (b + 1))
          case measure => omega
          case rel => exact ⟨b + 1, rfl, hb, by go_num, rfl⟩
        · obtain rfl : b = B := by omega
          have h2 := HBB.out
          generalize 2 ^ b = p at e2 h2
          have i1 : ¬ (p : Int) < (q : Int) := by omega
          go_wp2
          go_ret
          exact ⟨rfl, Below.refl _ _⟩
theorem i_PairBound8 (w : World) : Calls Tryz.prog 12 #[.int .i64 8] w (RetB (.int .i64 16) w) := i_PairBound 8 16 (by omega) (by omega) (by omega) (by decide) (by decide) w
theorem i_PairBound5 (w : World) : Calls Tryz.prog 12 #[.int .i64 5] w (RetB (.int .i64 7) w) := i_PairBound 5 7 (by omega) (by omega) (by omega) (by decide) (by decide) w

end Go.Proofs.YtggblfnajeikjaaGreat

namespace Go.Proofs.YtggblfnajeikjaaGreat
open Go.RowKit
set_option linter.unusedVariables false
set_option linter.unusedSimpArgs false

theorem min_if2 (x y : Int) : (if y < x then y else x) = min x y := by split <;> omega
theorem max_if2 (x y : Int) : (if x < y then y else x) = max x y := by split <;> omega

end Go.Proofs.YtggblfnajeikjaaGreat

namespace Go.Proofs.YtggblfnajeikjaaGreat
open Go.RowKit
set_option linter.unusedVariables false
set_option linter.unusedSimpArgs false

def RetBat (X : List (List Int)) (w W : World) (e : Ending) (w' : World) : Prop := ∃ (a : Option Addr) (m c : Nat), e = .returned (.slice a m c) ∧ OwnP w' w.heap.size (.slice a m c) X ∧ Below W.heap.size W w' ∧ Below w.heap.size w w'
theorem RetOwnP.bat {P : Program} {f : FuncId} {args : Array Value} {X : List (List Int)} {w W : World} (h : Calls P f args W (RetOwnP X W)) (hW : Below w.heap.size w W) : Calls P f args W (RetBat X w W) := by
  refine h.mono ?_
  rintro e w' ⟨v, rfl, ho, hb⟩
  obtain ⟨a, m, c, rfl, _, _, _⟩ := ho.formN
  exact ⟨a, m, c, rfl, ho.mono hW.size, hb, hW.trans (hb.mono hW.size)⟩

end Go.Proofs.YtggblfnajeikjaaGreat

namespace Go.Proofs.YtggblfnajeikjaaGreat
open Go.RowKit
set_option linter.unusedVariables false
set_option linter.unusedSimpArgs false

/-- A plan of three inputs, each with the first output alone. -/
def Pl3 (w : World) (p : Addr) : Prop := ∀ k : Nat, k < 3 → w.cell? (p.add k) = some (.int .i64 1)
theorem mat_end (p : Addr) (c : Nat) (L : Nat) (w : World) : Calls Tryz.prog 86 #[.slice (some p) 3 c, .int .i64 7, .int .i64 3, .int .i64 (L : Int)] w fun e w' => e = .returned (.int .i64 0) ∧ w = w' := by
  go_enter Tryz.func86, Tryz.ntmps86
  go_wp2
  go_ret
  exact ⟨rfl, rfl⟩
set_option maxHeartbeats 2000000 in
theorem mat_2_63 (p : Addr) (c : Nat) (w : World) (h : Pl3 w p) : Calls Tryz.prog 86 #[.slice (some p) 3 c, .int .i64 7, .int .i64 2, .int .i64 63] w fun e w' => e = .returned (.int .i64 1) ∧ w = w' := by
  have c2 : w.cell? ⟨p.block, p.off + 2, none⟩ = some (.int .i64 1) := by have := h 2 (by omega); rwa [add_succ] at this
  have hP := h
  have HA := Lib.hid (fun (W : World) => mat_end p c 63 W)
  have HB := Lib.hid (fun (W : World) => mat_end p c 62 W)
  clear h
  go_enter Tryz.func86, Tryz.ntmps86
  go_wp2_with (go_at_call 86; refine (HA.out _).mono ?_; rintro e w' ⟨rfl, rfl⟩)
  go_loopg [9, 27] 6 (fun g bv kv wr => ∃ k : Nat, g = 6 - k ∧ k ≤ 6 ∧ kv = .int .i64 (k : Int) ∧ ((k = 0 ∧ bv = .int .i64 0) ∨ (1 ≤ k ∧ bv = .int .i64 1)) ∧ w = wr)
  case atStart => exact ⟨0, rfl, Nat.zero_le _, rfl, .inl ⟨rfl, rfl⟩, rfl⟩
  case round =>
    obtain ⟨k, hg, hk, rfl, hbv, rfl⟩ := hrel
    rcases hbv with ⟨rfl, rfl⟩ | ⟨h1, rfl⟩
    · go_wp2_with (go_at_call 86; refine (HB.out _).mono ?_; rintro e w' ⟨rfl, rfl⟩)
      go_roundg 5
      case measure => omega
      case rel => exact ⟨1, rfl, by omega, rfl, .inr ⟨Nat.le_refl _, rfl⟩, rfl⟩
    · by_cases h6 : k < 6
      · have hq : bits BinOp.and IntKind.i64 (bits BinOp.and IntKind.i64 1 63 / 2 ^ k) 1 = 0 := by
          obtain rfl | rfl | rfl | rfl | rfl : k = 1 ∨ k = 2 ∨ k = 3 ∨ k = 4 ∨ k = 5 := by omega
          all_goals decide
        go_wp2
        go_roundg (6 - (k + 1))
        case measure => omega
        case rel => exact ⟨k + 1, rfl, h6, by go_num, .inr ⟨by omega, rfl⟩, rfl⟩
      · obtain rfl : k = 6 := by omega
        go_wp2
        go_ret
        exact ⟨rfl, rfl⟩
set_option maxHeartbeats 2000000 in
theorem mat_2_62 (p : Addr) (c : Nat) (w : World) (h : Pl3 w p) : Calls Tryz.prog 86 #[.slice (some p) 3 c, .int .i64 7, .int .i64 2, .int .i64 62] w fun e w' => e = .returned (.int .i64 0) ∧ w = w' := by
  have c2 : w.cell? ⟨p.block, p.off + 2, none⟩ = some (.int .i64 1) := by have := h 2 (by omega); rwa [add_succ] at this
  have hP := h
  have HA := Lib.hid (fun (W : World) => mat_end p c 62 W)
  have HB := Lib.hid (fun (W : World) => mat_end p c 62 W)
  clear h
  go_enter Tryz.func86, Tryz.ntmps86
  go_wp2_with (go_at_call 86; refine (HA.out _).mono ?_; rintro e w' ⟨rfl, rfl⟩)
  go_loopg [9, 27] 6 (fun g bv kv wr => ∃ k : Nat, g = 6 - k ∧ k ≤ 6 ∧ kv = .int .i64 (k : Int) ∧ ((k = 0 ∧ bv = .int .i64 0) ∨ (1 ≤ k ∧ bv = .int .i64 0)) ∧ w = wr)
  case atStart => exact ⟨0, rfl, Nat.zero_le _, rfl, .inl ⟨rfl, rfl⟩, rfl⟩
  case round =>
    obtain ⟨k, hg, hk, rfl, hbv, rfl⟩ := hrel
    rcases hbv with ⟨rfl, rfl⟩ | ⟨h1, rfl⟩
    · go_wp2_with (go_at_call 86; refine (HB.out _).mono ?_; rintro e w' ⟨rfl, rfl⟩)
      go_roundg 5
      case measure => omega
      case rel => exact ⟨1, rfl, by omega, rfl, .inr ⟨Nat.le_refl _, rfl⟩, rfl⟩
    · by_cases h6 : k < 6
      · have hq : bits BinOp.and IntKind.i64 (bits BinOp.and IntKind.i64 1 62 / 2 ^ k) 1 = 0 := by
          obtain rfl | rfl | rfl | rfl | rfl : k = 1 ∨ k = 2 ∨ k = 3 ∨ k = 4 ∨ k = 5 := by omega
          all_goals decide
        go_wp2
        go_roundg (6 - (k + 1))
        case measure => omega
        case rel => exact ⟨k + 1, rfl, h6, by go_num, .inr ⟨by omega, rfl⟩, rfl⟩
      · obtain rfl : k = 6 := by omega
        go_wp2
        go_ret
        exact ⟨rfl, rfl⟩
set_option maxHeartbeats 2000000 in
theorem mat_1_63 (p : Addr) (c : Nat) (w : World) (h : Pl3 w p) : Calls Tryz.prog 86 #[.slice (some p) 3 c, .int .i64 7, .int .i64 1, .int .i64 63] w fun e w' => e = .returned (.int .i64 1) ∧ w = w' := by
  have c2 : w.cell? ⟨p.block, p.off + 1, none⟩ = some (.int .i64 1) := by have := h 1 (by omega); rwa [add_succ] at this
  have hP := h
  have HA := Lib.hid (fun (W : World) (hW : Pl3 W p) => mat_2_63 p c W hW)
  have HB := Lib.hid (fun (W : World) (hW : Pl3 W p) => mat_2_62 p c W hW)
  clear h
  go_enter Tryz.func86, Tryz.ntmps86
  go_wp2_with (go_at_call 86; refine (HA.out _ hP).mono ?_; rintro e w' ⟨rfl, rfl⟩)
  go_loopg [9, 27] 6 (fun g bv kv wr => ∃ k : Nat, g = 6 - k ∧ k ≤ 6 ∧ kv = .int .i64 (k : Int) ∧ ((k = 0 ∧ bv = .int .i64 1) ∨ (1 ≤ k ∧ bv = .int .i64 1)) ∧ w = wr)
  case atStart => exact ⟨0, rfl, Nat.zero_le _, rfl, .inl ⟨rfl, rfl⟩, rfl⟩
  case round =>
    obtain ⟨k, hg, hk, rfl, hbv, rfl⟩ := hrel
    rcases hbv with ⟨rfl, rfl⟩ | ⟨h1, rfl⟩
    · go_wp2_with (go_at_call 86; refine (HB.out _ hP).mono ?_; rintro e w' ⟨rfl, rfl⟩)
      go_roundg 5
      case measure => omega
      case rel => exact ⟨1, rfl, by omega, rfl, .inr ⟨Nat.le_refl _, rfl⟩, rfl⟩
    · by_cases h6 : k < 6
      · have hq : bits BinOp.and IntKind.i64 (bits BinOp.and IntKind.i64 1 63 / 2 ^ k) 1 = 0 := by
          obtain rfl | rfl | rfl | rfl | rfl : k = 1 ∨ k = 2 ∨ k = 3 ∨ k = 4 ∨ k = 5 := by omega
          all_goals decide
        go_wp2
        go_roundg (6 - (k + 1))
        case measure => omega
        case rel => exact ⟨k + 1, rfl, h6, by go_num, .inr ⟨by omega, rfl⟩, rfl⟩
      · obtain rfl : k = 6 := by omega
        go_wp2
        go_ret
        exact ⟨rfl, rfl⟩
set_option maxHeartbeats 2000000 in
theorem mat_1_62 (p : Addr) (c : Nat) (w : World) (h : Pl3 w p) : Calls Tryz.prog 86 #[.slice (some p) 3 c, .int .i64 7, .int .i64 1, .int .i64 62] w fun e w' => e = .returned (.int .i64 0) ∧ w = w' := by
  have c2 : w.cell? ⟨p.block, p.off + 1, none⟩ = some (.int .i64 1) := by have := h 1 (by omega); rwa [add_succ] at this
  have hP := h
  have HA := Lib.hid (fun (W : World) (hW : Pl3 W p) => mat_2_62 p c W hW)
  have HB := Lib.hid (fun (W : World) (hW : Pl3 W p) => mat_2_62 p c W hW)
  clear h
  go_enter Tryz.func86, Tryz.ntmps86
  go_wp2_with (go_at_call 86; refine (HA.out _ hP).mono ?_; rintro e w' ⟨rfl, rfl⟩)
  go_loopg [9, 27] 6 (fun g bv kv wr => ∃ k : Nat, g = 6 - k ∧ k ≤ 6 ∧ kv = .int .i64 (k : Int) ∧ ((k = 0 ∧ bv = .int .i64 0) ∨ (1 ≤ k ∧ bv = .int .i64 0)) ∧ w = wr)
  case atStart => exact ⟨0, rfl, Nat.zero_le _, rfl, .inl ⟨rfl, rfl⟩, rfl⟩
  case round =>
    obtain ⟨k, hg, hk, rfl, hbv, rfl⟩ := hrel
    rcases hbv with ⟨rfl, rfl⟩ | ⟨h1, rfl⟩
    · go_wp2_with (go_at_call 86; refine (HB.out _ hP).mono ?_; rintro e w' ⟨rfl, rfl⟩)
      go_roundg 5
      case measure => omega
      case rel => exact ⟨1, rfl, by omega, rfl, .inr ⟨Nat.le_refl _, rfl⟩, rfl⟩
    · by_cases h6 : k < 6
      · have hq : bits BinOp.and IntKind.i64 (bits BinOp.and IntKind.i64 1 62 / 2 ^ k) 1 = 0 := by
          obtain rfl | rfl | rfl | rfl | rfl : k = 1 ∨ k = 2 ∨ k = 3 ∨ k = 4 ∨ k = 5 := by omega
          all_goals decide
        go_wp2
        go_roundg (6 - (k + 1))
        case measure => omega
        case rel => exact ⟨k + 1, rfl, h6, by go_num, .inr ⟨by omega, rfl⟩, rfl⟩
      · obtain rfl : k = 6 := by omega
        go_wp2
        go_ret
        exact ⟨rfl, rfl⟩
set_option maxHeartbeats 2000000 in
theorem mat_0_63 (p : Addr) (c : Nat) (w : World) (h : Pl3 w p) : Calls Tryz.prog 86 #[.slice (some p) 3 c, .int .i64 7, .int .i64 0, .int .i64 63] w fun e w' => e = .returned (.int .i64 1) ∧ w = w' := by
  have c2 : w.cell? p = some (.int .i64 1) := by have := h 0 (by omega); simpa [Addr.add] using this
  have hP := h
  have HA := Lib.hid (fun (W : World) (hW : Pl3 W p) => mat_1_63 p c W hW)
  have HB := Lib.hid (fun (W : World) (hW : Pl3 W p) => mat_1_62 p c W hW)
  clear h
  go_enter Tryz.func86, Tryz.ntmps86
  go_wp2_with (go_at_call 86; refine (HA.out _ hP).mono ?_; rintro e w' ⟨rfl, rfl⟩)
  go_loopg [9, 27] 6 (fun g bv kv wr => ∃ k : Nat, g = 6 - k ∧ k ≤ 6 ∧ kv = .int .i64 (k : Int) ∧ ((k = 0 ∧ bv = .int .i64 1) ∨ (1 ≤ k ∧ bv = .int .i64 1)) ∧ w = wr)
  case atStart => exact ⟨0, rfl, Nat.zero_le _, rfl, .inl ⟨rfl, rfl⟩, rfl⟩
  case round =>
    obtain ⟨k, hg, hk, rfl, hbv, rfl⟩ := hrel
    rcases hbv with ⟨rfl, rfl⟩ | ⟨h1, rfl⟩
    · go_wp2_with (go_at_call 86; refine (HB.out _ hP).mono ?_; rintro e w' ⟨rfl, rfl⟩)
      go_roundg 5
      case measure => omega
      case rel => exact ⟨1, rfl, by omega, rfl, .inr ⟨Nat.le_refl _, rfl⟩, rfl⟩
    · by_cases h6 : k < 6
      · have hq : bits BinOp.and IntKind.i64 (bits BinOp.and IntKind.i64 1 63 / 2 ^ k) 1 = 0 := by
          obtain rfl | rfl | rfl | rfl | rfl : k = 1 ∨ k = 2 ∨ k = 3 ∨ k = 4 ∨ k = 5 := by omega
          all_goals decide
        go_wp2
        go_roundg (6 - (k + 1))
        case measure => omega
        case rel => exact ⟨k + 1, rfl, h6, by go_num, .inr ⟨by omega, rfl⟩, rfl⟩
      · obtain rfl : k = 6 := by omega
        go_wp2
        go_ret
        exact ⟨rfl, rfl⟩

set_option maxHeartbeats 1000000 in
theorem i_PlanOk (v : Value) (xs : List Int) (w : World) (h : Rd w v (ints xs)) (h1 : 1 ≤ xs.length) (h6 : xs.length ≤ 6) (hx : ∀ y ∈ xs, 0 ≤ y ∧ y ≤ 63) : Calls Tryz.prog 85 #[v] w fun e w' => e = .returned (.bool true) ∧ w = w' := by
  obtain ⟨a, n, c, rfl, HN, hnc, hc⟩ := h.formN
  have hn : 1 ≤ n ∧ n ≤ 6 := by have := HN.out; omega
  have HX := Lib.hid hx
  have d1 : decide ((n : Int) > 6) = false := by simp; omega
  have d2 : ¬ (n : Int) < 1 := by omega
  clear h1 h6 hx
  go_enter Tryz.func85, Tryz.ntmps85
  go_wp2
  go_loopg [15] n (fun g iv wr => ∃ k : Nat, g = n - k ∧ k ≤ n ∧ iv = .int .i64 (k : Int) ∧ w = wr)
  case atStart => exact ⟨0, rfl, Nat.zero_le _, rfl, rfl⟩
  case round =>
    obtain ⟨k, hg, hk, rfl, rfl⟩ := hrel
    by_cases hlt : k < n
    · obtain ⟨ad, x, rfl, hcx, hx⟩ := h.int (k := k) (by have := HN.out; omega)
      have hb := HX.out x (List.mem_of_getElem? hx.out)
      have d3 : ¬ x < 0 := by omega
      have d4 : decide (x > 63) = false := by simp; omega
      go_wp2
      go_roundg (n - (k + 1))
      case measure => omega
      case rel => exact ⟨k + 1, rfl, hlt, by go_num, rfl⟩
    · obtain rfl : k = n := by omega
      go_wp2
      go_ret
      exact ⟨rfl, rfl⟩

set_option maxHeartbeats 1000000 in
theorem i_LeastCover111 (v : Value) (w : World) (h : Rd w v (ints [1, 1, 1])) : Calls Tryz.prog 39 #[v] w fun e w' => e = .returned (.int .i64 1) ∧ w = w' := by
  obtain ⟨a, n, c, rfl, HN, hnc, hc⟩ := h.formN
  obtain rfl : n = 3 := HN.out
  have HP := Lib.hid (i_PlanOk _ _ w h (by simp) (by simp) (fun y hy => by simp at hy; omega))
  obtain ⟨p, x0, rfl, _, _⟩ := h.int (k := 0) (by simp)
  have hP : Pl3 w p := fun k hk => by
    obtain ⟨p', x, e, hcx, hx⟩ := h.int (k := k) (by simpa using hk)
    obtain rfl : p = p' := by injection e
    obtain rfl | rfl | rfl : k = 0 ∨ k = 1 ∨ k = 2 := by omega
    all_goals
      have := hx.out
      simp at this
      rw [← this] at hcx
      exact hcx
  have HM := Lib.hid (mat_0_63 p c w hP)
  clear hP h
  go_enter Tryz.func39, Tryz.ntmps39
  go_wp2_with (first
    | (go_at_call 85; refine HP.out.mono ?_; rintro e w' ⟨rfl, rfl⟩)
    | (go_at_call 86; refine HM.out.mono ?_; rintro e w' ⟨rfl, rfl⟩))
  go_ret
  exact ⟨rfl, rfl⟩

theorem i_isMask23 (w : World) : Calls Tryz.prog 106 #[.int .i64 2, .int .i64 3] w fun e w' => e = .returned (.bool true) ∧ w = w' := by
  go_enter Tryz.func106, Tryz.ntmps106
  go_wp2
  go_ret
  exact ⟨rfl, rfl⟩
theorem i_isInputs313 (v : Value) (w : World) (h : Rd w v (ints [3, 1])) : Calls Tryz.prog 75 #[v, .int .i64 3] w fun e w' => e = .returned (.bool true) ∧ w = w' := by
  obtain ⟨a, n, c, rfl, HN, hnc, hc⟩ := h.formN
  obtain rfl : n = 2 := HN.out
  have HP := Lib.hid (i_PlanOk _ _ w h (by simp) (by simp) (fun y hy => by simp at hy; omega))
  go_enter Tryz.func75, Tryz.ntmps75
  go_wp2_with (first
    | (go_at_call 85; refine HP.out.mono ?_; rintro e w' ⟨rfl, rfl⟩)
    | (go_at_call 106; refine (i_isMask23 _).mono ?_; rintro e w' ⟨rfl, rfl⟩))
  go_ret
  exact ⟨rfl, rfl⟩

theorem led_2 (p : Addr) (c L : Nat) (w : World) : Calls Tryz.prog 76 #[.slice (some p) 2 c, .int .i64 3, .int .i64 2, .int .i64 (L : Int)] w fun e w' => e = .returned (.tuple #[.slice none 0 0, .bool true]) ∧ w = w' := by
  go_enter Tryz.func76, Tryz.ntmps76
  go_wp2
  go_ret2
  exact ⟨rfl, rfl⟩
set_option maxHeartbeats 1000000 in
theorem led_1_62 (p : Addr) (c : Nat) (w : World) (c1 : w.cell? ⟨p.block, p.off + 1, none⟩ = some (.int .i64 1)) : Calls Tryz.prog 76 #[.slice (some p) 2 c, .int .i64 3, .int .i64 1, .int .i64 62] w fun e w' => e = .returned (.tuple #[.slice none 0 0, .bool false]) ∧ w = w' := by
  go_enter Tryz.func76, Tryz.ntmps76
  go_wp2
  go_loopg [37] 6 (fun g kv wr => ∃ k : Nat, g = 6 - k ∧ k ≤ 6 ∧ kv = .int .i64 (k : Int) ∧ w = wr)
  case atStart => exact ⟨0, rfl, Nat.zero_le _, rfl, rfl⟩
  case round =>
    obtain ⟨k, hg, hk, rfl, rfl⟩ := hrel
    by_cases h6 : k < 6
    · have hq : bits BinOp.and IntKind.i64 (bits BinOp.and IntKind.i64 1 62 / 2 ^ k) 1 = 0 := by
        obtain rfl | rfl | rfl | rfl | rfl | rfl : k = 0 ∨ k = 1 ∨ k = 2 ∨ k = 3 ∨ k = 4 ∨ k = 5 := by omega
        all_goals decide
      go_wp2
      go_roundg (6 - (k + 1))
      case measure => omega
      case rel => exact ⟨k + 1, rfl, h6, by go_num, rfl⟩
    · obtain rfl : k = 6 := by omega
      go_wp2
      go_ret2
      exact ⟨rfl, rfl⟩
set_option maxHeartbeats 1000000 in
theorem led_1_61 (p : Addr) (c : Nat) (w : World) (c1 : w.cell? ⟨p.block, p.off + 1, none⟩ = some (.int .i64 1)) : Calls Tryz.prog 76 #[.slice (some p) 2 c, .int .i64 3, .int .i64 1, .int .i64 61] w (RetOwnB 3 (ints [0]) true w) := by
  have HA := Lib.hid (fun (W : World) => led_2 p c 60 W)
  have hB : Below w.heap.size w (w.alloc (.cells #[.int .i64 0] 3)) := (Below.refl _ _).alloc (Nat.le_refl _) _
  have ho := Own.lit w 3 w.heap.size #[.int .i64 0] (Nat.le_refl _) (by simp)
  have hs := hB.size
  go_enter Tryz.func76, Tryz.ntmps76
  go_wp2
  go_loopg [37] 6 (fun g kv wr => kv = .int .i64 0 ∧ w = wr)
  case atStart => exact ⟨rfl, rfl⟩
  case round =>
    obtain ⟨rfl, rfl⟩ := hrel
    go_wp2_with (first
      | (go_at_call 76; refine (HA.out _).mono ?_; rintro e w' ⟨rfl, rfl⟩)
      | (at_builtin; refine wpList_appn rfl _ _ 33 rfl elI ho (Own.nil _ 3 0).rd rfl rfl (by simp) hs 1 (by simp) (by omega) (by omega) ?_; intro b6 c6 w6 ho6 hg6 hat6))
    go_ret2
    exact ⟨_, rfl, by simpa [ints] using ho6, hB.grown hg6 hs (fun r hr => (ho.lt r hr).1)⟩
set_option maxHeartbeats 1000000 in
theorem led_0_63 (p : Addr) (c : Nat) (w : World) (c0 : w.cell? p = some (.int .i64 3)) (c1 : w.cell? ⟨p.block, p.off + 1, none⟩ = some (.int .i64 1)) : Calls Tryz.prog 76 #[.slice (some p) 2 c, .int .i64 3, .int .i64 0, .int .i64 63] w (RetOwnB 3 (ints [1, 0]) true w) := by
  have HA := Lib.hid (led_1_62 p c w c1)
  have HB := Lib.hid (led_1_61 p c w c1)
  clear c1
  go_enter Tryz.func76, Tryz.ntmps76
  go_wp2
  go_loopg [37] 2 (fun g kv wr => ∃ k : Nat, g = 2 - k ∧ k ≤ 1 ∧ kv = .int .i64 (k : Int) ∧ w = wr)
  case atStart => exact ⟨0, rfl, Nat.zero_le _, rfl, rfl⟩
  case round =>
    obtain ⟨k, hg, hk, rfl, rfl⟩ := hrel
    obtain rfl | rfl : k = 0 ∨ k = 1 := by omega
    · go_wp2_with (go_at_call 76; refine HA.out.mono ?_; rintro e w' ⟨rfl, rfl⟩)
      go_roundg 1
      case measure => omega
      case rel => exact ⟨1, rfl, Nat.le_refl _, rfl, rfl⟩
    · have HW : ∀ w1 : World, Below w.heap.size w w1 → Below w.heap.size w (w1.alloc (.cells #[.int .i64 1] 3)) ∧ Own (w1.alloc (.cells #[.int .i64 1] 3)) 3 w.heap.size (.slice (some ⟨w1.heap.size, 0, none⟩) 1 1) (ints [1]) := fun w1 b1 =>
        ⟨b1.alloc b1.size _, by simpa [ints] using Own.lit w1 3 w.heap.size #[.int .i64 1] b1.size (by simp)⟩
      have HWW := Lib.hid HW
      clear HW
      go_wp2_with (first
        | (go_at_call 76; refine HB.out.mono ?_; rintro e w1 ⟨v1, rfl, o1, b1⟩; obtain ⟨a1, m1, d1, rfl, HM1, _, _⟩ := o1.rd.formN; obtain rfl : m1 = 1 := HM1.out; obtain ⟨bA, oA⟩ := HWW.out _ b1; have oB := o1.alloc (.cells #[.int .i64 1] 3); have hs1 := bA.size)
        | (at_builtin; refine wpList_appn rfl _ _ 33 rfl elI oA oB.rd rfl rfl (oneCell_ints1 _) hs1 2 (show (ints [1]).length + (ints [0]).length = 2 from rfl) (by omega) (by omega) ?_; intro b6 c6 w6 ho6 hg6 hat6))
      go_ret2
      exact ⟨_, rfl, by rw [show ints [1, 0] = ints [1] ++ ints [0] from rfl]; exact ho6, bA.grown hg6 hs1 (fun r hr => (oA.lt r hr).1)⟩

set_option maxHeartbeats 1000000 in
theorem i_MatchingOf31 (v : Value) (w : World) (h : Rd w v (ints [3, 1])) : Calls Tryz.prog 31 #[v, .int .i64 3] w (RetOwnB 3 (ints [1, 0]) true w) := by
  have HI := Lib.hid (i_isInputs313 v w h)
  obtain ⟨a, n, c, rfl, HN, hnc, hc⟩ := h.formN
  obtain rfl : n = 2 := HN.out
  obtain ⟨p, x0, rfl, hc0, hx0⟩ := h.int (k := 0) (by simp)
  obtain ⟨p', x1, e, hc1, hx1⟩ := h.int (k := 1) (by simp)
  obtain rfl : p = p' := by injection e
  have e0 := hx0.out
  have e1 := hx1.out
  simp at e0 e1
  subst e0
  subst e1
  rw [add_succ] at hc1
  have HL := Lib.hid (led_0_63 p c w (by simpa [Addr.add] using hc0) (by simpa using hc1))
  clear h hc0 hc1 hx0 hx1 e
  go_enter Tryz.func31, Tryz.ntmps31
  go_wp2_with (first
    | (go_at_call 75; refine HI.out.mono ?_; rintro e w' ⟨rfl, rfl⟩)
    | (go_at_call 76; refine HL.out.mono ?_; rintro e w1 ⟨v1, rfl, o1, b1⟩))
  go_ret2
  exact ⟨_, rfl, o1, b1⟩

end Go.Proofs.YtggblfnajeikjaaGreat
