/- Joined texts of the proof: FlipLine. -/
import Derived.WalkKit
import Derived.WalkSpells
import Derived.WalkLawsBesides
import Derived.Deep.Draws
import Derived.Lib.Hide
import Derived.RegionTactic
import Derived.Lib.SmallJoins
import Derived.Test.YtggblfnajeikjaaGreatDoorRows
import Derived.BigQuiet
import Derived.Deep.QuietTactic
import Derived.Deep.DeepCutAuto
import Derived.Deep.LoopGhost
import Derived.Deep.RegionWith
import Derived.Lib.ItoaNum
import Derived.Deep.RegionHeld3
import Derived.IntWalk
import Derived.Lib.Join
import Derived.Shelf.Strings.Builder1
import Derived.Shelf.Strings.Builder2
import Derived.Shelf.Strings.OnBuilder
import Derived.Shelf.Strconv.Atoi
import Derived.Shelf.Strconv.Itoa0
import Derived.Shelf.Strconv.Itoa1
import Derived.Shelf.LaysM
import Derived.Shelf.Strconv.Itoa2
import Derived.Shelf.Strconv.Itoa3
import Derived.Shelf.Strconv.AtoiErrFast
import Derived.Shelf.Strconv.ParseIntEmpty
import Derived.Shelf.Strconv.AtoiFail
import Derived.Shelf.Strconv.Clone
import Derived.Shelf.Strconv.SyntaxError
import Derived.Shelf.LaysC
import Derived.Shelf.Strconv.ToError
import Derived.Shelf.Strconv.Lower
import Derived.Shelf.Strconv.ParseUint10
import Derived.Shelf.Strconv.ParseUint10Empty
import Derived.Shelf.Strconv.ParseUint10Any
import Derived.Shelf.Strconv.ParseInt10
import Derived.Shelf.Strconv.AtoiLong
import Derived.Shelf.Strconv.AtoiInnerAll
import Derived.Shelf.Strconv.RangeError
import Derived.Shelf.Strconv.ToErrorRange
import Derived.Shelf.Strconv.AtoiAll
import Derived.Shelf.Strconv.ErrVarAll
import Derived.Shelf.Strings.Search1
import Derived.Shelf.Strings.Search2
import Derived.Shelf.Strings.Search3
import Derived.Shelf.Strings.Cut
import Derived.Shelf.Strings.Count
import Derived.Shelf.Strings.Shaped
import Derived.Shelf.Sort.Plain
import Derived.Shelf.Strings.Prefix
import Derived.Shelf.Strings.Split
import Derived.Shelf.Unicode.DecodeSlow
import Derived.Shelf.Slices.Reverse
import Derived.Ground.Names2Prog
import Derived.Shelf.Slices.CompactI
import Derived.Test.YtggblfnajeikjaaGreatDoorProg
import Derived.Lib.RowBridge
import Derived.Sort.OwnSortedInts
import Derived.Lib.LazyBuf
import Derived.Maps.OwnOps
import Derived.Maps.OwnSet
import Derived.Maps.Views
import Derived.Carry
import Derived.Test.YtggblfnajeikjaaGreatDoorJ1
import Derived.Test.YtggblfnajeikjaaGreatDoorJ3
import Derived.Test.YtggblfnajeikjaaGreatDoorJ6
import Derived.Test.YtggblfnajeikjaaGreatDoorJ7
import Derived.Test.YtggblfnajeikjaaGreatDoorJ9
import Derived.Test.YtggblfnajeikjaaGreatDoorJ10
import Derived.Test.YtggblfnajeikjaaGreatDoorJ11
import Derived.Test.YtggblfnajeikjaaGreatDoorJ16
import Derived.Test.YtggblfnajeikjaaGreatDoorJ19
import Derived.Test.YtggblfnajeikjaaGreatDoorJ31
import Derived.Test.YtggblfnajeikjaaGreatDoorJ34
import Derived.Test.YtggblfnajeikjaaGreatDoorJ35
import Derived.Test.YtggblfnajeikjaaGreatDoorJ38
import Derived.Test.YtggblfnajeikjaaGreatDoorJ39
import Derived.Test.YtggblfnajeikjaaGreatDoorJ43
import Derived.Test.YtggblfnajeikjaaGreatDoorJ46
namespace Go.Proofs.YtggblfnajeikjaaGreatDoor
open Go.RowKit
set_option linter.unusedVariables false
set_option linter.unusedSimpArgs false

def flipLine (xs : List Int) : List UInt8 :=
  if shortB xs then (if sixB xs then [103, 114, 101, 101, 100, 121, 32] ++ numsB (grL xs) ++ [32, 98, 101, 115, 116, 32] ++ numsB (bestL xs) else [103, 114, 101, 101, 100, 121, 32] ++ numsB (grL xs)) else [110, 111, 110, 101]
theorem grL_bd {xs : List Int} (h : shortB xs = true) : I64s (grL xs) ∧ (grL xs).length ≤ 20 := by
  obtain ⟨h8, hor⟩ := shortB_iff.1 h
  obtain ⟨_, h2, h3⟩ := grK_inv (n := xs.length) ⟨rfl, hor⟩ (xs.length - 1) (Nat.le_refl _)
  exact ⟨fun y hy => by have := h3 y hy; unfold I64; omega, by rw [grL]; omega⟩
theorem bestL_bd {xs : List Int} (h : sixB xs = true) : I64s (bestL xs) ∧ (bestL xs).length ≤ 20 := by
  obtain ⟨h6, hp⟩ := sixB_perm h
  obtain ⟨D, hD⟩ := dist_ex xs.length h6
  obtain ⟨h1, h2⟩ := hD.best_bd hp
  exact ⟨fun y hy => by have := h2 y hy; unfold I64; omega, by omega⟩

set_option maxHeartbeats 2000000 in
theorem I_FlipLine (w : World) (v : Value) (xs : List Int) (h : Rd w v (ints xs)) (_ : I64s xs) (_ : xs.length ≤ 1048576) (ht : Tab w) : Calls Tryz.prog 34 #[v] w (RetB (.string (bstr (flipLine xs))) w) := by
  have HO := i_isShortOrder v xs w h
  cases hs : shortB xs
  · rw [hs] at HO
    have HR : Hid (flipLine xs = [110, 111, 110, 101]) := by rw [Hid, flipLine, hs]; rfl
    have HOK := Lib.hid HO
    obtain ⟨a, n, c, rfl, HN, hnc, hc⟩ := h.formN
    generalize flipLine xs = R at HR ⊢
    clear HO hs
    go_enter Tryz.func34, Tryz.ntmps34
    go_wp2_with (go_at_call 81; refine HOK.out.mono ?_; rintro e w' ⟨rfl, hb1⟩)
    go_ret
    exact ⟨by rw [HR.out]; rfl, hb1⟩
  rw [hs] at HO
  have HOK := Lib.hid HO
  obtain ⟨hfi, hfl⟩ := grL_bd hs
  have HGR := Lib.hid (fun (W : World) (hW : Below w.heap.size w W) => i_GreedyFlips v xs W (h.below hW) hs)
  have HRX : Hid (flipLine xs = if sixB xs then [103, 114, 101, 101, 100, 121, 32] ++ numsB (grL xs) ++ [32, 98, 101, 115, 116, 32] ++ numsB (bestL xs) else [103, 114, 101, 101, 100, 121, 32] ++ numsB (grL xs)) := by rw [Hid, flipLine, if_pos hs]
  generalize grL xs = fs at HGR hfi hfl HRX
  have hzn := numsB_le hfi hfl
  have HFN := Lib.hid (fun (W : World) (u : Value) (hu : Rd W u (ints fs)) (hW : Tab W) => i_numbers W u _ hu hfi (by omega) hW)
  obtain ⟨F, hF⟩ : ∃ F, numsB fs = F := ⟨_, rfl⟩
  rw [hF] at HFN hzn HRX
  have GL1 := Lib.hid (fun W => i_line2 [103, 114, 101, 101, 100, 121] F (by simp) (by omega) W)
  have hL1n : ([103, 114, 101, 101, 100, 121] ++ [32] ++ F : List UInt8).length ≤ 3000 := by simp; omega
  have HRY : Hid ([103, 114, 101, 101, 100, 121, 32] ++ F = [103, 114, 101, 101, 100, 121] ++ [32] ++ F) := by simp [Hid]
  rw [HRY.out] at HRX
  generalize [103, 114, 101, 101, 100, 121] ++ [32] ++ F = L1 at GL1 HRX hL1n
  have K1 : Hid (∀ W : World, Calls Tryz.prog 61 #[.slice (some ⟨W.heap.size, 0, none⟩) 2 2] (W.alloc (.cells #[.string ⟨#[103, 114, 101, 101, 100, 121]⟩, .string (bstr F)] 9)) fun e w' => e = .returned (.string (bstr L1)) ∧ Below W.heap.size W w') := fun W => GL1.out W
  cases h6 : sixB xs
  · have HBF := Lib.hid (fun (W : World) (hW : Below w.heap.size w W) => i_BestFlipsNo v xs W (h.below hW) h6)
    have HR1 : Hid (flipLine xs = L1) := by rw [Hid, HRX.out, h6]; rfl
    obtain ⟨a, n, c, rfl, HN, hnc, hc⟩ := h.formN
    generalize flipLine xs = R at HR1 ⊢
    clear HO hs h hzn hfi hfl hF HRX HRY h6 GL1 hL1n
    go_enter Tryz.func34, Tryz.ntmps34
    go_wp2_with (first
      | (go_at_call 81; refine HOK.out.mono ?_; rintro e w' ⟨rfl, hb1⟩)
      | (go_at_call 35; refine (HGR.out _ hb1).mono ?_; rintro e w2 ⟨v2, rfl, ho2, hb2⟩; have hb2' := hb1.trans (hb2.mono hb1.size))
      | (go_at_call 46; refine (HFN.out _ _ ho2.rd (ht.below hb2')).mono ?_; rintro e w3 ⟨rfl, hb3⟩; have hb3' := hb2'.trans (hb3.mono hb2'.size))
      | (go_at_call 61; (with_reducible refine (K1.out w3).mono ?_); rintro e w4 ⟨rfl, hb4⟩; have hb4' := hb3'.trans (hb4.mono hb3'.size))
      | (go_at_call 28; refine (HBF.out _ hb4').mono ?_; rintro e w5 ⟨v5, rfl, hb5⟩; have hb5' := hb4'.trans (hb5.mono hb4'.size)))
    go_ret
    exact ⟨by rw [HR1.out]; rfl, hb5'⟩
  · obtain ⟨hbi, hbl⟩ := bestL_bd h6
    have HBF := Lib.hid (fun (W : World) (hW : Below w.heap.size w W) => (i_BestFlips v xs W (h.below hW) h6).mono fun e w' h => h.1)
    generalize bestL xs = bl at HBF hbi hbl HRX
    have hzb := numsB_le hbi hbl
    have HFB := Lib.hid (fun (W : World) (u : Value) (hu : Rd W u (ints bl)) (hW : Tab W) => i_numbers W u _ hu hbi (by omega) hW)
    obtain ⟨B, hB⟩ : ∃ B, numsB bl = B := ⟨_, rfl⟩
    rw [hB] at HFB hzb HRX
    have GL3 := Lib.hid (fun W => i_line3 L1 [98, 101, 115, 116] B (by omega) (by simp) (by omega) W)
    have HR1 : Hid (flipLine xs = L1 ++ [32] ++ [98, 101, 115, 116] ++ [32] ++ B) := by rw [Hid, HRX.out, h6]; simp
    generalize L1 ++ [32] ++ [98, 101, 115, 116] ++ [32] ++ B = R3 at GL3 HR1
    have K3 : Hid (∀ W : World, Calls Tryz.prog 61 #[.slice (some ⟨W.heap.size, 0, none⟩) 3 3] (W.alloc (.cells #[.string (bstr L1), .string ⟨#[98, 101, 115, 116]⟩, .string (bstr B)] 9)) fun e w' => e = .returned (.string (bstr R3)) ∧ Below W.heap.size W w') := fun W => GL3.out W
    obtain ⟨a, n, c, rfl, HN, hnc, hc⟩ := h.formN
    generalize flipLine xs = R at HR1 ⊢
    clear HO hs h hzn hfi hfl hF HRX HRY h6 GL1 hL1n hzb hbi hbl hB GL3
    go_enter Tryz.func34, Tryz.ntmps34
    go_upto_region 4 with (first
      | (go_at_call 81; refine HOK.out.mono ?_; rintro e w' ⟨rfl, hb1⟩)
      | (go_at_call 35; refine (HGR.out _ hb1).mono ?_; rintro e w2 ⟨v2, rfl, ho2, hb2⟩; have hb2' := hb1.trans (hb2.mono hb1.size))
      | (go_at_call 46; refine (HFN.out _ _ ho2.rd (ht.below hb2')).mono ?_; rintro e w3 ⟨rfl, hb3⟩; have hb3' := hb2'.trans (hb3.mono hb2'.size))
      | (go_at_call 61; (with_reducible refine (K1.out w3).mono ?_); rintro e w4 ⟨rfl, hb4⟩; have hb4' := hb3'.trans (hb4.mono hb3'.size)))
    go_wp2_with (first
      | (go_at_call 28; refine (HBF.out _ hb4').mono ?_; rintro e w5 ⟨v5, rfl, ho5, hb5⟩; have hb5' := hb4'.trans (hb5.mono hb4'.size))
      | (go_at_call 46; refine (HFB.out _ _ ho5.rd (ht.below hb5')).mono ?_; rintro e w6 ⟨rfl, hb6⟩; have hb6' := hb5'.trans (hb6.mono hb5'.size))
      | (go_at_call 61; (with_reducible refine (K3.out w6).mono ?_); rintro e w7 ⟨rfl, hb7⟩; have hb7' := hb6'.trans (hb7.mono hb6'.size)))
    go_ret
    exact ⟨by rw [HR1.out]; rfl, hb7'⟩

end Go.Proofs.YtggblfnajeikjaaGreatDoor
