/- Walks: the line on an order's flips. -/
import Derived.Test.YtlmbaijkeahkfaaDoorFlipE
import Derived.Test.YtlmbaijkeahkfaaDoorFlipJ
import Derived.Test.YtlmbaijkeahkfaaDoorLineI
import Derived.Test.YtlmbaijkeahkfaaDoorStrs
namespace Go.Proofs.YtlmbaijkeahkfaaDoor
open Go.RowKit
set_option linter.unusedVariables false
set_option linter.unusedSimpArgs false

def flipLine (xs : List Int) : List UInt8 :=
  if shortB xs then (if sixB xs then [103, 114, 101, 101, 100, 121, 32] ++ numsB (grL xs) ++ [32, 98, 101, 115, 116, 32] ++ numsB (bestL xs) else [103, 114, 101, 101, 100, 121, 32] ++ numsB (grL xs)) else [110, 111, 110, 101]
theorem grL_bd {xs : List Int} (h : shortB xs = true) : I64s (grL xs) ∧ (grL xs).length ≤ 20 := by
  obtain ⟨h8, hor⟩ := shortB_iff.1 h
  obtain ⟨_, h2, h3⟩ := grK_inv (n := xs.length) ⟨rfl, hor⟩ (xs.length - 1) (Nat.le_refl _)
  exact ⟨fun y hy => by have := h3 y hy; unfold I64; omega, by rw [grL]; omega⟩
theorem bestL_bd {xs : List Int} (h : sixB xs = true) : I64s (bestL xs) ∧ (bestL xs).length ≤ 20 := by
  obtain ⟨h6, hp⟩ := sixB_perm h
  obtain ⟨D, hD⟩ := dist_ex xs.length h6
  obtain ⟨h1, h2⟩ := hD.best_bd hp
  exact ⟨fun y hy => by have := h2 y hy; unfold I64; omega, by omega⟩

set_option maxHeartbeats 2000000 in
theorem S_FlipLine (w : World) (v : Value) (xs : List Int) (h : Rd w v (ints xs)) (_ : I64s xs) (_ : xs.length ≤ 1048576) : Calls Tryd.prog 13 #[v] w (RetB (.string (bstr (flipLine xs))) w) := by
  have HO := s_l14Small v xs w h
  cases hs : shortB xs
  · rw [hs] at HO
    have HR : Hid (flipLine xs = [110, 111, 110, 101]) := by rw [Hid, flipLine, hs]; rfl
    have HOK := Lib.hid HO
    obtain ⟨a, n, c, rfl, HN, hnc, hc⟩ := h.formN
    generalize flipLine xs = R at HR ⊢
    clear HO hs
    go_enter Tryd.func13, Tryd.ntmps13
    go_wp2_with (go_at_call 35; refine HOK.out.mono ?_; rintro e w' ⟨rfl, hb1⟩)
    go_ret
    exact ⟨by rw [HR.out]; rfl, hb1⟩
  rw [hs] at HO
  have HOK := Lib.hid HO
  obtain ⟨hfi, hfl⟩ := grL_bd hs
  have HGR := Lib.hid (fun (W : World) (hW : Below w.heap.size w W) => s_GreedyFlips v xs W (h.below hW) hs)
  have HRX : Hid (flipLine xs = if sixB xs then [103, 114, 101, 101, 100, 121, 32] ++ numsB (grL xs) ++ [32, 98, 101, 115, 116, 32] ++ numsB (bestL xs) else [103, 114, 101, 101, 100, 121, 32] ++ numsB (grL xs)) := by rw [Hid, flipLine, if_pos hs]
  generalize grL xs = fs at HGR hfi hfl HRX
  have hzn := numsB_le hfi hfl
  have g0 : fmtNums fs = numsB fs := by rw [fmtNums, if_neg (by omega)]
  have HF0 := fun (W : World) (u : Value) (hu : Rd W u (ints fs)) => S_FormatNumbers W u _ hu hfi (by omega)
  rw [g0] at HF0
  obtain ⟨F, hF⟩ : ∃ F, bstr (numsB fs) = F := ⟨_, rfl⟩
  have sF : F.size ≤ 3000 := by rw [← hF, bstr_size]; omega
  rw [hF] at HF0
  have HFN := Lib.hid HF0
  have q1 : ¬ 9223372036854775807 < 7 + F.size := by omega
  cases h6 : sixB xs
  · have HBF := Lib.hid (fun (W : World) (hW : Below w.heap.size w W) => s_BestFlipsNo v xs W (h.below hW) h6)
    have HR1 : Hid (bstr (flipLine xs) = (⟨#[103, 114, 101, 101, 100, 121, 32]⟩ : ByteArray) ++ F) := by
      rw [Hid, HRX.out, h6, ← hF]
      show _ = bstr [103, 114, 101, 101, 100, 121, 32] ++ bstr _
      rw [bstr_app]
      rfl
    obtain ⟨a, n, c, rfl, HN, hnc, hc⟩ := h.formN
    generalize bstr (flipLine xs) = R at HR1 ⊢
    clear HO hs h HF0 g0 hzn hfi hfl hF HRX h6
    go_enter Tryd.func13, Tryd.ntmps13
    go_wp2_with (first
      | (go_at_call 35; refine HOK.out.mono ?_; rintro e w' ⟨rfl, hb1⟩)
      | (go_at_call 37; refine (HGR.out _ hb1).mono ?_; rintro e w2 ⟨v2, rfl, ho2, hb2⟩; have hb2' := hb1.trans (hb2.mono hb1.size))
      | (go_at_call 36; refine (HFN.out _ _ ho2.rd).mono ?_; rintro e w3 ⟨rfl, hb3⟩; have hb3' := hb2'.trans (hb3.mono hb2'.size))
      | (go_at_call 38; refine (HBF.out _ hb3').mono ?_; rintro e w4 ⟨v4, rfl, hb4⟩; have hb4' := hb3'.trans (hb4.mono hb3'.size)))
    go_ret
    exact ⟨by rw [HR1.out]; rfl, hb4'⟩
  · obtain ⟨hbi, hbl⟩ := bestL_bd h6
    have HBF := Lib.hid (fun (W : World) (hW : Below w.heap.size w W) => s_BestFlips v xs W (h.below hW) h6)
    generalize bestL xs = bl at HBF hbi hbl HRX
    have hzb := numsB_le hbi hbl
    have g1 : fmtNums bl = numsB bl := by rw [fmtNums, if_neg (by omega)]
    have HF1 := fun (W : World) (u : Value) (hu : Rd W u (ints bl)) => S_FormatNumbers W u _ hu hbi (by omega)
    rw [g1] at HF1
    obtain ⟨B, hB⟩ : ∃ B, bstr (numsB bl) = B := ⟨_, rfl⟩
    have sB : B.size ≤ 3000 := by rw [← hB, bstr_size]; omega
    rw [hB] at HF1
    have HFB := Lib.hid HF1
    have q2 : ¬ 9223372036854775807 < 7 + F.size + 6 := by omega
    have q3 : ¬ 9223372036854775807 < 7 + F.size + 6 + B.size := by omega
    have HR1 : Hid (bstr (flipLine xs) = (⟨#[103, 114, 101, 101, 100, 121, 32]⟩ : ByteArray) ++ F ++ ⟨#[32, 98, 101, 115, 116, 32]⟩ ++ B) := by
      rw [Hid, HRX.out, h6, ← hF, ← hB]
      show _ = bstr [103, 114, 101, 101, 100, 121, 32] ++ bstr _ ++ bstr [32, 98, 101, 115, 116, 32] ++ bstr _
      rw [bstr_app, bstr_app, bstr_app]
      rfl
    obtain ⟨a, n, c, rfl, HN, hnc, hc⟩ := h.formN
    generalize bstr (flipLine xs) = R at HR1 ⊢
    clear HO hs h HF0 g0 hzn hfi hfl hF HRX h6 HF1 g1 hzb hbi hbl hB
    go_enter Tryd.func13, Tryd.ntmps13
    go_upto_region 4 with (first
      | (go_at_call 35; refine HOK.out.mono ?_; rintro e w' ⟨rfl, hb1⟩)
      | (go_at_call 37; refine (HGR.out _ hb1).mono ?_; rintro e w2 ⟨v2, rfl, ho2, hb2⟩; have hb2' := hb1.trans (hb2.mono hb1.size))
      | (go_at_call 36; refine (HFN.out _ _ ho2.rd).mono ?_; rintro e w3 ⟨rfl, hb3⟩; have hb3' := hb2'.trans (hb3.mono hb2'.size)))
    go_wp2_with (first
      | (go_at_call 38; refine (HBF.out _ hb3').mono ?_; rintro e w4 ⟨v4, rfl, ho4, hb4⟩; have hb4' := hb3'.trans (hb4.mono hb3'.size))
      | (go_at_call 36; refine (HFB.out _ _ ho4.rd).mono ?_; rintro e w5 ⟨rfl, hb5⟩; have hb5' := hb4'.trans (hb5.mono hb4'.size)))
    go_ret
    exact ⟨by rw [HR1.out]; rfl, hb5'⟩

set_option maxHeartbeats 2000000 in
theorem I_FlipLine (w : World) (v : Value) (xs : List Int) (h : Rd w v (ints xs)) (_ : I64s xs) (_ : xs.length ≤ 1048576) (ht : Tab w) : Calls Tryd.prog 14 #[v] w (RetB (.string (bstr (flipLine xs))) w) := by
  have HO := i_isShortOrder v xs w h
  cases hs : shortB xs
  · rw [hs] at HO
    have HR : Hid (flipLine xs = [110, 111, 110, 101]) := by rw [Hid, flipLine, hs]; rfl
    have HOK := Lib.hid HO
    obtain ⟨a, n, c, rfl, HN, hnc, hc⟩ := h.formN
    generalize flipLine xs = R at HR ⊢
    clear HO hs
    go_enter Tryd.func14, Tryd.ntmps14
    go_wp2_with (go_at_call 39; refine HOK.out.mono ?_; rintro e w' ⟨rfl, hb1⟩)
    go_ret
    exact ⟨by rw [HR.out]; rfl, hb1⟩
  rw [hs] at HO
  have HOK := Lib.hid HO
  obtain ⟨hfi, hfl⟩ := grL_bd hs
  have HGR := Lib.hid (fun (W : World) (hW : Below w.heap.size w W) => i_GreedyFlips v xs W (h.below hW) hs)
  have HRX : Hid (flipLine xs = if sixB xs then [103, 114, 101, 101, 100, 121, 32] ++ numsB (grL xs) ++ [32, 98, 101, 115, 116, 32] ++ numsB (bestL xs) else [103, 114, 101, 101, 100, 121, 32] ++ numsB (grL xs)) := by rw [Hid, flipLine, if_pos hs]
  generalize grL xs = fs at HGR hfi hfl HRX
  have hzn := numsB_le hfi hfl
  have HFN := Lib.hid (fun (W : World) (u : Value) (hu : Rd W u (ints fs)) (hW : Tab W) => i_numbers W u _ hu hfi (by omega) hW)
  obtain ⟨F, hF⟩ : ∃ F, numsB fs = F := ⟨_, rfl⟩
  rw [hF] at HFN hzn HRX
  have GL1 := Lib.hid (fun W => i_line2 [103, 114, 101, 101, 100, 121] F (by simp) (by omega) W)
  have hL1n : ([103, 114, 101, 101, 100, 121] ++ [32] ++ F : List UInt8).length ≤ 3000 := by simp; omega
  have HRY : Hid ([103, 114, 101, 101, 100, 121, 32] ++ F = [103, 114, 101, 101, 100, 121] ++ [32] ++ F) := by simp [Hid]
  rw [HRY.out] at HRX
  generalize [103, 114, 101, 101, 100, 121] ++ [32] ++ F = L1 at GL1 HRX hL1n
  have K1 : Hid (∀ W : World, Calls Tryd.prog 31 #[.slice (some ⟨W.heap.size, 0, none⟩) 2 2] (W.alloc (.cells #[.string ⟨#[103, 114, 101, 101, 100, 121]⟩, .string (bstr F)] 9)) fun e w' => e = .returned (.string (bstr L1)) ∧ Below W.heap.size W w') := fun W => GL1.out W
  cases h6 : sixB xs
  · have HBF := Lib.hid (fun (W : World) (hW : Below w.heap.size w W) => i_BestFlipsNo v xs W (h.below hW) h6)
    have HR1 : Hid (flipLine xs = L1) := by rw [Hid, HRX.out, h6]; rfl
    obtain ⟨a, n, c, rfl, HN, hnc, hc⟩ := h.formN
    generalize flipLine xs = R at HR1 ⊢
    clear HO hs h hzn hfi hfl hF HRX HRY h6 GL1 hL1n
    go_enter Tryd.func14, Tryd.ntmps14
    go_wp2_with (first
      | (go_at_call 39; refine HOK.out.mono ?_; rintro e w' ⟨rfl, hb1⟩)
      | (go_at_call 41; refine (HGR.out _ hb1).mono ?_; rintro e w2 ⟨v2, rfl, ho2, hb2⟩; have hb2' := hb1.trans (hb2.mono hb1.size))
      | (go_at_call 40; refine (HFN.out _ _ ho2.rd (ht.below hb2')).mono ?_; rintro e w3 ⟨rfl, hb3⟩; have hb3' := hb2'.trans (hb3.mono hb2'.size))
      | (go_at_call 31; (with_reducible refine (K1.out w3).mono ?_); rintro e w4 ⟨rfl, hb4⟩; have hb4' := hb3'.trans (hb4.mono hb3'.size))
      | (go_at_call 42; refine (HBF.out _ hb4').mono ?_; rintro e w5 ⟨v5, rfl, hb5⟩; have hb5' := hb4'.trans (hb5.mono hb4'.size)))
    go_ret
    exact ⟨by rw [HR1.out]; rfl, hb5'⟩
  · obtain ⟨hbi, hbl⟩ := bestL_bd h6
    have HBF := Lib.hid (fun (W : World) (hW : Below w.heap.size w W) => (i_BestFlips v xs W (h.below hW) h6).mono fun e w' h => h.1)
    generalize bestL xs = bl at HBF hbi hbl HRX
    have hzb := numsB_le hbi hbl
    have HFB := Lib.hid (fun (W : World) (u : Value) (hu : Rd W u (ints bl)) (hW : Tab W) => i_numbers W u _ hu hbi (by omega) hW)
    obtain ⟨B, hB⟩ : ∃ B, numsB bl = B := ⟨_, rfl⟩
    rw [hB] at HFB hzb HRX
    have GL3 := Lib.hid (fun W => i_line3 L1 [98, 101, 115, 116] B (by omega) (by simp) (by omega) W)
    have HR1 : Hid (flipLine xs = L1 ++ [32] ++ [98, 101, 115, 116] ++ [32] ++ B) := by rw [Hid, HRX.out, h6]; simp
    generalize L1 ++ [32] ++ [98, 101, 115, 116] ++ [32] ++ B = R3 at GL3 HR1
    have K3 : Hid (∀ W : World, Calls Tryd.prog 31 #[.slice (some ⟨W.heap.size, 0, none⟩) 3 3] (W.alloc (.cells #[.string (bstr L1), .string ⟨#[98, 101, 115, 116]⟩, .string (bstr B)] 9)) fun e w' => e = .returned (.string (bstr R3)) ∧ Below W.heap.size W w') := fun W => GL3.out W
    obtain ⟨a, n, c, rfl, HN, hnc, hc⟩ := h.formN
    generalize flipLine xs = R at HR1 ⊢
    clear HO hs h hzn hfi hfl hF HRX HRY h6 GL1 hL1n hzb hbi hbl hB GL3
    go_enter Tryd.func14, Tryd.ntmps14
    go_upto_region 4 with (first
      | (go_at_call 39; refine HOK.out.mono ?_; rintro e w' ⟨rfl, hb1⟩)
      | (go_at_call 41; refine (HGR.out _ hb1).mono ?_; rintro e w2 ⟨v2, rfl, ho2, hb2⟩; have hb2' := hb1.trans (hb2.mono hb1.size))
      | (go_at_call 40; refine (HFN.out _ _ ho2.rd (ht.below hb2')).mono ?_; rintro e w3 ⟨rfl, hb3⟩; have hb3' := hb2'.trans (hb3.mono hb2'.size))
      | (go_at_call 31; (with_reducible refine (K1.out w3).mono ?_); rintro e w4 ⟨rfl, hb4⟩; have hb4' := hb3'.trans (hb4.mono hb3'.size)))
    go_wp2_with (first
      | (go_at_call 42; refine (HBF.out _ hb4').mono ?_; rintro e w5 ⟨v5, rfl, ho5, hb5⟩; have hb5' := hb4'.trans (hb5.mono hb4'.size))
      | (go_at_call 40; refine (HFB.out _ _ ho5.rd (ht.below hb5')).mono ?_; rintro e w6 ⟨rfl, hb6⟩; have hb6' := hb5'.trans (hb6.mono hb5'.size))
      | (go_at_call 31; (with_reducible refine (K3.out w6).mono ?_); rintro e w7 ⟨rfl, hb7⟩; have hb7' := hb6'.trans (hb7.mono hb6'.size)))
    go_ret
    exact ⟨by rw [HR1.out]; rfl, hb7'⟩

end Go.Proofs.YtlmbaijkeahkfaaDoor
