/- Walks: the line on a network. -/
import Derived.Test.YtlmbaijkeahkfaaDoorBits5
import Derived.Test.YtlmbaijkeahkfaaDoorLineI
import Derived.Test.YtlmbaijkeahkfaaDoorStrs
namespace Go.Proofs.YtlmbaijkeahkfaaDoor
open Go.RowKit
set_option linter.unusedVariables false
set_option linter.unusedSimpArgs false

def netHead (n : Int) (xss : List (List Int)) : List UInt8 := [112, 97, 105, 114, 115, 32] ++ Lib.itoa xss.length ++ [32, 100, 101, 112, 116, 104, 32] ++ Lib.itoa (depthOf n xss)
def netLine (n : Int) (xss : List (List Int)) : List UInt8 :=
  if netOk n xss then (if failsB n xss then netHead n xss ++ [32, 102, 97, 105, 108, 115, 32] ++ numsB (failLs n xss) else netHead n xss ++ [32, 115, 111, 114, 116, 115]) else [110, 111, 110, 101]

set_option maxRecDepth 100000 in
set_option maxHeartbeats 4000000 in
theorem S_NetworkLine (w : World) (n : Int) (hn : I64 n) (v : Value) (xss : List (List Int)) (h : Rd2 w v xss) (_ : I64ss xss) (_ : SzOk xss) : Calls Tryd.prog 16 #[.agg #[.int .i64 n, v]] w (RetB (.string (bstr (netLine n xss))) w) := by
  obtain ⟨a, c, rfl, h2, h3⟩ := h.form
  obtain ⟨w0, hw0, hb0, hz0, c0, c1⟩ := net_box w (.int .i64 n) (.slice a xss.length c) 32
  have h' := h.below hb0
  have HN := s_NetworkOk n _ xss _ h' hn
  cases hk : netOk n xss
  · rw [hk] at HN
    have HR : Hid (netLine n xss = [110, 111, 110, 101]) := by simp [netLine, hk, Hid]
    go_enter Tryd.func16, Tryd.ntmps16
    go_wp2_with (go_at_call 44; refine HN.mono ?_; rintro e w2 ⟨rfl, hb2⟩)
    go_ret
    exact ⟨by rw [HR.out]; rfl, hb0.trans (hb2.mono (by omega))⟩
  rw [hk] at HN
  have hdb := depthOf_bound hk
  obtain ⟨N, rfl, hN1, hN8, hL60⟩ := netOk_n hk
  obtain ⟨hi, hl8⟩ := failLs_ok (n := (N : Int)) (xss := xss)
  have GF := Lib.hid (fun (W : World) (hW : Below w.heap.size w W) => s_FailingList (N : Int) _ xss W (h.below hW) hn)
  have GD := Lib.hid (fun (W : World) (hW : Below w.heap.size w W) => s_DepthOf (N : Int) _ xss W (h.below hW) hn)
  have hzn := numsB_le hi hl8
  have g0 : fmtNums (failLs (N : Int) xss) = numsB (failLs (N : Int) xss) := by rw [fmtNums, if_neg (by omega)]
  have HF0 := fun (W : World) (u : Value) (hu : Rd W u (ints (failLs (N : Int) xss))) => S_FormatNumbers W u _ hu hi (by omega)
  rw [g0] at HF0
  have HR : Hid ((failsB (N : Int) xss = true → netLine (N : Int) xss = netHead (N : Int) xss ++ [32, 102, 97, 105, 108, 115, 32] ++ numsB (failLs (N : Int) xss)) ∧ (failsB (N : Int) xss = false → netLine (N : Int) xss = netHead (N : Int) xss ++ [32, 115, 111, 114, 116, 115])) := ⟨fun h => by simp [netLine, hk, h], fun h => by simp [netLine, hk, h]⟩
  have HH : Hid (netHead (N : Int) xss = [112, 97, 105, 114, 115, 32] ++ Lib.itoa xss.length ++ [32, 100, 101, 112, 116, 104, 32] ++ Lib.itoa (depthOf (N : Int) xss)) := rfl
  obtain ⟨D, hD⟩ : ∃ D, depthOf (N : Int) xss = D := ⟨_, rfl⟩
  rw [hD] at GD hdb HH
  have zA := (itoa_len (n := (xss.length : Int)) (show I64 _ by unfold I64; omega)).2
  have zB := (itoa_len (n := D) (show I64 _ by unfold I64; omega)).2
  have HI0 := Lib.hid (fun (W : World) => S_FormatInt W (xss.length : Int) (by unfold I64; omega))
  have HI1 := Lib.hid (fun (W : World) => S_FormatInt W D (by unfold I64; omega))
  obtain ⟨A, hA⟩ : ∃ A, bstr (Lib.itoa xss.length) = A := ⟨_, rfl⟩
  obtain ⟨B, hB⟩ : ∃ B, bstr (Lib.itoa D) = B := ⟨_, rfl⟩
  obtain ⟨F, hF⟩ : ∃ F, bstr (numsB (failLs (N : Int) xss)) = F := ⟨_, rfl⟩
  have sA : A.size ≤ 20 := by rw [← hA, bstr_size]; exact zA
  have sB : B.size ≤ 20 := by rw [← hB, bstr_size]; exact zB
  have sF : F.size ≤ 1000 := by rw [← hF, bstr_size]; omega
  rw [hF] at HF0
  have HFN := Lib.hid HF0
  have HHB : Hid (bstr (netHead (N : Int) xss) = (⟨#[112, 97, 105, 114, 115, 32]⟩ : ByteArray) ++ A ++ ⟨#[32, 100, 101, 112, 116, 104, 32]⟩ ++ B) := by
    rw [Hid, HH.out, ← hA, ← hB]
    show _ = bstr [112, 97, 105, 114, 115, 32] ++ bstr _ ++ bstr [32, 100, 101, 112, 116, 104, 32] ++ bstr _
    rw [bstr_app, bstr_app, bstr_app]
  have HRF : Hid (bstr (netHead (N : Int) xss ++ [32, 102, 97, 105, 108, 115, 32] ++ numsB (failLs (N : Int) xss)) = bstr (netHead (N : Int) xss) ++ (⟨#[32, 102, 97, 105, 108, 115, 32]⟩ : ByteArray) ++ F) := by
    rw [Hid, ← hF]
    show _ = bstr _ ++ bstr [32, 102, 97, 105, 108, 115, 32] ++ bstr _
    rw [bstr_app, bstr_app]
  have HRS : Hid (bstr (netHead (N : Int) xss ++ [32, 115, 111, 114, 116, 115]) = bstr (netHead (N : Int) xss) ++ (⟨#[32, 115, 111, 114, 116, 115]⟩ : ByteArray)) := by
    rw [Hid]
    show _ = bstr _ ++ bstr [32, 115, 111, 114, 116, 115]
    rw [bstr_app]
  have KI0 : Hid (∀ W, Calls Tryd.prog 27 #[.int .i64 (xss.length : Int)] W (RetB (.string A) W)) := fun W => by rw [← hA]; exact HI0.out W
  have KI1 : Hid (∀ W, Calls Tryd.prog 27 #[.int .i64 D] W (RetB (.string B) W)) := fun W => by rw [← hB]; exact HI1.out W
  have q1 : ¬ 9223372036854775807 < 6 + A.size := by omega
  have q2 : ¬ 9223372036854775807 < 6 + A.size + 7 := by omega
  have q3 : ¬ 9223372036854775807 < 6 + A.size + 7 + B.size := by omega
  have q4 : ¬ 9223372036854775807 < 6 + A.size + 7 + B.size + 7 := by omega
  have q5 : ¬ 9223372036854775807 < 6 + A.size + 7 + B.size + 7 + F.size := by omega
  have q6 : ¬ 9223372036854775807 < 6 + A.size + 7 + B.size + 6 := by omega
  have C0 := Lib.hid c0
  have C1 := Lib.hid c1
  have HLS := Lib.hid (rfl : failLs (N : Int) xss = failLs (N : Int) xss)
  obtain ⟨bf, hbf⟩ : ∃ bf, failsB (N : Int) xss = bf := ⟨_, rfl⟩
  rw [hbf] at GF HR
  have hn' := hn
  clear hk hD hA hB hF HI0 HI1 HF0 g0 hzn zA zB hi hl8 hbf HH hdb
  go_enter Tryd.func16, Tryd.ntmps16
  go_wp2_with (go_at_call 44; refine HN.mono ?_; rintro e w2 ⟨rfl, hb2⟩; have hbw2 : Below w.heap.size w w2 := hb0.trans (hb2.mono (by omega)); obtain ⟨c0, c1⟩ := Below.cells2 hb2 (show w.heap.size < w0.heap.size by omega) C0.out C1.out)
  have HT := keep_box c0 c1
  have K0 : Hid (∀ W : World, Below w2.heap.size w2 W → Calls Tryd.prog 27 #[.int .i64 (xss.length : Int)] W fun e w' => e = .returned (.string A) ∧ Below w2.heap.size w2 w') := fun W hW => (KI0.out W).mono fun e w' h => ⟨h.1, hW.trans (h.2.mono hW.size)⟩
  have K1 : Hid (∀ W : World, Below w2.heap.size w2 W → Calls Tryd.prog 27 #[.int .i64 D] W fun e w' => e = .returned (.string B) ∧ Below w2.heap.size w2 w') := fun W hW => (KI1.out W).mono fun e w' h => ⟨h.1, hW.trans (h.2.mono hW.size)⟩
  have K2 : Hid (∀ W : World, Below w2.heap.size w2 W → Calls Tryd.prog 45 #[.agg #[.int .i64 N, .slice a xss.length c]] W fun e w' => e = .returned (.int .i64 D) ∧ Below w2.heap.size w2 w') := fun W hW => (GD.out W (hbw2.trans (hW.mono hbw2.size))).mono fun e w' h => ⟨h.1, hW.trans (h.2.mono hW.size)⟩
  have BW2 := Lib.hid hbw2
  clear KI0 KI1 GD c0 c1 C0 C1 HN hbw2 hb2 hb0 h h'
  go_region_held3 (fun wx => Below w2.heap.size w2 wx ∧ wx.cell? ⟨w.heap.size, 0, none⟩ = some (.int .i64 N) ∧ wx.cell? ⟨w.heap.size, 1, none⟩ = some (.slice a xss.length c))
    (first | exact HT.out _ g3 | exact HT.out _ (by exact ⟨rfl, rfl, rfl, Nat.le_refl _, fun _ _ => rfl⟩) | go_keep)
    (first
      | (go_at_call 27; (with_reducible refine (K0.out _ (by exact (show _ ∧ _ ∧ _ from by assumption).1)).mono ?_); rintro e w3 ⟨rfl, g3⟩)
      | (go_at_call 27; (with_reducible refine (K1.out _ (by exact (show _ ∧ _ ∧ _ from by assumption).1)).mono ?_); rintro e w3 ⟨rfl, g3⟩)
      | (go_at_call 45; (with_reducible refine (K2.out _ (by exact (show _ ∧ _ ∧ _ from by assumption).1)).mono ?_); rintro e w3 ⟨rfl, g3⟩))
  all_goals
    have bt : Below w.heap.size w w3 := BW2.out.trans (g3.mono BW2.out.size)
    obtain ⟨_, d0, d1⟩ := HT.out _ g3
    have KF := GF.out w3 bt
    have KN := Lib.hid (fun (W : World) (u : Value) (hu : Rd W u (ints (failLs (N : Int) xss))) => HFN.out W u hu)
    cases bf
    · go_wp2_with (go_at_call 46; refine KF.mono ?_; rintro e w4 ⟨vo, rfl, ho4, hb4⟩; obtain ⟨ao, no, co, rfl, _, _, _⟩ := ho4.rd.formN)
      go_ret
      exact ⟨by rw [HR.out.2 (by trivial), HRS.out, HHB.out]; rfl, bt.trans (hb4.mono bt.size)⟩
    · go_wp2_with (first
        | (go_at_call 46; refine KF.mono ?_; rintro e w4 ⟨vo, rfl, ho4, hb4⟩; obtain ⟨ao, no, co, rfl, _, _, _⟩ := ho4.rd.formN)
        | (go_at_call 36; refine (KN.out _ _ ho4.rd).mono ?_; rintro e w5 ⟨rfl, hb5⟩))
      go_ret
      exact ⟨by rw [HR.out.1 (by trivial), HRF.out, HHB.out]; rfl, bt.trans ((hb4.trans (hb5.mono hb4.size)).mono bt.size)⟩

set_option maxRecDepth 100000 in
set_option maxHeartbeats 4000000 in
theorem I_NetworkLine (w : World) (n : Int) (hn : I64 n) (v : Value) (xss : List (List Int)) (h : Rd2 w v xss) (_ : I64ss xss) (_ : SzOk xss) (ht : Tab w) : Calls Tryd.prog 18 #[.agg #[.int .i64 n, v]] w (RetB (.string (bstr (netLine n xss))) w) := by
  obtain ⟨a, c, rfl, h2, h3⟩ := h.form
  obtain ⟨w0, hw0, hb0, hz0, c0, c1⟩ := net_box w (.int .i64 n) (.slice a xss.length c) 32
  have h' := h.below hb0
  have HN := i_NetworkOk n _ xss _ h' hn
  cases hk : netOk n xss
  · rw [hk] at HN
    have HR : Hid (netLine n xss = [110, 111, 110, 101]) := by simp [netLine, hk, Hid]
    go_enter Tryd.func18, Tryd.ntmps18
    go_wp2_with (go_at_call 48; refine HN.mono ?_; rintro e w2 ⟨rfl, hb2⟩)
    go_ret
    exact ⟨by rw [HR.out]; rfl, hb0.trans (hb2.mono (by omega))⟩
  rw [hk] at HN
  have hdb := depthOf_bound hk
  obtain ⟨N, rfl, hN1, hN8, hL60⟩ := netOk_n hk
  obtain ⟨hi, hl8⟩ := failLs_ok (n := (N : Int)) (xss := xss)
  have GF := Lib.hid (fun (W : World) (hW : Below w.heap.size w W) => i_FailingList (N : Int) _ xss W (h.below hW) hn)
  have GD := Lib.hid (fun (W : World) (hW : Below w.heap.size w W) => i_DepthOf (N : Int) _ xss W (h.below hW) hn)
  have hzn := numsB_le hi hl8
  have HFN := Lib.hid (fun (W : World) (u : Value) (hu : Rd W u (ints (failLs (N : Int) xss))) (hW : Tab W) => i_numbers W u _ hu hi (by omega) hW)
  have HR : Hid ((failsB (N : Int) xss = true → netLine (N : Int) xss = netHead (N : Int) xss ++ [32] ++ [102, 97, 105, 108, 115] ++ [32] ++ numsB (failLs (N : Int) xss)) ∧ (failsB (N : Int) xss = false → netLine (N : Int) xss = netHead (N : Int) xss ++ [32] ++ [115, 111, 114, 116, 115])) := ⟨fun h => by simp [netLine, hk, h], fun h => by simp [netLine, hk, h]⟩
  have HH : Hid ([112, 97, 105, 114, 115] ++ [32] ++ Lib.itoa xss.length ++ [32] ++ [100, 101, 112, 116, 104] ++ [32] ++ Lib.itoa (depthOf (N : Int) xss) = netHead (N : Int) xss) := by simp [netHead, Hid]
  obtain ⟨D, hD⟩ : ∃ D, depthOf (N : Int) xss = D := ⟨_, rfl⟩
  rw [hD] at GD hdb HH
  have zA := (itoa_len (n := (xss.length : Int)) (show I64 _ by unfold I64; omega)).2
  have zB := (itoa_len (n := D) (show I64 _ by unfold I64; omega)).2
  have zH : (netHead (N : Int) xss).length ≤ 100 := by rw [← HH.out]; simp; omega
  have KI0 := Lib.hid (fun (W : World) (hW : Tab W) => I_FormatInt W (xss.length : Int) (by unfold I64; omega) hW)
  have KI1 := Lib.hid (fun (W : World) (hW : Tab W) => I_FormatInt W D (by unfold I64; omega) hW)
  have GL := Lib.hid (fun W => i_line4 [112, 97, 105, 114, 115] (Lib.itoa xss.length) [100, 101, 112, 116, 104] (Lib.itoa D) (by simp) (by omega) (by simp) (by omega) W)
  rw [HH.out] at GL
  have GL2 := Lib.hid (fun W => i_line2 (netHead (N : Int) xss) [115, 111, 114, 116, 115] (by omega) (by simp) W)
  have GL3 := Lib.hid (fun W => i_line3 (netHead (N : Int) xss) [102, 97, 105, 108, 115] (numsB (failLs (N : Int) xss)) (by omega) (by simp) (by omega) W)
  obtain ⟨H, hH⟩ : ∃ H, netHead (N : Int) xss = H := ⟨_, rfl⟩
  rw [hH] at GL GL2 GL3 HR
  generalize Lib.itoa (xss.length : Int) = A at KI0 GL
  generalize Lib.itoa D = B at KI1 GL
  have C0 := Lib.hid c0
  have C1 := Lib.hid c1
  obtain ⟨bf, hbf⟩ : ∃ bf, failsB (N : Int) xss = bf := ⟨_, rfl⟩
  rw [hbf] at GF HR
  clear hk hD hzn zA zB hi hl8 hbf HH hdb hH zH
  go_enter Tryd.func18, Tryd.ntmps18
  go_wp2_with (go_at_call 48; refine HN.mono ?_; rintro e w2 ⟨rfl, hb2⟩; have hbw2 : Below w.heap.size w w2 := hb0.trans (hb2.mono (by omega)); obtain ⟨c0, c1⟩ := Below.cells2 hb2 (show w.heap.size < w0.heap.size by omega) C0.out C1.out)
  have HT := keep_box c0 c1
  have K0 : Hid (∀ W : World, Below w2.heap.size w2 W → Calls Tryd.prog 32 #[.int .i64 (xss.length : Int)] W fun e w' => e = .returned (.string (bstr A)) ∧ Below w2.heap.size w2 w') := fun W hW => (KI0.out W (ht.below (hbw2.trans (hW.mono hbw2.size)))).mono fun e w' h => ⟨h.1, hW.trans (h.2.mono hW.size)⟩
  have K1 : Hid (∀ W : World, Below w2.heap.size w2 W → Calls Tryd.prog 32 #[.int .i64 D] W fun e w' => e = .returned (.string (bstr B)) ∧ Below w2.heap.size w2 w') := fun W hW => (KI1.out W (ht.below (hbw2.trans (hW.mono hbw2.size)))).mono fun e w' h => ⟨h.1, hW.trans (h.2.mono hW.size)⟩
  have K2 : Hid (∀ W : World, Below w2.heap.size w2 W → Calls Tryd.prog 49 #[.agg #[.int .i64 N, .slice a xss.length c]] W fun e w' => e = .returned (.int .i64 D) ∧ Below w2.heap.size w2 w') := fun W hW => (GD.out W (hbw2.trans (hW.mono hbw2.size))).mono fun e w' h => ⟨h.1, hW.trans (h.2.mono hW.size)⟩
  have K3 : Hid (∀ W : World, Below w2.heap.size w2 W → Calls Tryd.prog 31 #[.slice (some ⟨W.heap.size, 0, none⟩) 4 4] (W.alloc (.cells #[.string ⟨#[112, 97, 105, 114, 115]⟩, .string (bstr A), .string ⟨#[100, 101, 112, 116, 104]⟩, .string (bstr B)] 9)) fun e w' => e = .returned (.string (bstr H)) ∧ Below w2.heap.size w2 w') := fun W hW => (GL.out W).mono fun e w' h => ⟨h.1, hW.trans (h.2.mono hW.size)⟩
  have BW2 := Lib.hid hbw2
  clear KI0 KI1 GD c0 c1 C0 C1 HN hbw2 hb2 hb0 h h' GL
  go_region_held3 (fun wx => Below w2.heap.size w2 wx ∧ wx.cell? ⟨w.heap.size, 0, none⟩ = some (.int .i64 N) ∧ wx.cell? ⟨w.heap.size, 1, none⟩ = some (.slice a xss.length c))
    (first | exact HT.out _ g3 | exact HT.out _ (g3.alloc g3.size _) | exact HT.out _ (by exact ⟨rfl, rfl, rfl, Nat.le_refl _, fun _ _ => rfl⟩) | go_keep)
    (first
      | (go_at_call 32; (with_reducible refine (K0.out _ (by exact (show _ ∧ _ ∧ _ from by assumption).1)).mono ?_); rintro e w3 ⟨rfl, g3⟩)
      | (go_at_call 32; (with_reducible refine (K1.out _ (by exact (show _ ∧ _ ∧ _ from by assumption).1)).mono ?_); rintro e w3 ⟨rfl, g3⟩)
      | (go_at_call 49; (with_reducible refine (K2.out _ (by exact (show _ ∧ _ ∧ _ from by assumption).1)).mono ?_); rintro e w3 ⟨rfl, g3⟩)
      | (go_at_call 31; (refine (K3.out w3 g3).mono ?_); rintro e w3 ⟨rfl, g3⟩))
  all_goals
    have bt : Below w.heap.size w w3 := BW2.out.trans (g3.mono BW2.out.size)
    obtain ⟨_, d0, d1⟩ := HT.out _ g3
    have KF := GF.out w3 bt
    cases bf
    · go_wp2_with (first
        | (go_at_call 50; refine KF.mono ?_; rintro e w4 ⟨vo, rfl, ho4, hb4⟩; obtain ⟨ao, no, co, rfl, _, _, _⟩ := ho4.rd.formN)
        | (go_at_call 31; refine (GL2.out w4).mono ?_; rintro e w5 ⟨rfl, hb5⟩))
      go_ret
      exact ⟨by rw [HR.out.2 (by trivial)]; simp only [List.append_assoc]; rfl, bt.trans ((hb4.trans (hb5.mono hb4.size)).mono bt.size)⟩
    · have tt := ht.below bt
      go_wp2_with (first
        | (go_at_call 50; refine KF.mono ?_; rintro e w4 ⟨vo, rfl, ho4, hb4⟩; obtain ⟨ao, no, co, rfl, _, _, _⟩ := ho4.rd.formN)
        | (go_at_call 40; refine (HFN.out _ _ ho4.rd (tt.below hb4)).mono ?_; rintro e w5 ⟨rfl, hb5⟩)
        | (go_at_call 31; refine (GL3.out w5).mono ?_; rintro e w6 ⟨rfl, hb6⟩))
      go_ret
      exact ⟨by rw [HR.out.1 (by trivial)]; simp only [List.append_assoc]; rfl, bt.trans ((hb4.trans ((hb5.trans (hb6.mono hb5.size)).mono hb4.size)).mono bt.size)⟩

end Go.Proofs.YtlmbaijkeahkfaaDoor
