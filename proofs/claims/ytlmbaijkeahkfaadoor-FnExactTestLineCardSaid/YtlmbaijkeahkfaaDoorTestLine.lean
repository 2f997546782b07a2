/- Walks: the line on tests. -/
import Derived.Test.YtlmbaijkeahkfaaDoorGreedyS
import Derived.Test.YtlmbaijkeahkfaaDoorLineI
import Derived.Test.YtlmbaijkeahkfaaDoorStrs
namespace Go.Proofs.YtlmbaijkeahkfaaDoor
open Go.RowKit
set_option linter.unusedVariables false
set_option linter.unusedSimpArgs false

def testLine (n : Int) (xss : List (List Int)) : List UInt8 :=
  if netOk n xss && decide (xss.length ≤ 20) then [104, 105, 100, 100, 101, 110, 32] ++ Lib.itoa (hiddenL n xss).length ++ [32, 116, 101, 115, 116, 115, 32] ++ numsB (greedyL n xss) else [110, 111, 110, 101]
theorem testLine_no {n : Int} {xss : List (List Int)} (h : netOk n xss = false ∨ 20 < xss.length) : testLine n xss = [110, 111, 110, 101] := by
  unfold testLine
  rcases h with h | h
  · simp [h]
  · rw [if_neg]
    simp only [Bool.and_eq_true, decide_eq_true_eq]
    rintro ⟨_, h2⟩
    omega
theorem testLine_ok {n : Int} {xss : List (List Int)} (h : netOk n xss = true) (h2 : xss.length ≤ 20) : testLine n xss = [104, 105, 100, 100, 101, 110, 32] ++ Lib.itoa (hiddenL n xss).length ++ [32, 116, 101, 115, 116, 115, 32] ++ numsB (greedyL n xss) := by
  unfold testLine
  rw [h, if_pos]
  simpa using h2

set_option maxRecDepth 100000 in
set_option maxHeartbeats 8000000 in
theorem S_TestLine (w : World) (n : Int) (hn : I64 n) (v : Value) (xss : List (List Int)) (h : Rd2 w v xss) (_ : I64ss xss) (_ : SzOk xss) : Calls Tryd.prog 22 #[.agg #[.int .i64 n, v]] w (RetB (.string (bstr (testLine n xss))) w) := by
  obtain ⟨a, c, rfl, h2, h3⟩ := h.form
  obtain ⟨w0, hw0, hb0, hz0, c0, c1⟩ := net_box w (.int .i64 n) (.slice a xss.length c) 32
  have h' := h.below hb0
  have HN := s_NetworkOk n _ xss _ h' hn
  have C1 := Lib.hid c1
  cases hk : netOk n xss
  · rw [hk] at HN
    have HR := Lib.hid (testLine_no (.inl hk))
    go_enter Tryd.func22, Tryd.ntmps22
    go_wp2_with (go_at_call 44; refine HN.mono ?_; rintro e w2 ⟨rfl, hb2⟩; have c1 := (hb2.cell (show w.heap.size < w0.heap.size by omega)).trans C1.out)
    go_ret
    exact ⟨by rw [HR.out]; rfl, hb0.trans (hb2.mono (by omega))⟩
  rw [hk] at HN
  by_cases hl20 : xss.length ≤ 20
  case neg =>
    have HR := Lib.hid (testLine_no (n := n) (xss := xss) (.inr (by omega)))
    have d0 : decide ((xss.length : Int) > 20) = true := by simp; omega
    go_enter Tryd.func22, Tryd.ntmps22
    go_wp2_with (go_at_call 44; refine HN.mono ?_; rintro e w2 ⟨rfl, hb2⟩; have c1 := (hb2.cell (show w.heap.size < w0.heap.size by omega)).trans C1.out)
    go_ret
    exact ⟨by rw [HR.out]; rfl, hb0.trans (hb2.mono (by omega))⟩
  have HR := Lib.hid (testLine_ok hk hl20)
  have d0 : decide ((xss.length : Int) > 20) = false := by simp; omega
  have GH := Lib.hid (fun (W : World) (hW : Below w.heap.size w W) => s_HiddenFaults n _ xss W (h.below hW) hn)
  have GG := Lib.hid (fun (W : World) (hW : Below w.heap.size w W) => s_GreedyTests n _ xss W (h.below hW) hn)
  have hhl := hiddenL_len n xss
  obtain ⟨hgi, hgl⟩ := greedyL_bd n xss
  obtain ⟨hs, hhs⟩ : ∃ hs, hiddenL n xss = hs := ⟨_, rfl⟩
  obtain ⟨gs, hgs⟩ : ∃ gs, greedyL n xss = gs := ⟨_, rfl⟩
  rw [hhs] at GH HR hhl
  rw [hgs] at GG HR hgi hgl
  have hzn := numsB_le hgi hgl
  have g0 : fmtNums gs = numsB gs := by rw [fmtNums, if_neg (by omega)]
  have HF0 := fun (W : World) (u : Value) (hu : Rd W u (ints gs)) => S_FormatNumbers W u _ hu hgi (by omega)
  rw [g0] at HF0
  have zA := (itoa_len (n := (hs.length : Int)) (show I64 _ by unfold I64; omega)).2
  have HI0 := Lib.hid (fun (W : World) => S_FormatInt W (hs.length : Int) (by unfold I64; omega))
  obtain ⟨A, hA⟩ : ∃ A, bstr (Lib.itoa hs.length) = A := ⟨_, rfl⟩
  obtain ⟨F, hF⟩ : ∃ F, bstr (numsB gs) = F := ⟨_, rfl⟩
  have sA : A.size ≤ 20 := by rw [← hA, bstr_size]; exact zA
  have sF : F.size ≤ 3000 := by rw [← hF, bstr_size]; omega
  rw [hF] at HF0
  have HFN := Lib.hid HF0
  have HRB : Hid (bstr (testLine n xss) = (⟨#[104, 105, 100, 100, 101, 110, 32]⟩ : ByteArray) ++ A ++ ⟨#[32, 116, 101, 115, 116, 115, 32]⟩ ++ F) := by
    rw [Hid, HR.out, ← hA, ← hF]
    show _ = bstr [104, 105, 100, 100, 101, 110, 32] ++ bstr _ ++ bstr [32, 116, 101, 115, 116, 115, 32] ++ bstr _
    rw [bstr_app, bstr_app, bstr_app]
  have KI0 : Hid (∀ W, Calls Tryd.prog 27 #[.int .i64 (hs.length : Int)] W (RetB (.string A) W)) := fun W => by rw [← hA]; exact HI0.out W
  obtain ⟨hl, hhl2⟩ : ∃ hl, hs.length = hl := ⟨_, rfl⟩
  rw [hhl2] at KI0 hhl
  have HHL := Lib.hid hhl2
  have q1 : ¬ 9223372036854775807 < 7 + A.size := by omega
  have q2 : ¬ 9223372036854775807 < 7 + A.size + 7 := by omega
  have q3 : ¬ 9223372036854775807 < 7 + A.size + 7 + F.size := by omega
  have C0 := Lib.hid c0
  clear hk hA hF HI0 HF0 g0 hzn zA hgi hgl hhs hgs hhl2 hl20 HR
  go_enter Tryd.func22, Tryd.ntmps22
  go_wp2_with (go_at_call 44; refine HN.mono ?_; rintro e w2 ⟨rfl, hb2⟩; have hbw2 : Below w.heap.size w w2 := hb0.trans (hb2.mono (by omega)); obtain ⟨c0, c1⟩ := Below.cells2 hb2 (show w.heap.size < w0.heap.size by omega) C0.out C1.out)
  have HT := keep_box c0 c1
  have K0 : Hid (∀ W : World, Below w2.heap.size w2 W → Calls Tryd.prog 27 #[.int .i64 (hl : Int)] W fun e w' => e = .returned (.string A) ∧ Below w2.heap.size w2 w' ∧ Below W.heap.size W w') := fun W hW => (KI0.out W).mono fun e w' h => ⟨h.1, hW.trans (h.2.mono hW.size), h.2⟩
  have K1 : Hid (∀ W : World, Below w2.heap.size w2 W → Calls Tryd.prog 60 #[.agg #[.int .i64 n, .slice a xss.length c]] W fun e w' => (∃ aq cq, e = .returned (.slice aq hl cq)) ∧ Below w2.heap.size w2 w' ∧ Below W.heap.size W w') := fun W hW => (GH.out W (hbw2.trans (hW.mono hbw2.size))).mono fun e w' h => by
    obtain ⟨vq, rfl, ho, hb⟩ := h
    obtain ⟨aq, cq, rfl, _, _⟩ := ho.form
    exact ⟨⟨aq, cq, by rw [HHL.out]⟩, hW.trans (hb.mono hW.size), hb⟩
  have K2 : Hid (∀ W : World, Below w2.heap.size w2 W → Calls Tryd.prog 61 #[.agg #[.int .i64 n, .slice a xss.length c]] W fun e w' => ∃ v, e = .returned v ∧ Rd w' v (ints gs) ∧ Below w2.heap.size w2 w' ∧ Below W.heap.size W w') := fun W hW => (GG.out W (hbw2.trans (hW.mono hbw2.size))).mono fun e w' h => by
    obtain ⟨vq, rfl, ho, hb⟩ := h
    exact ⟨vq, rfl, ho.rd, hW.trans (hb.mono hW.size), hb⟩
  have K3 : Hid (∀ (W : World) (u : Value), Below w2.heap.size w2 W → Rd W u (ints gs) → Calls Tryd.prog 36 #[u] W fun e w' => e = .returned (.string F) ∧ Below w2.heap.size w2 w' ∧ Below W.heap.size W w') := fun W u hW hu => (HFN.out W u hu).mono fun e w' h => ⟨h.1, hW.trans (h.2.mono hW.size), h.2⟩
  have BW2 := Lib.hid hbw2
  clear KI0 GH GG HFN c0 c1 C0 C1 HN hbw2 hb2 hb0 h h' HHL
  go_region_held3 (fun wx => Below w2.heap.size w2 wx ∧ wx.cell? ⟨w.heap.size, 0, none⟩ = some (.int .i64 n) ∧ wx.cell? ⟨w.heap.size, 1, none⟩ = some (.slice a xss.length c))
    (first | exact HT.out _ gN | exact HT.out _ gI | exact HT.out _ gH | exact HT.out _ gG | exact HT.out _ (by exact ⟨rfl, rfl, rfl, Nat.le_refl _, fun _ _ => rfl⟩) | go_keep)
    (first
      | (go_at_call 60; (with_reducible refine (K1.out _ (by exact (show _ ∧ _ ∧ _ from by assumption).1)).mono ?_); rintro e wH ⟨⟨aq, cq, rfl⟩, gH, rH⟩)
      | (go_at_call 27; (with_reducible refine (K0.out _ (by exact (show _ ∧ _ ∧ _ from by assumption).1)).mono ?_); rintro e wI ⟨rfl, gI, rI⟩)
      | (go_at_call 61; (with_reducible refine (K2.out _ (by exact (show _ ∧ _ ∧ _ from by assumption).1)).mono ?_); rintro e wG ⟨vg, rfl, rdG, gG, rG⟩; obtain ⟨ag, cg, rfl, _, _⟩ := rdG.formi)
      | (go_at_call 36; refine (K3.out _ _ (by exact (show _ ∧ _ ∧ _ from by assumption).1) (by first | exact rdG | exact rdG.below rH | exact rdG.below rI | exact (rdG.below rH).below rI)).mono ?_; rintro e wN ⟨rfl, gN, rN⟩))
  all_goals
    go_wp2_with fail
    go_ret
    first
      | exact ⟨by rw [HRB.out]; rfl, BW2.out.trans (gN.mono BW2.out.size)⟩
      | exact ⟨by rw [HRB.out]; rfl, BW2.out.trans (gI.mono BW2.out.size)⟩

set_option maxRecDepth 100000 in
set_option maxHeartbeats 8000000 in
theorem I_TestLine (w : World) (n : Int) (hn : I64 n) (v : Value) (xss : List (List Int)) (h : Rd2 w v xss) (_ : I64ss xss) (_ : SzOk xss) (ht : Tab w) : Calls Tryd.prog 23 #[.agg #[.int .i64 n, v]] w (RetB (.string (bstr (testLine n xss))) w) := by
  obtain ⟨a, c, rfl, h2, h3⟩ := h.form
  obtain ⟨w0, hw0, hb0, hz0, c0, c1⟩ := net_box w (.int .i64 n) (.slice a xss.length c) 32
  have h' := h.below hb0
  have HN := i_NetworkOk n _ xss _ h' hn
  have C1 := Lib.hid c1
  cases hk : netOk n xss
  · rw [hk] at HN
    have HR := Lib.hid (testLine_no (.inl hk))
    go_enter Tryd.func23, Tryd.ntmps23
    go_wp2_with (go_at_call 48; refine HN.mono ?_; rintro e w2 ⟨rfl, hb2⟩; have c1 := (hb2.cell (show w.heap.size < w0.heap.size by omega)).trans C1.out)
    go_ret
    exact ⟨by rw [HR.out]; rfl, hb0.trans (hb2.mono (by omega))⟩
  rw [hk] at HN
  by_cases hl20 : xss.length ≤ 20
  case neg =>
    have HR := Lib.hid (testLine_no (n := n) (xss := xss) (.inr (by omega)))
    have d0 : decide ((xss.length : Int) > 20) = true := by simp; omega
    go_enter Tryd.func23, Tryd.ntmps23
    go_wp2_with (go_at_call 48; refine HN.mono ?_; rintro e w2 ⟨rfl, hb2⟩; have c1 := (hb2.cell (show w.heap.size < w0.heap.size by omega)).trans C1.out)
    go_ret
    exact ⟨by rw [HR.out]; rfl, hb0.trans (hb2.mono (by omega))⟩
  have HR := Lib.hid (testLine_ok hk hl20)
  have d0 : decide ((xss.length : Int) > 20) = false := by simp; omega
  have GH := Lib.hid (fun (W : World) (hW : Below w.heap.size w W) => i_HiddenFaults n _ xss W (h.below hW) hn)
  have GG := Lib.hid (fun (W : World) (hW : Below w.heap.size w W) => i_GreedyTests n _ xss W (h.below hW) hn)
  have hhl := hiddenL_len n xss
  obtain ⟨hgi, hgl⟩ := greedyL_bd n xss
  obtain ⟨hs, hhs⟩ : ∃ hs, hiddenL n xss = hs := ⟨_, rfl⟩
  obtain ⟨gs, hgs⟩ : ∃ gs, greedyL n xss = gs := ⟨_, rfl⟩
  rw [hhs] at GH HR hhl
  rw [hgs] at GG HR hgi hgl
  have hzn := numsB_le hgi hgl
  have g0 : fmtNums gs = numsB gs := by rw [fmtNums, if_neg (by omega)]
  have HF0 := fun (W : World) (u : Value) (hu : Rd W u (ints gs)) (hW : Tab W) => I_FormatNumbers W u _ hu hgi (by omega) hW
  rw [g0] at HF0
  have zA := (itoa_len (n := (hs.length : Int)) (show I64 _ by unfold I64; omega)).2
  have KI0 := Lib.hid (fun (W : World) (hW : Tab W) => I_FormatInt W (hs.length : Int) (by unfold I64; omega) hW)
  have GL := Lib.hid (fun W => i_line4 [104, 105, 100, 100, 101, 110] (Lib.itoa hs.length) [116, 101, 115, 116, 115] (numsB gs) (by simp) (by omega) (by simp) (by omega) W)
  have HRB : Hid (testLine n xss = [104, 105, 100, 100, 101, 110] ++ [32] ++ Lib.itoa hs.length ++ [32] ++ [116, 101, 115, 116, 115] ++ [32] ++ numsB gs) := by simp [HR.out, Hid]
  have HFN := Lib.hid HF0
  rw [← HRB.out] at GL
  generalize numsB gs = F at HFN GL
  generalize Lib.itoa (hs.length : Int) = A at KI0 GL
  obtain ⟨R, hR⟩ : ∃ R, testLine n xss = R := ⟨_, rfl⟩
  rw [hR] at GL ⊢
  clear HRB hR
  obtain ⟨hl, hhl2⟩ : ∃ hl, hs.length = hl := ⟨_, rfl⟩
  rw [hhl2] at KI0 hhl
  have HHL := Lib.hid hhl2
  have C0 := Lib.hid c0
  clear hk HF0 g0 hzn zA hgi hgl hhs hgs hhl2 hl20 HR
  go_enter Tryd.func23, Tryd.ntmps23
  go_wp2_with (go_at_call 48; refine HN.mono ?_; rintro e w2 ⟨rfl, hb2⟩; have hbw2 : Below w.heap.size w w2 := hb0.trans (hb2.mono (by omega)); obtain ⟨c0, c1⟩ := Below.cells2 hb2 (show w.heap.size < w0.heap.size by omega) C0.out C1.out)
  have HT := keep_box c0 c1
  have K0 : Hid (∀ W : World, Below w2.heap.size w2 W → Calls Tryd.prog 32 #[.int .i64 (hl : Int)] W fun e w' => e = .returned (.string (bstr A)) ∧ Below w2.heap.size w2 w' ∧ Below W.heap.size W w') := fun W hW => (KI0.out W (ht.below (hbw2.trans (hW.mono hbw2.size)))).mono fun e w' h => ⟨h.1, hW.trans (h.2.mono hW.size), h.2⟩
  have K1 : Hid (∀ W : World, Below w2.heap.size w2 W → Calls Tryd.prog 62 #[.agg #[.int .i64 n, .slice a xss.length c]] W fun e w' => (∃ aq cq, e = .returned (.slice aq hl cq)) ∧ Below w2.heap.size w2 w' ∧ Below W.heap.size W w') := fun W hW => (GH.out W (hbw2.trans (hW.mono hbw2.size))).mono fun e w' h => by
    obtain ⟨vq, rfl, ho, hb⟩ := h
    obtain ⟨aq, cq, rfl, _, _⟩ := ho.form
    exact ⟨⟨aq, cq, by rw [HHL.out]⟩, hW.trans (hb.mono hW.size), hb⟩
  have K2 : Hid (∀ W : World, Below w2.heap.size w2 W → Calls Tryd.prog 64 #[.agg #[.int .i64 n, .slice a xss.length c]] W fun e w' => ∃ v, e = .returned v ∧ Rd w' v (ints gs) ∧ Below w2.heap.size w2 w' ∧ Below W.heap.size W w') := fun W hW => (GG.out W (hbw2.trans (hW.mono hbw2.size))).mono fun e w' h => by
    obtain ⟨vq, rfl, ho, hb⟩ := h
    exact ⟨vq, rfl, ho.rd, hW.trans (hb.mono hW.size), hb⟩
  have K3 : Hid (∀ (W : World) (u : Value), Below w2.heap.size w2 W → Rd W u (ints gs) → Calls Tryd.prog 63 #[u] W fun e w' => e = .returned (.string (bstr F)) ∧ Below w2.heap.size w2 w' ∧ Below W.heap.size W w') := fun W u hW hu => (HFN.out W u hu (ht.below (hbw2.trans (hW.mono hbw2.size)))).mono fun e w' h => ⟨h.1, hW.trans (h.2.mono hW.size), h.2⟩
  have K4 : Hid (∀ W : World, Below w2.heap.size w2 W → Calls Tryd.prog 31 #[.slice (some ⟨W.heap.size, 0, none⟩) 4 4] (W.alloc (.cells #[.string ⟨#[104, 105, 100, 100, 101, 110]⟩, .string (bstr A), .string ⟨#[116, 101, 115, 116, 115]⟩, .string (bstr F)] 9)) fun e w' => e = .returned (.string (bstr R)) ∧ Below w2.heap.size w2 w') := fun W hW => (GL.out W).mono fun e w' h => ⟨h.1, hW.trans (h.2.mono hW.size)⟩
  have BW2 := Lib.hid hbw2
  clear KI0 GH GG HFN GL c0 c1 C0 C1 HN hbw2 hb2 hb0 h h' HHL
  go_region_held3 (fun wx => Below w2.heap.size w2 wx ∧ wx.cell? ⟨w.heap.size, 0, none⟩ = some (.int .i64 n) ∧ wx.cell? ⟨w.heap.size, 1, none⟩ = some (.slice a xss.length c))
    (first | exact HT.out _ gL | exact HT.out _ gN | exact HT.out _ gI | exact HT.out _ (gN.alloc gN.size _) | exact HT.out _ (gI.alloc gI.size _) | exact HT.out _ gH | exact HT.out _ gG | exact HT.out _ (by exact ⟨rfl, rfl, rfl, Nat.le_refl _, fun _ _ => rfl⟩) | go_keep)
    (first
      | (go_at_call 62; (with_reducible refine (K1.out _ (by exact (show _ ∧ _ ∧ _ from by assumption).1)).mono ?_); rintro e wH ⟨⟨aq, cq, rfl⟩, gH, rH⟩)
      | (go_at_call 32; (with_reducible refine (K0.out _ (by exact (show _ ∧ _ ∧ _ from by assumption).1)).mono ?_); rintro e wI ⟨rfl, gI, rI⟩)
      | (go_at_call 64; (with_reducible refine (K2.out _ (by exact (show _ ∧ _ ∧ _ from by assumption).1)).mono ?_); rintro e wG ⟨vg, rfl, rdG, gG, rG⟩; obtain ⟨ag, cg, rfl, _, _⟩ := rdG.formi)
      | (go_at_call 63; refine (K3.out _ _ (by exact (show _ ∧ _ ∧ _ from by assumption).1) (by first | exact rdG | exact rdG.below rH | exact rdG.below rI | exact (rdG.below rH).below rI)).mono ?_; rintro e wN ⟨rfl, gN, rN⟩)
      | (go_at_call 31; (refine (K4.out wN gN).mono ?_); rintro e wL ⟨rfl, gL⟩)
      | (go_at_call 31; (refine (K4.out wI gI).mono ?_); rintro e wL ⟨rfl, gL⟩))
  all_goals
    go_wp2_with fail
    go_ret
    exact ⟨rfl, BW2.out.trans (gL.mono BW2.out.size)⟩

end Go.Proofs.YtlmbaijkeahkfaaDoor
