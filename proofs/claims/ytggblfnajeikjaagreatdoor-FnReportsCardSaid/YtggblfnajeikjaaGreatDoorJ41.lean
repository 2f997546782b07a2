/- Joined texts of the proof: TestLine. -/
import Derived.WalkKit
import Derived.WalkSpells
import Derived.WalkLawsBesides
import Derived.Deep.Draws
import Derived.Lib.Hide
import Derived.RegionTactic
import Derived.Lib.SmallJoins
import Derived.Test.YtggblfnajeikjaaGreatDoorRows
import Derived.BigQuiet
import Derived.Deep.QuietTactic
import Derived.Deep.DeepCutAuto
import Derived.Deep.LoopGhost
import Derived.Deep.RegionWith
import Derived.Lib.ItoaNum
import Derived.Deep.RegionHeld3
import Derived.IntWalk
import Derived.Lib.Join
import Derived.Shelf.Strings.Builder1
import Derived.Shelf.Strings.Builder2
import Derived.Shelf.Strings.OnBuilder
import Derived.Shelf.Strconv.Atoi
import Derived.Shelf.Strconv.Itoa0
import Derived.Shelf.Strconv.Itoa1
import Derived.Shelf.LaysM
import Derived.Shelf.Strconv.Itoa2
import Derived.Shelf.Strconv.Itoa3
import Derived.Shelf.Strconv.AtoiErrFast
import Derived.Shelf.Strconv.ParseIntEmpty
import Derived.Shelf.Strconv.AtoiFail
import Derived.Shelf.Strconv.Clone
import Derived.Shelf.Strconv.SyntaxError
import Derived.Shelf.LaysC
import Derived.Shelf.Strconv.ToError
import Derived.Shelf.Strconv.Lower
import Derived.Shelf.Strconv.ParseUint10
import Derived.Shelf.Strconv.ParseUint10Empty
import Derived.Shelf.Strconv.ParseUint10Any
import Derived.Shelf.Strconv.ParseInt10
import Derived.Shelf.Strconv.AtoiLong
import Derived.Shelf.Strconv.AtoiInnerAll
import Derived.Shelf.Strconv.RangeError
import Derived.Shelf.Strconv.ToErrorRange
import Derived.Shelf.Strconv.AtoiAll
import Derived.Shelf.Strconv.ErrVarAll
import Derived.Shelf.Strings.Search1
import Derived.Shelf.Strings.Search2
import Derived.Shelf.Strings.Search3
import Derived.Shelf.Strings.Cut
import Derived.Shelf.Strings.Count
import Derived.Shelf.Strings.Shaped
import Derived.Shelf.Sort.Plain
import Derived.Shelf.Strings.Prefix
import Derived.Shelf.Strings.Split
import Derived.Shelf.Unicode.DecodeSlow
import Derived.Shelf.Slices.Reverse
import Derived.Ground.Names2Prog
import Derived.Shelf.Slices.CompactI
import Derived.Test.YtggblfnajeikjaaGreatDoorProg
import Derived.Laws.Bits64b
import Derived.Test.YtggblfnajeikjaaGreatDoorJ1
import Derived.Test.YtggblfnajeikjaaGreatDoorJ4
import Derived.Test.YtggblfnajeikjaaGreatDoorJ6
import Derived.Test.YtggblfnajeikjaaGreatDoorJ7
import Derived.Test.YtggblfnajeikjaaGreatDoorJ9
import Derived.Test.YtggblfnajeikjaaGreatDoorJ10
import Derived.Test.YtggblfnajeikjaaGreatDoorJ16
import Derived.Test.YtggblfnajeikjaaGreatDoorJ19
import Derived.Test.YtggblfnajeikjaaGreatDoorJ29
import Derived.Test.YtggblfnajeikjaaGreatDoorJ31
import Derived.Test.YtggblfnajeikjaaGreatDoorJ34
import Derived.Test.YtggblfnajeikjaaGreatDoorJ39
namespace Go.Proofs.YtggblfnajeikjaaGreatDoor
open Go.RowKit
set_option linter.unusedVariables false
set_option linter.unusedSimpArgs false

def testLine (n : Int) (xss : List (List Int)) : List UInt8 :=
  if netOk n xss && decide (xss.length ≤ 20) then [104, 105, 100, 100, 101, 110, 32] ++ Lib.itoa (hiddenL n xss).length ++ [32, 116, 101, 115, 116, 115, 32] ++ numsB (greedyL n xss) else [110, 111, 110, 101]
theorem testLine_no {n : Int} {xss : List (List Int)} (h : netOk n xss = false ∨ 20 < xss.length) : testLine n xss = [110, 111, 110, 101] := by
  unfold testLine
  rcases h with h | h
  · simp [h]
  · rw [if_neg]
    simp only [Bool.and_eq_true, decide_eq_true_eq]
    rintro ⟨_, h2⟩
    omega
theorem testLine_ok {n : Int} {xss : List (List Int)} (h : netOk n xss = true) (h2 : xss.length ≤ 20) : testLine n xss = [104, 105, 100, 100, 101, 110, 32] ++ Lib.itoa (hiddenL n xss).length ++ [32, 116, 101, 115, 116, 115, 32] ++ numsB (greedyL n xss) := by
  unfold testLine
  rw [h, if_pos]
  simpa using h2

set_option maxRecDepth 100000 in
set_option maxHeartbeats 8000000 in
theorem I_TestLine (w : World) (n : Int) (hn : I64 n) (v : Value) (xss : List (List Int)) (h : Rd2 w v xss) (_ : I64ss xss) (_ : SzOk xss) (ht : Tab w) : Calls Tryz.prog 19 #[.agg #[.int .i64 n, v]] w (RetB (.string (bstr (testLine n xss))) w) := by
  obtain ⟨a, c, rfl, h2, h3⟩ := h.form
  obtain ⟨w0, hw0, hb0, hz0, c0, c1⟩ := net_box w (.int .i64 n) (.slice a xss.length c) 30
  have h' := h.below hb0
  have HN := i_NetworkOk n _ xss _ h' hn
  have C1 := Lib.hid c1
  cases hk : netOk n xss
  · rw [hk] at HN
    have HR := Lib.hid (testLine_no (.inl hk))
    go_enter Tryz.func19, Tryz.ntmps19
    go_wp2_with (go_at_call 40; refine HN.mono ?_; rintro e w2 ⟨rfl, hb2⟩; have c1 := (hb2.cell (show w.heap.size < w0.heap.size by omega)).trans C1.out)
    go_ret
    exact ⟨by rw [HR.out]; rfl, hb0.trans (hb2.mono (by omega))⟩
  rw [hk] at HN
  by_cases hl20 : xss.length ≤ 20
  case neg =>
    have HR := Lib.hid (testLine_no (n := n) (xss := xss) (.inr (by omega)))
    have d0 : decide ((xss.length : Int) > 20) = true := by simp; omega
    go_enter Tryz.func19, Tryz.ntmps19
    go_wp2_with (go_at_call 40; refine HN.mono ?_; rintro e w2 ⟨rfl, hb2⟩; have c1 := (hb2.cell (show w.heap.size < w0.heap.size by omega)).trans C1.out)
    go_ret
    exact ⟨by rw [HR.out]; rfl, hb0.trans (hb2.mono (by omega))⟩
  have HR := Lib.hid (testLine_ok hk hl20)
  have d0 : decide ((xss.length : Int) > 20) = false := by simp; omega
  have GH := Lib.hid (fun (W : World) (hW : Below w.heap.size w W) => i_HiddenFaults n _ xss W (h.below hW) hn)
  have GG := Lib.hid (fun (W : World) (hW : Below w.heap.size w W) => i_GreedyTests n _ xss W (h.below hW) hn)
  have hhl := hiddenL_len n xss
  obtain ⟨hgi, hgl⟩ := greedyL_bd n xss
  obtain ⟨hs, hhs⟩ : ∃ hs, hiddenL n xss = hs := ⟨_, rfl⟩
  obtain ⟨gs, hgs⟩ : ∃ gs, greedyL n xss = gs := ⟨_, rfl⟩
  rw [hhs] at GH HR hhl
  rw [hgs] at GG HR hgi hgl
  have hzn := numsB_le hgi hgl
  have g0 : fmtNums gs = numsB gs := by rw [fmtNums, if_neg (by omega)]
  have HF0 := fun (W : World) (u : Value) (hu : Rd W u (ints gs)) (hW : Tab W) => I_FormatNumbers W u _ hu hgi (by omega) hW
  rw [g0] at HF0
  have zA := (itoa_len (n := (hs.length : Int)) (show I64 _ by unfold I64; omega)).2
  have KI0 := Lib.hid (fun (W : World) (hW : Tab W) => I_FormatInt W (hs.length : Int) (by unfold I64; omega) hW)
  have GL := Lib.hid (fun W => i_line4 [104, 105, 100, 100, 101, 110] (Lib.itoa hs.length) [116, 101, 115, 116, 115] (numsB gs) (by simp) (by omega) (by simp) (by omega) W)
  have HRB : Hid (testLine n xss = [104, 105, 100, 100, 101, 110] ++ [32] ++ Lib.itoa hs.length ++ [32] ++ [116, 101, 115, 116, 115] ++ [32] ++ numsB gs) := by simp [HR.out, Hid]
  have HFN := Lib.hid HF0
  rw [← HRB.out] at GL
  generalize numsB gs = F at HFN GL
  generalize Lib.itoa (hs.length : Int) = A at KI0 GL
  obtain ⟨R, hR⟩ : ∃ R, testLine n xss = R := ⟨_, rfl⟩
  rw [hR] at GL ⊢
  clear HRB hR
  obtain ⟨hl, hhl2⟩ : ∃ hl, hs.length = hl := ⟨_, rfl⟩
  rw [hhl2] at KI0 hhl
  have HHL := Lib.hid hhl2
  have C0 := Lib.hid c0
  clear hk HF0 g0 hzn zA hgi hgl hhs hgs hhl2 hl20 HR
  go_enter Tryz.func19, Tryz.ntmps19
  go_wp2_with (go_at_call 40; refine HN.mono ?_; rintro e w2 ⟨rfl, hb2⟩; have hbw2 : Below w.heap.size w w2 := hb0.trans (hb2.mono (by omega)); obtain ⟨c0, c1⟩ := Below.cells2 hb2 (show w.heap.size < w0.heap.size by omega) C0.out C1.out)
  have HT := keep_box c0 c1
  have K0 : Hid (∀ W : World, Below w2.heap.size w2 W → Calls Tryz.prog 14 #[.int .i64 (hl : Int)] W fun e w' => e = .returned (.string (bstr A)) ∧ Below w2.heap.size w2 w' ∧ Below W.heap.size W w') := fun W hW => (KI0.out W (ht.below (hbw2.trans (hW.mono hbw2.size)))).mono fun e w' h => ⟨h.1, hW.trans (h.2.mono hW.size), h.2⟩
  have K1 : Hid (∀ W : World, Below w2.heap.size w2 W → Calls Tryz.prog 20 #[.agg #[.int .i64 n, .slice a xss.length c]] W fun e w' => (∃ aq cq, e = .returned (.slice aq hl cq)) ∧ Below w2.heap.size w2 w' ∧ Below W.heap.size W w') := fun W hW => (GH.out W (hbw2.trans (hW.mono hbw2.size))).mono fun e w' h => by
    obtain ⟨vq, rfl, ho, hb⟩ := h
    obtain ⟨aq, cq, rfl, _, _⟩ := ho.form
    exact ⟨⟨aq, cq, by rw [HHL.out]⟩, hW.trans (hb.mono hW.size), hb⟩
  have K2 : Hid (∀ W : World, Below w2.heap.size w2 W → Calls Tryz.prog 21 #[.agg #[.int .i64 n, .slice a xss.length c]] W fun e w' => ∃ v, e = .returned v ∧ Rd w' v (ints gs) ∧ Below w2.heap.size w2 w' ∧ Below W.heap.size W w') := fun W hW => (GG.out W (hbw2.trans (hW.mono hbw2.size))).mono fun e w' h => by
    obtain ⟨vq, rfl, ho, hb⟩ := h
    exact ⟨vq, rfl, ho.rd, hW.trans (hb.mono hW.size), hb⟩
  have K3 : Hid (∀ (W : World) (u : Value), Below w2.heap.size w2 W → Rd W u (ints gs) → Calls Tryz.prog 6 #[u] W fun e w' => e = .returned (.string (bstr F)) ∧ Below w2.heap.size w2 w' ∧ Below W.heap.size W w') := fun W u hW hu => (HFN.out W u hu (ht.below (hbw2.trans (hW.mono hbw2.size)))).mono fun e w' h => ⟨h.1, hW.trans (h.2.mono hW.size), h.2⟩
  have K4 : Hid (∀ W : World, Below w2.heap.size w2 W → Calls Tryz.prog 61 #[.slice (some ⟨W.heap.size, 0, none⟩) 4 4] (W.alloc (.cells #[.string ⟨#[104, 105, 100, 100, 101, 110]⟩, .string (bstr A), .string ⟨#[116, 101, 115, 116, 115]⟩, .string (bstr F)] 9)) fun e w' => e = .returned (.string (bstr R)) ∧ Below w2.heap.size w2 w') := fun W hW => (GL.out W).mono fun e w' h => ⟨h.1, hW.trans (h.2.mono hW.size)⟩
  have BW2 := Lib.hid hbw2
  clear KI0 GH GG HFN GL c0 c1 C0 C1 HN hbw2 hb2 hb0 h h' HHL
  go_region_held3 (fun wx => Below w2.heap.size w2 wx ∧ wx.cell? ⟨w.heap.size, 0, none⟩ = some (.int .i64 n) ∧ wx.cell? ⟨w.heap.size, 1, none⟩ = some (.slice a xss.length c))
    (first | exact HT.out _ gL | exact HT.out _ gN | exact HT.out _ gI | exact HT.out _ (gN.alloc gN.size _) | exact HT.out _ (gI.alloc gI.size _) | exact HT.out _ gH | exact HT.out _ gG | exact HT.out _ (by exact ⟨rfl, rfl, rfl, Nat.le_refl _, fun _ _ => rfl⟩) | go_keep)
    (first
      | (go_at_call 20; (with_reducible refine (K1.out _ (by exact (show _ ∧ _ ∧ _ from by assumption).1)).mono ?_); rintro e wH ⟨⟨aq, cq, rfl⟩, gH, rH⟩)
      | (go_at_call 14; (with_reducible refine (K0.out _ (by exact (show _ ∧ _ ∧ _ from by assumption).1)).mono ?_); rintro e wI ⟨rfl, gI, rI⟩)
      | (go_at_call 21; (with_reducible refine (K2.out _ (by exact (show _ ∧ _ ∧ _ from by assumption).1)).mono ?_); rintro e wG ⟨vg, rfl, rdG, gG, rG⟩; obtain ⟨ag, cg, rfl, _, _⟩ := rdG.formi)
      | (go_at_call 6; refine (K3.out _ _ (by exact (show _ ∧ _ ∧ _ from by assumption).1) (by first | exact rdG | exact rdG.below rH | exact rdG.below rI | exact (rdG.below rH).below rI)).mono ?_; rintro e wN ⟨rfl, gN, rN⟩)
      | (go_at_call 61; (refine (K4.out wN gN).mono ?_); rintro e wL ⟨rfl, gL⟩)
      | (go_at_call 61; (refine (K4.out wI gI).mono ?_); rintro e wL ⟨rfl, gL⟩))
  all_goals
    go_wp2_with fail
    go_ret
    exact ⟨rfl, BW2.out.trans (gL.mono BW2.out.size)⟩

end Go.Proofs.YtggblfnajeikjaaGreatDoor
