/- Joined texts of the proof: OrderLine. -/
import Derived.WalkKit
import Derived.WalkSpells
import Derived.WalkLawsBesides
import Derived.Deep.Draws
import Derived.Lib.Hide
import Derived.RegionTactic
import Derived.Lib.SmallJoins
import Derived.Test.YtggblfnajeikjaaGreatDoorRows
import Derived.BigQuiet
import Derived.Deep.QuietTactic
import Derived.Lib.SliceRun
import Derived.Deep.DeepCutAuto
import Derived.Deep.LoopGhost
import Derived.Deep.RegionWith
import Derived.Lib.ItoaNum
import Derived.Deep.RegionHeld3
import Derived.IntWalk
import Derived.Lib.Join
import Derived.Shelf.Strings.Builder1
import Derived.Shelf.Strings.Builder2
import Derived.Shelf.Strings.OnBuilder
import Derived.Shelf.Strconv.Atoi
import Derived.Shelf.Strconv.Itoa0
import Derived.Shelf.Strconv.Itoa1
import Derived.Shelf.LaysM
import Derived.Shelf.Strconv.Itoa2
import Derived.Shelf.Strconv.Itoa3
import Derived.Shelf.Strconv.AtoiErrFast
import Derived.Shelf.Strconv.ParseIntEmpty
import Derived.Shelf.Strconv.AtoiFail
import Derived.Shelf.Strconv.Clone
import Derived.Shelf.Strconv.SyntaxError
import Derived.Shelf.LaysC
import Derived.Shelf.Strconv.ToError
import Derived.Shelf.Strconv.Lower
import Derived.Shelf.Strconv.ParseUint10
import Derived.Shelf.Strconv.ParseUint10Empty
import Derived.Shelf.Strconv.ParseUint10Any
import Derived.Shelf.Strconv.ParseInt10
import Derived.Shelf.Strconv.AtoiLong
import Derived.Shelf.Strconv.AtoiInnerAll
import Derived.Shelf.Strconv.RangeError
import Derived.Shelf.Strconv.ToErrorRange
import Derived.Shelf.Strconv.AtoiAll
import Derived.Shelf.Strconv.ErrVarAll
import Derived.Shelf.Strings.Search1
import Derived.Shelf.Strings.Search2
import Derived.Shelf.Strings.Search3
import Derived.Shelf.Strings.Cut
import Derived.Shelf.Strings.Count
import Derived.Shelf.Strings.Shaped
import Derived.Shelf.Sort.Plain
import Derived.Shelf.Strings.Prefix
import Derived.Shelf.Strings.Split
import Derived.Shelf.Unicode.DecodeSlow
import Derived.Shelf.Slices.Reverse
import Derived.Ground.Names2Prog
import Derived.Shelf.Slices.CompactI
import Derived.Test.YtggblfnajeikjaaGreatDoorProg
import Derived.Lib.RowBridge
import Derived.Sort.OwnSortedInts
import Derived.Test.YtggblfnajeikjaaGreatDoorJ1
import Derived.Test.YtggblfnajeikjaaGreatDoorJ3
import Derived.Test.YtggblfnajeikjaaGreatDoorJ6
import Derived.Test.YtggblfnajeikjaaGreatDoorJ7
import Derived.Test.YtggblfnajeikjaaGreatDoorJ9
import Derived.Test.YtggblfnajeikjaaGreatDoorJ10
import Derived.Test.YtggblfnajeikjaaGreatDoorJ16
import Derived.Test.YtggblfnajeikjaaGreatDoorJ19
import Derived.Test.YtggblfnajeikjaaGreatDoorJ31
import Derived.Test.YtggblfnajeikjaaGreatDoorJ34
import Derived.Test.YtggblfnajeikjaaGreatDoorJ35
import Derived.Test.YtggblfnajeikjaaGreatDoorJ36
import Derived.Test.YtggblfnajeikjaaGreatDoorJ37
import Derived.Test.YtggblfnajeikjaaGreatDoorJ39
namespace Go.Proofs.YtggblfnajeikjaaGreatDoor
open Go.RowKit
set_option linter.unusedVariables false
set_option linter.unusedSimpArgs false

def orderLine (n : Int) (xss : List (List Int)) : List UInt8 :=
  if netOk n xss then [107, 110, 111, 119, 110, 32] ++ Lib.itoa (knownL n xss).length ++ [32, 114, 101, 115, 117, 108, 116, 115, 32] ++ Lib.itoa (resL n xss).length ++ [32, 105, 100, 108, 101, 32] ++ numsB (idleL n xss) else [110, 111, 110, 101]
theorem orderLine_no {n : Int} {xss : List (List Int)} (h : netOk n xss = false) : orderLine n xss = [110, 111, 110, 101] := by rw [orderLine, if_neg (by simp [h])]
theorem orderLine_ok {n : Int} {xss : List (List Int)} (h : netOk n xss = true) : orderLine n xss = [107, 110, 111, 119, 110, 32] ++ Lib.itoa (knownL n xss).length ++ [32, 114, 101, 115, 117, 108, 116, 115, 32] ++ Lib.itoa (resL n xss).length ++ [32, 105, 100, 108, 101, 32] ++ numsB (idleL n xss) := by rw [orderLine, if_pos h]
theorem resL_len (n : Int) (xss : List (List Int)) : (resL n xss).length ≤ 256 := by
  cases hk : netOk n xss
  · rw [resL_no hk]; simp
  · obtain ⟨N, rfl, _, h8, _⟩ := netOk_n hk
    rw [resN_nats hk, natsI_len]
    have := resN_len (N : Int) xss
    have := pow_le8 h8
    simp only [Int.toNat_natCast] at *
    omega

set_option maxRecDepth 100000 in
set_option maxHeartbeats 8000000 in
theorem I_OrderLine (w : World) (n : Int) (hn : I64 n) (v : Value) (xss : List (List Int)) (h : Rd2 w v xss) (_ : I64ss xss) (_ : SzOk xss) (ht : Tab w) : Calls Tryz.prog 17 #[.agg #[.int .i64 n, v]] w (RetB (.string (bstr (orderLine n xss))) w) := by
  obtain ⟨a, c, rfl, h2, h3⟩ := h.form
  obtain ⟨w0, hw0, hb0, hz0, c0, c1⟩ := net_box w (.int .i64 n) (.slice a xss.length c) 30
  have h' := h.below hb0
  have HN := i_NetworkOk n _ xss _ h' hn
  have C1 := Lib.hid c1
  cases hk : netOk n xss
  · rw [hk] at HN
    have HR := Lib.hid (orderLine_no hk)
    go_enter Tryz.func17, Tryz.ntmps17
    go_wp2_with (go_at_call 40; refine HN.mono ?_; rintro e w2 ⟨rfl, hb2⟩)
    go_ret
    exact ⟨by rw [HR.out]; rfl, hb0.trans (hb2.mono (by omega))⟩
  rw [hk] at HN
  have HR := Lib.hid (orderLine_ok hk)
  have GH := Lib.hid (fun (W : World) (hW : Below w.heap.size w W) => i_KnownOrder n _ xss W (h.below hW) hn hk)
  have GR := Lib.hid (fun (W : World) (hW : Below w.heap.size w W) => i_ResultsOf n _ xss W (h.below hW) hn)
  have GG := Lib.hid (fun (W : World) (hW : Below w.heap.size w W) => i_IdleOf n _ xss W (h.below hW) hn)
  have hhl := knownL_len n xss
  have hrl := resL_len n xss
  obtain ⟨hgi, hgl⟩ := idleL_bd n xss
  obtain ⟨hs, hhs⟩ : ∃ hs, knownL n xss = hs := ⟨_, rfl⟩
  obtain ⟨rs, hrs⟩ : ∃ rs, resL n xss = rs := ⟨_, rfl⟩
  obtain ⟨gs, hgs⟩ : ∃ gs, idleL n xss = gs := ⟨_, rfl⟩
  rw [hhs] at GH HR hhl
  rw [hrs] at GR HR hrl
  rw [hgs] at GG HR hgi hgl
  have hzn := numsB_le hgi hgl
  have g0 : fmtNums gs = numsB gs := by rw [fmtNums, if_neg (by omega)]
  have HF0 := fun (W : World) (u : Value) (hu : Rd W u (ints gs)) (hW : Tab W) => I_FormatNumbers W u _ hu hgi (by omega) hW
  rw [g0] at HF0
  have zA := (itoa_len (n := (hs.length : Int)) (show I64 _ by unfold I64; omega)).2
  have KI0 := Lib.hid (fun (W : World) (hW : Tab W) => I_FormatInt W (hs.length : Int) (by unfold I64; omega) hW)
  have zE := (itoa_len (n := (rs.length : Int)) (show I64 _ by unfold I64; omega)).2
  have KJ0 := Lib.hid (fun (W : World) (hW : Tab W) => I_FormatInt W (rs.length : Int) (by unfold I64; omega) hW)
  have GL := Lib.hid (fun W => i_line6 [107, 110, 111, 119, 110] (Lib.itoa hs.length) [114, 101, 115, 117, 108, 116, 115] (Lib.itoa rs.length) [105, 100, 108, 101] (numsB gs) (by simp) (by omega) (by simp) (by omega) (by simp) (by omega) W)
  have HRB : Hid (orderLine n xss = [107, 110, 111, 119, 110] ++ [32] ++ Lib.itoa hs.length ++ [32] ++ [114, 101, 115, 117, 108, 116, 115] ++ [32] ++ Lib.itoa rs.length ++ [32] ++ [105, 100, 108, 101] ++ [32] ++ numsB gs) := by simp [HR.out, Hid]
  have HFN := Lib.hid HF0
  rw [← HRB.out] at GL
  generalize numsB gs = F at HFN GL
  generalize Lib.itoa (hs.length : Int) = A at KI0 GL
  generalize Lib.itoa (rs.length : Int) = E at KJ0 GL
  obtain ⟨R, hR⟩ : ∃ R, orderLine n xss = R := ⟨_, rfl⟩
  rw [hR] at GL ⊢
  clear HRB hR
  obtain ⟨hl, hhl2⟩ : ∃ hl, hs.length = hl := ⟨_, rfl⟩
  rw [hhl2] at KI0 hhl
  have HHL := Lib.hid hhl2
  obtain ⟨rl, hrl2⟩ : ∃ rl, rs.length = rl := ⟨_, rfl⟩
  rw [hrl2] at KJ0 hrl
  have HRL := Lib.hid hrl2
  have C0 := Lib.hid c0
  clear hk HF0 g0 hzn zA zE hgi hgl hhs hrs hgs hhl2 hrl2 HR
  go_enter Tryz.func17, Tryz.ntmps17
  go_wp2_with (go_at_call 40; refine HN.mono ?_; rintro e w2 ⟨rfl, hb2⟩; have hbw2 : Below w.heap.size w w2 := hb0.trans (hb2.mono (by omega)); obtain ⟨c0, c1⟩ := Below.cells2 hb2 (show w.heap.size < w0.heap.size by omega) C0.out C1.out)
  have HT := keep_box c0 c1
  have K0 : Hid (∀ W : World, Below w2.heap.size w2 W → Calls Tryz.prog 14 #[.int .i64 (hl : Int)] W fun e w' => e = .returned (.string (bstr A)) ∧ Below w2.heap.size w2 w' ∧ Below W.heap.size W w') := fun W hW => (KI0.out W (ht.below (hbw2.trans (hW.mono hbw2.size)))).mono fun e w' h => ⟨h.1, hW.trans (h.2.mono hW.size), h.2⟩
  have J0 : Hid (∀ W : World, Below w2.heap.size w2 W → Calls Tryz.prog 14 #[.int .i64 (rl : Int)] W fun e w' => e = .returned (.string (bstr E)) ∧ Below w2.heap.size w2 w' ∧ Below W.heap.size W w') := fun W hW => (KJ0.out W (ht.below (hbw2.trans (hW.mono hbw2.size)))).mono fun e w' h => ⟨h.1, hW.trans (h.2.mono hW.size), h.2⟩
  have K1 : Hid (∀ W : World, Below w2.heap.size w2 W → Calls Tryz.prog 66 #[.agg #[.int .i64 n, .slice a xss.length c]] W fun e w' => (∃ aq cq, e = .returned (.slice aq hl cq)) ∧ Below w2.heap.size w2 w' ∧ Below W.heap.size W w') := fun W hW => (GH.out W (hbw2.trans (hW.mono hbw2.size))).mono fun e w' h => by
    obtain ⟨vq, rfl, ho, hb⟩ := h
    obtain ⟨aq, cq, rfl, _, _⟩ := ho.form
    exact ⟨⟨aq, cq, by rw [HHL.out]⟩, hW.trans (hb.mono hW.size), hb⟩
  have J1 : Hid (∀ W : World, Below w2.heap.size w2 W → Calls Tryz.prog 67 #[.agg #[.int .i64 n, .slice a xss.length c]] W fun e w' => (∃ aq cq, e = .returned (.slice aq rl cq)) ∧ Below w2.heap.size w2 w' ∧ Below W.heap.size W w') := fun W hW => (GR.out W (hbw2.trans (hW.mono hbw2.size))).mono fun e w' h => by
    obtain ⟨vq, rfl, ho, hb⟩ := h
    obtain ⟨aq, cq, rfl, _, _⟩ := ho.rd.formi
    exact ⟨⟨aq, cq, by rw [HRL.out]⟩, hW.trans (hb.mono hW.size), hb⟩
  have K2 : Hid (∀ W : World, Below w2.heap.size w2 W → Calls Tryz.prog 18 #[.agg #[.int .i64 n, .slice a xss.length c]] W fun e w' => ∃ v, e = .returned v ∧ Rd w' v (ints gs) ∧ Below w2.heap.size w2 w' ∧ Below W.heap.size W w') := fun W hW => (GG.out W (hbw2.trans (hW.mono hbw2.size))).mono fun e w' h => by
    obtain ⟨vq, rfl, ho, hb⟩ := h
    exact ⟨vq, rfl, ho.rd, hW.trans (hb.mono hW.size), hb⟩
  have K3 : Hid (∀ (W : World) (u : Value), Below w2.heap.size w2 W → Rd W u (ints gs) → Calls Tryz.prog 6 #[u] W fun e w' => e = .returned (.string (bstr F)) ∧ Below w2.heap.size w2 w' ∧ Below W.heap.size W w') := fun W u hW hu => (HFN.out W u hu (ht.below (hbw2.trans (hW.mono hbw2.size)))).mono fun e w' h => ⟨h.1, hW.trans (h.2.mono hW.size), h.2⟩
  have K4 : Hid (∀ W : World, Below w2.heap.size w2 W → Calls Tryz.prog 61 #[.slice (some ⟨W.heap.size, 0, none⟩) 6 6] (W.alloc (.cells #[.string ⟨#[107, 110, 111, 119, 110]⟩, .string (bstr A), .string ⟨#[114, 101, 115, 117, 108, 116, 115]⟩, .string (bstr E), .string ⟨#[105, 100, 108, 101]⟩, .string (bstr F)] 9)) fun e w' => e = .returned (.string (bstr R)) ∧ Below w2.heap.size w2 w') := fun W hW => (GL.out W).mono fun e w' h => ⟨h.1, hW.trans (h.2.mono hW.size)⟩
  have BW2 := Lib.hid hbw2
  clear KI0 KJ0 GH GR GG HFN GL c0 c1 C0 C1 HN hbw2 hb2 hb0 h h' HHL HRL
  go_region_held3 (fun wx => Below w2.heap.size w2 wx ∧ wx.cell? ⟨w.heap.size, 0, none⟩ = some (.int .i64 n) ∧ wx.cell? ⟨w.heap.size, 1, none⟩ = some (.slice a xss.length c))
    (first | exact HT.out _ gL | exact HT.out _ gN | exact HT.out _ (gN.alloc gN.size _) | exact HT.out _ gG | exact HT.out _ gJ | exact HT.out _ gR | exact HT.out _ gI | exact HT.out _ gH | exact HT.out _ (by exact ⟨rfl, rfl, rfl, Nat.le_refl _, fun _ _ => rfl⟩) | go_keep)
    (first
      | (go_at_call 66; (with_reducible refine (K1.out _ (by exact (show _ ∧ _ ∧ _ from by assumption).1)).mono ?_); rintro e wH ⟨⟨aq, cq, rfl⟩, gH, rH⟩)
      | (go_at_call 14; (with_reducible refine (K0.out _ (by exact (show _ ∧ _ ∧ _ from by assumption).1)).mono ?_); rintro e wI ⟨rfl, gI, rI⟩)
      | (go_at_call 67; (with_reducible refine (J1.out _ (by exact (show _ ∧ _ ∧ _ from by assumption).1)).mono ?_); rintro e wR ⟨⟨aq2, cq2, rfl⟩, gR, rR⟩)
      | (go_at_call 14; (with_reducible refine (J0.out _ (by exact (show _ ∧ _ ∧ _ from by assumption).1)).mono ?_); rintro e wJ ⟨rfl, gJ, rJ⟩)
      | (go_at_call 18; (with_reducible refine (K2.out _ (by exact (show _ ∧ _ ∧ _ from by assumption).1)).mono ?_); rintro e wG ⟨vg, rfl, rdG, gG, rG⟩; obtain ⟨ag, cg, rfl, _, _⟩ := rdG.formi)
      | (go_at_call 6; refine (K3.out _ _ (by exact (show _ ∧ _ ∧ _ from by assumption).1) (by first | exact rdG | exact rdG.below rH | exact rdG.below rI)).mono ?_; rintro e wN ⟨rfl, gN, rN⟩)
      | (go_at_call 61; (refine (K4.out wN gN).mono ?_); rintro e wL ⟨rfl, gL⟩))
  all_goals
    go_wp2_with fail
    go_ret
    exact ⟨rfl, BW2.out.trans (gL.mono BW2.out.size)⟩

end Go.Proofs.YtggblfnajeikjaaGreatDoor
