/- The walk of the law FnLosers. -/
import Derived.Test.YtkidbnlebeaikaaPlainFnLosers
import Derived.Test.YtkidbnlebeaikaaDrawsII
import Derived.Test.YtkidbnlebeaikaaLawHelp2
namespace Go.Proofs.Ytkidbnlebeaikaa
open Go.RowKit
set_option linter.unusedVariables false
set_option linter.unusedSimpArgs false

theorem flat_len4 {L : List (List Int)} (h : ∀ r ∈ L, r.length ≤ 4) : L.flatten.length ≤ 4 * L.length ∧ tot L ≤ 4 * L.length := by
  induction L with
  | nil => simp [tot]
  | cons r L ih =>
    have h1 := ih (fun x hx => h x (List.mem_cons_of_mem _ hx))
    have h2 := h r (List.mem_cons_self ..)
    simp only [List.flatten_cons, List.length_append, List.length_cons, tot, List.foldr_cons] at *
    omega
theorem TK.i64s {xss : List (List Int)} {t : List Int} (H : LsOk xss) (h : TK xss t) : I64s t := by
  intro x hx
  obtain ⟨k, hk⟩ := List.getElem?_of_mem hx
  have hkl := (List.getElem?_eq_some_iff.1 hk).1
  obtain ⟨xs, n, h1, h2, h3⟩ := h.get (show k < xss.length by rw [← h.1]; exact hkl)
  rw [hk] at h2
  cases h2
  have := ((listsOk_iff.1 H.ok).2 xs (List.mem_of_getElem? h1)).1
  exact ⟨by omega, by omega⟩
theorem i_WinnerOfQ (w : World) (v : Value) (xss : List (List Int)) (h : Rd2 w v xss) (hf : I64ss xss) (vt : Value) (t : List Int) (ht : Rd w vt (ints t)) (hk : takenOk xss t = true) : Calls Try.prog 21 #[v, vt] w (RetQ (.int .i64 (winnerOk xss t)) w) := by
  have HT := i_TakenOk v xss vt t w h ht
  rw [hk] at HT
  obtain ⟨hl0, hT⟩ := takenOk_iff.1 hk
  obtain ⟨h1, h8⟩ := listsOk_len hl0
  clear hl0
  have HR : Hid (winnerOk xss t = winnerOf xss t) := by simp [winnerOk, hk, Hid]
  go_enter Try.func21, Try.ntmps21
  go_wp2_with (first | (go_at_call 18; refine HT.mono ?_; rintro e w2 ⟨rfl, hd2⟩) | (go_at_call 48; refine (i_winner _ xss _ t _ (h.dr hd2) (ht.dr hd2) hT hf h1 h8).mono ?_; rintro e w3 ⟨rfl, hd3⟩))
  go_ret
  exact ⟨ret_int HR.out.symm, hd2.trans hd3⟩

set_option maxRecDepth 100000 in
set_option maxHeartbeats 16000000 in
theorem law_FnLosers (w : World) (v : Value) (xs : List Int) (h : Rd w v (bytesV xs)) (hxb : ∀ n ∈ xs, 0 ≤ n ∧ n ≤ 255) : Calls Try.prog 10 #[v] w (Law w) := by
  obtain ⟨ab, n, cb, rfl, HN, hn1, hn2⟩ := h.formB
  by_cases hl : n ≤ 1048576
  case neg =>
    have hd : decide ((n : Int) > 1048576) = true := by simp; omega
    go_enter Try.func10, Try.ntmps10
    go_wp2_with fail
    go_ret
    exact ⟨rfl, Below.refl _ _⟩
  have hl' : xs.length ≤ 1048576 := by have := HN.out; omega
  have hd : decide ((n : Int) > 1048576) = false := by simp; omega
  have HMK : Hid (Calls Try.prog 33 #[.slice ab n cb, .int .i64 0] w _) := Lib.hid (s_MakeLists _ xs hxb hl' 0 (by omega) w h)
  clear hxb
  go_enter Try.func10, Try.ntmps10
  go_wp2_with fail
  refine HMK.out.mono ?_
  rintro e w1 ⟨L, vL, hL1, hL6, HLr, rfl, rL, bt⟩
  clear HMK
  have HSZ : Hid (SzOk L) := by
    have := (flat_len4 (fun r hr => (HLr r hr).1)).2
    exact ⟨by omega, by omega⟩
  have hFl := (flat_len4 (fun r hr => (HLr r hr).1)).1
  have IL : Hid (I64ss L) := fun r hr x hx => by have := (HLr r hr).2.1 x hx; exact ⟨by omega, by omega⟩
  have HO : Hid (LsOk L) := LsOk.of (listsOk_iff.2 ⟨⟨by omega, by omega⟩, fun r hr => ⟨by have := (HLr r hr).1; omega, adjB_pair (by have := srt_pair r; rwa [(HLr r hr).2.2] at this)⟩⟩) IL.out
  have HLO : Hid (listsOk L = true) := HO.out.ok
  have HNM : Hid (numsOk L = srt L.flatten) := by rw [Hid, numsOk, if_pos HLO.out, allNums_srt HO.out]
  have HFR : Hid (fromOk L = allFrom L) := by rw [Hid, fromOk, if_pos HLO.out]
  have HLC := Lib.hid (lcount HO.out)
  have HFL := Lib.hid (allFrom_len HO.out)
  have HM9 : Hid (allNums L = srt L.flatten) := allNums_srt HO.out
  clear HLr
  obtain ⟨aL, cL, rfl, _, _⟩ := rL.form
  obtain ⟨mL, hmL⟩ : ∃ mL, L.length = mL := ⟨_, rfl⟩
  rw [hmL] at rL hL1 hL6 hFl ⊢
  have HML := Lib.hid hmL
  clear hmL
  obtain ⟨F, hF⟩ : ∃ F, L.flatten = F := ⟨_, rfl⟩
  rw [hF] at HNM HFL HM9 hFl
  have HF := Lib.hid hF
  have HLC2 : Hid ((mL : Int) - 1 ≤ countOk L ∧ countOk L ≤ matchesBound (mL : Int) (F.length : Int)) := by
    have h1 := HLC.out.lo
    have h2 := HLC.out.hi
    rw [HML.out, HF.out] at *
    exact ⟨h1, h2⟩
  clear hF HLC
  have HFB : Hid (F.length ≤ 24) := by rw [Hid]; omega
  clear hFl
  have oA := Own.lit0 (B := w1.heap.size) w1 3 (Nat.le_refl _)
  have bA := (Below.refl w1.heap.size w1).alloc (Nat.le_refl _) (.cells #[] 3)
  go_wp2_with fail
  go_loopw [5, 28] (fun al iv wr => ∃ j : Nat, j ≤ mL ∧ iv = .int .i64 j ∧ Own wr 3 w1.heap.size al (ints (L.take j).flatten) ∧ Below w1.heap.size w1 wr) (fun _ iv _ => mL - (intOf iv).toNat)
  case atStart => exact ⟨0, Nat.zero_le _, rfl, oA, bA⟩
  case round =>
    clear bA oA
    obtain ⟨j, hj, rfl, oA, bA⟩ := hrel
    by_cases hjm : j < mL
    · have i1 : (j : Int) < (mL : Int) := by omega
      obtain ⟨ad, br, mr, dr, row, rfl, hcr, hrow, hmr, hmd, hd9, rr⟩ := (rL.below bA).row (k := j) (by have := HML.out; omega)
      have HSN : Hid ((L.take (j + 1)).flatten = (L.take j).flatten ++ row) := by rw [Hid, take_snoc' hrow.out, List.flatten_append]; simp
      have HLT : Hid ((ints (L.take j).flatten).length + (ints row).length ≤ 100) := by
        have h2 : (L.take (j + 1)).flatten.length + (L.drop (j + 1)).flatten.length = F.length := by rw [← List.length_append, ← List.flatten_append, List.take_append_drop, HF.out]
        rw [HSN.out, List.length_append] at h2
        rw [Hid, ints_length, ints_length]
        have := HFB.out
        omega
      obtain ⟨T, hT⟩ : ∃ T, (ints (L.take j).flatten).length + (ints row).length = T := ⟨_, rfl⟩
      have hT1 : T ≤ 100 := by have := HLT.out; omega
      have HT := Lib.hid hT
      clear hT
      go_wp2_with (at_builtin; refine wpList_appn rfl _ _ 27 rfl elI oA rr rfl rfl (oneCell_ints1 _) bA.size T HT.out (by omega) (by omega) ?_; intro b13 c13 w13 o13 g13 at13)
      have hb13 := bA.grown g13 bA.size (fun r hr => (oA.lt r hr).1)
      go_roundw
      case rel => exact ⟨j + 1, by omega, by go_num, by rw [HSN.out, ints_append]; exact o13, hb13⟩
      case measure => simp [intOf]; omega
    · obtain rfl : j = mL := by omega
      have HJ : Hid ((L.take j).flatten = F) := by rw [Hid, ← HML.out, List.take_length, HF.out]
      rw [HJ.out] at oA
      have rA := oA.rd
      replace rL := rL.below bA
      replace bt := bt.trans (bA.mono bt.size)
      clear oA bA
      obtain ⟨aA, mA, cA, rfl, HMA, _, _⟩ := rA.formN
      have hmA : mA ≤ 24 := by have := HMA.out; have := HFB.out; omega
      go_wp2_with fail
      refine (I_MergeAll _ _ L rL IL.out HSZ.out).mono ?_
      rintro e w3 ⟨vM, rfl, oM, b3⟩
      rw [HNM.out] at oM
      rw [HLO.out]
      replace rL := rL.below b3
      replace rA := rA.below b3
      replace bt := bt.trans (b3.mono bt.size)
      have rM := oM.rd
      clear oM b3
      obtain ⟨aM, mM, cM, rfl, HMM, _, _⟩ := rM.formN
      go_wp2_with fail
      refine (I_TakenFrom _ _ L rL IL.out HSZ.out).mono ?_
      rintro e w4 ⟨vF, rfl, oF, b4⟩
      rw [HFR.out] at oF
      replace rL := rL.below b4
      replace rA := rA.below b4
      replace rM := rM.below b4
      replace bt := bt.trans (b4.mono bt.size)
      have rF := oF.rd
      clear oF b4
      obtain ⟨aF, mF, cF, rfl, HMF, _, _⟩ := rF.formN
      go_wp2_with fail
      refine (I_CountMatches _ _ L rL IL.out HSZ.out).mono ?_
      rintro e w5 ⟨rfl, b5⟩
      obtain ⟨cc, hcc⟩ : ∃ cc, countOk L = cc := ⟨_, rfl⟩
      obtain ⟨bd, hbd⟩ : ∃ bd, matchesBound (j : Int) (mA : Int) = bd := ⟨_, rfl⟩
      have hc1 : decide (cc < (j : Int) - 1) = false := by have := HLC2.out.1; rw [hcc] at this; simp; omega
      have hc2 : decide (cc > bd) = false := by have := HLC2.out.2; rw [hcc, ← HMA.out, hbd] at this; simp; omega
      have HBD := Lib.hid hbd
      rw [hcc]
      clear hcc hbd
      replace rL := rL.below b5
      replace rA := rA.below b5
      replace rM := rM.below b5
      replace rF := rF.below b5
      replace bt := bt.trans (b5.mono bt.size)
      clear b5
      go_wp2_with fail
      refine (sorted_c _ F _ rA (by have := HFB.out; omega)).mono ?_
      rintro e w6 ⟨v6, rfl, o6, b6⟩
      replace rL := rL.below b6
      replace rM := rM.below b6
      replace rF := rF.below b6
      replace bt := bt.trans (b6.mono bt.size)
      go_wp2_with fail
      refine (same_c _ _ (srt F) (srt F) _ rM o6.rd).mono ?_
      rintro e w7 ⟨rfl, d7⟩
      rw [eqI_self]
      replace rL := rL.dr d7
      replace rM := rM.dr d7
      replace rF := rF.dr d7
      replace bt := bt.trans (d7.below _)
      clear o6 b6 d7
      have hd1 : ((mF : Int) != (mA : Int)) = false := by have := HMF.out; have := HMA.out; have := HFL.out; simp; omega
      go_wp2_with fail
      refine (i_MatchesBound _ _ _).mono ?_
      rintro e w' ⟨rfl, rfl⟩
      rw [HBD.out]
      go_wp2_with fail
      refine (i_ListsOk _ L _ rL).mono ?_
      rintro e w8 ⟨rfl, d8⟩
      rw [HLO.out]
      replace rL := rL.dr d8
      replace rM := rM.dr d8
      replace rF := rF.dr d8
      replace bt := bt.trans (d8.below _)
      clear d8
      go_wp2_with (at_make; refine wpList_mk (B := w8.heap.size) rfl _ _ 27 rfl elI rfl rfl (Nat.le_refl _) (by omega) (by omega) ?_; intro bm w9 hbm own9 hg9)
      have b9 := (Below.refl w8.heap.size w8).grown hg9 (Nat.le_refl _) (fun _ h => by cases h)
      have own9' : Own w9 3 w8.heap.size (.slice (some bm) j j) (ints (zeros j)) := by simpa [ints, zeros] using own9
      have HAT : Hid (LAt L 0 (zeros j)) := by have := LAt.start HO.out; rwa [HML.out] at this
      have hmF : Hid (mF = (allFrom L).length) := HMF
      clear own9 hg9
      go_wp2_with fail
      go_loopw [84] (fun iv wr => ∃ (i : Nat) (t : List Int), i ≤ mF ∧ iv = .int .i64 i ∧ Own wr 3 w8.heap.size (.slice (some bm) j j) (ints t) ∧ Hid (LAt L i t) ∧ Below w8.heap.size w8 wr) (fun iv _ => mF - (intOf iv).toNat)
      case atStart => exact ⟨0, _, Nat.zero_le _, rfl, own9', HAT, b9⟩
      case round =>
        clear own9' HAT b9
        obtain ⟨i, t, hi, rfl, oT, HAT, b9⟩ := hrel
        have rL' := rL.below b9
        have rM' := rM.below b9
        have rF' := rF.below b9
        by_cases him : i < mF
        · have i1 : (i : Int) < (mF : Int) := by omega
          obtain ⟨aF1, x, hF1, hcF, hxF⟩ := rF'.int (k := i) (by have := HMF.out; omega)
          subst hF1
          obtain ⟨W, q, row, y, rfl, hG⟩ := HAT.out.go HO.out hxF.out
          have G := Lib.hid hG
          have hW : W < j := by have := hG.lt; have := HML.out; omega
          have HTL : Hid (t.length = j) := by have := HAT.out.tk.1; rw [Hid]; have := HML.out; omega
          have HI64 := Lib.hid (HAT.out.tk.i64s HO.out)
          clear hG
          go_wp2_with fail
          refine (I_LosersOf _ _ L rL' IL.out HSZ.out _ t oT.rd HI64.out (by have := HTL.out; omega)).mono ?_
          rintro e w10 ⟨vX, rfl, oX, b10⟩
          have b10' := b9.trans (b10.mono b9.size)
          replace oT := oT.below b10
          replace rL' := rL'.below b10
          replace rM' := rM'.below b10
          replace rF' := rF'.below b10
          have rX := oX.rd
          obtain ⟨X, hX⟩ : ∃ X, losersOk L t = X := ⟨_, rfl⟩
          rw [hX] at rX
          have HX := Lib.hid hX
          clear oX b10 b9 hX
          obtain ⟨aX, mX, cX, rfl, HMX, _, _⟩ := rX.formN
          have hmX : mX + 1 = j := by have := HMX.out; have := G.out.los; rw [HX.out] at this; have := HML.out; omega
          have hct := oT.rd.cell_i G.out.at_
          have hfz := oT.frozen rfl W
          obtain ⟨ad, br, mr, dr, row', had, hcr, hrow', hmr, hmd, hd9, rr⟩ := rL'.row (k := W) (by have := HML.out; omega)
          subst had
          have hrr : row' = row := by have := hrow'.out; rw [G.out.row] at this; exact (Option.some.inj this).symm
          subst hrr
          have hqr : q < mr := by have := hmr.out; have := (List.getElem?_eq_some_iff.1 G.out.num).1; omega
          obtain ⟨ar, y2, har, hcy, hy2⟩ := rr.int (k := q) (by have := hmr.out; omega)
          subst har
          have hyy : y2 = y := by have := hy2.out; rw [G.out.num] at this; exact (Option.some.inj this).symm
          subst hyy
          obtain ⟨am, y3, ham, hcm, hy3⟩ := rM'.int (k := i) (by have := HM9.out; have := HMM.out; have := (List.getElem?_eq_some_iff.1 G.out.m).1; rw [HM9.out] at this; exact this)
          subst ham
          have hyy : y3 = y2 := by have := hy3.out; rw [← HM9.out, G.out.m] at this; exact (Option.some.inj this).symm
          subst hyy
          have hiM : i < mM := by have := HMM.out; have := (List.getElem?_eq_some_iff.1 hy3.out).1; omega
          have i2 : (i : Int) < (mM : Int) := by omega
          have i3 : (W : Int) < (j : Int) := by omega
          have i4 : (q : Int) < (mr : Int) := by omega
          have c0 : decide ((W : Int) < 0) = false := by simp
          have c1 : decide ((W : Int) ≥ (j : Int)) = false := by simp; omega
          have c2 : decide ((q : Int) ≥ (mr : Int)) = false := by simp; omega
          have c2n : ¬ mr ≤ q := by omega
          have c1n : ¬ j ≤ W := by omega
          have c3 : (y3 != y3) = false := by simp
          have c4 : ((W : Int) != (W : Int)) = false := by simp
          have c5 : ((mX : Int) != (j : Int) - 1) = false := by simp; omega
          have HMJ := Lib.hid hmX
          have hmX8 : mX ≤ 8 := by omega
          clear hmX
          have GW : Hid (∀ nn, Calls Try.prog 21 #[.slice (some ad) j cL, .slice (some bm) j j] (w10.drewN nn) (RetQ (.int .i64 (W : Int)) (w10.drewN nn))) := fun nn => by
            have := i_WinnerOfQ (w10.drewN nn) _ L (rL'.drewN nn) IL.out _ t (oT.rd.drewN nn) G.out.ok
            rwa [G.out.win] at this
          have GH : Hid (∀ nn, Calls Try.prog 37 #[.slice aX mX cX, .int .i64 (W : Int)] (w10.drewN nn) fun e w' => e = .returned (.bool false) ∧ w10.drewN nn = w') := fun nn => by
            have := has_c _ X (W : Int) (w10.drewN nn) (rX.drewN nn)
            rwa [← HX.out, G.out.has] at this
          have GT : Hid (∀ nn, Calls Try.prog 18 #[.slice (some ad) j cL, .slice (some bm) j j] (w10.drewN nn) (RetQ (.bool true) (w10.drewN nn))) := fun nn => by
            have := i_TakenOk _ L _ t (w10.drewN nn) (rL'.drewN nn) (oT.rd.drewN nn)
            rwa [G.out.ok] at this
          go_wp2_with fail
          go_quiet (first
            | (go_at_call 21; exact quietQ (GW.out _))
            | (go_at_call 37; exact Calls.quiet_of_same ((GH.out _).mono fun _ _ hh => ⟨hh.1, hh.2.symm⟩))
            | (go_at_call 18; exact quietQ (GT.out _)))
          rename_i nq
          obtain ⟨w11, hw11⟩ : ∃ w11, w10.drewN nq = w11 := ⟨_, rfl⟩
          have oT1 := oT.drewN nq
          have rX1 := rX.drewN nq
          have b11 : Below w8.heap.size w8 (w10.drewN nq) := b10'.trans ((Dr.refl w10).step nq |>.below _)
          rw [hw11] at oT1 rX1 b11 ⊢
          have HLX : Hid ((ints X).length = mX) := by rw [Hid, ints_length, HMX.out]
          clear hw11 hct hcr hcy hcm hcF c0 c1 c2 c3 c4 c5 GW GH GT oT rX rL' rM' rF' b10' rr
          go_wp2_with (first
            | (at_builtin; refine wpList_copy (B := w11.heap.size) rfl _ _ 27 rfl elI rX1 rfl rfl (oneCell_ints1 _) (Nat.le_refl _) _ HLX.out (by omega) (by omega) ?_; intro b12 c12 w12 o12 bb12)
            | (at_builtin; refine wpList_app1m rfl _ _ 27 rfl elI rfl o12 (by show Value.slice (some ⟨w12.heap.size, 0, none⟩) 1 1 = _; simp) rfl bb12.size _ HLX.out (by omega) (by omega) ?_; intro b13 c13 w13 o13 g13 at13))
          have bb13 := bb12.grown g13 bb12.size (fun r hr => (o12.lt r hr).1)
          have o13' : Own w13 3 w11.heap.size (.slice b13 (mX + 1) c13) (ints (X ++ [(W : Int)])) := by rw [ints_append]; exact o13
          have oT2 := oT1.below bb13
          have b13' := b11.trans (bb13.mono b11.size)
          have HSX : Hid (srt (X ++ [(W : Int)]) = stairs j) := by rw [Hid, ← HX.out, G.out.all, HML.out, srt_stairs]
          clear o12 bb12 o13 g13 at13 bb13 rX1 oT1 b11
          refine (sorted_c _ _ _ o13'.rd (by rw [List.length_append, ← HMX.out]; simp; omega)).mono ?_
          rintro e w14 ⟨v14, rfl, o14, b14⟩
          rw [HSX.out] at o14
          replace oT2 := oT2.below b14
          have b14' := b13'.trans (b14.mono b13'.size)
          clear o13' b14 b13'
          go_wp2_with fail
          refine (stairs_c j _ (by omega)).mono ?_
          rintro e w15 ⟨v15, rfl, o15, b15⟩
          replace oT2 := oT2.below b15
          replace o14 := o14.below b15
          have b15' := b14'.trans (b15.mono b14'.size)
          clear b15 b14'
          go_wp2_with fail
          refine (same_c _ _ (stairs j) (stairs j) _ o14.rd o15.rd).mono ?_
          rintro e w16 ⟨rfl, d16⟩
          rw [eqI_self]
          replace oT2 := oT2.dr d16
          have b16' := b15'.trans (d16.below _)
          clear o14 o15 d16 b15'
          have hct := oT2.rd.cell_i G.out.at_
          have hfz := oT2.frozen rfl W
          have hqs : q ≤ 1000000 := by have := (List.getElem?_eq_some_iff.1 G.out.num).1; have := ((listsOk_iff.1 HLO.out).2 _ (List.mem_of_getElem? G.out.row)).1; omega
          have oT3 := (oT2.seti rfl (show W < t.length by have := HTL.out; omega) ((q : Int) + 1)).1
          have b17' := oT2.below_set rfl (show W < t.length by have := HTL.out; omega) (.int .i64 ((q : Int) + 1)) b16' (Nat.le_refl _)
          have HNX : Hid (LAt L (i + 1) (t.set W ((q : Int) + 1))) := G.out.next
          clear oT2 b16'
          go_wp2_with fail
          go_roundw
          case rel => exact ⟨i + 1, _, by omega, by go_num, oT3, HNX, b17'⟩
          case measure => simp [intOf]; omega
        · have i1 : ¬ (i : Int) < (mF : Int) := by omega
          obtain rfl : i = mF := by omega
          have HWN : Hid (winnerOk L t = -1) := LAt.done HO.out (by have := HAT.out; rwa [HMF.out] at this)
          have HI64 := Lib.hid (HAT.out.tk.i64s HO.out)
          have HTL : Hid (t.length = j) := by have := HAT.out.tk.1; rw [Hid]; have := HML.out; omega
          go_wp2_with fail
          refine (I_WinnerOf _ _ L rL' IL.out HSZ.out _ t oT.rd HI64.out (by have := HTL.out; omega)).mono ?_
          rintro e w10 ⟨rfl, b10⟩
          rw [HWN.out]
          have bz := (bt.trans (b9.mono bt.size)).trans (b10.mono (by have := bt.size; have := b9.size; omega))
          clear rL' rM' rF' rL rM rF b9 b10 bt oT
          go_wp2_with fail
          go_loopw [16, 17] (fun iv ov wr => ∃ k : Nat, k ≤ j ∧ iv = .int .i64 k ∧ Below w.heap.size w wr) (fun iv _ _ => j - (intOf iv).toNat)
          case atStart => exact ⟨0, Nat.zero_le _, rfl, bz⟩
          case round =>
            clear bz
            obtain ⟨k, hk, rfl, bz⟩ := hrel
            by_cases hkj : k < j
            · have i2 : (k : Int) < (j : Int) := by omega
              have HOP : Hid (oppOf (j : Int) (k : Int) = wayOf j k) := by
                have h1 : inB (j : Int) 1 8 = true := inB_iff.2 (by omega)
                have h2 : inB (k : Int) 0 ((j : Int) - 1) = true := inB_iff.2 (by omega)
                simp [oppOf, h1, h2, Hid]
              obtain ⟨f1, f2, f3, f4⟩ := way_facts j (by omega) k hkj
              obtain ⟨O, hO⟩ : ∃ O, wayOf j k = O := ⟨_, rfl⟩
              rw [hO] at HOP f1 f2 f3 f4
              have HS2 := Lib.hid f2
              have HS3 := Lib.hid f3
              have HS4 := Lib.hid f4
              clear hO f1 f2 f3 f4
              go_wp2_with fail
              refine (I_OpponentsOf _ (j : Int) ⟨by omega, by omega⟩ (k : Int) ⟨by omega, by omega⟩).mono ?_
              rintro e w20 ⟨v20, rfl, o20, b20⟩
              rw [HOP.out] at o20
              replace bz := bz.trans (b20.mono bz.size)
              have rO := o20.rd
              clear o20 b20
              obtain ⟨aO, mO, cO, rfl, HMO, _, _⟩ := rO.formN
              have hmO : mO ≤ 3 := by have := HMO.out; have := HS4.out; omega
              go_wp2_with fail
              refine (sum_c _ O _ rO (by have := HMO.out; omega) HS3.out).mono ?_
              rintro e w' ⟨rfl, rfl⟩
              rw [HS2.out]
              have c0 : ((j : Int) - 1 != (j : Int) - 1) = false := by simp
              have c1 : decide ((mO : Int) > 3) = false := by simp; omega
              have c1n : ¬ 3 < mO := by omega
              clear HMO rO
              rcases (show mO = 0 ∨ mO = 1 ∨ mO = 2 ∨ mO = 3 by omega) with rfl | rfl | rfl | rfl
              all_goals
                go_wp2_with fail
                all_goals first
                  | exact ⟨⟨k + 1, by omega, by go_num, bz⟩, by simp [intOf]; omega⟩
                  | (go_roundw
                     case rel => exact ⟨k + 1, by omega, by go_num, bz⟩
                     case measure => simp [intOf]; omega)
            · have i2 : ¬ (k : Int) < (j : Int) := by omega
              have HOP : Hid (oppOf (j : Int) (j : Int) = []) := by
                have h2 : inB (j : Int) 0 ((j : Int) - 1) = false := by
                  rw [Bool.eq_false_iff]
                  intro h
                  have := inB_iff.1 h
                  omega
                simp [oppOf, h2, Hid]
              go_wp2_with fail
              refine (I_OpponentsOf _ (j : Int) ⟨by omega, by omega⟩ (j : Int) ⟨by omega, by omega⟩).mono ?_
              rintro e w20 ⟨v20, rfl, o20, b20⟩
              rw [HOP.out] at o20
              replace bz := bz.trans (b20.mono bz.size)
              obtain ⟨aO, cO, rfl, _, _⟩ := o20.rd.formi
              go_wp2_with fail
              go_ret
              exact ⟨rfl, bz⟩

end Go.Proofs.Ytkidbnlebeaikaa
