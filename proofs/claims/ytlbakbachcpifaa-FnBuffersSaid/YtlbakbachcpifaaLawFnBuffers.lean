/- The walk of the law FnBuffers. -/
import Derived.Test.YtlbakbachcpifaaPlainFnBuffers
import Derived.Test.YtlbakbachcpifaaDraws3
import Derived.Test.YtlbakbachcpifaaLawHelp
namespace Go.Proofs.Ytlbakbachcpifaa
open Go.RowKit
set_option linter.unusedVariables false
set_option linter.unusedSimpArgs false

theorem bufOk_of {L : List Int} {K : Nat} (hL : L.length ≤ 24) (h1 : 1 ≤ K) (h8 : K ≤ 8) : bufOk L (K : Int) = true := by
  rw [bufOk, inB_iff.2 ⟨by omega, by omega⟩, decide_eq_true hL]
  rfl
theorem bufSort_val {once : Bool} {L : List Int} {K : Nat} (hL : L.length ≤ 24) (h1 : 1 ≤ K) (h8 : K ≤ 8) : bufSortM once L (K : Int) = bOut L K once := by
  rw [bufSortM, if_pos (bufOk_of hL h1 h8), Int.toNat_natCast]
theorem two_val {L : List Int} {K : Nat} (hL : L.length ≤ 24) (h1 : 1 ≤ K) (h8 : K ≤ 8) : twoB L (K : Int) (K : Int) = bOut (bOut L K false) K false := by
  have h2 := bOut_length (xs := L) (once := false) h1
  rw [twoB, bufOk_of hL h1 h8, inB_iff.2 ⟨by omega, by omega⟩, bufSort_val hL h1 h8, bufSort_val (by omega) h1 h8]
  rfl

set_option maxRecDepth 100000 in
set_option maxHeartbeats 16000000 in
theorem law_FnBuffers (w : World) (v : Value) (xs : List Int) (h : Rd w v (bytesV xs)) (hxb : ∀ n ∈ xs, 0 ≤ n ∧ n ≤ 255) : Calls Try.prog 8 #[v] w (Law w) := by
  obtain ⟨ab, n, cb, rfl, HN, hn1, hn2⟩ := h.formB
  by_cases hl : n ≤ 1048576
  case neg =>
    have hd : decide ((n : Int) > 1048576) = true := by simp; omega
    go_enter Try.func8, Try.ntmps8
    go_wp2_with fail
    go_ret
    exact ⟨rfl, Below.refl _ _⟩
  have hl' : xs.length ≤ 1048576 := by have := HN.out; omega
  have hd : decide ((n : Int) > 1048576) = false := by simp; omega
  have HMN : Hid (Calls Try.prog 36 #[.slice ab n cb, .int .i64 0] w _) := Lib.hid (s_MakeNear _ xs hxb hl' 0 (by omega) w h)
  have HMS : Hid (∀ (W : World) (hW : Rd W (.slice ab n cb) (bytesV xs)), Calls Try.prog 19 #[.slice ab n cb, .int .i64 20, .int .i64 1, .int .i64 6] W _) := Lib.hid (fun (W : World) (hW : Rd W (.slice ab n cb) (bytesV xs)) => s_MakeSize _ xs hxb hl' 20 (by omega) 1 6 (by omega) (by omega) (by omega) W hW)
  clear hxb
  go_enter Try.func8, Try.ntmps8
  go_wp2_with fail
  refine HMN.out.mono ?_
  rintro e w1 ⟨L, vL, hL12, HLr, rfl, rL, bt⟩
  clear HMN
  go_wp2_with fail
  refine (HMS.out w1 (h.below bt)).mono ?_
  rintro e w2 ⟨x, rfl, hx0, hx1, b2⟩
  clear HMS
  obtain ⟨K, rfl⟩ := Int.eq_ofNat_of_zero_le (show 0 ≤ x by omega)
  have hK1 : 1 ≤ K := by omega
  have hK6 : K ≤ 6 := by omega
  replace rL := rL.below b2
  replace bt := bt.trans (b2.mono bt.size)
  clear b2 h hx0 hx1
  have IL : Hid (I64s L) := fun x hx => by have := HLr x hx; exact ⟨by omega, by omega⟩
  have IK : I64 (K : Int) := ⟨by omega, by omega⟩
  have P := Lib.hid (bufs_mk L hK1 (show K ≤ 8 by omega))
  have HO1 : Hid (bufSortM false L (K : Int) = bOut L K false) := bufSort_val (by omega) hK1 (by omega)
  have HD1 : Hid (bufSortM true L (K : Int) = bOut L K true) := bufSort_val (by omega) hK1 (by omega)
  have HT1 : Hid (bufTr L (K : Int) = bTr L K false) := by rw [Hid, bufTr, if_pos (bufOk_of (by omega) hK1 (by omega)), Int.toNat_natCast]
  have HW1 : Hid (twoB L (K : Int) (K : Int) = bOut (bOut L K false) K false) := two_val (by omega) hK1 (by omega)
  have H11 : Hid (bufSortM false L 1 = L) := (bufSort_val (K := 1) (by omega) (by omega) (by omega)).trans P.out.one
  have H81 : Hid (bufSortM false L 8 = bOut L 8 false) := bufSort_val (K := 8) (by omega) (by omega) (by omega)
  have HN1 : Hid (bufNeed L = needF L 8) := if_pos (by omega)
  have HL1 : Hid (lateOf L = mostOf L L.length) := if_pos (by omega)
  have HL12 := Lib.hid hL12
  clear hL12 HLr
  obtain ⟨O, hO⟩ : ∃ O, bOut L K false = O := ⟨_, rfl⟩
  obtain ⟨D, hD⟩ : ∃ D, bOut L K true = D := ⟨_, rfl⟩
  obtain ⟨T, hT⟩ : ∃ T, bTr L K false = T := ⟨_, rfl⟩
  obtain ⟨T2, hT2⟩ : ∃ T2, bOut O K false = T2 := ⟨_, rfl⟩
  obtain ⟨nd, hnd⟩ : ∃ nd, needF L 8 = nd := ⟨_, rfl⟩
  obtain ⟨lt, hlt⟩ : ∃ lt, mostOf L L.length = lt := ⟨_, rfl⟩
  obtain ⟨r, hr⟩ : ∃ r, adjB O = r := ⟨_, rfl⟩
  rw [hO] at HO1 HW1
  rw [hD] at HD1
  rw [hT] at HT1
  rw [hT2] at HW1
  rw [hnd] at HN1
  rw [hlt] at HL1
  obtain ⟨q1, q2, q3, q4, q5, q6, q7, q8, q9, q10, q11, q12, q13, _, q15⟩ := P.out
  rw [hlt] at q2 q3
  rw [hnd] at q3 q4 q13
  rw [hO] at q1 q4 q6 q7 q8 q9
  rw [hT] at q5 q7
  rw [hT2] at q8 q9
  rw [hD] at q10 q11 q12 q13
  rw [hr] at q4 q9
  have HR := Lib.hid hr
  have HSO := Lib.hid q1
  have HROW := Lib.hid q7
  have HS2 := Lib.hid q8
  have H9 := Lib.hid q9
  have HDF := Lib.hid q10
  have HDR := Lib.hid q11
  have HDS := Lib.hid q13
  have H8 := Lib.hid q15
  have HND : Hid (nd = if lt < 8 then lt + 1 else -1) := q3
  have Q4 := Lib.hid q4
  have Q5 := Lib.hid q5
  have Q6 := Lib.hid q6
  have Q12 := Lib.hid q12
  clear P hO hD hT hT2 hnd hlt hr q1 q3 q4 q5 q6 q7 q8 q9 q10 q11 q12 q13 q15
  obtain ⟨aL, mL, cL, rfl, HML, hmc, hmc2⟩ := rL.formN
  have hmL : mL ≤ 12 := by have := HML.out; have := HL12.out; omega
  have hLl : Hid (L.length ≤ 1048576) := by rw [Hid]; have := HL12.out; omega
  go_wp2_with fail
  refine (I_BufferNeeded _ _ L rL IL.out hLl.out).mono ?_
  rintro e w3 ⟨rfl, b3⟩
  rw [HN1.out]
  replace rL := rL.below b3
  replace bt := bt.trans (b3.mono bt.size)
  go_wp2_with fail
  refine (I_LateOf _ _ L rL IL.out hLl.out).mono ?_
  rintro e w4 ⟨rfl, b4⟩
  rw [HL1.out]
  replace rL := rL.below b4
  replace bt := bt.trans (b4.mono bt.size)
  go_wp2_with fail
  refine (I_BufferSort _ _ L rL IL.out hLl.out (K : Int) IK).mono ?_
  rintro e w5 ⟨vO, rfl, oO, b5⟩
  rw [HO1.out] at oO
  replace rL := rL.below b5
  replace bt := bt.trans (b5.mono bt.size)
  have rO := oO.rd
  clear oO b3 b4 b5
  go_wp2_with fail
  refine (I_TraceBuffer _ _ L rL IL.out hLl.out (K : Int) IK).mono ?_
  rintro e w6 ⟨vT, rfl, oT, b6⟩
  rw [HT1.out] at oT
  replace rL := rL.below b6
  replace rO := rO.below b6
  replace bt := bt.trans (b6.mono bt.size)
  have rT := oT.rd
  clear oT b6
  obtain ⟨aT, cT, rfl, _, _⟩ := rT.form
  obtain ⟨mT, hmT⟩ : ∃ mT, T.length = mT := ⟨_, rfl⟩
  rw [hmT] at rT ⊢
  have HMT := Lib.hid hmT
  clear hmT
  have hTL : Hid (mT = mL) := by rw [Hid, HML.out, ← HMT.out]; exact Q5.out
  obtain ⟨aO, mO, cO, rfl, HMO, _, _⟩ := rO.formN
  have hOL : Hid (mO = mL) := by rw [Hid, HML.out, HMO.out]; exact Q6.out
  go_wp2_with fail
  refine (sorted_c _ O _ rO (by have := HMO.out; have := hOL.out; omega)).mono ?_
  rintro e w7 ⟨v7, rfl, o7, b7⟩
  rw [HSO.out] at o7
  replace rL := rL.below b7
  replace rO := rO.below b7
  replace rT := rT.below b7
  replace bt := bt.trans (b7.mono bt.size)
  go_wp2_with fail
  refine (sorted_c _ L _ rL (by have := HML.out; omega)).mono ?_
  rintro e w8 ⟨v8, rfl, o8, b8⟩
  replace rL := rL.below b8
  replace rO := rO.below b8
  replace rT := rT.below b8
  replace o7 := o7.below b8
  replace bt := bt.trans (b8.mono bt.size)
  go_wp2_with fail
  refine (same_c _ _ (srt L) (srt L) _ o7.rd o8.rd).mono ?_
  rintro e w9 ⟨rfl, d9⟩
  rw [eqI_self]
  replace rL := rL.dr d9
  replace rO := rO.dr d9
  replace rT := rT.dr d9
  replace bt := bt.trans (d9.below _)
  clear o7 o8 b7 b8 d9
  have GR := Lib.hid (fun (W : World) (hW : Rd W (.slice aO mO cO) (ints O)) => HR.out ▸ rises_c _ O W hW)
  have c0 : decide (lt < 0) = false := by simpa using q2
  have hcase : (r = true ∧ decide (lt < 8) = true ∧ decide (lt ≥ 8) = false ∧ (nd != lt + 1) = false ∧ decide (nd > 0) = true ∧ decide ((K : Int) ≥ nd) = true ∧ lt < 8) ∨
      (r = false ∧ decide (lt < 8) = true ∧ decide (lt ≥ 8) = false ∧ (nd != lt + 1) = false ∧ decide (nd > 0) = true ∧ decide ((K : Int) ≥ nd) = false ∧ lt < 8) ∨
      (r = false ∧ decide (lt < 8) = false ∧ decide (lt ≥ 8) = true ∧ (nd != -1) = false ∧ decide (nd > 0) = false ∧ nd = nd ∧ 8 ≤ lt) := by
    have h1 := HND.out
    have h2 := Q4.out
    by_cases h8 : lt < 8
    · rw [if_pos h8] at h1
      by_cases hk : nd ≤ (K : Int)
      · refine .inl ⟨by rw [h2, decide_eq_true (show 0 < nd by omega), decide_eq_true hk]; rfl, by simpa using h8, by simp; omega, by simp [h1], by simp; omega, by simp; omega, h8⟩
      · refine .inr (.inl ⟨by rw [h2, decide_eq_true (show 0 < nd by omega), decide_eq_false hk]; rfl, by simpa using h8, by simp; omega, by simp [h1], by simp; omega, by simp; omega, h8⟩)
    · rw [if_neg h8] at h1
      refine .inr (.inr ⟨by rw [h2, decide_eq_false (show ¬ 0 < nd by omega)]; rfl, by simp; omega, by simp; omega, by simp [h1], by simp; omega, rfl, by omega⟩)
  have d1 : ((mT : Int) != (mL : Int)) = false := by rw [hTL.out]; simp
  rcases hcase with ⟨rfl, c1, c2, c3, c4, c5, c6⟩ | ⟨rfl, c1, c2, c3, c4, c5, c6⟩ | ⟨rfl, c1, c2, c3, c4, c5, c6⟩
  all_goals
    go_wp2_with fail
    refine (GR.out _ rO).mono ?_
    rintro e w10 ⟨rfl, d10⟩
    replace rL := rL.dr d10
    replace rO := rO.dr d10
    replace rT := rT.dr d10
    replace bt := bt.trans (d10.below _)
    clear d10
    go_wp2_with fail
    go_loopw [83] (fun iv wr => ∃ j : Nat, j ≤ mT ∧ iv = .int .i64 j ∧ Rd wr (.slice aL mL cL) (ints L) ∧ Rd wr (.slice aO mO cO) (ints O) ∧ Rd2 wr (.slice aT mT cT) T ∧ Below w.heap.size w wr) (fun iv _ => mT - (intOf iv).toNat)
    case atStart => exact ⟨0, Nat.zero_le _, rfl, rL, rO, rT, bt⟩
    case round =>
      clear bt rL rO rT
      obtain ⟨j, hj, rfl, rL, rO, rT, bt⟩ := hrel
      by_cases hjm : j < mT
      · have i1 : (j : Int) < (mT : Int) := by omega
        have i2 : (j : Int) < (mO : Int) := by have := hTL.out; have := hOL.out; omega
        obtain ⟨ad, br, mr, dr, row, rfl, hcr, hrow, hmr, hmd, hd9, rr⟩ := rT.row (k := j) (by have := HMT.out; omega)
        obtain ⟨⟨y, t, hyt, hoy⟩, hadj, hrK, hrl⟩ := HROW.out j row hrow.out
        have hmr0 : 0 < mr := by have := hmr.out; rw [hyt, List.length_cons] at this; omega
        have e0 : ((mr : Int) == 0) = false := by simp; omega
        have e1 : decide ((mr : Int) > (K : Int)) = false := by have := hmr.out; simp; omega
        have e1n : ¬ K < mr := by have := hmr.out; omega
        have e1i : ¬ (K : Int) < (mr : Int) := by omega
        obtain ⟨ax, x, rfl, hcx, hx⟩ := rr.int (k := 0) (by have := hmr.out; omega)
        have hcx0 : wr.cell? ax = some (.int .i64 x) := by simpa [Addr.add] using hcx
        clear hcx
        have hxy : x = y := by have := hx.out; rw [hyt] at this; simpa using this.symm
        subst hxy
        obtain ⟨ao, x2, rfl, hco, hx2⟩ := rO.int (k := j) (by have := hTL.out; have := hOL.out; have := HMO.out; omega)
        have hxx : x2 = x := by have := hx2.out; rw [hoy] at this; exact (Option.some.inj this).symm
        subst hxx
        have e2 : (x2 != x2) = false := by simp
        have e4 : ((mr : Int) != min (K : Int) ((mL : Int) - (j : Int))) = false := by have := hmr.out; have := hTL.out; have := HML.out; simp; omega
        have GA := Lib.hid (fun (W : World) (hW : Rd W (.slice (some ax) mr dr) (ints row)) => hadj ▸ rises_c _ row W hW)
        clear hyt hoy hadj hrK hrl hx hx2
        go_wp2_with fail
        go_quiet ((go_at_call 25; exact quietQ (GA.out _ (rr.drewN _))))
        go_wp2_with fail
        go_roundw
        case rel => exact ⟨j + 1, by omega, by go_num, rL.drewN _, rO.drewN _, rT.drewN _, bt.trans ((Dr.refl wr).step _ |>.below _)⟩
        case measure => simp [intOf]; omega
      · clear rT
        have HT2L : Hid (T2.length ≤ 12) := by
          have := congrArg List.length HS2.out
          rw [srt_length, srt_length] at this
          have := HL12.out
          rw [Hid]
          omega
        go_wp2_with fail
        refine (I_TwoBuffers _ _ L rL IL.out hLl.out (K : Int) IK (K : Int) IK).mono ?_
        rintro e w11 ⟨v11, rfl, o11, b11⟩
        rw [HW1.out] at o11
        replace rL := rL.below b11
        replace rO := rO.below b11
        replace bt := bt.trans (b11.mono bt.size)
        have r11 := o11.rd
        clear o11 b11
        go_wp2_with fail
        refine (I_DistinctBuffer _ _ L rL IL.out hLl.out (K : Int) IK).mono ?_
        rintro e w12 ⟨v12, rfl, o12, b12⟩
        rw [HD1.out] at o12
        replace rL := rL.below b12
        replace rO := rO.below b12
        replace r11 := r11.below b12
        replace bt := bt.trans (b12.mono bt.size)
        have r12 := o12.rd
        clear o12 b12
        obtain ⟨aD, mD, cD, rfl, HMD, _, _⟩ := r12.formN
        go_wp2_with fail
        go_loop [133] (fun iv => ∃ j : Nat, j ≤ mD ∧ iv = .int .i64 j) (fun iv => mD - (intOf iv).toNat)
        case atStart => exact ⟨0, Nat.zero_le _, rfl⟩
        case round =>
          obtain ⟨j, hj, rfl⟩ := hrel
          by_cases hjm : j < mD
          · have i1 : (j : Int) < (mD : Int) := by omega
            obtain ⟨ad, x, rfl, hcx, hx⟩ := r12.int (k := j) (by have := HMD.out; omega)
            have HM : Hid (decide (x ∈ L) = true) := decide_eq_true (HDF.out x (List.mem_of_getElem? hx.out))
            cases j with
            | zero =>
              have hcx0 : w12.cell? ad = some (.int .i64 x) := by simpa [Addr.add] using hcx
              clear hcx
              go_wp2_with fail
              refine (has_c _ L x _ rL).mono ?_
              rintro e w' ⟨rfl, rfl⟩
              rw [HM.out]
              go_wp2_with fail
              go_round
              case rel => exact ⟨1, by omega, by go_num⟩
              case measure => simp [intOf]; omega
            | succ q =>
              obtain ⟨ad2, y, had, hcy, hy⟩ := r12.int (k := q) (by have := HMD.out; omega)
              obtain rfl : ad = ad2 := by injection had
              clear had
              rw [add_succ] at hcx
              have i2 : (q : Int) + 1 < (mD : Int) := by omega
              have i3 : (q : Int) < (mD : Int) := by omega
              have i4 : (0 : Int) ≤ (q : Int) + 1 := by omega
              have i5 : ((q : Int) + 1).toNat = q + 1 := by omega
              have i6 : (q : Int) + 1 - 1 = (q : Int) := by omega
              have d0 : decide ((q : Int) + 1 > 0) = true := by simp
              have HXY : Hid (0 < nd → nd ≤ (K : Int) → decide (x < y) = false) := fun h1 h2 => by
                have hp := HDS.out h1 h2
                obtain ⟨g1, e1⟩ := List.getElem?_eq_some_iff.1 hy.out
                obtain ⟨g2, e2⟩ := List.getElem?_eq_some_iff.1 hx.out
                have := List.pairwise_iff_getElem.1 hp q (q + 1) g1 g2 (by omega)
                rw [e1, e2] at this
                simp
                exact this
              first | have hxy := HXY.out (of_decide_eq_true c4) (of_decide_eq_true c5) | skip
              clear HXY
              by_cases hK1' : 1 < K
              · have d1' : decide ((K : Int) > 1) = true := by simp; omega
                go_wp2_with fail
                refine (has_c _ L x _ rL).mono ?_
                rintro e w' ⟨rfl, rfl⟩
                rw [HM.out]
                go_wp2_with fail
                go_round
                case rel => exact ⟨q + 1 + 1, by omega, by go_num⟩
                case measure => simp [intOf]; omega
              · have d1' : decide ((K : Int) > 1) = false := by simp; omega
                go_wp2_with fail
                refine (has_c _ L x _ rL).mono ?_
                rintro e w' ⟨rfl, rfl⟩
                rw [HM.out]
                go_wp2_with fail
                go_round
                case rel => exact ⟨q + 1 + 1, by omega, by go_num⟩
                case measure => simp [intOf]; omega
          · have i1 : ¬ (j : Int) < (mD : Int) := by omega
            go_wp2_with fail
            go_loop [171] (fun iv => ∃ j : Nat, j ≤ mL ∧ iv = .int .i64 j) (fun iv => mL - (intOf iv).toNat)
            case atStart => exact ⟨0, Nat.zero_le _, rfl⟩
            case round =>
              obtain ⟨q, hq, rfl⟩ := hrel
              by_cases hqm : q < mL
              · have i2 : (q : Int) < (mL : Int) := by omega
                obtain ⟨ad, x, rfl, hcx, hx⟩ := rL.int (k := q) (by have := HML.out; omega)
                have HM : Hid (decide (x ∈ D) = true) := decide_eq_true (HDR.out x (List.mem_of_getElem? hx.out))
                go_wp2_with fail
                refine (has_c _ D x _ r12).mono ?_
                rintro e w' ⟨rfl, rfl⟩
                rw [HM.out]
                go_wp2_with fail
                go_round
                case rel => exact ⟨q + 1, by omega, by go_num⟩
                case measure => simp [intOf]; omega
              · have i2 : ¬ (q : Int) < (mL : Int) := by omega
                have hDl : (mD : Int) ≤ (mL : Int) := by have := Q12.out; have := HMD.out; have := HML.out; omega
                have hDl2 : mD ≤ mL := by omega
                go_wp2_with fail
                refine (sorted_c _ T2 _ r11 (by have := HT2L.out; omega)).mono ?_
                rintro e w13 ⟨v13, rfl, o13, b13⟩
                rw [HS2.out] at o13
                replace rL := rL.below b13
                replace rO := rO.below b13
                replace r11 := r11.below b13
                replace bt := bt.trans (b13.mono bt.size)
                go_wp2_with fail
                refine (sorted_c _ L _ rL (by have := HML.out; omega)).mono ?_
                rintro e w14 ⟨v14, rfl, o14, b14⟩
                replace rL := rL.below b14
                replace rO := rO.below b14
                replace r11 := r11.below b14
                replace o13 := o13.below b14
                replace bt := bt.trans (b14.mono bt.size)
                go_wp2_with fail
                refine (same_c _ _ (srt L) (srt L) _ o13.rd o14.rd).mono ?_
                rintro e w15 ⟨rfl, d15⟩
                rw [eqI_self]
                replace rL := rL.dr d15
                replace rO := rO.dr d15
                replace r11 := r11.dr d15
                replace bt := bt.trans (d15.below _)
                clear o13 o14 b13 b14 d15
                go_wp2_with fail
                refine (GR.out _ rO).mono ?_
                rintro e w16 ⟨rfl, d16⟩
                replace rL := rL.dr d16
                replace rO := rO.dr d16
                replace r11 := r11.dr d16
                replace bt := bt.trans (d16.below _)
                clear d16
                go_wp2_with fail
                try
                  with_reducible refine (same_c _ _ T2 O _ r11 rO).mono ?_
                  rintro e w17 ⟨rfl, d17⟩
                  rw [H9.out (by trivial), eqI_self]
                  replace rL := rL.dr d17
                  replace bt := bt.trans (d17.below _)
                  clear d17
                  go_wp2_with fail
                refine (I_BufferSort _ _ L rL IL.out hLl.out 1 ⟨by omega, by omega⟩).mono ?_
                rintro e w18 ⟨v18, rfl, o18, b18⟩
                rw [H11.out] at o18
                replace rL := rL.below b18
                replace bt := bt.trans (b18.mono bt.size)
                go_wp2_with fail
                refine (same_c _ _ L L _ o18.rd rL).mono ?_
                rintro e w19 ⟨rfl, d19⟩
                rw [eqI_self]
                replace rL := rL.dr d19
                replace bt := bt.trans (d19.below _)
                clear o18 b18 d19
                by_cases h8 : 8 < mL
                · have d8 : decide ((mL : Int) > 8) = true := by simp; omega
                  go_wp2_with fail
                  go_ret
                  exact ⟨rfl, bt⟩
                · have d8 : decide ((mL : Int) > 8) = false := by simp; omega
                  go_wp2_with fail
                  refine (I_BufferSort _ _ L rL IL.out hLl.out 8 ⟨by omega, by omega⟩).mono ?_
                  rintro e w20 ⟨v20, rfl, o20, b20⟩
                  rw [H81.out] at o20
                  replace bt := bt.trans (b20.mono bt.size)
                  have HA8 : Hid (adjB (bOut L 8 false) = true) := H8.out (by have := HML.out; omega)
                  go_wp2_with fail
                  refine (rises_c _ _ _ o20.rd).mono ?_
                  rintro e w21 ⟨rfl, d21⟩
                  rw [HA8.out]
                  replace bt := bt.trans (d21.below _)
                  go_wp2_with fail
                  go_ret
                  exact ⟨rfl, bt⟩

end Go.Proofs.Ytlbakbachcpifaa
