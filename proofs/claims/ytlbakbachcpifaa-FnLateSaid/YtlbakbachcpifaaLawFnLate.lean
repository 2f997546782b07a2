/- The walk of the law FnLate. -/
import Derived.Test.YtlbakbachcpifaaLateFns2
import Derived.Test.YtlbakbachcpifaaDrawsT
import Derived.Test.YtlbakbachcpifaaLawHelp
import Derived.Test.YtlbakbachcpifaaLawHelp2
import Derived.Test.YtlbakbachcpifaaLex
import Derived.IntWalk
namespace Go.Proofs.Ytlbakbachcpifaa
open Go.RowKit
set_option linter.unusedVariables false
set_option linter.unusedSimpArgs false

set_option maxRecDepth 100000 in
set_option maxHeartbeats 16000000 in
theorem law_FnLate (w : World) (v : Value) (xs : List Int) (h : Rd w v (bytesV xs)) (hxb : ∀ n ∈ xs, 0 ≤ n ∧ n ≤ 255) : Calls Try.prog 4 #[v] w (Law w) := by
  obtain ⟨ab, nb, cb, rfl, HNB, hn1, hn2⟩ := h.formB
  by_cases hl : nb ≤ 1048576
  case neg =>
    have hd : decide ((nb : Int) > 1048576) = true := by simp; omega
    go_enter Try.func4, Try.ntmps4
    go_wp2_with fail
    go_ret
    exact ⟨rfl, Below.refl _ _⟩
  have hl' : xs.length ≤ 1048576 := by have := HNB.out; omega
  have hd : decide ((nb : Int) > 1048576) = false := by simp; omega
  have HMN := Lib.hid (s_MakeTimes _ xs hxb hl' 0 (by omega) w h)
  have HMS : Hid (∀ (W : World) (hW : Rd W (.slice ab nb cb) (bytesV xs)), Calls Try.prog 19 #[.slice ab nb cb, .int .i64 20, .int .i64 0, .int .i64 8] W _) := Lib.hid (fun (W : World) (hW : Rd W (.slice ab nb cb) (bytesV xs)) => s_MakeSize _ xs hxb hl' 20 (by omega) 0 8 (by omega) (by omega) (by omega) W hW)
  have HMZ : Hid (∀ (W : World) (hW : Rd W (.slice ab nb cb) (bytesV xs)), Calls Try.prog 19 #[.slice ab nb cb, .int .i64 21, .int .i64 1, .int .i64 4] W _) := Lib.hid (fun (W : World) (hW : Rd W (.slice ab nb cb) (bytesV xs)) => s_MakeSize _ xs hxb hl' 21 (by omega) 1 4 (by omega) (by omega) (by omega) W hW)
  clear hxb
  go_enter Try.func4, Try.ntmps4
  go_wp2_with fail
  refine HMN.out.mono ?_
  rintro e w1 ⟨T, vT, hT11, hTr, rfl, rT, bt⟩
  clear HMN
  obtain ⟨aT, n, cT, rfl, HN, hnc, hnc2⟩ := rT.formN
  have hn : n ≤ 11 := by have := HN.out; omega
  go_wp2_with fail
  refine (HMS.out w1 (h.below bt)).mono ?_
  rintro e w2 ⟨s, rfl, hs0, hs1, b2⟩
  clear HMS
  replace rT := rT.below b2
  replace bt := bt.trans (b2.mono bt.size)
  clear b2
  have hok : lateOkB T s = true := lateOkB_iff.2 ⟨⟨by omega, fun t ht => by have := hTr t ht; omega⟩, by omega⟩
  have htok : timesOk T = true := timesOk_iff.2 ⟨by omega, fun t ht => by have := hTr t ht; omega⟩
  have F := Lib.hid (late_facts (T := T) (s := s) (fun t ht => by have := hTr t ht; omega) (by omega))
  have HSB := Lib.hid (slack_bd (T := T) (fun t ht => by have := hTr t ht; omega) T.length (Nat.le_refl _))
  have IT : Hid (I64s T) := fun x hx => by have := hTr x hx; exact ⟨by omega, by omega⟩
  have IS : I64 s := ⟨by omega, by omega⟩
  have HTL : Hid (T.length ≤ 1048576) := by rw [Hid]; omega
  have HTR := Lib.hid hTr
  have HO1 : Hid (emitO T s = lateOut T s) := by rw [Hid, emitO, hok]; rfl
  have HO2 : Hid (emitL T s = lateLate T s) := by rw [Hid, emitL, hok]; rfl
  have HO3 : Hid (marksO T s = lateMarks T s) := by rw [Hid, marksO, hok]; rfl
  have HO4 : Hid (delaysO T s = lateDel T s) := by rw [Hid, delaysO, hok]; rfl
  have HO5 : Hid (mostW T s = lateMost T s) := by rw [Hid, mostW, hok]; rfl
  have HO6 : Hid (slackNeed T = slackK T T.length) := by rw [Hid, slackNeed, htok]; rfl
  have HTOK := Lib.hid htok
  clear hok htok hTr hT11
  obtain ⟨O, hO⟩ : ∃ O, lateOut T s = O := ⟨_, rfl⟩
  obtain ⟨Lt, hLt⟩ : ∃ Lt, lateLate T s = Lt := ⟨_, rfl⟩
  obtain ⟨Mk, hMk⟩ : ∃ Mk, lateMarks T s = Mk := ⟨_, rfl⟩
  obtain ⟨D, hD⟩ : ∃ D, lateDel T s = D := ⟨_, rfl⟩
  obtain ⟨ms, hms⟩ : ∃ ms, lateMost T s = ms := ⟨_, rfl⟩
  obtain ⟨nd, hnd⟩ : ∃ nd, slackK T T.length = nd := ⟨_, rfl⟩
  obtain ⟨f1, f2, f3, f4, f5, f6, f7, f8, f9, f10⟩ := F.out
  have hsb := HSB.out
  rw [hnd] at f10 HO6 hsb
  rw [hms] at f5 HO5
  rw [hD] at f2 f8 f9 HO4
  rw [hMk] at f3 f4 f8 f9 HO3
  rw [hLt] at f1 f6 f9 f10 HO2
  rw [hO] at f1 f6 f7 f8 HO1
  rw [← HN.out] at f1 f2 f3 f5 f6 f8 f9
  have F1 := Lib.hid f1
  have F2 := Lib.hid f2
  have F3 := Lib.hid f3
  have F4 := Lib.hid f4
  have F6 := Lib.hid f6
  have F7 := Lib.hid f7
  have F8 := Lib.hid f8
  have F9 := Lib.hid f9
  have F10 := Lib.hid f10
  clear F HSB hO hLt hMk hD hms hnd f1 f2 f3 f4 f6 f7 f8 f9 f10
  go_wp2_with fail
  refine (I_EmitOrder _ _ T rT IT.out HTL.out s IS).mono ?_
  rintro e w3 ⟨vO, vL, rfl, oO, oL, _, b3⟩
  rw [HO1.out] at oO
  rw [HO2.out] at oL
  have rO := oO.rd
  have rL := oL.rd
  replace rT := rT.below b3
  replace bt := bt.trans (b3.mono bt.size)
  clear oO oL b3
  obtain ⟨aO, mO, cO, rfl, HMO, _, _⟩ := rO.formN
  obtain ⟨aL, mL, cL, rfl, HML, _, _⟩ := rL.formN
  have hmO : mO ≤ 11 := by have := F1.out; have := HMO.out; omega
  have hmL : mL ≤ 11 := by have := F1.out; have := HML.out; omega
  go_wp2_with fail
  refine (I_SlackNeeded _ _ T rT IT.out HTL.out).mono ?_
  rintro e w4 ⟨rfl, b4⟩
  rw [HO6.out]
  replace rT := rT.below b4
  replace rO := rO.below b4
  replace rL := rL.below b4
  replace bt := bt.trans (b4.mono bt.size)
  go_wp2_with fail
  refine (I_MarksOf _ _ T rT IT.out HTL.out s IS).mono ?_
  rintro e w5 ⟨vM, rfl, oM, b5⟩
  rw [HO3.out] at oM
  have rM := oM.rd
  replace rT := rT.below b5
  replace rO := rO.below b5
  replace rL := rL.below b5
  replace bt := bt.trans (b5.mono bt.size)
  clear oM
  obtain ⟨aM, mM, cM, rfl, HMM, _, _⟩ := rM.formN
  have hmM : mM = n := by have := HMM.out; have := F3.out; omega
  subst hmM
  go_wp2_with fail
  refine (I_DelaysOf _ _ T rT IT.out HTL.out s IS).mono ?_
  rintro e w6 ⟨vD, rfl, oD, b6⟩
  rw [HO4.out] at oD
  have rD := oD.rd
  replace rT := rT.below b6
  replace rO := rO.below b6
  replace rL := rL.below b6
  replace rM := rM.below b6
  replace bt := bt.trans (b6.mono bt.size)
  clear oD
  obtain ⟨aD, mD, cD, rfl, HMD, _, _⟩ := rD.formN
  have hmD : mD = mM := by have := HMD.out; have := F2.out; omega
  subst hmD
  go_wp2_with fail
  refine (I_MostWaiting _ _ T rT IT.out HTL.out s IS).mono ?_
  rintro e w7 ⟨rfl, b7⟩
  rw [HO5.out]
  replace rT := rT.below b7
  replace rO := rO.below b7
  replace rL := rL.below b7
  replace rM := rM.below b7
  replace rD := rD.below b7
  replace bt := bt.trans (b7.mono bt.size)
  clear b4 b5 b6 b7
  go_upto_region 11 with (fail)
  go_cut [100] (fun vb wx => vb = .bool false ∧ Dr w7 wx)
  case first =>
    have GR := Lib.hid (fun (W : World) (hW : Rd W (.slice aM mD cM) (ints Mk)) => F4.out ▸ rises_c _ Mk W hW)
    have GT := Lib.hid (fun (W : World) (hW : Rd W (.slice aT mD cT) (ints T)) => HTOK.out ▸ i_TimesOk _ T W hW)
    have e1 : ((mO : Int) + (mL : Int) != (mD : Int)) = false := by have := F1.out; have := HMO.out; have := HML.out; simp; omega
    have e2 : decide (nd < 0) = false := by simp; omega
    have e4 : ((mD : Int) != (mD : Int)) = false := by simp
    have e5 : decide (ms < 0) = false := by simp; omega
    have e6 : decide (ms > (mD : Int)) = false := by simp; omega
    have hcase : (((mL : Int) == 0) = true ∧ decide (s ≥ nd) = true) ∨ (((mL : Int) == 0) = false ∧ decide (s ≥ nd) = false) := by
      have h1 := F10.out
      have h2 := HML.out
      by_cases hz : mL = 0
      · refine .inl ⟨by simp [hz], ?_⟩
        have := h1.1 (List.eq_nil_of_length_eq_zero (by omega))
        simpa using this
      · refine .inr ⟨by simp; omega, ?_⟩
        have : ¬ nd ≤ s := fun h3 => hz (by rw [h2, h1.2 h3]; rfl)
        simpa using this
    rcases hcase with ⟨e7, e8⟩ | ⟨e7, e8⟩
    all_goals
      go_wp2_with (first
        | (go_at_call 25; refine (GR.out _ rM).mono ?_; rintro e w8 ⟨rfl, d8⟩; have rT8 := rT.dr d8)
        | (go_at_call 26; refine (GT.out _ rT8).mono ?_; rintro e w9 ⟨rfl, rfl⟩))
      go_meet
      exact ⟨rfl, d8⟩
  case rest =>
    obtain ⟨rfl, d8⟩ := hcut
    replace rT := rT.dr d8
    replace rO := rO.dr d8
    replace rL := rL.dr d8
    replace rM := rM.dr d8
    replace rD := rD.dr d8
    replace bt := bt.trans (d8.below _)
    clear d8
    have HLO : Hid ((ints O).length = mO) := by rw [Hid, ints_length]; exact HMO.out.symm
    have HLL : Hid ((ints Lt).length = mL) := by rw [Hid, ints_length]; exact HML.out.symm
    have hsum : mO + mL = mD := by have := F1.out; have := HMO.out; have := HML.out; omega
    have hszc := bt.size
    go_upto_region 14 with (first
      | (at_builtin; (refine wpList_copy (B := w.heap.size) rfl _ _ 22 rfl elI rO rfl rfl (oneCell_ints1 _) hszc _ HLO.out (by omega) (by omega) ?_); intro b1 c1 w10 ho1 hb1)
      | (at_builtin; refine wpList_appn rfl _ _ 22 rfl elI ho1 (rL.below hb1) rfl rfl (oneCell_ints1 _) hb1.size mD (by rw [HLO.out, HLL.out]; exact hsum) (by omega) (by omega) ?_; intro b2 c2 w11 ho2 hg2 hat2))
    have hb2 := hb1.grown hg2 hb1.size (fun r hr => (ho1.lt r hr).1)
    have rA : Rd w11 (.slice b2 mD c2) (ints (O ++ Lt)) := by rw [ints_append]; exact ho2.rd
    replace rT := rT.below hb2
    replace rO := rO.below hb2
    replace rL := rL.below hb2
    replace rM := rM.below hb2
    replace rD := rD.below hb2
    replace bt := bt.trans (hb2.mono bt.size)
    clear ho1 hb1 ho2 hg2 hat2 hb2
    go_wp2_with fail
    refine (sorted_c _ (O ++ Lt) _ rA (by rw [List.length_append]; have := F1.out; omega)).mono ?_
    rintro e w12 ⟨v12, rfl, o12, b12⟩
    rw [F6.out] at o12
    replace rT := rT.below b12
    replace rO := rO.below b12
    replace rL := rL.below b12
    replace rM := rM.below b12
    replace rD := rD.below b12
    replace bt := bt.trans (b12.mono bt.size)
    go_wp2_with fail
    refine (stairs_c mD _ (by omega)).mono ?_
    rintro e w13 ⟨v13, rfl, o13, b13⟩
    replace rT := rT.below b13
    replace rO := rO.below b13
    replace rL := rL.below b13
    replace rM := rM.below b13
    replace rD := rD.below b13
    replace o12 := o12.below b13
    replace bt := bt.trans (b13.mono bt.size)
    go_wp2_with fail
    refine (same_c _ _ (stairs mD) (stairs mD) _ o12.rd o13.rd).mono ?_
    rintro e w14 ⟨rfl, d14⟩
    rw [eqI_self]
    replace rT := rT.dr d14
    replace rO := rO.dr d14
    replace rL := rL.dr d14
    replace rM := rM.dr d14
    replace rD := rD.dr d14
    replace bt := bt.trans (d14.below _)
    clear o12 o13 b12 b13 d14 rA
    go_wp2_with fail
    go_loopg [114] mO (fun gq iv wr => ∃ k : Nat, gq = mO - k ∧ k ≤ mO ∧ iv = .int .i64 (k : Int) ∧ Dr w14 wr)
    case atStart => exact ⟨0, rfl, Nat.zero_le _, rfl, Dr.refl _⟩
    case round =>
      obtain ⟨k, hgq, hk, rfl, hdr⟩ := hrel
      have qT := rT.dr hdr
      have qO := rO.dr hdr
      have qM := rM.dr hdr
      have qD := rD.dr hdr
      by_cases hlt : k < mO
      · have i0 : (k : Int) < (mO : Int) := by omega
        obtain ⟨pO, x, rfl, hcx, hx⟩ := qO.int (k := k) (by have := HMO.out; omega)
        obtain ⟨i, p, rfl, hip, hp, hdi, hm1, hm2⟩ := F8.out x (List.mem_of_getElem? hx.out)
        obtain ⟨pT, t, rfl, hct, ht⟩ := qT.int (k := i) (by have := HN.out; omega)
        obtain ⟨pD, z, rfl, hcz, hz⟩ := qD.int (k := i) (by have := F2.out; omega)
        have hzz : z = (p : Int) - (i : Int) := by have := hz.out; rw [hdi] at this; exact (Option.some.inj this).symm
        have htt : T.getD i 0 = t := getD_of ht.out
        rw [htt] at hm1 hm2
        go_upto_region 19 with (fail)
        go_cut [227] (fun vb wx => vb = .bool false ∧ Dr wr wx)
        case first => as_aux_lemma =>
          have j0 : (0 : Int) ≤ (i : Int) := by omega
          have j1 : (i : Int) < (mD : Int) := by omega
          have j2 : (0 : Int) ≤ (p : Int) := by omega
          have j3 : (p : Int) < (mD : Int) := by omega
          have s1 : IntKind.i64.wrap ((i : Int) + z) = (p : Int) := by rw [IntWalk.i64_in _ (by omega)]; omega
          have s2 : IntKind.i64.wrap ((mD : Int) - 1) = (mD : Int) - 1 := IntWalk.i64_in _ (by omega)
          have e1 : decide (z < 0) = false := by simp; omega
          have e2 : decide ((p : Int) ≥ (mD : Int)) = false := by simp; omega
          have e2n : ¬ mD ≤ p := by omega
          have e2m : decide (mD ≤ p) = false := by simp; omega
          have HZZ := Lib.hid hzz
          have HXX := Lib.hid hx
          clear hzz hdi htt
          have hA : (k = 0) ∨ (∃ (q i' : Nat) (t' : Int), k = q + 1 ∧ i' < mD ∧ wr.cell? (pO.add q) = some (.int .i64 (i' : Int)) ∧ wr.cell? (pT.add i') = some (.int .i64 t') ∧ t' < t) ∨ (∃ (q i' : Nat), k = q + 1 ∧ i' < mD ∧ wr.cell? (pO.add q) = some (.int .i64 (i' : Int)) ∧ wr.cell? (pT.add i') = some (.int .i64 t) ∧ i' < i) := by
            rcases Nat.eq_zero_or_pos k with h0 | h0
            · exact .inl h0
            · obtain ⟨q, rfl⟩ : ∃ q, k = q + 1 := ⟨k - 1, by omega⟩
              obtain ⟨pO2, x', had, hcx', hx'⟩ := qO.int (k := q) (by have := HMO.out; omega)
              obtain rfl : pO = pO2 := by injection had
              obtain ⟨i', _, rfl, h1, h2, _⟩ := F8.out x' (List.mem_of_getElem? hx'.out)
              obtain ⟨pT2, t', had, hct', ht'⟩ := qT.int (k := i') (by have := HN.out; omega)
              obtain rfl : pT = pT2 := by injection had
              have hLex := F7.out q _ _ hx'.out HXX.out.out
              unfold Lex at hLex
              rw [ltK_nat, ltK_nat, getD_of ht'.out, getD_of ht.out] at hLex
              rcases hLex with h3 | ⟨h3, h4⟩
              · exact .inr (.inl ⟨q, i', t', rfl, by omega, hcx', hct', h3⟩)
              · subst h3
                exact .inr (.inr ⟨q, i', rfl, by omega, hcx', hct', by omega⟩)
          have hB : (p + 1 = mD) ∨ (p + 1 < mD ∧ ∃ m, wr.cell? (aM.getD ⟨0, 0, none⟩ |>.add p) = some (.int .i64 m) ∧ t ≤ m) := by
            rcases hm1 with h0 | ⟨m, h1, h2⟩
            · exact .inl h0
            · by_cases h3 : p + 1 = mD
              · exact .inl h3
              · obtain ⟨pM, m', rfl, hcm, hm'⟩ := qM.int (k := p) (List.getElem?_eq_some_iff.1 h1).1
                have : m' = m := by have := hm'.out; rw [h1] at this; exact (Option.some.inj this).symm
                subst this
                exact .inr ⟨by omega, m', hcm, h2⟩
          have hC : (p = i) ∨ (∃ r m, p = r + 1 ∧ i < p ∧ wr.cell? (aM.getD ⟨0, 0, none⟩ |>.add r) = some (.int .i64 m) ∧ m < t) := by
            rcases hm2 with h0 | ⟨m, h1, h2⟩
            · exact .inl h0
            · by_cases h3 : p = i
              · exact .inl h3
              · obtain ⟨r, rfl⟩ : ∃ r, p = r + 1 := ⟨p - 1, by omega⟩
                rw [Nat.add_sub_cancel] at h1
                obtain ⟨pM, m', rfl, hcm, hm'⟩ := qM.int (k := r) (List.getElem?_eq_some_iff.1 h1).1
                have : m' = m := by have := hm'.out; rw [h1] at this; exact (Option.some.inj this).symm
                subst this
                exact .inr ⟨r, m', rfl, by omega, hcm, h2⟩
          obtain ⟨pM, _, rfl, _, _⟩ := qM.int (k := i) (by have := F3.out; omega)
          simp only [Option.getD_some] at hB hC
          clear hm1 hm2 hx ht hz qT qO qM qD
          have HA := Lib.hid hA
          have HB := Lib.hid hB
          have HC := Lib.hid hC
          clear hA hB hC
          refine wp_region_quiet_lit (by as_aux_lemma => kernel_rfl) ?_ ?_
          case refine_1 =>
            simp only [List.append_eq, List.cons_append, List.nil_append]
            refine lexB_of 109 (by as_aux_lemma => kernel_rfl) (by as_aux_lemma => kernel_rfl) ?_
            refine lex_next 0 8 (by as_aux_lemma => kernel_rfl) ?_
            refine lex_next 8 8 (by as_aux_lemma => kernel_rfl) ?_
            refine lex_next 16 8 (by as_aux_lemma => kernel_rfl) ?_
            refine lex_next 24 8 (by as_aux_lemma => kernel_rfl) ?_
            refine lex_next 32 8 (by as_aux_lemma => kernel_rfl) ?_
            refine lex_next 40 8 (by as_aux_lemma => kernel_rfl) ?_
            refine lex_next 48 8 (by as_aux_lemma => kernel_rfl) ?_
            refine lex_next 56 8 (by as_aux_lemma => kernel_rfl) ?_
            refine lex_next 64 8 (by as_aux_lemma => kernel_rfl) ?_
            refine lex_next 72 8 (by as_aux_lemma => kernel_rfl) ?_
            refine lex_next 80 8 (by as_aux_lemma => kernel_rfl) ?_
            refine lex_next 88 8 (by as_aux_lemma => kernel_rfl) ?_
            refine lex_next 96 8 (by as_aux_lemma => kernel_rfl) ?_
            refine lex_next 104 5 (by as_aux_lemma => kernel_rfl) ?_
            exact lex_done (Nat.le_refl _)
          simp only [List.append_eq, List.cons_append, List.nil_append]
          as_aux_lemma =>
          rcases HA.out with h3 | ⟨q, i', t', h3, hi', hco, hctt, hlt3⟩ | ⟨q, i', h3, hi', hco, hctt, hlt3⟩
          all_goals
            first
              | (have g5 : decide ((k : Int) > 0) = false := by simp; omega
                 have n5 : ¬ 0 < k := by omega)
              | (have g5 : decide ((k : Int) > 0) = true := by simp; omega
                 have n5 : 0 < k := by omega
                 have g6 : decide (t' > t) = false := by simp; omega
                 have g7 : (t' == t) = false := by simp; omega
                 have s4 : IntKind.i64.wrap ((k : Int) - 1) = (q : Int) := by rw [IntWalk.i64_in _ (by omega)]; omega
                 have j6 : (0 : Int) ≤ (q : Int) := by omega
                 have j7 : (q : Int) < (mO : Int) := by omega
                 have j8 : (0 : Int) ≤ (i' : Int) := by omega
                 have j9 : (i' : Int) < (mD : Int) := by omega)
              | (have g5 : decide ((k : Int) > 0) = true := by simp; omega
                 have n5 : 0 < k := by omega
                 have g6 : decide (t > t) = false := by simp
                 have g7 : (t == t) = true := by simp
                 have g8 : decide ((i' : Int) > (i : Int)) = false := by simp; omega
                 have n8 : ¬ i < i' := by omega
                 have m8 : decide (i < i') = false := by simp; omega
                 have s4 : IntKind.i64.wrap ((k : Int) - 1) = (q : Int) := by rw [IntWalk.i64_in _ (by omega)]; omega
                 have j6 : (0 : Int) ≤ (q : Int) := by omega
                 have j7 : (q : Int) < (mO : Int) := by omega
                 have j8 : (0 : Int) ≤ (i' : Int) := by omega
                 have j9 : (i' : Int) < (mD : Int) := by omega)
            clear h3
            as_aux_lemma =>
            iterate 12 (go_big_quiet_step (fail))
            as_aux_lemma =>
            iterate 12 (go_big_quiet_step (fail))
            as_aux_lemma =>
            iterate 12 (go_big_quiet_step (fail))
            as_aux_lemma =>
            iterate 12 (go_big_quiet_step (fail))
            as_aux_lemma =>
            iterate 12 (go_big_quiet_step (fail))
            as_aux_lemma =>
            iterate 7 (go_big_quiet_step (fail))
            rcases HB.out with h1 | ⟨h1, m, hcm, hmt⟩
            all_goals as_aux_lemma =>
              first
                | (have g1 : decide ((p : Int) < (mD : Int) - 1) = false := by simp; omega)
                | (have g1 : decide ((p : Int) < (mD : Int) - 1) = true := by simp; omega
                   have g2 : decide (m < t) = false := by simp; omega)
              clear h1
              iterate 12 (go_big_quiet_step (fail))
              as_aux_lemma =>
              iterate 11 (go_big_quiet_step (fail))
              rcases HC.out with h2 | ⟨r, m2, h2, h2i, hcr, hm2t⟩
              all_goals
                first
                  | (have g3 : decide (z > 0) = false := by have := HZZ.out; simp; omega)
                  | (have g3 : decide (z > 0) = true := by have := HZZ.out; simp; omega
                     have g4 : decide (m2 ≥ t) = false := by simp; omega
                     have s3 : IntKind.i64.wrap ((p : Int) - 1) = (r : Int) := by rw [IntWalk.i64_in _ (by omega)]; omega
                     have j4 : (0 : Int) ≤ (r : Int) := by omega
                     have j5 : (r : Int) < (mD : Int) := by omega)
                clear h2
                iterate 10 (go_big_quiet_step (fail))
                as_aux_lemma =>
                iterate 9 (go_big_quiet_step (fail))
                refine wpQuiet_nil ?_
                intro _ hw'
                obtain ⟨nq, hw''⟩ := hw'
                subst hw''
                go_wp2_with fail
                go_meet
                exact ⟨rfl, (Dr.refl _).step _⟩
        case rest =>
          obtain ⟨rfl, hd2⟩ := hcut
          clear hm1 hm2 htt hzz hdi
          go_wp2_with fail
          go_roundg (mO - (k + 1))
          case measure => omega
          case rel => exact ⟨k + 1, rfl, by omega, by go_num, hdr.trans hd2⟩
      · as_aux_lemma =>
        clear qT qO qM qD hgq
        have i0 : ¬ (k : Int) < (mO : Int) := by omega
        go_wp2_with fail
        go_loopg [231] mL (fun gq iv wx => ∃ k : Nat, gq = mL - k ∧ k ≤ mL ∧ iv = .int .i64 (k : Int) ∧ Dr w14 wx)
        case atStart => exact ⟨0, rfl, Nat.zero_le _, rfl, hdr⟩
        case round =>
          clear hdr
          obtain ⟨k2, hgq, hk2, rfl, hdr⟩ := hrel
          have qT := rT.dr hdr
          have qL := rL.dr hdr
          have qM := rM.dr hdr
          have qD := rD.dr hdr
          by_cases hlt : k2 < mL
          · have i0 : (k2 : Int) < (mL : Int) := by omega
            obtain ⟨pL, x, rfl, hcx, hx⟩ := qL.int (k := k2) (by have := HML.out; omega)
            obtain ⟨i, rfl, hi1, hin, hdi, m, hmk, htm⟩ := F9.out x (List.mem_of_getElem? hx.out)
            obtain ⟨pT, t, rfl, hct, ht⟩ := qT.int (k := i) (by have := HN.out; omega)
            obtain ⟨pD, z, rfl, hcz, hz⟩ := qD.int (k := i) (by have := F2.out; omega)
            have hzz : z = -1 := by have := hz.out; rw [hdi] at this; exact (Option.some.inj this).symm
            subst hzz
            obtain ⟨r, hr⟩ : ∃ r, i = r + 1 := ⟨i - 1, by omega⟩
            rw [show i - 1 = r by omega] at hmk
            obtain ⟨pM, m', rfl, hcm, hm'⟩ := qM.int (k := r) (List.getElem?_eq_some_iff.1 hmk).1
            have hmm : m' = m := by have := hm'.out; rw [hmk] at this; exact (Option.some.inj this).symm
            subst hmm
            have htt : T.getD i 0 = t := getD_of ht.out
            rw [htt] at htm
            have e1 : ((-1 : Int) != -1) = false := rfl
            have e2 : ((i : Int) == 0) = false := by simp; omega
            have s1 : IntKind.i64.wrap ((i : Int) - 1) = (r : Int) := by rw [IntWalk.i64_in _ (by omega)]; omega
            have j0 : (0 : Int) ≤ (i : Int) := by omega
            have j1 : (i : Int) < (mD : Int) := by omega
            have j2 : (0 : Int) ≤ (r : Int) := by omega
            have j3 : (r : Int) < (mD : Int) := by omega
            have e3 : decide (m' ≤ t) = false := by simp; omega
            have e4 : ¬ m' ≤ t := by omega
            clear hdi htt hmk hr hx ht hz hm' hi1
            go_upto_region 25 with (fail)
            go_quiet (fail)
            go_wp2_with fail
            go_roundg (mL - (k2 + 1))
            case measure => omega
            case rel => exact ⟨k2 + 1, rfl, by omega, by go_num, hdr.step _⟩
          · clear qL qM qD hgq rO rL rM rD
            have i0 : ¬ (k2 : Int) < (mL : Int) := by omega
            replace bt := bt.trans (hdr.below _)
            have hhi0 : 0 ≤ hiK T T.length ∧ hiK T T.length ≤ 36 := by
              refine ⟨hiK_pos _, ?_⟩
              rcases Nat.eq_zero_or_pos T.length with h0 | h0
              · rw [h0, hiK]; omega
              · obtain ⟨i, h1, h2⟩ := hiK_top (T := T) T.length h0 (fun i hi => by rw [List.getD_eq_getElem?_getD, List.getElem?_eq_getElem hi]; exact (HTR.out _ (List.getElem_mem _)).1)
                rw [← h2, List.getD_eq_getElem?_getD, List.getElem?_eq_getElem h1]
                exact (HTR.out _ (List.getElem_mem _)).2
            go_wp2_with fail
            refine (HMZ.out _ (h.below bt)).mono ?_
            rintro e w15 ⟨z, rfl, hz0, hz1, b15⟩
            replace qT := qT.below b15
            replace bt := bt.trans (b15.mono bt.size)
            clear b15
            go_wp2_with fail
            refine (i_BucketsOf _ T z _ qT HTOK.out ⟨by omega, by omega⟩ (by omega)).mono ?_
            rintro e w16 ⟨vB, rfl, oB, b16⟩
            replace qT := qT.below b16
            replace bt := bt.trans (b16.mono bt.size)
            have rB := oB.rd
            clear b16 oB
            obtain ⟨M, hM⟩ : ∃ M, (hiK T T.length / z).toNat = M := ⟨_, rfl⟩
            rw [hM] at rB
            have hQ : ∀ i, i < T.length → 0 ≤ T.getD i 0 ∧ (T.getD i 0 / z).toNat < M + 1 := fun i hi => by
              have h0 : 0 ≤ T.getD i 0 := by rw [List.getD_eq_getElem?_getD, List.getElem?_eq_getElem hi]; exact (HTR.out _ (List.getElem_mem _)).1
              have h2 := hiK_ge (T := T) T.length i hi
              have h3 := Int.ediv_le_ediv (show 0 < z by omega) h2
              have h4 := Int.ediv_nonneg h0 (show 0 ≤ z by omega)
              exact ⟨h0, by omega⟩
            have HBL : Hid ((bktK T z (M + 1) T.length).length = M + 1) := bktK_length _
            have HBT : Hid (tot (bktK T z (M + 1) T.length) = mD) := by rw [Hid, bktK_tot _ fun i hi => (hQ i hi).2]; exact HN.out.symm
            have HBM : Hid (∀ (j : Nat) (row : List Int), (bktK T z (M + 1) T.length)[j]? = some row → ∀ x ∈ row, ∃ i : Nat, i < mD ∧ x = i ∧ T.getD i 0 / z = (j : Int)) := fun j row hr x hx => by
              obtain ⟨i, h1, h2, h3⟩ := bktK_mem _ j row hr x hx
              have h4 := Int.ediv_nonneg (hQ i h1).1 (show 0 ≤ z by omega)
              exact ⟨i, by have := HN.out; omega, h2, by omega⟩
            have HLAST : Hid (0 < mD → ∃ row, (bktK T z (M + 1) T.length)[M]? = some row ∧ 0 < row.length) := fun h0 => by
              obtain ⟨i, h1, h2⟩ := hiK_top (T := T) T.length (by have := HN.out; omega) (fun i hi => (hQ i hi).1)
              obtain ⟨row, h3, h4⟩ := bktK_has (T := T) (z := z) (m := M + 1) T.length i h1 (fun i hi => (hQ i hi).2)
              rw [h2, hM] at h3
              exact ⟨row, h3, List.length_pos_of_mem h4⟩
            have hM9 : M ≤ 36 := by
              have h3 := Int.ediv_le_self z hhi0.1
              omega
            clear hM hQ hhi0
            obtain ⟨B, hB⟩ : ∃ B, bktK T z (M + 1) T.length = B := ⟨_, rfl⟩
            rw [hB] at rB HBL HBT HBM HLAST
            clear hB
            obtain ⟨aB, cB, rfl, hcB, hcB2⟩ := rB.form
            have HBL2 := HBL.out
            rw [HBL2] at rB hcB ⊢
            clear HBL2
            as_aux_lemma =>
            go_wp2_with fail
            go_loopg [19, 264] (M + 1) (fun gq vc iv wx => ∃ k : Nat, gq = M + 1 - k ∧ k ≤ M + 1 ∧ iv = .int .i64 (k : Int) ∧ vc = .int .i64 ((tot (B.take k) : Nat) : Int) ∧ w16 = wx)
            case atStart => exact ⟨0, rfl, Nat.zero_le _, rfl, rfl, rfl⟩
            case round =>
              obtain ⟨k3, hgq, hk3, rfl, rfl, rfl⟩ := hrel
              have htk : tot (B.take k3) ≤ 11 := by have := tot_take_le B k3; have := HBT.out; omega
              by_cases hlt : k3 < M + 1
              · have i0 : (k3 : Int) < ((M + 1 : Nat) : Int) := by omega
                have i1 : (k3 : Int) < (M : Int) + 1 := by omega
                obtain ⟨pB, br, mr, dr, row, rfl, hcr, hrow, hmr, hmd, hd9, rr⟩ := rB.row (k := k3) (by have := HBL.out; omega)
                have HTS : Hid (tot (B.take (k3 + 1)) = tot (B.take k3) + mr) := by rw [Hid, take_snoc' hrow.out, tot_append, tot_one]; have := hmr.out; omega
                have hmr11 : tot (B.take k3) + mr ≤ 11 := by have := tot_take_le B (k3 + 1); have := HBT.out; have := HTS.out; omega
                go_wp2_with fail
                go_loopg [19, 271] mr (fun gq vc iv wx => ∃ q : Nat, gq = mr - q ∧ q ≤ mr ∧ iv = .int .i64 (q : Int) ∧ vc = .int .i64 ((tot (B.take k3) + q : Nat) : Int) ∧ w16 = wx)
                case atStart => exact ⟨0, rfl, Nat.zero_le _, rfl, rfl, rfl⟩
                case round =>
                  obtain ⟨q, hgq2, hq, rfl, rfl, rfl⟩ := hrel
                  by_cases hlt2 : q < mr
                  · have j0 : (q : Int) < (mr : Int) := by omega
                    obtain ⟨pr, x, rfl, hcx, hx⟩ := rr.int (k := q) (by have := hmr.out; omega)
                    obtain ⟨i, hi, rfl, hdz⟩ := HBM.out k3 row hrow.out x (List.mem_of_getElem? hx.out)
                    obtain ⟨pT, t, rfl, hct, ht⟩ := qT.int (k := i) (by have := HN.out; omega)
                    have htb := HTR.out t (List.mem_of_getElem? ht.out)
                    rw [getD_of ht.out] at hdz
                    have e1 : (t / z != (k3 : Int)) = false := by rw [hdz]; simp
                    have e1b : (t / z == (k3 : Int)) = true := by rw [hdz]; simp
                    have j1 : (i : Int) < (mD : Int) := by omega
                    have j2 : ¬ mD ≤ i := by omega
                    have z1 : ¬ z = 0 := by omega
                    clear hdz hx ht
                    go_wp2_with fail
                    go_roundg (mr - (q + 1))
                    case measure => omega
                    case rel => exact ⟨q + 1, rfl, by omega, by go_num, by first | rfl | go_num | (congr 1; omega), rfl⟩
                  · obtain rfl : q = mr := by omega
                    go_wp2_with fail
                    go_roundg (M + 1 - (k3 + 1))
                    case measure => omega
                    case rel => exact ⟨k3 + 1, rfl, by omega, by go_num, by rw [HTS.out], rfl⟩
              · have HE : Hid (tot (B.take k3) = mD) := by rw [Hid, List.take_of_length_le (by have := HBL.out; omega)]; exact HBT.out
                rw [HE.out]
                have e1 : ((mD : Int) == (mD : Int)) = true := by simp
                by_cases h0 : 0 < mD
                · obtain ⟨row, hrow, hrl⟩ := HLAST.out h0
                  obtain ⟨pB, br, mr, dr, row2, rfl, hcr, hrow2, hmr, hmd, hd9, rr⟩ := rB.row (k := M) (by have := HBL.out; omega)
                  have hmr0 : 0 < mr := by
                    have h1 := hrow2.out
                    rw [hrow] at h1
                    have h2 := hmr.out
                    have h3 := congrArg List.length (Option.some.inj h1)
                    omega
                  have e2 : ((mD : Int) == 0) = false := by simp; omega
                  clear hrow hrl hrow2
                  go_wp2_with fail
                  go_ret
                  exact ⟨rfl, bt⟩
                · have e2 : ((mD : Int) == 0) = true := by simp; omega
                  go_wp2_with fail
                  go_ret
                  exact ⟨rfl, bt⟩

end Go.Proofs.Ytlbakbachcpifaa
