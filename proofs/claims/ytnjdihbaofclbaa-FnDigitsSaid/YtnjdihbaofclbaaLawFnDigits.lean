/- The walk of the law FnDigits. -/
import Derived.Test.YtnjdihbaofclbaaPlainFnDigits
import Derived.Test.YtnjdihbaofclbaaDraws2
namespace Go.Proofs.Ytnjdihbaofclbaa
open Go.RowKit
set_option linter.unusedVariables false
set_option linter.unusedSimpArgs false

set_option maxRecDepth 100000 in
set_option maxHeartbeats 8000000 in
theorem law_FnDigits (w : World) (v : Value) (xs : List Int) (h : Rd w v (bytesV xs)) (hxb : ∀ n ∈ xs, 0 ≤ n ∧ n ≤ 255) : Calls Try.prog 12 #[v] w (Law w) := by
  obtain ⟨ab, n, cb, rfl, HN, hn1, hn2⟩ := h.formB
  by_cases hl : n ≤ 1048576
  case neg =>
    have hd : decide ((n : Int) > 1048576) = true := by simp; omega
    go_enter Try.func12, Try.ntmps12
    go_wp2_with fail
    go_ret
    exact ⟨rfl, Below.refl _ _⟩
  have hl' : xs.length ≤ 1048576 := by have := HN.out; omega
  have hd : decide ((n : Int) > 1048576) = false := by simp; omega
  have HMD : Hid (Calls Try.prog 39 #[.slice ab n cb, .int .i64 0] w _) := Lib.hid (s_MakeDigits _ xs hxb hl' 0 (by omega) w h)
  have HMS : Hid (∀ (W : World) (hW : Rd W (.slice ab n cb) (bytesV xs)), Calls Try.prog 40 #[.slice ab n cb, .int .i64 20, .int .i64 2, .int .i64 12] W _) := Lib.hid (fun (W : World) (hW : Rd W (.slice ab n cb) (bytesV xs)) => s_MakeSize _ xs hxb hl' 20 (by omega) 2 12 (by omega) (by omega) (by omega) W hW)
  clear hxb
  go_enter Try.func12, Try.ntmps12
  go_wp2_with fail
  refine HMD.out.mono ?_
  rintro e w1 ⟨L, hL8, HLr, vL, rfl, oL, bt⟩
  clear HMD
  go_wp2_with fail
  refine (HMS.out w1 (h.below bt)).mono ?_
  rintro e w2 ⟨b, rfl, hb0, hb1, b2⟩
  clear HMS
  have rL := (oL.below b2).rd
  replace bt := bt.trans (b2.mono bt.size)
  clear oL b2 h
  have hdk : digitsOk L b = true := digitsOk_iff.2 ⟨by omega, ⟨by omega, by omega⟩, HLr⟩
  obtain ⟨K, hK, hK20⟩ := passes_bd hdk
  have P := Lib.hid (passes_mk hdk hK hK20)
  have IB : I64 b := ⟨by omega, by omega⟩
  have HIL : Hid (∀ d, I64s (passM L b d) ∧ (passM L b d).length ≤ 1048576) := fun d => ⟨fun x hx => by
    have := HLr x (passM_mem L b x d hx)
    exact ⟨by omega, by omega⟩, by rw [passM_length]; omega⟩
  have HLR := Lib.hid HLr
  clear HLr
  have HDK := Lib.hid hdk
  have HKK := Lib.hid hK
  clear hdk hK
  obtain ⟨aL, mL, cL, rfl, HML, hmc, hmc2⟩ := rL.formN
  have hmL : mL ≤ 8 := by have := HML.out; omega
  have hM0 : Hid (passM L b 0 = L) := rfl
  go_wp2_with fail
  refine (i_PassesNeeded _ L b _ rL).mono ?_
  rintro e w' ⟨rfl, rfl⟩
  rw [HKK.out]
  have k0 : decide ((K : Int) < 0) = false := by simp
  have k1 : decide ((K : Int) > 20) = false := by simp; omega
  go_wp2_with fail
  refine (i_DigitsOk _ L b _ rL).mono ?_
  rintro e w' ⟨rfl, rfl⟩
  rw [HDK.out]
  go_wp2_with fail
  refine (I_DigitSort _ _ L rL (HIL.out 0).1 (HIL.out 0).2 b IB).mono ?_
  rintro e w3 ⟨v3, rfl, o3, b3⟩
  rw [P.out.done] at o3
  replace rL := rL.below b3
  replace bt := bt.trans (b3.mono bt.size)
  go_wp2_with fail
  refine (sorted_c _ L _ rL (by have := HML.out; omega)).mono ?_
  rintro e w4 ⟨v4, rfl, o4, b4⟩
  replace rL := rL.below b4
  replace o3 := o3.below b4
  replace bt := bt.trans (b4.mono bt.size)
  go_wp2_with fail
  refine (same_c _ _ (srt L) (srt L) _ o3.rd o4.rd).mono ?_
  rintro e w5 ⟨rfl, d5⟩
  rw [eqI_self]
  replace rL := rL.dr d5
  replace bt := bt.trans (d5.below _)
  clear o3 o4 d5 b3 b4
  go_wp2_with fail
  go_loopw [6, 7] (fun now dv wr => ∃ d : Nat, d ≤ K ∧ dv = .int .i64 d ∧ Rd wr now (ints (passM L b d)) ∧ Rd wr (.slice aL mL cL) (ints L) ∧ Below w.heap.size w wr) (fun _ dv _ => K - (intOf dv).toNat)
  case atStart => exact ⟨0, Nat.zero_le _, rfl, rL, rL, bt⟩
  case round =>
    clear bt rL
    obtain ⟨d, hdK, rfl, rN, rL, bt⟩ := hrel
    by_cases hlt : d < K
    · have hd20 : d ≤ 20 := by omega
      have i0 : (d : Int) < (K : Int) := by omega
      have HD1 := Lib.hid (P.out.pass d hd20)
      have HD2 := Lib.hid (P.out.cnt d hd20)
      have HD3 := Lib.hid (P.out.top d hd20)
      have HD4 : Hid (isDigitSorted (passM L b (d + 1)) b ((d : Int) + 1) = true) := by have := P.out.rise (d + 1) (by omega); rw [Hid]; simpa using this
      have HD5 := Lib.hid (P.out.flat d)
      have HD6 := Lib.hid (P.out.sum d)
      have ID : I64 (d : Int) := ⟨by omega, by omega⟩
      have ID1 : I64 ((d : Int) + 1) := ⟨by omega, by omega⟩
      obtain ⟨M, hM⟩ : ∃ M, passM L b d = M := ⟨_, rfl⟩
      obtain ⟨N, hN⟩ : ∃ N, passM L b (d + 1) = N := ⟨_, rfl⟩
      obtain ⟨R, hR⟩ : ∃ R, topM (keyB b d) M b.toNat = R := ⟨_, rfl⟩
      obtain ⟨C, hC⟩ : ∃ C, countsOf (keyB b d) b.toNat M = C := ⟨_, rfl⟩
      have HIM := Lib.hid (HIL.out d)
      have HIN := Lib.hid (HIL.out (d + 1))
      have HPS : Hid (srt N = srt L) := by have := P.out.perm (d + 1); rwa [hN] at this
      have HNL : Hid (N.length = mL) := by rw [Hid, ← hN, passM_length, HML.out]
      have HMl : Hid (M.length = mL) := by rw [Hid, ← hM, passM_length, HML.out]
      have HRS := (topM_size (keyB b d) M b.toNat).1
      have HROW := Lib.hid (topM_rows (keyB b d) M b.toNat)
      have HMR : Hid (∀ x ∈ M, 0 ≤ x ∧ x ≤ 999999) := fun x hx => by rw [← hM] at hx; exact HLR.out x (passM_mem L b x d hx)
      have HDG : Hid (∀ x ∈ M, digitOf x b (d : Int) = keyB b d x) := fun x hx => by
        rw [← hM] at hx
        exact ((P.out.horner x (passM_mem L b x d hx)).2 d hd20).1
      have HCL : Hid ((C.length : Int) = b) := by rw [Hid, ← hC, countsOf_length]; omega
      have HCG : Hid (∀ u : Nat, u < b.toNat → C[u]? = some ((M.filter fun x => decide (keyB b d x = (u : Int))).length : Int)) := fun u hu => by
        rw [← hC, countsOf_get _ _ _ _ hu]
        congr 3
      have HCR : Hid (∀ x ∈ C, 0 ≤ x ∧ x ≤ 1000000) := fun x hx => by
        rw [← hC, countsOf, List.mem_map] at hx
        obtain ⟨u, _, rfl⟩ := hx
        have := List.length_filter_le (fun x => keyB b d x == (u : Int)) M
        have := HMl.out
        omega
      rw [hM] at rN HD1 HD2 HD3 HD6 HIM HD5
      rw [hN] at HD1 HD4 HIN HD5
      have HNN := Lib.hid hN
      rw [hC] at HD2 HD6
      rw [hR] at HD3 HD5 HROW HRS
      clear hM hN hC hR
      go_wp2_with fail
      refine (I_DigitPass _ _ M rN HIM.out.1 HIM.out.2 b IB (d : Int) ID).mono ?_
      rintro e w6 ⟨v6, rfl, o6, b6⟩
      rw [HD1.out] at o6
      replace rL := rL.below b6
      replace rN := rN.below b6
      replace bt := bt.trans (b6.mono bt.size)
      have r6 := o6.rd
      clear o6 b6
      go_wp2_with fail
      refine (I_CountDigits _ _ M rN HIM.out.1 HIM.out.2 b IB (d : Int) ID).mono ?_
      rintro e w7 ⟨v7, rfl, o7, b7⟩
      rw [HD2.out] at o7
      replace rL := rL.below b7
      replace rN := rN.below b7
      replace r6 := r6.below b7
      replace bt := bt.trans (b7.mono bt.size)
      have r7 := o7.rd
      clear o7 b7
      obtain ⟨aC, mC, cC, rfl, HMC, _, _⟩ := r7.formN
      have hmC : (mC : Int) = b := by have := HMC.out; have := HCL.out; omega
      go_wp2_with fail
      refine (sorted_c _ N _ r6 (by have := HNL.out; omega)).mono ?_
      rintro e w8 ⟨v8, rfl, o8, b8⟩
      rw [HPS.out] at o8
      replace rL := rL.below b8
      replace rN := rN.below b8
      replace r6 := r6.below b8
      replace r7 := r7.below b8
      replace bt := bt.trans (b8.mono bt.size)
      go_wp2_with fail
      refine (sorted_c _ L _ rL (by have := HML.out; omega)).mono ?_
      rintro e w9 ⟨v9, rfl, o9, b9⟩
      replace rL := rL.below b9
      replace rN := rN.below b9
      replace r6 := r6.below b9
      replace r7 := r7.below b9
      replace o8 := o8.below b9
      replace bt := bt.trans (b9.mono bt.size)
      go_wp2_with fail
      refine (same_c _ _ (srt L) (srt L) _ o8.rd o9.rd).mono ?_
      rintro e w10 ⟨rfl, d10⟩
      rw [eqI_self]
      replace rL := rL.dr d10
      replace rN := rN.dr d10
      replace r6 := r6.dr d10
      replace r7 := r7.dr d10
      replace bt := bt.trans (d10.below _)
      clear o8 o9 b8 b9 d10
      go_wp2_with fail
      refine (I_IsDigitSorted _ _ N r6 HIN.out.1 HIN.out.2 b IB ((d : Int) + 1) ID1).mono ?_
      rintro e w11 ⟨rfl, b11⟩
      rw [HD4.out]
      replace rL := rL.below b11
      replace rN := rN.below b11
      replace r6 := r6.below b11
      replace r7 := r7.below b11
      replace bt := bt.trans (b11.mono bt.size)
      have c0 : ((mC : Int) != b) = false := by simp [hmC]
      go_wp2_with fail
      refine (sum_c _ C _ r7 (by have := HMC.out; omega) HCR.out).mono ?_
      rintro e w' ⟨rfl, rfl⟩
      rw [HD6.out, ← HML.out]
      have s0 : ((mL : Int) != (mL : Int)) = false := by simp
      go_wp2_with fail
      have bA := (Below.refl w11.heap.size w11).alloc (Nat.le_refl _) (.cells #[] 3)
      have oA := Own.lit0 (B := w11.heap.size) w11 3 (Nat.le_refl _)
      refine (I_TopFirst _ _ M (rN.alloc _) HIM.out.1 HIM.out.2 b IB (d : Int) ID).mono ?_
      rintro e w12 ⟨v12, rfl, o12, b12⟩
      rw [HD3.out, World.size_alloc] at o12
      replace oA := oA.below b12
      replace bA := bA.trans (b12.mono bA.size)
      clear b12 rN
      have rR := o12.rd
      obtain ⟨aR, cR, rfl, _, hcR⟩ := rR.form
      obtain ⟨mR, hmR⟩ : ∃ mR, R.length = mR := ⟨_, rfl⟩
      rw [hmR] at o12 HRS ⊢
      have HMRR := Lib.hid hmR
      clear hmR rR
      go_wp2_with fail
      go_loopw [10, 97] (fun al iv wr => ∃ j : Nat, j ≤ mR ∧ iv = .int .i64 j ∧ Own wr 3 w11.heap.size al (ints (R.take j).flatten) ∧ (∀ q, al.ownBlock = some q → q = w11.heap.size ∨ w12.heap.size ≤ q) ∧ Own2 wr 26 3 (w11.heap.size + 1) w12.heap.size (.slice aR mR cR) R ∧ w12.heap.size ≤ wr.heap.size ∧ Below w11.heap.size w11 wr) (fun _ iv _ => mR - (intOf iv).toNat)
      case atStart => exact ⟨0, Nat.zero_le _, rfl, oA, fun q hq => .inl (Option.some.inj hq).symm, o12, Nat.le_refl _, bA⟩
      case round =>
        clear bA oA o12
        obtain ⟨j, hj, rfl, oA, hqA, oR, hzA, bA⟩ := hrel
        have rR := oR.rd
        by_cases hjm : j < mR
        · have i1 : (j : Int) < (mR : Int) := by omega
          obtain ⟨ad, br, mr, dr, row, rfl, hcr, hrow, hmr, hmd, hd9, rr⟩ := rR.row (k := j) (by have := HMRR.out; omega)
          obtain ⟨hne, u, hu, hrw⟩ := HROW.out row (List.mem_of_getElem? hrow.out)
          have hmr0 : 0 < mr := by have := hmr.out; have := List.length_pos_iff.2 hne; omega
          have e0 : ((mr : Int) == 0) = false := by simp; omega
          obtain ⟨ax, x, rfl, hcx, hx⟩ := rr.int (k := 0) (by have := hmr.out; omega)
          have hcx0 : wr.cell? ax = some (.int .i64 x) := by simpa [Addr.add] using hcx
          clear hcx
          have hxm := List.mem_of_getElem? hx.out
          rw [hrw] at hxm
          have hku := of_decide_eq_true (List.mem_filter.1 hxm).2
          have hxM := (List.mem_filter.1 hxm).1
          have HDX := Lib.hid ((HDG.out x hxM).trans hku)
          clear hku hxM hxm
          obtain ⟨aC2, y, hy0, hcy, hy⟩ := (r7.below bA).int (k := u) (by have := HCL.out; omega)
          have hyr : y = (mr : Int) := by
            have h1 := HCG.out u hu
            rw [hy.out] at h1
            rw [Option.some.inj h1, hmr.out, hrw]
          subst hyr
          subst hy0
          have hub : (u : Int) < b := by omega
          have u0 : decide ((u : Int) < 0) = false := by simp
          have u1 : decide ((u : Int) ≥ b) = false := by simp; omega
          have u2 : ((mr : Int) != (mr : Int)) = false := by simp
          have umC : (u : Int) < (mC : Int) := by omega
          have HLT : Hid ((ints (R.take j).flatten).length + (ints row).length ≤ 100) := by
            have h1 : (R.take (j + 1)).flatten = (R.take j).flatten ++ row := by rw [take_snoc' hrow.out, List.flatten_append]; simp
            have h2 : (R.take (j + 1)).flatten.length + (R.drop (j + 1)).flatten.length = N.length := by rw [← List.length_append, ← List.flatten_append, List.take_append_drop, HD5.out]
            rw [h1, List.length_append] at h2
            rw [Hid, ints_length, ints_length]
            have := HNL.out
            omega
          have HSN : Hid ((R.take (j + 1)).flatten = (R.take j).flatten ++ row) := by rw [Hid, take_snoc' hrow.out, List.flatten_append]; simp
          obtain ⟨T, hT⟩ : ∃ T, (ints (R.take j).flatten).length + (ints row).length = T := ⟨_, rfl⟩
          have hT1 : T ≤ 100 := by have := HLT.out; omega
          have HT := Lib.hid hT
          clear hT
          go_wp2_with (first
            | (go_at_call 17; refine (i_DigitOf _ _ _ _).mono ?_; rintro e w' ⟨rfl, rfl⟩; rw [HDX.out])
            | (at_builtin; refine wpList_appn rfl _ _ 26 rfl elI oA rr rfl rfl (oneCell_ints1 _) bA.size T HT.out (by omega) (by omega) ?_; intro b13 c13 w13 o13 g13 at13))
          have hb13 := bA.grown g13 bA.size (fun r hr => (oA.lt r hr).1)
          have hs13 := g13.size
          have oR13 : Own2 w13 26 3 (w11.heap.size + 1) w12.heap.size (.slice (some ad) mR cR) R := by
            cases hob : Value.ownBlock u10 with
            | none => exact oR.chg (C := 0) (D := 0) (Chg.row g13 (fun k hk => by rw [hob] at hk; cases hk)) (.inr (Nat.zero_le _))
            | some q =>
              rcases hqA q hob with e | e
              · exact oR.chg (C := q) (D := q + 1) (Chg.row g13 (fun k hk => by rw [hob] at hk; cases hk; omega)) (.inr (by omega))
              · exact oR.chg (C := q) (D := q + 1) (Chg.row g13 (fun k hk => by rw [hob] at hk; cases hk; omega)) (.inl e)
          go_roundw
          case rel => exact ⟨j + 1, by omega, by go_num, by rw [HSN.out, ints_append]; exact o13, fun q hq => by
            rcases at13 with e | e
            · exact hqA q (e ▸ hq)
            · rw [e] at hq
              cases hq
              exact .inr hzA, oR13, by omega, hb13⟩
          case measure => simp [intOf]; omega
        · obtain rfl : mR = j := by omega
          have HJ : Hid ((R.take mR).flatten = N) := by rw [Hid, ← HMRR.out, List.take_length, HD5.out]
          rw [HJ.out] at oA
          go_wp2_with fail
          refine (same_c _ _ N N _ oA.rd (r6.below bA)).mono ?_
          rintro e w14 ⟨rfl, d14⟩
          rw [eqI_self]
          have rL14 := (rL.below bA).dr d14
          have r614 := (r6.below bA).dr d14
          have bt14 := (bt.trans (bA.mono bt.size)).trans (d14.below _)
          go_wp2_with fail
          go_roundw
          case rel =>
            have HNP : Hid (passM L b (d + 1) = N) := HNN
            exact ⟨d + 1, by omega, by go_num, by rw [HNP.out]; exact r614, rL14, bt14⟩
          case measure => simp [intOf]; omega
    · obtain rfl : K = d := by omega
      go_wp2_with fail
      go_loopw [136] (fun iv wr => ∃ j : Nat, j ≤ mL ∧ iv = .int .i64 j ∧ Rd wr u6 (ints (passM L b K)) ∧ Rd wr (.slice aL mL cL) (ints L) ∧ Below w.heap.size w wr) (fun iv _ => mL - (intOf iv).toNat)
      case atStart => exact ⟨0, Nat.zero_le _, rfl, rN, rL, bt⟩
      case round =>
        clear rN rL bt
        obtain ⟨j, hj, rfl, rN, rL, bt⟩ := hrel
        by_cases hjm : j < mL
        · have i1 : (j : Int) < (mL : Int) := by omega
          obtain ⟨ad, x, rfl, hcx, hx⟩ := rL.int (k := j) (by have := HML.out; omega)
          have hxm := List.mem_of_getElem? hx.out
          have hxr := HLR.out x hxm
          have HH := Lib.hid (P.out.horner x hxm)
          clear hxm
          go_wp2_with fail
          go_loopw [16, 17] (fun vv dv wq => ∃ (q : Nat) (y : Int), q ≤ K ∧ dv = .int .i64 ((q : Int) - 1) ∧ vv = .int .i64 y ∧ 0 ≤ y ∧ y ≤ 999999 ∧ Hid (y = x / b ^ q) ∧ wr = wq) (fun _ dv _ => (intOf dv + 1).toNat)
          case atStart => exact ⟨K, 0, Nat.le_refl _, rfl, rfl, by omega, by omega, HH.out.1.symm, rfl⟩
          case round =>
            obtain ⟨q, y, hq, rfl, rfl, hy0, hy1, hy, rfl⟩ := hrel
            by_cases hq0 : 0 < q
            · obtain ⟨r, rfl⟩ : ∃ r, q = r + 1 := ⟨q - 1, by omega⟩
              obtain ⟨h1, h2⟩ := HH.out.2 r (by omega)
              have HD := Lib.hid h1
              have hdb := dig_bd x b r (by omega)
              rw [← hy.out] at h2
              obtain ⟨z, hz⟩ : ∃ z, dig x b r = z := ⟨_, rfl⟩
              rw [hz] at h2 HD hdb
              have hp : 0 < b ^ r := by have := pow_pos' (show 1 ≤ b by omega) r; omega
              have hz0 : 0 ≤ x / b ^ r := Int.ediv_nonneg hxr.1 (by omega)
              have hz1 : x / b ^ r ≤ x := Int.ediv_le_self _ hxr.1
              have H2 : Hid (y * b + z = x / b ^ r) := h2
              have hw0 : 0 ≤ y * b + z ∧ y * b + z ≤ 999999 := by rw [h2]; omega
              have hyb : 0 ≤ y * b := Int.mul_nonneg hy0 (by omega)
              clear hz h1 h2 hz0 hz1 hp
              have e1 : ((r + 1 : Nat) : Int) - 1 = (r : Int) := by omega
              have e2 : (0 : Int) ≤ (r : Int) := by omega
              rw [e1]
              go_wp2_with (go_at_call 17; refine (i_DigitOf _ _ _ _).mono ?_; rintro e w' ⟨rfl, rfl⟩; rw [HD.out])
              go_roundw
              case rel => exact ⟨r, y * b + z, by omega, by go_num, by go_num, hw0.1, hw0.2, H2.out, trivial⟩
              case measure => simp [intOf]
            · obtain rfl : q = 0 := by omega
              have hyx : y = x := by rw [hy.out]; simp
              subst hyx
              have e1 : (y != y) = false := by simp
              go_wp2_with fail
              go_roundw
              case rel => exact ⟨j + 1, by omega, by go_num, rN, rL, bt⟩
              case measure => simp [intOf]; omega
        · obtain rfl : mL = j := by omega
          rw [P.out.end_] at rN
          go_wp2_with fail
          refine (sorted_c _ L _ rL (by have := HML.out; omega)).mono ?_
          rintro e w3 ⟨v3, rfl, o3, b3⟩
          replace rN := rN.below b3
          replace rL := rL.below b3
          replace bt := bt.trans (b3.mono bt.size)
          go_wp2_with fail
          refine (same_c _ _ (srt L) (srt L) _ rN o3.rd).mono ?_
          rintro e w4 ⟨rfl, d4⟩
          rw [eqI_self]
          replace rN := rN.dr d4
          replace rL := rL.dr d4
          replace bt := bt.trans (d4.below _)
          clear o3 b3 d4
          go_wp2_with fail
          refine (I_IsDigitSorted _ _ L rL (HIL.out 0).1 (HIL.out 0).2 b IB 0 ⟨by omega, by omega⟩).mono ?_
          rintro e w5 ⟨rfl, b5⟩
          rw [show isDigitSorted L b 0 = true from P.out.rise 0 (by omega)]
          replace rN := rN.below b5
          replace bt := bt.trans (b5.mono bt.size)
          have HR20 := P.out.rise20
          rw [P.out.end_] at HR20
          have HIK := HIL.out K
          rw [P.out.end_] at HIK
          go_wp2_with fail
          refine (I_IsDigitSorted _ _ (srt L) rN HIK.1 HIK.2 b IB 20 ⟨by omega, by omega⟩).mono ?_
          rintro e w6 ⟨rfl, b6⟩
          rw [HR20]
          replace bt := bt.trans (b6.mono bt.size)
          go_wp2_with fail
          refine (i_PassesNeeded _ [] b _ (Rd.nil _)).mono ?_
          rintro e w' ⟨rfl, rfl⟩
          rw [P.out.nil]
          go_wp2_with fail
          go_ret
          exact ⟨rfl, bt⟩

end Go.Proofs.Ytnjdihbaofclbaa
