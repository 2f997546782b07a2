/- Walks: the losers. -/
import Derived.Test.YtkidbnlebeaikaaWinner
namespace Go.Proofs.Ytkidbnlebeaikaa
open Go.RowKit
set_option linter.unusedVariables false
set_option linter.unusedSimpArgs false

noncomputable def losersOk (xss : List (List Int)) (t : List Int) : List Int := if takenOk xss t = true then (playOf xss t).2 else []
theorem N_LosersOf (xss : List (List Int)) (_ : SzOk xss) (t : List Int) (_ : t.length ≤ 1048576) : (losersOk xss t).length ≤ 2000000 := by
  unfold losersOk
  split
  · rename_i h
    have h8 := (listsOk_len (takenOk_iff.1 h).1).2
    have := (play_perm (pk xss t) xss.length (stairs xss.length) []).length_eq
    simp only [List.length_append, stairs_length, List.length_nil] at this
    unfold playOf
    omega
  · simp

theorem S_LosersOf (w : World) (v : Value) (xss : List (List Int)) (h : Rd2 w v xss) (hf : I64ss xss) (_ : SzOk xss) (vt : Value) (t : List Int) (ht : Rd w vt (ints t)) (_ : I64s t) (_ : t.length ≤ 1048576) : Calls Try.prog 29 #[v, vt] w (RetOwn 3 (ints (losersOk xss t)) w) := by
  have HT := s_TakenOk v xss vt t w h ht
  cases hk : takenOk xss t
  · rw [hk] at HT
    have HR : Hid (losersOk xss t = []) := by simp [losersOk, hk, Hid]
    go_enter Try.func29, Try.ntmps29
    go_wp2_with (go_at_call 16; refine HT.mono ?_; rintro e w2 ⟨rfl, hd2⟩)
    go_ret
    exact ⟨_, rfl, by rw [HR.out]; exact Own.nil _ _ _, hd2.below _⟩
  · rw [hk] at HT
    obtain ⟨hl0, hT⟩ := takenOk_iff.1 hk
    obtain ⟨h1, h8⟩ := listsOk_len hl0
    clear hl0
    have HR : Hid (losersOk xss t = (playOf xss t).2) := by simp [losersOk, hk, Hid]
    have HP := Lib.hid (fun (wq : World) (hq : Dr w wq) => s_l28Play _ xss _ t wq (h.dr hq) (ht.dr hq) hT hf h1 h8)
    clear hk
    go_enter Try.func29, Try.ntmps29
    go_wp2_with (first | (go_at_call 16; refine HT.mono ?_; rintro e w2 ⟨rfl, hd2⟩) | (go_at_call 47; refine (HP.out _ hd2).mono ?_; rintro e w3 ⟨vl, rfl, hl3, hb3⟩))
    have hz : w2.heap.size = w.heap.size := hd2.size
    go_ret
    exact ⟨_, rfl, by rw [HR.out, ← hz]; exact hl3, (hd2.below _).trans (hb3.mono (by omega))⟩

set_option maxHeartbeats 2000000 in
theorem I_LosersOf (w : World) (v : Value) (xss : List (List Int)) (h : Rd2 w v xss) (hf : I64ss xss) (_ : SzOk xss) (vt : Value) (t : List Int) (ht : Rd w vt (ints t)) (_ : I64s t) (_ : t.length ≤ 1048576) : Calls Try.prog 30 #[v, vt] w (RetOwn 3 (ints (losersOk xss t)) w) := by
  have HTK := i_TakenOk v xss vt t w h ht
  cases hk : takenOk xss t
  · rw [hk] at HTK
    have HR : Hid (losersOk xss t = []) := by simp [losersOk, hk, Hid]
    go_enter Try.func30, Try.ntmps30
    go_wp2_with (go_at_call 18; refine HTK.mono ?_; rintro e w2 ⟨rfl, hd2⟩)
    go_ret
    exact ⟨_, rfl, by rw [HR.out]; exact Own.nil _ _ _, hd2.below _⟩
  rw [hk] at HTK
  obtain ⟨hl0, hT⟩ := takenOk_iff.1 hk
  obtain ⟨h1, h8⟩ := listsOk_len hl0
  clear hl0
  have HR : Hid (losersOk xss t = (playOf xss t).2) := by simp [losersOk, hk, Hid]
  clear hk
  obtain ⟨a0, c0, rfl, _, _⟩ := h.form
  go_enter Try.func30, Try.ntmps30
  go_wp2_with (first | (go_at_call 18; refine HTK.mono ?_; rintro e w2 ⟨rfl, hd0⟩) | (go_at_call 50; refine (i_wires _ _ (by omega)).mono ?_; rintro e w1 ⟨vn, rfl, hn1, hb1⟩))
  have hz : w2.heap.size = w.heap.size := hd0.size
  have hzz : w.heap.size ≤ (w2.alloc (.cells #[] 3)).heap.size := by simp; omega
  have hbA : Below w.heap.size w w1 := ((hd0.below w.heap.size).alloc (by omega) (.cells #[] 3)).trans (hb1.mono hzz)
  have hlA : Own w1 3 w.heap.size (.slice (some ⟨w2.heap.size, 0, none⟩) 0 0) (ints []) := (Own.lit0 w2 _ (by omega)).below hb1
  have hapA : Ap vn (.slice (some ⟨w2.heap.size, 0, none⟩) 0 0) := fun g h2 h3 => by
    have := (hn1.lt g h2).1
    simp [Value.ownBlock] at h3
    simp at this
    omega
  have hnA := hn1.mono hzz
  clear hb1 hn1 hz hzz
  go_loopw [5, 6] (fun vl vn wr => ∃ (f : Nat) (now los : List Int), Hid (Nows xss.length now) ∧ 1 ≤ now.length ∧ now.length ≤ f + 1 ∧ los.length + now.length ≤ xss.length ∧ Hid (play (pk xss t) f now los = playOf xss t) ∧
      Own wr 3 w.heap.size vn (ints now) ∧ Own wr 3 w.heap.size vl (ints los) ∧ Ap vn vl ∧ Below w.heap.size w wr)
    (fun _ vn _ => match vn with | .slice _ n _ => n | _ => 0)
  case atStart => exact ⟨xss.length, stairs xss.length, [], Nows.stairs _, by rw [stairs_length]; omega, by rw [stairs_length]; omega, by rw [stairs_length]; simp, rfl, hnA, hlA, hapA, hbA⟩
  case round =>
    obtain ⟨wo, rfl⟩ : ∃ wo : World, wo = wr := ⟨_, rfl⟩
    obtain ⟨f, now, los, HW, hn1, hnf, hlen, HP, hn, hl, hap, hb⟩ := hrel
    obtain ⟨an, cn, rfl, _, hcn⟩ := hn.rd.formi
    obtain ⟨al, cl, rfl, _, hcl⟩ := hl.rd.formi
    by_cases hlt : 1 < now.length
    · obtain ⟨f', hff, hlf', HF⟩ := play_step (pk xss t) f now los hlt hnf
      have HFF := Lib.hid HF
      clear HF
      have hpl := playRound_len (pk xss t) now
      obtain ⟨R1, hR1⟩ : ∃ r, (playRound (pk xss t) now).1 = r := ⟨_, rfl⟩
      obtain ⟨R2, hR2⟩ : ∃ r, (playRound (pk xss t) now).2 = r := ⟨_, rfl⟩
      rw [hR1, hR2] at hpl
      rw [hR1] at hlf'
      have HR1 := Lib.hid hR1
      have HR2 := Lib.hid hR2
      clear hR1 hR2
      have hd1 : decide ((now.length : Int) > 1) = true := by simp; omega
      go_wp2
      go_loopw [5, 7, 8] (fun vl vx i wi => ∃ (q : Nat) (ns ls : List Int), q ≤ now.length + 1 ∧ i = .int .i64 q ∧ Hid (ns ++ (playRound (pk xss t) (now.drop q)).1 = R1) ∧ Hid (ls ++ (playRound (pk xss t) (now.drop q)).2 = los ++ R2) ∧
          ns.length ≤ 8 ∧ ls.length ≤ 8 ∧
          Own wi 3 w.heap.size (.slice an now.length cn) (ints now) ∧ Own wi 3 w.heap.size vl (ints ls) ∧ Own wi 3 w.heap.size vx (ints ns) ∧ Ap (.slice an now.length cn) vl ∧ Ap (.slice an now.length cn) vx ∧ Ap vx vl ∧ Below w.heap.size w wi)
        (fun _ _ i _ => now.length + 1 - (intOf i).toNat)
      case atStart => exact ⟨0, [], los, by omega, rfl, by simpa [Hid] using HR1.out, by simpa [Hid] using HR2.out, by simp, by omega, hn.alloc _, hl.alloc _, Own.lit0 _ _ hb.size, hap, Ap.fresh hn 0 0, (Ap.fresh hl 0 0).symm, hb.alloc hb.size _⟩
      case round =>
        obtain ⟨q, ns, ls, hq, rfl, HQ1, HQ2, hnl, hll, hn, hl, hx, ap1, ap2, ap3, hb⟩ := hrel
        obtain ⟨ax, cx, rfl, _, hcx⟩ := hx.rd.formi
        obtain ⟨al', cl', rfl, _, hcl'⟩ := hl.rd.formi
        by_cases hql : q < now.length
        · obtain ⟨ad, x, rfl, hc, hX⟩ := hn.rd.int hql
          by_cases hq1 : q + 1 < now.length
          · obtain ⟨ad', y, had, hc2, hY⟩ := hn.rd.int hq1
            obtain rfl : ad = ad' := by injection had
            clear had
            rw [add_succ] at hc2
            obtain ⟨a, b, rfl, rfl, hab, hbn⟩ := HW.out.two hX.out hY.out
            have HD := Lib.hid (drop_two hX.out hY.out)
            have i1 : IntKind.i64.wrap ((q : Int) + 1) = (q : Int) + 1 := IntWalk.i64_in _ (by omega)
            have i3 : (0 : Int) ≤ (q : Int) + 1 := by omega
            have i4 : (q : Int) + 1 < (now.length : Int) := by omega
            have i5 : ((q : Int) + 1).toNat = q + 1 := by omega
            have i6 : (0 : Int) ≤ (q : Int) := by omega
            have i7 : (q : Int) < (now.length : Int) := by omega
            go_wp2
            go_quiet (fail)
            have hL1 := ints_length ns
            have hL2 := ints_length ls
            have HB := Lib.hid (fun (wq : World) (hq : Dr wr wq) => i_beats _ xss _ t wq ((h.below hb).dr hq) ((ht.below hb).dr hq) hT hf b a (by omega) (by omega) h8)
            have HK : Hid ((playRound (pk xss t) (now.drop q)) = if key xss t a < key xss t b then ((a : Int) :: (playRound (pk xss t) (now.drop (q + 2))).1, (b : Int) :: (playRound (pk xss t) (now.drop (q + 2))).2) else ((b : Int) :: (playRound (pk xss t) (now.drop (q + 2))).1, (a : Int) :: (playRound (pk xss t) (now.drop (q + 2))).2)) := by
              show _ = _
              rw [HD.out]
              by_cases hk : key xss t a < key xss t b <;> simp [playRound, pk, hk]
            clear i1 i3 i4 i5 i6 i7 hc hc2
            by_cases hk : key xss t b < key xss t a
            · have hk2 : ¬ key xss t a < key xss t b := by omega
              rw [HK.out, if_neg hk2] at HQ1 HQ2
              have hkd : decide (key xss t b < key xss t a) = true := by simpa using hk
              rw [hkd] at HB
              clear hkd hk hk2 HK
              go_wp2_with (first
                | (go_at_call 51; refine (HB.out _ ((Dr.refl _).step _)).mono ?_; rintro e w2 ⟨rfl, hd2⟩)
                | (at_builtin; refine wpList_app1 rfl _ _ 27 rfl elI rfl (hx.dr (((Dr.refl _).step _).trans hd2)) rfl rfl ((hb.trans (Dr.below (((Dr.refl _).step _).trans hd2) _)).size) (by omega) (by omega) ?_; intro bn cn' w3 hx3 hg3 hat3)
                | (at_builtin; refine wpList_app1 rfl _ _ 27 rfl elI rfl ((hl.dr (((Dr.refl _).step _).trans hd2)).ap hg3 ap3.symm) rfl rfl (Nat.le_trans (hb.trans (Dr.below (((Dr.refl _).step _).trans hd2) _)).size hg3.size) (by omega) (by omega) ?_; intro bl cl2 w4 hl4 hg4 hat4))
              have HQ1' : Hid ((ns ++ [(b : Int)]) ++ (playRound (pk xss t) (now.drop (q + 2))).1 = R1) := by
                have := HQ1.out
                simpa [Hid] using this
              have HQ2' : Hid ((ls ++ [(a : Int)]) ++ (playRound (pk xss t) (now.drop (q + 2))).2 = los ++ R2) := by
                have := HQ2.out
                simpa [Hid] using this
              have hLA : (ns ++ [(b : Int)]).length ≤ 8 := by
                have h1 := congrArg List.length HQ1'.out
                simp only [List.length_append] at h1 ⊢
                omega
              have hLB : (ls ++ [(a : Int)]).length ≤ 8 := by
                have h1 := congrArg List.length HQ2'.out
                simp only [List.length_append] at h1 ⊢
                omega
              simp only [ints_length] at hx3 hat3 hl4 hat4
              have hT := twoApps hb (((Dr.refl _).step _).trans hd2) hn hx hl ap1 ap2 ap3 hx3 hg3 hat3 hl4 hg4 hat4
              have HT := Lib.hid hT
              clear hT
              go_roundw
              case rel => exact ⟨q + 2, _, _, by omega, by go_num, HQ1', HQ2', hLA, hLB, HT.out.1, by rw [ints_append]; exact HT.out.2.1, by rw [ints_append]; exact HT.out.2.2.1, HT.out.2.2.2⟩
              case measure => simp [intOf]; omega
            · have hk2 : key xss t a < key xss t b := by have hne : key xss t a ≠ key xss t b := fun e => (by have := key_inj (xss := xss) (t := t) (a := a) (b := b) (by omega) (by omega) e; omega); omega
              rw [HK.out, if_pos hk2] at HQ1 HQ2
              have hkd : decide (key xss t b < key xss t a) = false := by simpa using hk
              rw [hkd] at HB
              clear hkd hk hk2 HK
              go_wp2_with (first
                | (go_at_call 51; refine (HB.out _ ((Dr.refl _).step _)).mono ?_; rintro e w2 ⟨rfl, hd2⟩)
                | (at_builtin; refine wpList_app1 rfl _ _ 27 rfl elI rfl (hx.dr (((Dr.refl _).step _).trans hd2)) rfl rfl ((hb.trans (Dr.below (((Dr.refl _).step _).trans hd2) _)).size) (by omega) (by omega) ?_; intro bn cn' w3 hx3 hg3 hat3)
                | (at_builtin; refine wpList_app1 rfl _ _ 27 rfl elI rfl ((hl.dr (((Dr.refl _).step _).trans hd2)).ap hg3 ap3.symm) rfl rfl (Nat.le_trans (hb.trans (Dr.below (((Dr.refl _).step _).trans hd2) _)).size hg3.size) (by omega) (by omega) ?_; intro bl cl2 w4 hl4 hg4 hat4))
              have HQ1' : Hid ((ns ++ [(a : Int)]) ++ (playRound (pk xss t) (now.drop (q + 2))).1 = R1) := by
                have := HQ1.out
                simpa [Hid] using this
              have HQ2' : Hid ((ls ++ [(b : Int)]) ++ (playRound (pk xss t) (now.drop (q + 2))).2 = los ++ R2) := by
                have := HQ2.out
                simpa [Hid] using this
              have hLA : (ns ++ [(a : Int)]).length ≤ 8 := by
                have h1 := congrArg List.length HQ1'.out
                simp only [List.length_append] at h1 ⊢
                omega
              have hLB : (ls ++ [(b : Int)]).length ≤ 8 := by
                have h1 := congrArg List.length HQ2'.out
                simp only [List.length_append] at h1 ⊢
                omega
              simp only [ints_length] at hx3 hat3 hl4 hat4
              have hT := twoApps hb (((Dr.refl _).step _).trans hd2) hn hx hl ap1 ap2 ap3 hx3 hg3 hat3 hl4 hg4 hat4
              have HT := Lib.hid hT
              clear hT
              go_roundw
              case rel => exact ⟨q + 2, _, _, by omega, by go_num, HQ1', HQ2', hLA, hLB, HT.out.1, by rw [ints_append]; exact HT.out.2.1, by rw [ints_append]; exact HT.out.2.2.1, HT.out.2.2.2⟩
              case measure => simp [intOf]; omega
          · have hq1' : q + 1 = now.length := by omega
            have HD := Lib.hid (drop_last hX.out hq1')
            have hq2 : ((q : Int) + 1 == (now.length : Int)) = true := by simp; omega
            clear hq1'
            have hL1 := ints_length ns
            go_wp2_with (at_builtin; refine wpList_app1 rfl _ _ 27 rfl elI rfl hx rfl rfl hb.size (by omega) (by omega) ?_; intro bn cn' w3 hx3 hg3 hat3)
            simp only [ints_length] at hx3 hat3
            have HQ1' : Hid ((ns ++ [x]) ++ (playRound (pk xss t) (now.drop (q + 2))).1 = R1) := by
              rw [← HQ1.out, HD.out, List.drop_eq_nil_of_le (by omega)]
              simp [playRound, Hid]
            have HQ2' : Hid (ls ++ (playRound (pk xss t) (now.drop (q + 2))).2 = los ++ R2) := by
              rw [← HQ2.out, HD.out, List.drop_eq_nil_of_le (by omega)]
              simp [playRound, Hid]
            have HL2 : (ns ++ [x]).length ≤ 8 := by
              have h1 := congrArg List.length HQ1'.out
              simp only [List.length_append] at h1 ⊢
              omega
            go_roundw
            case rel => exact ⟨q + 2, ns ++ [x], ls, by omega, by go_num, HQ1', HQ2', HL2, hll, hn.ap hg3 ap2, hl.ap hg3 ap3.symm, by rw [ints_append]; exact hx3, ap1, ap2.right hn hat3, ap3.left hl hat3, hb.grown hg3 hb.size fun r hr => (hx.lt r hr).1⟩
            case measure => simp [intOf]; omega
        · have HQ1' : Hid (ns = R1) := by
            have := HQ1.out
            rw [List.drop_eq_nil_of_le (by omega)] at this
            simpa [playRound, Hid] using this
          have HQ2' : Hid (ls = los ++ R2) := by
            have := HQ2.out
            rw [List.drop_eq_nil_of_le (by omega)] at this
            simpa [playRound, Hid] using this
          go_wp2
          have hL1 := congrArg List.length HQ1'.out
          have hL2 := congrArg List.length HQ2'.out
          rw [List.length_append] at hL2
          go_roundw
          case rel => exact ⟨f', ns, ls, by rw [HQ1'.out, ← HR1.out]; exact HW.out.round _, by omega, by omega, by omega, by
            show _ = _
            rw [HQ1'.out, HQ2'.out, ← HP.out, HFF.out, HR1.out, HR2.out], hx, hl, ap3, hb⟩
          case measure => simp; omega
    · have HE : Hid (los = (playOf xss t).2) := by
        have h2 := HP.out
        rw [play_done _ _ _ _ (by omega)] at h2
        rw [← h2]
        rfl
      go_wp2
      go_ret
      exact ⟨_, rfl, by rw [HR.out, ← HE.out]; exact hl, hb⟩

set_option maxRecDepth 100000 in
set_option maxHeartbeats 4000000 in
theorem law_LosersOf (w : World) (vxlists : Value) (xlists : List (List Int)) (hxlists : Rd2 w vxlists xlists) (fxlists : I64ss xlists) (vxtaken : Value) (xtaken : List Int) (hxtaken : Rd w vxtaken (ints xtaken)) (fxtaken : I64s xtaken) : Calls Try.prog 8 #[vxlists, vxtaken] w (Law w) := by
  obtain ⟨axlists, cxlists, rfl, _, hcxlists⟩ := hxlists.form
  obtain ⟨axtaken, cxtaken, rfl, _, hcxtaken⟩ := hxtaken.formi
  by_cases lxtaken : xtaken.length ≤ 1048576
  case neg =>
    have hd : decide ((xtaken.length : Int) > 1048576) = true := by simp; omega
    go_enter Try.func8, Try.ntmps8
    go_wp2_with fail
    go_ret
    exact ⟨rfl, Below.refl _ _⟩
  have dxtaken : decide ((xtaken.length : Int) > 1048576) = false := by simp; omega
  have hs1 := szSS_le xlists 1048576
  obtain ⟨L1, hL1⟩ : ∃ z, szSS xlists 1048576 = z := ⟨_, rfl⟩
  rw [hL1] at hs1
  have HL1 := Lib.hid hL1
  clear hL1
  by_cases pxlists : L1 < 0
  case pos =>
    go_enter Try.func8, Try.ntmps8
    go_wp2_with fail
    refine (szIntSS_c _ xlists 1048576 _ hxlists (by omega) (by omega)).mono ?_
    rintro e w' ⟨rfl, rfl⟩
    rw [HL1.out]
    go_wp2_with fail
    go_ret
    exact ⟨rfl, Below.refl _ _⟩
  have lxlists : SzOk xlists := szSS_ok (left := 1048576) (by have := HL1.out; omega) (by omega)
  have txlists := lxlists.2
  obtain ⟨r0, Br0, HS, HI⟩ : ∃ (r0 : List Int), r0.length ≤ 2000000 ∧
      (∀ (W : World) (Vxlists : Value) (Hxlists : Rd2 W Vxlists xlists) (Vxtaken : Value) (Hxtaken : Rd W Vxtaken (ints xtaken)), Calls Try.prog 29 #[Vxlists, Vxtaken] W (RetOwn 3 (ints r0) W)) ∧
      (∀ (W : World) (Vxlists : Value) (Hxlists : Rd2 W Vxlists xlists) (Vxtaken : Value) (Hxtaken : Rd W Vxtaken (ints xtaken)), Calls Try.prog 30 #[Vxlists, Vxtaken] W (RetOwn 3 (ints r0) W)) :=
    ⟨_, N_LosersOf xlists lxlists xtaken lxtaken, fun W Vxlists Hxlists Vxtaken Hxtaken => S_LosersOf W Vxlists xlists Hxlists fxlists lxlists Vxtaken xtaken Hxtaken fxtaken lxtaken, fun W Vxlists Hxlists Vxtaken Hxtaken => I_LosersOf W Vxlists xlists Hxlists fxlists lxlists Vxtaken xtaken Hxtaken fxtaken lxtaken⟩
  have GS := Lib.hid HS
  have GI := Lib.hid HI
  clear HS HI
  go_enter Try.func8, Try.ntmps8
  go_wp2_with fail
  refine (szIntSS_c _ xlists 1048576 _ hxlists (by omega) (by omega)).mono ?_
  rintro e w' ⟨rfl, rfl⟩
  rw [HL1.out]
  have bt : Below w.heap.size w w := Below.refl _ _
  go_wp2_with fail
  refine (toIntSS_c _ xlists _ (hxlists.below bt) lxlists).mono ?_
  rintro e w1 ⟨vy1, rfl, oy1, b1⟩
  replace bt := bt.trans (b1.mono bt.size)
  have z1 := b1.size
  go_wp2_with fail
  refine (toIntS_c _ xtaken _ (hxtaken.below bt) (by omega)).mono ?_
  rintro e w2 ⟨vy2, rfl, oy2, b2⟩
  have ty2 : ∀ k, vy2.ownBlock = some k → k < w2.heap.size := fun k e => (oy2.lt k e).2
  replace oy1 := oy1.below b2
  replace bt := bt.trans (b2.mono bt.size)
  have z2 := b2.size
  go_wp2_with fail
  refine ((GS.out _ _ oy1.rd _ oy2.rd)).mono ?_
  rintro e w3 ⟨vg3, rfl, og3, b3⟩
  have tg3 : ∀ k, vg3.ownBlock = some k → k < w3.heap.size := fun k e => (og3.lt k e).2
  replace oy1 := oy1.below b3
  replace oy2 := oy2.below b3
  replace bt := bt.trans (b3.mono bt.size)
  have z3 := b3.size
  go_wp2_with fail
  refine (toIntSS_c _ xlists _ (hxlists.below bt) lxlists).mono ?_
  rintro e w4 ⟨vy4, rfl, oy4, b4⟩
  replace oy1 := oy1.below b4
  replace oy2 := oy2.below b4
  replace og3 := og3.below b4
  replace bt := bt.trans (b4.mono bt.size)
  have z4 := b4.size
  go_wp2_with fail
  refine (toIntS_c _ xtaken _ (hxtaken.below bt) (by omega)).mono ?_
  rintro e w5 ⟨vy5, rfl, oy5, b5⟩
  have ty5 : ∀ k, vy5.ownBlock = some k → k < w5.heap.size := fun k e => (oy5.lt k e).2
  replace oy1 := oy1.below b5
  replace oy2 := oy2.below b5
  replace og3 := og3.below b5
  replace oy4 := oy4.below b5
  replace bt := bt.trans (b5.mono bt.size)
  have z5 := b5.size
  go_wp2_with fail
  refine ((GI.out _ _ oy4.rd _ oy5.rd)).mono ?_
  rintro e w6 ⟨vg6, rfl, og6, b6⟩
  have tg6 : ∀ k, vg6.ownBlock = some k → k < w6.heap.size := fun k e => (og6.lt k e).2
  replace oy1 := oy1.below b6
  replace oy2 := oy2.below b6
  replace og3 := og3.below b6
  replace oy4 := oy4.below b6
  replace oy5 := oy5.below b6
  replace bt := bt.trans (b6.mono bt.size)
  have z6 := b6.size
  go_wp2_with fail
  refine (eqIntS_c _ _ r0 r0 _ og6.rd og3.rd).mono ?_
  rintro e w7 ⟨rfl, d7⟩
  have b7 := d7.below w6.heap.size
  rw [eqI_self]
  replace oy1 := oy1.below b7
  replace oy2 := oy2.below b7
  replace og3 := og3.below b7
  replace oy4 := oy4.below b7
  replace oy5 := oy5.below b7
  replace og6 := og6.below b7
  replace bt := bt.trans (b7.mono bt.size)
  have z7 := b7.size
  go_wp2_with fail
  refine (toIntSS_c _ xlists _ (hxlists.below bt) lxlists).mono ?_
  rintro e w8 ⟨vy7, rfl, oy7, b8⟩
  replace oy1 := oy1.below b8
  replace oy2 := oy2.below b8
  replace og3 := og3.below b8
  replace oy4 := oy4.below b8
  replace oy5 := oy5.below b8
  replace og6 := og6.below b8
  replace bt := bt.trans (b8.mono bt.size)
  have z8 := b8.size
  go_wp2_with fail
  refine (eqIntSS_c _ _ xlists xlists _ oy4.rd oy7.rd).mono ?_
  rintro e w9 ⟨rfl, d9⟩
  have b9 := d9.below w8.heap.size
  rw [eqII_self]
  replace oy1 := oy1.below b9
  replace oy2 := oy2.below b9
  replace og3 := og3.below b9
  replace oy4 := oy4.below b9
  replace oy5 := oy5.below b9
  replace og6 := og6.below b9
  replace oy7 := oy7.below b9
  replace bt := bt.trans (b9.mono bt.size)
  have z9 := b9.size
  go_wp2_with fail
  refine (toIntS_c _ xtaken _ (hxtaken.below bt) (by omega)).mono ?_
  rintro e w10 ⟨vy8, rfl, oy8, b10⟩
  have ty8 : ∀ k, vy8.ownBlock = some k → k < w10.heap.size := fun k e => (oy8.lt k e).2
  replace oy1 := oy1.below b10
  replace oy2 := oy2.below b10
  replace og3 := og3.below b10
  replace oy4 := oy4.below b10
  replace oy5 := oy5.below b10
  replace og6 := og6.below b10
  replace oy7 := oy7.below b10
  replace bt := bt.trans (b10.mono bt.size)
  have z10 := b10.size
  go_wp2_with fail
  refine (eqIntS_c _ _ xtaken xtaken _ oy5.rd oy8.rd).mono ?_
  rintro e w11 ⟨rfl, d11⟩
  have b11 := d11.below w10.heap.size
  rw [eqI_self]
  replace oy1 := oy1.below b11
  replace oy2 := oy2.below b11
  replace og3 := og3.below b11
  replace oy4 := oy4.below b11
  replace oy5 := oy5.below b11
  replace og6 := og6.below b11
  replace oy7 := oy7.below b11
  replace oy8 := oy8.below b11
  replace bt := bt.trans (b11.mono bt.size)
  have z11 := b11.size
  go_wp2_with fail
  refine (markIntSS_c _ xlists (1) _ _ _ oy4 (by assumption) (by omega) (by omega)).mono ?_
  rintro e w12 ⟨rfl, my4, ch12⟩
  replace oy1 := oy1.chg ch12 (by omega)
  replace oy2 := oy2.chg ch12 (fun k e => by have h1 := (oy2.lt k e).1; have h2 := ty2 k e; omega)
  replace og3 := og3.chg ch12 (fun k e => by have h1 := (og3.lt k e).1; have h2 := tg3 k e; omega)
  replace oy5 := oy5.chg ch12 (fun k e => by have h1 := (oy5.lt k e).1; have h2 := ty5 k e; omega)
  replace og6 := og6.chg ch12 (fun k e => by have h1 := (og6.lt k e).1; have h2 := tg6 k e; omega)
  replace oy7 := oy7.chg ch12 (by omega)
  replace oy8 := oy8.chg ch12 (fun k e => by have h1 := (oy8.lt k e).1; have h2 := ty8 k e; omega)
  replace bt := below_chg bt ch12 (by omega) (Nat.le_refl _)
  have z12 := ch12.size
  go_wp2_with fail
  refine (markIntS_c _ xtaken (1 + (tot xlists : Int)) _ _ oy5 (by omega) (by omega) (by omega)).mono ?_
  rintro e w13 ⟨rfl, my5, gr13⟩
  have ch13 : Chg w4.heap.size w5.heap.size w12 w13 := Chg.row gr13 (fun k e => ⟨(oy5.lt k e).1, ty5 k e⟩)
  replace oy1 := oy1.chg ch13 (by omega)
  replace oy2 := oy2.chg ch13 (fun k e => by have h1 := (oy2.lt k e).1; have h2 := ty2 k e; omega)
  replace og3 := og3.chg ch13 (fun k e => by have h1 := (og3.lt k e).1; have h2 := tg3 k e; omega)
  replace my4 := my4.chg ch13 (by omega)
  replace og6 := og6.chg ch13 (fun k e => by have h1 := (og6.lt k e).1; have h2 := tg6 k e; omega)
  replace oy7 := oy7.chg ch13 (by omega)
  replace oy8 := oy8.chg ch13 (fun k e => by have h1 := (oy8.lt k e).1; have h2 := ty8 k e; omega)
  replace bt := below_chg bt ch13 (by omega) (Nat.le_refl _)
  have z13 := ch13.size
  go_wp2_with fail
  refine (eqIntS_c _ _ r0 r0 _ og6.rd og3.rd).mono ?_
  rintro e w14 ⟨rfl, d14⟩
  have b14 := d14.below w13.heap.size
  rw [eqI_self]
  replace oy1 := oy1.below b14
  replace oy2 := oy2.below b14
  replace og3 := og3.below b14
  replace my4 := my4.below b14
  replace my5 := my5.below b14
  replace og6 := og6.below b14
  replace oy7 := oy7.below b14
  replace oy8 := oy8.below b14
  replace bt := bt.trans (b14.mono bt.size)
  have z14 := b14.size
  go_wp2_with fail
  refine (markIntS_c _ r0 (1) _ _ og6 (by omega) (by omega) (by omega)).mono ?_
  rintro e w15 ⟨rfl, mg6, gr15⟩
  have ch15 : Chg w5.heap.size w6.heap.size w14 w15 := Chg.row gr15 (fun k e => ⟨(og6.lt k e).1, tg6 k e⟩)
  replace oy1 := oy1.chg ch15 (by omega)
  replace oy2 := oy2.chg ch15 (fun k e => by have h1 := (oy2.lt k e).1; have h2 := ty2 k e; omega)
  replace og3 := og3.chg ch15 (fun k e => by have h1 := (og3.lt k e).1; have h2 := tg3 k e; omega)
  replace my4 := my4.chg ch15 (by omega)
  replace my5 := my5.chg ch15 (fun k e => by have h1 := (my5.lt k e).1; have h2 := ty5 k e; omega)
  replace oy7 := oy7.chg ch15 (by omega)
  replace oy8 := oy8.chg ch15 (fun k e => by have h1 := (oy8.lt k e).1; have h2 := ty8 k e; omega)
  replace bt := below_chg bt ch15 (by omega) (Nat.le_refl _)
  have z15 := ch15.size
  go_wp2_with fail
  refine (heldIntS_c _ r0.length (1) _ mg6.rd (by omega) (by omega) (by omega)).mono ?_
  rintro e w' ⟨rfl, rfl⟩
  go_wp2_with fail
  refine (toIntSS_c _ xlists _ (hxlists.below bt) lxlists).mono ?_
  rintro e w16 ⟨vy9, rfl, oy9, b16⟩
  replace oy1 := oy1.below b16
  replace oy2 := oy2.below b16
  replace og3 := og3.below b16
  replace my4 := my4.below b16
  replace my5 := my5.below b16
  replace mg6 := mg6.below b16
  replace oy7 := oy7.below b16
  replace oy8 := oy8.below b16
  replace bt := bt.trans (b16.mono bt.size)
  have z16 := b16.size
  go_wp2_with fail
  refine (toIntS_c _ xtaken _ (hxtaken.below bt) (by omega)).mono ?_
  rintro e w17 ⟨vy10, rfl, oy10, b17⟩
  replace oy1 := oy1.below b17
  replace oy2 := oy2.below b17
  replace og3 := og3.below b17
  replace my4 := my4.below b17
  replace my5 := my5.below b17
  replace mg6 := mg6.below b17
  replace oy7 := oy7.below b17
  replace oy8 := oy8.below b17
  replace oy9 := oy9.below b17
  replace bt := bt.trans (b17.mono bt.size)
  have z17 := b17.size
  go_wp2_with fail
  refine ((GI.out _ _ oy9.rd _ oy10.rd)).mono ?_
  rintro e w18 ⟨vg11, rfl, og11, b18⟩
  replace oy1 := oy1.below b18
  replace oy2 := oy2.below b18
  replace og3 := og3.below b18
  replace my4 := my4.below b18
  replace my5 := my5.below b18
  replace mg6 := mg6.below b18
  replace oy7 := oy7.below b18
  replace oy8 := oy8.below b18
  replace oy9 := oy9.below b18
  replace oy10 := oy10.below b18
  replace bt := bt.trans (b18.mono bt.size)
  have z18 := b18.size
  go_wp2_with fail
  refine (eqIntS_c _ _ r0 r0 _ og11.rd og3.rd).mono ?_
  rintro e w19 ⟨rfl, d19⟩
  have b19 := d19.below w18.heap.size
  rw [eqI_self]
  replace oy1 := oy1.below b19
  replace oy2 := oy2.below b19
  replace og3 := og3.below b19
  replace my4 := my4.below b19
  replace my5 := my5.below b19
  replace mg6 := mg6.below b19
  replace oy7 := oy7.below b19
  replace oy8 := oy8.below b19
  replace oy9 := oy9.below b19
  replace oy10 := oy10.below b19
  replace og11 := og11.below b19
  replace bt := bt.trans (b19.mono bt.size)
  have z19 := b19.size
  go_wp2_with fail
  refine (heldIntS_c _ r0.length (1) _ mg6.rd (by omega) (by omega) (by omega)).mono ?_
  rintro e w' ⟨rfl, rfl⟩
  go_wp2_with fail
  go_ret
  exact ⟨rfl, bt⟩


end Go.Proofs.Ytkidbnlebeaikaa
