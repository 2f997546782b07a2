/- Walks: from which lists the numbers come. -/
import Derived.Test.YtkidbnlebeaikaaMerge
namespace Go.Proofs.Ytkidbnlebeaikaa
open Go.RowKit
set_option linter.unusedVariables false
set_option linter.unusedSimpArgs false

def fromOk (xss : List (List Int)) : List Int := if listsOk xss then allFrom xss else []
theorem N_TakenFrom (xss : List (List Int)) (_ : SzOk xss) : (fromOk xss).length ≤ 2000000 := by
  unfold fromOk
  split
  · have := seq_len (xss := xss) 80 (zeros xss.length)
    show (seqFrom _ _ _).length ≤ _
    omega
  · simp
theorem listsOk_rest {xss : List (List Int)} (h : listsOk xss = true) : rest xss (zeros xss.length) ≤ 80 := by
  obtain ⟨⟨_, h8⟩, h2⟩ := listsOk_iff.1 h
  have := rest_le xss (zeros xss.length) fun xs hx => (h2 xs hx).1
  omega

theorem I_TakenFrom (w : World) (v : Value) (xss : List (List Int)) (h : Rd2 w v xss) (hf : I64ss xss) (_ : SzOk xss) : Calls Try.prog 23 #[v] w (RetOwn 3 (ints (fromOk xss)) w) := by
  have HL := i_ListsOk v xss w h
  cases hk : listsOk xss
  · rw [hk] at HL
    have HR : Hid (fromOk xss = []) := by simp [fromOk, hk, Hid]
    go_enter Try.func23, Try.ntmps23
    go_wp2_with (go_at_call 14; refine HL.mono ?_; rintro e w2 ⟨rfl, hd2⟩)
    go_ret
    exact ⟨_, rfl, by rw [HR.out]; exact Own.nil _ _ _, hd2.below _⟩
  · rw [hk] at HL
    obtain ⟨h1, h8⟩ := listsOk_len hk
    have HR : Hid (fromOk xss = allFrom xss) := by simp [fromOk, hk, Hid]
    have HM := Lib.hid (fun (wq : World) (hq : Dr w wq) => i_mergeAll v xss wq (h.dr hq) hf (listsOk_rest hk) h1 h8)
    clear hk
    go_enter Try.func23, Try.ntmps23
    go_wp2_with (first | (go_at_call 14; refine HL.mono ?_; rintro e w2 ⟨rfl, hd2⟩) | (go_at_call 49; refine (HM.out _ hd2).mono ?_; rintro e w3 ⟨va, vb, rfl, ha3, hb3, bb3⟩))
    have hz := hd2.size
    go_ret
    exact ⟨_, rfl, by rw [HR.out, ← hz]; exact hb3, (hd2.below _).trans (bb3.mono (by omega))⟩

set_option maxHeartbeats 2000000 in
theorem S_TakenFrom (w : World) (v : Value) (xss : List (List Int)) (h : Rd2 w v xss) (hf : I64ss xss) (_ : SzOk xss) : Calls Try.prog 22 #[v] w (RetOwn 3 (ints (fromOk xss)) w) := by
  have HL := s_ListsOk v xss w h
  cases hk : listsOk xss
  · rw [hk] at HL
    have HR : Hid (fromOk xss = []) := by simp [fromOk, hk, Hid]
    go_enter Try.func22, Try.ntmps22
    go_wp2_with (go_at_call 12; refine HL.mono ?_; rintro e w2 ⟨rfl, hd2⟩)
    go_ret
    exact ⟨_, rfl, by rw [HR.out]; exact Own.nil _ _ _, hd2.below _⟩
  rw [hk] at HL
  obtain ⟨h1, h8⟩ := listsOk_len hk
  have hr := listsOk_rest hk
  have HR : Hid (fromOk xss = allFrom xss) := by simp [fromOk, hk, Hid]
  clear hk
  obtain ⟨a0, c0, rfl, _, _⟩ := h.form
  go_enter Try.func22, Try.ntmps22
  go_wp2_with (first
    | (go_at_call 12; refine HL.mono ?_; rintro e w2 ⟨rfl, hd2⟩)
    | (at_make; refine wpList_mk (B := w2.heap.size + 1) rfl _ _ 27 rfl elI rfl rfl (by simp) (by omega) (by omega) ?_; intro b w1 hb1 hown1 hg1))
  have hz := hd2.size
  have hbn : b.block = w2.heap.size + 1 := by simpa using hb1
  have hbA : Below w.heap.size w w1 := ((hd2.below w.heap.size).alloc (by omega) _).grown hg1 (by simp; omega) (fun _ h => by cases h)
  have hoA : Own w1 3 w.heap.size (.slice (some ⟨w2.heap.size, 0, none⟩) 0 0) (ints []) := (Own.lit0 w2 _ (by omega)).grown hg1 (.inl (by simp [Value.ownBlock]))
  have htA : Own w1 3 w.heap.size (.slice (some b) xss.length xss.length) (ints (zeros xss.length)) := by
    simpa [ints, zeros] using hown1.mono (by omega)
  have apA : Ap (.slice (some ⟨w2.heap.size, 0, none⟩) 0 0) (.slice (some b) xss.length xss.length) := by intro g h2 h3; simp [Value.ownBlock] at h2 h3; omega
  clear hown1 hg1 hb1 hbn hz
  go_loopw [3] (fun vo wr => ∃ (f : Nat) (t os : List Int), Hid (TK xss t) ∧ Hid (rest xss t ≤ f) ∧ os.length + f ≤ 80 ∧ Hid (os ++ seqFrom xss f t = allFrom xss) ∧
      Own wr 3 w.heap.size vo (ints os) ∧ Own wr 3 w.heap.size (.slice (some b) xss.length xss.length) (ints t) ∧ Ap vo (.slice (some b) xss.length xss.length) ∧ Below w.heap.size w wr)
    (fun vo _ => match vo with | .slice _ n _ => 100 - n | _ => 0)
  case atStart => exact ⟨80, zeros xss.length, [], TK.zeros xss, hr, by simp, rfl, hoA, htA, apA, hbA⟩
  case round =>
    obtain ⟨f, t, os, HT, HRr, hof, HQ1, ho, ht, ap2, hb⟩ := hrel
    obtain ⟨ao, co, rfl, _, hco⟩ := ho.rd.formi
    have hl := Lib.hid HT.out.1
    have hW := Lib.hid (winOf_min (xss := xss) (t := t) h1)
    have HP := Lib.hid (s_l28Play _ xss _ t wr (h.below hb) ht.rd HT.out hf h1 h8)
    obtain ⟨a, hae⟩ : ∃ a, winOf xss t = a := ⟨_, rfl⟩
    have ha : a < xss.length := by have := hW.out.2.1; omega
    rw [hae] at HP
    have HA := Lib.hid hae
    clear hae
    go_wp2_with (go_at_call 47; refine HP.out.mono ?_; rintro e w3 ⟨vl, rfl, hl3, hb3⟩)
    have ho3 := ho.below hb3
    have ht3 := ht.below hb3
    have hb3' := hb.trans (hb3.mono hb.size)
    obtain ⟨ad, na, had, hca, hna⟩ := ht3.rd.int (show a < t.length by have := hl.out; omega)
    obtain rfl : b = ad := by injection had
    clear had
    obtain ⟨q, bx, mx, dx, xs, rfl, hqa, hxa, hmx, hmdx, hdx, hrx⟩ := (h.below hb3').row ha
    obtain ⟨n, rfl, hkn⟩ := HT.out.at hna.out hxa.out
    obtain rfl : mx = xs.length := hmx.out
    have i2 : (a : Int) < (xss.length : Int) := by omega
    have hLo := ints_length os
    by_cases hlt : n < xs.length
    · have d1 : ((n : Int) == (xs.length : Int)) = false := by simp; omega
      go_quiet (fail)
      go_wp2_with (at_builtin; refine wpList_app1 rfl _ _ 27 rfl elI rfl (ho3.dr ((Dr.refl _).step _)) rfl rfl hb3'.size (by omega) (by omega) ?_; intro bn cn' w6 ho6 hg6 hat6; have ht6 := (ht3.dr ((Dr.refl _).step _)).ap hg6 ap2.symm; have hca6 := ht6.rd.cell_int hna.out; have hfz := ht6.frozen rfl a)
      simp only [ints_length] at ho6 hat6
      have a13 := ap2.left (ht3.dr ((Dr.refl _).step _)) hat6
      have hb6 := (hb3'.trans (Dr.below ((Dr.refl _).step _) _)).grown hg6 hb3'.size (fun r hr => (ho3.lt r hr).1)
      have hla : a < t.length := by have := hl.out; omega
      have ht7 := (ht6.seti rfl hla ((n : Int) + 1)).1
      rw [← bump_eq hna.out] at ht7
      have hb7 := ht6.below_set rfl hla (.int .i64 ((n : Int) + 1)) hb6 (Nat.le_refl _)
      have ho7 := ho6.setCell (p := b.add a) (by rw [block_of_add]; exact a13.symm _ rfl) (.int .i64 ((n : Int) + 1))
      obtain ⟨f', hff, hr', hseq⟩ := seq_step (xss := xss) (t := t) (f := f) (by rw [HA.out]; exact hxa.out) (by rw [HA.out]; exact hna.out) hlt HRr.out
      rw [HA.out] at hr' hseq
      go_roundw
      case rel => exact ⟨f', bump t a, os ++ [(a : Int)], HT.out.bump hxa.out hna.out hlt, hr', by simp; omega, by
        show _ = _
        rw [← HQ1.out, hseq]
        simp, by rw [ints_append]; exact ho7, ht7, a13, hb7⟩
      case measure => simp; omega
    · have d1 : ((n : Int) == (xs.length : Int)) = true := by simp; omega
      have HQ3 := Lib.hid (seq_done (xss := xss) (t := t) f (by rw [HA.out]; exact exh_yes hxa.out hna.out (by omega)))
      go_quiet (fail)
      go_wp2
      go_ret
      exact ⟨_, rfl, by rw [HR.out, ← HQ1.out, HQ3.out, List.append_nil]; exact ho3, hb3'.trans (Dr.below ((Dr.refl _).step _) _)⟩

set_option maxRecDepth 100000 in
set_option maxHeartbeats 4000000 in
theorem law_TakenFrom (w : World) (vxlists : Value) (xlists : List (List Int)) (hxlists : Rd2 w vxlists xlists) (fxlists : I64ss xlists) : Calls Try.prog 6 #[vxlists] w (Law w) := by
  obtain ⟨axlists, cxlists, rfl, _, hcxlists⟩ := hxlists.form
  have hs1 := szSS_le xlists 1048576
  obtain ⟨L1, hL1⟩ : ∃ z, szSS xlists 1048576 = z := ⟨_, rfl⟩
  rw [hL1] at hs1
  have HL1 := Lib.hid hL1
  clear hL1
  by_cases pxlists : L1 < 0
  case pos =>
    go_enter Try.func6, Try.ntmps6
    go_wp2_with fail
    refine (szIntSS_c _ xlists 1048576 _ hxlists (by omega) (by omega)).mono ?_
    rintro e w' ⟨rfl, rfl⟩
    rw [HL1.out]
    go_wp2_with fail
    go_ret
    exact ⟨rfl, Below.refl _ _⟩
  have lxlists : SzOk xlists := szSS_ok (left := 1048576) (by have := HL1.out; omega) (by omega)
  have txlists := lxlists.2
  obtain ⟨r0, Br0, HS, HI⟩ : ∃ (r0 : List Int), r0.length ≤ 2000000 ∧
      (∀ (W : World) (Vxlists : Value) (Hxlists : Rd2 W Vxlists xlists), Calls Try.prog 22 #[Vxlists] W (RetOwn 3 (ints r0) W)) ∧
      (∀ (W : World) (Vxlists : Value) (Hxlists : Rd2 W Vxlists xlists), Calls Try.prog 23 #[Vxlists] W (RetOwn 3 (ints r0) W)) :=
    ⟨_, N_TakenFrom xlists lxlists, fun W Vxlists Hxlists => S_TakenFrom W Vxlists xlists Hxlists fxlists lxlists, fun W Vxlists Hxlists => I_TakenFrom W Vxlists xlists Hxlists fxlists lxlists⟩
  have GS := Lib.hid HS
  have GI := Lib.hid HI
  clear HS HI
  go_enter Try.func6, Try.ntmps6
  go_wp2_with fail
  refine (szIntSS_c _ xlists 1048576 _ hxlists (by omega) (by omega)).mono ?_
  rintro e w' ⟨rfl, rfl⟩
  rw [HL1.out]
  have bt : Below w.heap.size w w := Below.refl _ _
  go_wp2_with fail
  refine (toIntSS_c _ xlists _ (hxlists.below bt) lxlists).mono ?_
  rintro e w1 ⟨vy1, rfl, oy1, b1⟩
  replace bt := bt.trans (b1.mono bt.size)
  have z1 := b1.size
  go_wp2_with fail
  refine ((GS.out _ _ oy1.rd)).mono ?_
  rintro e w2 ⟨vg2, rfl, og2, b2⟩
  have tg2 : ∀ k, vg2.ownBlock = some k → k < w2.heap.size := fun k e => (og2.lt k e).2
  replace oy1 := oy1.below b2
  replace bt := bt.trans (b2.mono bt.size)
  have z2 := b2.size
  go_wp2_with fail
  refine (toIntSS_c _ xlists _ (hxlists.below bt) lxlists).mono ?_
  rintro e w3 ⟨vy3, rfl, oy3, b3⟩
  replace oy1 := oy1.below b3
  replace og2 := og2.below b3
  replace bt := bt.trans (b3.mono bt.size)
  have z3 := b3.size
  go_wp2_with fail
  refine ((GI.out _ _ oy3.rd)).mono ?_
  rintro e w4 ⟨vg4, rfl, og4, b4⟩
  have tg4 : ∀ k, vg4.ownBlock = some k → k < w4.heap.size := fun k e => (og4.lt k e).2
  replace oy1 := oy1.below b4
  replace og2 := og2.below b4
  replace oy3 := oy3.below b4
  replace bt := bt.trans (b4.mono bt.size)
  have z4 := b4.size
  go_wp2_with fail
  refine (eqIntS_c _ _ r0 r0 _ og4.rd og2.rd).mono ?_
  rintro e w5 ⟨rfl, d5⟩
  have b5 := d5.below w4.heap.size
  rw [eqI_self]
  replace oy1 := oy1.below b5
  replace og2 := og2.below b5
  replace oy3 := oy3.below b5
  replace og4 := og4.below b5
  replace bt := bt.trans (b5.mono bt.size)
  have z5 := b5.size
  go_wp2_with fail
  refine (toIntSS_c _ xlists _ (hxlists.below bt) lxlists).mono ?_
  rintro e w6 ⟨vy5, rfl, oy5, b6⟩
  replace oy1 := oy1.below b6
  replace og2 := og2.below b6
  replace oy3 := oy3.below b6
  replace og4 := og4.below b6
  replace bt := bt.trans (b6.mono bt.size)
  have z6 := b6.size
  go_wp2_with fail
  refine (eqIntSS_c _ _ xlists xlists _ oy3.rd oy5.rd).mono ?_
  rintro e w7 ⟨rfl, d7⟩
  have b7 := d7.below w6.heap.size
  rw [eqII_self]
  replace oy1 := oy1.below b7
  replace og2 := og2.below b7
  replace oy3 := oy3.below b7
  replace og4 := og4.below b7
  replace oy5 := oy5.below b7
  replace bt := bt.trans (b7.mono bt.size)
  have z7 := b7.size
  go_wp2_with fail
  refine (markIntSS_c _ xlists (1) _ _ _ oy3 (by assumption) (by omega) (by omega)).mono ?_
  rintro e w8 ⟨rfl, my3, ch8⟩
  replace oy1 := oy1.chg ch8 (by omega)
  replace og2 := og2.chg ch8 (fun k e => by have h1 := (og2.lt k e).1; have h2 := tg2 k e; omega)
  replace og4 := og4.chg ch8 (fun k e => by have h1 := (og4.lt k e).1; have h2 := tg4 k e; omega)
  replace oy5 := oy5.chg ch8 (by omega)
  replace bt := below_chg bt ch8 (by omega) (Nat.le_refl _)
  have z8 := ch8.size
  go_wp2_with fail
  refine (eqIntS_c _ _ r0 r0 _ og4.rd og2.rd).mono ?_
  rintro e w9 ⟨rfl, d9⟩
  have b9 := d9.below w8.heap.size
  rw [eqI_self]
  replace oy1 := oy1.below b9
  replace og2 := og2.below b9
  replace my3 := my3.below b9
  replace og4 := og4.below b9
  replace oy5 := oy5.below b9
  replace bt := bt.trans (b9.mono bt.size)
  have z9 := b9.size
  go_wp2_with fail
  refine (markIntS_c _ r0 (1) _ _ og4 (by omega) (by omega) (by omega)).mono ?_
  rintro e w10 ⟨rfl, mg4, gr10⟩
  have ch10 : Chg w3.heap.size w4.heap.size w9 w10 := Chg.row gr10 (fun k e => ⟨(og4.lt k e).1, tg4 k e⟩)
  replace oy1 := oy1.chg ch10 (by omega)
  replace og2 := og2.chg ch10 (fun k e => by have h1 := (og2.lt k e).1; have h2 := tg2 k e; omega)
  replace my3 := my3.chg ch10 (by omega)
  replace oy5 := oy5.chg ch10 (by omega)
  replace bt := below_chg bt ch10 (by omega) (Nat.le_refl _)
  have z10 := ch10.size
  go_wp2_with fail
  refine (heldIntS_c _ r0.length (1) _ mg4.rd (by omega) (by omega) (by omega)).mono ?_
  rintro e w' ⟨rfl, rfl⟩
  go_wp2_with fail
  refine (toIntSS_c _ xlists _ (hxlists.below bt) lxlists).mono ?_
  rintro e w11 ⟨vy6, rfl, oy6, b11⟩
  replace oy1 := oy1.below b11
  replace og2 := og2.below b11
  replace my3 := my3.below b11
  replace mg4 := mg4.below b11
  replace oy5 := oy5.below b11
  replace bt := bt.trans (b11.mono bt.size)
  have z11 := b11.size
  go_wp2_with fail
  refine ((GI.out _ _ oy6.rd)).mono ?_
  rintro e w12 ⟨vg7, rfl, og7, b12⟩
  replace oy1 := oy1.below b12
  replace og2 := og2.below b12
  replace my3 := my3.below b12
  replace mg4 := mg4.below b12
  replace oy5 := oy5.below b12
  replace oy6 := oy6.below b12
  replace bt := bt.trans (b12.mono bt.size)
  have z12 := b12.size
  go_wp2_with fail
  refine (eqIntS_c _ _ r0 r0 _ og7.rd og2.rd).mono ?_
  rintro e w13 ⟨rfl, d13⟩
  have b13 := d13.below w12.heap.size
  rw [eqI_self]
  replace oy1 := oy1.below b13
  replace og2 := og2.below b13
  replace my3 := my3.below b13
  replace mg4 := mg4.below b13
  replace oy5 := oy5.below b13
  replace oy6 := oy6.below b13
  replace og7 := og7.below b13
  replace bt := bt.trans (b13.mono bt.size)
  have z13 := b13.size
  go_wp2_with fail
  refine (heldIntS_c _ r0.length (1) _ mg4.rd (by omega) (by omega) (by omega)).mono ?_
  rintro e w' ⟨rfl, rfl⟩
  go_wp2_with fail
  go_ret
  exact ⟨rfl, bt⟩


end Go.Proofs.Ytkidbnlebeaikaa
