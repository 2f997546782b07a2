/- Walks: all numbers in order. -/
import Derived.Test.YtkidbnlebeaikaaTaken2
namespace Go.Proofs.Ytkidbnlebeaikaa
open Go.RowKit
set_option linter.unusedVariables false
set_option linter.unusedSimpArgs false

def RetOwnB (E : Nat) (xs : List Value) (b : Bool) (w : World) (e : Ending) (w' : World) : Prop :=
  ∃ v, e = .returned (.tuple #[v, .bool b]) ∧ Own w' E w.heap.size v xs ∧ Below w.heap.size w w'
def numsOk (xss : List (List Int)) : List Int := if listsOk xss then allNums xss else []
theorem N_MergeAll (xss : List (List Int)) (_ : SzOk xss) : (numsOk xss).length ≤ 2000000 := by
  unfold numsOk
  split
  · have := seq_len (xss := xss) 80 (zeros xss.length)
    unfold allNums
    rw [nums_len]
    show (seqFrom _ _ _).length ≤ _
    omega
  · simp
theorem seq_head {xss : List (List Int)} {f : Nat} {t s : List Int} {x : Int} (h : seqFrom xss f t = x :: s) : x = (winOf xss t : Int) ∧ headOf xss t (winOf xss t) ≠ none := by
  cases f with
  | zero => simp [seqFrom] at h
  | succ f =>
    simp only [seqFrom] at h
    split at h
    · simp at h
    · injection h with h1 h2
      exact ⟨h1.symm, by assumption⟩

theorem I_MergeAll (w : World) (v : Value) (xss : List (List Int)) (h : Rd2 w v xss) (hf : I64ss xss) (_ : SzOk xss) : Calls Try.prog 28 #[v] w (RetOwnB 3 (ints (numsOk xss)) (listsOk xss) w) := by
  have HL := i_ListsOk v xss w h
  cases hk : listsOk xss
  · rw [hk] at HL
    have HR : Hid (numsOk xss = []) := by simp [numsOk, hk, Hid]
    go_enter Try.func28, Try.ntmps28
    go_wp2_with (go_at_call 14; refine HL.mono ?_; rintro e w2 ⟨rfl, hd2⟩)
    go_ret2
    exact ⟨_, rfl, by rw [HR.out]; exact Own.nil _ _ _, hd2.below _⟩
  · rw [hk] at HL
    obtain ⟨h1, h8⟩ := listsOk_len hk
    have HR : Hid (numsOk xss = allNums xss) := by simp [numsOk, hk, Hid]
    have HM := Lib.hid (fun (wq : World) (hq : Dr w wq) => i_mergeAll v xss wq (h.dr hq) hf (listsOk_rest hk) h1 h8)
    clear hk
    go_enter Try.func28, Try.ntmps28
    go_wp2_with (first | (go_at_call 14; refine HL.mono ?_; rintro e w2 ⟨rfl, hd2⟩) | (go_at_call 49; refine (HM.out _ hd2).mono ?_; rintro e w3 ⟨va, vb, rfl, ha3, hb3, bb3⟩))
    have hz := hd2.size
    go_ret2
    exact ⟨_, rfl, by rw [HR.out, ← hz]; exact ha3, (hd2.below _).trans (bb3.mono (by omega))⟩

set_option maxHeartbeats 2000000 in
theorem S_MergeAll (w : World) (v : Value) (xss : List (List Int)) (h : Rd2 w v xss) (hf : I64ss xss) (hsz : SzOk xss) : Calls Try.prog 27 #[v] w (RetOwnB 3 (ints (numsOk xss)) (listsOk xss) w) := by
  have HL := s_ListsOk v xss w h
  have HTF := Lib.hid (fun (wq : World) (hq : Below w.heap.size w wq) => S_TakenFrom wq v xss (h.below hq) hf hsz)
  cases hk : listsOk xss
  · rw [hk] at HL
    have HR : Hid (numsOk xss = []) := by simp [numsOk, hk, Hid]
    go_enter Try.func27, Try.ntmps27
    go_wp2_with (go_at_call 12; refine HL.mono ?_; rintro e w2 ⟨rfl, hd2⟩)
    go_ret2
    exact ⟨_, rfl, by rw [HR.out]; exact Own.nil _ _ _, hd2.below _⟩
  rw [hk] at HL
  obtain ⟨h1, h8⟩ := listsOk_len hk
  have hr := listsOk_rest hk
  have HR : Hid (numsOk xss = allNums xss) := by simp [numsOk, hk, Hid]
  obtain ⟨S, hS⟩ : ∃ S, fromOk xss = S := ⟨_, rfl⟩
  rw [hS] at HTF
  have HS : Hid (S = allFrom xss) := by rw [← hS]; simp [fromOk, hk, Hid]
  have hSl : S.length ≤ 80 := by rw [HS.out]; exact seq_len _ _
  clear hk hS
  obtain ⟨a0, c0, rfl, _, _⟩ := h.form
  go_enter Try.func27, Try.ntmps27
  go_wp2_with (first
    | (go_at_call 12; refine HL.mono ?_; rintro e w2 ⟨rfl, hd2⟩)
    | (at_make; refine wpList_mk (B := w2.heap.size + 1) rfl _ _ 27 rfl elI rfl rfl (by simp) (by omega) (by omega) ?_; intro b w1 hb1 hown1 hg1
       have hbA : Below w.heap.size w w1 := ((hd2.below w.heap.size).alloc (by have := hd2.size; omega) _).grown hg1 (by have := hd2.size; simp; omega) (fun _ h => by cases h))
    | (go_at_call 22; refine (HTF.out _ hbA).mono ?_; rintro e w5 ⟨vS, rfl, hS5, bS5⟩; obtain ⟨aS, cS, rfl, _, _⟩ := hS5.rd.formi))
  have hz := hd2.size
  have hbn : b.block = w2.heap.size + 1 := by simpa using hb1
  have hoA : Own w1 3 w.heap.size (.slice (some ⟨w2.heap.size, 0, none⟩) 0 0) (ints []) := (Own.lit0 w2 _ (by omega)).grown hg1 (.inl (by simp [Value.ownBlock]))
  have htA : Own w1 3 w.heap.size (.slice (some b) xss.length xss.length) (ints (zeros xss.length)) := by
    simpa [ints, zeros] using hown1.mono (by omega)
  have apA : Ap (.slice (some ⟨w2.heap.size, 0, none⟩) 0 0) (.slice (some b) xss.length xss.length) := by intro g h2 h3; simp [Value.ownBlock] at h2 h3; omega
  have apS1 : Ap (.slice (some ⟨w2.heap.size, 0, none⟩) 0 0) (.slice aS S.length cS) := fun g h2 h3 => by
    have e1 := (hoA.lt _ h2).2
    have e2 := (hS5.lt _ h3).1
    omega
  have apS2 : Ap (.slice (some b) xss.length xss.length) (.slice aS S.length cS) := fun g h2 h3 => by
    have e1 := (htA.lt _ h2).2
    have e2 := (hS5.lt _ h3).1
    omega
  have hbS : Below w.heap.size w w5 := hbA.trans (bS5.mono hbA.size)
  have hoS := hoA.below bS5
  have htS := htA.below bS5
  have hSS := hS5.mono hbA.size
  clear hown1 hg1 hb1 hbn hz hS5 hoA htA
  go_loopw [4, 18] (fun vo i wr => ∃ (k f : Nat) (t os : List Int), k ≤ S.length ∧ i = .int .i64 k ∧ Hid (TK xss t) ∧ Hid (rest xss t ≤ f) ∧ os.length ≤ k ∧ Hid (S.drop k = seqFrom xss f t) ∧ Hid (os ++ numsAlong xss t (seqFrom xss f t) = allNums xss) ∧
      Own wr 3 w.heap.size vo (ints os) ∧ Own wr 3 w.heap.size (.slice (some b) xss.length xss.length) (ints t) ∧ Own wr 3 w.heap.size (.slice aS S.length cS) (ints S) ∧ Ap vo (.slice (some b) xss.length xss.length) ∧ Ap vo (.slice aS S.length cS) ∧ Below w.heap.size w wr)
    (fun _ i _ => S.length - (intOf i).toNat)
  case atStart => exact ⟨0, 80, zeros xss.length, [], Nat.zero_le _, rfl, TK.zeros xss, hr, by simp, HS.out, rfl, hoS, htS, hSS, apA, apS1, hbS⟩
  case round =>
    obtain ⟨k, f, t, os, hk, rfl, HT, HRr, hof, HQ1, HQ2, ho, ht, hs, ap2, ap4, hb⟩ := hrel
    obtain ⟨ao, co, rfl, _, hco⟩ := ho.rd.formi
    by_cases hlt0 : k < S.length
    · obtain ⟨adS, x, rfl, hcS, hxS⟩ := hs.rd.int hlt0
      have hseq0 : seqFrom xss f t = x :: S.drop (k + 1) := by
        rw [← HQ1.out]
        obtain ⟨hh, rfl⟩ := List.getElem?_eq_some_iff.1 hxS.out
        exact List.drop_eq_getElem_cons hh
      obtain ⟨hxe, hne⟩ := seq_head hseq0
      have HSQ0 := Lib.hid hseq0
      clear hseq0
      have hl := Lib.hid HT.out.1
      have hW := Lib.hid (winOf_min (xss := xss) (t := t) h1)
      obtain ⟨a, hae⟩ : ∃ a, winOf xss t = a := ⟨_, rfl⟩
      have ha : a < xss.length := by have := hW.out.2.1; omega
      rw [hae] at hxe hne
      subst hxe
      have HA := Lib.hid hae
      have HNE := Lib.hid hne
      clear hae hne
      obtain ⟨ad, na, had, hca, hna⟩ := ht.rd.int (show a < t.length by have := hl.out; omega)
      obtain rfl : b = ad := by injection had
      clear had
      obtain ⟨q, bx, mx, dx, xs, rfl, hqa0, hxa, hmx, hmdx, hdx, hrx⟩ := h.row ha
      obtain ⟨n, rfl, hkn⟩ := HT.out.at hna.out hxa.out
      obtain rfl : mx = xs.length := hmx.out
      have hlt : n < xs.length := by
        by_cases hh : n < xs.length
        · exact hh
        · exact absurd (exh_yes hxa.out hna.out (by omega)) HNE.out
      obtain ⟨z, y, rfl, hcy0, hy⟩ := hrx.int hlt
      have i1 : (0 : Int) ≤ (a : Int) := by omega
      have i2 : (a : Int) < (xss.length : Int) := by omega
      have i3 : (0 : Int) ≤ (n : Int) := by omega
      have i4 : (n : Int) < (xs.length : Int) := by omega
      have HSS : Hid (∀ wx : World, Below w.heap.size w wx → Own wx 3 w.heap.size (.slice (some b) xss.length xss.length) (ints t) → wx.cell? (q.add a) = some (.slice (some z) xs.length dx) ∧ wx.cell? (b.add a) = some (.int .i64 n) ∧ wx.cell? (z.add n) = some (.int .i64 y)) := by
        intro wx hbx htx
        exact ⟨(hbx.cell (World.block_lt_of_cell? w _ hqa0)).trans hqa0, htx.rd.cell_int hna.out, (hbx.cell (World.block_lt_of_cell? w _ hcy0)).trans hcy0⟩
      obtain ⟨hqa, hca, hcy⟩ := HSS.out _ hb ht
      clear hqa0 hcy0
      have hLo := ints_length os
      have hsz := hb.size
      go_wp2
      go_region_held3 (fun w' => w'.cell? (q.add a) = some (.slice (some z) xs.length dx) ∧ w'.cell? (b.add a) = some (.int .i64 n) ∧ w'.cell? (z.add n) = some (.int .i64 y))
        (first | exact HSS.out _ hb5 ht5 | go_keep)
        (first
          | (refine step_app1 (by rfl) _ _ _ (by rfl) elI (by rfl) ho (by rfl) (by rfl) hsz (by omega) (by omega) ?_; intro bn cn' w6 ho6 hg5 hat5; have ht5 := ht.ap hg5 ap2.symm; have hb5 := hb.grown hg5 hb.size fun r hr => (ho.lt r hr).1)
          | (refine step_app1n (by rfl) _ _ _ (by rfl) elI (by rfl) ho (by rfl) (by rfl) hsz (by omega) (by omega) ?_; intro bn cn' w6 ho6 hg5 hat5; have ht5 := ht.ap hg5 ap2.symm; have hb5 := hb.grown hg5 hb.size fun r hr => (ho.lt r hr).1))
      simp only [ints_length] at ho6 hat5
      have hs6 := hs.ap hg5 ap4.symm
      have a13 := ap2.left ht hat5
      have a14 := ap4.left hs hat5
      clear hqa hca hcy i3 i4
      have hla : a < t.length := by have := hl.out; omega
      have hca6 := ht5.rd.cell_int hna.out
      have hfz := ht5.frozen rfl a
      have ht7 := (ht5.seti rfl hla ((n : Int) + 1)).1
      rw [← bump_eq hna.out] at ht7
      have hb7 := ht5.below_set rfl hla (.int .i64 ((n : Int) + 1)) hb5 (Nat.le_refl _)
      have ho7 := ho6.setCell (p := b.add a) (by rw [block_of_add]; exact a13.symm _ rfl) (.int .i64 ((n : Int) + 1))
      have hs7 := hs6.setCell (p := b.add a) (by rw [block_of_add]; exact apS2 _ rfl) (.int .i64 ((n : Int) + 1))
      have HSQ := Lib.hid (seq_step (xss := xss) (t := t) (f := f) (by rw [HA.out]; exact hxa.out) (by rw [HA.out]; exact hna.out) hlt HRr.out)
      clear hla
      go_wp2
      obtain ⟨f', hff, hr', hseq⟩ := HSQ.out
      rw [HA.out] at hr' hseq
      go_roundw
      case rel => exact ⟨k + 1, f', bump t a, os ++ [y], by omega, by go_num, HT.out.bump hxa.out hna.out hlt, hr', by simp; omega, by
        have h3 := HSQ0.out
        rw [hseq] at h3
        injection h3 with _ h4
        exact h4.symm, by
        show _ = _
        rw [← HQ2.out, hseq, nums_step hxa.out hna.out hy.out]
        simp, by rw [ints_append]; exact ho7, ht7, hs7, a13, a14, hb7⟩
      case measure => simp [intOf]; omega
    · have HE : Hid (os = allNums xss) := by
        have h3 := HQ1.out
        rw [List.drop_eq_nil_of_le (by omega)] at h3
        have h4 := HQ2.out
        rw [← h3] at h4
        simpa [numsAlong, Hid] using h4
      go_wp2
      go_ret2
      exact ⟨_, rfl, by rw [HR.out, ← HE.out]; exact ho, hb⟩

set_option maxRecDepth 100000 in
set_option maxHeartbeats 4000000 in
theorem law_MergeAll (w : World) (vxlists : Value) (xlists : List (List Int)) (hxlists : Rd2 w vxlists xlists) (fxlists : I64ss xlists) : Calls Try.prog 7 #[vxlists] w (Law w) := by
  obtain ⟨axlists, cxlists, rfl, _, hcxlists⟩ := hxlists.form
  have hs1 := szSS_le xlists 1048576
  obtain ⟨L1, hL1⟩ : ∃ z, szSS xlists 1048576 = z := ⟨_, rfl⟩
  rw [hL1] at hs1
  have HL1 := Lib.hid hL1
  clear hL1
  by_cases pxlists : L1 < 0
  case pos =>
    go_enter Try.func7, Try.ntmps7
    go_wp2_with fail
    refine (szIntSS_c _ xlists 1048576 _ hxlists (by omega) (by omega)).mono ?_
    rintro e w' ⟨rfl, rfl⟩
    rw [HL1.out]
    go_wp2_with fail
    go_ret
    exact ⟨rfl, Below.refl _ _⟩
  have lxlists : SzOk xlists := szSS_ok (left := 1048576) (by have := HL1.out; omega) (by omega)
  have txlists := lxlists.2
  obtain ⟨r0, r1, Br0, HS, HI⟩ : ∃ (r0 : List Int) (r1 : Bool), r0.length ≤ 2000000 ∧
      (∀ (W : World) (Vxlists : Value) (Hxlists : Rd2 W Vxlists xlists), Calls Try.prog 27 #[Vxlists] W (RetOwnB 3 (ints r0) r1 W)) ∧
      (∀ (W : World) (Vxlists : Value) (Hxlists : Rd2 W Vxlists xlists), Calls Try.prog 28 #[Vxlists] W (RetOwnB 3 (ints r0) r1 W)) :=
    ⟨_, _, N_MergeAll xlists lxlists, fun W Vxlists Hxlists => S_MergeAll W Vxlists xlists Hxlists fxlists lxlists, fun W Vxlists Hxlists => I_MergeAll W Vxlists xlists Hxlists fxlists lxlists⟩
  have GS := Lib.hid HS
  have GI := Lib.hid HI
  clear HS HI
  go_enter Try.func7, Try.ntmps7
  go_wp2_with fail
  refine (szIntSS_c _ xlists 1048576 _ hxlists (by omega) (by omega)).mono ?_
  rintro e w' ⟨rfl, rfl⟩
  rw [HL1.out]
  have bt : Below w.heap.size w w := Below.refl _ _
  go_wp2_with fail
  refine (toIntSS_c _ xlists _ (hxlists.below bt) lxlists).mono ?_
  rintro e w1 ⟨vy1, rfl, oy1, b1⟩
  replace bt := bt.trans (b1.mono bt.size)
  have z1 := b1.size
  go_wp2_with fail
  refine ((GS.out _ _ oy1.rd)).mono ?_
  rintro e w2 ⟨vg2, rfl, og2, b2⟩
  have tg2 : ∀ k, vg2.ownBlock = some k → k < w2.heap.size := fun k e => (og2.lt k e).2
  replace oy1 := oy1.below b2
  replace bt := bt.trans (b2.mono bt.size)
  have z2 := b2.size
  go_wp2_with fail
  refine (toIntSS_c _ xlists _ (hxlists.below bt) lxlists).mono ?_
  rintro e w3 ⟨vy3, rfl, oy3, b3⟩
  replace oy1 := oy1.below b3
  replace og2 := og2.below b3
  replace bt := bt.trans (b3.mono bt.size)
  have z3 := b3.size
  go_wp2_with fail
  refine ((GI.out _ _ oy3.rd)).mono ?_
  rintro e w4 ⟨vg4, rfl, og4, b4⟩
  have tg4 : ∀ k, vg4.ownBlock = some k → k < w4.heap.size := fun k e => (og4.lt k e).2
  replace oy1 := oy1.below b4
  replace og2 := og2.below b4
  replace oy3 := oy3.below b4
  replace bt := bt.trans (b4.mono bt.size)
  have z4 := b4.size
  go_wp2_with fail
  refine (eqIntS_c _ _ r0 r0 _ og4.rd og2.rd).mono ?_
  rintro e w5 ⟨rfl, d5⟩
  have b5 := d5.below w4.heap.size
  rw [eqI_self]
  replace oy1 := oy1.below b5
  replace og2 := og2.below b5
  replace oy3 := oy3.below b5
  replace og4 := og4.below b5
  replace bt := bt.trans (b5.mono bt.size)
  have z5 := b5.size
  go_wp2_with fail
  refine (toIntSS_c _ xlists _ (hxlists.below bt) lxlists).mono ?_
  rintro e w6 ⟨vy5, rfl, oy5, b6⟩
  replace oy1 := oy1.below b6
  replace og2 := og2.below b6
  replace oy3 := oy3.below b6
  replace og4 := og4.below b6
  replace bt := bt.trans (b6.mono bt.size)
  have z6 := b6.size
  go_wp2_with fail
  refine (eqIntSS_c _ _ xlists xlists _ oy3.rd oy5.rd).mono ?_
  rintro e w7 ⟨rfl, d7⟩
  have b7 := d7.below w6.heap.size
  rw [eqII_self]
  replace oy1 := oy1.below b7
  replace og2 := og2.below b7
  replace oy3 := oy3.below b7
  replace og4 := og4.below b7
  replace oy5 := oy5.below b7
  replace bt := bt.trans (b7.mono bt.size)
  have z7 := b7.size
  go_wp2_with fail
  refine (markIntSS_c _ xlists (1) _ _ _ oy3 (by assumption) (by omega) (by omega)).mono ?_
  rintro e w8 ⟨rfl, my3, ch8⟩
  replace oy1 := oy1.chg ch8 (by omega)
  replace og2 := og2.chg ch8 (fun k e => by have h1 := (og2.lt k e).1; have h2 := tg2 k e; omega)
  replace og4 := og4.chg ch8 (fun k e => by have h1 := (og4.lt k e).1; have h2 := tg4 k e; omega)
  replace oy5 := oy5.chg ch8 (by omega)
  replace bt := below_chg bt ch8 (by omega) (Nat.le_refl _)
  have z8 := ch8.size
  go_wp2_with fail
  refine (eqIntS_c _ _ r0 r0 _ og4.rd og2.rd).mono ?_
  rintro e w9 ⟨rfl, d9⟩
  have b9 := d9.below w8.heap.size
  rw [eqI_self]
  replace oy1 := oy1.below b9
  replace og2 := og2.below b9
  replace my3 := my3.below b9
  replace og4 := og4.below b9
  replace oy5 := oy5.below b9
  replace bt := bt.trans (b9.mono bt.size)
  have z9 := b9.size
  go_wp2_with fail
  refine (markIntS_c _ r0 (1) _ _ og4 (by omega) (by omega) (by omega)).mono ?_
  rintro e w10 ⟨rfl, mg4, gr10⟩
  have ch10 : Chg w3.heap.size w4.heap.size w9 w10 := Chg.row gr10 (fun k e => ⟨(og4.lt k e).1, tg4 k e⟩)
  replace oy1 := oy1.chg ch10 (by omega)
  replace og2 := og2.chg ch10 (fun k e => by have h1 := (og2.lt k e).1; have h2 := tg2 k e; omega)
  replace my3 := my3.chg ch10 (by omega)
  replace oy5 := oy5.chg ch10 (by omega)
  replace bt := below_chg bt ch10 (by omega) (Nat.le_refl _)
  have z10 := ch10.size
  go_wp2_with fail
  refine (heldIntS_c _ r0.length (1) _ mg4.rd (by omega) (by omega) (by omega)).mono ?_
  rintro e w' ⟨rfl, rfl⟩
  go_wp2_with fail
  refine (toIntSS_c _ xlists _ (hxlists.below bt) lxlists).mono ?_
  rintro e w11 ⟨vy6, rfl, oy6, b11⟩
  replace oy1 := oy1.below b11
  replace og2 := og2.below b11
  replace my3 := my3.below b11
  replace mg4 := mg4.below b11
  replace oy5 := oy5.below b11
  replace bt := bt.trans (b11.mono bt.size)
  have z11 := b11.size
  go_wp2_with fail
  refine ((GI.out _ _ oy6.rd)).mono ?_
  rintro e w12 ⟨vg7, rfl, og7, b12⟩
  replace oy1 := oy1.below b12
  replace og2 := og2.below b12
  replace my3 := my3.below b12
  replace mg4 := mg4.below b12
  replace oy5 := oy5.below b12
  replace oy6 := oy6.below b12
  replace bt := bt.trans (b12.mono bt.size)
  have z12 := b12.size
  go_wp2_with fail
  refine (eqIntS_c _ _ r0 r0 _ og7.rd og2.rd).mono ?_
  rintro e w13 ⟨rfl, d13⟩
  have b13 := d13.below w12.heap.size
  rw [eqI_self]
  replace oy1 := oy1.below b13
  replace og2 := og2.below b13
  replace my3 := my3.below b13
  replace mg4 := mg4.below b13
  replace oy5 := oy5.below b13
  replace oy6 := oy6.below b13
  replace og7 := og7.below b13
  replace bt := bt.trans (b13.mono bt.size)
  have z13 := b13.size
  go_wp2_with fail
  refine (heldIntS_c _ r0.length (1) _ mg4.rd (by omega) (by omega) (by omega)).mono ?_
  rintro e w' ⟨rfl, rfl⟩
  go_wp2_with fail
  go_ret
  exact ⟨rfl, bt⟩


end Go.Proofs.Ytkidbnlebeaikaa
