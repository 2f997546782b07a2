/- Walks: the winner, the losers. -/
import Derived.Test.YtkidbnlebeaikaaPlay
namespace Go.Proofs.Ytkidbnlebeaikaa
open Go.RowKit
set_option linter.unusedVariables false
set_option linter.unusedSimpArgs false

theorem exh_yes {xss : List (List Int)} {t xs : List Int} {a n : Nat} (hx : xss[a]? = some xs) (ht : t[a]? = some (n : Int)) (h : xs.length ≤ n) : headOf xss t a = none := headOf_none hx ht h
theorem exh_no {xss : List (List Int)} {t xs : List Int} {a n : Nat} (hx : xss[a]? = some xs) (ht : t[a]? = some (n : Int)) (h : n < xs.length) : headOf xss t a ≠ none := by
  rw [headOf_some hx ht (List.getElem?_eq_getElem h)]; simp
theorem winnerOf_yes {xss : List (List Int)} {t : List Int} (h : headOf xss t (winOf xss t) = none) : winnerOf xss t = -1 := by simp [winnerOf, h]
theorem winnerOf_no {xss : List (List Int)} {t : List Int} (h : headOf xss t (winOf xss t) ≠ none) : winnerOf xss t = winOf xss t := by simp [winnerOf, h]
theorem listsOk_len {xss : List (List Int)} (h : listsOk xss = true) : 1 ≤ xss.length ∧ xss.length ≤ 8 := (listsOk_iff.1 h).1

set_option maxHeartbeats 1000000 in
theorem i_winner (v : Value) (xss : List (List Int)) (vt : Value) (t : List Int) (w : World) (h : Rd2 w v xss) (ht : Rd w vt (ints t)) (hT : TK xss t) (hf : I64ss xss) (h1 : 1 ≤ xss.length) (h8 : xss.length ≤ 8) :
    Calls Try.prog 48 #[v, vt] w (RetQ (.int .i64 (winnerOf xss t)) w) := by
  have HB := Lib.hid (fun (wq : World) (hq : Dr w wq) (a b : Nat) (ha : a < xss.length) (hb : b < xss.length) => i_beats _ xss _ t wq (h.dr hq) (ht.dr hq) hT hf a b ha hb h8)
  have hl := Lib.hid hT.1
  obtain ⟨a0, c0, rfl, _, _⟩ := h.form
  obtain ⟨a1, c1, rfl, _, _⟩ := ht.formi
  go_enter Try.func48, Try.ntmps48
  go_wp2
  go_loopw [5, 9] (fun vb i wr => ∃ k b : Nat, k ≤ xss.length ∧ b < xss.length ∧ i = .int .i64 k ∧ vb = .int .i64 b ∧ Dr w wr ∧ Hid (∀ j, j < k → key xss t b ≤ key xss t j))
    (fun _ i _ => xss.length - (intOf i).toNat)
  case atStart => exact ⟨0, 0, Nat.zero_le _, by omega, rfl, rfl, Dr.refl _, fun j hj => by omega⟩
  case round =>
    obtain ⟨k, b, hk, hb, rfl, rfl, hdr, HN⟩ := hrel
    by_cases hlt : k < xss.length
    · by_cases e : k = b
      · subst e
        go_wp2
        go_roundw
        case rel => exact ⟨k + 1, k, by omega, hb, by go_num, rfl, hdr, fun j hj => by
          by_cases e : j = k
          · subst e; exact Int.le_refl _
          · exact HN.out j (by omega)⟩
        case measure => simp [intOf]; omega
      · have hc := HB.out _ hdr k b hlt hb
        have hd0 : decide (k = b) = false := by simpa using e
        by_cases hw : key xss t k < key xss t b
        · have hd : decide (key xss t k < key xss t b) = true := by simpa using hw
          rw [hd] at hc
          have HW := Lib.hid hw
          clear hd hw
          go_wp2_with (go_at_call 51; refine hc.mono ?_; rintro e w2 ⟨rfl, hd2⟩)
          go_roundw
          case rel => exact ⟨k + 1, k, by omega, hlt, by go_num, rfl, hdr.trans hd2, fun j hj => by
            have := HW.out
            by_cases e : j = k
            · subst e; exact Int.le_refl _
            · have := HN.out j (by omega)
              omega⟩
          case measure => simp [intOf]; omega
        · have hd : decide (key xss t k < key xss t b) = false := by simpa using hw
          rw [hd] at hc
          have HW := Lib.hid hw
          clear hd hw
          go_wp2_with (go_at_call 51; refine hc.mono ?_; rintro e w2 ⟨rfl, hd2⟩)
          go_roundw
          case rel => exact ⟨k + 1, b, by omega, hb, by go_num, rfl, hdr.trans hd2, fun j hj => by
            have := HW.out
            by_cases e : j = k
            · subst e; omega
            · exact HN.out j (by omega)⟩
          case measure => simp [intOf]; omega
    · have HWin := Lib.hid (winOf_eq (t := t) h8 hb (fun j hj => HN.out j (by omega)))
      obtain ⟨p, nb, rfl, hcb, hnb⟩ := (ht.dr hdr).int (show b < t.length by have := hl.out; omega)
      obtain ⟨q, bb, mb, db, xb, rfl, hqb, hxb, hmb, hmdb, hdb, hrb⟩ := (h.dr hdr).row hb
      obtain ⟨nb, rfl, hkb⟩ := hT.at hnb.out hxb.out
      obtain rfl : mb = xb.length := hmb.out
      have i2 : (b : Int) < (t.length : Int) := by have := hl.out; omega
      have i4 : (b : Int) < (xss.length : Int) := by omega
      by_cases hx : nb = xb.length
      · have HR : Hid (winnerOf xss t = -1) := winnerOf_yes (by rw [HWin.out]; exact exh_yes hxb.out hnb.out (by omega))
        have d1 : ((nb : Int) == (xb.length : Int)) = true := by simp; omega
        clear hx
        go_wp2
        go_quiet (fail)
        go_wp2
        go_ret
        exact ⟨ret_int HR.out.symm, hdr.step _⟩
      · have HR : Hid (winnerOf xss t = b) := by
          show _ = _
          rw [winnerOf_no (by rw [HWin.out]; exact exh_no hxb.out hnb.out (by omega)), HWin.out]
        have d1 : ((nb : Int) == (xb.length : Int)) = false := by simp; omega
        go_wp2
        go_quiet (fail)
        go_wp2
        go_ret
        exact ⟨ret_int HR.out.symm, hdr.step _⟩

noncomputable def winnerOk (xss : List (List Int)) (t : List Int) : Int := if takenOk xss t = true then winnerOf xss t else -1

theorem I_WinnerOf (w : World) (v : Value) (xss : List (List Int)) (h : Rd2 w v xss) (hf : I64ss xss) (_ : SzOk xss) (vt : Value) (t : List Int) (ht : Rd w vt (ints t)) (_ : I64s t) (_ : t.length ≤ 1048576) : Calls Try.prog 21 #[v, vt] w (RetB (.int .i64 (winnerOk xss t)) w) := by
  have HT := i_TakenOk v xss vt t w h ht
  cases hk : takenOk xss t
  · rw [hk] at HT
    have HR : Hid (winnerOk xss t = -1) := by simp [winnerOk, hk, Hid]
    go_enter Try.func21, Try.ntmps21
    go_wp2_with (go_at_call 18; refine HT.mono ?_; rintro e w2 ⟨rfl, hd2⟩)
    go_ret
    exact ⟨ret_int HR.out.symm, hd2.below _⟩
  · rw [hk] at HT
    obtain ⟨hl0, hT⟩ := takenOk_iff.1 hk
    obtain ⟨h1, h8⟩ := listsOk_len hl0
    clear hl0
    have HR : Hid (winnerOk xss t = winnerOf xss t) := by simp [winnerOk, hk, Hid]
    go_enter Try.func21, Try.ntmps21
    go_wp2_with (first | (go_at_call 18; refine HT.mono ?_; rintro e w2 ⟨rfl, hd2⟩) | (go_at_call 48; refine (i_winner _ xss _ t _ (h.dr hd2) (ht.dr hd2) hT hf h1 h8).mono ?_; rintro e w3 ⟨rfl, hd3⟩))
    go_ret
    exact ⟨ret_int HR.out.symm, (hd2.trans hd3).below _⟩

theorem S_WinnerOf (w : World) (v : Value) (xss : List (List Int)) (h : Rd2 w v xss) (hf : I64ss xss) (_ : SzOk xss) (vt : Value) (t : List Int) (ht : Rd w vt (ints t)) (_ : I64s t) (_ : t.length ≤ 1048576) : Calls Try.prog 20 #[v, vt] w (RetB (.int .i64 (winnerOk xss t)) w) := by
  have HT := s_TakenOk v xss vt t w h ht
  cases hk : takenOk xss t
  · rw [hk] at HT
    have HR : Hid (winnerOk xss t = -1) := by simp [winnerOk, hk, Hid]
    go_enter Try.func20, Try.ntmps20
    go_wp2_with (go_at_call 16; refine HT.mono ?_; rintro e w2 ⟨rfl, hd2⟩)
    go_ret
    exact ⟨ret_int HR.out.symm, hd2.below _⟩
  · rw [hk] at HT
    obtain ⟨hl0, hT⟩ := takenOk_iff.1 hk
    obtain ⟨h1, h8⟩ := listsOk_len hl0
    clear hl0
    have HR : Hid (winnerOk xss t = winnerOf xss t) := by simp [winnerOk, hk, Hid]
    have hb := (winOf_min (xss := xss) (t := t) h1).2.1
    have HP := Lib.hid (fun (wq : World) (hq : Dr w wq) => s_l28Play _ xss _ t wq (h.dr hq) (ht.dr hq) hT hf h1 h8)
    have hl := Lib.hid hT.1
    clear hk
    obtain ⟨b, hbe⟩ : ∃ b, winOf xss t = b := ⟨_, rfl⟩
    rw [hbe] at HP hb
    have HBE := Lib.hid hbe
    clear hbe
    obtain ⟨a0, c0, rfl, _, _⟩ := h.form
    obtain ⟨a1, c1, rfl, _, _⟩ := ht.formi
    go_enter Try.func20, Try.ntmps20
    go_wp2_with (first | (go_at_call 16; refine HT.mono ?_; rintro e w2 ⟨rfl, hd2⟩) | (go_at_call 47; refine (HP.out _ hd2).mono ?_; rintro e w3 ⟨vl, rfl, hl3, hb3⟩))
    have bt : Below w.heap.size w w3 := (hd2.below _).trans (hb3.mono (by rw [hd2.size]; exact Nat.le_refl _))
    obtain ⟨p, nb, rfl, hcb, hnb⟩ := (ht.below bt).int (show b < t.length by have := hl.out; omega)
    obtain ⟨q, bb, mb, db, xb, rfl, hqb, hxb, hmb, hmdb, hdb, hrb⟩ := (h.below bt).row hb
    obtain ⟨nb, rfl, hkb⟩ := hT.at hnb.out hxb.out
    obtain rfl : mb = xb.length := hmb.out
    have i2 : (b : Int) < (t.length : Int) := by have := hl.out; omega
    have i4 : (b : Int) < (xss.length : Int) := by omega
    by_cases hx : nb = xb.length
    · have HR2 : Hid (winnerOf xss t = -1) := winnerOf_yes (by rw [HBE.out]; exact exh_yes hxb.out hnb.out (by omega))
      have d1 : ((nb : Int) == (xb.length : Int)) = true := by simp; omega
      clear hx
      go_quiet (fail)
      go_wp2
      go_ret
      exact ⟨ret_int (by rw [HR.out, HR2.out]), bt.trans (Dr.below ((Dr.refl _).step _) _)⟩
    · have HR2 : Hid (winnerOf xss t = b) := by
        show _ = _
        rw [winnerOf_no (by rw [HBE.out]; exact exh_no hxb.out hnb.out (by omega)), HBE.out]
      have d1 : ((nb : Int) == (xb.length : Int)) = false := by simp; omega
      go_quiet (fail)
      go_wp2
      go_ret
      exact ⟨ret_int (by rw [HR.out, HR2.out]), bt.trans (Dr.below ((Dr.refl _).step _) _)⟩

set_option maxRecDepth 100000 in
set_option maxHeartbeats 4000000 in
theorem law_WinnerOf (w : World) (vxlists : Value) (xlists : List (List Int)) (hxlists : Rd2 w vxlists xlists) (fxlists : I64ss xlists) (vxtaken : Value) (xtaken : List Int) (hxtaken : Rd w vxtaken (ints xtaken)) (fxtaken : I64s xtaken) : Calls Try.prog 5 #[vxlists, vxtaken] w (Law w) := by
  obtain ⟨axlists, cxlists, rfl, _, hcxlists⟩ := hxlists.form
  obtain ⟨axtaken, cxtaken, rfl, _, hcxtaken⟩ := hxtaken.formi
  by_cases lxtaken : xtaken.length ≤ 1048576
  case neg =>
    have hd : decide ((xtaken.length : Int) > 1048576) = true := by simp; omega
    go_enter Try.func5, Try.ntmps5
    go_wp2_with fail
    go_ret
    exact ⟨rfl, Below.refl _ _⟩
  have dxtaken : decide ((xtaken.length : Int) > 1048576) = false := by simp; omega
  have hs1 := szSS_le xlists 1048576
  obtain ⟨L1, hL1⟩ : ∃ z, szSS xlists 1048576 = z := ⟨_, rfl⟩
  rw [hL1] at hs1
  have HL1 := Lib.hid hL1
  clear hL1
  by_cases pxlists : L1 < 0
  case pos =>
    go_enter Try.func5, Try.ntmps5
    go_wp2_with fail
    refine (szIntSS_c _ xlists 1048576 _ hxlists (by omega) (by omega)).mono ?_
    rintro e w' ⟨rfl, rfl⟩
    rw [HL1.out]
    go_wp2_with fail
    go_ret
    exact ⟨rfl, Below.refl _ _⟩
  have lxlists : SzOk xlists := szSS_ok (left := 1048576) (by have := HL1.out; omega) (by omega)
  obtain ⟨r0, HS, HI⟩ : ∃ (r0 : Int), 
      (∀ (W : World) (Vxlists : Value) (Hxlists : Rd2 W Vxlists xlists) (Vxtaken : Value) (Hxtaken : Rd W Vxtaken (ints xtaken)), Calls Try.prog 20 #[Vxlists, Vxtaken] W (RetB (.int .i64 r0) W)) ∧
      (∀ (W : World) (Vxlists : Value) (Hxlists : Rd2 W Vxlists xlists) (Vxtaken : Value) (Hxtaken : Rd W Vxtaken (ints xtaken)), Calls Try.prog 21 #[Vxlists, Vxtaken] W (RetB (.int .i64 r0) W)) :=
    ⟨_, fun W Vxlists Hxlists Vxtaken Hxtaken => S_WinnerOf W Vxlists xlists Hxlists fxlists lxlists Vxtaken xtaken Hxtaken fxtaken lxtaken, fun W Vxlists Hxlists Vxtaken Hxtaken => I_WinnerOf W Vxlists xlists Hxlists fxlists lxlists Vxtaken xtaken Hxtaken fxtaken lxtaken⟩
  have GS := Lib.hid HS
  have GI := Lib.hid HI
  clear HS HI
  go_enter Try.func5, Try.ntmps5
  go_wp2_with fail
  refine (szIntSS_c _ xlists 1048576 _ hxlists (by omega) (by omega)).mono ?_
  rintro e w' ⟨rfl, rfl⟩
  rw [HL1.out]
  have bt : Below w.heap.size w w := Below.refl _ _
  go_wp2_with fail
  refine (toIntSS_c _ xlists _ (hxlists.below bt) lxlists).mono ?_
  rintro e w1 ⟨vy1, rfl, oy1, b1⟩
  replace bt := bt.trans (b1.mono bt.size)
  have z1 := b1.size
  go_wp2_with fail
  refine (toIntS_c _ xtaken _ (hxtaken.below bt) (by omega)).mono ?_
  rintro e w2 ⟨vy2, rfl, oy2, b2⟩
  replace oy1 := oy1.below b2
  replace bt := bt.trans (b2.mono bt.size)
  have z2 := b2.size
  go_wp2_with fail
  refine ((GS.out _ _ oy1.rd _ oy2.rd)).mono ?_
  rintro e w3 ⟨rfl, b3⟩
  replace oy1 := oy1.below b3
  replace oy2 := oy2.below b3
  replace bt := bt.trans (b3.mono bt.size)
  have z3 := b3.size
  go_wp2_with fail
  refine (toIntSS_c _ xlists _ (hxlists.below bt) lxlists).mono ?_
  rintro e w4 ⟨vy3, rfl, oy3, b4⟩
  replace oy1 := oy1.below b4
  replace oy2 := oy2.below b4
  replace bt := bt.trans (b4.mono bt.size)
  have z4 := b4.size
  go_wp2_with fail
  refine (toIntS_c _ xtaken _ (hxtaken.below bt) (by omega)).mono ?_
  rintro e w5 ⟨vy4, rfl, oy4, b5⟩
  replace oy1 := oy1.below b5
  replace oy2 := oy2.below b5
  replace oy3 := oy3.below b5
  replace bt := bt.trans (b5.mono bt.size)
  have z5 := b5.size
  go_wp2_with fail
  refine ((GI.out _ _ oy3.rd _ oy4.rd)).mono ?_
  rintro e w6 ⟨rfl, b6⟩
  replace oy1 := oy1.below b6
  replace oy2 := oy2.below b6
  replace oy3 := oy3.below b6
  replace oy4 := oy4.below b6
  replace bt := bt.trans (b6.mono bt.size)
  have z6 := b6.size
  go_wp2_with fail
  refine (toIntSS_c _ xlists _ (hxlists.below bt) lxlists).mono ?_
  rintro e w7 ⟨vy5, rfl, oy5, b7⟩
  replace oy1 := oy1.below b7
  replace oy2 := oy2.below b7
  replace oy3 := oy3.below b7
  replace oy4 := oy4.below b7
  replace bt := bt.trans (b7.mono bt.size)
  have z7 := b7.size
  go_wp2_with fail
  refine (eqIntSS_c _ _ xlists xlists _ oy3.rd oy5.rd).mono ?_
  rintro e w8 ⟨rfl, d8⟩
  have b8 := d8.below w7.heap.size
  rw [eqII_self]
  replace oy1 := oy1.below b8
  replace oy2 := oy2.below b8
  replace oy3 := oy3.below b8
  replace oy4 := oy4.below b8
  replace oy5 := oy5.below b8
  replace bt := bt.trans (b8.mono bt.size)
  have z8 := b8.size
  go_wp2_with fail
  refine (toIntS_c _ xtaken _ (hxtaken.below bt) (by omega)).mono ?_
  rintro e w9 ⟨vy6, rfl, oy6, b9⟩
  replace oy1 := oy1.below b9
  replace oy2 := oy2.below b9
  replace oy3 := oy3.below b9
  replace oy4 := oy4.below b9
  replace oy5 := oy5.below b9
  replace bt := bt.trans (b9.mono bt.size)
  have z9 := b9.size
  go_wp2_with fail
  refine (eqIntS_c _ _ xtaken xtaken _ oy4.rd oy6.rd).mono ?_
  rintro e w10 ⟨rfl, d10⟩
  have b10 := d10.below w9.heap.size
  rw [eqI_self]
  replace oy1 := oy1.below b10
  replace oy2 := oy2.below b10
  replace oy3 := oy3.below b10
  replace oy4 := oy4.below b10
  replace oy5 := oy5.below b10
  replace oy6 := oy6.below b10
  replace bt := bt.trans (b10.mono bt.size)
  have z10 := b10.size
  go_wp2_with fail
  go_ret
  exact ⟨rfl, bt⟩


end Go.Proofs.Ytkidbnlebeaikaa
