/- Walks: what is taken from lists. -/
import Derived.Test.YtkidbnlebeaikaaLosers
namespace Go.Proofs.Ytkidbnlebeaikaa
open Go.RowKit
set_option linter.unusedVariables false
set_option linter.unusedSimpArgs false

def TK (xss : List (List Int)) (t : List Int) : Prop := t.length = xss.length ∧ ∀ (k : Nat) n xs, t[k]? = some n → xss[k]? = some xs → 0 ≤ n ∧ n ≤ (xs.length : Int)
noncomputable def takenOk (xss : List (List Int)) (t : List Int) : Bool := listsOk xss && @decide (TK xss t) (Classical.propDecidable _)
theorem takenOk_no1 {xss : List (List Int)} {t : List Int} (h : listsOk xss = false) : takenOk xss t = false := by simp [takenOk, h]
theorem takenOk_no2 {xss : List (List Int)} {t : List Int} (h : ¬ TK xss t) : takenOk xss t = false := by simp [takenOk, h]
theorem takenOk_yes {xss : List (List Int)} {t : List Int} (h : listsOk xss = true) (h2 : TK xss t) : takenOk xss t = true := by simp [takenOk, h, h2]
theorem takenOk_iff {xss : List (List Int)} {t : List Int} : takenOk xss t = true ↔ listsOk xss = true ∧ TK xss t := by simp [takenOk]

set_option maxHeartbeats 400000 in
theorem s_TakenOk (v : Value) (xss : List (List Int)) (vt : Value) (t : List Int) (w : World) (h : Rd2 w v xss) (ht : Rd w vt (ints t)) : Calls Try.prog 16 #[v, vt] w (RetQ (.bool (takenOk xss t)) w) := by
  have HL := s_ListsOk v xss w h
  obtain ⟨a, c, rfl, h2, h3⟩ := h.form
  obtain ⟨at', ct, rfl, ht2, ht3⟩ := ht.formi
  cases h1 : listsOk xss
  · rw [h1] at HL
    have HR : Hid (takenOk xss t = false) := takenOk_no1 h1
    go_enter Try.func16, Try.ntmps16
    go_wp2_with (go_at_call 12; refine HL.mono ?_; rintro e w2 ⟨rfl, hd⟩)
    go_ret
    exact ⟨ret_bool HR.out.symm, hd⟩
  rw [h1] at HL
  have H1 := Lib.hid h1
  clear h1
  by_cases hl : t.length = xss.length
  · have hd : decide ((t.length : Int) = (xss.length : Int)) = true := by simp [hl]
    have HLn := Lib.hid hl
    go_enter Try.func16, Try.ntmps16
    go_wp2_with (go_at_call 12; refine HL.mono ?_; rintro e w2 ⟨rfl, hd0⟩)
    go_loopw [19] (fun i wr => ∃ k : Nat, k ≤ t.length ∧ i = .int .i64 k ∧ Dr w wr ∧ Hid (∀ (j : Nat) n xs, j < k → t[j]? = some n → xss[j]? = some xs → 0 ≤ n ∧ n ≤ (xs.length : Int))) (fun i _ => t.length - (intOf i).toNat)
    case atStart => exact ⟨0, Nat.zero_le _, rfl, hd0, fun j n xs hj => by omega⟩
    case round =>
      obtain ⟨k, hkl, rfl, hdr, HN⟩ := hrel
      by_cases hlt : k < t.length
      · obtain ⟨ad, y, rfl, hc, hy⟩ := (ht.dr hdr).int hlt
        obtain ⟨ad2, b, m, d, xs, rfl, hc2, hx, hm, hmd, hd2, hr⟩ := (h.dr hdr).row (show k < xss.length by omega)
        have i1 : (k : Int) < (xss.length : Int) := by omega
        cases hp : inB y 0 (m : Int)
        · have HB : Hid (takenOk xss t = false) := takenOk_no2 (fun hh => by
            have := hh.2 k y xs hy.out hx.out
            have hm' := hm.out
            rw [inB_no] at hp
            exact hp ⟨this.1, by omega⟩)
          go_wp2_with (go_at_call 42; refine (s_l01In _ _ _ _).mono ?_; rintro e w' ⟨rfl, rfl⟩)
          go_ret
          exact ⟨ret_bool HB.out.symm, hdr⟩
        · go_wp2_with (go_at_call 42; refine (s_l01In _ _ _ _).mono ?_; rintro e w' ⟨rfl, rfl⟩)
          go_roundw
          case rel => exact ⟨k + 1, by omega, by go_num, hdr, fun j n xs' hj hn hx' => by
            by_cases e : j = k
            · subst e
              rw [hx.out] at hx'
              rw [hy.out] at hn
              cases hx'
              cases hn
              have hm' := hm.out
              have := inB_iff.1 hp
              exact ⟨this.1, by omega⟩
            · exact HN.out j n xs' (by omega) hn hx'⟩
          case measure => simp [intOf]; omega
      · obtain rfl : t.length = k := by omega
        go_wp2
        go_ret
        exact ⟨ret_bool (takenOk_yes H1.out ⟨HLn.out, fun k n xs hn hx => HN.out k n xs (List.getElem?_eq_some_iff.1 hn).1 hn hx⟩).symm, hdr⟩
  · have hd : decide ((t.length : Int) = (xss.length : Int)) = false := by simp; omega
    have HB : Hid (takenOk xss t = false) := takenOk_no2 (fun hh => hl hh.1)
    go_enter Try.func16, Try.ntmps16
    go_wp2_with (go_at_call 12; refine HL.mono ?_; rintro e w2 ⟨rfl, hd0⟩)
    go_ret
    exact ⟨ret_bool HB.out.symm, hd0⟩

set_option maxHeartbeats 400000 in
theorem i_TakenOk (v : Value) (xss : List (List Int)) (vt : Value) (t : List Int) (w : World) (h : Rd2 w v xss) (ht : Rd w vt (ints t)) : Calls Try.prog 18 #[v, vt] w (RetQ (.bool (takenOk xss t)) w) := by
  have HL := i_ListsOk v xss w h
  obtain ⟨a, c, rfl, h2, h3⟩ := h.form
  obtain ⟨at', ct, rfl, ht2, ht3⟩ := ht.formi
  cases h1 : listsOk xss
  · rw [h1] at HL
    have HR : Hid (takenOk xss t = false) := takenOk_no1 h1
    go_enter Try.func18, Try.ntmps18
    go_wp2_with (go_at_call 14; refine HL.mono ?_; rintro e w2 ⟨rfl, hd⟩)
    go_ret
    exact ⟨ret_bool HR.out.symm, hd⟩
  rw [h1] at HL
  have H1 := Lib.hid h1
  clear h1
  by_cases hl : t.length = xss.length
  · have hd : decide ((t.length : Int) = (xss.length : Int)) = true := by simp [hl]
    have HLn := Lib.hid hl
    go_enter Try.func18, Try.ntmps18
    go_wp2_with (go_at_call 14; refine HL.mono ?_; rintro e w2 ⟨rfl, hd0⟩)
    go_loopw [19] (fun i wr => ∃ k : Nat, k ≤ t.length ∧ i = .int .i64 k ∧ Dr w wr ∧ Hid (∀ (j : Nat) n xs, j < k → t[j]? = some n → xss[j]? = some xs → 0 ≤ n ∧ n ≤ (xs.length : Int))) (fun i _ => t.length - (intOf i).toNat)
    case atStart => exact ⟨0, Nat.zero_le _, rfl, hd0, fun j n xs hj => by omega⟩
    case round =>
      obtain ⟨k, hkl, rfl, hdr, HN⟩ := hrel
      by_cases hlt : k < t.length
      · obtain ⟨ad, y, rfl, hc, hy⟩ := (ht.dr hdr).int hlt
        obtain ⟨ad2, b, m, d, xs, rfl, hc2, hx, hm, hmd, hd2, hr⟩ := (h.dr hdr).row (show k < xss.length by omega)
        have i1 : (k : Int) < (xss.length : Int) := by omega
        by_cases hp : 0 ≤ y
        · have d1 : decide (y < 0) = false := by simpa using hp
          by_cases hq : y ≤ (m : Int)
          · have d2 : decide (y > (m : Int)) = false := by simpa using hq
            go_wp2
            go_roundw
            case rel => exact ⟨k + 1, by omega, by go_num, hdr, fun j n xs' hj hn hx' => by
              by_cases e : j = k
              · subst e
                rw [hx.out] at hx'
                rw [hy.out] at hn
                cases hx'
                cases hn
                have hm' := hm.out
                exact ⟨hp, by omega⟩
              · exact HN.out j n xs' (by omega) hn hx'⟩
            case measure => simp [intOf]; omega
          · have d2 : decide (y > (m : Int)) = true := by simpa using hq
            have HB : Hid (takenOk xss t = false) := takenOk_no2 (fun hh => by
              have := hh.2 k y xs hy.out hx.out
              have hm' := hm.out
              omega)
            go_wp2
            go_ret
            exact ⟨ret_bool HB.out.symm, hdr⟩
        · have d1 : decide (y < 0) = true := by simpa using hp
          have HB : Hid (takenOk xss t = false) := takenOk_no2 (fun hh => by
            have := hh.2 k y xs hy.out hx.out
            omega)
          go_wp2
          go_ret
          exact ⟨ret_bool HB.out.symm, hdr⟩
      · obtain rfl : t.length = k := by omega
        go_wp2
        go_ret
        exact ⟨ret_bool (takenOk_yes H1.out ⟨HLn.out, fun k n xs hn hx => HN.out k n xs (List.getElem?_eq_some_iff.1 hn).1 hn hx⟩).symm, hdr⟩
  · have hd : decide ((t.length : Int) = (xss.length : Int)) = false := by simp; omega
    have HB : Hid (takenOk xss t = false) := takenOk_no2 (fun hh => hl hh.1)
    go_enter Try.func18, Try.ntmps18
    go_wp2_with (go_at_call 14; refine HL.mono ?_; rintro e w2 ⟨rfl, hd0⟩)
    go_ret
    exact ⟨ret_bool HB.out.symm, hd0⟩

theorem S_TakenOk (w : World) (v : Value) (xss : List (List Int)) (h : Rd2 w v xss) (_ : I64ss xss) (_ : SzOk xss) (vt : Value) (t : List Int) (ht : Rd w vt (ints t)) (_ : I64s t) (_ : t.length ≤ 1048576) : Calls Try.prog 16 #[v, vt] w (RetB (.bool (takenOk xss t)) w) := retB_dr (s_TakenOk v xss vt t w h ht)
theorem I_TakenOk (w : World) (v : Value) (xss : List (List Int)) (h : Rd2 w v xss) (_ : I64ss xss) (_ : SzOk xss) (vt : Value) (t : List Int) (ht : Rd w vt (ints t)) (_ : I64s t) (_ : t.length ≤ 1048576) : Calls Try.prog 18 #[v, vt] w (RetB (.bool (takenOk xss t)) w) := retB_dr (i_TakenOk v xss vt t w h ht)

set_option maxRecDepth 100000 in
set_option maxHeartbeats 4000000 in
theorem law_TakenOk (w : World) (vxlists : Value) (xlists : List (List Int)) (hxlists : Rd2 w vxlists xlists) (fxlists : I64ss xlists) (vxtaken : Value) (xtaken : List Int) (hxtaken : Rd w vxtaken (ints xtaken)) (fxtaken : I64s xtaken) : Calls Try.prog 4 #[vxlists, vxtaken] w (Law w) := by
  obtain ⟨axlists, cxlists, rfl, _, hcxlists⟩ := hxlists.form
  obtain ⟨axtaken, cxtaken, rfl, _, hcxtaken⟩ := hxtaken.formi
  by_cases lxtaken : xtaken.length ≤ 1048576
  case neg =>
    have hd : decide ((xtaken.length : Int) > 1048576) = true := by simp; omega
    go_enter Try.func4, Try.ntmps4
    go_wp2_with fail
    go_ret
    exact ⟨rfl, Below.refl _ _⟩
  have dxtaken : decide ((xtaken.length : Int) > 1048576) = false := by simp; omega
  have hs1 := szSS_le xlists 1048576
  obtain ⟨L1, hL1⟩ : ∃ z, szSS xlists 1048576 = z := ⟨_, rfl⟩
  rw [hL1] at hs1
  have HL1 := Lib.hid hL1
  clear hL1
  by_cases pxlists : L1 < 0
  case pos =>
    go_enter Try.func4, Try.ntmps4
    go_wp2_with fail
    refine (szIntSS_c _ xlists 1048576 _ hxlists (by omega) (by omega)).mono ?_
    rintro e w' ⟨rfl, rfl⟩
    rw [HL1.out]
    go_wp2_with fail
    go_ret
    exact ⟨rfl, Below.refl _ _⟩
  have lxlists : SzOk xlists := szSS_ok (left := 1048576) (by have := HL1.out; omega) (by omega)
  obtain ⟨r0, HS, HI⟩ : ∃ (r0 : Bool), 
      (∀ (W : World) (Vxlists : Value) (Hxlists : Rd2 W Vxlists xlists) (Vxtaken : Value) (Hxtaken : Rd W Vxtaken (ints xtaken)), Calls Try.prog 16 #[Vxlists, Vxtaken] W (RetB (.bool r0) W)) ∧
      (∀ (W : World) (Vxlists : Value) (Hxlists : Rd2 W Vxlists xlists) (Vxtaken : Value) (Hxtaken : Rd W Vxtaken (ints xtaken)), Calls Try.prog 18 #[Vxlists, Vxtaken] W (RetB (.bool r0) W)) :=
    ⟨_, fun W Vxlists Hxlists Vxtaken Hxtaken => S_TakenOk W Vxlists xlists Hxlists fxlists lxlists Vxtaken xtaken Hxtaken fxtaken lxtaken, fun W Vxlists Hxlists Vxtaken Hxtaken => I_TakenOk W Vxlists xlists Hxlists fxlists lxlists Vxtaken xtaken Hxtaken fxtaken lxtaken⟩
  have GS := Lib.hid HS
  have GI := Lib.hid HI
  clear HS HI
  go_enter Try.func4, Try.ntmps4
  go_wp2_with fail
  refine (szIntSS_c _ xlists 1048576 _ hxlists (by omega) (by omega)).mono ?_
  rintro e w' ⟨rfl, rfl⟩
  rw [HL1.out]
  have bt : Below w.heap.size w w := Below.refl _ _
  go_wp2_with fail
  refine (toIntSS_c _ xlists _ (hxlists.below bt) lxlists).mono ?_
  rintro e w1 ⟨vy1, rfl, oy1, b1⟩
  replace bt := bt.trans (b1.mono bt.size)
  have z1 := b1.size
  go_wp2_with fail
  refine (toIntS_c _ xtaken _ (hxtaken.below bt) (by omega)).mono ?_
  rintro e w2 ⟨vy2, rfl, oy2, b2⟩
  replace oy1 := oy1.below b2
  replace bt := bt.trans (b2.mono bt.size)
  have z2 := b2.size
  go_wp2_with fail
  refine ((GS.out _ _ oy1.rd _ oy2.rd)).mono ?_
  rintro e w3 ⟨rfl, b3⟩
  replace oy1 := oy1.below b3
  replace oy2 := oy2.below b3
  replace bt := bt.trans (b3.mono bt.size)
  have z3 := b3.size
  go_wp2_with fail
  refine (toIntSS_c _ xlists _ (hxlists.below bt) lxlists).mono ?_
  rintro e w4 ⟨vy3, rfl, oy3, b4⟩
  replace oy1 := oy1.below b4
  replace oy2 := oy2.below b4
  replace bt := bt.trans (b4.mono bt.size)
  have z4 := b4.size
  go_wp2_with fail
  refine (toIntS_c _ xtaken _ (hxtaken.below bt) (by omega)).mono ?_
  rintro e w5 ⟨vy4, rfl, oy4, b5⟩
  replace oy1 := oy1.below b5
  replace oy2 := oy2.below b5
  replace oy3 := oy3.below b5
  replace bt := bt.trans (b5.mono bt.size)
  have z5 := b5.size
  go_wp2_with fail
  refine ((GI.out _ _ oy3.rd _ oy4.rd)).mono ?_
  rintro e w6 ⟨rfl, b6⟩
  replace oy1 := oy1.below b6
  replace oy2 := oy2.below b6
  replace oy3 := oy3.below b6
  replace oy4 := oy4.below b6
  replace bt := bt.trans (b6.mono bt.size)
  have z6 := b6.size
  go_wp2_with fail
  refine (toIntSS_c _ xlists _ (hxlists.below bt) lxlists).mono ?_
  rintro e w7 ⟨vy5, rfl, oy5, b7⟩
  replace oy1 := oy1.below b7
  replace oy2 := oy2.below b7
  replace oy3 := oy3.below b7
  replace oy4 := oy4.below b7
  replace bt := bt.trans (b7.mono bt.size)
  have z7 := b7.size
  go_wp2_with fail
  refine (eqIntSS_c _ _ xlists xlists _ oy3.rd oy5.rd).mono ?_
  rintro e w8 ⟨rfl, d8⟩
  have b8 := d8.below w7.heap.size
  rw [eqII_self]
  replace oy1 := oy1.below b8
  replace oy2 := oy2.below b8
  replace oy3 := oy3.below b8
  replace oy4 := oy4.below b8
  replace oy5 := oy5.below b8
  replace bt := bt.trans (b8.mono bt.size)
  have z8 := b8.size
  go_wp2_with fail
  refine (toIntS_c _ xtaken _ (hxtaken.below bt) (by omega)).mono ?_
  rintro e w9 ⟨vy6, rfl, oy6, b9⟩
  replace oy1 := oy1.below b9
  replace oy2 := oy2.below b9
  replace oy3 := oy3.below b9
  replace oy4 := oy4.below b9
  replace oy5 := oy5.below b9
  replace bt := bt.trans (b9.mono bt.size)
  have z9 := b9.size
  go_wp2_with fail
  refine (eqIntS_c _ _ xtaken xtaken _ oy4.rd oy6.rd).mono ?_
  rintro e w10 ⟨rfl, d10⟩
  have b10 := d10.below w9.heap.size
  rw [eqI_self]
  replace oy1 := oy1.below b10
  replace oy2 := oy2.below b10
  replace oy3 := oy3.below b10
  replace oy4 := oy4.below b10
  replace oy5 := oy5.below b10
  replace oy6 := oy6.below b10
  replace bt := bt.trans (b10.mono bt.size)
  have z10 := b10.size
  go_wp2_with fail
  go_ret
  exact ⟨rfl, bt⟩


end Go.Proofs.Ytkidbnlebeaikaa
