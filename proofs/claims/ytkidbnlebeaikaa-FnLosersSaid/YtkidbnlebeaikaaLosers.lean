/- Walks: trees of losers. -/
import Derived.Test.YtkidbnlebeaikaaLists
import Derived.Test.YtkidbnlebeaikaaPlainLosers
namespace Go.Proofs.Ytkidbnlebeaikaa
open Go.RowKit
set_option linter.unusedVariables false
set_option linter.unusedSimpArgs false

def rowOk (xs : List Int) : Bool := decide (xs.length ≤ 10) && adjB xs
def listsOk (xss : List (List Int)) : Bool := inB (xss.length : Int) 1 8 && xss.all rowOk
theorem listsOk_iff {xss : List (List Int)} : listsOk xss = true ↔ (1 ≤ xss.length ∧ xss.length ≤ 8) ∧ ∀ xs ∈ xss, xs.length ≤ 10 ∧ adjB xs = true := by
  simp only [listsOk, rowOk, Bool.and_eq_true, inB_iff, List.all_eq_true, decide_eq_true_eq]
  constructor
  · rintro ⟨h1, h2⟩; exact ⟨by omega, h2⟩
  · rintro ⟨h1, h2⟩; exact ⟨by omega, h2⟩

theorem k_ListsOk1 : Known 45 := known Try.func45 (by kernel_rfl) (by kernel_rfl)
theorem i_ListsOk1 (v : Value) (xs : List Int) (w : World) (h : Rd w v (ints xs)) : Calls Try.prog 45 #[v] w (RetQ (.bool (!rowOk xs)) w) := by
  have HS := f_IsSorted v xs w h
  obtain ⟨a, c, rfl, h2, h3⟩ := h.formi
  by_cases hl : xs.length ≤ 10
  · have hd : decide ((xs.length : Int) > 10) = false := by simp; omega
    go_enter Try.func45, Try.ntmps45
    go_wp2_with (go_at_call 46; refine HS.mono ?_; rintro e w2 ⟨rfl, hd⟩)
    go_ret
    exact ⟨ret_bool (by simp [rowOk, hl]), by assumption⟩
  · have hd : decide ((xs.length : Int) > 10) = true := by simp; omega
    go_enter Try.func45, Try.ntmps45
    go_wp2
    go_ret
    exact ⟨ret_bool (by simp [rowOk, hl]), Dr.refl _⟩

set_option maxHeartbeats 400000 in
theorem i_ListsOk (v : Value) (xss : List (List Int)) (w : World) (h : Rd2 w v xss) : Calls Try.prog 14 #[v] w (RetQ (.bool (listsOk xss)) w) := by
  obtain ⟨a, c, rfl, h2, h3⟩ := h.form
  have HF := f_ContainsFunc2 (fun x => !rowOk x) 45 #[] k_ListsOk1 _ xss w h (fun wr r xs _ _ hr => by simpa using i_ListsOk1 r xs wr hr)
  have HR : Hid (listsOk xss = (inB (xss.length : Int) 1 8 && !(xss.any fun x => !rowOk x))) := by
    show _ = _
    rw [List.not_any_eq_all_not]
    simp [listsOk]
  generalize (xss.any fun x => !rowOk x) = r at *
  by_cases h1 : 1 ≤ xss.length
  · by_cases h8 : xss.length ≤ 8
    · go_enter Try.func14, Try.ntmps14
      go_wp2_with (go_at_call 44; refine HF.mono ?_; rintro e w2 ⟨rfl, hd⟩)
      go_ret
      exact ⟨ret_bool (by rw [HR.out, inB_iff.2 (by omega)]; simp), hd⟩
    · have hd8 : decide ((xss.length : Int) ≤ 8) = false := by simp; omega
      go_enter Try.func14, Try.ntmps14
      go_wp2
      go_ret
      exact ⟨ret_bool (by rw [HR.out, inB_no.2 (by omega)]; simp), Dr.refl _⟩
  · have hd1 : decide ((xss.length : Int) ≥ 1) = false := by simp; omega
    go_enter Try.func14, Try.ntmps14
    go_wp2
    go_ret
    exact ⟨ret_bool (by rw [HR.out, inB_no.2 (by omega)]; simp), Dr.refl _⟩

set_option maxHeartbeats 400000 in
theorem s_ListsOk (v : Value) (xss : List (List Int)) (w : World) (h : Rd2 w v xss) : Calls Try.prog 12 #[v] w (RetQ (.bool (listsOk xss)) w) := by
  obtain ⟨a, c, rfl, h2, h3⟩ := h.form
  cases h1 : inB (xss.length : Int) 1 8
  · have HR : Hid (listsOk xss = false) := by simp [listsOk, h1, Hid]
    go_enter Try.func12, Try.ntmps12
    go_wp2_with (go_at_call 42; refine (s_l01In _ _ _ _).mono ?_; rintro e w' ⟨rfl, rfl⟩)
    go_ret
    exact ⟨ret_bool HR.out.symm, Dr.refl _⟩
  · have HR : Hid (listsOk xss = xss.all rowOk) := by simp [listsOk, h1, Hid]
    go_enter Try.func12, Try.ntmps12
    go_wp2_with (go_at_call 42; refine (s_l01In _ _ _ _).mono ?_; rintro e w' ⟨rfl, rfl⟩)
    go_loopw [11] (fun i wr => ∃ k : Nat, k ≤ xss.length ∧ i = .int .i64 k ∧ Dr w wr ∧ Hid (∀ (j : Nat) y, j < k → xss[j]? = some y → rowOk y = true)) (fun i _ => xss.length - (intOf i).toNat)
    case atStart => exact ⟨0, Nat.zero_le _, rfl, Dr.refl _, fun j y hj => by omega⟩
    case round =>
      obtain ⟨k, hkl, rfl, hdr, HN⟩ := hrel
      by_cases hlt : k < xss.length
      · obtain ⟨ad, b, m, d, xs, rfl, hc, hx, hm, hmd, hd, hr⟩ := (h.dr hdr).row hlt
        have HS := s_l03Rises _ xs wr hr
        by_cases hl : m ≤ 10
        · have hd10 : decide ((m : Int) > 10) = false := by simp; omega
          cases hp : adjB xs
          · rw [hp] at HS
            have HB : Hid (xss.all rowOk = false) := by
              show _ = _
              rw [List.all_eq_false]
              exact ⟨xs, List.mem_of_getElem? hx.out, by simp [rowOk, hp]⟩
            go_wp2_with (go_at_call 43; refine HS.mono ?_; rintro e w2 ⟨rfl, hd2⟩)
            go_ret
            exact ⟨ret_bool (by rw [HR.out, HB.out]), hdr.trans hd2⟩
          · rw [hp] at HS
            go_wp2_with (go_at_call 43; refine HS.mono ?_; rintro e w2 ⟨rfl, hd2⟩)
            go_roundw
            case rel => exact ⟨k + 1, by omega, by go_num, hdr.trans hd2, fun j y hj hy => by
              by_cases e : j = k
              · subst e
                rw [hx.out] at hy
                cases hy
                simp only [rowOk, hp, Bool.and_true, decide_eq_true_eq]
                have := hm.out
                omega
              · exact HN.out j y (by omega) hy⟩
            case measure => simp [intOf]; omega
        · have hd10 : decide ((m : Int) > 10) = true := by simp; omega
          have HB : Hid (xss.all rowOk = false) := by
            show _ = _
            rw [List.all_eq_false]
            refine ⟨xs, List.mem_of_getElem? hx.out, ?_⟩
            have h9 : ¬ xs.length ≤ 10 := by have := hm.out; omega
            simp [rowOk, h9]
          go_wp2
          go_ret
          exact ⟨ret_bool (by rw [HR.out, HB.out]), hdr⟩
      · obtain rfl : xss.length = k := by omega
        go_wp2
        go_ret
        refine ⟨ret_bool ?_, hdr⟩
        rw [HR.out]
        symm
        rw [List.all_eq_true]
        intro x hx
        obtain ⟨j, hj, rfl⟩ := List.getElem_of_mem hx
        exact HN.out j _ hj (List.getElem?_eq_getElem hj)

theorem S_ListsOk (w : World) (v : Value) (xss : List (List Int)) (h : Rd2 w v xss) (_ : I64ss xss) (_ : SzOk xss) : Calls Try.prog 12 #[v] w (RetB (.bool (listsOk xss)) w) := retB_dr (s_ListsOk v xss w h)
theorem I_ListsOk (w : World) (v : Value) (xss : List (List Int)) (h : Rd2 w v xss) (_ : I64ss xss) (_ : SzOk xss) : Calls Try.prog 14 #[v] w (RetB (.bool (listsOk xss)) w) := retB_dr (i_ListsOk v xss w h)

set_option maxRecDepth 100000 in
set_option maxHeartbeats 4000000 in
theorem law_ListsOk (w : World) (vxlists : Value) (xlists : List (List Int)) (hxlists : Rd2 w vxlists xlists) (fxlists : I64ss xlists) : Calls Try.prog 3 #[vxlists] w (Law w) := by
  obtain ⟨axlists, cxlists, rfl, _, hcxlists⟩ := hxlists.form
  have hs1 := szSS_le xlists 1048576
  obtain ⟨L1, hL1⟩ : ∃ z, szSS xlists 1048576 = z := ⟨_, rfl⟩
  rw [hL1] at hs1
  have HL1 := Lib.hid hL1
  clear hL1
  by_cases pxlists : L1 < 0
  case pos =>
    go_enter Try.func3, Try.ntmps3
    go_wp2_with fail
    refine (szIntSS_c _ xlists 1048576 _ hxlists (by omega) (by omega)).mono ?_
    rintro e w' ⟨rfl, rfl⟩
    rw [HL1.out]
    go_wp2_with fail
    go_ret
    exact ⟨rfl, Below.refl _ _⟩
  have lxlists : SzOk xlists := szSS_ok (left := 1048576) (by have := HL1.out; omega) (by omega)
  obtain ⟨r0, HS, HI⟩ : ∃ (r0 : Bool), 
      (∀ (W : World) (Vxlists : Value) (Hxlists : Rd2 W Vxlists xlists), Calls Try.prog 12 #[Vxlists] W (RetB (.bool r0) W)) ∧
      (∀ (W : World) (Vxlists : Value) (Hxlists : Rd2 W Vxlists xlists), Calls Try.prog 14 #[Vxlists] W (RetB (.bool r0) W)) :=
    ⟨_, fun W Vxlists Hxlists => S_ListsOk W Vxlists xlists Hxlists fxlists lxlists, fun W Vxlists Hxlists => I_ListsOk W Vxlists xlists Hxlists fxlists lxlists⟩
  have GS := Lib.hid HS
  have GI := Lib.hid HI
  clear HS HI
  go_enter Try.func3, Try.ntmps3
  go_wp2_with fail
  refine (szIntSS_c _ xlists 1048576 _ hxlists (by omega) (by omega)).mono ?_
  rintro e w' ⟨rfl, rfl⟩
  rw [HL1.out]
  have bt : Below w.heap.size w w := Below.refl _ _
  go_wp2_with fail
  refine (toIntSS_c _ xlists _ (hxlists.below bt) lxlists).mono ?_
  rintro e w1 ⟨vy1, rfl, oy1, b1⟩
  replace bt := bt.trans (b1.mono bt.size)
  have z1 := b1.size
  go_wp2_with fail
  refine ((GS.out _ _ oy1.rd)).mono ?_
  rintro e w2 ⟨rfl, b2⟩
  replace oy1 := oy1.below b2
  replace bt := bt.trans (b2.mono bt.size)
  have z2 := b2.size
  go_wp2_with fail
  refine (toIntSS_c _ xlists _ (hxlists.below bt) lxlists).mono ?_
  rintro e w3 ⟨vy2, rfl, oy2, b3⟩
  replace oy1 := oy1.below b3
  replace bt := bt.trans (b3.mono bt.size)
  have z3 := b3.size
  go_wp2_with fail
  refine ((GI.out _ _ oy2.rd)).mono ?_
  rintro e w4 ⟨rfl, b4⟩
  replace oy1 := oy1.below b4
  replace oy2 := oy2.below b4
  replace bt := bt.trans (b4.mono bt.size)
  have z4 := b4.size
  go_wp2_with fail
  refine (toIntSS_c _ xlists _ (hxlists.below bt) lxlists).mono ?_
  rintro e w5 ⟨vy3, rfl, oy3, b5⟩
  replace oy1 := oy1.below b5
  replace oy2 := oy2.below b5
  replace bt := bt.trans (b5.mono bt.size)
  have z5 := b5.size
  go_wp2_with fail
  refine (eqIntSS_c _ _ xlists xlists _ oy2.rd oy3.rd).mono ?_
  rintro e w6 ⟨rfl, d6⟩
  have b6 := d6.below w5.heap.size
  rw [eqII_self]
  replace oy1 := oy1.below b6
  replace oy2 := oy2.below b6
  replace oy3 := oy3.below b6
  replace bt := bt.trans (b6.mono bt.size)
  have z6 := b6.size
  go_wp2_with fail
  go_ret
  exact ⟨rfl, bt⟩

end Go.Proofs.Ytkidbnlebeaikaa
