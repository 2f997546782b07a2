/- Walks: networks. -/
import Derived.Test.YtlmbaijkeahkfaaDoorNumWalks
import Derived.Deep.RegionHeld3
namespace Go.Proofs.YtlmbaijkeahkfaaDoor
open Go.RowKit
set_option linter.unusedVariables false
set_option linter.unusedSimpArgs false

def netRow (n : Int) (xs : List Int) : Bool := match xs with | [x, y] => inB x 0 (n - 1) && inB y 0 (n - 1) && !decide (x = y) | _ => false
def netOk (n : Int) (xss : List (List Int)) : Bool := inB n 1 8 && decide (xss.length ≤ 60) && xss.all (netRow n)
theorem Dr.cell {w w' : World} (h : Dr w w') (p : Addr) : w'.cell? p = w.cell? p := by
  obtain ⟨n, rfl⟩ := h
  rfl
theorem netOk_no {n : Int} {xss : List (List Int)} {xs : List Int} (hx : xs ∈ xss) (h : netRow n xs = false) : netOk n xss = false := by
  unfold netOk
  rw [List.all_eq_false.2 ⟨xs, hx, by simp [h]⟩]
  simp

/-- it returns the value b; no block of before has turned, no draw of blocks alone counts -/
def RetN (b : Value) (w : World) (e : Ending) (w' : World) : Prop := e = .returned b ∧ Below w.heap.size w w'

set_option maxHeartbeats 1000000 in
theorem s_NetworkOk (n : Int) (v : Value) (xss : List (List Int)) (w : World) (h : Rd2 w v xss) (hn : I64 n) : Calls Tryd.prog 44 #[.agg #[.int .i64 n, v]] w (RetB (.bool (netOk n xss)) w) := by
  obtain ⟨a, c, rfl, h2, h3⟩ := h.form
  have hbA : Below w.heap.size w (w.alloc (.cells #[.int .i64 n, .slice a xss.length c] 32)) := (Below.refl _ _).alloc (Nat.le_refl _) _
  have h' := h.alloc (.cells #[.int .i64 n, .slice a xss.length c] 32)
  cases h1 : inB n 1 8
  · have HR : Hid (netOk n xss = false) := by simp [netOk, h1, Hid]
    go_enter Tryd.func44, Tryd.ntmps44
    go_wp2_with (go_at_call 71; refine (s_l01In _ _ _ _).mono ?_; rintro e w' ⟨rfl, rfl⟩)
    go_ret
    exact ⟨ret_bool HR.out.symm, hbA⟩
  have hn8 := inB_iff.1 h1
  by_cases hl : xss.length ≤ 60
  · have hd60 : decide ((xss.length : Int) > 60) = false := by simp; omega
    have HR : Hid (netOk n xss = xss.all (netRow n)) := by simp [netOk, h1, hl, Hid]
    have HNO : Hid (∀ xs, xs ∈ xss → netRow n xs = false → netOk n xss = false) := fun xs => netOk_no
    generalize netOk n xss = r at HR HNO ⊢
    have iw : IntKind.i64.wrap (n - 1) = n - 1 := IntWalk.i64_in _ (by omega)
    go_enter Tryd.func44, Tryd.ntmps44
    go_wp2_with (go_at_call 71; refine (s_l01In _ _ _ _).mono ?_; rintro e w' ⟨rfl, rfl⟩)
    go_loopw [18] (fun i wr => ∃ k : Nat, k ≤ xss.length ∧ i = .int .i64 k ∧ Dr (w.alloc (.cells #[.int .i64 n, .slice a xss.length c] 32)) wr ∧ Hid (∀ (j : Nat) y, j < k → xss[j]? = some y → netRow n y = true)) (fun i _ => xss.length - (intOf i).toNat)
    case atStart => exact ⟨0, Nat.zero_le _, rfl, Dr.refl _, fun j y hj => by omega⟩
    case round =>
      obtain ⟨k, hkl, rfl, hdr, HN⟩ := hrel
      by_cases hlt : k < xss.length
      · obtain ⟨ad, b, m, d, xs, rfl, hc, hx, hm, hmd, hd, hr⟩ := (h'.dr hdr).row hlt
        have hb0 : wr.cell? ⟨w.heap.size, 0, none⟩ = some (.int .i64 n) := (hdr.cell _).trans (by go_simp)
        have hmem := List.mem_of_getElem? hx.out
        by_cases hm2 : m = 2
        · subst hm2
          obtain ⟨x, y, rfl⟩ : ∃ x y, xs = [x, y] := by
            have := hm.out
            match xs, this with
            | [x, y], _ => exact ⟨x, y, rfl⟩
          obtain ⟨z, x', rfl, hcx, hxx⟩ := hr.int (k := 0) (by simp)
          obtain ⟨z', y', hz, hcy, hyy⟩ := hr.int (k := 1) (by simp)
          obtain rfl : z = z' := by injection hz
          clear hz
          have e1 := hxx.out
          have e2 := hyy.out
          simp only [List.getElem?_cons_zero, List.getElem?_cons_succ, Option.some.injEq] at e1 e2
          subst e1 e2
          rw [add_succ] at hcy
          have hcx' : wr.cell? z = some (.int .i64 x) := by simpa [Addr.add] using hcx
          clear hcx
          have HRW : Hid (netRow n [x, y] = (inB x 0 (n - 1) && inB y 0 (n - 1) && !decide (x = y))) := rfl
          have HX := Lib.hid (fun wq => s_l01In x 0 (n - 1) wq)
          have HY := Lib.hid (fun wq => s_l01In y 0 (n - 1) wq)
          cases hix : inB x 0 (n - 1)
          · rw [hix] at HX
            have HE : Hid (r = false) := HNO.out _ hmem (by rw [HRW.out, hix]; rfl)
            clear hix
            go_wp2
            go_quiet (first | (go_at_call 71; exact Calls.quiet_of_same ((HX.out _).mono fun _ _ hh => ⟨hh.1, hh.2.symm⟩)))
            go_wp2
            go_ret
            exact ⟨ret_bool HE.out.symm, hbA.trans ((hdr.step _).below _)⟩
          · rw [hix] at HX
            cases hiy : inB y 0 (n - 1)
            · rw [hiy] at HY
              have HE : Hid (r = false) := HNO.out _ hmem (by rw [HRW.out, hix, hiy]; rfl)
              go_wp2
              go_quiet ((go_at_call 71; exact Calls.quiet_of_same ((s_l01In _ _ _ _).mono fun _ _ hh => ⟨hh.1, hh.2.symm⟩)))
              go_wp2
              go_ret
              exact ⟨ret_bool HE.out.symm, hbA.trans ((hdr.step _).below _)⟩
            · rw [hiy] at HY
              by_cases hxy : x = y
              · subst hxy
                have HE : Hid (r = false) := HNO.out _ hmem (by rw [HRW.out, hix]; simp)
                go_wp2
                go_quiet ((go_at_call 71; exact Calls.quiet_of_same ((s_l01In _ _ _ _).mono fun _ _ hh => ⟨hh.1, hh.2.symm⟩)))
                go_wp2
                go_ret
                exact ⟨ret_bool HE.out.symm, hbA.trans ((hdr.step _).below _)⟩
              · have HE : Hid (netRow n [x, y] = true) := by show _ = _; rw [HRW.out, hix, hiy]; simp [hxy]
                have hxb : (x == y) = false := by rw [beq_eq_false_iff_ne]; exact hxy
                go_wp2
                go_quiet ((go_at_call 71; exact Calls.quiet_of_same ((s_l01In _ _ _ _).mono fun _ _ hh => ⟨hh.1, hh.2.symm⟩)))
                go_wp2
                go_roundw
                case rel => exact ⟨k + 1, by omega, by go_num, hdr.step _, fun j y' hj hy' => by
                  by_cases e : j = k
                  · subst e
                    rw [hx.out] at hy'
                    cases hy'
                    exact HE.out
                  · exact HN.out j y' (by omega) hy'⟩
                case measure => simp [intOf]; omega
        · have hd2 : ((m : Int) == 2) = false := by rw [beq_eq_false_iff_ne]; omega
          have hd3 : ((m : Int) != 2) = true := by rw [bne_iff_ne]; omega
          have HE : Hid (r = false) := HNO.out _ hmem (by
            have := hm.out
            match xs, this with
            | [], _ => rfl
            | [x], _ => rfl
            | [x, y], h => exact absurd h (by simpa using hm2)
            | x :: y :: z :: t, _ => rfl)
          go_wp2
          go_quiet (fail)
          go_wp2
          go_ret
          exact ⟨ret_bool HE.out.symm, hbA.trans ((hdr.step _).below _)⟩
      · obtain rfl : xss.length = k := by omega
        go_wp2
        go_ret
        refine ⟨ret_bool ?_, hbA.trans (hdr.below _)⟩
        rw [HR.out]
        symm
        rw [List.all_eq_true]
        intro x hx
        obtain ⟨j, hj, rfl⟩ := List.getElem_of_mem hx
        exact HN.out j _ hj (List.getElem?_eq_getElem hj)
  · have hd60 : decide ((xss.length : Int) > 60) = true := by simp; omega
    have HR : Hid (netOk n xss = false) := by simp [netOk, hl, Hid]
    go_enter Tryd.func44, Tryd.ntmps44
    go_wp2_with (go_at_call 71; refine (s_l01In _ _ _ _).mono ?_; rintro e w' ⟨rfl, rfl⟩)
    go_ret
    exact ⟨ret_bool HR.out.symm, hbA⟩

end Go.Proofs.YtlmbaijkeahkfaaDoor
