/- Walks: matches. -/
import Derived.Test.YtkidbnlebeaikaaTaken
import Derived.Test.YtkidbnlebeaikaaPlainTree
import Derived.Deep.RegionHeld3
namespace Go.Proofs.Ytkidbnlebeaikaa
open Go.RowKit
set_option linter.unusedVariables false
set_option linter.unusedSimpArgs false

theorem TK.at {xss : List (List Int)} {t : List Int} (h : TK xss t) {a : Nat} {n : Int} {xs : List Int} (hn : t[a]? = some n) (hx : xss[a]? = some xs) : ∃ k : Nat, n = (k : Int) ∧ k ≤ xs.length := by
  have := h.2 a n xs hn hx
  exact ⟨n.toNat, by omega, by omega⟩

set_option maxHeartbeats 1000000 in
theorem s_l28Beats (v : Value) (xss : List (List Int)) (vt : Value) (t : List Int) (w : World) (h : Rd2 w v xss) (ht : Rd w vt (ints t)) (hT : TK xss t) (hf : I64ss xss) (a b : Nat) (ha : a < b) (hb : b < xss.length) (h8 : xss.length ≤ 8) :
    Calls Try.prog 60 #[v, vt, .int .i64 a, .int .i64 b] w (RetQ (.bool (decide (key xss t a < key xss t b))) w) := by
  have hl := hT.1
  obtain ⟨a0, c0, rfl, _, _⟩ := h.form
  obtain ⟨a1, c1, rfl, _, _⟩ := ht.formi
  obtain ⟨p, na, rfl, hca, hna⟩ := ht.int (show a < t.length by omega)
  obtain ⟨p', nb, hp, hcb, hnb⟩ := ht.int (show b < t.length by omega)
  obtain rfl : p = p' := by injection hp
  clear hp
  obtain ⟨q, ba, ma, da, xa, rfl, hqa, hxa, hma, hmda, hda, hra⟩ := h.row (show a < xss.length by omega)
  obtain ⟨q', bb, mb, db, xb, hq, hqb, hxb, hmb, hmdb, hdb, hrb⟩ := h.row hb
  obtain rfl : q = q' := by injection hq
  clear hq
  obtain ⟨na, rfl, hka⟩ := hT.at hna.out hxa.out
  obtain ⟨nb, rfl, hkb⟩ := hT.at hnb.out hxb.out
  obtain rfl : ma = xa.length := hma.out
  obtain rfl : mb = xb.length := hmb.out
  have i1 : (a : Int) < (t.length : Int) := by omega
  have i2 : (b : Int) < (t.length : Int) := by omega
  have i3 : (a : Int) < (xss.length : Int) := by omega
  have i4 : (b : Int) < (xss.length : Int) := by omega
  by_cases h1 : nb < xb.length
  · have i5 : (nb : Int) < (xb.length : Int) := by omega
    obtain ⟨zb, yb, rfl, hyb, hYb⟩ := hrb.int h1
    have d1 : decide (nb = xb.length) = false := by simp; omega
    by_cases h2 : na < xa.length
    · have i6 : (na : Int) < (xa.length : Int) := by omega
      obtain ⟨za, ya, rfl, hya, hYa⟩ := hra.int h2
      have d2 : decide (na = xa.length) = false := by simp; omega
      have HR : Hid (decide (key xss t a < key xss t b) = decide (ya ≤ yb)) := by
        have := key_two (a := a) (b := b) (by omega) (by omega) (headOf_some hxb.out hnb.out hYb.out) (headOf_some hxa.out hna.out hYa.out)
        show _ = _
        rw [decide_eq_decide, this]
        omega
      generalize decide (key xss t a < key xss t b) = r at *
      go_enter Try.func60, Try.ntmps60
      go_wp2
      go_quiet (fail)
      go_wp2
      go_quiet (fail)
      go_wp2
      go_quiet (fail)
      go_wp2
      go_ret
      exact ⟨ret_bool HR.out.symm, ((Dr.refl _).step _).step _ |>.step _⟩
    · have d2 : decide (na = xa.length) = true := by simp; omega
      have HR : Hid (decide (key xss t a < key xss t b) = false) := by
        have := key_lt_some (a := b) (b := a) hf (by omega) (by omega) (headOf_none hxa.out hna.out (by omega)) (headOf_some hxb.out hnb.out hYb.out)
        show _ = _
        rw [decide_eq_false_iff_not]
        omega
      generalize decide (key xss t a < key xss t b) = r at *
      go_enter Try.func60, Try.ntmps60
      go_wp2
      go_quiet (fail)
      go_wp2
      go_quiet (fail)
      go_wp2
      go_ret
      exact ⟨ret_bool HR.out.symm, ((Dr.refl _).step _).step _⟩
  · have d1 : decide (nb = xb.length) = true := by simp; omega
    have HR : Hid (decide (key xss t a < key xss t b) = true) := by
      have := key_lt_none (a := a) (b := b) hf (by omega) (by omega) (headOf_none hxb.out hnb.out (by omega)) (by omega)
      show _ = _
      rw [decide_eq_true_eq]
      exact this
    generalize decide (key xss t a < key xss t b) = r at *
    go_enter Try.func60, Try.ntmps60
    go_wp2
    go_quiet (fail)
    go_wp2
    go_ret
    exact ⟨ret_bool HR.out.symm, ((Dr.refl _).step _)⟩

set_option maxHeartbeats 1000000 in
theorem i_beats (v : Value) (xss : List (List Int)) (vt : Value) (t : List Int) (w : World) (h : Rd2 w v xss) (ht : Rd w vt (ints t)) (hT : TK xss t) (hf : I64ss xss) (a b : Nat) (ha : a < xss.length) (hb : b < xss.length) (h8 : xss.length ≤ 8) :
    Calls Try.prog 51 #[v, vt, .int .i64 a, .int .i64 b] w (RetQ (.bool (decide (key xss t a < key xss t b))) w) := by
  have hl := hT.1
  obtain ⟨a0, c0, rfl, _, _⟩ := h.form
  obtain ⟨a1, c1, rfl, _, _⟩ := ht.formi
  obtain ⟨p, na, rfl, hca, hna⟩ := ht.int (show a < t.length by omega)
  obtain ⟨p', nb, hp, hcb, hnb⟩ := ht.int (show b < t.length by omega)
  obtain rfl : p = p' := by injection hp
  clear hp
  obtain ⟨q, ba, ma, da, xa, rfl, hqa, hxa, hma, hmda, hda, hra⟩ := h.row (show a < xss.length by omega)
  obtain ⟨q', bb, mb, db, xb, hq, hqb, hxb, hmb, hmdb, hdb, hrb⟩ := h.row hb
  obtain rfl : q = q' := by injection hq
  clear hq
  obtain ⟨na, rfl, hka⟩ := hT.at hna.out hxa.out
  obtain ⟨nb, rfl, hkb⟩ := hT.at hnb.out hxb.out
  obtain rfl : ma = xa.length := hma.out
  obtain rfl : mb = xb.length := hmb.out
  have i1 : (a : Int) < (t.length : Int) := by omega
  have i2 : (b : Int) < (t.length : Int) := by omega
  have i3 : (a : Int) < (xss.length : Int) := by omega
  have i4 : (b : Int) < (xss.length : Int) := by omega
  by_cases h1 : nb < xb.length
  · have i5 : (nb : Int) < (xb.length : Int) := by omega
    obtain ⟨zb, yb, rfl, hyb, hYb⟩ := hrb.int h1
    have d1 : 0 < xb.length - nb := by omega
    by_cases h2 : na < xa.length
    · have i6 : (na : Int) < (xa.length : Int) := by omega
      obtain ⟨za, ya, rfl, hya, hYa⟩ := hra.int h2
      have d2 : 0 < xa.length - na := by omega
      have HR := Lib.hid (key_two (a := a) (b := b) (by omega) (by omega) (headOf_some hxb.out hnb.out hYb.out) (headOf_some hxa.out hna.out hYa.out))
      generalize key xss t a = ka at *
      generalize key xss t b = kb at *
      by_cases h3 : ya = yb
      · subst h3
        go_enter Try.func51, Try.ntmps51
        go_wp2
        go_quiet (fail)
        generalize xb.length - nb = lb at d1 ⊢
        generalize xa.length - na = la at d2 ⊢
        have e1 : ((lb : Int) == 0) = false := by simp; omega
        have e2 : ((la : Int) == 0) = false := by simp; omega
        go_wp2
        go_quiet (fail)
        go_wp2
        go_ret
        exact ⟨ret_bool (by rw [decide_eq_decide, HR.out]; simp), (Dr.refl _).step _⟩
      · have d3 : decide (ya = yb) = false := by simpa using h3
        go_enter Try.func51, Try.ntmps51
        go_wp2
        go_quiet (fail)
        generalize xb.length - nb = lb at d1 ⊢
        generalize xa.length - na = la at d2 ⊢
        have e1 : ((lb : Int) == 0) = false := by simp; omega
        have e2 : ((la : Int) == 0) = false := by simp; omega
        go_wp2
        go_quiet (fail)
        go_wp2
        go_quiet (fail)
        go_wp2
        go_ret
        exact ⟨ret_bool (by rw [decide_eq_decide, HR.out]; omega), (((Dr.refl _).step _).step _).step _⟩
    · have d2 : xa.length - na = 0 := by omega
      have HR : Hid (decide (key xss t a < key xss t b) = false) := by
        have := key_lt_some (a := b) (b := a) hf (by omega) (by omega) (headOf_none hxa.out hna.out (by omega)) (headOf_some hxb.out hnb.out hYb.out)
        show _ = _
        rw [decide_eq_false_iff_not]
        omega
      generalize decide (key xss t a < key xss t b) = r at *
      go_enter Try.func51, Try.ntmps51
      go_wp2
      go_quiet (fail)
      generalize xb.length - nb = lb at d1 ⊢
      generalize (if da = na then ba else Option.map (fun x => x.add na) ba) = pa
      go_wp2
      go_ret
      exact ⟨ret_bool HR.out.symm, ((Dr.refl _).step _)⟩
  · have d1 : xb.length - nb = 0 := by omega
    by_cases h2 : na < xa.length
    · have i6 : (na : Int) < (xa.length : Int) := by omega
      obtain ⟨za, ya, rfl, hya, hYa⟩ := hra.int h2
      have d2 : 0 < xa.length - na := by omega
      have HR : Hid (decide (key xss t a < key xss t b) = true) := by
        have := key_lt_some (a := a) (b := b) hf (by omega) (by omega) (headOf_none hxb.out hnb.out (by omega)) (headOf_some hxa.out hna.out hYa.out)
        show _ = _
        rw [decide_eq_true_eq]
        exact this
      generalize decide (key xss t a < key xss t b) = r at *
      go_enter Try.func51, Try.ntmps51
      go_wp2
      go_quiet (fail)
      generalize (if db = nb then bb else Option.map (fun x => x.add nb) bb) = pb
      generalize xa.length - na = la at d2 ⊢
      go_wp2
      go_ret
      exact ⟨ret_bool HR.out.symm, ((Dr.refl _).step _)⟩
    · have d2 : xa.length - na = 0 := by omega
      have HR : Hid (decide (key xss t a < key xss t b) = decide (a < b)) := by
        have := key_nn (a := a) (b := b) (by omega) (by omega) (headOf_none hxb.out hnb.out (by omega)) (headOf_none hxa.out hna.out (by omega))
        show _ = _
        rw [decide_eq_decide, this]
      generalize decide (key xss t a < key xss t b) = r at *
      go_enter Try.func51, Try.ntmps51
      go_wp2
      go_quiet (fail)
      generalize (if db = nb then bb else Option.map (fun x => x.add nb) bb) = pb
      generalize (if da = na then ba else Option.map (fun x => x.add na) ba) = pa
      go_wp2
      go_ret
      exact ⟨ret_bool (by rw [HR.out]; try simp), ((Dr.refl _).step _)⟩

end Go.Proofs.Ytkidbnlebeaikaa
