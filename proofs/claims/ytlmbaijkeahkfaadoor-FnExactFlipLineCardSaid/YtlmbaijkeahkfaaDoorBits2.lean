/- Walks: masks through networks. -/
import Derived.Test.YtlmbaijkeahkfaaDoorBits
import Derived.Test.YtlmbaijkeahkfaaDoorCountReg
import Derived.Test.YtlmbaijkeahkfaaDoorApp
import Derived.Deep.RegionHeld3
namespace Go.Proofs.YtlmbaijkeahkfaaDoor
open Go.RowKit
set_option linter.unusedVariables false
set_option linter.unusedSimpArgs false

/-- The mask behind the first k comparators. -/
def runM (xss : List (List Int)) (m : Nat) : Nat → Nat
  | 0 => m
  | k + 1 => match xss[k]? with
    | some [a, b] => stepN (runM xss m k) a.toNat b.toNat
    | _ => runM xss m k
theorem runM_succ {xss : List (List Int)} {m k a b : Nat} (h : xss[k]? = some [(a : Int), (b : Int)]) : runM xss m (k + 1) = stepN (runM xss m k) a b := by
  simp only [runM, h, Int.toNat_natCast]
theorem stepN_lt8 : ∀ m : Nat, m < 256 → ∀ i : Nat, i < 8 → ∀ k : Nat, k < 8 → stepN m i k < 256 := by decide +kernel
theorem stepN_lt : ∀ n : Nat, n < 9 → ∀ m : Nat, m < 2 ^ n → ∀ i : Nat, i < n → ∀ k : Nat, k < n → stepN m i k < 2 ^ n := by decide +kernel
theorem stepN_ones : ∀ m : Nat, m < 256 → ∀ i : Nat, i < 8 → ∀ k : Nat, k < 8 → onesN (stepN m i k) = onesN m := by decide +kernel
theorem onesN_le' : ∀ n : Nat, n < 9 → ∀ m : Nat, m < 2 ^ n → onesN m ≤ n := by decide +kernel
theorem pow_le8 {n : Nat} (h : n ≤ 8) : 2 ^ n ≤ 256 := Nat.pow_le_pow_right (by decide) h
theorem runM_lt {N m : Nat} {xss : List (List Int)} (hk : netOk (N : Int) xss = true) (hm : m < 2 ^ N) : ∀ k, runM xss m k < 2 ^ N
  | 0 => hm
  | k + 1 => by
    have ih := runM_lt hk hm k
    obtain ⟨N', e, hN1, hN8, _⟩ := netOk_n hk
    cases hx : xss[k]? with
    | none => simp only [runM, hx]; exact ih
    | some xs =>
      obtain ⟨a, b, rfl, ha, hb, _⟩ := netOk_row hk hx
      rw [runM_succ hx]
      exact stepN_lt N (by omega) _ ih a ha b hb
theorem runM_ones {N m : Nat} {xss : List (List Int)} (hk : netOk (N : Int) xss = true) (hm : m < 2 ^ N) : ∀ k, onesN (runM xss m k) = onesN m
  | 0 => rfl
  | k + 1 => by
    have ih := runM_ones hk hm k
    have hl := runM_lt hk hm k
    obtain ⟨N', e, hN1, hN8, _⟩ := netOk_n hk
    have hp := pow_le8 (show N ≤ 8 by omega)
    cases hx : xss[k]? with
    | none => simp only [runM, hx]; exact ih
    | some xs =>
      obtain ⟨a, b, rfl, ha, hb, _⟩ := netOk_row hk hx
      rw [runM_succ hx, stepN_ones _ (by omega) a (by omega) b (by omega), ih]
/-- The mask that comes out, and whether it is sorted. -/
def outM (xss : List (List Int)) (m : Nat) : Nat := runM xss m xss.length
def okM (n : Nat) (xss : List (List Int)) (m : Nat) : Bool := decide (outM xss m = sortedN n (onesN m))
/-- The masks below M that are not sorted. -/
def unsN (n : Nat) (xss : List (List Int)) (M : Nat) : List Int := ((List.range M).filter fun m => !okM n xss m).map fun (m : Nat) => (m : Int)
theorem unsN_yes {n : Nat} {xss : List (List Int)} {m : Nat} (h : okM n xss m = true) : unsN n xss (m + 1) = unsN n xss m := by
  simp [unsN, List.range_succ, h]
theorem unsN_no {n : Nat} {xss : List (List Int)} {m : Nat} (h : okM n xss m = false) : unsN n xss (m + 1) = unsN n xss m ++ [(m : Int)] := by
  simp [unsN, List.range_succ, h]
theorem unsN_len (n : Nat) (xss : List (List Int)) (M : Nat) : (unsN n xss M).length ≤ M := by
  rw [unsN, List.length_map]
  exact Nat.le_trans (List.length_filter_le _ _) (by simp)
/-- The least mask that is not sorted, -1 if there is none. -/
def firstU (n : Nat) (xss : List (List Int)) : Int := match unsN n xss (2 ^ n) with | [] => -1 | m :: _ => m
def firstUns (n : Int) (xss : List (List Int)) : Int := if netOk n xss then firstU n.toNat xss else -1

theorem Rd2.pair {w : World} {N k : Nat} {a : Option Addr} {n c : Nat} {xss : List (List Int)} (h : Rd2 w (.slice a n c) xss) (hk : netOk (N : Int) xss = true) (hlt : k < xss.length) :
    ∃ (ad z : Addr) (d x y : Nat), a = some ad ∧ w.cell? (ad.add k) = some (.slice (some z) 2 d) ∧ w.cell? z = some (.int .i64 (x : Int)) ∧ w.cell? ⟨z.block, z.off + (0 + 1), none⟩ = some (.int .i64 (y : Int)) ∧ x < N ∧ y < N ∧ x ≠ y ∧ Hid (xss[k]? = some [(x : Int), (y : Int)]) := by
  obtain ⟨ad, b, m, d, xs, rfl, hc, hx, hm, hmd, hd, hr⟩ := h.row hlt
  obtain ⟨x, y, rfl, hxN, hyN, hxy⟩ := netOk_row hk hx.out
  obtain rfl : m = 2 := hm.out
  obtain ⟨z, x', rfl, hcx, hxx⟩ := hr.int (k := 0) (by simp)
  obtain ⟨z', y', hz, hcy, hyy⟩ := hr.int (k := 1) (by simp)
  obtain rfl : z = z' := by injection hz
  have e1 := hxx.out
  have e2 := hyy.out
  simp only [List.getElem?_cons_zero, List.getElem?_cons_succ, Option.some.injEq] at e1 e2
  subst e1 e2
  rw [add_succ] at hcy
  exact ⟨ad, z, d, x, y, rfl, hc, by simpa [Addr.add] using hcx, hcy, hxN, hyN, hxy, hx⟩

set_option maxHeartbeats 1000000 in
theorem i_bits (N : Nat) (v : Value) (xss : List (List Int)) (m : Nat) (w : World) (h : Rd2 w v xss) (hk : netOk (N : Int) xss = true) (hm : m < 2 ^ N) :
    Calls Tryd.prog 124 #[.agg #[.int .i64 N, v], .int .i64 m] w (RetB (.int .i64 (outM xss m : Nat)) w) := by
  obtain ⟨N', e, hN1, hN8, hL60⟩ := netOk_n hk
  obtain rfl : N = N' := by omega
  clear e
  have hp := pow_le8 hN8
  obtain ⟨a, c, rfl, _, _⟩ := h.form
  have hbA : Below w.heap.size w (w.alloc (.cells #[.int .i64 N, .slice a xss.length c] 32)) := (Below.refl _ _).alloc (Nat.le_refl _) _
  have h' := h.alloc (.cells #[.int .i64 N, .slice a xss.length c] 32)
  have HL := Lib.hid (fun k => runM_lt hk hm k)
  have HP := Lib.hid (fun (W : World) (hW : Rd2 W (.slice a xss.length c) xss) (k : Nat) (hlt : k < xss.length) => hW.pair hk hlt)
  clear hk
  go_enter Tryd.func124, Tryd.ntmps124
  go_wp2
  go_loopg [1, 10] xss.length (fun g mv iv wr => ∃ (k r : Nat), g = xss.length - k ∧ k ≤ xss.length ∧ iv = .int .i64 k ∧ mv = .int .i64 (r : Int) ∧ Dr (w.alloc (.cells #[.int .i64 N, .slice a xss.length c] 32)) wr ∧ Hid (r = runM xss m k))
  case atStart => exact ⟨0, m, rfl, Nat.zero_le _, rfl, rfl, Dr.refl _, rfl⟩
  case round =>
    obtain ⟨k, r, hg, hkl, rfl, rfl, hdr, HR⟩ := hrel
    by_cases hlt : k < xss.length
    · obtain ⟨ad, z, d, x, y, rfl, hc, hcx, hcy, hxN, hyN, hxy, hx⟩ := HP.out _ (h'.dr hdr) k hlt
      have hr : r < 256 := by have := HL.out k; rw [← HR.out] at this; omega
      have HS : Hid (stepN r x y = runM xss m (k + 1)) := by rw [Hid, runM_succ hx.out, ← HR.out]
      have HK := Lib.hid (fun W => i_step r x y hr (by omega) (by omega) W)
      clear hx
      go_wp2
      go_quiet ((go_at_call 153; exact Calls.quiet_of ((HK.out _).mono fun _ _ hh => ⟨hh.1, hh.2.imp fun _ e => e.symm⟩)))
      go_wp2
      go_roundg (xss.length - (k + 1))
      case measure => omega
      case rel => exact ⟨k + 1, stepN r x y, rfl, by omega, by go_num, rfl, hdr.step _, HS⟩
    · obtain rfl : xss.length = k := by omega
      go_wp2
      go_ret
      exact ⟨by rw [HR.out]; rfl, hbA.trans (hdr.below _)⟩

end Go.Proofs.YtlmbaijkeahkfaaDoor
