/- Walks: lists that rise; searches among rows. -/
import Derived.Test.YtlmbaijkeahkfaaDoorNumWalks
import Derived.Test.YtlmbaijkeahkfaaDoorPlainDigits
namespace Go.Proofs.YtlmbaijkeahkfaaDoor
open Go.RowKit
set_option linter.unusedVariables false
set_option linter.unusedSimpArgs false

set_option maxHeartbeats 400000 in
theorem s_l03Rises (v : Value) (xs : List Int) (w : World) (h : Rd w v (ints xs)) : Calls Tryd.prog 157 #[v] w (RetQ (.bool (adjB xs)) w) := by
  obtain ⟨a, c, rfl, h2, h3⟩ := h.formi
  go_enter Tryd.func157, Tryd.ntmps157
  go_wp2
  go_loopw [3] (fun i wr => ∃ n : Nat, n ≤ xs.length ∧ i = .int .i64 ((n : Int) + 1) ∧ Dr w wr ∧ Hid (∀ (m : Nat) y z, m < n → xs[m]? = some y → xs[m + 1]? = some z → y ≤ z)) (fun i _ => xs.length + 1 - (intOf i).toNat)
  case atStart => exact ⟨0, Nat.zero_le _, rfl, Dr.refl _, fun m _ _ hm => by omega⟩
  case round =>
    obtain ⟨n, hn, rfl, hdr, HN⟩ := hrel
    by_cases hlt : n + 1 < xs.length
    · obtain ⟨ad, y, rfl, hc3, hy⟩ := (h.dr hdr).int (show n < xs.length by omega)
      obtain ⟨ad2, z, had, hc4, hz⟩ := (h.dr hdr).int hlt
      obtain rfl : ad = ad2 := by injection had
      clear had
      rw [add_succ] at hc4
      have i1 : (n : Int) + 1 < (xs.length : Int) := by omega
      have i2 : (n : Int) < (xs.length : Int) := by omega
      have i3 : (0 : Int) ≤ (n : Int) := by omega
      have i4 : (0 : Int) ≤ (n : Int) + 1 := by omega
      have i5 : ((n : Int) + 1).toNat = n + 1 := by omega
      go_wp2
      go_quiet (fail)
      go_wp2
      · have hlt9 : z < y := by assumption
        go_ret
        exact ⟨ret_bool (adjB_no hy.out hz.out hlt9).symm, hdr.step _⟩
      · have hle9 : y ≤ z := by assumption
        go_roundw
        case rel => exact ⟨n + 1, by omega, by go_num, hdr.step _, fun m y' z' hm hy' hz' => by
          by_cases e : m = n
          · subst e
            rw [hy.out] at hy'
            rw [hz.out] at hz'
            cases hy'
            cases hz'
            exact hle9
          · exact HN.out m y' z' (by omega) hy' hz'⟩
        case measure => simp [intOf]; omega
    · go_wp2
      go_ret
      refine ⟨ret_bool (adjB_iff.2 fun m a b ha hb => ?_).symm, hdr⟩
      have hm := (List.getElem?_eq_some_iff.1 hb).1
      exact HN.out m a b (by omega) ha hb

theorem f_isNaN (x : Int) (w : World) : Calls Tryd.prog 189 #[.int .i64 x] w fun e w' => e = .returned (.bool false) ∧ w = w' := by
  go_enter Tryd.func189, Tryd.ntmps189
  go_wp2
  go_ret
  exact ⟨rfl, rfl⟩

theorem f_cmpLess (x y : Int) (w : World) : Calls Tryd.prog 175 #[.int .i64 x, .int .i64 y] w fun e w' => e = .returned (.bool (decide (x < y))) ∧ w = w' := by
  go_enter Tryd.func175, Tryd.ntmps175
  go_wp2_with (go_at_call 189; refine (f_isNaN _ _).mono ?_; rintro e w' ⟨rfl, rfl⟩)
  go_ret
  exact ⟨rfl, rfl⟩

def idxOf2 (p : List Int → Bool) (xss : List (List Int)) : Int := if xss.any p then (xss.findIdx p : Nat) else -1
theorem idxOf2_yes {p : List Int → Bool} {xs : List (List Int)} {k : Nat} {x : List Int} (hx : xs[k]? = some x) (hp : p x = true) (hno : ∀ (j : Nat) y, j < k → xs[j]? = some y → p y = false) : idxOf2 p xs = k := by
  obtain ⟨hk, rfl⟩ := List.getElem?_eq_some_iff.1 hx
  have h1 : xs.any p = true := List.any_eq_true.2 ⟨_, List.getElem_mem hk, hp⟩
  unfold idxOf2
  rw [if_pos h1]
  have : xs.findIdx p = k := by
    rw [List.findIdx_eq hk]
    exact ⟨hp, fun j hj => by simpa using hno j xs[j] hj (List.getElem?_eq_getElem _)⟩
  rw [this]
theorem idxOf2_no {p : List Int → Bool} {xs : List (List Int)} (hno : ∀ (j : Nat) y, j < xs.length → xs[j]? = some y → p y = false) : idxOf2 p xs = -1 := by
  unfold idxOf2
  rw [if_neg]
  intro h
  obtain ⟨x, hx, hp⟩ := List.any_eq_true.1 h
  obtain ⟨j, hj, rfl⟩ := List.getElem_of_mem hx
  rw [hno j _ hj (List.getElem?_eq_getElem hj)] at hp
  cases hp
theorem idxOf2_any (p : List Int → Bool) (xs : List (List Int)) : decide (0 ≤ idxOf2 p xs) = xs.any p := by
  unfold idxOf2
  cases h : xs.any p <;> simp

set_option maxHeartbeats 400000 in
theorem f_IndexFunc2 (p : List Int → Bool) (fn : Nat) (cap : Array Value) (hk : Known fn) (v : Value) (xss : List (List Int)) (w : World) (h : Rd2 w v xss)
    (hf : ∀ (wr : World) (r : Value) (xs : List Int), Dr w wr → xs ∈ xss → Rd wr r (ints xs) → Calls Tryd.prog fn (#[r] ++ cap) wr (RetQ (.bool (p xs)) wr)) :
    Calls Tryd.prog 107 #[v, .func (.func fn) #[] cap] w (RetQ (.int .i64 (idxOf2 p xss)) w) := by
  obtain ⟨a, c, rfl, h2, h3⟩ := h.form
  have HF0 := Lib.hid hf
  clear hf
  go_enter Tryd.func107, Tryd.ntmps107
  go_wp2
  go_loopw [8] (fun i wr => ∃ k : Nat, k ≤ xss.length ∧ i = .int .i64 k ∧ Dr w wr ∧ Hid (∀ (j : Nat) y, j < k → xss[j]? = some y → p y = false)) (fun i _ => xss.length - (intOf i).toNat)
  case atStart => exact ⟨0, Nat.zero_le _, rfl, Dr.refl _, fun j y hj => by omega⟩
  case round =>
    obtain ⟨k, hkl, rfl, hdr, HN⟩ := hrel
    by_cases hlt : k < xss.length
    · obtain ⟨ad, b, m, d, xs, rfl, hc, hx, hm, hmd, hd, hr⟩ := (h.dr hdr).row hlt
      have HF := Lib.hid (HF0.out wr _ xs hdr (List.mem_of_getElem? hx.out) hr)
      have hcall := hk (#[.slice b m d] ++ cap) wr
      cases hp : p xs
      · rw [hp] at HF
        go_wp2_with ((with_reducible refine (HF.out).mono ?_); rintro e w2 ⟨rfl, hd2⟩)
        go_roundw
        case rel => exact ⟨k + 1, by omega, by go_num, hdr.trans hd2, fun j y hj hy => by
          by_cases e : j = k
          · subst e
            rw [hx.out] at hy
            cases hy
            exact hp
          · exact HN.out j y (by omega) hy⟩
        case measure => simp [intOf]; omega
      · rw [hp] at HF
        go_wp2_with ((with_reducible refine (HF.out).mono ?_); rintro e w2 ⟨rfl, hd2⟩)
        go_ret
        exact ⟨ret_int (idxOf2_yes hx.out hp HN.out).symm, hdr.trans hd2⟩
    · obtain rfl : xss.length = k := by omega
      go_wp2
      go_ret
      exact ⟨ret_int (idxOf2_no HN.out).symm, hdr⟩

end Go.Proofs.YtlmbaijkeahkfaaDoor
