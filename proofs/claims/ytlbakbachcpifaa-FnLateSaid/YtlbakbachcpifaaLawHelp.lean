/- Walks: what the laws' own small functions answer. -/
import Derived.Test.YtlbakbachcpifaaSort2
namespace Go.Proofs.Ytlbakbachcpifaa
open Go.RowKit
set_option linter.unusedVariables false
set_option linter.unusedSimpArgs false

set_option maxHeartbeats 400000 in
theorem same_c (v u : Value) (xs ys : List Int) (w : World) (hx : Rd w v (ints xs)) (hy : Rd w u (ints ys)) :
    Calls Try.prog 27 #[v, u] w (RetQ (.bool (eqI xs ys)) w) := by
  obtain ⟨a, c, rfl, h2, h3⟩ := hx.formi
  obtain ⟨b, d, rfl, h4, h5⟩ := hy.formi
  by_cases hl : xs.length = ys.length
  · have hL : ((xs.length : Int) != (ys.length : Int)) = false := by simp [hl]
    have HL := Lib.hid hl
    clear hl
    have hle : xs.length ≤ ys.length := by have := HL.out; omega
    go_enter Try.func27, Try.ntmps27
    go_wp2
    go_loopw [14] (fun i wr => ∃ k : Nat, k ≤ xs.length ∧ i = .int .i64 k ∧ (∀ (j : Nat) x y, j < k → xs[j]? = some x → ys[j]? = some y → x = y) ∧ Dr w wr) (fun i _ => xs.length - (intOf i).toNat)
    case atStart => exact ⟨0, Nat.zero_le _, rfl, fun j _ _ hj => by omega, Dr.refl _⟩
    case round =>
      obtain ⟨k, hk, rfl, hno, hw⟩ := hrel
      have HN := Lib.hid hno
      clear hno
      by_cases hlt : k < xs.length
      · obtain ⟨ad, x, rfl, hc, hxk⟩ := (hx.dr hw).int hlt
        obtain ⟨bd, y, rfl, hc2, hyk⟩ := (hy.dr hw).int (show k < ys.length by omega)
        have hlt2 : (k : Int) < (ys.length : Int) := by omega
        have hlt1 : (k : Int) < (xs.length : Int) := by omega
        by_cases e : x = y
        · have e1 : (x != y) = false := by simp [e]
          go_wp2
          go_roundw
          case rel => exact ⟨k + 1, by omega, by go_num, fun j p q hj hp hq => by
            by_cases ej : j = k
            · subst ej
              rw [hxk.out] at hp
              rw [hyk.out] at hq
              cases hp
              cases hq
              exact e
            · exact HN.out j p q (by omega) hp hq, hw⟩
          case measure => simp [intOf]; omega
        · have e1 : (x != y) = true := by simp [e]
          have HE := Lib.hid (eqI_no hxk.out hyk.out e)
          go_wp2
          go_ret
          exact ⟨ret_bool HE.out.symm, hw⟩
      · obtain rfl : k = xs.length := by omega
        have HE := Lib.hid (eqI_yes HL.out HN.out)
        go_wp2
        go_ret
        exact ⟨ret_bool HE.out.symm, hw⟩
  · have hL : ((xs.length : Int) != (ys.length : Int)) = true := by simp; omega
    have HE := Lib.hid (eqI_len hl)
    clear hl
    go_enter Try.func27, Try.ntmps27
    go_wp2
    go_ret
    exact ⟨ret_bool HE.out.symm, Dr.refl _⟩

theorem sorted_c (v : Value) (xs : List Int) (w : World) (h : Rd w v (ints xs)) (hl : xs.length ≤ 1000) : Calls Try.prog 28 #[v] w (RetOwn 3 (ints (srt xs)) w) := by
  have HM : Calls Try.prog 59 #[v] w (RetOwn 3 (ints (srt xs)) w) := by
    go_enter Try.func59, Try.ntmps59
    go_wp2_with (go_at_call 80; refine (s_l08Sort v xs w h hl).mono ?_; rintro e w' ⟨u, rfl, ho, hb⟩)
    go_ret
    exact ⟨u, rfl, ho, hb⟩
  go_enter Try.func28, Try.ntmps28
  go_wp2_with (go_at_call 59; refine HM.mono ?_; rintro e w' ⟨u, rfl, ho, hb⟩)
  go_ret
  exact ⟨u, rfl, ho, hb⟩

theorem rises_c (v : Value) (xs : List Int) (w : World) (h : Rd w v (ints xs)) : Calls Try.prog 25 #[v] w (RetQ (.bool (adjB xs)) w) := by
  obtain ⟨a, c, rfl, h2, h3⟩ := h.formi
  go_enter Try.func25, Try.ntmps25
  go_wp2
  go_loopw [3] (fun i wr => ∃ n : Nat, n ≤ xs.length ∧ i = .int .i64 ((n : Int) + 1) ∧ Dr w wr ∧ Hid (∀ (m : Nat) y z, m < n → xs[m]? = some y → xs[m + 1]? = some z → y ≤ z)) (fun i _ => xs.length + 1 - (intOf i).toNat)
  case atStart => exact ⟨0, Nat.zero_le _, rfl, Dr.refl _, fun m _ _ hm => by omega⟩
  case round =>
    obtain ⟨n, hn, rfl, hdr, HN⟩ := hrel
    by_cases hlt : n + 1 < xs.length
    · obtain ⟨ad, y, rfl, hc3, hy⟩ := (h.dr hdr).int (show n < xs.length by omega)
      obtain ⟨ad2, z, had, hc4, hz⟩ := (h.dr hdr).int hlt
      obtain rfl : ad = ad2 := by injection had
      clear had
      rw [add_succ] at hc4
      have i1 : (n : Int) + 1 < (xs.length : Int) := by omega
      have i2 : (n : Int) < (xs.length : Int) := by omega
      have i3 : (0 : Int) ≤ (n : Int) := by omega
      have i4 : (0 : Int) ≤ (n : Int) + 1 := by omega
      have i5 : ((n : Int) + 1).toNat = n + 1 := by omega
      go_wp2
      go_quiet (fail)
      go_wp2
      · have hlt9 : z < y := by assumption
        go_ret
        exact ⟨ret_bool (adjB_no hy.out hz.out hlt9).symm, hdr.step _⟩
      · have hle9 : y ≤ z := by assumption
        go_roundw
        case rel => exact ⟨n + 1, by omega, by go_num, hdr.step _, fun m y' z' hm hy' hz' => by
          by_cases e : m = n
          · subst e
            rw [hy.out] at hy'
            rw [hz.out] at hz'
            cases hy'
            cases hz'
            exact hle9
          · exact HN.out m y' z' (by omega) hy' hz'⟩
        case measure => simp [intOf]; omega
    · go_wp2
      go_ret
      refine ⟨ret_bool (adjB_iff.2 fun m a b ha hb => ?_).symm, hdr⟩
      have hm := (List.getElem?_eq_some_iff.1 hb).1
      exact HN.out m a b (by omega) ha hb

theorem has_c (v : Value) (xs : List Int) (x : Int) (w : World) (h : Rd w v (ints xs)) : Calls Try.prog 42 #[v, .int .i64 x] w fun e w' => e = .returned (.bool (decide (x ∈ xs))) ∧ w = w' := by
  obtain ⟨a, c, rfl, h2, h3⟩ := h.formi
  go_enter Try.func42, Try.ntmps42
  go_wp2
  go_loop [9] (fun i => ∃ k : Nat, k ≤ xs.length ∧ i = .int .i64 k ∧ Hid (∀ (j : Nat) y, j < k → xs[j]? = some y → y ≠ x)) (fun i => xs.length - (intOf i).toNat)
  case atStart => exact ⟨0, Nat.zero_le _, rfl, fun j _ hj => by omega⟩
  case round =>
    obtain ⟨k, hk, rfl, HN⟩ := hrel
    by_cases hlt : k < xs.length
    · obtain ⟨ad, y, rfl, hc, hy⟩ := h.int hlt
      by_cases e : y = x
      · have e1 : (y == x) = true := by simp [e]
        have HM : Hid (decide (x ∈ xs) = true) := by have := List.mem_of_getElem? hy.out; rw [e] at this; exact decide_eq_true this
        go_wp2
        go_ret
        exact ⟨ret_bool HM.out.symm, rfl⟩
      · have e1 : (y == x) = false := by simp [e]
        go_wp2
        go_round
        case rel => exact ⟨k + 1, by omega, by go_num, fun j z hj hz => by
          by_cases ej : j = k
          · subst ej
            rw [hy.out] at hz
            cases hz
            exact e
          · exact HN.out j z (by omega) hz⟩
        case measure => simp [intOf]; omega
    · obtain rfl : k = xs.length := by omega
      have HM : Hid (decide (x ∈ xs) = false) := decide_eq_false fun hx => by
        obtain ⟨j, hj⟩ := List.getElem?_of_mem hx
        exact HN.out j x (List.getElem?_eq_some_iff.1 hj).1 hj rfl
      go_wp2
      go_ret
      exact ⟨ret_bool HM.out.symm, rfl⟩

end Go.Proofs.Ytlbakbachcpifaa
