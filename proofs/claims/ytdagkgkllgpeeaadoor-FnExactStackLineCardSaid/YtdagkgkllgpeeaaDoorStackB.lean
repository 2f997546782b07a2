/- Walks: orders that a stack can sort. -/
import Derived.Test.YtdagkgkllgpeeaaDoorStackA
namespace Go.Proofs.YtdagkgkllgpeeaaDoor
open Go.RowKit
set_option linter.unusedVariables false
set_option linter.unusedSimpArgs false

theorem getD_eq {T : List Int} {k : Nat} {t : Int} (h : T[k]? = some t) : T.getD k 0 = t := by rw [List.getD_eq_getElem?_getD, h]; rfl
theorem tri_hit {xs : List Int} {i j k : Nat} {x y z : Int} (hij : i < j) (hjk : j < k) (hx : xs[i]? = some x) (hy : xs[j]? = some y) (hz : xs[k]? = some z) (h1 : z < x) (h2 : x < y) : canB xs = false :=
  canB_no (i := i) (j := j) (k := k) ⟨hij, hjk, (List.getElem?_eq_some_iff.1 hz).1, by rw [getD_eq hx, getD_eq hz]; exact h1, by rw [getD_eq hx, getD_eq hy]; exact h2⟩
theorem tri_miss {xs : List Int} {i j k : Nat} {x y z : Int} (hx : xs[i]? = some x) (hy : xs[j]? = some y) (hz : xs[k]? = some z) (h : ¬ (z < x ∧ x < y)) : ¬ Tri xs i j k := by
  rintro ⟨_, _, _, h4, h5⟩
  rw [getD_eq hx, getD_eq hz] at h4
  rw [getD_eq hx, getD_eq hy] at h5
  exact h ⟨h4, h5⟩

set_option maxHeartbeats 1000000 in
theorem i_canStackSort (v : Value) (xs : List Int) (w : World) (hR : Rd w v (ints xs)) (hl : xs.length ≤ 1000) :
    Calls Tryd.prog 193 #[v] w (RetB (.bool (canB xs)) w) := by
  obtain ⟨a, n, c, rfl, HN, hnc, hc⟩ := hR.formN
  rw [← HN.out] at hl
  go_enter Tryd.func193, Tryd.ntmps193
  go_wp2
  go_loopg [10] n (fun g iv wr => ∃ i : Nat, g = n - i ∧ i ≤ n ∧ iv = .int .i64 i ∧ w = wr ∧ Hid (∀ i' j k, i' < i → ¬ Tri xs i' j k))
  case atStart => exact ⟨0, rfl, Nat.zero_le _, rfl, rfl, fun _ _ _ h => absurd h (Nat.not_lt_zero _)⟩
  case round =>
    obtain ⟨i, hg, hi, rfl, rfl, HI⟩ := hrel
    by_cases hlt : i < n
    · obtain ⟨ad, x, rfl, hcx, hx⟩ := hR.int (k := i) (by have := HN.out; omega)
      have i1 : (i : Int) < (n : Int) := by omega
      go_wp2
      go_loopg [5] (n - (i + 1)) (fun g jv wr => ∃ j : Nat, g = n - j ∧ i + 1 ≤ j ∧ j ≤ n ∧ jv = .int .i64 j ∧ w = wr ∧ Hid (∀ j' k, j' < j → ¬ Tri xs i j' k))
      case atStart => exact ⟨i + 1, rfl, Nat.le_refl _, by omega, by go_num, rfl, fun j' k h h2 => by have := h2.1; omega⟩
      case round =>
        obtain ⟨j, hgj, hij, hj, rfl, rfl, HJ⟩ := hrel
        by_cases hltj : j < n
        · obtain ⟨ad2, y, had2, hcy, hy⟩ := hR.int (k := j) (by have := HN.out; omega)
          obtain rfl : ad = ad2 := by injection had2
          clear had2
          have j1 : (j : Int) < (n : Int) := by omega
          have j2 : (j : Int) + 1 ≤ (n : Int) := by omega
          have j3 : (j : Int) + 1 ≤ (c : Int) := by omega
          have j5 : ((j : Int) + 1).toNat = j + 1 := by omega
          have hrC : Rd w (.slice (if c = j + 1 then some ad else some (ad.add (j + 1))) (n - (j + 1)) (c - (j + 1))) (ints (xs.drop (j + 1))) := by rw [← ints_drop]; exact hR.cut (show j + 1 ≤ n by omega)
          obtain ⟨m, hm⟩ : ∃ m, n - (j + 1) = m := ⟨_, rfl⟩
          obtain ⟨cC, hcC⟩ : ∃ cC, c - (j + 1) = cC := ⟨_, rfl⟩
          rw [hm, hcC] at hrC
          have hrC1 : c = j + 1 → Rd w (.slice (some ad) m cC) (ints (xs.drop (j + 1))) := fun e => by rw [if_pos e] at hrC; exact hrC
          have hrC2 : ¬ c = j + 1 → Rd w (.slice (some ⟨ad.block, ad.off + (j + 1), none⟩) m cC) (ints (xs.drop (j + 1))) := fun e => by rw [if_neg e, add_succ] at hrC; exact hrC
          clear hrC
          go_wp2
          all_goals first
            | (have hrC := hrC1 (by assumption); rw [← h]; clear h)
            | (have hrC := hrC2 (by assumption); clear h)
          all_goals (
          go_loopg [28] m (fun g qv wr => ∃ q : Nat, g = m - q ∧ q ≤ m ∧ qv = .int .i64 q ∧ w = wr ∧ Hid (∀ k, k < j + 1 + q → ¬ Tri xs i j k))
          case atStart => exact ⟨0, rfl, Nat.zero_le _, rfl, rfl, fun k hk h2 => by have := h2.2.1; omega⟩
          case round =>
            obtain ⟨q, hgq, hq, rfl, rfl, HQ⟩ := hrel
            by_cases hltq : q < m
            · obtain ⟨adC, z, had3, hcz, hz⟩ := hrC.int (k := q) (by rw [List.length_drop, ← HN.out]; omega)
              have hz' : xs[j + 1 + q]? = some z := by have := hz.out; rw [List.getElem?_drop] at this; exact this
              have q1 : (q : Int) < (m : Int) := by omega
              obtain rfl := Option.some.inj had3
              clear had3
              try rw [Addr.add_lit] at hcz
              by_cases h1 : z < x
              · by_cases h2 : x < y
                · have HR : Hid (canB xs = false) := tri_hit (by omega) (by omega) hx.out hy.out hz' h1 h2
                  clear hz'
                  go_wp2
                  go_ret
                  exact ⟨ret_bool HR.out.symm, Below.refl _ _⟩
                · have HM : Hid (∀ k, k < j + 1 + (q + 1) → ¬ Tri xs i j k) := fun k hk => by
                    by_cases e : k = j + 1 + q
                    · subst e; exact tri_miss hx.out hy.out hz' (fun hh => h2 hh.2)
                    · exact HQ.out k (by omega)
                  clear hz'
                  go_wp2
                  go_roundg (m - (q + 1))
                  case measure => omega
                  case rel => exact ⟨q + 1, rfl, by omega, by go_num, rfl, HM⟩
              · have HM : Hid (∀ k, k < j + 1 + (q + 1) → ¬ Tri xs i j k) := fun k hk => by
                  by_cases e : k = j + 1 + q
                  · subst e; exact tri_miss hx.out hy.out hz' (fun hh => h1 hh.1)
                  · exact HQ.out k (by omega)
                clear hz'
                go_wp2
                go_roundg (m - (q + 1))
                case measure => omega
                case rel => exact ⟨q + 1, rfl, by omega, by go_num, rfl, HM⟩
            · have HM : Hid (∀ j' k, j' < j + 1 → ¬ Tri xs i j' k) := fun j' k hj' h2 => by
                by_cases e : j' = j
                · subst e
                  have := h2.2.2.1
                  exact HQ.out k (by have := HN.out; omega) h2
                · exact HJ.out j' k (by omega) h2
              go_wp2
              go_roundg (n - (j + 1))
              case measure => omega
              case rel => exact ⟨j + 1, rfl, by omega, by omega, by go_num, rfl, HM⟩)
        · have HM : Hid (∀ i' j k, i' < i + 1 → ¬ Tri xs i' j k) := fun i' j' k hi' h2 => by
            by_cases e : i' = i
            · subst e
              have := h2.2.1
              have := h2.2.2.1
              exact HJ.out j' k (by have := HN.out; omega) h2
            · exact HI.out i' j' k (by omega) h2
          go_wp2
          go_roundg (n - (i + 1))
          case measure => omega
          case rel => exact ⟨i + 1, rfl, by omega, by go_num, rfl, HM⟩
    · have HR : Hid (canB xs = true) := canB_yes fun i' j k h2 => by
        have h3 := h2.1
        have h4 := h2.2.1
        have h5 := h2.2.2.1
        exact HI.out i' j k (by have := HN.out; omega) h2
      go_wp2
      go_ret
      exact ⟨ret_bool HR.out.symm, Below.refl _ _⟩

set_option maxHeartbeats 1000000 in
theorem s_l21Can (v : Value) (xs : List Int) (w : World) (h : Rd w v (ints xs)) (hl : xs.length ≤ 1000) :
    Calls Tryd.prog 191 #[v] w (RetB (.bool (canB xs)) w) := by
  obtain ⟨a, n, c, rfl, HN, hnc, hc⟩ := h.formN
  rw [← HN.out] at hl
  go_enter Tryd.func191, Tryd.ntmps191
  go_wp2
  go_loopg [9] n (fun g kv wr => ∃ k : Nat, g = n - k ∧ k ≤ n ∧ kv = .int .i64 k ∧ Dr w wr ∧ Hid (∀ i j k', k' < k → ¬ Tri xs i j k'))
  case atStart => exact ⟨0, rfl, Nat.zero_le _, rfl, Dr.refl _, fun _ _ _ h => absurd h (Nat.not_lt_zero _)⟩
  case round =>
    obtain ⟨k, hg, hk, rfl, hdr, HKK⟩ := hrel
    by_cases hlt : k < n
    · obtain ⟨ad, z, rfl, hcz, hz⟩ := (h.dr hdr).int (k := k) (by have := HN.out; omega)
      have i1 : (k : Int) < (n : Int) := by omega
      go_wp2
      clear hcz
      go_loopg [5] k (fun g iv wr => ∃ i : Nat, g = k - i ∧ i ≤ k ∧ iv = .int .i64 i ∧ Dr w wr ∧ Hid (∀ i' j, i' < i → ¬ Tri xs i' j k))
      case atStart => exact ⟨0, rfl, Nat.zero_le _, rfl, hdr, fun _ _ h => absurd h (Nat.not_lt_zero _)⟩
      case round =>
        clear hdr
        obtain ⟨i, hgi, hi, rfl, hdr, HI⟩ := hrel
        by_cases hlti : i < k
        · obtain ⟨ad2, x, had2, _, hx⟩ := h.int (k := i) (by have := HN.out; omega)
          obtain rfl : ad = ad2 := by injection had2
          clear had2
          have j1 : (i : Int) < (k : Int) := by omega
          have j4 : (i : Int) < (n : Int) := by omega
          go_wp2
          go_loopg [6] (k - (i + 1)) (fun g jv wr => ∃ j : Nat, g = k - j ∧ i + 1 ≤ j ∧ j ≤ k ∧ jv = .int .i64 j ∧ Dr w wr ∧ Hid (∀ j', j' < j → ¬ Tri xs i j' k))
          case atStart => exact ⟨i + 1, rfl, Nat.le_refl _, by omega, by go_num, hdr, fun j' h h2 => by have := h2.1; omega⟩
          case round =>
            clear hdr
            obtain ⟨j, hgj, hij, hj, rfl, hdr, HJ⟩ := hrel
            by_cases hltj : j < k
            · have hcx := (h.dr hdr).cell_i hx.out
              obtain ⟨ad2, y, had2, hcy, hy⟩ := (h.dr hdr).int (k := j) (by have := HN.out; omega)
              obtain rfl : ad = ad2 := by injection had2
              clear had2
              have q1 : (j : Int) < (k : Int) := by omega
              have q2 : (j : Int) < (n : Int) := by omega
              by_cases h1 : z < x
              · by_cases h2 : x < y
                · have d1 : decide (z < x) = true := by simpa using h1
                  have d2 : decide (x < y) = true := by simpa using h2
                  have HR : Hid (canB xs = false) := tri_hit (by omega) (by omega) hx.out hy.out hz.out h1 h2
                  go_wp2
                  go_quiet (fail)
                  go_wp2
                  go_ret
                  exact ⟨ret_bool HR.out.symm, (hdr.step _).below _⟩
                · have d1 : decide (z < x) = true := by simpa using h1
                  have d2 : decide (x < y) = false := by simpa using h2
                  have HM : Hid (∀ j', j' < j + 1 → ¬ Tri xs i j' k) := fun j' hj' => by
                    by_cases e : j' = j
                    · subst e; exact tri_miss hx.out hy.out hz.out (fun hh => h2 hh.2)
                    · exact HJ.out j' (by omega)
                  go_wp2
                  go_quiet (fail)
                  go_wp2
                  go_roundg (k - (j + 1))
                  case measure => omega
                  case rel => exact ⟨j + 1, rfl, by omega, by omega, by go_num, hdr.step _, HM⟩
              · have d1 : decide (z < x) = false := by simpa using h1
                have HM : Hid (∀ j', j' < j + 1 → ¬ Tri xs i j' k) := fun j' hj' => by
                  by_cases e : j' = j
                  · subst e; exact tri_miss hx.out hy.out hz.out (fun hh => h1 hh.1)
                  · exact HJ.out j' (by omega)
                go_wp2
                go_quiet (fail)
                go_wp2
                go_roundg (k - (j + 1))
                case measure => omega
                case rel => exact ⟨j + 1, rfl, by omega, by omega, by go_num, hdr.step _, HM⟩
            · have HM : Hid (∀ i' j, i' < i + 1 → ¬ Tri xs i' j k) := fun i' j' hi' h2 => by
                by_cases e : i' = i
                · subst e
                  have := h2.2.1
                  exact HJ.out j' (by omega) h2
                · exact HI.out i' j' (by omega) h2
              go_wp2
              go_roundg (k - (i + 1))
              case measure => omega
              case rel => exact ⟨i + 1, rfl, by omega, by go_num, hdr, HM⟩
        · have HM : Hid (∀ i j k', k' < k + 1 → ¬ Tri xs i j k') := fun i' j' k' hk' h2 => by
            by_cases e : k' = k
            · subst e
              have := h2.1
              have := h2.2.1
              exact HI.out i' j' (by omega) h2
            · exact HKK.out i' j' k' (by omega) h2
          go_wp2
          go_roundg (n - (k + 1))
          case measure => omega
          case rel => exact ⟨k + 1, rfl, by omega, by go_num, hdr, HM⟩
    · have HR : Hid (canB xs = true) := canB_yes fun i j k' h2 => by
        have h5 := h2.2.2.1
        exact HKK.out i j k' (by have := HN.out; omega) h2
      go_wp2
      go_ret
      exact ⟨ret_bool HR.out.symm, hdr.below _⟩

theorem I_CanStackSort (v : Value) (xs : List Int) (w : World) (h : Rd w v (ints xs)) : Calls Tryd.prog 112 #[v] w (RetB (.bool (shortB xs && canB xs)) w) := by
  have HS := i_isShortOrder v xs w h
  obtain ⟨a, n, c, rfl, HN, hnc, hc⟩ := h.formN
  cases hs : shortB xs
  · rw [hs] at HS
    have HK := Lib.hid HS
    clear HS hs
    go_enter Tryd.func112, Tryd.ntmps112
    go_wp2_with (go_at_call 53; refine HK.out.mono ?_; rintro e w' ⟨rfl, hb⟩)
    go_ret
    exact ⟨rfl, hb⟩
  · have h8 := (shortB_iff.1 hs).1
    rw [hs] at HS
    have HK := Lib.hid HS
    have HC := Lib.hid (fun w (h : Rd w _ (ints xs)) => i_canStackSort (.slice a n c) xs w h (by omega))
    generalize canB xs = cb at *
    clear HS hs
    go_enter Tryd.func112, Tryd.ntmps112
    go_wp2_with (first | (go_at_call 53; refine HK.out.mono ?_; rintro e w' ⟨rfl, hb⟩) | (go_at_call 193; refine (HC.out _ (h.below hb)).mono ?_; rintro e w2 ⟨rfl, hb2⟩))
    go_ret
    exact ⟨rfl, hb.trans (hb2.mono hb.size)⟩

theorem S_CanStackSort (v : Value) (xs : List Int) (w : World) (h : Rd w v (ints xs)) : Calls Tryd.prog 108 #[v] w (RetB (.bool (shortB xs && canB xs)) w) := by
  have HS := s_l14Small v xs w h
  obtain ⟨a, n, c, rfl, HN, hnc, hc⟩ := h.formN
  cases hs : shortB xs
  · rw [hs] at HS
    have HK := Lib.hid HS
    clear HS hs
    go_enter Tryd.func108, Tryd.ntmps108
    go_wp2_with (go_at_call 50; refine HK.out.mono ?_; rintro e w' ⟨rfl, hb⟩)
    go_ret
    exact ⟨rfl, hb⟩
  · have h8 := (shortB_iff.1 hs).1
    rw [hs] at HS
    have HK := Lib.hid HS
    have HC := Lib.hid (fun w (h : Rd w _ (ints xs)) => s_l21Can (.slice a n c) xs w h (by omega))
    generalize canB xs = cb at *
    clear HS hs
    go_enter Tryd.func108, Tryd.ntmps108
    go_wp2_with (first | (go_at_call 50; refine HK.out.mono ?_; rintro e w' ⟨rfl, hb⟩) | (go_at_call 191; refine (HC.out _ (h.below hb)).mono ?_; rintro e w2 ⟨rfl, hb2⟩))
    go_ret
    exact ⟨rfl, hb.trans (hb2.mono hb.size)⟩

end Go.Proofs.YtdagkgkllgpeeaaDoor
