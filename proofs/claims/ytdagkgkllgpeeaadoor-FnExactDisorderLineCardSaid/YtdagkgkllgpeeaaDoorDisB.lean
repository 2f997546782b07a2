/- Walks: the longest that rise. -/
import Derived.Test.YtdagkgkllgpeeaaDoorDisA
namespace Go.Proofs.YtdagkgkllgpeeaaDoor
open Go.RowKit
set_option linter.unusedVariables false
set_option linter.unusedSimpArgs false

set_option maxHeartbeats 2000000 in
theorem s_LongestRising (v : Value) (xs : List Int) (w : World) (h : Rd w v (ints xs)) (hl : xs.length ≤ 12) : Calls Tryd.prog 221 #[v] w (RetB (.int .i64 (dpB xs xs.length)) w) := by
  have HO := s_l19Ok v xs w h
  rw [show decide (xs.length ≤ 12) = true by simpa using hl] at HO
  have HOK := Lib.hid HO
  obtain ⟨a, n, c, rfl, HN, hnc, hc⟩ := h.formN
  have h12 : n ≤ 12 := by have := HN.out; omega
  rw [← HN.out]
  have hA : Own (w.alloc (.cells #[] 3)) 3 w.heap.size (.slice (some ⟨w.heap.size, 0, none⟩) 0 0) (ints (dpL xs 0)) := Own.lit0 w 3 (Nat.le_refl _)
  have hb0 : Below w.heap.size w (w.alloc (.cells #[] 3)) := (Below.refl _ _).alloc (Nat.le_refl _) _
  clear HO
  go_enter Tryd.func221, Tryd.ntmps221
  go_wp2_with (go_at_call 93; refine HOK.out.mono ?_; rintro e w' ⟨rfl, rfl⟩)
  go_loopg [3, 4, 16] n (fun g vo sv iv wr => ∃ (i : Nat) (z : Int), g = n - i ∧ i ≤ n ∧ iv = .int .i64 i ∧ sv = .int .i64 z ∧ 0 ≤ z ∧ z ≤ i ∧ Hid (z = dpB xs i) ∧ Own wr 3 w.heap.size vo (ints (dpL xs i)) ∧ Below w.heap.size w wr)
  case atStart => exact ⟨0, 0, rfl, Nat.zero_le _, rfl, rfl, Int.le_refl _, Int.le_refl _, rfl, hA, hb0⟩
  case round =>
    clear hA hb0
    obtain ⟨i, z, hg, hi, rfl, rfl, hz0, hzi, HZ, ho, hb⟩ := hrel
    obtain ⟨ao, mo, co, rfl, HMO, _, _⟩ := ho.rd.formN
    have hmo : mo = i := by have := HMO.out; rw [dpL_len] at this; exact this
    subst hmo
    by_cases hlt : mo < n
    · obtain ⟨ad, x, rfl, hcx, hx⟩ := (h.below hb).int (k := mo) (by have := HN.out; omega)
      have i1 : (mo : Int) < (n : Int) := by omega
      have i2 : (mo : Int) ≤ (c : Int) := by omega
      go_wp2
      go_loopg [7, 25] mo (fun g nv qv wx => ∃ (q : Nat) (t : Int), g = mo - q ∧ q ≤ mo ∧ qv = .int .i64 q ∧ nv = .int .i64 t ∧ 1 ≤ t ∧ t ≤ (mo : Int) + 1 ∧ wr = wx ∧ Hid (t = dpIn xs (dpL xs mo) x q))
      case atStart => exact ⟨0, 1, rfl, Nat.zero_le _, rfl, rfl, Int.le_refl _, by omega, rfl, rfl⟩
      case round =>
        obtain ⟨q, t, hgq, hq, rfl, rfl, ht1, ht2, rfl, HT⟩ := hrel
        by_cases hlq : q < mo
        · obtain ⟨ad2, y, had2, hcy, hy⟩ := (h.below hb).int (k := q) (by have := HN.out; omega)
          obtain rfl : ad = ad2 := by injection had2
          clear had2
          obtain ⟨po, l, rfl, hcl, hl9⟩ := ho.rd.int (k := q) (by rw [dpL_len]; exact hlq)
          have hlb := dpL_bd xs mo l (List.mem_of_getElem? hl9.out)
          have hl0 : -1 ≤ l := by
            have h9 := hl9.out
            have h8 : ∀ i, ∀ v ∈ dpL xs i, (1 : Int) ≤ v := by
              intro i
              induction i with
              | zero => simp [dpL]
              | succ i ih =>
                intro v hv
                rw [dpL, List.mem_append, List.mem_singleton] at hv
                rcases hv with hv | rfl
                · exact ih v hv
                · exact (dpIn_bd (dpL_bd xs i) (by omega) i).1
            have := h8 mo l (List.mem_of_getElem? h9)
            omega
          have q1 : (q : Int) < (mo : Int) := by omega
          by_cases hxy : y ≤ x
          · have d1 : decide (y ≤ x) = true := by simpa using hxy
            have HT2 : Hid (max t (l + 1) = dpIn xs (dpL xs mo) x (q + 1)) := by rw [Hid, dpIn, getD_ok hy.out, getD_ok hl9.out, if_pos hxy, ← HT.out]
            go_wp2
            all_goals (
              go_roundg (mo - (q + 1))
              case measure => omega
              case rel => exact ⟨q + 1, _, rfl, by omega, by go_num, rfl, by omega, by omega, rfl, by have := HT2.out; rw [Hid, ← this]; omega⟩)
          · have d1 : decide (y ≤ x) = false := by simpa using hxy
            have HT2 : Hid (t = dpIn xs (dpL xs mo) x (q + 1)) := by rw [Hid, dpIn, getD_ok hy.out, if_neg hxy, ← HT.out]
            go_wp2
            go_roundg (mo - (q + 1))
            case measure => omega
            case rel => exact ⟨q + 1, t, rfl, by omega, by go_num, rfl, ht1, ht2, rfl, HT2⟩
        · obtain rfl : q = mo := by omega
          have hsb := hb.size
          have HLo : Hid ((ints (dpL xs q)).length = q) := by rw [Hid, ints_length, dpL_len]
          have HC : Hid (ints (dpL xs (q + 1)) = ints (dpL xs q) ++ [.int .i64 t]) := by rw [Hid, dpL, ints_append, getD_ok hx.out, HT.out]; rfl
          have HZ2 : Hid (max z t = dpB xs (q + 1)) := by rw [Hid, dpB, getD_ok hx.out, ← HT.out, ← HZ.out]
          go_wp2_with (at_builtin; refine wpList_app1m rfl _ _ 22 rfl elI rfl ho (by show Value.slice (some ⟨wr.heap.size, 0, none⟩) 1 1 = _; simp) rfl hsb _ HLo.out (by omega) (by omega) ?_; intro b5 c5 w5 ho5 hg5 hat5)
          all_goals (
            go_roundg (n - (q + 1))
            case measure => omega
            case rel => exact ⟨q + 1, _, rfl, by omega, by go_num, rfl, by omega, by omega, by have := HZ2.out; rw [Hid, ← this]; omega, by rw [HC.out]; exact ho5, hb.grown hg5 hsb (fun r hr => (ho.lt r hr).1)⟩)
    · obtain rfl : mo = n := by omega
      go_wp2
      go_ret
      exact ⟨by rw [← HZ.out]; rfl, hb⟩

theorem i_follows (x y : Int) (w : World) : Calls Tryd.prog 248 #[.int .i64 x, .int .i64 y] w fun e w' => e = .returned (.bool (decide (x ≤ y))) ∧ w = w' := by
  obtain ⟨b, hb⟩ : ∃ b, decide (x ≤ y) = b := ⟨_, rfl⟩
  rw [hb]
  go_enter Tryd.func248, Tryd.ntmps248
  go_wp2
  go_ret
  exact ⟨rfl, rfl⟩

set_option maxHeartbeats 2000000 in
theorem i_longest (v : Value) (xs : List Int) (w : World) (h : Rd w v (ints xs)) (hl : xs.length ≤ 12) : Calls Tryd.prog 247 #[v, .func (.func 248) #[] #[]] w (RetB (.int .i64 (dpB xs xs.length)) w) := by
  obtain ⟨a, n, c, rfl, HN, hnc, hc⟩ := h.formN
  have h12 : n ≤ 12 := by have := HN.out; omega
  rw [← HN.out]
  have hA : Own (w.alloc (.cells #[] 3)) 3 w.heap.size (.slice (some ⟨w.heap.size, 0, none⟩) 0 0) (ints (dpL xs 0)) := Own.lit0 w 3 (Nat.le_refl _)
  have hb0 : Below w.heap.size w (w.alloc (.cells #[] 3)) := (Below.refl _ _).alloc (Nat.le_refl _) _
  go_enter Tryd.func247, Tryd.ntmps247
  go_wp2
  go_loopg [5, 6, 15] n (fun g sv vo iv wr => ∃ (i : Nat) (z : Int), g = n - i ∧ i ≤ n ∧ iv = .int .i64 i ∧ sv = .int .i64 z ∧ 0 ≤ z ∧ z ≤ i ∧ Hid (z = dpB xs i) ∧ Own wr 3 w.heap.size vo (ints (dpL xs i)) ∧ Below w.heap.size w wr)
  case atStart => exact ⟨0, 0, rfl, Nat.zero_le _, rfl, rfl, Int.le_refl _, Int.le_refl _, rfl, hA, hb0⟩
  case round =>
    clear hA hb0
    obtain ⟨i, z, hg, hi, rfl, rfl, hz0, hzi, HZ, ho, hb⟩ := hrel
    obtain ⟨ao, mo, co, rfl, HMO, _, _⟩ := ho.rd.formN
    have hmo : mo = i := by have := HMO.out; rw [dpL_len] at this; exact this
    subst hmo
    by_cases hlt : mo < n
    · obtain ⟨ad, x, rfl, hcx, hx⟩ := (h.below hb).int (k := mo) (by have := HN.out; omega)
      have i1 : (mo : Int) < (n : Int) := by omega
      have i2 : (mo : Int) ≤ (c : Int) := by omega
      go_wp2
      go_loopg [9, 24] mo (fun g nv qv wx => ∃ (q : Nat) (t : Int), g = mo - q ∧ q ≤ mo ∧ qv = .int .i64 q ∧ nv = .int .i64 t ∧ 1 ≤ t ∧ t ≤ (mo : Int) + 1 ∧ wr = wx ∧ Hid (t = dpIn xs (dpL xs mo) x q))
      case atStart => exact ⟨0, 1, rfl, Nat.zero_le _, rfl, rfl, Int.le_refl _, by omega, rfl, rfl⟩
      case round =>
        obtain ⟨q, t, hgq, hq, rfl, rfl, ht1, ht2, rfl, HT⟩ := hrel
        by_cases hlq : q < mo
        · obtain ⟨ad2, y, had2, hcy, hy⟩ := (h.below hb).int (k := q) (by have := HN.out; omega)
          obtain rfl : ad = ad2 := by injection had2
          clear had2
          obtain ⟨po, l, rfl, hcl, hl9⟩ := ho.rd.int (k := q) (by rw [dpL_len]; exact hlq)
          have hlb := dpL_bd xs mo l (List.mem_of_getElem? hl9.out)
          have hl0 : -1 ≤ l := by
            have h9 := hl9.out
            have h8 : ∀ i, ∀ v ∈ dpL xs i, (1 : Int) ≤ v := by
              intro i
              induction i with
              | zero => simp [dpL]
              | succ i ih =>
                intro v hv
                rw [dpL, List.mem_append, List.mem_singleton] at hv
                rcases hv with hv | rfl
                · exact ih v hv
                · exact (dpIn_bd (dpL_bd xs i) (by omega) i).1
            have := h8 mo l (List.mem_of_getElem? h9)
            omega
          have q1 : (q : Int) < (mo : Int) := by omega
          have HF := Lib.hid (i_follows y x wr)
          by_cases hxy : y ≤ x
          · have d1 : decide (y ≤ x) = true := by simpa using hxy
            rw [d1] at HF
            have HT2 : Hid (max t (l + 1) = dpIn xs (dpL xs mo) x (q + 1)) := by rw [Hid, dpIn, getD_ok hy.out, getD_ok hl9.out, if_pos hxy, ← HT.out]
            go_wp2_with (go_at_call 248; refine HF.out.mono ?_; rintro e w' ⟨rfl, rfl⟩)
            all_goals (
              go_roundg (mo - (q + 1))
              case measure => omega
              case rel => exact ⟨q + 1, _, rfl, by omega, by go_num, rfl, by omega, by omega, rfl, by have := HT2.out; rw [Hid, ← this]; omega⟩)
          · have d1 : decide (y ≤ x) = false := by simpa using hxy
            rw [d1] at HF
            have HT2 : Hid (t = dpIn xs (dpL xs mo) x (q + 1)) := by rw [Hid, dpIn, getD_ok hy.out, if_neg hxy, ← HT.out]
            go_wp2_with (go_at_call 248; refine HF.out.mono ?_; rintro e w' ⟨rfl, rfl⟩)
            go_roundg (mo - (q + 1))
            case measure => omega
            case rel => exact ⟨q + 1, t, rfl, by omega, by go_num, rfl, ht1, ht2, rfl, HT2⟩
        · obtain rfl : q = mo := by omega
          have hsb := hb.size
          have HLo : Hid ((ints (dpL xs q)).length = q) := by rw [Hid, ints_length, dpL_len]
          have HC : Hid (ints (dpL xs (q + 1)) = ints (dpL xs q) ++ [.int .i64 t]) := by rw [Hid, dpL, ints_append, getD_ok hx.out, HT.out]; rfl
          have HZ2 : Hid (max z t = dpB xs (q + 1)) := by rw [Hid, dpB, getD_ok hx.out, ← HT.out, ← HZ.out]
          go_wp2_with (at_builtin; refine wpList_app1m rfl _ _ 22 rfl elI rfl ho (by show Value.slice (some ⟨wr.heap.size, 0, none⟩) 1 1 = _; simp) rfl hsb _ HLo.out (by omega) (by omega) ?_; intro b5 c5 w5 ho5 hg5 hat5)
          all_goals (
            go_roundg (n - (q + 1))
            case measure => omega
            case rel => exact ⟨q + 1, _, rfl, by omega, by go_num, rfl, by omega, by omega, by have := HZ2.out; rw [Hid, ← this]; omega, by rw [HC.out]; exact ho5, hb.grown hg5 hsb (fun r hr => (ho.lt r hr).1)⟩)
    · obtain rfl : mo = n := by omega
      go_wp2
      go_ret
      exact ⟨by rw [← HZ.out]; rfl, hb⟩

theorem i_LongestRising (v : Value) (xs : List Int) (w : World) (h : Rd w v (ints xs)) (hl : xs.length ≤ 12) : Calls Tryd.prog 225 #[v] w (RetB (.int .i64 (dpB xs xs.length)) w) := by
  have HO := i_isTwelve v xs w h
  rw [show decide (xs.length ≤ 12) = true by simpa using hl] at HO
  have HOK := Lib.hid HO
  have HC := Lib.hid (i_longest v xs w h hl)
  obtain ⟨a, n, c, rfl, HN, hnc, hc⟩ := h.formN
  clear HO
  generalize dpB xs xs.length = z at *
  go_enter Tryd.func225, Tryd.ntmps225
  go_wp2_with (first
    | (go_at_call 95; refine HOK.out.mono ?_; rintro e w' ⟨rfl, rfl⟩)
    | (go_at_call 247; refine HC.out.mono ?_; rintro e w2 ⟨rfl, hb2⟩))
  go_ret
  exact ⟨rfl, hb2⟩

theorem i_RemoveLeast (v : Value) (xs : List Int) (w : World) (h : Rd w v (ints xs)) (hl : xs.length ≤ 12) : Calls Tryd.prog 173 #[v] w (RetB (.int .i64 ((xs.length : Int) - dpB xs xs.length)) w) := by
  have HO := i_isTwelve v xs w h
  rw [show decide (xs.length ≤ 12) = true by simpa using hl] at HO
  have HOK := Lib.hid HO
  have HC := Lib.hid (i_LongestRising v xs w h hl)
  have hz := dpB_bd xs xs.length
  obtain ⟨a, n, c, rfl, HN, hnc, hc⟩ := h.formN
  rw [← HN.out] at hz hl HC ⊢
  clear HO
  generalize dpB xs n = z at *
  go_enter Tryd.func173, Tryd.ntmps173
  go_wp2_with (first
    | (go_at_call 95; refine HOK.out.mono ?_; rintro e w' ⟨rfl, rfl⟩)
    | (go_at_call 225; refine HC.out.mono ?_; rintro e w2 ⟨rfl, hb2⟩))
  go_ret
  exact ⟨rfl, hb2⟩

theorem s_RemoveLeast (v : Value) (xs : List Int) (w : World) (h : Rd w v (ints xs)) (hl : xs.length ≤ 12) : Calls Tryd.prog 169 #[v] w (RetB (.int .i64 ((xs.length : Int) - dpB xs xs.length)) w) := by
  have HO := s_l19Ok v xs w h
  rw [show decide (xs.length ≤ 12) = true by simpa using hl] at HO
  have HOK := Lib.hid HO
  have HC := Lib.hid (s_LongestRising v xs w h hl)
  have hz := dpB_bd xs xs.length
  obtain ⟨a, n, c, rfl, HN, hnc, hc⟩ := h.formN
  rw [← HN.out] at hz hl HC ⊢
  clear HO
  generalize dpB xs n = z at *
  go_enter Tryd.func169, Tryd.ntmps169
  go_wp2_with (first
    | (go_at_call 93; refine HOK.out.mono ?_; rintro e w' ⟨rfl, rfl⟩)
    | (go_at_call 221; refine HC.out.mono ?_; rintro e w2 ⟨rfl, hb2⟩))
  go_ret
  exact ⟨rfl, hb2⟩

end Go.Proofs.YtdagkgkllgpeeaaDoor
