/- Walks: inversions, runs. -/
import Derived.Test.YtdagkgkllgpeeaaDoorPlainDis
import Derived.Test.YtdagkgkllgpeeaaDoorApp
import Derived.BigQuiet
import Derived.Deep.QuietTactic
import Derived.Deep.LoopGhost
namespace Go.Proofs.YtdagkgkllgpeeaaDoor
open Go.RowKit
set_option linter.unusedVariables false
set_option linter.unusedSimpArgs false

theorem i_isTwelve (v : Value) (xs : List Int) (w : World) (h : Rd w v (ints xs)) : Calls Tryd.prog 95 #[v] w fun e w' => e = .returned (.bool (decide (xs.length ≤ 12))) ∧ w = w' := by
  obtain ⟨a, n, c, rfl, HN, hnc, hc⟩ := h.formN
  have HB : Hid (decide (xs.length ≤ 12) = decide (n ≤ 12)) := by rw [Hid, HN.out]
  by_cases h12 : n ≤ 12
  · have d : decide ((n : Int) ≤ 12) = true := by simp; omega
    go_enter Tryd.func95, Tryd.ntmps95
    go_wp2
    go_ret
    exact ⟨ret_bool (by rw [HB.out]; simp [h12]), rfl⟩
  · have d : decide ((n : Int) ≤ 12) = false := by simp; omega
    go_enter Tryd.func95, Tryd.ntmps95
    go_wp2
    go_ret
    exact ⟨ret_bool (by rw [HB.out]; simp [h12]), rfl⟩

theorem s_l19Ok (v : Value) (xs : List Int) (w : World) (h : Rd w v (ints xs)) : Calls Tryd.prog 93 #[v] w fun e w' => e = .returned (.bool (decide (xs.length ≤ 12))) ∧ w = w' := by
  obtain ⟨a, n, c, rfl, HN, hnc, hc⟩ := h.formN
  have HB : Hid (decide (xs.length ≤ 12) = decide (n ≤ 12)) := by rw [Hid, HN.out]
  by_cases h12 : n ≤ 12
  · have d : decide ((n : Int) ≤ 12) = true := by simp; omega
    go_enter Tryd.func93, Tryd.ntmps93
    go_wp2
    go_ret
    exact ⟨ret_bool (by rw [HB.out]; simp [h12]), rfl⟩
  · have d : decide ((n : Int) ≤ 12) = false := by simp; omega
    go_enter Tryd.func93, Tryd.ntmps93
    go_wp2
    go_ret
    exact ⟨ret_bool (by rw [HB.out]; simp [h12]), rfl⟩

set_option maxHeartbeats 1000000 in
theorem s_l19Counts (v : Value) (xs : List Int) (w : World) (h : Rd w v (ints xs)) (hl : xs.length ≤ 12) : Calls Tryd.prog 220 #[v] w (RetOwn 3 (ints (cntsL xs xs.length)) w) := by
  obtain ⟨a, n, c, rfl, HN, hnc, hc⟩ := h.formN
  have h12 : n ≤ 12 := by have := HN.out; omega
  have hA : Own (w.alloc (.cells #[] 3)) 3 w.heap.size (.slice (some ⟨w.heap.size, 0, none⟩) 0 0) (ints (cntsL xs 0)) := Own.lit0 w 3 (Nat.le_refl _)
  have hb0 : Below w.heap.size w (w.alloc (.cells #[] 3)) := (Below.refl _ _).alloc (Nat.le_refl _) _
  go_enter Tryd.func220, Tryd.ntmps220
  go_wp2
  go_loopg [3, 12] n (fun g vo iv wr => ∃ i : Nat, g = n - i ∧ i ≤ n ∧ iv = .int .i64 i ∧ Own wr 3 w.heap.size vo (ints (cntsL xs i)) ∧ Below w.heap.size w wr)
  case atStart => exact ⟨0, rfl, Nat.zero_le _, rfl, hA, hb0⟩
  case round =>
    clear hA hb0
    obtain ⟨i, hg, hi, rfl, ho, hb⟩ := hrel
    obtain ⟨ao, mo, co, rfl, HMO, _, _⟩ := ho.rd.formN
    have hmo : mo = i := by have := HMO.out; rw [cntsL_len] at this; exact this
    subst hmo
    by_cases hlt : mo < n
    · obtain ⟨ad, x, rfl, hcx, hx⟩ := (h.below hb).int (k := mo) (by have := HN.out; omega)
      have i1 : (mo : Int) < (n : Int) := by omega
      have i2 : (mo : Int) ≤ (c : Int) := by omega
      have hrT : Rd wr (.slice (some ad) mo c) (ints (xs.take mo)) := by rw [← ints_take]; exact (h.below hb).take hi
      go_wp2
      go_loopg [6, 21] mo (fun g nv qv wx => ∃ (q : Nat) (z : Nat), g = mo - q ∧ q ≤ mo ∧ qv = .int .i64 q ∧ nv = .int .i64 z ∧ z ≤ q ∧ wr = wx ∧ Hid (z = (xs.take q).countP (fun y => decide (x < y))))
      case atStart => exact ⟨0, 0, rfl, Nat.zero_le _, rfl, rfl, Nat.le_refl _, rfl, rfl⟩
      case round =>
        obtain ⟨q, z, hgq, hq, rfl, rfl, hz, rfl, HZ⟩ := hrel
        by_cases hlq : q < mo
        · obtain ⟨ad2, y, had2, hcy, hy⟩ := (h.below hb).int (k := q) (by have := HN.out; omega)
          obtain rfl : ad = ad2 := by injection had2
          clear had2
          have q1 : (q : Int) < (mo : Int) := by omega
          by_cases hxy : x < y
          · have d1 : decide (y > x) = true := by simpa using hxy
            have HZ2 : Hid (z + 1 = (xs.take (q + 1)).countP (fun y => decide (x < y))) := by rw [Hid, countP_take _ hy.out, ← HZ.out]; simp [hxy]
            go_wp2
            go_roundg (mo - (q + 1))
            case measure => omega
            case rel => exact ⟨q + 1, z + 1, rfl, by omega, by go_num, by go_num, by omega, rfl, HZ2⟩
          · have d1 : decide (y > x) = false := by simpa using hxy
            have HZ2 : Hid (z = (xs.take (q + 1)).countP (fun y => decide (x < y))) := by rw [Hid, countP_take _ hy.out, ← HZ.out]; simp [hxy]
            go_wp2
            go_roundg (mo - (q + 1))
            case measure => omega
            case rel => exact ⟨q + 1, z, rfl, by omega, by go_num, rfl, by omega, rfl, HZ2⟩
        · obtain rfl : q = mo := by omega
          have hsb := hb.size
          have HLo : Hid ((ints (cntsL xs q)).length = q) := by rw [Hid, ints_length, cntsL_len]
          have HC : Hid (ints (cntsL xs (q + 1)) = ints (cntsL xs q) ++ [.int .i64 (z : Int)]) := by rw [Hid, cntsL_succ hx.out, ints_append, HZ.out]; rfl
          go_wp2_with (at_builtin; refine wpList_app1m rfl _ _ 22 rfl elI rfl ho (by show Value.slice (some ⟨wr.heap.size, 0, none⟩) 1 1 = _; simp) rfl hsb _ HLo.out (by omega) (by omega) ?_; intro b5 c5 w5 ho5 hg5 hat5)
          go_roundg (n - (q + 1))
          case measure => omega
          case rel => exact ⟨q + 1, rfl, by omega, by go_num, by rw [HC.out]; exact ho5, hb.grown hg5 hsb (fun r hr => (ho.lt r hr).1)⟩
    · obtain rfl : mo = n := by omega
      go_wp2
      go_ret
      exact ⟨_, rfl, by rw [← HN.out]; exact ho, hb⟩

set_option maxHeartbeats 1000000 in
theorem s_InversionsOf (v : Value) (xs : List Int) (w : World) (h : Rd w v (ints xs)) (hl : xs.length ≤ 12) : Calls Tryd.prog 167 #[v] w (RetB (.int .i64 (invN xs : Nat)) w) := by
  have HO := s_l19Ok v xs w h
  rw [show decide (xs.length ≤ 12) = true by simpa using hl] at HO
  have HOK := Lib.hid HO
  have HC := Lib.hid (s_l19Counts v xs w h hl)
  obtain ⟨a, n, c, rfl, HN, hnc, hc⟩ := h.formN
  have h12 : n ≤ 12 := by have := HN.out; omega
  rw [← HN.out] at HC
  clear HO
  go_enter Tryd.func167, Tryd.ntmps167
  go_wp2_with (first
    | (go_at_call 93; refine HOK.out.mono ?_; rintro e w' ⟨rfl, rfl⟩)
    | (go_at_call 220; refine HC.out.mono ?_; rintro e w2 ⟨v2, rfl, ho2, hb2⟩; obtain ⟨a2, m2, c2, rfl, HM2, _, _⟩ := ho2.rd.formN))
  have hm2 : m2 = n := by have := HM2.out; rw [cntsL_len] at this; exact this
  subst hm2
  have hr2 := ho2.rd
  go_loopg [3, 12] m2 (fun g sv iv wr => ∃ (k : Nat) (z : Nat), g = m2 - k ∧ k ≤ m2 ∧ iv = .int .i64 k ∧ sv = .int .i64 z ∧ w2 = wr ∧ Hid (z = invN (xs.take k)))
  case atStart => exact ⟨0, 0, rfl, Nat.zero_le _, rfl, rfl, rfl, rfl⟩
  case round =>
    obtain ⟨k, z, hg, hk, rfl, rfl, rfl, HZ⟩ := hrel
    by_cases hlt : k < m2
    · obtain ⟨ad, y, rfl, hcy, hy⟩ := hr2.int (k := k) (by rw [cntsL_len]; exact hlt)
      obtain ⟨x, hx, hyx⟩ := cntsL_get HN.out hy.out
      obtain ⟨t, ht⟩ : ∃ t, (xs.take k).countP (fun z => decide (x < z)) = t := ⟨_, rfl⟩
      rw [ht] at hyx
      subst hyx
      have HZ2 : Hid (z + t = invN (xs.take (k + 1))) := by rw [Hid, invN_take hx, HZ.out, ht]
      have hzb : z + t ≤ 144 := by
        rw [HZ2.out]
        have h1 := invN_le (xs.take (k + 1))
        have h2 : (xs.take (k + 1)).length ≤ 12 := by simp; omega
        exact Nat.le_trans h1 (Nat.mul_le_mul h2 h2)
      have i1 : (k : Int) < (m2 : Int) := by omega
      clear hx ht
      go_wp2
      go_roundg (m2 - (k + 1))
      case measure => omega
      case rel => exact ⟨k + 1, z + t, rfl, by omega, by go_num, by go_num, rfl, HZ2⟩
    · obtain rfl : k = m2 := by omega
      have HZ2 : Hid (invN xs = z) := by rw [Hid, HZ.out, HN.out, List.take_length]
      go_wp2
      go_ret
      exact ⟨by rw [HZ2.out]; rfl, hb2⟩

set_option maxHeartbeats 1000000 in
theorem i_inversions (v : Value) (xs : List Int) (w : World) (hR : Rd w v (ints xs)) (hl : xs.length ≤ 12) : Calls Tryd.prog 223 #[v] w (RetB (.int .i64 (invN xs : Nat)) w) := by
  obtain ⟨a, n, c, rfl, HN, hnc, hc⟩ := hR.formN
  have h12 : n ≤ 12 := by have := HN.out; omega
  have hzb : invN xs ≤ 144 := by
    have h1 := invN_le xs
    exact Nat.le_trans h1 (Nat.mul_le_mul hl hl)
  have HZB := Lib.hid hzb
  clear hzb
  go_enter Tryd.func223, Tryd.ntmps223
  go_wp2
  go_loopg [3, 10] n (fun g sv iv wr => ∃ (i : Nat) (z : Nat), g = n - i ∧ i ≤ n ∧ iv = .int .i64 i ∧ sv = .int .i64 z ∧ w = wr ∧ Hid (z + invN (xs.drop i) = invN xs))
  case atStart => exact ⟨0, 0, rfl, Nat.zero_le _, rfl, rfl, rfl, by rw [Hid, List.drop_zero, Nat.zero_add]⟩
  case round =>
    obtain ⟨i, z, hg, hi, rfl, rfl, rfl, HZ⟩ := hrel
    by_cases hlt : i < n
    · obtain ⟨ad, x, rfl, hcx, hx⟩ := hR.int (k := i) (by have := HN.out; omega)
      have i1 : (i : Int) < (n : Int) := by omega
      have j2 : (i : Int) + 1 ≤ (n : Int) := by omega
      have j3 : (i : Int) + 1 ≤ (c : Int) := by omega
      have j5 : ((i : Int) + 1).toNat = i + 1 := by omega
      have HD : Hid (invN (xs.drop i) = (xs.drop (i + 1)).countP (fun y => decide (y < x)) + invN (xs.drop (i + 1))) := by rw [Hid, drop_ok hx.out]; rfl
      have hrC : Rd w (.slice (if c = i + 1 then some ad else some (ad.add (i + 1))) (n - (i + 1)) (c - (i + 1))) (ints (xs.drop (i + 1))) := by rw [← ints_drop]; exact hR.cut (show i + 1 ≤ n by omega)
      obtain ⟨m, hm⟩ : ∃ m, n - (i + 1) = m := ⟨_, rfl⟩
      obtain ⟨cC, hcC⟩ : ∃ cC, c - (i + 1) = cC := ⟨_, rfl⟩
      rw [hm, hcC] at hrC
      have hrC1 : c = i + 1 → Rd w (.slice (some ad) m cC) (ints (xs.drop (i + 1))) := fun e => by rw [if_pos e] at hrC; exact hrC
      have hrC2 : ¬ c = i + 1 → Rd w (.slice (some ⟨ad.block, ad.off + (i + 1), none⟩) m cC) (ints (xs.drop (i + 1))) := fun e => by rw [if_neg e, add_succ] at hrC; exact hrC
      clear hrC
      go_wp2
      all_goals first
        | (have hrC := hrC1 (by assumption); rw [← h]; clear h)
        | (have hrC := hrC2 (by assumption); clear h)
      all_goals (
        go_loopg [3, 20] m (fun g sv qv wr => ∃ (q : Nat) (t : Nat), g = m - q ∧ q ≤ m ∧ qv = .int .i64 q ∧ sv = .int .i64 (t : Int) ∧ w = wr ∧ Hid (t = z + ((xs.drop (i + 1)).take q).countP (fun y => decide (y < x))))
        case atStart => exact ⟨0, z, rfl, Nat.zero_le _, rfl, rfl, rfl, rfl⟩
        case round =>
          obtain ⟨q, t, hgq, hq, rfl, rfl, rfl, HT⟩ := hrel
          have htb : t ≤ 144 := by
            have h1 := HT.out
            have h2 := HZ.out
            have h3 := HD.out
            have h4 := HZB.out
            have h5 : ((xs.drop (i + 1)).take q).countP (fun y => decide (y < x)) ≤ (xs.drop (i + 1)).countP (fun y => decide (y < x)) := (List.take_sublist _ _).countP_le
            omega
          by_cases hltq : q < m
          · obtain ⟨adC, y, had3, hcz, hy⟩ := hrC.int (k := q) (by rw [List.length_drop, ← HN.out]; omega)
            have q1 : (q : Int) < (m : Int) := by omega
            obtain rfl := Option.some.inj had3
            clear had3
            try rw [Addr.add_lit] at hcz
            by_cases hxy : y < x
            · have d1 : decide (x > y) = true := by simpa using hxy
              have HT2 : Hid (t + 1 = z + ((xs.drop (i + 1)).take (q + 1)).countP (fun y => decide (y < x))) := by rw [Hid, countP_take _ hy.out, ← Nat.add_assoc, ← HT.out]; simp [hxy]
              go_wp2
              go_roundg (m - (q + 1))
              case measure => omega
              case rel => exact ⟨q + 1, t + 1, rfl, by omega, by go_num, by go_num, rfl, HT2⟩
            · have d1 : decide (x > y) = false := by simpa using hxy
              have HT2 : Hid (t = z + ((xs.drop (i + 1)).take (q + 1)).countP (fun y => decide (y < x))) := by rw [Hid, countP_take _ hy.out, ← Nat.add_assoc, ← HT.out]; simp [hxy]
              go_wp2
              go_roundg (m - (q + 1))
              case measure => omega
              case rel => exact ⟨q + 1, t, rfl, by omega, by go_num, rfl, rfl, HT2⟩
          · have HT2 : Hid (t + invN (xs.drop (i + 1)) = invN xs) := by
              have h1 := HT.out
              rw [List.take_of_length_le (by rw [List.length_drop, ← HN.out]; omega)] at h1
              have h2 := HZ.out
              have h3 := HD.out
              rw [Hid]; omega
            go_wp2
            go_roundg (n - (i + 1))
            case measure => omega
            case rel => exact ⟨i + 1, t, rfl, by omega, by go_num, rfl, rfl, HT2⟩)
    · have HZ2 : Hid (invN xs = z) := by
        have := HZ.out
        rw [List.drop_eq_nil_of_le (by rw [← HN.out]; omega)] at this
        rw [Hid, ← this]; rfl
      go_wp2
      go_ret
      exact ⟨by rw [HZ2.out]; rfl, Below.refl _ _⟩

theorem i_InversionsOf (v : Value) (xs : List Int) (w : World) (h : Rd w v (ints xs)) (hl : xs.length ≤ 12) : Calls Tryd.prog 171 #[v] w (RetB (.int .i64 (invN xs : Nat)) w) := by
  have HO := i_isTwelve v xs w h
  rw [show decide (xs.length ≤ 12) = true by simpa using hl] at HO
  have HOK := Lib.hid HO
  have HC := Lib.hid (i_inversions v xs w h hl)
  obtain ⟨a, n, c, rfl, HN, hnc, hc⟩ := h.formN
  clear HO
  generalize invN xs = z at *
  go_enter Tryd.func171, Tryd.ntmps171
  go_wp2_with (first
    | (go_at_call 95; refine HOK.out.mono ?_; rintro e w' ⟨rfl, rfl⟩)
    | (go_at_call 223; refine HC.out.mono ?_; rintro e w2 ⟨rfl, hb2⟩))
  go_ret
  exact ⟨rfl, hb2⟩

set_option maxHeartbeats 1000000 in
theorem s_RunsOf (v : Value) (xs : List Int) (w : World) (h : Rd w v (ints xs)) (hl : xs.length ≤ 12) : Calls Tryd.prog 168 #[v] w (RetB (.int .i64 (runN xs xs.length : Nat)) w) := by
  have HO := s_l19Ok v xs w h
  rw [show decide (xs.length ≤ 12) = true by simpa using hl] at HO
  have HOK := Lib.hid HO
  obtain ⟨a, n, c, rfl, HN, hnc, hc⟩ := h.formN
  have h12 : n ≤ 12 := by have := HN.out; omega
  rw [← HN.out]
  clear HO
  go_enter Tryd.func168, Tryd.ntmps168
  go_wp2_with (go_at_call 93; refine HOK.out.mono ?_; rintro e w' ⟨rfl, rfl⟩)
  go_loopg [3, 10] n (fun g sv iv wr => ∃ (k : Nat) (z : Nat), g = n - k ∧ k ≤ n ∧ iv = .int .i64 k ∧ sv = .int .i64 z ∧ z ≤ k ∧ Dr w wr ∧ Hid (z = runN xs k))
  case atStart => exact ⟨0, 0, rfl, Nat.zero_le _, rfl, rfl, Nat.le_refl _, Dr.refl _, rfl⟩
  case round =>
    obtain ⟨k, z, hg, hk, rfl, rfl, hz, hdr, HZ⟩ := hrel
    by_cases hlt : k < n
    · have i1 : (k : Int) < (n : Int) := by omega
      rcases Nat.eq_zero_or_pos k with hk0 | hk0
      · subst hk0
        have HZ2 : Hid (z + 1 = runN xs 1) := by rw [Hid, HZ.out]; rfl
        have d0 : (((0 : Nat) : Int) == 0) = true := rfl
        go_wp2
        go_quiet (fail)
        go_wp2
        go_roundg (n - 1)
        case measure => omega
        case rel => exact ⟨1, z + 1, rfl, by omega, by go_num, by go_num, by omega, hdr.step _, HZ2⟩
      · obtain ⟨K, rfl⟩ : ∃ K, k = K + 1 := ⟨k - 1, by omega⟩
        obtain ⟨ad, x, rfl, hcx, hx⟩ := (h.dr hdr).int (k := K + 1) (by have := HN.out; omega)
        obtain ⟨ad2, y, had2, hcy, hy⟩ := (h.dr hdr).int (k := K) (by have := HN.out; omega)
        obtain rfl : ad = ad2 := by injection had2
        clear had2
        rw [add_succ] at hcx
        have d0 : (((K + 1 : Nat) : Int) == 0) = false := by simp; omega
        have d0' : ((K : Int) + 1 == 0) = false := by simp; omega
        have i2 : (K : Int) + 1 < (n : Int) := by omega
        have i3 : (K : Int) < (n : Int) := by omega
        have i5 : ((K : Int) + 1).toNat = K + 1 := by omega
        by_cases hxy : x < y
        · have d1 : decide (x < y) = true := by simpa using hxy
          have HZ2 : Hid (z + 1 = runN xs (K + 1 + 1)) := by rw [Hid, HZ.out, runN.eq_2 xs (K + 1), runB, Nat.add_sub_cancel, getD_ok hx.out, getD_ok hy.out]; simp [hxy]
          go_wp2
          go_quiet (fail)
          go_wp2
          go_roundg (n - (K + 1 + 1))
          case measure => omega
          case rel => exact ⟨K + 1 + 1, z + 1, rfl, by omega, by go_num, by go_num, by omega, hdr.step _, HZ2⟩
        · have d1 : decide (x < y) = false := by simpa using hxy
          have HZ2 : Hid (z = runN xs (K + 1 + 1)) := by rw [Hid, HZ.out, runN.eq_2 xs (K + 1), runB, Nat.add_sub_cancel, getD_ok hx.out, getD_ok hy.out]; simp [hxy]
          go_wp2
          go_quiet (fail)
          go_wp2
          go_roundg (n - (K + 1 + 1))
          case measure => omega
          case rel => exact ⟨K + 1 + 1, z, rfl, by omega, by go_num, rfl, by omega, hdr.step _, HZ2⟩
    · obtain rfl : k = n := by omega
      go_wp2
      go_ret
      exact ⟨by rw [← HZ.out]; rfl, hdr.below _⟩

end Go.Proofs.YtdagkgkllgpeeaaDoor
