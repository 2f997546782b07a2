/- Walks: how far; the line on disorder. -/
import Derived.Test.YtdagkgkllgpeeaaDoorDisD
import Derived.Test.YtdagkgkllgpeeaaDoorLineI
namespace Go.Proofs.YtdagkgkllgpeeaaDoor
open Go.RowKit
set_option linter.unusedVariables false
set_option linter.unusedSimpArgs false

set_option maxHeartbeats 2000000 in
theorem s_FarthestMove (v : Value) (xs : List Int) (w : World) (h : Rd w v (ints xs)) (hl : xs.length ≤ 12) : Calls Tryd.prog 170 #[v] w (RetB (.int .i64 (farN (ordK xs xs.length) xs.length)) w) := by
  have HO := s_l19Ok v xs w h
  rw [show decide (xs.length ≤ 12) = true by simpa using hl] at HO
  have HOK := Lib.hid HO
  have HC := Lib.hid (s_l19Order v xs w h hl)
  obtain ⟨a, n, c, rfl, HN, hnc, hc⟩ := h.formN
  have h12 : n ≤ 12 := by have := HN.out; omega
  rw [← HN.out] at HC ⊢
  clear HO
  have hq : ∀ y ∈ ordK xs n, 0 ≤ y ∧ y < (n : Int) := fun y hy => by obtain ⟨j, hj, rfl⟩ := ordK_mem hy; omega
  have hqL := ordK_len xs n
  obtain ⟨q, hqe⟩ : ∃ q, ordK xs n = q := ⟨_, rfl⟩
  rw [hqe] at HC hq hqL ⊢
  clear hqe
  have HQ := Lib.hid hq
  have HQL := Lib.hid hqL
  clear hq hqL
  go_enter Tryd.func170, Tryd.ntmps170
  go_wp2_with (first
    | (go_at_call 93; refine HOK.out.mono ?_; rintro e w' ⟨rfl, rfl⟩)
    | (go_at_call 222; refine HC.out.mono ?_; rintro e w2 ⟨v2, rfl, ho2, hb2⟩; obtain ⟨a2, m2, c2, rfl, HM2, _, _⟩ := ho2.rd.formN))
  have hm2 : m2 = n := by have := HM2.out; have := HQL.out; omega
  subst hm2
  have hr2 := ho2.rd
  go_loopg [3, 12] m2 (fun g sv iv wr => ∃ (k : Nat) (z : Int), g = m2 - k ∧ k ≤ m2 ∧ iv = .int .i64 k ∧ sv = .int .i64 z ∧ 0 ≤ z ∧ z ≤ m2 ∧ w2 = wr ∧ Hid (z = farN q k))
  case atStart => exact ⟨0, 0, rfl, Nat.zero_le _, rfl, rfl, Int.le_refl _, by omega, rfl, rfl⟩
  case round =>
    obtain ⟨k, z, hg, hk, rfl, rfl, hz0, hz1, rfl, HZ⟩ := hrel
    by_cases hlt : k < m2
    · obtain ⟨ad, y, rfl, hcy, hy⟩ := hr2.int (k := k) (by rw [HQL.out]; exact hlt)
      have hyb := HQ.out y (List.mem_of_getElem? hy.out)
      have HT2 : Hid (max z (max ((k : Int) - y) (y - (k : Int))) = farN q (k + 1)) := by rw [Hid, farN, getD_ok hy.out, ← HZ.out]
      have i1 : (k : Int) < (m2 : Int) := by omega
      go_wp2
      all_goals (
        go_roundg (m2 - (k + 1))
        case measure => omega
        case rel => exact ⟨k + 1, _, rfl, by omega, by go_num, rfl, by omega, by omega, rfl, by have := HT2.out; rw [Hid, ← this] <;> omega⟩)
    · obtain rfl : k = m2 := by omega
      go_wp2
      go_ret
      exact ⟨by rw [← HZ.out]; rfl, hb2⟩

set_option maxHeartbeats 2000000 in
theorem i_FarthestMove (v : Value) (xs : List Int) (w : World) (h : Rd w v (ints xs)) (hl : xs.length ≤ 12) : Calls Tryd.prog 174 #[v] w (RetB (.int .i64 (farN (ordK xs xs.length) xs.length)) w) := by
  have HO := i_isTwelve v xs w h
  rw [show decide (xs.length ≤ 12) = true by simpa using hl] at HO
  have HOK := Lib.hid HO
  have HC := Lib.hid (i_stable v xs w h hl)
  obtain ⟨a, n, c, rfl, HN, hnc, hc⟩ := h.formN
  have h12 : n ≤ 12 := by have := HN.out; omega
  rw [← HN.out] at HC ⊢
  clear HO
  have hq : ∀ y ∈ ordK xs n, 0 ≤ y ∧ y < (n : Int) := fun y hy => by obtain ⟨j, hj, rfl⟩ := ordK_mem hy; omega
  have hqL := ordK_len xs n
  obtain ⟨q, hqe⟩ : ∃ q, ordK xs n = q := ⟨_, rfl⟩
  rw [hqe] at HC hq hqL ⊢
  clear hqe
  have HQ := Lib.hid hq
  have HQL := Lib.hid hqL
  clear hq hqL
  go_enter Tryd.func174, Tryd.ntmps174
  go_wp2_with (first
    | (go_at_call 95; refine HOK.out.mono ?_; rintro e w' ⟨rfl, rfl⟩)
    | (go_at_call 226; refine HC.out.mono ?_; rintro e w2 ⟨v2, rfl, ho2, hb2⟩; obtain ⟨a2, m2, c2, rfl, HM2, _, _⟩ := ho2.rd.formN))
  have hm2 : m2 = n := by have := HM2.out; have := HQL.out; omega
  subst hm2
  have hr2 := ho2.rd
  go_loopg [3, 12] m2 (fun g sv iv wr => ∃ (k : Nat) (z : Int), g = m2 - k ∧ k ≤ m2 ∧ iv = .int .i64 k ∧ sv = .int .i64 z ∧ 0 ≤ z ∧ z ≤ m2 ∧ w2 = wr ∧ Hid (z = farN q k))
  case atStart => exact ⟨0, 0, rfl, Nat.zero_le _, rfl, rfl, Int.le_refl _, by omega, rfl, rfl⟩
  case round =>
    obtain ⟨k, z, hg, hk, rfl, rfl, hz0, hz1, rfl, HZ⟩ := hrel
    by_cases hlt : k < m2
    · obtain ⟨ad, y, rfl, hcy, hy⟩ := hr2.int (k := k) (by rw [HQL.out]; exact hlt)
      have hyb := HQ.out y (List.mem_of_getElem? hy.out)
      have HT2 : Hid (max z (max ((k : Int) - y) (y - (k : Int))) = farN q (k + 1)) := by rw [Hid, farN, getD_ok hy.out, ← HZ.out]
      have i1 : (k : Int) < (m2 : Int) := by omega
      go_wp2
      all_goals (
        go_roundg (m2 - (k + 1))
        case measure => omega
        case rel => exact ⟨k + 1, _, rfl, by omega, by go_num, rfl, by omega, by omega, rfl, by have := HT2.out; rw [Hid, ← this] <;> omega⟩)
    · obtain rfl : k = m2 := by omega
      go_wp2
      go_ret
      exact ⟨by rw [← HZ.out]; rfl, hb2⟩

def disL (xs : List Int) : List Int := [((invN xs : Nat) : Int), ((runN xs xs.length : Nat) : Int), (xs.length : Int) - dpB xs xs.length, farN (ordK xs xs.length) xs.length]
def disLine (xs : List Int) : List UInt8 := if xs.length ≤ 12 then numsB (disL xs) else [110, 111, 110, 101]
theorem disL_I64 {xs : List Int} (hl : xs.length ≤ 12) : I64s (disL xs) := by
  have h1 : invN xs ≤ 144 := Nat.le_trans (invN_le xs) (Nat.mul_le_mul hl hl)
  have h2 := runN_le xs xs.length
  have h3 := dpB_bd xs xs.length
  have h4 := farN_bd (q := ordK xs xs.length) (m := (xs.length : Int)) (fun y hy => by obtain ⟨j, hj, rfl⟩ := ordK_mem hy; omega) (by omega) xs.length (Int.le_refl _)
  intro x hx
  simp only [disL, List.mem_cons, List.not_mem_nil, or_false] at hx
  unfold I64
  rcases hx with rfl | rfl | rfl | rfl <;> omega

set_option maxHeartbeats 1000000 in
theorem s_DisorderOf (v : Value) (xs : List Int) (w : World) (h : Rd w v (ints xs)) (hl : xs.length ≤ 12) : Calls Tryd.prog 94 #[v] w (RetOwn 3 (ints (disL xs)) w) := by
  have HO := s_l19Ok v xs w h
  rw [show decide (xs.length ≤ 12) = true by simpa using hl] at HO
  have HOK := Lib.hid HO
  have H1 := Lib.hid (fun (W : World) (hW : Below w.heap.size w W) => s_InversionsOf v xs W (h.below hW) hl)
  have H2 := Lib.hid (fun (W : World) (hW : Below w.heap.size w W) => s_RunsOf v xs W (h.below hW) hl)
  have H3 := Lib.hid (fun (W : World) (hW : Below w.heap.size w W) => s_RemoveLeast v xs W (h.below hW) hl)
  have H4 := Lib.hid (fun (W : World) (hW : Below w.heap.size w W) => s_FarthestMove v xs W (h.below hW) hl)
  have HD : Hid (ints (disL xs) = [.int .i64 (invN xs : Nat), .int .i64 (runN xs xs.length : Nat), .int .i64 ((xs.length : Int) - dpB xs xs.length), .int .i64 (farN (ordK xs xs.length) xs.length)]) := rfl
  obtain ⟨a, n, c, rfl, HN, hnc, hc⟩ := h.formN
  clear HO
  generalize ((xs.length : Int) - dpB xs xs.length) = z3 at *
  generalize farN (ordK xs xs.length) xs.length = z4 at *
  generalize invN xs = z1 at *
  generalize runN xs xs.length = z2 at *
  go_enter Tryd.func94, Tryd.ntmps94
  go_wp2_with (first
    | (go_at_call 93; refine HOK.out.mono ?_; rintro e w' ⟨rfl, rfl⟩; have b0 : Below w.heap.size w w := Below.refl _ _)
    | (go_at_call 167; refine (H1.out _ b0).mono ?_; rintro e w1 ⟨rfl, hb1⟩)
    | (go_at_call 168; refine (H2.out _ hb1).mono ?_; rintro e w2 ⟨rfl, hb2⟩; have hb2' := hb1.trans (hb2.mono hb1.size))
    | (go_at_call 169; refine (H3.out _ hb2').mono ?_; rintro e w3 ⟨rfl, hb3⟩; have hb3' := hb2'.trans (hb3.mono hb2'.size))
    | (go_at_call 170; refine (H4.out _ hb3').mono ?_; rintro e w4 ⟨rfl, hb4⟩; have hb4' := hb3'.trans (hb4.mono hb3'.size)))
  go_ret
  have hlit := Own.lit w4 3 w.heap.size #[.int .i64 (z1 : Int), .int .i64 (z2 : Int), .int .i64 z3, .int .i64 z4] hb4'.size (by simp)
  exact ⟨_, rfl, by rw [HD.out]; exact hlit, hb4'.alloc hb4'.size _⟩

set_option maxHeartbeats 1000000 in
theorem i_DisorderOf (v : Value) (xs : List Int) (w : World) (h : Rd w v (ints xs)) (hl : xs.length ≤ 12) : Calls Tryd.prog 96 #[v] w (RetOwn 3 (ints (disL xs)) w) := by
  have HO := i_isTwelve v xs w h
  rw [show decide (xs.length ≤ 12) = true by simpa using hl] at HO
  have HOK := Lib.hid HO
  have H1 := Lib.hid (fun (W : World) (hW : Below w.heap.size w W) => i_InversionsOf v xs W (h.below hW) hl)
  have H2 := Lib.hid (fun (W : World) (hW : Below w.heap.size w W) => i_RunsOf v xs W (h.below hW) hl)
  have H3 := Lib.hid (fun (W : World) (hW : Below w.heap.size w W) => i_RemoveLeast v xs W (h.below hW) hl)
  have H4 := Lib.hid (fun (W : World) (hW : Below w.heap.size w W) => i_FarthestMove v xs W (h.below hW) hl)
  have HD : Hid (ints (disL xs) = [.int .i64 (invN xs : Nat), .int .i64 (runN xs xs.length : Nat), .int .i64 ((xs.length : Int) - dpB xs xs.length), .int .i64 (farN (ordK xs xs.length) xs.length)]) := rfl
  obtain ⟨a, n, c, rfl, HN, hnc, hc⟩ := h.formN
  clear HO
  generalize ((xs.length : Int) - dpB xs xs.length) = z3 at *
  generalize farN (ordK xs xs.length) xs.length = z4 at *
  generalize invN xs = z1 at *
  generalize runN xs xs.length = z2 at *
  go_enter Tryd.func96, Tryd.ntmps96
  go_wp2_with (first
    | (go_at_call 95; refine HOK.out.mono ?_; rintro e w' ⟨rfl, rfl⟩; have b0 : Below w.heap.size w w := Below.refl _ _)
    | (go_at_call 171; refine (H1.out _ b0).mono ?_; rintro e w1 ⟨rfl, hb1⟩)
    | (go_at_call 172; refine (H2.out _ hb1).mono ?_; rintro e w2 ⟨rfl, hb2⟩; have hb2' := hb1.trans (hb2.mono hb1.size))
    | (go_at_call 173; refine (H3.out _ hb2').mono ?_; rintro e w3 ⟨rfl, hb3⟩; have hb3' := hb2'.trans (hb3.mono hb2'.size))
    | (go_at_call 174; refine (H4.out _ hb3').mono ?_; rintro e w4 ⟨rfl, hb4⟩; have hb4' := hb3'.trans (hb4.mono hb3'.size)))
  go_ret
  have hlit := Own.lit w4 3 w.heap.size #[.int .i64 (z1 : Int), .int .i64 (z2 : Int), .int .i64 z3, .int .i64 z4] hb4'.size (by simp)
  exact ⟨_, rfl, by rw [HD.out]; exact hlit, hb4'.alloc hb4'.size _⟩

set_option maxHeartbeats 1000000 in
theorem S_DisorderLine (w : World) (v : Value) (xs : List Int) (h : Rd w v (ints xs)) (_ : I64s xs) (_ : xs.length ≤ 1048576) : Calls Tryd.prog 39 #[v] w (RetB (.string (bstr (disLine xs))) w) := by
  have HO := s_l19Ok v xs w h
  by_cases hl : xs.length ≤ 12
  · rw [show decide (xs.length ≤ 12) = true by simpa using hl] at HO
    have HOK := Lib.hid HO
    have HD := Lib.hid (s_DisorderOf v xs w h hl)
    have hi := disL_I64 hl
    have hn4 : (disL xs).length = 4 := rfl
    have HR : Hid (disLine xs = numsB (disL xs)) := by rw [Hid, disLine, if_pos hl]
    have g0 : fmtNums (disL xs) = numsB (disL xs) := by rw [fmtNums, if_neg (by omega)]
    have HF0 := fun (W : World) (u : Value) (hu : Rd W u (ints (disL xs))) => S_FormatNumbers W u _ hu hi (by omega)
    rw [g0] at HF0
    have HF := Lib.hid HF0
    obtain ⟨a, n, c, rfl, HN, hnc, hc⟩ := h.formN
    clear HO hi hn4 HF0 hl
    go_enter Tryd.func39, Tryd.ntmps39
    go_wp2_with (first
      | (go_at_call 93; refine HOK.out.mono ?_; rintro e w' ⟨rfl, rfl⟩)
      | (go_at_call 94; refine HD.out.mono ?_; rintro e w2 ⟨v2, rfl, ho2, hb2⟩)
      | (go_at_call 14; (with_reducible refine (HF.out _ _ ho2.rd).mono ?_); rintro e w3 ⟨rfl, hb3⟩))
    go_ret
    exact ⟨by rw [HR.out]; rfl, hb2.trans (hb3.mono hb2.size)⟩
  · rw [show decide (xs.length ≤ 12) = false by simpa using hl] at HO
    have HOK := Lib.hid HO
    have HR : Hid (disLine xs = [110, 111, 110, 101]) := by rw [Hid, disLine, if_neg hl]
    obtain ⟨a, n, c, rfl, HN, hnc, hc⟩ := h.formN
    clear HO hl
    go_enter Tryd.func39, Tryd.ntmps39
    go_wp2_with (go_at_call 93; refine HOK.out.mono ?_; rintro e w' ⟨rfl, rfl⟩)
    go_ret
    exact ⟨by rw [HR.out]; rfl, Below.refl _ _⟩

set_option maxHeartbeats 1000000 in
theorem I_DisorderLine (w : World) (v : Value) (xs : List Int) (h : Rd w v (ints xs)) (_ : I64s xs) (_ : xs.length ≤ 1048576) (ht : Tab w) : Calls Tryd.prog 40 #[v] w (RetB (.string (bstr (disLine xs))) w) := by
  have HO := i_isTwelve v xs w h
  by_cases hl : xs.length ≤ 12
  · rw [show decide (xs.length ≤ 12) = true by simpa using hl] at HO
    have HOK := Lib.hid HO
    have HD := Lib.hid (i_DisorderOf v xs w h hl)
    have hi := disL_I64 hl
    have hn4 : (disL xs).length = 4 := rfl
    have HR : Hid (disLine xs = numsB (disL xs)) := by rw [Hid, disLine, if_pos hl]
    have HF0 := fun (W : World) (u : Value) (hu : Rd W u (ints (disL xs))) (hW : Tab W) => i_numbers W u _ hu hi (by omega) hW
    have HF := Lib.hid HF0
    obtain ⟨a, n, c, rfl, HN, hnc, hc⟩ := h.formN
    clear HO hi hn4 HF0 hl
    go_enter Tryd.func40, Tryd.ntmps40
    go_wp2_with (first
      | (go_at_call 95; refine HOK.out.mono ?_; rintro e w' ⟨rfl, rfl⟩)
      | (go_at_call 96; refine HD.out.mono ?_; rintro e w2 ⟨v2, rfl, ho2, hb2⟩)
      | (go_at_call 45; (with_reducible refine (HF.out _ _ ho2.rd (ht.below hb2)).mono ?_); rintro e w3 ⟨rfl, hb3⟩))
    go_ret
    exact ⟨by rw [HR.out]; rfl, hb2.trans (hb3.mono hb2.size)⟩
  · rw [show decide (xs.length ≤ 12) = false by simpa using hl] at HO
    have HOK := Lib.hid HO
    have HR : Hid (disLine xs = [110, 111, 110, 101]) := by rw [Hid, disLine, if_neg hl]
    obtain ⟨a, n, c, rfl, HN, hnc, hc⟩ := h.formN
    clear HO hl
    go_enter Tryd.func40, Tryd.ntmps40
    go_wp2_with (go_at_call 95; refine HOK.out.mono ?_; rintro e w' ⟨rfl, rfl⟩)
    go_ret
    exact ⟨by rw [HR.out]; rfl, Below.refl _ _⟩

end Go.Proofs.YtdagkgkllgpeeaaDoor
