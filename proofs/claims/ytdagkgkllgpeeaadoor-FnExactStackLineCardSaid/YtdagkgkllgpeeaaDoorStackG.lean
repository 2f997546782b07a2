/- Walks: words, rounds and the line on stacks. -/
import Derived.Test.YtdagkgkllgpeeaaDoorStackF
import Derived.Test.YtdagkgkllgpeeaaDoorLineI
namespace Go.Proofs.YtdagkgkllgpeeaaDoor
open Go.RowKit
set_option linter.unusedVariables false
set_option linter.unusedSimpArgs false

set_option maxHeartbeats 1000000 in
theorem I_StackWord (v : Value) (xs : List Int) (w : World) (h : Rd w v (ints xs)) : Calls Tryd.prog 54 #[v] w (RetWord (wordOf xs) (shortB xs && canB xs) w) := by
  have HS0 := I_CanStackSort v xs w h
  obtain ⟨aT, n, cT, rfl, HN, hnc, hc⟩ := h.formN
  cases hcan : (shortB xs && canB xs)
  · rw [hcan] at HS0
    have HR : Hid (wordOf xs = []) := by rw [Hid, wordOf, hcan]; rfl
    have HS := Lib.hid HS0
    clear HS0 hcan
    go_enter Tryd.func54, Tryd.ntmps54
    go_wp2_with (go_at_call 112; refine HS.out.mono ?_; rintro e w1 ⟨rfl, hb1⟩)
    go_ret2
    exact ⟨by rw [HR.out]; rfl, hb1⟩
  · rw [hcan] at HS0
    have HR : Hid (wordOf xs = stkW xs) := by rw [Hid, wordOf, hcan]; rfl
    have h8 := (shortB_iff.1 (Bool.and_eq_true_iff.1 hcan).1).1
    have HS := Lib.hid HS0
    have HT := Lib.hid (fun (W : World) (hW : Below w.heap.size w W) => i_stackSort _ xs W (h.below hW) h8)
    clear HS0 hcan
    go_enter Tryd.func54, Tryd.ntmps54
    go_wp2_with (first
      | (go_at_call 112; refine HS.out.mono ?_; rintro e w1 ⟨rfl, hb1⟩)
      | (go_at_call 113; refine (HT.out _ hb1).mono ?_; rintro e w2 ⟨v2, rfl, ho2, hb2⟩))
    go_ret2
    exact ⟨by rw [HR.out]; rfl, hb1.trans (hb2.mono hb1.size)⟩

set_option maxHeartbeats 1000000 in
theorem I_StackRounds (v : Value) (xs : List Int) (w : World) (h : Rd w v (ints xs)) (hs : shortB xs = true) : Calls Tryd.prog 56 #[v] w (RetB (.int .i64 (rndN 9 xs : Nat)) w) := by
  have HS0 := i_isShortOrder v xs w h
  rw [hs] at HS0
  have HS := Lib.hid HS0
  have H0 : Hid (Rnd 0 xs) := Rnd.start (shortB_iff.1 hs).2.2 (shortB_iff.1 hs).1
  have HSH := Lib.hid hs
  clear HS0 hs
  go_enter Tryd.func56, Tryd.ntmps56
  go_wp2_with (go_at_call 53; refine HS.out.mono ?_; rintro e w1 ⟨rfl, hb1⟩)
  have h1 := h.below hb1
  go_loopg [0, 3] 9 (fun g vn iv wr => ∃ (k : Nat) (ys : List Int), g = 9 - k ∧ k ≤ 8 ∧ iv = .int .i64 k ∧ Rd wr vn (ints ys) ∧ Below w.heap.size w wr ∧ Hid (Rnd k ys) ∧ Hid (shortB ys = true) ∧ Hid (rndN 9 xs = k + rndN (9 - k) ys))
  case atStart => exact ⟨0, _, rfl, Nat.zero_le _, rfl, h1, hb1, H0, HSH, by rw [Hid, Nat.zero_add]⟩
  case round =>
    clear h1 hb1
    obtain ⟨k, ys, hg, hk, rfl, hr, hb, HRN, HSY, HE⟩ := hrel
    have hA := f_IsSorted _ ys wr hr
    cases hadj : adjB ys
    · rw [hadj] at hA
      have HAD := Lib.hid hA
      obtain ⟨hk8, hst⟩ := HRN.out.step hadj
      have HST := Lib.hid hst
      have HE2 : Hid (rndN 9 xs = (k + 1) + rndN (9 - (k + 1)) (stkS ys)) := by
        have := HE.out
        rw [show 9 - k = (9 - (k + 1)) + 1 by omega, rndN_no hadj] at this
        rw [Hid, this]; omega
      have HSP : Hid (shortB (stkS ys) = true) := shortB_perm (stkS_perm ys) HSY.out
      have HT := Lib.hid (fun (W : World) (hW : Dr wr W) => i_stackSort _ ys W (hr.dr hW) (shortB_iff.1 HSY.out).1)
      clear hA hadj hst HE HRN
      go_wp2_with (first
        | (go_at_call 115; refine HAD.out.mono ?_; rintro e w2 ⟨rfl, hd2⟩)
        | (go_at_call 113; refine (HT.out _ hd2).mono ?_; rintro e w3 ⟨v3, rfl, ho3, hb3⟩))
      have hb4 := hb.trans (((hd2.below _).trans (hb3.mono (hd2.below wr.heap.size).size)).mono hb.size)
      go_roundg (9 - (k + 1))
      case measure => omega
      case rel => exact ⟨k + 1, _, rfl, by omega, by go_num, ho3.rd, hb4, HST, HSP, HE2⟩
    · rw [hadj] at hA
      have HAD := Lib.hid hA
      have HE2 : Hid (rndN 9 xs = k) := by have := HE.out; rw [rndN_yes hadj] at this; exact this
      clear hA hadj
      go_wp2_with (go_at_call 115; refine HAD.out.mono ?_; rintro e w2 ⟨rfl, hd2⟩)
      go_ret
      exact ⟨by rw [HE2.out]; rfl, hb.trans ((hd2.below _).mono hb.size)⟩

def stackLine (xs : List Int) : List UInt8 :=
  if shortB xs then (if canB xs then [119, 111, 114, 100, 32] ++ stkW xs else [114, 111, 117, 110, 100, 115, 32] ++ Lib.itoa (rndN 9 xs : Nat)) else [110, 111, 110, 101]
theorem stkW_len {xs : List Int} : (stkW xs).length ≤ 2 * xs.length := by
  have := stkR_len xs xs.length (Nat.le_refl _)
  simp only [stkW, List.length_append, List.length_replicate]
  omega
theorem rnd_I64 (xs : List Int) : I64 ((rndN 9 xs : Nat) : Int) := by
  have := rndN_le 9 xs
  unfold I64
  omega

set_option maxHeartbeats 1000000 in
theorem S_StackLine (w : World) (v : Value) (xs : List Int) (h : Rd w v (ints xs)) (_ : I64s xs) (_ : xs.length ≤ 1048576) : Calls Tryd.prog 22 #[v] w (RetB (.string (bstr (stackLine xs))) w) := by
  have HO := s_l14Small v xs w h
  have HW0 := fun (W : World) (hW : Below w.heap.size w W) => S_StackWord v xs W (h.below hW)
  cases hs : shortB xs
  · rw [hs] at HO
    have HR : Hid (stackLine xs = [110, 111, 110, 101]) := by rw [Hid, stackLine, hs]; rfl
    have HOK := Lib.hid HO
    clear HO hs HW0
    obtain ⟨a, n, c, rfl, HN, hnc, hc⟩ := h.formN
    go_enter Tryd.func22, Tryd.ntmps22
    go_wp2_with (go_at_call 50; refine HOK.out.mono ?_; rintro e w' ⟨rfl, hb1⟩)
    go_ret
    exact ⟨by rw [HR.out]; rfl, hb1⟩
  · rw [hs] at HO HW0
    have HOK := Lib.hid HO
    have h8 := (shortB_iff.1 hs).1
    cases hcan : canB xs
    · rw [hcan] at HW0
      have HR : Hid (stackLine xs = [114, 111, 117, 110, 100, 115, 32] ++ Lib.itoa (rndN 9 xs : Nat)) := by rw [Hid, stackLine, hs, hcan]; rfl
      have HWK := Lib.hid HW0
      have HRK := Lib.hid (fun (W : World) (hW : Below w.heap.size w W) => S_StackRounds v xs W (h.below hW) hs)
      have HFI := Lib.hid (fun (W : World) => S_FormatInt W _ (rnd_I64 xs))
      have hlen := (itoa_len (rnd_I64 xs)).2
      obtain ⟨A, hA⟩ : ∃ A, bstr (Lib.itoa ((rndN 9 xs : Nat) : Int)) = A := ⟨_, rfl⟩
      have hAs : A.size ≤ 20 := by rw [← hA, bstr_size]; exact hlen
      have HR1 : Hid (bstr (stackLine xs) = (⟨#[114, 111, 117, 110, 100, 115, 32]⟩ : ByteArray) ++ A) := by rw [Hid, HR.out, ← hA]; exact (bstr_app _ _).symm
      have HFI2 : Hid (∀ W : World, Calls Tryd.prog 43 #[.int .i64 ((rndN 9 xs : Nat) : Int)] W (RetB (.string A) W)) := by rw [← hA]; exact HFI.out
      have q1 : ¬ 9223372036854775807 < 7 + A.size := by omega
      generalize rndN 9 xs = rr at *
      clear HO hs hcan HW0 hA HFI hlen
      obtain ⟨a, n, c, rfl, HN, hnc, hc⟩ := h.formN
      go_enter Tryd.func22, Tryd.ntmps22
      go_wp2_with (first
        | (go_at_call 50; refine HOK.out.mono ?_; rintro e w' ⟨rfl, hb1⟩)
        | (go_at_call 51; refine (HWK.out _ hb1).mono ?_; rintro e w2 ⟨rfl, hb2⟩; have hb2' := hb1.trans (hb2.mono hb1.size))
        | (go_at_call 52; refine (HRK.out _ hb2').mono ?_; rintro e w3 ⟨rfl, hb3⟩; have hb3' := hb2'.trans (hb3.mono hb2'.size))
        | (go_at_call 43; refine (HFI2.out _).mono ?_; rintro e w4 ⟨rfl, hb4⟩))
      go_ret
      exact ⟨by rw [HR1.out]; rfl, hb3'.trans (hb4.mono hb3'.size)⟩
    · rw [hcan] at HW0
      have HR : Hid (stackLine xs = [119, 111, 114, 100, 32] ++ wordOf xs) := by rw [Hid, stackLine, wordOf, hs, hcan]; rfl
      have HWK := Lib.hid HW0
      have hlen := stkW_len (xs := xs)
      obtain ⟨A, hA⟩ : ∃ A, bstr (wordOf xs) = A := ⟨_, rfl⟩
      have hAs : A.size ≤ 20 := by rw [← hA, bstr_size, wordOf, hs, hcan]; show (stkW xs).length ≤ 20; omega
      have HR1 : Hid (bstr (stackLine xs) = (⟨#[119, 111, 114, 100, 32]⟩ : ByteArray) ++ A) := by rw [Hid, HR.out, ← hA]; exact (bstr_app _ _).symm
      have HWK2 : Hid (∀ (W : World) (hW : Below w.heap.size w W), Calls Tryd.prog 51 #[v] W fun e w' => e = .returned (.tuple #[.string A, .bool true]) ∧ Below W.heap.size W w') := by rw [← hA]; exact HWK.out
      have q1 : ¬ 9223372036854775807 < 5 + A.size := by omega
      clear HO hs hcan HW0 hA hlen HWK
      obtain ⟨a, n, c, rfl, HN, hnc, hc⟩ := h.formN
      go_enter Tryd.func22, Tryd.ntmps22
      go_wp2_with (first
        | (go_at_call 50; refine HOK.out.mono ?_; rintro e w' ⟨rfl, hb1⟩)
        | (go_at_call 51; refine (HWK2.out _ hb1).mono ?_; rintro e w2 ⟨rfl, hb2⟩; have hb2' := hb1.trans (hb2.mono hb1.size)))
      go_ret
      exact ⟨by rw [HR1.out]; rfl, hb2'⟩

set_option maxHeartbeats 1000000 in
theorem I_StackLine (w : World) (v : Value) (xs : List Int) (h : Rd w v (ints xs)) (_ : I64s xs) (_ : xs.length ≤ 1048576) (ht : Tab w) : Calls Tryd.prog 23 #[v] w (RetB (.string (bstr (stackLine xs))) w) := by
  have HO := i_isShortOrder v xs w h
  have HW0 := fun (W : World) (hW : Below w.heap.size w W) => I_StackWord v xs W (h.below hW)
  cases hs : shortB xs
  · rw [hs] at HO
    have HR : Hid (stackLine xs = [110, 111, 110, 101]) := by rw [Hid, stackLine, hs]; rfl
    have HOK := Lib.hid HO
    clear HO hs HW0
    obtain ⟨a, n, c, rfl, HN, hnc, hc⟩ := h.formN
    go_enter Tryd.func23, Tryd.ntmps23
    go_wp2_with (go_at_call 53; refine HOK.out.mono ?_; rintro e w' ⟨rfl, hb1⟩)
    go_ret
    exact ⟨by rw [HR.out]; rfl, hb1⟩
  · rw [hs] at HO HW0
    have HOK := Lib.hid HO
    have h8 := (shortB_iff.1 hs).1
    cases hcan : canB xs
    · rw [hcan] at HW0
      have HR : Hid (stackLine xs = [114, 111, 117, 110, 100, 115, 32] ++ Lib.itoa (rndN 9 xs : Nat)) := by rw [Hid, stackLine, hs, hcan]; rfl
      have HWK := Lib.hid HW0
      have HRK := Lib.hid (fun (W : World) (hW : Below w.heap.size w W) => I_StackRounds v xs W (h.below hW) hs)
      have HFI := Lib.hid (fun (W : World) (hW : Below w.heap.size w W) => I_FormatInt W _ (rnd_I64 xs) (ht.below hW))
      have hlen := (itoa_len (rnd_I64 xs)).2
      obtain ⟨A, hA⟩ : ∃ A, bstr (Lib.itoa ((rndN 9 xs : Nat) : Int)) = A := ⟨_, rfl⟩
      have hAs : A.size ≤ 20 := by rw [← hA, bstr_size]; exact hlen
      have HR1 : Hid (bstr (stackLine xs) = (⟨#[114, 111, 117, 110, 100, 115, 32]⟩ : ByteArray) ++ A) := by rw [Hid, HR.out, ← hA]; exact (bstr_app _ _).symm
      have HFI2 : Hid (∀ (W : World) (hW : Below w.heap.size w W), Calls Tryd.prog 55 #[.int .i64 ((rndN 9 xs : Nat) : Int)] W (RetB (.string A) W)) := by rw [← hA]; exact HFI.out
      have q1 : ¬ 9223372036854775807 < 7 + A.size := by omega
      generalize rndN 9 xs = rr at *
      clear HO hs hcan HW0 hA HFI hlen
      obtain ⟨a, n, c, rfl, HN, hnc, hc⟩ := h.formN
      go_enter Tryd.func23, Tryd.ntmps23
      go_wp2_with (first
        | (go_at_call 53; refine HOK.out.mono ?_; rintro e w' ⟨rfl, hb1⟩)
        | (go_at_call 54; refine (HWK.out _ hb1).mono ?_; rintro e w2 ⟨rfl, hb2⟩; have hb2' := hb1.trans (hb2.mono hb1.size))
        | (go_at_call 56; refine (HRK.out _ hb2').mono ?_; rintro e w3 ⟨rfl, hb3⟩; have hb3' := hb2'.trans (hb3.mono hb2'.size))
        | (go_at_call 55; refine (HFI2.out _ hb3').mono ?_; rintro e w4 ⟨rfl, hb4⟩))
      go_ret
      exact ⟨by rw [HR1.out]; rfl, hb3'.trans (hb4.mono hb3'.size)⟩
    · rw [hcan] at HW0
      have HR : Hid (stackLine xs = [119, 111, 114, 100, 32] ++ wordOf xs) := by rw [Hid, stackLine, wordOf, hs, hcan]; rfl
      have HWK := Lib.hid HW0
      have hlen := stkW_len (xs := xs)
      obtain ⟨A, hA⟩ : ∃ A, bstr (wordOf xs) = A := ⟨_, rfl⟩
      have hAs : A.size ≤ 20 := by rw [← hA, bstr_size, wordOf, hs, hcan]; show (stkW xs).length ≤ 20; omega
      have HR1 : Hid (bstr (stackLine xs) = (⟨#[119, 111, 114, 100, 32]⟩ : ByteArray) ++ A) := by rw [Hid, HR.out, ← hA]; exact (bstr_app _ _).symm
      have HWK2 : Hid (∀ (W : World) (hW : Below w.heap.size w W), Calls Tryd.prog 54 #[v] W fun e w' => e = .returned (.tuple #[.string A, .bool true]) ∧ Below W.heap.size W w') := by rw [← hA]; exact HWK.out
      have q1 : ¬ 9223372036854775807 < 5 + A.size := by omega
      clear HO hs hcan HW0 hA hlen HWK
      obtain ⟨a, n, c, rfl, HN, hnc, hc⟩ := h.formN
      go_enter Tryd.func23, Tryd.ntmps23
      go_wp2_with (first
        | (go_at_call 53; refine HOK.out.mono ?_; rintro e w' ⟨rfl, hb1⟩)
        | (go_at_call 54; refine (HWK2.out _ hb1).mono ?_; rintro e w2 ⟨rfl, hb2⟩; have hb2' := hb1.trans (hb2.mono hb1.size)))
      go_ret
      exact ⟨by rw [HR1.out]; rfl, hb2'⟩

end Go.Proofs.YtdagkgkllgpeeaaDoor
