/- Walks: sorting by all digits. -/
import Derived.Test.YtnjdihbaofclbaaPass2
namespace Go.Proofs.Ytnjdihbaofclbaa
open Go.RowKit
set_option linter.unusedVariables false
set_option linter.unusedSimpArgs false

set_option maxHeartbeats 1000000 in
theorem S_DigitSort (w : World) (v : Value) (xs : List Int) (h : Rd w v (ints xs)) (_ : I64s xs) (_ : xs.length ≤ 1048576) (b : Int) (_ : I64 b) :
    Calls Try.prog 32 #[v, .int .i64 b] w (RetOwn 3 (ints (digitSort xs b)) w) := by
  have HO := s_DigitsOk v xs b w h
  cases hk : digitsOk xs b
  · rw [hk] at HO
    have HR : Hid (digitSort xs b = []) := by rw [Hid, digitSort, if_neg (by rw [hk]; simp)]
    go_enter Try.func32, Try.ntmps32
    go_wp2_with (go_at_call 18; refine HO.mono ?_; rintro e w' ⟨rfl, rfl⟩)
    go_ret
    rw [HR.out]
    exact RetOwn.nil w _
  · rw [hk] at HO
    obtain ⟨K, hK, hK20⟩ := passes_bd hk
    have HR : Hid (digitSort xs b = passM xs b K) := by rw [Hid, digitSort, if_pos hk, hK, Int.toNat_natCast]
    have HPN := Lib.hid (fun (wx : World) (hb : Below w.heap.size w wx) => s_PassesNeeded v xs b wx (h.below hb))
    rw [hK] at HPN
    have hdk := digitsOk_iff.1 hk
    have HPS := Lib.hid (fun (k : Nat) (u : Value) (wx : World) (hu : Rd wx u (ints (passM xs b k))) (hk20 : (k : Int) ≤ 20) => s_l27Pass u (passM xs b k) b (k : Int) wx hu (by rw [passM_length]; exact hdk.1) (fun x hx => hdk.2.2 x (passM_mem xs b x k hx)) hdk.2.1 ⟨by omega, hk20⟩)
    have hl16 := hdk.1
    have HL : Hid ((ints xs).length = xs.length) := ints_length xs
    clear hk hK hdk
    go_enter Try.func32, Try.ntmps32
    go_wp2_with (first
      | (go_at_call 18; refine HO.mono ?_; rintro e w' ⟨rfl, rfl⟩)
      | (at_builtin; refine wpList_copy (B := w.heap.size) rfl _ _ 26 rfl elI h rfl rfl (oneCell_ints _) (Nat.le_refl _) _ HL.out (by omega) (by omega) ?_; intro b5 c5 w5 h5 hb5))
    go_loopw [5, 6] (fun vo i wr => ∃ k : Nat, k ≤ K ∧ i = .int .i64 k ∧ Own wr 3 w.heap.size vo (ints (passM xs b k)) ∧ Below w.heap.size w wr) (fun _ i _ => K - (intOf i).toNat)
    case atStart => exact ⟨0, Nat.zero_le _, rfl, h5, hb5⟩
    case round =>
      clear h5 hb5
      obtain ⟨k, hk, rfl, ho, hb⟩ := hrel
      have HP1 := HPN.out _ hb
      by_cases hkK : k < K
      · have i1 : (k : Int) < (K : Int) := by omega
        have HQ := Lib.hid (HPS.out k)
        have HS : Hid (srtS (keyB b ((k : Int)).toNat) (passM xs b k) = passM xs b (k + 1)) := by rw [Hid, Int.toNat_natCast]; rfl
        rw [HS.out] at HQ
        have hz := hb.size
        go_wp2_with (first
          | (go_at_call 22; refine HP1.mono ?_; rintro e w6 ⟨rfl, rfl⟩)
          | (go_at_call 55; refine (HQ.out _ _ ho.rd (by omega)).mono ?_; rintro e w7 ⟨v7, rfl, h7, hb7⟩))
        go_roundw
        case rel => exact ⟨k + 1, by omega, by go_num, h7.mono hz, hb.trans (hb7.mono hz)⟩
        case measure => simp [intOf]; omega
      · obtain rfl : K = k := by omega
        have i1 : ¬ (K : Int) < (K : Int) := by omega
        go_wp2_with (go_at_call 22; refine HP1.mono ?_; rintro e w6 ⟨rfl, rfl⟩)
        go_ret
        rw [HR.out]
        exact ⟨_, rfl, ho, hb⟩

set_option maxHeartbeats 1000000 in
theorem I_DigitSort (w : World) (v : Value) (xs : List Int) (h : Rd w v (ints xs)) (_ : I64s xs) (_ : xs.length ≤ 1048576) (b : Int) (_ : I64 b) :
    Calls Try.prog 33 #[v, .int .i64 b] w (RetOwn 3 (ints (digitSort xs b)) w) := by
  have HO := i_DigitsOk v xs b w h
  cases hk : digitsOk xs b
  · rw [hk] at HO
    have HR : Hid (digitSort xs b = []) := by rw [Hid, digitSort, if_neg (by rw [hk]; simp)]
    go_enter Try.func33, Try.ntmps33
    go_wp2_with (go_at_call 20; refine HO.mono ?_; rintro e w' ⟨rfl, rfl⟩)
    go_ret
    rw [HR.out]
    exact RetOwn.nil w _
  · rw [hk] at HO
    obtain ⟨K, hK, hK20⟩ := passes_bd hk
    have HR : Hid (digitSort xs b = passM xs b K) := by rw [Hid, digitSort, if_pos hk, hK, Int.toNat_natCast]
    have HPN := Lib.hid (fun (wx : World) (hb : Below w.heap.size w wx) => i_PassesNeeded v xs b wx (h.below hb))
    rw [hK] at HPN
    have hdk := digitsOk_iff.1 hk
    have HPS := Lib.hid (fun (k : Nat) (u : Value) (wx : World) (hu : Rd wx u (ints (passM xs b k))) (hk20 : (k : Int) ≤ 20) => i_pass u (passM xs b k) b (k : Int) wx hu (by rw [passM_length]; exact hdk.1) (fun x hx => hdk.2.2 x (passM_mem xs b x k hx)) hdk.2.1 ⟨by omega, hk20⟩)
    have hl16 := hdk.1
    clear hk hK hdk
    go_enter Try.func33, Try.ntmps33
    go_wp2_with (first
      | (go_at_call 20; refine HO.mono ?_; rintro e w' ⟨rfl, rfl⟩)
      | (go_at_call 57; refine (f_Clone _ xs _ h (by omega)).mono ?_; rintro e w5 ⟨v5, rfl, h5, hb5⟩)
      | (go_at_call 23; refine (HPN.out _ hb5).mono ?_; rintro e w6 ⟨rfl, rfl⟩))
    go_loopw [5, 16] (fun vo i wr => ∃ k : Nat, k ≤ K ∧ i = .int .i64 k ∧ Own wr 3 w.heap.size vo (ints (passM xs b k)) ∧ Below w.heap.size w wr) (fun _ i _ => K - (intOf i).toNat)
    case atStart => exact ⟨0, Nat.zero_le _, rfl, h5, hb5⟩
    case round =>
      clear h5 hb5
      obtain ⟨k, hk, rfl, ho, hb⟩ := hrel
      by_cases hkK : k < K
      · have i1 : (k : Int) < (K : Int) := by omega
        have HQ := Lib.hid (HPS.out k)
        have HS : Hid (srtS (fun x => dig x b ((k : Int)).toNat) (passM xs b k) = passM xs b (k + 1)) := by rw [Hid, Int.toNat_natCast]; rfl
        rw [HS.out] at HQ
        have hz := hb.size
        go_wp2_with (go_at_call 56; refine (HQ.out _ _ ho.rd (by omega)).mono ?_; rintro e w7 ⟨v7, rfl, h7, hb7⟩)
        go_roundw
        case rel => exact ⟨k + 1, by omega, by go_num, h7.mono hz, hb.trans (hb7.mono hz)⟩
        case measure => simp [intOf]; omega
      · obtain rfl : K = k := by omega
        have i1 : ¬ (K : Int) < (K : Int) := by omega
        go_wp2
        go_ret
        rw [HR.out]
        exact ⟨_, rfl, ho, hb⟩

end Go.Proofs.Ytnjdihbaofclbaa
