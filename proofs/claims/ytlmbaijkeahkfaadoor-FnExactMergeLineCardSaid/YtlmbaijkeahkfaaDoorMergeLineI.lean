/- Walks: the line on lengths of runs, in the program, out of the cheapest merge's contract. -/
import Derived.Test.YtlmbaijkeahkfaaDoorMergeLine
namespace Go.Proofs.YtlmbaijkeahkfaaDoor
open Go.RowKit
set_option linter.unusedVariables false
set_option linter.unusedSimpArgs false

def RetCh (z : Int) (w : World) (e : Ending) (w' : World) : Prop := ∃ v, e = .returned (.tuple #[.int .i64 z, v]) ∧ Below w.heap.size w w'
set_option maxHeartbeats 1000000 in
theorem i_CheapestMergeOf (HCH : ∀ (v : Value) (xs : List Int) (w : World), Rd w v (ints xs) → lensB xs = true → Calls Tryd.prog 78 #[v] w (RetCh (cm xs) w))
    (v : Value) (xs : List Int) (w : World) (h : Rd w v (ints xs)) (hs : lensB xs = true) : Calls Tryd.prog 33 #[v] w (RetB (.int .i64 (cm xs)) w) := by
  have HL := Lib.hid (hs ▸ i_LengthsOk v xs w h)
  have HC := Lib.hid (HCH v xs w h hs)
  generalize cm xs = Z at HC ⊢
  obtain ⟨a, n, c, rfl, HN, hnc, hc⟩ := h.formN
  clear HCH hs
  go_enter Tryd.func33, Tryd.ntmps33
  go_wp2_with (first
    | (go_at_call 30; refine HL.out.mono ?_; rintro e w' ⟨rfl, rfl⟩)
    | (go_at_call 78; refine HC.out.mono ?_; rintro e w1 ⟨v1, rfl, hb1⟩))
  go_ret
  exact ⟨rfl, hb1⟩

set_option maxHeartbeats 2000000 in
theorem I_MergeLineOf (HCM : ∀ (v : Value) (xs : List Int) (w : World), Rd w v (ints xs) → lensB xs = true → Calls Tryd.prog 33 #[v] w (RetB (.int .i64 (cm xs)) w))
    (w : World) (v : Value) (xs : List Int) (h : Rd w v (ints xs)) (_ : I64s xs) (_ : xs.length ≤ 1048576) (ht : Tab w) : Calls Tryd.prog 11 #[v] w (RetB (.string (bstr (mergeLine xs))) w) := by
  have HO := i_LengthsOk v xs w h
  cases hs : lensB xs
  · rw [hs] at HO
    have HR : Hid (mergeLine xs = [110, 111, 110, 101]) := by rw [Hid, mergeLine, hs]; rfl
    have HOK := Lib.hid HO
    obtain ⟨a, n, c, rfl, HN, hnc, hc⟩ := h.formN
    generalize mergeLine xs = R at HR ⊢
    clear HO hs HCM
    go_enter Tryd.func11, Tryd.ntmps11
    go_wp2_with (go_at_call 30; refine HOK.out.mono ?_; rintro e w' ⟨rfl, rfl⟩)
    go_ret
    exact ⟨by rw [HR.out]; rfl, Below.refl _ _⟩
  rw [hs] at HO
  have HOK := Lib.hid HO
  obtain ⟨h8, hb⟩ := lensB_iff.1 hs
  obtain ⟨hi1, hi2⟩ := cm_I64 hs
  have HC := Lib.hid (HCM v xs w h hs)
  have HNB := Lib.hid (fun (W : World) (hW : Below w.heap.size w W) => i_nb xs.length v xs W (h.below hW) (Nat.le_refl _) h8 hb)
  have HE : Hid (nb xs.length xs = nbAll xs) := rfl
  rw [HE.out] at HNB
  have HRX : Hid (mergeLine xs = [97, 110, 121, 32] ++ Lib.itoa (cm xs) ++ [32, 110, 101, 105, 103, 104, 98, 111, 114, 115, 32] ++ Lib.itoa (nbAll xs)) := by rw [Hid, mergeLine, if_pos hs]
  generalize cm xs = p at hi1 HC HRX
  generalize nbAll xs = q at hi2 HNB HRX HE
  have HP := Lib.hid (fun (W : World) (hW : Below w.heap.size w W) => I_FormatInt W p hi1 (ht.below hW))
  have HQ := Lib.hid (fun (W : World) (hW : Below w.heap.size w W) => I_FormatInt W q hi2 (ht.below hW))
  have zP := (itoa_len hi1).2
  have zQ := (itoa_len hi2).2
  have HR1 : Hid (mergeLine xs = [97, 110, 121] ++ [32] ++ Lib.itoa p ++ [32] ++ [110, 101, 105, 103, 104, 98, 111, 114, 115] ++ [32] ++ Lib.itoa q) := by rw [Hid, HRX.out]; simp
  obtain ⟨A, hA⟩ : ∃ A, Lib.itoa p = A := ⟨_, rfl⟩
  obtain ⟨B, hB⟩ : ∃ B, Lib.itoa q = B := ⟨_, rfl⟩
  rw [hA] at HP zP HR1
  rw [hB] at HQ zQ HR1
  have GL := Lib.hid (fun W => i_line4 [97, 110, 121] A [110, 101, 105, 103, 104, 98, 111, 114, 115] B (by simp) (by omega) (by simp) (by omega) W)
  generalize [97, 110, 121] ++ [32] ++ A ++ [32] ++ [110, 101, 105, 103, 104, 98, 111, 114, 115] ++ [32] ++ B = R4 at GL HR1
  have K4 : Hid (∀ W : World, Calls Tryd.prog 31 #[.slice (some ⟨W.heap.size, 0, none⟩) 4 4] (W.alloc (.cells #[.string ⟨#[97, 110, 121]⟩, .string (bstr A), .string ⟨#[110, 101, 105, 103, 104, 98, 111, 114, 115]⟩, .string (bstr B)] 9)) fun e w' => e = .returned (.string (bstr R4)) ∧ Below W.heap.size W w') := fun W => GL.out W
  obtain ⟨a, n, c, rfl, HN, hnc, hc⟩ := h.formN
  generalize mergeLine xs = R at HR1 ⊢
  clear HO hs h HRX zP zQ hA hB hi1 hi2 GL h8 hb HE HCM
  go_enter Tryd.func11, Tryd.ntmps11
  go_wp2_with (first
    | (go_at_call 30; refine HOK.out.mono ?_; rintro e w' ⟨rfl, rfl⟩)
    | (go_at_call 33; refine HC.out.mono ?_; rintro e w1 ⟨rfl, hb1⟩)
    | (go_at_call_of 32 p; refine (HP.out _ hb1).mono ?_; rintro e w2 ⟨rfl, hb2⟩; have hb2' := hb1.trans (hb2.mono hb1.size))
    | (go_at_call 34; refine (HNB.out _ hb2').mono ?_; rintro e w3 ⟨rfl, hd3⟩; have hb3' := hb2'.trans (hd3.below _))
    | (go_at_call_of 32 q; refine (HQ.out _ hb3').mono ?_; rintro e w4 ⟨rfl, hb4⟩; have hb4' := hb3'.trans (hb4.mono hb3'.size))
    | (go_at_call 31; (with_reducible refine (K4.out w4).mono ?_); rintro e w5 ⟨rfl, hb5⟩; have hb5' := hb4'.trans (hb5.mono hb4'.size)))
  go_ret
  exact ⟨by rw [HR1.out]; rfl, hb5'⟩

end Go.Proofs.YtlmbaijkeahkfaaDoor
