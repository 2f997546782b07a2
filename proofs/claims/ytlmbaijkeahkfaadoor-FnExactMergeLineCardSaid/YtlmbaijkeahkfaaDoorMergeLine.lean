/- Walks: the line on lengths of runs. -/
import Derived.Test.YtlmbaijkeahkfaaDoorMergeB
import Derived.Test.YtlmbaijkeahkfaaDoorPlainCm
import Derived.Test.YtlmbaijkeahkfaaDoorLineI
import Derived.Test.YtlmbaijkeahkfaaDoorStrs
namespace Go.Proofs.YtlmbaijkeahkfaaDoor
open Go.RowKit
set_option linter.unusedVariables false
set_option linter.unusedSimpArgs false

theorem cmL_bd {S : Int} (h0 : 0 ≤ S) (h1 : S ≤ 8000) : ∀ (f : Nat) (s : List Int), RunsL S s → 0 ≤ cmL f s ∧ cmL f s ≤ 8000 * (f : Int)
  | 0, s, _ => by simp [cmL]
  | f + 1, [], _ => by simp [cmL]; omega
  | f + 1, [_], _ => by simp [cmL]; omega
  | f + 1, a :: b :: t, h => by
    obtain ⟨ha, hb, hab, h2⟩ := h.pair
    have := cmL_bd h0 h1 f _ h2.srt
    simp only [cmL]
    omega
def nbAll (xs : List Int) : Int := nb xs.length xs
theorem cm_I64 {xs : List Int} (h : lensB xs = true) : I64 (cm xs) ∧ I64 (nbAll xs) := by
  obtain ⟨hR, h0, h1⟩ := RunsL.of h
  obtain ⟨h8, hb⟩ := lensB_iff.1 h
  have h2 := cmL_bd h0 h1 xs.length _ hR.srt
  have h3 := nb_bd xs.length xs h8 hb h8
  have h4 := (nbTop_le xs.length h8).2
  refine ⟨?_, ?_⟩
  · unfold I64 cm; omega
  · unfold I64 nbAll; omega
def mergeLine (xs : List Int) : List UInt8 :=
  if lensB xs then [97, 110, 121, 32] ++ Lib.itoa (cm xs) ++ [32, 110, 101, 105, 103, 104, 98, 111, 114, 115, 32] ++ Lib.itoa (nbAll xs) else [110, 111, 110, 101]

set_option maxHeartbeats 1000000 in
theorem s_CheapestNeighbors (v : Value) (xs : List Int) (w : World) (h : Rd w v (ints xs)) (hs : lensB xs = true) : Calls Tryd.prog 29 #[v] w (RetQ (.int .i64 (nbAll xs)) w) := by
  have HL := Lib.hid (hs ▸ s_LengthsOk v xs w h)
  obtain ⟨h8, hb⟩ := lensB_iff.1 hs
  have HN := Lib.hid (s_nb xs.length v xs w h (Nat.le_refl _) h8 hb)
  have HE : Hid (nb xs.length xs = nbAll xs) := rfl
  rw [HE.out] at HN
  generalize nbAll xs = Z at HN ⊢
  obtain ⟨a, n, c, rfl, _, hnc, hc⟩ := h.formN
  clear hs h8 hb
  go_enter Tryd.func29, Tryd.ntmps29
  go_wp2_with (first
    | (go_at_call 26; refine HL.out.mono ?_; rintro e w' ⟨rfl, rfl⟩)
    | (go_at_call 73; refine HN.out.mono ?_; rintro e w1 ⟨rfl, hd1⟩))
  go_ret
  exact ⟨rfl, hd1⟩

set_option maxHeartbeats 2000000 in
theorem S_MergeLine (w : World) (v : Value) (xs : List Int) (h : Rd w v (ints xs)) (_ : I64s xs) (_ : xs.length ≤ 1048576) : Calls Tryd.prog 9 #[v] w (RetB (.string (bstr (mergeLine xs))) w) := by
  have HO := s_LengthsOk v xs w h
  cases hs : lensB xs
  · rw [hs] at HO
    have HR : Hid (mergeLine xs = [110, 111, 110, 101]) := by rw [Hid, mergeLine, hs]; rfl
    have HOK := Lib.hid HO
    obtain ⟨a, n, c, rfl, HN, hnc, hc⟩ := h.formN
    generalize mergeLine xs = R at HR ⊢
    clear HO hs
    go_enter Tryd.func9, Tryd.ntmps9
    go_wp2_with (go_at_call 26; refine HOK.out.mono ?_; rintro e w' ⟨rfl, rfl⟩)
    go_ret
    exact ⟨by rw [HR.out]; rfl, Below.refl _ _⟩
  rw [hs] at HO
  have HOK := Lib.hid HO
  obtain ⟨hi1, hi2⟩ := cm_I64 hs
  have HC := Lib.hid (s_CheapestMerge v xs w h hs)
  have HNB := Lib.hid (fun (W : World) (hW : Below w.heap.size w W) => s_CheapestNeighbors v xs W (h.below hW) hs)
  have HRX : Hid (mergeLine xs = [97, 110, 121, 32] ++ Lib.itoa (cm xs) ++ [32, 110, 101, 105, 103, 104, 98, 111, 114, 115, 32] ++ Lib.itoa (nbAll xs)) := by rw [Hid, mergeLine, if_pos hs]
  generalize cm xs = p at hi1 HC HRX
  generalize nbAll xs = q at hi2 HNB HRX
  have HP0 := fun (W : World) => S_FormatInt W p hi1
  have HQ0 := fun (W : World) => S_FormatInt W q hi2
  have zP := (itoa_len hi1).2
  have zQ := (itoa_len hi2).2
  obtain ⟨A, hA⟩ : ∃ A, bstr (Lib.itoa p) = A := ⟨_, rfl⟩
  obtain ⟨B, hB⟩ : ∃ B, bstr (Lib.itoa q) = B := ⟨_, rfl⟩
  have sA : A.size ≤ 20 := by rw [← hA, bstr_size]; exact zP
  have sB : B.size ≤ 20 := by rw [← hB, bstr_size]; exact zQ
  have HP : Hid (∀ W, Calls Tryd.prog 27 #[.int .i64 p] W (RetB (.string A) W)) := fun W => by rw [← hA]; exact HP0 W
  have HQ : Hid (∀ W, Calls Tryd.prog 27 #[.int .i64 q] W (RetB (.string B) W)) := fun W => by rw [← hB]; exact HQ0 W
  have HR1 : Hid (bstr (mergeLine xs) = (⟨#[97, 110, 121, 32]⟩ : ByteArray) ++ A ++ ⟨#[32, 110, 101, 105, 103, 104, 98, 111, 114, 115, 32]⟩ ++ B) := by
    rw [Hid, HRX.out, ← hA, ← hB]
    show _ = bstr [97, 110, 121, 32] ++ bstr _ ++ bstr [32, 110, 101, 105, 103, 104, 98, 111, 114, 115, 32] ++ bstr _
    rw [bstr_app, bstr_app, bstr_app]
  have q1 : ¬ 9223372036854775807 < 4 + A.size := by omega
  have q2 : ¬ 9223372036854775807 < 4 + A.size + 11 := by omega
  have q3 : ¬ 9223372036854775807 < 4 + A.size + 11 + B.size := by omega
  obtain ⟨a, n, c, rfl, HN, hnc, hc⟩ := h.formN
  generalize bstr (mergeLine xs) = R at HR1 ⊢
  clear HO hs h HRX HP0 HQ0 zP zQ hA hB hi1
  go_enter Tryd.func9, Tryd.ntmps9
  go_wp2_with (first
    | (go_at_call 26; refine HOK.out.mono ?_; rintro e w' ⟨rfl, rfl⟩)
    | (go_at_call 28; refine HC.out.mono ?_; rintro e w1 ⟨rfl, hb1⟩)
    | (go_at_call_of 27 p; refine (HP.out _).mono ?_; rintro e w2 ⟨rfl, hb2⟩; have hb2' := hb1.trans (hb2.mono hb1.size))
    | (go_at_call 29; refine (HNB.out _ hb2').mono ?_; rintro e w3 ⟨rfl, hd3⟩; have hb3' := hb2'.trans (hd3.below _))
    | (go_at_call_of 27 q; refine (HQ.out _).mono ?_; rintro e w4 ⟨rfl, hb4⟩; have hb4' := hb3'.trans (hb4.mono hb3'.size)))
  go_ret
  exact ⟨by rw [HR1.out]; rfl, hb4'⟩

end Go.Proofs.YtlmbaijkeahkfaaDoor
