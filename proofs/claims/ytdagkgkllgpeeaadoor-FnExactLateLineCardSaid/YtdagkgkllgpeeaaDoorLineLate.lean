/- Walks: the line on late records. -/
import Derived.Test.YtdagkgkllgpeeaaDoorLineI
import Derived.Test.YtdagkgkllgpeeaaDoorLateFns
import Derived.Test.YtdagkgkllgpeeaaDoorPlainFnLate
import Derived.Deep.RegionHeld3
import Derived.Deep.DeepCutAuto
namespace Go.Proofs.YtdagkgkllgpeeaaDoor
open Go.RowKit
set_option linter.unusedVariables false
set_option linter.unusedSimpArgs false

def noneB : List UInt8 := [110, 111, 110, 101]
def lateLine (T : List Int) (s : Int) : List UInt8 := if lateOkB T s then numsB (lateOut T s) ++ [32] ++ numsB (lateLate T s) else noneB
theorem late_I64 {T : List Int} {s : Int} (h : lateOkB T s = true) : I64s (lateOut T s) ∧ I64s (lateLate T s) := by
  obtain ⟨⟨ha, hb⟩, hc⟩ := lateOkB_iff.1 h
  obtain ⟨f1, f2, f3, f4, f5, f6, f7, f8, f9, f10⟩ := late_facts (T := T) (s := s) hb hc
  refine ⟨fun x hx => ?_, fun x hx => ?_⟩
  · obtain ⟨i, p, rfl, hip, hp, _⟩ := f8 x hx
    unfold I64
    omega
  · obtain ⟨i, rfl, _, hin, _⟩ := f9 x hx
    unfold I64
    omega

set_option maxRecDepth 100000 in
set_option maxHeartbeats 1000000 in
theorem S_LateLine (w : World) (v : Value) (xs : List Int) (h : Rd w v (ints xs)) (fx : I64s xs) (lx : xs.length ≤ 1048576) (s : Int) (hs : I64 s) : Calls Tryd.prog 28 #[v, .int .i64 s] w (RetB (.string (bstr (lateLine xs s))) w) := by
  have HO := s_l24Ok v xs s w h
  cases hok : lateOkB xs s
  · rw [hok] at HO
    have HR0 : Hid (lateLine xs s = noneB) := by rw [Hid, lateLine, hok]; rfl
    have HOK := Lib.hid HO
    clear HO hok
    obtain ⟨a, c, rfl, h2, h3⟩ := h.formi
    go_enter Tryd.func28, Tryd.ntmps28
    go_wp2_with (go_at_call 68; refine HOK.out.mono ?_; rintro e w' ⟨rfl, rfl⟩)
    go_ret
    exact ⟨by rw [HR0.out]; rfl, Below.refl _ _⟩
  · rw [hok] at HO
    have HR0 : Hid (lateLine xs s = numsB (lateOut xs s) ++ [32] ++ numsB (lateLate xs s)) := by rw [Hid, lateLine, hok]; rfl
    have e0 : emitO xs s = lateOut xs s := by rw [emitO, hok]; rfl
    have e1 : emitL xs s = lateLate xs s := by rw [emitL, hok]; rfl
    have HE := S_EmitOrder w v xs h fx lx s hs
    rw [e0, e1] at HE
    have HE := Lib.hid HE
    obtain ⟨l0, l1, _⟩ := late_lens hok
    obtain ⟨i0, i1⟩ := late_I64 hok
    have g0 : fmtNums (lateOut xs s) = numsB (lateOut xs s) := by rw [fmtNums, if_neg (by omega)]
    have g1 : fmtNums (lateLate xs s) = numsB (lateLate xs s) := by rw [fmtNums, if_neg (by omega)]
    have z0 := numsB_le i0 l0
    have z1 := numsB_le i1 l1
    have HF0 := fun (W : World) (u : Value) (hu : Rd W u (ints (lateOut xs s))) => S_FormatNumbers W u _ hu i0 (by omega)
    have HF1 := fun (W : World) (u : Value) (hu : Rd W u (ints (lateLate xs s))) => S_FormatNumbers W u _ hu i1 (by omega)
    rw [g0] at HF0
    rw [g1] at HF1
    obtain ⟨A, hA⟩ : ∃ A, bstr (numsB (lateOut xs s)) = A := ⟨_, rfl⟩
    obtain ⟨B, hB⟩ : ∃ B, bstr (numsB (lateLate xs s)) = B := ⟨_, rfl⟩
    have HR1 : Hid (bstr (lateLine xs s) = A ++ (⟨#[32]⟩ : ByteArray) ++ B) := by
      rw [Hid, HR0.out, ← hA, ← hB]
      show _ = bstr _ ++ bstr [32] ++ bstr _
      rw [bstr_app, bstr_app]
    have s0 : A.size ≤ 2000 := by rw [← hA, bstr_size]; omega
    have s1 : B.size ≤ 2000 := by rw [← hB, bstr_size]; omega
    rw [hA] at HF0
    rw [hB] at HF1
    have GF0 := Lib.hid HF0
    have GF1 := Lib.hid HF1
    have HOK := Lib.hid HO
    have q1 : ¬ 9223372036854775807 < A.size + 1 := by omega
    have q2 : ¬ 9223372036854775807 ≤ A.size := by omega
    have q3 : ¬ 9223372036854775807 < A.size + 1 + B.size := by omega
    clear HO hok HF0 HF1 hA hB e0 e1 g0 g1 l0 l1 i0 i1 z0 z1
    obtain ⟨a, c, rfl, h2, h3⟩ := h.formi
    go_enter Tryd.func28, Tryd.ntmps28
    go_wp2_with (first
      | (go_at_call 68; refine HOK.out.mono ?_; rintro e w' ⟨rfl, rfl⟩)
      | (go_at_call 69; refine HE.out.mono ?_; rintro e w2 ⟨vo, vl, rfl, hO, hL, _, hb⟩; obtain ⟨ao, no, co, rfl, _, _, _⟩ := hO.rd.formN; obtain ⟨al, nl, cl, rfl, _, _, _⟩ := hL.rd.formN)
      | (go_at_call 14; (with_reducible refine (GF0.out _ _ hO.rd).mono ?_); rintro e w3 ⟨rfl, hb3⟩; have hL3 := hL.below hb3)
      | (go_at_call 14; (with_reducible refine (GF1.out _ _ hL3.rd).mono ?_); rintro e w4 ⟨rfl, hb4⟩))
    go_ret
    exact ⟨by rw [HR1.out]; rfl, hb.trans ((hb3.trans (hb4.mono hb3.size)).mono hb.size)⟩

set_option maxRecDepth 100000 in
set_option maxHeartbeats 1000000 in
theorem I_LateLine (w : World) (v : Value) (xs : List Int) (h : Rd w v (ints xs)) (fx : I64s xs) (lx : xs.length ≤ 1048576) (s : Int) (hs : I64 s) (ht : Tab w) : Calls Tryd.prog 29 #[v, .int .i64 s] w (RetB (.string (bstr (lateLine xs s))) w) := by
  have HO := i_isLate v xs s w h
  cases hok : lateOkB xs s
  · rw [hok] at HO
    have HR0 : Hid (lateLine xs s = noneB) := by rw [Hid, lateLine, hok]; rfl
    have HOK := Lib.hid HO
    clear HO hok
    obtain ⟨a, c, rfl, h2, h3⟩ := h.formi
    go_enter Tryd.func29, Tryd.ntmps29
    go_wp2_with (go_at_call 70; refine HOK.out.mono ?_; rintro e w' ⟨rfl, rfl⟩)
    go_ret
    exact ⟨by rw [HR0.out]; rfl, Below.refl _ _⟩
  · rw [hok] at HO
    have HR0 : Hid (lateLine xs s = numsB (lateOut xs s) ++ [32] ++ numsB (lateLate xs s)) := by rw [Hid, lateLine, hok]; rfl
    obtain ⟨⟨ha, hb⟩, hc⟩ := lateOkB_iff.1 hok
    have HE := Lib.hid (i_emit v xs s w h ha hb hc)
    obtain ⟨l0, l1, _⟩ := late_lens hok
    obtain ⟨i0, i1⟩ := late_I64 hok
    have z0 := numsB_le i0 l0
    have z1 := numsB_le i1 l1
    have HL := Lib.hid (fun W => i_line2 (numsB (lateOut xs s)) (numsB (lateLate xs s)) (by omega) (by omega) W)
    have GF0 := Lib.hid (fun (W : World) (hW : Tab W) (u : Value) (hu : Rd W u (ints (lateOut xs s))) => i_numbers W u _ hu i0 (by omega) hW)
    have GF1 := Lib.hid (fun (W : World) (hW : Tab W) (u : Value) (hu : Rd W u (ints (lateLate xs s))) => i_numbers W u _ hu i1 (by omega) hW)
    have HOK := Lib.hid HO
    clear HO hok l0 l1 i0 i1 z0 z1 ha hb hc
    obtain ⟨a, c, rfl, h2, h3⟩ := h.formi
    go_enter Tryd.func29, Tryd.ntmps29
    go_upto_region 4 with (first
      | (go_at_call 70; refine HOK.out.mono ?_; rintro e w' ⟨rfl, rfl⟩)
      | (go_at_call 71; refine HE.out.mono ?_; rintro e w2 ⟨vo, vl, vm, vd, rfl, hO, hb⟩; obtain ⟨ao, no, co, rfl, _, _, _⟩ := hO.o0.rd.formN; obtain ⟨al, nl, cl, rfl, _, _, _⟩ := hO.o1.rd.formN; obtain ⟨am, nm, cm, rfl, _, _, _⟩ := hO.o2.rd.formN; obtain ⟨ad, nd, cd, rfl, _, _, _⟩ := hO.o3.rd.formN))
    have ro := hO.o0.rd
    have rl := hO.o1.rd
    obtain ⟨wB, hwB⟩ : ∃ wB, w2.alloc (.cells #[.slice ao no co, .slice al nl cl, .slice am nm cm, .slice ad nd cd, .int .i64 (lateMost xs s)] 56) = wB := ⟨_, rfl⟩
    have hbB : Below w2.heap.size w2 wB := by rw [← hwB]; exact (Below.refl _ _).alloc (Nat.le_refl _) _
    have c0 : wB.cell? ⟨w2.heap.size, 0, none⟩ = some (.slice ao no co) := by rw [← hwB]; exact (cell_of_row _ _ 0 _ _ (0, 0) (heap_alloc_new w2 _)).trans rfl
    have c1 : wB.cell? ⟨w2.heap.size, 1, none⟩ = some (.slice al nl cl) := by rw [← hwB]; exact (cell_of_row _ _ 1 _ _ (0, 0) (heap_alloc_new w2 _)).trans rfl
    rw [hwB]
    clear hwB
    have bt := hb.trans (hbB.mono hb.size)
    replace ro := ro.below hbB
    replace rl := rl.below hbB
    have tB := ht.below bt
    have HT : Hid (∀ wx : World, Below wB.heap.size wB wx → Below wB.heap.size wB wx ∧ wx.cell? ⟨w2.heap.size, 0, none⟩ = some (.slice ao no co) ∧ wx.cell? ⟨w2.heap.size, 1, none⟩ = some (.slice al nl cl)) := fun wx hb => ⟨hb, (hb.cell (World.block_lt_of_cell? _ _ c0)).trans c0, (hb.cell (World.block_lt_of_cell? _ _ c1)).trans c1⟩
    have K0 : Hid (∀ W : World, Below wB.heap.size wB W → Calls Tryd.prog 45 #[.slice ao no co] W fun e w' => e = .returned (.string (bstr (numsB (lateOut xs s)))) ∧ Below wB.heap.size wB w') := fun W hW => (GF0.out W (tB.below hW) _ (ro.below hW)).mono fun e w' h => ⟨h.1, hW.trans (h.2.mono hW.size)⟩
    have K1 : Hid (∀ W : World, Below wB.heap.size wB W → Calls Tryd.prog 45 #[.slice al nl cl] W fun e w' => e = .returned (.string (bstr (numsB (lateLate xs s)))) ∧ Below wB.heap.size wB w') := fun W hW => (GF1.out W (tB.below hW) _ (rl.below hW)).mono fun e w' h => ⟨h.1, hW.trans (h.2.mono hW.size)⟩
    have K2 : Hid (∀ W : World, Below wB.heap.size wB W → Calls Tryd.prog 61 #[.slice (some ⟨W.heap.size, 0, none⟩) 2 2] (W.alloc (.cells #[.string (bstr (numsB (lateOut xs s))), .string (bstr (numsB (lateLate xs s)))] 9)) fun e w' => e = .returned (.string (bstr (numsB (lateOut xs s) ++ [32] ++ numsB (lateLate xs s)))) ∧ Below wB.heap.size wB w') := fun W hW => (HL.out W).mono fun e w' h => ⟨h.1, hW.trans (h.2.mono hW.size)⟩
    have BT := Lib.hid bt
    clear hO hb GF0 GF1 HL HE HOK c0 c1 hbB ro rl tB bt
    go_region_held3 (fun wx => Below wB.heap.size wB wx ∧ wx.cell? ⟨w2.heap.size, 0, none⟩ = some (.slice ao no co) ∧ wx.cell? ⟨w2.heap.size, 1, none⟩ = some (.slice al nl cl))
        (first | exact HT.out _ g4 | exact HT.out _ g3 | exact HT.out _ (g4.alloc g4.size _) | exact HT.out _ (g3.alloc g3.size _) | exact HT.out _ g5 | exact HT.out _ (by exact ⟨rfl, rfl, rfl, Nat.le_refl _, fun _ _ => rfl⟩) | go_keep)
        (first
          | (go_at_call 45; (with_reducible refine (K0.out _ (by exact (show _ ∧ _ ∧ _ from by assumption).1)).mono ?_); rintro e w3 ⟨rfl, g3⟩)
          | (go_at_call 45; (with_reducible refine (K1.out _ (by exact (show _ ∧ _ ∧ _ from by assumption).1)).mono ?_); rintro e w4 ⟨rfl, g4⟩)
          | (go_at_call 61; (refine (K2.out w4 g4).mono ?_); rintro e w5 ⟨rfl, g5⟩)
          | (go_at_call 61; (refine (K2.out w3 g3).mono ?_); rintro e w5 ⟨rfl, g5⟩))
    all_goals
      go_wp2_with fail
      go_ret
      exact ⟨by rw [HR0.out, List.append_assoc]; rfl, BT.out.trans (Below.mono ⟨g5.os, g5.tape, g5.output, g5.size, g5.block⟩ BT.out.size)⟩

end Go.Proofs.YtdagkgkllgpeeaaDoor
