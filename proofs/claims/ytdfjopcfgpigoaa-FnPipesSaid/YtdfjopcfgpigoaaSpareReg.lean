/- Walks: registers behind no comparator. -/
import Derived.Test.YtdfjopcfgpigoaaNetLaw
namespace Go.Proofs.Ytdfjopcfgpigoaa
open Go.RowKit
set_option linter.unusedVariables false
set_option linter.unusedSimpArgs false

def spareReg (n : Int) (xss : List (List Int)) : Int := if netOk n xss then n * depthOf n xss - 2 * (xss.length : Int) else -1

set_option maxHeartbeats 1000000 in
theorem S_SpareRegisters (w : World) (n : Int) (hn : I64 n) (v : Value) (xss : List (List Int)) (h : Rd2 w v xss) (fx : I64ss xss) (lx : SzOk xss) : Calls Try.prog 23 #[.agg #[.int .i64 n, v]] w (RetB (.int .i64 (spareReg n xss)) w) := by
  obtain ⟨a, c, rfl, h2, h3⟩ := h.form
  have hbA : Below w.heap.size w (w.alloc (.cells #[.int .i64 n, .slice a xss.length c] 32)) := (Below.refl _ _).alloc (Nat.le_refl _) _
  have h' := h.alloc (.cells #[.int .i64 n, .slice a xss.length c] 32)
  have HN := s_NetworkOk n _ xss _ h' hn
  cases hk : netOk n xss
  · rw [hk] at HN
    have HR : Hid (spareReg n xss = -1) := by simp [spareReg, hk, Hid]
    go_enter Try.func23, Try.ntmps23
    go_wp2_with (go_at_call 51; refine HN.mono ?_; rintro e w2 ⟨rfl, hb2⟩)
    go_ret
    exact ⟨ret_int HR.out.symm, hbA.trans (hb2.mono (by simp))⟩
  rw [hk] at HN
  have hdb := depthOf_bound hk
  have HR : Hid (spareReg n xss = n * depthOf n xss - 2 * (xss.length : Int)) := by simp [spareReg, hk, Hid]
  obtain ⟨N, rfl, hN1, hN8, hL60⟩ := netOk_n hk
  have HD := Lib.hid (fun (wq : World) (hq : Below w.heap.size w wq) => s_DepthOf (N : Int) _ xss wq (h.below hq) hn)
  obtain ⟨D, hD⟩ : ∃ D, depthOf (N : Int) xss = D := ⟨_, rfl⟩
  rw [hD] at HD hdb HR
  clear hk hD
  have iw : IntKind.i64.wrap ((N : Int) * D) = (N : Int) * D := by
    rcases (show N = 1 ∨ N = 2 ∨ N = 3 ∨ N = 4 ∨ N = 5 ∨ N = 6 ∨ N = 7 ∨ N = 8 by omega) with rfl | rfl | rfl | rfl | rfl | rfl | rfl | rfl <;> exact IntWalk.i64_in _ (by omega)
  have iw2 : IntKind.i64.wrap (2 * (xss.length : Int)) = 2 * (xss.length : Int) := IntWalk.i64_in _ (by omega)
  have iw3 : IntKind.i64.wrap ((N : Int) * D - 2 * (xss.length : Int)) = (N : Int) * D - 2 * (xss.length : Int) := by
    rcases (show N = 1 ∨ N = 2 ∨ N = 3 ∨ N = 4 ∨ N = 5 ∨ N = 6 ∨ N = 7 ∨ N = 8 by omega) with rfl | rfl | rfl | rfl | rfl | rfl | rfl | rfl <;> exact IntWalk.i64_in _ (by omega)
  have bx := box_cells w (.int .i64 N) (.slice a xss.length c) 32
  have HC : Hid (∀ wx : World, Below (w.heap.size + 1) (w.alloc (.cells #[.int .i64 N, .slice a xss.length c] 32)) wx → wx.cell? ⟨w.heap.size, 0, none⟩ = some (.int .i64 N) ∧ wx.cell? ⟨w.heap.size, 1, none⟩ = some (.slice a xss.length c)) :=
    fun wx hb => ⟨(hb.cell (by simp)).trans bx.1, (hb.cell (by simp)).trans bx.2⟩
  clear bx
  go_enter Try.func23, Try.ntmps23
  go_wp2_with (go_at_call 51; refine HN.mono ?_; rintro e w2 ⟨rfl, hb2⟩)
  have hb2' : Below (w.heap.size + 1) (w.alloc (.cells #[.int .i64 N, .slice a xss.length c] 32)) w2 := hb2.mono (by simp)
  have hbB : Below w.heap.size w w2 := hbA.trans (hb2.mono (by simp))
  obtain ⟨c0, c1⟩ := HC.out _ hb2'
  have hz2 : w.heap.size + 1 ≤ w2.heap.size := by have := hb2.size; simp at this; omega
  go_region_held3 (fun wx => wx.cell? ⟨w.heap.size, 0, none⟩ = some (.int .i64 N) ∧ wx.cell? ⟨w.heap.size, 1, none⟩ = some (.slice a xss.length c))
    (first | exact HC.out _ hw5 | go_keep)
    ((go_at_call 52; (refine (HD.out _ (by exact ⟨hbB.os, hbB.tape, hbB.output, hbB.size, hbB.block⟩)).mono ?_); rintro e w5 ⟨rfl, hb5⟩; have hb6 : Below w2.heap.size w2 w5 := (by exact ⟨hb5.os, hb5.tape, hb5.output, hb5.size, hb5.block⟩); have hw5 := hb2'.trans (hb6.mono hz2)))
  go_wp2
  go_ret
  exact ⟨ret_int HR.out.symm, hbB.trans (hb6.mono hbB.size)⟩

set_option maxHeartbeats 1000000 in
theorem I_SpareRegisters (w : World) (n : Int) (hn : I64 n) (v : Value) (xss : List (List Int)) (h : Rd2 w v xss) (fx : I64ss xss) (lx : SzOk xss) : Calls Try.prog 24 #[.agg #[.int .i64 n, v]] w (RetB (.int .i64 (spareReg n xss)) w) := by
  obtain ⟨a, c, rfl, h2, h3⟩ := h.form
  have hbA : Below w.heap.size w (w.alloc (.cells #[.int .i64 n, .slice a xss.length c] 32)) := (Below.refl _ _).alloc (Nat.le_refl _) _
  have h' := h.alloc (.cells #[.int .i64 n, .slice a xss.length c] 32)
  have HN := i_NetworkOk n _ xss _ h' hn
  cases hk : netOk n xss
  · rw [hk] at HN
    have HR : Hid (spareReg n xss = -1) := by simp [spareReg, hk, Hid]
    go_enter Try.func24, Try.ntmps24
    go_wp2_with (go_at_call 53; refine HN.mono ?_; rintro e w2 ⟨rfl, hb2⟩)
    go_ret
    exact ⟨ret_int HR.out.symm, hbA.trans (hb2.mono (by simp))⟩
  rw [hk] at HN
  have hdb := depthOf_bound hk
  have HR : Hid (spareReg n xss = n * depthOf n xss - 2 * (xss.length : Int)) := by simp [spareReg, hk, Hid]
  obtain ⟨N, rfl, hN1, hN8, hL60⟩ := netOk_n hk
  have HC0 : countReg (N : Int) xss = (N : Int) * depthOf (N : Int) xss := by simp [countReg, hk]
  have HD := Lib.hid (fun (wq : World) (hq : Below w.heap.size w wq) => I_CountRegisters wq (N : Int) hn _ xss (h.below hq) fx lx)
  rw [← HC0] at HR
  have hdc : 0 ≤ countReg (N : Int) xss ∧ countReg (N : Int) xss ≤ 480 := by
    rw [HC0]
    rcases (show N = 1 ∨ N = 2 ∨ N = 3 ∨ N = 4 ∨ N = 5 ∨ N = 6 ∨ N = 7 ∨ N = 8 by omega) with rfl | rfl | rfl | rfl | rfl | rfl | rfl | rfl <;> omega
  obtain ⟨D, hD⟩ : ∃ D, countReg (N : Int) xss = D := ⟨_, rfl⟩
  rw [hD] at HD hdc HR
  clear hk hD HC0 hdb
  have iw2 : IntKind.i64.wrap (2 * (xss.length : Int)) = 2 * (xss.length : Int) := IntWalk.i64_in _ (by omega)
  have iw3 : IntKind.i64.wrap (D - 2 * (xss.length : Int)) = D - 2 * (xss.length : Int) := IntWalk.i64_in _ (by omega)
  have bx := box_cells w (.int .i64 N) (.slice a xss.length c) 32
  have HC : Hid (∀ wx : World, Below (w.heap.size + 1) (w.alloc (.cells #[.int .i64 N, .slice a xss.length c] 32)) wx → wx.cell? ⟨w.heap.size, 0, none⟩ = some (.int .i64 N) ∧ wx.cell? ⟨w.heap.size, 1, none⟩ = some (.slice a xss.length c)) :=
    fun wx hb => ⟨(hb.cell (by simp)).trans bx.1, (hb.cell (by simp)).trans bx.2⟩
  clear bx
  go_enter Try.func24, Try.ntmps24
  go_wp2_with (go_at_call 53; refine HN.mono ?_; rintro e w2 ⟨rfl, hb2⟩)
  have hb2' : Below (w.heap.size + 1) (w.alloc (.cells #[.int .i64 N, .slice a xss.length c] 32)) w2 := hb2.mono (by simp)
  have hbB : Below w.heap.size w w2 := hbA.trans (hb2.mono (by simp))
  obtain ⟨c0, c1⟩ := HC.out _ hb2'
  have hz2 : w.heap.size + 1 ≤ w2.heap.size := by have := hb2.size; simp at this; omega
  go_region_held3 (fun wx => wx.cell? ⟨w.heap.size, 0, none⟩ = some (.int .i64 N) ∧ wx.cell? ⟨w.heap.size, 1, none⟩ = some (.slice a xss.length c))
    (first | exact HC.out _ hw5 | go_keep)
    ((go_at_call 21; (refine (HD.out _ (by exact ⟨hbB.os, hbB.tape, hbB.output, hbB.size, hbB.block⟩)).mono ?_); rintro e w5 ⟨rfl, hb5⟩; have hb6 : Below w2.heap.size w2 w5 := (by exact ⟨hb5.os, hb5.tape, hb5.output, hb5.size, hb5.block⟩); have hw5 := hb2'.trans (hb6.mono hz2)))
  go_wp2
  go_ret
  exact ⟨ret_int HR.out.symm, hbB.trans (hb6.mono hbB.size)⟩

end Go.Proofs.Ytdfjopcfgpigoaa
