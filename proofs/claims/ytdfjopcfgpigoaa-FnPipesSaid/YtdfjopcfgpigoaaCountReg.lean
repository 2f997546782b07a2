/- Walks: registers of a pipe. -/
import Derived.Test.YtdfjopcfgpigoaaDepth2
namespace Go.Proofs.Ytdfjopcfgpigoaa
open Go.RowKit
set_option linter.unusedVariables false
set_option linter.unusedSimpArgs false

theorem lvM_mem (xss : List (List Int)) : ∀ (k : Nat), ∀ x ∈ (lvM xss k).2, 0 ≤ x ∧ x ≤ k
  | 0, x, hx => by simp [lvM] at hx
  | k + 1, x, hx => by
    have ih := lvM_mem xss k
    simp only [lvM] at hx
    split at hx
    · rename_i a b _
      have h1 := lvM_bound xss k a.toNat
      have h2 := lvM_bound xss k b.toNat
      simp only [List.mem_append, List.mem_cons, List.not_mem_nil, or_false] at hx
      rcases hx with hx | rfl
      · have := ih x hx; omega
      · omega
    · have := ih x hx; omega
theorem mostL_bound {xs : List Int} {B : Int} (hB : 0 ≤ B) (h : ∀ x ∈ xs, 0 ≤ x ∧ x ≤ B) : ∀ k, 0 ≤ mostL xs k ∧ mostL xs k ≤ B
  | 0 => ⟨Int.le_refl _, hB⟩
  | k + 1 => by
    have ih := mostL_bound hB h k
    have hg : 0 ≤ xs.getD k 0 ∧ xs.getD k 0 ≤ B := by
      rw [List.getD_eq_getElem?_getD]
      cases hx : xs[k]? with
      | none => exact ⟨Int.le_refl _, hB⟩
      | some x => exact h x (List.mem_of_getElem? hx)
    simp only [mostL]
    omega
theorem depthOf_bound {n : Int} {xss : List (List Int)} (h : netOk n xss = true) : 0 ≤ depthOf n xss ∧ depthOf n xss ≤ 60 := by
  obtain ⟨N, rfl, _, _, h60⟩ := netOk_n h
  unfold depthOf
  rw [if_pos h]
  exact mostL_bound (by omega) (fun x hx => by have := lvM_mem xss _ x hx; omega) _
def countReg (n : Int) (xss : List (List Int)) : Int := if netOk n xss then n * depthOf n xss else -1

set_option maxHeartbeats 1000000 in
theorem S_CountRegisters (w : World) (n : Int) (hn : I64 n) (v : Value) (xss : List (List Int)) (h : Rd2 w v xss) (_ : I64ss xss) (_ : SzOk xss) : Calls Try.prog 19 #[.agg #[.int .i64 n, v]] w (RetB (.int .i64 (countReg n xss)) w) := by
  obtain ⟨a, c, rfl, h2, h3⟩ := h.form
  have hbA : Below w.heap.size w (w.alloc (.cells #[.int .i64 n, .slice a xss.length c] 32)) := (Below.refl _ _).alloc (Nat.le_refl _) _
  have h' := h.alloc (.cells #[.int .i64 n, .slice a xss.length c] 32)
  have HN := s_NetworkOk n _ xss _ h' hn
  cases hk : netOk n xss
  · rw [hk] at HN
    have HR : Hid (countReg n xss = -1) := by simp [countReg, hk, Hid]
    go_enter Try.func19, Try.ntmps19
    go_wp2_with (go_at_call 51; refine HN.mono ?_; rintro e w2 ⟨rfl, hb2⟩)
    go_ret
    exact ⟨ret_int HR.out.symm, hbA.trans (hb2.mono (by simp))⟩
  rw [hk] at HN
  have hdb := depthOf_bound hk
  have HR : Hid (countReg n xss = n * depthOf n xss) := by simp [countReg, hk, Hid]
  obtain ⟨N, rfl, hN1, hN8, hL60⟩ := netOk_n hk
  have HD := Lib.hid (fun (wq : World) (hq : Below w.heap.size w wq) => s_DepthOf (N : Int) _ xss wq (h.below hq) hn)
  obtain ⟨D, hD⟩ : ∃ D, depthOf (N : Int) xss = D := ⟨_, rfl⟩
  rw [hD] at HD hdb HR
  clear hk hD
  have iw : IntKind.i64.wrap ((N : Int) * D) = (N : Int) * D := by
    rcases (show N = 1 ∨ N = 2 ∨ N = 3 ∨ N = 4 ∨ N = 5 ∨ N = 6 ∨ N = 7 ∨ N = 8 by omega) with rfl | rfl | rfl | rfl | rfl | rfl | rfl | rfl <;> exact IntWalk.i64_in _ (by omega)
  have bx := box_cells w (.int .i64 N) (.slice a xss.length c) 32
  have HC : Hid (∀ wx : World, Below (w.heap.size + 1) (w.alloc (.cells #[.int .i64 N, .slice a xss.length c] 32)) wx → wx.cell? ⟨w.heap.size, 0, none⟩ = some (.int .i64 N) ∧ wx.cell? ⟨w.heap.size, 1, none⟩ = some (.slice a xss.length c)) :=
    fun wx hb => ⟨(hb.cell (by simp)).trans bx.1, (hb.cell (by simp)).trans bx.2⟩
  clear bx
  go_enter Try.func19, Try.ntmps19
  go_wp2_with (go_at_call 51; refine HN.mono ?_; rintro e w2 ⟨rfl, hb2⟩)
  have hb2' : Below (w.heap.size + 1) (w.alloc (.cells #[.int .i64 N, .slice a xss.length c] 32)) w2 := hb2.mono (by simp)
  have hbB : Below w.heap.size w w2 := hbA.trans (hb2.mono (by simp))
  obtain ⟨c0, c1⟩ := HC.out _ hb2'
  have hz2 : w.heap.size + 1 ≤ w2.heap.size := by have := hb2.size; simp at this; omega
  go_region_held3 (fun wx => wx.cell? ⟨w.heap.size, 0, none⟩ = some (.int .i64 N) ∧ wx.cell? ⟨w.heap.size, 1, none⟩ = some (.slice a xss.length c))
    (first | exact HC.out _ hw5 | go_keep)
    ((go_at_call 52; (refine (HD.out _ (by exact ⟨hbB.os, hbB.tape, hbB.output, hbB.size, hbB.block⟩)).mono ?_); rintro e w5 ⟨rfl, hb5⟩; have hb6 : Below w2.heap.size w2 w5 := (by exact ⟨hb5.os, hb5.tape, hb5.output, hb5.size, hb5.block⟩); have hw5 := hb2'.trans (hb6.mono hz2)))
  go_wp2
  go_ret
  exact ⟨ret_int HR.out.symm, hbB.trans (hb6.mono hbB.size)⟩

set_option maxHeartbeats 1000000 in
theorem I_CountRegisters (w : World) (n : Int) (hn : I64 n) (v : Value) (xss : List (List Int)) (h : Rd2 w v xss) (_ : I64ss xss) (_ : SzOk xss) : Calls Try.prog 21 #[.agg #[.int .i64 n, v]] w (RetB (.int .i64 (countReg n xss)) w) := by
  obtain ⟨a, c, rfl, h2, h3⟩ := h.form
  have hbA : Below w.heap.size w (w.alloc (.cells #[.int .i64 n, .slice a xss.length c] 32)) := (Below.refl _ _).alloc (Nat.le_refl _) _
  have h' := h.alloc (.cells #[.int .i64 n, .slice a xss.length c] 32)
  have HN := i_NetworkOk n _ xss _ h' hn
  cases hk : netOk n xss
  · rw [hk] at HN
    have HR : Hid (countReg n xss = -1) := by simp [countReg, hk, Hid]
    go_enter Try.func21, Try.ntmps21
    go_wp2_with (go_at_call 53; refine HN.mono ?_; rintro e w2 ⟨rfl, hb2⟩)
    go_ret
    exact ⟨ret_int HR.out.symm, hbA.trans (hb2.mono (by simp))⟩
  rw [hk] at HN
  have hdb := depthOf_bound hk
  have HR : Hid (countReg n xss = n * depthOf n xss) := by simp [countReg, hk, Hid]
  obtain ⟨N, rfl, hN1, hN8, hL60⟩ := netOk_n hk
  have HD := Lib.hid (fun (wq : World) (hq : Below w.heap.size w wq) => i_DepthOf (N : Int) _ xss wq (h.below hq) hn)
  obtain ⟨D, hD⟩ : ∃ D, depthOf (N : Int) xss = D := ⟨_, rfl⟩
  rw [hD] at HD hdb HR
  clear hk hD
  have iw : IntKind.i64.wrap ((N : Int) * D) = (N : Int) * D := by
    rcases (show N = 1 ∨ N = 2 ∨ N = 3 ∨ N = 4 ∨ N = 5 ∨ N = 6 ∨ N = 7 ∨ N = 8 by omega) with rfl | rfl | rfl | rfl | rfl | rfl | rfl | rfl <;> exact IntWalk.i64_in _ (by omega)
  have bx := box_cells w (.int .i64 N) (.slice a xss.length c) 32
  have HC : Hid (∀ wx : World, Below (w.heap.size + 1) (w.alloc (.cells #[.int .i64 N, .slice a xss.length c] 32)) wx → wx.cell? ⟨w.heap.size, 0, none⟩ = some (.int .i64 N) ∧ wx.cell? ⟨w.heap.size, 1, none⟩ = some (.slice a xss.length c)) :=
    fun wx hb => ⟨(hb.cell (by simp)).trans bx.1, (hb.cell (by simp)).trans bx.2⟩
  clear bx
  go_enter Try.func21, Try.ntmps21
  go_wp2_with (go_at_call 53; refine HN.mono ?_; rintro e w2 ⟨rfl, hb2⟩)
  have hb2' : Below (w.heap.size + 1) (w.alloc (.cells #[.int .i64 N, .slice a xss.length c] 32)) w2 := hb2.mono (by simp)
  have hbB : Below w.heap.size w w2 := hbA.trans (hb2.mono (by simp))
  obtain ⟨c0, c1⟩ := HC.out _ hb2'
  have hz2 : w.heap.size + 1 ≤ w2.heap.size := by have := hb2.size; simp at this; omega
  go_region_held3 (fun wx => wx.cell? ⟨w.heap.size, 0, none⟩ = some (.int .i64 N) ∧ wx.cell? ⟨w.heap.size, 1, none⟩ = some (.slice a xss.length c))
    (first | exact HC.out _ hw5 | go_keep)
    ((go_at_call 44; (refine (HD.out _ (by exact ⟨hbB.os, hbB.tape, hbB.output, hbB.size, hbB.block⟩)).mono ?_); rintro e w5 ⟨rfl, hb5⟩; have hb6 : Below w2.heap.size w2 w5 := (by exact ⟨hb5.os, hb5.tape, hb5.output, hb5.size, hb5.block⟩); have hw5 := hb2'.trans (hb6.mono hz2)))
  go_wp2
  go_ret
  exact ⟨ret_int HR.out.symm, hbB.trans (hb6.mono hbB.size)⟩

end Go.Proofs.Ytdfjopcfgpigoaa
