/- Walks: an empty pipe. -/
import Derived.Test.YtdfjopcfgpigoaaNetLaw
namespace Go.Proofs.Ytdfjopcfgpigoaa
open Go.RowKit
set_option linter.unusedVariables false
set_option linter.unusedSimpArgs false

def pipeStart (n : Int) (xss : List (List Int)) : List (List Int) := if netOk n xss then List.replicate (depthOf n xss).toNat [] else []
theorem tot_nils (D : Nat) : tot (List.replicate D []) = 0 := by
  induction D with
  | zero => rfl
  | succ D ih => simpa [tot, List.replicate_succ] using ih
theorem N_PipeStart (n : Int) (xss : List (List Int)) (_ : SzOk xss) : SzOk (pipeStart n xss) := by
  unfold pipeStart
  split
  · rename_i h
    have := depthOf_bound h
    refine ⟨?_, ?_⟩
    · rw [List.length_replicate]; omega
    · rw [tot_nils]; omega
  · exact ⟨by simp, by simp [tot]⟩
theorem Own2.nils {w : World} {EO E B : Nat} {v : Value} {D : Nat} (h : Own w EO B v (List.replicate D (.slice none 0 0))) : Own2 w EO E B w.heap.size v (List.replicate D []) := by
  refine ⟨_, h, fun k hk => (h.lt k hk).2, by simp, fun i r hr => ?_, fun i j r s _ hr hs k hk => ?_⟩
  · rw [List.getElem?_replicate] at hr
    by_cases hi : i < D
    · rw [if_pos hi] at hr
      cases hr
      exact ⟨[], by rw [List.getElem?_replicate, if_pos hi], Own.nil _ _ _, fun k hk => by cases hk⟩
    · rw [if_neg hi] at hr
      cases hr
  · rw [List.getElem?_replicate] at hr
    by_cases hi : i < D
    · rw [if_pos hi] at hr
      cases hr
      cases hk
    · rw [if_neg hi] at hr
      cases hr

set_option maxHeartbeats 1000000 in
theorem S_PipeStart (w : World) (n : Int) (hn : I64 n) (v : Value) (xss : List (List Int)) (h : Rd2 w v xss) (fx : I64ss xss) (lx : SzOk xss) : Calls Try.prog 27 #[.agg #[.int .i64 n, v]] w (RetOwn2 (pipeStart n xss) w) := by
  obtain ⟨a, c, rfl, h2, h3⟩ := h.form
  have hbA : Below w.heap.size w (w.alloc (.cells #[.int .i64 n, .slice a xss.length c] 32)) := (Below.refl _ _).alloc (Nat.le_refl _) _
  have h' := h.alloc (.cells #[.int .i64 n, .slice a xss.length c] 32)
  have HN := s_NetworkOk n _ xss _ h' hn
  cases hk : netOk n xss
  · rw [hk] at HN
    have HR : Hid (pipeStart n xss = []) := by simp [pipeStart, hk, Hid]
    go_enter Try.func27, Try.ntmps27
    go_wp2_with (go_at_call 51; refine HN.mono ?_; rintro e w2 ⟨rfl, hb2⟩)
    go_ret
    rw [HR.out]
    exact ⟨_, rfl, Own2.nil _ _ _ _ _, hbA.trans (hb2.mono (by simp))⟩
  rw [hk] at HN
  have hdb := depthOf_bound hk
  obtain ⟨D, hD⟩ : ∃ D : Nat, depthOf n xss = D := ⟨(depthOf n xss).toNat, by omega⟩
  have HR : Hid (pipeStart n xss = List.replicate D []) := by simp [pipeStart, hk, hD, Hid]
  have HD := Lib.hid (fun (wq : World) (hq : Below w.heap.size w wq) => s_DepthOf n _ xss wq (h.below hq) hn)
  rw [hD] at HD hdb
  clear hk hD
  have bx := box_cells w (.int .i64 n) (.slice a xss.length c) 32
  have HC : Hid (∀ wx : World, Below (w.heap.size + 1) (w.alloc (.cells #[.int .i64 n, .slice a xss.length c] 32)) wx → wx.cell? ⟨w.heap.size, 0, none⟩ = some (.int .i64 n) ∧ wx.cell? ⟨w.heap.size, 1, none⟩ = some (.slice a xss.length c)) :=
    fun wx hb => ⟨(hb.cell (by simp)).trans bx.1, (hb.cell (by simp)).trans bx.2⟩
  clear bx
  go_enter Try.func27, Try.ntmps27
  go_wp2_with (first
    | (go_at_call 51; refine HN.mono ?_; rintro e w2 ⟨rfl, hb2⟩
       have hb2' : Below (w.heap.size + 1) (w.alloc (.cells #[.int .i64 n, .slice a xss.length c] 32)) w2 := hb2.mono (by simp)
       have hbB : Below w.heap.size w w2 := hbA.trans (hb2.mono (by simp))
       obtain ⟨c0, c1⟩ := HC.out _ hb2')
    | (go_at_call 52; refine (HD.out _ hbB).mono ?_; rintro e w3 ⟨rfl, hb3⟩; have hbC := hbB.trans (hb3.mono hbB.size); have hs3 := hbC.size)
    | (at_make; refine wpList_mk (B := w.heap.size) rfl _ _ 22 rfl elII rfl rfl hs3 (by omega) (by omega) ?_; intro b w4 hb4 hown4 hg4))
  go_ret
  rw [HR.out]
  exact ⟨_, rfl, Own2.nils hown4, hbC.grown hg4 hs3 (fun _ h => by cases h)⟩

set_option maxHeartbeats 1000000 in
theorem I_PipeStart (w : World) (n : Int) (hn : I64 n) (v : Value) (xss : List (List Int)) (h : Rd2 w v xss) (fx : I64ss xss) (lx : SzOk xss) : Calls Try.prog 28 #[.agg #[.int .i64 n, v]] w (RetOwn2 (pipeStart n xss) w) := by
  obtain ⟨a, c, rfl, h2, h3⟩ := h.form
  have hbA : Below w.heap.size w (w.alloc (.cells #[.int .i64 n, .slice a xss.length c] 32)) := (Below.refl _ _).alloc (Nat.le_refl _) _
  have h' := h.alloc (.cells #[.int .i64 n, .slice a xss.length c] 32)
  have HN := i_NetworkOk n _ xss _ h' hn
  cases hk : netOk n xss
  · rw [hk] at HN
    have HR : Hid (pipeStart n xss = []) := by simp [pipeStart, hk, Hid]
    go_enter Try.func28, Try.ntmps28
    go_wp2_with (go_at_call 53; refine HN.mono ?_; rintro e w2 ⟨rfl, hb2⟩)
    go_ret
    rw [HR.out]
    exact ⟨_, rfl, Own2.nil _ _ _ _ _, hbA.trans (hb2.mono (by simp))⟩
  rw [hk] at HN
  have hdb := depthOf_bound hk
  obtain ⟨D, hD⟩ : ∃ D : Nat, depthOf n xss = D := ⟨(depthOf n xss).toNat, by omega⟩
  have HR : Hid (pipeStart n xss = List.replicate D []) := by simp [pipeStart, hk, hD, Hid]
  have HD := Lib.hid (fun (wq : World) (hq : Below w.heap.size w wq) => i_DepthOf n _ xss wq (h.below hq) hn)
  rw [hD] at HD hdb
  clear hk hD
  have bx := box_cells w (.int .i64 n) (.slice a xss.length c) 32
  have HC : Hid (∀ wx : World, Below (w.heap.size + 1) (w.alloc (.cells #[.int .i64 n, .slice a xss.length c] 32)) wx → wx.cell? ⟨w.heap.size, 0, none⟩ = some (.int .i64 n) ∧ wx.cell? ⟨w.heap.size, 1, none⟩ = some (.slice a xss.length c)) :=
    fun wx hb => ⟨(hb.cell (by simp)).trans bx.1, (hb.cell (by simp)).trans bx.2⟩
  clear bx
  go_enter Try.func28, Try.ntmps28
  go_wp2_with (first
    | (go_at_call 53; refine HN.mono ?_; rintro e w2 ⟨rfl, hb2⟩
       have hb2' : Below (w.heap.size + 1) (w.alloc (.cells #[.int .i64 n, .slice a xss.length c] 32)) w2 := hb2.mono (by simp)
       have hbB : Below w.heap.size w w2 := hbA.trans (hb2.mono (by simp))
       obtain ⟨c0, c1⟩ := HC.out _ hb2')
    | (go_at_call 44; refine (HD.out _ hbB).mono ?_; rintro e w3 ⟨rfl, hb3⟩; have hbC := hbB.trans (hb3.mono hbB.size); have hs3 := hbC.size)
    | (at_make; refine wpList_mk (B := w.heap.size) rfl _ _ 22 rfl elII rfl rfl hs3 (by omega) (by omega) ?_; intro b w4 hb4 hown4 hg4))
  go_ret
  rw [HR.out]
  exact ⟨_, rfl, Own2.nils hown4, hbC.grown hg4 hs3 (fun _ h => by cases h)⟩

end Go.Proofs.Ytdfjopcfgpigoaa
