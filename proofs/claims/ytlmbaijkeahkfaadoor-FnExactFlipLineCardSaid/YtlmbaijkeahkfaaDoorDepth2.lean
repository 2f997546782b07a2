/- Walks: the program's depth of networks. -/
import Derived.Test.YtlmbaijkeahkfaaDoorLevels2
namespace Go.Proofs.YtlmbaijkeahkfaaDoor
open Go.RowKit
set_option linter.unusedVariables false
set_option linter.unusedSimpArgs false

set_option maxHeartbeats 1000000 in
theorem i_DepthOf (n : Int) (v : Value) (xss : List (List Int)) (w : World) (h : Rd2 w v xss) (hn : I64 n) : Calls Tryd.prog 49 #[.agg #[.int .i64 n, v]] w (RetB (.int .i64 (depthOf n xss)) w) := by
  obtain ⟨a, c, rfl, h2, h3⟩ := h.form
  have hbA : Below w.heap.size w (w.alloc (.cells #[.int .i64 n, .slice a xss.length c] 32)) := (Below.refl _ _).alloc (Nat.le_refl _) _
  have h' := h.alloc (.cells #[.int .i64 n, .slice a xss.length c] 32)
  have HN := i_NetworkOk n _ xss _ h' hn
  cases hk : netOk n xss
  · rw [hk] at HN
    have HR : Hid (depthOf n xss = -1) := by simp [depthOf, hk, Hid]
    go_enter Tryd.func49, Tryd.ntmps49
    go_wp2_with (go_at_call 48; refine HN.mono ?_; rintro e w2 ⟨rfl, hb2⟩)
    go_ret
    exact ⟨ret_int HR.out.symm, hbA.trans (hb2.mono (by simp))⟩
  rw [hk] at HN
  obtain ⟨N, rfl, hN1, hN8, hL60⟩ := netOk_n hk
  obtain ⟨xs, hxs⟩ : ∃ xs, (lvM xss xss.length).2 = xs := ⟨_, rfl⟩
  have HR : Hid (depthOf (N : Int) xss = mostL xs xs.length) := by simp [depthOf, hk, hxs, Hid]
  have HL := Lib.hid (fun (wq : World) (hq : Below w.heap.size w wq) => i_levels N _ xss wq (h.below hq) hk)
  rw [hxs] at HL
  clear hk hxs
  have bx := box_cells w (.int .i64 N) (.slice a xss.length c) 32
  go_enter Tryd.func49, Tryd.ntmps49
  go_wp2_with (first
    | (go_at_call 48; refine HN.mono ?_; rintro e w2 ⟨rfl, hb2⟩
       have c0 : w2.cell? ⟨w.heap.size, 0, none⟩ = some (.int .i64 N) := (hb2.cell (by simp)).trans bx.1
       have c1 : w2.cell? ⟨w.heap.size, 1, none⟩ = some (.slice a xss.length c) := (hb2.cell (by simp)).trans bx.2
       have hbB : Below w.heap.size w w2 := hbA.trans (hb2.mono (by simp)))
    | (go_at_call 97; refine (HL.out _ hbB).mono ?_; rintro e w3 ⟨vo, rfl, ho3, hb3⟩; obtain ⟨ao, co, rfl, _, _⟩ := ho3.rd.formi))
  have hbC : Below w.heap.size w w3 := hbB.trans (hb3.mono hbB.size)
  clear c0 c1 hb2 bx HN
  go_loopw [3, 12] (fun m i wr => ∃ k : Nat, k ≤ xs.length ∧ i = .int .i64 k ∧ m = .int .i64 (mostL xs k) ∧ Dr w3 wr) (fun _ i _ => xs.length - (intOf i).toNat)
  case atStart => exact ⟨0, Nat.zero_le _, rfl, rfl, Dr.refl _⟩
  case round =>
    obtain ⟨k, hkl, rfl, rfl, hdr⟩ := hrel
    by_cases hlt : k < xs.length
    · obtain ⟨ad, x, rfl, hc, hx⟩ := (ho3.rd.dr hdr).int hlt
      have HM := Lib.hid (mostL_succ hx.out)
      go_wp2
      go_roundw
      case rel => exact ⟨k + 1, by omega, by go_num, by rw [HM.out]; exact max_if _ _, hdr⟩
      case measure => simp [intOf]; omega
    · obtain rfl : xs.length = k := by omega
      go_wp2
      go_ret
      exact ⟨ret_int HR.out.symm, hbC.trans (hdr.below _)⟩

end Go.Proofs.YtlmbaijkeahkfaaDoor
