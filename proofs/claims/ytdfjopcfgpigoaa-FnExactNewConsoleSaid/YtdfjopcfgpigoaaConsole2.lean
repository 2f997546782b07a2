/- Walks: the console's first network, in the reference. -/
import Derived.Test.YtdfjopcfgpigoaaParse
namespace Go.Proofs.Ytdfjopcfgpigoaa
open Go.RowKit
set_option linter.unusedVariables false
set_option linter.unusedSimpArgs false

theorem con0_ok : netOk 4 con0 = true := by decide
theorem con0_text : fmtK 4 con0 con0.length = [52, 58, 32, 48, 45, 49, 32, 50, 45, 51, 32, 48, 45, 50, 32, 49, 45, 51, 32, 49, 45, 50] := by
  show fmtK 4 con0 5 = _
  simp only [fmtK, con0, List.getD_cons_zero, List.getD_cons_succ]
  rw [itoa_dig (by omega), fmtPair_dig (by omega) (by omega), fmtPair_dig (by omega) (by omega), fmtPair_dig (by omega) (by omega), fmtPair_dig (by omega) (by omega), fmtPair_dig (by omega) (by omega)]
  decide
set_option maxRecDepth 100000 in
set_option maxHeartbeats 4000000 in
theorem s_NewConsole (w : World) : Calls Try.prog 47 #[] w (RetNet 4 con0 w) := by
  have HP := Lib.hid (fun wx => s_ParseOk 4 con0 wx con0_ok)
  have HT : Hid (bstr (fmtK 4 con0 con0.length) = ⟨#[52, 58, 32, 48, 45, 49, 32, 50, 45, 51, 32, 48, 45, 50, 32, 49, 45, 51, 32, 49, 45, 50]⟩) := by rw [Hid, con0_text]; rfl
  rw [HT.out] at HP
  have hw0 : Below w.heap.size w (w.alloc (.cells #[.int .i64 0, .slice none 0 0] 32)) := (Below.refl _ _).alloc (Nat.le_refl _) _
  have hr0 : (w.alloc (.cells #[.int .i64 0, .slice none 0 0] 32)).heap[w.heap.size]? = some (.cells #[.int .i64 0, .slice none 0 0] 32 (0, 0)) := heap_alloc_new w _
  have HR0 := Lib.hid hr0
  clear hr0
  go_enter Try.func47, Try.ntmps47
  go_wp2_with (go_at_call 68; refine (HP.out _).mono ?_; rintro e w2 ⟨v, rfl, hO, hb2⟩; obtain ⟨av, cv, rfl, _, _⟩ := hO.form; have hr2 := (hb2.block w.heap.size (by simp)).trans HR0.out; have hrA := (Below.heap_alloc w2 (.cells #[.int .i64 4, .slice av con0.length cv] 32) w.heap.size (box_lt hr2)).trans hr2; have HRA := Lib.hid hrA; have c0 := box_cell hrA 0; have c1 := box_cell hrA 1; have cf := fun i => frozen_of_row (w2.alloc (.cells #[.int .i64 4, .slice av con0.length cv] 32)) w.heap.size i _ _ hrA; clear hr2 hrA)
  have e1 := heap_setCell_same (w2.alloc (.cells #[.int .i64 4, .slice av con0.length cv] 32)) w.heap.size 0 _ _ (.int .i64 4) HRA.out
  have e2 := heap_setCell_same _ w.heap.size 1 _ _ (.slice av con0.length cv) e1
  obtain ⟨wz, hwz⟩ : ∃ wz, ((w2.alloc (.cells #[.int .i64 4, .slice av con0.length cv] 32)).setCell ⟨w.heap.size, 0, none⟩ (.int .i64 4)).setCell ⟨w.heap.size, 1, none⟩ (.slice av con0.length cv) = wz := ⟨_, rfl⟩
  have hgz : (w2.alloc (.cells #[.int .i64 4, .slice av con0.length cv] 32)).grownBy wz (some w.heap.size) := by
    rw [← hwz]
    exact ⟨rfl, rfl, rfl, by simp, fun i _ hi => (heap_setCell_other _ ⟨w.heap.size, 1, none⟩ i _ (fun e => hi (by rw [e]))).trans (heap_setCell_other _ ⟨w.heap.size, 0, none⟩ i _ (fun e => hi (by rw [e])))⟩
  have hsz : wz.heap.size = w2.heap.size + 1 := by rw [← hwz]; simp
  rw [hwz] at e2 ⊢
  have q0 := box_cell e2 0
  have q1 := box_cell e2 1
  have ea : (((#[Value.int .i64 0, .slice none 0 0] : Array Value).setIfInBounds 0 (.int .i64 4)).setIfInBounds 1 (.slice av con0.length cv)) = #[.int .i64 4, .slice av con0.length cv] := rfl
  rw [ea] at q0 q1
  have hO1 := hO.below ((Below.refl w2.heap.size w2).alloc (Nat.le_refl _) (.cells #[.int .i64 4, .slice av con0.length cv] 32))
  obtain ⟨rows6, ho6, hlt6, hR6⟩ := hO1
  have hoz := ho6.apart hgz (fun g h1 h2 => own_ne_box ho6 HRA.out (by decide) (h1.trans h2.symm))
  have hRz := hR6.grown hgz (fun r hr g h1 h2 => by
    obtain ⟨q, hq, rfl⟩ := List.getElem_of_mem hr
    obtain ⟨ys, _, hoq⟩ := hR6.row (List.getElem?_eq_getElem hq)
    exact own_ne_box hoq HRA.out (by decide) (h1.trans h2.symm))
  have hb3 := hw0.trans (hb2.mono hw0.size)
  have hbz : Below w.heap.size w wz := (hb3.alloc hb3.size _).grown hgz (by have := hb3.size; simp; omega) (fun r hr => by cases hr; exact Nat.le_refl _)
  refine bodyPost_ret (v := .agg #[.int .i64 4, .slice av con0.length cv]) (by simp [results, Try.results47, go_sem, q0, q1]) rfl ⟨_, rfl, ⟨rows6, hoz.mono (by simp), fun g hg => (hoz.lt g hg).2, hRz.mono (by simp) (by omega)⟩, hbz⟩

theorem N_NewConsole : SzOk con0 := ⟨by decide, by decide⟩
theorem S_NewConsole (w : World) : Calls Try.prog 47 #[] w (RetNet ((4 : Int), con0).1 ((4 : Int), con0).2 w) := s_NewConsole w
theorem I_NewConsole (w : World) : Calls Try.prog 48 #[] w (RetNet ((4 : Int), con0).1 ((4 : Int), con0).2 w) := i_NewConsole w

end Go.Proofs.Ytdfjopcfgpigoaa
