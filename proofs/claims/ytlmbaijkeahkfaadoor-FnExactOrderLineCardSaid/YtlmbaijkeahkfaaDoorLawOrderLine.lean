/- The walk of the law FnExactOrderLine. -/
import Derived.Test.YtlmbaijkeahkfaaDoorOrderLine
import Derived.Test.YtlmbaijkeahkfaaDoorNetLaw
namespace Go.Proofs.YtlmbaijkeahkfaaDoor
open Go.RowKit
set_option linter.unusedVariables false
set_option linter.unusedSimpArgs false

set_option maxRecDepth 100000 in
set_option maxHeartbeats 4000000 in
theorem law_OrderLine (w : World) (nxx : Int) (_ : I64 nxx) (vxx : Value) (xx : List (List Int)) (hxx : Rd2 w vxx xx) (fxx : I64ss xx) (ht : Tab w) : Calls Tryd.prog 8 #[.agg #[.int .i64 nxx, vxx]] w (Law w) := by
  obtain ⟨axx, cxx, rfl, _, hcxx⟩ := hxx.form
  have hbA : Below w.heap.size w (w.alloc (.cells #[.int .i64 nxx, .slice axx xx.length cxx] 29)) := (Below.refl _ _).alloc (Nat.le_refl _) _
  have HAx := Lib.hid (box_cells w (.int .i64 nxx) (.slice axx xx.length cxx) 29)
  have hs1 := szSS_le xx 1048576
  obtain ⟨L1, hL1⟩ : ∃ z, szSS xx 1048576 = z := ⟨_, rfl⟩
  rw [hL1] at hs1
  have HL1 := Lib.hid hL1
  clear hL1
  by_cases pxx : L1 < 0
  case pos =>
    go_enter Tryd.func8, Tryd.ntmps8
    go_wp2_with fail
    refine (szNetwork_c nxx _ xx 1048576 _ (hxx.below hbA) (by omega) (by omega)).mono ?_
    rintro e w1z ⟨rfl, bz1⟩
    rw [HL1.out]
    replace bz1 := hbA.trans (bz1.mono hbA.size)
    go_wp2_with fail
    go_ret
    exact ⟨rfl, bz1⟩
  have lxx : SzOk xx := szSS_ok (left := 1048576) (by have := HL1.out; omega) (by omega)
  have txx := lxx.2
  obtain ⟨r0, HS, HI⟩ : ∃ (r0 : ByteArray), 
      (∀ (W : World) (Vxx : Value) (Hxx : Rd2 W Vxx xx), Calls Tryd.prog 24 #[.agg #[.int .i64 nxx, Vxx]] W (RetB (.string r0) W)) ∧
      (∀ (W : World) (Vxx : Value) (Hxx : Rd2 W Vxx xx) (ht : Tab W), Calls Tryd.prog 25 #[.agg #[.int .i64 nxx, Vxx]] W (RetB (.string r0) W)) :=
    ⟨_, fun W Vxx Hxx => S_OrderLine W nxx (by assumption) Vxx xx Hxx fxx lxx, fun W Vxx Hxx ht => I_OrderLine W nxx (by assumption) Vxx xx Hxx fxx lxx ht⟩
  have GS := Lib.hid HS
  have GI := Lib.hid HI
  clear HS HI
  go_enter Tryd.func8, Tryd.ntmps8
  go_wp2_with fail
  refine (szNetwork_c nxx _ xx 1048576 _ (hxx.below hbA) (by omega) (by omega)).mono ?_
  rintro e w1z ⟨rfl, bz1⟩
  rw [HL1.out]
  have cX0 := (bz1.cell (by simp)).trans HAx.out.1
  have cX1 := (bz1.cell (by simp)).trans HAx.out.2
  replace bz1 := hbA.trans (bz1.mono hbA.size)
  have lX : w.heap.size < w1z.heap.size := World.block_lt_of_cell? _ _ cX0
  have bt : Below w.heap.size w w1z := bz1
  have z0 := bt.size
  go_wp2_with fail
  refine (toNetwork_c nxx _ xx _ (hxx.below bt) lxx).mono ?_
  rintro e w1 ⟨vy1, rfl, oy1, b1⟩
  obtain ⟨ay1, cy1, rfl, _, _⟩ := oy1.form
  replace cX0 := (b1.cell (World.block_lt_of_cell? _ _ cX0)).trans cX0
  replace cX1 := (b1.cell (World.block_lt_of_cell? _ _ cX1)).trans cX1
  replace bt := bt.trans (b1.mono bt.size)
  have z1 := b1.size
  go_wp2_with fail
  refine ((GS.out _ _ oy1.rd)).mono ?_
  rintro e w2 ⟨rfl, b2⟩
  replace oy1 := oy1.below b2
  replace cX0 := (b2.cell (World.block_lt_of_cell? _ _ cX0)).trans cX0
  replace cX1 := (b2.cell (World.block_lt_of_cell? _ _ cX1)).trans cX1
  replace bt := bt.trans (b2.mono bt.size)
  have z2 := b2.size
  go_wp2_with fail
  refine (toNetwork_c nxx _ xx _ (hxx.below bt) lxx).mono ?_
  rintro e w3 ⟨vy2, rfl, oy2, b3⟩
  obtain ⟨ay2, cy2, rfl, _, _⟩ := oy2.form
  replace oy1 := oy1.below b3
  replace cX0 := (b3.cell (World.block_lt_of_cell? _ _ cX0)).trans cX0
  replace cX1 := (b3.cell (World.block_lt_of_cell? _ _ cX1)).trans cX1
  replace bt := bt.trans (b3.mono bt.size)
  have z3 := b3.size
  go_wp2_with fail
  obtain ⟨w4, b4, cy20, cy21, hw4⟩ := box_store w3 (.int .i64 nxx) (.slice ay2 xx.length cy2) 32
  rw [hw4]
  clear hw4
  replace oy1 := oy1.below b4
  replace oy2 := oy2.below b4
  replace cX0 := (b4.cell (World.block_lt_of_cell? _ _ cX0)).trans cX0
  replace cX1 := (b4.cell (World.block_lt_of_cell? _ _ cX1)).trans cX1
  replace bt := bt.trans (b4.mono bt.size)
  have z4 := b4.size
  have ly2 : w3.heap.size < w4.heap.size := World.block_lt_of_cell? _ _ cy20
  refine ((GI.out _ _ oy2.rd (ht.below bt))).mono ?_
  rintro e w5 ⟨rfl, b5⟩
  replace oy1 := oy1.below b5
  replace oy2 := oy2.below b5
  replace cX0 := (b5.cell (World.block_lt_of_cell? _ _ cX0)).trans cX0
  replace cX1 := (b5.cell (World.block_lt_of_cell? _ _ cX1)).trans cX1
  replace cy20 := (b5.cell (World.block_lt_of_cell? _ _ cy20)).trans cy20
  replace cy21 := (b5.cell (World.block_lt_of_cell? _ _ cy21)).trans cy21
  replace bt := bt.trans (b5.mono bt.size)
  have z5 := b5.size
  go_wp2_with fail
  have HT7 : Hid (∀ wx : World, Below w5.heap.size w5 wx → wx.cell? ⟨w.heap.size, 0, none⟩ = some (.int .i64 nxx) ∧ wx.cell? ⟨w.heap.size, 1, none⟩ = some (.slice axx xx.length cxx) ∧ wx.cell? ⟨w3.heap.size, 0, none⟩ = some (.int .i64 nxx) ∧ wx.cell? ⟨w3.heap.size, 1, none⟩ = some (.slice ay2 xx.length cy2)) := fun wx hb => ⟨(hb.cell (World.block_lt_of_cell? _ _ cX0)).trans cX0, (hb.cell (World.block_lt_of_cell? _ _ cX1)).trans cX1, (hb.cell (World.block_lt_of_cell? _ _ cy20)).trans cy20, (hb.cell (World.block_lt_of_cell? _ _ cy21)).trans cy21⟩
  have hx7 := hxx.below bt
  go_region_held3 (fun wx => wx.cell? ⟨w.heap.size, 0, none⟩ = some (.int .i64 nxx) ∧ wx.cell? ⟨w.heap.size, 1, none⟩ = some (.slice axx xx.length cxx) ∧ wx.cell? ⟨w3.heap.size, 0, none⟩ = some (.int .i64 nxx) ∧ wx.cell? ⟨w3.heap.size, 1, none⟩ = some (.slice ay2 xx.length cy2))
    (first | exact HT7.out _ b7 | exact HT7.out _ b6 | go_keep)
    (first
      | (go_at_call 17; refine (toNetwork_c nxx _ xx _ (by exact hx7) lxx).mono ?_; rintro e w6 ⟨vq7, rfl, oq7, bq7⟩; have b6 : Below w5.heap.size w5 w6 := (by exact ⟨bq7.os, bq7.tape, bq7.output, bq7.size, bq7.block⟩))
      | (go_at_call 19; refine (eqNet_t nxx _ _ xx _ (by exact oy2.rd.below b6) (by exact oq7.rd)).mono ?_; rintro e w7 ⟨rfl, br7⟩; have bs7 : Below w6.heap.size w6 w7 := (by exact ⟨br7.os, br7.tape, br7.output, br7.size, br7.block⟩); have b7 := b6.trans (bs7.mono b6.size)))
  clear HT7 hx7
  replace oy1 := oy1.below b7
  replace oy2 := oy2.below b7
  replace cX0 := (b7.cell (World.block_lt_of_cell? _ _ cX0)).trans cX0
  replace cX1 := (b7.cell (World.block_lt_of_cell? _ _ cX1)).trans cX1
  replace cy20 := (b7.cell (World.block_lt_of_cell? _ _ cy20)).trans cy20
  replace cy21 := (b7.cell (World.block_lt_of_cell? _ _ cy21)).trans cy21
  replace bt := bt.trans (b7.mono bt.size)
  have z7 := b7.size
  go_wp2_with fail
  go_ret
  exact ⟨rfl, bt⟩

end Go.Proofs.YtlmbaijkeahkfaaDoor
