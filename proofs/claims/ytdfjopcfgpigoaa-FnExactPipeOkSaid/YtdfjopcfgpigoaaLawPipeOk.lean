/- The walk of the law FnExactPipeOk. -/
import Derived.Test.YtdfjopcfgpigoaaPipeOk
namespace Go.Proofs.Ytdfjopcfgpigoaa
open Go.RowKit
set_option linter.unusedVariables false
set_option linter.unusedSimpArgs false

set_option maxRecDepth 100000 in
set_option maxHeartbeats 4000000 in
theorem law_PipeOk (w : World) (nxx : Int) (_ : I64 nxx) (vxx : Value) (xx : List (List Int)) (hxx : Rd2 w vxx xx) (fxx : I64ss xx) (vxstate : Value) (xstate : List (List Int)) (hxstate : Rd2 w vxstate xstate) (fxstate : I64ss xstate) : Calls Try.prog 6 #[.agg #[.int .i64 nxx, vxx], vxstate] w (Law w) := by
  obtain ⟨axx, cxx, rfl, _, hcxx⟩ := hxx.form
  obtain ⟨axstate, cxstate, rfl, _, hcxstate⟩ := hxstate.form
  have hbA : Below w.heap.size w (w.alloc (.cells #[.int .i64 nxx, .slice axx xx.length cxx] 29)) := (Below.refl _ _).alloc (Nat.le_refl _) _
  have HAx := Lib.hid (box_cells w (.int .i64 nxx) (.slice axx xx.length cxx) 29)
  have hs1 := szSS_le xx 1048576
  obtain ⟨L1, hL1⟩ : ∃ z, szSS xx 1048576 = z := ⟨_, rfl⟩
  rw [hL1] at hs1
  have HL1 := Lib.hid hL1
  clear hL1
  by_cases pxx : L1 < 0
  case pos =>
    go_enter Try.func6, Try.ntmps6
    go_wp2_with fail
    refine (szNetwork_c nxx _ xx 1048576 _ (hxx.below hbA) (by omega) (by omega)).mono ?_
    rintro e w1z ⟨rfl, bz1⟩
    rw [HL1.out]
    replace bz1 := hbA.trans (bz1.mono hbA.size)
    go_wp2_with fail
    go_ret
    exact ⟨rfl, bz1⟩
  have lxx : SzOk xx := szSS_ok (left := 1048576) (by have := HL1.out; omega) (by omega)
  have txx := lxx.2
  have hs2 := szSS_le xstate L1
  obtain ⟨L2, hL2⟩ : ∃ z, szSS xstate L1 = z := ⟨_, rfl⟩
  rw [hL2] at hs2
  have HL2 := Lib.hid hL2
  clear hL2
  by_cases pxstate : L2 < 0
  case pos =>
    go_enter Try.func6, Try.ntmps6
    go_wp2_with fail
    refine (szNetwork_c nxx _ xx 1048576 _ (hxx.below hbA) (by omega) (by omega)).mono ?_
    rintro e w1z ⟨rfl, bz1⟩
    rw [HL1.out]
    have cX0 := (bz1.cell (by simp)).trans HAx.out.1
    have cX1 := (bz1.cell (by simp)).trans HAx.out.2
    replace bz1 := hbA.trans (bz1.mono hbA.size)
    have lX : w.heap.size < w1z.heap.size := World.block_lt_of_cell? _ _ cX0
    go_wp2_with fail
    refine (szIntSS_c _ xstate L1 _ (hxstate.below bz1) (by omega) (by omega)).mono ?_
    rintro e w' ⟨rfl, rfl⟩
    rw [HL2.out]
    go_wp2_with fail
    go_ret
    exact ⟨rfl, bz1⟩
  have lxstate : SzOk xstate := szSS_ok (left := L1) (by have := HL2.out; omega) (by omega)
  have txstate := lxstate.2
  obtain ⟨r0, HS, HI⟩ : ∃ (r0 : Bool), 
      (∀ (W : World) (Vxx : Value) (Hxx : Rd2 W Vxx xx) (Vxstate : Value) (Hxstate : Rd2 W Vxstate xstate), Calls Try.prog 25 #[.agg #[.int .i64 nxx, Vxx], Vxstate] W (RetB (.bool r0) W)) ∧
      (∀ (W : World) (Vxx : Value) (Hxx : Rd2 W Vxx xx) (Vxstate : Value) (Hxstate : Rd2 W Vxstate xstate), Calls Try.prog 26 #[.agg #[.int .i64 nxx, Vxx], Vxstate] W (RetB (.bool r0) W)) :=
    ⟨_, fun W Vxx Hxx Vxstate Hxstate => S_PipeOk W nxx (by assumption) Vxx xx Hxx fxx lxx Vxstate xstate Hxstate fxstate lxstate, fun W Vxx Hxx Vxstate Hxstate => I_PipeOk W nxx (by assumption) Vxx xx Hxx fxx lxx Vxstate xstate Hxstate fxstate lxstate⟩
  have GS := Lib.hid HS
  have GI := Lib.hid HI
  clear HS HI
  go_enter Try.func6, Try.ntmps6
  go_wp2_with fail
  refine (szNetwork_c nxx _ xx 1048576 _ (hxx.below hbA) (by omega) (by omega)).mono ?_
  rintro e w1z ⟨rfl, bz1⟩
  rw [HL1.out]
  have cX0 := (bz1.cell (by simp)).trans HAx.out.1
  have cX1 := (bz1.cell (by simp)).trans HAx.out.2
  replace bz1 := hbA.trans (bz1.mono hbA.size)
  have lX : w.heap.size < w1z.heap.size := World.block_lt_of_cell? _ _ cX0
  go_wp2_with fail
  refine (szIntSS_c _ xstate L1 _ (hxstate.below bz1) (by omega) (by omega)).mono ?_
  rintro e w' ⟨rfl, rfl⟩
  rw [HL2.out]
  have bt : Below w.heap.size w w1z := bz1
  have z0 := bt.size
  go_wp2_with fail
  refine (toNetwork_c nxx _ xx _ (hxx.below bt) lxx).mono ?_
  rintro e w1 ⟨vy1, rfl, oy1, b1⟩
  obtain ⟨ay1, cy1, rfl, _, _⟩ := oy1.form
  replace cX0 := (b1.cell (World.block_lt_of_cell? _ _ cX0)).trans cX0
  replace cX1 := (b1.cell (World.block_lt_of_cell? _ _ cX1)).trans cX1
  replace bt := bt.trans (b1.mono bt.size)
  have z1 := b1.size
  go_wp2_with fail
  refine (toIntSS_c _ xstate _ (hxstate.below bt) lxstate).mono ?_
  rintro e w2 ⟨vy2, rfl, oy2, b2⟩
  replace oy1 := oy1.below b2
  replace cX0 := (b2.cell (World.block_lt_of_cell? _ _ cX0)).trans cX0
  replace cX1 := (b2.cell (World.block_lt_of_cell? _ _ cX1)).trans cX1
  replace bt := bt.trans (b2.mono bt.size)
  have z2 := b2.size
  go_wp2_with fail
  refine ((GS.out _ _ oy1.rd _ oy2.rd)).mono ?_
  rintro e w3 ⟨rfl, b3⟩
  replace oy1 := oy1.below b3
  replace oy2 := oy2.below b3
  replace cX0 := (b3.cell (World.block_lt_of_cell? _ _ cX0)).trans cX0
  replace cX1 := (b3.cell (World.block_lt_of_cell? _ _ cX1)).trans cX1
  replace bt := bt.trans (b3.mono bt.size)
  have z3 := b3.size
  go_wp2_with fail
  refine (toNetwork_c nxx _ xx _ (hxx.below bt) lxx).mono ?_
  rintro e w4 ⟨vy3, rfl, oy3, b4⟩
  obtain ⟨ay3, cy3, rfl, _, _⟩ := oy3.form
  replace oy1 := oy1.below b4
  replace oy2 := oy2.below b4
  replace cX0 := (b4.cell (World.block_lt_of_cell? _ _ cX0)).trans cX0
  replace cX1 := (b4.cell (World.block_lt_of_cell? _ _ cX1)).trans cX1
  replace bt := bt.trans (b4.mono bt.size)
  have z4 := b4.size
  go_wp2_with fail
  obtain ⟨w5, b5, cy30, cy31, hw5⟩ := box_store w4 (.int .i64 nxx) (.slice ay3 xx.length cy3) 32
  rw [hw5]
  clear hw5
  replace oy1 := oy1.below b5
  replace oy2 := oy2.below b5
  replace oy3 := oy3.below b5
  replace cX0 := (b5.cell (World.block_lt_of_cell? _ _ cX0)).trans cX0
  replace cX1 := (b5.cell (World.block_lt_of_cell? _ _ cX1)).trans cX1
  replace bt := bt.trans (b5.mono bt.size)
  have z5 := b5.size
  have ly3 : w4.heap.size < w5.heap.size := World.block_lt_of_cell? _ _ cy30
  refine (toIntSS_c _ xstate _ (hxstate.below bt) lxstate).mono ?_
  rintro e w6 ⟨vy4, rfl, oy4, b6⟩
  replace oy1 := oy1.below b6
  replace oy2 := oy2.below b6
  replace oy3 := oy3.below b6
  replace cX0 := (b6.cell (World.block_lt_of_cell? _ _ cX0)).trans cX0
  replace cX1 := (b6.cell (World.block_lt_of_cell? _ _ cX1)).trans cX1
  replace cy30 := (b6.cell (World.block_lt_of_cell? _ _ cy30)).trans cy30
  replace cy31 := (b6.cell (World.block_lt_of_cell? _ _ cy31)).trans cy31
  replace bt := bt.trans (b6.mono bt.size)
  have z6 := b6.size
  go_wp2_with fail
  refine ((GI.out _ _ oy3.rd _ oy4.rd)).mono ?_
  rintro e w7 ⟨rfl, b7⟩
  replace oy1 := oy1.below b7
  replace oy2 := oy2.below b7
  replace oy3 := oy3.below b7
  replace oy4 := oy4.below b7
  replace cX0 := (b7.cell (World.block_lt_of_cell? _ _ cX0)).trans cX0
  replace cX1 := (b7.cell (World.block_lt_of_cell? _ _ cX1)).trans cX1
  replace cy30 := (b7.cell (World.block_lt_of_cell? _ _ cy30)).trans cy30
  replace cy31 := (b7.cell (World.block_lt_of_cell? _ _ cy31)).trans cy31
  replace bt := bt.trans (b7.mono bt.size)
  have z7 := b7.size
  go_wp2_with fail
  have HT9 : Hid (∀ wx : World, Below w7.heap.size w7 wx → wx.cell? ⟨w.heap.size, 0, none⟩ = some (.int .i64 nxx) ∧ wx.cell? ⟨w.heap.size, 1, none⟩ = some (.slice axx xx.length cxx) ∧ wx.cell? ⟨w4.heap.size, 0, none⟩ = some (.int .i64 nxx) ∧ wx.cell? ⟨w4.heap.size, 1, none⟩ = some (.slice ay3 xx.length cy3)) := fun wx hb => ⟨(hb.cell (World.block_lt_of_cell? _ _ cX0)).trans cX0, (hb.cell (World.block_lt_of_cell? _ _ cX1)).trans cX1, (hb.cell (World.block_lt_of_cell? _ _ cy30)).trans cy30, (hb.cell (World.block_lt_of_cell? _ _ cy31)).trans cy31⟩
  have hx9 := hxx.below bt
  go_region_held3 (fun wx => wx.cell? ⟨w.heap.size, 0, none⟩ = some (.int .i64 nxx) ∧ wx.cell? ⟨w.heap.size, 1, none⟩ = some (.slice axx xx.length cxx) ∧ wx.cell? ⟨w4.heap.size, 0, none⟩ = some (.int .i64 nxx) ∧ wx.cell? ⟨w4.heap.size, 1, none⟩ = some (.slice ay3 xx.length cy3))
    (first | exact HT9.out _ b9 | exact HT9.out _ b8 | go_keep)
    (first
      | (go_at_call 20; refine (toNetwork_c nxx _ xx _ (by exact hx9) lxx).mono ?_; rintro e w8 ⟨vq9, rfl, oq9, bq9⟩; have b8 : Below w7.heap.size w7 w8 := (by exact ⟨bq9.os, bq9.tape, bq9.output, bq9.size, bq9.block⟩))
      | (go_at_call 22; refine (eqNet_t nxx _ _ xx _ (by exact oy3.rd.below b8) (by exact oq9.rd)).mono ?_; rintro e w9 ⟨rfl, br9⟩; have bs9 : Below w8.heap.size w8 w9 := (by exact ⟨br9.os, br9.tape, br9.output, br9.size, br9.block⟩); have b9 := b8.trans (bs9.mono b8.size)))
  clear HT9 hx9
  replace oy1 := oy1.below b9
  replace oy2 := oy2.below b9
  replace oy3 := oy3.below b9
  replace oy4 := oy4.below b9
  replace cX0 := (b9.cell (World.block_lt_of_cell? _ _ cX0)).trans cX0
  replace cX1 := (b9.cell (World.block_lt_of_cell? _ _ cX1)).trans cX1
  replace cy30 := (b9.cell (World.block_lt_of_cell? _ _ cy30)).trans cy30
  replace cy31 := (b9.cell (World.block_lt_of_cell? _ _ cy31)).trans cy31
  replace bt := bt.trans (b9.mono bt.size)
  have z9 := b9.size
  go_wp2_with fail
  refine (toIntSS_c _ xstate _ (hxstate.below bt) lxstate).mono ?_
  rintro e w10 ⟨vy5, rfl, oy5, b10⟩
  replace oy1 := oy1.below b10
  replace oy2 := oy2.below b10
  replace oy3 := oy3.below b10
  replace oy4 := oy4.below b10
  replace cX0 := (b10.cell (World.block_lt_of_cell? _ _ cX0)).trans cX0
  replace cX1 := (b10.cell (World.block_lt_of_cell? _ _ cX1)).trans cX1
  replace cy30 := (b10.cell (World.block_lt_of_cell? _ _ cy30)).trans cy30
  replace cy31 := (b10.cell (World.block_lt_of_cell? _ _ cy31)).trans cy31
  replace bt := bt.trans (b10.mono bt.size)
  have z10 := b10.size
  go_wp2_with fail
  refine (eqIntSS_c _ _ xstate xstate _ oy4.rd oy5.rd).mono ?_
  rintro e w11 ⟨rfl, d11⟩
  have b11 := d11.below w10.heap.size
  rw [eqII_self]
  replace oy1 := oy1.below b11
  replace oy2 := oy2.below b11
  replace oy3 := oy3.below b11
  replace oy4 := oy4.below b11
  replace oy5 := oy5.below b11
  replace cX0 := (b11.cell (World.block_lt_of_cell? _ _ cX0)).trans cX0
  replace cX1 := (b11.cell (World.block_lt_of_cell? _ _ cX1)).trans cX1
  replace cy30 := (b11.cell (World.block_lt_of_cell? _ _ cy30)).trans cy30
  replace cy31 := (b11.cell (World.block_lt_of_cell? _ _ cy31)).trans cy31
  replace bt := bt.trans (b11.mono bt.size)
  have z11 := b11.size
  go_wp2_with fail
  go_ret
  exact ⟨rfl, bt⟩

end Go.Proofs.Ytdfjopcfgpigoaa
