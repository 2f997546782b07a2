/- The walk of the law FnExactPipeStep. -/
import Derived.Test.YtdfjopcfgpigoaaPipeStep
namespace Go.Proofs.Ytdfjopcfgpigoaa
open Go.RowKit
set_option linter.unusedVariables false
set_option linter.unusedSimpArgs false

set_option maxRecDepth 100000 in
set_option maxHeartbeats 4000000 in
theorem law_PipeStep (w : World) (nxx : Int) (_ : I64 nxx) (vxx : Value) (xx : List (List Int)) (hxx : Rd2 w vxx xx) (fxx : I64ss xx) (vxstate : Value) (xstate : List (List Int)) (hxstate : Rd2 w vxstate xstate) (fxstate : I64ss xstate) (vxin : Value) (xin : List Int) (hxin : Rd w vxin (ints xin)) (fxin : I64s xin) : Calls Try.prog 9 #[.agg #[.int .i64 nxx, vxx], vxstate, vxin] w (Law w) := by
  obtain ⟨axx, cxx, rfl, _, hcxx⟩ := hxx.form
  obtain ⟨axstate, cxstate, rfl, _, hcxstate⟩ := hxstate.form
  obtain ⟨axin, cxin, rfl, _, hcxin⟩ := hxin.formi
  have hbA : Below w.heap.size w (w.alloc (.cells #[.int .i64 nxx, .slice axx xx.length cxx] 29)) := (Below.refl _ _).alloc (Nat.le_refl _) _
  have HAx := Lib.hid (box_cells w (.int .i64 nxx) (.slice axx xx.length cxx) 29)
  by_cases lxin : xin.length ≤ 1048576
  case neg =>
    have hd : decide ((xin.length : Int) > 1048576) = true := by simp; omega
    go_enter Try.func9, Try.ntmps9
    go_wp2_with fail
    go_ret
    exact ⟨rfl, hbA⟩
  have dxin : decide ((xin.length : Int) > 1048576) = false := by simp; omega
  have hs1 := szSS_le xx 1048576
  obtain ⟨L1, hL1⟩ : ∃ z, szSS xx 1048576 = z := ⟨_, rfl⟩
  rw [hL1] at hs1
  have HL1 := Lib.hid hL1
  clear hL1
  by_cases pxx : L1 < 0
  case pos =>
    go_enter Try.func9, Try.ntmps9
    go_wp2_with fail
    refine (szNetwork_c nxx _ xx 1048576 _ (hxx.below hbA) (by omega) (by omega)).mono ?_
    rintro e w1z ⟨rfl, bz1⟩
    rw [HL1.out]
    replace bz1 := hbA.trans (bz1.mono hbA.size)
    go_wp2_with fail
    go_ret
    exact ⟨rfl, bz1⟩
  have lxx : SzOk xx := szSS_ok (left := 1048576) (by have := HL1.out; omega) (by omega)
  have txx := lxx.2
  have hs2 := szSS_le xstate L1
  obtain ⟨L2, hL2⟩ : ∃ z, szSS xstate L1 = z := ⟨_, rfl⟩
  rw [hL2] at hs2
  have HL2 := Lib.hid hL2
  clear hL2
  by_cases pxstate : L2 < 0
  case pos =>
    go_enter Try.func9, Try.ntmps9
    go_wp2_with fail
    refine (szNetwork_c nxx _ xx 1048576 _ (hxx.below hbA) (by omega) (by omega)).mono ?_
    rintro e w1z ⟨rfl, bz1⟩
    rw [HL1.out]
    have cX0 := (bz1.cell (by simp)).trans HAx.out.1
    have cX1 := (bz1.cell (by simp)).trans HAx.out.2
    replace bz1 := hbA.trans (bz1.mono hbA.size)
    have lX : w.heap.size < w1z.heap.size := World.block_lt_of_cell? _ _ cX0
    go_wp2_with fail
    refine (szIntSS_c _ xstate L1 _ (hxstate.below bz1) (by omega) (by omega)).mono ?_
    rintro e w' ⟨rfl, rfl⟩
    rw [HL2.out]
    go_wp2_with fail
    go_ret
    exact ⟨rfl, bz1⟩
  have lxstate : SzOk xstate := szSS_ok (left := L1) (by have := HL2.out; omega) (by omega)
  have txstate := lxstate.2
  obtain ⟨r0, r1, r2, Br0, Br1, HS, HI⟩ : ∃ (r0 : List (List Int)) (r1 : List Int) (r2 : Bool), SzOk r0 ∧ r1.length ≤ 2000000 ∧
      (∀ (W : World) (Vxx : Value) (Hxx : Rd2 W Vxx xx) (Vxstate : Value) (Hxstate : Rd2 W Vxstate xstate) (Vxin : Value) (Hxin : Rd W Vxin (ints xin)), Calls Try.prog 34 #[.agg #[.int .i64 nxx, Vxx], Vxstate, Vxin] W (RetOwn21B r0 r1 r2 W)) ∧
      (∀ (W : World) (Vxx : Value) (Hxx : Rd2 W Vxx xx) (Vxstate : Value) (Hxstate : Rd2 W Vxstate xstate) (Vxin : Value) (Hxin : Rd W Vxin (ints xin)), Calls Try.prog 36 #[.agg #[.int .i64 nxx, Vxx], Vxstate, Vxin] W (RetOwn21B r0 r1 r2 W)) :=
    ⟨_, _, _, N_PipeStep nxx xx lxx xstate lxstate xin lxin, N1_PipeStep nxx xx lxx xstate lxstate xin lxin, fun W Vxx Hxx Vxstate Hxstate Vxin Hxin => S_PipeStep W nxx (by assumption) Vxx xx Hxx fxx lxx Vxstate xstate Hxstate fxstate lxstate Vxin xin Hxin fxin lxin, fun W Vxx Hxx Vxstate Hxstate Vxin Hxin => I_PipeStep W nxx (by assumption) Vxx xx Hxx fxx lxx Vxstate xstate Hxstate fxstate lxstate Vxin xin Hxin fxin lxin⟩
  have tBr0 := Br0.2
  have GS := Lib.hid HS
  have GI := Lib.hid HI
  clear HS HI
  go_enter Try.func9, Try.ntmps9
  go_wp2_with fail
  refine (szNetwork_c nxx _ xx 1048576 _ (hxx.below hbA) (by omega) (by omega)).mono ?_
  rintro e w1z ⟨rfl, bz1⟩
  rw [HL1.out]
  have cX0 := (bz1.cell (by simp)).trans HAx.out.1
  have cX1 := (bz1.cell (by simp)).trans HAx.out.2
  replace bz1 := hbA.trans (bz1.mono hbA.size)
  have lX : w.heap.size < w1z.heap.size := World.block_lt_of_cell? _ _ cX0
  go_wp2_with fail
  refine (szIntSS_c _ xstate L1 _ (hxstate.below bz1) (by omega) (by omega)).mono ?_
  rintro e w' ⟨rfl, rfl⟩
  rw [HL2.out]
  have bt : Below w.heap.size w w1z := bz1
  have z0 := bt.size
  go_wp2_with fail
  refine (toNetwork_c nxx _ xx _ (hxx.below bt) lxx).mono ?_
  rintro e w1 ⟨vy1, rfl, oy1, b1⟩
  obtain ⟨ay1, cy1, rfl, _, _⟩ := oy1.form
  replace cX0 := (b1.cell (World.block_lt_of_cell? _ _ cX0)).trans cX0
  replace cX1 := (b1.cell (World.block_lt_of_cell? _ _ cX1)).trans cX1
  replace bt := bt.trans (b1.mono bt.size)
  have z1 := b1.size
  go_wp2_with fail
  refine (toIntSS_c _ xstate _ (hxstate.below bt) lxstate).mono ?_
  rintro e w2 ⟨vy2, rfl, oy2, b2⟩
  replace oy1 := oy1.below b2
  replace cX0 := (b2.cell (World.block_lt_of_cell? _ _ cX0)).trans cX0
  replace cX1 := (b2.cell (World.block_lt_of_cell? _ _ cX1)).trans cX1
  replace bt := bt.trans (b2.mono bt.size)
  have z2 := b2.size
  go_wp2_with fail
  refine (toIntS_c _ xin _ (hxin.below bt) (by omega)).mono ?_
  rintro e w3 ⟨vy3, rfl, oy3, b3⟩
  have ty3 : ∀ k, vy3.ownBlock = some k → k < w3.heap.size := fun k e => (oy3.lt k e).2
  replace oy1 := oy1.below b3
  replace oy2 := oy2.below b3
  replace cX0 := (b3.cell (World.block_lt_of_cell? _ _ cX0)).trans cX0
  replace cX1 := (b3.cell (World.block_lt_of_cell? _ _ cX1)).trans cX1
  replace bt := bt.trans (b3.mono bt.size)
  have z3 := b3.size
  go_wp2_with fail
  refine ((GS.out _ _ oy1.rd _ oy2.rd _ oy3.rd)).mono ?_
  rintro e w4 ⟨vg4, vg5, M4, rfl, og4, og5, mA4, mB4, b4⟩
  have tg5 : ∀ k, vg5.ownBlock = some k → k < w4.heap.size := fun k e => (og5.lt k e).2
  replace oy1 := oy1.below b4
  replace oy2 := oy2.below b4
  replace oy3 := oy3.below b4
  replace cX0 := (b4.cell (World.block_lt_of_cell? _ _ cX0)).trans cX0
  replace cX1 := (b4.cell (World.block_lt_of_cell? _ _ cX1)).trans cX1
  replace bt := bt.trans (b4.mono bt.size)
  have z4 := b4.size
  go_wp2_with fail
  refine (toNetwork_c nxx _ xx _ (hxx.below bt) lxx).mono ?_
  rintro e w5 ⟨vy6, rfl, oy6, b5⟩
  obtain ⟨ay6, cy6, rfl, _, _⟩ := oy6.form
  replace oy1 := oy1.below b5
  replace oy2 := oy2.below b5
  replace oy3 := oy3.below b5
  replace og4 := og4.below b5
  replace og5 := og5.below b5
  replace cX0 := (b5.cell (World.block_lt_of_cell? _ _ cX0)).trans cX0
  replace cX1 := (b5.cell (World.block_lt_of_cell? _ _ cX1)).trans cX1
  replace bt := bt.trans (b5.mono bt.size)
  have z5 := b5.size
  go_wp2_with fail
  obtain ⟨w6, b6, cy60, cy61, hw6⟩ := box_store w5 (.int .i64 nxx) (.slice ay6 xx.length cy6) 32
  rw [hw6]
  clear hw6
  replace oy1 := oy1.below b6
  replace oy2 := oy2.below b6
  replace oy3 := oy3.below b6
  replace og4 := og4.below b6
  replace og5 := og5.below b6
  replace oy6 := oy6.below b6
  replace cX0 := (b6.cell (World.block_lt_of_cell? _ _ cX0)).trans cX0
  replace cX1 := (b6.cell (World.block_lt_of_cell? _ _ cX1)).trans cX1
  replace bt := bt.trans (b6.mono bt.size)
  have z6 := b6.size
  have ly6 : w5.heap.size < w6.heap.size := World.block_lt_of_cell? _ _ cy60
  refine (toIntSS_c _ xstate _ (hxstate.below bt) lxstate).mono ?_
  rintro e w7 ⟨vy7, rfl, oy7, b7⟩
  replace oy1 := oy1.below b7
  replace oy2 := oy2.below b7
  replace oy3 := oy3.below b7
  replace og4 := og4.below b7
  replace og5 := og5.below b7
  replace oy6 := oy6.below b7
  replace cX0 := (b7.cell (World.block_lt_of_cell? _ _ cX0)).trans cX0
  replace cX1 := (b7.cell (World.block_lt_of_cell? _ _ cX1)).trans cX1
  replace cy60 := (b7.cell (World.block_lt_of_cell? _ _ cy60)).trans cy60
  replace cy61 := (b7.cell (World.block_lt_of_cell? _ _ cy61)).trans cy61
  replace bt := bt.trans (b7.mono bt.size)
  have z7 := b7.size
  go_wp2_with fail
  refine (toIntS_c _ xin _ (hxin.below bt) (by omega)).mono ?_
  rintro e w8 ⟨vy8, rfl, oy8, b8⟩
  have ty8 : ∀ k, vy8.ownBlock = some k → k < w8.heap.size := fun k e => (oy8.lt k e).2
  replace oy1 := oy1.below b8
  replace oy2 := oy2.below b8
  replace oy3 := oy3.below b8
  replace og4 := og4.below b8
  replace og5 := og5.below b8
  replace oy6 := oy6.below b8
  replace oy7 := oy7.below b8
  replace cX0 := (b8.cell (World.block_lt_of_cell? _ _ cX0)).trans cX0
  replace cX1 := (b8.cell (World.block_lt_of_cell? _ _ cX1)).trans cX1
  replace cy60 := (b8.cell (World.block_lt_of_cell? _ _ cy60)).trans cy60
  replace cy61 := (b8.cell (World.block_lt_of_cell? _ _ cy61)).trans cy61
  replace bt := bt.trans (b8.mono bt.size)
  have z8 := b8.size
  go_wp2_with fail
  refine ((GI.out _ _ oy6.rd _ oy7.rd _ oy8.rd)).mono ?_
  rintro e w9 ⟨vg9, vg10, M9, rfl, og9, og10, mA9, mB9, b9⟩
  have tg10 : ∀ k, vg10.ownBlock = some k → k < w9.heap.size := fun k e => (og10.lt k e).2
  replace oy1 := oy1.below b9
  replace oy2 := oy2.below b9
  replace oy3 := oy3.below b9
  replace og4 := og4.below b9
  replace og5 := og5.below b9
  replace oy6 := oy6.below b9
  replace oy7 := oy7.below b9
  replace oy8 := oy8.below b9
  replace cX0 := (b9.cell (World.block_lt_of_cell? _ _ cX0)).trans cX0
  replace cX1 := (b9.cell (World.block_lt_of_cell? _ _ cX1)).trans cX1
  replace cy60 := (b9.cell (World.block_lt_of_cell? _ _ cy60)).trans cy60
  replace cy61 := (b9.cell (World.block_lt_of_cell? _ _ cy61)).trans cy61
  replace bt := bt.trans (b9.mono bt.size)
  have z9 := b9.size
  go_wp2_with fail
  refine (eqIntSS_c _ _ r0 r0 _ og9.rd og4.rd).mono ?_
  rintro e w10 ⟨rfl, d10⟩
  have b10 := d10.below w9.heap.size
  rw [eqII_self]
  replace oy1 := oy1.below b10
  replace oy2 := oy2.below b10
  replace oy3 := oy3.below b10
  replace og4 := og4.below b10
  replace og5 := og5.below b10
  replace oy6 := oy6.below b10
  replace oy7 := oy7.below b10
  replace oy8 := oy8.below b10
  replace og9 := og9.below b10
  replace og10 := og10.below b10
  replace cX0 := (b10.cell (World.block_lt_of_cell? _ _ cX0)).trans cX0
  replace cX1 := (b10.cell (World.block_lt_of_cell? _ _ cX1)).trans cX1
  replace cy60 := (b10.cell (World.block_lt_of_cell? _ _ cy60)).trans cy60
  replace cy61 := (b10.cell (World.block_lt_of_cell? _ _ cy61)).trans cy61
  replace bt := bt.trans (b10.mono bt.size)
  have z10 := b10.size
  go_wp2_with fail
  refine (eqIntS_c _ _ r1 r1 _ og10.rd og5.rd).mono ?_
  rintro e w11 ⟨rfl, d11⟩
  have b11 := d11.below w10.heap.size
  rw [eqI_self]
  replace oy1 := oy1.below b11
  replace oy2 := oy2.below b11
  replace oy3 := oy3.below b11
  replace og4 := og4.below b11
  replace og5 := og5.below b11
  replace oy6 := oy6.below b11
  replace oy7 := oy7.below b11
  replace oy8 := oy8.below b11
  replace og9 := og9.below b11
  replace og10 := og10.below b11
  replace cX0 := (b11.cell (World.block_lt_of_cell? _ _ cX0)).trans cX0
  replace cX1 := (b11.cell (World.block_lt_of_cell? _ _ cX1)).trans cX1
  replace cy60 := (b11.cell (World.block_lt_of_cell? _ _ cy60)).trans cy60
  replace cy61 := (b11.cell (World.block_lt_of_cell? _ _ cy61)).trans cy61
  replace bt := bt.trans (b11.mono bt.size)
  have z11 := b11.size
  go_wp2_with fail
  have HT13 : Hid (∀ wx : World, Below w11.heap.size w11 wx → wx.cell? ⟨w.heap.size, 0, none⟩ = some (.int .i64 nxx) ∧ wx.cell? ⟨w.heap.size, 1, none⟩ = some (.slice axx xx.length cxx) ∧ wx.cell? ⟨w5.heap.size, 0, none⟩ = some (.int .i64 nxx) ∧ wx.cell? ⟨w5.heap.size, 1, none⟩ = some (.slice ay6 xx.length cy6)) := fun wx hb => ⟨(hb.cell (World.block_lt_of_cell? _ _ cX0)).trans cX0, (hb.cell (World.block_lt_of_cell? _ _ cX1)).trans cX1, (hb.cell (World.block_lt_of_cell? _ _ cy60)).trans cy60, (hb.cell (World.block_lt_of_cell? _ _ cy61)).trans cy61⟩
  have hx13 := hxx.below bt
  go_region_held3 (fun wx => wx.cell? ⟨w.heap.size, 0, none⟩ = some (.int .i64 nxx) ∧ wx.cell? ⟨w.heap.size, 1, none⟩ = some (.slice axx xx.length cxx) ∧ wx.cell? ⟨w5.heap.size, 0, none⟩ = some (.int .i64 nxx) ∧ wx.cell? ⟨w5.heap.size, 1, none⟩ = some (.slice ay6 xx.length cy6))
    (first | exact HT13.out _ b13 | exact HT13.out _ b12 | go_keep)
    (first
      | (go_at_call 20; refine (toNetwork_c nxx _ xx _ (by exact hx13) lxx).mono ?_; rintro e w12 ⟨vq13, rfl, oq13, bq13⟩; have b12 : Below w11.heap.size w11 w12 := (by exact ⟨bq13.os, bq13.tape, bq13.output, bq13.size, bq13.block⟩))
      | (go_at_call 22; refine (eqNet_t nxx _ _ xx _ (by exact oy6.rd.below b12) (by exact oq13.rd)).mono ?_; rintro e w13 ⟨rfl, br13⟩; have bs13 : Below w12.heap.size w12 w13 := (by exact ⟨br13.os, br13.tape, br13.output, br13.size, br13.block⟩); have b13 := b12.trans (bs13.mono b12.size)))
  clear HT13 hx13
  replace oy1 := oy1.below b13
  replace oy2 := oy2.below b13
  replace oy3 := oy3.below b13
  replace og4 := og4.below b13
  replace og5 := og5.below b13
  replace oy6 := oy6.below b13
  replace oy7 := oy7.below b13
  replace oy8 := oy8.below b13
  replace og9 := og9.below b13
  replace og10 := og10.below b13
  replace cX0 := (b13.cell (World.block_lt_of_cell? _ _ cX0)).trans cX0
  replace cX1 := (b13.cell (World.block_lt_of_cell? _ _ cX1)).trans cX1
  replace cy60 := (b13.cell (World.block_lt_of_cell? _ _ cy60)).trans cy60
  replace cy61 := (b13.cell (World.block_lt_of_cell? _ _ cy61)).trans cy61
  replace bt := bt.trans (b13.mono bt.size)
  have z13 := b13.size
  go_wp2_with fail
  refine (toIntSS_c _ xstate _ (hxstate.below bt) lxstate).mono ?_
  rintro e w14 ⟨vy11, rfl, oy11, b14⟩
  replace oy1 := oy1.below b14
  replace oy2 := oy2.below b14
  replace oy3 := oy3.below b14
  replace og4 := og4.below b14
  replace og5 := og5.below b14
  replace oy6 := oy6.below b14
  replace oy7 := oy7.below b14
  replace oy8 := oy8.below b14
  replace og9 := og9.below b14
  replace og10 := og10.below b14
  replace cX0 := (b14.cell (World.block_lt_of_cell? _ _ cX0)).trans cX0
  replace cX1 := (b14.cell (World.block_lt_of_cell? _ _ cX1)).trans cX1
  replace cy60 := (b14.cell (World.block_lt_of_cell? _ _ cy60)).trans cy60
  replace cy61 := (b14.cell (World.block_lt_of_cell? _ _ cy61)).trans cy61
  replace bt := bt.trans (b14.mono bt.size)
  have z14 := b14.size
  go_wp2_with fail
  refine (eqIntSS_c _ _ xstate xstate _ oy7.rd oy11.rd).mono ?_
  rintro e w15 ⟨rfl, d15⟩
  have b15 := d15.below w14.heap.size
  rw [eqII_self]
  replace oy1 := oy1.below b15
  replace oy2 := oy2.below b15
  replace oy3 := oy3.below b15
  replace og4 := og4.below b15
  replace og5 := og5.below b15
  replace oy6 := oy6.below b15
  replace oy7 := oy7.below b15
  replace oy8 := oy8.below b15
  replace og9 := og9.below b15
  replace og10 := og10.below b15
  replace oy11 := oy11.below b15
  replace cX0 := (b15.cell (World.block_lt_of_cell? _ _ cX0)).trans cX0
  replace cX1 := (b15.cell (World.block_lt_of_cell? _ _ cX1)).trans cX1
  replace cy60 := (b15.cell (World.block_lt_of_cell? _ _ cy60)).trans cy60
  replace cy61 := (b15.cell (World.block_lt_of_cell? _ _ cy61)).trans cy61
  replace bt := bt.trans (b15.mono bt.size)
  have z15 := b15.size
  go_wp2_with fail
  refine (toIntS_c _ xin _ (hxin.below bt) (by omega)).mono ?_
  rintro e w16 ⟨vy12, rfl, oy12, b16⟩
  have ty12 : ∀ k, vy12.ownBlock = some k → k < w16.heap.size := fun k e => (oy12.lt k e).2
  replace oy1 := oy1.below b16
  replace oy2 := oy2.below b16
  replace oy3 := oy3.below b16
  replace og4 := og4.below b16
  replace og5 := og5.below b16
  replace oy6 := oy6.below b16
  replace oy7 := oy7.below b16
  replace oy8 := oy8.below b16
  replace og9 := og9.below b16
  replace og10 := og10.below b16
  replace oy11 := oy11.below b16
  replace cX0 := (b16.cell (World.block_lt_of_cell? _ _ cX0)).trans cX0
  replace cX1 := (b16.cell (World.block_lt_of_cell? _ _ cX1)).trans cX1
  replace cy60 := (b16.cell (World.block_lt_of_cell? _ _ cy60)).trans cy60
  replace cy61 := (b16.cell (World.block_lt_of_cell? _ _ cy61)).trans cy61
  replace bt := bt.trans (b16.mono bt.size)
  have z16 := b16.size
  go_wp2_with fail
  refine (eqIntS_c _ _ xin xin _ oy8.rd oy12.rd).mono ?_
  rintro e w17 ⟨rfl, d17⟩
  have b17 := d17.below w16.heap.size
  rw [eqI_self]
  replace oy1 := oy1.below b17
  replace oy2 := oy2.below b17
  replace oy3 := oy3.below b17
  replace og4 := og4.below b17
  replace og5 := og5.below b17
  replace oy6 := oy6.below b17
  replace oy7 := oy7.below b17
  replace oy8 := oy8.below b17
  replace og9 := og9.below b17
  replace og10 := og10.below b17
  replace oy11 := oy11.below b17
  replace oy12 := oy12.below b17
  replace cX0 := (b17.cell (World.block_lt_of_cell? _ _ cX0)).trans cX0
  replace cX1 := (b17.cell (World.block_lt_of_cell? _ _ cX1)).trans cX1
  replace cy60 := (b17.cell (World.block_lt_of_cell? _ _ cy60)).trans cy60
  replace cy61 := (b17.cell (World.block_lt_of_cell? _ _ cy61)).trans cy61
  replace bt := bt.trans (b17.mono bt.size)
  have z17 := b17.size
  go_wp2_with fail
  refine (markNetwork_c nxx _ xx (1) _ _ _ oy6 (by assumption) (by omega) (by omega) (by omega)).mono ?_
  rintro e w18 ⟨rfl, my6, ch18⟩
  replace oy1 := oy1.chg ch18 (by omega)
  replace oy2 := oy2.chg ch18 (by omega)
  replace oy3 := oy3.chg ch18 (fun k e => by have h1 := (oy3.lt k e).1; have h2 := ty3 k e; omega)
  replace og4 := og4.chg ch18 (by omega)
  replace og5 := og5.chg ch18 (fun k e => by have h1 := (og5.lt k e).1; have h2 := tg5 k e; omega)
  replace oy7 := oy7.chg ch18 (by omega)
  replace oy8 := oy8.chg ch18 (fun k e => by have h1 := (oy8.lt k e).1; have h2 := ty8 k e; omega)
  replace og9 := og9.chg ch18 (by omega)
  replace og10 := og10.chg ch18 (fun k e => by have h1 := (og10.lt k e).1; have h2 := tg10 k e; omega)
  replace oy11 := oy11.chg ch18 (by omega)
  replace oy12 := oy12.chg ch18 (fun k e => by have h1 := (oy12.lt k e).1; have h2 := ty12 k e; omega)
  replace cX0 := (ch18.cell (World.block_lt_of_cell? _ _ cX0) (by first | exact .inl (by show w.heap.size < _; omega) | exact .inr (by first | exact Nat.le_refl _ | (show _ ≤ w.heap.size; omega)))).trans cX0
  replace cX1 := (ch18.cell (World.block_lt_of_cell? _ _ cX1) (by first | exact .inl (by show w.heap.size < _; omega) | exact .inr (by first | exact Nat.le_refl _ | (show _ ≤ w.heap.size; omega)))).trans cX1
  replace cy60 := (ch18.cell (World.block_lt_of_cell? _ _ cy60) (by first | exact .inl (by show w5.heap.size < _; omega) | exact .inr (by first | exact Nat.le_refl _ | (show _ ≤ w5.heap.size; omega)))).trans cy60
  replace cy61 := (ch18.cell (World.block_lt_of_cell? _ _ cy61) (by first | exact .inl (by show w5.heap.size < _; omega) | exact .inr (by first | exact Nat.le_refl _ | (show _ ≤ w5.heap.size; omega)))).trans cy61
  replace bt := below_chg bt ch18 (by omega) (Nat.le_refl _)
  have z18 := ch18.size
  go_wp2_with fail
  refine (markIntSS_c _ xstate (1 + (tot xx : Int)) _ _ _ oy7 (by assumption) (by omega) (by omega)).mono ?_
  rintro e w19 ⟨rfl, my7, ch19⟩
  replace oy1 := oy1.chg ch19 (by omega)
  replace oy2 := oy2.chg ch19 (by omega)
  replace oy3 := oy3.chg ch19 (fun k e => by have h1 := (oy3.lt k e).1; have h2 := ty3 k e; omega)
  replace og4 := og4.chg ch19 (by omega)
  replace og5 := og5.chg ch19 (fun k e => by have h1 := (og5.lt k e).1; have h2 := tg5 k e; omega)
  replace my6 := my6.chg ch19 (by omega)
  replace oy8 := oy8.chg ch19 (fun k e => by have h1 := (oy8.lt k e).1; have h2 := ty8 k e; omega)
  replace og9 := og9.chg ch19 (by omega)
  replace og10 := og10.chg ch19 (fun k e => by have h1 := (og10.lt k e).1; have h2 := tg10 k e; omega)
  replace oy11 := oy11.chg ch19 (by omega)
  replace oy12 := oy12.chg ch19 (fun k e => by have h1 := (oy12.lt k e).1; have h2 := ty12 k e; omega)
  replace cX0 := (ch19.cell (World.block_lt_of_cell? _ _ cX0) (by first | exact .inl (by show w.heap.size < _; omega) | exact .inr (by first | exact Nat.le_refl _ | (show _ ≤ w.heap.size; omega)))).trans cX0
  replace cX1 := (ch19.cell (World.block_lt_of_cell? _ _ cX1) (by first | exact .inl (by show w.heap.size < _; omega) | exact .inr (by first | exact Nat.le_refl _ | (show _ ≤ w.heap.size; omega)))).trans cX1
  replace cy60 := (ch19.cell (World.block_lt_of_cell? _ _ cy60) (by first | exact .inl (by show w5.heap.size < _; omega) | exact .inr (by first | exact Nat.le_refl _ | (show _ ≤ w5.heap.size; omega)))).trans cy60
  replace cy61 := (ch19.cell (World.block_lt_of_cell? _ _ cy61) (by first | exact .inl (by show w5.heap.size < _; omega) | exact .inr (by first | exact Nat.le_refl _ | (show _ ≤ w5.heap.size; omega)))).trans cy61
  replace bt := below_chg bt ch19 (by omega) (Nat.le_refl _)
  have z19 := ch19.size
  go_wp2_with fail
  refine (markIntS_c _ xin (1 + (tot xx : Int) + (tot xstate : Int)) _ _ oy8 (by omega) (by omega) (by omega)).mono ?_
  rintro e w20 ⟨rfl, my8, gr20⟩
  have ch20 : Chg (w7.heap.size) (w8.heap.size) w19 w20 := Chg.row gr20 (fun k e => ⟨(oy8.lt k e).1, ty8 k e⟩)
  replace oy1 := oy1.chg ch20 (by omega)
  replace oy2 := oy2.chg ch20 (by omega)
  replace oy3 := oy3.chg ch20 (fun k e => by have h1 := (oy3.lt k e).1; have h2 := ty3 k e; omega)
  replace og4 := og4.chg ch20 (by omega)
  replace og5 := og5.chg ch20 (fun k e => by have h1 := (og5.lt k e).1; have h2 := tg5 k e; omega)
  replace my6 := my6.chg ch20 (by omega)
  replace my7 := my7.chg ch20 (by omega)
  replace og9 := og9.chg ch20 (by omega)
  replace og10 := og10.chg ch20 (fun k e => by have h1 := (og10.lt k e).1; have h2 := tg10 k e; omega)
  replace oy11 := oy11.chg ch20 (by omega)
  replace oy12 := oy12.chg ch20 (fun k e => by have h1 := (oy12.lt k e).1; have h2 := ty12 k e; omega)
  replace cX0 := (ch20.cell (World.block_lt_of_cell? _ _ cX0) (by first | exact .inl (by show w.heap.size < _; omega) | exact .inr (by first | exact Nat.le_refl _ | (show _ ≤ w.heap.size; omega)))).trans cX0
  replace cX1 := (ch20.cell (World.block_lt_of_cell? _ _ cX1) (by first | exact .inl (by show w.heap.size < _; omega) | exact .inr (by first | exact Nat.le_refl _ | (show _ ≤ w.heap.size; omega)))).trans cX1
  replace cy60 := (ch20.cell (World.block_lt_of_cell? _ _ cy60) (by first | exact .inl (by show w5.heap.size < _; omega) | exact .inr (by first | exact Nat.le_refl _ | (show _ ≤ w5.heap.size; omega)))).trans cy60
  replace cy61 := (ch20.cell (World.block_lt_of_cell? _ _ cy61) (by first | exact .inl (by show w5.heap.size < _; omega) | exact .inr (by first | exact Nat.le_refl _ | (show _ ≤ w5.heap.size; omega)))).trans cy61
  replace bt := below_chg bt ch20 (by omega) (Nat.le_refl _)
  have z20 := ch20.size
  go_wp2_with fail
  refine (eqIntSS_c _ _ r0 r0 _ og9.rd og4.rd).mono ?_
  rintro e w21 ⟨rfl, d21⟩
  have b21 := d21.below w20.heap.size
  rw [eqII_self]
  replace oy1 := oy1.below b21
  replace oy2 := oy2.below b21
  replace oy3 := oy3.below b21
  replace og4 := og4.below b21
  replace og5 := og5.below b21
  replace my6 := my6.below b21
  replace my7 := my7.below b21
  replace my8 := my8.below b21
  replace og9 := og9.below b21
  replace og10 := og10.below b21
  replace oy11 := oy11.below b21
  replace oy12 := oy12.below b21
  replace cX0 := (b21.cell (World.block_lt_of_cell? _ _ cX0)).trans cX0
  replace cX1 := (b21.cell (World.block_lt_of_cell? _ _ cX1)).trans cX1
  replace cy60 := (b21.cell (World.block_lt_of_cell? _ _ cy60)).trans cy60
  replace cy61 := (b21.cell (World.block_lt_of_cell? _ _ cy61)).trans cy61
  replace bt := bt.trans (b21.mono bt.size)
  have z21 := b21.size
  go_wp2_with fail
  refine (eqIntS_c _ _ r1 r1 _ og10.rd og5.rd).mono ?_
  rintro e w22 ⟨rfl, d22⟩
  have b22 := d22.below w21.heap.size
  rw [eqI_self]
  replace oy1 := oy1.below b22
  replace oy2 := oy2.below b22
  replace oy3 := oy3.below b22
  replace og4 := og4.below b22
  replace og5 := og5.below b22
  replace my6 := my6.below b22
  replace my7 := my7.below b22
  replace my8 := my8.below b22
  replace og9 := og9.below b22
  replace og10 := og10.below b22
  replace oy11 := oy11.below b22
  replace oy12 := oy12.below b22
  replace cX0 := (b22.cell (World.block_lt_of_cell? _ _ cX0)).trans cX0
  replace cX1 := (b22.cell (World.block_lt_of_cell? _ _ cX1)).trans cX1
  replace cy60 := (b22.cell (World.block_lt_of_cell? _ _ cy60)).trans cy60
  replace cy61 := (b22.cell (World.block_lt_of_cell? _ _ cy61)).trans cy61
  replace bt := bt.trans (b22.mono bt.size)
  have z22 := b22.size
  go_wp2_with fail
  refine (markIntSS_c _ r0 (1) _ _ _ og9 (by assumption) (by omega) (by omega)).mono ?_
  rintro e w23 ⟨rfl, mg9, ch23⟩
  replace oy1 := oy1.chg ch23 (by omega)
  replace oy2 := oy2.chg ch23 (by omega)
  replace oy3 := oy3.chg ch23 (fun k e => by have h1 := (oy3.lt k e).1; have h2 := ty3 k e; omega)
  replace og4 := og4.chg ch23 (by omega)
  replace og5 := og5.chg ch23 (fun k e => by have h1 := (og5.lt k e).1; have h2 := tg5 k e; omega)
  replace my6 := my6.chg ch23 (by omega)
  replace my7 := my7.chg ch23 (by omega)
  replace my8 := my8.chg ch23 (fun k e => by have h1 := (my8.lt k e).1; have h2 := ty8 k e; omega)
  replace og10 := og10.chg ch23 (fun k e => by have h1 := (og10.lt k e).1; have h2 := tg10 k e; omega)
  replace oy11 := oy11.chg ch23 (by omega)
  replace oy12 := oy12.chg ch23 (fun k e => by have h1 := (oy12.lt k e).1; have h2 := ty12 k e; omega)
  replace cX0 := (ch23.cell (World.block_lt_of_cell? _ _ cX0) (by first | exact .inl (by show w.heap.size < _; omega) | exact .inr (by first | exact Nat.le_refl _ | (show _ ≤ w.heap.size; omega)))).trans cX0
  replace cX1 := (ch23.cell (World.block_lt_of_cell? _ _ cX1) (by first | exact .inl (by show w.heap.size < _; omega) | exact .inr (by first | exact Nat.le_refl _ | (show _ ≤ w.heap.size; omega)))).trans cX1
  replace cy60 := (ch23.cell (World.block_lt_of_cell? _ _ cy60) (by first | exact .inl (by show w5.heap.size < _; omega) | exact .inr (by first | exact Nat.le_refl _ | (show _ ≤ w5.heap.size; omega)))).trans cy60
  replace cy61 := (ch23.cell (World.block_lt_of_cell? _ _ cy61) (by first | exact .inl (by show w5.heap.size < _; omega) | exact .inr (by first | exact Nat.le_refl _ | (show _ ≤ w5.heap.size; omega)))).trans cy61
  replace bt := below_chg bt ch23 (by omega) (Nat.le_refl _)
  have z23 := ch23.size
  go_wp2_with fail
  refine (markIntS_c _ r1 (1 + (tot r0 : Int)) _ _ og10 (by omega) (by omega) (by omega)).mono ?_
  rintro e w24 ⟨rfl, mg10, gr24⟩
  have ch24 : Chg (M9) (w9.heap.size) w23 w24 := Chg.row gr24 (fun k e => ⟨(og10.lt k e).1, tg10 k e⟩)
  replace oy1 := oy1.chg ch24 (by omega)
  replace oy2 := oy2.chg ch24 (by omega)
  replace oy3 := oy3.chg ch24 (fun k e => by have h1 := (oy3.lt k e).1; have h2 := ty3 k e; omega)
  replace og4 := og4.chg ch24 (by omega)
  replace og5 := og5.chg ch24 (fun k e => by have h1 := (og5.lt k e).1; have h2 := tg5 k e; omega)
  replace my6 := my6.chg ch24 (by omega)
  replace my7 := my7.chg ch24 (by omega)
  replace my8 := my8.chg ch24 (fun k e => by have h1 := (my8.lt k e).1; have h2 := ty8 k e; omega)
  replace mg9 := mg9.chg ch24 (by omega)
  replace oy11 := oy11.chg ch24 (by omega)
  replace oy12 := oy12.chg ch24 (fun k e => by have h1 := (oy12.lt k e).1; have h2 := ty12 k e; omega)
  replace cX0 := (ch24.cell (World.block_lt_of_cell? _ _ cX0) (by first | exact .inl (by show w.heap.size < _; omega) | exact .inr (by first | exact Nat.le_refl _ | (show _ ≤ w.heap.size; omega)))).trans cX0
  replace cX1 := (ch24.cell (World.block_lt_of_cell? _ _ cX1) (by first | exact .inl (by show w.heap.size < _; omega) | exact .inr (by first | exact Nat.le_refl _ | (show _ ≤ w.heap.size; omega)))).trans cX1
  replace cy60 := (ch24.cell (World.block_lt_of_cell? _ _ cy60) (by first | exact .inl (by show w5.heap.size < _; omega) | exact .inr (by first | exact Nat.le_refl _ | (show _ ≤ w5.heap.size; omega)))).trans cy60
  replace cy61 := (ch24.cell (World.block_lt_of_cell? _ _ cy61) (by first | exact .inl (by show w5.heap.size < _; omega) | exact .inr (by first | exact Nat.le_refl _ | (show _ ≤ w5.heap.size; omega)))).trans cy61
  replace bt := below_chg bt ch24 (by omega) (Nat.le_refl _)
  have z24 := ch24.size
  go_wp2_with fail
  refine (heldIntSS_c _ r0 (1) _ mg9.rd (by assumption) (by omega) (by omega)).mono ?_
  rintro e w' ⟨rfl, rfl⟩
  go_wp2_with fail
  refine (heldIntS_c _ r1.length (1 + (tot r0 : Int)) _ mg10.rd (by omega) (by omega) (by omega)).mono ?_
  rintro e w' ⟨rfl, rfl⟩
  go_wp2_with fail
  refine (toNetwork_c nxx _ xx _ (hxx.below bt) lxx).mono ?_
  rintro e w25 ⟨vy13, rfl, oy13, b25⟩
  obtain ⟨ay13, cy13, rfl, _, _⟩ := oy13.form
  replace oy1 := oy1.below b25
  replace oy2 := oy2.below b25
  replace oy3 := oy3.below b25
  replace og4 := og4.below b25
  replace og5 := og5.below b25
  replace my6 := my6.below b25
  replace my7 := my7.below b25
  replace my8 := my8.below b25
  replace mg9 := mg9.below b25
  replace mg10 := mg10.below b25
  replace oy11 := oy11.below b25
  replace oy12 := oy12.below b25
  replace cX0 := (b25.cell (World.block_lt_of_cell? _ _ cX0)).trans cX0
  replace cX1 := (b25.cell (World.block_lt_of_cell? _ _ cX1)).trans cX1
  replace cy60 := (b25.cell (World.block_lt_of_cell? _ _ cy60)).trans cy60
  replace cy61 := (b25.cell (World.block_lt_of_cell? _ _ cy61)).trans cy61
  replace bt := bt.trans (b25.mono bt.size)
  have z25 := b25.size
  go_wp2_with fail
  refine (toIntSS_c _ xstate _ (hxstate.below bt) lxstate).mono ?_
  rintro e w26 ⟨vy14, rfl, oy14, b26⟩
  replace oy1 := oy1.below b26
  replace oy2 := oy2.below b26
  replace oy3 := oy3.below b26
  replace og4 := og4.below b26
  replace og5 := og5.below b26
  replace my6 := my6.below b26
  replace my7 := my7.below b26
  replace my8 := my8.below b26
  replace mg9 := mg9.below b26
  replace mg10 := mg10.below b26
  replace oy11 := oy11.below b26
  replace oy12 := oy12.below b26
  replace oy13 := oy13.below b26
  replace cX0 := (b26.cell (World.block_lt_of_cell? _ _ cX0)).trans cX0
  replace cX1 := (b26.cell (World.block_lt_of_cell? _ _ cX1)).trans cX1
  replace cy60 := (b26.cell (World.block_lt_of_cell? _ _ cy60)).trans cy60
  replace cy61 := (b26.cell (World.block_lt_of_cell? _ _ cy61)).trans cy61
  replace bt := bt.trans (b26.mono bt.size)
  have z26 := b26.size
  go_wp2_with fail
  refine (toIntS_c _ xin _ (hxin.below bt) (by omega)).mono ?_
  rintro e w27 ⟨vy15, rfl, oy15, b27⟩
  replace oy1 := oy1.below b27
  replace oy2 := oy2.below b27
  replace oy3 := oy3.below b27
  replace og4 := og4.below b27
  replace og5 := og5.below b27
  replace my6 := my6.below b27
  replace my7 := my7.below b27
  replace my8 := my8.below b27
  replace mg9 := mg9.below b27
  replace mg10 := mg10.below b27
  replace oy11 := oy11.below b27
  replace oy12 := oy12.below b27
  replace oy13 := oy13.below b27
  replace oy14 := oy14.below b27
  replace cX0 := (b27.cell (World.block_lt_of_cell? _ _ cX0)).trans cX0
  replace cX1 := (b27.cell (World.block_lt_of_cell? _ _ cX1)).trans cX1
  replace cy60 := (b27.cell (World.block_lt_of_cell? _ _ cy60)).trans cy60
  replace cy61 := (b27.cell (World.block_lt_of_cell? _ _ cy61)).trans cy61
  replace bt := bt.trans (b27.mono bt.size)
  have z27 := b27.size
  go_wp2_with fail
  refine ((GI.out _ _ oy13.rd _ oy14.rd _ oy15.rd)).mono ?_
  rintro e w28 ⟨vg16, vg17, M28, rfl, og16, og17, mA28, mB28, b28⟩
  replace oy1 := oy1.below b28
  replace oy2 := oy2.below b28
  replace oy3 := oy3.below b28
  replace og4 := og4.below b28
  replace og5 := og5.below b28
  replace my6 := my6.below b28
  replace my7 := my7.below b28
  replace my8 := my8.below b28
  replace mg9 := mg9.below b28
  replace mg10 := mg10.below b28
  replace oy11 := oy11.below b28
  replace oy12 := oy12.below b28
  replace oy13 := oy13.below b28
  replace oy14 := oy14.below b28
  replace oy15 := oy15.below b28
  replace cX0 := (b28.cell (World.block_lt_of_cell? _ _ cX0)).trans cX0
  replace cX1 := (b28.cell (World.block_lt_of_cell? _ _ cX1)).trans cX1
  replace cy60 := (b28.cell (World.block_lt_of_cell? _ _ cy60)).trans cy60
  replace cy61 := (b28.cell (World.block_lt_of_cell? _ _ cy61)).trans cy61
  replace bt := bt.trans (b28.mono bt.size)
  have z28 := b28.size
  go_wp2_with fail
  refine (eqIntSS_c _ _ r0 r0 _ og16.rd og4.rd).mono ?_
  rintro e w29 ⟨rfl, d29⟩
  have b29 := d29.below w28.heap.size
  rw [eqII_self]
  replace oy1 := oy1.below b29
  replace oy2 := oy2.below b29
  replace oy3 := oy3.below b29
  replace og4 := og4.below b29
  replace og5 := og5.below b29
  replace my6 := my6.below b29
  replace my7 := my7.below b29
  replace my8 := my8.below b29
  replace mg9 := mg9.below b29
  replace mg10 := mg10.below b29
  replace oy11 := oy11.below b29
  replace oy12 := oy12.below b29
  replace oy13 := oy13.below b29
  replace oy14 := oy14.below b29
  replace oy15 := oy15.below b29
  replace og16 := og16.below b29
  replace og17 := og17.below b29
  replace cX0 := (b29.cell (World.block_lt_of_cell? _ _ cX0)).trans cX0
  replace cX1 := (b29.cell (World.block_lt_of_cell? _ _ cX1)).trans cX1
  replace cy60 := (b29.cell (World.block_lt_of_cell? _ _ cy60)).trans cy60
  replace cy61 := (b29.cell (World.block_lt_of_cell? _ _ cy61)).trans cy61
  replace bt := bt.trans (b29.mono bt.size)
  have z29 := b29.size
  go_wp2_with fail
  refine (eqIntS_c _ _ r1 r1 _ og17.rd og5.rd).mono ?_
  rintro e w30 ⟨rfl, d30⟩
  have b30 := d30.below w29.heap.size
  rw [eqI_self]
  replace oy1 := oy1.below b30
  replace oy2 := oy2.below b30
  replace oy3 := oy3.below b30
  replace og4 := og4.below b30
  replace og5 := og5.below b30
  replace my6 := my6.below b30
  replace my7 := my7.below b30
  replace my8 := my8.below b30
  replace mg9 := mg9.below b30
  replace mg10 := mg10.below b30
  replace oy11 := oy11.below b30
  replace oy12 := oy12.below b30
  replace oy13 := oy13.below b30
  replace oy14 := oy14.below b30
  replace oy15 := oy15.below b30
  replace og16 := og16.below b30
  replace og17 := og17.below b30
  replace cX0 := (b30.cell (World.block_lt_of_cell? _ _ cX0)).trans cX0
  replace cX1 := (b30.cell (World.block_lt_of_cell? _ _ cX1)).trans cX1
  replace cy60 := (b30.cell (World.block_lt_of_cell? _ _ cy60)).trans cy60
  replace cy61 := (b30.cell (World.block_lt_of_cell? _ _ cy61)).trans cy61
  replace bt := bt.trans (b30.mono bt.size)
  have z30 := b30.size
  go_wp2_with fail
  refine (heldIntSS_c _ r0 (1) _ mg9.rd (by assumption) (by omega) (by omega)).mono ?_
  rintro e w' ⟨rfl, rfl⟩
  go_wp2_with fail
  refine (heldIntS_c _ r1.length (1 + (tot r0 : Int)) _ mg10.rd (by omega) (by omega) (by omega)).mono ?_
  rintro e w' ⟨rfl, rfl⟩
  go_wp2_with fail
  go_ret
  exact ⟨rfl, bt⟩

end Go.Proofs.Ytdfjopcfgpigoaa
