/- The walk of the law FnExactRunPipe. -/
import Derived.Test.YtdfjopcfgpigoaaRunPipe2
namespace Go.Proofs.Ytdfjopcfgpigoaa
open Go.RowKit
set_option linter.unusedVariables false
set_option linter.unusedSimpArgs false

set_option maxRecDepth 100000 in
set_option maxHeartbeats 4000000 in
theorem law_RunPipe (w : World) (nxx : Int) (_ : I64 nxx) (vxx : Value) (xx : List (List Int)) (hxx : Rd2 w vxx xx) (fxx : I64ss xx) (vxins : Value) (xins : List (List Int)) (hxins : Rd2 w vxins xins) (fxins : I64ss xins) : Calls Try.prog 10 #[.agg #[.int .i64 nxx, vxx], vxins] w (Law w) := by
  obtain ⟨axx, cxx, rfl, _, hcxx⟩ := hxx.form
  obtain ⟨axins, cxins, rfl, _, hcxins⟩ := hxins.form
  have hbA : Below w.heap.size w (w.alloc (.cells #[.int .i64 nxx, .slice axx xx.length cxx] 29)) := (Below.refl _ _).alloc (Nat.le_refl _) _
  have HAx := Lib.hid (box_cells w (.int .i64 nxx) (.slice axx xx.length cxx) 29)
  have hs1 := szSS_le xx 1048576
  obtain ⟨L1, hL1⟩ : ∃ z, szSS xx 1048576 = z := ⟨_, rfl⟩
  rw [hL1] at hs1
  have HL1 := Lib.hid hL1
  clear hL1
  by_cases pxx : L1 < 0
  case pos =>
    go_enter Try.func10, Try.ntmps10
    go_wp2_with fail
    refine (szNetwork_c nxx _ xx 1048576 _ (hxx.below hbA) (by omega) (by omega)).mono ?_
    rintro e w1z ⟨rfl, bz1⟩
    rw [HL1.out]
    replace bz1 := hbA.trans (bz1.mono hbA.size)
    go_wp2_with fail
    go_ret
    exact ⟨rfl, bz1⟩
  have lxx : SzOk xx := szSS_ok (left := 1048576) (by have := HL1.out; omega) (by omega)
  have txx := lxx.2
  have hs2 := szSS_le xins L1
  obtain ⟨L2, hL2⟩ : ∃ z, szSS xins L1 = z := ⟨_, rfl⟩
  rw [hL2] at hs2
  have HL2 := Lib.hid hL2
  clear hL2
  by_cases pxins : L2 < 0
  case pos =>
    go_enter Try.func10, Try.ntmps10
    go_wp2_with fail
    refine (szNetwork_c nxx _ xx 1048576 _ (hxx.below hbA) (by omega) (by omega)).mono ?_
    rintro e w1z ⟨rfl, bz1⟩
    rw [HL1.out]
    have cX0 := (bz1.cell (by simp)).trans HAx.out.1
    have cX1 := (bz1.cell (by simp)).trans HAx.out.2
    replace bz1 := hbA.trans (bz1.mono hbA.size)
    have lX : w.heap.size < w1z.heap.size := World.block_lt_of_cell? _ _ cX0
    go_wp2_with fail
    refine (szIntSS_c _ xins L1 _ (hxins.below bz1) (by omega) (by omega)).mono ?_
    rintro e w' ⟨rfl, rfl⟩
    rw [HL2.out]
    go_wp2_with fail
    go_ret
    exact ⟨rfl, bz1⟩
  have lxins : SzOk xins := szSS_ok (left := L1) (by have := HL2.out; omega) (by omega)
  have txins := lxins.2
  obtain ⟨r0, r1, Br0, HS, HI⟩ : ∃ (r0 : List (List Int)) (r1 : Bool), SzOk r0 ∧
      (∀ (W : World) (Vxx : Value) (Hxx : Rd2 W Vxx xx) (Vxins : Value) (Hxins : Rd2 W Vxins xins), Calls Try.prog 40 #[.agg #[.int .i64 nxx, Vxx], Vxins] W (RetOwn2B r0 r1 W)) ∧
      (∀ (W : World) (Vxx : Value) (Hxx : Rd2 W Vxx xx) (Vxins : Value) (Hxins : Rd2 W Vxins xins), Calls Try.prog 41 #[.agg #[.int .i64 nxx, Vxx], Vxins] W (RetOwn2B r0 r1 W)) :=
    ⟨_, _, N_RunPipe nxx xx lxx xins lxins, fun W Vxx Hxx Vxins Hxins => S_RunPipe W nxx (by assumption) Vxx xx Hxx fxx lxx Vxins xins Hxins fxins lxins, fun W Vxx Hxx Vxins Hxins => I_RunPipe W nxx (by assumption) Vxx xx Hxx fxx lxx Vxins xins Hxins fxins lxins⟩
  have tBr0 := Br0.2
  have GS := Lib.hid HS
  have GI := Lib.hid HI
  clear HS HI
  go_enter Try.func10, Try.ntmps10
  go_wp2_with fail
  refine (szNetwork_c nxx _ xx 1048576 _ (hxx.below hbA) (by omega) (by omega)).mono ?_
  rintro e w1z ⟨rfl, bz1⟩
  rw [HL1.out]
  have cX0 := (bz1.cell (by simp)).trans HAx.out.1
  have cX1 := (bz1.cell (by simp)).trans HAx.out.2
  replace bz1 := hbA.trans (bz1.mono hbA.size)
  have lX : w.heap.size < w1z.heap.size := World.block_lt_of_cell? _ _ cX0
  go_wp2_with fail
  refine (szIntSS_c _ xins L1 _ (hxins.below bz1) (by omega) (by omega)).mono ?_
  rintro e w' ⟨rfl, rfl⟩
  rw [HL2.out]
  have bt : Below w.heap.size w w1z := bz1
  have z0 := bt.size
  go_wp2_with fail
  refine (toNetwork_c nxx _ xx _ (hxx.below bt) lxx).mono ?_
  rintro e w1 ⟨vy1, rfl, oy1, b1⟩
  obtain ⟨ay1, cy1, rfl, _, _⟩ := oy1.form
  replace cX0 := (b1.cell (World.block_lt_of_cell? _ _ cX0)).trans cX0
  replace cX1 := (b1.cell (World.block_lt_of_cell? _ _ cX1)).trans cX1
  replace bt := bt.trans (b1.mono bt.size)
  have z1 := b1.size
  go_wp2_with fail
  refine (toIntSS_c _ xins _ (hxins.below bt) lxins).mono ?_
  rintro e w2 ⟨vy2, rfl, oy2, b2⟩
  replace oy1 := oy1.below b2
  replace cX0 := (b2.cell (World.block_lt_of_cell? _ _ cX0)).trans cX0
  replace cX1 := (b2.cell (World.block_lt_of_cell? _ _ cX1)).trans cX1
  replace bt := bt.trans (b2.mono bt.size)
  have z2 := b2.size
  go_wp2_with fail
  refine ((GS.out _ _ oy1.rd _ oy2.rd)).mono ?_
  rintro e w3 ⟨vg3, rfl, og3, b3⟩
  replace oy1 := oy1.below b3
  replace oy2 := oy2.below b3
  replace cX0 := (b3.cell (World.block_lt_of_cell? _ _ cX0)).trans cX0
  replace cX1 := (b3.cell (World.block_lt_of_cell? _ _ cX1)).trans cX1
  replace bt := bt.trans (b3.mono bt.size)
  have z3 := b3.size
  go_wp2_with fail
  refine (toNetwork_c nxx _ xx _ (hxx.below bt) lxx).mono ?_
  rintro e w4 ⟨vy4, rfl, oy4, b4⟩
  obtain ⟨ay4, cy4, rfl, _, _⟩ := oy4.form
  replace oy1 := oy1.below b4
  replace oy2 := oy2.below b4
  replace og3 := og3.below b4
  replace cX0 := (b4.cell (World.block_lt_of_cell? _ _ cX0)).trans cX0
  replace cX1 := (b4.cell (World.block_lt_of_cell? _ _ cX1)).trans cX1
  replace bt := bt.trans (b4.mono bt.size)
  have z4 := b4.size
  go_wp2_with fail
  obtain ⟨w5, b5, cy40, cy41, hw5⟩ := box_store w4 (.int .i64 nxx) (.slice ay4 xx.length cy4) 32
  rw [hw5]
  clear hw5
  replace oy1 := oy1.below b5
  replace oy2 := oy2.below b5
  replace og3 := og3.below b5
  replace oy4 := oy4.below b5
  replace cX0 := (b5.cell (World.block_lt_of_cell? _ _ cX0)).trans cX0
  replace cX1 := (b5.cell (World.block_lt_of_cell? _ _ cX1)).trans cX1
  replace bt := bt.trans (b5.mono bt.size)
  have z5 := b5.size
  have ly4 : w4.heap.size < w5.heap.size := World.block_lt_of_cell? _ _ cy40
  refine (toIntSS_c _ xins _ (hxins.below bt) lxins).mono ?_
  rintro e w6 ⟨vy5, rfl, oy5, b6⟩
  replace oy1 := oy1.below b6
  replace oy2 := oy2.below b6
  replace og3 := og3.below b6
  replace oy4 := oy4.below b6
  replace cX0 := (b6.cell (World.block_lt_of_cell? _ _ cX0)).trans cX0
  replace cX1 := (b6.cell (World.block_lt_of_cell? _ _ cX1)).trans cX1
  replace cy40 := (b6.cell (World.block_lt_of_cell? _ _ cy40)).trans cy40
  replace cy41 := (b6.cell (World.block_lt_of_cell? _ _ cy41)).trans cy41
  replace bt := bt.trans (b6.mono bt.size)
  have z6 := b6.size
  go_wp2_with fail
  refine ((GI.out _ _ oy4.rd _ oy5.rd)).mono ?_
  rintro e w7 ⟨vg6, rfl, og6, b7⟩
  replace oy1 := oy1.below b7
  replace oy2 := oy2.below b7
  replace og3 := og3.below b7
  replace oy4 := oy4.below b7
  replace oy5 := oy5.below b7
  replace cX0 := (b7.cell (World.block_lt_of_cell? _ _ cX0)).trans cX0
  replace cX1 := (b7.cell (World.block_lt_of_cell? _ _ cX1)).trans cX1
  replace cy40 := (b7.cell (World.block_lt_of_cell? _ _ cy40)).trans cy40
  replace cy41 := (b7.cell (World.block_lt_of_cell? _ _ cy41)).trans cy41
  replace bt := bt.trans (b7.mono bt.size)
  have z7 := b7.size
  go_wp2_with fail
  refine (eqIntSS_c _ _ r0 r0 _ og6.rd og3.rd).mono ?_
  rintro e w8 ⟨rfl, d8⟩
  have b8 := d8.below w7.heap.size
  rw [eqII_self]
  replace oy1 := oy1.below b8
  replace oy2 := oy2.below b8
  replace og3 := og3.below b8
  replace oy4 := oy4.below b8
  replace oy5 := oy5.below b8
  replace og6 := og6.below b8
  replace cX0 := (b8.cell (World.block_lt_of_cell? _ _ cX0)).trans cX0
  replace cX1 := (b8.cell (World.block_lt_of_cell? _ _ cX1)).trans cX1
  replace cy40 := (b8.cell (World.block_lt_of_cell? _ _ cy40)).trans cy40
  replace cy41 := (b8.cell (World.block_lt_of_cell? _ _ cy41)).trans cy41
  replace bt := bt.trans (b8.mono bt.size)
  have z8 := b8.size
  go_wp2_with fail
  have HT10 : Hid (∀ wx : World, Below w8.heap.size w8 wx → wx.cell? ⟨w.heap.size, 0, none⟩ = some (.int .i64 nxx) ∧ wx.cell? ⟨w.heap.size, 1, none⟩ = some (.slice axx xx.length cxx) ∧ wx.cell? ⟨w4.heap.size, 0, none⟩ = some (.int .i64 nxx) ∧ wx.cell? ⟨w4.heap.size, 1, none⟩ = some (.slice ay4 xx.length cy4)) := fun wx hb => ⟨(hb.cell (World.block_lt_of_cell? _ _ cX0)).trans cX0, (hb.cell (World.block_lt_of_cell? _ _ cX1)).trans cX1, (hb.cell (World.block_lt_of_cell? _ _ cy40)).trans cy40, (hb.cell (World.block_lt_of_cell? _ _ cy41)).trans cy41⟩
  have hx10 := hxx.below bt
  go_region_held3 (fun wx => wx.cell? ⟨w.heap.size, 0, none⟩ = some (.int .i64 nxx) ∧ wx.cell? ⟨w.heap.size, 1, none⟩ = some (.slice axx xx.length cxx) ∧ wx.cell? ⟨w4.heap.size, 0, none⟩ = some (.int .i64 nxx) ∧ wx.cell? ⟨w4.heap.size, 1, none⟩ = some (.slice ay4 xx.length cy4))
    (first | exact HT10.out _ b10 | exact HT10.out _ b9 | go_keep)
    (first
      | (go_at_call 20; refine (toNetwork_c nxx _ xx _ (by exact hx10) lxx).mono ?_; rintro e w9 ⟨vq10, rfl, oq10, bq10⟩; have b9 : Below w8.heap.size w8 w9 := (by exact ⟨bq10.os, bq10.tape, bq10.output, bq10.size, bq10.block⟩))
      | (go_at_call 22; refine (eqNet_t nxx _ _ xx _ (by exact oy4.rd.below b9) (by exact oq10.rd)).mono ?_; rintro e w10 ⟨rfl, br10⟩; have bs10 : Below w9.heap.size w9 w10 := (by exact ⟨br10.os, br10.tape, br10.output, br10.size, br10.block⟩); have b10 := b9.trans (bs10.mono b9.size)))
  clear HT10 hx10
  replace oy1 := oy1.below b10
  replace oy2 := oy2.below b10
  replace og3 := og3.below b10
  replace oy4 := oy4.below b10
  replace oy5 := oy5.below b10
  replace og6 := og6.below b10
  replace cX0 := (b10.cell (World.block_lt_of_cell? _ _ cX0)).trans cX0
  replace cX1 := (b10.cell (World.block_lt_of_cell? _ _ cX1)).trans cX1
  replace cy40 := (b10.cell (World.block_lt_of_cell? _ _ cy40)).trans cy40
  replace cy41 := (b10.cell (World.block_lt_of_cell? _ _ cy41)).trans cy41
  replace bt := bt.trans (b10.mono bt.size)
  have z10 := b10.size
  go_wp2_with fail
  refine (toIntSS_c _ xins _ (hxins.below bt) lxins).mono ?_
  rintro e w11 ⟨vy7, rfl, oy7, b11⟩
  replace oy1 := oy1.below b11
  replace oy2 := oy2.below b11
  replace og3 := og3.below b11
  replace oy4 := oy4.below b11
  replace oy5 := oy5.below b11
  replace og6 := og6.below b11
  replace cX0 := (b11.cell (World.block_lt_of_cell? _ _ cX0)).trans cX0
  replace cX1 := (b11.cell (World.block_lt_of_cell? _ _ cX1)).trans cX1
  replace cy40 := (b11.cell (World.block_lt_of_cell? _ _ cy40)).trans cy40
  replace cy41 := (b11.cell (World.block_lt_of_cell? _ _ cy41)).trans cy41
  replace bt := bt.trans (b11.mono bt.size)
  have z11 := b11.size
  go_wp2_with fail
  refine (eqIntSS_c _ _ xins xins _ oy5.rd oy7.rd).mono ?_
  rintro e w12 ⟨rfl, d12⟩
  have b12 := d12.below w11.heap.size
  rw [eqII_self]
  replace oy1 := oy1.below b12
  replace oy2 := oy2.below b12
  replace og3 := og3.below b12
  replace oy4 := oy4.below b12
  replace oy5 := oy5.below b12
  replace og6 := og6.below b12
  replace oy7 := oy7.below b12
  replace cX0 := (b12.cell (World.block_lt_of_cell? _ _ cX0)).trans cX0
  replace cX1 := (b12.cell (World.block_lt_of_cell? _ _ cX1)).trans cX1
  replace cy40 := (b12.cell (World.block_lt_of_cell? _ _ cy40)).trans cy40
  replace cy41 := (b12.cell (World.block_lt_of_cell? _ _ cy41)).trans cy41
  replace bt := bt.trans (b12.mono bt.size)
  have z12 := b12.size
  go_wp2_with fail
  refine (markNetwork_c nxx _ xx (1) _ _ _ oy4 (by assumption) (by omega) (by omega) (by omega)).mono ?_
  rintro e w13 ⟨rfl, my4, ch13⟩
  replace oy1 := oy1.chg ch13 (by omega)
  replace oy2 := oy2.chg ch13 (by omega)
  replace og3 := og3.chg ch13 (by omega)
  replace oy5 := oy5.chg ch13 (by omega)
  replace og6 := og6.chg ch13 (by omega)
  replace oy7 := oy7.chg ch13 (by omega)
  replace cX0 := (ch13.cell (World.block_lt_of_cell? _ _ cX0) (by first | exact .inl (by show w.heap.size < _; omega) | exact .inr (by first | exact Nat.le_refl _ | (show _ ≤ w.heap.size; omega)))).trans cX0
  replace cX1 := (ch13.cell (World.block_lt_of_cell? _ _ cX1) (by first | exact .inl (by show w.heap.size < _; omega) | exact .inr (by first | exact Nat.le_refl _ | (show _ ≤ w.heap.size; omega)))).trans cX1
  replace cy40 := (ch13.cell (World.block_lt_of_cell? _ _ cy40) (by first | exact .inl (by show w4.heap.size < _; omega) | exact .inr (by first | exact Nat.le_refl _ | (show _ ≤ w4.heap.size; omega)))).trans cy40
  replace cy41 := (ch13.cell (World.block_lt_of_cell? _ _ cy41) (by first | exact .inl (by show w4.heap.size < _; omega) | exact .inr (by first | exact Nat.le_refl _ | (show _ ≤ w4.heap.size; omega)))).trans cy41
  replace bt := below_chg bt ch13 (by omega) (Nat.le_refl _)
  have z13 := ch13.size
  go_wp2_with fail
  refine (markIntSS_c _ xins (1 + (tot xx : Int)) _ _ _ oy5 (by assumption) (by omega) (by omega)).mono ?_
  rintro e w14 ⟨rfl, my5, ch14⟩
  replace oy1 := oy1.chg ch14 (by omega)
  replace oy2 := oy2.chg ch14 (by omega)
  replace og3 := og3.chg ch14 (by omega)
  replace my4 := my4.chg ch14 (by omega)
  replace og6 := og6.chg ch14 (by omega)
  replace oy7 := oy7.chg ch14 (by omega)
  replace cX0 := (ch14.cell (World.block_lt_of_cell? _ _ cX0) (by first | exact .inl (by show w.heap.size < _; omega) | exact .inr (by first | exact Nat.le_refl _ | (show _ ≤ w.heap.size; omega)))).trans cX0
  replace cX1 := (ch14.cell (World.block_lt_of_cell? _ _ cX1) (by first | exact .inl (by show w.heap.size < _; omega) | exact .inr (by first | exact Nat.le_refl _ | (show _ ≤ w.heap.size; omega)))).trans cX1
  replace cy40 := (ch14.cell (World.block_lt_of_cell? _ _ cy40) (by first | exact .inl (by show w4.heap.size < _; omega) | exact .inr (by first | exact Nat.le_refl _ | (show _ ≤ w4.heap.size; omega)))).trans cy40
  replace cy41 := (ch14.cell (World.block_lt_of_cell? _ _ cy41) (by first | exact .inl (by show w4.heap.size < _; omega) | exact .inr (by first | exact Nat.le_refl _ | (show _ ≤ w4.heap.size; omega)))).trans cy41
  replace bt := below_chg bt ch14 (by omega) (Nat.le_refl _)
  have z14 := ch14.size
  go_wp2_with fail
  refine (eqIntSS_c _ _ r0 r0 _ og6.rd og3.rd).mono ?_
  rintro e w15 ⟨rfl, d15⟩
  have b15 := d15.below w14.heap.size
  rw [eqII_self]
  replace oy1 := oy1.below b15
  replace oy2 := oy2.below b15
  replace og3 := og3.below b15
  replace my4 := my4.below b15
  replace my5 := my5.below b15
  replace og6 := og6.below b15
  replace oy7 := oy7.below b15
  replace cX0 := (b15.cell (World.block_lt_of_cell? _ _ cX0)).trans cX0
  replace cX1 := (b15.cell (World.block_lt_of_cell? _ _ cX1)).trans cX1
  replace cy40 := (b15.cell (World.block_lt_of_cell? _ _ cy40)).trans cy40
  replace cy41 := (b15.cell (World.block_lt_of_cell? _ _ cy41)).trans cy41
  replace bt := bt.trans (b15.mono bt.size)
  have z15 := b15.size
  go_wp2_with fail
  refine (markIntSS_c _ r0 (1) _ _ _ og6 (by assumption) (by omega) (by omega)).mono ?_
  rintro e w16 ⟨rfl, mg6, ch16⟩
  replace oy1 := oy1.chg ch16 (by omega)
  replace oy2 := oy2.chg ch16 (by omega)
  replace og3 := og3.chg ch16 (by omega)
  replace my4 := my4.chg ch16 (by omega)
  replace my5 := my5.chg ch16 (by omega)
  replace oy7 := oy7.chg ch16 (by omega)
  replace cX0 := (ch16.cell (World.block_lt_of_cell? _ _ cX0) (by first | exact .inl (by show w.heap.size < _; omega) | exact .inr (by first | exact Nat.le_refl _ | (show _ ≤ w.heap.size; omega)))).trans cX0
  replace cX1 := (ch16.cell (World.block_lt_of_cell? _ _ cX1) (by first | exact .inl (by show w.heap.size < _; omega) | exact .inr (by first | exact Nat.le_refl _ | (show _ ≤ w.heap.size; omega)))).trans cX1
  replace cy40 := (ch16.cell (World.block_lt_of_cell? _ _ cy40) (by first | exact .inl (by show w4.heap.size < _; omega) | exact .inr (by first | exact Nat.le_refl _ | (show _ ≤ w4.heap.size; omega)))).trans cy40
  replace cy41 := (ch16.cell (World.block_lt_of_cell? _ _ cy41) (by first | exact .inl (by show w4.heap.size < _; omega) | exact .inr (by first | exact Nat.le_refl _ | (show _ ≤ w4.heap.size; omega)))).trans cy41
  replace bt := below_chg bt ch16 (by omega) (Nat.le_refl _)
  have z16 := ch16.size
  go_wp2_with fail
  refine (heldIntSS_c _ r0 (1) _ mg6.rd (by assumption) (by omega) (by omega)).mono ?_
  rintro e w' ⟨rfl, rfl⟩
  go_wp2_with fail
  refine (toNetwork_c nxx _ xx _ (hxx.below bt) lxx).mono ?_
  rintro e w17 ⟨vy8, rfl, oy8, b17⟩
  obtain ⟨ay8, cy8, rfl, _, _⟩ := oy8.form
  replace oy1 := oy1.below b17
  replace oy2 := oy2.below b17
  replace og3 := og3.below b17
  replace my4 := my4.below b17
  replace my5 := my5.below b17
  replace mg6 := mg6.below b17
  replace oy7 := oy7.below b17
  replace cX0 := (b17.cell (World.block_lt_of_cell? _ _ cX0)).trans cX0
  replace cX1 := (b17.cell (World.block_lt_of_cell? _ _ cX1)).trans cX1
  replace cy40 := (b17.cell (World.block_lt_of_cell? _ _ cy40)).trans cy40
  replace cy41 := (b17.cell (World.block_lt_of_cell? _ _ cy41)).trans cy41
  replace bt := bt.trans (b17.mono bt.size)
  have z17 := b17.size
  go_wp2_with fail
  refine (toIntSS_c _ xins _ (hxins.below bt) lxins).mono ?_
  rintro e w18 ⟨vy9, rfl, oy9, b18⟩
  replace oy1 := oy1.below b18
  replace oy2 := oy2.below b18
  replace og3 := og3.below b18
  replace my4 := my4.below b18
  replace my5 := my5.below b18
  replace mg6 := mg6.below b18
  replace oy7 := oy7.below b18
  replace oy8 := oy8.below b18
  replace cX0 := (b18.cell (World.block_lt_of_cell? _ _ cX0)).trans cX0
  replace cX1 := (b18.cell (World.block_lt_of_cell? _ _ cX1)).trans cX1
  replace cy40 := (b18.cell (World.block_lt_of_cell? _ _ cy40)).trans cy40
  replace cy41 := (b18.cell (World.block_lt_of_cell? _ _ cy41)).trans cy41
  replace bt := bt.trans (b18.mono bt.size)
  have z18 := b18.size
  go_wp2_with fail
  refine ((GI.out _ _ oy8.rd _ oy9.rd)).mono ?_
  rintro e w19 ⟨vg10, rfl, og10, b19⟩
  replace oy1 := oy1.below b19
  replace oy2 := oy2.below b19
  replace og3 := og3.below b19
  replace my4 := my4.below b19
  replace my5 := my5.below b19
  replace mg6 := mg6.below b19
  replace oy7 := oy7.below b19
  replace oy8 := oy8.below b19
  replace oy9 := oy9.below b19
  replace cX0 := (b19.cell (World.block_lt_of_cell? _ _ cX0)).trans cX0
  replace cX1 := (b19.cell (World.block_lt_of_cell? _ _ cX1)).trans cX1
  replace cy40 := (b19.cell (World.block_lt_of_cell? _ _ cy40)).trans cy40
  replace cy41 := (b19.cell (World.block_lt_of_cell? _ _ cy41)).trans cy41
  replace bt := bt.trans (b19.mono bt.size)
  have z19 := b19.size
  go_wp2_with fail
  refine (eqIntSS_c _ _ r0 r0 _ og10.rd og3.rd).mono ?_
  rintro e w20 ⟨rfl, d20⟩
  have b20 := d20.below w19.heap.size
  rw [eqII_self]
  replace oy1 := oy1.below b20
  replace oy2 := oy2.below b20
  replace og3 := og3.below b20
  replace my4 := my4.below b20
  replace my5 := my5.below b20
  replace mg6 := mg6.below b20
  replace oy7 := oy7.below b20
  replace oy8 := oy8.below b20
  replace oy9 := oy9.below b20
  replace og10 := og10.below b20
  replace cX0 := (b20.cell (World.block_lt_of_cell? _ _ cX0)).trans cX0
  replace cX1 := (b20.cell (World.block_lt_of_cell? _ _ cX1)).trans cX1
  replace cy40 := (b20.cell (World.block_lt_of_cell? _ _ cy40)).trans cy40
  replace cy41 := (b20.cell (World.block_lt_of_cell? _ _ cy41)).trans cy41
  replace bt := bt.trans (b20.mono bt.size)
  have z20 := b20.size
  go_wp2_with fail
  refine (heldIntSS_c _ r0 (1) _ mg6.rd (by assumption) (by omega) (by omega)).mono ?_
  rintro e w' ⟨rfl, rfl⟩
  go_wp2_with fail
  go_ret
  exact ⟨rfl, bt⟩

end Go.Proofs.Ytdfjopcfgpigoaa
