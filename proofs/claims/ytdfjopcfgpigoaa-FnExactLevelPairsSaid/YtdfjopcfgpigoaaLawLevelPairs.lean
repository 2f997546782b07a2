/- The walk of the law FnExactLevelPairs. -/
import Derived.Test.YtdfjopcfgpigoaaLevelPairs2
namespace Go.Proofs.Ytdfjopcfgpigoaa
open Go.RowKit
set_option linter.unusedVariables false
set_option linter.unusedSimpArgs false

set_option maxRecDepth 100000 in
set_option maxHeartbeats 4000000 in
theorem law_LevelPairs (w : World) (nxx : Int) (_ : I64 nxx) (vxx : Value) (xx : List (List Int)) (hxx : Rd2 w vxx xx) (fxx : I64ss xx) (xlevel : Int) (_ : I64 xlevel) : Calls Try.prog 8 #[.agg #[.int .i64 nxx, vxx], .int .i64 xlevel] w (Law w) := by
  obtain ⟨axx, cxx, rfl, _, hcxx⟩ := hxx.form
  have hbA : Below w.heap.size w (w.alloc (.cells #[.int .i64 nxx, .slice axx xx.length cxx] 29)) := (Below.refl _ _).alloc (Nat.le_refl _) _
  have HAx := Lib.hid (box_cells w (.int .i64 nxx) (.slice axx xx.length cxx) 29)
  have hs1 := szSS_le xx 1048576
  obtain ⟨L1, hL1⟩ : ∃ z, szSS xx 1048576 = z := ⟨_, rfl⟩
  rw [hL1] at hs1
  have HL1 := Lib.hid hL1
  clear hL1
  by_cases pxx : L1 < 0
  case pos =>
    go_enter Try.func8, Try.ntmps8
    go_wp2_with fail
    refine (szNetwork_c nxx _ xx 1048576 _ (hxx.below hbA) (by omega) (by omega)).mono ?_
    rintro e w1z ⟨rfl, bz1⟩
    rw [HL1.out]
    replace bz1 := hbA.trans (bz1.mono hbA.size)
    go_wp2_with fail
    go_ret
    exact ⟨rfl, bz1⟩
  have lxx : SzOk xx := szSS_ok (left := 1048576) (by have := HL1.out; omega) (by omega)
  have txx := lxx.2
  obtain ⟨r0, Br0, HS, HI⟩ : ∃ (r0 : List (List Int)), SzOk r0 ∧
      (∀ (W : World) (Vxx : Value) (Hxx : Rd2 W Vxx xx), Calls Try.prog 32 #[.agg #[.int .i64 nxx, Vxx], .int .i64 xlevel] W (RetOwn2 r0 W)) ∧
      (∀ (W : World) (Vxx : Value) (Hxx : Rd2 W Vxx xx), Calls Try.prog 33 #[.agg #[.int .i64 nxx, Vxx], .int .i64 xlevel] W (RetOwn2 r0 W)) :=
    ⟨_, N_LevelPairs nxx xx lxx xlevel, fun W Vxx Hxx => S_LevelPairs W nxx (by assumption) Vxx xx Hxx fxx lxx xlevel (by assumption), fun W Vxx Hxx => I_LevelPairs W nxx (by assumption) Vxx xx Hxx fxx lxx xlevel (by assumption)⟩
  have tBr0 := Br0.2
  have GS := Lib.hid HS
  have GI := Lib.hid HI
  clear HS HI
  go_enter Try.func8, Try.ntmps8
  go_wp2_with fail
  refine (szNetwork_c nxx _ xx 1048576 _ (hxx.below hbA) (by omega) (by omega)).mono ?_
  rintro e w1z ⟨rfl, bz1⟩
  rw [HL1.out]
  have cX0 := (bz1.cell (by simp)).trans HAx.out.1
  have cX1 := (bz1.cell (by simp)).trans HAx.out.2
  replace bz1 := hbA.trans (bz1.mono hbA.size)
  have lX : w.heap.size < w1z.heap.size := World.block_lt_of_cell? _ _ cX0
  have bt : Below w.heap.size w w1z := bz1
  have z0 := bt.size
  go_wp2_with fail
  refine (toNetwork_c nxx _ xx _ (hxx.below bt) lxx).mono ?_
  rintro e w1 ⟨vy1, rfl, oy1, b1⟩
  obtain ⟨ay1, cy1, rfl, _, _⟩ := oy1.form
  replace cX0 := (b1.cell (World.block_lt_of_cell? _ _ cX0)).trans cX0
  replace cX1 := (b1.cell (World.block_lt_of_cell? _ _ cX1)).trans cX1
  replace bt := bt.trans (b1.mono bt.size)
  have z1 := b1.size
  go_wp2_with fail
  refine ((GS.out _ _ oy1.rd)).mono ?_
  rintro e w2 ⟨vg2, rfl, og2, b2⟩
  replace oy1 := oy1.below b2
  replace cX0 := (b2.cell (World.block_lt_of_cell? _ _ cX0)).trans cX0
  replace cX1 := (b2.cell (World.block_lt_of_cell? _ _ cX1)).trans cX1
  replace bt := bt.trans (b2.mono bt.size)
  have z2 := b2.size
  go_wp2_with fail
  refine (toNetwork_c nxx _ xx _ (hxx.below bt) lxx).mono ?_
  rintro e w3 ⟨vy3, rfl, oy3, b3⟩
  obtain ⟨ay3, cy3, rfl, _, _⟩ := oy3.form
  replace oy1 := oy1.below b3
  replace og2 := og2.below b3
  replace cX0 := (b3.cell (World.block_lt_of_cell? _ _ cX0)).trans cX0
  replace cX1 := (b3.cell (World.block_lt_of_cell? _ _ cX1)).trans cX1
  replace bt := bt.trans (b3.mono bt.size)
  have z3 := b3.size
  go_wp2_with fail
  obtain ⟨w4, b4, cy30, cy31, hw4⟩ := box_store w3 (.int .i64 nxx) (.slice ay3 xx.length cy3) 32
  rw [hw4]
  clear hw4
  replace oy1 := oy1.below b4
  replace og2 := og2.below b4
  replace oy3 := oy3.below b4
  replace cX0 := (b4.cell (World.block_lt_of_cell? _ _ cX0)).trans cX0
  replace cX1 := (b4.cell (World.block_lt_of_cell? _ _ cX1)).trans cX1
  replace bt := bt.trans (b4.mono bt.size)
  have z4 := b4.size
  have ly3 : w3.heap.size < w4.heap.size := World.block_lt_of_cell? _ _ cy30
  refine ((GI.out _ _ oy3.rd)).mono ?_
  rintro e w5 ⟨vg4, rfl, og4, b5⟩
  replace oy1 := oy1.below b5
  replace og2 := og2.below b5
  replace oy3 := oy3.below b5
  replace cX0 := (b5.cell (World.block_lt_of_cell? _ _ cX0)).trans cX0
  replace cX1 := (b5.cell (World.block_lt_of_cell? _ _ cX1)).trans cX1
  replace cy30 := (b5.cell (World.block_lt_of_cell? _ _ cy30)).trans cy30
  replace cy31 := (b5.cell (World.block_lt_of_cell? _ _ cy31)).trans cy31
  replace bt := bt.trans (b5.mono bt.size)
  have z5 := b5.size
  go_wp2_with fail
  refine (eqIntSS_c _ _ r0 r0 _ og4.rd og2.rd).mono ?_
  rintro e w6 ⟨rfl, d6⟩
  have b6 := d6.below w5.heap.size
  rw [eqII_self]
  replace oy1 := oy1.below b6
  replace og2 := og2.below b6
  replace oy3 := oy3.below b6
  replace og4 := og4.below b6
  replace cX0 := (b6.cell (World.block_lt_of_cell? _ _ cX0)).trans cX0
  replace cX1 := (b6.cell (World.block_lt_of_cell? _ _ cX1)).trans cX1
  replace cy30 := (b6.cell (World.block_lt_of_cell? _ _ cy30)).trans cy30
  replace cy31 := (b6.cell (World.block_lt_of_cell? _ _ cy31)).trans cy31
  replace bt := bt.trans (b6.mono bt.size)
  have z6 := b6.size
  go_wp2_with fail
  have HT8 : Hid (∀ wx : World, Below w6.heap.size w6 wx → wx.cell? ⟨w.heap.size, 0, none⟩ = some (.int .i64 nxx) ∧ wx.cell? ⟨w.heap.size, 1, none⟩ = some (.slice axx xx.length cxx) ∧ wx.cell? ⟨w3.heap.size, 0, none⟩ = some (.int .i64 nxx) ∧ wx.cell? ⟨w3.heap.size, 1, none⟩ = some (.slice ay3 xx.length cy3)) := fun wx hb => ⟨(hb.cell (World.block_lt_of_cell? _ _ cX0)).trans cX0, (hb.cell (World.block_lt_of_cell? _ _ cX1)).trans cX1, (hb.cell (World.block_lt_of_cell? _ _ cy30)).trans cy30, (hb.cell (World.block_lt_of_cell? _ _ cy31)).trans cy31⟩
  have hx8 := hxx.below bt
  go_region_held3 (fun wx => wx.cell? ⟨w.heap.size, 0, none⟩ = some (.int .i64 nxx) ∧ wx.cell? ⟨w.heap.size, 1, none⟩ = some (.slice axx xx.length cxx) ∧ wx.cell? ⟨w3.heap.size, 0, none⟩ = some (.int .i64 nxx) ∧ wx.cell? ⟨w3.heap.size, 1, none⟩ = some (.slice ay3 xx.length cy3))
    (first | exact HT8.out _ b8 | exact HT8.out _ b7 | go_keep)
    (first
      | (go_at_call 20; refine (toNetwork_c nxx _ xx _ (by exact hx8) lxx).mono ?_; rintro e w7 ⟨vq8, rfl, oq8, bq8⟩; have b7 : Below w6.heap.size w6 w7 := (by exact ⟨bq8.os, bq8.tape, bq8.output, bq8.size, bq8.block⟩))
      | (go_at_call 22; refine (eqNet_t nxx _ _ xx _ (by exact oy3.rd.below b7) (by exact oq8.rd)).mono ?_; rintro e w8 ⟨rfl, br8⟩; have bs8 : Below w7.heap.size w7 w8 := (by exact ⟨br8.os, br8.tape, br8.output, br8.size, br8.block⟩); have b8 := b7.trans (bs8.mono b7.size)))
  clear HT8 hx8
  replace oy1 := oy1.below b8
  replace og2 := og2.below b8
  replace oy3 := oy3.below b8
  replace og4 := og4.below b8
  replace cX0 := (b8.cell (World.block_lt_of_cell? _ _ cX0)).trans cX0
  replace cX1 := (b8.cell (World.block_lt_of_cell? _ _ cX1)).trans cX1
  replace cy30 := (b8.cell (World.block_lt_of_cell? _ _ cy30)).trans cy30
  replace cy31 := (b8.cell (World.block_lt_of_cell? _ _ cy31)).trans cy31
  replace bt := bt.trans (b8.mono bt.size)
  have z8 := b8.size
  go_wp2_with fail
  refine (markNetwork_c nxx _ xx (1) _ _ _ oy3 (by assumption) (by omega) (by omega) (by omega)).mono ?_
  rintro e w9 ⟨rfl, my3, ch9⟩
  replace oy1 := oy1.chg ch9 (by omega)
  replace og2 := og2.chg ch9 (by omega)
  replace og4 := og4.chg ch9 (by omega)
  replace cX0 := (ch9.cell (World.block_lt_of_cell? _ _ cX0) (by first | exact .inl (by show w.heap.size < _; omega) | exact .inr (by first | exact Nat.le_refl _ | (show _ ≤ w.heap.size; omega)))).trans cX0
  replace cX1 := (ch9.cell (World.block_lt_of_cell? _ _ cX1) (by first | exact .inl (by show w.heap.size < _; omega) | exact .inr (by first | exact Nat.le_refl _ | (show _ ≤ w.heap.size; omega)))).trans cX1
  replace cy30 := (ch9.cell (World.block_lt_of_cell? _ _ cy30) (by first | exact .inl (by show w3.heap.size < _; omega) | exact .inr (by first | exact Nat.le_refl _ | (show _ ≤ w3.heap.size; omega)))).trans cy30
  replace cy31 := (ch9.cell (World.block_lt_of_cell? _ _ cy31) (by first | exact .inl (by show w3.heap.size < _; omega) | exact .inr (by first | exact Nat.le_refl _ | (show _ ≤ w3.heap.size; omega)))).trans cy31
  replace bt := below_chg bt ch9 (by omega) (Nat.le_refl _)
  have z9 := ch9.size
  go_wp2_with fail
  refine (eqIntSS_c _ _ r0 r0 _ og4.rd og2.rd).mono ?_
  rintro e w10 ⟨rfl, d10⟩
  have b10 := d10.below w9.heap.size
  rw [eqII_self]
  replace oy1 := oy1.below b10
  replace og2 := og2.below b10
  replace my3 := my3.below b10
  replace og4 := og4.below b10
  replace cX0 := (b10.cell (World.block_lt_of_cell? _ _ cX0)).trans cX0
  replace cX1 := (b10.cell (World.block_lt_of_cell? _ _ cX1)).trans cX1
  replace cy30 := (b10.cell (World.block_lt_of_cell? _ _ cy30)).trans cy30
  replace cy31 := (b10.cell (World.block_lt_of_cell? _ _ cy31)).trans cy31
  replace bt := bt.trans (b10.mono bt.size)
  have z10 := b10.size
  go_wp2_with fail
  refine (markIntSS_c _ r0 (1) _ _ _ og4 (by assumption) (by omega) (by omega)).mono ?_
  rintro e w11 ⟨rfl, mg4, ch11⟩
  replace oy1 := oy1.chg ch11 (by omega)
  replace og2 := og2.chg ch11 (by omega)
  replace my3 := my3.chg ch11 (by omega)
  replace cX0 := (ch11.cell (World.block_lt_of_cell? _ _ cX0) (by first | exact .inl (by show w.heap.size < _; omega) | exact .inr (by first | exact Nat.le_refl _ | (show _ ≤ w.heap.size; omega)))).trans cX0
  replace cX1 := (ch11.cell (World.block_lt_of_cell? _ _ cX1) (by first | exact .inl (by show w.heap.size < _; omega) | exact .inr (by first | exact Nat.le_refl _ | (show _ ≤ w.heap.size; omega)))).trans cX1
  replace cy30 := (ch11.cell (World.block_lt_of_cell? _ _ cy30) (by first | exact .inl (by show w3.heap.size < _; omega) | exact .inr (by first | exact Nat.le_refl _ | (show _ ≤ w3.heap.size; omega)))).trans cy30
  replace cy31 := (ch11.cell (World.block_lt_of_cell? _ _ cy31) (by first | exact .inl (by show w3.heap.size < _; omega) | exact .inr (by first | exact Nat.le_refl _ | (show _ ≤ w3.heap.size; omega)))).trans cy31
  replace bt := below_chg bt ch11 (by omega) (Nat.le_refl _)
  have z11 := ch11.size
  go_wp2_with fail
  refine (heldIntSS_c _ r0 (1) _ mg4.rd (by assumption) (by omega) (by omega)).mono ?_
  rintro e w' ⟨rfl, rfl⟩
  go_wp2_with fail
  refine (toNetwork_c nxx _ xx _ (hxx.below bt) lxx).mono ?_
  rintro e w12 ⟨vy5, rfl, oy5, b12⟩
  obtain ⟨ay5, cy5, rfl, _, _⟩ := oy5.form
  replace oy1 := oy1.below b12
  replace og2 := og2.below b12
  replace my3 := my3.below b12
  replace mg4 := mg4.below b12
  replace cX0 := (b12.cell (World.block_lt_of_cell? _ _ cX0)).trans cX0
  replace cX1 := (b12.cell (World.block_lt_of_cell? _ _ cX1)).trans cX1
  replace cy30 := (b12.cell (World.block_lt_of_cell? _ _ cy30)).trans cy30
  replace cy31 := (b12.cell (World.block_lt_of_cell? _ _ cy31)).trans cy31
  replace bt := bt.trans (b12.mono bt.size)
  have z12 := b12.size
  go_wp2_with fail
  refine ((GI.out _ _ oy5.rd)).mono ?_
  rintro e w13 ⟨vg6, rfl, og6, b13⟩
  replace oy1 := oy1.below b13
  replace og2 := og2.below b13
  replace my3 := my3.below b13
  replace mg4 := mg4.below b13
  replace oy5 := oy5.below b13
  replace cX0 := (b13.cell (World.block_lt_of_cell? _ _ cX0)).trans cX0
  replace cX1 := (b13.cell (World.block_lt_of_cell? _ _ cX1)).trans cX1
  replace cy30 := (b13.cell (World.block_lt_of_cell? _ _ cy30)).trans cy30
  replace cy31 := (b13.cell (World.block_lt_of_cell? _ _ cy31)).trans cy31
  replace bt := bt.trans (b13.mono bt.size)
  have z13 := b13.size
  go_wp2_with fail
  refine (eqIntSS_c _ _ r0 r0 _ og6.rd og2.rd).mono ?_
  rintro e w14 ⟨rfl, d14⟩
  have b14 := d14.below w13.heap.size
  rw [eqII_self]
  replace oy1 := oy1.below b14
  replace og2 := og2.below b14
  replace my3 := my3.below b14
  replace mg4 := mg4.below b14
  replace oy5 := oy5.below b14
  replace og6 := og6.below b14
  replace cX0 := (b14.cell (World.block_lt_of_cell? _ _ cX0)).trans cX0
  replace cX1 := (b14.cell (World.block_lt_of_cell? _ _ cX1)).trans cX1
  replace cy30 := (b14.cell (World.block_lt_of_cell? _ _ cy30)).trans cy30
  replace cy31 := (b14.cell (World.block_lt_of_cell? _ _ cy31)).trans cy31
  replace bt := bt.trans (b14.mono bt.size)
  have z14 := b14.size
  go_wp2_with fail
  refine (heldIntSS_c _ r0 (1) _ mg4.rd (by assumption) (by omega) (by omega)).mono ?_
  rintro e w' ⟨rfl, rfl⟩
  go_wp2_with fail
  go_ret
  exact ⟨rfl, bt⟩

end Go.Proofs.Ytdfjopcfgpigoaa
