/- The walk of the law FnExactEmitOrder. -/
import Derived.Test.YtlbakbachcpifaaLateFns
namespace Go.Proofs.Ytlbakbachcpifaa
open Go.RowKit
set_option linter.unusedVariables false
set_option linter.unusedSimpArgs false

set_option maxRecDepth 100000 in
set_option maxHeartbeats 4000000 in
theorem law_EmitOrder (w : World) (vxtimes : Value) (xtimes : List Int) (hxtimes : Rd w vxtimes (ints xtimes)) (fxtimes : I64s xtimes) (xslack : Int) (_ : I64 xslack) : Calls Try.prog 7 #[vxtimes, .int .i64 xslack] w (Law w) := by
  obtain ⟨axtimes, cxtimes, rfl, _, hcxtimes⟩ := hxtimes.formi
  by_cases lxtimes : xtimes.length ≤ 1048576
  case neg =>
    have hd : decide ((xtimes.length : Int) > 1048576) = true := by simp; omega
    go_enter Try.func7, Try.ntmps7
    go_wp2_with fail
    go_ret
    exact ⟨rfl, Below.refl _ _⟩
  have dxtimes : decide ((xtimes.length : Int) > 1048576) = false := by simp; omega
  obtain ⟨r0, r1, Br0, Br1, HS, HI⟩ : ∃ (r0 : List Int) (r1 : List Int), r0.length ≤ 2000000 ∧ r1.length ≤ 2000000 ∧
      (∀ (W : World) (Vxtimes : Value) (Hxtimes : Rd W Vxtimes (ints xtimes)), Calls Try.prog 35 #[Vxtimes, .int .i64 xslack] W (RetOwn11 3 (ints r0) (ints r1) W)) ∧
      (∀ (W : World) (Vxtimes : Value) (Hxtimes : Rd W Vxtimes (ints xtimes)), Calls Try.prog 20 #[Vxtimes, .int .i64 xslack] W (RetOwn11 3 (ints r0) (ints r1) W)) :=
    ⟨_, _, N_EmitOrder xtimes lxtimes xslack, N1_EmitOrder xtimes lxtimes xslack, fun W Vxtimes Hxtimes => S_EmitOrder W Vxtimes xtimes Hxtimes fxtimes lxtimes xslack (by assumption), fun W Vxtimes Hxtimes => I_EmitOrder W Vxtimes xtimes Hxtimes fxtimes lxtimes xslack (by assumption)⟩
  have GS := Lib.hid HS
  have GI := Lib.hid HI
  clear HS HI
  go_enter Try.func7, Try.ntmps7
  have bt : Below w.heap.size w w := Below.refl _ _
  go_wp2_with fail
  refine (toIntS_c _ xtimes _ (hxtimes.below bt) (by omega)).mono ?_
  rintro e w1 ⟨vy1, rfl, oy1, b1⟩
  have ty1 : ∀ k, vy1.ownBlock = some k → k < w1.heap.size := fun k e => (oy1.lt k e).2
  replace bt := bt.trans (b1.mono bt.size)
  have z1 := b1.size
  go_wp2_with fail
  refine ((GS.out _ _ oy1.rd)).mono ?_
  rintro e w2 ⟨vg2, vg3, rfl, og2, og3, ap2, b2⟩
  have tg3 : ∀ k, vg3.ownBlock = some k → k < w2.heap.size := fun k e => (og3.lt k e).2
  have tg2 : ∀ k, vg2.ownBlock = some k → k < w2.heap.size := fun k e => (og2.lt k e).2
  replace oy1 := oy1.below b2
  replace bt := bt.trans (b2.mono bt.size)
  have z2 := b2.size
  go_wp2_with fail
  refine (toIntS_c _ xtimes _ (hxtimes.below bt) (by omega)).mono ?_
  rintro e w3 ⟨vy4, rfl, oy4, b3⟩
  have ty4 : ∀ k, vy4.ownBlock = some k → k < w3.heap.size := fun k e => (oy4.lt k e).2
  replace oy1 := oy1.below b3
  replace og2 := og2.below b3
  replace og3 := og3.below b3
  replace bt := bt.trans (b3.mono bt.size)
  have z3 := b3.size
  go_wp2_with fail
  refine ((GI.out _ _ oy4.rd)).mono ?_
  rintro e w4 ⟨vg5, vg6, rfl, og5, og6, ap4, b4⟩
  have tg6 : ∀ k, vg6.ownBlock = some k → k < w4.heap.size := fun k e => (og6.lt k e).2
  have tg5 : ∀ k, vg5.ownBlock = some k → k < w4.heap.size := fun k e => (og5.lt k e).2
  replace oy1 := oy1.below b4
  replace og2 := og2.below b4
  replace og3 := og3.below b4
  replace oy4 := oy4.below b4
  replace bt := bt.trans (b4.mono bt.size)
  have z4 := b4.size
  go_wp2_with fail
  refine (eqIntS_c _ _ r0 r0 _ og5.rd og2.rd).mono ?_
  rintro e w5 ⟨rfl, d5⟩
  have b5 := d5.below w4.heap.size
  rw [eqI_self]
  replace oy1 := oy1.below b5
  replace og2 := og2.below b5
  replace og3 := og3.below b5
  replace oy4 := oy4.below b5
  replace og5 := og5.below b5
  replace og6 := og6.below b5
  replace bt := bt.trans (b5.mono bt.size)
  have z5 := b5.size
  go_wp2_with fail
  refine (eqIntS_c _ _ r1 r1 _ og6.rd og3.rd).mono ?_
  rintro e w6 ⟨rfl, d6⟩
  have b6 := d6.below w5.heap.size
  rw [eqI_self]
  replace oy1 := oy1.below b6
  replace og2 := og2.below b6
  replace og3 := og3.below b6
  replace oy4 := oy4.below b6
  replace og5 := og5.below b6
  replace og6 := og6.below b6
  replace bt := bt.trans (b6.mono bt.size)
  have z6 := b6.size
  go_wp2_with fail
  refine (toIntS_c _ xtimes _ (hxtimes.below bt) (by omega)).mono ?_
  rintro e w7 ⟨vy7, rfl, oy7, b7⟩
  have ty7 : ∀ k, vy7.ownBlock = some k → k < w7.heap.size := fun k e => (oy7.lt k e).2
  replace oy1 := oy1.below b7
  replace og2 := og2.below b7
  replace og3 := og3.below b7
  replace oy4 := oy4.below b7
  replace og5 := og5.below b7
  replace og6 := og6.below b7
  replace bt := bt.trans (b7.mono bt.size)
  have z7 := b7.size
  go_wp2_with fail
  refine (eqIntS_c _ _ xtimes xtimes _ oy4.rd oy7.rd).mono ?_
  rintro e w8 ⟨rfl, d8⟩
  have b8 := d8.below w7.heap.size
  rw [eqI_self]
  replace oy1 := oy1.below b8
  replace og2 := og2.below b8
  replace og3 := og3.below b8
  replace oy4 := oy4.below b8
  replace og5 := og5.below b8
  replace og6 := og6.below b8
  replace oy7 := oy7.below b8
  replace bt := bt.trans (b8.mono bt.size)
  have z8 := b8.size
  go_wp2_with fail
  refine (markIntS_c _ xtimes (1) _ _ oy4 (by omega) (by omega) (by omega)).mono ?_
  rintro e w9 ⟨rfl, my4, gr9⟩
  have ch9 : Chg (w2.heap.size) (w3.heap.size) w8 w9 := Chg.row gr9 (fun k e => ⟨(oy4.lt k e).1, ty4 k e⟩)
  replace oy1 := oy1.chg ch9 (fun k e => by have h1 := (oy1.lt k e).1; have h2 := ty1 k e; omega)
  replace og2 := og2.chg ch9 (fun k e => by have h1 := (og2.lt k e).1; have h2 := tg2 k e; omega)
  replace og3 := og3.chg ch9 (fun k e => by have h1 := (og3.lt k e).1; have h2 := tg3 k e; omega)
  replace og5 := og5.chg ch9 (fun k e => by have h1 := (og5.lt k e).1; have h2 := tg5 k e; omega)
  replace og6 := og6.chg ch9 (fun k e => by have h1 := (og6.lt k e).1; have h2 := tg6 k e; omega)
  replace oy7 := oy7.chg ch9 (fun k e => by have h1 := (oy7.lt k e).1; have h2 := ty7 k e; omega)
  replace bt := below_chg bt ch9 (by omega) (Nat.le_refl _)
  have z9 := ch9.size
  go_wp2_with fail
  refine (eqIntS_c _ _ r0 r0 _ og5.rd og2.rd).mono ?_
  rintro e w10 ⟨rfl, d10⟩
  have b10 := d10.below w9.heap.size
  rw [eqI_self]
  replace oy1 := oy1.below b10
  replace og2 := og2.below b10
  replace og3 := og3.below b10
  replace my4 := my4.below b10
  replace og5 := og5.below b10
  replace og6 := og6.below b10
  replace oy7 := oy7.below b10
  replace bt := bt.trans (b10.mono bt.size)
  have z10 := b10.size
  go_wp2_with fail
  refine (eqIntS_c _ _ r1 r1 _ og6.rd og3.rd).mono ?_
  rintro e w11 ⟨rfl, d11⟩
  have b11 := d11.below w10.heap.size
  rw [eqI_self]
  replace oy1 := oy1.below b11
  replace og2 := og2.below b11
  replace og3 := og3.below b11
  replace my4 := my4.below b11
  replace og5 := og5.below b11
  replace og6 := og6.below b11
  replace oy7 := oy7.below b11
  replace bt := bt.trans (b11.mono bt.size)
  have z11 := b11.size
  go_wp2_with fail
  refine (markIntS_c _ r0 (1) _ _ og5 (by omega) (by omega) (by omega)).mono ?_
  rintro e w12 ⟨rfl, mg5, gr12⟩
  have ch12 : Chg (w3.heap.size) (w4.heap.size) w11 w12 := Chg.row gr12 (fun k e => ⟨(og5.lt k e).1, tg5 k e⟩)
  replace oy1 := oy1.chg ch12 (fun k e => by have h1 := (oy1.lt k e).1; have h2 := ty1 k e; omega)
  replace og2 := og2.chg ch12 (fun k e => by have h1 := (og2.lt k e).1; have h2 := tg2 k e; omega)
  replace og3 := og3.chg ch12 (fun k e => by have h1 := (og3.lt k e).1; have h2 := tg3 k e; omega)
  replace my4 := my4.chg ch12 (fun k e => by have h1 := (my4.lt k e).1; have h2 := ty4 k e; omega)
  replace og6 := og6.apart gr12 (fun k e1 e2 => ap4 k e2 e1)
  replace oy7 := oy7.chg ch12 (fun k e => by have h1 := (oy7.lt k e).1; have h2 := ty7 k e; omega)
  replace bt := below_chg bt ch12 (by omega) (Nat.le_refl _)
  have z12 := ch12.size
  go_wp2_with fail
  refine (markIntS_c _ r1 (1 + (r0.length : Int)) _ _ og6 (by omega) (by omega) (by omega)).mono ?_
  rintro e w13 ⟨rfl, mg6, gr13⟩
  have ch13 : Chg (w3.heap.size) (w4.heap.size) w12 w13 := Chg.row gr13 (fun k e => ⟨(og6.lt k e).1, tg6 k e⟩)
  replace oy1 := oy1.chg ch13 (fun k e => by have h1 := (oy1.lt k e).1; have h2 := ty1 k e; omega)
  replace og2 := og2.chg ch13 (fun k e => by have h1 := (og2.lt k e).1; have h2 := tg2 k e; omega)
  replace og3 := og3.chg ch13 (fun k e => by have h1 := (og3.lt k e).1; have h2 := tg3 k e; omega)
  replace my4 := my4.chg ch13 (fun k e => by have h1 := (my4.lt k e).1; have h2 := ty4 k e; omega)
  replace mg5 := mg5.apart gr13 (fun k e1 e2 => ap4 k e1 e2)
  replace oy7 := oy7.chg ch13 (fun k e => by have h1 := (oy7.lt k e).1; have h2 := ty7 k e; omega)
  replace bt := below_chg bt ch13 (by omega) (Nat.le_refl _)
  have z13 := ch13.size
  go_wp2_with fail
  refine (heldIntS_c _ r0.length (1) _ mg5.rd (by omega) (by omega) (by omega)).mono ?_
  rintro e w' ⟨rfl, rfl⟩
  go_wp2_with fail
  refine (heldIntS_c _ r1.length (1 + (r0.length : Int)) _ mg6.rd (by omega) (by omega) (by omega)).mono ?_
  rintro e w' ⟨rfl, rfl⟩
  go_wp2_with fail
  refine (toIntS_c _ xtimes _ (hxtimes.below bt) (by omega)).mono ?_
  rintro e w14 ⟨vy8, rfl, oy8, b14⟩
  replace oy1 := oy1.below b14
  replace og2 := og2.below b14
  replace og3 := og3.below b14
  replace my4 := my4.below b14
  replace mg5 := mg5.below b14
  replace mg6 := mg6.below b14
  replace oy7 := oy7.below b14
  replace bt := bt.trans (b14.mono bt.size)
  have z14 := b14.size
  go_wp2_with fail
  refine ((GI.out _ _ oy8.rd)).mono ?_
  rintro e w15 ⟨vg9, vg10, rfl, og9, og10, ap15, b15⟩
  replace oy1 := oy1.below b15
  replace og2 := og2.below b15
  replace og3 := og3.below b15
  replace my4 := my4.below b15
  replace mg5 := mg5.below b15
  replace mg6 := mg6.below b15
  replace oy7 := oy7.below b15
  replace oy8 := oy8.below b15
  replace bt := bt.trans (b15.mono bt.size)
  have z15 := b15.size
  go_wp2_with fail
  refine (eqIntS_c _ _ r0 r0 _ og9.rd og2.rd).mono ?_
  rintro e w16 ⟨rfl, d16⟩
  have b16 := d16.below w15.heap.size
  rw [eqI_self]
  replace oy1 := oy1.below b16
  replace og2 := og2.below b16
  replace og3 := og3.below b16
  replace my4 := my4.below b16
  replace mg5 := mg5.below b16
  replace mg6 := mg6.below b16
  replace oy7 := oy7.below b16
  replace oy8 := oy8.below b16
  replace og9 := og9.below b16
  replace og10 := og10.below b16
  replace bt := bt.trans (b16.mono bt.size)
  have z16 := b16.size
  go_wp2_with fail
  refine (eqIntS_c _ _ r1 r1 _ og10.rd og3.rd).mono ?_
  rintro e w17 ⟨rfl, d17⟩
  have b17 := d17.below w16.heap.size
  rw [eqI_self]
  replace oy1 := oy1.below b17
  replace og2 := og2.below b17
  replace og3 := og3.below b17
  replace my4 := my4.below b17
  replace mg5 := mg5.below b17
  replace mg6 := mg6.below b17
  replace oy7 := oy7.below b17
  replace oy8 := oy8.below b17
  replace og9 := og9.below b17
  replace og10 := og10.below b17
  replace bt := bt.trans (b17.mono bt.size)
  have z17 := b17.size
  go_wp2_with fail
  refine (heldIntS_c _ r0.length (1) _ mg5.rd (by omega) (by omega) (by omega)).mono ?_
  rintro e w' ⟨rfl, rfl⟩
  go_wp2_with fail
  refine (heldIntS_c _ r1.length (1 + (r0.length : Int)) _ mg6.rd (by omega) (by omega) (by omega)).mono ?_
  rintro e w' ⟨rfl, rfl⟩
  go_wp2_with fail
  go_ret
  exact ⟨rfl, bt⟩

end Go.Proofs.Ytlbakbachcpifaa
