/- The walk of the law FnExactDelaysOf. -/
import Derived.Test.YtlbakbachcpifaaLateFns
namespace Go.Proofs.Ytlbakbachcpifaa
open Go.RowKit
set_option linter.unusedVariables false
set_option linter.unusedSimpArgs false

set_option maxRecDepth 100000 in
set_option maxHeartbeats 4000000 in
theorem law_DelaysOf (w : World) (vxtimes : Value) (xtimes : List Int) (hxtimes : Rd w vxtimes (ints xtimes)) (fxtimes : I64s xtimes) (xslack : Int) (_ : I64 xslack) : Calls Try.prog 6 #[vxtimes, .int .i64 xslack] w (Law w) := by
  obtain ⟨axtimes, cxtimes, rfl, _, hcxtimes⟩ := hxtimes.formi
  by_cases lxtimes : xtimes.length ≤ 1048576
  case neg =>
    have hd : decide ((xtimes.length : Int) > 1048576) = true := by simp; omega
    go_enter Try.func6, Try.ntmps6
    go_wp2_with fail
    go_ret
    exact ⟨rfl, Below.refl _ _⟩
  have dxtimes : decide ((xtimes.length : Int) > 1048576) = false := by simp; omega
  obtain ⟨r0, Br0, HS, HI⟩ : ∃ (r0 : List Int), r0.length ≤ 2000000 ∧
      (∀ (W : World) (Vxtimes : Value) (Hxtimes : Rd W Vxtimes (ints xtimes)), Calls Try.prog 32 #[Vxtimes, .int .i64 xslack] W (RetOwn 3 (ints r0) W)) ∧
      (∀ (W : World) (Vxtimes : Value) (Hxtimes : Rd W Vxtimes (ints xtimes)), Calls Try.prog 23 #[Vxtimes, .int .i64 xslack] W (RetOwn 3 (ints r0) W)) :=
    ⟨_, N_DelaysOf xtimes lxtimes xslack, fun W Vxtimes Hxtimes => S_DelaysOf W Vxtimes xtimes Hxtimes fxtimes lxtimes xslack (by assumption), fun W Vxtimes Hxtimes => I_DelaysOf W Vxtimes xtimes Hxtimes fxtimes lxtimes xslack (by assumption)⟩
  have GS := Lib.hid HS
  have GI := Lib.hid HI
  clear HS HI
  go_enter Try.func6, Try.ntmps6
  have bt : Below w.heap.size w w := Below.refl _ _
  go_wp2_with fail
  refine (toIntS_c _ xtimes _ (hxtimes.below bt) (by omega)).mono ?_
  rintro e w1 ⟨vy1, rfl, oy1, b1⟩
  have ty1 : ∀ k, vy1.ownBlock = some k → k < w1.heap.size := fun k e => (oy1.lt k e).2
  replace bt := bt.trans (b1.mono bt.size)
  have z1 := b1.size
  go_wp2_with fail
  refine ((GS.out _ _ oy1.rd)).mono ?_
  rintro e w2 ⟨vg2, rfl, og2, b2⟩
  have tg2 : ∀ k, vg2.ownBlock = some k → k < w2.heap.size := fun k e => (og2.lt k e).2
  replace oy1 := oy1.below b2
  replace bt := bt.trans (b2.mono bt.size)
  have z2 := b2.size
  go_wp2_with fail
  refine (toIntS_c _ xtimes _ (hxtimes.below bt) (by omega)).mono ?_
  rintro e w3 ⟨vy3, rfl, oy3, b3⟩
  have ty3 : ∀ k, vy3.ownBlock = some k → k < w3.heap.size := fun k e => (oy3.lt k e).2
  replace oy1 := oy1.below b3
  replace og2 := og2.below b3
  replace bt := bt.trans (b3.mono bt.size)
  have z3 := b3.size
  go_wp2_with fail
  refine ((GI.out _ _ oy3.rd)).mono ?_
  rintro e w4 ⟨vg4, rfl, og4, b4⟩
  have tg4 : ∀ k, vg4.ownBlock = some k → k < w4.heap.size := fun k e => (og4.lt k e).2
  replace oy1 := oy1.below b4
  replace og2 := og2.below b4
  replace oy3 := oy3.below b4
  replace bt := bt.trans (b4.mono bt.size)
  have z4 := b4.size
  go_wp2_with fail
  refine (eqIntS_c _ _ r0 r0 _ og4.rd og2.rd).mono ?_
  rintro e w5 ⟨rfl, d5⟩
  have b5 := d5.below w4.heap.size
  rw [eqI_self]
  replace oy1 := oy1.below b5
  replace og2 := og2.below b5
  replace oy3 := oy3.below b5
  replace og4 := og4.below b5
  replace bt := bt.trans (b5.mono bt.size)
  have z5 := b5.size
  go_wp2_with fail
  refine (toIntS_c _ xtimes _ (hxtimes.below bt) (by omega)).mono ?_
  rintro e w6 ⟨vy5, rfl, oy5, b6⟩
  have ty5 : ∀ k, vy5.ownBlock = some k → k < w6.heap.size := fun k e => (oy5.lt k e).2
  replace oy1 := oy1.below b6
  replace og2 := og2.below b6
  replace oy3 := oy3.below b6
  replace og4 := og4.below b6
  replace bt := bt.trans (b6.mono bt.size)
  have z6 := b6.size
  go_wp2_with fail
  refine (eqIntS_c _ _ xtimes xtimes _ oy3.rd oy5.rd).mono ?_
  rintro e w7 ⟨rfl, d7⟩
  have b7 := d7.below w6.heap.size
  rw [eqI_self]
  replace oy1 := oy1.below b7
  replace og2 := og2.below b7
  replace oy3 := oy3.below b7
  replace og4 := og4.below b7
  replace oy5 := oy5.below b7
  replace bt := bt.trans (b7.mono bt.size)
  have z7 := b7.size
  go_wp2_with fail
  refine (markIntS_c _ xtimes (1) _ _ oy3 (by omega) (by omega) (by omega)).mono ?_
  rintro e w8 ⟨rfl, my3, gr8⟩
  have ch8 : Chg (w2.heap.size) (w3.heap.size) w7 w8 := Chg.row gr8 (fun k e => ⟨(oy3.lt k e).1, ty3 k e⟩)
  replace oy1 := oy1.chg ch8 (fun k e => by have h1 := (oy1.lt k e).1; have h2 := ty1 k e; omega)
  replace og2 := og2.chg ch8 (fun k e => by have h1 := (og2.lt k e).1; have h2 := tg2 k e; omega)
  replace og4 := og4.chg ch8 (fun k e => by have h1 := (og4.lt k e).1; have h2 := tg4 k e; omega)
  replace oy5 := oy5.chg ch8 (fun k e => by have h1 := (oy5.lt k e).1; have h2 := ty5 k e; omega)
  replace bt := below_chg bt ch8 (by omega) (Nat.le_refl _)
  have z8 := ch8.size
  go_wp2_with fail
  refine (eqIntS_c _ _ r0 r0 _ og4.rd og2.rd).mono ?_
  rintro e w9 ⟨rfl, d9⟩
  have b9 := d9.below w8.heap.size
  rw [eqI_self]
  replace oy1 := oy1.below b9
  replace og2 := og2.below b9
  replace my3 := my3.below b9
  replace og4 := og4.below b9
  replace oy5 := oy5.below b9
  replace bt := bt.trans (b9.mono bt.size)
  have z9 := b9.size
  go_wp2_with fail
  refine (markIntS_c _ r0 (1) _ _ og4 (by omega) (by omega) (by omega)).mono ?_
  rintro e w10 ⟨rfl, mg4, gr10⟩
  have ch10 : Chg (w3.heap.size) (w4.heap.size) w9 w10 := Chg.row gr10 (fun k e => ⟨(og4.lt k e).1, tg4 k e⟩)
  replace oy1 := oy1.chg ch10 (fun k e => by have h1 := (oy1.lt k e).1; have h2 := ty1 k e; omega)
  replace og2 := og2.chg ch10 (fun k e => by have h1 := (og2.lt k e).1; have h2 := tg2 k e; omega)
  replace my3 := my3.chg ch10 (fun k e => by have h1 := (my3.lt k e).1; have h2 := ty3 k e; omega)
  replace oy5 := oy5.chg ch10 (fun k e => by have h1 := (oy5.lt k e).1; have h2 := ty5 k e; omega)
  replace bt := below_chg bt ch10 (by omega) (Nat.le_refl _)
  have z10 := ch10.size
  go_wp2_with fail
  refine (heldIntS_c _ r0.length (1) _ mg4.rd (by omega) (by omega) (by omega)).mono ?_
  rintro e w' ⟨rfl, rfl⟩
  go_wp2_with fail
  refine (toIntS_c _ xtimes _ (hxtimes.below bt) (by omega)).mono ?_
  rintro e w11 ⟨vy6, rfl, oy6, b11⟩
  replace oy1 := oy1.below b11
  replace og2 := og2.below b11
  replace my3 := my3.below b11
  replace mg4 := mg4.below b11
  replace oy5 := oy5.below b11
  replace bt := bt.trans (b11.mono bt.size)
  have z11 := b11.size
  go_wp2_with fail
  refine ((GI.out _ _ oy6.rd)).mono ?_
  rintro e w12 ⟨vg7, rfl, og7, b12⟩
  replace oy1 := oy1.below b12
  replace og2 := og2.below b12
  replace my3 := my3.below b12
  replace mg4 := mg4.below b12
  replace oy5 := oy5.below b12
  replace oy6 := oy6.below b12
  replace bt := bt.trans (b12.mono bt.size)
  have z12 := b12.size
  go_wp2_with fail
  refine (eqIntS_c _ _ r0 r0 _ og7.rd og2.rd).mono ?_
  rintro e w13 ⟨rfl, d13⟩
  have b13 := d13.below w12.heap.size
  rw [eqI_self]
  replace oy1 := oy1.below b13
  replace og2 := og2.below b13
  replace my3 := my3.below b13
  replace mg4 := mg4.below b13
  replace oy5 := oy5.below b13
  replace oy6 := oy6.below b13
  replace og7 := og7.below b13
  replace bt := bt.trans (b13.mono bt.size)
  have z13 := b13.size
  go_wp2_with fail
  refine (heldIntS_c _ r0.length (1) _ mg4.rd (by omega) (by omega) (by omega)).mono ?_
  rintro e w' ⟨rfl, rfl⟩
  go_wp2_with fail
  go_ret
  exact ⟨rfl, bt⟩

end Go.Proofs.Ytlbakbachcpifaa
