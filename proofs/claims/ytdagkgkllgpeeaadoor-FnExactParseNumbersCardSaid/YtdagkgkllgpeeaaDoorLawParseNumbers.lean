/- The walk of the law FnExactParseNumbers. -/
import Derived.Test.YtdagkgkllgpeeaaDoorParseN
namespace Go.Proofs.YtdagkgkllgpeeaaDoor
open Go.RowKit
set_option linter.unusedVariables false
set_option linter.unusedSimpArgs false

set_option maxRecDepth 100000 in
set_option maxHeartbeats 4000000 in
theorem law_ParseNumbers (w : World) (xtext : ByteArray) (hxtext : xtext.size ≤ maxLen) (ht : TabE w) : Calls Tryd.prog 4 #[.string xtext] w (Law w) := by
  by_cases lxtext : xtext.size ≤ 1048576
  case neg =>
    have hd : decide ((xtext.size : Int) > 1048576) = true := by simp; omega
    go_enter Tryd.func4, Tryd.ntmps4
    go_wp2_with fail
    go_ret
    exact ⟨rfl, Below.refl _ _⟩
  have dxtext : decide ((xtext.size : Int) > 1048576) = false := by simp; omega
  obtain ⟨r0, r1, Br0, HS, HI⟩ : ∃ (r0 : List Int) (r1 : Bool), r0.length ≤ 2000000 ∧
      (∀ (W : World), Calls Tryd.prog 18 #[.string xtext] W (RetOwnB 3 (ints r0) r1 W)) ∧
      (∀ (W : World) (ht : TabE W), Calls Tryd.prog 19 #[.string xtext] W (RetOwnB 3 (ints r0) r1 W)) :=
    ⟨_, _, N_ParseNumbers xtext lxtext, fun W => S_ParseNumbers W xtext hxtext lxtext, fun W ht => I_ParseNumbers W xtext hxtext lxtext ht⟩
  have GS := Lib.hid HS
  have GI := Lib.hid HI
  clear HS HI
  go_enter Tryd.func4, Tryd.ntmps4
  have bt : Below w.heap.size w w := Below.refl _ _
  go_wp2_with fail
  refine ((GS.out _ )).mono ?_
  rintro e w1 ⟨vg1, rfl, og1, b1⟩
  have tg1 : ∀ k, vg1.ownBlock = some k → k < w1.heap.size := fun k e => (og1.lt k e).2
  replace bt := bt.trans (b1.mono bt.size)
  have z1 := b1.size
  go_wp2_with fail
  refine ((GI.out _ (ht.below bt))).mono ?_
  rintro e w2 ⟨vg2, rfl, og2, b2⟩
  have tg2 : ∀ k, vg2.ownBlock = some k → k < w2.heap.size := fun k e => (og2.lt k e).2
  replace og1 := og1.below b2
  replace bt := bt.trans (b2.mono bt.size)
  have z2 := b2.size
  go_wp2_with fail
  refine (eqIntS_c _ _ r0 r0 _ og2.rd og1.rd).mono ?_
  rintro e w3 ⟨rfl, d3⟩
  have b3 := d3.below w2.heap.size
  rw [eqI_self]
  replace og1 := og1.below b3
  replace og2 := og2.below b3
  replace bt := bt.trans (b3.mono bt.size)
  have z3 := b3.size
  go_wp2_with fail
  refine (markIntS_c _ r0 (1) _ _ og2 (by omega) (by omega) (by omega)).mono ?_
  rintro e w4 ⟨rfl, mg2, gr4⟩
  have ch4 : Chg (w1.heap.size) (w2.heap.size) w3 w4 := Chg.row gr4 (fun k e => ⟨(og2.lt k e).1, tg2 k e⟩)
  replace og1 := og1.chg ch4 (fun k e => by have h1 := (og1.lt k e).1; have h2 := tg1 k e; omega)
  replace bt := below_chg bt ch4 (by omega) (Nat.le_refl _)
  have z4 := ch4.size
  go_wp2_with fail
  refine (heldIntS_c _ r0.length (1) _ mg2.rd (by omega) (by omega) (by omega)).mono ?_
  rintro e w' ⟨rfl, rfl⟩
  go_wp2_with fail
  refine ((GI.out _ (ht.below bt))).mono ?_
  rintro e w5 ⟨vg3, rfl, og3, b5⟩
  replace og1 := og1.below b5
  replace mg2 := mg2.below b5
  replace bt := bt.trans (b5.mono bt.size)
  have z5 := b5.size
  go_wp2_with fail
  refine (eqIntS_c _ _ r0 r0 _ og3.rd og1.rd).mono ?_
  rintro e w6 ⟨rfl, d6⟩
  have b6 := d6.below w5.heap.size
  rw [eqI_self]
  replace og1 := og1.below b6
  replace mg2 := mg2.below b6
  replace og3 := og3.below b6
  replace bt := bt.trans (b6.mono bt.size)
  have z6 := b6.size
  go_wp2_with fail
  refine (heldIntS_c _ r0.length (1) _ mg2.rd (by omega) (by omega) (by omega)).mono ?_
  rintro e w' ⟨rfl, rfl⟩
  go_wp2_with fail
  go_ret
  exact ⟨rfl, bt⟩

end Go.Proofs.YtdagkgkllgpeeaaDoor
