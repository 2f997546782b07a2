/- The walk of the law FnExactMergeLine. -/
import Derived.Test.YtlmbaijkeahkfaaDoorMergeLineJ
namespace Go.Proofs.YtlmbaijkeahkfaaDoor
open Go.RowKit
set_option linter.unusedVariables false
set_option linter.unusedSimpArgs false

set_option maxRecDepth 100000 in
set_option maxHeartbeats 4000000 in
theorem law_MergeLine (w : World) (vxruns : Value) (xruns : List Int) (hxruns : Rd w vxruns (ints xruns)) (fxruns : I64s xruns) (ht : Tab w) : Calls Tryd.prog 3 #[vxruns] w (Law w) := by
  obtain ⟨axruns, cxruns, rfl, _, hcxruns⟩ := hxruns.formi
  by_cases lxruns : xruns.length ≤ 1048576
  case neg =>
    have hd : decide ((xruns.length : Int) > 1048576) = true := by simp; omega
    go_enter Tryd.func3, Tryd.ntmps3
    go_wp2_with fail
    go_ret
    exact ⟨rfl, Below.refl _ _⟩
  have dxruns : decide ((xruns.length : Int) > 1048576) = false := by simp; omega
  obtain ⟨r0, HS, HI⟩ : ∃ (r0 : ByteArray), 
      (∀ (W : World) (Vxruns : Value) (Hxruns : Rd W Vxruns (ints xruns)), Calls Tryd.prog 9 #[Vxruns] W (RetB (.string r0) W)) ∧
      (∀ (W : World) (Vxruns : Value) (Hxruns : Rd W Vxruns (ints xruns)) (ht : Tab W), Calls Tryd.prog 11 #[Vxruns] W (RetB (.string r0) W)) :=
    ⟨_, fun W Vxruns Hxruns => S_MergeLine W Vxruns xruns Hxruns fxruns lxruns, fun W Vxruns Hxruns ht => I_MergeLine W Vxruns xruns Hxruns fxruns lxruns ht⟩
  have GS := Lib.hid HS
  have GI := Lib.hid HI
  clear HS HI
  go_enter Tryd.func3, Tryd.ntmps3
  have bt : Below w.heap.size w w := Below.refl _ _
  go_wp2_with fail
  refine (toIntS_c _ xruns _ (hxruns.below bt) (by omega)).mono ?_
  rintro e w1 ⟨vy1, rfl, oy1, b1⟩
  replace bt := bt.trans (b1.mono bt.size)
  have z1 := b1.size
  go_wp2_with fail
  refine ((GS.out _ _ oy1.rd)).mono ?_
  rintro e w2 ⟨rfl, b2⟩
  replace oy1 := oy1.below b2
  replace bt := bt.trans (b2.mono bt.size)
  have z2 := b2.size
  go_wp2_with fail
  refine (toIntS_c _ xruns _ (hxruns.below bt) (by omega)).mono ?_
  rintro e w3 ⟨vy2, rfl, oy2, b3⟩
  replace oy1 := oy1.below b3
  replace bt := bt.trans (b3.mono bt.size)
  have z3 := b3.size
  go_wp2_with fail
  refine ((GI.out _ _ oy2.rd (ht.below bt))).mono ?_
  rintro e w4 ⟨rfl, b4⟩
  replace oy1 := oy1.below b4
  replace oy2 := oy2.below b4
  replace bt := bt.trans (b4.mono bt.size)
  have z4 := b4.size
  go_wp2_with fail
  refine (toIntS_c _ xruns _ (hxruns.below bt) (by omega)).mono ?_
  rintro e w5 ⟨vy3, rfl, oy3, b5⟩
  replace oy1 := oy1.below b5
  replace oy2 := oy2.below b5
  replace bt := bt.trans (b5.mono bt.size)
  have z5 := b5.size
  go_wp2_with fail
  refine (eqIntS_c _ _ xruns xruns _ oy2.rd oy3.rd).mono ?_
  rintro e w6 ⟨rfl, d6⟩
  have b6 := d6.below w5.heap.size
  rw [eqI_self]
  replace oy1 := oy1.below b6
  replace oy2 := oy2.below b6
  replace oy3 := oy3.below b6
  replace bt := bt.trans (b6.mono bt.size)
  have z6 := b6.size
  go_wp2_with fail
  go_ret
  exact ⟨rfl, bt⟩

end Go.Proofs.YtlmbaijkeahkfaaDoor
