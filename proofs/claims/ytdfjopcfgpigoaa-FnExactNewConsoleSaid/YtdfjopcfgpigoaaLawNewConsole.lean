/- The walk of the law FnExactNewConsole. -/
import Derived.Test.YtdfjopcfgpigoaaConsole2
import Derived.Test.YtdfjopcfgpigoaaNetLaw
namespace Go.Proofs.Ytdfjopcfgpigoaa
open Go.RowKit
set_option linter.unusedVariables false
set_option linter.unusedSimpArgs false

set_option maxRecDepth 100000 in
set_option maxHeartbeats 4000000 in
theorem law_NewConsole (w : World) : Calls Try.prog 12 #[] w (Law w) := by
  obtain ⟨r0, Br0, HS, HI⟩ : ∃ (r0 : Int × List (List Int)), SzOk r0.2 ∧
      (∀ (W : World), Calls Try.prog 47 #[] W (RetNet r0.1 r0.2 W)) ∧
      (∀ (W : World), Calls Try.prog 48 #[] W (RetNet r0.1 r0.2 W)) :=
    ⟨(4, con0), N_NewConsole, fun W => S_NewConsole W , fun W => I_NewConsole W ⟩
  have tBr0 := Br0.2
  have GS := Lib.hid HS
  have GI := Lib.hid HI
  clear HS HI
  go_enter Try.func12, Try.ntmps12
  have bt : Below w.heap.size w w := Below.refl _ _
  go_wp2_with fail
  refine ((GS.out _ )).mono ?_
  rintro e w1 ⟨vg1, rfl, og1, b1⟩
  obtain ⟨ag1, cg1, rfl, _, _⟩ := og1.form
  replace bt := bt.trans (b1.mono bt.size)
  have z1 := b1.size
  go_wp2_with fail
  obtain ⟨wa1, ba1, c10, c11, hwa1⟩ := box_store w1 (.int .i64 r0.1) (.slice ag1 r0.2.length cg1) 32
  rw [hwa1]
  clear hwa1
  replace og1 := og1.below ba1
  replace bt := bt.trans (ba1.mono bt.size)
  have za1 := ba1.size
  have la1 : w1.heap.size < wa1.heap.size := World.block_lt_of_cell? _ _ c10
  refine ((GI.out _ )).mono ?_
  rintro e w2 ⟨vg2, rfl, og2, b2⟩
  obtain ⟨ag2, cg2, rfl, _, _⟩ := og2.form
  replace og1 := og1.below b2
  replace c10 := (b2.cell (World.block_lt_of_cell? _ _ c10)).trans c10
  replace c11 := (b2.cell (World.block_lt_of_cell? _ _ c11)).trans c11
  replace bt := bt.trans (b2.mono bt.size)
  have z2 := b2.size
  have q210 : (w2.alloc (.cells #[.int .i64 r0.1, .slice ag2 r0.2.length cg2] 32)).cell? ⟨w1.heap.size, 0, none⟩ = some (.int .i64 r0.1) := (((Below.refl _ _).alloc (Nat.le_refl _) _).cell (World.block_lt_of_cell? _ _ c10)).trans c10
  have q211 : (w2.alloc (.cells #[.int .i64 r0.1, .slice ag2 r0.2.length cg2] 32)).cell? ⟨w1.heap.size, 1, none⟩ = some (.slice ag1 r0.2.length cg1) := (((Below.refl _ _).alloc (Nat.le_refl _) _).cell (World.block_lt_of_cell? _ _ c11)).trans c11
  go_wp2_with fail
  obtain ⟨wa2, ba2, c20, c21, hwa2⟩ := box_store w2 (.int .i64 r0.1) (.slice ag2 r0.2.length cg2) 32
  rw [hwa2]
  clear hwa2
  replace og1 := og1.below ba2
  replace og2 := og2.below ba2
  replace c10 := (ba2.cell (World.block_lt_of_cell? _ _ c10)).trans c10
  replace c11 := (ba2.cell (World.block_lt_of_cell? _ _ c11)).trans c11
  replace bt := bt.trans (ba2.mono bt.size)
  have za2 := ba2.size
  have la2 : w2.heap.size < wa2.heap.size := World.block_lt_of_cell? _ _ c20
  refine (eqNetwork_c r0.1 r0.1 _ _ r0.2 r0.2 _ og2.rd og1.rd).mono ?_
  rintro e w3 ⟨rfl, b3⟩
  rw [eqII_self]
  replace og1 := og1.below b3
  replace og2 := og2.below b3
  replace c10 := (b3.cell (World.block_lt_of_cell? _ _ c10)).trans c10
  replace c11 := (b3.cell (World.block_lt_of_cell? _ _ c11)).trans c11
  replace c20 := (b3.cell (World.block_lt_of_cell? _ _ c20)).trans c20
  replace c21 := (b3.cell (World.block_lt_of_cell? _ _ c21)).trans c21
  replace bt := bt.trans (b3.mono bt.size)
  have z3 := b3.size
  go_wp2_with fail
  refine (markNetwork_c r0.1 _ r0.2 (1) _ _ _ og2 (by assumption) (by omega) (by omega) (by omega)).mono ?_
  rintro e w4 ⟨rfl, mg2, ch4⟩
  replace og1 := og1.chg ch4 (by omega)
  replace c10 := (ch4.cell (World.block_lt_of_cell? _ _ c10) (by first | (simp; done) | (simp; omega))).trans c10
  replace c11 := (ch4.cell (World.block_lt_of_cell? _ _ c11) (by first | (simp; done) | (simp; omega))).trans c11
  replace c20 := (ch4.cell (World.block_lt_of_cell? _ _ c20) (by first | (simp; done) | (simp; omega))).trans c20
  replace c21 := (ch4.cell (World.block_lt_of_cell? _ _ c21) (by first | (simp; done) | (simp; omega))).trans c21
  replace bt := below_chg bt ch4 (by omega) (Nat.le_refl _)
  have z4 := ch4.size
  go_wp2_with fail
  refine (heldNetwork_c r0.1 _ r0.2 (1) _ mg2.rd (by assumption) (by omega) (by omega)).mono ?_
  rintro e w5 ⟨rfl, b5⟩
  replace og1 := og1.below b5
  replace mg2 := mg2.below b5
  replace c10 := (b5.cell (World.block_lt_of_cell? _ _ c10)).trans c10
  replace c11 := (b5.cell (World.block_lt_of_cell? _ _ c11)).trans c11
  replace c20 := (b5.cell (World.block_lt_of_cell? _ _ c20)).trans c20
  replace c21 := (b5.cell (World.block_lt_of_cell? _ _ c21)).trans c21
  replace bt := bt.trans (b5.mono bt.size)
  have z5 := b5.size
  go_wp2_with fail
  refine ((GI.out _ )).mono ?_
  rintro e w6 ⟨vg3, rfl, og3, b6⟩
  obtain ⟨ag3, cg3, rfl, _, _⟩ := og3.form
  replace og1 := og1.below b6
  replace mg2 := mg2.below b6
  replace c10 := (b6.cell (World.block_lt_of_cell? _ _ c10)).trans c10
  replace c11 := (b6.cell (World.block_lt_of_cell? _ _ c11)).trans c11
  replace c20 := (b6.cell (World.block_lt_of_cell? _ _ c20)).trans c20
  replace c21 := (b6.cell (World.block_lt_of_cell? _ _ c21)).trans c21
  replace bt := bt.trans (b6.mono bt.size)
  have z6 := b6.size
  have q310 : (w6.alloc (.cells #[.int .i64 r0.1, .slice ag3 r0.2.length cg3] 32)).cell? ⟨w1.heap.size, 0, none⟩ = some (.int .i64 r0.1) := (((Below.refl _ _).alloc (Nat.le_refl _) _).cell (World.block_lt_of_cell? _ _ c10)).trans c10
  have q311 : (w6.alloc (.cells #[.int .i64 r0.1, .slice ag3 r0.2.length cg3] 32)).cell? ⟨w1.heap.size, 1, none⟩ = some (.slice ag1 r0.2.length cg1) := (((Below.refl _ _).alloc (Nat.le_refl _) _).cell (World.block_lt_of_cell? _ _ c11)).trans c11
  have q320 : (w6.alloc (.cells #[.int .i64 r0.1, .slice ag3 r0.2.length cg3] 32)).cell? ⟨w2.heap.size, 0, none⟩ = some (.int .i64 r0.1) := (((Below.refl _ _).alloc (Nat.le_refl _) _).cell (World.block_lt_of_cell? _ _ c20)).trans c20
  have q321 : (w6.alloc (.cells #[.int .i64 r0.1, .slice ag3 r0.2.length cg3] 32)).cell? ⟨w2.heap.size, 1, none⟩ = some (.slice ag2 r0.2.length cg2) := (((Below.refl _ _).alloc (Nat.le_refl _) _).cell (World.block_lt_of_cell? _ _ c21)).trans c21
  go_wp2_with fail
  obtain ⟨wa3, ba3, c30, c31, hwa3⟩ := box_store w6 (.int .i64 r0.1) (.slice ag3 r0.2.length cg3) 32
  rw [hwa3]
  clear hwa3
  replace og1 := og1.below ba3
  replace mg2 := mg2.below ba3
  replace og3 := og3.below ba3
  replace c10 := (ba3.cell (World.block_lt_of_cell? _ _ c10)).trans c10
  replace c11 := (ba3.cell (World.block_lt_of_cell? _ _ c11)).trans c11
  replace c20 := (ba3.cell (World.block_lt_of_cell? _ _ c20)).trans c20
  replace c21 := (ba3.cell (World.block_lt_of_cell? _ _ c21)).trans c21
  replace bt := bt.trans (ba3.mono bt.size)
  have za3 := ba3.size
  have la3 : w6.heap.size < wa3.heap.size := World.block_lt_of_cell? _ _ c30
  refine (eqNetwork_c r0.1 r0.1 _ _ r0.2 r0.2 _ og3.rd og1.rd).mono ?_
  rintro e w7 ⟨rfl, b7⟩
  rw [eqII_self]
  replace og1 := og1.below b7
  replace mg2 := mg2.below b7
  replace og3 := og3.below b7
  replace c10 := (b7.cell (World.block_lt_of_cell? _ _ c10)).trans c10
  replace c11 := (b7.cell (World.block_lt_of_cell? _ _ c11)).trans c11
  replace c20 := (b7.cell (World.block_lt_of_cell? _ _ c20)).trans c20
  replace c21 := (b7.cell (World.block_lt_of_cell? _ _ c21)).trans c21
  replace c30 := (b7.cell (World.block_lt_of_cell? _ _ c30)).trans c30
  replace c31 := (b7.cell (World.block_lt_of_cell? _ _ c31)).trans c31
  replace bt := bt.trans (b7.mono bt.size)
  have z7 := b7.size
  go_wp2_with fail
  refine (heldNetwork_c r0.1 _ r0.2 (1) _ mg2.rd (by assumption) (by omega) (by omega)).mono ?_
  rintro e w8 ⟨rfl, b8⟩
  replace og1 := og1.below b8
  replace mg2 := mg2.below b8
  replace og3 := og3.below b8
  replace c10 := (b8.cell (World.block_lt_of_cell? _ _ c10)).trans c10
  replace c11 := (b8.cell (World.block_lt_of_cell? _ _ c11)).trans c11
  replace c20 := (b8.cell (World.block_lt_of_cell? _ _ c20)).trans c20
  replace c21 := (b8.cell (World.block_lt_of_cell? _ _ c21)).trans c21
  replace c30 := (b8.cell (World.block_lt_of_cell? _ _ c30)).trans c30
  replace c31 := (b8.cell (World.block_lt_of_cell? _ _ c31)).trans c31
  replace bt := bt.trans (b8.mono bt.size)
  have z8 := b8.size
  go_wp2_with fail
  go_ret
  exact ⟨rfl, bt⟩

end Go.Proofs.Ytdfjopcfgpigoaa
