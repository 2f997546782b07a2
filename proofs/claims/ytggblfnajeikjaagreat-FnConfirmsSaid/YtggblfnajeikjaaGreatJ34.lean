/- Joined texts of the proof: ConfI. -/
import Derived.WalkKit
import Derived.WalkSpells
import Derived.WalkLawsBesides
import Derived.Deep.Draws
import Derived.Lib.Hide
import Derived.RegionTactic
import Derived.Test.YtggblfnajeikjaaGreatRows
import Derived.BigQuiet
import Derived.Deep.QuietTactic
import Derived.Deep.RegionHeld3
import Derived.Deep.DeepCutAuto
import Derived.Deep.LoopGhost
import Derived.IntWalk
import Derived.Laws.BitsAllLaws
import Derived.Laws.BitsLemmas
import Derived.Deep.RegionLaw
import Derived.Lib.AppendZeros
import Derived.Lib.LazyBuf
import Derived.Lib.ItoaNum
import Derived.Deep.RegionWith
import Derived.Test.YtggblfnajeikjaaGreatJ1
import Derived.Test.YtggblfnajeikjaaGreatJ2
import Derived.Test.YtggblfnajeikjaaGreatJ4
import Derived.Test.YtggblfnajeikjaaGreatJ6
import Derived.Test.YtggblfnajeikjaaGreatJ8
import Derived.Test.YtggblfnajeikjaaGreatJ9
import Derived.Test.YtggblfnajeikjaaGreatJ10
import Derived.Test.YtggblfnajeikjaaGreatJ11
import Derived.Test.YtggblfnajeikjaaGreatJ12
import Derived.Test.YtggblfnajeikjaaGreatJ13
import Derived.Test.YtggblfnajeikjaaGreatJ17
import Derived.Test.YtggblfnajeikjaaGreatJ21
import Derived.Test.YtggblfnajeikjaaGreatJ22
import Derived.Test.YtggblfnajeikjaaGreatJ25
import Derived.Test.YtggblfnajeikjaaGreatJ26
import Derived.Test.YtggblfnajeikjaaGreatJ29
import Derived.Test.YtggblfnajeikjaaGreatJ30
import Derived.Test.YtggblfnajeikjaaGreatJ31
namespace Go.Proofs.YtggblfnajeikjaaGreat
open Go.RowKit
set_option linter.unusedVariables false
set_option linter.unusedSimpArgs false

set_option maxHeartbeats 1000000 in
theorem i_CountUnsorted (N : Nat) (v : Value) (xss : List (List Int)) (w : World) (h : Rd2 w v xss) (hk : netOk (N : Int) xss = true) : Calls Tryz.prog 46 #[.agg #[.int .i64 N, v]] w (RetB (.int .i64 ((unsN N xss (2 ^ N)).length : Nat)) w) := by
  obtain ⟨N', e, hN1, hN8, hL60⟩ := netOk_n hk
  obtain rfl : N = N' := by omega
  clear e
  obtain ⟨a, c, rfl, _, _⟩ := h.form
  generalize hm : xss.length = m at *
  obtain ⟨w0, bx, hw0, hbx, hX0, hz0, hb0⟩ := newBox w (.cells #[.int .i64 N, .slice a m c] 25)
  have HW0 := Lib.hid hw0
  have HBX := Lib.hid hbx
  have HNK := Lib.hid (hk ▸ i_NetworkOk (N : Int) _ xss w0 (h.below hb0) (by unfold I64; omega))
  have HUN := Lib.hid (fun (W : World) (hW : Below w.heap.size w W) => i_unsorted N _ xss W (h.below hW) hk)
  have q0 := box_cell hX0 0
  have q1 := box_cell hX0 1
  clear hw0 hbx hk h hm
  go_enter Tryz.func46, Tryz.ntmps46
  go_upto_region 1 with (fail)
  rw [HW0.out, HBX.out]
  go_wp2_with (first
    | (go_at_call 48; refine HNK.out.mono ?_; rintro e w1 ⟨rfl, b1⟩; have q2 := (b1.cell (World.block_lt_of_cell? _ _ q0)).trans q0; have q3 := (b1.cell (World.block_lt_of_cell? _ _ q1)).trans q1; have bt := hb0.trans (b1.mono hb0.size))
    | (go_at_call 90; refine (HUN.out _ bt).mono ?_; rintro e w2 ⟨v2, rfl, o2, b2⟩; obtain ⟨a2, m2, c2, rfl, HM2, _, _⟩ := o2.rd.formN))
  go_ret
  exact ⟨by show Ending.returned (.int .i64 (m2 : Int)) = _; rw [HM2.out], bt.trans (b2.mono bt.size)⟩

def sortsB (N : Nat) (xss : List (List Int)) : Bool := decide ((unsN N xss (2 ^ N)).length = 0)
set_option maxHeartbeats 1000000 in
theorem i_IsSorting (N : Nat) (v : Value) (xss : List (List Int)) (w : World) (h : Rd2 w v xss) (hk : netOk (N : Int) xss = true) : Calls Tryz.prog 8 #[.agg #[.int .i64 N, v]] w (RetB (.bool (sortsB N xss)) w) := by
  obtain ⟨a, c, rfl, _, _⟩ := h.form
  generalize hm : xss.length = m at *
  obtain ⟨w0, bx, hw0, hbx, hX0, hz0, hb0⟩ := newBox w (.cells #[.int .i64 N, .slice a m c] 25)
  have HW0 := Lib.hid hw0
  have HBX := Lib.hid hbx
  have HC := Lib.hid (i_CountUnsorted N _ xss w0 (h.below hb0) hk)
  have q0 := box_cell hX0 0
  have q1 := box_cell hX0 1
  obtain ⟨r, hr⟩ : ∃ r, (unsN N xss (2 ^ N)).length = r := ⟨_, rfl⟩
  have HR : Hid (sortsB N xss = decide (r = 0)) := by rw [Hid, sortsB, hr]
  rw [hr] at HC
  clear hw0 hbx hk h hm hr
  have hd : ((r : Int) == 0) = decide (r = 0) := by
    by_cases e : r = 0
    · subst e; rfl
    · rw [decide_eq_false e, beq_eq_false_iff_ne]; omega
  go_enter Tryz.func8, Tryz.ntmps8
  go_upto_region 1 with (fail)
  rw [HW0.out, HBX.out]
  go_wp2_with (go_at_call 46; refine HC.out.mono ?_; rintro e w1 ⟨rfl, b1⟩)
  go_ret
  exact ⟨by show Ending.returned (.bool (decide (r = 0))) = _; rw [HR.out], hb0.trans (b1.mono hb0.size)⟩

theorem con0_ok : netOk ((4 : Nat) : Int) con0 = true := by decide +kernel
theorem con0_sorts : sortsB 4 con0 = true := by decide +kernel
theorem con0_depth : depthOf 4 con0 = 3 := by decide +kernel
set_option maxHeartbeats 2000000 in
theorem i_IsShortest4 (v : Value) (w : World) (h : Rd2 w v con0) : Calls Tryz.prog 9 #[.agg #[.int .i64 4, v]] w (RetB (.bool true) w) := by
  obtain ⟨a, m, c, rfl, hm⟩ : ∃ (a : Option Addr) (m c : Nat), v = .slice a m c ∧ m = con0.length := by
    obtain ⟨a, c, h1, _, _⟩ := h.form
    exact ⟨a, _, c, h1, rfl⟩
  obtain rfl : m = 5 := hm
  obtain ⟨w0, bx, hw0, hbx, hX0, hz0, hb0⟩ := newBox w (.cells #[.int .i64 4, .slice a 5 c] 25)
  have HW0 := Lib.hid hw0
  have HBX := Lib.hid hbx
  have HS : Hid (∀ W : World, Below w0.heap.size w0 W → Calls Tryz.prog 8 #[.agg #[.int .i64 4, .slice a 5 c]] W (RetB (.bool true) W)) := fun W hW => con0_sorts ▸ i_IsSorting 4 _ con0 W ((h.below hb0).below hW) con0_ok
  have HP := Lib.hid (fun W => i_LeastPairs4 W)
  have HT : Hid (∀ wx : World, Below w0.heap.size w0 wx → wx.cell? ⟨bx, 0, none⟩ = some (.int .i64 4) ∧ wx.cell? ⟨bx, 1, none⟩ = some (.slice a 5 c)) := fun wx hb => ⟨box_cell ((hb.block bx hz0).trans hX0) 0, box_cell ((hb.block bx hz0).trans hX0) 1⟩
  have q0 := box_cell hX0 0
  have q1 := box_cell hX0 1
  clear hw0 hbx h
  go_enter Tryz.func9, Tryz.ntmps9
  go_upto_region 1 with (fail)
  rw [HW0.out, HBX.out]
  go_region_held3 (fun wx => wx.cell? ⟨bx, 0, none⟩ = some (.int .i64 4) ∧ wx.cell? ⟨bx, 1, none⟩ = some (.slice a 5 c))
    (first | exact HT.out _ g2 | exact HT.out _ g1 | go_keep)
    (first
      | (go_at_call 8; refine (HS.out _ (by exact ⟨rfl, rfl, rfl, Nat.le_refl _, fun _ _ => rfl⟩)).mono ?_; rintro e w1 ⟨rfl, h1⟩; have g1 : Below w0.heap.size w0 w1 := (by exact ⟨h1.os, h1.tape, h1.output, h1.size, h1.block⟩))
      | (go_at_call 47; refine (HP.out _).mono ?_; rintro e w2 ⟨rfl, h2⟩; have g2 := g1.trans (h2.mono g1.size)))
  all_goals
    go_wp2_with fail
    go_ret
    exact ⟨rfl, hb0.trans (g2.mono hb0.size)⟩

end Go.Proofs.YtggblfnajeikjaaGreat
