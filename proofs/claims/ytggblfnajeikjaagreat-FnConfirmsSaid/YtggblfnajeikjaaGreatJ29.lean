/- Joined texts of the proof: DrawsD, BoxP. -/
import Derived.WalkKit
import Derived.WalkSpells
import Derived.WalkLawsBesides
import Derived.Deep.Draws
import Derived.Lib.Hide
import Derived.RegionTactic
import Derived.Test.YtggblfnajeikjaaGreatRows
import Derived.BigQuiet
import Derived.Deep.QuietTactic
import Derived.Deep.RegionHeld3
import Derived.Deep.DeepCutAuto
import Derived.Deep.LoopGhost
import Derived.IntWalk
import Derived.Laws.BitsAllLaws
import Derived.Laws.BitsLemmas
import Derived.Deep.RegionLaw
import Derived.Test.YtggblfnajeikjaaGreatJ1
import Derived.Test.YtggblfnajeikjaaGreatJ2
import Derived.Test.YtggblfnajeikjaaGreatJ4
import Derived.Test.YtggblfnajeikjaaGreatJ6
import Derived.Test.YtggblfnajeikjaaGreatJ8
import Derived.Test.YtggblfnajeikjaaGreatJ11
import Derived.Test.YtggblfnajeikjaaGreatJ21
namespace Go.Proofs.YtggblfnajeikjaaGreat
open Go.RowKit
set_option linter.unusedVariables false
set_option linter.unusedSimpArgs false

/-- A network, and true. -/
def RetNetB (n : Int) (xss : List (List Int)) (w : World) (e : Ending) (w' : World) : Prop :=
  ∃ (a : Option Addr) (m c : Nat), e = .returned (.tuple #[.agg #[.int .i64 n, .slice a m c], .bool true]) ∧ OwnP w' w.heap.size (.slice a m c) xss ∧ Below w.heap.size w w'

theorem Cur.low {w w' : World} {g B : Nat} {vb : Value} {xs : List Int} (hC : Cur w g vb xs) (hb : Below B w w') (hg : g < B) (hrd : Rd w' vb (bytesV xs)) : Cur w' g vb xs := by
  obtain ⟨⟨i, hh, hi, c0, c1, c2, f1, f2⟩, _, hn⟩ := hC
  have hb := hb.block g hg
  exact ⟨⟨i, hh, hi, (World.cell?_of_block (w := w) (a := ⟨g, 0, none⟩) hb).trans c0, (World.cell?_of_block (w := w) (a := ⟨g, 1, none⟩) hb).trans c1, (World.cell?_of_block (w := w) (a := ⟨g, 2, none⟩) hb).trans c2, (World.frozen?_of_block (w := w) (a := ⟨g, 1, none⟩) hb).trans f1, (World.frozen?_of_block (w := w) (a := ⟨g, 2, none⟩) hb).trans f2⟩, hrd, hn⟩

end Go.Proofs.YtggblfnajeikjaaGreat

namespace Go.Proofs.YtggblfnajeikjaaGreat
open Go.RowKit
set_option linter.unusedVariables false
set_option linter.unusedSimpArgs false

section
variable {wr w6 : World} {F bx m c c6 : Nat} {n : Value} {a b6 : Option Addr} {rows : List Value} {xss : List (List Int)} {x y : Int}
/-- One pair more, stored back into the box. -/
theorem boxPush (HX : wr.heap[bx]? = some (.cells #[n, .slice a m c] F (0, 0))) (hF : F ≠ 33) (hF2 : F ≠ 3) (hov : Own wr 33 (bx + 1) (.slice a m c) rows) (hrp : RowsP wr (bx + 1) rows xss)
    (ho6 : Own w6 33 (bx + 1) (.slice b6 (m + 1) c6) (rows ++ [.slice (some ⟨wr.heap.size, 0, none⟩) 2 2])) (hg6 : (wr.alloc (.cells #[.int .i64 x, .int .i64 y] 3)).grownBy w6 (Value.slice a m c).ownBlock) :
    w6.cell? ⟨bx, 1, none⟩ = some (.slice a m c) ∧ w6.frozen? ⟨bx, 1, none⟩ = false ∧ (w6.setCell ⟨bx, 1, none⟩ (.slice b6 (m + 1) c6)).heap[bx]? = some (.cells #[n, .slice b6 (m + 1) c6] F (0, 0)) ∧
      OwnP (w6.setCell ⟨bx, 1, none⟩ (.slice b6 (m + 1) c6)) (bx + 1) (.slice b6 (m + 1) c6) (xss ++ [[x, y]]) ∧ bx + 1 ≤ (w6.setCell ⟨bx, 1, none⟩ (.slice b6 (m + 1) c6)).heap.size ∧ Below bx wr (w6.setCell ⟨bx, 1, none⟩ (.slice b6 (m + 1) c6)) := by
  have hsz : bx + 1 ≤ wr.heap.size := box_lt HX
  have hb1 : Below wr.heap.size wr (wr.alloc (.cells #[.int .i64 x, .int .i64 y] 3)) := (Below.refl _ _).alloc (Nat.le_refl _) _
  have hov1 := hov.below hb1
  have hne6 : ∀ q, q ≤ bx → some q ≠ (Value.slice a m c).ownBlock := fun q hq e => by have := (hov1.lt q e.symm).1; omega
  have hX6 : w6.heap[bx]? = _ := (hg6.block bx (by simp; omega) (hne6 bx (Nat.le_refl _))).trans ((Below.heap_alloc _ _ _ (by omega)).trans HX)
  have hz6 := hg6.size
  simp at hz6
  have hgs : w6.grownBy (w6.setCell ⟨bx, 1, none⟩ (.slice b6 (m + 1) c6)) (some bx) := ⟨rfl, rfl, rfl, by simp, fun q _ hq => heap_setCell_other w6 ⟨bx, 1, none⟩ q _ (fun e => hq (by rw [e]))⟩
  refine ⟨box_cell hX6 1, frozen_of_row w6 bx 1 _ _ hX6, heap_setCell_same w6 bx 1 _ _ _ hX6, (OwnP.push (hrp.below hb1) hov1 (heap_alloc_new wr _) hg6 ho6 hsz).under hgs (fun q hq => by cases hq; omega), by simp; omega, ?_⟩
  have hB6 : Below bx wr w6 := (hb1.mono (by omega)).grown hg6 (by simp; omega) (fun r hr => by have := (hov1.lt r hr).1; omega)
  exact hB6.setCell (by show bx ≤ bx; omega) _
end

end Go.Proofs.YtggblfnajeikjaaGreat
