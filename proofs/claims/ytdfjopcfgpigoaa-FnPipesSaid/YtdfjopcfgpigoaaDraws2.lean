/- Walks: sizes and lists that are drawn. -/
import Derived.Test.YtdfjopcfgpigoaaDraws
import Derived.Test.YtdfjopcfgpigoaaApp
namespace Go.Proofs.Ytdfjopcfgpigoaa
open Go.RowKit
set_option linter.unusedVariables false
set_option linter.unusedSimpArgs false

theorem Cur.turn {w w' : World} {g : Nat} {vb : Value} {xs : List Int} {row : Option Nat} (hC : Cur w g vb xs) (hg : w.grownBy w' row) (hne : row ≠ some g) (hrd : Rd w' vb (bytesV xs)) : Cur w' g vb xs := by
  obtain ⟨⟨i, hh, hi, c0, c1, c2, f1, f2⟩, _, hn⟩ := hC
  have hlt : g < w.heap.size := World.block_lt_of_cell? w _ c0
  have hb := hg.block g hlt (fun e => hne e.symm)
  exact ⟨⟨i, hh, hi, (World.cell?_of_block (w := w) (a := ⟨g, 0, none⟩) hb).trans c0, (World.cell?_of_block (w := w) (a := ⟨g, 1, none⟩) hb).trans c1, (World.cell?_of_block (w := w) (a := ⟨g, 2, none⟩) hb).trans c2, (World.frozen?_of_block (w := w) (a := ⟨g, 1, none⟩) hb).trans f1, (World.frozen?_of_block (w := w) (a := ⟨g, 2, none⟩) hb).trans f2⟩, hrd, hn⟩
theorem Cur.below {w w' : World} {g : Nat} {vb : Value} {xs : List Int} (hC : Cur w g vb xs) (hb : Below w.heap.size w w') : Cur w' g vb xs :=
  hC.turn (row := none) ⟨hb.os, hb.tape, hb.output, hb.size, fun i hi _ => hb.block i hi⟩ (by simp) (hC.rd.below hb)

end Go.Proofs.Ytdfjopcfgpigoaa
