/- Joined texts of the proof: Draws, Draws2, Draws3. -/
import Derived.WalkKit
import Derived.WalkSpells
import Derived.WalkLawsBesides
import Derived.Deep.Draws
import Derived.Lib.Hide
import Derived.RegionTactic
import Derived.Test.YtggblfnajeikjaaGreatRows
import Derived.BigQuiet
import Derived.Deep.QuietTactic
import Derived.Laws.BitsAllLaws
import Derived.Laws.BitsLemmas
import Derived.Test.YtggblfnajeikjaaGreatJ1
import Derived.Test.YtggblfnajeikjaaGreatJ2
import Derived.Test.YtggblfnajeikjaaGreatJ4
import Derived.Test.YtggblfnajeikjaaGreatJ6
namespace Go.Proofs.YtggblfnajeikjaaGreat
open Go.RowKit
set_option linter.unusedVariables false
set_option linter.unusedSimpArgs false

def bytesV (xs : List Int) : List Value := xs.map (Value.int .u8)
/-- A cursor that draws: what is drawn from, the place, the hash. -/
structure Cur (w : World) (g : Nat) (vb : Value) (xs : List Int) : Prop where
  ex : ∃ (i : Nat) (h : Int), i ≤ xs.length ∧ w.cell? ⟨g, 0, none⟩ = some vb ∧ w.cell? ⟨g, 1, none⟩ = some (.int .i64 i) ∧ w.cell? ⟨g, 2, none⟩ = some (.int .i64 h) ∧ w.frozen? ⟨g, 1, none⟩ = false ∧ w.frozen? ⟨g, 2, none⟩ = false
  rd : Rd w vb (bytesV xs)
  ne : xs = [] ∨ vb.ownBlock ≠ some g

theorem Cur.drewN {w : World} {g : Nat} {vb : Value} {xs : List Int} (h : Cur w g vb xs) (n : Nat) : Cur (w.drewN n) g vb xs := ⟨h.ex, h.rd.drewN n, h.ne⟩
theorem Rd.formB {w : World} {v : Value} {xs : List Int} (h : Rd w v (bytesV xs)) : ∃ (a : Option Addr) (m c : Nat), v = .slice a m c ∧ Hid (m = xs.length) ∧ m ≤ c ∧ c ≤ 9223372036854775807 := by
  obtain ⟨a, c, e, h2, h3⟩ := h.form
  simp only [bytesV, List.length_map] at e h2
  exact ⟨a, _, c, e, rfl, h2, h3⟩
end Go.Proofs.YtggblfnajeikjaaGreat

namespace Go.Proofs.YtggblfnajeikjaaGreat
open Go.RowKit
set_option linter.unusedVariables false
set_option linter.unusedSimpArgs false

theorem Cur.turn {w w' : World} {g : Nat} {vb : Value} {xs : List Int} {row : Option Nat} (hC : Cur w g vb xs) (hg : w.grownBy w' row) (hne : row ≠ some g) (hrd : Rd w' vb (bytesV xs)) : Cur w' g vb xs := by
  obtain ⟨⟨i, hh, hi, c0, c1, c2, f1, f2⟩, _, hn⟩ := hC
  have hlt : g < w.heap.size := World.block_lt_of_cell? w _ c0
  have hb := hg.block g hlt (fun e => hne e.symm)
  exact ⟨⟨i, hh, hi, (World.cell?_of_block (w := w) (a := ⟨g, 0, none⟩) hb).trans c0, (World.cell?_of_block (w := w) (a := ⟨g, 1, none⟩) hb).trans c1, (World.cell?_of_block (w := w) (a := ⟨g, 2, none⟩) hb).trans c2, (World.frozen?_of_block (w := w) (a := ⟨g, 1, none⟩) hb).trans f1, (World.frozen?_of_block (w := w) (a := ⟨g, 2, none⟩) hb).trans f2⟩, hrd, hn⟩
theorem Cur.below {w w' : World} {g : Nat} {vb : Value} {xs : List Int} (hC : Cur w g vb xs) (hb : Below w.heap.size w w') : Cur w' g vb xs :=
  hC.turn (row := none) ⟨hb.os, hb.tape, hb.output, hb.size, fun i hi _ => hb.block i hi⟩ (by simp) (hC.rd.below hb)

end Go.Proofs.YtggblfnajeikjaaGreat

namespace Go.Proofs.YtggblfnajeikjaaGreat
open Go.RowKit
set_option linter.unusedVariables false
set_option linter.unusedSimpArgs false

theorem Cur.lt {w : World} {g : Nat} {vb : Value} {xs : List Int} (h : Cur w g vb xs) : g < w.heap.size := by obtain ⟨_, _, _, c0, _⟩ := h.ex; exact World.block_lt_of_cell? _ _ c0
theorem Cur.alloc {w : World} {g : Nat} {vb : Value} {xs : List Int} (h : Cur w g vb xs) (o : Obj) : Cur (w.alloc o) g vb xs := h.below ((Below.refl _ _).alloc (Nat.le_refl _) o)
theorem Cur.up {w w6 : World} {g : Nat} {vb : Value} {xs : List Int} (hC : Cur w g vb xs) (hg : w.grownBy w6 (some g)) : Rd w6 vb (bytesV xs) := by
  rcases hC.ne with rfl | hne
  · obtain ⟨a, c, e, h2, h3, _⟩ := hC.rd
    exact ⟨a, c, e, h2, h3, fun h => absurd h (by simp [bytesV])⟩
  · exact hC.rd.grown hg (.inl hne)
theorem Own.neg {w w0 : World} {E g : Nat} {v : Value} {xs : List Value} (h : Own w E w0.heap.size v xs) (hg : g < w0.heap.size) : v.ownBlock ≠ some g := fun e => by have := (h.lt g e).1; omega
end Go.Proofs.YtggblfnajeikjaaGreat
