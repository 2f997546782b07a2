/- Joined texts of the proof: OwnSort. -/
import Derived.WalkKit
import Derived.WalkSpells
import Derived.WalkLawsBesides
import Derived.Deep.Draws
import Derived.Lib.Hide
import Derived.RegionTactic
import Derived.Test.YtggblfnajeikjaaGreatRows
import Derived.BigQuiet
import Derived.Deep.QuietTactic
import Derived.Shelf.Strconv.Itoa0
import Derived.Shelf.Sort.Plain
import Derived.Shelf.Slices.Reverse
import Derived.Ground.Names2Prog
import Derived.Shelf.Slices.CompactI
import Derived.Test.YtggblfnajeikjaaGreatProg
import Derived.Lib.RowBridge
import Derived.Sort.OwnSortedInts
import Derived.Test.YtggblfnajeikjaaGreatJ1
import Derived.Test.YtggblfnajeikjaaGreatJ3
import Derived.Test.YtggblfnajeikjaaGreatJ4
import Derived.Test.YtggblfnajeikjaaGreatJ5
import Derived.Test.YtggblfnajeikjaaGreatJ6
namespace Go.Proofs.YtggblfnajeikjaaGreat
open Go.RowKit Go.Sort
set_option linter.unusedVariables false
set_option linter.unusedSimpArgs false

theorem own_holds {w : World} {E B n c g off : Nat} {xs : List Int} (h : Own w E B (.slice (some ⟨g, off, none⟩) n c) (ints xs)) : n = xs.length ∧ n ≤ c ∧ g < w.heap.size ∧ Holds (Value.int .i64) w g off xs.toArray := by
  rcases h with ⟨h, _⟩ | ⟨g', off', c', cur, h1, h2, h3, h4, h5, h6, h7⟩
  · cases h
  · injection h1 with e1 e2 e3
    injection e1 with e1
    injection e1 with e4 e5
    subst e4 e5 e3
    rw [ints_length] at e2 h4
    refine ⟨e2, by omega, (Array.getElem?_eq_some_iff.1 h3).1, fun j hj => ?_⟩
    have hj' : j < xs.length := by simpa using hj
    refine ⟨?_, by simp [World.frozen?, h3]⟩
    have := h7 j (.int .i64 xs[j]) (by simp [ints, hj'])
    simp only [World.cell?, h3]
    rw [getElem!_pos xs.toArray j (by simpa using hj')]
    simpa using this
theorem own_put {w : World} {E B n c g off q : Nat} {os : Array Obj} {xs ys : List Int} (h : Own w E B (.slice (some ⟨g, off, none⟩) n c) (ints xs)) (hl : ys.length = xs.length) :
    Own (grow (putRow (Value.int .i64) (Sort.ahead w q) g off ys.toArray) os) E B (.slice (some ⟨g, off, none⟩) n c) (ints ys) ∧ w.grownBy (grow (putRow (Value.int .i64) (Sort.ahead w q) g off ys.toArray) os) (some g) := by
  rcases h with ⟨h, _⟩ | ⟨g', off', c', cur, h1, h2, h3, h4, h5, h6, h7⟩
  · cases h
  · injection h1 with e1 e2 e3
    injection e1 with e1
    injection e1 with e4 e5
    subst e4 e5 e3
    rw [ints_length] at e2 h4
    have hg : g < w.heap.size := (Array.getElem?_eq_some_iff.1 h3).1
    have hb : (grow (putRow (Value.int .i64) (Sort.ahead w q) g off ys.toArray) os).heap[g]? = some (.cells (putCells (Value.int .i64) off ys.toArray cur) E (0, 0)) := by
      rw [heap_grow_old _ _ (by simpa using hg)]
      simp [putRow, mapBlock, Sort.ahead, Array.getElem?_modify, h3, onCells]
    refine ⟨.inr ⟨g, off, c, _, by rw [ints_length, hl, e2], h2, hb, by rw [ints_length]; omega, h5, by simpa [putCells] using h6, fun j u hu => ?_⟩, rfl, rfl, rfl, by simp, fun k hk hne => ?_⟩
    · obtain ⟨hj, rfl⟩ := List.getElem?_eq_some_iff.1 hu
      have hj' : j < ys.length := by simpa [ints] using hj
      have hc := h7 j (.int .i64 (xs[j]'(by omega))) (by simp [ints, show j < xs.length by omega])
      simp only [putCells, Array.getElem?_mapIdx, hc, Option.map_some]
      rw [if_pos ⟨by omega, by simp; omega⟩, show off + j - off = j by omega, getElem!_pos ys.toArray j (by simpa using hj')]
      simp [ints]
    · rw [heap_grow_old _ _ (by simpa using hk)]
      have : g ≠ k := fun e => hne (by rw [e])
      simp [putRow, mapBlock, Sort.ahead, Array.getElem?_modify, this]
theorem own_cut {w : World} {E B n c m : Nat} {a : Addr} {xs : List Int} (h : Own w E B (.slice (some a) n c) (ints xs)) (hm : m ≤ xs.length) : Own w E B (.slice (some a) m c) (ints (xs.take m)) := by
  rcases h with ⟨h, _⟩ | ⟨g', off', c', cur, h1, h2, h3, h4, h5, h6, h7⟩
  · cases h
  · injection h1 with e1 e2 e3
    injection e1 with e1
    subst e1 e3
    rw [ints_length] at h4
    exact .inr ⟨g', off', c, cur, by rw [ints_length, List.length_take, Nat.min_eq_left hm], h2, h3, by rw [ints_length, List.length_take]; omega, h5, h6, fun j u hu => h7 j u (by
      rw [← ints_take, List.getElem?_take] at hu
      split at hu
      · exact hu
      · cases hu)⟩

theorem f_SortI (v : Value) (xs : List Int) (B : Nat) (w : World) (ho : Own w 3 B v (ints xs)) (h0 : 0 < xs.length) (hl : xs.length ≤ 1000000) :
    Calls Tryz.prog 111 #[v] w fun e w' => e = .returned (.tuple #[]) ∧ Own w' 3 B v (ints (msort xs)) ∧ w.grownBy w' v.ownBlock := by
  obtain ⟨a, c, rfl, h2, h3⟩ := ho.rd.formi
  obtain ⟨⟨g, off, fr⟩, rfl⟩ := ho.some_of (by rw [ints_length]; exact h0)
  obtain rfl : fr = none := by
    rcases ho with ⟨h, _⟩ | ⟨g', off', c', cur, h1, _⟩
    · cases h
    · injection h1 with h1
      injection h1 with h1
      injection h1
  obtain ⟨e, hc, hg, hH⟩ := own_holds ho
  refine (Tryz.slices_Sort_int g off c xs w hH hg (by omega)).mono ?_
  rintro e w' ⟨rfl, q, os, rfl⟩
  have := own_put (q := q) (os := os) ho (msort_len xs)
  exact ⟨rfl, this.1, this.2⟩

theorem f_CompactI (v : Value) (xs : List Int) (B : Nat) (w : World) (ho : Own w 3 B v (ints xs)) (h0 : 0 < xs.length) (hl : xs.length ≤ 1000000) :
    Calls Tryz.prog 124 #[v] w fun e w' => ∃ v', e = .returned v' ∧ Own w' 3 B v' (ints (Lib.compact xs)) ∧ w.grownBy w' v.ownBlock ∧ v'.ownBlock = v.ownBlock := by
  obtain ⟨a, c, rfl, h2, h3⟩ := ho.rd.formi
  obtain ⟨⟨g, off, fr⟩, rfl⟩ := ho.some_of (by rw [ints_length]; exact h0)
  obtain rfl : fr = none := by
    rcases ho with ⟨h, _⟩ | ⟨g', off', c', cur, h1, _⟩
    · cases h
    · injection h1 with h1
      injection h1 with h1
      injection h1
  obtain ⟨e, hc, hg, hH⟩ := own_holds ho
  have hcl := Lib.compact_length_le xs
  refine (Tryz.slices_Compact_int g off c xs w hH (by omega) hc).mono ?_
  rintro e w' ⟨rfl, q, rfl⟩
  have := own_put (q := q) (os := #[]) (ys := Lib.compact xs ++ List.replicate (xs.length - (Lib.compact xs).length) 0) ho (by simp; omega)
  have h1 := own_cut this.1 (m := (Lib.compact xs).length) (by simp)
  rw [List.take_left'] at h1
  · have e : ∀ W : World, grow W #[] = W := fun W => by simp [grow]
    rw [e] at h1 this
    exact ⟨_, rfl, h1, this.2, rfl⟩
  · rfl

end Go.Proofs.YtggblfnajeikjaaGreat
