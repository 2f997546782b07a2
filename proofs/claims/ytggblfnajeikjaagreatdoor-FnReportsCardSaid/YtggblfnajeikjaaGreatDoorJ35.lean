/- Joined texts of the proof: OwnSort. -/
import Derived.WalkKit
import Derived.WalkSpells
import Derived.WalkLawsBesides
import Derived.Deep.Draws
import Derived.Lib.Hide
import Derived.RegionTactic
import Derived.Test.YtggblfnajeikjaaGreatDoorRows
import Derived.BigQuiet
import Derived.Deep.QuietTactic
import Derived.Shelf.Strings.Builder1
import Derived.Shelf.Strings.Builder2
import Derived.Shelf.Strings.OnBuilder
import Derived.Shelf.Strconv.Atoi
import Derived.Shelf.Strconv.Itoa0
import Derived.Shelf.Strconv.Itoa1
import Derived.Shelf.LaysM
import Derived.Shelf.Strconv.Itoa2
import Derived.Shelf.Strconv.Itoa3
import Derived.Shelf.Strconv.AtoiErrFast
import Derived.Shelf.Strconv.ParseIntEmpty
import Derived.Shelf.Strconv.AtoiFail
import Derived.Shelf.Strconv.Clone
import Derived.Shelf.Strconv.SyntaxError
import Derived.Shelf.LaysC
import Derived.Shelf.Strconv.ToError
import Derived.Shelf.Strconv.Lower
import Derived.Shelf.Strconv.ParseUint10
import Derived.Shelf.Strconv.ParseUint10Empty
import Derived.Shelf.Strconv.ParseUint10Any
import Derived.Shelf.Strconv.ParseInt10
import Derived.Shelf.Strconv.AtoiLong
import Derived.Shelf.Strconv.AtoiInnerAll
import Derived.Shelf.Strconv.RangeError
import Derived.Shelf.Strconv.ToErrorRange
import Derived.Shelf.Strconv.AtoiAll
import Derived.Shelf.Strconv.ErrVarAll
import Derived.Shelf.Strings.Search1
import Derived.Shelf.Strings.Search2
import Derived.Shelf.Strings.Search3
import Derived.Shelf.Strings.Cut
import Derived.Shelf.Strings.Count
import Derived.Shelf.Strings.Shaped
import Derived.Shelf.Sort.Plain
import Derived.Shelf.Strings.Prefix
import Derived.Shelf.Strings.Split
import Derived.Shelf.Unicode.DecodeSlow
import Derived.Shelf.Slices.Reverse
import Derived.Ground.Names2Prog
import Derived.Shelf.Slices.CompactI
import Derived.Test.YtggblfnajeikjaaGreatDoorProg
import Derived.Lib.RowBridge
import Derived.Sort.OwnSortedInts
import Derived.Test.YtggblfnajeikjaaGreatDoorJ1
import Derived.Test.YtggblfnajeikjaaGreatDoorJ3
import Derived.Test.YtggblfnajeikjaaGreatDoorJ6
import Derived.Test.YtggblfnajeikjaaGreatDoorJ7
import Derived.Test.YtggblfnajeikjaaGreatDoorJ34
namespace Go.Proofs.YtggblfnajeikjaaGreatDoor
open Go.RowKit Go.Sort
set_option linter.unusedVariables false
set_option linter.unusedSimpArgs false

theorem own_holds {w : World} {E B n c g off : Nat} {xs : List Int} (h : Own w E B (.slice (some ⟨g, off, none⟩) n c) (ints xs)) : n = xs.length ∧ n ≤ c ∧ g < w.heap.size ∧ Holds (Value.int .i64) w g off xs.toArray := by
  rcases h with ⟨h, _⟩ | ⟨g', off', c', cur, h1, h2, h3, h4, h5, h6, h7⟩
  · cases h
  · injection h1 with e1 e2 e3
    injection e1 with e1
    injection e1 with e4 e5
    subst e4 e5 e3
    rw [ints_length] at e2 h4
    refine ⟨e2, by omega, (Array.getElem?_eq_some_iff.1 h3).1, fun j hj => ?_⟩
    have hj' : j < xs.length := by simpa using hj
    refine ⟨?_, by simp [World.frozen?, h3]⟩
    have := h7 j (.int .i64 xs[j]) (by simp [ints, hj'])
    simp only [World.cell?, h3]
    rw [getElem!_pos xs.toArray j (by simpa using hj')]
    simpa using this
theorem own_put {w : World} {E B n c g off q : Nat} {os : Array Obj} {xs ys : List Int} (h : Own w E B (.slice (some ⟨g, off, none⟩) n c) (ints xs)) (hl : ys.length = xs.length) :
    Own (grow (putRow (Value.int .i64) (Sort.ahead w q) g off ys.toArray) os) E B (.slice (some ⟨g, off, none⟩) n c) (ints ys) ∧ w.grownBy (grow (putRow (Value.int .i64) (Sort.ahead w q) g off ys.toArray) os) (some g) := by
  rcases h with ⟨h, _⟩ | ⟨g', off', c', cur, h1, h2, h3, h4, h5, h6, h7⟩
  · cases h
  · injection h1 with e1 e2 e3
    injection e1 with e1
    injection e1 with e4 e5
    subst e4 e5 e3
    rw [ints_length] at e2 h4
    have hg : g < w.heap.size := (Array.getElem?_eq_some_iff.1 h3).1
    have hb : (grow (putRow (Value.int .i64) (Sort.ahead w q) g off ys.toArray) os).heap[g]? = some (.cells (putCells (Value.int .i64) off ys.toArray cur) E (0, 0)) := by
      rw [heap_grow_old _ _ (by simpa using hg)]
      simp [putRow, mapBlock, Sort.ahead, Array.getElem?_modify, h3, onCells]
    refine ⟨.inr ⟨g, off, c, _, by rw [ints_length, hl, e2], h2, hb, by rw [ints_length]; omega, h5, by simpa [putCells] using h6, fun j u hu => ?_⟩, rfl, rfl, rfl, by simp, fun k hk hne => ?_⟩
    · obtain ⟨hj, rfl⟩ := List.getElem?_eq_some_iff.1 hu
      have hj' : j < ys.length := by simpa [ints] using hj
      have hc := h7 j (.int .i64 (xs[j]'(by omega))) (by simp [ints, show j < xs.length by omega])
      simp only [putCells, Array.getElem?_mapIdx, hc, Option.map_some]
      rw [if_pos ⟨by omega, by simp; omega⟩, show off + j - off = j by omega, getElem!_pos ys.toArray j (by simpa using hj')]
      simp [ints]
    · rw [heap_grow_old _ _ (by simpa using hk)]
      have : g ≠ k := fun e => hne (by rw [e])
      simp [putRow, mapBlock, Sort.ahead, Array.getElem?_modify, this]
theorem own_cut {w : World} {E B n c m : Nat} {a : Addr} {xs : List Int} (h : Own w E B (.slice (some a) n c) (ints xs)) (hm : m ≤ xs.length) : Own w E B (.slice (some a) m c) (ints (xs.take m)) := by
  rcases h with ⟨h, _⟩ | ⟨g', off', c', cur, h1, h2, h3, h4, h5, h6, h7⟩
  · cases h
  · injection h1 with e1 e2 e3
    injection e1 with e1
    subst e1 e3
    rw [ints_length] at h4
    exact .inr ⟨g', off', c, cur, by rw [ints_length, List.length_take, Nat.min_eq_left hm], h2, h3, by rw [ints_length, List.length_take]; omega, h5, h6, fun j u hu => h7 j u (by
      rw [← ints_take, List.getElem?_take] at hu
      split at hu
      · exact hu
      · cases hu)⟩

theorem f_SortI (v : Value) (xs : List Int) (B : Nat) (w : World) (ho : Own w 3 B v (ints xs)) (h0 : 0 < xs.length) (hl : xs.length ≤ 1000000) :
    Calls Tryz.prog 184 #[v] w fun e w' => e = .returned (.tuple #[]) ∧ Own w' 3 B v (ints (msort xs)) ∧ w.grownBy w' v.ownBlock := by
  obtain ⟨a, c, rfl, h2, h3⟩ := ho.rd.formi
  obtain ⟨⟨g, off, fr⟩, rfl⟩ := ho.some_of (by rw [ints_length]; exact h0)
  obtain rfl : fr = none := by
    rcases ho with ⟨h, _⟩ | ⟨g', off', c', cur, h1, _⟩
    · cases h
    · injection h1 with h1
      injection h1 with h1
      injection h1
  obtain ⟨e, hc, hg, hH⟩ := own_holds ho
  refine (Tryz.slices_Sort_int g off c xs w hH hg (by omega)).mono ?_
  rintro e w' ⟨rfl, q, os, rfl⟩
  have := own_put (q := q) (os := os) ho (msort_len xs)
  exact ⟨rfl, this.1, this.2⟩

theorem f_CompactI (v : Value) (xs : List Int) (B : Nat) (w : World) (ho : Own w 3 B v (ints xs)) (h0 : 0 < xs.length) (hl : xs.length ≤ 1000000) :
    Calls Tryz.prog 185 #[v] w fun e w' => ∃ v', e = .returned v' ∧ Own w' 3 B v' (ints (Lib.compact xs)) ∧ w.grownBy w' v.ownBlock ∧ v'.ownBlock = v.ownBlock := by
  obtain ⟨a, c, rfl, h2, h3⟩ := ho.rd.formi
  obtain ⟨⟨g, off, fr⟩, rfl⟩ := ho.some_of (by rw [ints_length]; exact h0)
  obtain rfl : fr = none := by
    rcases ho with ⟨h, _⟩ | ⟨g', off', c', cur, h1, _⟩
    · cases h
    · injection h1 with h1
      injection h1 with h1
      injection h1
  obtain ⟨e, hc, hg, hH⟩ := own_holds ho
  have hcl := Lib.compact_length_le xs
  refine (Tryz.slices_Compact_int g off c xs w hH (by omega) hc).mono ?_
  rintro e w' ⟨rfl, q, rfl⟩
  have := own_put (q := q) (os := #[]) (ys := Lib.compact xs ++ List.replicate (xs.length - (Lib.compact xs).length) 0) ho (by simp; omega)
  have h1 := own_cut this.1 (m := (Lib.compact xs).length) (by simp)
  rw [List.take_left'] at h1
  · have e : ∀ W : World, grow W #[] = W := fun W => by simp [grow]
    rw [e] at h1 this
    exact ⟨_, rfl, h1, this.2, rfl⟩
  · rfl

end Go.Proofs.YtggblfnajeikjaaGreatDoor
