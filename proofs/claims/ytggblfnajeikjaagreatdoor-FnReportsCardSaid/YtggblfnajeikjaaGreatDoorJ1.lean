/- Joined texts of the proof: Mem, Base, NumWalks, PlainDigits, Lists, App, RunMem, SlicesWalks, MergeA, PlainSort, Sort2, PlainPerm, MergeC, PlainCm, Frames, RunTake, MergeB, Fmt, Strs. -/
import Derived.Test.YtggblfnajeikjaaGreatDoorRows
import Derived.WalkKit
import Derived.WalkSpells
import Derived.WalkLawsBesides
import Derived.Deep.Draws
import Derived.Lib.Hide
import Derived.RegionTactic
import Derived.BigQuiet
import Derived.Deep.QuietTactic
import Derived.Lib.SliceRun
import Derived.Deep.RegionLaw
import Derived.Deep.DeepCutAuto
import Derived.Deep.LoopGhost
import Derived.Deep.RegionWith
import Derived.Lib.ItoaNum
import Derived.Deep.RegionHeld3
import Derived.IntWalk
import Derived.Lib.Join
import Derived.Shelf.Strings.Builder1
import Derived.Shelf.Strings.Builder2
import Derived.Shelf.Strings.OnBuilder
import Derived.Shelf.Strconv.Atoi
import Derived.Shelf.Strconv.Itoa0
import Derived.Shelf.Strconv.Itoa1
import Derived.Shelf.LaysM
import Derived.Shelf.Strconv.Itoa2
import Derived.Shelf.Strconv.Itoa3
import Derived.Shelf.Strconv.AtoiErrFast
import Derived.Shelf.Strconv.ParseIntEmpty
import Derived.Shelf.Strconv.AtoiFail
import Derived.Shelf.Strconv.Clone
import Derived.Shelf.Strconv.SyntaxError
import Derived.Shelf.LaysC
import Derived.Shelf.Strconv.ToError
import Derived.Shelf.Strconv.Lower
import Derived.Shelf.Strconv.ParseUint10
import Derived.Shelf.Strconv.ParseUint10Empty
import Derived.Shelf.Strconv.ParseUint10Any
import Derived.Shelf.Strconv.ParseInt10
import Derived.Shelf.Strconv.AtoiLong
import Derived.Shelf.Strconv.AtoiInnerAll
import Derived.Shelf.Strconv.RangeError
import Derived.Shelf.Strconv.ToErrorRange
import Derived.Shelf.Strconv.AtoiAll
import Derived.Shelf.Strconv.ErrVarAll
import Derived.Shelf.Strings.Search1
import Derived.Shelf.Strings.Search2
import Derived.Shelf.Strings.Search3
import Derived.Shelf.Strings.Cut
import Derived.Shelf.Strings.Count
import Derived.Shelf.Strings.Shaped
import Derived.Shelf.Sort.Plain
import Derived.Shelf.Strings.Prefix
import Derived.Shelf.Strings.Split
import Derived.Shelf.Unicode.DecodeSlow
import Derived.Shelf.Slices.Reverse
import Derived.Ground.Names2Prog
import Derived.Shelf.Slices.CompactI
import Derived.Test.YtggblfnajeikjaaGreatDoorProg
import Derived.Lib.SmallJoins
import Derived.Lib.AppendZeros
import Derived.Deep.AppendLies
import Derived.Lib.SplitLaws
import Derived.Lib.Split
import Derived.Lib.IndexBytes
import Derived.Lib.AtoiAllCases
import Derived.Lib.AtoiErrMem
import Derived.Laws.BitsAllLaws
import Derived.Laws.BitsLemmas
import Derived.Lib.RowBridge
import Derived.Sort.OwnSortedInts
import Derived.Lib.LazyBuf
import Derived.Maps.OwnOps
import Derived.Maps.OwnSet
import Derived.Maps.Views
import Derived.Carry
import Derived.Laws.Bits64b
import Derived.BigRegion
namespace Go.Proofs.YtggblfnajeikjaaGreatDoor
open Go.RowKit
set_option linter.unusedVariables false
set_option linter.unusedSimpArgs false

theorem block_of_add (a : Addr) (n : Nat) : (a.add n).block = a.block := by unfold Addr.add; split <;> rfl
theorem add_of_add (a : Addr) (i j : Nat) : (a.add i).add j = a.add (i + j) := by
  unfold Addr.add
  by_cases hi : i = 0 <;> by_cases hj : j = 0 <;> simp [hi, hj, Nat.add_assoc]

theorem add_succ (a : Addr) (k : Nat) : a.add (k + 1) = ⟨a.block, a.off + (k + 1), none⟩ := by unfold Addr.add; rw [if_neg (by omega)]

/-- Integers as cells. -/
def ints (xs : List Int) : List Value := xs.map (Value.int .i64)

theorem ints_length (xs : List Int) : (ints xs).length = xs.length := by simp [ints]
theorem ints_append (xs ys : List Int) : ints (xs ++ ys) = ints xs ++ ints ys := by simp [ints]
theorem ints_set (xs : List Int) (k : Nat) (y : Int) : ints (xs.set k y) = (ints xs).set k (.int .i64 y) := by simp [ints, List.map_set]

/-- The slice value v reads as the cells xs. -/
def Rd (w : World) (v : Value) (xs : List Value) : Prop :=
  ∃ (a : Option Addr) (c : Nat), v = .slice a xs.length c ∧ xs.length ≤ c ∧ c ≤ 9223372036854775807 ∧
    (0 < xs.length → ∃ ad, a = some ad ∧ ∀ j u, xs[j]? = some u → w.cell? (ad.add j) = some u)

/-- The slice value v owns the cells xs: it is nil, or it lies in a block from B on, none of whose cells is frozen. -/
def Own (w : World) (E B : Nat) (v : Value) (xs : List Value) : Prop :=
  (v = .slice none 0 0 ∧ xs = []) ∨
  ∃ (g off c : Nat) (cur : Array Value), v = .slice (some ⟨g, off, none⟩) xs.length c ∧ B ≤ g ∧ w.heap[g]? = some (.cells cur E (0, 0)) ∧
    xs.length ≤ c ∧ c ≤ 9223372036854775807 ∧ off + c ≤ cur.size ∧ ∀ j u, xs[j]? = some u → cur[off + j]? = some u

section
variable {w w' : World} {E B B' : Nat} {v : Value} {xs : List Value}

theorem Rd.nil (w : World) : Rd w (.slice none 0 0) [] := ⟨none, 0, rfl, Nat.le_refl _, by omega, fun h => absurd h (by simp)⟩

theorem Rd.form (h : Rd w v xs) : ∃ (a : Option Addr) (c : Nat), v = .slice a xs.length c ∧ xs.length ≤ c ∧ c ≤ 9223372036854775807 := by
  obtain ⟨a, c, h1, h2, h3, _⟩ := h
  exact ⟨a, c, h1, h2, h3⟩

theorem Rd.cell {a : Option Addr} {n c : Nat} (h : Rd w (.slice a n c) xs) {k : Nat} (hk : k < xs.length) :
    ∃ ad, a = some ad ∧ w.cell? (ad.add k) = some (xs[k]'hk) := by
  obtain ⟨a', c', h1, _, _, h4⟩ := h
  simp only [Value.slice.injEq] at h1
  obtain ⟨rfl, rfl, rfl⟩ := h1
  obtain ⟨ad, rfl, hc⟩ := h4 (by omega)
  exact ⟨ad, rfl, hc k _ (by simp [hk])⟩

theorem Rd.keep (h : Rd w v xs) (hk : ∀ p : Addr, p.block < w.heap.size → some p.block = v.ownBlock → w'.cell? p = w.cell? p) : Rd w' v xs := by
  obtain ⟨a, c, rfl, h2, h3, h4⟩ := h
  refine ⟨a, c, rfl, h2, h3, fun hn => ?_⟩
  obtain ⟨ad, rfl, hc⟩ := h4 hn
  refine ⟨ad, rfl, fun j u hu => ?_⟩
  have h5 := hc j u hu
  rw [hk _ (World.block_lt_of_cell? _ _ h5) (by rw [block_of_add]; rfl)]
  exact h5

theorem Rd.below (h : Rd w v xs) (hb : Below w.heap.size w w') : Rd w' v xs := h.keep fun _ hp _ => hb.cell hp
theorem Rd.drew (h : Rd w v xs) : Rd w.drew v xs := h
theorem Rd.drewN (h : Rd w v xs) (n : Nat) : Rd (w.drewN n) v xs := h
theorem Rd.alloc (h : Rd w v xs) (o : Obj) : Rd (w.alloc o) v xs := h.keep fun _ hp _ => World.cell?_alloc_lt w o _ hp
theorem Rd.grown {row : Option Nat} (h : Rd w v xs) (hg : w.grownBy w' row) (hne : v.ownBlock ≠ row ∨ v.ownBlock = none) : Rd w' v xs :=
  h.keep fun p hp he => World.cell?_of_block (hg.block p.block hp (by
    rw [he]
    rcases hne with h1 | h1
    · exact h1
    · rw [h1] at he; cases he))
theorem Rd.setCell (h : Rd w v xs) {p : Addr} (hne : v.ownBlock ≠ some p.block) (u : Value) : Rd (w.setCell p u) v xs :=
  h.keep fun q _ he => World.cell?_setCell_other w p q u (fun e => hne (by rw [← he, ← e]))

theorem Own.rd (h : Own w E B v xs) : Rd w v xs := by
  rcases h with ⟨rfl, rfl⟩ | ⟨g, off, c, cur, rfl, hB, hh, hl, hc, hs, hx⟩
  · exact Rd.nil w
  · refine ⟨_, c, rfl, hl, hc, fun _ => ⟨_, rfl, fun j u hu => ?_⟩⟩
    rw [Addr.add_lit, cell_of_row w g _ cur E (0, 0) hh]
    exact hx j u hu

theorem Own.lt (h : Own w E B v xs) : ∀ k, v.ownBlock = some k → B ≤ k ∧ k < w.heap.size := by
  intro k hk
  rcases h with ⟨rfl, rfl⟩ | ⟨g, off, c, cur, rfl, hB, hh, _⟩
  · cases hk
  · simp only [Value.ownBlock, Option.some.injEq] at hk
    subst hk
    exact ⟨hB, (Array.getElem?_eq_some_iff.1 hh).1⟩

theorem Own.mono (h : Own w E B v xs) (hb : B' ≤ B) : Own w E B' v xs := by
  rcases h with h | ⟨g, off, c, cur, rfl, hB, r⟩
  · exact .inl h
  · exact .inr ⟨g, off, c, cur, rfl, by omega, r⟩

theorem Own.raise (h : Own w E B v xs) (hb : ∀ k, v.ownBlock = some k → B' ≤ k) : Own w E B' v xs := by
  rcases h with h | ⟨g, off, c, cur, rfl, hB, r⟩
  · exact .inl h
  · exact .inr ⟨g, off, c, cur, rfl, hb _ rfl, r⟩

theorem Own.keep (h : Own w E B v xs) (hk : ∀ k, k < w.heap.size → some k = v.ownBlock → w'.heap[k]? = w.heap[k]?) : Own w' E B v xs := by
  rcases h with h | ⟨g, off, c, cur, rfl, hB, hh, r⟩
  · exact .inl h
  · exact .inr ⟨g, off, c, cur, rfl, hB, (hk g (Array.getElem?_eq_some_iff.1 hh).1 rfl).trans hh, r⟩

theorem Own.below (h : Own w E B v xs) (hb : Below w.heap.size w w') : Own w' E B v xs := h.keep fun k hk _ => hb.block k hk
theorem Own.drew (h : Own w E B v xs) : Own w.drew E B v xs := h
theorem Own.drewN (h : Own w E B v xs) (n : Nat) : Own (w.drewN n) E B v xs := h
theorem Own.alloc (h : Own w E B v xs) (o : Obj) : Own (w.alloc o) E B v xs := h.keep fun k hk _ => Below.heap_alloc w o k hk
theorem Own.grown {row : Option Nat} (h : Own w E B v xs) (hg : w.grownBy w' row) (hne : v.ownBlock ≠ row ∨ v.ownBlock = none) : Own w' E B v xs :=
  h.keep fun k hk he => hg.block k hk (by
    rw [he]
    rcases hne with h1 | h1
    · exact h1
    · rw [h1] at he; cases he)
theorem Own.setCell (h : Own w E B v xs) {p : Addr} (hne : v.ownBlock ≠ some p.block) (u : Value) : Own (w.setCell p u) E B v xs :=
  h.keep fun k _ he => heap_setCell_other w p k u (fun e => hne (by rw [← he, ← e]))

theorem Own.apart {row : Option Nat} (h : Own w E B v xs) (hg : w.grownBy w' row) (hne : ∀ k, v.ownBlock = some k → row ≠ some k) : Own w' E B v xs :=
  h.keep fun k hk he => hg.block k hk (fun e => hne k he.symm e.symm)
theorem Own.nil (w : World) (E B : Nat) : Own w E B (.slice none 0 0) [] := .inl ⟨rfl, rfl⟩

/-- A new block, owned whole. -/
theorem Own.lit (w : World) (E B : Nat) (cs : Array Value) (hb : B ≤ w.heap.size) (hm : cs.size ≤ 9223372036854775807) :
    Own (w.alloc (.cells cs E)) E B (.slice (some ⟨w.heap.size, 0, none⟩) cs.size cs.size) cs.toList :=
  .inr ⟨w.heap.size, 0, cs.size, cs, by simp, hb, heap_alloc_new w _, by simp, hm, by simp, fun j u hu => by simpa using hu⟩

theorem Own.frozen {a : Option Addr} {n c : Nat} (h : Own w E B (.slice a n c) xs) {ad : Addr} (ha : a = some ad) (k : Nat) : w.frozen? (ad.add k) = false := by
  subst ha
  rcases h with ⟨h1, _⟩ | ⟨g, off, c', cur, h1, hB, hh, _⟩
  · cases h1
  · simp only [Value.slice.injEq, Option.some.injEq] at h1
    obtain ⟨rfl, -, -⟩ := h1
    rw [Addr.add_lit]
    exact frozen_of_row w g _ cur E hh

/-- A store into a slice that is owned. -/
theorem Own.set {a : Option Addr} {n c : Nat} (h : Own w E B (.slice a n c) xs) {ad : Addr} (ha : a = some ad) {k : Nat} (hk : k < xs.length) (u : Value) :
    Own (w.setCell (ad.add k) u) E B (.slice a n c) (xs.set k u) ∧ w.grownBy (w.setCell (ad.add k) u) (some ad.block) := by
  subst ha
  rcases h with ⟨h1, _⟩ | ⟨g, off, c', cur, h1, hB, hh, hl, hc, hs, hx⟩
  · cases h1
  · simp only [Value.slice.injEq, Option.some.injEq] at h1
    obtain ⟨rfl, rfl, rfl⟩ := h1
    rw [Addr.add_lit]
    refine ⟨.inr ⟨g, off, c, cur.setIfInBounds (off + k) u, by simp, hB, heap_setCell_same w g (off + k) cur E u hh, by simpa using hl, hc, by simpa using hs, fun j x hj => ?_⟩,
      ⟨rfl, rfl, rfl, by simp, fun i _ hi => heap_setCell_other w ⟨g, off + k, none⟩ i u (fun e => hi (by simp [e]))⟩⟩
    rw [List.getElem?_set] at hj
    rw [Array.getElem?_setIfInBounds]
    by_cases e : k = j
    · subst e
      simp only [if_true] at hj ⊢
      rw [if_pos hk] at hj
      rw [if_pos (by omega)]
      exact hj
    · rw [if_neg e] at hj
      rw [if_neg (by omega)]
      exact hx j x hj

/-- 's[k:]' of a slice that is owned, 's[:k]' likewise. -/
theorem Own.cut {a : Option Addr} {n c : Nat} (h : Own w E B (.slice a n c) xs) {k : Nat} (hk : k ≤ n) :
    Own w E B (.slice (if c = k then a else a.map (·.add k)) (n - k) (c - k)) (xs.drop k) := by
  rcases h with ⟨h1, h2⟩ | ⟨g, off, c', cur, h1, hB, hh, hl, hc, hs, hx⟩
  · simp only [Value.slice.injEq] at h1
    obtain ⟨rfl, rfl, rfl⟩ := h1
    subst h2
    exact .inl ⟨by simp, by simp⟩
  · simp only [Value.slice.injEq] at h1
    obtain ⟨rfl, rfl, rfl⟩ := h1
    by_cases e : c = k
    · subst e
      have hn : xs.length = c := by omega
      refine .inr ⟨g, off, 0, cur, ?_, hB, hh, by simp [hn], by omega, by omega, fun j u hu => ?_⟩
      · rw [if_pos rfl]; simp [hn]
      · rw [List.drop_eq_nil_of_le (by omega)] at hu; cases hu
    · refine .inr ⟨g, off + k, c - k, cur, ?_, hB, hh, by simp; omega, by omega, by omega, fun j u hu => ?_⟩
      · rw [if_neg e]; simp [Addr.add_lit]
      · rw [List.getElem?_drop] at hu
        rw [Nat.add_assoc]
        exact hx _ _ hu

theorem Own.take {a : Option Addr} {n c : Nat} (h : Own w E B (.slice a n c) xs) {k : Nat} (hk : k ≤ n) :
    Own w E B (.slice a k c) (xs.take k) := by
  rcases h with ⟨h1, h2⟩ | ⟨g, off, c', cur, h1, hB, hh, hl, hc, hs, hx⟩
  · simp only [Value.slice.injEq] at h1
    obtain ⟨rfl, rfl, rfl⟩ := h1
    subst h2
    exact .inl ⟨by simp; omega, by simp⟩
  · simp only [Value.slice.injEq] at h1
    obtain ⟨rfl, rfl, rfl⟩ := h1
    refine .inr ⟨g, off, c, cur, by simp; omega, hB, hh, by simp; omega, hc, hs, fun j u hu => ?_⟩
    rw [List.getElem?_take] at hu
    by_cases e : j < k
    · rw [if_pos e] at hu; exact hx j u hu
    · rw [if_neg e] at hu; cases hu

theorem Rd.cut {a : Option Addr} {n c : Nat} (h : Rd w (.slice a n c) xs) {k : Nat} (hk : k ≤ n) :
    Rd w (.slice (if c = k then a else a.map (·.add k)) (n - k) (c - k)) (xs.drop k) := by
  obtain ⟨a', c', h1, hl, hc, hx⟩ := h
  simp only [Value.slice.injEq] at h1
  obtain ⟨rfl, rfl, rfl⟩ := h1
  refine ⟨(if c = k then a else a.map (·.add k)), c - k, by simp, by simp; omega, by omega, fun hn => ?_⟩
  simp only [List.length_drop] at hn
  obtain ⟨ad, rfl, hcell⟩ := hx (by omega)
  refine ⟨ad.add k, by rw [if_neg (by omega)]; rfl, fun j u hu => ?_⟩
  rw [List.getElem?_drop] at hu
  rw [add_of_add]
  exact hcell _ _ hu

theorem Rd.take {a : Option Addr} {n c : Nat} (h : Rd w (.slice a n c) xs) {k : Nat} (hk : k ≤ n) : Rd w (.slice a k c) (xs.take k) := by
  obtain ⟨a', c', h1, hl, hc, hx⟩ := h
  simp only [Value.slice.injEq] at h1
  obtain ⟨rfl, rfl, rfl⟩ := h1
  refine ⟨a, c, by simp; omega, by simp; omega, hc, fun hn => ?_⟩
  simp only [List.length_take] at hn
  obtain ⟨ad, rfl, hcell⟩ := hx (by omega)
  refine ⟨ad, rfl, fun j u hu => ?_⟩
  rw [List.getElem?_take] at hu
  by_cases e : j < k
  · rw [if_pos e] at hu; exact hcell j u hu
  · rw [if_neg e] at hu; cases hu
end

/-- What the program's table says of a slice type t of elements E, each of one cell. -/
structure ElemOk (P : Program) (t E bytes : Nat) (z : Value) : Prop where
  ex : ∃ i, P.underlying t = some (.slice E) ∧ P.info? E = some i ∧ i.zero = some z ∧ i.size = 1 ∧ i.bytes = bytes ∧ z.cells = #[z]

section
variable {P : Program} {w : World}

theorem run_app {t ty E B bytes : Nat} {z : Value} (ht : ElemOk P t E bytes z) {v : Value} {xs : List Value} (hown : Own w E B v xs) {vx : Value} {news : List Value} (hr : Rd w vx news)
    (h1 : ∀ u ∈ news, u.oneCell' = true) (hB : B ≤ w.heap.size) (hbytes : (xs.length + news.length) * bytes ≤ 140737488355328) (h63 : xs.length + news.length ≤ 9223372036854775807) :
    ∃ a c w', (Builtin.append_ #[t, t] ty #[v, vx]).run P w = .ok (.slice a (xs.length + news.length) c) w' ∧ Own w' E B (.slice a (xs.length + news.length) c) (xs ++ news) ∧
      w.grownBy w' v.ownBlock ∧ ((Value.slice a (xs.length + news.length) c).ownBlock = v.ownBlock ∨ (Value.slice a (xs.length + news.length) c).ownBlock = some w.heap.size) := by
  obtain ⟨i, hu, hi, hz, hs1, hby, hzc⟩ := ht.ex
  have hzs : z.cells.size = 1 := by rw [hzc]; rfl
  subst hby
  obtain ⟨ax, cx, rfl, hlx, hcx, hxc⟩ := hr
  by_cases hm : news = []
  · subst hm
    have hrun : (Builtin.append_ #[t, t] ty #[v, .slice ax ([] : List Value).length cx]).run P w = .ok v w := by
      rcases hown with ⟨rfl, rfl⟩ | ⟨g, off, c, cur, rfl, _, _, hnc, _⟩
      · cases ax <;> simp [Builtin.append_, run_underlying hu, sizeOf, typeInfo, hi, Builtin.lenOf, Builtin.firstCells, loadCells, loadCellsFrom]
      · cases ax <;> simp [Builtin.append_, run_underlying hu, sizeOf, typeInfo, hi, Builtin.lenOf, Builtin.firstCells, loadCells, loadCellsFrom, hnc, storeCells]
    rcases hown with ⟨rfl, rfl⟩ | ⟨g, off, c, cur, rfl, hB', hh, hl, hc, hs, hx⟩
    · exact ⟨none, 0, w, hrun, by simpa using Own.nil w E B, World.grownBy.refl w _, .inl rfl⟩
    · exact ⟨some ⟨g, off, none⟩, c, w, hrun, by simpa using .inr ⟨g, off, c, cur, rfl, hB', hh, hl, hc, hs, hx⟩, World.grownBy.refl w _, .inl rfl⟩
  · have hpos : 0 < news.length := List.length_pos_iff.2 hm
    obtain ⟨ad, rfl, hnews⟩ := hxc hpos
    have grown : ∀ (old : Nat), old < xs.length + news.length → ∀ (row : Option Nat),
        Own (w.drew.alloc (.cells (xs.toArray ++ news.toArray ++ Builtin.zeroCells z.cells (grownCap w (xs.length + news.length) old E - (xs.length + news.length))) E)) E B
          (.slice (some ⟨w.heap.size, 0, none⟩) (xs.length + news.length) (grownCap w (xs.length + news.length) old E)) (xs ++ news) ∧
        w.grownBy (w.drew.alloc (.cells (xs.toArray ++ news.toArray ++ Builtin.zeroCells z.cells (grownCap w (xs.length + news.length) old E - (xs.length + news.length))) E)) row := by
      intro old ho row
      have hge := grownCap_ge w (xs.length + news.length) old E
      have hcm : grownCap w (xs.length + news.length) old E ≤ maxLen := grownCap_le_maxLen w _ old E (by simp only [maxLen]; omega)
      refine ⟨.inr ⟨w.heap.size, 0, grownCap w (xs.length + news.length) old E, _, by simp, hB, heap_alloc_new w.drew _, by simpa using hge, by simp only [maxLen] at hcm; omega, ?_, fun j u hu => ?_⟩,
        ⟨rfl, rfl, rfl, by simp, fun k hk _ => Below.heap_alloc w.drew _ k hk⟩⟩
      · simp only [Array.size_append, List.size_toArray, size_zeroCells, hzs]
        omega
      · rw [Nat.zero_add, Array.getElem?_append_left (by
          have := (List.getElem?_eq_some_iff.1 hu).1
          simpa using this)]
        simpa using hu
    rcases hown with ⟨rfl, rfl⟩ | ⟨g, off, c, cur, rfl, hB', hh, hl, hc, hs, hx⟩
    · have hrun := run_append_nil (P := P) w t ty E i z hu hi hz ad news.length cx news (by simp [hs1]) hnews hpos (by simp only [List.length_nil, Nat.zero_add] at h63; omega) (by simp only [List.length_nil, Nat.zero_add] at hbytes; omega)
      have hgr := grown 0 (by omega) (Value.ownBlock (.slice none 0 0))
      simp only [List.length_nil, Nat.zero_add, List.nil_append, Array.empty_append] at hgr ⊢
      exact ⟨_, _, _, hrun, hgr.1, hgr.2, .inr rfl⟩
    · by_cases hroom : xs.length + news.length ≤ c
      · have hf := run_firstCells_some (P := P) w i.size news.length ad news.length cx news (by simp [hs1]) hnews
        have hst := run_storeCells_at P g (off + xs.length) E news 0 cur w hh (by omega) h1
        simp only [Nat.add_zero] at hst
        refine ⟨some ⟨g, off, none⟩, c, w.setRow g (cur.toList.take (off + xs.length) ++ news ++ cur.toList.drop (off + xs.length + news.length)).toArray, ?_, .inr ⟨g, off, c, _, by simp, hB', setRow_heap w g cur _ E _ hh, by simpa using hroom, hc, ?_, fun j u hu => ?_⟩,
          ⟨rfl, rfl, rfl, by simp, fun k _ hk => setRow_other w g k _ (fun e => hk (by simp [Value.ownBlock, e]))⟩, .inl rfl⟩
        · rw [hs1] at hf
          simp [Builtin.append_, run_underlying hu, sizeOf, typeInfo, hi, Builtin.lenOf, hroom, hs1, hf, Addr.add_lit, hst]
        · simp only [List.size_toArray, List.length_append, List.length_take, List.length_drop, Array.length_toList]
          omega
        · rw [List.getElem?_append] at hu
          simp only [List.getElem?_toArray]
          by_cases e : j < xs.length
          · rw [if_pos e] at hu
            rw [List.append_assoc, List.getElem?_append_left (by simp; omega), List.getElem?_take, if_pos (by omega)]
            simpa using hx j u hu
          · rw [if_neg e] at hu
            have hj := (List.getElem?_eq_some_iff.1 hu).1
            have h2 : (cur.toList.take (off + xs.length)).length = off + xs.length := by simp; omega
            rw [List.append_assoc, List.getElem?_append_right (by omega), h2, List.getElem?_append_left (by omega), ← hu]
            congr 1
            omega
      · have holds : ∀ j u, xs[j]? = some u → w.cell? ((⟨g, off, none⟩ : Addr).add j) = some u := fun j u hu => by
          rw [Addr.add_lit, cell_of_row w g _ cur E (0, 0) hh]
          exact hx j u hu
        have hrun := run_append_grow (P := P) w t ty E i z hu hi hz ⟨g, off, none⟩ xs.length c xs (by simp [hs1]) holds ad news.length cx news (by simp [hs1]) hnews (by omega) (by omega) (growslice_fits (by omega) hbytes)
        have hgr := grown c (by omega) (Value.ownBlock (.slice (some ⟨g, off, none⟩) xs.length c))
        exact ⟨_, _, _, hrun, hgr.1, hgr.2, .inr rfl⟩

/-- 'append' onto a slice that is owned, whatever is appended. -/
theorem wp_app {o : Oper} {a : Act} {K : Act → World → Prop} {Q : Exit → Act → World → Prop} (s x : Operand) (t : TypeId)
    (ho : o.op = .call { callee := .builtin .append, args := #[s, x], argTypes := #[t, t] })
    {E B bytes : Nat} {z : Value} (ht : ElemOk P t E bytes z) {v : Value} {xs : List Value} (hs : a.eval s = v) (hown : Own w E B v xs) {vx : Value} {news : List Value} (hx : a.eval x = vx) (hr : Rd w vx news)
    (h1 : ∀ u ∈ news, u.oneCell' = true) (hB : B ≤ w.heap.size) (hbytes : (xs.length + news.length) * bytes ≤ 140737488355328) (h63 : xs.length + news.length ≤ 9223372036854775807)
    (h : ∀ b c w', Own w' E B (.slice b (xs.length + news.length) c) (xs ++ news) → w.grownBy w' v.ownBlock →
      ((Value.slice b (xs.length + news.length) c).ownBlock = v.ownBlock ∨ (Value.slice b (xs.length + news.length) c).ownBlock = some w.heap.size) →
      K (a.put o.dst (.slice b (xs.length + news.length) c)) w') : o.wp P a w K Q := by
  obtain ⟨b, c, w', hrun, h2, h3, h4⟩ := run_app (ty := o.type) ht hown hr h1 hB hbytes h63
  unfold Oper.wp execOp
  simp only [ho, resolve, invoke, builtin, Sem.run_bind, Sem.run_pure, Result.andThen_ok, List.map_toArray, List.map_cons, List.map_nil, hs, hx, hrun]
  exact h b c w' h2 h3 h4

theorem wpList_app {ops : Array Oper} {rest : List Oper} {o : Oper} {a : Act} {Q : Exit → Act → World → Prop} (hgd : o.guard = none) (s x : Operand) (t : TypeId)
    (ho : o.op = .call { callee := .builtin .append, args := #[s, x], argTypes := #[t, t] })
    {E B bytes : Nat} {z : Value} (ht : ElemOk P t E bytes z) {v : Value} {xs : List Value} (hs : a.eval s = v) (hown : Own w E B v xs) {vx : Value} {news : List Value} (hx : a.eval x = vx) (hr : Rd w vx news)
    (h1 : ∀ u ∈ news, u.oneCell' = true) (hB : B ≤ w.heap.size) (hbytes : (xs.length + news.length) * bytes ≤ 140737488355328) (h63 : xs.length + news.length ≤ 9223372036854775807)
    (h : ∀ b c w', Own w' E B (.slice b (xs.length + news.length) c) (xs ++ news) → w.grownBy w' v.ownBlock →
      ((Value.slice b (xs.length + news.length) c).ownBlock = v.ownBlock ∨ (Value.slice b (xs.length + news.length) c).ownBlock = some w.heap.size) →
      wpList P ops Q rest (a.put o.dst (.slice b (xs.length + news.length) c)) w') : wpList P ops Q (o :: rest) a w :=
  wpList_plain hgd fun _ hK => wp_app s x t ho ht hs hown hx hr h1 hB hbytes h63 fun b c w' h2 h3 h4 => hK _ _ (h b c w' h2 h3 h4)

/-- The same at a step of a region that draws its order. -/
theorem step_app {ops : Array Oper} {o : Oper} {a : Act} {K : Act → World → Prop} {Q : Exit → Act → World → Prop} {F : Prop} (hgd : o.guard = none) (s x : Operand) (t : TypeId)
    (ho : o.op = .call { callee := .builtin .append, args := #[s, x], argTypes := #[t, t] })
    {E B bytes : Nat} {z : Value} (ht : ElemOk P t E bytes z) {v : Value} {xs : List Value} (hs : a.eval s = v) (hown : Own w E B v xs) {vx : Value} {news : List Value} (hx : a.eval x = vx) (hr : Rd w vx news)
    (h1 : ∀ u ∈ news, u.oneCell' = true) (hB : B ≤ w.heap.size) (hbytes : (xs.length + news.length) * bytes ≤ 140737488355328) (h63 : xs.length + news.length ≤ 9223372036854775807)
    (h : ∀ b c w', Own w' E B (.slice b (xs.length + news.length) c) (xs ++ news) → w.grownBy w' v.ownBlock →
      ((Value.slice b (xs.length + news.length) c).ownBlock = v.ownBlock ∨ (Value.slice b (xs.length + news.length) c).ownBlock = some w.heap.size) →
      K (a.put o.dst (.slice b (xs.length + news.length) c)) w') : if Region.wanted o (yielded ops a.tmps) = true then Oper.wp P o a w K Q else F := by
  have hw : Region.wanted o (yielded ops a.tmps) = true := by simp [Region.wanted, hgd]
  rw [if_pos hw]
  exact wp_app s x t ho ht hs hown hx hr h1 hB hbytes h63 h

theorem rd_one (w : World) (E : Nat) (u : Value) : Rd (w.alloc (.cells #[u] E)) (.slice (some ⟨w.heap.size, 0, none⟩) 1 1) [u] :=
  ⟨_, 1, rfl, by simp, by omega, fun _ => ⟨_, rfl, fun j x hj => by
    match j, hj with
    | 0, hj => simpa [Addr.add] using hj⟩⟩

/-- The same, one element, behind a new block and a draw. -/
theorem step_app1 {w : World} {ops : Array Oper} {o : Oper} {a : Act} {K : Act → World → Prop} {Q : Exit → Act → World → Prop} {F : Prop} (hgd : o.guard = none) (s x : Operand) (t : TypeId)
    (ho : o.op = .call { callee := .builtin .append, args := #[s, x], argTypes := #[t, t] })
    {E B bytes : Nat} {z : Value} (ht : ElemOk P t E bytes z) {v u : Value} {xs : List Value} (hs : a.eval s = v) (hown : Own w E B v xs) (hx : a.eval x = .slice (some ⟨w.heap.size, 0, none⟩) 1 1)
    (h1 : u.oneCell' = true) (hB : B ≤ w.heap.size) (hbytes : (xs.length + 1) * bytes ≤ 140737488355328) (h63 : xs.length + 1 ≤ 9223372036854775807)
    (h : ∀ b c w', Own w' E B (.slice b (xs.length + 1) c) (xs ++ [u]) → w.grownBy w' v.ownBlock →
      ((Value.slice b (xs.length + 1) c).ownBlock = v.ownBlock ∨ ∃ k, w.heap.size ≤ k ∧ (Value.slice b (xs.length + 1) c).ownBlock = some k) →
      K (a.put o.dst (.slice b (xs.length + 1) c)) w') : if Region.wanted o (yielded ops a.tmps) = true then Oper.wp P o a (w.alloc (.cells #[u] E)).drew K Q else F := by
  refine step_app hgd s x t ho ht hs (hown.alloc _).drew hx (rd_one w E u).drew (by simpa using h1) (by simp; omega) (by simpa using hbytes) (by simpa using h63) fun b c w' h2 h3 h4 => ?_
  simp only [List.length_cons, List.length_nil, Nat.zero_add] at h2 h3 h4 ⊢
  refine h b c w' h2 ⟨h3.os, h3.tape, h3.output, by have := h3.size; simp at this; omega, fun k hk hne => (h3.block k (by simp; omega) hne).trans (Below.heap_alloc w _ k hk)⟩ ?_
  rcases h4 with h4 | h4
  · exact .inl h4
  · exact .inr ⟨_, by simp, h4⟩

/-- 'append(out, x)': one element. -/
theorem wpList_app1 {w : World} {ops : Array Oper} {rest : List Oper} {o : Oper} {a : Act} {Q : Exit → Act → World → Prop} (hgd : o.guard = none) (s x : Operand) (t : TypeId)
    (ho : o.op = .call { callee := .builtin .append, args := #[s, x], argTypes := #[t, t] })
    {E B bytes : Nat} {z : Value} (ht : ElemOk P t E bytes z) {v u : Value} {xs : List Value} (hs : a.eval s = v) (hown : Own w E B v xs) (hx : a.eval x = .slice (some ⟨w.heap.size, 0, none⟩) 1 1)
    (h1 : u.oneCell' = true) (hB : B ≤ w.heap.size) (hbytes : (xs.length + 1) * bytes ≤ 140737488355328) (h63 : xs.length + 1 ≤ 9223372036854775807)
    (h : ∀ b c w', Own w' E B (.slice b (xs.length + 1) c) (xs ++ [u]) → w.grownBy w' v.ownBlock →
      ((Value.slice b (xs.length + 1) c).ownBlock = v.ownBlock ∨ ∃ k, w.heap.size ≤ k ∧ (Value.slice b (xs.length + 1) c).ownBlock = some k) →
      wpList P ops Q rest (a.put o.dst (.slice b (xs.length + 1) c)) w') : wpList P ops Q (o :: rest) a (w.alloc (.cells #[u] E)) := by
  refine wpList_app hgd s x t ho ht hs (hown.alloc _) hx (rd_one w E u) (by simpa using h1) (by simp; omega) (by simpa using hbytes) (by simpa using h63) fun b c w' h2 h3 h4 => ?_
  simp only [List.length_cons, List.length_nil, Nat.zero_add] at h2 h3 h4 ⊢
  refine h b c w' h2 ⟨h3.os, h3.tape, h3.output, by have := h3.size; simp at this; omega, fun k hk hne => (h3.block k (by simp; omega) hne).trans (Below.heap_alloc w _ k hk)⟩ ?_
  rcases h4 with h4 | h4
  · exact .inl h4
  · exact .inr ⟨_, by simp, h4⟩

theorem Own.lit0 {B : Nat} (w : World) (E : Nat) (hb : B ≤ w.heap.size) : Own (w.alloc (.cells #[] E)) E B (.slice (some ⟨w.heap.size, 0, none⟩) 0 0) (ints []) := Own.lit w E B #[] hb (by simp)
theorem Below.alloc' {B : Nat} {a w : World} (h : Below B a w) (hB : B ≤ a.heap.size) (o : Obj) : Below B a (w.alloc o) := h.alloc (Nat.le_trans hB h.size) o

/-- 'make([]T, n)'. -/
theorem wpList_mk {w : World} {ops : Array Oper} {rest : List Oper} {o : Oper} {a : Act} {Q : Exit → Act → World → Prop} (hgd : o.guard = none) (l c : Operand) (t : TypeId) (hop : o.op = Op.makeSlice t l c)
    {E B bytes : Nat} {z : Value} (ht : ElemOk P t E bytes z) {n : Nat} (hl : a.eval l = .int .i64 (n : Int)) (hc : a.eval c = .int .i64 (n : Int)) (hB : B ≤ w.heap.size) (hbytes : bytes * n ≤ 281474976710656) (h63 : n ≤ 9223372036854775807)
    (h : ∀ b w', b.block = w.heap.size → Own w' E B (.slice (some b) n n) (List.replicate n z) → w.grownBy w' none → wpList P ops Q rest (a.put o.dst (.slice (some b) n n)) w') :
    wpList P ops Q (o :: rest) a w := by
  obtain ⟨i, hu, hi, hz, hs1, hby, hzs⟩ := ht.ex
  refine wpList_plain hgd fun K hK' => ?_
  have hb' : (i.bytes : Int) * (n : Int) ≤ 281474976710656 := by
    have h : ((i.bytes * n : Nat) : Int) ≤ 281474976710656 := by rw [hby]; omega
    rwa [Int.natCast_mul] at h
  have hr := run_make (P := P) w t E i z hu hi hz .i64 .i64 n n (by omega) (Int.le_refl _) hb' (by omega)
  simp only [Int.toNat_natCast] at hr
  unfold Oper.wp
  simp only [execOp, hop, hl, hc, hr, Sem.run_bind, Sem.run_pure, Result.andThen, Oper.upon_value]
  refine hK' _ _ (h _ _ rfl ?_ (World.grownBy_alloc w _ none))
  have hcs : (madeCells z.cells (n * i.size)).size = n := by rw [size_madeCells, hs1]; omega
  have e : (madeCells z.cells (n * i.size)).toList = List.replicate n z := by
    rw [hzs, hs1, Nat.mul_one, toList_madeCells_one]
  have hown := Own.lit w E B (madeCells z.cells (n * i.size)) hB (by omega)
  rw [hcs, e] at hown
  exact hown
end

section
variable {w w' : World} {E B : Nat} {xs : List Int} {a : Option Addr} {n c k : Nat}
theorem Rd.int (h : Rd w (.slice a n c) (ints xs)) (hk : k < xs.length) : ∃ ad x, a = some ad ∧ w.cell? (ad.add k) = some (.int .i64 x) ∧ Hid (xs[k]? = some x) := by
  obtain ⟨ad, h1, h2⟩ := h.cell (k := k) (by simpa [ints] using hk)
  refine ⟨ad, xs[k], h1, by rw [h2]; simp [ints], List.getElem?_eq_getElem hk⟩
theorem Own.seti (h : Own w E B (.slice a n c) (ints xs)) {ad : Addr} (ha : a = some ad) (hk : k < xs.length) (y : Int) :
    Own (w.setCell (ad.add k) (.int .i64 y)) E B (.slice a n c) (ints (xs.set k y)) ∧ w.grownBy (w.setCell (ad.add k) (.int .i64 y)) (some ad.block) := by
  rw [ints_set]
  exact h.set ha (by simpa [ints] using hk) _
theorem Rd.formi {v : Value} (h : Rd w v (ints xs)) : ∃ (a : Option Addr) (c : Nat), v = .slice a xs.length c ∧ xs.length ≤ c ∧ c ≤ 9223372036854775807 := by
  obtain ⟨a, c, h1, h2, h3⟩ := h.form
  exact ⟨a, c, by simpa [ints] using h1, by simpa [ints] using h2, h3⟩
theorem Own.below_set (h : Own w E B (.slice a n c) (ints xs)) {ad : Addr} (ha : a = some ad) (hk : k < xs.length) (u : Value) {w0 : World} {B0 : Nat} (hb : Below B0 w0 w) (hB : B0 ≤ B) : Below B0 w0 (w.setCell (ad.add k) u) := by
  refine hb.setCell ?_ u
  rw [block_of_add]
  subst ha
  have := (h.lt _ rfl).1
  omega
end

/-- Of the blocks that were there only those from B to T may have turned. -/
structure Chg (B T : Nat) (w w' : World) : Prop where
  os : w'.os = w.os
  tape : w'.tape = w.tape
  output : w'.output = w.output
  size : w.heap.size ≤ w'.heap.size
  block : ∀ k, k < w.heap.size → (k < B ∨ T ≤ k) → w'.heap[k]? = w.heap[k]?
section
variable {w w' w2 w0 : World} {v : Value} {xs : List Value} {B T B' T' E : Nat}
theorem Chg.row {row : Option Nat} (hg : w.grownBy w' row) (h : ∀ k, row = some k → B ≤ k ∧ k < T) : Chg B T w w' :=
  ⟨hg.os, hg.tape, hg.output, hg.size, fun k hk hd => hg.block k hk (fun e => by have := h k e.symm; omega)⟩
theorem Chg.refl (B T : Nat) (w : World) : Chg B T w w := ⟨rfl, rfl, rfl, Nat.le_refl _, fun _ _ _ => rfl⟩
theorem Chg.trans (h : Chg B T w w') (k : Chg B T w' w2) : Chg B T w w2 :=
  ⟨k.os.trans h.os, k.tape.trans h.tape, k.output.trans h.output, Nat.le_trans h.size k.size, fun i hi hd => (k.block i (Nat.lt_of_lt_of_le hi h.size) hd).trans (h.block i hi hd)⟩
theorem Chg.setCell (h : Chg B T w w') {p : Addr} (hp : B ≤ p.block) (hp2 : p.block < T) (u : Value) : Chg B T w (w'.setCell p u) :=
  ⟨h.os, h.tape, h.output, by simpa using h.size, fun k hk hd => (heap_setCell_other w' p k u (by omega)).trans (h.block k hk hd)⟩
theorem Own.chg (h : Own w E B v xs) (hc : Chg B' T' w w') (hd : ∀ k, v.ownBlock = some k → k < B' ∨ T' ≤ k) : Own w' E B v xs :=
  h.keep fun k hk he => hc.block k hk (hd k he.symm)
end

/-- But for draws the world is as it was. -/
def Dr (w w' : World) : Prop := ∃ n, w.drewN n = w'
section
variable {w w' w2 : World} {v : Value} {xs : List Value}
theorem Dr.refl (w : World) : Dr w w := ⟨0, rfl⟩
theorem Dr.step (h : Dr w w') (n : Nat) : Dr w (w'.drewN n) := by
  obtain ⟨m, rfl⟩ := h
  exact ⟨_, (World.drewN_drewN _ _ _).symm⟩
theorem Dr.trans (h : Dr w w') (k : Dr w' w2) : Dr w w2 := by
  obtain ⟨m, rfl⟩ := k
  exact h.step m
theorem Dr.below (h : Dr w w') (B : Nat) : Below B w w' := by
  obtain ⟨m, rfl⟩ := h
  exact ⟨rfl, rfl, rfl, Nat.le_refl _, fun _ _ => rfl⟩
theorem Dr.size (h : Dr w w') : w'.heap.size = w.heap.size := by
  obtain ⟨m, rfl⟩ := h
  rfl
theorem Rd.dr (h : Rd w v xs) (hw : Dr w w') : Rd w' v xs := h.below (hw.below _)
theorem Own.dr {E B : Nat} (h : Own w E B v xs) (hw : Dr w w') : Own w' E B v xs := h.below (hw.below _)
end

/-- A slice of slices of integers that is read. -/
def Rd2 (w : World) (v : Value) (xss : List (List Int)) : Prop :=
  ∃ rows : List Value, Rd w v rows ∧ rows.length = xss.length ∧ ∀ (i : Nat) (r : Value), rows[i]? = some r → ∃ xs : List Int, xss[i]? = some xs ∧ Rd w r (ints xs)

/-- The number fits an int. -/
def I64 (n : Int) : Prop := -9223372036854775808 ≤ n ∧ n ≤ 9223372036854775807
def I64s (xs : List Int) : Prop := ∀ x ∈ xs, I64 x
def I64ss (xss : List (List Int)) : Prop := ∀ xs ∈ xss, I64s xs

/-- What a law's contract says: it answers true, and nothing that existed has turned. -/
def Law (w : World) (e : Ending) (w' : World) : Prop := e = .returned (.bool true) ∧ Below w.heap.size w w'

section
variable {w w' : World} {v : Value} {xss : List (List Int)}
theorem Rd2.nil (w : World) : Rd2 w (.slice none 0 0) [] := ⟨[], Rd.nil w, rfl, fun i r h => by simp at h⟩
theorem Rd2.form (h : Rd2 w v xss) : ∃ (a : Option Addr) (c : Nat), v = .slice a xss.length c ∧ xss.length ≤ c ∧ c ≤ 9223372036854775807 := by
  obtain ⟨rows, h1, h2, _⟩ := h
  obtain ⟨a, c, e, h3, h4⟩ := h1.form
  exact ⟨a, c, by rw [← h2]; exact e, by omega, h4⟩
theorem Rd2.row {a : Option Addr} {n c k : Nat} (h : Rd2 w (.slice a n c) xss) (hk : k < xss.length) :
    ∃ ad b m d xs, a = some ad ∧ w.cell? (ad.add k) = some (.slice b m d) ∧ Hid (xss[k]? = some xs) ∧ Hid (m = xs.length) ∧ m ≤ d ∧ d ≤ 9223372036854775807 ∧ Rd w (.slice b m d) (ints xs) := by
  obtain ⟨rows, h1, h2, h3⟩ := h
  obtain ⟨ad, e, hc⟩ := h1.cell (k := k) (by omega)
  obtain ⟨xs, hx, hr⟩ := h3 k _ (List.getElem?_eq_getElem (by omega))
  obtain ⟨b, d, hv, h4, h5⟩ := hr.formi
  rw [hv] at hc hr
  exact ⟨ad, b, _, d, xs, e, hc, hx, rfl, h4, h5, hr⟩
theorem Rd2.keep (h : Rd2 w v xss) (hb : ∀ p : Addr, p.block < w.heap.size → w'.cell? p = w.cell? p) : Rd2 w' v xss := by
  obtain ⟨rows, h1, h2, h3⟩ := h
  refine ⟨rows, h1.keep fun p hp _ => hb p hp, h2, fun i r hr => ?_⟩
  obtain ⟨xs, hx, h4⟩ := h3 i r hr
  exact ⟨xs, hx, h4.keep fun p hp _ => hb p hp⟩
theorem Rd2.below (h : Rd2 w v xss) (hb : Below w.heap.size w w') : Rd2 w' v xss := h.keep fun _ hp => hb.cell hp
theorem Rd2.dr (h : Rd2 w v xss) (hw : Dr w w') : Rd2 w' v xss := h.below (hw.below _)
theorem Rd2.drew (h : Rd2 w v xss) : Rd2 w.drew v xss := h
theorem Rd2.drewN (h : Rd2 w v xss) (n : Nat) : Rd2 (w.drewN n) v xss := h
theorem Rd2.alloc (h : Rd2 w v xss) (o : Obj) : Rd2 (w.alloc o) v xss := h.keep fun _ hp => World.cell?_alloc_lt w o _ hp
end

/-- The rows are owned, each in a block of its own, all from B to T. -/
def RowsOwn (w : World) (E B T : Nat) (rows : List Value) (xss : List (List Int)) : Prop :=
  rows.length = xss.length ∧
  (∀ (i : Nat) (r : Value), rows[i]? = some r → ∃ xs : List Int, xss[i]? = some xs ∧ Own w E B r (ints xs) ∧ ∀ k, r.ownBlock = some k → k < T) ∧
  (∀ (i j : Nat) (r s : Value), i < j → rows[i]? = some r → rows[j]? = some s → ∀ k, r.ownBlock = some k → s.ownBlock ≠ some k)

/-- A slice of slices that is owned, rows and all. -/
def Own2 (w : World) (EO E B T : Nat) (v : Value) (xss : List (List Int)) : Prop :=
  ∃ rows : List Value, Own w EO B v rows ∧ (∀ k, v.ownBlock = some k → k < T) ∧ RowsOwn w E B T rows xss

section
variable {w w' : World} {E EO B B' T T' : Nat} {v r : Value} {rows : List Value} {xs : List Int} {xss : List (List Int)}

theorem Own.elem_ne {F B2 : Nat} {u : Value} {ys : List Value} (h : Own w E B v rows) (k : Own w F B2 u ys) (hne : E ≠ F) : ∀ g, v.ownBlock = some g → u.ownBlock ≠ some g := by
  intro g h1 h2
  rcases h with ⟨rfl, _⟩ | ⟨g1, o1, c1, cur1, rfl, _, hh1, _⟩
  · cases h1
  · rcases k with ⟨rfl, _⟩ | ⟨g2, o2, c2, cur2, rfl, _, hh2, _⟩
    · cases h2
    · simp only [Value.ownBlock, Option.some.injEq] at h1 h2
      subst h1
      subst h2
      rw [hh1] at hh2
      injection hh2 with hh2
      injection hh2 with _ e
      exact hne e

theorem RowsOwn.nil (w : World) (E B T : Nat) : RowsOwn w E B T [] [] := ⟨rfl, fun i r h => by simp at h, fun i j r s _ h => by simp at h⟩
theorem RowsOwn.mono (h : RowsOwn w E B T rows xss) (hB : B' ≤ B) (hT : T ≤ T') : RowsOwn w E B' T' rows xss :=
  ⟨h.1, fun i r hr => by
    obtain ⟨xs, h1, h2, h3⟩ := h.2.1 i r hr
    exact ⟨xs, h1, h2.mono hB, fun k hk => Nat.lt_of_lt_of_le (h3 k hk) hT⟩, h.2.2⟩
theorem RowsOwn.keep (h : RowsOwn w E B T rows xss) (hk : ∀ r ∈ rows, ∀ k, k < w.heap.size → some k = r.ownBlock → w'.heap[k]? = w.heap[k]?) : RowsOwn w' E B T rows xss :=
  ⟨h.1, fun i r hr => by
    obtain ⟨xs, h1, h2, h3⟩ := h.2.1 i r hr
    exact ⟨xs, h1, h2.keep (hk r (List.mem_of_getElem? hr)), h3⟩, h.2.2⟩
theorem RowsOwn.below (h : RowsOwn w E B T rows xss) (hb : Below w.heap.size w w') : RowsOwn w' E B T rows xss := h.keep fun _ _ k hk _ => hb.block k hk
theorem RowsOwn.alloc (h : RowsOwn w E B T rows xss) (o : Obj) : RowsOwn (w.alloc o) E B T rows xss := h.keep fun _ _ k hk _ => Below.heap_alloc w o k hk
theorem RowsOwn.row (h : RowsOwn w E B T rows xss) {i : Nat} (hr : rows[i]? = some r) : ∃ xs : List Int, xss[i]? = some xs ∧ Own w E B r (ints xs) := by
  obtain ⟨xs, h1, h2, _⟩ := h.2.1 i r hr
  exact ⟨xs, h1, h2⟩
/-- What turns is another block than the rows'. -/
theorem RowsOwn.grown {row : Option Nat} (h : RowsOwn w E B T rows xss) (hg : w.grownBy w' row) (hne : ∀ r ∈ rows, ∀ k, r.ownBlock = some k → row ≠ some k) : RowsOwn w' E B T rows xss :=
  h.keep fun r hr k hk e => hg.block k hk (fun e2 => hne r hr k e.symm e2.symm)
/-- The outer slice turns (an append, a store). -/
theorem RowsOwn.outer {u : Value} {ys : List Value} (h : RowsOwn w E B T rows xss) (hg : w.grownBy w' u.ownBlock) (hu : Own w EO B' u ys) (hne : EO ≠ E) : RowsOwn w' E B T rows xss :=
  h.grown hg fun r hr k hk e => by
    obtain ⟨i, hi, rfl⟩ := List.getElem_of_mem hr
    obtain ⟨xs, _, h2⟩ := h.row (List.getElem?_eq_getElem hi)
    exact hu.elem_ne h2 hne k e hk
theorem RowsOwn.chg {C D : Nat} (h : RowsOwn w E B T rows xss) (hc : Chg C D w w') (hd : T ≤ C ∨ D ≤ B) : RowsOwn w' E B T rows xss :=
  ⟨h.1, fun i r hr => by
    obtain ⟨xs, h1, h2, h3⟩ := h.2.1 i r hr
    exact ⟨xs, h1, h2.chg hc fun k hk => by have := h3 k hk; have := (h2.lt k hk).1; omega, h3⟩, h.2.2⟩
/-- One row more, in a new block. -/
theorem RowsOwn.snoc (h : RowsOwn w E B T rows xss) (hr : Own w E B r (ints xs)) (hf : ∀ k, r.ownBlock = some k → T ≤ k ∧ k < T') (hT : T ≤ T') : RowsOwn w E B T' (rows ++ [r]) (xss ++ [xs]) := by
  refine ⟨by simp [h.1], fun i s hs => ?_, fun i j s u hij hs hu k hk => ?_⟩
  · rw [List.getElem?_append] at hs
    by_cases e : i < rows.length
    · rw [if_pos e] at hs
      obtain ⟨ys, h1, h2, h3⟩ := h.2.1 i s hs
      exact ⟨ys, by rw [List.getElem?_append_left (by rw [← h.1]; exact e)]; exact h1, h2, fun k hk => Nat.lt_of_lt_of_le (h3 k hk) hT⟩
    · rw [if_neg e] at hs
      have h1 : i - rows.length = 0 := by
        have := (List.getElem?_eq_some_iff.1 hs).1
        simp at this
        omega
      rw [h1] at hs
      simp at hs
      subst hs
      exact ⟨xs, by rw [List.getElem?_append_right (by rw [← h.1]; omega), ← h.1, h1]; rfl, hr, fun k hk => (hf k hk).2⟩
  · rw [List.getElem?_append] at hs hu
    have hj := hu
    by_cases e2 : j < rows.length
    · rw [if_pos e2] at hu
      rw [if_pos (by omega)] at hs
      exact h.2.2 i j s u hij hs hu k hk
    · rw [if_neg e2] at hu
      have h1 : j - rows.length = 0 := by
        have := (List.getElem?_eq_some_iff.1 hu).1
        simp at this
        omega
      rw [h1] at hu
      simp at hu
      subst hu
      rw [if_pos (by omega)] at hs
      obtain ⟨ys, _, _, h3⟩ := h.2.1 i s hs
      intro e
      have := (hf k e).1
      have := h3 k hk
      omega

theorem Own2.rd (h : Own2 w EO E B T v xss) : Rd2 w v xss := by
  obtain ⟨rows, h1, _, h3⟩ := h
  refine ⟨rows, h1.rd, h3.1, fun i r hr => ?_⟩
  obtain ⟨xs, h4, h5⟩ := h3.row hr
  exact ⟨xs, h4, h5.rd⟩
theorem Own2.below (h : Own2 w EO E B T v xss) (hb : Below w.heap.size w w') : Own2 w' EO E B T v xss := by
  obtain ⟨rows, h1, h2, h3⟩ := h
  exact ⟨rows, h1.below hb, h2, h3.below hb⟩
theorem Own2.chg {C D : Nat} (h : Own2 w EO E B T v xss) (hc : Chg C D w w') (hd : T ≤ C ∨ D ≤ B) : Own2 w' EO E B T v xss := by
  obtain ⟨rows, h1, h2, h3⟩ := h
  exact ⟨rows, h1.chg hc fun k hk => by have := h2 k hk; have := (h1.lt k hk).1; omega, h2, h3.chg hc hd⟩
theorem Own2.mono (h : Own2 w EO E B T v xss) (hB : B' ≤ B) (hT : T ≤ T') : Own2 w EO E B' T' v xss := by
  obtain ⟨rows, h1, h2, h3⟩ := h
  exact ⟨rows, h1.mono hB, fun k hk => Nat.lt_of_lt_of_le (h2 k hk) hT, h3.mono hB hT⟩
theorem Own2.nil (w : World) (EO E B T : Nat) : Own2 w EO E B T (.slice none 0 0) [] := ⟨[], Own.nil w EO B, (fun k h => by cases h), RowsOwn.nil w E B T⟩
theorem Own2.form (h : Own2 w EO E B T v xss) : ∃ (a : Option Addr) (c : Nat), v = .slice a xss.length c ∧ xss.length ≤ c ∧ c ≤ 9223372036854775807 := h.rd.form
end

end Go.Proofs.YtggblfnajeikjaaGreatDoor

namespace Go.Proofs.YtggblfnajeikjaaGreatDoor
open Go.RowKit
set_option linter.unusedVariables false
set_option linter.unusedSimpArgs false

/-- A new slice is returned; nothing that existed has turned. -/
def RetOwn (E : Nat) (xs : List Value) (w : World) (e : Ending) (w' : World) : Prop :=
  ∃ v, e = .returned v ∧ Own w' E w.heap.size v xs ∧ Below w.heap.size w w'

theorem ret_int {k : IntKind} {a b : Int} (h : a = b) : Ending.returned (.int k a) = .returned (.int k b) := by rw [h]
theorem ret_bool {a b : Bool} (h : a = b) : Ending.returned (.bool a) = .returned (.bool b) := by rw [h]

/-- It returns the value v, and nothing that existed has turned. -/
def RetB (v : Value) (w : World) (e : Ending) (w' : World) : Prop := e = .returned v ∧ Below w.heap.size w w'
theorem RetOwn.nil (w : World) (E : Nat) : RetOwn E (ints []) w (.returned (.slice none 0 0)) w := ⟨_, rfl, Own.nil w E _, Below.refl _ _⟩

theorem elI : ElemOk Tryz.prog 23 3 8 (.int .i64 0) := by
  obtain ⟨i, hi, h0, h1, h2⟩ := info_parts (show (Tryz.prog.info? 3).map (fun i => (i.zero, i.size, i.bytes)) = some (some (.int .i64 0), 1, 8) by kernel_rfl)
  exact ⟨i, Tryz.underlying23, hi, h0, h1, h2, rfl⟩

def eqI (xs ys : List Int) : Bool := decide (xs = ys)
theorem eqI_len {xs ys : List Int} (h : xs.length ≠ ys.length) : eqI xs ys = false := by
  simp only [eqI, decide_eq_false_iff_not]
  rintro rfl
  exact h rfl
theorem eqI_no {xs ys : List Int} {k : Nat} {x y : Int} (hx : xs[k]? = some x) (hy : ys[k]? = some y) (h : x ≠ y) : eqI xs ys = false := by
  simp only [eqI, decide_eq_false_iff_not]
  rintro rfl
  rw [hx] at hy
  cases hy
  exact h rfl
theorem eqI_yes {xs ys : List Int} (hl : xs.length = ys.length) (h : ∀ (j : Nat) x y, j < xs.length → xs[j]? = some x → ys[j]? = some y → x = y) : eqI xs ys = true := by
  simp only [eqI, decide_eq_true_eq]
  apply List.ext_getElem hl
  intro j h1 h2
  exact h j _ _ h1 (List.getElem?_eq_getElem h1) (List.getElem?_eq_getElem h2)
theorem eqI_self (xs : List Int) : eqI xs xs = true := by simp [eqI]

/-- It returns the value v, and but for draws the world is as it was. -/
def RetQ (v : Value) (w : World) (e : Ending) (w' : World) : Prop := e = .returned v ∧ Dr w w'

/-- The marks m, m + 1, .. -/
def marks (m : Int) (n : Nat) : List Int := (List.range n).map fun (i : Nat) => m + (i : Int)
theorem elII : ElemOk Tryz.prog 28 23 24 (.slice none 0 0) := by
  obtain ⟨i, hi, h0, h1, h2⟩ := info_parts (show (Tryz.prog.info? 23).map (fun i => (i.zero, i.size, i.bytes)) = some (some (.slice none 0 0), 1, 24) by kernel_rfl)
  exact ⟨i, Tryz.underlying28, hi, h0, h1, h2, rfl⟩
/-- A new slice of slices is returned; nothing that existed has turned. -/
def RetOwn2 (xss : List (List Int)) (w : World) (e : Ending) (w' : World) : Prop :=
  ∃ v, e = .returned v ∧ Own2 w' 23 3 w.heap.size w'.heap.size v xss ∧ Below w.heap.size w w'
theorem RetOwn2.nil (w : World) : RetOwn2 [] w (.returned (.slice none 0 0)) w := ⟨_, rfl, Own2.nil w _ _ _ _, Below.refl _ _⟩
/-- How many numbers there are in all. -/
def tot (xss : List (List Int)) : Nat := xss.foldr (fun xs n => xs.length + n) 0
def SzOk (xss : List (List Int)) : Prop := xss.length ≤ 1048576 ∧ tot xss ≤ 1048576
theorem tot_append (a b : List (List Int)) : tot (a ++ b) = tot a + tot b := by
  induction a with
  | nil => simp [tot]
  | cons x t ih => simp only [tot, List.cons_append, List.foldr_cons] at *; omega
theorem tot_one (x : List Int) : tot [x] = x.length := by simp [tot]
theorem tot_mem {xss : List (List Int)} {xs : List Int} (h : xs ∈ xss) : xs.length ≤ tot xss := by
  induction xss with
  | nil => cases h
  | cons x t ih =>
    simp only [List.mem_cons] at h
    simp only [tot, List.foldr_cons] at *
    rcases h with rfl | h
    · omega
    · have := ih h; omega
theorem tot_take_le (xss : List (List Int)) (k : Nat) : tot (xss.take k) ≤ tot xss := by
  conv => rhs; rw [← List.take_append_drop k xss]
  rw [tot_append]
  omega
theorem take_snoc' {α : Type} {xs : List α} {k : Nat} {x : α} (h : xs[k]? = some x) : xs.take (k + 1) = xs.take k ++ [x] := by
  obtain ⟨hk, rfl⟩ := List.getElem?_eq_some_iff.1 h
  exact List.take_succ_eq_append_getElem hk

theorem quietQ {P : Program} {f : FuncId} {args : Array Value} {w : World} {n : Nat} {v : Value} (h : Calls P f args (w.drewN n) (RetQ v (w.drewN n))) :
    Calls P f args (w.drewN n) fun e w'' => e = .returned v ∧ ∃ m, w'' = w.drewN m :=
  h.mono fun _ _ ⟨he, k, hk⟩ => ⟨he, n + k, by rw [← hk, World.drewN_drewN]⟩
end Go.Proofs.YtggblfnajeikjaaGreatDoor

namespace Go.Proofs.YtggblfnajeikjaaGreatDoor
open Go.RowKit
set_option linter.unusedVariables false
set_option linter.unusedSimpArgs false

/-- A test that answers whether a number lies between two others. -/
def inB (x lo hi : Int) : Bool := decide (lo ≤ x) && decide (x ≤ hi)
theorem inB_iff {x lo hi : Int} : inB x lo hi = true ↔ lo ≤ x ∧ x ≤ hi := by simp [inB]
theorem inB_no {x lo hi : Int} : inB x lo hi = false ↔ ¬ (lo ≤ x ∧ x ≤ hi) := by rw [← inB_iff]; simp

/-- Function f has a text of its own: a call enters it. -/
def Known (f : Nat) : Prop := ∀ (args : Array Value) (w : World), (callFunc f args).run Tryz.prog w = .ok (.enter f args) w
theorem known {f : Nat} {fn : Func} (hf : Tryz.prog.funcs[f]? = some fn) (hn : (fn.name == "runtime.NumGoroutine") = false) (hb : fn.body.isNone = false) : Known f := by
  intro args w
  have hn' : ¬ fn.name = "runtime.NumGoroutine" := by simpa using hn
  have hb' : ¬ fn.body = none := by intro e; rw [e] at hb; cases hb
  simp [callFunc, hf, hn', hb']

set_option maxHeartbeats 400000 in
theorem s_l01In (x lo hi : Int) (w : World) : Calls Tryz.prog 175 #[.int .i64 x, .int .i64 lo, .int .i64 hi] w fun e w' => e = .returned (.bool (inB x lo hi)) ∧ w = w' := by
  by_cases h : lo ≤ x
  · have h1 : decide (lo ≤ x) = true := by simpa using h
    go_enter Tryz.func175, Tryz.ntmps175
    go_wp2
    go_ret
    exact ⟨ret_bool (by simp [inB, h]; try omega), rfl⟩
  · have h1 : decide (lo ≤ x) = false := by simpa using h
    go_enter Tryz.func175, Tryz.ntmps175
    go_wp2
    go_ret
    exact ⟨ret_bool (by simp [inB, h]; try omega), rfl⟩

end Go.Proofs.YtggblfnajeikjaaGreatDoor

namespace Go.Proofs.YtggblfnajeikjaaGreatDoor
set_option linter.unusedVariables false
set_option linter.unusedSimpArgs false

/-- Each number is at most the next one. -/
def adjB (ys : List Int) : Bool := (List.range (ys.length - 1)).all fun i => decide (ys.getD i 0 ≤ ys.getD (i + 1) 0)
theorem adjB_iff {ys : List Int} : adjB ys = true ↔ ∀ i a b, ys[i]? = some a → ys[i + 1]? = some b → a ≤ b := by
  simp only [adjB, List.all_eq_true, List.mem_range, decide_eq_true_eq]
  constructor
  · intro h i a b ha hb
    have h1 := (List.getElem?_eq_some_iff.1 hb).1
    have := h i (by omega)
    simpa [List.getD, ha, hb] using this
  · intro h i hi
    have h1 : i < ys.length := by omega
    have h2 : i + 1 < ys.length := by omega
    have := h i _ _ (List.getElem?_eq_getElem h1) (List.getElem?_eq_getElem h2)
    simpa [List.getD, h1, h2] using this
theorem adjB_no {ys : List Int} {i : Nat} {a b : Int} (ha : ys[i]? = some a) (hb : ys[i + 1]? = some b) (h : b < a) : adjB ys = false := by
  cases e : adjB ys
  · rfl
  · have := adjB_iff.1 e i a b ha hb
    omega

end Go.Proofs.YtggblfnajeikjaaGreatDoor

namespace Go.Proofs.YtggblfnajeikjaaGreatDoor
open Go.RowKit
set_option linter.unusedVariables false
set_option linter.unusedSimpArgs false

theorem f_isNaN (x : Int) (w : World) : Calls Tryz.prog 188 #[.int .i64 x] w fun e w' => e = .returned (.bool false) ∧ w = w' := by
  go_enter Tryz.func188, Tryz.ntmps188
  go_wp2
  go_ret
  exact ⟨rfl, rfl⟩

theorem f_cmpLess (x y : Int) (w : World) : Calls Tryz.prog 137 #[.int .i64 x, .int .i64 y] w fun e w' => e = .returned (.bool (decide (x < y))) ∧ w = w' := by
  go_enter Tryz.func137, Tryz.ntmps137
  go_wp2_with (go_at_call 188; refine (f_isNaN _ _).mono ?_; rintro e w' ⟨rfl, rfl⟩)
  go_ret
  exact ⟨rfl, rfl⟩

set_option maxHeartbeats 400000 in
theorem f_IsSorted (v : Value) (xs : List Int) (w : World) (h : Rd w v (ints xs)) : Calls Tryz.prog 82 #[v] w (RetQ (.bool (adjB xs)) w) := by
  obtain ⟨a, c, rfl, h2, h3⟩ := h.formi
  go_enter Tryz.func82, Tryz.ntmps82
  go_wp2
  go_loopw [3] (fun i wr => ∃ n : Int, n ≤ (xs.length : Int) - 1 ∧ i = .int .i64 n ∧ Dr w wr ∧ -1 ≤ n ∧ Hid (∀ (m : Nat) y z, n ≤ (m : Int) → xs[m]? = some y → xs[m + 1]? = some z → y ≤ z)) (fun i _ => (intOf i).toNat)
  case atStart => exact ⟨_, Int.le_refl _, rfl, Dr.refl _, by omega, fun m _ z hm _ hz => by have := (List.getElem?_eq_some_iff.1 hz).1; omega⟩
  case round =>
    obtain ⟨n, hn, rfl, hdr, hn1, HN⟩ := hrel
    by_cases hlt : 0 < n
    · obtain ⟨k, rfl⟩ : ∃ k : Nat, n = (k : Int) + 1 := ⟨(n - 1).toNat, by omega⟩
      obtain ⟨ad, y, rfl, hc3, hy⟩ := (h.dr hdr).int (show k < xs.length by omega)
      obtain ⟨ad2, z, had, hc4, hz⟩ := (h.dr hdr).int (show k + 1 < xs.length by omega)
      obtain rfl : ad = ad2 := by injection had
      clear had
      rw [add_succ] at hc4
      have i1 : (k : Int) + 1 < (xs.length : Int) := by omega
      have i2 : (k : Int) < (xs.length : Int) := by omega
      have i3 : (0 : Int) ≤ (k : Int) := by omega
      have i4 : (0 : Int) ≤ (k : Int) + 1 := by omega
      have i5 : ((k : Int) + 1).toNat = k + 1 := by omega
      by_cases hzy : z < y
      · have hd : decide (z < y) = true := by simpa using hzy
        go_wp2
        go_quiet ((go_at_call 137; exact Calls.quiet_of_same ((f_cmpLess _ _ _).mono fun _ _ hh => ⟨hh.1, hh.2.symm⟩)))
        go_wp2
        go_ret
        exact ⟨ret_bool (adjB_no hy.out hz.out hzy).symm, hdr.step _⟩
      · have hd : decide (z < y) = false := by simpa using hzy
        go_wp2
        go_quiet ((go_at_call 137; exact Calls.quiet_of_same ((f_cmpLess _ _ _).mono fun _ _ hh => ⟨hh.1, hh.2.symm⟩)))
        go_wp2
        go_roundw
        case rel => exact ⟨(k : Int), by omega, by go_num, hdr.step _, by omega, fun m y' z' hm hy' hz' => by
          by_cases e : m = k
          · subst e
            rw [hy.out] at hy'
            rw [hz.out] at hz'
            cases hy'
            cases hz'
            omega
          · exact HN.out m y' z' (by omega) hy' hz'⟩
        case measure => simp [intOf] <;> omega
    · go_wp2
      go_ret
      exact ⟨ret_bool (adjB_iff.2 fun m a b ha hb => HN.out m a b (by omega) ha hb).symm, hdr⟩

def idxOf2 (p : List Int → Bool) (xss : List (List Int)) : Int := if xss.any p then (xss.findIdx p : Nat) else -1
theorem idxOf2_yes {p : List Int → Bool} {xs : List (List Int)} {k : Nat} {x : List Int} (hx : xs[k]? = some x) (hp : p x = true) (hno : ∀ (j : Nat) y, j < k → xs[j]? = some y → p y = false) : idxOf2 p xs = k := by
  obtain ⟨hk, rfl⟩ := List.getElem?_eq_some_iff.1 hx
  have h1 : xs.any p = true := List.any_eq_true.2 ⟨_, List.getElem_mem hk, hp⟩
  unfold idxOf2
  rw [if_pos h1]
  have : xs.findIdx p = k := by
    rw [List.findIdx_eq hk]
    exact ⟨hp, fun j hj => by simpa using hno j xs[j] hj (List.getElem?_eq_getElem _)⟩
  rw [this]
theorem idxOf2_no {p : List Int → Bool} {xs : List (List Int)} (hno : ∀ (j : Nat) y, j < xs.length → xs[j]? = some y → p y = false) : idxOf2 p xs = -1 := by
  unfold idxOf2
  rw [if_neg]
  intro h
  obtain ⟨x, hx, hp⟩ := List.any_eq_true.1 h
  obtain ⟨j, hj, rfl⟩ := List.getElem_of_mem hx
  rw [hno j _ hj (List.getElem?_eq_getElem hj)] at hp
  cases hp
end Go.Proofs.YtggblfnajeikjaaGreatDoor

namespace Go.Proofs.YtggblfnajeikjaaGreatDoor
open Go.RowKit
set_option linter.unusedVariables false
set_option linter.unusedSimpArgs false

theorem Rd.formN {w : World} {v : Value} {xs : List Int} (h : Rd w v (ints xs)) : ∃ (a : Option Addr) (m c : Nat), v = .slice a m c ∧ Hid (m = xs.length) ∧ m ≤ c ∧ c ≤ 9223372036854775807 := by
  obtain ⟨a, c, h1, h2, h3⟩ := h.formi
  exact ⟨a, _, c, h1, rfl, h2, h3⟩
theorem oneCell_ints1 (xs : List Int) : ∀ u ∈ ints xs, u.oneCell' = true := by
  intro u hu
  simp only [ints, List.mem_map] at hu
  obtain ⟨x, _, rfl⟩ := hu
  rfl
theorem ints_take (xs : List Int) (k : Nat) : (ints xs).take k = ints (xs.take k) := by simp [ints]
theorem ints_drop (xs : List Int) (k : Nat) : (ints xs).drop k = ints (xs.drop k) := by simp [ints]

/-- 'append([]T{}, xs...)': a copy. -/
theorem wpList_copy {P : Program} {w : World} {ops : Array Oper} {rest : List Oper} {o : Oper} {a : Act} {Q : Exit → Act → World → Prop} (hgd : o.guard = none) (s x : Operand) (t : TypeId)
    (ho : o.op = .call { callee := .builtin .append, args := #[s, x], argTypes := #[t, t] })
    {E B bytes : Nat} {z : Value} (ht : ElemOk P t E bytes z) {vx : Value} {news : List Value} (hr : Rd w vx news) (hs : a.eval s = .slice (some ⟨w.heap.size, 0, none⟩) 0 0) (hx : a.eval x = vx)
    (h1 : ∀ u ∈ news, u.oneCell' = true) (hB : B ≤ w.heap.size) (n : Nat) (hn : news.length = n) (hbytes : n * bytes ≤ 140737488355328) (h63 : n ≤ 9223372036854775807)
    (h : ∀ b c w', Own w' E w.heap.size (.slice b n c) news → Below w.heap.size w w' → wpList P ops Q rest (a.put o.dst (.slice b n c)) w') : wpList P ops Q (o :: rest) a (w.alloc (.cells #[] E)) := by
  subst hn
  have hlit : Own (w.alloc (.cells #[] E)) E w.heap.size (.slice (some ⟨w.heap.size, 0, none⟩) 0 0) [] := by simpa [ints] using Own.lit0 w E (Nat.le_refl _)
  refine wpList_app hgd s x t ho ht hs hlit hx (hr.alloc _) h1 (by simp) (by simpa using hbytes) (by simpa using h63) fun b c w' h2 h3 h4 => ?_
  simp only [List.length_nil, Nat.zero_add, List.nil_append] at h2 ⊢
  exact h b c w' h2 (((Below.refl _ _).alloc (Nat.le_refl _) _).grown h3 (by simp) fun r hr => (hlit.lt r hr).1)
/-- 'append(s, xs...)', the lengths in letters. -/
theorem wpList_appn {P : Program} {w : World} {ops : Array Oper} {rest : List Oper} {o : Oper} {a : Act} {Q : Exit → Act → World → Prop} (hgd : o.guard = none) (s x : Operand) (t : TypeId)
    (ho : o.op = .call { callee := .builtin .append, args := #[s, x], argTypes := #[t, t] })
    {E B bytes : Nat} {z : Value} (ht : ElemOk P t E bytes z) {v : Value} {xs : List Value} (hown : Own w E B v xs) {vx : Value} {news : List Value} (hr : Rd w vx news) (hs : a.eval s = v) (hx : a.eval x = vx)
    (h1 : ∀ u ∈ news, u.oneCell' = true) (hB : B ≤ w.heap.size) (m : Nat) (hm : xs.length + news.length = m) (hbytes : m * bytes ≤ 140737488355328) (h63 : m ≤ 9223372036854775807)
    (h : ∀ b c w', Own w' E B (.slice b m c) (xs ++ news) → w.grownBy w' v.ownBlock →
      ((Value.slice b m c).ownBlock = v.ownBlock ∨ (Value.slice b m c).ownBlock = some w.heap.size) →
      wpList P ops Q rest (a.put o.dst (.slice b m c)) w') : wpList P ops Q (o :: rest) a w := by
  subst hm
  exact wpList_app hgd s x t ho ht hs hown hx hr h1 hB hbytes h63 h
/-- 'append(s, x)', the length in a letter. -/
theorem wpList_app1m {P : Program} {w : World} {ops : Array Oper} {rest : List Oper} {o : Oper} {a : Act} {Q : Exit → Act → World → Prop} (hgd : o.guard = none) (s x : Operand) (t : TypeId)
    (ho : o.op = .call { callee := .builtin .append, args := #[s, x], argTypes := #[t, t] })
    {E B bytes : Nat} {z : Value} (ht : ElemOk P t E bytes z) {v u : Value} {xs : List Value} (hs : a.eval s = v) (hown : Own w E B v xs) (hx : a.eval x = .slice (some ⟨w.heap.size, 0, none⟩) 1 1)
    (h1 : u.oneCell' = true) (hB : B ≤ w.heap.size) (m : Nat) (hm : xs.length = m) (hbytes : (m + 1) * bytes ≤ 140737488355328) (h63 : m + 1 ≤ 9223372036854775807)
    (h : ∀ b c w', Own w' E B (.slice b (m + 1) c) (xs ++ [u]) → w.grownBy w' v.ownBlock →
      ((Value.slice b (m + 1) c).ownBlock = v.ownBlock ∨ ∃ k, w.heap.size ≤ k ∧ (Value.slice b (m + 1) c).ownBlock = some k) →
      wpList P ops Q rest (a.put o.dst (.slice b (m + 1) c)) w') : wpList P ops Q (o :: rest) a (w.alloc (.cells #[u] E)) := by
  subst hm
  exact wpList_app1 hgd s x t ho ht hs hown hx h1 hB hbytes h63 h

theorem Own.some_of {w : World} {E B : Nat} {b : Option Addr} {m c : Nat} {xs : List Value} (h : Own w E B (.slice b m c) xs) (hx : 0 < xs.length) : ∃ p, b = some p := by
  rcases h with ⟨_, rfl⟩ | ⟨g, off, c', cur, h1, _⟩
  · simp at hx
  · injection h1 with h1 _ _
    exact ⟨_, h1⟩

theorem Rd.cell_i {w : World} {p : Addr} {n c k : Nat} {xs : List Int} {x : Int} (h : Rd w (.slice (some p) n c) (ints xs)) (hx : xs[k]? = some x) : w.cell? (p.add k) = some (.int .i64 x) := by
  obtain ⟨ad, y, had, hc, hy⟩ := h.int (List.getElem?_eq_some_iff.1 hx).1
  injection had with had
  subst had
  rw [hy.out] at hx
  cases hx
  exact hc
theorem grownBy_trans {w w1 w2 : World} {r : Option Nat} (h : w.grownBy w1 r) (k : w1.grownBy w2 r) : w.grownBy w2 r :=
  ⟨k.os.trans h.os, k.tape.trans h.tape, k.output.trans h.output, Nat.le_trans h.size k.size, fun i hi hne => (k.block i (Nat.lt_of_lt_of_le hi h.size) hne).trans (h.block i hi hne)⟩
theorem grownBy_drewN {w w1 : World} {r : Option Nat} (h : w.grownBy w1 r) (n : Nat) : w.grownBy (w1.drewN n) r := ⟨h.os, h.tape, h.output, h.size, h.block⟩

end Go.Proofs.YtggblfnajeikjaaGreatDoor

namespace Go.Proofs.YtggblfnajeikjaaGreatDoor
open Go.RowKit
set_option linter.unusedVariables false
set_option linter.unusedSimpArgs false

/-- 'clear' of one element of two cells. -/
theorem run_clear_two {P : Program} (w : World) (t e ty : TypeId) (z a b : Value) (ht : P.underlying t = some (.slice e)) (hv : ∀ w, (zeroValue e).run P w = .ok z w) (hz : z.cells = #[a, b]) (h1 : a.oneCell' = true) (h2 : b.oneCell' = true) (g o c : Nat)
    (hc : ∀ j, j < 2 → (w.cell? ⟨g, o + j, none⟩).isSome = true) (hf : ∀ j, j < 2 → w.frozen? ⟨g, o + j, none⟩ = false) :
    (Builtin.clear_ #[t] ty #[.slice (some ⟨g, o, none⟩) 1 c]).run P w = .ok (.tuple #[]) (w.setCells g o [a, b]) := by
  have hzc : (Builtin.zeroCells z.cells 1).toList = [a, b] := by
    rw [hz]
    apply List.ext_getElem
    · simp [Builtin.zeroCells]
    · intro i h1 h2
      match i, h2 with
      | 0, _ => simp [Builtin.zeroCells]
      | 1, _ => simp [Builtin.zeroCells]
  have hst := run_storeCells_cells (P := P) g o [a, b] 0 w (by simpa using hc) (by simpa using hf) (by intro v hv'; simp at hv'; rcases hv' with rfl | rfl <;> assumption)
  simp only [Nat.add_zero] at hst
  simp [Builtin.clear_, run_underlying ht, hv, hzc, hst]

theorem zeroRun (w : World) : (zeroValue 123).run Tryz.prog w = .ok (.agg #[.int .i64 0, .slice none 0 0]) w := by kernel_rfl
theorem elRun : ∃ i, Tryz.prog.underlying 121 = some (.slice 123) ∧ Tryz.prog.info? 123 = some i ∧ i.zero = some (.agg #[.int .i64 0, .slice none 0 0]) ∧ i.size = 2 ∧ i.bytes = 32 := by
  obtain ⟨i, hi, h0, h1, h2⟩ := info_parts (show (Tryz.prog.info? 123).map (fun i => (i.zero, i.size, i.bytes)) = some (some (.agg #[.int .i64 0, .slice none 0 0]), 2, 32) by kernel_rfl)
  exact ⟨i, Tryz.underlying121, hi, h0, h1, h2⟩

theorem step_run {P : Program} {w : World} {ops : Array Oper} {o : Oper} {a : Act} {K : Act → World → Prop} {Q : Exit → Act → World → Prop} {E : Prop} (hgd : o.guard = none) (s x : Operand) (t : TypeId)
    (ho : o.op = .call { callee := .builtin .append, args := #[s, x], argTypes := #[t, t] }) {vs vx v' : Value} {w' : World} (hs : a.eval s = vs) (hx : a.eval x = vx)
    (hr : ∀ ty, (Builtin.append_ #[t, t] ty #[vs, vx]).run P w = .ok v' w') (h : K (a.put o.dst v') w') : if Region.wanted o (yielded ops a.tmps) = true then Oper.wp P o a w K Q else E := by
  have hw : Region.wanted o (yielded ops a.tmps) = true := by simp [Region.wanted, hgd]
  rw [if_pos hw]
  unfold Oper.wp
  simp [execOp, ho, resolve, invoke, builtin, hs, hx, hr, Result.andThen]
  exact h
theorem row_two {w : World} {g o : Nat} {cur : Array Value} {t : TypeId} {a b : Value} (hg : w.heap[g]? = some (.cells cur t (0, 0))) :
    (w.setCells g o [a, b]).heap[g]? = some (.cells ((cur.setIfInBounds o a).setIfInBounds (o + 1) b) t (0, 0)) ∧ w.grownBy (w.setCells g o [a, b]) (some g) := by
  have e1 := setCell_eq_setRow w g o cur t (0, 0) a hg
  have h1 : (w.setCell ⟨g, o, none⟩ a).heap[g]? = some (.cells (cur.setIfInBounds o a) t (0, 0)) := by rw [e1]; exact setRow_heap w g cur _ t _ hg
  have e2 := setCell_eq_setRow (w.setCell ⟨g, o, none⟩ a) g (o + 1) _ t (0, 0) b h1
  have h2 : (w.setCells g o [a, b]) = (w.setCell ⟨g, o, none⟩ a).setCell ⟨g, o + 1, none⟩ b := rfl
  refine ⟨by rw [h2, e2]; exact setRow_heap _ g _ _ t _ h1, ?_⟩
  rw [h2, e2, e1]
  exact ⟨rfl, rfl, rfl, by simp, fun k _ hk => by rw [setRow_other _ g k _ (fun e => hk (by rw [e])), setRow_other _ g k _ (fun e => hk (by rw [e]))]⟩
set_option maxRecDepth 100000 in
set_option maxHeartbeats 2000000 in
theorem f_DeleteRun (g n cap i : Nat) (cur : Array Value) (w : World) (hg : w.heap[g]? = some (.cells cur 123 (0, 0))) (hsz : cur.size = cap * 2) (hn : n ≤ cap) (hi : i < n) (hcap : cap ≤ 9223372036854775807) (h1 : ∀ u ∈ cur.toList.take (n * 2), u.oneCell' = true) :
    Calls Tryz.prog 142 #[.slice (some ⟨g, 0, none⟩) n cap, .int .i64 (i : Int), .int .i64 ((i : Int) + 1)] w fun e w' => e = .returned (.slice (some ⟨g, 0, none⟩) (n - 1) cap) ∧
      ∃ cur', w'.heap[g]? = some (.cells cur' 123 (0, 0)) ∧ cur'.size = cap * 2 ∧ cur'.toList.take ((n - 1) * 2) = cur.toList.take (i * 2) ++ (cur.toList.take (n * 2)).drop ((i + 1) * 2) ∧ w.grownBy w' (some g) := by
  obtain ⟨inf, hu, hinf, hz, hs2, _⟩ := elRun
  obtain ⟨m, hm⟩ : ∃ m, n - 1 = m := ⟨_, rfl⟩
  obtain ⟨news, hnews⟩ : ∃ news, (cur.toList.take (n * 2)).drop ((i + 1) * 2) = news := ⟨_, rfl⟩
  have hnl : news.length = (n - (i + 1)) * 2 := by rw [← hnews]; simp [hsz]; omega
  have hg1 : w.drew.heap[g]? = some (.cells cur 123 (0, 0)) := hg
  obtain ⟨A, hA0, hA1⟩ : ∃ A : Addr, (cap = i + 1 → A = ⟨g, 0, none⟩) ∧ (¬ cap = i + 1 → A = ⟨g, (i + 1) * 2, none⟩) := ⟨if cap = i + 1 then ⟨g, 0, none⟩ else ⟨g, (i + 1) * 2, none⟩, fun e => if_pos e, fun e => if_neg e⟩
  have hsrc : ∀ j u, news[j]? = some u → w.drew.cell? (A.add j) = some u := fun j u hu => by
    have hj := (List.getElem?_eq_some_iff.1 hu).1
    rw [← hnews, List.getElem?_drop, List.getElem?_take, if_pos (by omega)] at hu
    rw [hA1 (by omega), Addr.add_lit, cell_of_row w.drew g _ cur 123 (0, 0) hg1]
    simpa using hu
  obtain ⟨row, hrow⟩ : ∃ row, (cur.toList.take (i * inf.size) ++ news ++ cur.toList.drop (i * inf.size + news.length)).toArray = row := ⟨_, rfl⟩
  have HA : Hid (∀ ty, (Builtin.append_ #[121, 121] ty #[.slice (some ⟨g, 0, none⟩) i cap, .slice (some A) (n - (i + 1)) (cap - (i + 1))]).run Tryz.prog w.drew = .ok (.slice (some ⟨g, 0, none⟩) m cap) (w.drew.setRow g row)) := fun ty => by
    have := run_append_room (P := Tryz.prog) (w := w.drew) 121 ty 123 inf hu hinf g i cap cur hg1 A (n - (i + 1)) (cap - (i + 1)) news (by rw [hs2]; exact hnl) hsrc (fun u hu => h1 u (by
      rw [← hnews] at hu
      exact List.mem_of_mem_drop hu)) (by omega) (by rw [hs2]; omega)
    rw [this, hrow, show i + (n - (i + 1)) = m by omega]
  have HW : Hid ((w.drew.setRow g row).heap[g]? = some (.cells row 123 (0, 0))) := setRow_heap _ g cur _ _ _ hg1
  have hrs : row.size = cap * 2 := by rw [← hrow]; simp [hs2]; omega
  have HG1 : Hid (w.grownBy (w.drew.setRow g row) (some g)) := ⟨rfl, rfl, rfl, by simp, fun k _ hk => setRow_other w.drew g k _ (fun e => hk (by rw [e]))⟩
  obtain ⟨W1, hW1⟩ : ∃ W1, w.drew.setRow g row = W1 := ⟨_, rfl⟩
  rw [hW1] at HA HW HG1
  have HCL : Hid (∀ ty, (Builtin.clear_ #[121] ty #[.slice (some ⟨g, m * 2, none⟩) (n - m) (cap - m)]).run Tryz.prog W1 = .ok (.tuple #[]) (W1.setCells g (m * 2) [.int .i64 0, .slice none 0 0])) := fun ty => by
    rw [show n - m = 1 by omega]
    exact run_clear_two W1 121 123 ty _ _ _ hu zeroRun rfl rfl rfl g (m * 2) _ (fun j hj => by
      rw [cell_of_row W1 g _ row 123 (0, 0) HW.out]
      rw [Array.getElem?_eq_getElem (by omega)]; rfl) (fun j hj => by
      simp [World.frozen?, HW.out])
  obtain ⟨h5, h6⟩ := row_two (o := m * 2) (a := .int .i64 0) (b := .slice none 0 0) HW.out
  have HFIN : Hid (∃ cur', (W1.setCells g (m * 2) [.int .i64 0, .slice none 0 0]).heap[g]? = some (.cells cur' 123 (0, 0)) ∧ cur'.size = cap * 2 ∧ cur'.toList.take (m * 2) = cur.toList.take (i * 2) ++ news ∧ w.grownBy (W1.setCells g (m * 2) [.int .i64 0, .slice none 0 0]) (some g)) := by
    refine ⟨_, h5, by simp [hrs], ?_, HG1.out.trans h6⟩
    rw [Array.toList_setIfInBounds, Array.toList_setIfInBounds, List.take_set_of_le (by omega), List.take_set_of_le (by omega), ← hrow]
    have hl1 : (cur.toList.take (i * inf.size)).length = i * 2 := by simp [hs2, hsz]; omega
    rw [hs2] at hl1 ⊢
    show List.take (m * 2) (cur.toList.take (i * 2) ++ news ++ cur.toList.drop (i * 2 + news.length)) = _
    exact List.take_left' (by rw [List.length_append, hl1, hnl]; omega)
  have i1 : (i : Int) + 1 ≤ (n : Int) := by omega
  have i2 : (i : Int) ≤ (n : Int) := by omega
  have i3 : (n : Int) ≤ (cap : Int) := by omega
  have i4 : ((i : Int) == (i : Int) + 1) = false := by rw [beq_eq_false_iff_ne]; omega
  have i5 : i ≤ cap := by omega
  have i6 : i + 1 ≤ n := by omega
  have i7 : ((i : Int) + 1).toNat = i + 1 := by omega
  have i8 : m ≤ n := by omega
  have i9 : ¬ cap = m := by omega
  have i10 : n ≤ cap := hn
  rw [hm, hnews]
  clear hg hg1 h1 hnews hnl hsrc hrow hrs hW1 hm h5 h6 hs2 hz hinf hu hsz
  go_enter Tryz.func142, Tryz.ntmps142
  have i11 : (0 : Int) ≤ (i : Int) + 1 := by omega
  by_cases e : cap = i + 1
  · have hAe := hA0 e
    clear hA0 hA1
    subst hAe
    obtain rfl : n = i + 1 := by omega
    subst e
    rw [Nat.sub_self] at HA
    have j1 : (i : Int) ≤ (i : Int) + 1 := by omega
    have j2 : i ≤ i + 1 := by omega
    go_upto_region 5 with (fail)
    go_region_law (refine step_run (by rfl) _ _ _ (by rfl) (by rfl) (by rfl) HA.out ?_)
    have hcl := HCL.out
    go_wp2
    go_ret
    exact ⟨rfl, HFIN.out⟩
  · have hAe := hA1 e
    clear hA0 hA1
    subst hAe
    go_upto_region 5 with (fail)
    go_region_law (refine step_run (by rfl) _ _ _ (by rfl) (by rfl) (by rfl) HA.out ?_)
    have hcl := HCL.out
    go_wp2
    go_ret
    exact ⟨rfl, HFIN.out⟩

end Go.Proofs.YtggblfnajeikjaaGreatDoor

namespace Go.Proofs.YtggblfnajeikjaaGreatDoor
open Go.RowKit
set_option linter.unusedVariables false
set_option linter.unusedSimpArgs false

def idxOf (p : Int → Bool) (xs : List Int) : Int := if xs.any p then (xs.findIdx p : Nat) else -1

theorem idxOf_yes {p : Int → Bool} {xs : List Int} {k : Nat} {x : Int} (hx : xs[k]? = some x) (hp : p x = true) (hno : ∀ j y, j < k → xs[j]? = some y → p y = false) : idxOf p xs = k := by
  obtain ⟨hk, rfl⟩ := List.getElem?_eq_some_iff.1 hx
  have h1 : xs.any p = true := List.any_eq_true.2 ⟨_, List.getElem_mem hk, hp⟩
  unfold idxOf
  rw [if_pos h1]
  have : xs.findIdx p = k := by
    rw [List.findIdx_eq hk]
    exact ⟨hp, fun j hj => by simpa using hno j xs[j] hj (List.getElem?_eq_getElem _)⟩
  rw [this]
theorem idxOf_no {p : Int → Bool} {xs : List Int} (hno : ∀ (j : Nat) y, j < xs.length → xs[j]? = some y → p y = false) : idxOf p xs = -1 := by
  unfold idxOf
  rw [if_neg]
  intro h
  obtain ⟨x, hx, hp⟩ := List.any_eq_true.1 h
  obtain ⟨j, hj, rfl⟩ := List.getElem_of_mem hx
  rw [hno j _ hj (List.getElem?_eq_getElem hj)] at hp
  cases hp
theorem idxOf_any (p : Int → Bool) (xs : List Int) : decide (0 ≤ idxOf p xs) = xs.any p := by
  unfold idxOf
  cases h : xs.any p <;> simp

set_option maxHeartbeats 400000 in
theorem f_IndexFunc (p : Int → Bool) (fn : Nat) (cap : Array Value) (hk : Known fn) (v : Value) (xs : List Int) (w : World) (h : Rd w v (ints xs))
    (hf : ∀ x ∈ xs, Calls Tryz.prog fn (#[.int .i64 x] ++ cap) w fun e w' => e = .returned (.bool (p x)) ∧ w = w') :
    Calls Tryz.prog 183 #[v, .func (.func fn) #[] cap] w fun e w' => e = .returned (.int .i64 (idxOf p xs)) ∧ w = w' := by
  obtain ⟨a, c, rfl, h2, h3⟩ := h.formi
  go_enter Tryz.func183, Tryz.ntmps183
  go_wp2
  go_loop [8] (fun i => ∃ k : Nat, k ≤ xs.length ∧ i = .int .i64 k ∧ (∀ j y, j < k → xs[j]? = some y → p y = false)) (fun i => xs.length - (intOf i).toNat)
  case atStart => exact ⟨0, Nat.zero_le _, rfl, fun j y hj => by omega⟩
  case round =>
    obtain ⟨k, hkl, rfl, hno⟩ := hrel
    have HN := Lib.hid hno
    clear hno
    by_cases hlt : k < xs.length
    · obtain ⟨ad, x, rfl, hc, hx⟩ := h.int hlt
      have HF := Lib.hid (hf x (List.mem_of_getElem? hx.out))
      clear hf
      have hcall := hk (#[.int .i64 x] ++ cap) w
      cases hp : p x
      · rw [hp] at HF
        go_wp2_with (with_reducible refine (HF.out).mono ?_; rintro e w' ⟨rfl, rfl⟩)
        go_round
        case rel => exact ⟨k + 1, by omega, by go_num, fun j y hj hy => by
          by_cases e : j = k
          · subst e
            rw [hx.out] at hy
            cases hy
            exact hp
          · exact HN.out j y (by omega) hy⟩
        case measure => simp [intOf]; omega
      · rw [hp] at HF
        go_wp2_with (with_reducible refine (HF.out).mono ?_; rintro e w' ⟨rfl, rfl⟩)
        go_ret
        exact ⟨ret_int (idxOf_yes hx.out hp HN.out).symm, rfl⟩
    · obtain rfl : k = xs.length := by omega
      clear hf
      go_wp2
      go_ret
      exact ⟨ret_int (idxOf_no HN.out).symm, rfl⟩

theorem f_ContainsFunc (p : Int → Bool) (fn : Nat) (cap : Array Value) (hk : Known fn) (v : Value) (xs : List Int) (w : World) (h : Rd w v (ints xs))
    (hf : ∀ x ∈ xs, Calls Tryz.prog fn (#[.int .i64 x] ++ cap) w fun e w' => e = .returned (.bool (p x)) ∧ w = w') :
    Calls Tryz.prog 119 #[v, .func (.func fn) #[] cap] w fun e w' => e = .returned (.bool (xs.any p)) ∧ w = w' := by
  have H := f_IndexFunc p fn cap hk v xs w h hf
  have HI := Lib.hid (idxOf_any p xs)
  clear hf hk h
  generalize idxOf p xs = r at *
  go_enter Tryz.func119, Tryz.ntmps119
  go_wp2_with (go_at_call 183; refine H.mono ?_; rintro e w' ⟨rfl, rfl⟩)
  go_ret
  exact ⟨ret_bool (by rw [← HI.out]), rfl⟩

end Go.Proofs.YtggblfnajeikjaaGreatDoor

namespace Go.Proofs.YtggblfnajeikjaaGreatDoor
open Go.RowKit
set_option linter.unusedVariables false
set_option linter.unusedSimpArgs false

def lenB (x : Int) : Bool := inB x 1 1000
def lensB (xs : List Int) : Bool := decide (xs.length ≤ 8) && xs.all lenB
theorem lensB_iff {xs : List Int} : lensB xs = true ↔ xs.length ≤ 8 ∧ ∀ x ∈ xs, 1 ≤ x ∧ x ≤ 1000 := by
  simp [lensB, lenB, inB_iff]
def sumL : List Int → Int
  | [] => 0
  | x :: t => x + sumL t
theorem sumL_append (a b : List Int) : sumL (a ++ b) = sumL a + sumL b := by
  induction a with
  | nil => simp [sumL]
  | cons x t ih => simp only [List.cons_append, sumL, ih]; omega
theorem sumL_take {xs : List Int} {k : Nat} {x : Int} (h : xs[k]? = some x) : sumL (xs.take (k + 1)) = sumL (xs.take k) + x := by
  rw [take_snoc' h, sumL_append]; simp [sumL]
theorem sumL_bd : ∀ (xs : List Int), (∀ x ∈ xs, 1 ≤ x ∧ x ≤ 1000) → 0 ≤ sumL xs ∧ sumL xs ≤ 1000 * (xs.length : Int)
  | [], _ => by simp [sumL]
  | x :: t, h => by
    have h1 := h x (by simp)
    have h2 := sumL_bd t fun y hy => h y (by simp [hy])
    simp only [sumL, List.length_cons]
    omega
def nbS (b t : Int) : Int := if b < 0 ∨ t < b then t else b
/-- The best over the first k cuts. -/
def nbK (g : List Int → Int) (xs : List Int) : Nat → Int
  | 0 => -1
  | k + 1 => nbS (nbK g xs k) (g (xs.take (k + 1)) + g (xs.drop (k + 1)))
def nb : Nat → List Int → Int
  | 0, _ => 0
  | f + 1, xs => if xs.length < 2 then 0 else nbK (nb f) xs (xs.length - 1) + sumL xs
def nbTop : Nat → Int
  | 0 => 0
  | f + 1 => 2 * nbTop f + 8000
theorem nbTop_le : ∀ f, f ≤ 8 → 0 ≤ nbTop f ∧ nbTop f ≤ 2040000
  | 0, _ => by decide
  | 1, _ => by decide
  | 2, _ => by decide
  | 3, _ => by decide
  | 4, _ => by decide
  | 5, _ => by decide
  | 6, _ => by decide
  | 7, _ => by decide
  | 8, _ => by decide
theorem nbK_bd {g : List Int → Int} {T : Int} {xs : List Int} (hT : 0 ≤ T) (hg : ∀ ys, (∀ y ∈ ys, y ∈ xs) → ys.length ≤ xs.length → 0 ≤ g ys ∧ g ys ≤ T) : ∀ k, -1 ≤ nbK g xs k ∧ nbK g xs k ≤ 2 * T
  | 0 => by simp [nbK]; omega
  | k + 1 => by
    have h1 := nbK_bd hT hg k
    have h2 := hg (xs.take (k + 1)) (fun y hy => List.mem_of_mem_take hy) (by simp; omega)
    have h3 := hg (xs.drop (k + 1)) (fun y hy => List.mem_of_mem_drop hy) (by simp)
    simp only [nbK, nbS]
    split <;> omega
theorem nbK_pos {g : List Int → Int} {T : Int} {xs : List Int} (hT : 0 ≤ T) (hg : ∀ ys, (∀ y ∈ ys, y ∈ xs) → ys.length ≤ xs.length → 0 ≤ g ys ∧ g ys ≤ T) (k : Nat) : 0 ≤ nbK g xs (k + 1) := by
  have h1 := nbK_bd hT hg k
  have h2 := hg (xs.take (k + 1)) (fun y hy => List.mem_of_mem_take hy) (by simp; omega)
  have h3 := hg (xs.drop (k + 1)) (fun y hy => List.mem_of_mem_drop hy) (by simp)
  simp only [nbK, nbS]
  split <;> omega
theorem nb_bd : ∀ (f : Nat) (xs : List Int), xs.length ≤ 8 → (∀ x ∈ xs, 1 ≤ x ∧ x ≤ 1000) → f ≤ 8 → 0 ≤ nb f xs ∧ nb f xs ≤ nbTop f
  | 0, xs, _, _, _ => by simp [nb, nbTop]
  | f + 1, xs, hl, h, hf => by
    have hT := (nbTop_le f (by omega)).1
    have hg : ∀ ys, (∀ y ∈ ys, y ∈ xs) → ys.length ≤ xs.length → 0 ≤ nb f ys ∧ nb f ys ≤ nbTop f := fun ys hy hyl => nb_bd f ys (by omega) (fun y hm => h y (hy y hm)) (by omega)
    have hs := sumL_bd xs h
    rw [nb, nbTop]
    split
    · omega
    · have h1 := nbK_bd hT hg (xs.length - 1)
      have h2 := nbK_pos hT hg (xs.length - 2)
      rw [show xs.length - 2 + 1 = xs.length - 1 by omega] at h2
      omega

theorem k_LengthsOk1 : Known 140 := known Tryz.func140 (by kernel_rfl) (by kernel_rfl)
theorem i_LengthsOk1 (x : Int) (w : World) : Calls Tryz.prog 140 #[.int .i64 x] w fun e w' => e = .returned (.bool (!lenB x)) ∧ w = w' := by
  by_cases h : x < 1
  · have H : Hid ((!lenB x) = true) := by rw [Hid, lenB, inB, decide_eq_false (by omega)]; rfl
    have h1 : decide (x < 1) = true := by simpa using h
    go_enter Tryz.func140, Tryz.ntmps140
    go_wp2
    go_ret
    exact ⟨ret_bool (by rw [H.out]), rfl⟩
  · have H : Hid ((!lenB x) = decide (x > 1000)) := by
      rw [Hid, lenB, inB, decide_eq_true (p := 1 ≤ x) (by omega)]
      by_cases h2 : x ≤ 1000
      · simp [h2]
      · simp [h2] <;> omega
    have h1 : decide (x < 1) = false := by simpa using h
    go_enter Tryz.func140, Tryz.ntmps140
    go_wp2
    go_ret
    exact ⟨ret_bool H.out.symm, rfl⟩
set_option maxHeartbeats 1000000 in
theorem i_LengthsOk (v : Value) (xs : List Int) (w : World) (h : Rd w v (ints xs)) : Calls Tryz.prog 88 #[v] w fun e w' => e = .returned (.bool (lensB xs)) ∧ w = w' := by
  obtain ⟨a, c, rfl, h2, h3⟩ := h.formi
  have HF := Lib.hid (f_ContainsFunc (fun x => !lenB x) 140 #[] k_LengthsOk1 _ xs w h (fun x _ => by simpa using i_LengthsOk1 x w))
  have HR : Hid (lensB xs = (decide (xs.length ≤ 8) && !(xs.any fun x => !lenB x))) := by
    show _ = _
    rw [List.not_any_eq_all_not]
    simp [lensB]
  generalize (xs.any fun x => !lenB x) = r at HF HR
  by_cases h16 : xs.length ≤ 8
  · have HR2 : Hid (lensB xs = !r) := by rw [Hid, HR.out, decide_eq_true h16]; rfl
    go_enter Tryz.func88, Tryz.ntmps88
    go_wp2_with (go_at_call 119; refine HF.out.mono ?_; rintro e w' ⟨rfl, rfl⟩)
    go_ret
    exact ⟨ret_bool (by rw [HR2.out]), rfl⟩
  · have HR2 : Hid (lensB xs = false) := by rw [Hid, HR.out, decide_eq_false h16]; rfl
    have hd : decide ((xs.length : Int) ≤ 8) = false := by simp; omega
    go_enter Tryz.func88, Tryz.ntmps88
    go_wp2
    go_ret
    exact ⟨ret_bool (by rw [HR2.out]), rfl⟩

end Go.Proofs.YtggblfnajeikjaaGreatDoor

namespace Go.Proofs.YtggblfnajeikjaaGreatDoor
set_option linter.unusedVariables false

/-- x goes in from the great end; the list stands with the greatest number first. -/
def insR : List Int → Int → List Int
  | [], x => [x]
  | y :: t, x => if x < y then y :: insR t x else x :: y :: t
def sortR (xs : List Int) : List Int := xs.foldl insR []
/-- The numbers in order. -/
def srt (xs : List Int) : List Int := (sortR xs).reverse

theorem insR_length (s : List Int) (x : Int) : (insR s x).length = s.length + 1 := by
  induction s with
  | nil => rfl
  | cons y t ih =>
    simp only [insR]
    split
    · simp only [List.length_cons, ih]
    · rfl
theorem insR_mem (s : List Int) (x y : Int) : y ∈ insR s x ↔ y = x ∨ y ∈ s := by
  induction s with
  | nil => simp [insR]
  | cons z t ih =>
    simp only [insR]
    split
    · simp only [List.mem_cons, ih]
      constructor
      · rintro (h | h | h) <;> simp [h]
      · rintro (h | h | h) <;> simp [h]
    · simp only [List.mem_cons]
def Desc (s : List Int) : Prop := s.Pairwise (fun a b => b ≤ a)
theorem insR_desc {s : List Int} (h : Desc s) (x : Int) : Desc (insR s x) := by
  induction s with
  | nil => simp [insR, Desc]
  | cons y t ih =>
    have h1 := List.pairwise_cons.1 h
    simp only [insR]
    split
    · rename_i hx
      refine List.pairwise_cons.2 ⟨fun a ha => ?_, ih h1.2⟩
      rcases (insR_mem t x a).1 ha with rfl | ha
      · omega
      · exact h1.1 a ha
    · rename_i hx
      refine List.pairwise_cons.2 ⟨fun a ha => ?_, h⟩
      rcases List.mem_cons.1 ha with rfl | ha
      · omega
      · have := h1.1 a ha; omega
theorem sortR_snoc (xs : List Int) (x : Int) : sortR (xs ++ [x]) = insR (sortR xs) x := by simp [sortR]
theorem sortR_desc (xs : List Int) : Desc (sortR xs) := by
  have : ∀ (s : List Int), Desc s → Desc (xs.foldl insR s) := by
    induction xs with
    | nil => intro s h; exact h
    | cons x t ih => intro s h; exact ih _ (insR_desc h x)
  exact this [] (by simp [Desc])
theorem foldl_length (xs : List Int) : ∀ s : List Int, (xs.foldl insR s).length = s.length + xs.length := by
  induction xs with
  | nil => intro s; rfl
  | cons x t ih => intro s; rw [List.foldl_cons, ih, insR_length, List.length_cons]; omega
theorem srt_length (xs : List Int) : (srt xs).length = xs.length := by
  simp only [srt, sortR, List.length_reverse, foldl_length, List.length_nil]; omega
theorem foldl_mem (xs : List Int) (y : Int) : ∀ s : List Int, y ∈ xs.foldl insR s ↔ y ∈ s ∨ y ∈ xs := by
  induction xs with
  | nil => intro s; simp
  | cons x t ih =>
    intro s
    rw [List.foldl_cons, ih, insR_mem, List.mem_cons]
    constructor
    · rintro ((h | h) | h) <;> simp [h]
    · rintro (h | h | h) <;> simp [h]
theorem srt_mem (xs : List Int) (y : Int) : y ∈ srt xs ↔ y ∈ xs := by
  simp only [srt, sortR, List.mem_reverse, foldl_mem, List.not_mem_nil, false_or]
theorem srt_desc (xs : List Int) : Desc (srt xs).reverse := by
  rw [srt, List.reverse_reverse]
  exact sortR_desc xs
theorem insR_app {x : Int} {T : List Int} (hT : ∀ y, T.head? = some y → ¬ x < y) : ∀ R : List Int, (∀ y ∈ R, x < y) → insR (R ++ T) x = R ++ x :: T
  | [], _ => by
    cases T with
    | nil => rfl
    | cons y t => simp only [List.nil_append, insR]; rw [if_neg (hT y rfl)]
  | z :: R, h => by
    rw [List.cons_append, insR, if_pos (h z (List.mem_cons_self ..)), insR_app hT R (fun y hy => h y (List.mem_cons_of_mem _ hy)), List.cons_append]
theorem ins_at {s : List Int} {x : Int} {q : Nat} (hq : q ≤ s.length) (h1 : ∀ (j : Nat) y, q ≤ j → s[j]? = some y → x < y) (h2 : ∀ y, 0 < q → s[q - 1]? = some y → ¬ x < y) : (insR s.reverse x).reverse = s.take q ++ x :: s.drop q := by
  have e : s.reverse = (s.drop q).reverse ++ (s.take q).reverse := by rw [← List.reverse_append, List.take_append_drop]
  rw [e, insR_app]
  · simp
  · intro y hy
    rw [List.head?_reverse, List.getLast?_eq_getElem?, List.length_take, List.getElem?_take] at hy
    have hq0 : 0 < q := by
      by_cases h0 : q = 0
      · subst h0; simp at hy
      · omega
    rw [show min q s.length = q by omega, if_pos (by omega)] at hy
    exact h2 y hq0 hy
  · intro y hy
    rw [List.mem_reverse] at hy
    obtain ⟨j, hj, rfl⟩ := List.getElem_of_mem hy
    rw [List.getElem_drop]
    exact h1 (q + j) _ (by omega) (List.getElem?_eq_getElem _)
theorem srt_step {xs : List Int} {k : Nat} {x : Int} {q : Nat} (hx : xs[k]? = some x) (hq : q ≤ (srt (xs.take k)).length) (h1 : ∀ (j : Nat) y, q ≤ j → (srt (xs.take k))[j]? = some y → x < y) (h2 : ∀ y, 0 < q → (srt (xs.take k))[q - 1]? = some y → ¬ x < y) :
    srt (xs.take (k + 1)) = (srt (xs.take k)).take q ++ x :: (srt (xs.take k)).drop q := by
  obtain ⟨hk, rfl⟩ := List.getElem?_eq_some_iff.1 hx
  rw [← ins_at hq h1 h2, List.take_succ_eq_append_getElem hk]
  simp only [srt, sortR_snoc, List.reverse_reverse]

end Go.Proofs.YtggblfnajeikjaaGreatDoor

namespace Go.Proofs.YtggblfnajeikjaaGreatDoor
open Go.RowKit
set_option linter.unusedVariables false
set_option linter.unusedSimpArgs false

set_option maxHeartbeats 2000000 in
theorem s_l08Sort (v : Value) (xs : List Int) (w : World) (h : Rd w v (ints xs)) (hl : xs.length ≤ 1000) : Calls Tryz.prog 105 #[v] w (RetOwn 3 (ints (srt xs)) w) := by
  obtain ⟨a, c, rfl, h2, h3⟩ := h.formi
  go_enter Tryz.func105, Tryz.ntmps105
  go_wp2
  go_loopw [3, 11] (fun vo i wr => ∃ k : Nat, k ≤ xs.length ∧ i = .int .i64 k ∧ (∃ p m c, vo = .slice (some p) m c) ∧ Own wr 3 w.heap.size vo (ints (srt (xs.take k))) ∧ Below w.heap.size w wr) (fun _ i _ => xs.length - (intOf i).toNat)
  case atStart => exact ⟨0, Nat.zero_le _, rfl, ⟨_, _, _, rfl⟩, Own.lit0 w 3 (Nat.le_refl _), (Below.refl _ _).alloc (Nat.le_refl _) _⟩
  case round =>
    obtain ⟨wo, rfl⟩ : ∃ wo : World, wo = wr := ⟨_, rfl⟩
    obtain ⟨k, hk, rfl, ⟨ap, mp, cp, rfl⟩, ho, hb⟩ := hrel
    by_cases hlt : k < xs.length
    · obtain ⟨ad, x, rfl, hc, hx⟩ := (h.below hb).int hlt
      have hsl := srt_length (xs.take k)
      rw [List.length_take] at hsl
      have HST := Lib.hid (fun q => srt_step (q := q) hx.out)
      obtain ⟨s, hs⟩ : ∃ s, srt (xs.take k) = s := ⟨_, rfl⟩
      rw [hs] at ho hsl HST
      obtain ⟨L, hL⟩ : ∃ L, s.length = L := ⟨_, rfl⟩
      have hL1 : L ≤ 1000 := by omega
      obtain ⟨ao, co, hfo, hco, hco2⟩ := ho.rd.formi
      injection hfo with hf1 hf2 hf3
      subst hf1 hf2 hf3
      rw [hL] at ho hco ⊢
      have HL := Lib.hid hL
      clear hs hsl hL
      go_wp2
      go_loopw [6] (fun q wi => ∃ j : Nat, j ≤ L ∧ q = .int .i64 j ∧ Hid (∀ (i : Nat) y, j ≤ i → s[i]? = some y → x < y) ∧ wo = wi) (fun q _ => (intOf q).toNat)
      case atStart => exact ⟨L, Nat.le_refl _, rfl, fun i y hi hy => by have := (List.getElem?_eq_some_iff.1 hy).1; have := HL.out; omega, rfl⟩
      case round =>
        obtain ⟨j, hj, rfl, HG, rfl⟩ := hrel
        by_cases hjs : ∃ y, 0 < j ∧ s[j - 1]? = some y ∧ x < y
        · obtain ⟨y, hj0, hy, hxy⟩ := hjs
          obtain ⟨i, rfl⟩ : ∃ i, j = i + 1 := ⟨j - 1, by omega⟩
          rw [Nat.add_sub_cancel] at hy
          obtain ⟨ad2, y2, had2, hc2, hy2⟩ := ho.rd.int (k := i) (by have := HL.out; omega)
          obtain rfl : ap = ad2 := by injection had2
          clear had2
          have e : y2 = y := by have := hy2.out; rw [hy] at this; cases this; rfl
          subst e
          have d1 : decide (y2 > x) = true := by simpa using hxy
          have d0 : decide (((i + 1 : Nat) : Int) > 0) = true := by simp
          have HY := Lib.hid hy
          clear hy hxy
          go_wp2
          go_roundw
          case rel => exact ⟨i, by omega, by go_num, fun i' y' hi hy' => by
            by_cases e : i' = i
            · subst e
              rw [HY.out] at hy'
              cases hy'
              simpa using d1
            · exact HG.out i' y' (by omega) hy', trivial⟩
          case measure => simp [intOf]
        · have HST2 := Lib.hid (HST.out j (by have := HL.out; omega) HG.out (fun y h0 hy => Int.not_lt.mp (fun hxy => hjs ⟨y, h0, hy, hxy⟩)))
          have hsb := hb.size
          have hrT : Rd wo (.slice (some ap) j cp) (ints (s.take j)) := by rw [← ints_take]; exact ho.rd.take hj
          have hrC : Rd wo (.slice (if cp = j then some ap else some (ap.add j)) (L - j) (cp - j)) (ints (s.drop j)) := by rw [← ints_drop]; exact ho.rd.cut hj
          have HT1 : Hid ((ints (s.take j)).length = j) := by rw [Hid, ints_length, List.length_take]; have := HL.out; omega
          have HT2 : Hid ((ints (s.drop j)).length = L - j) := by rw [Hid, ints_length, List.length_drop]; have := HL.out; omega
          have i1 : (j : Int) ≤ (cp : Int) := by omega
          have i2 : (j : Int) ≤ (L : Int) := by omega
          have fin : ∀ (b : Option Addr) (m c' : Nat) (wx : World), Own wx 3 wo.heap.size (.slice b m c') (ints (s.take j) ++ [.int .i64 x] ++ ints (s.drop j)) → Below wo.heap.size wo wx → Own wx 3 w.heap.size (.slice b m c') (ints (srt (xs.take (k + 1)))) ∧ Below w.heap.size w wx := fun b m c' wx h1 h2 => by
            refine ⟨?_, hb.trans (h2.mono hsb)⟩
            rw [HST2.out]
            have := h1.mono (B' := w.heap.size) hsb
            simpa [ints] using this
          clear HST2 HST HG
          by_cases hj0 : j = 0
          · subst hj0
            have d0 : decide (((0 : Nat) : Int) > 0) = false := rfl
            replace hrC : Rd wo (.slice (some ap) L cp) (ints (s.drop 0)) := by rw [List.drop_zero]; exact ho.rd
            go_wp2_with (first
              | (at_builtin; (refine wpList_copy (B := w.heap.size) rfl _ _ 23 rfl elI hrT rfl rfl (oneCell_ints1 _) hsb _ HT1.out (by omega) (by omega) ?_); intro b1 c1 w1 ho1 hb1)
              | (at_builtin; refine wpList_app1m rfl _ _ 23 rfl elI rfl ho1 (by show Value.slice (some ⟨w1.heap.size, 0, none⟩) 1 1 = _; simp) rfl hb1.size _ HT1.out (by omega) (by omega) ?_; intro b2 c2 w2 ho2 hg2 hat2; have hb2 := hb1.grown hg2 hb1.size (fun r hr => (ho1.lt r hr).1))
              | (at_builtin; refine wpList_appn rfl _ _ 23 rfl elI ho2 (hrC.below hb2) rfl (by first | rfl | simp) (oneCell_ints1 _) hb2.size (L + 1) (by rw [List.length_append, HT1.out, HT2.out]; simp; omega) (by omega) (by omega) ?_; intro b3 c3 w3 ho3 hg3 hat3; have hb3 := hb2.grown hg3 hb2.size (fun r hr => (ho2.lt r hr).1)))
            obtain ⟨f1, f2⟩ := fin _ _ _ _ ho3 hb3
            go_roundw
            case rel => exact ⟨k + 1, by omega, by go_num, by obtain ⟨p, rfl⟩ := ho3.some_of (by simp; omega); exact ⟨_, _, _, rfl⟩, f1, f2⟩
            case measure => simp [intOf]; omega
          · obtain ⟨i, rfl⟩ : ∃ i, j = i + 1 := ⟨j - 1, by omega⟩
            obtain ⟨ad2, y, had2, hc2, hy⟩ := ho.rd.int (k := i) (by have := HL.out; omega)
            obtain rfl : ap = ad2 := by injection had2
            clear had2
            have d1 : decide (y > x) = false := by
              have : ¬ x < y := fun hxy => hjs ⟨y, by omega, by simpa using hy.out, hxy⟩
              simpa using this
            have d0 : decide (((i + 1 : Nat) : Int) > 0) = true := by simp
            clear hjs
            go_wp2_with (first
              | (at_builtin; (refine wpList_copy (B := w.heap.size) rfl _ _ 23 rfl elI hrT rfl rfl (oneCell_ints1 _) hsb _ HT1.out (by omega) (by omega) ?_); intro b1 c1 w1 ho1 hb1)
              | (at_builtin; refine wpList_app1m rfl _ _ 23 rfl elI rfl ho1 (by show Value.slice (some ⟨w1.heap.size, 0, none⟩) 1 1 = _; simp) rfl hb1.size _ HT1.out (by omega) (by omega) ?_; intro b2 c2 w2 ho2 hg2 hat2; have hb2 := hb1.grown hg2 hb1.size (fun r hr => (ho1.lt r hr).1))
              | (at_builtin; refine wpList_appn rfl _ _ 23 rfl elI ho2 (hrC.below hb2) rfl (by first | rfl | simp) (oneCell_ints1 _) hb2.size (L + 1) (by rw [List.length_append, HT1.out, HT2.out]; simp; omega) (by omega) (by omega) ?_; intro b3 c3 w3 ho3 hg3 hat3; have hb3 := hb2.grown hg3 hb2.size (fun r hr => (ho2.lt r hr).1)))
            obtain ⟨f1, f2⟩ := fin _ _ _ _ ho3 hb3
            go_roundw
            case rel => exact ⟨k + 1, by omega, by go_num, by obtain ⟨p, rfl⟩ := ho3.some_of (by simp; omega); exact ⟨_, _, _, rfl⟩, f1, f2⟩
            case measure => simp [intOf]; omega
    · obtain rfl : xs.length = k := by omega
      rw [List.take_length] at ho
      go_wp2
      go_ret
      exact ⟨_, rfl, ho, hb⟩

end Go.Proofs.YtggblfnajeikjaaGreatDoor

namespace Go.Proofs.YtggblfnajeikjaaGreatDoor
set_option linter.unusedVariables false

theorem insR_perm (s : List Int) (x : Int) : (insR s x).Perm (x :: s) := by
  induction s with
  | nil => exact List.Perm.refl _
  | cons y t ih =>
    simp only [insR]
    split
    · exact (List.Perm.cons y ih).trans (List.Perm.swap x y t)
    · exact List.Perm.refl _
theorem sortR_perm (xs : List Int) : ∀ s : List Int, (xs.foldl insR s).Perm (xs ++ s) := by
  induction xs with
  | nil => intro s; exact List.Perm.refl _
  | cons x t ih =>
    intro s
    rw [List.foldl_cons]
    refine (ih _).trans ?_
    refine ((insR_perm s x).append_left t).trans ?_
    exact List.perm_middle
theorem srt_perm (xs : List Int) : (srt xs).Perm xs := by
  have := sortR_perm xs []
  rw [List.append_nil] at this
  exact (List.reverse_perm _).trans this
theorem srt_pair (xs : List Int) : (srt xs).Pairwise (· ≤ ·) := by
  have := srt_desc xs
  rw [Desc, List.pairwise_reverse] at this
  exact this
theorem srt_unique {xs ys : List Int} (hp : ys.Perm xs) (hs : ys.Pairwise (· ≤ ·)) : ys = srt xs :=
  List.Perm.eq_of_pairwise (fun a b _ _ h1 h2 => Int.le_antisymm h1 h2) hs (srt_pair xs) (hp.trans (srt_perm xs).symm)
theorem srt_congr {xs ys : List Int} (hp : ys.Perm xs) : srt ys = srt xs := srt_unique ((srt_perm ys).trans hp) (srt_pair ys)
end Go.Proofs.YtggblfnajeikjaaGreatDoor

namespace Go.Proofs.YtggblfnajeikjaaGreatDoor
open Go.RowKit
set_option linter.unusedVariables false
set_option linter.unusedSimpArgs false

theorem sumL_perm {a b : List Int} (h : a.Perm b) : sumL a = sumL b := by
  induction h with
  | nil => rfl
  | cons x _ ih => simp only [sumL, ih]
  | swap x y l => simp only [sumL]; omega
  | trans _ _ h1 h2 => rw [h1, h2]
def cmL : Nat → List Int → Int
  | f + 1, a :: b :: t => (a + b) + cmL f (srt (t ++ [a + b]))
  | _, _ => 0
def cm (xs : List Int) : Int := cmL xs.length (srt xs)
/-- A list of runs on the way: sum S, each at least 1. -/
def RunsL (S : Int) (s : List Int) : Prop := sumL s = S ∧ s.length ≤ 8 ∧ ∀ x ∈ s, 1 ≤ x
theorem RunsL.srt {S : Int} {s : List Int} (h : RunsL S s) : RunsL S (srt s) :=
  ⟨(sumL_perm (srt_perm s)).trans h.1, by rw [srt_length]; exact h.2.1, fun x hx => h.2.2 x ((srt_perm s).mem_iff.1 hx)⟩
theorem sumL_nonneg : ∀ {s : List Int}, (∀ x ∈ s, 1 ≤ x) → 0 ≤ sumL s
  | [], _ => by simp [sumL]
  | x :: t, h => by
    have h1 := h x (by simp)
    have h2 := sumL_nonneg (s := t) fun y hy => h y (by simp [hy])
    simp only [sumL]
    omega
theorem RunsL.pair {S a b : Int} {t : List Int} (h : RunsL S (a :: b :: t)) : 1 ≤ a ∧ 1 ≤ b ∧ a + b ≤ S ∧ RunsL S (t ++ [a + b]) := by
  obtain ⟨h1, h2, h3⟩ := h
  have ha := h3 a (by simp)
  have hb := h3 b (by simp)
  have ht := sumL_nonneg (s := t) fun y hy => h3 y (by simp [hy])
  simp only [sumL] at h1
  refine ⟨ha, hb, by omega, ⟨?_, ?_, fun y hy => ?_⟩⟩
  · rw [sumL_append]; simp only [sumL]; omega
  · simp only [List.length_cons] at h2; simp; omega
  · rcases List.mem_append.1 hy with hy | hy
    · exact h3 y (by simp [hy])
    · rw [List.mem_singleton] at hy; omega
theorem RunsL.of {xs : List Int} (h : lensB xs = true) : RunsL (sumL xs) xs ∧ 0 ≤ sumL xs ∧ sumL xs ≤ 8000 := by
  obtain ⟨h1, h2⟩ := lensB_iff.1 h
  have := sumL_bd xs h2
  exact ⟨⟨rfl, h1, fun x hx => (h2 x hx).1⟩, by omega, by omega⟩
theorem cmL_short {f : Nat} {s : List Int} (h : s.length ≤ 1) : cmL f s = 0 := by
  match f, s, h with
  | 0, _, _ => rfl
  | f + 1, [], _ => rfl
  | f + 1, [_], _ => rfl

end Go.Proofs.YtggblfnajeikjaaGreatDoor

namespace Go.Proofs.YtggblfnajeikjaaGreatDoor
set_option linter.unusedVariables false
set_option linter.unusedSimpArgs false

/-- The place of the first least among the first k. -/
def bk (ws : List Int) : Nat → Nat
  | 0 => 0
  | k + 1 => if ws.getD k 0 < ws.getD (bk ws k) 0 then k else bk ws k
theorem bk_ok {ws : List Int} (h0 : 0 < ws.length) : ∀ k, k ≤ ws.length → bk ws k < ws.length ∧ ∀ j, j < k → ws.getD (bk ws k) 0 ≤ ws.getD j 0
  | 0, _ => ⟨h0, fun j hj => by omega⟩
  | k + 1, hk => by
    obtain ⟨h1, h2⟩ := bk_ok h0 k (by omega)
    rw [bk]
    split
    · rename_i hlt
      refine ⟨by omega, fun j hj => ?_⟩
      by_cases e : j = k
      · subst e; exact Int.le_refl _
      · have := h2 j (by omega); omega
    · rename_i hge
      refine ⟨h1, fun j hj => ?_⟩
      by_cases e : j = k
      · subst e; omega
      · exact h2 j (by omega)
def minI (ws : List Int) : Nat := bk ws ws.length
def minV (ws : List Int) : Int := ws.getD (minI ws) 0
theorem minI_lt {ws : List Int} (h : 0 < ws.length) : minI ws < ws.length := (bk_ok h _ (Nat.le_refl _)).1
theorem minV_get {ws : List Int} (h : 0 < ws.length) : ws[minI ws]? = some (minV ws) := by
  rw [minV, List.getD_eq_getElem?_getD, List.getElem?_eq_getElem (minI_lt h)]; rfl
theorem minV_le {ws : List Int} (h : 0 < ws.length) : ∀ x ∈ ws, minV ws ≤ x := fun x hx => by
  obtain ⟨j, hj, rfl⟩ := List.getElem_of_mem hx
  have := (bk_ok h _ (Nat.le_refl _)).2 j hj
  rw [List.getD_eq_getElem?_getD (l := ws) (i := j), List.getElem?_eq_getElem hj] at this
  exact this
theorem erase_perm {l : List Int} {i : Nat} (h : i < l.length) : (l[i] :: l.eraseIdx i).Perm l := by
  have e : l = l.take i ++ l[i] :: l.drop (i + 1) := by rw [← List.drop_eq_getElem_cons h, List.take_append_drop]
  rw [List.eraseIdx_eq_take_drop_succ]
  exact (List.perm_middle.symm).trans (List.Perm.of_eq e.symm)
def restL (ws : List Int) : List Int := ws.eraseIdx (minI ws)
theorem restL_perm {ws : List Int} (h : 0 < ws.length) : (minV ws :: restL ws).Perm ws := by
  have h1 := minI_lt h
  have h2 : ws[minI ws] = minV ws := by
    have := minV_get h
    rw [List.getElem?_eq_getElem h1] at this
    exact Option.some.inj this
  have := erase_perm h1
  rw [h2] at this
  exact this
theorem restL_len {ws : List Int} (h : 0 < ws.length) : (restL ws).length + 1 = ws.length := by
  have := (restL_perm h).length_eq
  simpa using this
theorem srt_min {ws : List Int} (h : 0 < ws.length) : srt ws = minV ws :: srt (restL ws) := by
  symm
  refine srt_unique ?_ ?_
  · exact ((srt_perm _).cons _).trans (restL_perm h)
  · refine List.pairwise_cons.2 ⟨fun y hy => ?_, srt_pair _⟩
    have h1 := (srt_perm _).mem_iff.1 hy
    exact minV_le h y ((restL_perm h).mem_iff.1 (List.mem_cons_of_mem _ h1))
def icL : Nat → List Int → Int
  | 0, _ => 0
  | f + 1, ws => if 1 < ws.length then (minV ws + minV (restL ws)) + icL f (restL (restL ws) ++ [minV ws + minV (restL ws)]) else 0
theorem icL_cmL : ∀ (f : Nat) (ws : List Int), icL f ws = cmL f (srt ws)
  | 0, ws => rfl
  | f + 1, ws => by
    rw [icL]
    split
    · rename_i h
      have h1 := restL_len (ws := ws) (by omega)
      rw [srt_min (ws := ws) (by omega), srt_min (ws := restL ws) (by omega), cmL, icL_cmL f]
      congr 2
      exact srt_congr ((srt_perm _).symm.append_right _)
    · rename_i h
      rw [cmL_short (by rw [srt_length]; omega)]
theorem icL_short {f : Nat} {ws : List Int} (h : ws.length ≤ 1) : icL f ws = 0 := by rw [icL_cmL, cmL_short (by rw [srt_length]; exact h)]

end Go.Proofs.YtggblfnajeikjaaGreatDoor

namespace Go.Proofs.YtggblfnajeikjaaGreatDoor
open Go.RowKit
set_option linter.unusedVariables false
set_option linter.unusedSimpArgs false

/-- The blocks in K are as they were. -/
structure Fr (K : Nat → Prop) (w w' : World) : Prop where
  os : w'.os = w.os
  tape : w'.tape = w.tape
  output : w'.output = w.output
  size : w.heap.size ≤ w'.heap.size
  block : ∀ k, K k → w'.heap[k]? = w.heap[k]?
section
variable {K : Nat → Prop} {w w' w2 : World} {E B : Nat} {v : Value} {xs : List Value}
theorem Fr.refl (K : Nat → Prop) (w : World) : Fr K w w := ⟨rfl, rfl, rfl, Nat.le_refl _, fun _ _ => rfl⟩
theorem Fr.trans (h : Fr K w w') (k : Fr K w' w2) : Fr K w w2 := ⟨k.os.trans h.os, k.tape.trans h.tape, k.output.trans h.output, Nat.le_trans h.size k.size, fun i hi => (k.block i hi).trans (h.block i hi)⟩
theorem Fr.row {r : Option Nat} (hg : w.grownBy w' r) (hr : ∀ g, r = some g → ¬ K g) (hK : ∀ k, K k → k < w.heap.size) : Fr K w w' :=
  ⟨hg.os, hg.tape, hg.output, hg.size, fun k hk => hg.block k (hK k hk) fun e => hr k e.symm hk⟩
theorem Fr.setCell {p : Addr} (hp : ¬ K p.block) (u : Value) : Fr K w (w.setCell p u) :=
  ⟨rfl, rfl, rfl, by simp, fun k hk => heap_setCell_other w p k u fun e => hp (e ▸ hk)⟩
theorem Fr.below (h : Below w.heap.size w w') (hK : ∀ k, K k → k < w.heap.size) : Fr K w w' := ⟨h.os, h.tape, h.output, h.size, fun k hk => h.block k (hK k hk)⟩
theorem Fr.mono {K' : Nat → Prop} (h : Fr K w w') (hK : ∀ k, K' k → K k) : Fr K' w w' := ⟨h.os, h.tape, h.output, h.size, fun k hk => h.block k (hK k hk)⟩
theorem Fr.to_below (h : Fr K w w') (hK : ∀ k, k < B → K k) : Below B w w' := ⟨h.os, h.tape, h.output, h.size, fun k hk => h.block k (hK k hk)⟩
theorem own_ne_box {F g : Nat} {cur : Array Value} (h : Own w E B v xs) (hb : w.heap[g]? = some (.cells cur F (0, 0))) (hne : F ≠ E) : v.ownBlock ≠ some g := by
  intro e
  rcases h with ⟨rfl, _⟩ | ⟨g1, o1, c1, cur1, rfl, _, hh1, _⟩
  · cases e
  · simp only [Value.ownBlock, Option.some.injEq] at e
    subst e
    rw [hh1] at hb
    injection hb with hb
    injection hb with _ e
    exact hne e.symm
theorem Fr.rd (h : Fr K w w') {u : Value} {ys : List Int} (hr : Rd w u (ints ys)) (hu : 0 < ys.length → ∀ g, u.ownBlock = some g → K g) : Rd w' u (ints ys) := by
  by_cases hy : 0 < ys.length
  · exact hr.keep fun p _ e => World.cell?_of_block (h.block _ (hu hy _ e.symm))
  · obtain ⟨a, c, e, h1, h2, _⟩ := hr
    exact ⟨a, c, e, h1, h2, fun hn => absurd (by rwa [ints_length] at hn) hy⟩
theorem box_lt {g F : Nat} {cur : Array Value} (hb : w.heap[g]? = some (.cells cur F (0, 0))) : g < w.heap.size := (Array.getElem?_eq_some_iff.1 hb).1
theorem box_cell {g F : Nat} {cur : Array Value} (hb : w.heap[g]? = some (.cells cur F (0, 0))) (i : Nat) : w.cell? ⟨g, i, none⟩ = cur[i]? := cell_of_row w g i cur F (0, 0) hb
end

theorem box2 {w : World} {q : Nat} {a b x y : Value} {T : Nat} (h : w.heap[q]? = some (.cells #[a, b] T (0, 0))) : ((w.setCell ⟨q, 0, none⟩ x).setCell ⟨q, 1, none⟩ y).heap[q]? = some (.cells #[x, y] T (0, 0)) :=
  heap_setCell_same _ q 1 _ T y (heap_setCell_same w q 0 _ T x h)

end Go.Proofs.YtggblfnajeikjaaGreatDoor

namespace Go.Proofs.YtggblfnajeikjaaGreatDoor
open Go.RowKit
set_option linter.unusedVariables false
set_option linter.unusedSimpArgs false

/-- The box br holds a slice of runs whose lengths are ws and whose members' slices are vs. -/
structure RunsAt (w : World) (br g n cap : Nat) (cur : Array Value) (ws : List Int) (vs : List Value) : Prop where
  box : w.heap[br]? = some (.cells #[.slice (some ⟨g, 0, none⟩) n cap] 121 (0, 0))
  row : w.heap[g]? = some (.cells cur 123 (0, 0))
  size : cur.size = cap * 2
  le : n ≤ cap
  capLe : cap ≤ 9223372036854775807
  wl : ws.length = n
  vl : vs.length = n
  wc : ∀ k x, ws[k]? = some x → cur[k * 2]? = some (.int .i64 x)
  vc : ∀ k u, vs[k]? = some u → cur[k * 2 + 1]? = some u
  sl : ∀ (k : Nat) (u : Value), vs[k]? = some u → ∃ (a : Option Addr) (m c : Nat), u = Value.slice a m c
section
variable {w : World} {br g n cap : Nat} {cur : Array Value} {ws : List Int} {vs : List Value}
theorem RunsAt.drewN (H : RunsAt w br g n cap cur ws vs) (k : Nat) : RunsAt (w.drewN k) br g n cap cur ws vs := ⟨H.box, H.row, H.size, H.le, H.capLe, H.wl, H.vl, H.wc, H.vc, H.sl⟩
theorem RunsAt.below {w' : World} (H : RunsAt w br g n cap cur ws vs) (hb : Below w.heap.size w w') : RunsAt w' br g n cap cur ws vs := by
  have h1 : br < w.heap.size := (Array.getElem?_eq_some_iff.1 H.box).1
  have h2 : g < w.heap.size := (Array.getElem?_eq_some_iff.1 H.row).1
  exact ⟨(hb.block br h1).trans H.box, (hb.block g h2).trans H.row, H.size, H.le, H.capLe, H.wl, H.vl, H.wc, H.vc, H.sl⟩
theorem RunsAt.wcell (H : RunsAt w br g n cap cur ws vs) {k : Nat} {x : Int} (h : ws[k]? = some x) : w.cell? ⟨g, k * 2, none⟩ = some (.int .i64 x) := by
  rw [cell_of_row w g _ cur _ (0, 0) H.row]; exact H.wc k x h
theorem RunsAt.vcell (H : RunsAt w br g n cap cur ws vs) {k : Nat} {u : Value} (h : vs[k]? = some u) : w.cell? ⟨g, k * 2 + 1, none⟩ = some u := by
  rw [cell_of_row w g _ cur _ (0, 0) H.row]; exact H.vc k u h
theorem RunsAt.bcell (H : RunsAt w br g n cap cur ws vs) : w.cell? ⟨br, 0, none⟩ = some (.slice (some ⟨g, 0, none⟩) n cap) := by
  rw [cell_of_row w br _ _ _ (0, 0) H.box]; rfl
theorem RunsAt.one (H : RunsAt w br g n cap cur ws vs) : ∀ u ∈ cur.toList.take (n * 2), u.oneCell' = true := by
  intro u hu
  obtain ⟨j, hj, rfl⟩ := List.getElem_of_mem hu
  have hj2 : j < n * 2 := by simp at hj; omega
  have e : (cur.toList.take (n * 2))[j]? = cur[j]? := by rw [List.getElem?_take_of_lt hj2, Array.getElem?_toList]
  rw [List.getElem?_eq_getElem hj] at e
  by_cases h2 : j % 2 = 0
  · obtain ⟨x, hx⟩ : ∃ x, ws[j / 2]? = some x := ⟨_, List.getElem?_eq_getElem (by rw [H.wl]; omega)⟩
    have := H.wc _ _ hx
    rw [show j / 2 * 2 = j by omega, ← e] at this
    rw [Option.some.inj this]; rfl
  · obtain ⟨x, hx⟩ : ∃ x, vs[j / 2]? = some x := ⟨_, List.getElem?_eq_getElem (by rw [H.vl]; omega)⟩
    have := H.vc _ _ hx
    rw [show j / 2 * 2 + 1 = j by omega, ← e] at this
    obtain ⟨a, m, c, rfl⟩ := H.sl _ _ hx
    rw [Option.some.inj this]; rfl
theorem RunsAt.cut {w' : World} {cur' : Array Value} (H : RunsAt w br g n cap cur ws vs) {b : Nat} (hb : b < n)
    (h1 : w'.heap[br]? = some (.cells #[.slice (some ⟨g, 0, none⟩) (n - 1) cap] 121 (0, 0))) (h2 : w'.heap[g]? = some (.cells cur' 123 (0, 0))) (h3 : cur'.size = cap * 2)
    (h4 : cur'.toList.take ((n - 1) * 2) = cur.toList.take (b * 2) ++ (cur.toList.take (n * 2)).drop ((b + 1) * 2)) : RunsAt w' br g (n - 1) cap cur' (ws.eraseIdx b) (vs.eraseIdx b) := by
  have hs := H.size
  have hle := H.le
  have hg : ∀ j, j < (n - 1) * 2 → cur'[j]? = if j < b * 2 then cur[j]? else cur[j + 2]? := fun j hj => by
    rw [← Array.getElem?_toList, ← List.getElem?_take_of_lt hj, h4]
    by_cases e : j < b * 2
    · rw [if_pos e, List.getElem?_append_left (by simp; omega), List.getElem?_take_of_lt e, Array.getElem?_toList]
    · have hl : (cur.toList.take (b * 2)).length = b * 2 := by simp; omega
      rw [if_neg e, List.getElem?_append_right (by omega), hl, List.getElem?_drop, List.getElem?_take_of_lt (by omega), Array.getElem?_toList]
      congr 1; omega
  have hwl := H.wl
  have hvl := H.vl
  refine ⟨h1, h2, h3, by omega, H.capLe, by rw [List.length_eraseIdx]; simp [hwl, hb], by rw [List.length_eraseIdx]; simp [hvl, hb], fun k x hk => ?_, fun k u hk => ?_, fun k u hk => ?_⟩
  · have hlt := (List.getElem?_eq_some_iff.1 hk).1
    rw [List.length_eraseIdx, if_pos (by omega), hwl] at hlt
    rw [List.getElem?_eraseIdx] at hk
    rw [hg _ (by omega)]
    by_cases e : k < b
    · rw [if_pos e] at hk; rw [if_pos (by omega)]; exact H.wc _ _ hk
    · rw [if_neg e] at hk; rw [if_neg (by omega)]
      have := H.wc _ _ hk
      rwa [show (k + 1) * 2 = k * 2 + 2 by omega] at this
  · have hlt := (List.getElem?_eq_some_iff.1 hk).1
    rw [List.length_eraseIdx, if_pos (by omega), hvl] at hlt
    rw [List.getElem?_eraseIdx] at hk
    rw [hg _ (by omega)]
    by_cases e : k < b
    · rw [if_pos e] at hk; rw [if_pos (by omega)]; exact H.vc _ _ hk
    · rw [if_neg e] at hk; rw [if_neg (by omega)]
      have := H.vc _ _ hk
      rwa [show (k + 1) * 2 + 1 = k * 2 + 1 + 2 by omega] at this
  · rw [List.getElem?_eraseIdx] at hk
    split at hk
    · exact H.sl _ _ hk
    · exact H.sl _ _ hk
end
/-- What the closure does: the least run is returned, and it is out of the slice; every other block is kept. -/
def RetRun (br g n cap : Nat) (ws : List Int) (vs : List Value) (w : World) (e : Ending) (w' : World) : Prop :=
  ∃ (u : Value) (cur' : Array Value), e = .returned (.agg #[.int .i64 (minV ws), u]) ∧ vs[minI ws]? = some u ∧ RunsAt w' br g (n - 1) cap cur' (restL ws) (vs.eraseIdx (minI ws)) ∧ Fr (fun k => k < w.heap.size ∧ k ≠ br ∧ k ≠ g) w w'

set_option maxRecDepth 100000 in
set_option maxHeartbeats 1000000 in
theorem i_takeRun (br g n cap : Nat) (cur : Array Value) (ws : List Int) (vs : List Value) (w : World) (H : RunsAt w br g n cap cur ws vs) (hn : 0 < n) (hne : br ≠ g) : Calls Tryz.prog 141 #[.pointer (some ⟨br, 0, none⟩)] w (RetRun br g n cap ws vs w) := by
  have h0 := H.bcell
  have hbA : Below w.heap.size w (w.alloc (.cells #[.int .i64 0, .slice none 0 0] 123)) := (Below.refl _ _).alloc (Nat.le_refl _) _
  have hA0 := (H.below hbA).bcell
  have hR0 := heap_alloc_new w (.cells #[.int .i64 0, .slice none 0 0] 123 (0, 0))
  go_enter Tryz.func141, Tryz.ntmps141
  go_wp2
  have HBK : Hid (bk ws 0 = 0) := rfl
  go_loopg [2, 8] (n + 1) (fun gk bv iv wr => ∃ (i b : Nat), gk = n + 1 - i ∧ i ≤ n ∧ bv = .int .i64 b ∧ b < n ∧ iv = .int .i64 i ∧ Hid (bk ws i = b) ∧ Below w.heap.size w wr ∧ Hid (wr.heap[w.heap.size]? = some (.cells #[.int .i64 0, .slice none 0 0] 123 (0, 0))))
  case atStart => exact ⟨0, 0, rfl, Nat.zero_le _, rfl, hn, rfl, HBK, hbA, hR0⟩
  case round =>
    clear hR0
    obtain ⟨i, b, hg, hi, rfl, hbn, rfl, HB, hb, HRB0⟩ := hrel
    have HR := H.below hb
    have hle := HR.le
    have hcl := HR.capLe
    have hsw : w.heap.size < wr.heap.size := (Array.getElem?_eq_some_iff.1 HRB0.out).1
    by_cases hlt : i < n
    · obtain ⟨x, hx⟩ : ∃ x, ws[i]? = some x := ⟨_, List.getElem?_eq_getElem (by rw [H.wl]; exact hlt)⟩
      obtain ⟨y, hy⟩ : ∃ y, ws[b]? = some y := ⟨_, List.getElem?_eq_getElem (by rw [H.wl]; exact hbn)⟩
      obtain ⟨u, hu⟩ : ∃ u, vs[i]? = some u := ⟨_, List.getElem?_eq_getElem (by rw [H.vl]; exact hlt)⟩
      obtain ⟨ua, um, uc, rfl⟩ := H.sl i u hu
      have hbB : Below wr.heap.size wr (wr.alloc (.cells #[.int .i64 x, .slice ua um uc] 123)) := (Below.refl _ _).alloc (Nat.le_refl _) _
      have HRB := HR.below hbB
      have cB0 := HRB.bcell
      have cB3 := HRB.wcell hy
      have c1 := HR.wcell hx
      have c2 := HR.vcell hu
      have c3 := HR.wcell hy
      have c0 := HR.bcell
      have i1 : (i : Int) < (n : Int) := by omega
      have i2 : (b : Int) < (n : Int) := by omega
      have HS : Hid (bk ws (i + 1) = if x < y then i else b) := by rw [Hid, bk, HB.out, List.getD_eq_getElem?_getD, hx, List.getD_eq_getElem?_getD, hy]; rfl
      have hb2 := hb.trans (hbB.mono hb.size)
      have HRB1 : Hid ((wr.alloc (.cells #[.int .i64 x, .slice ua um uc] 123)).heap[w.heap.size]? = some (.cells #[.int .i64 0, .slice none 0 0] 123 (0, 0))) := (hbB.block _ hsw).trans HRB0.out
      clear hx hy hu
      go_wp2
      go_quiet (fail)
      by_cases hxy : x < y
      · have HS2 : Hid (bk ws (i + 1) = i) := by rw [Hid, HS.out, if_pos hxy]
        go_wp2
        go_roundg (n + 1 - (i + 1))
        case measure => omega
        case rel => exact ⟨i + 1, i, rfl, by omega, rfl, hlt, by go_num, HS2, hb2.trans (Dr.below ⟨_, rfl⟩ _), HRB1⟩
      · have HS2 : Hid (bk ws (i + 1) = b) := by rw [Hid, HS.out, if_neg hxy]
        go_wp2
        go_roundg (n + 1 - (i + 1))
        case measure => omega
        case rel => exact ⟨i + 1, b, rfl, by omega, rfl, hbn, by go_num, HS2, hb2.trans (Dr.below ⟨_, rfl⟩ _), HRB1⟩
    · obtain rfl : i = n := by omega
      obtain ⟨y, hy⟩ : ∃ y, ws[b]? = some y := ⟨_, List.getElem?_eq_getElem (by rw [H.wl]; exact hbn)⟩
      obtain ⟨u, hu⟩ : ∃ u, vs[b]? = some u := ⟨_, List.getElem?_eq_getElem (by rw [H.vl]; exact hbn)⟩
      obtain ⟨ua, um, uc, rfl⟩ := H.sl b u hu
      have HMI : Hid (minI ws = b) := by rw [Hid, minI, H.wl]; exact HB.out
      have HMV : Hid (minV ws = y) := by rw [Hid, minV, HMI.out, List.getD_eq_getElem?_getD, hy]; rfl
      have HVU : Hid (vs[minI ws]? = some (.slice ua um uc)) := by rw [Hid, HMI.out]; exact hu
      have hbB : Below wr.heap.size wr (wr.alloc (.cells #[.int .i64 y, .slice ua um uc] 123)) := (Below.refl _ _).alloc (Nat.le_refl _) _
      have HRB := HR.below hbB
      have cB0 := HRB.bcell
      have c1 := HR.wcell hy
      have c2 := HR.vcell hu
      have c0 := HR.bcell
      have i2 : (b : Int) < (i : Int) := by omega
      have HDL := Lib.hid (f_DeleteRun g i cap b cur _ HRB.row H.size H.le hbn H.capLe H.one)
      have hbr0 : br < w.heap.size := (Array.getElem?_eq_some_iff.1 H.box).1
      have hgr0 : g < w.heap.size := (Array.getElem?_eq_some_iff.1 H.row).1
      have hbr : br < wr.heap.size := by omega
      have hgr : g < wr.heap.size := by omega
      have HFIN : Hid (∀ (W W2 : World) (cur' : Array Value), (wr.alloc (.cells #[.int .i64 y, .slice ua um uc] 123)).grownBy W (some g) → W.heap[g]? = some (.cells cur' 123 (0, 0)) → cur'.size = cap * 2 → cur'.toList.take ((i - 1) * 2) = cur.toList.take (b * 2) ++ (cur.toList.take (i * 2)).drop ((b + 1) * 2) →
          Below (w.heap.size) (W.setCell ⟨br, 0, none⟩ (.slice (some ⟨g, 0, none⟩) (i - 1) cap)) W2 → W2.heap.size = W.heap.size → RetRun br g i cap ws vs w (.returned (.agg #[.int .i64 y, .slice ua um uc])) W2) := fun W W2 cur' hW q1 q2 q3 hW2 hsz => by
        have hbx : W.heap[br]? = some (.cells #[.slice (some ⟨g, 0, none⟩) i cap] 121 (0, 0)) := (hW.block br (by simp; omega) (fun e => hne (by injection e))).trans HRB.box
        refine ⟨_, cur', by rw [HMV.out], HVU.out, ?_, ?_⟩
        · have := H.cut (w' := W2) (cur' := cur') hbn ((hW2.block br hbr0).trans (heap_setCell_same W br 0 _ _ _ hbx)) ((hW2.block g hgr0).trans ((heap_setCell_other W _ g _ (fun e => hne e.symm)).trans q1)) q2 q3
          rw [restL, HMI.out]
          exact this
        · refine ⟨hW2.os.trans (hW.os.trans hb.os), hW2.tape.trans (hW.tape.trans hb.tape), hW2.output.trans (hW.output.trans hb.output), ?_, fun k ⟨hk, hk1, hk2⟩ => ?_⟩
          · have h1 := hW.size
            have h2 := hW2.size
            simp at h1 h2; omega
          · rw [hW2.block k hk, heap_setCell_other W _ k _ hk1, hW.block k (by simp; omega) (fun e => hk2 (by injection e)), hbB.block k (by omega), hb.block k hk]
      have HBX : Hid (∀ W : World, (wr.alloc (.cells #[.int .i64 y, .slice ua um uc] 123)).grownBy W (some g) → W.heap[br]? = some (.cells #[.slice (some ⟨g, 0, none⟩) i cap] 121 (0, 0)) ∧ W.heap[wr.heap.size]? = some (.cells #[.int .i64 y, .slice ua um uc] 123 (0, 0)) ∧ W.heap[w.heap.size]? = some (.cells #[.int .i64 0, .slice none 0 0] 123 (0, 0)) ∧ wr.heap.size + 1 ≤ W.heap.size) := fun W hW =>
        ⟨(hW.block br (by simp; omega) (fun e => hne (by injection e))).trans HRB.box, (hW.block wr.heap.size (by simp) (fun e => by injection e; omega)).trans (heap_alloc_new wr _), (hW.block w.heap.size (by simp; omega) (fun e => by injection e; omega)).trans ((hbB.block _ hsw).trans HRB0.out), by have := hW.size; simpa using this⟩
      clear hy hu HMI HMV HVU HRB0 HB HRB H HR hb hbB
      have HC4 : Hid (∀ W : World, W.heap[br]? = some (.cells #[.slice (some ⟨g, 0, none⟩) i cap] 121 (0, 0)) → W.heap[wr.heap.size]? = some (.cells #[.int .i64 y, .slice ua um uc] 123 (0, 0)) → W.heap[w.heap.size]? = some (.cells #[.int .i64 0, .slice none 0 0] 123 (0, 0)) →
          (W.setCell ⟨br, 0, none⟩ (.slice (some ⟨g, 0, none⟩) (i - 1) cap)).heap[wr.heap.size]? = some (.cells #[.int .i64 y, .slice ua um uc] 123 (0, 0)) ∧ (W.setCell ⟨br, 0, none⟩ (.slice (some ⟨g, 0, none⟩) (i - 1) cap)).heap[w.heap.size]? = some (.cells #[.int .i64 0, .slice none 0 0] 123 (0, 0))) := fun W _ h1 h2 =>
        ⟨(heap_setCell_other W _ _ _ (by show wr.heap.size ≠ br; omega)).trans h1, (heap_setCell_other W _ _ _ (by show w.heap.size ≠ br; omega)).trans h2⟩
      go_wp2_with (go_at_call 142; refine HDL.out.mono ?_; rintro e w3 ⟨rfl, cur', r1, r2, r3, r4⟩; obtain ⟨hx0, hx1, hx2, hx3⟩ := HBX.out _ r4; obtain ⟨hy1, hy2⟩ := HC4.out w3 hx0 hx1 hx2; have R1 := Lib.hid r1; have R2 := Lib.hid r2; have R3 := Lib.hid r3; have R4 := Lib.hid r4; have HS3 := Lib.hid hx3; have cb3 : w3.cell? ⟨br, 0, none⟩ = some (.slice (some ⟨g, 0, none⟩) i cap) := box_cell hx0 0; have fb3 := frozen_of_row w3 br 0 _ _ hx0; have d0 := box_cell hy1 0; have d1 := box_cell hy1 1; have e0 := box_cell hy2 0; have e1 := box_cell hy2 1; have f0 := frozen_of_row _ _ 0 _ _ hy2; have f1 := frozen_of_row _ _ 1 _ _ hy2; clear hx0 hx1 hx2 hx3 hy1 hy2 r1 r2 r3 r4)
      refine bodyPost_ret (v := .agg #[.int .i64 y, .slice ua um uc]) (by simp [results, Tryz.results141, go_sem, e0, e1, f0, f1]) rfl ?_
      exact HFIN.out w3 _ cur' R4.out R1.out R2.out R3.out (((Below.refl _ _).setCell (by show w.heap.size ≤ w.heap.size; omega) _).setCell (by show w.heap.size ≤ w.heap.size; omega) _) (by simp)

end Go.Proofs.YtggblfnajeikjaaGreatDoor

namespace Go.Proofs.YtggblfnajeikjaaGreatDoor
open Go.RowKit
set_option linter.unusedVariables false
set_option linter.unusedSimpArgs false

theorem nb_small {f : Nat} {xs : List Int} (h : xs.length < 2) : nb f xs = 0 := by
  cases f with
  | zero => rfl
  | succ f => rw [nb, if_pos h]
theorem nbK_step {g : List Int → Int} {xs : List Int} {i : Nat} (h : 1 ≤ i) : nbK g xs i = nbS (nbK g xs (i - 1)) (g (xs.take i) + g (xs.drop i)) := by
  obtain ⟨k, rfl⟩ : ∃ k, i = k + 1 := ⟨i - 1, by omega⟩
  rfl

set_option maxRecDepth 100000 in
set_option maxHeartbeats 800000 in
theorem i_nb : ∀ (f : Nat) (v : Value) (xs : List Int) (w : World), Rd w v (ints xs) → xs.length ≤ f → f ≤ 8 → (∀ x ∈ xs, 1 ≤ x ∧ x ≤ 1000) → Calls Tryz.prog 89 #[v] w (RetQ (.int .i64 (nb f xs)) w) := by
  intro f
  induction f with
  | zero =>
    intro v xs w h hl hf hb
    have HV : Hid (nb 0 xs = 0) := rfl
    obtain ⟨a, n, c, rfl, HN, hnc, hc⟩ := h.formN
    have hn : n < 2 := by have := HN.out; omega
    generalize nb 0 xs = R at HV ⊢
    clear hb hl
    go_enter Tryz.func89, Tryz.ntmps89
    go_wp2
    go_ret
    exact ⟨ret_int (by rw [HV.out]), Dr.refl _⟩
  | succ f ih =>
    intro v xs w h hl hf hb
    by_cases h2 : xs.length < 2
    · have HV := Lib.hid (nb_small (f := f + 1) h2)
      obtain ⟨a, n, c, rfl, HN, hnc, hc⟩ := h.formN
      have hn : n < 2 := by have := HN.out; omega
      generalize nb (f + 1) xs = R at HV ⊢
      clear hb hl h2 ih
      go_enter Tryz.func89, Tryz.ntmps89
      go_wp2
      go_ret
      exact ⟨ret_int (by rw [HV.out]), Dr.refl _⟩
    · have hnt := nbTop_le f (by omega)
      have HG := Lib.hid (fun (ys : List Int) (hy : ∀ y ∈ ys, y ∈ xs) (hyl : ys.length ≤ xs.length) => nb_bd f ys (by omega) (fun y hm => hb y (hy y hm)) (by omega))
      have HKB := Lib.hid (fun k => nbK_bd (xs := xs) hnt.1 HG.out k)
      have HKS := Lib.hid (fun i (h1 : 1 ≤ i) => nbK_step (g := nb f) (xs := xs) h1)
      have HV : Hid (nb (f + 1) xs = nbK (nb f) xs (xs.length - 1) + sumL xs) := by rw [Hid, nb, if_neg h2]
      have HIT := Lib.hid (fun (v : Value) (i : Nat) (W : World) (hW : Rd W v (ints (xs.take i))) (hi : i < xs.length) => ih v (xs.take i) W hW (by simp; omega) (by omega) (fun x hx => hb x (List.mem_of_mem_take hx)))
      have HID := Lib.hid (fun (v : Value) (i : Nat) (W : World) (hW : Rd W v (ints (xs.drop i))) (hi : 1 ≤ i) => ih v (xs.drop i) W hW (by simp; omega) (by omega) (fun x hx => hb x (List.mem_of_mem_drop hx)))
      have HBT := Lib.hid (fun i => HG.out (xs.take i) (fun y hy => List.mem_of_mem_take hy) (by simp; omega))
      have HBD := Lib.hid (fun i => HG.out (xs.drop i) (fun y hy => List.mem_of_mem_drop hy) (by simp))
      have HZ0 : Hid (nbK (nb f) xs (1 - 1) = -1) := rfl
      have hsum := sumL_bd xs hb
      have HB := Lib.hid hb
      have HSB := Lib.hid (fun k => sumL_bd (xs.take k) fun x hx => hb x (List.mem_of_mem_take hx))
      generalize nb (f + 1) xs = R at HV ⊢
      generalize nb f = g at HKB HKS HV HIT HID HBT HBD HZ0
      obtain ⟨T, hT⟩ : ∃ T, nbTop f = T := ⟨_, rfl⟩
      rw [hT] at hnt HBT HBD HKB
      obtain ⟨hT0, hT1⟩ := hnt
      obtain ⟨a, n, c, rfl, HN, hnc, hc⟩ := h.formN
      have hn : ¬ n < 2 := by have := HN.out; omega
      have hn8 : n ≤ 8 := by have := HN.out; omega
      rw [← HN.out] at HV HIT hsum
      have HALL : Hid (sumL (xs.take n) = sumL xs) := by rw [Hid, HN.out, List.take_length]
      obtain ⟨hs0, hs1⟩ := hsum
      clear HG hT hl hf hb h2 ih
      go_enter Tryz.func89, Tryz.ntmps89
      go_wp2
      go_loopg [3, 4] (n - 1) (fun gk bv iv wr => ∃ (i : Nat) (z : Int), gk = n - i ∧ 1 ≤ i ∧ i ≤ n ∧ bv = .int .i64 z ∧ iv = .int .i64 i ∧ Hid (nbK g xs (i - 1) = z) ∧ Dr w wr)
      case atStart => exact ⟨1, -1, rfl, Nat.le_refl _, by omega, rfl, rfl, HZ0, Dr.refl _⟩
      case round =>
        obtain ⟨i, z, hg, hi1, hi, rfl, rfl, HZ, hdr⟩ := hrel
        have hz := HKB.out (i - 1)
        rw [HZ.out] at hz
        obtain ⟨hz0, hz1⟩ := hz
        have hr := h.dr hdr
        by_cases hlt : i < n
        · obtain ⟨ad, x0, rfl, _, _⟩ := hr.int (k := 0) (by have := HN.out; omega)
          have hrT : Rd wr (.slice (some ad) i c) (ints (xs.take i)) := by rw [← ints_take]; exact hr.take (by omega)
          have hrD : Rd wr (.slice (if c = i then some ad else some (ad.add i)) (n - i) (c - i)) (ints (xs.drop i)) := by rw [← ints_drop]; exact hr.cut (by omega)
          have hci : ¬ c = i := by omega
          rw [if_neg hci] at hrD
          have HIT1 := Lib.hid (fun (W : World) hW => HIT.out (.slice (some ad) i c) i W hW hlt)
          have HID1 := Lib.hid (fun (W : World) hW => HID.out (.slice (some (ad.add i)) (n - i) (c - i)) i W hW hi1)
          have HST := Lib.hid (HKS.out i hi1)
          have hbT := HBT.out i
          have hbD := HBD.out i
          obtain ⟨p, hp⟩ : ∃ p, g (xs.take i) = p := ⟨_, rfl⟩
          obtain ⟨q, hq⟩ : ∃ q, g (xs.drop i) = q := ⟨_, rfl⟩
          rw [hp] at HIT1 HST hbT
          rw [hq] at HID1 HST hbD
          obtain ⟨hp0, hp1⟩ := hbT
          obtain ⟨hq0, hq1⟩ := hbD
          have HST2 : Hid (nbK g xs i = nbS z (p + q)) := by rw [Hid, HST.out, HZ.out]
          have i1 : (i : Int) < (n : Int) := by omega
          have i2 : (i : Int) ≤ (n : Int) := by omega
          have i3 : (i : Int) ≤ (c : Int) := by omega
          clear hp hq HST
          go_wp2_with fail
          go_quiet ((first
            | (go_at_call_of 89 (Value.slice (some ad) i c); exact quietQ (HIT1.out _ (hrT.drewN _)))
            | (go_at_call_of 89 (Value.slice (some (ad.add i)) (n - i) (c - i)); exact quietQ (HID1.out _ (hrD.drewN _)))))
          have hdr2 : Dr w wr.drew := hdr.step _
          by_cases hz2 : z < 0
          · have HST3 : Hid (nbK g xs (i + 1 - 1) = p + q) := by rw [Hid, Nat.add_sub_cancel, HST2.out, nbS, if_pos (.inl hz2)]
            go_wp2_with fail
            go_roundg (n - (i + 1))
            case measure => omega
            case rel => exact ⟨i + 1, p + q, rfl, by omega, by omega, rfl, by go_num, HST3, by first | exact hdr.step _ | exact hdr.trans ⟨_, rfl⟩⟩
          · by_cases hz3 : p + q < z
            · have HST3 : Hid (nbK g xs (i + 1 - 1) = p + q) := by rw [Hid, Nat.add_sub_cancel, HST2.out, nbS, if_pos (.inr hz3)]
              go_wp2_with fail
              go_roundg (n - (i + 1))
              case measure => omega
              case rel => exact ⟨i + 1, p + q, rfl, by omega, by omega, rfl, by go_num, HST3, by first | exact hdr.step _ | exact hdr.trans ⟨_, rfl⟩⟩
            · have HST3 : Hid (nbK g xs (i + 1 - 1) = z) := by rw [Hid, Nat.add_sub_cancel, HST2.out, nbS, if_neg (by omega)]
              go_wp2_with fail
              go_roundg (n - (i + 1))
              case measure => omega
              case rel => exact ⟨i + 1, z, rfl, by omega, by omega, rfl, by go_num, HST3, by first | exact hdr.step _ | exact hdr.trans ⟨_, rfl⟩⟩
        · obtain rfl : i = n := by omega
          have HV2 : Hid (R = z + sumL xs) := by rw [Hid, HV.out, HZ.out]
          obtain ⟨wo, rfl⟩ : ∃ wo : World, wo = wr := ⟨_, rfl⟩
          rw [← HALL.out] at HV2
          go_wp2
          go_loopg [3, 36] (i + 1) (fun gk sv jv wr => ∃ (j : Nat) (y : Int), gk = i + 1 - j ∧ j ≤ i ∧ sv = .int .i64 y ∧ jv = .int .i64 j ∧ Hid (z + sumL (xs.take j) = y) ∧ wo = wr)
          case atStart => exact ⟨0, z, rfl, Nat.zero_le _, rfl, rfl, by simp [Hid, sumL], rfl⟩
          case round =>
            obtain ⟨j, y, hg, hj, rfl, rfl, HY, rfl⟩ := hrel
            have hy : -1 ≤ y ∧ y ≤ 4088000 := by have h1 := HSB.out j; have h2 := HY.out; simp at h1; omega
            obtain ⟨hy0, hy1⟩ := hy
            by_cases hlt2 : j < i
            · obtain ⟨ad, x, rfl, hcx, hx⟩ := hr.int (k := j) (by have := HN.out; omega)
              obtain ⟨hx0, hx1⟩ := HB.out x (List.mem_of_getElem? hx.out)
              have HS : Hid (z + sumL (xs.take (j + 1)) = y + x) := by rw [Hid, sumL_take hx.out, ← HY.out]; omega
              go_wp2
              go_roundg (i + 1 - (j + 1))
              case measure => omega
              case rel => exact ⟨j + 1, y + x, rfl, by omega, rfl, by go_num, HS, rfl⟩
            · obtain rfl : j = i := by omega
              have HV3 : Hid (R = y) := by rw [Hid, HV2.out]; exact HY.out
              go_wp2
              go_ret
              exact ⟨ret_int (by rw [HV3.out]), hdr⟩

end Go.Proofs.YtggblfnajeikjaaGreatDoor

namespace Go.Proofs.YtggblfnajeikjaaGreatDoor
open Go.RowKit
set_option linter.unusedVariables false
set_option linter.unusedSimpArgs false

theorem decDigits_len : ∀ k u, u < 10 ^ (k + 1) → (Lib.decDigits u).length ≤ k + 1
  | 0, u, h => by
    rw [Lib.decDigits, dif_pos (by simpa using h)]
    simp
  | k + 1, u, h => by
    rw [Lib.decDigits]
    split
    · simp
    · have := decDigits_len k (u / 10) (by rw [Nat.div_lt_iff_lt_mul (by omega)]; rw [Nat.pow_succ] at h; omega)
      simp
      omega
theorem decDigits_19 {n : Nat} (hn : n ≤ 9223372036854775808) : (Lib.decDigits n).length ≤ 19 := decDigits_len 18 n (by
  have : (10 : Nat) ^ (18 + 1) = 10000000000000000000 := by decide
  omega)
theorem decDigits_pos (n : Nat) : 1 ≤ (Lib.decDigits n).length := by
  rw [Lib.decDigits]
  split <;> simp
theorem decDigits_big {u : Nat} (h : 9 < u) : Lib.decDigits u = Lib.decDigits (u / 10) ++ [UInt8.ofNat (48 + u % 10)] := by
  rw [Lib.decDigits, dif_neg (by omega)]
theorem decDigits_small {u : Nat} (h : ¬ 9 < u) : Lib.decDigits u = [UInt8.ofNat (48 + u)] := by
  rw [Lib.decDigits, dif_pos (by omega)]
theorem itoa_len {n : Int} (h : I64 n) : 1 ≤ (Lib.itoa n).length ∧ (Lib.itoa n).length ≤ 20 := by
  unfold I64 at h
  unfold Lib.itoa
  have h1 := decDigits_19 (n := n.natAbs) (by omega)
  have h2 := decDigits_19 (n := n.toNat) (by omega)
  have h3 := decDigits_pos n.toNat
  split
  · simp; omega
  · omega

def bstr (l : List UInt8) : ByteArray := ⟨l.toArray⟩
theorem bstr_size (l : List UInt8) : (bstr l).size = l.length := by show l.toArray.size = _; simp
theorem bstr_app (a b : List UInt8) : bstr a ++ bstr b = bstr (a ++ b) := by
  apply ByteArray.ext
  simp [bstr]

end Go.Proofs.YtggblfnajeikjaaGreatDoor

namespace Go.Proofs.YtggblfnajeikjaaGreatDoor
open Go.RowKit
set_option linter.unusedVariables false
set_option linter.unusedSimpArgs false

/-- Texts as values. -/
def strs (ls : List (List UInt8)) : List Value := ls.map fun l => Value.string (bstr l)
theorem strs_length (ls : List (List UInt8)) : (strs ls).length = ls.length := by simp [strs]
theorem strs_append (a b : List (List UInt8)) : strs (a ++ b) = strs a ++ strs b := by simp [strs]
theorem strs_get {ls : List (List UInt8)} {k : Nat} {x : List UInt8} (h : ls[k]? = some x) : (strs ls)[k]? = some (.string (bstr x)) := by simp [strs, h]
theorem Rd.formS {w : World} {v : Value} {ls : List (List UInt8)} (h : Rd w v (strs ls)) : ∃ (a : Option Addr) (m c : Nat), v = .slice a m c ∧ Hid (m = ls.length) ∧ m ≤ c ∧ c ≤ 9223372036854775807 := by
  obtain ⟨a, c, h1, h2, h3⟩ := h.form
  exact ⟨a, _, c, h1, strs_length ls, h2, h3⟩
theorem Rd.text {w : World} {a : Option Addr} {n c k : Nat} {ls : List (List UInt8)} (h : Rd w (.slice a n c) (strs ls)) (hk : k < ls.length) : ∃ ad x, a = some ad ∧ w.cell? (ad.add k) = some (.string (bstr x)) ∧ Hid (ls[k]? = some x) := by
  obtain ⟨ad, h1, h2⟩ := h.cell (k := k) (by simpa [strs] using hk)
  refine ⟨ad, ls[k], h1, by rw [h2]; simp [strs], List.getElem?_eq_getElem hk⟩
/-- Texts put together with another one between them, the first k of them. -/
def joinK (sep : List UInt8) (ls : List (List UInt8)) : Nat → List UInt8
  | 0 => []
  | k + 1 => joinK sep ls k ++ (if 0 < k then sep else []) ++ ls.getD k []
theorem joinK_cons (sep x : List UInt8) (ls : List (List UInt8)) : ∀ k, joinK sep (x :: ls) (k + 1) = x ++ (if 0 < k then sep else []) ++ joinK sep ls k
  | 0 => by simp [joinK]
  | k + 1 => by
    have ih := joinK_cons sep x ls k
    rw [joinK, ih]
    cases k with
    | zero => simp [joinK]
    | succ k =>
      rw [show joinK sep ls (k + 1 + 1) = joinK sep ls (k + 1) ++ (if 0 < k + 1 then sep else []) ++ ls.getD (k + 1) [] from rfl]
      simp [List.append_assoc]
theorem join_joinK (sep : List UInt8) : ∀ ls : List (List UInt8), Lib.join ls sep = joinK sep ls ls.length
  | [] => rfl
  | [x] => by simp [Lib.join, List.intercalate, joinK]
  | x :: y :: r => by
    have ih := join_joinK sep (y :: r)
    rw [List.length_cons, joinK_cons, ← ih]
    simp [Lib.join, List.intercalate]

theorem elS : ElemOk Tryz.prog 50 9 16 (.string ByteArray.empty) := by
  obtain ⟨i, hi, h0, h1, h2⟩ := info_parts (show (Tryz.prog.info? 9).map (fun i => (i.zero, i.size, i.bytes)) = some (some (.string ByteArray.empty), 1, 16) by kernel_rfl)
  exact ⟨i, Tryz.underlying50, hi, h0, h1, h2, rfl⟩
/-- Numbers as a text. -/
def numsB (xs : List Int) : List UInt8 := if xs.length = 0 then [45] else joinK [44] (xs.map Lib.itoa) xs.length
def fmtNums (xs : List Int) : List UInt8 := if 60 < xs.length then [] else numsB xs
end Go.Proofs.YtggblfnajeikjaaGreatDoor
