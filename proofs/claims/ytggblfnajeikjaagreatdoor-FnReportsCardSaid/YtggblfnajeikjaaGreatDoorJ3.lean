/- Joined texts of the proof: PairsB, DrawsB, DrawsC, Draws, Draws2, Draws3, Nets, DrawsP, DrawsD, Bits. -/
import Derived.Test.YtggblfnajeikjaaGreatDoorRows
import Derived.WalkKit
import Derived.WalkSpells
import Derived.WalkLawsBesides
import Derived.Deep.Draws
import Derived.Lib.Hide
import Derived.RegionTactic
import Derived.BigQuiet
import Derived.Deep.QuietTactic
import Derived.Lib.SliceRun
import Derived.Deep.RegionLaw
import Derived.Deep.DeepCutAuto
import Derived.Deep.LoopGhost
import Derived.Deep.RegionWith
import Derived.Lib.ItoaNum
import Derived.Deep.RegionHeld3
import Derived.IntWalk
import Derived.Lib.Join
import Derived.Shelf.Strings.Builder1
import Derived.Shelf.Strings.Builder2
import Derived.Shelf.Strings.OnBuilder
import Derived.Shelf.Strconv.Atoi
import Derived.Shelf.Strconv.Itoa0
import Derived.Shelf.Strconv.Itoa1
import Derived.Shelf.LaysM
import Derived.Shelf.Strconv.Itoa2
import Derived.Shelf.Strconv.Itoa3
import Derived.Shelf.Strconv.AtoiErrFast
import Derived.Shelf.Strconv.ParseIntEmpty
import Derived.Shelf.Strconv.AtoiFail
import Derived.Shelf.Strconv.Clone
import Derived.Shelf.Strconv.SyntaxError
import Derived.Shelf.LaysC
import Derived.Shelf.Strconv.ToError
import Derived.Shelf.Strconv.Lower
import Derived.Shelf.Strconv.ParseUint10
import Derived.Shelf.Strconv.ParseUint10Empty
import Derived.Shelf.Strconv.ParseUint10Any
import Derived.Shelf.Strconv.ParseInt10
import Derived.Shelf.Strconv.AtoiLong
import Derived.Shelf.Strconv.AtoiInnerAll
import Derived.Shelf.Strconv.RangeError
import Derived.Shelf.Strconv.ToErrorRange
import Derived.Shelf.Strconv.AtoiAll
import Derived.Shelf.Strconv.ErrVarAll
import Derived.Shelf.Strings.Search1
import Derived.Shelf.Strings.Search2
import Derived.Shelf.Strings.Search3
import Derived.Shelf.Strings.Cut
import Derived.Shelf.Strings.Count
import Derived.Shelf.Strings.Shaped
import Derived.Shelf.Sort.Plain
import Derived.Shelf.Strings.Prefix
import Derived.Shelf.Strings.Split
import Derived.Shelf.Unicode.DecodeSlow
import Derived.Shelf.Slices.Reverse
import Derived.Ground.Names2Prog
import Derived.Shelf.Slices.CompactI
import Derived.Test.YtggblfnajeikjaaGreatDoorProg
import Derived.Lib.SmallJoins
import Derived.Lib.AppendZeros
import Derived.Deep.AppendLies
import Derived.Lib.SplitLaws
import Derived.Lib.Split
import Derived.Lib.IndexBytes
import Derived.Lib.AtoiAllCases
import Derived.Lib.AtoiErrMem
import Derived.Laws.BitsAllLaws
import Derived.Laws.BitsLemmas
import Derived.Lib.RowBridge
import Derived.Sort.OwnSortedInts
import Derived.Lib.LazyBuf
import Derived.Maps.OwnOps
import Derived.Maps.OwnSet
import Derived.Maps.Views
import Derived.Carry
import Derived.Laws.Bits64b
import Derived.BigRegion
import Derived.Test.YtggblfnajeikjaaGreatDoorJ2
namespace Go.Proofs.YtggblfnajeikjaaGreatDoor
open Go.RowKit
set_option linter.unusedVariables false
set_option linter.unusedSimpArgs false

/-- Rows of numbers, each in a block of numbers. -/
def RowsP (w : World) (B : Nat) (rows : List Value) (xss : List (List Int)) : Prop :=
  rows.length = xss.length ∧ ∀ (i : Nat) (r : Value), rows[i]? = some r → ∃ xs : List Int, xss[i]? = some xs ∧ Own w 3 B r (ints xs)
/-- A slice of such rows; the outer slice is owned. -/
def OwnP (w : World) (B : Nat) (v : Value) (xss : List (List Int)) : Prop := ∃ rows : List Value, Own w 23 B v rows ∧ RowsP w B rows xss
def RetOwnP (xss : List (List Int)) (w : World) (e : Ending) (w' : World) : Prop := ∃ v, e = .returned v ∧ OwnP w' w.heap.size v xss ∧ Below w.heap.size w w'
section
variable {w w' wl w6 : World} {B B' B2 m c : Nat} {v v2 v6 u : Value} {rows rows2 ys : List Value} {xss yss : List (List Int)} {xs : List Int} {a b : Int}
theorem RowsP.nil (w : World) (B : Nat) : RowsP w B [] [] := ⟨rfl, fun i r h => by simp at h⟩
theorem RowsP.keep (h : RowsP w B rows xss) (hk : ∀ r ∈ rows, ∀ k, k < w.heap.size → some k = r.ownBlock → w'.heap[k]? = w.heap[k]?) : RowsP w' B rows xss :=
  ⟨h.1, fun i r hr => by
    obtain ⟨xs, h1, h2⟩ := h.2 i r hr
    exact ⟨xs, h1, h2.keep (hk r (List.mem_of_getElem? hr))⟩⟩
theorem RowsP.below (h : RowsP w B rows xss) (hb : Below w.heap.size w w') : RowsP w' B rows xss := h.keep fun _ _ k hk _ => hb.block k hk
theorem RowsP.mem (h : RowsP w B rows xss) {r : Value} (hr : r ∈ rows) : ∃ xs : List Int, Own w 3 B r (ints xs) := by
  obtain ⟨i, hi, rfl⟩ := List.getElem_of_mem hr
  obtain ⟨xs, _, h2⟩ := h.2 i _ (List.getElem?_eq_getElem hi)
  exact ⟨xs, h2⟩
theorem RowsP.one (h : RowsP w B rows xss) : ∀ u ∈ rows, u.oneCell' = true := fun u hu => by
  obtain ⟨xs, ho⟩ := h.mem hu
  obtain ⟨p, q, r, rfl, _, _, _⟩ := ho.rd.formN
  rfl
/-- The outer slice turns. -/
theorem RowsP.outer (h : RowsP w B rows xss) (hg : w.grownBy w' u.ownBlock) (hu : Own w 23 B2 u ys) : RowsP w' B rows xss :=
  h.keep fun r hr k hk e => by
    obtain ⟨xs, ho⟩ := h.mem hr
    exact hg.block k hk fun e2 => hu.elem_ne ho (by decide) k e2.symm e.symm
theorem RowsP.app (h : RowsP w B rows xss) (h2 : RowsP w B rows2 yss) : RowsP w B (rows ++ rows2) (xss ++ yss) := by
  refine ⟨by simp [h.1, h2.1], fun i r hr => ?_⟩
  rw [List.getElem?_append] at hr ⊢
  by_cases e : i < rows.length
  · rw [if_pos e] at hr
    rw [if_pos (by rw [← h.1]; exact e)]
    exact h.2 i r hr
  · rw [if_neg e] at hr
    rw [if_neg (by rw [← h.1]; exact e), ← h.1]
    exact h2.2 _ r hr
theorem RowsP.mono (h : RowsP w B rows xss) (hb : B' ≤ B) : RowsP w B' rows xss := ⟨h.1, fun i r hr => by
  obtain ⟨xs, h1, h2⟩ := h.2 i r hr
  exact ⟨xs, h1, h2.mono hb⟩⟩
theorem RowsP.single (ho : Own w 3 B u (ints xs)) : RowsP w B [u] [xs] := ⟨rfl, fun i r hr => by
  match i, hr with
  | 0, hr => simp at hr; subst hr; exact ⟨xs, rfl, ho⟩⟩
theorem RowsP.rd2 (h : RowsP w B rows xss) (hv : Rd w v rows) : Rd2 w v xss := ⟨rows, hv, h.1, fun i r hr => by
  obtain ⟨xs, h1, h2⟩ := h.2 i r hr
  exact ⟨xs, h1, h2.rd⟩⟩
theorem OwnP.rd2 (h : OwnP w B v xss) : Rd2 w v xss := by
  obtain ⟨rows, h1, h2⟩ := h
  exact h2.rd2 h1.rd
theorem OwnP.form (h : OwnP w B v xss) : ∃ (a : Option Addr) (c : Nat), v = .slice a xss.length c ∧ xss.length ≤ c ∧ c ≤ 9223372036854775807 := h.rd2.form
theorem OwnP.formN (h : OwnP w B v xss) : ∃ (a : Option Addr) (m c : Nat), v = .slice a m c ∧ Hid (m = xss.length) ∧ m ≤ c ∧ c ≤ 9223372036854775807 := by
  obtain ⟨a, c, rfl, h1, h2⟩ := h.form
  exact ⟨a, _, c, rfl, rfl, h1, h2⟩
theorem OwnP.below (h : OwnP w B v xss) (hb : Below w.heap.size w w') : OwnP w' B v xss := by
  obtain ⟨rows, h1, h2⟩ := h
  exact ⟨rows, h1.below hb, h2.below hb⟩
theorem OwnP.mono (h : OwnP w B v xss) (hb : B' ≤ B) : OwnP w B' v xss := by
  obtain ⟨rows, h1, h2⟩ := h
  exact ⟨rows, h1.mono hb, h2.mono hb⟩
theorem OwnP.nil (w : World) (B : Nat) : OwnP w B (.slice none 0 0) [] := ⟨[], Own.nil _ _ _, RowsP.nil w B⟩
theorem OwnP.lit0 (w : World) (hB : B ≤ w.heap.size) : OwnP (w.alloc (.cells #[] 23)) B (.slice (some ⟨w.heap.size, 0, none⟩) 0 0) [] :=
  ⟨[], by simpa [ints] using Own.lit0 w 23 hB, RowsP.nil _ _⟩
theorem OwnP.grown {row : Option Nat} (h : OwnP w B v xss) (hg : w.grownBy w' row) (hne : ∀ k, row = some k → w.heap.size ≤ k) : OwnP w' B v xss :=
  h.below ⟨hg.os, hg.tape, hg.output, hg.size, fun k hk => hg.block k hk fun e => by have := hne k e.symm; omega⟩
theorem OwnP.of_own2 {T : Nat} (h : Own2 w 23 3 B T v xss) : OwnP w B v xss := by
  obtain ⟨rows, h1, _, h3⟩ := h
  exact ⟨rows, h1, h3.1, fun i r hr => by
    obtain ⟨xs, h4, h5⟩ := h3.row hr
    exact ⟨xs, h4, h5⟩⟩
theorem pair_own {g E : Nat} (h : w.heap[g]? = some (.cells #[.int .i64 a, .int .i64 b] E (0, 0))) (hB : B ≤ g) : Own w E B (.slice (some ⟨g, 0, none⟩) 2 2) (ints [a, b]) :=
  .inr ⟨g, 0, 2, _, rfl, hB, h, by simp [ints], by omega, by simp, fun j u hu => by
    match j, hu with
    | 0, hu => simpa [ints] using hu
    | 1, hu => simpa [ints] using hu⟩
theorem OwnP.lit1 (hB : B ≤ w.heap.size) (a b : Int) : OwnP ((w.alloc (.cells #[.int .i64 a, .int .i64 b] 3)).alloc (.cells #[.slice (some ⟨w.heap.size, 0, none⟩) 2 2] 23)) B (.slice (some ⟨w.heap.size + 1, 0, none⟩) 1 1) [[a, b]] := by
  refine ⟨[.slice (some ⟨w.heap.size, 0, none⟩) 2 2], ?_, RowsP.single (pair_own ((Below.heap_alloc _ _ _ (by simp)).trans (heap_alloc_new w _)) hB)⟩
  have := Own.lit (w.alloc (.cells #[.int .i64 a, .int .i64 b] 3)) 23 B #[.slice (some ⟨w.heap.size, 0, none⟩) 2 2] (by simp; omega) (by simp)
  simpa using this
theorem OwnP.of_heap (h : OwnP w B v xss) (e : w'.heap = w.heap) : OwnP w' B v xss := by
  obtain ⟨rows, h1, h2⟩ := h
  exact ⟨rows, h1.keep fun k _ _ => by rw [e], h2.keep fun _ _ k _ _ => by rw [e]⟩
/-- One pair more. -/
theorem OwnP.push {g : Nat} (hr : RowsP wl B rows xss) (hov : Own wl 23 B v rows) (hp : wl.heap[g]? = some (.cells #[.int .i64 a, .int .i64 b] 3 (0, 0))) (hg : wl.grownBy w6 v.ownBlock)
    (ho : Own w6 23 B v6 (rows ++ [.slice (some ⟨g, 0, none⟩) 2 2])) (hB : B ≤ g) : OwnP w6 B v6 (xss ++ [[a, b]]) :=
  ⟨_, ho, (hr.app (RowsP.single (pair_own hp hB))).outer hg hov⟩
/-- Another outer slice turns. -/
theorem OwnP.apart (h : OwnP w B v xss) (hg : w.grownBy w' u.ownBlock) (hu : Own w 23 B2 u ys) (hne : ∀ k, v.ownBlock = some k → u.ownBlock ≠ some k) : OwnP w' B v xss := by
  obtain ⟨rows, h1, h2⟩ := h
  exact ⟨rows, h1.apart hg hne, h2.outer hg hu⟩
/-- A row of two, cell by cell. -/
theorem Rd2.two {p : Option Addr} {k : Nat} {x y : Int} (h : Rd2 w (.slice p m c) xss) (hk : xss[k]? = some [x, y]) :
    ∃ (ad z : Addr) (d : Nat), p = some ad ∧ w.cell? (ad.add k) = some (.slice (some z) 2 d) ∧ w.cell? z = some (.int .i64 x) ∧ w.cell? ⟨z.block, z.off + (0 + 1), none⟩ = some (.int .i64 y) := by
  obtain ⟨ad, b, m', d, xs', rfl, hc, hx, hm, hmd, hd, hr⟩ := h.row (List.getElem?_eq_some_iff.1 hk).1
  have e := hx.out
  rw [hk] at e
  injection e with e
  subst e
  obtain rfl : m' = 2 := hm.out
  obtain ⟨z, x', rfl, hcx, hxx⟩ := hr.int (k := 0) (by simp)
  obtain ⟨z', y', hz, hcy, hyy⟩ := hr.int (k := 1) (by simp)
  obtain rfl : z = z' := by injection hz
  have e1 := hxx.out
  have e2 := hyy.out
  simp only [List.getElem?_cons_zero, List.getElem?_cons_succ, Option.some.injEq] at e1 e2
  subst e1 e2
  rw [add_succ] at hcy
  exact ⟨ad, z, d, rfl, hc, by simpa [Addr.add] using hcx, hcy⟩
/-- One slice behind the other. -/
theorem OwnP.cat (hr : RowsP wl B rows xss) (hov : Own wl 23 B v rows) (hr2 : RowsP wl B2 rows2 yss) (hBB : B ≤ B2) (hg : wl.grownBy w6 v.ownBlock) (ho : Own w6 23 B v6 (rows ++ rows2)) : OwnP w6 B v6 (xss ++ yss) :=
  ⟨_, ho, (hr.app (hr2.mono hBB)).outer hg hov⟩
/-- A cell of a box turns. -/
theorem OwnP.setBox {F q o : Nat} {cur : Array Value} (h : OwnP w B v xss) (hb : w.heap[q]? = some (.cells cur F (0, 0))) (h1 : F ≠ 23) (h2 : F ≠ 3) (x : Value) : OwnP (w.setCell ⟨q, o, none⟩ x) B v xss := by
  obtain ⟨rows, k1, k2⟩ := h
  refine ⟨rows, k1.setCell (own_ne_box k1 hb h1) x, k2.keep fun r hr k hk e => ?_⟩
  obtain ⟨ys, ho⟩ := k2.mem hr
  exact heap_setCell_other w _ k x fun e2 => own_ne_box ho hb h2 (by rw [← e, e2])
/-- A block that lies below turns. -/
theorem OwnP.under {row : Option Nat} (h : OwnP w B v xss) (hg : w.grownBy w' row) (hne : ∀ k, row = some k → k < B) : OwnP w' B v xss := by
  obtain ⟨rows, h1, h2⟩ := h
  refine ⟨rows, h1.apart hg fun k hk e => ?_, h2.keep fun r hr k hk e => hg.block k hk fun e2 => ?_⟩
  · have := (h1.lt k hk).1
    have := hne k e
    omega
  · obtain ⟨xs, ho⟩ := h2.mem hr
    have := (ho.lt k e.symm).1
    have := hne k e2.symm
    omega
end

end Go.Proofs.YtggblfnajeikjaaGreatDoor

namespace Go.Proofs.YtggblfnajeikjaaGreatDoor
open Go.RowKit
set_option linter.unusedVariables false
set_option linter.unusedSimpArgs false

set_option maxHeartbeats 1000000 in
theorem s_l08Half (v : Value) (xs : List Int) (w : World) (h : Rd w v (ints xs)) (f : Nat) (hf : f ≤ 1) (hl : xs.length ≤ 1000) : Calls Tryz.prog 217 #[v, .int .i64 f] w (RetOwn 3 (ints (halfL xs f)) w) := by
  obtain ⟨a, n, c, rfl, HN, hnc, hc⟩ := h.formN
  have hn : n ≤ 1000 := by have := HN.out; omega
  obtain ⟨K, hK⟩ : ∃ K, (n + 1 - f) / 2 = K := ⟨_, rfl⟩
  have HR : Hid (halfL xs f = halfK xs f K) := by rw [Hid, halfL, ← HN.out, hK]
  have HK := Lib.hid hK
  have hK1 : K ≤ 1001 := by omega
  clear hK
  go_enter Tryz.func217, Tryz.ntmps217
  go_wp2_with fail
  go_loopg [5, 6] K (fun gk vo iv wr => ∃ (k i : Nat), gk = K - k ∧ k ≤ K ∧ iv = .int .i64 i ∧ Hid (i = f + 2 * k) ∧ i ≤ 3000 ∧ Own wr 3 w.heap.size vo (ints (halfK xs f k)) ∧ Below w.heap.size w wr)
  case atStart => exact ⟨0, f, rfl, Nat.zero_le _, rfl, rfl, by omega, Own.lit0 w 3 (Nat.le_refl _), (Below.refl _ _).alloc (Nat.le_refl _) _⟩
  case round =>
    obtain ⟨k, i, hg, hk, rfl, HI, hi, ho, hb⟩ := hrel
    by_cases hlt : i < n
    · obtain ⟨ad, x, rfl, hcx, hx⟩ := (h.below hb).int (k := i) (by have := HN.out; omega)
      have HS : Hid (halfK xs f (k + 1) = halfK xs f k ++ [x]) := halfK_succ (by rw [← HI.out]; exact hx.out)
      have hkK : k < K := by have := HK.out; have := HI.out; omega
      obtain ⟨ao, mo, co, rfl, HMO, _, _⟩ := ho.rd.formN
      have hmo : mo ≤ 1001 := by have := HMO.out; rw [halfK_len] at this; omega
      have HL : Hid ((ints (halfK xs f k)).length = mo) := by rw [Hid, ints_length]; exact HMO.out.symm
      have hsz := hb.size
      have HI2 : Hid (i + 2 = f + 2 * (k + 1)) := by have := HI.out; rw [Hid]; omega
      clear hx
      go_wp2_with (at_builtin; refine wpList_app1m rfl _ _ 23 rfl elI rfl ho (by show Value.slice (some ⟨wr.heap.size, 0, none⟩) 1 1 = _; simp) rfl hsz _ HL.out (by omega) (by omega) ?_; intro b6 c6 w6 ho6 hg6 hat6)
      go_roundg (K - (k + 1))
      case measure => omega
      case rel => exact ⟨k + 1, i + 2, rfl, hkK, by go_num, HI2, by omega, by rw [HS.out, ints_append]; exact ho6, hb.grown hg6 hsz fun r hr => (ho.lt r hr).1⟩
    · obtain rfl : k = K := by have := HK.out; have := HI.out; omega
      go_wp2_with fail
      go_ret
      exact ⟨_, rfl, by rw [HR.out]; exact ho, hb⟩

set_option maxHeartbeats 1000000 in
theorem s_l08Wires (f n : Nat) (hf : f ≤ 1000) (hn : n ≤ 1000) (w : World) : Calls Tryz.prog 52 #[.int .i64 f, .int .i64 n] w (RetOwn 3 (ints (wiresL f n)) w) := by
  go_enter Tryz.func52, Tryz.ntmps52
  go_wp2_with fail
  go_loopg [5, 6] n (fun gk vo iv wr => ∃ (k : Nat), gk = n - k ∧ k ≤ n ∧ iv = .int .i64 k ∧ Own wr 3 w.heap.size vo (ints (wiresL f k)) ∧ Below w.heap.size w wr)
  case atStart => exact ⟨0, rfl, Nat.zero_le _, rfl, Own.lit0 w 3 (Nat.le_refl _), (Below.refl _ _).alloc (Nat.le_refl _) _⟩
  case round =>
    obtain ⟨k, hg, hk, rfl, ho, hb⟩ := hrel
    by_cases hlt : k < n
    · obtain ⟨ao, mo, co, rfl, HMO, _, _⟩ := ho.rd.formN
      have hmo : mo ≤ 1000 := by have := HMO.out; rw [wiresL_len] at this; omega
      have HL : Hid ((ints (wiresL f k)).length = mo) := by rw [Hid, ints_length]; exact HMO.out.symm
      have hsz := hb.size
      have HS : Hid (ints (wiresL f (k + 1)) = ints (wiresL f k) ++ [.int .i64 ((f : Int) + (k : Int))]) := by rw [Hid, wiresL_succ, ints_append]; simp [ints]
      go_wp2_with (at_builtin; refine wpList_app1m rfl _ _ 23 rfl elI rfl ho (by show Value.slice (some ⟨wr.heap.size, 0, none⟩) 1 1 = _; simp) rfl hsz _ HL.out (by omega) (by omega) ?_; intro b6 c6 w6 ho6 hg6 hat6)
      go_roundg (n - (k + 1))
      case measure => omega
      case rel => exact ⟨k + 1, rfl, hlt, by go_num, by rw [HS.out]; exact ho6, hb.grown hg6 hsz fun r hr => (ho.lt r hr).1⟩
    · obtain rfl : k = n := by omega
      go_wp2_with fail
      go_ret
      exact ⟨_, rfl, ho, hb⟩

theorem min_if2 (x y : Int) : (if y < x then y else x) = min x y := by split <;> omega
theorem max_if2 (x y : Int) : (if x < y then y else x) = max x y := by split <;> omega

set_option maxRecDepth 100000 in
set_option maxHeartbeats 4000000 in
theorem s_l08Merge : ∀ (f : Nat) (va vb : Value) (a b : List Int) (w : World), Rd w va (ints a) → Rd w vb (ints b) → a.length + b.length ≤ f → f ≤ 16 → Calls Tryz.prog 174 #[va, vb] w (RetOwnP (mrg f a b) w) := by
  intro f
  induction f with
  | zero =>
    intro va vb a b w ha hb hl hf
    obtain ⟨aa, na, ca, rfl, HA, _, _⟩ := ha.formN
    obtain ⟨ab, nb, cb, rfl, HB, _, _⟩ := hb.formN
    obtain rfl : na = 0 := by have := HA.out; omega
    go_enter Tryz.func174, Tryz.ntmps174
    go_wp2_with fail
    go_ret
    exact ⟨_, rfl, OwnP.lit0 w (Nat.le_refl _), (Below.refl _ _).alloc (Nat.le_refl _) _⟩
  | succ f ih =>
    intro va vb a b w ha hb hl hf
    obtain ⟨aa, na, ca, rfl, HA, hna, _⟩ := ha.formN
    obtain ⟨ab, nb, cb, rfl, HB, hnb, _⟩ := hb.formN
    have hna16 : na ≤ 16 := by have := HA.out; omega
    have hnb16 : nb ≤ 16 := by have := HB.out; omega
    by_cases h0 : na = 0
    · have HR : Hid (mrg (f + 1) a b = []) := by rw [Hid, mrg, if_pos (.inl (by rw [← HA.out]; exact h0))]
      subst h0
      clear ih
      go_enter Tryz.func174, Tryz.ntmps174
      go_wp2_with fail
      go_ret
      exact ⟨_, rfl, by rw [HR.out]; exact OwnP.lit0 w (Nat.le_refl _), (Below.refl _ _).alloc (Nat.le_refl _) _⟩
    have d0 : ((na : Int) == 0) = false := by rw [beq_eq_false_iff_ne]; omega
    by_cases h1 : nb = 0
    · have HR : Hid (mrg (f + 1) a b = []) := by rw [Hid, mrg, if_pos (.inr (by rw [← HB.out]; exact h1))]
      subst h1
      clear ih
      go_enter Tryz.func174, Tryz.ntmps174
      go_wp2_with fail
      go_ret
      exact ⟨_, rfl, by rw [HR.out]; exact OwnP.lit0 w (Nat.le_refl _), (Below.refl _ _).alloc (Nat.le_refl _) _⟩
    have d1 : ((nb : Int) == 0) = false := by rw [beq_eq_false_iff_ne]; omega
    by_cases h2 : na = 1 ∧ nb = 1
    · obtain ⟨e1, e2⟩ := h2
      obtain ⟨pa, x, rfl, hcx, hx⟩ := ha.int (k := 0) (by have := HA.out; omega)
      obtain ⟨pb, y, rfl, hcy, hy⟩ := hb.int (k := 0) (by have := HB.out; omega)
      have HR : Hid (mrg (f + 1) a b = [[x, y]]) := by
        have l1 := HA.out
        have l2 := HB.out
        have g1 := hx.out
        have g2 := hy.out
        rw [Hid, mrg, if_neg (by omega), if_pos ⟨by omega, by omega⟩, List.getD_eq_getElem?_getD, g1, List.getD_eq_getElem?_getD, g2]
        rfl
      subst e1
      subst e2
      have c1 : w.cell? pa = some (.int .i64 x) := by simpa [Addr.add] using hcx
      have c2 : w.cell? pb = some (.int .i64 y) := by simpa [Addr.add] using hcy
      clear ih hx hy hcx hcy ha hb
      go_enter Tryz.func174, Tryz.ntmps174
      go_wp2_with fail
      go_region_held3 (fun wx => wx.cell? pa = some (.int .i64 x) ∧ wx.cell? pb = some (.int .i64 y)) (go_keep) (fail)
      all_goals
        go_wp2_with fail
        go_ret
        exact ⟨_, rfl, by rw [HR.out]; exact OwnP.of_heap (OwnP.lit1 (Nat.le_refl _) x y) rfl, (((Below.refl _ _).alloc (Nat.le_refl _) _).alloc (by simp) _).drew⟩
    have hd : ((na : Int) == 1) = false ∨ (((na : Int) == 1) = true ∧ ((nb : Int) == 1) = false) := by
      by_cases e1 : na = 1
      · refine .inr ⟨by rw [beq_iff_eq]; omega, ?_⟩
        rw [beq_eq_false_iff_ne]; omega
      · exact .inl (by rw [beq_eq_false_iff_ne]; omega)
    have hLA := HA.out
    have hLB := HB.out
    have e00 := halfL_len a 0
    have e01 := halfL_len b 0
    have e10 := halfL_len a 1
    have e11 := halfL_len b 1
    have HR : Hid (mrg (f + 1) a b = mrg f (halfL a 0) (halfL b 0) ++ mrg f (halfL a 1) (halfL b 1) ++ cmpL (halfL a 0 ++ halfL b 0) (halfL a 1 ++ halfL b 1)) := by
      rw [Hid, mrg, if_neg (by omega), if_neg (by omega)]
    have H0 := Lib.hid (fun (v v' : Value) (W : World) (h : Rd W v (ints (halfL a 0))) (h' : Rd W v' (ints (halfL b 0))) => ih v v' _ _ W h h' (by omega) (by omega))
    have H1 := Lib.hid (fun (v v' : Value) (W : World) (h : Rd W v (ints (halfL a 1))) (h' : Rd W v' (ints (halfL b 1))) => ih v v' _ _ W h h' (by omega) (by omega))
    have HX : Hid ((mrg f (halfL a 0) (halfL b 0)).length ≤ 1310700) := mrg_le (by omega) (by omega)
    have HY : Hid ((mrg f (halfL a 1) (halfL b 1)).length ≤ 1310700) := mrg_le (by omega) (by omega)
    have HA0 := Lib.hid (fun (W : World) (hW : Below w.heap.size w W) => s_l08Half _ a W (ha.below hW) 0 (by omega) (by omega))
    have HB0 := Lib.hid (fun (W : World) (hW : Below w.heap.size w W) => s_l08Half _ b W (hb.below hW) 0 (by omega) (by omega))
    have HA1 := Lib.hid (fun (W : World) (hW : Below w.heap.size w W) => s_l08Half _ a W (ha.below hW) 1 (by omega) (by omega))
    have HB1 := Lib.hid (fun (W : World) (hW : Below w.heap.size w W) => s_l08Half _ b W (hb.below hW) 1 (by omega) (by omega))
    have HL0 : Hid ((halfL a 0).length ≤ 16 ∧ (halfL b 0).length ≤ 16 ∧ (halfL a 1).length ≤ 16 ∧ (halfL b 1).length ≤ 16) := ⟨by omega, by omega, by omega, by omega⟩
    generalize mrg (f + 1) a b = R at HR ⊢
    generalize mrg f (halfL a 0) (halfL b 0) = X at HX HR H0
    generalize mrg f (halfL a 1) (halfL b 1) = Y at HY HR H1
    generalize halfL a 0 = a0 at *
    generalize halfL b 0 = b0 at *
    generalize halfL a 1 = a1 at *
    generalize halfL b 1 = b1 at *
    clear hLA hLB e00 e01 e10 e11 h2 ih ha hb
    go_enter Tryz.func174, Tryz.ntmps174
    rcases hd with hd | ⟨hd, hd2⟩
    all_goals
      go_wp2_with fail
      refine (HA0.out _ (Below.refl _ _)).mono ?_
      rintro e w1 ⟨v1, rfl, o1, b1⟩
      have B1 := b1
      go_wp2_with fail
      refine (HB0.out _ B1).mono ?_
      rintro e w2 ⟨v2, rfl, o2, b2⟩
      have B2 := B1.trans (b2.mono B1.size)
      go_wp2_with fail
      refine (H0.out _ _ _ (o1.rd.below b2) o2.rd).mono ?_
      rintro e w3 ⟨v3, rfl, o3, b3⟩
      have B3 := B2.trans (b3.mono B2.size)
      replace o3 := o3.mono (B' := w.heap.size) B2.size
      obtain ⟨a3, m3, c3, rfl, HM3, _, _⟩ := o3.formN
      clear o1 o2 b1 b2 b3 B1 B2
      go_wp2_with fail
      refine (HA1.out _ B3).mono ?_
      rintro e w4 ⟨v4, rfl, o4, b4⟩
      have B4 := B3.trans (b4.mono B3.size)
      replace o3 := o3.below b4
      go_wp2_with fail
      refine (HB1.out _ B4).mono ?_
      rintro e w5 ⟨v5, rfl, o5, b5⟩
      have B5 := B4.trans (b5.mono B4.size)
      replace o3 := o3.below b5
      go_wp2_with fail
      refine (H1.out _ _ _ (o4.rd.below b5) o5.rd).mono ?_
      rintro e w6 ⟨v6, rfl, o6, b6⟩
      have B6 := B5.trans (b6.mono B5.size)
      replace o3 := o3.below b6
      obtain ⟨a6, m6, c6, rfl, HM6, _, _⟩ := o6.formN
      obtain ⟨r3, ov3, rp3⟩ := o3
      obtain ⟨r6, ov6, rp6⟩ := o6
      have hm3 : m3 ≤ 1310700 := by have := HM3.out; have := HX.out; omega
      have hm6 : m6 ≤ 1310700 := by have := HM6.out; have := HY.out; omega
      have HL6 : Hid (r3.length + r6.length = m3 + m6) := by have := rp3.1; have := rp6.1; have := HM3.out; have := HM6.out; rw [Hid]; omega
      have hs6 := B6.size
      clear o4 o5 b4 b5 b6 B3 B4
      go_wp2_with (at_builtin; refine wpList_appn rfl _ _ 28 rfl elII ov3 ov6.rd rfl rfl rp6.one hs6 _ HL6.out (by omega) (by omega) ?_; intro b7 c7 w7 o7 g7 hat7)
      have o7p := OwnP.cat rp3 ov3 rp6 B5.size g7 o7
      have B7 := B6.grown g7 hs6 (fun r hr => (ov3.lt r hr).1)
      have hm7 : m3 + m6 ≤ 2621400 := by omega
      have HM7 : Hid ((X ++ Y).length = m3 + m6) := by rw [Hid, List.length_append, HM3.out, HM6.out]
      obtain ⟨m7, hmm⟩ : ∃ m7, m3 + m6 = m7 := ⟨_, rfl⟩
      rw [hmm] at o7p hm7 HM7 ⊢
      clear ov3 ov6 rp3 rp6 o7 g7 hat7 hmm hm3 hm6 HM3 HM6 HL6 B6 hs6
      go_wp2_with fail
      refine (HA0.out _ B7).mono ?_
      rintro e w8 ⟨v8, rfl, o8, b8⟩
      obtain ⟨a8, m8, c8, rfl, HM8, _, _⟩ := o8.rd.formN
      go_wp2_with fail
      refine (HB0.out _ (B7.trans (b8.mono B7.size))).mono ?_
      rintro e w9 ⟨v9, rfl, o9, b9⟩
      have b79 := b8.trans (b9.mono b8.size)
      replace o8 := o8.below b9
      obtain ⟨a9, m9, c9, rfl, HM9, _, _⟩ := o9.rd.formN
      have hmv : m8 + m9 ≤ 32 := by have := HM8.out; have := HM9.out; obtain ⟨q1, q2, q3, q4⟩ := HL0.out; omega
      have HLv : Hid ((ints a0).length + (ints b0).length = m8 + m9) := by rw [Hid, ints_length, ints_length, HM8.out, HM9.out]
      have hs9 := b79.size
      go_wp2_with (at_builtin; refine wpList_appn rfl _ _ 23 rfl elI o8 o9.rd rfl rfl (oneCell_ints1 _) hs9 _ HLv.out (by omega) (by omega) ?_; intro b10 c10 w10 o10 g10 hat10)
      have b710 := b79.grown g10 hs9 (fun r hr => (o8.lt r hr).1)
      have B10 := B7.trans (b710.mono B7.size)
      replace o7p := o7p.below b710
      rw [← ints_append] at o10
      clear o8 o9 b8 b9 b79 g10 hat10 hs9 B7 b710 HLv HM8 HM9
      obtain ⟨mv, hmv2⟩ : ∃ mv, m8 + m9 = mv := ⟨_, rfl⟩
      rw [hmv2] at o10 hmv ⊢
      clear hmv2
      go_wp2_with fail
      refine (HA1.out _ B10).mono ?_
      rintro e w11 ⟨v11, rfl, o11, b11⟩
      obtain ⟨a11, m11, c11, rfl, HM11, _, _⟩ := o11.rd.formN
      go_wp2_with fail
      refine (HB1.out _ (B10.trans (b11.mono B10.size))).mono ?_
      rintro e w12 ⟨v12, rfl, o12, b12⟩
      have b112 := b11.trans (b12.mono b11.size)
      replace o11 := o11.below b12
      obtain ⟨a12, m12, c12, rfl, HM12, _, _⟩ := o12.rd.formN
      have hmw : m11 + m12 ≤ 32 := by have := HM11.out; have := HM12.out; obtain ⟨q1, q2, q3, q4⟩ := HL0.out; omega
      have HLw : Hid ((ints a1).length + (ints b1).length = m11 + m12) := by rw [Hid, ints_length, ints_length, HM11.out, HM12.out]
      have hs12 := b112.size
      go_wp2_with (at_builtin; refine wpList_appn rfl _ _ 23 rfl elI o11 o12.rd rfl rfl (oneCell_ints1 _) hs12 _ HLw.out (by omega) (by omega) ?_; intro b13 c13 w13 o13 g13 hat13)
      have b1013 := b112.grown g13 hs12 (fun r hr => (o11.lt r hr).1)
      have B13 := B10.trans (b1013.mono B10.size)
      replace o7p := o7p.below b1013
      replace o10 := o10.below b1013
      rw [← ints_append] at o13
      clear o11 o12 b11 b12 b112 g13 hat13 hs12 B10 b1013 HLw HM11 HM12
      obtain ⟨mw, hmw2⟩ : ∃ mw, m11 + m12 = mw := ⟨_, rfl⟩
      rw [hmw2] at o13 hmw ⊢
      clear hmw2 HA0 HB0 HA1 HB1 H0 H1 HX HY HL0
      generalize a0 ++ b0 = V at *
      generalize a1 ++ b1 = U at *
      have HV : Hid (mv = V.length) := by
        obtain ⟨p, q, r, e, h1, _, _⟩ := o10.rd.formN
        simp only [Value.slice.injEq] at e
        rw [Hid, e.2.1]; exact h1.out
      have HU : Hid (mw = U.length) := by
        obtain ⟨p, q, r, e, h1, _, _⟩ := o13.rd.formN
        simp only [Value.slice.injEq] at e
        rw [Hid, e.2.1]; exact h1.out
      generalize X ++ Y = XY at *
      obtain ⟨K, hK⟩ : ∃ K, min mw (mv - 1) = K := ⟨_, rfl⟩
      have HR2 : Hid (R = XY ++ cmpK V U K) := by rw [Hid, HR.out, cmpL, ← HV.out, ← HU.out, hK]
      have hK1 : K ≤ mw ∧ K ≤ mv - 1 ∧ (K < mw → mv - 1 ≤ K) := by omega
      clear hK HR
      go_wp2_with fail
      go_loopg [5, 8] K (fun gk vo iv wr => ∃ i : Nat, gk = K - i ∧ i ≤ K ∧ iv = .int .i64 i ∧ OwnP wr w.heap.size vo (XY ++ cmpK V U i) ∧ Hid ((XY ++ cmpK V U i).length ≤ 2621400 + i) ∧ Own wr 3 0 (.slice b10 mv c10) (ints V) ∧ Own wr 3 0 (.slice b13 mw c13) (ints U) ∧ Below w.heap.size w wr)
      case atStart => exact ⟨0, rfl, Nat.zero_le _, rfl, by simpa [cmpK] using o7p, by (rw [Hid, List.length_append, cmpK_len]; have := HM7.out; omega), o10.mono (Nat.zero_le _), o13.mono (Nat.zero_le _), B13⟩
      case round =>
        clear o7p o10 o13 B13
        obtain ⟨i, hg, hi, rfl, ho, HLN, hV, hU, hB⟩ := hrel
        by_cases hlt : i < K
        · obtain ⟨pu, x, rfl, hcx, hx⟩ := hU.rd.int (k := i) (by have := HU.out; omega)
          obtain ⟨pv, y, rfl, hcy, hy⟩ := hV.rd.int (k := i + 1) (by have := HV.out; omega)
          have HS : Hid (cmpK V U (i + 1) = cmpK V U i ++ [[min x y, max x y]]) := cmpK_succ hx.out hy.out
          rw [add_succ] at hcy
          obtain ⟨rows, hov, hrp⟩ := ho
          obtain ⟨ao, co, rfl, _, _⟩ := hov.rd.form
          have hrl : rows.length ≤ 2621500 := by have := hrp.1; have := HLN.out; omega
          have i1 : i < mw := by omega
          have i2 : (i : Int) + 1 < (mv : Int) := by omega
          have i3 : IntKind.i64.wrap ((i : Int) + 1) = (i : Int) + 1 := IntWalk.i64_in _ (by omega)
          have i4 : (0 : Int) ≤ (i : Int) + 1 := by omega
          have i5 : ((i : Int) + 1).toNat = i + 1 := by omega
          have hsz := hB.size
          have HFIN : Hid (∀ (p q : Int) (b6 : Option Addr) (c6 : Nat) (w6 : World), p = min x y → q = max x y → Own w6 23 w.heap.size (.slice b6 (rows.length + 1) c6) (rows ++ [.slice (some ⟨wr.heap.size, 0, none⟩) 2 2]) → (wr.alloc (.cells #[.int .i64 p, .int .i64 q] 3)).grownBy w6 (Value.slice ao rows.length co).ownBlock →
              OwnP w6 w.heap.size (.slice b6 (rows.length + 1) c6) (XY ++ cmpK V U (i + 1)) ∧ Hid ((XY ++ cmpK V U (i + 1)).length ≤ 2621400 + (i + 1)) ∧ Own w6 3 0 (.slice (some pv) mv c10) (ints V) ∧ Own w6 3 0 (.slice (some pu) mw c13) (ints U) ∧ Below w.heap.size w w6 ∧ w6.cell? (pu.add i) = some (.int .i64 x) ∧ w6.cell? ⟨pv.block, pv.off + (i + 1), none⟩ = some (.int .i64 y)) := fun p q b6 c6 w6 hp hq ho6 hg6 => by
            have hb1 : Below wr.heap.size wr (wr.alloc (.cells #[.int .i64 p, .int .i64 q] 3)) := (Below.refl _ _).alloc (Nat.le_refl _) _
            have hov1 := hov.below hb1
            have hV1 := hV.below hb1
            have hU1 := hU.below hb1
            have hV6 := hV1.apart hg6 (fun k h1 h2 => hov1.elem_ne hV1 (by decide) k h2 h1)
            have hU6 := hU1.apart hg6 (fun k h1 h2 => hov1.elem_ne hU1 (by decide) k h2 h1)
            refine ⟨?_, ?_, hV6, hU6, ?_, hU6.rd.cell_i hx.out, by have := hV6.rd.cell_i hy.out; rwa [add_succ] at this⟩
            · rw [HS.out, ← List.append_assoc, ← hp, ← hq]
              exact OwnP.push (hrp.below hb1) hov1 (heap_alloc_new wr _) hg6 ho6 hsz
            · have := HLN.out
              rw [Hid, List.length_append, cmpK_len]
              rw [List.length_append, cmpK_len] at this
              omega
            · exact (hB.trans (hb1.mono hsz)).grown hg6 (by simp; omega) (fun r hr => (hov1.lt r hr).1)
          clear hrp hV hU hB HLN hx hy
          have hovA := fun o => hov.alloc o
          clear hov
          go_wp2_with fail
          go_region_held3 (fun wx => wx.cell? (pu.add i) = some (.int .i64 x) ∧ wx.cell? ⟨pv.block, pv.off + (i + 1), none⟩ = some (.int .i64 y)) (first | exact ⟨k1, k2⟩ | go_keep)
            ((first
              | (refine step_app1 (by rfl) _ _ _ (by rfl) elII (by rfl) (hovA _) (by show Value.slice (some ⟨wr.heap.size + 1, 0, none⟩) 1 1 = _; simp) (by rfl) (by simp; omega) (by omega) (by omega) ?_; intro b6 c6 w6 ho6 hg6 hat6; obtain ⟨f1, f2, f3, f4, f5, k1, k2⟩ := HFIN.out _ _ _ _ _ (min_if2 x y) (max_if2 x y) ho6 hg6)))
          all_goals go_wp2_with fail
          all_goals
            go_roundg (K - (i + 1))
            case measure => omega
            case rel => exact ⟨i + 1, rfl, hlt, by go_num, f1, f2, f3, f4, f5⟩
        · obtain rfl : i = K := by omega
          have hlast : ¬ i < mw ∨ (i < mw ∧ ¬ (i : Int) + 1 < (mv : Int)) := by omega
          rcases hlast with hl1 | ⟨hl1, hl2⟩
          all_goals
            go_wp2_with fail
            go_ret
            exact ⟨_, rfl, by rw [HR2.out]; exact ho, hB⟩

end Go.Proofs.YtggblfnajeikjaaGreatDoor

namespace Go.Proofs.YtggblfnajeikjaaGreatDoor
open Go.RowKit
set_option linter.unusedVariables false
set_option linter.unusedSimpArgs false

theorem wiresL_mem {f n : Nat} {x : Int} (h : x ∈ wiresL f n) : ∃ j : Nat, x = (j : Int) ∧ j < f + n := by
  simp only [wiresL, List.mem_map, List.mem_range] at h
  obtain ⟨i, hi, rfl⟩ := h
  exact ⟨f + i, rfl, by omega⟩
theorem mrgS_row {a b : List Int} {r : List Int} (h : r ∈ mrg (a.length + b.length) (wiresL 0 a.length) (wiresL a.length b.length)) : ∃ i j : Nat, r = [(i : Int), (j : Int)] ∧ i < (a ++ b).length ∧ j < (a ++ b).length := by
  obtain ⟨x, y, rfl, hx, hy⟩ := mrg_row _ _ _ _ h
  have hw : ∀ z, z ∈ wiresL 0 a.length ++ wiresL a.length b.length → ∃ j : Nat, z = (j : Int) ∧ j < (a ++ b).length := fun z hz => by
    rw [List.length_append]
    rcases List.mem_append.1 hz with hz | hz
    · obtain ⟨j, e, hj⟩ := wiresL_mem hz
      exact ⟨j, e, by omega⟩
    · obtain ⟨j, e, hj⟩ := wiresL_mem hz
      exact ⟨j, e, by omega⟩
  obtain ⟨i, rfl, hi⟩ := hw x hx
  obtain ⟨j, rfl, hj⟩ := hw y hy
  exact ⟨i, j, rfl, hi, hj⟩
/-- Places read as wires. -/
def atW (l : List Int) (p : List Int) : List Int := [l.getD (p.getD 0 0).toNat 0, l.getD (p.getD 1 0).toNat 0]

set_option maxRecDepth 100000 in
set_option maxHeartbeats 4000000 in
theorem s_l09Merge (va vb : Value) (a b : List Int) (w : World) (ha : Rd w va (ints a)) (hb : Rd w vb (ints b)) (hl : a.length + b.length ≤ 16) : Calls Tryz.prog 110 #[va, vb] w (RetOwnP (mrgS a b) w) := by
  obtain ⟨aa, na, ca, rfl, HA, _, _⟩ := ha.formN
  obtain ⟨ab, nb, cb, rfl, HB, _, _⟩ := hb.formN
  have hn : na + nb ≤ 16 := by have := HA.out; have := HB.out; omega
  have HLa : Hid ((ints a).length = na) := by rw [Hid, ints_length]; exact HA.out.symm
  have HLab : Hid ((ints a).length + (ints b).length = na + nb) := by rw [Hid, ints_length, ints_length]; have := HA.out; have := HB.out; omega
  have HM := Lib.hid (fun (v v' : Value) (W : World) (h : Rd W v (ints (wiresL 0 na))) (h' : Rd W v' (ints (wiresL na nb))) => s_l08Merge (na + nb) v v' _ _ W h h' (by rw [wiresL_len, wiresL_len]; omega) hn)
  have HML : Hid ((mrg (na + nb) (wiresL 0 na) (wiresL na nb)).length ≤ 1310700) := mrg_le (by rw [wiresL_len, wiresL_len]; exact hn) hn
  have HRW : Hid (∀ r ∈ mrg (na + nb) (wiresL 0 na) (wiresL na nb), ∃ i j : Nat, r = [(i : Int), (j : Int)] ∧ i < (a ++ b).length ∧ j < (a ++ b).length) := fun r hr => by
    rw [HA.out, HB.out] at hr
    exact mrgS_row hr
  have HR : Hid (mrgS a b = (mrg (na + nb) (wiresL 0 na) (wiresL na nb)).map (atW (a ++ b))) := by rw [Hid, mrgS, HA.out, HB.out]; rfl
  generalize mrgS a b = R at HR ⊢
  generalize mrg (na + nb) (wiresL 0 na) (wiresL na nb) = M at HM HML HRW HR
  go_enter Tryz.func110, Tryz.ntmps110
  go_wp2_with (first
    | (at_builtin; (refine wpList_copy (B := w.heap.size) rfl _ _ 23 rfl elI ha rfl rfl (oneCell_ints1 _) (Nat.le_refl _) _ HLa.out (by omega) (by omega) ?_); intro b1 c1 w1 ho1 hb1)
    | (at_builtin; refine wpList_appn rfl _ _ 23 rfl elI ho1 (hb.below hb1) rfl rfl (oneCell_ints1 _) hb1.size _ HLab.out (by omega) (by omega) ?_; intro b2 c2 w2 ho2 hg2 hat2; have hb2 := hb1.grown hg2 hb1.size (fun r hr => (ho1.lt r hr).1)))
  rw [← ints_append] at ho2
  have hL2 : Hid ((a ++ b).length = na + nb) := by rw [Hid, List.length_append]; have := HLab.out; rw [ints_length, ints_length] at this; exact this
  obtain ⟨nn, hnn⟩ : ∃ nn, na + nb = nn := ⟨_, rfl⟩
  rw [hnn] at ho2 hn hL2
  have HNN := Lib.hid hnn
  have hna : na ≤ 16 ∧ nb ≤ 16 := by omega
  clear hnn
  have hs2 := hb2.size
  have oL := OwnP.lit0 (B := w.heap.size) w2 hs2
  have oA := ho2.alloc (.cells #[] 23)
  have B2 := hb2.alloc hs2 (.cells #[] 23)
  obtain ⟨g0, hg0⟩ : ∃ g0, w2.heap.size = g0 := ⟨_, rfl⟩
  obtain ⟨w3, hw3⟩ : ∃ w3, w2.alloc (.cells #[] 23) = w3 := ⟨_, rfl⟩
  have hz3 : g0 < w3.heap.size := by rw [← hw3, ← hg0]; simp
  have HW3 := Lib.hid hw3
  have HG0 := Lib.hid hg0
  rw [hw3, hg0] at oL
  rw [hw3] at oA B2
  clear hw3 hg0 ho1 hb1 ho2 hg2 hat2 hb2 hs2 ha hb HLa HLab HA HB
  rw [HW3.out, HG0.out, HNN.out]
  refine (s_l08Wires 0 na (by omega) (by omega) w3).mono ?_
  rintro e w4 ⟨v4, rfl, o4, b4⟩
  go_wp2_with fail
  refine (s_l08Wires na nb (by omega) (by omega) w4).mono ?_
  rintro e w5 ⟨v5, rfl, o5, b5⟩
  go_wp2_with fail
  refine (HM.out _ _ _ (o4.rd.below b5) o5.rd).mono ?_
  rintro e w6 ⟨v6, rfl, o6, b6⟩
  have b36 : Below w3.heap.size w3 w6 := (b4.trans (b5.mono b4.size)).trans (b6.mono (Nat.le_trans b4.size b5.size))
  replace oL := oL.below b36
  replace oA := oA.below b36
  have B6 := B2.trans (b36.mono B2.size)
  have hz6 : g0 < w5.heap.size := Nat.lt_of_lt_of_le hz3 (Nat.le_trans b4.size b5.size)
  obtain ⟨am, mm, cm, rfl, HMM, _, _⟩ := o6.formN
  have hmm : mm ≤ 1310700 := by have := HML.out; have := HMM.out; omega
  have hne : ∀ k, (Value.slice am mm cm).ownBlock = some k → (Value.slice (some ⟨g0, 0, none⟩) 0 0).ownBlock ≠ some k := fun k hk e => by
    obtain ⟨rows, h1, _⟩ := o6
    have := (h1.lt k hk).1
    simp only [Value.ownBlock, Option.some.injEq] at e
    omega
  replace o6 := o6.mono (B' := 0) (Nat.zero_le _)
  replace oA := oA.mono (B' := 0) (Nat.zero_le _)
  clear o4 o5 b4 b5 b6 b36 B2 hz3 hz6 HM HML HW3 HG0
  go_wp2_with fail
  go_loopg [6, 25] mm (fun gk vo iv wr => ∃ q : Nat, gk = mm - q ∧ q ≤ mm ∧ iv = .int .i64 q ∧ OwnP wr w.heap.size vo ((M.take q).map (atW (a ++ b))) ∧ OwnP wr 0 (.slice am mm cm) M ∧ Own wr 3 0 (.slice b2 nn c2) (ints (a ++ b)) ∧ (∀ k, (Value.slice am mm cm).ownBlock = some k → vo.ownBlock ≠ some k) ∧ Below w.heap.size w wr)
  case atStart => exact ⟨0, rfl, Nat.zero_le _, rfl, by simpa using oL, o6, oA, hne, B6⟩
  case round =>
    clear oL o6 oA hne B6
    obtain ⟨q, hg, hq, rfl, ho, hM, hA, hne, hB⟩ := hrel
    have HNE := Lib.hid hne
    clear hne
    by_cases hlt : q < mm
    · obtain ⟨i, j, hij, hi, hj⟩ := HRW.out (M[q]'(by have := HMM.out; omega)) (List.getElem_mem _)
      have hMq : M[q]? = some [(i : Int), (j : Int)] := by rw [List.getElem?_eq_getElem (by have := HMM.out; omega), hij]
      obtain ⟨ad, z, d, rfl, e0, e1, e2⟩ := hM.rd2.two hMq
      obtain ⟨pa, x, rfl, hcx, hx⟩ := hA.rd.int (k := i) hi
      obtain ⟨pa', y, hpa, hcy, hy⟩ := hA.rd.int (k := j) hj
      obtain rfl : pa = pa' := by injection hpa
      clear hpa
      have HS : Hid ((M.take (q + 1)).map (atW (a ++ b)) = (M.take q).map (atW (a ++ b)) ++ [[x, y]]) := by
        have hx1 := hx.out
        have hy1 := hy.out
        rw [Hid, take_snoc' hMq, List.map_append]
        congr 1
        simp [atW, List.getD_eq_getElem?_getD, hx1, hy1]
      have hi3 : i < nn := by have := hL2.out; omega
      have hj3 : j < nn := by have := hL2.out; omega
      have hi2 : (i : Int) < (nn : Int) := by have := hL2.out; omega
      have hj2 : (j : Int) < (nn : Int) := by have := hL2.out; omega
      obtain ⟨rows, hov, hrp⟩ := ho
      obtain ⟨ao, co, rfl, _, _⟩ := hov.rd.form
      have hrl : rows.length ≤ 1310700 := by have := hrp.1; rw [List.length_map, List.length_take] at this; omega
      have hsz := hB.size
      have HFIN : Hid (∀ (b6 : Option Addr) (c6 : Nat) (w6 : World), Own w6 23 w.heap.size (.slice b6 (rows.length + 1) c6) (rows ++ [.slice (some ⟨wr.heap.size, 0, none⟩) 2 2]) → (wr.alloc (.cells #[.int .i64 x, .int .i64 y] 3)).grownBy w6 (Value.slice ao rows.length co).ownBlock →
          ((Value.slice b6 (rows.length + 1) c6).ownBlock = (Value.slice ao rows.length co).ownBlock ∨ ∃ k, (wr.alloc (.cells #[.int .i64 x, .int .i64 y] 3)).heap.size ≤ k ∧ (Value.slice b6 (rows.length + 1) c6).ownBlock = some k) →
          OwnP w6 w.heap.size (.slice b6 (rows.length + 1) c6) ((M.take (q + 1)).map (atW (a ++ b))) ∧ OwnP w6 0 (.slice (some ad) mm cm) M ∧ Own w6 3 0 (.slice (some pa) nn c2) (ints (a ++ b)) ∧ (∀ k, (Value.slice (some ad) mm cm).ownBlock = some k → (Value.slice b6 (rows.length + 1) c6).ownBlock ≠ some k) ∧ Below w.heap.size w w6 ∧
          (w6.cell? (ad.add q) = some (.slice (some z) 2 d) ∧ w6.cell? z = some (.int .i64 i) ∧ w6.cell? ⟨z.block, z.off + (0 + 1), none⟩ = some (.int .i64 j) ∧ w6.cell? (pa.add i) = some (.int .i64 x) ∧ w6.cell? (pa.add j) = some (.int .i64 y))) := fun b6 c6 w6 ho6 hg6 hat6 => by
        have hb1 : Below wr.heap.size wr (wr.alloc (.cells #[.int .i64 x, .int .i64 y] 3)) := (Below.refl _ _).alloc (Nat.le_refl _) _
        have hov1 := hov.below hb1
        have hA1 := hA.below hb1
        have hM1 := hM.below hb1
        have hA6 := hA1.apart hg6 (fun k h1 h2 => hov1.elem_ne hA1 (by decide) k h2 h1)
        have hM6 := hM1.apart hg6 hov1 HNE.out
        obtain ⟨ad', z', d', had, k0, k1, k2⟩ := hM6.rd2.two hMq
        obtain rfl : ad = ad' := by injection had
        have c0 : w6.cell? (ad.add q) = some (.slice (some z) 2 d) := hg6.cell ((hb1.cell (World.block_lt_of_cell? _ _ e0)).trans e0) (by rw [block_of_add]; exact fun e => HNE.out ad.block rfl e.symm)
        rw [k0] at c0
        simp only [Option.some.injEq, Value.slice.injEq] at c0
        obtain ⟨rfl, _, rfl⟩ := c0
        refine ⟨by rw [HS.out]; exact OwnP.push (hrp.below hb1) hov1 (heap_alloc_new wr _) hg6 ho6 hsz, hM6, hA6, fun k hk e => ?_, (hB.trans (hb1.mono hsz)).grown hg6 (by simp; omega) (fun r hr => (hov1.lt r hr).1), k0, k1, k2, hA6.rd.cell_i hx.out, hA6.rd.cell_i hy.out⟩
        rcases hat6 with e2 | ⟨k2, h2, e2⟩
        · exact HNE.out k hk (e2 ▸ e)
        · rw [e2] at e
          injection e with e
          obtain ⟨rM, hoM, _⟩ := hM1
          have := (hoM.lt k hk).2
          omega
      have hovA := fun o => hov.alloc o
      clear hov hrp hA hM hB
      go_wp2_with fail
      go_region_held3 (fun wx => wx.cell? (ad.add q) = some (.slice (some z) 2 d) ∧ wx.cell? z = some (.int .i64 i) ∧ wx.cell? ⟨z.block, z.off + (0 + 1), none⟩ = some (.int .i64 j) ∧ wx.cell? (pa.add i) = some (.int .i64 x) ∧ wx.cell? (pa.add j) = some (.int .i64 y)) (first | exact k6 | go_keep)
        ((first
          | (refine step_app1 (by rfl) _ _ _ (by rfl) elII (by rfl) (hovA _) (by show Value.slice (some ⟨wr.heap.size + 1, 0, none⟩) 1 1 = _; simp) (by rfl) (by simp; omega) (by omega) (by omega) ?_; intro b6 c6 w6 ho6 hg6 hat6; obtain ⟨f1, f2, f3, f4, f5, k6⟩ := HFIN.out _ _ _ ho6 hg6 hat6)))
      all_goals go_wp2_with fail
      all_goals
        go_roundg (mm - (q + 1))
        case measure => omega
        case rel => exact ⟨q + 1, rfl, hlt, by go_num, f1, f2, f3, f4, f5⟩
    · obtain rfl : q = mm := by omega
      go_wp2_with fail
      go_ret
      exact ⟨_, rfl, by rw [HR.out]; have := HMM.out; rw [this, List.take_length] at ho; exact ho, hB⟩

def RetBat (X : List (List Int)) (w W : World) (e : Ending) (w' : World) : Prop := ∃ (a : Option Addr) (m c : Nat), e = .returned (.slice a m c) ∧ OwnP w' w.heap.size (.slice a m c) X ∧ Below W.heap.size W w' ∧ Below w.heap.size w w'
theorem RetOwnP.bat {P : Program} {f : FuncId} {args : Array Value} {X : List (List Int)} {w W : World} (h : Calls P f args W (RetOwnP X W)) (hW : Below w.heap.size w W) : Calls P f args W (RetBat X w W) := by
  refine h.mono ?_
  rintro e w' ⟨v, rfl, ho, hb⟩
  obtain ⟨a, m, c, rfl, _, _, _⟩ := ho.formN
  exact ⟨a, m, c, rfl, ho.mono hW.size, hb, hW.trans (hb.mono hW.size)⟩

set_option maxRecDepth 100000 in
set_option maxHeartbeats 4000000 in
theorem s_l09Batcher : ∀ (f : Nat) (v : Value) (xs : List Int) (w : World), Rd w v (ints xs) → xs.length ≤ f + 1 → f ≤ 15 → Calls Tryz.prog 51 #[v] w (RetOwnP (batS f xs) w) := by
  intro f
  induction f with
  | zero =>
    intro v xs w h hl hf
    obtain ⟨a, n, c, rfl, HN, _, _⟩ := h.formN
    have hn : n ≤ 1 := by have := HN.out; omega
    go_enter Tryz.func51, Tryz.ntmps51
    go_wp2_with fail
    go_ret
    exact ⟨_, rfl, OwnP.lit0 w (Nat.le_refl _), (Below.refl _ _).alloc (Nat.le_refl _) _⟩
  | succ f ih =>
    intro v xs w h hl hf
    obtain ⟨a, n, c, rfl, HN, hnc, hc9⟩ := h.formN
    by_cases h1 : n ≤ 1
    · have HR : Hid (batS (f + 1) xs = []) := by rw [Hid, batS, if_pos (by rw [← HN.out]; exact h1)]
      clear ih
      go_enter Tryz.func51, Tryz.ntmps51
      go_wp2_with fail
      go_ret
      exact ⟨_, rfl, by rw [HR.out]; exact OwnP.lit0 w (Nat.le_refl _), (Below.refl _ _).alloc (Nat.le_refl _) _⟩
    have hn16 : n ≤ 17 := by have := HN.out; omega
    have hxl := HN.out
    have HR : Hid (batS (f + 1) xs = batS f (xs.take ((n + 1) / 2)) ++ batS f (xs.drop ((n + 1) / 2)) ++ mrgS (xs.take ((n + 1) / 2)) (xs.drop ((n + 1) / 2))) := by
      rw [Hid, batS, if_neg (by omega), hxl]
    obtain ⟨hh, hhh⟩ : ∃ hh, (n + 1) / 2 = hh := ⟨_, rfl⟩
    rw [hhh] at HR
    have hq : ((n : Int) + 1) / 2 = (hh : Int) := by omega
    obtain ⟨ad, x0, rfl, _, _⟩ := h.int (k := 0) (by omega)
    have hch : ¬ c = hh := by omega
    have hT := h.take (k := hh) (by omega)
    have hD : Rd w (.slice (some (ad.add hh)) (n - hh) (c - hh)) (ints (xs.drop hh)) := by
      have := h.cut (k := hh) (by omega)
      rw [ints_drop, if_neg hch] at this
      exact this
    rw [ints_take] at hT
    have hlt : (xs.take hh).length = hh := by rw [List.length_take]; omega
    have hld : (xs.drop hh).length = n - hh := by rw [List.length_drop]; omega
    have H0 := Lib.hid (fun (W : World) (hW : Below w.heap.size w W) => RetOwnP.bat (ih _ _ W (hT.below hW) (by omega) (by omega)) hW)
    have H1 := Lib.hid (fun (W : World) (hW : Below w.heap.size w W) => RetOwnP.bat (ih _ _ W (hD.below hW) (by omega) (by omega)) hW)
    have HM := Lib.hid (fun (W : World) (hW : Below w.heap.size w W) => RetOwnP.bat (s_l09Merge _ _ _ _ W (hT.below hW) (hD.below hW) (by omega)) hW)
    have HX : Hid ((batS f (xs.take hh)).length ≤ 100000000000) := batS_le (by omega) (by omega)
    have HY : Hid ((batS f (xs.drop hh)).length ≤ 100000000000) := batS_le (by omega) (by omega)
    have HZ : Hid ((mrgS (xs.take hh) (xs.drop hh)).length ≤ 1310700) := by
      rw [Hid, mrgS, List.length_map]
      exact mrg_le (by rw [wiresL_len, wiresL_len]; omega) (by omega)
    generalize batS (f + 1) xs = R at HR ⊢
    generalize batS f (xs.take hh) = X at HX HR H0
    generalize batS f (xs.drop hh) = Y at HY HR H1
    generalize mrgS (xs.take hh) (xs.drop hh) = Z at HZ HR HM
    have i1 : (hh : Int) ≤ (n : Int) := by omega
    have i2 : (hh : Int) ≤ (c : Int) := by omega
    have i3 : hh ≤ n := by omega
    have i4 : hh ≤ c := by omega
    have i5 : (n : Int) ≤ (c : Int) := by omega
    have i6 : (0 : Int) ≤ (hh : Int) := by omega
    have i7 : ¬ (n : Int) ≤ 1 := by omega
    clear hT hD hlt hld hxl hhh ih h
    go_enter Tryz.func51, Tryz.ntmps51
    go_upto_region 4 with (fail)
    rw [hq]
    clear hq
    go_cut [4] (fun vb wx => ∃ (a4 : Option Addr) (m4 c4 : Nat), vb = .slice a4 m4 c4 ∧ OwnP wx w.heap.size (.slice a4 m4 c4) (X ++ Y) ∧ Below w.heap.size w wx)
    case first =>
      have hB0 : Below w.heap.size w w := Below.refl _ _
      go_region_held3 (fun wx => Below w.heap.size w wx ∧ w.heap.size ≤ wx.heap.size)
        (first | exact ⟨g8, Below.size g8⟩ | exact ⟨g7, Below.size g7⟩ | exact ⟨g6, Below.size g6⟩ | exact ⟨Below.refl _ _, Nat.le_refl _⟩ | exact ⟨(Below.refl _ _).drew, Nat.le_refl _⟩)
        (first
          | (obtain ⟨r6, ov6, rp6⟩ := o6'; obtain ⟨r7, ov7, rp7⟩ := o7; have hx6 := rp6.1; have hx7 := rp7.1; have hX9 := HX.out; have hY9 := HY.out; refine step_app (by rfl) _ _ _ (by rfl) elII (by rfl) ov6 (by rfl) ov7.rd rp7.one (Below.size g7) (by omega) (by omega) ?_; clear hx6 hx7 hX9 hY9; intro b8 c8 w8 ho8 hg8 hat8; have o8 := OwnP.cat rp6 ov6 rp7 (Nat.le_refl _) hg8 ho8; have g8 := Below.grown g7 hg8 (Below.size g7) (fun r hr => (ov6.lt r hr).1))
          | (obtain ⟨r6, ov6, rp6⟩ := o6; obtain ⟨r7, ov7, rp7⟩ := o7'; have hx6 := rp6.1; have hx7 := rp7.1; have hX9 := HX.out; have hY9 := HY.out; refine step_app (by rfl) _ _ _ (by rfl) elII (by rfl) ov6 (by rfl) ov7.rd rp7.one (Below.size g6) (by omega) (by omega) ?_; clear hx6 hx7 hX9 hY9; intro b8 c8 w8 ho8 hg8 hat8; have o8 := OwnP.cat rp6 ov6 rp7 (Nat.le_refl _) hg8 ho8; have g8 := Below.grown g6 hg8 (Below.size g6) (fun r hr => (ov6.lt r hr).1))
          | (go_at_call 51; (with_reducible refine (H0.out _ (by exact (show _ ∧ _ from by assumption).1)).mono ?_); rintro e w6 ⟨a6, m6, c6, rfl, o6, b6, g6⟩; (try have o7' := o7.below b6))
          | (go_at_call 51; (with_reducible refine (H1.out _ (by exact (show _ ∧ _ from by assumption).1)).mono ?_); rintro e w7 ⟨a7, m7, c7, rfl, o7, b7, g7⟩; (try have o6' := o6.below b7)))
      all_goals go_wp2_with (fail)
      all_goals
        go_meet
        exact ⟨_, _, _, rfl, o8, g8⟩
    case rest =>
    obtain ⟨a4, m4, c4, rfl, o4, g4⟩ := hcut
    have HXY : Hid ((X ++ Y).length ≤ 200000000000) := by have := HX.out; have := HY.out; rw [Hid, List.length_append]; omega
    generalize X ++ Y = XY at *
    clear HX HY H0 H1
    go_wp2_with fail
    go_region_held3 (fun wx => Below w.heap.size w wx ∧ w.heap.size ≤ wx.heap.size)
      (first | exact ⟨g8, Below.size g8⟩ | exact ⟨g7, Below.size g7⟩ | exact ⟨Below.drew g4, Below.size g4⟩ | exact ⟨Below.drew g4, Below.size (Below.drew g4)⟩)
      (first
        | (obtain ⟨r6, ov6, rp6⟩ := o6'; obtain ⟨r7, ov7, rp7⟩ := o7; have hx6 := rp6.1; have hx7 := rp7.1; have hX9 := HXY.out; have hZ9 := HZ.out; refine step_app (by rfl) _ _ _ (by rfl) elII (by rfl) ov6 (by rfl) ov7.rd rp7.one (Below.size g7) (by omega) (by omega) ?_; clear hx6 hx7 hX9 hZ9; intro b8 c8 w8 ho8 hg8 hat8; have o8 := OwnP.cat rp6 ov6 rp7 (Nat.le_refl _) hg8 ho8; have g8 := Below.grown g7 hg8 (Below.size g7) (fun r hr => (ov6.lt r hr).1))
        | (go_at_call 110; (with_reducible refine (HM.out _ (by exact (show _ ∧ _ from by assumption).1)).mono ?_); rintro e w7 ⟨a7, m7, c7, rfl, o7, b7, g7⟩; have o6' := OwnP.below (by first | exact o4 | exact o4.below ((Below.refl _ _).drew)) b7))
    all_goals go_wp2_with (fail)
    all_goals
      go_ret
      exact ⟨_, rfl, by rw [HR.out]; exact o8, g8⟩

end Go.Proofs.YtggblfnajeikjaaGreatDoor

namespace Go.Proofs.YtggblfnajeikjaaGreatDoor
open Go.RowKit
set_option linter.unusedVariables false
set_option linter.unusedSimpArgs false

theorem and255 (x : Int) : 0 ≤ bits .and .i64 x 255 ∧ bits .and .i64 x 255 ≤ 255 := by
  have h1 : ((BitVec.ofInt 64 x).toNat &&& 255) ≤ 255 := Nat.and_le_right
  have h2 : bits .and .i64 x 255 = (((BitVec.ofInt 64 x).toNat &&& 255 : Nat) : Int) := by
    have e : (BitVec.ofInt 64 255).toNat = 255 := by decide
    have e2 : (BitVec.ofInt 64 x &&& BitVec.ofInt 64 255).toNat = (BitVec.ofInt 64 x).toNat &&& 255 := by rw [BitVec.toNat_and, e]
    show IntKind.i64.wrap (((BitVec.ofInt 64 x &&& BitVec.ofInt 64 255).toNat : Nat) : Int) = _
    rw [e2]
    exact IntWalk.i64_in _ (by omega)
  rw [h2]
  omega
def bytesV (xs : List Int) : List Value := xs.map (Value.int .u8)
/-- A cursor that draws: what is drawn from, the place, the hash. -/
structure Cur (w : World) (g : Nat) (vb : Value) (xs : List Int) : Prop where
  ex : ∃ (i : Nat) (h : Int), i ≤ xs.length ∧ w.cell? ⟨g, 0, none⟩ = some vb ∧ w.cell? ⟨g, 1, none⟩ = some (.int .i64 i) ∧ w.cell? ⟨g, 2, none⟩ = some (.int .i64 h) ∧ w.frozen? ⟨g, 1, none⟩ = false ∧ w.frozen? ⟨g, 2, none⟩ = false
  rd : Rd w vb (bytesV xs)
  ne : xs = [] ∨ vb.ownBlock ≠ some g

theorem Rd.setB {w : World} {v : Value} {xs : List Int} (h : Rd w v (bytesV xs)) {p : Addr} (hne : xs = [] ∨ v.ownBlock ≠ some p.block) (u : Value) : Rd (w.setCell p u) v (bytesV xs) := by
  rcases hne with rfl | hne
  · obtain ⟨a, c, e, h2, h3, _⟩ := h
    exact ⟨a, c, e, h2, h3, fun h => absurd h (by simp [bytesV])⟩
  · exact h.setCell hne u
theorem Cur.drewN {w : World} {g : Nat} {vb : Value} {xs : List Int} (h : Cur w g vb xs) (n : Nat) : Cur (w.drewN n) g vb xs := ⟨h.ex, h.rd.drewN n, h.ne⟩
theorem Cur.hash {w : World} {g : Nat} {vb : Value} {xs : List Int} (hC : Cur w g vb xs) (H : Int) : Cur (w.setCell ⟨g, 2, none⟩ (.int .i64 H)) g vb xs ∧ w.grownBy (w.setCell ⟨g, 2, none⟩ (.int .i64 H)) (some g) := by
  obtain ⟨⟨i, hh, hi, c0, c1, c2, f1, f2⟩, hrd, hne⟩ := hC
  exact ⟨⟨⟨i, H, hi, by go_simp, by go_simp, by go_simp, by go_simp, by go_simp⟩, hrd.setB hne _, hne⟩, ⟨rfl, rfl, rfl, by simp, fun k _ hk => heap_setCell_other w ⟨g, 2, none⟩ k _ (fun e => hk (by rw [e]))⟩⟩
theorem Cur.place {w : World} {g : Nat} {vb : Value} {xs : List Int} (hC : Cur w g vb xs) (j : Nat) (hj : j ≤ xs.length) : Cur (w.setCell ⟨g, 1, none⟩ (.int .i64 j)) g vb xs ∧ w.grownBy (w.setCell ⟨g, 1, none⟩ (.int .i64 j)) (some g) := by
  obtain ⟨⟨i, hh, hi, c0, c1, c2, f1, f2⟩, hrd, hne⟩ := hC
  exact ⟨⟨⟨j, hh, hj, by go_simp, by go_simp, by go_simp, by go_simp, by go_simp⟩, hrd.setB hne _, hne⟩, ⟨rfl, rfl, rfl, by simp, fun k _ hk => heap_setCell_other w ⟨g, 1, none⟩ k _ (fun e => hk (by rw [e]))⟩⟩
theorem Rd.formB {w : World} {v : Value} {xs : List Int} (h : Rd w v (bytesV xs)) : ∃ (a : Option Addr) (m c : Nat), v = .slice a m c ∧ Hid (m = xs.length) ∧ m ≤ c ∧ c ≤ 9223372036854775807 := by
  obtain ⟨a, c, e, h2, h3⟩ := h.form
  simp only [bytesV, List.length_map] at e h2
  exact ⟨a, _, c, e, rfl, h2, h3⟩
theorem gb_trans {w w1 w2 : World} {r : Option Nat} (h : w.grownBy w1 r) (k : w1.grownBy w2 r) : w.grownBy w2 r :=
  ⟨k.os.trans h.os, k.tape.trans h.tape, k.output.trans h.output, Nat.le_trans h.size k.size, fun i hi hne => (k.block i (Nat.lt_of_lt_of_le hi h.size) hne).trans (h.block i hi hne)⟩
theorem gb_drewN {w w1 : World} {r : Option Nat} (h : w.grownBy w1 r) (n : Nat) : w.grownBy (w1.drewN n) r := ⟨h.os, h.tape, h.output, h.size, h.block⟩
/-- A draw: a number from lo to hi, and but for the cursor nothing that existed has turned. -/
def RetD (lo hi : Int) (g : Nat) (vb : Value) (xs : List Int) (w : World) (e : Ending) (w' : World) : Prop :=
  ∃ x, e = .returned (.int .i64 x) ∧ lo ≤ x ∧ x ≤ hi ∧ Cur w' g vb xs ∧ w.grownBy w' (some g)

set_option maxRecDepth 100000 in
set_option maxHeartbeats 4000000 in
theorem s_l01Byte (g : Nat) (vb : Value) (xs : List Int) (hxb : ∀ x ∈ xs, 0 ≤ x ∧ x ≤ 255) (w : World) (hC : Cur w g vb xs) :
    Calls Tryz.prog 106 #[.pointer (some ⟨g, 0, none⟩)] w (RetD 0 255 g vb xs w) := by
  obtain ⟨ab, n, cb, rfl, hn, hn1, hn2⟩ := hC.rd.formB
  have HC1 := Lib.hid (fun H => hC.hash H)
  have HXB := Lib.hid hxb
  clear hxb
  obtain ⟨⟨i0, hh, hi0, c0, c1, c2, f1, f2⟩, hrd, hne⟩ := hC
  go_enter Tryz.func106, Tryz.ntmps106
  go_wp2
  obtain ⟨H, hH⟩ : ∃ H, wrap64 (wrap64 (hh * 6364136223846793005) + 1442695040888963407) = H := ⟨_, rfl⟩
  rw [hH]
  obtain ⟨hC1, hg1⟩ := HC1.out H
  obtain ⟨w1, hw1⟩ : ∃ w1, w.setCell ⟨g, 2, none⟩ (.int .i64 H) = w1 := ⟨_, rfl⟩
  rw [hw1] at hC1 hg1 ⊢
  clear hw1 hH HC1 c0 c1 c2 f1 f2 hrd hne hi0
  obtain ⟨⟨i, hh1, hi, c0, c1, c2, f1, f2⟩, hrd, hne⟩ := hC1
  go_quiet (fail)
  rename_i nq
  obtain ⟨x0, hx0⟩ : ∃ x0, bits BinOp.and .i64 (bits BinOp.xor .i64 (hh1 / 8589934592) (hh1 / 35184372088832)) 255 = x0 := ⟨_, rfl⟩
  have hx0b := and255 (bits BinOp.xor .i64 (hh1 / 8589934592) (hh1 / 35184372088832))
  rw [hx0] at hx0b ⊢
  obtain ⟨w2, hw2⟩ : ∃ w2, w1.drewN nq = w2 := ⟨_, rfl⟩
  have hC2 : Cur (w1.drewN nq) g _ xs := Cur.drewN ⟨⟨i, hh1, hi, c0, c1, c2, f1, f2⟩, hrd, hne⟩ nq
  have hg2 := gb_drewN hg1 nq
  rw [hw2] at hC2 hg2 ⊢
  clear hw2 hx0 c0 c1 c2 f1 f2 hrd hne hi hg1
  obtain ⟨⟨i, hh2, hi, c0, c1, c2, f1, f2⟩, hrd, hne⟩ := hC2
  have hC3 : Hid (∀ k, Cur (w2.drewN k) g (.slice ab n cb) xs ∧ w.grownBy (w2.drewN k) (some g)) := fun k => ⟨Cur.drewN ⟨⟨i, hh2, hi, c0, c1, c2, f1, f2⟩, hrd, hne⟩ k, gb_drewN hg2 k⟩
  have fin : Hid (∀ k wz, wz = w2.drewN k → i + 1 ≤ xs.length → Cur (wz.setCell ⟨g, 1, none⟩ (.int .i64 ((i : Int) + 1))) g (.slice ab n cb) xs ∧ w.grownBy (wz.setCell ⟨g, 1, none⟩ (.int .i64 ((i : Int) + 1))) (some g)) := fun k wz e hl => by
    subst e
    obtain ⟨h1, h2⟩ := (hC3.out k).1.place (i + 1) hl
    rw [show (((i + 1 : Nat) : Int)) = (i : Int) + 1 by simp] at h1 h2
    exact ⟨h1, gb_trans (hC3.out k).2 h2⟩
  by_cases hin : i < n
  · have hin' : (i : Int) < (n : Int) := by omega
    obtain ⟨ad, had, hcb⟩ := hrd.cell (k := i) (by simp only [bytesV, List.length_map]; have := hn.out; omega)
    subst had
    obtain ⟨y, hy, hy0⟩ : ∃ y, (bytesV xs)[i]'(by simp only [bytesV, List.length_map]; have := hn.out; omega) = .int .u8 y ∧ 0 ≤ y ∧ y ≤ 255 := by
      refine ⟨xs[i]'(by have := hn.out; omega), by simp [bytesV], HXB.out _ (List.getElem_mem _)⟩
    rw [hy] at hcb
    clear hy
    go_wp2
    go_quiet (fail)
    go_wp2
    go_quiet (fail)
    obtain ⟨x1, hx1⟩ : ∃ x1, bits BinOp.and .i64 (x0 + y) 255 = x1 := ⟨_, rfl⟩
    have hx1b := and255 (x0 + y)
    rw [hx1] at hx1b ⊢
    go_wp2
    go_ret
    have hl2 : i + 1 ≤ xs.length := by have := hn.out; omega
    first
      | exact ⟨x1, rfl, hx1b.1, hx1b.2, (fin.out _ _ rfl hl2).1, (fin.out _ _ rfl hl2).2⟩
      | exact ⟨x1, rfl, hx1b.1, hx1b.2, (fin.out _ _ (World.drewN_drewN _ _ _) hl2).1, (fin.out _ _ (World.drewN_drewN _ _ _) hl2).2⟩
  · have hin' : ¬ (i : Int) < (n : Int) := by omega
    go_wp2
    go_quiet (fail)
    go_wp2
    go_ret
    exact ⟨x0, rfl, hx0b.1, hx0b.2, (hC3.out _).1, (hC3.out _).2⟩

set_option maxRecDepth 100000 in
set_option maxHeartbeats 2000000 in
theorem s_l01Below (g : Nat) (vb : Value) (xs : List Int) (hxb : ∀ x ∈ xs, 0 ≤ x ∧ x ≤ 255) (n : Int) (hn1 : 1 ≤ n) (hn2 : n ≤ 1000000000) (w : World) (hC : Cur w g vb xs) :
    Calls Tryz.prog 49 #[.pointer (some ⟨g, 0, none⟩), .int .i64 n] w (RetD 0 (n - 1) g vb xs w) := by
  have HB := Lib.hid (fun (wx : World) (hx : Cur wx g vb xs) => s_l01Byte g vb xs hxb wx hx)
  have h0 : ¬ n ≤ 0 := by omega
  by_cases h1 : n ≤ 256
  · go_enter Tryz.func49, Tryz.ntmps49
    go_wp2_with (go_at_call 106; refine (HB.out _ hC).mono ?_; rintro e w1 ⟨x, rfl, hx0, hx1, hC1, hg1⟩)
    go_ret
    exact ⟨_, rfl, Int.emod_nonneg _ (by omega), by have := Int.emod_lt_of_pos x (show 0 < n by omega); omega, hC1, hg1⟩
  · go_enter Tryz.func49, Tryz.ntmps49
    go_wp2_with (first
      | (go_at_call 106; with_reducible refine (HB.out _ hC4).mono ?_; fail)
      | (go_at_call 106; ((with_reducible refine (HB.out _ hC3).mono ?_); rintro e w4 ⟨x4, rfl, hx40, hx41, hC4, hg4⟩))
      | (go_at_call 106; ((with_reducible refine (HB.out _ hC2).mono ?_); rintro e w3 ⟨x3, rfl, hx30, hx31, hC3, hg3⟩))
      | (go_at_call 106; ((with_reducible refine (HB.out _ hC1).mono ?_); rintro e w2 ⟨x2, rfl, hx20, hx21, hC2, hg2⟩))
      | (go_at_call 106; ((with_reducible refine (HB.out _ hC).mono ?_); rintro e w1 ⟨x1, rfl, hx10, hx11, hC1, hg1⟩)))
    go_ret
    exact ⟨_, rfl, Int.emod_nonneg _ (by omega), by have := Int.emod_lt_of_pos (x1 * 16777216 + x2 * 65536 + x3 * 256 + x4) (show 0 < n by omega); omega, hC4, gb_trans (gb_trans (gb_trans hg1 hg2) hg3) hg4⟩

theorem and30 (x : Int) : 0 ≤ bits .and .i64 x 1073741823 ∧ bits .and .i64 x 1073741823 ≤ 1073741823 := by
  have h1 : ((BitVec.ofInt 64 x).toNat &&& 1073741823) ≤ 1073741823 := Nat.and_le_right
  have h2 : bits .and .i64 x 1073741823 = (((BitVec.ofInt 64 x).toNat &&& 1073741823 : Nat) : Int) := by
    have e : (BitVec.ofInt 64 1073741823).toNat = 1073741823 := by decide
    have e2 : (BitVec.ofInt 64 x &&& BitVec.ofInt 64 1073741823).toNat = (BitVec.ofInt 64 x).toNat &&& 1073741823 := by rw [BitVec.toNat_and, e]
    show IntKind.i64.wrap (((BitVec.ofInt 64 x &&& BitVec.ofInt 64 1073741823).toNat : Nat) : Int) = _
    rw [e2]
    exact IntWalk.i64_in _ (by omega)
  rw [h2]
  omega
/-- A new cursor is returned; nothing that existed has turned. -/
def RetCur (vb : Value) (xs : List Int) (w : World) (e : Ending) (w' : World) : Prop :=
  ∃ g, e = .returned (.pointer (some ⟨g, 0, none⟩)) ∧ w.heap.size ≤ g ∧ Cur w' g vb xs ∧ Below w.heap.size w w'
set_option maxRecDepth 100000 in
set_option maxHeartbeats 2000000 in
theorem s_l01New (vb : Value) (xs : List Int) (hxb : ∀ x ∈ xs, 0 ≤ x ∧ x ≤ 255) (hl : xs.length ≤ 1048576) (w : World) (h : Rd w vb (bytesV xs)) :
    Calls Tryz.prog 96 #[vb] w (RetCur vb xs w) := by
  obtain ⟨ab, n, cb, rfl, hn, hn1, hn2⟩ := h.formB
  have HXB := Lib.hid hxb
  clear hxb
  have hnl : n ≤ 1048576 := by have := hn.out; omega
  have hblk : ∀ k, (Value.slice ab n cb).ownBlock = some k → k < w.heap.size ∨ n = 0 := fun k hk => by
    by_cases h0 : n = 0
    · exact .inr h0
    · obtain ⟨ad, had, hc⟩ := h.cell (k := 0) (by simp only [bytesV, List.length_map]; have := hn.out; omega)
      subst had
      have := World.block_lt_of_cell? w _ hc
      rw [block_of_add] at this
      have e : ad.block = k := Option.some.inj hk
      exact .inl (by omega)
  go_enter Tryz.func96, Tryz.ntmps96
  go_wp2
  go_loopw [3, 4] (fun hh i wr => ∃ (j : Nat) (q : Int), j ≤ n ∧ i = .int .i64 j ∧ hh = .int .i64 q ∧ 0 ≤ q ∧ q ≤ 1073741823 ∧ w = wr) (fun _ i _ => n - (intOf i).toNat)
  case atStart => exact ⟨0, _, Nat.zero_le _, rfl, rfl, by omega, by omega, rfl⟩
  case round =>
    obtain ⟨j, q, hj, rfl, rfl, hq0, hq1, rfl⟩ := hrel
    by_cases hjn : j < n ∧ j < 4000
    · have i1 : (j : Int) < (n : Int) := by omega
      have i2 : (j : Int) < 4000 := by omega
      have i3 : j < n := hjn.1
      have i4 : j < 4000 := hjn.2
      obtain ⟨ad, had, hcb⟩ := h.cell (k := j) (by simp only [bytesV, List.length_map]; have := hn.out; omega)
      subst had
      obtain ⟨y, hy, hy0⟩ : ∃ y, (bytesV xs)[j]'(by simp only [bytesV, List.length_map]; have := hn.out; omega) = .int .u8 y ∧ 0 ≤ y ∧ y ≤ 255 := by
        refine ⟨xs[j]'(by have := hn.out; omega), by simp [bytesV], HXB.out _ (List.getElem_mem _)⟩
      rw [hy] at hcb
      clear hy
      go_wp2
      go_roundw
      case rel => exact ⟨j + 1, _, by omega, by go_num, rfl, (and30 _).1, (and30 _).2, trivial⟩
      case measure => simp [intOf]; omega
    · have hd : (decide ((j : Int) < (n : Int)) && decide ((j : Int) < 4000)) = false := by
        rw [Bool.and_eq_false_iff]
        simp
        omega
      by_cases hjn2 : j < n
      · have i3 : ¬ j < 4000 := fun h => hjn ⟨hjn2, h⟩
        have i2 : ¬ (j : Int) < 4000 := by omega
        go_wp2
        go_ret
        refine ⟨w.heap.size, rfl, Nat.le_refl _, ⟨⟨0, q, Nat.zero_le _, by go_simp, by go_simp, by go_simp, by go_simp, by go_simp⟩, h.alloc _, ?_⟩, (Below.refl _ _).alloc (Nat.le_refl _) _⟩
        by_cases hx0 : n = 0
        · exact .inl (List.eq_nil_of_length_eq_zero (by have := hn.out; omega))
        · refine .inr (fun e => ?_)
          rcases hblk _ e with e | e <;> omega
      · have i2 : ¬ (j : Int) < (n : Int) := by omega
        go_wp2
        go_ret
        refine ⟨w.heap.size, rfl, Nat.le_refl _, ⟨⟨0, q, Nat.zero_le _, by go_simp, by go_simp, by go_simp, by go_simp, by go_simp⟩, h.alloc _, ?_⟩, (Below.refl _ _).alloc (Nat.le_refl _) _⟩
        by_cases hx0 : n = 0
        · exact .inl (List.eq_nil_of_length_eq_zero (by have := hn.out; omega))
        · refine .inr (fun e => ?_)
          rcases hblk _ e with e | e <;> omega

set_option maxHeartbeats 1000000 in
theorem s_l31New (vb : Value) (xs : List Int) (hxb : ∀ x ∈ xs, 0 ≤ x ∧ x ≤ 255) (hl : xs.length ≤ 1048576) (n : Nat) (hn : n ≤ 1000) (w : World) (h : Rd w vb (bytesV xs)) :
    Calls Tryz.prog 45 #[vb, .int .i64 n] w (RetCur vb xs w) := by
  have HN := Lib.hid (s_l01New vb xs hxb hl w h)
  have HB := Lib.hid (fun (g : Nat) (wx : World) (hx : Cur wx g vb xs) => s_l01Byte g vb xs hxb wx hx)
  go_enter Tryz.func45, Tryz.ntmps45
  go_wp2_with (go_at_call 96; refine HN.out.mono ?_; rintro e w1 ⟨g, rfl, hg, hC1, hb1⟩)
  go_loopw [6] (fun i wr => ∃ j : Nat, j ≤ n ∧ i = .int .i64 j ∧ Cur wr g vb xs ∧ Below w.heap.size w wr) (fun i _ => n - (intOf i).toNat)
  case atStart => exact ⟨0, Nat.zero_le _, rfl, hC1, hb1⟩
  case round =>
    clear hC1 hb1
    obtain ⟨j, hj, rfl, hC, hb⟩ := hrel
    by_cases hjn : j < n
    · have i1 : (j : Int) < (n : Int) := by omega
      go_wp2_with (go_at_call 106; refine (HB.out g _ hC).mono ?_; rintro e w2 ⟨x, rfl, _, _, hC2, hg2⟩)
      go_roundw
      case rel => exact ⟨j + 1, by omega, by go_num, hC2, hb.grown hg2 hb.size (fun r hr => by cases hr; exact hg)⟩
      case measure => simp [intOf]; omega
    · obtain rfl : n = j := by omega
      go_wp2
      go_ret
      exact ⟨g, rfl, hg, hC, hb⟩

end Go.Proofs.YtggblfnajeikjaaGreatDoor

namespace Go.Proofs.YtggblfnajeikjaaGreatDoor
open Go.RowKit
set_option linter.unusedVariables false
set_option linter.unusedSimpArgs false

theorem Cur.turn {w w' : World} {g : Nat} {vb : Value} {xs : List Int} {row : Option Nat} (hC : Cur w g vb xs) (hg : w.grownBy w' row) (hne : row ≠ some g) (hrd : Rd w' vb (bytesV xs)) : Cur w' g vb xs := by
  obtain ⟨⟨i, hh, hi, c0, c1, c2, f1, f2⟩, _, hn⟩ := hC
  have hlt : g < w.heap.size := World.block_lt_of_cell? w _ c0
  have hb := hg.block g hlt (fun e => hne e.symm)
  exact ⟨⟨i, hh, hi, (World.cell?_of_block (w := w) (a := ⟨g, 0, none⟩) hb).trans c0, (World.cell?_of_block (w := w) (a := ⟨g, 1, none⟩) hb).trans c1, (World.cell?_of_block (w := w) (a := ⟨g, 2, none⟩) hb).trans c2, (World.frozen?_of_block (w := w) (a := ⟨g, 1, none⟩) hb).trans f1, (World.frozen?_of_block (w := w) (a := ⟨g, 2, none⟩) hb).trans f2⟩, hrd, hn⟩
theorem Cur.below {w w' : World} {g : Nat} {vb : Value} {xs : List Int} (hC : Cur w g vb xs) (hb : Below w.heap.size w w') : Cur w' g vb xs :=
  hC.turn (row := none) ⟨hb.os, hb.tape, hb.output, hb.size, fun i hi _ => hb.block i hi⟩ (by simp) (hC.rd.below hb)

set_option maxHeartbeats 1000000 in
theorem s_l01Pick (g : Nat) (vb : Value) (xs : List Int) (hxb : ∀ x ∈ xs, 0 ≤ x ∧ x ≤ 255) (vl : Value) (l : List Int) (hl1 : 1 ≤ l.length) (hl2 : l.length ≤ 1000) (w : World) (hC : Cur w g vb xs) (hr : Rd w vl (ints l)) (hne : vl.ownBlock ≠ some g) :
    Calls Tryz.prog 126 #[.pointer (some ⟨g, 0, none⟩), vl] w fun e w' => ∃ x, x ∈ l ∧ e = .returned (.int .i64 x) ∧ Cur w' g vb xs ∧ w.grownBy w' (some g) := by
  obtain ⟨a, m, c, rfl, HM, h2, h3⟩ := hr.formN
  have hm1 : 1 ≤ m := by have := HM.out; omega
  have hm2 : m ≤ 1000 := by have := HM.out; omega
  have HB := Lib.hid (s_l01Below g vb xs hxb (m : Int) (by omega) (by omega) w hC)
  go_enter Tryz.func126, Tryz.ntmps126
  go_wp2_with (go_at_call 49; refine HB.out.mono ?_; rintro e w2 ⟨x, rfl, hx0, hx1, hC2, hg2⟩; have hr2 := hr.grown hg2 (.inl hne); obtain ⟨k, rfl⟩ := Int.eq_ofNat_of_zero_le hx0; obtain ⟨ad, y, rfl, hcy, hy⟩ := hr2.int (k := k) (by have := HM.out; omega); have i1 : (k : Int) < (m : Int) := by omega)
  go_ret
  exact ⟨y, List.mem_of_getElem? hy.out, rfl, hC2, hg2⟩

end Go.Proofs.YtggblfnajeikjaaGreatDoor

namespace Go.Proofs.YtggblfnajeikjaaGreatDoor
open Go.RowKit
set_option linter.unusedVariables false
set_option linter.unusedSimpArgs false

theorem gb_below {w w1 w2 : World} {r : Option Nat} (h : w.grownBy w1 r) (k : Below w1.heap.size w1 w2) : w.grownBy w2 r :=
  ⟨k.os.trans h.os, k.tape.trans h.tape, k.output.trans h.output, Nat.le_trans h.size k.size, fun i hi hne => (k.block i (Nat.lt_of_lt_of_le hi h.size)).trans (h.block i hi hne)⟩
theorem gb_up {w w1 w2 : World} {r s : Option Nat} (h : w.grownBy w1 r) (k : w1.grownBy w2 s) (hs : ∀ b, s = some b → w.heap.size ≤ b) : w.grownBy w2 r :=
  ⟨k.os.trans h.os, k.tape.trans h.tape, k.output.trans h.output, Nat.le_trans h.size k.size, fun i hi hne => (k.block i (Nat.lt_of_lt_of_le hi h.size) (fun e => by have := hs i e.symm; omega)).trans (h.block i hi hne)⟩
theorem gb_alloc {w w1 : World} {r : Option Nat} (h : w.grownBy w1 r) (o : Obj) : w.grownBy (w1.alloc o) r := gb_below h ((Below.refl _ _).alloc (Nat.le_refl _) o)
theorem Cur.lt {w : World} {g : Nat} {vb : Value} {xs : List Int} (h : Cur w g vb xs) : g < w.heap.size := by obtain ⟨_, _, _, c0, _⟩ := h.ex; exact World.block_lt_of_cell? _ _ c0
theorem Cur.alloc {w : World} {g : Nat} {vb : Value} {xs : List Int} (h : Cur w g vb xs) (o : Obj) : Cur (w.alloc o) g vb xs := h.below ((Below.refl _ _).alloc (Nat.le_refl _) o)
theorem Cur.up {w w6 : World} {g : Nat} {vb : Value} {xs : List Int} (hC : Cur w g vb xs) (hg : w.grownBy w6 (some g)) : Rd w6 vb (bytesV xs) := by
  rcases hC.ne with rfl | hne
  · obtain ⟨a, c, e, h2, h3, _⟩ := hC.rd
    exact ⟨a, c, e, h2, h3, fun h => absurd h (by simp [bytesV])⟩
  · exact hC.rd.grown hg (.inl hne)
theorem Own.neg {w w0 : World} {E g : Nat} {v : Value} {xs : List Value} (h : Own w E w0.heap.size v xs) (hg : g < w0.heap.size) : v.ownBlock ≠ some g := fun e => by have := (h.lt g e).1; omega
/-- A list that is drawn: so many numbers from -3 to 8. -/
def RetL (n : Nat) (g : Nat) (vb : Value) (xs : List Int) (w : World) (e : Ending) (w' : World) : Prop :=
  ∃ (ys : List Int) (v : Value), ys.length = n ∧ (∀ y ∈ ys, -3 ≤ y ∧ y ≤ 8) ∧ e = .returned v ∧ Own w' 3 w.heap.size v (ints ys) ∧ Cur w' g vb xs ∧ w.grownBy w' (some g)

theorem s_l01Once (g : Nat) (vb : Value) (xs : List Int) (hxb : ∀ x ∈ xs, 0 ≤ x ∧ x ≤ 255) (n : Int) (h1 : 1 ≤ n) (h2 : n ≤ 1000000000) (w : World) (hC : Cur w g vb xs) :
    Calls Tryz.prog 53 #[.pointer (some ⟨g, 0, none⟩), .int .i64 n] w fun e w' => (∃ b : Bool, e = .returned (.bool b)) ∧ Cur w' g vb xs ∧ w.grownBy w' (some g) := by
  have HB := Lib.hid (s_l01Below g vb xs hxb n h1 h2 w hC)
  go_enter Tryz.func53, Tryz.ntmps53
  go_wp2_with (go_at_call 49; refine HB.out.mono ?_; rintro e w2 ⟨x, rfl, hx0, hx1, hC2, hg2⟩)
  go_ret
  exact ⟨⟨_, rfl⟩, hC2, hg2⟩

set_option maxHeartbeats 1000000 in
theorem s_l02List (g : Nat) (vb : Value) (xs : List Int) (hxb : ∀ x ∈ xs, 0 ≤ x ∧ x ≤ 255) (n : Nat) (hn : n ≤ 1000) (w : World) (hC : Cur w g vb xs) :
    Calls Tryz.prog 104 #[.pointer (some ⟨g, 0, none⟩), .int .i64 n] w (RetL n g vb xs w) := by
  have HB := Lib.hid (fun (wx : World) (hx : Cur wx g vb xs) => s_l01Below g vb xs hxb 12 (by omega) (by omega) wx hx)
  have hgl := hC.lt
  have HUP := Lib.hid (fun (w6 : World) (hg : w.grownBy w6 (some g)) => hC.up hg)
  go_enter Tryz.func104, Tryz.ntmps104
  go_wp2
  go_loopw [5, 6] (fun vl k wr => ∃ (q : Nat) (ys : List Int), k = .int .i64 q ∧ q ≤ n ∧ Hid (ys.length = q) ∧ Hid (∀ y ∈ ys, -3 ≤ y ∧ y ≤ 8) ∧ Own wr 3 w.heap.size vl (ints ys) ∧ Cur wr g vb xs ∧ w.grownBy wr (some g)) (fun _ k _ => n - (intOf k).toNat)
  case atStart => exact ⟨0, [], rfl, Nat.zero_le _, rfl, (fun y hy => by cases hy), Own.lit0 w 3 (Nat.le_refl _), hC.alloc _, gb_alloc (World.grownBy.refl _ _) _⟩
  case round =>
    clear hC
    obtain ⟨q, ys, rfl, hq, HL, HY, ho, hC, hg⟩ := hrel
    by_cases hqn : q < n
    · have i1 : (q : Int) < (n : Int) := by omega
      obtain ⟨al, ml, cl, rfl, HML, _, _⟩ := ho.rd.formN
      have hml : ml ≤ 1000 := by have := HML.out; have := HL.out; omega
      have HYM : Hid ((ints ys).length = ml) := by rw [Hid, ints_length, HML.out]
      have hsz := hg.size
      go_wp2_with (first
        | (go_at_call 49; refine (HB.out _ hC).mono ?_; rintro e w3 ⟨m, rfl, hm0, hm1, hC3, hg3⟩
           have ho3 := ho.apart hg3 (fun k h1 h2 => ho.neg hgl (by rw [h1, h2]))
           have hgg3 := gb_trans hg hg3)
        | (at_builtin; refine wpList_app1m rfl _ _ 23 rfl elI rfl ho3 (by show Value.slice (some ⟨w3.heap.size, 0, none⟩) 1 1 = _; simp) rfl hgg3.size _ HYM.out (by omega) (by omega) ?_; intro b6 c6 w6 ho6 hg6 hat6))
      have hg7 := gb_up hgg3 hg6 (fun b hb => (ho3.lt b hb).1)
      have hC6 := hC3.turn hg6 (ho3.neg hgl) (HUP.out _ hg7)
      go_roundw
      case rel => exact ⟨q + 1, ys ++ [m - 3], by go_num, by omega, by rw [Hid, List.length_append, HL.out]; rfl, (fun z hz => by
        rcases List.mem_append.1 hz with hz | hz
        · exact HY.out z hz
        · rw [List.mem_singleton] at hz
          subst hz
          omega), by rw [ints_append]; exact ho6, hC6, hg7⟩
      case measure => simp [intOf]; omega
    · obtain rfl : q = n := by omega
      go_wp2
      go_ret
      exact ⟨ys, _, HL.out, HY.out, rfl, ho, hC, hg⟩

set_option maxRecDepth 100000 in
set_option maxHeartbeats 4000000 in
theorem s_l25Draw (g : Nat) (vb : Value) (xs : List Int) (hxb : ∀ x ∈ xs, 0 ≤ x ∧ x ≤ 255) (w : World) (hC : Cur w g vb xs) :
    Calls Tryz.prog 44 #[.pointer (some ⟨g, 0, none⟩)] w fun e w' => ∃ n, n ≤ 1000 ∧ RetL n g vb xs w e w' := by
  have HB := Lib.hid (fun (n : Int) (h1 : 1 ≤ n) (h2 : n ≤ 1000000000) (wx : World) (hx : Cur wx g vb xs) => s_l01Below g vb xs hxb n h1 h2 wx hx)
  have HO := Lib.hid (fun (n : Int) (h1 : 1 ≤ n) (h2 : n ≤ 1000000000) (wx : World) (hx : Cur wx g vb xs) => s_l01Once g vb xs hxb n h1 h2 wx hx)
  have HL := Lib.hid (fun (n : Nat) (hn : n ≤ 1000) (wx : World) (hx : Cur wx g vb xs) => s_l02List g vb xs hxb n hn wx hx)
  clear hxb
  have hgl := hC.lt
  have HUP := Lib.hid (fun (w6 : World) (hg : w.grownBy w6 (some g)) => hC.up hg)
  go_enter Tryz.func44, Tryz.ntmps44
  go_wp2_with fail
  refine (HB.out 12 (by omega) (by omega) _ hC).mono ?_
  rintro e w1 ⟨x, rfl, hx0, hx1, hC1, hg1⟩
  obtain ⟨n, rfl⟩ := Int.eq_ofNat_of_zero_le hx0
  clear hC
  go_wp2_with fail
  refine (HL.out n (by omega) _ hC1).mono ?_
  rintro e w2 ⟨ys, vl, hyn, hyr, rfl, ho2, hC2, hg2⟩
  replace hg2 := gb_trans hg1 hg2
  replace ho2 := ho2.mono (B' := w.heap.size) hg1.size
  have HYN := Lib.hid hyn
  have HYR := Lib.hid hyr
  clear hyn hyr hC1 hg1
  go_wp2_with fail
  refine (HO.out 2 (by omega) (by omega) _ hC2).mono ?_
  rintro e w3 ⟨⟨b1, rfl⟩, hC3, hg3⟩
  have ho3 := ho2.apart hg3 (fun k h1 h2 => ho2.neg hgl (by rw [h1, h2]))
  replace hg3 := gb_trans hg2 hg3
  clear ho2 hC2 hg2
  cases b1
  · go_wp2_with fail
    refine (HO.out 14 (by omega) (by omega) _ hC3).mono ?_
    rintro e w4 ⟨⟨b2, rfl⟩, hC4, hg4⟩
    have ho4 := ho3.apart hg4 (fun k h1 h2 => ho3.neg hgl (by rw [h1, h2]))
    replace hg4 := gb_trans hg3 hg4
    cases b2
    · go_wp2_with fail
      go_ret
      exact ⟨n, by omega, ys, _, HYN.out, HYR.out, rfl, ho4, hC4, hg4⟩
    · go_wp2_with fail
      refine (HB.out 3 (by omega) (by omega) _ hC4).mono ?_
      rintro e w5 ⟨x, rfl, hx0, hx1, hC5, hg5⟩
      obtain ⟨m, rfl⟩ := Int.eq_ofNat_of_zero_le hx0
      replace hg5 := gb_trans hg4 hg5
      go_wp2_with fail
      rw [show (23 : Int) + (m : Int) = ((23 + m : Nat) : Int) by omega]
      refine (HL.out (23 + m) (by omega) _ hC5).mono ?_
      rintro e w6 ⟨zs, vz, hzn, hzr, rfl, ho6, hC6, hg6⟩
      go_wp2_with fail
      go_ret
      exact ⟨23 + m, by omega, zs, _, hzn, hzr, rfl, ho6.mono hg5.size, hC6, gb_trans hg5 hg6⟩
  · go_wp2_with fail
    refine (s_l08Sort _ ys _ ho3.rd (by have := HYN.out; omega)).mono ?_
    rintro e w4 ⟨v4, rfl, ho4, hb4⟩
    replace hC3 := hC3.below hb4
    have hg4 := gb_below hg3 hb4
    replace ho4 := ho4.mono (B' := w.heap.size) hg3.size
    obtain ⟨zs, hzs⟩ : ∃ zs, srt ys = zs := ⟨_, rfl⟩
    have HZN : Hid (zs.length = n) := by rw [Hid, ← hzs, srt_length, HYN.out]
    have HZR : Hid (∀ z ∈ zs, -3 ≤ z ∧ z ≤ 8) := fun z hz => by rw [← hzs, srt_mem] at hz; exact HYR.out z hz
    rw [hzs] at ho4
    clear hzs ho3 hg3 hb4
    obtain ⟨a4, m4, c4, rfl, HM4, _, _⟩ := ho4.rd.formN
    have hm4 : m4 = n := by have := HM4.out; have := HZN.out; omega
    subst hm4
    go_wp2_with fail
    go_loopw [17] (fun iv wr => ∃ (j : Nat) (qs : List Int), j ≤ m4 ∧ iv = .int .i64 j ∧ Hid (qs.length = m4) ∧ Hid (∀ z ∈ qs, -3 ≤ z ∧ z ≤ 8) ∧ Own wr 3 w.heap.size (.slice a4 m4 c4) (ints qs) ∧ Cur wr g vb xs ∧ w.grownBy wr (some g)) (fun iv _ => m4 - (intOf iv).toNat)
    case atStart => exact ⟨0, zs, Nat.zero_le _, rfl, HZN, HZR, ho4, hC3, hg4⟩
    case round =>
      clear ho4 hC3 hg4
      obtain ⟨j, qs, hj, rfl, HQ, HR, ho, hC, hg⟩ := hrel
      by_cases hjm : j < m4
      · have i1 : (j : Int) < (m4 : Int) := by omega
        go_wp2_with fail
        refine (HB.out 3 (by omega) (by omega) _ hC).mono ?_
        rintro e w5 ⟨x, rfl, hx0, hx1, hC5, hg5⟩
        have ho5 := ho.apart hg5 (fun k h1 h2 => ho.neg hgl (by rw [h1, h2]))
        replace hg5 := gb_trans hg hg5
        obtain ⟨X, rfl⟩ := Int.eq_ofNat_of_zero_le hx0
        obtain ⟨ad, y, rfl, hcy, hy⟩ := ho5.rd.int (k := j) (by have := HQ.out; omega)
        have hfj := ho5.frozen rfl j
        have FIN : Hid (∀ (r : Nat) (z : Int), r < m4 → qs[r]? = some z → ∀ wz, wz = (w5.setCell (ad.add j) (.int .i64 z)).setCell (ad.add r) (.int .i64 y) → ∃ ps : List Int, ps.length = m4 ∧ (∀ z ∈ ps, -3 ≤ z ∧ z ≤ 8) ∧ Own wz 3 w.heap.size (.slice (some ad) m4 c4) (ints ps) ∧ Cur wz g vb xs ∧ w.grownBy wz (some g)) := by
          intro r z hr hz wz hwz
          obtain ⟨h1, h2⟩ := ho5.seti rfl (k := j) (by have := HQ.out; omega) z
          obtain ⟨h3, h4⟩ := h1.seti rfl (k := r) (by rw [List.length_set]; have := HQ.out; omega) y
          have h5 := gb_trans h2 h4
          have h6 := gb_up hg5 h5 (fun b hb => by cases hb; exact (ho5.lt _ rfl).1)
          have h7 := hC5.turn h5 (fun e => ho5.neg hgl e) (HUP.out _ h6)
          subst hwz
          refine ⟨_, ?_, ?_, h3, h7, h6⟩
          · rw [List.length_set, List.length_set, HQ.out]
          · intro u hu
            rcases List.mem_or_eq_of_mem_set hu with hu | rfl
            · rcases List.mem_or_eq_of_mem_set hu with hu | rfl
              · exact HR.out u hu
              · exact HR.out u (List.mem_of_getElem? hz)
            · exact HR.out u (List.mem_of_getElem? hy.out)
        by_cases hmn : (m4 : Int) - 1 ≤ (j : Int) + (X : Int)
        · obtain ⟨r, hr⟩ : ∃ r : Nat, (m4 : Int) - 1 = (r : Int) := ⟨m4 - 1, by omega⟩
          obtain ⟨ad2, z, had, hcz, hz⟩ := ho5.rd.int (k := r) (by have := HQ.out; omega)
          obtain rfl : ad = ad2 := by injection had
          clear had
          have hfr := ho5.frozen rfl r
          have i2 : (r : Int) < (m4 : Int) := by omega
          have FI := FIN.out r z (by omega) hz.out _ rfl
          clear FIN
          have h1 := (ho5.seti rfl (k := j) (by have := HQ.out; omega) z).1
          obtain ⟨ad3, z3, had, hc3, _⟩ := h1.rd.int (k := r) (by rw [List.length_set]; have := HQ.out; omega)
          obtain rfl : ad = ad3 := by injection had
          clear had
          have hf3 := h1.frozen rfl r
          clear h1
          go_wp2_with fail
          go_roundw
          case rel => exact ⟨j + 1, FI.choose, by omega, by go_num, FI.choose_spec.1, FI.choose_spec.2.1, FI.choose_spec.2.2.1, FI.choose_spec.2.2.2.1, FI.choose_spec.2.2.2.2⟩
          case measure => simp [intOf]; omega
        · have i3 : (j : Int) + (X : Int) < (m4 : Int) := by omega
          obtain ⟨ad2, z, had, hcz, hz⟩ := ho5.rd.int (k := j + X) (by have := HQ.out; omega)
          obtain rfl : ad = ad2 := by injection had
          clear had
          have hfr := ho5.frozen rfl (j + X)
          have i4 : ((j : Int) + (X : Int)).toNat = j + X := by omega
          have i5 : (0 : Int) ≤ (j : Int) + (X : Int) := by omega
          have FI := FIN.out (j + X) z (by omega) hz.out _ rfl
          clear FIN
          have h1 := (ho5.seti rfl (k := j) (by have := HQ.out; omega) z).1
          obtain ⟨ad3, z3, had, hc3, _⟩ := h1.rd.int (k := (j + X)) (by rw [List.length_set]; have := HQ.out; omega)
          obtain rfl : ad = ad3 := by injection had
          clear had
          have hf3 := h1.frozen rfl (j + X)
          clear h1
          go_wp2_with fail
          go_roundw
          case rel => exact ⟨j + 1, FI.choose, by omega, by go_num, FI.choose_spec.1, FI.choose_spec.2.1, FI.choose_spec.2.2.1, FI.choose_spec.2.2.2.1, FI.choose_spec.2.2.2.2⟩
          case measure => simp [intOf]; omega
      · obtain rfl : m4 = j := by omega
        go_wp2_with fail
        refine (HO.out 14 (by omega) (by omega) _ hC).mono ?_
        rintro e w4 ⟨⟨b2, rfl⟩, hC4, hg4⟩
        have ho4 := ho.apart hg4 (fun k h1 h2 => ho.neg hgl (by rw [h1, h2]))
        replace hg4 := gb_trans hg hg4
        cases b2
        · go_wp2_with fail
          go_ret
          exact ⟨m4, by omega, qs, _, HQ.out, HR.out, rfl, ho4, hC4, hg4⟩
        · go_wp2_with fail
          refine (HB.out 3 (by omega) (by omega) _ hC4).mono ?_
          rintro e w5 ⟨x, rfl, hx0, hx1, hC5, hg5⟩
          obtain ⟨m, rfl⟩ := Int.eq_ofNat_of_zero_le hx0
          replace hg5 := gb_trans hg4 hg5
          go_wp2_with fail
          rw [show (23 : Int) + (m : Int) = ((23 + m : Nat) : Int) by omega]
          refine (HL.out (23 + m) (by omega) _ hC5).mono ?_
          rintro e w6 ⟨zs, vz, hzn, hzr, rfl, ho6, hC6, hg6⟩
          go_wp2_with fail
          go_ret
          exact ⟨23 + m, by omega, zs, _, hzn, hzr, rfl, ho6.mono hg5.size, hC6, gb_trans hg5 hg6⟩

set_option maxHeartbeats 1000000 in
theorem s_MakeNear (vb : Value) (xs : List Int) (hxb : ∀ x ∈ xs, 0 ≤ x ∧ x ≤ 255) (hl : xs.length ≤ 1048576) (n : Nat) (hn : n ≤ 1000) (w : World) (h : Rd w vb (bytesV xs)) :
    Calls Tryz.prog 5 #[vb, .int .i64 n] w fun e w' => ∃ (ys : List Int) (v : Value), ys.length ≤ 12 ∧ (∀ y ∈ ys, -3 ≤ y ∧ y ≤ 8) ∧ e = .returned v ∧ Rd w' v (ints ys) ∧ Below w.heap.size w w' := by
  have HN := Lib.hid (s_l31New vb xs hxb hl n hn w h)
  have HL := Lib.hid (fun (g : Nat) (wx : World) (hx : Cur wx g vb xs) => s_l25Draw g vb xs hxb wx hx)
  clear hxb
  go_enter Tryz.func5, Tryz.ntmps5
  go_wp2_with fail
  refine HN.out.mono ?_
  rintro e w1 ⟨g, rfl, hg, hC1, hb1⟩
  go_wp2_with fail
  refine (HL.out g _ hC1).mono ?_
  rintro e w2 ⟨m, hm, ys, vl, hyn, hyr, rfl, ho2, hC2, hg2⟩
  have hb2 := hb1.grown hg2 hb1.size (fun r hr => by cases hr; exact hg)
  obtain ⟨a, k, c, rfl, HK, hkc, hc⟩ := ho2.rd.formN
  have hkm : k = m := by have := HK.out; omega
  have HYN := Lib.hid hyn
  have HYR := Lib.hid hyr
  clear hyn hyr
  subst hkm
  by_cases h12 : (k : Int) ≤ 12
  · have h12' : k ≤ c := hkc
    go_wp2_with fail
    go_ret
    exact ⟨ys, _, by have := HYN.out; omega, HYR.out, rfl, ho2.rd, hb2⟩
  · have h12' : 12 ≤ k := by omega
    have hr := ho2.rd.take h12'
    go_wp2_with fail
    go_ret
    refine ⟨ys.take 12, _, by rw [List.length_take]; omega, fun y hy => HYR.out y (List.mem_of_mem_take hy), rfl, ?_, hb2⟩
    rw [ints_take] at hr
    exact hr

end Go.Proofs.YtggblfnajeikjaaGreatDoor

namespace Go.Proofs.YtggblfnajeikjaaGreatDoor
open Go.RowKit
set_option linter.unusedVariables false
set_option linter.unusedSimpArgs false

def netRow (n : Int) (xs : List Int) : Bool := match xs with | [x, y] => inB x 0 (n - 1) && inB y 0 (n - 1) && !decide (x = y) | _ => false
def netOk (n : Int) (xss : List (List Int)) : Bool := inB n 1 8 && decide (xss.length ≤ 60) && xss.all (netRow n)
theorem Dr.cell {w w' : World} (h : Dr w w') (p : Addr) : w'.cell? p = w.cell? p := by
  obtain ⟨n, rfl⟩ := h
  rfl
theorem netOk_no {n : Int} {xss : List (List Int)} {xs : List Int} (hx : xs ∈ xss) (h : netRow n xs = false) : netOk n xss = false := by
  unfold netOk
  rw [List.all_eq_false.2 ⟨xs, hx, by simp [h]⟩]
  simp

end Go.Proofs.YtggblfnajeikjaaGreatDoor

namespace Go.Proofs.YtggblfnajeikjaaGreatDoor
open Go.RowKit
set_option linter.unusedVariables false
set_option linter.unusedSimpArgs false

theorem Own2.appp {w w' : World} {EO E B T : Nat} {v v' : Value} {rows rows' : List Value} {xss' : List (List Int)} (hr : RowsOwn w E B T rows' xss') (ho : Own w EO B v rows) (hne : EO ≠ E) (hg : w.grownBy w' v.ownBlock) (ho' : Own w' EO B v' rows') (hT : T ≤ w'.heap.size) : Own2 w' EO E B w'.heap.size v' xss' :=
  ⟨rows', ho', fun k hk => (ho'.lt k hk).2, (hr.outer hg ho hne).mono (Nat.le_refl _) hT⟩
theorem Own2.apartp {w w' : World} {EO E B T : Nat} {v : Value} {xss : List (List Int)} {row : Option Nat} (h : Own2 w EO E B T v xss) (hg : w.grownBy w' row) (hne : ∀ g, row = some g → g < B ∨ T ≤ g) : Own2 w' EO E B T v xss := by
  cases row with
  | none => exact h.chg (C := T) (D := T) (Chg.row hg (fun k hk => by cases hk)) (.inl (Nat.le_refl _))
  | some g => exact h.chg (C := g) (D := g + 1) (Chg.row hg (fun k hk => by cases hk; omega)) (by have := hne g rfl; omega)
theorem Own2.litp {E B : Nat} (w : World) (EO : Nat) (hB : B ≤ w.heap.size) : Own2 (w.alloc (.cells #[] EO)) EO E B (w.alloc (.cells #[] EO)).heap.size (.slice (some ⟨w.heap.size, 0, none⟩) 0 0) [] := by
  refine ⟨[], ?_, fun k hk => ?_, RowsOwn.nil _ _ _ _⟩
  · simpa [ints] using Own.lit0 w EO hB
  · have : w.heap.size = k := Option.some.inj hk
    simp
    omega
theorem own_pair {W : World} {g E B : Nat} {a b : Int} (h : W.heap[g]? = some (.cells #[.int .i64 a, .int .i64 b] E (0, 0))) (hB : B ≤ g) : Own W E B (.slice (some ⟨g, 0, none⟩) 2 2) (ints [a, b]) :=
  .inr ⟨g, 0, 2, _, rfl, hB, h, by simp [ints], by omega, by simp, fun j u hu => by simpa [ints] using hu⟩
theorem box_ltp {w : World} {g F : Nat} {cur : Array Value} (hb : w.heap[g]? = some (.cells cur F (0, 0))) : g < w.heap.size := (Array.getElem?_eq_some_iff.1 hb).1
theorem netRow_mk {n a b : Int} (ha : 0 ≤ a ∧ a ≤ n - 1) (hb : 0 ≤ b ∧ b ≤ n - 1) (h : a ≠ b) : netRow n [a, b] = true := by
  simp [netRow, inB_iff, ha, hb, h]
theorem turn_ne {n a m : Int} (hn : 2 ≤ n) (hn8 : n ≤ 8) (ha : 0 ≤ a ∧ a ≤ n - 1) (hm : 0 ≤ m ∧ m ≤ n - 2) : 0 ≤ (a + 1 + m) % n ∧ (a + 1 + m) % n ≤ n - 1 ∧ a ≠ (a + 1 + m) % n := by
  have : n = 2 ∨ n = 3 ∨ n = 4 ∨ n = 5 ∨ n = 6 ∨ n = 7 ∨ n = 8 := by omega
  rcases this with rfl | rfl | rfl | rfl | rfl | rfl | rfl <;> omega

/-- The first wire is the lesser one, if that is asked. -/
def upRow (up : Bool) (r : List Int) : Prop := up = true → ∀ a b, r = [a, b] → a < b
/-- Comparators that are drawn. -/
def RetP (n most g : Nat) (up : Bool) (vb : Value) (xs : List Int) (w : World) (e : Ending) (w' : World) : Prop :=
  ∃ (xss : List (List Int)) (v : Value), xss.length ≤ most ∧ (∀ r ∈ xss, netRow n r = true ∧ upRow up r) ∧ e = .returned v ∧ Own2 w' 23 3 w.heap.size w'.heap.size v xss ∧ Cur w' g vb xs ∧ w.grownBy w' (some g)

set_option maxRecDepth 100000 in
set_option maxHeartbeats 4000000 in
theorem s_l02Pairs (g : Nat) (vb : Value) (xs : List Int) (hxb : ∀ x ∈ xs, 0 ≤ x ∧ x ≤ 255) (n most : Nat) (hn1 : 1 ≤ n) (hn8 : n ≤ 8) (hm : most ≤ 50) (up : Bool) (w : World) (hC : Cur w g vb xs) :
    Calls Tryz.prog 50 #[.pointer (some ⟨g, 0, none⟩), .int .i64 n, .int .i64 most, .bool up] w (RetP n most g up vb xs w) := by
  have HB := Lib.hid (fun (n : Int) (h1 : 1 ≤ n) (h2 : n ≤ 1000000000) (wx : World) (hx : Cur wx g vb xs) => s_l01Below g vb xs hxb n h1 h2 wx hx)
  clear hxb
  have hgl := hC.lt
  have HUP := Lib.hid (fun (w6 : World) (hg : w.grownBy w6 (some g)) => hC.up hg)
  go_enter Tryz.func50, Tryz.ntmps50
  go_wp2_with fail
  refine (HB.out ((most : Int) + 1) (by omega) (by omega) _ (hC.alloc _)).mono ?_
  rintro e w1 ⟨x, rfl, hx0, hx1, hC1, hg1⟩
  have ho1 := (Own2.litp (E := 3) (B := w.heap.size) w 23 (Nat.le_refl _)).apartp hg1 (fun q hq => by cases hq; exact .inl hgl)
  have hgg1 : w.grownBy w1 (some g) := gb_trans (gb_alloc (World.grownBy.refl _ _) _) hg1
  replace ho1 := ho1.mono (Nat.le_refl _) hg1.size
  clear hC
  go_wp2_with fail
  go_loopw [9, 10, 11, 12] (fun vl k _ _ wr => ∃ (q : Nat) (xss : List (List Int)), k = .int .i64 q ∧ q ≤ most ∧ Hid (xss.length + q ≤ most) ∧ Hid (∀ r ∈ xss, netRow n r = true ∧ upRow up r) ∧ Own2 wr 23 3 w.heap.size wr.heap.size vl xss ∧ Cur wr g vb xs ∧ w.grownBy wr (some g)) (fun _ k _ _ _ => (intOf k).toNat)
  case atStart => exact ⟨x.toNat, [], by congr 1; omega, by omega, (by rw [Hid, List.length_nil]; omega), (fun y hy => by cases hy), ho1, hC1, hgg1⟩
  case round =>
    clear ho1 hC1 hgg1 hg1
    obtain ⟨q, xss, rfl, hq6, HQ, HR, ho, hC, hg⟩ := hrel
    cases q with
    | zero =>
      go_wp2_with fail
      go_ret
      exact ⟨xss, _, by have := HQ.out; omega, HR.out, rfl, ho, hC, hg⟩
    | succ r =>
      have i1 : (0 : Int) < (r : Int) + 1 := by omega
      by_cases hn2 : 1 < n
      · have hsz := hg.size
        have i2 : (1 : Int) < (n : Int) := by omega
        go_wp2_with fail
        refine (HB.out (n : Int) (by omega) (by omega) _ hC).mono ?_
        rintro e w2 ⟨a, rfl, ha0, ha1, hC2, hg2⟩
        have ho2 := (ho.apartp hg2 (fun q hq => by cases hq; exact .inl hgl)).mono (Nat.le_refl _) hg2.size
        have hgg2 := gb_trans hg hg2
        clear ho hC
        go_wp2_with fail
        refine (HB.out ((n : Int) - 1) (by omega) (by omega) _ hC2).mono ?_
        rintro e w3 ⟨m, rfl, hm0, hm1, hC3, hg3⟩
        have ho3 := (ho2.apartp hg3 (fun q hq => by cases hq; exact .inl hgl)).mono (Nat.le_refl _) hg3.size
        have hgg3 := gb_trans hgg2 hg3
        clear ho2 hC2 hg2
        have HT := Lib.hid (turn_ne (n := (n : Int)) (a := a) (m := m) (by omega) (by omega) ⟨ha0, ha1⟩ ⟨hm0, by omega⟩)
        have n0 : ¬ (n : Int) = 0 := by omega
        go_upto_region 7 with (fail)
        obtain ⟨b, hb⟩ : ∃ b, (a + 1 + m) % (n : Int) = b := ⟨_, rfl⟩
        rw [hb] at HT
        simp only [hb]
        clear hb
        obtain ⟨hb0, hb1, hab⟩ := HT.out
        obtain ⟨rows, hov, hT, hrows⟩ := ho3
        have hrl : rows.length ≤ 50 := by have := hrows.1; have := HQ.out; omega
        obtain ⟨ao, co, rfl, _, _⟩ := hov.rd.form
        obtain ⟨mo, hmo⟩ : ∃ mo, rows.length = mo := ⟨_, rfl⟩
        have hov' := hov
        rw [hmo] at hov' hrl ⊢
        have HMO := Lib.hid hmo
        have HAB := Lib.hid hab
        clear hmo HT hab
        have hz3 := hgg3.size
        have step : ∀ (c d : Int), Hid (netRow n [c, d] = true ∧ upRow up [c, d]) → ∀ b6 c6 w6, Own w6 23 w.heap.size (.slice b6 (mo + 1) c6) (rows ++ [.slice (some ⟨w3.heap.size, 0, none⟩) 2 2]) → (w3.alloc (.cells #[.int .i64 c, .int .i64 d] 3)).grownBy w6 (Value.slice ao mo co).ownBlock →
            Hid (∀ r ∈ xss ++ [[c, d]], netRow n r = true ∧ upRow up r) ∧ Own2 w6 23 3 w.heap.size w6.heap.size (.slice b6 (mo + 1) c6) (xss ++ [[c, d]]) ∧ Cur w6 g vb xs ∧ w.grownBy w6 (some g) := fun c d hcd b6 c6 w6 ho6 hg6 => by
          have hgA := gb_alloc hgg3 (.cells #[.int .i64 c, .int .i64 d] 3)
          have hovA := hov'.alloc (.cells #[.int .i64 c, .int .i64 d] 3)
          have hrowA := own_pair (B := w.heap.size) (heap_alloc_new w3 (.cells #[.int .i64 c, .int .i64 d] 3)) hz3
          have hR1 := (hrows.alloc (.cells #[.int .i64 c, .int .i64 d] 3)).snoc (T' := w3.heap.size + 1) hrowA (fun g hg => by
            have : w3.heap.size = g := Option.some.inj hg
            omega) (by omega)
          have hz6 := hg6.size
          have ho7 := Own2.appp hR1 hovA (by decide) hg6 ho6 (by simp at hz6; omega)
          have hg7 := gb_up hgA hg6 (fun b hb => (hovA.lt b hb).1)
          have hC7 := (hC3.alloc (.cells #[.int .i64 c, .int .i64 d] 3)).turn hg6 (fun e => by have := (hovA.lt g e).1; omega) (HUP.out _ hg7)
          exact ⟨fun z hz => by
            rcases List.mem_append.1 hz with hz | hz
            · exact HR.out z hz
            · rw [List.mem_singleton] at hz
              subst hz
              exact hcd.out, ho7, hC7, hg7⟩
        have STEP := Lib.hid step
        have hovA := fun o => hov'.alloc o
        clear step hov
        by_cases hgt : up = true ∧ b < a
        · obtain ⟨rfl, hlt⟩ := hgt
          have i3 : decide (a > b) = true := by simp; omega
          have hNR : Hid (netRow n [b, a] = true ∧ upRow true [b, a]) := ⟨netRow_mk ⟨hb0, hb1⟩ ⟨ha0, ha1⟩ (fun e => HAB.out e.symm), fun _ x y e => by
            injection e with e1 e2
            injection e2 with e2 _
            omega⟩
          go_wp2_with (at_builtin; refine wpList_app1m rfl _ _ 28 rfl elII rfl (hovA _) (by show Value.slice (some ⟨w3.heap.size + 1, 0, none⟩) 1 1 = _; simp) rfl (by simp; omega) _ HMO.out (by omega) (by omega) ?_; intro b6 c6 w6 ho6 hg6 hat6)
          obtain ⟨q1, q2, q3, q4⟩ := STEP.out b a hNR _ _ _ ho6 hg6
          go_roundw
          case rel => exact ⟨r, xss ++ [[b, a]], by go_num, by omega, by have := HQ.out; rw [Hid, List.length_append, List.length_singleton]; omega, q1, q2, q3, q4⟩
          case measure => simp [intOf]
        · have hNR : Hid (netRow n [a, b] = true ∧ upRow up [a, b]) := ⟨netRow_mk ⟨ha0, ha1⟩ ⟨hb0, hb1⟩ HAB.out, fun hu x y e => by
            injection e with e1 e2
            injection e2 with e2 _
            have h1 := HAB.out
            have h2 : ¬ b < a := fun h => hgt ⟨hu, h⟩
            omega⟩
          have hcase : up = false ∨ (up = true ∧ decide (a > b) = false) := by
            cases up
            · exact .inl rfl
            · refine .inr ⟨rfl, ?_⟩
              simp only [true_and] at hgt
              simpa using hgt
          clear hgt
          rcases hcase with rfl | ⟨rfl, i3⟩
          all_goals
            go_wp2_with (at_builtin; refine wpList_app1m rfl _ _ 28 rfl elII rfl (hovA _) (by show Value.slice (some ⟨w3.heap.size + 1, 0, none⟩) 1 1 = _; simp) rfl (by simp; omega) _ HMO.out (by omega) (by omega) ?_; intro b6 c6 w6 ho6 hg6 hat6)
            obtain ⟨q1, q2, q3, q4⟩ := STEP.out a b hNR _ _ _ ho6 hg6
            go_roundw
            case rel => exact ⟨r, xss ++ [[a, b]], by go_num, by omega, by have := HQ.out; rw [Hid, List.length_append, List.length_singleton]; omega, q1, q2, q3, q4⟩
            case measure => simp [intOf]
      · have i2 : decide ((1 : Int) < (n : Int)) = false := by simp; omega
        have i3 : ¬ (1 : Int) < (n : Int) := by omega
        go_wp2_with fail
        go_ret
        exact ⟨xss, _, by have := HQ.out; omega, HR.out, rfl, ho, hC, hg⟩

end Go.Proofs.YtggblfnajeikjaaGreatDoor

namespace Go.Proofs.YtggblfnajeikjaaGreatDoor
open Go.RowKit
set_option linter.unusedVariables false
set_option linter.unusedSimpArgs false

theorem s_l07N (n : Int) (w : World) : Calls Tryz.prog 111 #[.int .i64 n] w fun e w' => e = .returned (.bool (inB n 1 8)) ∧ w = w' := by
  have H := Lib.hid (s_l01In n 1 8 w)
  generalize inB n 1 8 = b at H ⊢
  go_enter Tryz.func111, Tryz.ntmps111
  go_wp2_with (go_at_call 175; refine H.out.mono ?_; rintro e w' ⟨rfl, rfl⟩)
  go_ret
  exact ⟨rfl, rfl⟩

/-- A network, and true. -/
def RetNetB (n : Int) (xss : List (List Int)) (w : World) (e : Ending) (w' : World) : Prop :=
  ∃ (a : Option Addr) (m c : Nat), e = .returned (.tuple #[.agg #[.int .i64 n, .slice a m c], .bool true]) ∧ OwnP w' w.heap.size (.slice a m c) xss ∧ Below w.heap.size w w'

set_option maxRecDepth 100000 in
set_option maxHeartbeats 4000000 in
theorem s_InsertionNetwork (n : Nat) (h1 : 1 ≤ n) (h8 : n ≤ 8) (w : World) : Calls Tryz.prog 54 #[.int .i64 n] w (RetNetB n (insNK (n - 1)) w) := by
  have H := Lib.hid (fun (W : World) => (inB_iff.2 ⟨by omega, by omega⟩ : inB (n : Int) 1 8 = true) ▸ s_l07N n W)
  obtain ⟨B, hB⟩ : ∃ B, w.heap.size = B := ⟨_, rfl⟩
  obtain ⟨bx, hbx⟩ : ∃ bx, w.heap.size + 1 = bx := ⟨_, rfl⟩
  obtain ⟨w0, hw0⟩ : ∃ w0, (w.alloc (.cells #[.int .i64 0, .slice none 0 0] 30)).alloc (.cells #[.int .i64 n, .slice none 0 0] 30) = w0 := ⟨_, rfl⟩
  have hb0 : Below w.heap.size w w0 := by rw [← hw0]; exact ((Below.refl _ _).alloc (Nat.le_refl _) _).alloc (by simp) _
  have hA0 : w0.heap[B]? = some (.cells #[.int .i64 0, .slice none 0 0] 30 (0, 0)) := by rw [← hw0, ← hB]; exact (Below.heap_alloc _ _ _ (by simp)).trans (heap_alloc_new w _)
  have hX0 : w0.heap[bx]? = some (.cells #[.int .i64 n, .slice none 0 0] 30 (0, 0)) := by
    rw [← hw0, ← hbx]
    have := heap_alloc_new (w.alloc (.cells #[.int .i64 0, .slice none 0 0] 30)) (.cells #[.int .i64 n, .slice none 0 0] 30)
    simpa using this
  have hz0 : w0.heap.size = bx + 1 := by rw [← hw0, ← hbx]; simp
  have hBx : B < bx := by omega
  have HB := Lib.hid hB
  have HBX := Lib.hid hbx
  have HW0 := Lib.hid hw0
  have hoL : OwnP w0 (bx + 1) (.slice none 0 0) (insNK 0) := OwnP.nil _ _
  have hz0' : bx + 1 ≤ w0.heap.size := by omega
  clear hB hbx hw0 hz0
  go_enter Tryz.func54, Tryz.ntmps54
  go_upto_region 4 with (go_at_call 111; refine (H.out _).mono ?_; rintro e w' ⟨rfl, rfl⟩)
  rw [HW0.out, HBX.out, HB.out]
  go_wp2_with fail
  go_loopg [5] (n - 1) (fun gk iv wr => ∃ (k : Nat) (a : Option Addr) (m c : Nat), gk = n - 1 - k ∧ k ≤ n - 1 ∧ iv = .int .i64 ((k + 1 : Nat) : Int) ∧ Hid (wr.heap[bx]? = some (.cells #[.int .i64 n, .slice a m c] 30 (0, 0))) ∧ Hid (wr.heap[B]? = some (.cells #[.int .i64 0, .slice none 0 0] 30 (0, 0))) ∧ OwnP wr (bx + 1) (.slice a m c) (insNK k) ∧ bx + 1 ≤ wr.heap.size ∧ Below w.heap.size w wr)
  case atStart => exact ⟨0, none, 0, 0, rfl, Nat.zero_le _, rfl, hX0, hA0, hoL, hz0', hb0⟩
  case round =>
    clear hX0 hA0 hoL hz0' hb0
    obtain ⟨wo, rfl⟩ : ∃ wo : World, wo = wr := ⟨_, rfl⟩
    obtain ⟨k, a, m, c, hg, hk, rfl, HX, HA, ho, hz, hb⟩ := hrel
    by_cases hlt : k + 1 < n
    · have HKL := Lib.hid (insK_len k (by omega))
      have hoS : OwnP wo (bx + 1) (.slice a m c) (insNK k ++ insJ (k + 1) 0) := by simpa [insJ] using ho
      have i1 : (k : Int) + 1 < (n : Int) := by omega
      have HZ0 : Hid ((k : Int) = ((k + 1 : Nat) : Int) - 1 - ((0 : Nat) : Int)) := by rw [Hid]; omega
      clear ho
      go_wp2_with fail
      go_loopg [6] (k + 1) (fun gk zv wr => ∃ (t : Nat) (z : Int) (a : Option Addr) (m c : Nat), gk = k + 1 - t ∧ t ≤ k + 1 ∧ zv = .int .i64 z ∧ Hid (z = ((k + 1 : Nat) : Int) - 1 - (t : Int)) ∧ -1 ≤ z ∧ z ≤ 8 ∧ Hid (wr.heap[bx]? = some (.cells #[.int .i64 n, .slice a m c] 30 (0, 0))) ∧ Hid (wr.heap[B]? = some (.cells #[.int .i64 0, .slice none 0 0] 30 (0, 0))) ∧ OwnP wr (bx + 1) (.slice a m c) (insNK k ++ insJ (k + 1) t) ∧ bx + 1 ≤ wr.heap.size ∧ Below w.heap.size w wr)
      case atStart => exact ⟨0, _, a, m, c, rfl, Nat.zero_le _, rfl, HZ0, by omega, by omega, HX, HA, hoS, hz, hb⟩
      case round =>
        clear HX HA hoS hz hb HZ0
        obtain ⟨wi, rfl⟩ : ∃ wi : World, wi = wr := ⟨_, rfl⟩
        obtain ⟨t, z, a, m, c, hgt, ht, rfl, HZ, hz1, hz8, HX, HA, ho, hsz, hb⟩ := hrel
        by_cases hz0 : 0 ≤ z
        · have htk : t < k + 1 := by have := HZ.out; omega
          have d0 : decide (z ≥ 0) = true := by simpa using hz0
          have HS : Hid (insNK k ++ insJ (k + 1) (t + 1) = (insNK k ++ insJ (k + 1) t) ++ [[z, z + 1]]) := by rw [Hid, insJ_succ, HZ.out, List.append_assoc]
          have HLN : Hid ((insNK k ++ insJ (k + 1) t).length ≤ 120) := by rw [Hid, List.length_append, insJ_len]; have := HKL.out; omega
          obtain ⟨rows, hov, hrp⟩ := ho
          obtain ⟨m0, hm0⟩ : ∃ m0, rows.length = m0 := ⟨_, rfl⟩
          have hmm : m = m0 := by
            obtain ⟨p, q, e, _, _⟩ := hov.rd.form
            simp only [Value.slice.injEq] at e
            omega
          subst hmm
          have HM0 := Lib.hid hm0
          have hm120 : m ≤ 120 := by have := hrp.1; have := HLN.out; omega
          have c1 := box_cell HX.out 1
          have step : ∀ (b6 : Option Addr) (c6 : Nat) (w6 : World), Own w6 23 (bx + 1) (.slice b6 (m + 1) c6) (rows ++ [.slice (some ⟨wi.heap.size, 0, none⟩) 2 2]) → (wi.alloc (.cells #[.int .i64 z, .int .i64 (z + 1)] 3)).grownBy w6 (Value.slice a m c).ownBlock →
              w6.cell? ⟨bx, 1, none⟩ = some (.slice a m c) ∧ w6.frozen? ⟨bx, 1, none⟩ = false ∧ Hid ((w6.setCell ⟨bx, 1, none⟩ (.slice b6 (m + 1) c6)).heap[bx]? = some (.cells #[.int .i64 n, .slice b6 (m + 1) c6] 30 (0, 0))) ∧ Hid ((w6.setCell ⟨bx, 1, none⟩ (.slice b6 (m + 1) c6)).heap[B]? = some (.cells #[.int .i64 0, .slice none 0 0] 30 (0, 0))) ∧
              OwnP (w6.setCell ⟨bx, 1, none⟩ (.slice b6 (m + 1) c6)) (bx + 1) (.slice b6 (m + 1) c6) (insNK k ++ insJ (k + 1) (t + 1)) ∧ bx + 1 ≤ (w6.setCell ⟨bx, 1, none⟩ (.slice b6 (m + 1) c6)).heap.size ∧ Below w.heap.size w (w6.setCell ⟨bx, 1, none⟩ (.slice b6 (m + 1) c6)) := fun b6 c6 w6 ho6 hg6 => by
            have hb1 : Below wi.heap.size wi (wi.alloc (.cells #[.int .i64 z, .int .i64 (z + 1)] 3)) := (Below.refl _ _).alloc (Nat.le_refl _) _
            have hov1 := hov.below hb1
            have hne6 : ∀ q, q ≤ bx → some q ≠ (Value.slice a m c).ownBlock := fun q hq e => by have := (hov1.lt q e.symm).1; omega
            have hX6 : w6.heap[bx]? = _ := (hg6.block bx (by simp; omega) (hne6 bx (Nat.le_refl _))).trans ((Below.heap_alloc _ _ _ (by omega)).trans HX.out)
            have hA6 : w6.heap[B]? = _ := (hg6.block B (by simp; omega) (hne6 B (by omega))).trans ((Below.heap_alloc _ _ _ (by omega)).trans HA.out)
            have hz6 := hg6.size
            simp at hz6
            have hgs : w6.grownBy (w6.setCell ⟨bx, 1, none⟩ (.slice b6 (m + 1) c6)) (some bx) := ⟨rfl, rfl, rfl, by simp, fun q _ hq => heap_setCell_other w6 ⟨bx, 1, none⟩ q _ (fun e => hq (by rw [e]))⟩
            have hB6 : Below w.heap.size w w6 := (hb.trans (hb1.mono hb.size)).grown hg6 (by have := hb.size; simp; omega) (fun r hr => by have := (hov1.lt r hr).1; have := HBX.out; omega)
            refine ⟨box_cell hX6 1, frozen_of_row w6 bx 1 _ _ hX6, heap_setCell_same w6 bx 1 _ _ _ hX6, (heap_setCell_other w6 ⟨bx, 1, none⟩ _ _ (by show B ≠ bx; omega)).trans hA6, ?_, by simp; omega, hB6.setCell (by show w.heap.size ≤ bx; have := HBX.out; omega) _⟩
            rw [HS.out]
            exact (OwnP.push (hrp.below hb1) hov1 (heap_alloc_new wi _) hg6 ho6 hsz).under hgs (fun q hq => by cases hq; omega)
          have STEP := Lib.hid step
          have hovA := fun o => hov.alloc o
          have hB6 : bx + 1 ≤ (wi.alloc (.cells #[.int .i64 z, .int .i64 (z + 1)] 3)).heap.size := by simp; omega
          have HZ2 : Hid (z - 1 = ((k + 1 : Nat) : Int) - 1 - ((t + 1 : Nat) : Int)) := by have := HZ.out; rw [Hid]; omega
          clear step hov hrp HX HA hb HZ hm0
          go_wp2_with (at_builtin; refine wpList_app1m rfl _ _ 28 rfl elII rfl (hovA _) (by show Value.slice (some ⟨wi.heap.size + 1, 0, none⟩) 1 1 = _; simp) rfl hB6 _ HM0.out (by omega) (by omega) ?_; intro b6 c6 w6 ho6 hg6 hat6; obtain ⟨q1, q2, q3, q4, q5, q6, q7⟩ := STEP.out _ _ _ ho6 hg6)
          go_roundg (k + 1 - (t + 1))
          case measure => omega
          case rel => exact ⟨t + 1, z - 1, _, _, _, rfl, htk, rfl, HZ2, by omega, by omega, q3, q4, q5, q6, q7⟩
        · obtain rfl : t = k + 1 := by have := HZ.out; omega
          have d0 : decide (z ≥ 0) = false := by simpa using hz0
          go_wp2_with fail
          go_roundg (n - 1 - (k + 1))
          case measure => omega
          case rel => exact ⟨k + 1, a, m, c, rfl, by omega, by go_num, HX, HA, ho, hsz, hb⟩
    · obtain rfl : k = n - 1 := by omega
      have i1 : ¬ (((n - 1 : Nat) : Int) + 1 < (n : Int)) := by omega
      have c0 := box_cell HX.out 0
      have c1 := box_cell HX.out 1
      have f0 := frozen_of_row wo B 0 _ _ HA.out
      have f1 := frozen_of_row wo B 1 _ _ HA.out
      have a0 := box_cell HA.out 0
      have a1 := box_cell HA.out 1
      have e2 := box2 (x := .int .i64 n) (y := .slice a m c) HA.out
      have q0 := box_cell e2 0
      have q1 := box_cell e2 1
      have hgz : wo.grownBy ((wo.setCell ⟨B, 0, none⟩ (.int .i64 n)).setCell ⟨B, 1, none⟩ (.slice a m c)) (some B) :=
        ⟨rfl, rfl, rfl, by simp, fun i _ hi => (heap_setCell_other _ ⟨B, 1, none⟩ i _ (fun e => hi (by rw [e]))).trans (heap_setCell_other wo ⟨B, 0, none⟩ i _ (fun e => hi (by rw [e])))⟩
      have hoz := ho.under hgz (fun q hq => by cases hq; omega)
      have hBB := HB.out
      clear e2
      go_wp2_with fail
      refine bodyPost_ret (v := .tuple #[.agg #[.int .i64 n, .slice a m c], .bool true]) (by simp [results, Tryz.results54, go_sem, q0, q1]) rfl ⟨_, _, _, rfl, hoz.mono (by omega), hb.grown hgz hb.size (fun r hr => by cases hr; omega)⟩

theorem Cur.low {w w' : World} {g B : Nat} {vb : Value} {xs : List Int} (hC : Cur w g vb xs) (hb : Below B w w') (hg : g < B) (hrd : Rd w' vb (bytesV xs)) : Cur w' g vb xs := by
  obtain ⟨⟨i, hh, hi, c0, c1, c2, f1, f2⟩, _, hn⟩ := hC
  have hb := hb.block g hg
  exact ⟨⟨i, hh, hi, (World.cell?_of_block (w := w) (a := ⟨g, 0, none⟩) hb).trans c0, (World.cell?_of_block (w := w) (a := ⟨g, 1, none⟩) hb).trans c1, (World.cell?_of_block (w := w) (a := ⟨g, 2, none⟩) hb).trans c2, (World.frozen?_of_block (w := w) (a := ⟨g, 1, none⟩) hb).trans f1, (World.frozen?_of_block (w := w) (a := ⟨g, 2, none⟩) hb).trans f2⟩, hrd, hn⟩

set_option maxRecDepth 100000 in
set_option maxHeartbeats 8000000 in
theorem s_MakeSorting (vb : Value) (xs : List Int) (hxb : ∀ x ∈ xs, 0 ≤ x ∧ x ≤ 255) (hl : xs.length ≤ 1048576) (n : Nat) (hn : n ≤ 1000) (w : World) (h : Rd w vb (bytesV xs)) :
    Calls Tryz.prog 8 #[vb, .int .i64 n, .int .i64 4] w fun e w' => ∃ (N : Nat) (P Q : List (List Int)) (b : Bool) (v : Value), 1 ≤ N ∧ N ≤ 4 ∧ P.length ≤ 4 ∧ Q.length ≤ 3 ∧ (∀ r ∈ P ++ Q, netRow N r = true ∧ upRow true r) ∧ e = .returned (.agg #[.int .i64 N, v]) ∧ Rd2 w' v ((if b then insNK (N - 1) else P ++ batS 8 (wiresL 0 N)) ++ Q) ∧ Below w.heap.size w w' := by
  have HN := Lib.hid (fun (wx : World) (hx : Rd wx vb (bytesV xs)) => s_l31New vb xs hxb hl n hn wx hx)
  have HB := Lib.hid (fun (g : Nat) (n : Int) (h1 : 1 ≤ n) (h2 : n ≤ 1000000000) (wx : World) (hx : Cur wx g vb xs) => s_l01Below g vb xs hxb n h1 h2 wx hx)
  have HO := Lib.hid (fun (g : Nat) (n : Int) (h1 : 1 ≤ n) (h2 : n ≤ 1000000000) (wx : World) (hx : Cur wx g vb xs) => s_l01Once g vb xs hxb n h1 h2 wx hx)
  have HP := Lib.hid (fun (g n m : Nat) (h1 : 1 ≤ n) (h2 : n ≤ 8) (h3 : m ≤ 50) (wx : World) (hx : Cur wx g vb xs) => s_l02Pairs g vb xs hxb n m h1 h2 h3 true wx hx)
  clear hxb
  obtain ⟨B, hB⟩ : ∃ B, w.heap.size = B := ⟨_, rfl⟩
  have HBW := Lib.hid hB
  have hbA : Below w.heap.size w (w.alloc (.cells #[.int .i64 0, .slice none 0 0] 30)) := (Below.refl _ _).alloc (Nat.le_refl _) _
  go_enter Tryz.func8, Tryz.ntmps8
  go_wp2_with fail
  refine (HN.out _ (h.alloc _)).mono ?_
  rintro e w1 ⟨g, rfl, hg, hC1, hb1⟩
  have hgB : B < g := by simp at hg; omega
  have hA1 := (hb1.block w.heap.size (by simp)).trans (heap_alloc_new w (.cells #[.int .i64 0, .slice none 0 0] 30))
  have hbb1 := hbA.trans (hb1.mono hbA.size)
  rw [hB] at hA1
  go_wp2_with fail
  refine (HB.out g 4 (by omega) (by omega) _ hC1).mono ?_
  rintro e w2 ⟨x, rfl, hx0, hx1, hC2, hg2⟩
  obtain ⟨N, hNx⟩ : ∃ N : Nat, 1 + x = N := ⟨(1 + x).toNat, by omega⟩
  have hN : 1 ≤ N ∧ N ≤ 4 := by omega
  have HNX := Lib.hid hNx
  have hA2 := (hg2.block B (box_lt hA1) (fun e => by injection e; omega)).trans hA1
  have hbb2 := hbb1.grown hg2 hbb1.size (fun r hr => by cases hr; omega)
  clear hbb1 hA1 hC1 hb1 hg2 hbA hg
  go_wp2_with fail
  clear hNx hx0 hx1
  refine (HP.out g N 4 hN.1 (by omega) (by omega) _ hC2).mono ?_
  rintro e w3 ⟨P, v3, hP4, hPr, rfl, ho3, hC3, hg3⟩
  have hA3 := (hg3.block B (box_lt hA2) (fun e => by injection e; omega)).trans hA2
  have hbb3 := hbb2.grown hg3 hbb2.size (fun r hr => by cases hr; omega)
  have hgl2 := hC2.lt
  have o3 := OwnP.of_own2 ho3
  obtain ⟨a3, m3, c3, rfl, HM3, _, _⟩ := o3.formN
  have HPR := Lib.hid hPr
  have hm3 : m3 ≤ 4 := by have := HM3.out; omega
  have hzg : g < w3.heap.size := hC3.lt
  have hz23 : w2.heap.size ≤ w3.heap.size := hg3.size
  obtain ⟨bx, hbx⟩ : ∃ bx, w3.heap.size = bx := ⟨_, rfl⟩
  obtain ⟨w4, hw4⟩ : ∃ w4, w3.alloc (.cells #[.int .i64 N, .slice a3 m3 c3] 30) = w4 := ⟨_, rfl⟩
  have hX4 : w4.heap[bx]? = some (.cells #[.int .i64 N, .slice a3 m3 c3] 30 (0, 0)) := by rw [← hw4, ← hbx]; exact heap_alloc_new w3 _
  have hbl4 : Below w3.heap.size w3 w4 := by rw [← hw4]; exact (Below.refl _ _).alloc (Nat.le_refl _) _
  have hz4 : w4.heap.size = bx + 1 := by rw [← hw4, ← hbx]; simp
  have hC4 := hC3.below hbl4
  have o4 := o3.below hbl4
  have hA4 := (hbl4.block B (box_lt hA3)).trans hA3
  have hbb4 := hbb3.trans (hbl4.mono hbb3.size)
  have HW4 := Lib.hid hw4
  have HBX := Lib.hid hbx
  clear hPr ho3 hg3 hA2 hA3 hbb2 hbb3 hC2 hC3 o3 hbl4
  go_upto_region 4 with (fail)
  have hz24 : w2.heap.size ≤ w4.heap.size := by omega
  have hz2x : w2.heap.size ≤ bx := by omega
  clear hw4 hbx
  have HWI : Hid (∀ W : World, Calls Tryz.prog 52 #[.int .i64 0, .int .i64 N] W (RetOwn 3 (ints (wiresL 0 N)) W)) := fun W => s_l08Wires 0 N (by omega) (by omega) W
  have HBT := Lib.hid (fun (v : Value) (W : World) (h : Rd W v (ints (wiresL 0 N))) => s_l09Batcher 8 v _ W h (by rw [wiresL_len]; omega) (by omega))
  have HBL : Hid ((batS 8 (wiresL 0 N)).length ≤ 100000000000) := batS_le (by rw [wiresL_len]; omega) (by omega)
  obtain ⟨T, hT⟩ : ∃ T, batS 8 (wiresL 0 N) = T := ⟨_, rfl⟩
  have HTT := Lib.hid hT
  rw [hT] at HBT HBL
  clear hT
  have HK : Hid (∀ W : World, Below w4.heap.size w4 W → W.cell? ⟨bx, 1, none⟩ = some (.slice a3 m3 c3) ∧ W.frozen? ⟨bx, 1, none⟩ = false ∧ OwnP W w2.heap.size (.slice a3 m3 c3) P ∧ Hid (W.heap[bx]? = some (.cells #[.int .i64 N, .slice a3 m3 c3] 30 (0, 0)))) := fun W hW => by
    have hX := (hW.block bx (by omega)).trans hX4
    exact ⟨box_cell hX 1, frozen_of_row W bx 1 _ _ hX, o4.below hW, hX⟩
  obtain ⟨k1, k2, _, _⟩ := HK.out _ (Below.refl _ _)
  have hb44 : Below w4.heap.size w4 w4 := Below.refl _ _
  go_cut [] (fun wx => ∃ (a5 : Option Addr) (m5 c5 : Nat), wx.heap[bx]? = some (.cells #[.int .i64 N, .slice a5 m5 c5] 30 (0, 0)) ∧ OwnP wx w2.heap.size (.slice a5 m5 c5) (P ++ T) ∧ Below w2.heap.size w4 wx)
  case first =>
    go_region_law (first
      | (go_simp; go_at_call 52; (with_reducible refine (HWI.out _).mono ?_); rintro e w5 ⟨v5, rfl, o5, b5⟩; have g5 : Below w4.heap.size w4 w5 := ⟨b5.os, b5.tape, b5.output, b5.size, b5.block⟩; obtain ⟨k5, _, _, _⟩ := HK.out _ g5)
      | (go_simp; go_at_call 51; (with_reducible refine (HBT.out _ _ (by first | exact o5.rd | exact o5.rd.drew)).mono ?_); rintro e w6 ⟨v6, rfl, o6, b6⟩; have g6 : Below w4.heap.size w4 w6 := Below.trans g5 (Below.mono ⟨b6.os, b6.tape, b6.output, b6.size, b6.block⟩ (Below.size g5)); obtain ⟨k6, _, o6', X6⟩ := HK.out _ g6; obtain ⟨a6, m6, c6, rfl, _, _, _⟩ := o6.formN)
      | (obtain ⟨r3, ov3, rp3⟩ := o6'; obtain ⟨r6, ov6, rp6⟩ := o6; have hx6 := rp6.1; have hx3 := rp3.1; have hX9 := HBL.out; refine step_app (by rfl) _ _ _ (by rfl) elII (by rfl) (by exact ov3) (by rfl) (by exact ov6.rd) rp6.one (by have := Below.size g6; exact Nat.le_trans hz24 this) (by omega) (by omega) ?_; clear hx6 hx3 hX9; intro b8 c8 w8 ho8 hg8 hat8; have X8 := Lib.hid (World.grownBy.block hg8 bx (box_lt X6.out) (fun e => own_ne_box ov3 X6.out (by decide) e.symm) |>.trans X6.out); have k8 := box_cell X8.out 1; have f8 := frozen_of_row w8 bx 1 _ _ X8.out))
    all_goals go_wp2_with (fail)
    all_goals
      go_meet
      exact ⟨_, _, _, heap_setCell_same w8 bx 1 _ _ _ X8.out, (OwnP.cat rp3 ov3 rp6 (Nat.le_trans hz24 (Below.size g5)) hg8 ho8).setBox X8.out (by decide) (by decide) _, (Below.grown (Below.mono g6 hz24) hg8 (Nat.le_trans hz24 (Below.size g6)) (fun r hr => (ov3.lt r hr).1)).setCell (by show w2.heap.size ≤ bx; exact hz2x) _⟩
  case rest =>
  obtain ⟨a5, m5, c5, hX5, o5, g5⟩ := hcut
  have hwB : w.heap.size ≤ w2.heap.size := by omega
  have hbb5 : Below w.heap.size w wc := hbb4.trans (g5.mono hwB)
  have hC5 : Cur wc g vb xs := hC4.low g5 hgl2 (h.below hbb5)
  have hA5 := (g5.block B (by omega)).trans hA4
  clear hX4 hA4 hC4 o4 hbb4 HK HWI HBT k1 k2 hb44
  go_upto_if 32 with (go_at_call 53; refine (HO.out g 2 (by omega) (by omega) _ hC5).mono ?_; rintro e w6 ⟨⟨b, rfl⟩, hC6, hg6⟩)
  have hX6 := (hg6.block bx (box_lt hX5) (fun e => by injection e; omega)).trans hX5
  have hA6 := (hg6.block B (box_lt hA5) (fun e => by injection e; omega)).trans hA5
  have o6 := o5.under hg6 (fun k hk => by cases hk; omega)
  have hbb6 := hbb5.grown hg6 hbb5.size (fun r hr => by cases hr; omega)
  have hz6 : w2.heap.size ≤ w6.heap.size := Nat.le_trans hz24 (Nat.le_trans g5.size hg6.size)
  have HIN := Lib.hid (fun (W : World) => s_InsertionNetwork N hN.1 (by omega) W)
  obtain ⟨Y, hY⟩ : ∃ Y, (if b then insNK (N - 1) else P ++ T) = Y := ⟨_, rfl⟩
  have HYE := Lib.hid hY
  have hzbx : bx < w6.heap.size := box_lt hX6
  clear hC5 hg6 hX5 hA5 o5 hbb5 g5 hY
  go_cut [] (fun wx => ∃ (a7 : Option Addr) (m7 c7 : Nat), wx.heap[bx]? = some (.cells #[.int .i64 N, .slice a7 m7 c7] 30 (0, 0)) ∧ OwnP wx w2.heap.size (.slice a7 m7 c7) Y ∧ wx.heap[B]? = some (.cells #[.int .i64 0, .slice none 0 0] 30 (0, 0)) ∧ Cur wx g vb xs ∧ Below w.heap.size w wx ∧ w2.heap.size ≤ wx.heap.size)
  case first =>
    cases b
    · have hY : P ++ T = Y := HYE.out
      go_wp2_with fail
      go_meet
      exact ⟨_, _, _, hX6, by rw [← hY]; exact o6, hA6, hC6, hbb6, hz6⟩
    · have hY : insNK (N - 1) = Y := HYE.out
      go_wp2_with fail
      refine (HIN.out w6).mono ?_
      rintro e w7 ⟨a7, m7, c7, rfl, o7, b7⟩
      have hX7 := (b7.block bx hzbx).trans hX6
      have hA7 := (b7.block B (box_lt hA6)).trans hA6
      have hC7 := hC6.below b7
      have hbb7 := hbb6.trans (b7.mono hbb6.size)
      have hb8 : Below w7.heap.size w7 (w7.alloc (.cells #[.int .i64 N, .slice a7 m7 c7] 30)) := (Below.refl _ _).alloc (Nat.le_refl _) _
      have hX8 := (hb8.block bx (box_lt hX7)).trans hX7
      have hA8 := (hb8.block B (box_lt hA7)).trans hA7
      have hC8 := hC7.below hb8
      have hbb8 := hbb7.trans (hb8.mono hbb7.size)
      have o8 := o7.below hb8
      have hY8 := heap_alloc_new w7 (.cells #[.int .i64 N, .slice a7 m7 c7] 30 (0, 0))
      have hz78 : bx < w7.heap.size := box_lt hX7
      obtain ⟨w8, hw8⟩ : ∃ w8, w7.alloc (.cells #[.int .i64 N, .slice a7 m7 c7] 30) = w8 := ⟨_, rfl⟩
      obtain ⟨b8, hb8'⟩ : ∃ b8, w7.heap.size = b8 := ⟨_, rfl⟩
      rw [hw8] at hX8 hA8 hC8 hbb8 o8 hY8
      rw [hb8'] at hY8 hz78
      have hb8n : b8 ≠ bx := by omega
      have c0 := box_cell hX8 0
      have c1 := box_cell hX8 1
      have f0 := frozen_of_row w8 bx 0 _ _ hX8
      have f1 := frozen_of_row w8 bx 1 _ _ hX8
      have e0 := box_cell hY8 0
      have e1 := box_cell hY8 1
      clear hX6 hA6 hC6 hbb6 o6 hX7 hA7 hC7 hbb7 o7 hb8
      have hgs : w8.grownBy ((w8.setCell ⟨bx, 0, none⟩ (.int .i64 N)).setCell ⟨bx, 1, none⟩ (.slice a7 m7 c7)) (some bx) :=
        ⟨rfl, rfl, rfl, by simp, fun i _ hi => (heap_setCell_other _ ⟨bx, 1, none⟩ i _ (fun e => hi (by rw [e]))).trans (heap_setCell_other w8 ⟨bx, 0, none⟩ i _ (fun e => hi (by rw [e])))⟩
      have hX9 := box2 (x := .int .i64 N) (y := .slice a7 m7 c7) hX8
      have o9 := ((o8.mono hz6).setBox (o := 0) hX8 (by decide) (by decide) (.int .i64 N)).setBox (o := 1) (heap_setCell_same w8 bx 0 _ _ _ hX8) (by decide) (by decide) (.slice a7 m7 c7)
      have hbb9 := hbb8.grown hgs hbb8.size (fun r hr => by cases hr; omega)
      have hA9 := (hgs.block B (box_lt hA8) (fun e => by injection e; omega)).trans hA8
      have hC9 := hC8.turn hgs (fun e => by injection e; omega) (h.below hbb9)
      have hz9 : w2.heap.size ≤ ((w8.setCell ⟨bx, 0, none⟩ (.int .i64 N)).setCell ⟨bx, 1, none⟩ (.slice a7 m7 c7)).heap.size := by have := box_lt hX8; simp; omega
      clear hX8 hA8 hC8 hbb8 o8 hgs
      go_wp2_with fail
      go_meet
      exact ⟨_, _, _, hX9, by rw [← hY]; exact o9, hA9, hC9, hbb9, hz9⟩
  case rest =>
  obtain ⟨a7, m7, c7, hX7, o7, hA7, hC7, hbb7, hz7⟩ := hcut
  clear hX6 hA6 hC6 hbb6 o6 HIN
  obtain ⟨a7', m7', c7', e7, HM7, _, _⟩ := o7.formN
  simp only [Value.slice.injEq] at e7
  have hm7 : m7 ≤ 200000000000 := by
    have h1 := HM7.out
    have h2 := HYE.out
    have h3 := HBL.out
    have h4 := insK_len (N - 1) (by omega)
    have h5 : Y.length ≤ 200000000000 := by
      rw [← h2]
      cases b
      · show (P ++ T).length ≤ _
        rw [List.length_append]; omega
      · show (insNK (N - 1)).length ≤ _
        omega
    omega
  clear e7 HM7
  go_upto_if 40 with (go_at_call 53; refine (HO.out g 3 (by omega) (by omega) _ hC7).mono ?_; rintro e w8 ⟨⟨b2, rfl⟩, hC8, hg8⟩)
  have hX8 := (hg8.block bx (box_lt hX7) (fun e => by injection e; omega)).trans hX7
  have hA8 := (hg8.block B (box_lt hA7) (fun e => by injection e; omega)).trans hA7
  have o8 := o7.under hg8 (fun k hk => by cases hk; omega)
  have hbb8 := hbb7.grown hg8 hbb7.size (fun r hr => by cases hr; omega)
  have hz8 : w2.heap.size ≤ w8.heap.size := Nat.le_trans hz7 hg8.size
  clear hX7 hA7 o7 hbb7 hC7 hg8
  go_cut [] (fun wx => ∃ (Q : List (List Int)) (a9 : Option Addr) (m9 c9 : Nat), Hid (Q.length ≤ 3) ∧ Hid (∀ r ∈ Q, netRow N r = true ∧ upRow true r) ∧ wx.heap[bx]? = some (.cells #[.int .i64 N, .slice a9 m9 c9] 30 (0, 0)) ∧ OwnP wx w2.heap.size (.slice a9 m9 c9) (Y ++ Q) ∧ wx.heap[B]? = some (.cells #[.int .i64 0, .slice none 0 0] 30 (0, 0)) ∧ Below w.heap.size w wx)
  case first =>
    cases b2
    · go_wp2_with fail
      go_meet
      exact ⟨[], _, _, _, Nat.zero_le _, (fun r hr => by cases hr), hX8, by simpa using o8, hA8, hbb8⟩
    · have HP3 : Hid (∀ W : World, Cur W g vb xs → Calls Tryz.prog 50 #[.pointer (some ⟨g, 0, none⟩), .int .i64 N, .int .i64 3, .bool true] W (RetP N 3 g true vb xs W)) := fun W hW => HP.out g N 3 hN.1 (by omega) (by omega) W hW
      have HK : Hid (∀ W : World, w8.grownBy W (some g) → W.cell? ⟨bx, 1, none⟩ = some (.slice a7 m7 c7) ∧ W.frozen? ⟨bx, 1, none⟩ = false ∧ OwnP W w2.heap.size (.slice a7 m7 c7) Y ∧ Hid (W.heap[bx]? = some (.cells #[.int .i64 N, .slice a7 m7 c7] 30 (0, 0)))) := fun W hW => by
        have hX := (hW.block bx (box_lt hX8) (fun e => by injection e; omega)).trans hX8
        exact ⟨box_cell hX 1, frozen_of_row W bx 1 _ _ hX, o8.under hW (fun k hk => by cases hk; omega), hX⟩
      obtain ⟨k1, k2, _, _⟩ := HK.out _ (World.grownBy.refl w8 _)
      have hC8d : Cur w8.drew g vb xs := ⟨hC8.ex, hC8.rd, hC8.ne⟩
      go_wp2_with fail
      go_region_law (first
        | (go_simp; go_at_call 50; (with_reducible refine (HP3.out _ (by first | exact hC8d | exact hC8)).mono ?_); rintro e w9 ⟨Q, v9, hQ3, hQr, rfl, o9, hC9, hg9⟩; have gg9 : w8.grownBy w9 (some g) := ⟨hg9.os, hg9.tape, hg9.output, hg9.size, hg9.block⟩; obtain ⟨k9, _, o9', X9⟩ := HK.out _ gg9; obtain ⟨a9, m9, c9, rfl, _, _, _⟩ := (OwnP.of_own2 o9).formN)
        | (obtain ⟨r3, ov3, rp3⟩ := o9'; obtain ⟨r6, ov6, rp6⟩ := OwnP.of_own2 o9; have hx6 := rp6.1; have hx3 := rp3.1; obtain ⟨p3, q3, e3, _, _⟩ := ov3.rd.form; simp only [Value.slice.injEq] at e3; have e33 := e3.2.1; clear e3; refine step_app (by rfl) _ _ _ (by rfl) elII (by rfl) (by exact ov3) (by rfl) (by exact ov6.rd) rp6.one (Nat.le_trans hz8 (World.grownBy.size gg9)) (by omega) (by omega) ?_; clear hx6 hx3 e33; intro b10 c10 w10 ho10 hg10 hat10; have X10 := Lib.hid (World.grownBy.block hg10 bx (box_lt X9.out) (fun e => own_ne_box ov3 X9.out (by decide) e.symm) |>.trans X9.out); have k10 := box_cell X10.out 1; have f10 := frozen_of_row w10 bx 1 _ _ X10.out))
      all_goals go_wp2_with (fail)
      all_goals
        have hbb9 := hbb8.grown gg9 hbb8.size (fun r hr => by cases hr; omega)
        have hA10 : w10.heap[B]? = _ := (hg10.block B (Nat.lt_of_lt_of_le (box_lt hA8) gg9.size) (fun e => by have := (ov3.lt B e.symm).1; omega)).trans ((gg9.block B (box_lt hA8) (fun e => by injection e; omega)).trans hA8)
        have hbb10 := hbb9.grown hg10 hbb9.size (fun r hr => by have := (ov3.lt r hr).1; omega)
        go_meet
        exact ⟨Q, _, _, _, hQ3, hQr, heap_setCell_same w10 bx 1 _ _ _ X10.out, (OwnP.cat rp3 ov3 rp6 hz8 hg10 ho10).setBox X10.out (by decide) (by decide) _, (heap_setCell_other w10 ⟨bx, 1, none⟩ B _ (by show B ≠ bx; omega)).trans hA10, hbb10.setCell (by show w.heap.size ≤ bx; omega) _⟩
  case rest =>
  obtain ⟨Q, a9, m9, c9, HQ3, HQR, hX9, o9, hA9, hbb9⟩ := hcut
  clear hX8 hA8 o8 hbb8 hC8
  have c0 := box_cell hX9 0
  have c1 := box_cell hX9 1
  have f0 := frozen_of_row wc B 0 _ _ hA9
  have f1 := frozen_of_row wc B 1 _ _ hA9
  have a0 := box_cell hA9 0
  have a1 := box_cell hA9 1
  have e2 := box2 (x := .int .i64 N) (y := .slice a9 m9 c9) hA9
  have q0 := box_cell e2 0
  have q1 := box_cell e2 1
  have hgz : wc.grownBy ((wc.setCell ⟨B, 0, none⟩ (.int .i64 N)).setCell ⟨B, 1, none⟩ (.slice a9 m9 c9)) (some B) :=
    ⟨rfl, rfl, rfl, by simp, fun i _ hi => (heap_setCell_other _ ⟨B, 1, none⟩ i _ (fun e => hi (by rw [e]))).trans (heap_setCell_other wc ⟨B, 0, none⟩ i _ (fun e => hi (by rw [e])))⟩
  have hBw2 : B < w2.heap.size := by omega
  have hoz := (o9.under hgz (fun q hq => by cases hq; exact hBw2)).rd2
  have hbbz := hbb9.grown hgz hbb9.size (fun r hr => by cases hr; omega)
  rw [← HYE.out] at hoz
  have HOZ := Lib.hid hoz
  clear e2 hoz
  have HPQ : Hid (∀ r ∈ P ++ Q, netRow N r = true ∧ upRow true r) := fun r hr => by
    rcases List.mem_append.1 hr with hr | hr
    · exact HPR.out r hr
    · exact HQR.out r hr
  go_wp2_with fail
  exact bodyPost_ret (v := .agg #[.int .i64 N, .slice a9 m9 c9]) (by simp [results, Tryz.results8, go_sem, q0, q1]) rfl ⟨N, P, Q, b, _, hN.1, hN.2, hP4, HQ3.out, HPQ.out, rfl, by rw [HTT.out]; exact HOZ.out, hbbz⟩

end Go.Proofs.YtggblfnajeikjaaGreatDoor

namespace Go.Proofs.YtggblfnajeikjaaGreatDoor
open Go.RowKit
set_option linter.unusedVariables false
set_option linter.unusedSimpArgs false

def bitsB (m : Nat) : List Bool := (List.range 8).map fun i => m.testBit i
def onesN (m : Nat) : Nat := (bitsB m).countP fun b => b

set_option maxHeartbeats 1000000 in
theorem f_OnesCount64 (m : Nat) (hm : m < 256) (w : World) : Calls Tryz.prog 182 #[.int .u64 (m : Int)] w fun e w' => e = .returned (.int .i64 (onesN m : Nat)) ∧ w = w' := by
  go_enter Tryz.func182, Tryz.ntmps182
  go_wp2
  go_ret
  refine ⟨congrArg (fun z => Ending.returned (Value.int .i64 z)) ?_, rfl⟩
  revert m
  decide +kernel

theorem f_OnesCount (m : Nat) (hm : m < 256) (w : World) : Calls Tryz.prog 118 #[.int .u64 (m : Int)] w fun e w' => e = .returned (.int .i64 (onesN m : Nat)) ∧ w = w' := by
  have HK := Lib.hid (f_OnesCount64 m hm w)
  go_enter Tryz.func118, Tryz.ntmps118
  go_wp2_with (go_at_call 182; refine HK.out.mono ?_; rintro e w' ⟨rfl, rfl⟩)
  go_ret
  exact ⟨rfl, rfl⟩

theorem i_ones (m : Nat) (hm : m < 256) (w : World) : Calls Tryz.prog 65 #[.int .i64 (m : Int)] w fun e w' => e = .returned (.int .i64 (onesN m : Nat)) ∧ w = w' := by
  have HK := Lib.hid (f_OnesCount m hm w)
  have e1 : IntKind.u64.wrap (m : Int) = (m : Int) := by
    revert m; intro m hm _
    exact (by decide +kernel : ∀ m : Nat, m < 256 → IntKind.u64.wrap (m : Int) = (m : Int)) m hm
  go_enter Tryz.func65, Tryz.ntmps65
  go_wp2_with (go_at_call 118; refine HK.out.mono ?_; rintro e w' ⟨rfl, rfl⟩)
  go_ret
  exact ⟨rfl, rfl⟩

def stepN (m i k : Nat) : Nat := if m.testBit i && !m.testBit k then (m ^^^ (1 <<< i)) ^^^ (1 <<< k) else m
theorem bit_of : ∀ m : Nat, m < 256 → ∀ i : Nat, i < 8 → bits BinOp.and IntKind.i64 ((m : Int) / 2 ^ i) 1 = (if m.testBit i then 1 else 0) := by decide +kernel
theorem xor_of : ∀ m : Nat, m < 256 → ∀ i : Nat, i < 8 → bits BinOp.xor IntKind.i64 (m : Int) (wrap64 (2 ^ i)) = ((m ^^^ (1 <<< i) : Nat) : Int) ∧ m ^^^ (1 <<< i) < 256 := by decide +kernel
set_option maxHeartbeats 1000000 in
theorem i_step (m i k : Nat) (hm : m < 256) (hi : i < 8) (hk : k < 8) (w : World) : Calls Tryz.prog 124 #[.int .i64 (m : Int), .int .i64 (i : Int), .int .i64 (k : Int)] w fun e w' => e = .returned (.int .i64 (stepN m i k : Nat)) ∧ Dr w w' := by
  have b1 := bit_of m hm i hi
  have b2 := bit_of m hm k hk
  cases h1 : m.testBit i
  · have HR : Hid (stepN m i k = m) := by rw [Hid, stepN, h1]; rfl
    rw [h1] at b1
    have c1 : bits BinOp.and IntKind.i64 ((m : Int) / 2 ^ i) 1 = 0 := b1
    clear b1 b2 h1
    go_enter Tryz.func124, Tryz.ntmps124
    go_wp2
    go_ret
    exact ⟨by rw [HR.out]; rfl, Dr.refl _⟩
  · cases h2 : m.testBit k
    · have HR : Hid (stepN m i k = (m ^^^ (1 <<< i)) ^^^ (1 <<< k)) := by rw [Hid, stepN, h1, h2]; rfl
      rw [h1] at b1
      rw [h2] at b2
      have c1 : bits BinOp.and IntKind.i64 ((m : Int) / 2 ^ i) 1 = 1 := b1
      have c2 : bits BinOp.and IntKind.i64 ((m : Int) / 2 ^ k) 1 = 0 := b2
      clear b1 b2
      go_enter Tryz.func124, Tryz.ntmps124
      go_wp2
      go_quiet (fail)
      go_wp2
      go_ret
      have x1 := xor_of m hm i hi
      have x2 := xor_of _ x1.2 k hk
      exact ⟨by rw [HR.out, ← x2.1, ← x1.1]; rfl, (Dr.refl _).step _⟩
    · have HR : Hid (stepN m i k = m) := by rw [Hid, stepN, h1, h2]; rfl
      rw [h1] at b1
      rw [h2] at b2
      have c1 : bits BinOp.and IntKind.i64 ((m : Int) / 2 ^ i) 1 = 1 := b1
      have c2 : bits BinOp.and IntKind.i64 ((m : Int) / 2 ^ k) 1 = 1 := b2
      clear b1 b2 h1 h2
      go_enter Tryz.func124, Tryz.ntmps124
      go_wp2
      go_ret
      exact ⟨by rw [HR.out]; rfl, Dr.refl _⟩

def sortedN (n k : Nat) : Nat := (2 ^ k - 1) * 2 ^ (n - k)
theorem sorted_of : ∀ k : Nat, k < 9 → ∀ d : Nat, d < 9 → k + d < 9 → wrap64 (wrap64 (wrap64 (2 ^ k) - 1) * 2 ^ (k + d - k)) = ((sortedN (k + d) k : Nat) : Int) := by decide +kernel
set_option maxHeartbeats 1000000 in
theorem i_sorted (n m : Nat) (hm : m < 256) (hn : n ≤ 8) (hk : onesN m ≤ n) (w : World) : Calls Tryz.prog 180 #[.int .i64 (n : Int), .int .i64 (m : Int)] w fun e w' => e = .returned (.int .i64 (sortedN n (onesN m) : Nat)) ∧ w = w' := by
  have HK := Lib.hid (i_ones m hm w)
  generalize onesN m = k at *
  obtain ⟨d, rfl⟩ : ∃ d, n = k + d := ⟨n - k, by omega⟩
  go_enter Tryz.func180, Tryz.ntmps180
  go_wp2_with (go_at_call 65; refine HK.out.mono ?_; rintro e w' ⟨rfl, rfl⟩)
  go_ret
  exact ⟨by rw [← sorted_of k (by omega) d (by omega) (by omega)]; rfl, rfl⟩

end Go.Proofs.YtggblfnajeikjaaGreatDoor
