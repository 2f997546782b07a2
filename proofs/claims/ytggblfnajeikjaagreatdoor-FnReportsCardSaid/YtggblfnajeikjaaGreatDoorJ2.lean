/- Joined texts of the proof: Shelf, StrsI, LineI, MergeLine, MergeLineI, Cat, Cheap, CheapS, CheapI, MergeLineJ, RetO, PlainSplit, PlainParse, ParseI, Shelf2, ParseN, PlainRound, PlainBat. -/
import Derived.Test.YtggblfnajeikjaaGreatDoorRows
import Derived.WalkKit
import Derived.WalkSpells
import Derived.WalkLawsBesides
import Derived.Deep.Draws
import Derived.Lib.Hide
import Derived.RegionTactic
import Derived.BigQuiet
import Derived.Deep.QuietTactic
import Derived.Lib.SliceRun
import Derived.Deep.RegionLaw
import Derived.Deep.DeepCutAuto
import Derived.Deep.LoopGhost
import Derived.Deep.RegionWith
import Derived.Lib.ItoaNum
import Derived.Deep.RegionHeld3
import Derived.IntWalk
import Derived.Lib.Join
import Derived.Shelf.Strings.Builder1
import Derived.Shelf.Strings.Builder2
import Derived.Shelf.Strings.OnBuilder
import Derived.Shelf.Strconv.Atoi
import Derived.Shelf.Strconv.Itoa0
import Derived.Shelf.Strconv.Itoa1
import Derived.Shelf.LaysM
import Derived.Shelf.Strconv.Itoa2
import Derived.Shelf.Strconv.Itoa3
import Derived.Shelf.Strconv.AtoiErrFast
import Derived.Shelf.Strconv.ParseIntEmpty
import Derived.Shelf.Strconv.AtoiFail
import Derived.Shelf.Strconv.Clone
import Derived.Shelf.Strconv.SyntaxError
import Derived.Shelf.LaysC
import Derived.Shelf.Strconv.ToError
import Derived.Shelf.Strconv.Lower
import Derived.Shelf.Strconv.ParseUint10
import Derived.Shelf.Strconv.ParseUint10Empty
import Derived.Shelf.Strconv.ParseUint10Any
import Derived.Shelf.Strconv.ParseInt10
import Derived.Shelf.Strconv.AtoiLong
import Derived.Shelf.Strconv.AtoiInnerAll
import Derived.Shelf.Strconv.RangeError
import Derived.Shelf.Strconv.ToErrorRange
import Derived.Shelf.Strconv.AtoiAll
import Derived.Shelf.Strconv.ErrVarAll
import Derived.Shelf.Strings.Search1
import Derived.Shelf.Strings.Search2
import Derived.Shelf.Strings.Search3
import Derived.Shelf.Strings.Cut
import Derived.Shelf.Strings.Count
import Derived.Shelf.Strings.Shaped
import Derived.Shelf.Sort.Plain
import Derived.Shelf.Strings.Prefix
import Derived.Shelf.Strings.Split
import Derived.Shelf.Unicode.DecodeSlow
import Derived.Shelf.Slices.Reverse
import Derived.Ground.Names2Prog
import Derived.Shelf.Slices.CompactI
import Derived.Test.YtggblfnajeikjaaGreatDoorProg
import Derived.Lib.SmallJoins
import Derived.Lib.AppendZeros
import Derived.Deep.AppendLies
import Derived.Lib.SplitLaws
import Derived.Lib.Split
import Derived.Lib.IndexBytes
import Derived.Lib.AtoiAllCases
import Derived.Lib.AtoiErrMem
import Derived.Laws.BitsAllLaws
import Derived.Laws.BitsLemmas
import Derived.Lib.RowBridge
import Derived.Sort.OwnSortedInts
import Derived.Lib.LazyBuf
import Derived.Maps.OwnOps
import Derived.Maps.OwnSet
import Derived.Maps.Views
import Derived.Carry
import Derived.Laws.Bits64b
import Derived.BigRegion
import Derived.Test.YtggblfnajeikjaaGreatDoorJ1
namespace Go.Proofs
open Go.Shelf
def Tryz.lays156_ren : Go.Shelf.Ren := ⟨fun | 156 => 107 | 165 => 166 | 166 => 167 | 169 => 168 | 240 => 206 | 241 => 207 | 276 => 249 | 277 => 250 | n => n, fun | 31 => 50 | 9 => 9 | 3 => 3 | 4 => 4 | 0 => 0 | 20 => 20 | 72 => 140 | 76 => 106 | 70 => 138 | 37 => 22 | 75 => 105 | 127 => 164 | 164 => 193 | 5 => 5 | 80 => 142 | n => n, fun | n => n⟩
theorem Tryz.lays156 : Go.Proofs.Lays.n156 Tryz.prog Tryz.lays156_ren := {
  mixed := by kernel_rfl
  f156 := Tryz.func107.trans (congrArg some (by kernel_rfl))
  f165 := Tryz.func166.trans (congrArg some (by kernel_rfl))
  f166 := Tryz.func167.trans (congrArg some (by kernel_rfl))
  f169 := Tryz.func168.trans (congrArg some (by kernel_rfl))
  f240 := Tryz.func206.trans (congrArg some (by kernel_rfl))
  f241 := Tryz.func207.trans (congrArg some (by kernel_rfl))
  f276 := Tryz.func249.trans (congrArg some (by kernel_rfl))
  f277 := Tryz.func250.trans (congrArg some (by kernel_rfl))
  t0 := Tryz.underlying0
  a0 := Tryz.isAgg0
  z0 := Tryz.sizeOf0
  v0 := Tryz.zeroValue0
  t3 := Tryz.underlying3
  a3 := Tryz.isAgg3
  z3 := Tryz.sizeOf3
  v3 := Tryz.zeroValue3
  t4 := Tryz.underlying4
  a4 := Tryz.isAgg4
  z4 := Tryz.sizeOf4
  v4 := Tryz.zeroValue4
  t9 := Tryz.underlying9
  a9 := Tryz.isAgg9
  z9 := Tryz.sizeOf9
  v9 := Tryz.zeroValue9
  t20 := Tryz.underlying20
  a20 := Tryz.isAgg20
  z20 := Tryz.sizeOf20
  v20 := Tryz.zeroValue20
  t31 := Tryz.underlying50
  a31 := Tryz.isAgg50
  z31 := Tryz.sizeOf50
  v31 := Tryz.zeroValue50
  t37 := Tryz.underlying22
  a37 := Tryz.isAgg22
  z37 := Tryz.sizeOf22
  v37 := Tryz.zeroValue22
  t70 := Tryz.underlying138
  a70 := Tryz.isAgg138
  z70 := Tryz.sizeOf138
  v70 := Tryz.zeroValue138
  t72 := Tryz.underlying140
  a72 := Tryz.isAgg140
  z72 := Tryz.sizeOf140
  v72 := Tryz.zeroValue140
  t75 := Tryz.underlying105
  a75 := Tryz.isAgg105
  z75 := Tryz.sizeOf105
  v75 := Tryz.zeroValue105
  t76 := Tryz.underlying106
  a76 := Tryz.isAgg106
  z76 := Tryz.sizeOf106
  v76 := Tryz.zeroValue106
  t127 := Tryz.underlying164
  a127 := Tryz.isAgg164
  z127 := Tryz.sizeOf164
  v127 := Tryz.zeroValue164
  t164 := Tryz.underlying193
  a164 := Tryz.isAgg193
  z164 := Tryz.sizeOf193
  v164 := Tryz.zeroValue193 }
theorem Tryz.Builder_Extra_156 : Builder.Extra Tryz.prog Tryz.lays156_ren := {
  sizeBuilder := by kernel_rfl
  liesBuilder := by kernel_rfl
  t5 := Tryz.underlying5
  a5 := Tryz.isAgg5
  z5 := Tryz.sizeOf5
  v5 := Tryz.zeroValue5
  infoByte := by kernel_rfl
  cellsByte := by kernel_rfl
  sizeByte := by kernel_rfl
  neB5 := by decide }
open Go.RowKit in
/-- No element: the empty string; the world is as it was. (Whatever the slice's address and capacity: a nil slice too.) (LAID: no walk: one application.) -/
theorem Tryz.strings_Join_none (a : Option Addr) (c : Nat) (sep : ByteArray) (w : World) :
    Calls Tryz.prog 107 #[.slice a 0 c, .string sep] w fun e w' => e = .returned (.string ⟨#[]⟩) ∧ w' = w := Any.strings_Join_none Tryz.lays156 Tryz.Builder_Extra_156 a c sep w
open Go.RowKit in
/-- strings.Join: "Join concatenates the elements of its first argument to create a single string. The separator string sep is placed between elements in the resulting string.": HOWEVER MANY ELEMENTS. Below the heap's end the world is as it was. (LAID: no walk: one application.) -/
theorem Tryz.strings_Join (bk o c : Nat) (xs : List ByteArray) (sep : ByteArray) (w : World) (hcells : ∀ (j : Nat) x, xs[j]? = some x → w.cell? ⟨bk, o + j, none⟩ = some (.string x)) (hbk : bk < w.heap.size) (hN : xs.length ≤ 140737488355328) (hcap : xs.length ≤ c) (hlen : (Lib.join (xs.map (·.data.toList)) sep.data.toList).length ≤ 140737488355328) :
    Calls Tryz.prog 107 #[.slice (some ⟨bk, o, none⟩) xs.length c, .string sep] w fun e w' => e = .returned (.string ⟨(Lib.join (xs.map (·.data.toList)) sep.data.toList).toArray⟩) ∧ Below w.heap.size w w' := Any.strings_Join Tryz.lays156 Tryz.Builder_Extra_156 bk o c xs sep w hcells hbk hN hcap hlen
def Tryz.laysM171_ren : Go.Shelf.Ren := ⟨fun | 171 => 62 | 243 => 116 | 246 => 179 | 283 => 218 | 284 => 219 | 285 => 220 | 286 => 221 | 129 => 260 | 317 => 259 | 318 => 261 | 319 => 262 | 320 => 263 | 337 => 293 | 338 => 294 | n => n, fun | 3 => 3 | 9 => 9 | 2 => 2 | 4 => 4 | 171 => 175 | 0 => 0 | 53 => 151 | 37 => 22 | 5 => 5 | 173 => 177 | 212 => 202 | 51 => 149 | 20 => 20 | 213 => 203 | 46 => 111 | 232 => 233 | 233 => 234 | n => n, fun | 17 => 3 | 18 => 6 | 19 => 7 | n => n⟩
theorem Tryz.laysM171 : Go.Proofs.LaysM.n171 Tryz.prog Tryz.laysM171_ren := {
  mixed := by kernel_rfl
  f129 := Tryz.func260.trans (congrArg some (by kernel_rfl))
  f171 := Tryz.func62.trans (congrArg some (by kernel_rfl))
  f243 := Tryz.func116.trans (congrArg some (by kernel_rfl))
  f246 := Tryz.func179.trans (congrArg some (by kernel_rfl))
  f283 := Tryz.func218.trans (congrArg some (by kernel_rfl))
  f284 := Tryz.func219.trans (congrArg some (by kernel_rfl))
  f285 := Tryz.func220.trans (congrArg some (by kernel_rfl))
  f286 := Tryz.func221.trans (congrArg some (by kernel_rfl))
  f317 := Tryz.func259.trans (congrArg some (by kernel_rfl))
  f318 := Tryz.func261.trans (congrArg some (by kernel_rfl))
  f319 := Tryz.func262.trans (congrArg some (by kernel_rfl))
  f320 := Tryz.func263.trans (congrArg some (by kernel_rfl))
  f337 := Tryz.func293.trans (congrArg some (by kernel_rfl))
  f338 := Tryz.func294.trans (congrArg some (by kernel_rfl))
  t0 := Tryz.underlying0
  a0 := Tryz.isAgg0
  z0 := Tryz.sizeOf0
  v0 := Tryz.zeroValue0
  t2 := Tryz.underlying2
  a2 := Tryz.isAgg2
  z2 := Tryz.sizeOf2
  v2 := Tryz.zeroValue2
  t3 := Tryz.underlying3
  a3 := Tryz.isAgg3
  z3 := Tryz.sizeOf3
  v3 := Tryz.zeroValue3
  t4 := Tryz.underlying4
  a4 := Tryz.isAgg4
  z4 := Tryz.sizeOf4
  v4 := Tryz.zeroValue4
  t5 := Tryz.underlying5
  a5 := Tryz.isAgg5
  z5 := Tryz.sizeOf5
  v5 := Tryz.zeroValue5
  t9 := Tryz.underlying9
  a9 := Tryz.isAgg9
  z9 := Tryz.sizeOf9
  v9 := Tryz.zeroValue9
  t20 := Tryz.underlying20
  a20 := Tryz.isAgg20
  z20 := Tryz.sizeOf20
  v20 := Tryz.zeroValue20
  t37 := Tryz.underlying22
  a37 := Tryz.isAgg22
  z37 := Tryz.sizeOf22
  v37 := Tryz.zeroValue22
  t46 := Tryz.underlying111
  a46 := Tryz.isAgg111
  z46 := Tryz.sizeOf111
  v46 := Tryz.zeroValue111
  t51 := Tryz.underlying149
  a51 := Tryz.isAgg149
  z51 := Tryz.sizeOf149
  v51 := Tryz.zeroValue149
  t53 := Tryz.underlying151
  a53 := Tryz.isAgg151
  z53 := Tryz.sizeOf151
  v53 := Tryz.zeroValue151
  t171 := Tryz.underlying175
  a171 := Tryz.isAgg175
  z171 := Tryz.sizeOf175
  v171 := Tryz.zeroValue175
  t173 := Tryz.underlying177
  a173 := Tryz.isAgg177
  z173 := Tryz.sizeOf177
  v173 := Tryz.zeroValue177
  t212 := Tryz.underlying202
  a212 := Tryz.isAgg202
  z212 := Tryz.sizeOf202
  v212 := Tryz.zeroValue202
  t213 := Tryz.underlying203
  a213 := Tryz.isAgg203
  z213 := Tryz.sizeOf203
  t232 := Tryz.underlying233
  a232 := Tryz.isAgg233
  z232 := Tryz.sizeOf233
  v232 := Tryz.zeroValue233
  t233 := Tryz.underlying234
  a233 := Tryz.isAgg234
  z233 := Tryz.sizeOf234
  v233 := Tryz.zeroValue234
  g17 := by kernel_rfl
  g18 := by kernel_rfl
  g19 := by kernel_rfl
  i0 := by kernel_rfl
  i2 := by kernel_rfl
  i3 := by kernel_rfl
  i4 := by kernel_rfl
  i5 := by kernel_rfl
  i9 := by kernel_rfl
  i20 := by kernel_rfl
  i37 := by kernel_rfl
  i46 := by kernel_rfl
  i51 := by kernel_rfl
  i53 := by kernel_rfl
  i171 := by kernel_rfl
  i173 := by kernel_rfl
  i212 := by kernel_rfl
  i232 := by kernel_rfl
  i233 := by kernel_rfl
  m17 := by kernel_rfl
  m18 := by kernel_rfl
  m19 := by kernel_rfl }
open Go.RowKit Go.Sort Go.Lib in
/-- strconv.Itoa: "Itoa is equivalent to FormatInt(int64(i), 10).": i's DECIMAL NUMERAL ('Lib.itoa': a '-' where i is negative, then the digits), FOR EVERY int. The world behind the call: the world before it, new blocks behind the heap (the library's 'var a [24]byte'), draws. (LAID: no walk: one application.) -/
theorem Tryz.strconv_Itoa (n : Int) (h0 : -9223372036854775808 ≤ n) (h1 : n ≤ 9223372036854775807) (w : World) (htab : Lib.TabIs Tryz.prog w "internal/strconv.uint64pow10" .u64 Lib.pow10Tab) :
    Calls Tryz.prog 62 #[.int .i64 n] w fun e w' => e = .returned (.string ⟨(Lib.itoa n).toArray⟩) ∧ ∃ k os, w' = grow (w.drewN k) os := Any.strconv_Itoa Tryz.laysM171 n h0 h1 w htab
end Go.Proofs

namespace Go.Proofs.YtggblfnajeikjaaGreatDoor
open Go.RowKit
set_option linter.unusedVariables false
set_option linter.unusedSimpArgs false

/-- The library's table of powers lies as the program's text lays it. -/
def Tab (w : World) : Prop := Lib.TabIs Tryz.prog w "internal/strconv.uint64pow10" .u64 Lib.pow10Tab
theorem tabVar : Tryz.prog.globalNamed "internal/strconv.uint64pow10" = some 3 := by kernel_rfl
theorem Tab.below {w w' : World} (h : Tab w) (hb : Below w.heap.size w w') : Tab w' := Joins.tab_stays tabVar h hb (Nat.le_refl _)
theorem below_grow (os : Array Obj) (w : World) (B : Nat) (hB : B ≤ w.heap.size) : Below B w (Sort.grow w os) :=
  ⟨rfl, rfl, rfl, by simp [Sort.grow], fun k hk => by
    show (w.heap ++ os)[k]? = w.heap[k]?
    rw [Array.getElem?_append_left (by omega)]⟩

theorem I_FormatInt (w : World) (n : Int) (h : I64 n) (ht : Tab w) : Calls Tryz.prog 14 #[.int .i64 n] w (RetB (.string (bstr (Lib.itoa n))) w) := by
  have HI := Lib.hid (Tryz.strconv_Itoa n h.1 h.2 w ht)
  go_enter Tryz.func14, Tryz.ntmps14
  go_wp2_with (go_at_call 62; refine HI.out.mono ?_; rintro e w2 ⟨rfl, k, os, rfl⟩)
  go_ret
  exact ⟨rfl, (⟨rfl, rfl, rfl, Nat.le_refl _, fun _ _ => rfl⟩ : Below w.heap.size w (w.drewN k)).trans (below_grow os _ _ (Nat.le_refl _))⟩

theorem joinK_le {sep : List UInt8} {ls : List (List UInt8)} {B : Nat} (hs : sep.length ≤ B) (h : ∀ x ∈ ls, x.length ≤ B) : ∀ k, (joinK sep ls k).length ≤ 2 * B * k
  | 0 => by simp [joinK]
  | k + 1 => by
    have ih := joinK_le hs h k
    have hx : (ls.getD k []).length ≤ B := by
      rw [List.getD_eq_getElem?_getD]
      cases e : ls[k]? with
      | none => simp
      | some x => exact h x (List.mem_of_getElem? e)
    have h1 : (if 0 < k then sep else []).length ≤ B := by split <;> simp [hs]
    have h2 : 2 * B * (k + 1) = 2 * B * k + 2 * B := by rw [Nat.mul_add, Nat.mul_one]
    rw [joinK, List.length_append, List.length_append]
    omega
theorem i_Join {E B : Nat} (v : Value) (ls : List (List UInt8)) (sep : List UInt8) (w : World) (h : Own w E B v (strs ls)) (hl : ls.length ≤ 1000000) (hx : ∀ x ∈ ls, x.length ≤ 10000) (hs : sep.length ≤ 10000) :
    Calls Tryz.prog 107 #[v, .string (bstr sep)] w (RetB (.string (bstr (joinK sep ls ls.length))) w) := by
  rcases h with ⟨rfl, h⟩ | ⟨g, o, c, cur, rfl, hB, hh, h1, h2, h3, h4⟩
  · have e : ls = [] := by simpa [strs] using h
    subst e
    exact (Tryz.strings_Join_none none 0 (bstr sep) w).mono fun e w' ⟨he, hw⟩ => ⟨he, hw ▸ Below.refl _ _⟩
  · have hm : (ls.map bstr).map (·.data.toList) = ls := by
      rw [List.map_map]
      exact (List.map_congr_left fun x _ => by simp [bstr]).trans (List.map_id _)
    have hd : (bstr sep).data.toList = sep := by simp [bstr]
    have hj := join_joinK sep ls
    have hg : g < w.heap.size := (Array.getElem?_eq_some_iff.1 hh).1
    have hk := joinK_le (B := 10000) hs hx ls.length
    have := Tryz.strings_Join g o c (ls.map bstr) (bstr sep) w (fun j x hx => by
        rw [List.getElem?_map] at hx
        cases e : ls[j]? with
        | none => rw [e] at hx; cases hx
        | some y =>
          rw [e] at hx
          obtain rfl : bstr y = x := Option.some.inj hx
          exact (cell_of_row w g (o + j) cur E (0, 0) hh).trans (h4 j _ (strs_get e)))
      hg (by rw [List.length_map]; omega) (by rw [List.length_map, ← strs_length]; omega) (by rw [hm, hd, hj]; omega)
    rw [hm, hd, hj, List.length_map] at this
    rw [strs_length]
    exact this

set_option maxHeartbeats 1000000 in
theorem i_numbers (w : World) (v : Value) (xs : List Int) (h : Rd w v (ints xs)) (fx : I64s xs) (hl : xs.length ≤ 1000) (ht : Tab w) :
    Calls Tryz.prog 46 #[v] w (RetB (.string (bstr (numsB xs))) w) := by
  obtain ⟨a, n, c, rfl, HN, hnc, hc⟩ := h.formN
  have hn : n ≤ 1000 := by have := HN.out; omega
  by_cases h0 : n = 0
  · have e0 : ((n : Int) == 0) = true := by simp [h0]
    have e : numsB xs = [45] := by rw [numsB, if_pos (by have := HN.out; omega)]
    rw [e]
    clear h0
    go_enter Tryz.func46, Tryz.ntmps46
    go_wp2_with fail
    go_ret
    exact ⟨rfl, Below.refl _ _⟩
  have e0 : ((n : Int) == 0) = false := by simp [h0]
  have HE : Hid (numsB xs = joinK [44] (xs.map Lib.itoa) n) := by rw [Hid, numsB, if_neg (by have := HN.out; omega), ← HN.out]
  have HF : Hid (∀ (x : Int), I64 x → ∀ W, Below w.heap.size w W → Calls Tryz.prog 14 #[.int .i64 x] W (RetB (.string (bstr (Lib.itoa x))) W)) := fun x h1 W hW => I_FormatInt W x h1 (ht.below hW)
  have HFX := Lib.hid fx
  clear fx h0
  go_enter Tryz.func46, Tryz.ntmps46
  go_wp2_with fail
  go_loopw [3, 5, 12] (fun vl _ vi wr => ∃ k : Nat, k ≤ n ∧ vi = .int .i64 (k : Int) ∧ Own wr 9 w.heap.size vl (strs ((xs.map Lib.itoa).take k)) ∧ Below w.heap.size w wr) (fun _ _ vi _ => n - (intOf vi).toNat)
  case atStart => exact ⟨0, Nat.zero_le _, rfl, by simpa [strs, ints] using Own.lit0 w 9 (Nat.le_refl _), (Below.refl _ _).alloc (Nat.le_refl _) _⟩
  case round =>
    obtain ⟨k, hk, rfl, ho, hb⟩ := hrel
    obtain ⟨al, ml, cl, rfl, HML, _, _⟩ := ho.rd.formS
    have hml : ml = k := by
      have h1 := HML.out
      have h2 := HN.out
      rw [List.length_take, List.length_map] at h1
      omega
    subst hml
    by_cases hlt : ml < n
    · have i0 : (ml : Int) < (n : Int) := by omega
      obtain ⟨ad, x, rfl, hcx, hx⟩ := (h.below hb).int (k := ml) (by have := HN.out; omega)
      have HFx := Lib.hid (HF.out x (HFX.out x (List.mem_of_getElem? hx.out)))
      have HSL : Hid ((strs ((xs.map Lib.itoa).take ml)).length = ml) := by rw [Hid, strs_length]; exact HML.out.symm
      have HNX : Hid ((xs.map Lib.itoa).take (ml + 1) = (xs.map Lib.itoa).take ml ++ [Lib.itoa x]) := take_snoc' (by rw [List.getElem?_map, hx.out]; rfl)
      have hsz := hb.size
      go_wp2_with (first
        | (go_at_call 14; refine (HFx.out _ hb).mono ?_; rintro e w3 ⟨rfl, hb3⟩
           have ho3 := ho.below hb3
           have hbb := hb.trans (hb3.mono hsz))
        | (at_builtin; refine wpList_app1m rfl _ _ 50 rfl elS rfl ho3 (by show Value.slice (some ⟨w3.heap.size, 0, none⟩) 1 1 = _; simp) rfl hbb.size _ HSL.out (by omega) (by omega) ?_; intro b6 c6 w6 ho6 hg6 hat6))
      have hb7 := hbb.grown hg6 hbb.size (fun r hr => (ho3.lt r hr).1)
      go_roundw
      case rel => exact ⟨ml + 1, by omega, by go_num, by rw [HNX.out, strs_append]; exact ho6, hb7⟩
      case measure => simp [intOf]; omega
    · obtain rfl : ml = n := by omega
      have HTK : Hid ((xs.map Lib.itoa).take ml = xs.map Lib.itoa) := List.take_of_length_le (by have := HN.out; simp; omega)
      rw [HTK.out] at ho
      have HJ := Lib.hid (fun (W : World) (hW : Own W 9 w.heap.size (.slice al ml cl) (strs (xs.map Lib.itoa))) => i_Join _ (xs.map Lib.itoa) [44] W hW (by have := HN.out; simp; omega) (fun y hy => by
        obtain ⟨x, hx, rfl⟩ := List.mem_map.1 hy
        have := itoa_len (HFX.out x hx)
        omega) (by simp))
      rw [List.length_map, ← HN.out] at HJ
      go_wp2_with (go_at_call 107; refine (HJ.out _ ho).mono ?_; rintro e w3 ⟨rfl, hb3⟩)
      go_ret
      exact ⟨by rw [HE.out]; rfl, hb.trans (hb3.mono hb.size)⟩

theorem I_FormatNumbers (w : World) (v : Value) (xs : List Int) (h : Rd w v (ints xs)) (fx : I64s xs) (_ : xs.length ≤ 1048576) (ht : Tab w) :
    Calls Tryz.prog 6 #[v] w (RetB (.string (bstr (fmtNums xs))) w) := by
  obtain ⟨a, n, c, rfl, HN, hnc, hc⟩ := h.formN
  by_cases h60 : n ≤ 60
  case neg =>
    have hd : decide ((n : Int) > 60) = true := by simp; omega
    have e : fmtNums xs = [] := by rw [fmtNums, if_pos (by have := HN.out; omega)]
    rw [e]
    go_enter Tryz.func6, Tryz.ntmps6
    go_wp2_with fail
    go_ret
    exact ⟨rfl, Below.refl _ _⟩
  have hd : decide ((n : Int) > 60) = false := by simp; omega
  have HE : Hid (fmtNums xs = numsB xs) := by rw [Hid, fmtNums, if_neg (by have := HN.out; omega)]
  have HNB := Lib.hid (i_numbers w _ xs h fx (by have := HN.out; omega) ht)
  go_enter Tryz.func6, Tryz.ntmps6
  go_wp2_with (go_at_call 46; refine HNB.out.mono ?_; rintro e w3 ⟨rfl, hb3⟩)
  go_ret
  exact ⟨by rw [HE.out]; rfl, hb3⟩

end Go.Proofs.YtggblfnajeikjaaGreatDoor

namespace Go.Proofs.YtggblfnajeikjaaGreatDoor
open Go.RowKit
set_option linter.unusedVariables false
set_option linter.unusedSimpArgs false

theorem own_strs {W : World} {g E B : Nat} (ls : List (List UInt8)) (h : W.heap[g]? = some (.cells (strs ls).toArray E (0, 0))) (hB : B ≤ g) (hm : ls.length ≤ 9223372036854775807) : Own W E B (.slice (some ⟨g, 0, none⟩) ls.length ls.length) (strs ls) :=
  .inr ⟨g, 0, ls.length, _, by rw [strs_length], hB, h, by rw [strs_length]; exact Nat.le_refl _, by omega, by simp [strs_length], fun j u hu => by simpa using hu⟩
theorem i_lineOwn {E B : Nat} (v : Value) (ls : List (List UInt8)) (w : World) (h : Own w E B v (strs ls)) (hl : ls.length ≤ 1000000) (hx : ∀ x ∈ ls, x.length ≤ 10000) :
    Calls Tryz.prog 61 #[v] w (RetB (.string (bstr (joinK [32] ls ls.length))) w) := by
  have HJ := Lib.hid (i_Join v ls [32] w h hl hx (by simp))
  obtain ⟨a, n, c, rfl, HN, _, _⟩ := h.rd.formS
  go_enter Tryz.func61, Tryz.ntmps61
  go_wp2_with (go_at_call 107; refine HJ.out.mono ?_; rintro e w3 ⟨rfl, hb3⟩)
  go_ret
  exact ⟨rfl, hb3⟩
/-- What a line's call in a new block of words says. -/
def RetLine (l : List UInt8) (W : World) (e : Ending) (w' : World) : Prop := e = .returned (.string (bstr l)) ∧ Below W.heap.size W w'
theorem i_lineLit (ls : List (List UInt8)) (n : Nat) (hn : ls.length = n) (hl : n ≤ 1000) (hx : ∀ x ∈ ls, x.length ≤ 10000) (W : World) :
    Calls Tryz.prog 61 #[.slice (some ⟨W.heap.size, 0, none⟩) n n] (W.alloc (.cells (strs ls).toArray 9)) (RetLine (joinK [32] ls n) W) := by
  subst hn
  refine (i_lineOwn _ ls _ (own_strs ls (heap_alloc_new W _) (Nat.le_refl _) (by omega)) (by omega) hx).mono ?_
  rintro e w' ⟨rfl, hb⟩
  have hA : Below W.heap.size W (W.alloc (.cells (strs ls).toArray 9)) := (Below.refl _ _).alloc (Nat.le_refl _) _
  exact ⟨rfl, hA.trans (hb.mono hA.size)⟩
theorem i_line2 (a b : List UInt8) (ha : a.length ≤ 10000) (hb : b.length ≤ 10000) (W : World) :
    Calls Tryz.prog 61 #[.slice (some ⟨W.heap.size, 0, none⟩) 2 2] (W.alloc (.cells #[.string (bstr a), .string (bstr b)] 9)) (RetLine (a ++ [32] ++ b) W) := by
  have := i_lineLit [a, b] 2 rfl (by omega) (by simp [ha, hb]) W
  simpa [joinK, strs] using this
theorem i_line3 (a b c : List UInt8) (ha : a.length ≤ 10000) (hb : b.length ≤ 10000) (hc : c.length ≤ 10000) (W : World) :
    Calls Tryz.prog 61 #[.slice (some ⟨W.heap.size, 0, none⟩) 3 3] (W.alloc (.cells #[.string (bstr a), .string (bstr b), .string (bstr c)] 9)) (RetLine (a ++ [32] ++ b ++ [32] ++ c) W) := by
  have := i_lineLit [a, b, c] 3 rfl (by omega) (by simp [ha, hb, hc]) W
  simpa [joinK, strs, List.append_assoc] using this
theorem i_line4 (a b c d : List UInt8) (ha : a.length ≤ 10000) (hb : b.length ≤ 10000) (hc : c.length ≤ 10000) (hd : d.length ≤ 10000) (W : World) :
    Calls Tryz.prog 61 #[.slice (some ⟨W.heap.size, 0, none⟩) 4 4] (W.alloc (.cells #[.string (bstr a), .string (bstr b), .string (bstr c), .string (bstr d)] 9)) (RetLine (a ++ [32] ++ b ++ [32] ++ c ++ [32] ++ d) W) := by
  have := i_lineLit [a, b, c, d] 4 rfl (by omega) (by simp [ha, hb, hc, hd]) W
  simpa [joinK, strs, List.append_assoc] using this
theorem i_line6 (a b c d x y : List UInt8) (ha : a.length ≤ 10000) (hb : b.length ≤ 10000) (hc : c.length ≤ 10000) (hd : d.length ≤ 10000) (hx : x.length ≤ 10000) (hy : y.length ≤ 10000) (W : World) :
    Calls Tryz.prog 61 #[.slice (some ⟨W.heap.size, 0, none⟩) 6 6] (W.alloc (.cells #[.string (bstr a), .string (bstr b), .string (bstr c), .string (bstr d), .string (bstr x), .string (bstr y)] 9)) (RetLine (a ++ [32] ++ b ++ [32] ++ c ++ [32] ++ d ++ [32] ++ x ++ [32] ++ y) W) := by
  have := i_lineLit [a, b, c, d, x, y] 6 rfl (by omega) (by simp [ha, hb, hc, hd, hx, hy]) W
  simpa [joinK, strs, List.append_assoc] using this
theorem numsB_le {xs : List Int} {B : Nat} (fx : I64s xs) (hl : xs.length ≤ B) : (numsB xs).length ≤ 40 * B + 1 := by
  rw [numsB]
  split
  · simp
  · have := joinK_le (sep := [44]) (ls := xs.map Lib.itoa) (B := 20) (by simp) (fun y hy => by
      obtain ⟨x, hx, rfl⟩ := List.mem_map.1 hy
      exact (itoa_len (fx x hx)).2) xs.length
    omega

end Go.Proofs.YtggblfnajeikjaaGreatDoor

namespace Go.Proofs.YtggblfnajeikjaaGreatDoor
open Go.RowKit
set_option linter.unusedVariables false
set_option linter.unusedSimpArgs false

theorem cmL_bd {S : Int} (h0 : 0 ≤ S) (h1 : S ≤ 8000) : ∀ (f : Nat) (s : List Int), RunsL S s → 0 ≤ cmL f s ∧ cmL f s ≤ 8000 * (f : Int)
  | 0, s, _ => by simp [cmL]
  | f + 1, [], _ => by simp [cmL]; omega
  | f + 1, [_], _ => by simp [cmL]; omega
  | f + 1, a :: b :: t, h => by
    obtain ⟨ha, hb, hab, h2⟩ := h.pair
    have := cmL_bd h0 h1 f _ h2.srt
    simp only [cmL]
    omega
def nbAll (xs : List Int) : Int := nb xs.length xs
theorem cm_I64 {xs : List Int} (h : lensB xs = true) : I64 (cm xs) ∧ I64 (nbAll xs) := by
  obtain ⟨hR, h0, h1⟩ := RunsL.of h
  obtain ⟨h8, hb⟩ := lensB_iff.1 h
  have h2 := cmL_bd h0 h1 xs.length _ hR.srt
  have h3 := nb_bd xs.length xs h8 hb h8
  have h4 := (nbTop_le xs.length h8).2
  refine ⟨?_, ?_⟩
  · unfold I64 cm; omega
  · unfold I64 nbAll; omega
def mergeLine (xs : List Int) : List UInt8 :=
  if lensB xs then [97, 110, 121, 32] ++ Lib.itoa (cm xs) ++ [32, 110, 101, 105, 103, 104, 98, 111, 114, 115, 32] ++ Lib.itoa (nbAll xs) else [110, 111, 110, 101]

end Go.Proofs.YtggblfnajeikjaaGreatDoor

namespace Go.Proofs.YtggblfnajeikjaaGreatDoor
open Go.RowKit
set_option linter.unusedVariables false
set_option linter.unusedSimpArgs false

def RetCh (z : Int) (w : World) (e : Ending) (w' : World) : Prop := ∃ v, e = .returned (.tuple #[.int .i64 z, v]) ∧ Below w.heap.size w w'
set_option maxHeartbeats 1000000 in
theorem i_CheapestMergeOf (HCH : ∀ (v : Value) (xs : List Int) (w : World), Rd w v (ints xs) → lensB xs = true → Calls Tryz.prog 90 #[v] w (RetCh (cm xs) w))
    (v : Value) (xs : List Int) (w : World) (h : Rd w v (ints xs)) (hs : lensB xs = true) : Calls Tryz.prog 31 #[v] w (RetB (.int .i64 (cm xs)) w) := by
  have HL := Lib.hid (hs ▸ i_LengthsOk v xs w h)
  have HC := Lib.hid (HCH v xs w h hs)
  generalize cm xs = Z at HC ⊢
  obtain ⟨a, n, c, rfl, HN, hnc, hc⟩ := h.formN
  clear HCH hs
  go_enter Tryz.func31, Tryz.ntmps31
  go_wp2_with (first
    | (go_at_call 88; refine HL.out.mono ?_; rintro e w' ⟨rfl, rfl⟩)
    | (go_at_call 90; refine HC.out.mono ?_; rintro e w1 ⟨v1, rfl, hb1⟩))
  go_ret
  exact ⟨rfl, hb1⟩

set_option maxHeartbeats 2000000 in
theorem I_MergeLineOf (HCM : ∀ (v : Value) (xs : List Int) (w : World), Rd w v (ints xs) → lensB xs = true → Calls Tryz.prog 31 #[v] w (RetB (.int .i64 (cm xs)) w))
    (w : World) (v : Value) (xs : List Int) (h : Rd w v (ints xs)) (_ : I64s xs) (_ : xs.length ≤ 1048576) (ht : Tab w) : Calls Tryz.prog 30 #[v] w (RetB (.string (bstr (mergeLine xs))) w) := by
  have HO := i_LengthsOk v xs w h
  cases hs : lensB xs
  · rw [hs] at HO
    have HR : Hid (mergeLine xs = [110, 111, 110, 101]) := by rw [Hid, mergeLine, hs]; rfl
    have HOK := Lib.hid HO
    obtain ⟨a, n, c, rfl, HN, hnc, hc⟩ := h.formN
    generalize mergeLine xs = R at HR ⊢
    clear HO hs HCM
    go_enter Tryz.func30, Tryz.ntmps30
    go_wp2_with (go_at_call 88; refine HOK.out.mono ?_; rintro e w' ⟨rfl, rfl⟩)
    go_ret
    exact ⟨by rw [HR.out]; rfl, Below.refl _ _⟩
  rw [hs] at HO
  have HOK := Lib.hid HO
  obtain ⟨h8, hb⟩ := lensB_iff.1 hs
  obtain ⟨hi1, hi2⟩ := cm_I64 hs
  have HC := Lib.hid (HCM v xs w h hs)
  have HNB := Lib.hid (fun (W : World) (hW : Below w.heap.size w W) => i_nb xs.length v xs W (h.below hW) (Nat.le_refl _) h8 hb)
  have HE : Hid (nb xs.length xs = nbAll xs) := rfl
  rw [HE.out] at HNB
  have HRX : Hid (mergeLine xs = [97, 110, 121, 32] ++ Lib.itoa (cm xs) ++ [32, 110, 101, 105, 103, 104, 98, 111, 114, 115, 32] ++ Lib.itoa (nbAll xs)) := by rw [Hid, mergeLine, if_pos hs]
  generalize cm xs = p at hi1 HC HRX
  generalize nbAll xs = q at hi2 HNB HRX HE
  have HP := Lib.hid (fun (W : World) (hW : Below w.heap.size w W) => I_FormatInt W p hi1 (ht.below hW))
  have HQ := Lib.hid (fun (W : World) (hW : Below w.heap.size w W) => I_FormatInt W q hi2 (ht.below hW))
  have zP := (itoa_len hi1).2
  have zQ := (itoa_len hi2).2
  have HR1 : Hid (mergeLine xs = [97, 110, 121] ++ [32] ++ Lib.itoa p ++ [32] ++ [110, 101, 105, 103, 104, 98, 111, 114, 115] ++ [32] ++ Lib.itoa q) := by rw [Hid, HRX.out]; simp
  obtain ⟨A, hA⟩ : ∃ A, Lib.itoa p = A := ⟨_, rfl⟩
  obtain ⟨B, hB⟩ : ∃ B, Lib.itoa q = B := ⟨_, rfl⟩
  rw [hA] at HP zP HR1
  rw [hB] at HQ zQ HR1
  have GL := Lib.hid (fun W => i_line4 [97, 110, 121] A [110, 101, 105, 103, 104, 98, 111, 114, 115] B (by simp) (by omega) (by simp) (by omega) W)
  generalize [97, 110, 121] ++ [32] ++ A ++ [32] ++ [110, 101, 105, 103, 104, 98, 111, 114, 115] ++ [32] ++ B = R4 at GL HR1
  have K4 : Hid (∀ W : World, Calls Tryz.prog 61 #[.slice (some ⟨W.heap.size, 0, none⟩) 4 4] (W.alloc (.cells #[.string ⟨#[97, 110, 121]⟩, .string (bstr A), .string ⟨#[110, 101, 105, 103, 104, 98, 111, 114, 115]⟩, .string (bstr B)] 9)) fun e w' => e = .returned (.string (bstr R4)) ∧ Below W.heap.size W w') := fun W => GL.out W
  obtain ⟨a, n, c, rfl, HN, hnc, hc⟩ := h.formN
  generalize mergeLine xs = R at HR1 ⊢
  clear HO hs h HRX zP zQ hA hB hi1 hi2 GL h8 hb HE HCM
  go_enter Tryz.func30, Tryz.ntmps30
  go_wp2_with (first
    | (go_at_call 88; refine HOK.out.mono ?_; rintro e w' ⟨rfl, rfl⟩)
    | (go_at_call 31; refine HC.out.mono ?_; rintro e w1 ⟨rfl, hb1⟩)
    | (go_at_call_of 14 p; refine (HP.out _ hb1).mono ?_; rintro e w2 ⟨rfl, hb2⟩; have hb2' := hb1.trans (hb2.mono hb1.size))
    | (go_at_call 89; refine (HNB.out _ hb2').mono ?_; rintro e w3 ⟨rfl, hd3⟩; have hb3' := hb2'.trans (hd3.below _))
    | (go_at_call_of 14 q; refine (HQ.out _ hb3').mono ?_; rintro e w4 ⟨rfl, hb4⟩; have hb4' := hb3'.trans (hb4.mono hb3'.size))
    | (go_at_call 61; (with_reducible refine (K4.out w4).mono ?_); rintro e w5 ⟨rfl, hb5⟩; have hb5' := hb4'.trans (hb5.mono hb4'.size)))
  go_ret
  exact ⟨by rw [HR1.out]; rfl, hb5'⟩

end Go.Proofs.YtggblfnajeikjaaGreatDoor

namespace Go.Proofs.YtggblfnajeikjaaGreatDoor
open Go.RowKit
set_option linter.unusedVariables false
set_option linter.unusedSimpArgs false

set_option maxHeartbeats 1000000 in
theorem f_GrowNil (n : Nat) (w : World) (hn : n ≤ 1000000) : Calls Tryz.prog 189 #[.slice none 0 0, .int .i64 (n : Int)] w (RetOwn 3 (ints []) w) := by
  have i0 : ¬ (n : Int) < 0 := by omega
  rcases Nat.eq_zero_or_pos n with h0 | h0
  · subst h0
    go_enter Tryz.func189, Tryz.ntmps189
    go_wp2
    go_ret
    exact ⟨_, rfl, Own.nil _ _ _, Below.refl _ _⟩
  · obtain ⟨i, hu, hi, hz, hs1, hby, hzc⟩ := elI.ex
    have hr := fun ty => Lib.run_append_nil_zeros (P := Tryz.prog) w 23 3 ty 3 i _ .i64 .i64 hu Tryz.underlying3 hi hz n h0 (by omega) (by omega) (by rw [hby]; omega)
    have hge := grownCap_ge w n 0 3
    have hcm : grownCap w n 0 3 ≤ maxLen := grownCap_le_maxLen w _ _ 3 (by simp only [maxLen]; omega)
    generalize grownCap w n 0 3 = c at hr hge hcm
    simp only [maxLen] at hcm
    have ho : Own (w.drew.alloc (.cells (Builtin.zeroCells (Value.int .i64 0).cells n ++ Builtin.zeroCells (Value.int .i64 0).cells (c - n)) 3)) 3 w.heap.size (.slice (some ⟨w.heap.size, 0, none⟩) 0 c) (ints []) := by
      refine .inr ⟨w.heap.size, 0, c, _, by simp [ints], Nat.le_refl _, heap_alloc_new w.drew _, by simp [ints], by omega, ?_, fun j u hu => by simp [ints] at hu⟩
      simp only [Array.size_append, size_zeroCells, hzc]
      simp
      omega
    have hb : Below w.heap.size w (w.drew.alloc (.cells (Builtin.zeroCells (Value.int .i64 0).cells n ++ Builtin.zeroCells (Value.int .i64 0).cells (c - n)) 3)) := ((Below.refl _ _).drew).alloc (Nat.le_refl _) _
    obtain ⟨w2, hw2⟩ : ∃ w2, w.drew.alloc (.cells (Builtin.zeroCells (Value.int .i64 0).cells n ++ Builtin.zeroCells (Value.int .i64 0).cells (c - n)) 3) = w2 := ⟨_, rfl⟩
    rw [hw2] at hr ho hb
    have i1 : (n : Int) > 0 := by omega
    go_enter Tryz.func189, Tryz.ntmps189
    go_wp2_with (at_builtin; refine Lib.wpList_append_run _ rfl _ _ _ _ rfl _ _ rfl rfl _ _ (hr _) ?_)
    go_ret
    exact ⟨_, rfl, ho, hb⟩

theorem flat_len (xss : List (List Int)) : xss.flatten.length = tot xss := by
  induction xss with
  | nil => rfl
  | cons x t ih => simp [tot] at ih ⊢; omega
theorem flat_take {xss : List (List Int)} {xs : List Int} {k : Nat} (h : xss[k]? = some xs) : (xss.take (k + 1)).flatten = (xss.take k).flatten ++ xs := by
  rw [take_snoc' h]; simp
theorem tot_take {xss : List (List Int)} {xs : List Int} {k : Nat} (h : xss[k]? = some xs) : tot (xss.take (k + 1)) = tot (xss.take k) + xs.length := by
  rw [take_snoc' h, tot_append, tot_one]
set_option maxHeartbeats 2000000 in
theorem f_Concat (v : Value) (xss : List (List Int)) (w : World) (h : Rd2 w v xss) (ht : tot xss ≤ 1000000) : Calls Tryz.prog 143 #[v] w (RetOwn 3 (ints xss.flatten) w) := by
  obtain ⟨a, c, rfl, hnc, hc9⟩ := h.form
  obtain ⟨n, hn⟩ : ∃ n, xss.length = n := ⟨_, rfl⟩
  rw [hn] at h hnc ⊢
  have HN := Lib.hid hn
  have HTT := Lib.hid (fun k => tot_take_le xss k)
  have HFI : Hid (xss.flatten = (xss.take n).flatten) := by rw [Hid, ← hn, List.take_length]
  clear hn
  go_enter Tryz.func143, Tryz.ntmps143
  go_wp2
  go_loopg [3, 11] n (fun g sv iv wr => ∃ k s : Nat, g = n - k ∧ k ≤ n ∧ iv = .int .i64 k ∧ sv = .int .i64 (s : Int) ∧ Hid (s = tot (xss.take k)) ∧ w = wr)
  case atStart => exact ⟨0, 0, rfl, Nat.zero_le _, rfl, rfl, rfl, rfl⟩
  case round =>
    obtain ⟨k, s, hg, hk, rfl, rfl, HS, rfl⟩ := hrel
    have hs1 : s ≤ 1000000 := by have := HTT.out k; have := HS.out; omega
    by_cases hlt : k < n
    · obtain ⟨ad, b, m, d, xs, rfl, hcr, HX, HM, hmd, hd, hrr⟩ := h.row (k := k) (by rw [HN.out]; exact hlt)
      have HS2 : Hid (s + m = tot (xss.take (k + 1))) := by rw [Hid, tot_take HX.out, HS.out, HM.out]
      have hs2 : s + m ≤ 1000000 := by have := HTT.out (k + 1); have := HS2.out; omega
      have i1 : ¬ (s : Int) + (m : Int) < 0 := by omega
      go_wp2
      go_roundg (n - (k + 1))
      case measure => omega
      case rel => exact ⟨k + 1, s + m, rfl, by omega, by go_num, by go_num, HS2, rfl⟩
    · obtain rfl : k = n := by omega
      go_wp2_with (go_at_call 189; refine (f_GrowNil s _ hs1).mono ?_; rintro e w3 ⟨v3, rfl, ho3, hb3⟩)
      go_loopg [6, 27] k (fun g vo iv wr => ∃ q : Nat, g = k - q ∧ q ≤ k ∧ iv = .int .i64 q ∧ Own wr 3 w.heap.size vo (ints (xss.take q).flatten) ∧ Below w.heap.size w wr)
      case atStart => exact ⟨0, rfl, Nat.zero_le _, rfl, by simpa using ho3, hb3⟩
      case round =>
        clear ho3 hb3
        obtain ⟨q, hg, hq, rfl, ho, hb⟩ := hrel
        obtain ⟨ao, no, co, rfl, HNO, _, _⟩ := ho.rd.formN
        by_cases hlt : q < k
        · obtain ⟨ad, b, m, d, xs, rfl, hcr, HX, HM, hmd, hd, hrr⟩ := (h.below hb).row (k := q) (by rw [HN.out]; exact hlt)
          have HLN : Hid ((ints (xss.take q).flatten).length + (ints xs).length = no + m) := by rw [Hid, ints_length, ints_length, HNO.out, HM.out]
          have HVV : Hid (ints (xss.take q).flatten ++ ints xs = ints (xss.take (q + 1)).flatten) := by rw [Hid, flat_take HX.out, ints_append]
          have hs2 : no + m ≤ 1000000 := by
            have h1 := tot_take HX.out
            have h2 := HTT.out (q + 1)
            have h3 := HNO.out
            rw [flat_len] at h3
            have h4 := HM.out
            omega
          have hsb := hb.size
          have hn1 : (no + m) * 8 ≤ 140737488355328 := by omega
          have hn2 : no + m ≤ 9223372036854775807 := by omega
          go_wp2_with (at_builtin; (refine wpList_appn rfl _ _ 23 rfl elI ho hrr ?_ ?_ (oneCell_ints1 xs) hsb (no + m) HLN.out hn1 hn2 ?_); (focus (simp [Act.eval])); (focus (simp [Act.eval])); intro bn cn' w6 ho6 hg6 hat6)
          go_roundg (k - (q + 1))
          case measure => omega
          case rel => exact ⟨q + 1, rfl, by omega, by go_num, by rw [← HVV.out]; exact ho6, hb.grown hg6 hsb fun r hr => (ho.lt r hr).1⟩
        · obtain rfl : q = k := by omega
          go_wp2
          go_ret
          exact ⟨_, rfl, by rw [HFI.out]; exact ho, hb⟩

end Go.Proofs.YtggblfnajeikjaaGreatDoor

namespace Go.Proofs.YtggblfnajeikjaaGreatDoor
open Go.RowKit
set_option linter.unusedVariables false
set_option linter.unusedSimpArgs false

theorem tot_erase : ∀ {mss : List (List Int)} {k : Nat} {ms : List Int}, mss[k]? = some ms → tot (mss.eraseIdx k) + ms.length = tot mss
  | x :: t, 0, ms, h => by simp at h; subst h; simp [tot]; omega
  | x :: t, k + 1, ms, h => by
    have := tot_erase (mss := t) (k := k) (ms := ms) (by simpa using h)
    simp only [List.eraseIdx_cons_succ, tot, List.foldr_cons] at this ⊢
    omega
/-- The members' slices: each is owned and holds numbers below N; at most N in all. -/
structure MemAt (w : World) (B N : Nat) (vs : List Value) (mss : List (List Int)) : Prop where
  len : vs.length = mss.length
  own : ∀ (k : Nat) (u : Value) (ms : List Int), vs[k]? = some u → mss[k]? = some ms → Own w 3 B u (ints ms)
  rng : ∀ ms ∈ mss, ∀ x ∈ ms, 0 ≤ x ∧ x < (N : Int)
  few : Go.Proofs.YtggblfnajeikjaaGreatDoor.tot mss ≤ N
section
variable {w w' : World} {B N : Nat} {vs : List Value} {mss : List (List Int)}
theorem MemAt.nil (w : World) (B N : Nat) : MemAt w B N [] [] := ⟨rfl, fun k u ms h => by simp at h, fun ms h => by simp at h, Nat.zero_le _⟩
theorem MemAt.get (h : MemAt w B N vs mss) {k : Nat} {u : Value} (hu : vs[k]? = some u) : ∃ ms, mss[k]? = some ms ∧ Own w 3 B u (ints ms) ∧ (∀ x ∈ ms, 0 ≤ x ∧ x < (N : Int)) ∧ ms.length ≤ tot mss := by
  have hk := (List.getElem?_eq_some_iff.1 hu).1
  have hkm : k < mss.length := by rw [← h.len]; exact hk
  have hm : mss[k]? = some mss[k] := List.getElem?_eq_getElem (show k < mss.length by rw [← h.len]; exact hk)
  exact ⟨_, hm, h.own k u _ hu hm, h.rng _ (List.mem_of_getElem? hm), tot_mem (List.mem_of_getElem? hm)⟩
theorem MemAt.mem (h : MemAt w B N vs mss) {u : Value} (hu : u ∈ vs) : ∃ ms, Own w 3 B u (ints ms) := by
  obtain ⟨k, hk, rfl⟩ := List.getElem_of_mem hu
  obtain ⟨ms, _, ho, _⟩ := h.get (List.getElem?_eq_getElem hk)
  exact ⟨ms, ho⟩
theorem MemAt.keep (h : MemAt w B N vs mss) (hk : ∀ u ∈ vs, ∀ b, u.ownBlock = some b → w'.heap[b]? = w.heap[b]?) : MemAt w' B N vs mss :=
  ⟨h.len, fun k u ms hu hm => (h.own k u ms hu hm).keep fun b _ e => hk u (List.mem_of_getElem? hu) b e.symm, h.rng, h.few⟩
theorem MemAt.below (h : MemAt w B N vs mss) (hb : Below w.heap.size w w') : MemAt w' B N vs mss := h.keep fun u hu b e => by
  obtain ⟨ms, ho⟩ := h.mem hu
  exact hb.block b (ho.lt b e).2
theorem MemAt.fr {K : Nat → Prop} (h : MemAt w B N vs mss) (hf : Fr K w w') (hk : ∀ u ∈ vs, ∀ b, u.ownBlock = some b → K b) : MemAt w' B N vs mss := h.keep fun u hu b e => hf.block b (hk u hu b e)
theorem MemAt.erase (h : MemAt w B N vs mss) (k : Nat) : MemAt w B N (vs.eraseIdx k) (mss.eraseIdx k) := by
  have hl := h.len
  refine ⟨by rw [List.length_eraseIdx, List.length_eraseIdx, hl], fun j u ms hu hm => ?_, fun ms hm => h.rng ms (List.mem_of_mem_eraseIdx hm), ?_⟩
  · rw [List.getElem?_eraseIdx] at hu hm
    split at hu
    · rename_i e; rw [if_pos e] at hm; exact h.own _ _ _ hu hm
    · rename_i e; rw [if_neg e] at hm; exact h.own _ _ _ hu hm
  · by_cases e : k < mss.length
    · have := tot_erase (List.getElem?_eq_getElem e); have := h.few; omega
    · rw [List.eraseIdx_of_length_le (by omega)]; exact h.few
theorem MemAt.snoc (h : MemAt w B N vs mss) {u : Value} {ms : List Int} (ho : Own w 3 B u (ints ms)) (hr : ∀ x ∈ ms, 0 ≤ x ∧ x < (N : Int)) (ht : Go.Proofs.YtggblfnajeikjaaGreatDoor.tot mss + ms.length ≤ N) : MemAt w B N (vs ++ [u]) (mss ++ [ms]) := by
  have hl := h.len
  refine ⟨by simp [hl], fun k v xs hv hx => ?_, fun xs hx => ?_, by rw [tot_append, tot_one]; exact ht⟩
  · by_cases e : k < vs.length
    · rw [List.getElem?_append_left e] at hv
      rw [List.getElem?_append_left (by omega)] at hx
      exact h.own _ _ _ hv hx
    · have hk := (List.getElem?_eq_some_iff.1 hv).1
      simp at hk
      obtain rfl : k = vs.length := by omega
      rw [List.getElem?_append_right (by omega)] at hv hx
      simp [hl] at hv hx
      subst hv; subst hx
      exact ho
  · rcases List.mem_append.1 hx with hx | hx
    · exact h.rng xs hx
    · rw [List.mem_singleton] at hx; subst hx; exact hr
end

section
variable {w w1 : World} {br g n cap : Nat} {cur : Array Value} {ws : List Int} {vs : List Value}
theorem RunsAt.owns (H : RunsAt w br g n cap cur ws vs) : w.ownsRow 0 123 2 (.slice (some ⟨g, 0, none⟩) n cap) n (cur.toList.take (n * 2)) := by
  have h1 := H.size
  have h2 := H.le
  exact ⟨by simp; omega, .inr ⟨g, cap, cur, rfl, Nat.zero_le _, H.row, H.le, by have := H.capLe; simpa only [maxLen] using this, H.size, rfl⟩⟩
/-- One run more. -/
theorem RunsAt.app {g1 cap1 : Nat} {x : Int} {ua : Option Addr} {um uc : Nat} (H : RunsAt w br g n cap cur ws vs) (hne : br ≠ g)
    (ho : w1.ownsRow 0 123 2 (.slice (some ⟨g1, 0, none⟩) (n + 1) cap1) (n + 1) (cur.toList.take (n * 2) ++ [.int .i64 x, .slice ua um uc])) (hg : w.grownBy w1 (some g)) (hat : some g = some g1 ∨ g1 = w.heap.size) :
    br ≠ g1 ∧ (∃ cur1, RunsAt (w1.setCell ⟨br, 0, none⟩ (.slice (some ⟨g1, 0, none⟩) (n + 1) cap1)) br g1 (n + 1) cap1 cur1 (ws ++ [x]) (vs ++ [.slice ua um uc])) ∧
      Fr (fun k => k < w.heap.size ∧ k ≠ br ∧ k ≠ g) w (w1.setCell ⟨br, 0, none⟩ (.slice (some ⟨g1, 0, none⟩) (n + 1) cap1)) := by
  have hbr : br < w.heap.size := (Array.getElem?_eq_some_iff.1 H.box).1
  have hne1 : br ≠ g1 := by
    rcases hat with e | e
    · injection e with e; omega
    · omega
  have hbx : w1.heap[br]? = _ := (hg.block br hbr fun e => hne (by injection e)).trans H.box
  have hs := H.size
  have hle := H.le
  have hwl := H.wl
  have hvl := H.vl
  refine ⟨hne1, ?_, hg.os, hg.tape, hg.output, by simpa using hg.size, fun k ⟨hk, h1, h2⟩ => ?_⟩
  · obtain ⟨_, h0 | ⟨g2, cap2, cur2, hv, _, hrow, hn2, hc2, hsz2, htk⟩⟩ := ho
    · exact absurd h0.2 (by omega)
    · simp only [Value.slice.injEq, Option.some.injEq, Addr.mk.injEq] at hv
      obtain ⟨⟨rfl, _⟩, _, rfl⟩ := hv
      have hlt : (cur.toList.take (n * 2)).length = n * 2 := by simp; omega
      have hget : ∀ j, j < (n + 1) * 2 → cur2[j]? = if j < n * 2 then cur[j]? else [Value.int .i64 x, .slice ua um uc][j - n * 2]? := fun j hj => by
        rw [← Array.getElem?_toList, ← List.getElem?_take_of_lt hj, htk]
        by_cases e : j < n * 2
        · rw [if_pos e, List.getElem?_append_left (by omega), List.getElem?_take_of_lt e, Array.getElem?_toList]
        · rw [if_neg e, List.getElem?_append_right (by omega), hlt]
      refine ⟨cur2, heap_setCell_same w1 br 0 _ _ _ hbx, (heap_setCell_other w1 _ g1 _ (fun e => hne1 e.symm)).trans hrow, hsz2, hn2, by simpa only [maxLen] using hc2, by simp [hwl], by simp [hvl], fun k y hk => ?_, fun k u hk => ?_, fun k u hk => ?_⟩
      · have hkl := (List.getElem?_eq_some_iff.1 hk).1
        simp [hwl] at hkl
        rw [hget _ (by omega)]
        by_cases e : k < n
        · rw [List.getElem?_append_left (by omega)] at hk
          rw [if_pos (by omega)]; exact H.wc _ _ hk
        · obtain rfl : k = n := by omega
          rw [List.getElem?_append_right (by omega)] at hk
          simp [hwl] at hk
          subst hk
          rw [if_neg (by omega)]; simp
      · have hkl := (List.getElem?_eq_some_iff.1 hk).1
        simp [hvl] at hkl
        rw [hget _ (by omega)]
        by_cases e : k < n
        · rw [List.getElem?_append_left (by omega)] at hk
          rw [if_pos (by omega)]; exact H.vc _ _ hk
        · obtain rfl : k = n := by omega
          rw [List.getElem?_append_right (by omega)] at hk
          simp [hvl] at hk
          subst hk
          rw [if_neg (by omega), show k * 2 + 1 - k * 2 = 1 by omega]; rfl
      · rcases List.mem_append.1 (List.mem_of_getElem? hk) with h | h
        · obtain ⟨j, hj, rfl⟩ := List.getElem_of_mem h
          exact H.sl j _ (List.getElem?_eq_getElem hj)
        · rw [List.mem_singleton] at h; exact ⟨_, _, _, h⟩
  · exact (heap_setCell_other w1 _ k _ h1).trans (hg.block k hk fun e => h2 (by injection e))
end

end Go.Proofs.YtggblfnajeikjaaGreatDoor

namespace Go.Proofs.YtggblfnajeikjaaGreatDoor
open Go.RowKit
set_option linter.unusedVariables false
set_option linter.unusedSimpArgs false

/-- The state of the cheapest merge: the runs' slice in its box, the members' slices, the depths. -/
structure ChSt (w wr : World) (br g m cap n : Nat) (cur : Array Value) (ws : List Int) (vs : List Value) (mss : List (List Int)) (vd : Value) (ds : List Int) : Prop where
  runs : RunsAt wr br g m cap cur ws vs
  ne : br ≠ g
  brb : w.heap.size ≤ br
  gb : w.heap.size ≤ g
  mem : MemAt wr w.heap.size n vs mss
  dep : Own wr 3 w.heap.size vd (ints ds)
  ap : ∀ u ∈ vs, ∀ b, u.ownBlock = some b → vd.ownBlock ≠ some b
  bel : Below w.heap.size w wr
/-- One more slice beside the state: owned, of numbers below n, apart from the depths. -/
structure MsAt (w wr : World) (n : Nat) (vd u : Value) (ms : List Int) : Prop where
  own : Own wr 3 w.heap.size u (ints ms)
  rng : ∀ x ∈ ms, 0 ≤ x ∧ x < (n : Int)
  ap : ∀ b, u.ownBlock = some b → vd.ownBlock ≠ some b
section
variable {w wr w' : World} {br g m cap n : Nat} {cur cur' : Array Value} {ws : List Int} {vs : List Value} {mss : List (List Int)} {vd u v : Value} {ds ms : List Int}
theorem MsAt.below (h : MsAt w wr n vd u ms) (hb : Below wr.heap.size wr w') : MsAt w w' n vd u ms := ⟨h.own.below hb, h.rng, h.ap⟩
theorem MsAt.keep (h : MsAt w wr n vd u ms) (hb : ∀ b, u.ownBlock = some b → w'.heap[b]? = wr.heap[b]?) : MsAt w w' n vd u ms := ⟨h.own.keep fun k _ e => hb k e.symm, h.rng, h.ap⟩
theorem ChSt.below (h : ChSt w wr br g m cap n cur ws vs mss vd ds) (hb : Below wr.heap.size wr w') : ChSt w w' br g m cap n cur ws vs mss vd ds :=
  ⟨h.runs.below hb, h.ne, h.brb, h.gb, h.mem.below hb, h.dep.below hb, h.ap, h.bel.trans (hb.mono h.bel.size)⟩
/-- A slice of numbers lies neither in the box nor in the row. -/
theorem ChSt.far (h : ChSt w wr br g m cap n cur ws vs mss vd ds) {B : Nat} {ys : List Int} (ho : Own wr 3 B u (ints ys)) : ∀ b, u.ownBlock = some b → b < wr.heap.size ∧ b ≠ br ∧ b ≠ g := fun b hb =>
  ⟨(ho.lt b hb).2, fun e => own_ne_box ho h.runs.box (by decide) (e ▸ hb), fun e => own_ne_box ho h.runs.row (by decide) (e ▸ hb)⟩
/-- Behind the closure: the state is one run shorter; the run's members are beside it. -/
theorem ChSt.took (h : ChSt w wr br g m cap n cur ws vs mss vd ds) (hu : vs[minI ws]? = some u) (hr : RunsAt w' br g (m - 1) cap cur' (restL ws) (vs.eraseIdx (minI ws))) (hf : Fr (fun k => k < wr.heap.size ∧ k ≠ br ∧ k ≠ g) wr w') :
    ∃ ms, mss[minI ws]? = some ms ∧ tot (mss.eraseIdx (minI ws)) + ms.length = tot mss ∧ ChSt w w' br g (m - 1) cap n cur' (restL ws) (vs.eraseIdx (minI ws)) (mss.eraseIdx (minI ws)) vd ds ∧ MsAt w w' n vd u ms := by
  obtain ⟨ms, hm, ho, hrg, hl⟩ := h.mem.get hu
  have hfar : ∀ x ∈ vs, ∀ b, x.ownBlock = some b → b < wr.heap.size ∧ b ≠ br ∧ b ≠ g := fun x hx b hb => by
    obtain ⟨ys, hy⟩ := h.mem.mem hx
    exact h.far hy b hb
  have hbel : Below w.heap.size w w' := ⟨hf.os.trans h.bel.os, hf.tape.trans h.bel.tape, hf.output.trans h.bel.output, Nat.le_trans h.bel.size hf.size, fun k hk => (hf.block k ⟨by have := h.bel.size; omega, by have := h.brb; omega, by have := h.gb; omega⟩).trans (h.bel.block k hk)⟩
  refine ⟨ms, hm, tot_erase hm, ⟨hr, h.ne, h.brb, h.gb, (h.mem.fr hf hfar).erase _, h.dep.keep fun k _ e => hf.block k (h.far h.dep k e.symm), fun x hx => h.ap x (List.mem_of_mem_eraseIdx hx), hbel⟩, ?_⟩
  exact ⟨ho.keep fun k _ e => hf.block k (hfar u (List.mem_of_getElem? hu) k e.symm), hrg, h.ap u (List.mem_of_getElem? hu)⟩
/-- A slice beside the state is kept by the closure. -/
theorem ChSt.kept (h : ChSt w wr br g m cap n cur ws vs mss vd ds) (hm : MsAt w wr n vd v ms) (hf : Fr (fun k => k < wr.heap.size ∧ k ≠ br ∧ k ≠ g) wr w') : MsAt w w' n vd v ms :=
  hm.keep fun b hb => hf.block b (h.far hm.own b hb)
/-- One run is appended. -/
theorem ChSt.app {w1 : World} {g1 cap1 um uc : Nat} {ua : Option Addr} {x : Int} (h : ChSt w wr br g m cap n cur ws vs mss vd ds) (hu : MsAt w wr n vd (.slice ua um uc) ms) (ht : tot mss + ms.length ≤ n)
    (ho : w1.ownsRow 0 123 2 (.slice (some ⟨g1, 0, none⟩) (m + 1) cap1) (m + 1) (cur.toList.take (m * 2) ++ [.int .i64 x, .slice ua um uc])) (hg : wr.grownBy w1 (some g)) (hat : some g = some g1 ∨ g1 = wr.heap.size) :
    ∃ cur1, ChSt w (w1.setCell ⟨br, 0, none⟩ (.slice (some ⟨g1, 0, none⟩) (m + 1) cap1)) br g1 (m + 1) cap1 n cur1 (ws ++ [x]) (vs ++ [.slice ua um uc]) (mss ++ [ms]) vd ds := by
  obtain ⟨h1, ⟨cur1, h2⟩, h3⟩ := h.runs.app h.ne ho hg hat
  have hfar : ∀ x ∈ vs, ∀ b, x.ownBlock = some b → b < wr.heap.size ∧ b ≠ br ∧ b ≠ g := fun x hx b hb => by
    obtain ⟨ys, hy⟩ := h.mem.mem hx
    exact h.far hy b hb
  have hbel : Below w.heap.size w (w1.setCell ⟨br, 0, none⟩ (.slice (some ⟨g1, 0, none⟩) (m + 1) cap1)) := ⟨h3.os.trans h.bel.os, h3.tape.trans h.bel.tape, h3.output.trans h.bel.output, Nat.le_trans h.bel.size h3.size, fun k hk => (h3.block k ⟨by have := h.bel.size; omega, by have := h.brb; omega, by have := h.gb; omega⟩).trans (h.bel.block k hk)⟩
  have hum := h.kept hu h3
  refine ⟨cur1, h2, h1, h.brb, ?_, (h.mem.fr h3 hfar).snoc hum.own hum.rng ht, h.dep.keep fun k _ e => h3.block k (h.far h.dep k e.symm), fun y hy => ?_, hbel⟩
  · rcases hat with e | e
    · injection e with e; have := h.gb; omega
    · have := h.bel.size; omega
  · rcases List.mem_append.1 hy with hy | hy
    · exact h.ap y hy
    · rw [List.mem_singleton] at hy; subst hy; exact hu.ap
/-- The depths are made. -/
theorem ChSt.withd {b : Addr} (h : ChSt w wr br g m cap n cur ws vs mss vd ds) (hb : b.block = wr.heap.size) {ds' : List Int} {dn dc : Nat} (ho : Own w' 3 wr.heap.size (.slice (some b) dn dc) (ints ds')) (hg : wr.grownBy w' none) :
    ChSt w w' br g m cap n cur ws vs mss (.slice (some b) dn dc) ds' := by
  have hbl : Below wr.heap.size wr w' := (Below.refl _ _).grown hg (Nat.le_refl _) (fun _ h => by cases h)
  have h1 := h.below hbl
  refine ⟨h1.runs, h1.ne, h1.brb, h1.gb, h1.mem, ho.mono h.bel.size, fun u hu q hq e => ?_, h1.bel⟩
  obtain ⟨ys, hy⟩ := h.mem.mem hu
  have := (h.far hy q hq).1
  simp only [Value.ownBlock, Option.some.injEq] at e
  omega
/-- A depth is written. -/
theorem ChSt.setd {ad : Addr} {dn dc k : Nat} (h : ChSt w wr br g m cap n cur ws vs mss (.slice (some ad) dn dc) ds) (hk : k < ds.length) (y : Int) :
    ChSt w (wr.setCell (ad.add k) (.int .i64 y)) br g m cap n cur ws vs mss (.slice (some ad) dn dc) (ds.set k y) ∧ ∀ b, (Value.slice (some ad) dn dc).ownBlock ≠ some b → (wr.setCell (ad.add k) (.int .i64 y)).heap[b]? = wr.heap[b]? := by
  have hb : ∀ b, (Value.slice (some ad) dn dc).ownBlock ≠ some b → (wr.setCell (ad.add k) (.int .i64 y)).heap[b]? = wr.heap[b]? := fun b hb => heap_setCell_other wr _ b _ fun e => hb (by rw [e, block_of_add]; rfl)
  obtain ⟨h1, h2⟩ := h.dep.seti rfl hk y
  obtain ⟨_, hn1, hn2⟩ := h.far h.dep ad.block rfl
  have hbx := (hb br (by intro e; injection e with e; exact hn1 e)).trans h.runs.box
  have hrw := (hb g (by intro e; injection e with e; exact hn2 e)).trans h.runs.row
  refine ⟨⟨⟨hbx, hrw, h.runs.size, h.runs.le, h.runs.capLe, h.runs.wl, h.runs.vl, h.runs.wc, h.runs.vc, h.runs.sl⟩, h.ne, h.brb, h.gb, h.mem.keep fun u hu b e => hb b (h.ap u hu b e), h1, h.ap, ?_⟩, hb⟩
  exact h.dep.below_set rfl hk _ h.bel (Nat.le_refl _)
end

end Go.Proofs.YtggblfnajeikjaaGreatDoor

namespace Go.Proofs.YtggblfnajeikjaaGreatDoor
open Go.RowKit
set_option linter.unusedVariables false
set_option linter.unusedSimpArgs false

theorem RunsL.perm {S : Int} {a b : List Int} (h : RunsL S a) (hp : b.Perm a) : RunsL S b := ⟨(sumL_perm hp).trans h.1, by rw [hp.length_eq]; exact h.2.1, fun x hx => h.2.2 x (hp.mem_iff.1 hx)⟩
theorem RunsL.take2 {S : Int} {ws : List Int} (h : RunsL S ws) (h2 : 1 < ws.length) : 1 ≤ minV ws ∧ 1 ≤ minV (restL ws) ∧ minV ws + minV (restL ws) ≤ S ∧ RunsL S (restL (restL ws) ++ [minV ws + minV (restL ws)]) := by
  have hl := restL_len (ws := ws) (by omega)
  have p1 := restL_perm (ws := ws) (by omega)
  have p2 := restL_perm (ws := restL ws) (by omega)
  exact (h.perm ((p2.cons _).trans p1)).pair
theorem icL_step {C Z : Int} {ws : List Int} {m : Nat} (hm : m + 1 = ws.length) (h2 : 1 < ws.length) (h : C + icL (m + 1) ws = Z) : (C + (minV ws + minV (restL ws))) + icL m (restL (restL ws) ++ [minV ws + minV (restL ws)]) = Z := by
  rw [icL, if_pos h2] at h
  omega

theorem bcells {W w1 : World} (hb : Below W.heap.size W w1) : (∀ b o, b < W.heap.size → w1.cell? ⟨b, o, none⟩ = W.cell? ⟨b, o, none⟩) ∧ (∀ b o, b < W.heap.size → w1.frozen? ⟨b, o, none⟩ = W.frozen? ⟨b, o, none⟩) :=
  ⟨fun b o h => hb.cell (p := ⟨b, o, none⟩) h, fun b o h => hb.frozen (p := ⟨b, o, none⟩) h⟩
theorem hnew {w : World} {o : Obj} {n : Nat} (h : n = w.heap.size) : (w.alloc o).heap[n]? = some o := by subst h; exact heap_alloc_new w o
theorem hnewD {w : World} {o : Obj} {n : Nat} (h : n = w.heap.size) : (w.alloc o).drew.heap[n]? = some o := hnew h
theorem hnew2 {w : World} {o p : Obj} {n : Nat} (h : n = w.heap.size) : ((w.alloc o).alloc p).heap[n]? = some o := by subst h; exact (Below.heap_alloc _ _ _ (by simp)).trans (heap_alloc_new w o)
theorem hnew2D {w : World} {o p : Obj} {n : Nat} (h : n = w.heap.size) : ((w.alloc o).alloc p).drew.heap[n]? = some o := hnew2 h
theorem rd2_two {w : World} {q : Nat} {u1 u2 : Value} {T : Nat} {xs ys : List Int} (hq : w.heap[q]? = some (.cells #[u1, u2] T (0, 0))) (h1 : Rd w u1 (ints xs)) (h2 : Rd w u2 (ints ys)) : Rd2 w (.slice (some ⟨q, 0, none⟩) 2 2) [xs, ys] := by
  refine ⟨[u1, u2], ⟨some ⟨q, 0, none⟩, 2, rfl, by simp, by omega, fun _ => ⟨_, rfl, fun j u hu => ?_⟩⟩, rfl, fun i r hr => ?_⟩
  · rw [Addr.add_lit, cell_of_row w q _ _ _ (0, 0) hq]
    match j, hu with
    | 0, hu => simpa using hu
    | 1, hu => simpa using hu
  · match i, hr with
    | 0, hr => simp at hr; subst hr; exact ⟨xs, rfl, h1⟩
    | 1, hr => simp at hr; subst hr; exact ⟨ys, rfl, h2⟩
def RetCat (w5 W : World) (ms : List Int) (e : Ending) (w' : World) : Prop := ∃ (a3 : Option Addr) (m3 c3 : Nat), e = .returned (.slice a3 m3 c3) ∧ Own w' 3 W.heap.size (.slice a3 m3 c3) (ints ms) ∧ Below W.heap.size W w' ∧ Below w5.heap.size w5 w'

set_option maxRecDepth 100000 in
set_option maxHeartbeats 4000000 in
theorem i_cheapest (v : Value) (xs : List Int) (w : World) (h : Rd w v (ints xs)) (hs : lensB xs = true) : Calls Tryz.prog 90 #[v] w (RetCh (cm xs) w) := by
  obtain ⟨hR, hS0, hS1⟩ := RunsL.of hs
  have HXB := Lib.hid (lensB_iff.1 hs).2
  have HZ : Hid (icL xs.length xs = cm xs) := by rw [Hid, icL_cmL]; rfl
  have h8x := hR.2.1
  have HR := Lib.hid hR
  generalize cm xs = Z at HZ ⊢
  generalize sumL xs = S at HR hS0 hS1
  obtain ⟨a, n, c, rfl, HN, hnc, hc⟩ := h.formN
  have h8 : n ≤ 8 := by have := HN.out; omega
  obtain ⟨inf, hu, hinf, hz, hs2, hby⟩ := elRun
  have EL : Hid (Tryz.prog.underlying 121 = some (.slice 123) ∧ Tryz.prog.info? 123 = some inf ∧ inf.zero = some (.agg #[.int .i64 0, .slice none 0 0]) ∧ inf.size = 2 ∧ inf.bytes = 32) := ⟨hu, hinf, hz, hs2, hby⟩
  obtain ⟨w0, hw0⟩ : ∃ w0, (w.alloc (.cells #[] 123)).alloc (.cells #[.slice (some ⟨w.heap.size, 0, none⟩) 0 0] 121) = w0 := ⟨_, rfl⟩
  have hb0 : Below w.heap.size w w0 := by rw [← hw0]; exact ((Below.refl _ _).alloc (Nat.le_refl _) _).alloc (by simp) _
  have HR0 : RunsAt w0 (w.heap.size + 1) w.heap.size 0 0 #[] [] [] := by
    rw [← hw0]
    refine ⟨by have := heap_alloc_new (w.alloc (.cells #[] 123)) (.cells #[.slice (some ⟨w.heap.size, 0, none⟩) 0 0] 121); simpa using this, (Below.heap_alloc _ _ _ (by simp)).trans (heap_alloc_new w _), rfl, Nat.le_refl _, by omega, rfl, rfl, fun k x h => by simp at h, fun k x h => by simp at h, fun k x h => by simp at h⟩
  clear hR hs h8x hu hinf hz hs2 hby
  go_enter Tryz.func90, Tryz.ntmps90
  go_upto_region 2 with (fail)
  have HS0 : ChSt w w0 (w.heap.size + 1) w.heap.size 0 0 n #[] (xs.take 0) [] [] (.slice none 0 0) [] := ⟨HR0, by omega, by omega, Nat.le_refl _, MemAt.nil _ _ _, Own.nil _ _ _, fun u hu => by simp at hu, hb0⟩
  obtain ⟨br, hbr⟩ : ∃ br, w.heap.size + 1 = br := ⟨_, rfl⟩
  rw [hbr] at HS0 ⊢
  clear hbr HR0 hw0 hb0
  go_wp2_with fail
  go_loopg [18] n (fun gk iv wr => ∃ (k g cap : Nat) (cur : Array Value) (vs : List Value) (mss : List (List Int)), gk = n - k ∧ k ≤ n ∧ iv = .int .i64 k ∧ ChSt w wr br g k cap n cur (xs.take k) vs mss (.slice none 0 0) [] ∧ Hid (tot mss = k))
  case atStart => exact ⟨0, w.heap.size, 0, #[], [], [], rfl, Nat.zero_le _, rfl, HS0, rfl⟩
  case round =>
    clear HS0
    obtain ⟨k, g, cap, cur, vs, mss, hg, hk, rfl, HS, HT⟩ := hrel
    by_cases hlt : k < n
    · obtain ⟨ad, x, rfl, hcx, hx⟩ := (h.below HS.bel).int (k := k) (by have := HN.out; omega)
      have c0 := HS.runs.bcell
      obtain ⟨W2, hW2⟩ : ∃ W2, (wr.alloc (.cells #[.int .i64 k] 3)).alloc (.cells #[.int .i64 x, .slice (some ⟨wr.heap.size, 0, none⟩) 1 1] 123) = W2 := ⟨_, rfl⟩
      have hbW : Below wr.heap.size wr W2 := by rw [← hW2]; exact ((Below.refl _ _).alloc (Nat.le_refl _) _).alloc (by simp) _
      have HS2 := HS.below hbW
      have hO := (Own.lit wr 3 (B := w.heap.size) #[.int .i64 (k : Int)] HS.bel.size (by simp)).alloc (.cells #[.int .i64 x, .slice (some ⟨wr.heap.size, 0, none⟩) 1 1] 123)
      rw [hW2] at hO
      have HM : MsAt w W2 n (.slice none 0 0) (.slice (some ⟨wr.heap.size, 0, none⟩) 1 1) [(k : Int)] := ⟨hO, fun y hy => by simp at hy; subst hy; omega, fun b _ e => by cases e⟩
      have HNW : Hid (∀ j u, ([.int .i64 x, .slice (some ⟨wr.heap.size, 0, none⟩) 1 1] : List Value)[j]? = some u → W2.cell? ((⟨wr.heap.size + 1, 0, none⟩ : Addr).add j) = some u) := by
        have := World.news_of_block (w := W2) (B := wr.heap.size + 1) (cs := #[.int .i64 x, .slice (some ⟨wr.heap.size, 0, none⟩) 1 1]) (t := 123) (fr := (0, 0)) (by rw [← hW2]; have := heap_alloc_new (wr.alloc (.cells #[.int .i64 k] 3)) (.cells #[.int .i64 x, .slice (some ⟨wr.heap.size, 0, none⟩) 1 1] 123); simpa using this)
        exact this
      have HW2 := Lib.hid hW2
      have HSH := Lib.hid HS2
      have HMH := Lib.hid HM
      have hz2 : W2.heap.size = wr.heap.size + 1 + 1 := by rw [← hW2]; simp
      have HZ2 := Lib.hid hz2
      have HXX : Hid (xs.take (k + 1) = xs.take k ++ [x]) := take_snoc' hx.out
      have HOW := Lib.hid HS2.runs.owns
      have HFIN : Hid (∀ (w1 : World) (g1 cap1 : Nat), w1.ownsRow 0 123 2 (.slice (some ⟨g1, 0, none⟩) (k + 1) cap1) (k + 1) (cur.toList.take (k * 2) ++ [.int .i64 x, .slice (some ⟨wr.heap.size, 0, none⟩) 1 1]) → W2.grownBy w1 (some g) → (some g = some g1 ∨ g1 = W2.heap.size) →
          (∃ cur1, ChSt w (w1.setCell ⟨br, 0, none⟩ (.slice (some ⟨g1, 0, none⟩) (k + 1) cap1)) br g1 (k + 1) cap1 n cur1 (xs.take (k + 1)) (vs ++ [.slice (some ⟨wr.heap.size, 0, none⟩) 1 1]) (mss ++ [[(k : Int)]]) (.slice none 0 0) []) ∧ w1.cell? ⟨br, 0, none⟩ = some (.slice (some ⟨g, 0, none⟩) k cap) ∧ w1.frozen? ⟨br, 0, none⟩ = false) := fun w1 g1 cap1 q1 q2 q3 => by
        have hbx := (q2.block br (box_lt HS2.runs.box) fun e => HS2.ne (by injection e)).trans HS2.runs.box
        refine ⟨?_, box_cell hbx 0, frozen_of_row w1 br 0 _ _ hbx⟩
        rw [HXX.out]
        exact HS2.app HM (by have := HT.out; simp; omega) q1 q2 q3
      have HTT : Hid (tot (mss ++ [[(k : Int)]]) = k + 1) := by rw [Hid, tot_append, tot_one, HT.out]; rfl
      clear hW2 HS2 HM hO hbW hz2 hx HS
      obtain ⟨e1, e2, e3, e4, e5⟩ := EL.out
      have E1 := Lib.hid e1
      have E2 := Lib.hid e2
      have E3 := Lib.hid e3
      have E4 := Lib.hid e4
      have E5 := Lib.hid e5
      clear e1 e2 e3 e4 e5
      go_wp2_with (at_builtin; rw [HW2.out]; refine wpList_append_lies _ rfl _ _ _ rfl 0 123 inf (.agg #[.int .i64 0, .slice none 0 0]) 2 32 E1.out E2.out E3.out E4.out E5.out rfl (by omega) (.slice (some ⟨g, 0, none⟩) k cap) k (cur.toList.take (k * 2)) rfl HOW.out ⟨wr.heap.size + 1, 0, none⟩ 1 1 [.int .i64 x, .slice (some ⟨wr.heap.size, 0, none⟩) 1 1] rfl rfl HNW.out (by simp [Value.oneCell']) (by omega) (by simp only [maxLen]; omega) (by omega) (Nat.zero_le _) _ rfl ?_; intro g1 cap1 w1 hown hgrow hat hlt1; obtain ⟨hA, hB, hC⟩ := HFIN.out w1 g1 cap1 hown hgrow hat; obtain ⟨cur1, hS1⟩ := hA; have HS1 := Lib.hid hS1; clear hS1 hown hgrow hat)
      go_roundg (n - (k + 1))
      case measure => omega
      case rel => exact ⟨k + 1, g1, cap1, cur1, _, _, rfl, hlt, by go_num, HS1.out, HTT.out⟩
    · obtain rfl : k = n := by omega
      have HXT : Hid (xs.take k = xs) := by rw [Hid, HN.out]; exact List.take_length
      rw [HXT.out] at HS
      have hsz := HS.bel.size
      go_wp2_with (at_make; refine wpList_mk (n := k) (B := wr.heap.size) rfl _ _ 23 rfl elI rfl rfl (Nat.le_refl _) (by omega) (by omega) ?_; intro bD w2 hbD hoD hgD)
      have hoD2 : Own w2 3 wr.heap.size (.slice (some bD) k k) (ints (List.replicate k 0)) := by simpa [ints] using hoD
      have HSD := HS.withd hbD hoD2 hgD
      have HD0 : Hid ((List.replicate k (0 : Int)).length = k) := by rw [Hid, List.length_replicate]
      have HZ1 : Hid ((0 : Int) + icL k xs = Z) := by rw [Hid, ← HZ.out, ← HN.out]; omega
      have h80 : (0 : Int) ≤ 8000 * (8 - (k : Int)) := by omega
      clear hoD hoD2 hgD hsz HS HT h
      go_loopg [8] k (fun gk cv wr => ∃ (m g cap : Nat) (cur : Array Value) (ws : List Int) (vs : List Value) (mss : List (List Int)) (ds : List Int) (C : Int), gk = m ∧ m ≤ k ∧ cv = .int .i64 C ∧ 0 ≤ C ∧ C ≤ 8000 * (8 - (m : Int)) ∧ Hid (RunsL S ws) ∧ Hid (C + icL m ws = Z) ∧ Hid (ds.length = k) ∧ ChSt w wr br g m cap k cur ws vs mss (.slice (some bD) k k) ds)
      case atStart => exact ⟨k, g, cap, cur, xs, vs, mss, _, 0, rfl, Nat.le_refl _, rfl, by omega, h80, HR, HZ1, HD0, HSD⟩
      case round =>
        clear HSD HD0 HZ1 h80
        obtain ⟨m, g, cap, cur, ws, vs, mss, ds, C, hg, hm, rfl, hC0, hC1, HR, HZ, HDS, HS⟩ := hrel
        have c0 := HS.runs.bcell
        by_cases hlt : 1 < m
        · have i1 : (1 : Int) < (m : Int) := by omega
          have HWL : Hid (m = ws.length) := HS.runs.wl.symm
          obtain ⟨hA1, hB1, hAB, hR2⟩ := HR.out.take2 (by have := HWL.out; omega)
          obtain ⟨f, rfl⟩ : ∃ f, m = f + 1 := ⟨m - 1, by omega⟩
          have HZ2 := Lib.hid (icL_step (by have := HWL.out; omega) (by have := HWL.out; omega) HZ.out)
          have HR2 := Lib.hid hR2
          clear hR2 HZ
          go_wp2_with fail
          refine (i_takeRun br g (f + 1) cap cur ws vs _ HS.runs (by omega) HS.ne).mono ?_
          rintro e w3 ⟨u1, cur1, rfl, hu1, hr1, hf1⟩
          obtain ⟨a1, um1, uc1, rfl⟩ := HS.runs.sl _ _ hu1
          obtain ⟨ms1, hm1, ht1, hS1, hM1⟩ := HS.took hu1 hr1 hf1
          have HT1 := Lib.hid ht1
          have HK : Hid (tot mss ≤ k) := HS.mem.few
          have hb4 : Below w3.heap.size w3 (w3.alloc (.cells #[.int .i64 (minV ws), .slice a1 um1 uc1] 123)) := (Below.refl _ _).alloc (Nat.le_refl _) _
          have hS4 := hS1.below hb4
          have hM4 := hM1.below hb4
          have hx4 := heap_alloc_new w3 (.cells #[.int .i64 (minV ws), .slice a1 um1 uc1] 123 (0, 0))
          obtain ⟨hbr3, hg3⟩ := (⟨box_lt hS1.runs.box, box_lt hS1.runs.row⟩ : br < w3.heap.size ∧ g < w3.heap.size)
          have HF : Hid (∀ W : World, Fr (fun k => k < (w3.alloc (.cells #[.int .i64 (minV ws), .slice a1 um1 uc1] 123)).heap.size ∧ k ≠ br ∧ k ≠ g) (w3.alloc (.cells #[.int .i64 (minV ws), .slice a1 um1 uc1] 123)) W → W.heap[w3.heap.size]? = some (.cells #[.int .i64 (minV ws), .slice a1 um1 uc1] 123 (0, 0)) ∧ MsAt w W k (.slice (some bD) k k) (.slice a1 um1 uc1) ms1 ∧ w3.heap.size < W.heap.size) := fun W hf =>
            ⟨(hf.block _ ⟨by simp, by omega, by omega⟩).trans hx4, hS4.kept hM4 hf, by have := hf.size; simp at this; omega⟩
          clear hS1 hM1 hu1 hr1 hf1 hm1 ht1 hx4 hM4 HS c0
          go_wp2_with fail
          refine (i_takeRun br g (f + 1 - 1) cap cur1 (restL ws) (vs.eraseIdx (minI ws)) _ hS4.runs (by omega) hS4.ne).mono ?_
          rintro e w4 ⟨u2, cur2, rfl, hu2, hr2, hf2⟩
          obtain ⟨a2, um2, uc2, rfl⟩ := hS4.runs.sl _ _ hu2
          obtain ⟨ms2, hm2, ht2, hS5, hM5⟩ := hS4.took hu2 hr2 hf2
          obtain ⟨hxa, hMa, hza⟩ := HF.out _ hf2
          have HT2 := Lib.hid ht2
          have hb5 : Below w4.heap.size w4 (w4.alloc (.cells #[.int .i64 (minV (restL ws)), .slice a2 um2 uc2] 123)) := (Below.refl _ _).alloc (Nat.le_refl _) _
          have hS6 := hS5.below hb5
          have hM6 := hM5.below hb5
          have hMa6 := hMa.below hb5
          have hxb := heap_alloc_new w4 (.cells #[.int .i64 (minV (restL ws)), .slice a2 um2 uc2] 123 (0, 0))
          have hxa6 := (hb5.block _ hza).trans hxa
          clear hS5 hM5 hu2 hr2 hf2 hm2 ht2 hxa hMa hS4 hb4 hb5
          go_wp2_with fail
          obtain ⟨w5, hw5⟩ : ∃ w5, w4.alloc (.cells #[.int .i64 (minV (restL ws)), .slice a2 um2 uc2] 123) = w5 := ⟨_, rfl⟩
          have hz5 : w5.heap.size = w4.heap.size + 1 := by rw [← hw5]; simp
          rw [hw5] at hS6 hM6 hMa6 hxb hxa6 ⊢
          have hzb : w4.heap.size < w5.heap.size := by omega
          have hza5 : w3.heap.size < w5.heap.size := by omega
          clear hw5 hz5
          obtain ⟨bA, hbA⟩ : ∃ bA, w3.heap.size = bA := ⟨_, rfl⟩
          obtain ⟨bB, hbB⟩ : ∃ bB, w4.heap.size = bB := ⟨_, rfl⟩
          rw [hbA] at hxa6 hza5 hza ⊢
          rw [hbB] at hxb hzb hza ⊢
          clear hbA hbB hbr3 hg3 HF
          have HFW : Hid (tot ((mss.eraseIdx (minI ws)).eraseIdx (minI (restL ws))) + (ms1 ++ ms2).length ≤ k) := by
            have h1 := HT1.out
            have h2 := HT2.out
            have h3 := HK.out
            rw [Hid, List.length_append]; omega
          clear HT1 HT2 HK
          generalize minV (restL ws) = B at *
          generalize minV ws = A at *
          generalize restL (restL ws) = ws2 at *
          generalize (vs.eraseIdx (minI ws)).eraseIdx (minI (restL ws)) = vs2 at *
          generalize (mss.eraseIdx (minI ws)).eraseIdx (minI (restL ws)) = mss2 at *
          have hA0 : 0 ≤ A + B := by omega
          have hA1 : A + B ≤ 8000 := by omega
          have hsum : IntKind.i64.wrap (A + B) = A + B := IntWalk.i64_in _ (by omega)
          have HMS : Hid (∀ W : World, Below w5.heap.size w5 W → MsAt w W k (.slice (some bD) k k) (.slice a1 um1 uc1) ms1 ∧ MsAt w W k (.slice (some bD) k k) (.slice a2 um2 uc2) ms2) := fun W hW => ⟨hMa6.below hW, hM6.below hW⟩
          have HKS : Hid (∀ W : World, Below w5.heap.size w5 W → Below w5.heap.size w5 W ∧ W.cell? ⟨bA, 0, none⟩ = some (.int .i64 A) ∧ W.cell? ⟨bA, 1, none⟩ = some (.slice a1 um1 uc1) ∧ W.cell? ⟨bB, 0, none⟩ = some (.int .i64 B) ∧ W.cell? ⟨bB, 1, none⟩ = some (.slice a2 um2 uc2)) := fun W hW =>
            ⟨hW, box_cell ((hW.block _ hza5).trans hxa6) 0, box_cell ((hW.block _ hza5).trans hxa6) 1, box_cell ((hW.block _ hzb).trans hxb) 0, box_cell ((hW.block _ hzb).trans hxb) 1⟩
          obtain ⟨_, d0, d1, d2, d3⟩ := HKS.out w5 (Below.refl _ _)
          have HCC : Hid (∀ (W : World) (q : Nat), Below w5.heap.size w5 W → W.heap[q]? = some (.cells #[.slice a1 um1 uc1, .slice a2 um2 uc2] 23 (0, 0)) → Calls Tryz.prog 143 #[.slice (some ⟨q, 0, none⟩) 2 2] W (RetCat w5 W (ms1 ++ ms2))) := fun W q hW hq => by
            obtain ⟨m1, m2⟩ := HMS.out W hW
            have hr := rd2_two hq m1.own.rd m2.own.rd
            have hlen := HFW.out
            refine (f_Concat _ [ms1, ms2] W hr (by simp [tot]; rw [List.length_append] at hlen; omega)).mono ?_
            rintro e w' ⟨v3, rfl, ho, hb⟩
            obtain ⟨a3, m3, c3, rfl, _, _, _⟩ := ho.rd.formN
            exact ⟨a3, m3, c3, rfl, by simpa using ho, hb, hW.trans (hb.mono hW.size)⟩
          go_cut [12] (fun vb wx => ∃ (bb : Nat) (a3 : Option Addr) (m3 c3 : Nat), vb = .pointer (some ⟨bb, 0, none⟩) ∧ wx.heap[bb]? = some (.cells #[.int .i64 (A + B), .slice a3 m3 c3] 123 (0, 0)) ∧ Own wx 3 w5.heap.size (.slice a3 m3 c3) (ints (ms1 ++ ms2)) ∧ Below w5.heap.size w5 wx)
          case first =>
            clear hS6 hM6 hMa6 hxb hxa6
            go_region_held3 (fun wx => Below w5.heap.size w5 wx ∧ wx.cell? ⟨bA, 0, none⟩ = some (.int .i64 A) ∧ wx.cell? ⟨bA, 1, none⟩ = some (.slice a1 um1 uc1) ∧ wx.cell? ⟨bB, 0, none⟩ = some (.int .i64 B) ∧ wx.cell? ⟨bB, 1, none⟩ = some (.slice a2 um2 uc2))
              (first | exact HKS.out _ g3 | exact HKS.out _ (Below.alloc g3 (Below.size g3) _) | (refine HKS.out _ (Below.setCell (Below.setCell g3 ?_ _) ?_ _) <;> (simp <;> omega)) | exact HKS.out _ (by first | exact (Below.refl _ _) | exact ((Below.refl _ _).drew) | exact ((Below.refl _ _).drew).alloc (by simp) _ | exact (((Below.refl _ _).drew).alloc (by simp) _).alloc (by simp) _) | go_keep)
              (first
                | (go_at_call 143; (with_reducible refine (HCC.out _ _ (by exact (show _ ∧ _ ∧ _ from by assumption).1) (by first | (refine hnew ?_; (simp; done)) | (refine hnewD ?_; (simp; done)) | (refine hnew2 ?_; (simp; done)) | (refine hnew2D ?_; (simp; done)))).mono ?_); rintro e w6 ⟨a3, m3, c3, rfl, ho3, hb3, g3⟩; obtain ⟨hc6, hf6⟩ := bcells hb3))
            all_goals
              have hlt3 : ∀ q, q < w6.heap.size → True := fun _ _ => trivial
              have hz6 := hb3.size
              simp at hz6
              have hne : ∀ q, (Value.slice a3 m3 c3).ownBlock = some q → w5.heap.size + 1 ≤ q := fun q hq => by
                have := (ho3.lt q hq).1
                simp at this
                omega
              clear hsum
              go_wp2_with (fail)
              go_meet
              refine ⟨_, a3, m3, c3, rfl, ?_, ?_, ?_⟩
              · first
                  | exact hnew rfl
                  | (refine box2 ((hb3.block _ ?_).trans (hnew2D (w := w5) (n := w5.heap.size) rfl)); (simp <;> omega))
                  | (refine box2 ((hb3.block _ ?_).trans (hnewD (n := w5.heap.size + 1) ?_)) <;> (simp <;> omega))
              · first
                  | exact (ho3.mono (by simp <;> omega)).alloc _
                  | (refine ((ho3.mono ?_).setCell ?_ _).setCell ?_ _ <;> (simp; done))
                  | (refine ((ho3.mono ?_).setCell ?_ _).setCell ?_ _; all_goals (first | (simp; done) | (simp; omega) | (intro e; have := (ho3.lt _ e).1; simp at this; omega) | (intro e; have := (ho3.lt _ e).1; simp at this)))
              · first
                  | exact Below.alloc g3 (Below.size g3) _
                  | (refine Below.setCell (Below.setCell g3 ?_ _) ?_ _ <;> (simp <;> omega))
          case rest =>
          obtain ⟨bb, a3, m3, c3, rfl, hbx, ho3, hb3⟩ := hcut
          have hSc := hS6.below hb3
          obtain ⟨M1, M2⟩ := HMS.out _ hb3
          have hwz := hS6.bel.size
          have hDlt := (hS6.far hS6.dep bD.block rfl).1
          have hM3 : MsAt w wc k (.slice (some bD) k k) (.slice a3 m3 c3) (ms1 ++ ms2) := ⟨ho3.mono hwz, fun x hx => by
              rcases List.mem_append.1 hx with hx | hx
              · exact M1.rng x hx
              · exact M2.rng x hx, fun b hb e => by
              have := (ho3.lt b hb).1
              simp only [Value.ownBlock, Option.some.injEq] at e
              omega⟩
          obtain ⟨HM3a, HM3b, _⟩ : Hid (m3 = (ms1 ++ ms2).length) ∧ m3 ≤ c3 ∧ c3 ≤ 9223372036854775807 := by
            obtain ⟨aq, mq, cq, hq, h1, h2, h3⟩ := ho3.rd.formN
            simp only [Value.slice.injEq] at hq
            obtain ⟨rfl, rfl, rfl⟩ := hq
            exact ⟨h1, h2, h3⟩
          have e0 := box_cell hbx 0
          have e1 := box_cell hbx 1
          clear hS6 hM6 hMa6 hxb hxa6 d0 d1 d2 d3 HKS HCC HMS M1 M2 ho3 hb3 hsum
          go_wp2_with fail
          go_loopg [57] m3 (fun gq iv wr => ∃ (q : Nat) (ds : List Int), gq = m3 - q ∧ q ≤ m3 ∧ iv = .int .i64 q ∧ Hid (ds.length = k) ∧ ChSt w wr br g (f + 1 - 1 - 1) cap k cur2 ws2 vs2 mss2 (.slice (some bD) k k) ds ∧ MsAt w wr k (.slice (some bD) k k) (.slice a3 m3 c3) (ms1 ++ ms2) ∧ Hid (wr.heap[bb]? = some (.cells #[.int .i64 (A + B), .slice a3 m3 c3] 123 (0, 0))))
          case atStart => exact ⟨0, ds, rfl, Nat.zero_le _, rfl, HDS, hSc, hM3, hbx⟩
          case round =>
            clear hSc hM3 hbx HDS e0 e1 hDlt
            obtain ⟨q, ds, hgq, hq, rfl, HDS, hS, hM, HBX⟩ := hrel
            by_cases hlq : q < m3
            · obtain ⟨z, x, rfl, hcz, hx⟩ := hM.own.rd.int (k := q) (by have := HM3a.out; omega)
              obtain ⟨x0, x1⟩ := hM.rng x (List.mem_of_getElem? hx.out)
              obtain ⟨j, rfl⟩ : ∃ j : Nat, x = (j : Int) := ⟨x.toNat, by omega⟩
              have hjk : j < k := by omega
              have hjd : j < ds.length := by have := HDS.out; omega
              obtain ⟨bD', y, hbD', hcy, hy⟩ := hS.dep.rd.int (k := j) hjd
              obtain rfl : bD = bD' := by injection hbD'
              have hfy := hS.dep.frozen rfl j
              have HSET := Lib.hid (fun y2 => hS.setd hjd y2)
              have HFR := Lib.hid (hS.far hS.dep bD.block rfl)
              have HBN : Hid ((Value.slice (some bD) k k).ownBlock ≠ some bb) := own_ne_box hS.dep HBX.out (by decide)
              have HMk := Lib.hid hM
              have HLS : Hid (∀ y2, (ds.set j y2).length = k) := fun y2 => by rw [List.length_set]; exact HDS.out
              clear hbD' hS hM hx hy x0 x1 HDS
              go_wp2
              go_roundg (m3 - (q + 1))
              case measure => omega
              case rel => exact ⟨q + 1, _, rfl, hlq, by go_num, HLS.out _, (HSET.out _).1, HMk.out.keep (fun b hb => (HSET.out _).2 b (HMk.out.ap b hb)), ((HSET.out _).2 bb HBN.out).trans HBX.out⟩
            · obtain rfl : q = m3 := by omega
              have e0 := box_cell HBX.out 0
              have e1 := box_cell HBX.out 1
              have c0 := hS.runs.bcell
              obtain ⟨W2, hW2⟩ : ∃ W2, wr.alloc (.cells #[.int .i64 (A + B), .slice a3 q c3] 123) = W2 := ⟨_, rfl⟩
              have hbW : Below wr.heap.size wr W2 := by rw [← hW2]; exact (Below.refl _ _).alloc (Nat.le_refl _) _
              have hS2 := hS.below hbW
              have hM2 := hM.below hbW
              have HNW : Hid (∀ j u, ([.int .i64 (A + B), .slice a3 q c3] : List Value)[j]? = some u → W2.cell? ((⟨wr.heap.size, 0, none⟩ : Addr).add j) = some u) :=
                World.news_of_block (w := W2) (B := wr.heap.size) (cs := #[.int .i64 (A + B), .slice a3 q c3]) (t := 123) (fr := (0, 0)) (by rw [← hW2]; exact heap_alloc_new wr _)
              have HW2 := Lib.hid hW2
              have HOW := Lib.hid hS2.runs.owns
              obtain ⟨mm, hmm⟩ : ∃ mm, f + 1 - 1 - 1 = mm := ⟨_, rfl⟩
              rw [hmm] at hS hS2 HOW c0
              have hfm : f = mm + 1 := by omega
              have HFIN : Hid (∀ (w1 : World) (g1 cap1 : Nat), w1.ownsRow 0 123 2 (.slice (some ⟨g1, 0, none⟩) (mm + 1) cap1) (mm + 1) (cur2.toList.take (mm * 2) ++ [.int .i64 (A + B), .slice a3 q c3]) → W2.grownBy w1 (some g) → (some g = some g1 ∨ g1 = W2.heap.size) →
                  (∃ cur1, ChSt w (w1.setCell ⟨br, 0, none⟩ (.slice (some ⟨g1, 0, none⟩) (mm + 1) cap1)) br g1 (mm + 1) cap1 k cur1 (ws2 ++ [A + B]) (vs2 ++ [.slice a3 q c3]) (mss2 ++ [ms1 ++ ms2]) (.slice (some bD) k k) ds) ∧ w1.cell? ⟨br, 0, none⟩ = some (.slice (some ⟨g, 0, none⟩) mm cap) ∧ w1.frozen? ⟨br, 0, none⟩ = false) := fun w1 g1 cap1 q1 q2 q3 => by
                have hbx := (q2.block br (box_lt hS2.runs.box) fun e => hS2.ne (by injection e)).trans hS2.runs.box
                exact ⟨hS2.app hM2 HFW.out q1 q2 q3, box_cell hbx 0, frozen_of_row w1 br 0 _ _ hbx⟩
              clear hW2 hS2 hM2 hbW hS hM hmm
              subst hfm
              obtain ⟨t1, t2, t3, t4, t5⟩ := EL.out
              have E1 := Lib.hid t1
              have E2 := Lib.hid t2
              have E3 := Lib.hid t3
              have E4 := Lib.hid t4
              have E5 := Lib.hid t5
              clear t1 t2 t3 t4 t5
              go_wp2_with (at_builtin; rw [HW2.out]; refine wpList_append_lies _ rfl _ _ _ rfl 0 123 inf (.agg #[.int .i64 0, .slice none 0 0]) 2 32 E1.out E2.out E3.out E4.out E5.out rfl (by omega) (.slice (some ⟨g, 0, none⟩) mm cap) mm (cur2.toList.take (mm * 2)) rfl HOW.out ⟨wr.heap.size, 0, none⟩ 1 1 [.int .i64 (A + B), .slice a3 q c3] rfl rfl HNW.out (by simp [Value.oneCell']) (by omega) (by simp only [maxLen]; omega) (by omega) (Nat.zero_le _) _ rfl ?_; intro g1 cap1 w1 hown hgrow hat hlt1; obtain ⟨hA, hB, hC⟩ := HFIN.out w1 g1 cap1 hown hgrow hat; obtain ⟨cur1, hS1⟩ := hA; have HS1 := Lib.hid hS1; clear hS1 hown hgrow hat)
              go_roundg (mm + 1)
              case measure => omega
              case rel => exact ⟨mm + 1, g1, cap1, cur1, _, _, _, _, C + (A + B), rfl, by omega, by go_num, by omega, by omega, HR2, HZ2, HDS, HS1.out⟩
        · obtain rfl : C = Z := by
            have h1 := HZ.out
            rw [icL_short (by have := HS.runs.wl; omega)] at h1
            omega
          go_wp2
          go_ret2
          exact ⟨_, rfl, HS.bel⟩

end Go.Proofs.YtggblfnajeikjaaGreatDoor

namespace Go.Proofs.YtggblfnajeikjaaGreatDoor
open Go.RowKit
set_option linter.unusedVariables false
set_option linter.unusedSimpArgs false

theorem i_CheapestMerge (v : Value) (xs : List Int) (w : World) (h : Rd w v (ints xs)) (hs : lensB xs = true) : Calls Tryz.prog 31 #[v] w (RetB (.int .i64 (cm xs)) w) := i_CheapestMergeOf i_cheapest v xs w h hs
theorem I_MergeLine (w : World) (v : Value) (xs : List Int) (h : Rd w v (ints xs)) (hi : I64s xs) (hl : xs.length ≤ 1048576) (ht : Tab w) : Calls Tryz.prog 30 #[v] w (RetB (.string (bstr (mergeLine xs))) w) := I_MergeLineOf i_CheapestMerge w v xs h hi hl ht

end Go.Proofs.YtggblfnajeikjaaGreatDoor

namespace Go.Proofs.YtggblfnajeikjaaGreatDoor
open Go.RowKit

def RetOwnB (E : Nat) (xs : List Value) (b : Bool) (w : World) (e : Ending) (w' : World) : Prop :=
  ∃ v, e = .returned (.tuple #[v, .bool b]) ∧ Own w' E w.heap.size v xs ∧ Below w.heap.size w w'

end Go.Proofs.YtggblfnajeikjaaGreatDoor

namespace Go.Proofs.YtggblfnajeikjaaGreatDoor
open Go
set_option linter.unusedVariables false
set_option linter.unusedSimpArgs false

/-- The parts of a text between the bytes c. -/
def splitR (c : UInt8) : List UInt8 → List (List UInt8)
  | [] => [[]]
  | x :: r => if x = c then [] :: splitR c r else match splitR c r with
    | [] => [[x]]
    | h :: t => (x :: h) :: t
theorem splitR_ne (c : UInt8) : ∀ l, ∃ h t, splitR c l = h :: t
  | [] => ⟨[], [], rfl⟩
  | x :: r => by
    rw [splitR]
    split
    · exact ⟨_, _, rfl⟩
    · split
      · exact ⟨_, _, rfl⟩
      · exact ⟨_, _, rfl⟩
def glue (p : List UInt8) : List (List UInt8) → List (List UInt8)
  | [] => [p]
  | h :: t => (p ++ h) :: t
/-- The parts that are closed before place k, and where the open one begins. -/
def segK (c : UInt8) (l : List UInt8) : Nat → List (List UInt8) × Nat
  | 0 => ([], 0)
  | k + 1 => if l[k]? = some c then ((segK c l k).1 ++ [(l.drop (segK c l k).2).take (k - (segK c l k).2)], k + 1) else segK c l k
theorem segK_le (c : UInt8) (l : List UInt8) : ∀ k, (segK c l k).2 ≤ k ∧ (segK c l k).1.length ≤ k
  | 0 => ⟨Nat.le_refl _, Nat.le_refl _⟩
  | k + 1 => by
    have := segK_le c l k
    rw [segK]
    split
    · exact ⟨Nat.le_refl _, by simp only [List.length_append, List.length_singleton]; omega⟩
    · omega
theorem segK_all (c : UInt8) (l : List UInt8) : ∀ k, k ≤ l.length → (segK c l k).1 ++ glue ((l.drop (segK c l k).2).take (k - (segK c l k).2)) (splitR c (l.drop k)) = splitR c l
  | 0, _ => by
    obtain ⟨h, t, e⟩ := splitR_ne c l
    rw [List.drop_zero, e]
    rfl
  | k + 1, hk => by
    have ih := segK_all c l k (by omega)
    have hf := (segK_le c l k).1
    have hd : l.drop k = l[k] :: l.drop (k + 1) := (List.drop_eq_getElem_cons (by omega))
    rw [hd] at ih
    obtain ⟨h, t, e⟩ := splitR_ne c (l.drop (k + 1))
    rw [segK]
    by_cases hc : l[k] = c
    · rw [if_pos (by rw [List.getElem?_eq_getElem (by omega), hc])]
      rw [splitR, if_pos hc, e] at ih
      rw [e, ← ih, Nat.sub_self, List.take_zero]
      simp [glue]
    · rw [if_neg (by rw [List.getElem?_eq_getElem (by omega)]; simpa using hc)]
      rw [splitR, if_neg hc, e] at ih
      rw [e, ← ih]
      have h1 : (l.drop (segK c l k).2).take (k + 1 - (segK c l k).2) = (l.drop (segK c l k).2).take (k - (segK c l k).2) ++ [l[k]] := by
        rw [show k + 1 - (segK c l k).2 = (k - (segK c l k).2) + 1 by omega, List.take_add_one, List.getElem?_drop, show (segK c l k).2 + (k - (segK c l k).2) = k by omega, List.getElem?_eq_getElem (by omega)]
        rfl
      rw [h1]
      simp [glue]
def segs (c : UInt8) (l : List UInt8) : List (List UInt8) := (segK c l l.length).1 ++ [l.drop (segK c l l.length).2]
theorem segs_eq (c : UInt8) (l : List UInt8) : segs c l = splitR c l := by
  have h := segK_all c l l.length (Nat.le_refl _)
  rw [← h, segs]
  congr 1
  rw [List.drop_length]
  show _ = [_ ++ []]
  rw [List.append_nil, List.take_of_length_le (by rw [List.length_drop]; exact Nat.le_refl _)]
theorem splitK_eq (c : UInt8) : ∀ l : List UInt8, Lib.splitK [c] 0 (l.count c) l = splitR c l
  | [] => rfl
  | x :: r => by
    have ih := splitK_eq c r
    by_cases hx : x = c
    · subst hx
      rw [List.count_cons_self, Lib.splitK, splitR, if_pos rfl, ← ih]
      have : Lib.index (x :: r) [x] = 0 := by simp [Lib.index]
      rw [this]
      simp
    · have hc : (x :: r).count c = r.count c := by rw [List.count_cons_of_ne hx]
      have hi : Lib.index (x :: r) [c] = if Lib.index r [c] == -1 then -1 else Lib.index r [c] + 1 := by
        rw [Lib.index]
        have : [c].isPrefixOf (x :: r) = false := by simp [List.isPrefixOf]; exact fun h => hx h.symm
        rw [this]; rfl
      rw [hc, splitR, if_neg hx, ← ih]
      cases hk : r.count c with
      | zero => rfl
      | succ k =>
        have hge := Lib.index_ge r [c]
        rw [Lib.splitK, Lib.splitK, hi]
        by_cases hm : Lib.index r [c] = -1
        · rw [hm]; rfl
        · have e1 : (Lib.index r [c] == -1) = false := by simpa using hm
          have e2 : (Lib.index r [c] + 1 == -1) = false := by simp; omega
          rw [e1]
          simp only [Bool.false_eq_true, if_false]
          rw [e2]
          simp only [Bool.false_eq_true, if_false]
          obtain ⟨i, hi2⟩ := Int.eq_ofNat_of_zero_le (show 0 ≤ Lib.index r [c] by omega)
          rw [hi2]
          rw [show ((i : Int) + 1).toNat = i + 1 by omega, show (i : Int).toNat = i by omega]
          simp [List.take_succ_cons, List.drop_succ_cons]
theorem splitR_length_le (c : UInt8) (l : List UInt8) : (splitR c l).length ≤ l.length + 1 := by
  rw [← segs_eq, segs, List.length_append, List.length_singleton]
  have := (segK_le c l l.length).2
  omega
theorem splitR_mem (c : UInt8) (l : List UInt8) : ∀ x ∈ splitR c l, x.length ≤ l.length := by
  induction l with
  | nil => intro x hx; simp [splitR] at hx; simp [hx]
  | cons y r ih =>
    intro x hx
    rw [splitR] at hx
    split at hx
    · rcases List.mem_cons.1 hx with rfl | h
      · simp
      · have := ih x h; simp; omega
    · obtain ⟨h, t, e⟩ := splitR_ne c r
      rw [e] at hx ih
      rcases List.mem_cons.1 hx with rfl | h2
      · have := ih h (.head _); simp; omega
      · have := ih x (.tail _ h2); simp; omega

end Go.Proofs.YtggblfnajeikjaaGreatDoor

namespace Go.Proofs.YtggblfnajeikjaaGreatDoor
open Go.RowKit
set_option linter.unusedVariables false
set_option linter.unusedSimpArgs false

def isDg (c : UInt8) : Bool := decide (48 ≤ c.toNat) && decide (c.toNat ≤ 57)
theorem isDg_iff {c : UInt8} : isDg c = true ↔ 48 ≤ c.toNat ∧ c.toNat ≤ 57 := by simp [isDg]
/-- What digits spell, read from the left. -/
def dv (acc : Nat) (l : List UInt8) : Nat := l.foldl (fun a c => a * 10 + (c.toNat - 48)) acc
theorem dv_nil (acc : Nat) : dv acc [] = acc := rfl
theorem dv_cons (acc : Nat) (c : UInt8) (r : List UInt8) : dv acc (c :: r) = dv (acc * 10 + (c.toNat - 48)) r := by
  rw [dv, dv, List.foldl_cons]
theorem dv_ge (l : List UInt8) : ∀ acc : Nat, acc ≤ dv acc l := by
  induction l with
  | nil => intro acc; exact Nat.le_refl _
  | cons c r ih =>
    intro acc
    have h1 := ih (acc * 10 + (c.toNat - 48))
    have h2 := dv_cons acc c r
    generalize dv (acc * 10 + (c.toNat - 48)) r = x at h1 h2
    generalize c.toNat - 48 = d at h1
    omega
theorem dv_append (l m : List UInt8) (acc : Nat) : dv acc (l ++ m) = dv (dv acc l) m := List.foldl_append
theorem dv_snoc (l : List UInt8) (acc : Nat) (c : UInt8) : dv acc (l ++ [c]) = dv acc l * 10 + (c.toNat - 48) := by
  rw [dv_append, dv_cons, dv_nil]
theorem dec_digit : ∀ (u : Nat) (c : UInt8), c ∈ Lib.decDigits u → isDg c = true := by
  intro u
  induction u using Nat.strongRecOn with
  | ind u ih =>
    intro c hc
    by_cases h : 9 < u
    · rw [decDigits_big h, List.mem_append] at hc
      rcases hc with hc | hc
      · exact ih (u / 10) (by omega) c hc
      · rw [List.mem_singleton] at hc
        subst hc
        rw [isDg_iff, UInt8.toNat_ofNat']
        omega
    · rw [decDigits_small h, List.mem_singleton] at hc
      subst hc
      rw [isDg_iff, UInt8.toNat_ofNat']
      omega
theorem dv_dec (u : Nat) : dv 0 (Lib.decDigits u) = u := by
  induction u using Nat.strongRecOn with
  | ind u ih =>
    by_cases h : 9 < u
    · rw [decDigits_big h, dv_snoc, ih (u / 10) (by omega), UInt8.toNat_ofNat']
      omega
    · rw [decDigits_small h]
      show 0 * 10 + ((UInt8.ofNat (48 + u)).toNat - 48) = u
      rw [UInt8.toNat_ofNat']
      omega
theorem parseUint_dv (l : List UInt8) : ∀ acc : Nat, (∀ c ∈ l, isDg c = true) → dv acc l < 18446744073709551616 → Lib.parseUint10 acc l = .ok (dv acc l) := by
  induction l with
  | nil => intro acc _ _; rfl
  | cons c r ih =>
    intro acc hd hv
    have hc := isDg_iff.1 (hd c (.head _))
    rw [dv_cons] at hv ⊢
    have hg := dv_ge r (acc * 10 + (c.toNat - 48))
    have h1 := ih (acc * 10 + (c.toNat - 48)) (fun d h => hd d (.tail _ h)) hv
    rw [Lib.parseUint10, if_pos hc, if_neg (by omega), if_neg (by omega)]
    exact h1

/-- What stands behind a sign. -/
def isNeg (l : List UInt8) : Bool := match l with | c :: _ => decide (c.toNat = 45) | [] => false
def magOf (l : List UInt8) : List UInt8 := if isNeg l then l.tail else l
theorem itoa_parts {n : Int} {l : List UInt8} (h : Lib.itoa n = l) : isNeg l = decide (n < 0) ∧ magOf l = Lib.decDigits n.natAbs := by
  subst h
  by_cases h0 : n < 0
  · have e : Lib.itoa n = 45 :: Lib.decDigits n.natAbs := by rw [Lib.itoa, if_pos h0]
    rw [e, magOf]
    simp [isNeg, h0]
  · have e : Lib.itoa n = Lib.decDigits n.natAbs := by rw [Lib.itoa, if_neg h0]; congr 1; omega
    have hn : isNeg (Lib.decDigits n.natAbs) = false := by
      cases hd : Lib.decDigits n.natAbs with
      | nil => rfl
      | cons c r =>
        have := isDg_iff.1 (dec_digit n.natAbs c (by rw [hd]; exact .head _))
        simp [isNeg]
        omega
    rw [e, magOf, hn]
    simp [h0]
/-- A text that reads as a number, and is written as it. -/
def parseI (l : List UInt8) : Option Int := match Lib.atoiAll l with | .ok n => if Lib.itoa n = l then some n else none | _ => none
theorem atoi_itoa {n : Int} (h : I64 n) : Lib.atoiAll (Lib.itoa n) = .ok n := by
  unfold I64 at h
  have hv := dv_dec n.natAbs
  have hm : Lib.parseMag (Lib.decDigits n.natAbs) = .ok n.natAbs := by
    rw [Lib.parseMag, if_neg (fun e => by have := decDigits_pos n.natAbs; rw [e] at this; simp at this), parseUint_dv _ _ (dec_digit _) (by omega), hv]
  by_cases h0 : n < 0
  · have e : Lib.itoa n = 45 :: Lib.decDigits n.natAbs := by rw [Lib.itoa, if_pos h0]
    rw [e, Lib.atoiAll_minus, hm]
    simp only [Lib.signed]
    rw [if_neg (by omega)]
    congr 1
    omega
  · have e : Lib.itoa n = Lib.decDigits n.natAbs := by rw [Lib.itoa, if_neg h0]; congr 1; omega
    have hp := decDigits_pos n.natAbs
    rw [e]
    cases hd : Lib.decDigits n.natAbs with
    | nil => rw [hd] at hp; simp at hp
    | cons c r =>
      have := isDg_iff.1 (dec_digit n.natAbs c (by rw [hd]; exact .head _))
      rw [Lib.atoiAll_plain c r (by omega) (by omega), ← hd, hm]
      simp only [Lib.signless]
      rw [if_neg (by omega)]
      congr 1
      omega
theorem parseI_iff {l : List UInt8} {n : Int} : parseI l = some n ↔ I64 n ∧ Lib.itoa n = l := by
  constructor
  · intro h
    unfold parseI at h
    split at h
    · rename_i m hm
      split at h
      · rename_i e
        obtain rfl : m = n := Option.some.inj h
        exact ⟨Lib.atoiAll_bounds hm, e⟩
      · cases h
    · cases h
  · rintro ⟨h, rfl⟩
    rw [parseI, atoi_itoa h]
    simp
end Go.Proofs.YtggblfnajeikjaaGreatDoor

namespace Go.Proofs.YtggblfnajeikjaaGreatDoor
open Go.RowKit
set_option linter.unusedVariables false
set_option linter.unusedSimpArgs false

theorem bytes_len (s : ByteArray) : s.data.toList.length = s.size := by simp
def RetPI (o : Option Int) (w : World) (e : Ending) (w' : World) : Prop := e = .returned (.tuple #[.int .i64 (o.getD 0), .bool o.isSome]) ∧ Below w.heap.size w w'
theorem retPI_none {w w' : World} {o : Option Int} (h : o = none) (hb : Below w.heap.size w w') : RetPI o w (.returned (.tuple #[.int .i64 0, .bool false])) w' := by subst h; exact ⟨rfl, hb⟩
theorem retPI_some {w w' : World} {o : Option Int} {n : Int} (h : o = some n) (hb : Below w.heap.size w w') : RetPI o w (.returned (.tuple #[.int .i64 n, .bool true])) w' := by subst h; exact ⟨rfl, hb⟩
end Go.Proofs.YtggblfnajeikjaaGreatDoor

namespace Go.Proofs
open Go.Shelf
def Tryz.laysC172_ren : Go.Shelf.Ren := ⟨fun | 172 => 109 | 244 => 172 | 245 => 173 | 247 => 212 | 279 => 213 | 280 => 214 | 281 => 215 | 282 => 216 | 287 => 256 | 316 => 257 | 171 => 62 | 205 => 258 | 321 => 291 | 322 => 292 | 243 => 116 | 246 => 179 | 283 => 218 | 284 => 219 | 285 => 220 | 286 => 221 | 129 => 260 | 317 => 259 | 318 => 261 | 319 => 262 | 320 => 263 | 337 => 293 | 338 => 294 | n => n, fun | 9 => 9 | 3 => 3 | 75 => 105 | 76 => 106 | 4 => 4 | 5 => 5 | 167 => 169 | 37 => 22 | 0 => 0 | 85 => 170 | 2 => 2 | 168 => 172 | 53 => 151 | 175 => 196 | 46 => 111 | 210 => 199 | 127 => 164 | 145 => 226 | 143 => 224 | 21 => 21 | 171 => 175 | 173 => 177 | 212 => 202 | 51 => 149 | 20 => 20 | 213 => 203 | 232 => 233 | 233 => 234 | 80 => 142 | n => n, fun | 15 => 1 | 16 => 2 | 17 => 3 | 18 => 6 | 19 => 7 | n => n⟩
theorem Tryz.laysC172 : Go.Proofs.LaysC.n172 Tryz.prog Tryz.laysC172_ren := {
  mixed := by kernel_rfl
  f129 := Tryz.func260.trans (congrArg some (by kernel_rfl))
  f171 := Tryz.func62.trans (congrArg some (by kernel_rfl))
  f172 := Tryz.func109.trans (congrArg some (by kernel_rfl))
  f205 := Tryz.func258.trans (congrArg some (by kernel_rfl))
  f243 := Tryz.func116.trans (congrArg some (by kernel_rfl))
  f244 := Tryz.func172.trans (congrArg some (by kernel_rfl))
  f245 := Tryz.func173.trans (congrArg some (by kernel_rfl))
  f246 := Tryz.func179.trans (congrArg some (by kernel_rfl))
  f247 := Tryz.func212.trans (congrArg some (by kernel_rfl))
  f279 := Tryz.func213.trans (congrArg some (by kernel_rfl))
  f280 := Tryz.func214.trans (congrArg some (by kernel_rfl))
  f281 := Tryz.func215.trans (congrArg some (by kernel_rfl))
  f282 := Tryz.func216.trans (congrArg some (by kernel_rfl))
  f283 := Tryz.func218.trans (congrArg some (by kernel_rfl))
  f284 := Tryz.func219.trans (congrArg some (by kernel_rfl))
  f285 := Tryz.func220.trans (congrArg some (by kernel_rfl))
  f286 := Tryz.func221.trans (congrArg some (by kernel_rfl))
  f287 := Tryz.func256.trans (congrArg some (by kernel_rfl))
  f316 := Tryz.func257.trans (congrArg some (by kernel_rfl))
  f317 := Tryz.func259.trans (congrArg some (by kernel_rfl))
  f318 := Tryz.func261.trans (congrArg some (by kernel_rfl))
  f319 := Tryz.func262.trans (congrArg some (by kernel_rfl))
  f320 := Tryz.func263.trans (congrArg some (by kernel_rfl))
  f321 := Tryz.func291.trans (congrArg some (by kernel_rfl))
  f322 := Tryz.func292.trans (congrArg some (by kernel_rfl))
  f337 := Tryz.func293.trans (congrArg some (by kernel_rfl))
  f338 := Tryz.func294.trans (congrArg some (by kernel_rfl))
  t0 := Tryz.underlying0
  a0 := Tryz.isAgg0
  z0 := Tryz.sizeOf0
  v0 := Tryz.zeroValue0
  t2 := Tryz.underlying2
  a2 := Tryz.isAgg2
  z2 := Tryz.sizeOf2
  v2 := Tryz.zeroValue2
  t3 := Tryz.underlying3
  a3 := Tryz.isAgg3
  z3 := Tryz.sizeOf3
  v3 := Tryz.zeroValue3
  t4 := Tryz.underlying4
  a4 := Tryz.isAgg4
  z4 := Tryz.sizeOf4
  v4 := Tryz.zeroValue4
  t5 := Tryz.underlying5
  a5 := Tryz.isAgg5
  z5 := Tryz.sizeOf5
  v5 := Tryz.zeroValue5
  t9 := Tryz.underlying9
  a9 := Tryz.isAgg9
  z9 := Tryz.sizeOf9
  v9 := Tryz.zeroValue9
  t20 := Tryz.underlying20
  a20 := Tryz.isAgg20
  z20 := Tryz.sizeOf20
  v20 := Tryz.zeroValue20
  t21 := Tryz.underlying21
  a21 := Tryz.isAgg21
  z21 := Tryz.sizeOf21
  v21 := Tryz.zeroValue21
  t37 := Tryz.underlying22
  a37 := Tryz.isAgg22
  z37 := Tryz.sizeOf22
  v37 := Tryz.zeroValue22
  t46 := Tryz.underlying111
  a46 := Tryz.isAgg111
  z46 := Tryz.sizeOf111
  v46 := Tryz.zeroValue111
  t51 := Tryz.underlying149
  a51 := Tryz.isAgg149
  z51 := Tryz.sizeOf149
  v51 := Tryz.zeroValue149
  t53 := Tryz.underlying151
  a53 := Tryz.isAgg151
  z53 := Tryz.sizeOf151
  v53 := Tryz.zeroValue151
  t75 := Tryz.underlying105
  a75 := Tryz.isAgg105
  z75 := Tryz.sizeOf105
  v75 := Tryz.zeroValue105
  t76 := Tryz.underlying106
  a76 := Tryz.isAgg106
  z76 := Tryz.sizeOf106
  v76 := Tryz.zeroValue106
  t85 := Tryz.underlying170
  a85 := Tryz.isAgg170
  z85 := Tryz.sizeOf170
  v85 := Tryz.zeroValue170
  t127 := Tryz.underlying164
  a127 := Tryz.isAgg164
  z127 := Tryz.sizeOf164
  v127 := Tryz.zeroValue164
  t143 := Tryz.underlying224
  a143 := Tryz.isAgg224
  z143 := Tryz.sizeOf224
  v143 := Tryz.zeroValue224
  t145 := Tryz.underlying226
  a145 := Tryz.isAgg226
  z145 := Tryz.sizeOf226
  v145 := Tryz.zeroValue226
  t167 := Tryz.underlying169
  a167 := Tryz.isAgg169
  z167 := Tryz.sizeOf169
  v167 := Tryz.zeroValue169
  t168 := Tryz.underlying172
  a168 := Tryz.isAgg172
  z168 := Tryz.sizeOf172
  v168 := Tryz.zeroValue172
  t171 := Tryz.underlying175
  a171 := Tryz.isAgg175
  z171 := Tryz.sizeOf175
  v171 := Tryz.zeroValue175
  t173 := Tryz.underlying177
  a173 := Tryz.isAgg177
  z173 := Tryz.sizeOf177
  v173 := Tryz.zeroValue177
  t175 := Tryz.underlying196
  a175 := Tryz.isAgg196
  z175 := Tryz.sizeOf196
  v175 := Tryz.zeroValue196
  t210 := Tryz.underlying199
  a210 := Tryz.isAgg199
  z210 := Tryz.sizeOf199
  v210 := Tryz.zeroValue199
  t212 := Tryz.underlying202
  a212 := Tryz.isAgg202
  z212 := Tryz.sizeOf202
  v212 := Tryz.zeroValue202
  t213 := Tryz.underlying203
  a213 := Tryz.isAgg203
  z213 := Tryz.sizeOf203
  t232 := Tryz.underlying233
  a232 := Tryz.isAgg233
  z232 := Tryz.sizeOf233
  v232 := Tryz.zeroValue233
  t233 := Tryz.underlying234
  a233 := Tryz.isAgg234
  z233 := Tryz.sizeOf234
  v233 := Tryz.zeroValue234
  g15 := by kernel_rfl
  g16 := by kernel_rfl
  g17 := by kernel_rfl
  g18 := by kernel_rfl
  g19 := by kernel_rfl
  t80 := Tryz.underlying142
  a80 := Tryz.isAgg142
  z80 := Tryz.sizeOf142
  v80 := Tryz.zeroValue142
  i0 := by kernel_rfl
  i2 := by kernel_rfl
  i3 := by kernel_rfl
  i4 := by kernel_rfl
  i5 := by kernel_rfl
  i9 := by kernel_rfl
  i20 := by kernel_rfl
  i21 := by kernel_rfl
  i37 := by kernel_rfl
  i46 := by kernel_rfl
  i51 := by kernel_rfl
  i53 := by kernel_rfl
  i75 := by kernel_rfl
  i76 := by kernel_rfl
  i80 := by kernel_rfl
  i85 := by kernel_rfl
  i127 := by kernel_rfl
  i143 := by kernel_rfl
  i145 := by kernel_rfl
  i167 := by kernel_rfl
  i168 := by kernel_rfl
  i171 := by kernel_rfl
  i173 := by kernel_rfl
  i175 := by kernel_rfl
  i210 := by kernel_rfl
  i212 := by kernel_rfl
  i232 := by kernel_rfl
  i233 := by kernel_rfl
  m15 := by kernel_rfl
  m16 := by kernel_rfl
  m17 := by kernel_rfl
  m18 := by kernel_rfl
  m19 := by kernel_rfl
  c0 := by kernel_rfl
  c2 := by kernel_rfl
  c3 := by kernel_rfl
  c4 := by kernel_rfl
  c5 := by kernel_rfl
  c9 := by kernel_rfl
  c20 := by kernel_rfl
  c21 := by kernel_rfl
  c37 := by kernel_rfl
  c46 := by kernel_rfl
  c51 := by kernel_rfl
  c53 := by kernel_rfl
  c75 := by kernel_rfl
  c76 := by kernel_rfl
  c80 := by kernel_rfl
  c85 := by kernel_rfl
  c127 := by kernel_rfl
  c143 := by kernel_rfl
  c145 := by kernel_rfl
  c167 := by kernel_rfl
  c168 := by kernel_rfl
  c171 := by kernel_rfl
  c173 := by kernel_rfl
  c175 := by kernel_rfl
  c210 := by kernel_rfl
  c212 := by kernel_rfl
  c213 := by kernel_rfl
  c232 := by kernel_rfl
  c233 := by kernel_rfl }
open Go.RowKit in
/-- strconv.Atoi, AT EVERY STRING THAT SPELLS AN int ('Lib.atoiAll .. = .ok v'; of whatever length: leading zeros count): v, AND NO ERROR. The world: as it was, or with the one new row that '[]byte(..)' lays. (LAID: no walk: one application.) -/
theorem Tryz.strconv_Atoi_ok (s : ByteArray) (hmax : s.size ≤ 9223372036854775806) (v : Int) (h : Lib.atoiAll s.data.toList = .ok v) (w : World) :
    Calls Tryz.prog 109 #[.string s] w fun e w' => e = .returned (.tuple #[.int .i64 v, .nilIface]) ∧ (w' = w ∨ ∃ t, w' = Lib.bytesWorld w 5 t) := Any.strconv_Atoi_ok Tryz.laysC172 s hmax v h w
open Go.RowKit in
def Tryz.lays146_ren : Go.Shelf.Ren := ⟨fun | 146 => 47 | 221 => 108 | 268 => 169 | 138 => 170 | 143 => 171 | 195 => 208 | 197 => 209 | 218 => 210 | 219 => 211 | 260 => 251 | 217 => 252 | 225 => 253 | 224 => 254 | 267 => 255 | 266 => 289 | 314 => 290 | n => n, fun | 9 => 9 | 31 => 50 | 3 => 3 | 4 => 4 | 0 => 0 | 105 => 166 | 21 => 21 | 5 => 5 | 46 => 111 | 119 => 216 | 139 => 219 | 138 => 218 | 146 => 220 | 51 => 149 | n => n, fun | 1 => 0 | 3 => 4 | 4 => 5 | n => n⟩
theorem Tryz.lays146 : Go.Proofs.Lays.n146 Tryz.prog Tryz.lays146_ren := {
  mixed := by kernel_rfl
  f138 := Tryz.func170.trans (congrArg some (by kernel_rfl))
  f143 := Tryz.func171.trans (congrArg some (by kernel_rfl))
  f146 := Tryz.func47.trans (congrArg some (by kernel_rfl))
  f195 := Tryz.func208.trans (congrArg some (by kernel_rfl))
  f197 := Tryz.func209.trans (congrArg some (by kernel_rfl))
  f217 := Tryz.func252.trans (congrArg some (by kernel_rfl))
  f218 := Tryz.func210.trans (congrArg some (by kernel_rfl))
  f219 := Tryz.func211.trans (congrArg some (by kernel_rfl))
  f221 := Tryz.func108.trans (congrArg some (by kernel_rfl))
  f224 := Tryz.func254.trans (congrArg some (by kernel_rfl))
  f225 := Tryz.func253.trans (congrArg some (by kernel_rfl))
  f260 := Tryz.func251.trans (congrArg some (by kernel_rfl))
  f266 := Tryz.func289.trans (congrArg some (by kernel_rfl))
  f267 := Tryz.func255.trans (congrArg some (by kernel_rfl))
  f268 := Tryz.func169.trans (congrArg some (by kernel_rfl))
  f314 := Tryz.func290.trans (congrArg some (by kernel_rfl))
  t0 := Tryz.underlying0
  a0 := Tryz.isAgg0
  z0 := Tryz.sizeOf0
  v0 := Tryz.zeroValue0
  t3 := Tryz.underlying3
  a3 := Tryz.isAgg3
  z3 := Tryz.sizeOf3
  v3 := Tryz.zeroValue3
  t4 := Tryz.underlying4
  a4 := Tryz.isAgg4
  z4 := Tryz.sizeOf4
  v4 := Tryz.zeroValue4
  t5 := Tryz.underlying5
  a5 := Tryz.isAgg5
  z5 := Tryz.sizeOf5
  v5 := Tryz.zeroValue5
  t9 := Tryz.underlying9
  a9 := Tryz.isAgg9
  z9 := Tryz.sizeOf9
  v9 := Tryz.zeroValue9
  t21 := Tryz.underlying21
  a21 := Tryz.isAgg21
  z21 := Tryz.sizeOf21
  v21 := Tryz.zeroValue21
  t31 := Tryz.underlying50
  a31 := Tryz.isAgg50
  z31 := Tryz.sizeOf50
  v31 := Tryz.zeroValue50
  t46 := Tryz.underlying111
  a46 := Tryz.isAgg111
  z46 := Tryz.sizeOf111
  v46 := Tryz.zeroValue111
  t51 := Tryz.underlying149
  a51 := Tryz.isAgg149
  z51 := Tryz.sizeOf149
  v51 := Tryz.zeroValue149
  t105 := Tryz.underlying166
  a105 := Tryz.isAgg166
  z105 := Tryz.sizeOf166
  v105 := Tryz.zeroValue166
  t119 := Tryz.underlying216
  a119 := Tryz.isAgg216
  z119 := Tryz.sizeOf216
  t138 := Tryz.underlying218
  a138 := Tryz.isAgg218
  z138 := Tryz.sizeOf218
  v138 := Tryz.zeroValue218
  t139 := Tryz.underlying219
  a139 := Tryz.isAgg219
  z139 := Tryz.sizeOf219
  v139 := Tryz.zeroValue219
  t146 := Tryz.underlying220
  a146 := Tryz.isAgg220
  z146 := Tryz.sizeOf220
  v146 := Tryz.zeroValue220
  g1 := by kernel_rfl
  g3 := by kernel_rfl
  g4 := by kernel_rfl }
open Go.RowKit Go.Lib in
/-- strings.Split. (LAID: no walk: one application.) -/
theorem Tryz.strings_Split (s sep : ByteArray) (m : Int) (w : World) (hs : s.size < 4294967281) (hm : w.cell? ⟨0, 0, none⟩ = some (.int .i64 m)) (h1 : 1 ≤ sep.size) :
    Calls Tryz.prog 47 #[.string s, .string sep] w fun e w' =>
      e = .returned (.slice (some ⟨w.heap.size, 0, none⟩) (Lib.countB s sep + 1) (Lib.countB s sep + 1)) ∧ w' = w.alloc (.cells ((Lib.splitB sep 0 (Lib.countB s sep) s).map Value.string).toArray 9) := Any.strings_Split Tryz.lays146 (by kernel_rfl) s sep m w hs hm h1
end Go.Proofs

namespace Go.Proofs.YtggblfnajeikjaaGreatDoor
open Go.RowKit
set_option linter.unusedVariables false
set_option linter.unusedSimpArgs false

/-- What the program's reading of numbers asks of the world: the table, and the library's variables. -/
structure TabE (w : World) : Prop where
  tab : Tab w
  syn : ∃ tp p, w.var? Tryz.prog "strconv.ErrSyntax" = some #[.iface tp p]
  ran : ∃ tp p, w.var? Tryz.prog "strconv.ErrRange" = some #[.iface tp p]
  max : ∃ m : Int, w.cell? ⟨0, 0, none⟩ = some (.int .i64 m)
theorem synVar : Tryz.prog.globalNamed "strconv.ErrSyntax" = some 1 := by kernel_rfl
theorem ranVar : Tryz.prog.globalNamed "strconv.ErrRange" = some 2 := by kernel_rfl
theorem TabE.below {w w' : World} (h : TabE w) (hb : Below w.heap.size w w') : TabE w' := by
  obtain ⟨t1, p1, h1⟩ := h.syn
  obtain ⟨t2, p2, h2⟩ := h.ran
  obtain ⟨m, h3⟩ := h.max
  exact ⟨h.tab.below hb, ⟨t1, p1, Joins.var_stays synVar h1 hb (Nat.le_refl _)⟩, ⟨t2, p2, Joins.var_stays ranVar h2 hb (Nat.le_refl _)⟩, ⟨m, (hb.cell (World.block_lt_of_cell? _ _ h3)).trans h3⟩⟩

theorem atoi_end (l : List UInt8) : (∃ v, Lib.atoiAll l = .ok v) ∨ (parseI l = none ∧ ∀ (s : ByteArray), s.size ≤ 281474976710656 → s.data.toList = l → ∀ w : World, TabE w → Calls Tryz.prog 109 #[.string s] w fun e w' => ∃ n T N, e = .returned (.tuple #[.int .i64 n, .iface T (.pointer (some ⟨N, 0, none⟩))]) ∧ Below w.heap.size w w') := by
  cases e : Lib.atoiAll l
  · exact .inl ⟨_, rfl⟩
  · refine .inr ⟨by rw [parseI, e], fun s hs hl w ht => ?_⟩
    obtain ⟨tp, p, h⟩ := ht.syn
    exact (Any.strconv_Atoi_syntax_var Tryz.laysC172 s hs (by rw [hl]; exact e) tp p w h).mono fun e w' ⟨N, h1, _, _, h4⟩ => ⟨_, _, N, h1, h4⟩
  · refine .inr ⟨by rw [parseI, e], fun s hs hl w ht => ?_⟩
    obtain ⟨tp, p, h⟩ := ht.ran
    exact (Any.strconv_Atoi_range_var Tryz.laysC172 s hs (by rw [hl]; exact e) tp p w h).mono fun e w' ⟨N, h1, _, _, h4⟩ => ⟨_, _, N, h1, h4⟩
set_option maxHeartbeats 1000000 in
theorem i_ParseInt (s : ByteArray) (hs : s.size ≤ 1048576) (w : World) (ht : TabE w) : Calls Tryz.prog 48 #[.string s] w (RetPI (parseI s.data.toList) w) := by
  rcases atoi_end s.data.toList with ⟨v, hv⟩ | ⟨hn, hc⟩
  · have HA := Lib.hid (Tryz.strconv_Atoi_ok s (by omega) v hv w)
    have hvI : I64 v := Lib.atoiAll_bounds hv
    have HF := Lib.hid (fun (W : World) (hW : Below w.heap.size w W) => I_FormatInt W v hvI (ht.tab.below hW))
    obtain ⟨X, hX⟩ : ∃ X, bstr (Lib.itoa v) = X := ⟨_, rfl⟩
    rw [hX] at HF
    by_cases e : Lib.itoa v = s.data.toList
    · have HP : Hid (parseI s.data.toList = some v) := by
        rw [Hid, parseI, hv]
        simp only [e, if_true]
      have e1 : (X.toList == s.toList) = true := by
        rw [← hX, ByteArray.toList_eq, ByteArray.toList_eq, ← e]
        simp [bstr]
      clear e hX hv hvI
      go_enter Tryz.func48, Tryz.ntmps48
      go_wp2_with (first
        | (go_at_call 109; refine HA.out.mono ?_; rintro e w2 ⟨rfl, hw2⟩
           have hb2 : Below w.heap.size w w2 := (by rcases hw2 with rfl | ⟨t, rfl⟩; exact Below.refl _ _; exact Lib.bytesWorld_below _ _ _)
           clear hw2)
        | (go_at_call 14; refine (HF.out _ hb2).mono ?_; rintro e w3 ⟨rfl, hb3⟩))
      go_ret2
      exact retPI_some HP.out (hb2.trans (hb3.mono hb2.size))
    · have HP : Hid (parseI s.data.toList = none) := by
        rw [Hid, parseI, hv]
        simp only [e, if_false]
      have e1 : (X.toList == s.toList) = false := by
        rw [← hX, ByteArray.toList_eq, ByteArray.toList_eq, beq_eq_false_iff_ne]
        intro h
        refine e ?_
        rw [← h]
        simp [bstr]
      clear e hX hv hvI
      go_enter Tryz.func48, Tryz.ntmps48
      go_wp2_with (first
        | (go_at_call 109; refine HA.out.mono ?_; rintro e w2 ⟨rfl, hw2⟩
           have hb2 : Below w.heap.size w w2 := (by rcases hw2 with rfl | ⟨t, rfl⟩; exact Below.refl _ _; exact Lib.bytesWorld_below _ _ _)
           clear hw2)
        | (go_at_call 14; refine (HF.out _ hb2).mono ?_; rintro e w3 ⟨rfl, hb3⟩))
      go_ret2
      exact retPI_none HP.out (hb2.trans (hb3.mono hb2.size))
  · have HA := Lib.hid (hc s (by omega) rfl w ht)
    have HP := Lib.hid hn
    clear hn hc
    go_enter Tryz.func48, Tryz.ntmps48
    go_wp2_with (go_at_call 109; refine HA.out.mono ?_; rintro e w2 ⟨n, T, N, rfl, hb2⟩)
    go_ret2
    exact retPI_none HP.out hb2

/-- The numbers of words, as far as all are numbers. -/
def numsOf : List (List UInt8) → Option (List Int)
  | [] => some []
  | x :: r => match parseI x, numsOf r with
    | some n, some ns => some (n :: ns)
    | _, _ => none
theorem numsOf_append : ∀ (a b : List (List UInt8)), numsOf (a ++ b) = match numsOf a, numsOf b with | some xs, some ys => some (xs ++ ys) | _, _ => none
  | [], b => by cases h : numsOf b <;> simp [numsOf, h]
  | x :: r, b => by
    rw [List.cons_append, numsOf, numsOf, numsOf_append r b]
    cases parseI x <;> cases numsOf r <;> cases numsOf b <;> rfl
theorem numsOf_len : ∀ (a : List (List UInt8)) (xs : List Int), numsOf a = some xs → xs.length = a.length
  | [], xs, h => by cases h; rfl
  | x :: r, xs, h => by
    rw [numsOf] at h
    split at h
    · rename_i n ns _ h2
      cases h
      rw [List.length_cons, List.length_cons, numsOf_len r ns h2]
    · cases h
theorem numsOf_none {a : List (List UInt8)} {k : Nat} {x : List UInt8} (h : a[k]? = some x) (hx : parseI x = none) : numsOf a = none := by
  have e : a = a.take k ++ x :: a.drop (k + 1) := by
    obtain ⟨h1, h2⟩ := List.getElem?_eq_some_iff.1 h
    rw [← h2, ← List.drop_eq_getElem_cons, List.take_append_drop]
  rw [e, numsOf_append, numsOf, hx]
  cases numsOf (a.take k) <;> rfl
def parseNums (l : List UInt8) : Option (List Int) := if l = [45] then some [] else match numsOf (splitR 44 l) with | some xs => if 60 < xs.length then none else some xs | none => none
def pn0 (s : ByteArray) : List Int := (parseNums s.data.toList).getD []
def pn1 (s : ByteArray) : Bool := (parseNums s.data.toList).isSome
theorem retNone {w w' : World} {s : ByteArray} (h : parseNums s.data.toList = none) (hb : Below w.heap.size w w') : RetOwnB 3 (ints (pn0 s)) (pn1 s) w (.returned (.tuple #[.slice none 0 0, .bool false])) w' :=
  ⟨_, by rw [pn1, h]; rfl, by rw [pn0, h]; exact Own.nil _ _ _, hb⟩
theorem retSome {w w' : World} {s : ByteArray} {v : Value} {xs : List Int} (h : parseNums s.data.toList = some xs) (ho : Own w' 3 w.heap.size v (ints xs)) (hb : Below w.heap.size w w') : RetOwnB 3 (ints (pn0 s)) (pn1 s) w (.returned (.tuple #[v, .bool true])) w' :=
  ⟨_, by rw [pn1, h]; rfl, by rw [pn0, h]; exact ho, hb⟩

set_option maxRecDepth 100000 in
set_option maxHeartbeats 4000000 in
theorem I_ParseNumbers (w : World) (s : ByteArray) (hss : s.size ≤ maxLen) (hs : s.size ≤ 1048576) (ht : TabE w) : Calls Tryz.prog 7 #[.string s] w (RetOwnB 3 (ints (pn0 s)) (pn1 s) w) := by
  clear hss
  by_cases h45 : s.data.toList = [45]
  · have e1 : (s.toList == [45]) = true := by rw [ByteArray.toList_eq, h45]; rfl
    have HP : Hid (parseNums s.data.toList = some []) := by rw [Hid, parseNums, if_pos h45]
    clear h45
    go_enter Tryz.func7, Tryz.ntmps7
    go_wp2_with fail
    go_ret2
    exact retSome HP.out (Own.lit0 w 3 (Nat.le_refl _)) ((Below.refl _ _).alloc (Nat.le_refl _) _)
  · have e1 : (s.toList == [45]) = false := by rw [ByteArray.toList_eq, beq_eq_false_iff_ne]; exact h45
    obtain ⟨ws, hws⟩ : ∃ ws, splitR 44 s.data.toList = ws := ⟨_, rfl⟩
    have HPN : Hid (parseNums s.data.toList = match numsOf ws with | some xs => if 60 < xs.length then none else some xs | none => none) := by rw [Hid, parseNums, if_neg h45, hws]
    have hwl : ws.length ≤ 1048577 := by have := splitR_length_le 44 s.data.toList; rw [hws, bytes_len] at this; omega
    have HWM : Hid (∀ x ∈ ws, x.length ≤ 1048576) := by
      have h1 := splitR_mem 44 s.data.toList
      rw [hws, bytes_len] at h1
      exact fun x hx => Nat.le_trans (h1 x hx) hs
    have HSP : Hid (∀ W, Below w.heap.size w W → Calls Tryz.prog 47 #[.string s, .string ⟨#[44]⟩] W fun e w' => ∃ v, e = .returned v ∧ Own w' 9 W.heap.size v (strs ws) ∧ Below W.heap.size W w') := fun W hW => by
      obtain ⟨m, hm⟩ := (ht.below hW).max
      refine (Tryz.strings_Split s ⟨#[44]⟩ m W (by omega) hm (Nat.le_refl _)).mono fun e w' h => ?_
      obtain ⟨rfl, rfl⟩ := h
      have hc : Lib.countB s ⟨#[44]⟩ = s.data.toList.count 44 := Lib.count_one 44 _
      have hd : (Lib.splitB ⟨#[44]⟩ 0 (Lib.countB s ⟨#[44]⟩) s).map (·.data.toList) = ws := by
        rw [Lib.splitB_data, hc, ← hws]
        exact splitK_eq 44 _
      have hv : (Lib.splitB ⟨#[44]⟩ 0 (Lib.countB s ⟨#[44]⟩) s).map Value.string = strs ws := by
        rw [← hd, strs, List.map_map]
        exact List.map_congr_left fun x _ => by simp [bstr]
      have hl : Lib.countB s ⟨#[44]⟩ + 1 = ws.length := by
        have h1 := Lib.splitB_all ⟨#[44]⟩ (Nat.le_refl _) 0 (Lib.countB s ⟨#[44]⟩) s rfl
        rw [← h1, ← hd, List.length_map]
      rw [hv, hl]
      exact ⟨_, rfl, own_strs ws (heap_alloc_new W _) (Nat.le_refl _) (by omega), (Below.refl _ _).alloc (Nat.le_refl _) _⟩
    have HPI : Hid (∀ (x : List UInt8), x.length ≤ 1048576 → ∀ W, Below w.heap.size w W → Calls Tryz.prog 48 #[.string (bstr x)] W (RetPI (parseI x) W)) := fun x hx W hW => by
      have := i_ParseInt (bstr x) (by rw [bstr_size]; omega) W (ht.below hW)
      simpa [bstr] using this
    clear h45 hws
    go_enter Tryz.func7, Tryz.ntmps7
    go_wp2_with fail
    have hbA : Below w.heap.size w (w.alloc (.cells #[] 3)) := (Below.refl _ _).alloc (Nat.le_refl _) _
    refine (HSP.out _ hbA).mono ?_
    rintro e w2 ⟨v2, rfl, ov, b2⟩
    obtain ⟨a, n, c, rfl, HN, hnc, hc⟩ := ov.rd.formS
    have hn : n ≤ 1048577 := by have := HN.out; omega
    have hb2 := hbA.trans (b2.mono hbA.size)
    have hl0 := (Own.lit0 w 3 (Nat.le_refl _)).below b2
    replace ov := ov.mono (B' := w.heap.size) hbA.size
    clear b2 hbA
    go_wp2_with fail
    go_loopw [4, 6, 7, 8, 16] (fun vl _ _ _ vi wr => ∃ (k : Nat) (xs : List Int), k ≤ n ∧ vi = .int .i64 (k : Int) ∧ Hid (numsOf (ws.take k) = some xs) ∧ Own wr 3 w.heap.size vl (ints xs) ∧ Own wr 9 w.heap.size (.slice a n c) (strs ws) ∧ Below w.heap.size w wr) (fun _ _ _ _ vi _ => n - (intOf vi).toNat)
    case atStart => exact ⟨0, [], Nat.zero_le _, rfl, rfl, hl0, ov, hb2⟩
    case round =>
      clear hl0 ov hb2
      obtain ⟨k, xs, hk, rfl, HX, ho, ov, hb⟩ := hrel
      have hxl := numsOf_len _ _ HX.out
      rw [List.length_take] at hxl
      obtain ⟨al, ml, cl, rfl, HML, _, _⟩ := ho.rd.formN
      have hml : ml = k := by have h1 := HML.out; have h2 := HN.out; omega
      subst hml
      have HYM : Hid ((ints xs).length = ml) := by rw [Hid, ints_length, HML.out]
      clear hxl
      have hsz := hb.size
      by_cases hlt : ml < n
      · have i0 : (ml : Int) < (n : Int) := by omega
        obtain ⟨ad, x, rfl, hcx, hx⟩ := ov.rd.text (k := ml) (by have := HN.out; omega)
        have HQ := Lib.hid (HPI.out x (HWM.out x (List.mem_of_getElem? hx.out)) wr hb)
        cases hp : parseI x with
        | none =>
          rw [hp] at HQ
          have HR : Hid (parseNums s.data.toList = none) := by rw [Hid, HPN.out, numsOf_none hx.out hp]
          clear hp
          go_wp2_with (go_at_call 48; refine HQ.out.mono ?_; rintro e w3 ⟨rfl, hb3⟩)
          go_ret2
          exact retNone HR.out (hb.trans (hb3.mono hsz))
        | some y =>
          rw [hp] at HQ
          have HX2 : Hid (numsOf (ws.take (ml + 1)) = some (xs ++ [y])) := by
            rw [Hid, take_snoc' hx.out, numsOf_append, HX.out, numsOf, hp]; rfl
          clear hp
          go_wp2_with (first
            | (go_at_call 48; refine HQ.out.mono ?_; rintro e w3 ⟨rfl, hb3⟩
               have ho3 := ho.below hb3
               have ov3 := ov.below hb3
               have hbb := hb.trans (hb3.mono hsz)
               have hz3 := hbb.size)
            | (at_builtin; refine wpList_app1m rfl _ _ 23 rfl elI rfl ho3 (by show Value.slice (some ⟨w3.heap.size, 0, none⟩) 1 1 = _; simp) rfl (by omega) _ HYM.out (by omega) (by omega) ?_; intro b6 c6 w6 ho6 hg6 hat6))
          have hb7 := hbb.grown hg6 hbb.size (fun r hr => (ho3.lt r hr).1)
          have ov7 := ov3.apart hg6 (fun k h1 h2 => ho3.elem_ne ov3 (by decide) k h2 h1)
          go_roundw
          case rel => exact ⟨ml + 1, xs ++ [y], by omega, by go_num, HX2, by rw [ints_append]; exact ho6, ov7, hb7⟩
          case measure => simp [intOf]; omega
      · obtain rfl : ml = n := by omega
        have HX3 : Hid (numsOf ws = some xs) := by
          have h1 := HX.out
          rwa [List.take_of_length_le (by have := HN.out; omega)] at h1
        by_cases h60 : 60 < ml
        · have HR : Hid (parseNums s.data.toList = none) := by
            rw [Hid, HPN.out, HX3.out]
            simp only
            rw [if_pos (by have := HML.out; omega)]
          have i1 : decide ((ml : Int) > 60) = true := by simp; omega
          go_wp2_with fail
          go_ret2
          exact retNone HR.out hb
        · have HR : Hid (parseNums s.data.toList = some xs) := by
            rw [Hid, HPN.out, HX3.out]
            simp only
            rw [if_neg (by have := HML.out; omega)]
          have i1 : decide ((ml : Int) > 60) = false := by simp; omega
          go_wp2_with fail
          go_ret2
          exact retSome HR.out ho hb

end Go.Proofs.YtggblfnajeikjaaGreatDoor

namespace Go.Proofs.YtggblfnajeikjaaGreatDoor
open Go.RowKit
set_option linter.unusedVariables false
set_option linter.unusedSimpArgs false

theorem itoa_byte {n : Int} {c : UInt8} (h : c ∈ Lib.itoa n) : isDg c = true ∨ c = 45 := by
  obtain ⟨h1, h2⟩ := itoa_parts (rfl : Lib.itoa n = Lib.itoa n)
  by_cases h0 : n < 0
  · have e : Lib.itoa n = 45 :: Lib.decDigits n.natAbs := by rw [Lib.itoa, if_pos h0]
    rw [e] at h
    rcases List.mem_cons.1 h with h | h
    · exact .inr h
    · exact .inl (dec_digit _ _ h)
  · have e : Lib.itoa n = Lib.decDigits n.natAbs := by rw [Lib.itoa, if_neg h0]; congr 1; omega
    rw [e] at h
    exact .inl (dec_digit _ _ h)
theorem itoa_no44 (n : Int) : (44 : UInt8) ∉ Lib.itoa n := fun h => by
  rcases itoa_byte h with h | h
  · exact absurd h (by decide)
  · exact absurd h (by decide)
theorem itoa_ne45 (n : Int) : Lib.itoa n ≠ [45] := fun h => by
  obtain ⟨h1, h2⟩ := itoa_parts h
  have hp := decDigits_pos n.natAbs
  rw [← h2] at hp
  simp [magOf, isNeg] at hp
theorem splitR_none {c : UInt8} : ∀ {l : List UInt8}, c ∉ l → splitR c l = [l]
  | [], _ => rfl
  | x :: r, h => by
    rw [List.mem_cons, not_or] at h
    rw [splitR, if_neg (fun e => h.1 e.symm), splitR_none h.2]
theorem splitR_app {c : UInt8} (r : List UInt8) : ∀ {x : List UInt8}, c ∉ x → splitR c (x ++ c :: r) = x :: splitR c r
  | [], _ => by simp [splitR]
  | y :: x, h => by
    rw [List.mem_cons, not_or] at h
    rw [List.cons_append, splitR, if_neg (fun e => h.1 e.symm), splitR_app r h.2]
theorem splitR_join (c : UInt8) : ∀ (ls : List (List UInt8)), ls ≠ [] → (∀ x ∈ ls, c ∉ x) → splitR c (joinK [c] ls ls.length) = ls
  | [], h, _ => absurd rfl h
  | [x], _, h => by
    have : joinK [c] [x] 1 = x := by simp [joinK]
    rw [List.length_singleton, this, splitR_none (h x (.head _))]
  | x :: y :: t, _, h => by
    have ih := splitR_join c (y :: t) (by simp) fun z hz => h z (.tail _ hz)
    rw [List.length_cons, joinK_cons, if_pos (by simp), List.append_assoc, List.singleton_append, splitR_app _ (h x (.head _)), ih]
theorem numsOf_itoa : ∀ {xs : List Int}, I64s xs → numsOf (xs.map Lib.itoa) = some xs
  | [], _ => rfl
  | x :: r, h => by
    have hx := h x (.head _)
    rw [List.map_cons, numsOf, parseI_iff.2 ⟨hx, rfl⟩, numsOf_itoa fun y hy => h y (.tail _ hy)]
theorem numsB_split {xs : List Int} (h : xs ≠ []) : splitR 44 (numsB xs) = xs.map Lib.itoa := by
  have hl : xs.length ≠ 0 := fun e => h (List.length_eq_zero_iff.1 e)
  rw [numsB, if_neg hl]
  have := splitR_join 44 (xs.map Lib.itoa) (by simpa using h) fun x hx => by
    obtain ⟨n, _, rfl⟩ := List.mem_map.1 hx
    exact itoa_no44 n
  rwa [List.length_map] at this
theorem numsB_dash {xs : List Int} : numsB xs = [45] ↔ xs = [] := by
  refine ⟨fun h => Classical.byContradiction fun hx => ?_, fun h => by rw [h]; rfl⟩
  have h1 := numsB_split hx
  rw [h] at h1
  cases xs with
  | nil => exact hx rfl
  | cons x r =>
    have : Lib.itoa x = [45] := by
      simp [splitR] at h1
      exact h1.1.symm
    exact itoa_ne45 x this
theorem parse_format {xs : List Int} (h : I64s xs) (hl : xs.length ≤ 60) : parseNums (numsB xs) = some xs := by
  by_cases hx : xs = []
  · subst hx; rfl
  · rw [parseNums, if_neg (fun e => hx (numsB_dash.1 e)), numsB_split hx, numsOf_itoa h]
    show (if 60 < xs.length then none else some xs) = some xs
    rw [if_neg (by omega)]

end Go.Proofs.YtggblfnajeikjaaGreatDoor

namespace Go.Proofs.YtggblfnajeikjaaGreatDoor
set_option linter.unusedVariables false
set_option linter.unusedSimpArgs false

/-- Every second element, from an index on: the first k of them. -/
def halfK (xs : List Int) (from_ k : Nat) : List Int := (List.range k).map fun j => xs.getD (from_ + 2 * j) 0
def halfL (xs : List Int) (from_ : Nat) : List Int := halfK xs from_ ((xs.length + 1 - from_) / 2)
theorem halfK_len (xs : List Int) (f k : Nat) : (halfK xs f k).length = k := by simp [halfK]
theorem halfL_len (xs : List Int) (f : Nat) : (halfL xs f).length = (xs.length + 1 - f) / 2 := halfK_len _ _ _
theorem halfK_succ {xs : List Int} {f k : Nat} {x : Int} (h : xs[f + 2 * k]? = some x) : halfK xs f (k + 1) = halfK xs f k ++ [x] := by
  simp [halfK, List.range_succ, List.getD_eq_getElem?_getD, h]
/-- The comparators between two lists, the second of which is one longer at its head. -/
def cmpK (v w : List Int) (k : Nat) : List (List Int) := (List.range k).map fun i => [min (w.getD i 0) (v.getD (i + 1) 0), max (w.getD i 0) (v.getD (i + 1) 0)]
def cmpL (v w : List Int) : List (List Int) := cmpK v w (min w.length (v.length - 1))
theorem cmpK_len (v w : List Int) (k : Nat) : (cmpK v w k).length = k := by simp [cmpK]
theorem cmpK_succ {v w : List Int} {k : Nat} {x y : Int} (h : w[k]? = some x) (h2 : v[k + 1]? = some y) : cmpK v w (k + 1) = cmpK v w k ++ [[min x y, max x y]] := by
  simp [cmpK, List.range_succ, List.getD_eq_getElem?_getD, h, h2]
def mrg : Nat → List Int → List Int → List (List Int)
  | 0, _, _ => []
  | f + 1, a, b => if a.length = 0 ∨ b.length = 0 then [] else if a.length = 1 ∧ b.length = 1 then [[a.getD 0 0, b.getD 0 0]]
    else mrg f (halfL a 0) (halfL b 0) ++ mrg f (halfL a 1) (halfL b 1) ++ cmpL (halfL a 0 ++ halfL b 0) (halfL a 1 ++ halfL b 1)
def mlb : Nat → Nat
  | 0 => 0
  | f + 1 => 2 * mlb f + 20
theorem mrg_len : ∀ (f : Nat) (a b : List Int), a.length + b.length ≤ 16 → (mrg f a b).length ≤ mlb f
  | 0, a, b, _ => by simp [mrg, mlb]
  | f + 1, a, b, h => by
    have h0 := mrg_len f (halfL a 0) (halfL b 0) (by rw [halfL_len, halfL_len]; omega)
    have h1 := mrg_len f (halfL a 1) (halfL b 1) (by rw [halfL_len, halfL_len]; omega)
    have h2 : (cmpL (halfL a 0 ++ halfL b 0) (halfL a 1 ++ halfL b 1)).length ≤ 16 := by
      rw [cmpL, cmpK_len, List.length_append, List.length_append, halfL_len, halfL_len, halfL_len, halfL_len]; omega
    rw [mrg, mlb]
    split
    · simp
    · split
      · simp
      · simp only [List.length_append]; omega
theorem mlb_le : ∀ {f g : Nat}, f ≤ g → mlb f ≤ mlb g
  | 0, g, _ => by simp [mlb]
  | f + 1, 0, h => by omega
  | f + 1, g + 1, h => by have := mlb_le (f := f) (g := g) (by omega); simp only [mlb]; omega
theorem mrg_le {f : Nat} {a b : List Int} (h : a.length + b.length ≤ 16) (hf : f ≤ 16) : (mrg f a b).length ≤ 1310700 :=
  Nat.le_trans (mrg_len f a b h) (Nat.le_trans (mlb_le hf) (by decide))
def wiresL (from_ n : Nat) : List Int := (List.range n).map fun (i : Nat) => ((from_ + i : Nat) : Int)
theorem wiresL_len (f n : Nat) : (wiresL f n).length = n := by simp [wiresL]
theorem wiresL_succ (f n : Nat) : wiresL f (n + 1) = wiresL f n ++ [((f + n : Nat) : Int)] := by simp [wiresL, List.range_succ]
/-- The reference's merge of two lists of wires: the merge of their places, the places read as wires. -/
def mrgS (a b : List Int) : List (List Int) := (mrg (a.length + b.length) (wiresL 0 a.length) (wiresL a.length b.length)).map fun p => [(a ++ b).getD (p.getD 0 0).toNat 0, (a ++ b).getD (p.getD 1 0).toNat 0]
def batS : Nat → List Int → List (List Int)
  | 0, _ => []
  | f + 1, l => if l.length ≤ 1 then [] else batS f (l.take ((l.length + 1) / 2)) ++ batS f (l.drop ((l.length + 1) / 2)) ++ mrgS (l.take ((l.length + 1) / 2)) (l.drop ((l.length + 1) / 2))
def blb : Nat → Nat
  | 0 => 0
  | f + 1 => 2 * blb f + 1310700
theorem blb_le : ∀ {f g : Nat}, f ≤ g → blb f ≤ blb g
  | 0, g, _ => by simp [blb]
  | f + 1, 0, h => by omega
  | f + 1, g + 1, h => by have := blb_le (f := f) (g := g) (by omega); simp only [blb]; omega
theorem batS_len : ∀ (f : Nat) (l : List Int), l.length ≤ 16 → (batS f l).length ≤ blb f
  | 0, l, _ => by simp [batS]
  | f + 1, l, h => by
    have h0 := batS_len f (l.take ((l.length + 1) / 2)) (by rw [List.length_take]; omega)
    have h1 := batS_len f (l.drop ((l.length + 1) / 2)) (by rw [List.length_drop]; omega)
    rw [batS, blb]
    split
    · simp
    · have h2 : (mrgS (l.take ((l.length + 1) / 2)) (l.drop ((l.length + 1) / 2))).length ≤ 1310700 := by
        rw [mrgS, List.length_map]
        refine mrg_le ?_ ?_
        · rw [wiresL_len, wiresL_len, List.length_take, List.length_drop]; omega
        · rw [List.length_take, List.length_drop]; omega
      simp only [List.length_append]; omega
theorem batS_le {f : Nat} {l : List Int} (h : l.length ≤ 16) (hf : f ≤ 16) : (batS f l).length ≤ 100000000000 :=
  Nat.le_trans (batS_len f l h) (Nat.le_trans (blb_le hf) (by decide))
theorem halfL_mem {xs : List Int} {f : Nat} {y : Int} (h : y ∈ halfL xs f) : y ∈ xs := by
  simp only [halfL, halfK, List.mem_map, List.mem_range] at h
  obtain ⟨j, hj, rfl⟩ := h
  have hlt : f + 2 * j < xs.length := by omega
  rw [List.getD_eq_getElem?_getD, List.getElem?_eq_getElem hlt]
  exact List.getElem_mem hlt
theorem getD_mem {xs : List Int} {k : Nat} (h : k < xs.length) : xs.getD k 0 ∈ xs := by
  rw [List.getD_eq_getElem?_getD, List.getElem?_eq_getElem h]
  exact List.getElem_mem h
theorem mrg_row : ∀ (f : Nat) (a b : List Int) (r : List Int), r ∈ mrg f a b → ∃ x y, r = [x, y] ∧ x ∈ a ++ b ∧ y ∈ a ++ b
  | 0, a, b, r, h => by simp [mrg] at h
  | f + 1, a, b, r, h => by
    rw [mrg] at h
    split at h
    · cases h
    · split at h
      · rename_i h1 h2
        rw [List.mem_singleton] at h
        exact ⟨_, _, h, List.mem_append_left _ (getD_mem (by omega)), List.mem_append_right _ (getD_mem (by omega))⟩
      · have sub : ∀ {u g : Nat} {x : Int}, x ∈ halfL a g ++ halfL b g → x ∈ a ++ b := fun {u g x} hx => by
          rcases List.mem_append.1 hx with hx | hx
          · exact List.mem_append_left _ (halfL_mem hx)
          · exact List.mem_append_right _ (halfL_mem hx)
        rcases List.mem_append.1 h with h | h
        · rcases List.mem_append.1 h with h | h
          · obtain ⟨x, y, e, hx, hy⟩ := mrg_row f _ _ r h
            exact ⟨x, y, e, sub (u := 0) hx, sub (u := 0) hy⟩
          · obtain ⟨x, y, e, hx, hy⟩ := mrg_row f _ _ r h
            exact ⟨x, y, e, sub (u := 0) hx, sub (u := 0) hy⟩
        · simp only [cmpL, cmpK, List.mem_map, List.mem_range] at h
          obtain ⟨i, hi, rfl⟩ := h
          have hw := getD_mem (xs := halfL a 1 ++ halfL b 1) (k := i) (by omega)
          have hv := getD_mem (xs := halfL a 0 ++ halfL b 0) (k := i + 1) (by omega)
          refine ⟨_, _, rfl, ?_, ?_⟩
          · rcases Int.le_total ((halfL a 1 ++ halfL b 1).getD i 0) ((halfL a 0 ++ halfL b 0).getD (i + 1) 0) with e | e
            · rw [Int.min_eq_left e]; exact sub (u := 0) hw
            · rw [Int.min_eq_right e]; exact sub (u := 0) hv
          · rcases Int.le_total ((halfL a 1 ++ halfL b 1).getD i 0) ((halfL a 0 ++ halfL b 0).getD (i + 1) 0) with e | e
            · rw [Int.max_eq_right e]; exact sub (u := 0) hv
            · rw [Int.max_eq_left e]; exact sub (u := 0) hw

/-- The insertion network: row j, its first t comparators; the rows up to k. -/
def insJ (j t : Nat) : List (List Int) := (List.range t).map fun (s : Nat) => [(j : Int) - 1 - (s : Int), (j : Int) - 1 - (s : Int) + 1]
def insNK : Nat → List (List Int)
  | 0 => []
  | k + 1 => insNK k ++ insJ (k + 1) (k + 1)
theorem insJ_len (j t : Nat) : (insJ j t).length = t := by simp [insJ]
theorem insJ_succ (j t : Nat) : insJ j (t + 1) = insJ j t ++ [[(j : Int) - 1 - (t : Int), (j : Int) - 1 - (t : Int) + 1]] := by simp [insJ, List.range_succ]
theorem insK_len : ∀ k, k < 9 → (insNK k).length ≤ 100 := by decide

end Go.Proofs.YtggblfnajeikjaaGreatDoor
