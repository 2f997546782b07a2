/- Joined texts of the proof: RepA, LawFnReports. -/
import Derived.WalkKit
import Derived.WalkSpells
import Derived.WalkLawsBesides
import Derived.Deep.Draws
import Derived.Lib.Hide
import Derived.RegionTactic
import Derived.Lib.SmallJoins
import Derived.Test.YtggblfnajeikjaaGreatDoorRows
import Derived.BigQuiet
import Derived.Deep.QuietTactic
import Derived.Lib.SliceRun
import Derived.Deep.RegionLaw
import Derived.Deep.DeepCutAuto
import Derived.Deep.LoopGhost
import Derived.Deep.RegionWith
import Derived.Lib.ItoaNum
import Derived.Deep.RegionHeld3
import Derived.IntWalk
import Derived.Lib.Join
import Derived.Shelf.Strings.Builder1
import Derived.Shelf.Strings.Builder2
import Derived.Shelf.Strings.OnBuilder
import Derived.Shelf.Strconv.Atoi
import Derived.Shelf.Strconv.Itoa0
import Derived.Shelf.Strconv.Itoa1
import Derived.Shelf.LaysM
import Derived.Shelf.Strconv.Itoa2
import Derived.Shelf.Strconv.Itoa3
import Derived.Shelf.Strconv.AtoiErrFast
import Derived.Shelf.Strconv.ParseIntEmpty
import Derived.Shelf.Strconv.AtoiFail
import Derived.Shelf.Strconv.Clone
import Derived.Shelf.Strconv.SyntaxError
import Derived.Shelf.LaysC
import Derived.Shelf.Strconv.ToError
import Derived.Shelf.Strconv.Lower
import Derived.Shelf.Strconv.ParseUint10
import Derived.Shelf.Strconv.ParseUint10Empty
import Derived.Shelf.Strconv.ParseUint10Any
import Derived.Shelf.Strconv.ParseInt10
import Derived.Shelf.Strconv.AtoiLong
import Derived.Shelf.Strconv.AtoiInnerAll
import Derived.Shelf.Strconv.RangeError
import Derived.Shelf.Strconv.ToErrorRange
import Derived.Shelf.Strconv.AtoiAll
import Derived.Shelf.Strconv.ErrVarAll
import Derived.Shelf.Strings.Search1
import Derived.Shelf.Strings.Search2
import Derived.Shelf.Strings.Search3
import Derived.Shelf.Strings.Cut
import Derived.Shelf.Strings.Count
import Derived.Shelf.Strings.Shaped
import Derived.Shelf.Sort.Plain
import Derived.Shelf.Strings.Prefix
import Derived.Shelf.Strings.Split
import Derived.Shelf.Unicode.DecodeSlow
import Derived.Shelf.Slices.Reverse
import Derived.Ground.Names2Prog
import Derived.Shelf.Slices.CompactI
import Derived.Test.YtggblfnajeikjaaGreatDoorProg
import Derived.Lib.AppendZeros
import Derived.Deep.AppendLies
import Derived.Lib.SplitLaws
import Derived.Lib.Split
import Derived.Lib.IndexBytes
import Derived.Lib.AtoiAllCases
import Derived.Lib.AtoiErrMem
import Derived.Laws.BitsAllLaws
import Derived.Laws.BitsLemmas
import Derived.Lib.RowBridge
import Derived.Sort.OwnSortedInts
import Derived.Lib.LazyBuf
import Derived.Maps.OwnOps
import Derived.Maps.OwnSet
import Derived.Maps.Views
import Derived.Carry
import Derived.Laws.Bits64b
import Derived.BigRegion
import Derived.Test.YtggblfnajeikjaaGreatDoorJ1
import Derived.Test.YtggblfnajeikjaaGreatDoorJ2
import Derived.Test.YtggblfnajeikjaaGreatDoorJ3
import Derived.Test.YtggblfnajeikjaaGreatDoorJ4
import Derived.Test.YtggblfnajeikjaaGreatDoorJ5
import Derived.Test.YtggblfnajeikjaaGreatDoorJ6
import Derived.Test.YtggblfnajeikjaaGreatDoorJ7
import Derived.Test.YtggblfnajeikjaaGreatDoorJ9
import Derived.Test.YtggblfnajeikjaaGreatDoorJ10
import Derived.Test.YtggblfnajeikjaaGreatDoorJ11
import Derived.Test.YtggblfnajeikjaaGreatDoorJ12
import Derived.Test.YtggblfnajeikjaaGreatDoorJ13
import Derived.Test.YtggblfnajeikjaaGreatDoorJ14
import Derived.Test.YtggblfnajeikjaaGreatDoorJ15
import Derived.Test.YtggblfnajeikjaaGreatDoorJ16
import Derived.Test.YtggblfnajeikjaaGreatDoorJ17
import Derived.Test.YtggblfnajeikjaaGreatDoorJ18
import Derived.Test.YtggblfnajeikjaaGreatDoorJ19
import Derived.Test.YtggblfnajeikjaaGreatDoorJ20
import Derived.Test.YtggblfnajeikjaaGreatDoorJ21
import Derived.Test.YtggblfnajeikjaaGreatDoorJ22
import Derived.Test.YtggblfnajeikjaaGreatDoorJ23
import Derived.Test.YtggblfnajeikjaaGreatDoorJ24
import Derived.Test.YtggblfnajeikjaaGreatDoorJ25
import Derived.Test.YtggblfnajeikjaaGreatDoorJ26
import Derived.Test.YtggblfnajeikjaaGreatDoorJ27
import Derived.Test.YtggblfnajeikjaaGreatDoorJ28
import Derived.Test.YtggblfnajeikjaaGreatDoorJ29
import Derived.Test.YtggblfnajeikjaaGreatDoorJ30
import Derived.Test.YtggblfnajeikjaaGreatDoorJ31
import Derived.Test.YtggblfnajeikjaaGreatDoorJ32
import Derived.Test.YtggblfnajeikjaaGreatDoorJ33
import Derived.Test.YtggblfnajeikjaaGreatDoorJ34
import Derived.Test.YtggblfnajeikjaaGreatDoorJ35
import Derived.Test.YtggblfnajeikjaaGreatDoorJ36
import Derived.Test.YtggblfnajeikjaaGreatDoorJ37
import Derived.Test.YtggblfnajeikjaaGreatDoorJ38
import Derived.Test.YtggblfnajeikjaaGreatDoorJ39
import Derived.Test.YtggblfnajeikjaaGreatDoorJ40
import Derived.Test.YtggblfnajeikjaaGreatDoorJ41
import Derived.Test.YtggblfnajeikjaaGreatDoorJ42
import Derived.Test.YtggblfnajeikjaaGreatDoorJ43
import Derived.Test.YtggblfnajeikjaaGreatDoorJ44
import Derived.Test.YtggblfnajeikjaaGreatDoorJ45
import Derived.Test.YtggblfnajeikjaaGreatDoorJ46
import Derived.Test.YtggblfnajeikjaaGreatDoorJ47
import Derived.Test.YtggblfnajeikjaaGreatDoorJ48
import Derived.Test.YtggblfnajeikjaaGreatDoorJ49
import Derived.Test.YtggblfnajeikjaaGreatDoorJ50
namespace Go.Proofs.YtggblfnajeikjaaGreatDoor
open Go.RowKit
set_option linter.unusedVariables false
set_option linter.unusedSimpArgs false

set_option maxHeartbeats 1000000 in
theorem i_CheapestNeighbors (v : Value) (xs : List Int) (w : World) (h : Rd w v (ints xs)) (hs : lensB xs = true) : Calls Tryz.prog 32 #[v] w (RetQ (.int .i64 (nbAll xs)) w) := by
  have HL := Lib.hid (hs ▸ i_LengthsOk v xs w h)
  obtain ⟨h8, hb⟩ := lensB_iff.1 hs
  have HN := Lib.hid (i_nb xs.length v xs w h (Nat.le_refl _) h8 hb)
  have HE : Hid (nb xs.length xs = nbAll xs) := rfl
  rw [HE.out] at HN
  generalize nbAll xs = Z at HN ⊢
  obtain ⟨a, n, c, rfl, _, hnc, hc⟩ := h.formN
  clear hs h8 hb
  go_enter Tryz.func32, Tryz.ntmps32
  go_wp2_with (first
    | (go_at_call 88; refine HL.out.mono ?_; rintro e w' ⟨rfl, rfl⟩)
    | (go_at_call 89; refine HN.out.mono ?_; rintro e w1 ⟨rfl, hd1⟩))
  go_ret
  exact ⟨rfl, hd1⟩

theorem fmt60 {xs : List Int} (h : xs.length ≤ 60) : fmtNums xs = numsB xs := by rw [fmtNums, if_neg (by omega)]
theorem rep_parse {l : List Int} (h1 : l.length ≤ 12) (h2 : ∀ y ∈ l, -3 ≤ y ∧ y ≤ 8) :
    I64s l ∧ pn0 (bstr (numsB l)) = l ∧ pn1 (bstr (numsB l)) = true ∧ (bstr (numsB l)).size ≤ 1000 ∧ (bstr (numsB l) = (⟨#[45]⟩ : ByteArray) ↔ l.length = 0) := by
  have hi : I64s l := fun y hy => by have := h2 y hy; unfold I64; omega
  have hp := parse_format hi (by omega : l.length ≤ 60)
  have e : (bstr (numsB l)).data.toList = numsB l := by simp [bstr]
  refine ⟨hi, by rw [pn0, e, hp]; rfl, by rw [pn1, e, hp]; rfl, ?_, ?_⟩
  · have := numsB_le hi (by omega : l.length ≤ 20)
    show (bstr (numsB l)).data.size ≤ 1000
    have e2 : (bstr (numsB l)).data.size = (numsB l).length := by simp [bstr]
    omega
  · refine ⟨fun h => ?_, fun h => ?_⟩
    · have h0 : l = [] := numsB_dash.1 (by rw [← e, h])
      rw [h0]; rfl
    · rw [List.eq_nil_of_length_eq_zero h]; rfl
theorem rep_dis {l : List Int} (h1 : l.length ≤ 12) : disLine l = numsB (disL l) := by rw [disLine, if_pos h1]
theorem rep_net {N : Nat} {xss : List (List Int)} (hk : netOk (N : Int) xss = true) (hf : failsB (N : Int) xss = false) : netLine (N : Int) xss = [112, 97, 105, 114, 115, 32] ++ Lib.itoa xss.length ++ [32, 100, 101, 112, 116, 104, 32] ++ Lib.itoa (depthOf N xss) ++ [32, 115, 111, 114, 116, 115] := by
  rw [netLine, if_pos hk, hf]; rfl
theorem rep_netF {N : Nat} {xss : List (List Int)} (hk : netOk (N : Int) xss = true) (hf : failsB (N : Int) xss = true) : netLine (N : Int) xss = [112, 97, 105, 114, 115, 32] ++ Lib.itoa xss.length ++ [32, 100, 101, 112, 116, 104, 32] ++ Lib.itoa (depthOf N xss) ++ ([32, 102, 97, 105, 108, 115, 32] ++ numsB (failLs N xss)) := by
  rw [netLine, if_pos hk, if_pos hf, netHead]; simp [List.append_assoc]
theorem rep_order {N : Nat} {xss : List (List Int)} (hk : netOk (N : Int) xss = true) {a b : Nat} (ha : (knownL (N : Int) xss).length = a) (hb : (resL (N : Int) xss).length = b) :
    orderLine (N : Int) xss = [107, 110, 111, 119, 110, 32] ++ Lib.itoa a ++ [32, 114, 101, 115, 117, 108, 116, 115, 32] ++ Lib.itoa b ++ [32, 105, 100, 108, 101, 32] ++ numsB (idleL N xss) := by
  rw [orderLine_ok hk, ha, hb]
theorem rep_test {N : Nat} {xss : List (List Int)} (hk : netOk (N : Int) xss = true) (hl : xss.length ≤ 20) : testLine (N : Int) xss = [104, 105, 100, 100, 101, 110, 32] ++ Lib.itoa (hiddenL N xss).length ++ [32, 116, 101, 115, 116, 115, 32] ++ numsB (greedyL N xss) := by
  rw [testLine, if_pos (by simp [hk, hl])]
theorem rep_perm {m : Nat} {o : List Int} (h5 : m ≤ 5) (h : PermN m o) : shortB o = true ∧ sixB o = true := by
  obtain ⟨h1, h2⟩ := h
  subst h1
  exact ⟨shortB_iff.2 ⟨by omega, h2⟩, by rw [sixB, Bool.and_eq_true]; exact ⟨by simp; omega, ordB_iff.2 h2⟩⟩
theorem rep_stack {o : List Int} (h : shortB o = true) : stackLine o = if canB o then [119, 111, 114, 100, 32] ++ wordOf o else [114, 111, 117, 110, 100, 115, 32] ++ Lib.itoa (rndN 9 o : Nat) := by
  rw [stackLine, if_pos h, wordOf, h, Bool.true_and]
  cases hc : canB o <;> rfl
theorem rep_lens {r : List Int} (h1 : r.length ≤ 6) (h2 : ∀ y ∈ r, 1 ≤ y ∧ y ≤ 12) : lensB r = true := lensB_iff.2 ⟨by omega, fun y hy => by have := h2 y hy; omega⟩
theorem rep_merge {r : List Int} (h : lensB r = true) : mergeLine r = [97, 110, 121, 32] ++ Lib.itoa (cm r) ++ [32, 110, 101, 105, 103, 104, 98, 111, 114, 115, 32] ++ Lib.itoa (nbAll r) := by rw [mergeLine, if_pos h]
theorem rep_lateOk {t : List Int} (h1 : t.length ≤ 11) (h2 : ∀ y ∈ t, 0 ≤ y ∧ y ≤ 36) : lateOkB t 2 = true := lateOkB_iff.2 ⟨⟨by omega, fun y hy => by have := h2 y hy; omega⟩, by omega, by omega⟩
theorem rep_late {t : List Int} {s : Int} (h : lateOkB t s = true) : lateLine t s = numsB (emitO t s) ++ [32] ++ numsB (emitL t s) := by rw [lateLine, if_pos h, emitO, emitL, if_pos h, if_pos h]
theorem rep_flip {o : List Int} (h1 : shortB o = true) (h2 : sixB o = true) : flipLine o = [103, 114, 101, 101, 100, 121, 32] ++ numsB (grL o) ++ [32, 98, 101, 115, 116, 32] ++ numsB (bestL o) := by rw [flipLine, if_pos h1, if_pos h2]

end Go.Proofs.YtggblfnajeikjaaGreatDoor

namespace Go.Proofs.YtggblfnajeikjaaGreatDoor
open Go.RowKit
set_option linter.unusedVariables false
set_option linter.unusedSimpArgs false

theorem tot_bnd {xss : List (List Int)} {B : Nat} (h : ∀ xs ∈ xss, xs.length ≤ B) : tot xss ≤ xss.length * B := by
  induction xss with
  | nil => simp [tot]
  | cons x t ih =>
    have h1 := ih (fun xs hx => h xs (List.mem_cons_of_mem _ hx))
    have h2 := h x (List.mem_cons_self ..)
    simp only [tot, List.foldr_cons, List.length_cons] at *
    rw [Nat.add_mul]
    omega
theorem netOk_I64' {N : Nat} {xss : List (List Int)} (hk : netOk (N : Int) xss = true) : I64ss xss ∧ SzOk xss := by
  obtain ⟨N', hN', h1, h8, h60⟩ := netOk_n hk
  have hr : ∀ xs ∈ xss, ∃ a b : Nat, xs = [(a : Int), (b : Int)] ∧ a < N ∧ b < N ∧ a ≠ b := fun xs hx => by
    obtain ⟨k, hx⟩ := List.getElem?_of_mem hx
    exact netOk_row hk hx
  refine ⟨fun xs hx y hy => ?_, by omega, ?_⟩
  · obtain ⟨a, b, rfl, ha, hb, _⟩ := hr xs hx
    have : y = (a : Int) ∨ y = (b : Int) := by simpa using hy
    unfold I64
    omega
  · have := tot_bnd (B := 2) (fun xs hx => by obtain ⟨a, b, rfl, _⟩ := hr xs hx; simp)
    omega
theorem toL (L : List UInt8) : (bstr L).toList = L := by rw [ByteArray.toList_eq]; simp [bstr]
theorem catNet (a b c d : List UInt8) (R : List UInt8) (h : R = [112, 97, 105, 114, 115, 32] ++ a ++ [32, 100, 101, 112, 116, 104, 32] ++ b ++ c) :
    bstr R = (⟨#[112, 97, 105, 114, 115, 32]⟩ : ByteArray) ++ bstr a ++ ⟨#[32, 100, 101, 112, 116, 104, 32]⟩ ++ bstr b ++ bstr c := by
  rw [h]
  show _ = bstr [112, 97, 105, 114, 115, 32] ++ bstr _ ++ bstr [32, 100, 101, 112, 116, 104, 32] ++ bstr _ ++ bstr _
  rw [bstr_app, bstr_app, bstr_app, bstr_app]
theorem catOrd (a b c : List UInt8) (R : List UInt8) (h : R = [107, 110, 111, 119, 110, 32] ++ a ++ [32, 114, 101, 115, 117, 108, 116, 115, 32] ++ b ++ [32, 105, 100, 108, 101, 32] ++ c) :
    bstr R = (⟨#[107, 110, 111, 119, 110, 32]⟩ : ByteArray) ++ bstr a ++ ⟨#[32, 114, 101, 115, 117, 108, 116, 115, 32]⟩ ++ bstr b ++ ⟨#[32, 105, 100, 108, 101, 32]⟩ ++ bstr c := by
  rw [h]
  show _ = bstr [107, 110, 111, 119, 110, 32] ++ bstr _ ++ bstr [32, 114, 101, 115, 117, 108, 116, 115, 32] ++ bstr _ ++ bstr [32, 105, 100, 108, 101, 32] ++ bstr _
  rw [bstr_app, bstr_app, bstr_app, bstr_app, bstr_app]
theorem catTest (a b : List UInt8) (R : List UInt8) (h : R = [104, 105, 100, 100, 101, 110, 32] ++ a ++ [32, 116, 101, 115, 116, 115, 32] ++ b) :
    bstr R = (⟨#[104, 105, 100, 100, 101, 110, 32]⟩ : ByteArray) ++ bstr a ++ ⟨#[32, 116, 101, 115, 116, 115, 32]⟩ ++ bstr b := by
  rw [h]
  show _ = bstr [104, 105, 100, 100, 101, 110, 32] ++ bstr _ ++ bstr [32, 116, 101, 115, 116, 115, 32] ++ bstr _
  rw [bstr_app, bstr_app, bstr_app]
theorem cat4 (a b c d : List UInt8) : bstr (a ++ b ++ c ++ d) = bstr a ++ bstr b ++ bstr c ++ bstr d := by rw [bstr_app, bstr_app, bstr_app]
theorem cat3 (a b c : List UInt8) : bstr (a ++ b ++ c) = bstr a ++ bstr b ++ bstr c := by rw [bstr_app, bstr_app]
theorem fab01 : fabLine [0, 1] = [115, 101, 116, 32, 48, 32, 112, 97, 115, 115, 101, 115] := by decide +kernel
theorem fab012 : fabLine [0, 1, 2] = [110, 111, 110, 101] := by decide +kernel
theorem i_Fab01 (W : World) (ht : Tab W) : Calls Tryz.prog 36 #[.slice (some ⟨W.heap.size, 0, none⟩) 2 2] (W.alloc (.cells #[.int .i64 0, .int .i64 1] 3)) fun e w' => e = .returned (.string ⟨#[115, 101, 116, 32, 48, 32, 112, 97, 115, 115, 101, 115]⟩) ∧ Below W.heap.size W w' := by
  have ho := Own.lit W 3 W.heap.size #[.int .i64 0, .int .i64 1] (Nat.le_refl _) (by simp)
  have hb : Below W.heap.size W (W.alloc (.cells #[.int .i64 0, .int .i64 1] 3)) := (Below.refl _ _).alloc (Nat.le_refl _) _
  refine (I_FabricLine _ _ [0, 1] (by simpa [ints] using ho.rd) (fun y hy => by simp at hy; unfold I64; omega) (by simp) (ht.below hb)).mono ?_
  rintro e w' ⟨rfl, h⟩
  exact ⟨by rw [fab01]; rfl, hb.trans (h.mono hb.size)⟩
theorem i_Fab012 (W : World) (ht : Tab W) : Calls Tryz.prog 36 #[.slice (some ⟨W.heap.size, 0, none⟩) 3 3] (W.alloc (.cells #[.int .i64 0, .int .i64 1, .int .i64 2] 3)) fun e w' => e = .returned (.string ⟨#[110, 111, 110, 101]⟩) ∧ Below W.heap.size W w' := by
  have ho := Own.lit W 3 W.heap.size #[.int .i64 0, .int .i64 1, .int .i64 2] (Nat.le_refl _) (by simp)
  have hb : Below W.heap.size W (W.alloc (.cells #[.int .i64 0, .int .i64 1, .int .i64 2] 3)) := (Below.refl _ _).alloc (Nat.le_refl _) _
  refine (I_FabricLine _ _ [0, 1, 2] (by simpa [ints] using ho.rd) (fun y hy => by simp at hy; unfold I64; omega) (by simp) (ht.below hb)).mono ?_
  rintro e w' ⟨rfl, h⟩
  exact ⟨by rw [fab012]; rfl, hb.trans (h.mono hb.size)⟩
theorem Rd2.formZ {w : World} {v : Value} {xss : List (List Int)} (h : Rd2 w v xss) : ∃ (a : Option Addr) (m c : Nat), v = .slice a m c ∧ Hid (m = xss.length) ∧ m ≤ c ∧ c ≤ 9223372036854775807 := by
  obtain ⟨a, c, h1, h2, h3⟩ := h.form
  exact ⟨a, _, c, h1, rfl, h2, h3⟩
set_option maxRecDepth 100000 in
set_option maxHeartbeats 16000000 in
theorem law_FnReports (w : World) (v : Value) (xs : List Int) (h : Rd w v (bytesV xs)) (hxb : ∀ n ∈ xs, 0 ≤ n ∧ n ≤ 255) (ht : TabE w) : Calls Tryz.prog 3 #[v] w (Law w) := by
  obtain ⟨ab, nb, cb, rfl, HNB, hn1, hn2⟩ := h.formB
  by_cases hl : nb ≤ 1048576
  case neg =>
    have hd : decide ((nb : Int) > 1048576) = true := by simp; omega
    go_enter Tryz.func3, Tryz.ntmps3
    go_wp2_with fail
    go_ret
    exact ⟨rfl, Below.refl _ _⟩
  have hl' : xs.length ≤ 1048576 := by have := HNB.out; omega
  have hd : decide ((nb : Int) > 1048576) = false := by simp; omega
  have HNear := Lib.hid (s_MakeNear _ xs hxb hl' 0 (by omega) w h)
  have HSo := Lib.hid (fun (W : World) (hW : Rd W (.slice ab nb cb) (bytesV xs)) => s_MakeSorting _ xs hxb hl' 20 (by omega) W hW)
  have HPr := Lib.hid (fun (W : World) (hW : Rd W (.slice ab nb cb) (bytesV xs)) => s_MakePrimitive _ xs hxb hl' 40 (by omega) W hW)
  have HOr := Lib.hid (fun (m : Nat) (hm : m ≤ 8) (W : World) (hW : Rd W (.slice ab nb cb) (bytesV xs)) => s_MakeOrder _ xs hxb hl' 60 (by omega) m hm W hW)
  have HRu := Lib.hid (fun (W : World) (hW : Rd W (.slice ab nb cb) (bytesV xs)) => s_MakeRuns _ xs hxb hl' 70 (by omega) W hW)
  have HTi := Lib.hid (fun (W : World) (hW : Rd W (.slice ab nb cb) (bytesV xs)) => s_MakeTimes _ xs hxb hl' 80 (by omega) W hW)
  clear hxb
  go_enter Tryz.func3, Tryz.ntmps3
  go_wp2_with fail
  refine HNear.out.mono ?_
  rintro e w1 ⟨l, vl, hl1, hl2, rfl, rl, bt⟩
  clear HNear
  obtain ⟨fi, hp0, hp1, hsz, hdash⟩ := rep_parse hl1 hl2
  have hdi := disL_I64 hl1
  have hD1 := fmt60 (xs := disL l) (by simp [disL])
  have hD2 := rep_dis hl1
  obtain ⟨al, nl, cl, rfl, HNL, _, _⟩ := rl.formN
  have HL12 := Lib.hid hl1
  have HDASH : Hid (bstr (numsB l) = (⟨#[45]⟩ : ByteArray) ↔ nl = 0) := by rw [Hid, hdash, HNL.out]
  have HP0 := Lib.hid hp0
  have HP1 := Lib.hid hp1
  have HFI := Lib.hid fi
  have HDI := Lib.hid hdi
  have HF := Lib.hid (fmt60 (xs := l) (by omega))
  have HD1 := Lib.hid hD1
  have HD2 := Lib.hid hD2
  clear hp0 hp1 hdash hl2 fi hdi hD1 hD2
  go_wp2_with fail
  refine (I_FormatNumbers w1 _ l rl HFI.out (by have := HL12.out; omega) (ht.tab.below bt)).mono ?_
  rintro e w2 ⟨rfl, b2⟩
  rw [HF.out]
  replace rl := rl.below b2
  replace bt := bt.trans (b2.mono bt.size)
  go_wp2_with fail
  refine (I_ParseNumbers w2 (bstr (numsB l)) (by simp only [maxLen]; omega) (by omega) (ht.below bt)).mono ?_
  rintro e w3 ⟨vk, rfl, ok, b3⟩
  rw [HP1.out]
  rw [HP0.out] at ok
  have rk := ok.rd
  obtain ⟨ak, nk, ck, rfl, HNK, _, _⟩ := rk.formN
  replace rl := rl.below b3
  replace bt := bt.trans (b3.mono bt.size)
  clear ok
  go_wp2_with fail
  refine (HSo.out _ (h.below bt)).mono ?_
  rintro e w4 ⟨N, P, Q, b, vx, hN1, hN4, hP, hQ, hPQ, rfl, rx, b4⟩
  obtain ⟨X, hX⟩ : ∃ X, (if b then insNK (N - 1) else P ++ batS 8 (wiresL 0 N)) ++ Q = X := ⟨_, rfl⟩
  rw [hX] at rx
  obtain ⟨hkx, h20x, hsx⟩ := mk_sorts hN1 hN4 hP hQ hPQ hX.symm
  obtain ⟨hfx, hknx, hrx⟩ := sorts_known hN1 hN4 hkx hsx
  have HKX := Lib.hid hkx
  have HFX := Lib.hid hfx
  have HKNX := Lib.hid hknx
  have HRX := Lib.hid hrx
  have H20X := Lib.hid h20x
  obtain ⟨ax, mx, cx, rfl, HMX, _, _⟩ := rx.formZ
  clear hX hPQ hP hQ hsx hfx hknx hrx h20x hkx HSo
  go_wp2_with fail
  obtain ⟨w5, b5, cx0, cx1, hw5⟩ := box_store w4 (.int .i64 N) (.slice ax mx cx) 30
  rw [hw5]
  clear hw5
  have b5' := b4.trans (b5.mono b4.size)
  replace rl := rl.below b5'
  replace rk := rk.below b5'
  replace rx := rx.below b5
  replace bt := bt.trans (b5'.mono bt.size)
  have lX : w4.heap.size < w5.heap.size := World.block_lt_of_cell? _ _ cx0
  refine (HPr.out _ (h.below bt)).mono ?_
  rintro e w6 ⟨M, Y, vy, hM2, hM5, hY, hky, rfl, ry, b6⟩
  have HKY := Lib.hid hky
  have HY := Lib.hid hY
  obtain ⟨ay, my, cy, rfl, HMY, _, _⟩ := ry.formZ
  clear hky hY HPr
  go_wp2_with fail
  obtain ⟨w7, b7, cy0, cy1, hw7⟩ := box_store w6 (.int .i64 M) (.slice ay my cy) 30
  rw [hw7]
  clear hw7
  have b7' := b6.trans (b7.mono b6.size)
  replace rl := rl.below b7'
  replace rk := rk.below b7'
  replace rx := rx.below b7'
  replace ry := ry.below b7
  replace bt := bt.trans (b7'.mono bt.size)
  have lY : w6.heap.size < w7.heap.size := World.block_lt_of_cell? _ _ cy0
  replace cx0 := (b7'.cell lX).trans cx0
  replace cx1 := (b7'.cell lX).trans cx1
  have z57 := b7'.size
  clear b2 b3 b4 b5 b6 b7 b5' b7'
  have hdq : ((bstr (numsB l)).toList == [45]) = ((nl : Int) == 0) := by
    by_cases h0 : nl = 0
    · rw [HDASH.out.2 h0, ByteArray.toList_eq, h0]; rfl
    · have h1 : ((nl : Int) == 0) = false := by simp [h0]
      rw [h1, beq_eq_false_iff_ne]
      intro h2
      rw [toL] at h2
      exact h0 (HDASH.out.1 (by rw [h2]; rfl))
  go_wp2_with (first
    | (go_at_call 10; refine (same_c _ _ l l _ rk rl).mono ?_; rintro e w8 ⟨rfl, d8⟩; rw [eqI_self]; have b8 := d8.below w7.heap.size)
    | (go_at_call 11; refine (I_DisorderLine w8 _ l (rl.below b8) HFI.out (by have := HL12.out; omega) ((ht.tab.below bt).below b8)).mono ?_; rintro e w9 ⟨rfl, b9⟩; rw [HD2.out]; have b9' := b8.trans (b9.mono b8.size))
    | (go_at_call 12; refine (i_DisorderOf _ l w9 (rl.below b9') HL12.out).mono ?_; rintro e w10 ⟨v10, rfl, o10, b10⟩; have b10' := b9'.trans (b10.mono b9'.size))
    | (go_at_call 6; refine (I_FormatNumbers w10 _ (disL l) o10.rd HDI.out (by simp [disL]) ((ht.tab.below bt).below b10')).mono ?_; rintro e w11 ⟨rfl, b11⟩; rw [HD1.out]; have b11' := b10'.trans (b11.mono b10'.size)))
  clear hdq rl rk HDASH HP0 HP1 HDI HF HD1 HD2 o10
  replace rx := rx.below b11'
  replace ry := ry.below b11'
  have lW7 := bt.size
  replace bt := bt.trans (b11'.mono lW7)
  replace cx0 := (b11'.cell (World.block_lt_of_cell? _ _ cx0)).trans cx0
  replace cx1 := (b11'.cell (World.block_lt_of_cell? _ _ cx1)).trans cx1
  replace cy0 := (b11'.cell (World.block_lt_of_cell? _ _ cy0)).trans cy0
  replace cy1 := (b11'.cell (World.block_lt_of_cell? _ _ cy1)).trans cy1
  have z7 := b11'.size
  clear b8 b9 b10 b11 b9' b10' b11' d8 HFI HL12 hl1 hsz
  obtain ⟨fX, lenX⟩ := netOk_I64' HKX.out
  obtain ⟨fY, lenY⟩ := netOk_I64' HKY.out
  have HFXX := Lib.hid fX
  have HFYY := Lib.hid fY
  have HLX := Lib.hid lenX
  have HLY := Lib.hid lenY
  clear fX fY lenX lenY
  have hNI : I64 (N : Int) := ⟨by omega, by omega⟩
  have hMI : I64 (M : Int) := ⟨by omega, by omega⟩
  have hmX : mx ≤ 20 := by have := HMX.out; have := H20X.out; omega
  have hmY : my ≤ 13 := by have := HMY.out; have := HY.out; omega
  have hmXI : I64 (mx : Int) := ⟨by omega, by omega⟩
  have hmYI : I64 (my : Int) := ⟨by omega, by omega⟩
  have hdX := depthOf_bound HKX.out
  have HRN : Hid (bstr (netLine N X) = (⟨#[112, 97, 105, 114, 115, 32]⟩ : ByteArray) ++ bstr (Lib.itoa (X.length : Int)) ++ ⟨#[32, 100, 101, 112, 116, 104, 32]⟩ ++ bstr (Lib.itoa (depthOf N X)) ++ ⟨#[32, 115, 111, 114, 116, 115]⟩) := catNet _ _ _ [] _ (rep_net HKX.out HFX.out)
  have HDC := Lib.hid (fun (W : World) (hW : Rd2 W (.slice ax mx cx) X) => i_DepthOf (N : Int) _ X W hW hNI)
  rw [← HMX.out] at HRN
  have hdXI : I64 (depthOf (N : Int) X) := by unfold I64; omega
  generalize depthOf (N : Int) X = dx at hdX HRN HDC hdXI
  have HPm := Lib.hid (fun (W : World) (hW : Tab W) => I_FormatInt W (mx : Int) hmXI hW)
  have HPd := Lib.hid (fun (W : World) (hW : Tab W) => I_FormatInt W dx hdXI hW)
  have sA0 := (itoa_len hmXI).2
  have sD0 := (itoa_len hdXI).2
  obtain ⟨A, hA⟩ : ∃ A, bstr (Lib.itoa (mx : Int)) = A := ⟨_, rfl⟩
  obtain ⟨D, hD⟩ : ∃ D, bstr (Lib.itoa dx) = D := ⟨_, rfl⟩
  have sA : A.size ≤ 20 := by rw [← hA, bstr_size]; exact sA0
  have sD : D.size ≤ 20 := by rw [← hD, bstr_size]; exact sD0
  rw [hA] at HPm HRN
  rw [hD] at HPd HRN
  have HNLC := Lib.hid (fun (W : World) (hW : Below w11.heap.size w11 W) => I_NetworkLine W (N : Int) hNI _ X (rx.below hW) HFXX.out HLX.out ((ht.tab.below bt).below hW))
  have q1 : ¬ 9223372036854775807 < 6 + A.size := by omega
  have q2 : ¬ 9223372036854775807 < 6 + A.size + 7 := by omega
  have q3 : ¬ 9223372036854775807 < 6 + A.size + 7 + D.size := by omega
  have q4 : ¬ 9223372036854775807 < 6 + A.size + 7 + D.size + 6 := by omega
  clear hA hD sA0 sD0
  have HT : Hid (∀ wx : World, Below w11.heap.size w11 wx → wx.cell? ⟨w4.heap.size, 0, none⟩ = some (.int .i64 N) ∧ wx.cell? ⟨w4.heap.size, 1, none⟩ = some (.slice ax mx cx)) := fun wx hb => ⟨(hb.cell (World.block_lt_of_cell? _ _ cx0)).trans cx0, (hb.cell (World.block_lt_of_cell? _ _ cx1)).trans cx1⟩
  go_wp2
  go_region_held3 (fun wx => wx.cell? ⟨w4.heap.size, 0, none⟩ = some (.int .i64 N) ∧ wx.cell? ⟨w4.heap.size, 1, none⟩ = some (.slice ax mx cx))
    (first | exact HT.out _ g15 | exact HT.out _ g14 | exact HT.out _ g13 | exact HT.out _ g12 | go_keep)
    (first
      | (go_at_call 13; refine (HNLC.out _ (by exact ⟨rfl, rfl, rfl, Nat.le_refl _, fun _ _ => rfl⟩)).mono ?_; rintro e w12 ⟨rfl, h12⟩; have g12 : Below w11.heap.size w11 w12 := (by exact ⟨h12.os, h12.tape, h12.output, h12.size, h12.block⟩); rw [HRN.out])
      | (go_at_call_of 14 (mx : Int); refine (HPm.out _ ((ht.tab.below bt).below g12)).mono ?_; rintro e w13 ⟨rfl, h13⟩; have g13 := g12.trans (h13.mono g12.size))
      | (go_at_call 15; refine (HDC.out _ (rx.below g13)).mono ?_; rintro e w14 ⟨rfl, h14⟩; have g14 := g13.trans (h14.mono g13.size))
      | (go_at_call_of 14 dx; refine (HPd.out _ ((ht.tab.below bt).below g14)).mono ?_; rintro e w15 ⟨rfl, h15⟩; have g15 := g14.trans (h15.mono g14.size)))
  clear HT HNLC HPm HPd HDC HRN sA sD q1 q2 q3 q4 h12 h13 h14 h15 g12 g13 g14
  replace rx := rx.below g15
  replace ry := ry.below g15
  replace bt := bt.trans (g15.mono bt.size)
  replace cx0 := (g15.cell (World.block_lt_of_cell? _ _ cx0)).trans cx0
  replace cx1 := (g15.cell (World.block_lt_of_cell? _ _ cx1)).trans cx1
  replace cy0 := (g15.cell (World.block_lt_of_cell? _ _ cy0)).trans cy0
  replace cy1 := (g15.cell (World.block_lt_of_cell? _ _ cy1)).trans cy1
  clear g15
  go_wp2_with fail
  refine (i_FailingList (M : Int) _ Y _ ry hMI).mono ?_
  rintro e w16 ⟨vf, rfl, of, b16⟩
  replace rx := rx.below b16
  replace ry := ry.below b16
  replace bt := bt.trans (b16.mono bt.size)
  replace cx0 := (b16.cell (World.block_lt_of_cell? _ _ cx0)).trans cx0
  replace cx1 := (b16.cell (World.block_lt_of_cell? _ _ cx1)).trans cx1
  replace cy0 := (b16.cell (World.block_lt_of_cell? _ _ cy0)).trans cy0
  replace cy1 := (b16.cell (World.block_lt_of_cell? _ _ cy1)).trans cy1
  have rf := of.rd
  clear b16 of
  obtain ⟨hfI, hfL⟩ := failLs_ok (n := M) (xss := Y)
  have hdY := depthOf_bound HKY.out
  have hdYI : I64 (depthOf (M : Int) Y) := by unfold I64; omega
  have smy0 := (itoa_len hmYI).2
  obtain ⟨S1, hS1⟩ : ∃ S1, bstr (Lib.itoa (my : Int)) = S1 := ⟨_, rfl⟩
  have smy : S1.size ≤ 20 := by rw [← hS1, bstr_size]; exact smy0
  have sdy0 := (itoa_len hdYI).2
  obtain ⟨S2, hS2⟩ : ∃ S2, bstr (Lib.itoa (depthOf (M : Int) Y)) = S2 := ⟨_, rfl⟩
  have sdy : S2.size ≤ 20 := by rw [← hS2, bstr_size]; exact sdy0
  clear smy0 sdy0
  have HCAT : ∀ c : List UInt8, netLine (M : Int) Y = [112, 97, 105, 114, 115, 32] ++ Lib.itoa Y.length ++ [32, 100, 101, 112, 116, 104, 32] ++ Lib.itoa (depthOf M Y) ++ c → Hid (bstr (netLine M Y) = (⟨#[112, 97, 105, 114, 115, 32]⟩ : ByteArray) ++ S1 ++ ⟨#[32, 100, 101, 112, 116, 104, 32]⟩ ++ S2 ++ bstr c) := fun c hc => by
    have := catNet _ _ c [] _ hc
    rw [← HMY.out, hS1, hS2] at this
    exact this
  have HCATH := Lib.hid HCAT
  clear HCAT
  have HPF0 := Lib.hid (I_FormatNumbers w16 vf _ rf hfI (by omega) (ht.tab.below bt))
  rw [fmt60 (by omega)] at HPF0
  have sF0 := numsB_le hfI hfL
  obtain ⟨F, hF⟩ : ∃ F, bstr (numsB (failLs (M : Int) Y)) = F := ⟨_, rfl⟩
  have sF : F.size ≤ 400 := by rw [← hF, bstr_size]; omega
  rw [hF] at HPF0
  have HFE := Lib.hid hF
  have q0 : ¬ 9223372036854775807 < 7 + F.size := by omega
  clear hF sF0 rf hfI hfL
  have HYES : Hid (∀ b, failsB (M : Int) Y = b → (b = false → Hid (bstr (netLine M Y) = (⟨#[112, 97, 105, 114, 115, 32]⟩ : ByteArray) ++ S1 ++ ⟨#[32, 100, 101, 112, 116, 104, 32]⟩ ++ S2 ++ ⟨#[32, 115, 111, 114, 116, 115]⟩)) ∧ (b = true → Hid (bstr (netLine M Y) = (⟨#[112, 97, 105, 114, 115, 32]⟩ : ByteArray) ++ S1 ++ ⟨#[32, 100, 101, 112, 116, 104, 32]⟩ ++ S2 ++ (⟨#[32, 102, 97, 105, 108, 115, 32]⟩ ++ F)))) := fun b hb => by
    subst hb
    refine ⟨fun hfy => HCATH.out _ (rep_net HKY.out hfy), fun hfy => ?_⟩
    have HRN := HCATH.out _ (rep_netF HKY.out hfy)
    rw [show bstr ([32, 102, 97, 105, 108, 115, 32] ++ numsB (failLs (M : Int) Y)) = (⟨#[32, 102, 97, 105, 108, 115, 32]⟩ : ByteArray) ++ F by rw [← HFE.out]; exact (bstr_app _ _).symm] at HRN
    exact HRN
  obtain ⟨fb, hfb⟩ : ∃ fb, failsB (M : Int) Y = fb := ⟨_, rfl⟩
  have HFB := Lib.hid (HYES.out fb hfb)
  rw [hfb]
  clear hfb HYES HCATH HFE
  go_upto_if 82 with (fail)
  go_cut [11] (fun vt wx => ∃ T : ByteArray, vt = .string T ∧ Hid (bstr (netLine M Y) = (⟨#[112, 97, 105, 114, 115, 32]⟩ : ByteArray) ++ S1 ++ ⟨#[32, 100, 101, 112, 116, 104, 32]⟩ ++ S2 ++ T) ∧ T.size ≤ 500 ∧ Below w16.heap.size w16 wx)
  case first => as_aux_lemma =>
    cases fb
    · have HRN := HFB.out.1 rfl
      go_wp2_with fail
      go_meet
      exact ⟨_, rfl, HRN, by decide, Below.refl _ _⟩
    · have HRN := HFB.out.2 rfl
      go_wp2_with (go_at_call 6; refine HPF0.out.mono ?_; rintro e w17 ⟨rfl, b17⟩)
      go_meet
      exact ⟨_, rfl, HRN, by rw [ByteArray.size_append]; show 7 + F.size ≤ 500; omega, b17⟩
  case rest => as_aux_lemma =>
  obtain ⟨T, rfl, HRN, sT, bc⟩ := hcut
  replace rx := rx.below bc
  replace ry := ry.below bc
  replace bt := bt.trans (bc.mono bt.size)
  replace cx0 := (bc.cell (World.block_lt_of_cell? _ _ cx0)).trans cx0
  replace cx1 := (bc.cell (World.block_lt_of_cell? _ _ cx1)).trans cx1
  replace cy0 := (bc.cell (World.block_lt_of_cell? _ _ cy0)).trans cy0
  replace cy1 := (bc.cell (World.block_lt_of_cell? _ _ cy1)).trans cy1
  clear bc HPF0 HFB sF q0
  -- facts for region 17
  have HHL := hiddenL_len (M : Int) Y
  obtain ⟨hiI, hiL⟩ := idleL_bd (N : Int) X
  obtain ⟨hgI, hgL⟩ := greedyL_bd (M : Int) Y
  have HN' : N * (N - 1) / 2 ≤ 6 ∧ IntKind.i64.wrap ((IntKind.i64.wrap ((N : Int) * IntKind.i64.wrap ((N : Int) - 1))).tdiv 2) = ((N * (N - 1) / 2 : Nat) : Int) ∧ 0 ≤ (N : Int) * ((N : Int) - 1) ∧ (N : Int) * ((N : Int) - 1) ≤ 12 := by
    obtain rfl | rfl | rfl | rfl : N = 1 ∨ N = 2 ∨ N = 3 ∨ N = 4 := by omega
    all_goals exact ⟨by decide, by decide, by decide, by decide⟩
  obtain ⟨k1, k2, k3, k4⟩ := HN'
  obtain ⟨N1, hN1e⟩ : ∃ N1 : Int, (N : Int) + 1 = N1 := ⟨_, rfl⟩
  have k5 : IntKind.i64.wrap ((N : Int) + 1) = N1 := by rw [← hN1e]; exact IntWalk.i64_in _ (by omega)
  obtain ⟨K, hK⟩ : ∃ K : Nat, N * (N - 1) / 2 = K := ⟨_, rfl⟩
  have HRO := Lib.hid (catOrd _ _ _ _ (rep_order HKX.out (HKNX.out.trans hK) HRX.out))
  rw [hK] at k1 k2
  have HRT := Lib.hid (catTest _ _ _ (rep_test HKY.out (by have := HY.out; omega)))
  have HIDL := Lib.hid hiI
  have HGDL := Lib.hid hgI
  have HFI60 := Lib.hid (fmt60 (xs := idleL N X) (by omega))
  have HFG60 := Lib.hid (fmt60 (xs := greedyL M Y) (by omega))
  have HDCY := Lib.hid (fun (W : World) (hW : Rd2 W (.slice ay my cy) Y) => i_DepthOf (M : Int) _ Y W hW hMI)
  have HNLY := Lib.hid (fun (W : World) (hW : Below wc.heap.size wc W) => I_NetworkLine W (M : Int) hMI _ Y (ry.below hW) HFYY.out HLY.out ((ht.tab.below bt).below hW))
  have HOLX := Lib.hid (fun (W : World) (hW : Below wc.heap.size wc W) => I_OrderLine W (N : Int) hNI _ X (rx.below hW) HFXX.out HLX.out ((ht.tab.below bt).below hW))
  have HTLY := Lib.hid (fun (W : World) (hW : Below wc.heap.size wc W) => I_TestLine W (M : Int) hMI _ Y (ry.below hW) HFYY.out HLY.out ((ht.tab.below bt).below hW))
  have HIDX := Lib.hid (fun (W : World) (hW : Below wc.heap.size wc W) => i_IdleOf (N : Int) _ X W (rx.below hW) hNI)
  have HHFY := Lib.hid (fun (W : World) (hW : Below wc.heap.size wc W) => i_HiddenFaults (M : Int) _ Y W (ry.below hW) hMI)
  have HGTY := Lib.hid (fun (W : World) (hW : Below wc.heap.size wc W) => i_GreedyTests (M : Int) _ Y W (ry.below hW) hMI)
  have hKI : I64 (K : Int) := ⟨by omega, by omega⟩
  have hN1I : I64 N1 := ⟨by omega, by omega⟩
  have hHI : I64 (((hiddenL M Y).length : Nat) : Int) := ⟨by omega, by omega⟩
  rw [show ((N + 1 : Nat) : Int) = N1 by omega] at HRO
  clear hN1e
  have HPmy := Lib.hid (fun (W : World) (hW : Below wc.heap.size wc W) => I_FormatInt W (my : Int) hmYI ((ht.tab.below bt).below hW))
  have HPdy := Lib.hid (fun (W : World) (hW : Below wc.heap.size wc W) => I_FormatInt W (depthOf (M : Int) Y) hdYI ((ht.tab.below bt).below hW))
  have HPk := Lib.hid (fun (W : World) (hW : Below wc.heap.size wc W) => I_FormatInt W (K : Int) hKI ((ht.tab.below bt).below hW))
  have sk0 := (itoa_len hKI).2
  obtain ⟨S3, hS3⟩ : ∃ S3, bstr (Lib.itoa (K : Int)) = S3 := ⟨_, rfl⟩
  have sk : S3.size ≤ 20 := by rw [← hS3, bstr_size]; exact sk0
  clear sk0
  have HPn1 := Lib.hid (fun (W : World) (hW : Below wc.heap.size wc W) => I_FormatInt W N1 hN1I ((ht.tab.below bt).below hW))
  have sn10 := (itoa_len hN1I).2
  obtain ⟨S4, hS4⟩ : ∃ S4, bstr (Lib.itoa N1) = S4 := ⟨_, rfl⟩
  have sn1 : S4.size ≤ 20 := by rw [← hS4, bstr_size]; exact sn10
  clear sn10
  have HPh := Lib.hid (fun (W : World) (hW : Below wc.heap.size wc W) => I_FormatInt W (((hiddenL M Y).length : Nat) : Int) hHI ((ht.tab.below bt).below hW))
  have sh0 := (itoa_len hHI).2
  obtain ⟨S5, hS5⟩ : ∃ S5, bstr (Lib.itoa (((hiddenL M Y).length : Nat) : Int)) = S5 := ⟨_, rfl⟩
  have sh : S5.size ≤ 20 := by rw [← hS5, bstr_size]; exact sh0
  clear sh0
  have sI0 := numsB_le hiI hiL
  have sG0 := numsB_le hgI hgL
  obtain ⟨S6, hS6⟩ : ∃ S6, bstr (numsB (idleL N X)) = S6 := ⟨_, rfl⟩
  obtain ⟨S7, hS7⟩ : ∃ S7, bstr (numsB (greedyL M Y)) = S7 := ⟨_, rfl⟩
  have sI : S6.size ≤ 3000 := by rw [← hS6, bstr_size]; omega
  have sG : S7.size ≤ 3000 := by rw [← hS7, bstr_size]; omega
  have HPi := Lib.hid (fun (W : World) (v : Value) (hv : Rd W v (ints (idleL N X))) (hW : Below wc.heap.size wc W) => I_FormatNumbers W v _ hv hiI (by omega) ((ht.tab.below bt).below hW))
  have HPg := Lib.hid (fun (W : World) (v : Value) (hv : Rd W v (ints (greedyL M Y))) (hW : Below wc.heap.size wc W) => I_FormatNumbers W v _ hv hgI (by omega) ((ht.tab.below bt).below hW))
  rw [HFI60.out, hS6] at HPi
  rw [HFG60.out, hS7] at HPg
  rw [hS3, hS4, hS6] at HRO
  rw [hS5, hS7] at HRT
  rw [hS1] at HPmy
  rw [hS2] at HPdy
  rw [hS3] at HPk
  rw [hS4] at HPn1
  rw [hS5] at HPh
  have HT := Lib.hid (fun (wx : World) (hb : Below wc.heap.size wc wx) => And.intro ((hb.cell (World.block_lt_of_cell? _ _ cx0)).trans cx0) (And.intro ((hb.cell (World.block_lt_of_cell? _ _ cx1)).trans cx1) (And.intro ((hb.cell (World.block_lt_of_cell? _ _ cy0)).trans cy0) ((hb.cell (World.block_lt_of_cell? _ _ cy1)).trans cy1))))
  have q1 : ¬ 9223372036854775807 < 6 + S1.size := by omega
  have q2 : ¬ 9223372036854775807 < 6 + S1.size + 7 := by omega
  have q3 : ¬ 9223372036854775807 < 6 + S1.size + 7 + S2.size := by omega
  have q4 : ¬ 9223372036854775807 < 6 + S1.size + 7 + S2.size + T.size := by omega
  have p1 : ¬ 9223372036854775807 < 6 + S3.size := by omega
  have p2 : ¬ 9223372036854775807 < 6 + S3.size + 9 := by omega
  have p3 : ¬ 9223372036854775807 < 6 + S3.size + 9 + S4.size := by omega
  have p4 : ¬ 9223372036854775807 < 6 + S3.size + 9 + S4.size + 6 := by omega
  have p5 : ¬ 9223372036854775807 < 6 + S3.size + 9 + S4.size + 6 + S6.size := by omega
  have t1 : ¬ 9223372036854775807 < 7 + S5.size := by omega
  have t2 : ¬ 9223372036854775807 < 7 + S5.size + 7 := by omega
  have t3 : ¬ 9223372036854775807 < 7 + S5.size + 7 + S7.size := by omega
  go_upto_region 17 with (fail)
  go_cut [142] (fun vb wx => vb = .bool false ∧ Below wc.heap.size wc wx)
  case first => as_aux_lemma =>
    go_region_held3 (fun wx => wx.cell? ⟨w4.heap.size, 0, none⟩ = some (.int .i64 N) ∧ wx.cell? ⟨w4.heap.size, 1, none⟩ = some (.slice ax mx cx) ∧ wx.cell? ⟨w6.heap.size, 0, none⟩ = some (.int .i64 M) ∧ wx.cell? ⟨w6.heap.size, 1, none⟩ = some (.slice ay my cy))
      (first | exact HT.out _ g30 | exact HT.out _ g29 | exact HT.out _ g28 | exact HT.out _ g27 | exact HT.out _ g26 | exact HT.out _ g25 | exact HT.out _ g24 | exact HT.out _ g23 | exact HT.out _ g22 | exact HT.out _ g21 | exact HT.out _ g20 | exact HT.out _ g19 | exact HT.out _ g18 | exact HT.out _ g17 | go_keep)
      (first
        | (go_at_call 13; refine (HNLY.out _ (by exact ⟨rfl, rfl, rfl, Nat.le_refl _, fun _ _ => rfl⟩)).mono ?_; rintro e w17 ⟨rfl, h17⟩; have g17 : Below wc.heap.size wc w17 := (by exact ⟨h17.os, h17.tape, h17.output, h17.size, h17.block⟩); rw [HRN.out])
        | (go_at_call_of 14 (my : Int); refine (HPmy.out _ g17).mono ?_; rintro e w18 ⟨rfl, h18⟩; have g18 := g17.trans (h18.mono g17.size))
        | (go_at_call 15; refine (HDCY.out _ (ry.below g18)).mono ?_; rintro e w19 ⟨rfl, h19⟩; have g19 := g18.trans (h19.mono g18.size))
        | (go_at_call_of 14 (depthOf (M : Int) Y); refine (HPdy.out _ g19).mono ?_; rintro e w20 ⟨rfl, h20⟩; have g20 := g19.trans (h20.mono g19.size))
        | (go_at_call 17; refine (HOLX.out _ g20).mono ?_; rintro e w21 ⟨rfl, h21⟩; rw [HRO.out]; have g21 := g20.trans (h21.mono g20.size))
        | (go_at_call_of 14 N1; refine (HPn1.out _ g22).mono ?_; rintro e w23 ⟨rfl, h23⟩; have g23 := g22.trans (h23.mono g22.size))
        | (go_at_call_of 14 (((hiddenL M Y).length : Nat) : Int); refine (HPh.out _ g27).mono ?_; rintro e w28 ⟨rfl, h28⟩; have g28 := g27.trans (h28.mono g27.size))
        | (go_at_call_of 14 (K : Int); refine (HPk.out _ g21).mono ?_; rintro e w22 ⟨rfl, h22⟩; have g22 := g21.trans (h22.mono g21.size))
        | (go_at_call 18; refine (HIDX.out _ g23).mono ?_; rintro e w24 ⟨v24, rfl, o24, h24⟩; have g24 := g23.trans (h24.mono g23.size))
        | (go_at_call 6; refine (HPi.out _ _ o24.rd g24).mono ?_; rintro e w25 ⟨rfl, h25⟩; have g25 := g24.trans (h25.mono g24.size))
        | (go_at_call 19; refine (HTLY.out _ g25).mono ?_; rintro e w26 ⟨rfl, h26⟩; rw [HRT.out]; have g26 := g25.trans (h26.mono g25.size))
        | (go_at_call 20; refine (HHFY.out _ g26).mono ?_; rintro e w27 ⟨v27, rfl, o27, h27⟩; obtain ⟨a27, c27, rfl, _, _⟩ := o27.form; have g27 := g26.trans (h27.mono g26.size))
        | (go_at_call 21; refine (HGTY.out _ g28).mono ?_; rintro e w29 ⟨v29, rfl, o29, h29⟩; have g29 := g28.trans (h29.mono g28.size))
        | (go_at_call 6; refine (HPg.out _ _ o29.rd g29).mono ?_; rintro e w30 ⟨rfl, h30⟩; have g30 := g29.trans (h30.mono g29.size)))
    all_goals go_wp2_with (fail)
    all_goals
      go_meet
      exact ⟨rfl, g30⟩
  case rest => as_aux_lemma =>
  obtain ⟨rfl, bd⟩ := hcut
  replace bt := bt.trans (bd.mono bt.size)
  clear bd rx ry cx0 cx1 cy0 cy1 HRN HRO HRT HNLY HOLX HTLY HIDX HHFY HGTY HPmy HPdy HPk HPn1 HPh HPi HPg HT sT q1 q2 q3 q4 p1 p2 p3 p4 p5 t1 t2 t3 HDCY HFXX HFYY HLX HLY HKX HKY HFX HKNX HRX H20X HY HMX HMY HIDL HGDL HFI60 HFG60
  go_wp2_with fail
  refine (HOr.out M (by omega) _ (h.below bt)).mono ?_
  rintro e w31 ⟨o, vo, hpo, rfl, ro, b31⟩
  obtain ⟨hso, hsx⟩ := rep_perm hM5 hpo
  obtain ⟨ao, mo, co, rfl, HMO, _, _⟩ := ro.formN
  replace bt := bt.trans (b31.mono bt.size)
  clear b31
  have hlo : o.length ≤ 5 := by rw [hpo.1]; exact hM5
  have fo : I64s o := fun y hy => by have := hpo.2.1 y hy; unfold I64; omega
  clear hpo
  go_wp2_with fail
  refine (HRu.out _ (h.below bt)).mono ?_
  rintro e w32 ⟨r, vr, hr6, hr12, rfl, rr, b32⟩
  obtain ⟨ar, mr, cr, rfl, HMR, _, _⟩ := rr.formN
  replace ro := ro.below b32
  replace bt := bt.trans (b32.mono bt.size)
  clear b32
  have hrl := rep_lens hr6 hr12
  have fr : I64s r := fun y hy => by have := hr12 y hy; unfold I64; omega
  clear hr12
  go_wp2_with fail
  refine (HTi.out _ (h.below bt)).mono ?_
  rintro e w33 ⟨t, vt, ht11, ht36, rfl, rt, b33⟩
  obtain ⟨at_, mt, ct, rfl, HMT, _, _⟩ := rt.formN
  replace ro := ro.below b33
  replace rr := rr.below b33
  replace bt := bt.trans (b33.mono bt.size)
  clear b33
  have htl := rep_lateOk ht11 ht36
  have ft : I64s t := fun y hy => by have := ht36 y hy; unfold I64; omega
  clear ht36 HOr HRu HTi
  go_wp2_with fail
  refine (I_EmitOrder w33 _ t rt ft (by omega) 2 (by unfold I64; omega)).mono ?_
  rintro e w34 ⟨va, vb, rfl, oa, ob, _, b34⟩
  obtain ⟨aa, ma, ca, rfl, HMA, _, _⟩ := oa.rd.formN
  obtain ⟨ab2, mb, cb2, rfl, HMB, _, _⟩ := ob.rd.formN
  replace ro := ro.below b34
  replace rr := rr.below b34
  replace rt := rt.below b34
  replace bt := bt.trans (b34.mono bt.size)
  have ra := oa.rd
  have rb := ob.rd
  clear b34 oa ob
  have HSW := Lib.hid (I_StackWord _ o w34 ro)
  rw [hso, Bool.true_and] at HSW
  have HSR := Lib.hid (fun (W : World) (hW : Below w34.heap.size w34 W) => I_StackRounds _ o W (ro.below hW) hso)
  have HFR := Lib.hid (fun (W : World) (hW : Below w34.heap.size w34 W) => I_FormatInt W _ (rnd_I64 o) ((ht.tab.below bt).below hW))
  have hlen := (itoa_len (rnd_I64 o)).2
  have hlen2 := stkW_len (xs := o)
  have HSL := Lib.hid (rep_stack hso)
  obtain ⟨R0, hR0⟩ : ∃ R0, bstr (Lib.itoa ((rndN 9 o : Nat) : Int)) = R0 := ⟨_, rfl⟩
  have sR0 : R0.size ≤ 20 := by rw [← hR0, bstr_size]; exact hlen
  obtain ⟨W0, hW0⟩ : ∃ W0, bstr (wordOf o) = W0 := ⟨_, rfl⟩
  have sW0 : W0.size ≤ 20 := by
    rw [← hW0, bstr_size, wordOf]
    split
    · omega
    · simp
  obtain ⟨cb0, hcb⟩ : ∃ cb0, canB o = cb0 := ⟨_, rfl⟩
  have HS1 : Hid (cb0 = true → bstr (stackLine o) = (⟨#[119, 111, 114, 100, 32]⟩ : ByteArray) ++ W0) := fun h => by
    rw [HSL.out, hcb, h, ← hW0]; exact (bstr_app _ _).symm
  have HS0 : Hid (cb0 = false → bstr (stackLine o) = (⟨#[114, 111, 117, 110, 100, 115, 32]⟩ : ByteArray) ++ R0) := fun h => by
    rw [HSL.out, hcb, h, ← hR0]; exact (bstr_app _ _).symm
  have HSW2 : Hid (Calls Tryz.prog 26 #[.slice ao mo co] w34 fun e w' => e = .returned (.tuple #[.string W0, .bool cb0]) ∧ Below w34.heap.size w34 w') := by rw [← hW0, ← hcb]; exact HSW.out
  rw [hR0] at HFR
  generalize rndN 9 o = rn at HSR HFR
  have y1 : ¬ 9223372036854775807 < 7 + R0.size := by omega
  have y2 : ¬ 9223372036854775807 < 5 + W0.size := by omega
  clear HSW HSL hlen hlen2 hR0 hW0 hcb
  go_upto_if 164 with (first
    | (go_at_call 26; refine HSW2.out.mono ?_; rintro e w35 ⟨rfl, b35⟩)
    | (go_at_call 27; refine (HSR.out _ b35).mono ?_; rintro e w36 ⟨rfl, b36⟩; have B36 := b35.trans (b36.mono b35.size))
    | (go_at_call 14; refine (HFR.out _ B36).mono ?_; rintro e w37 ⟨rfl, b37⟩; have B37 := B36.trans (b37.mono B36.size)))
  go_cut [20] (fun vt wx => ∃ T : ByteArray, vt = .string T ∧ Hid (bstr (stackLine o) = T) ∧ w37 = wx)
  case first => as_aux_lemma =>
    cases cb0
    · have HX := HS0.out rfl
      go_wp2_with fail
      go_meet
      exact ⟨_, rfl, HX, rfl⟩
    · have HX := HS1.out rfl
      go_wp2_with fail
      go_meet
      exact ⟨_, rfl, HX, rfl⟩
  case rest => as_aux_lemma =>
  obtain ⟨T, rfl, HST, rfl⟩ := hcut
  replace ro := ro.below B37
  replace rr := rr.below B37
  replace rt := rt.below B37
  replace ra := ra.below B37
  replace rb := rb.below B37
  replace bt := bt.trans (B37.mono bt.size)
  clear HS0 HS1 HSW2 HSR HFR y1 y2 b35 b36 b37 B36 B37 sR0 sW0
  go_wp2_with fail
  refine (i_BestFlips _ o _ ro hsx).mono ?_
  rintro e w38 ⟨⟨vg, rfl, og, b38⟩, hg12, hg26⟩
  obtain ⟨ag, mg, cg, rfl, HMG, _, _⟩ := og.rd.formN
  have rg := og.rd
  replace ro := ro.below b38
  replace rr := rr.below b38
  replace rt := rt.below b38
  replace ra := ra.below b38
  replace rb := rb.below b38
  replace bt := bt.trans (b38.mono bt.size)
  clear b38 og hg26
  have h20a := (late_lens htl).1
  have h20b := (late_lens htl).2.1
  obtain ⟨j0, j1⟩ := late_I64 htl
  have eO : emitO t 2 = lateOut t 2 := by rw [emitO, if_pos htl]
  have eL : emitL t 2 = lateLate t 2 := by rw [emitL, if_pos htl]
  obtain ⟨gI, gL⟩ := grL_bd hso
  obtain ⟨bI, bL⟩ := bestL_bd hsx
  have tb := ht.tab.below bt
  have HSLL := Lib.hid (I_StackLine w38 _ o ro fo (by omega) tb)
  rw [HST.out] at HSLL
  have HML := Lib.hid (fun (W : World) (hW : Below w38.heap.size w38 W) => I_MergeLine W _ r (rr.below hW) fr (by omega) (tb.below hW))
  have HCM := Lib.hid (fun (W : World) (hW : Below w38.heap.size w38 W) => i_CheapestMerge _ r W (rr.below hW) hrl)
  have HCN := Lib.hid (fun (W : World) (hW : Below w38.heap.size w38 W) => i_CheapestNeighbors _ r W (rr.below hW) hrl)
  have HLL := Lib.hid (fun (W : World) (hW : Below w38.heap.size w38 W) => I_LateLine W _ t (rt.below hW) ft (by omega) 2 (by unfold I64; omega) (tb.below hW))
  have HFLL := Lib.hid (fun (W : World) (hW : Below w38.heap.size w38 W) => I_FlipLine W _ o (ro.below hW) fo (by omega) (tb.below hW))
  have HGF := Lib.hid (fun (W : World) (hW : Below w38.heap.size w38 W) => i_GreedyFlips _ o W (ro.below hW) hso)
  have HNa := Lib.hid (fun (W : World) (hW : Below w38.heap.size w38 W) => I_FormatNumbers W _ _ (ra.below hW) (by rw [eO]; exact j0) (by rw [eO]; omega) (tb.below hW))
  have HNb := Lib.hid (fun (W : World) (hW : Below w38.heap.size w38 W) => I_FormatNumbers W _ _ (rb.below hW) (by rw [eL]; exact j1) (by rw [eL]; omega) (tb.below hW))
  have HNg := Lib.hid (fun (W : World) (hW : Below w38.heap.size w38 W) => I_FormatNumbers W _ _ (rg.below hW) bI (by omega) (tb.below hW))
  have HNr := Lib.hid (fun (W : World) (v : Value) (hv : Rd W v (ints (grL o))) (hW : Below w38.heap.size w38 W) => I_FormatNumbers W v _ hv gI (by omega) (tb.below hW))
  rw [fmt60 (by rw [eO]; omega)] at HNa
  rw [fmt60 (by rw [eL]; omega)] at HNb
  rw [fmt60 (by omega)] at HNg
  rw [fmt60 (by omega)] at HNr
  obtain ⟨cI, nI⟩ := cm_I64 hrl
  have HF1 := Lib.hid (fun (W : World) (hW : Below w38.heap.size w38 W) => I_FormatInt W (cm r) cI (tb.below hW))
  have HF2 := Lib.hid (fun (W : World) (hW : Below w38.heap.size w38 W) => I_FormatInt W (nbAll r) nI (tb.below hW))
  have l1 := (itoa_len cI).2
  have l2 := (itoa_len nI).2
  have l3 := numsB_le (by rw [← eO] at j0; exact j0) (by rw [eO]; exact h20a)
  have l4 := numsB_le (by rw [← eL] at j1; exact j1) (by rw [eL]; exact h20b)
  have l5 := numsB_le gI gL
  have l6 := numsB_le bI bL
  have HRM : Hid (bstr (mergeLine r) = (⟨#[97, 110, 121, 32]⟩ : ByteArray) ++ bstr (Lib.itoa (cm r)) ++ ⟨#[32, 110, 101, 105, 103, 104, 98, 111, 114, 115, 32]⟩ ++ bstr (Lib.itoa (nbAll r))) := by
    rw [Hid, rep_merge hrl]; exact cat4 _ _ _ _
  have HRL : Hid (bstr (lateLine t 2) = bstr (numsB (emitO t 2)) ++ (⟨#[32]⟩ : ByteArray) ++ bstr (numsB (emitL t 2))) := by
    rw [Hid, rep_late htl]; exact cat3 _ _ _
  have HRF : Hid (bstr (flipLine o) = (⟨#[103, 114, 101, 101, 100, 121, 32]⟩ : ByteArray) ++ bstr (numsB (grL o)) ++ ⟨#[32, 98, 101, 115, 116, 32]⟩ ++ bstr (numsB (bestL o))) := by
    rw [Hid, rep_flip hso hsx]; exact cat4 _ _ _ _
  obtain ⟨C1, hC1⟩ : ∃ C, bstr (Lib.itoa (cm r)) = C := ⟨_, rfl⟩
  obtain ⟨C2, hC2⟩ : ∃ C, bstr (Lib.itoa (nbAll r)) = C := ⟨_, rfl⟩
  obtain ⟨Ea, hEa⟩ : ∃ C, bstr (numsB (emitO t 2)) = C := ⟨_, rfl⟩
  obtain ⟨Eb, hEb⟩ : ∃ C, bstr (numsB (emitL t 2)) = C := ⟨_, rfl⟩
  obtain ⟨G1, hG1⟩ : ∃ C, bstr (numsB (grL o)) = C := ⟨_, rfl⟩
  obtain ⟨G2, hG2⟩ : ∃ C, bstr (numsB (bestL o)) = C := ⟨_, rfl⟩
  have s1 : C1.size ≤ 2000 := by rw [← hC1, bstr_size]; omega
  have s2 : C2.size ≤ 2000 := by rw [← hC2, bstr_size]; omega
  have s3 : Ea.size ≤ 2000 := by rw [← hEa, bstr_size]; omega
  have s4 : Eb.size ≤ 2000 := by rw [← hEb, bstr_size]; omega
  have s5 : G1.size ≤ 2000 := by rw [← hG1, bstr_size]; omega
  have s6 : G2.size ≤ 2000 := by rw [← hG2, bstr_size]; omega
  rw [hC1, hC2] at HRM
  rw [hEa, hEb] at HRL
  rw [hG1, hG2] at HRF
  rw [hC1] at HF1
  rw [hC2] at HF2
  rw [hEa] at HNa
  rw [hEb] at HNb
  rw [hG2] at HNg
  rw [hG1] at HNr
  have y1 : ¬ 9223372036854775807 < 4 + C1.size := by omega
  have y2 : ¬ 9223372036854775807 < 4 + C1.size + 11 := by omega
  have y3 : ¬ 9223372036854775807 < 4 + C1.size + 11 + C2.size := by omega
  have y4 : ¬ 9223372036854775807 < Ea.size + 1 := by omega
  have y5 : ¬ 9223372036854775807 < Ea.size + 1 + Eb.size := by omega
  have y6 : ¬ 9223372036854775807 < 7 + G1.size := by omega
  have y7 : ¬ 9223372036854775807 < 7 + G1.size + 6 := by omega
  have y8 : ¬ 9223372036854775807 < 7 + G1.size + 6 + G2.size := by omega
  have HA01 := Lib.hid (fun (W : World) (hW : Below w38.heap.size w38 W) => i_Fab01 W (tb.below hW))
  have HA012 := Lib.hid (fun (W : World) (hW : Below w38.heap.size w38 W) => i_Fab012 W (tb.below hW))
  clear hC1 hC2 hEa hEb hG1 hG2 l1 l2 l3 l4 l5 l6 j0 j1 eO eL h20a h20b gI gL bI bL cI nI s1 s2 s3 s4 s5 s6 htl hrl hso hsx fo fr ft hlo hr6 ht11 hg12 rr ro rt ra rb rg tb HST
  generalize cm r = c1 at *
  generalize nbAll r = c2 at *
  go_wp2_with (first
    | (go_at_call 29; refine HSLL.out.mono ?_; rintro e u1 ⟨rfl, e1⟩)
    | (go_at_call 30; refine (HML.out _ e1).mono ?_; rintro e u2 ⟨rfl, e2⟩; rw [HRM.out]; have f2 := e1.trans (e2.mono e1.size))
    | (go_at_call 31; refine (HCM.out _ f2).mono ?_; rintro e u3 ⟨rfl, e3⟩; have f3 := f2.trans (e3.mono f2.size))
    | (go_at_call_of 14 c1; refine (HF1.out _ f3).mono ?_; rintro e u4 ⟨rfl, e4⟩; have f4 := f3.trans (e4.mono f3.size))
    | (go_at_call 32; refine (HCN.out _ f4).mono ?_; rintro e u5 ⟨rfl, e5⟩; have f5 := f4.trans (e5.below _))
    | (go_at_call_of 14 c2; refine (HF2.out _ f5).mono ?_; rintro e u6 ⟨rfl, e6⟩; have f6 := f5.trans (e6.mono f5.size))
    | (go_at_call 33; refine (HLL.out _ f6).mono ?_; rintro e u7 ⟨rfl, e7⟩; rw [HRL.out]; have f7 := f6.trans (e7.mono f6.size))
    | (go_at_call 6; (with_reducible refine (HNa.out _ f7).mono ?_); rintro e u8 ⟨rfl, e8⟩; have f8 := f7.trans (e8.mono f7.size); clear HNa)
    | (go_at_call 6; (with_reducible refine (HNb.out _ f8).mono ?_); rintro e u9 ⟨rfl, e9⟩; have f9 := f8.trans (e9.mono f8.size); clear HNb)
    | (go_at_call 34; refine (HFLL.out _ f9).mono ?_; rintro e u10 ⟨rfl, e10⟩; rw [HRF.out]; have f10 := f9.trans (e10.mono f9.size))
    | (go_at_call 35; refine (HGF.out _ f10).mono ?_; rintro e u11 ⟨v11, rfl, o11, e11⟩; have f11 := f10.trans (e11.mono f10.size))
    | (go_at_call 6; (with_reducible refine (HNr.out _ _ o11.rd f11).mono ?_); rintro e u12 ⟨rfl, e12⟩; have f12 := f11.trans (e12.mono f11.size); clear HNr)
    | (go_at_call 6; (with_reducible refine (HNg.out _ f12).mono ?_); rintro e u13 ⟨rfl, e13⟩; have f13 := f12.trans (e13.mono f12.size); clear HNg)
    | (go_at_call 36; (with_reducible refine (HA01.out _ f13).mono ?_); rintro e u14 ⟨rfl, e14⟩; have f14 := f13.trans (e14.mono f13.size); clear HA01)
    | (go_at_call 36; (with_reducible refine (HA012.out _ f14).mono ?_); rintro e u15 ⟨rfl, e15⟩; have f15 := f14.trans (e15.mono f14.size); clear HA012))
  go_ret
  exact ⟨rfl, bt.trans (f15.mono bt.size)⟩

end Go.Proofs.YtggblfnajeikjaaGreatDoor
