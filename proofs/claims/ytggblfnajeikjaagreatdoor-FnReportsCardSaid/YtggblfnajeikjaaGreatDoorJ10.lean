/- Joined texts of the proof: DisR, DisC, DisD, DisE, RepA, DrawsO, DrawsN, DrawsT, LawHelp, NetLaw, LawFnReports. -/
import Derived.Test.YtggblfnajeikjaaGreatDoorRows
import Derived.WalkKit
import Derived.WalkSpells
import Derived.WalkLawsBesides
import Derived.Deep.Draws
import Derived.Lib.Hide
import Derived.RegionTactic
import Derived.BigQuiet
import Derived.Deep.QuietTactic
import Derived.Lib.SliceRun
import Derived.Deep.RegionLaw
import Derived.Deep.DeepCutAuto
import Derived.Deep.LoopGhost
import Derived.Deep.RegionWith
import Derived.Lib.ItoaNum
import Derived.Deep.RegionHeld3
import Derived.IntWalk
import Derived.Lib.Join
import Derived.Shelf.Strings.Builder1
import Derived.Shelf.Strings.Builder2
import Derived.Shelf.Strings.OnBuilder
import Derived.Shelf.Strconv.Atoi
import Derived.Shelf.Strconv.Itoa0
import Derived.Shelf.Strconv.Itoa1
import Derived.Shelf.LaysM
import Derived.Shelf.Strconv.Itoa2
import Derived.Shelf.Strconv.Itoa3
import Derived.Shelf.Strconv.AtoiErrFast
import Derived.Shelf.Strconv.ParseIntEmpty
import Derived.Shelf.Strconv.AtoiFail
import Derived.Shelf.Strconv.Clone
import Derived.Shelf.Strconv.SyntaxError
import Derived.Shelf.LaysC
import Derived.Shelf.Strconv.ToError
import Derived.Shelf.Strconv.Lower
import Derived.Shelf.Strconv.ParseUint10
import Derived.Shelf.Strconv.ParseUint10Empty
import Derived.Shelf.Strconv.ParseUint10Any
import Derived.Shelf.Strconv.ParseInt10
import Derived.Shelf.Strconv.AtoiLong
import Derived.Shelf.Strconv.AtoiInnerAll
import Derived.Shelf.Strconv.RangeError
import Derived.Shelf.Strconv.ToErrorRange
import Derived.Shelf.Strconv.AtoiAll
import Derived.Shelf.Strconv.ErrVarAll
import Derived.Shelf.Strings.Search1
import Derived.Shelf.Strings.Search2
import Derived.Shelf.Strings.Search3
import Derived.Shelf.Strings.Cut
import Derived.Shelf.Strings.Count
import Derived.Shelf.Strings.Shaped
import Derived.Shelf.Sort.Plain
import Derived.Shelf.Strings.Prefix
import Derived.Shelf.Strings.Split
import Derived.Shelf.Unicode.DecodeSlow
import Derived.Shelf.Slices.Reverse
import Derived.Ground.Names2Prog
import Derived.Shelf.Slices.CompactI
import Derived.Test.YtggblfnajeikjaaGreatDoorProg
import Derived.Lib.SmallJoins
import Derived.Lib.AppendZeros
import Derived.Deep.AppendLies
import Derived.Lib.SplitLaws
import Derived.Lib.Split
import Derived.Lib.IndexBytes
import Derived.Lib.AtoiAllCases
import Derived.Lib.AtoiErrMem
import Derived.Laws.BitsAllLaws
import Derived.Laws.BitsLemmas
import Derived.Lib.RowBridge
import Derived.Sort.OwnSortedInts
import Derived.Lib.LazyBuf
import Derived.Maps.OwnOps
import Derived.Maps.OwnSet
import Derived.Maps.Views
import Derived.Carry
import Derived.Laws.Bits64b
import Derived.BigRegion
import Derived.Test.YtggblfnajeikjaaGreatDoorJ9
namespace Go.Proofs.YtggblfnajeikjaaGreatDoor
open Go.RowKit
set_option linter.unusedVariables false
set_option linter.unusedSimpArgs false

def RetLen (n : Nat) (w : World) (e : Ending) (w' : World) : Prop := ∃ a c, e = .returned (.slice a n c) ∧ Below w.heap.size w w'
theorem small8 {m : Nat} (h : m ≤ 12) : (m + 1) * 8 ≤ 140737488355328 ∧ m + 1 ≤ 9223372036854775807 := by omega
theorem small24 {m : Nat} (h : m ≤ 12) : (m + 1) * 24 ≤ 140737488355328 ∧ m + 1 ≤ 9223372036854775807 := by omega
set_option maxRecDepth 100000 in
set_option maxHeartbeats 4000000 in
theorem i_rising (v : Value) (xs : List Int) (w : World) (h : Rd w v (ints xs)) (hl : xs.length ≤ 12) : Calls Tryz.prog 113 #[v] w (RetLen (runN xs xs.length) w) := by
  obtain ⟨a, n, c, rfl, HN, hnc, hc⟩ := h.formN
  have h12 : n ≤ 12 := by have := HN.out; omega
  rw [← HN.out]
  have hA : Own (w.alloc (.cells #[] 23)) 23 w.heap.size (.slice (some ⟨w.heap.size, 0, none⟩) 0 0) [] := by simpa [ints] using Own.lit0 w 23 (Nat.le_refl _)
  have hb0 : Below w.heap.size w (w.alloc (.cells #[] 23)) := (Below.refl _ _).alloc (Nat.le_refl _) _
  go_enter Tryz.func113, Tryz.ntmps113
  go_wp2
  go_loopg [3, 9] n (fun g vo iv wr => ∃ (i : Nat) (rows : List Value), g = n - i ∧ i ≤ n ∧ iv = .int .i64 i ∧ Hid (rows.length = runN xs i) ∧ Own wr 23 w.heap.size vo rows ∧ Below w.heap.size w wr ∧ (i = 0 ∨ ∃ (r0 : List Value) (r : Value) (ys : List Int), rows = r0 ++ [r] ∧ Own wr 3 w.heap.size r (ints ys) ∧ ys.length ≤ i))
  case atStart => exact ⟨0, [], rfl, Nat.zero_le _, rfl, rfl, hA, hb0, .inl rfl⟩
  case round =>
    clear hA hb0
    obtain ⟨i, rows, hg, hi, rfl, HRN, ho, hb, hlast⟩ := hrel
    obtain ⟨ao, co, rfl, hmc, _⟩ := ho.rd.form
    obtain ⟨m, hm⟩ : ∃ m, rows.length = m := ⟨_, rfl⟩
    rw [hm] at ho hmc ⊢
    have hmi : m ≤ i := by have := HRN.out; have := runN_le xs i; omega
    have hm24 := small24 (Nat.le_trans hmi (Nat.le_trans hi h12))
    by_cases hlt : i < n
    · obtain ⟨ad, x, rfl, hcx, hx⟩ := (h.below hb).int (k := i) (by have := HN.out; omega)
      have i1 : (i : Int) < (n : Int) := by omega
      have hcase : (∃ (b : Bool), runB xs i = b ∧ ((i = 0 ∧ b = true) ∨ (∃ (K : Nat) (y : Int), i = K + 1 ∧ xs[K]? = some y ∧ b = decide (x < y)))) := by
        refine ⟨_, rfl, ?_⟩
        rcases Nat.eq_zero_or_pos i with h0 | h0
        · exact .inl ⟨h0, by simp [runB, h0]⟩
        · obtain ⟨K, rfl⟩ : ∃ K, i = K + 1 := ⟨i - 1, by omega⟩
          have hK : K < xs.length := by have := HN.out; omega
          refine .inr ⟨K, _, rfl, List.getElem?_eq_getElem hK, ?_⟩
          rw [runB, Nat.add_sub_cancel, getD_ok hx.out, getD_ok (List.getElem?_eq_getElem hK)]
          simp
      obtain ⟨rb, hrb, hcase⟩ := hcase
      have HRS : Hid (runN xs (i + 1) = runN xs i + (if rb = true then 1 else 0)) := by rw [Hid, runN, hrb]
      clear hrb
      cases rb with
      | true =>
        have hA : Own (wr.alloc (.cells #[] 3)) 23 w.heap.size (.slice ao m co) rows := ho.alloc _
        have hE : Own (wr.alloc (.cells #[] 3)) 3 w.heap.size (.slice (some ⟨wr.heap.size, 0, none⟩) 0 0) (ints []) := Own.lit0 wr 3 hb.size
        have hbA : Below w.heap.size w (wr.alloc (.cells #[] 3)) := hb.alloc hb.size _
        have hsA := hbA.size
        rcases hcase with ⟨h0, _⟩ | ⟨K, y, hK, hy, hxy⟩
        all_goals first
          | (have d0 : ((i : Int) == 0) = true := by simp [h0]
             clear h0)
          | (subst hK
             have hcy := (h.below hb).cell_i hy
             rw [add_succ] at hcx
             have i2 : (K : Int) + 1 < (n : Int) := by omega
             have i5 : ((K : Int) + 1).toNat = K + 1 := by omega
             have d0 : (((K + 1 : Nat) : Int) == 0) = false := by simp; omega
             have d0' : ((K : Int) + 1 == 0) = false := by simp; omega
             have d2 : decide (y > x) = true := hxy.symm
             have i3 : (K : Int) < (n : Int) := by omega
             clear hxy hy)
        all_goals
          go_upto_region 7 with (at_builtin; (refine wpList_app1m rfl _ _ 28 rfl elII ?_ hA ?_ ?_ ?_ m ?_ ?_ ?_ ?_); (focus exact rfl); (focus (simp [Act.eval])); (focus exact rfl); (focus exact hsA); (focus exact hm); (focus exact hm24.1); (focus exact hm24.2); intro b5 c5 w5 ho5 hg5 hat5)
          have hE5 := hE.apart hg5 (fun k h1 h2 => hA.elem_ne hE (by decide) k h2 h1)
          have hb5 := hbA.grown hg5 hsA (fun r hr => (hA.lt r hr).1)
          have HR2 := HRS.out.trans (congrArg (· + 1) (HRN.out.symm.trans hm))
          clear hA hE hbA hsA hg5 hat5 hlast ho hb
          obtain ⟨vE, hvE⟩ : ∃ vE, Value.slice (some ⟨wr.heap.size, 0, none⟩) 0 0 = vE := ⟨_, rfl⟩
          rw [hvE] at hE5 ho5
          clear hvE
          obtain ⟨ar, mr, cr, rfl, HMR, _, _⟩ := hE5.rd.formN
          have hOut := ho5
          have hRow := hE5
          have hbW := hb5
          have hgt : (rows ++ [Value.slice ar mr cr])[m]? = some (Value.slice ar mr cr) := by rw [← hm]; simp
          have hPl : m < (rows ++ [Value.slice ar mr cr]).length := by simp; omega
          obtain ⟨po, hpo, hcR⟩ := hOut.rd.cell hPl
          have hcr : w5.cell? (po.add m) = some (.slice ar mr cr) := by
            obtain ⟨_, e⟩ := List.getElem?_eq_some_iff.1 hgt
            rw [hcR, e]
          subst hpo
          have hmr : mr ≤ 12 := by have := HMR.out; first | omega | (simp at this; omega)
          have hy24 := small8 hmr
          have HLy : Hid ((ints ([] : List Int)).length = mr) := by rw [Hid, ints_length]; exact HMR.out.symm
          have hsW : w.heap.size ≤ w5.heap.size := hbW.size
          have e1 : (m : Int) < (m : Int) + 1 := by omega
          have e5 : IntKind.i64.wrap (m : Int) = (m : Int) := IntWalk.i64_in _ (by omega)
          clear hgt hcR
          go_wp2_with (at_builtin; (refine wpList_app1m rfl _ _ 23 rfl elI ?_ hRow ?_ ?_ ?_ mr ?_ ?_ ?_ ?_); (focus exact rfl); (focus (simp [Act.eval])); (focus exact rfl); (focus exact hsW); (focus exact HLy.out); (focus exact hy24.1); (focus exact hy24.2); intro b7 c7 w7 ho7 hg7 hat7; have hOut7 := hOut.apart hg7 (fun k h1 h2 => hOut.elem_ne hRow (by decide) k h1 h2); have hfz7 := hOut7.frozen rfl m; obtain ⟨po7, hpo7, hcz7⟩ := hOut7.rd.cell hPl; obtain rfl := Option.some.inj hpo7)
          have hb7 := hbW.grown hg7 hsW (fun r hr => (hRow.lt r hr).1)
          have hst := hOut7.set rfl hPl (.slice b7 (mr + 1) c7)
          have hne := hOut7.elem_ne ho7 (by decide)
          have hRow8 := ho7.setCell (p := po.add m) (fun e => hne po.block rfl (by rw [e, block_of_add])) (.slice b7 (mr + 1) c7)
          have hset : (rows ++ [Value.slice ar mr cr]).set m (.slice b7 (mr + 1) c7) = rows ++ [.slice b7 (mr + 1) c7] := by rw [← hm]; simp
          have hOut8 := hst.1
          rw [hset] at hOut8
          have hb8 := hb7.grown hst.2 hb7.size (fun r hr => (hOut7.lt r hr).1)
          first | go_roundg (n - (i + 1)) | go_roundg (n - (K + 1 + 1))
          case measure => omega
          case rel => exact ⟨_, _, rfl, by omega, by go_num, by rw [Hid, HR2]; simp [hm], hOut8, hb8, .inr ⟨rows, _, ([] : List Int) ++ [x], rfl, by rw [ints_append]; exact hRow8, by simp <;> omega⟩⟩
      | false =>
        rcases hcase with ⟨_, h0⟩ | ⟨K, y, hK, hy, hxy⟩
        · cases h0
        · rcases hlast with h0 | ⟨r0, r, ys, rfl, hRow, hys⟩
          · omega
          obtain ⟨ρ, hρ⟩ : ∃ ρ, r0.length = ρ := ⟨_, rfl⟩
          have hmρ : m = ρ + 1 := by rw [← hm, ← hρ]; simp
          subst hmρ
          have HR2 : Hid (ρ + 1 = runN xs (i + 1)) := by have := HRS.out; have := HRN.out; rw [Hid]; simp at *; omega
          obtain ⟨ar, mr, cr, rfl, HMR, _, _⟩ := hRow.rd.formN
          subst hK
          have hcy := (h.below hb).cell_i hy
          rw [add_succ] at hcx
          have i2 : (K : Int) + 1 < (n : Int) := by omega
          have i5 : ((K : Int) + 1).toNat = K + 1 := by omega
          have d0 : (((K + 1 : Nat) : Int) == 0) = false := by simp; omega
          have d0' : ((K : Int) + 1 == 0) = false := by simp; omega
          have d2 : decide (y > x) = false := hxy.symm
          have i3 : (K : Int) < (n : Int) := by omega
          have hOut := ho
          have hbW := hb
          clear hxy hy
          have hgt : (r0 ++ [Value.slice ar mr cr])[ρ]? = some (Value.slice ar mr cr) := by rw [← hρ]; simp
          have hPl : ρ < (r0 ++ [Value.slice ar mr cr]).length := by simp; omega
          obtain ⟨po, hpo, hcR⟩ := hOut.rd.cell hPl
          have hcr : wr.cell? (po.add ρ) = some (.slice ar mr cr) := by
            obtain ⟨_, e⟩ := List.getElem?_eq_some_iff.1 hgt
            rw [hcR, e]
          subst hpo
          have hmr : mr ≤ 12 := by have := HMR.out; first | omega | (simp at this; omega)
          have hy24 := small8 hmr
          have HLy : Hid ((ints ys).length = mr) := by rw [Hid, ints_length]; exact HMR.out.symm
          have hsW : w.heap.size ≤ wr.heap.size := hbW.size
          have e1 : (ρ : Int) < (ρ : Int) + 1 := by omega
          have e5 : IntKind.i64.wrap (ρ : Int) = (ρ : Int) := IntWalk.i64_in _ (by omega)
          clear hgt hcR
          go_wp2_with (at_builtin; (refine wpList_app1m rfl _ _ 23 rfl elI ?_ hRow ?_ ?_ ?_ mr ?_ ?_ ?_ ?_); (focus exact rfl); (focus (simp [Act.eval])); (focus exact rfl); (focus exact hsW); (focus exact HLy.out); (focus exact hy24.1); (focus exact hy24.2); intro b7 c7 w7 ho7 hg7 hat7; have hOut7 := hOut.apart hg7 (fun k h1 h2 => hOut.elem_ne hRow (by decide) k h1 h2); have hfz7 := hOut7.frozen rfl ρ; obtain ⟨po7, hpo7, hcz7⟩ := hOut7.rd.cell hPl; obtain rfl := Option.some.inj hpo7)
          have hb7 := hbW.grown hg7 hsW (fun r hr => (hRow.lt r hr).1)
          have hst := hOut7.set rfl hPl (.slice b7 (mr + 1) c7)
          have hne := hOut7.elem_ne ho7 (by decide)
          have hRow8 := ho7.setCell (p := po.add ρ) (fun e => hne po.block rfl (by rw [e, block_of_add])) (.slice b7 (mr + 1) c7)
          have hset : (r0 ++ [Value.slice ar mr cr]).set ρ (.slice b7 (mr + 1) c7) = r0 ++ [.slice b7 (mr + 1) c7] := by rw [← hρ]; simp
          have hOut8 := hst.1
          rw [hset] at hOut8
          have hb8 := hb7.grown hst.2 hb7.size (fun r hr => (hOut7.lt r hr).1)
          go_roundg (n - (K + 1 + 1))
          case measure => omega
          case rel => exact ⟨K + 1 + 1, _, rfl, by omega, by go_num, by have := HR2.out; rw [Hid]; simp; omega, hOut8, hb8, .inr ⟨r0, _, ys ++ [x], rfl, by rw [ints_append]; exact hRow8, by simp <;> omega⟩⟩
    · obtain rfl : i = n := by omega
      go_wp2
      go_ret
      exact ⟨_, _, by rw [← HRN.out, hm]; rfl, hb⟩

theorem i_RunsOf (v : Value) (xs : List Int) (w : World) (h : Rd w v (ints xs)) (hl : xs.length ≤ 12) : Calls Tryz.prog 58 #[v] w (RetB (.int .i64 (runN xs xs.length : Nat)) w) := by
  have HO := i_isTwelve v xs w h
  rw [show decide (xs.length ≤ 12) = true by simpa using hl] at HO
  have HOK := Lib.hid HO
  have HC := Lib.hid (i_rising v xs w h hl)
  obtain ⟨a, n, c, rfl, HN, hnc, hc⟩ := h.formN
  clear HO
  generalize runN xs xs.length = z at *
  go_enter Tryz.func58, Tryz.ntmps58
  go_wp2_with (first
    | (go_at_call 56; refine HOK.out.mono ?_; rintro e w' ⟨rfl, rfl⟩)
    | (go_at_call 113; refine HC.out.mono ?_; rintro e w2 ⟨a2, c2, rfl, hb2⟩))
  go_ret
  exact ⟨rfl, hb2⟩

end Go.Proofs.YtggblfnajeikjaaGreatDoor

namespace Go.Proofs.YtggblfnajeikjaaGreatDoor
open Go.RowKit
set_option linter.unusedVariables false
set_option linter.unusedSimpArgs false

/-- The places by their numbers, of the first k. -/
def ordK (T : List Int) (k : Nat) : List Int := srtS (ltK T) ((List.range k).map fun (i : Nat) => (i : Int))
theorem ordK_len (T : List Int) (k : Nat) : (ordK T k).length = k := by rw [ordK, srtS_length]; simp
theorem ordK_mem {T : List Int} {k : Nat} {x : Int} (h : x ∈ ordK T k) : ∃ j : Nat, j < k ∧ x = j := by
  rw [ordK, srtS_mem] at h
  obtain ⟨j, hj, rfl⟩ := List.mem_map.1 h
  exact ⟨j, List.mem_range.1 hj, rfl⟩

set_option maxHeartbeats 400000 in
theorem i_wiresN (n : Nat) (w : World) (hn : n ≤ 1000000) : Calls Tryz.prog 138 #[.int .i64 0, .int .i64 (n : Int)] w (RetOwn 3 (ints ((List.range n).map fun (i : Nat) => (i : Int))) w) := by
  have hA : Own (w.alloc (.cells #[] 3)) 3 w.heap.size (.slice (some ⟨w.heap.size, 0, none⟩) 0 0) (ints ((List.range 0).map fun (i : Nat) => (i : Int))) := Own.lit0 w 3 (Nat.le_refl _)
  have hb0 : Below w.heap.size w (w.alloc (.cells #[] 3)) := (Below.refl _ _).alloc (Nat.le_refl _) _
  go_enter Tryz.func138, Tryz.ntmps138
  go_wp2
  go_loopg [5, 6] n (fun g vo i wr => ∃ j : Nat, g = n - j ∧ j ≤ n ∧ i = .int .i64 j ∧ Own wr 3 w.heap.size vo (ints ((List.range j).map fun (i : Nat) => (i : Int))) ∧ Below w.heap.size w wr)
  case atStart => exact ⟨0, rfl, Nat.zero_le _, rfl, hA, hb0⟩
  case round =>
    clear hA hb0
    obtain ⟨j, hg, hj, rfl, ho, hb⟩ := hrel
    obtain ⟨ao, mo, co, rfl, HMO, _, _⟩ := ho.rd.formN
    have hmo : mo = j := by have := HMO.out; simpa using this
    subst hmo
    by_cases hlt : mo < n
    · have hsb := hb.size
      have i1 : (mo : Int) < (n : Int) := by omega
      have HLo : Hid ((ints ((List.range mo).map fun (i : Nat) => (i : Int))).length = mo) := by rw [Hid, ints_length]; simp
      go_wp2_with (at_builtin; refine wpList_app1m rfl _ _ 23 rfl elI rfl ho (by show Value.slice (some ⟨wr.heap.size, 0, none⟩) 1 1 = _; simp) rfl hsb _ HLo.out (by omega) (by omega) ?_; intro b5 c5 w5 ho5 hg5 hat5)
      go_roundg (n - (mo + 1))
      case measure => omega
      case rel => exact ⟨mo + 1, rfl, by omega, by go_num, by rw [List.range_succ, List.map_append, ints_append]; exact ho5, hb.grown hg5 hsb (fun r hr => (ho.lt r hr).1)⟩
    · obtain rfl : mo = n := by omega
      go_wp2
      go_ret
      exact ⟨_, rfl, ho, hb⟩

theorem k_stable1 : Known 178 := known Tryz.func178 (by kernel_rfl) (by kernel_rfl)
set_option maxHeartbeats 1000000 in
theorem i_stable1 (T : List Int) (v : Value) (q : Addr) (w : World) (hq : w.cell? q = some v) (h : Rd w v (ints T)) (X Y : Nat) (hX : X < T.length) (hY : Y < T.length) :
    Calls Tryz.prog 178 (#[.int .i64 X, .int .i64 Y] ++ #[.pointer (some q)]) w (RetQ (.int .i64 (cmpV (ltK T) X Y)) w) := by
  obtain ⟨a, n, c, rfl, HN, hnc, hc⟩ := h.formN
  obtain ⟨ad, x, rfl, hcx, hx⟩ := h.int hX
  obtain ⟨ad2, y, had2, hcy, hy⟩ := h.int hY
  obtain rfl : ad = ad2 := by injection had2
  clear had2
  have i1 : (X : Int) < (n : Int) := by have := HN.out; omega
  have i2 : (Y : Int) < (n : Int) := by have := HN.out; omega
  have hE : cmpV (ltK T) X Y = if x < y then -1 else if y < x then 1 else 0 := by
    rw [cmpV, ltK_nat, ltK_nat, getD_of hx.out, getD_of hy.out]
  by_cases h1 : x < y
  · have HE : Hid (cmpV (ltK T) X Y = -1) := by rw [Hid, hE, if_pos h1]
    have d1 : decide (x < y) = true := by simpa using h1
    clear hE
    go_enter Tryz.func178, Tryz.ntmps178
    go_wp2
    go_quiet (fail)
    go_wp2
    go_ret
    exact ⟨ret_int HE.out.symm, (Dr.refl _).step _⟩
  · have d1 : decide (x < y) = false := by simpa using h1
    by_cases h2 : y < x
    · have HE : Hid (cmpV (ltK T) X Y = 1) := by rw [Hid, hE, if_neg h1, if_pos h2]
      have d2 : decide (x > y) = true := by simpa using h2
      clear hE
      go_enter Tryz.func178, Tryz.ntmps178
      go_wp2
      go_quiet (fail)
      go_wp2
      go_quiet (fail)
      go_wp2
      go_ret
      exact ⟨ret_int HE.out.symm, ((Dr.refl _).step _).step _⟩
    · have HE : Hid (cmpV (ltK T) X Y = 0) := by rw [Hid, hE, if_neg h1, if_neg h2]
      have d2 : decide (x > y) = false := by simpa using h2
      clear hE
      go_enter Tryz.func178, Tryz.ntmps178
      go_wp2
      go_quiet (fail)
      go_wp2
      go_quiet (fail)
      go_wp2
      go_ret
      exact ⟨ret_int HE.out.symm, ((Dr.refl _).step _).step _⟩

end Go.Proofs.YtggblfnajeikjaaGreatDoor

namespace Go.Proofs.YtggblfnajeikjaaGreatDoor
open Go.RowKit
set_option linter.unusedVariables false
set_option linter.unusedSimpArgs false

set_option maxHeartbeats 1000000 in
theorem i_stable (v : Value) (T : List Int) (w : World) (h : Rd w v (ints T)) (hl : T.length ≤ 12) : Calls Tryz.prog 115 #[v] w (RetOwn 3 (ints (ordK T T.length)) w) := by
  obtain ⟨a, n, c, rfl, HN, hnc, hc⟩ := h.formN
  have h12 : n ≤ 12 := by have := HN.out; omega
  rw [← HN.out]
  obtain ⟨w1, hw1⟩ : ∃ w1, w.alloc (.cells #[.slice a n c] 23) = w1 := ⟨_, rfl⟩
  have hbx : w1.heap[w.heap.size]? = some (.cells #[.slice a n c] 23 (0, 0)) := by rw [← hw1]; exact heap_alloc_new w _
  have hs1 : w1.heap.size = w.heap.size + 1 := by rw [← hw1]; simp
  have hb1 : Below w.heap.size w w1 := by rw [← hw1]; exact (Below.refl _ _).alloc (Nat.le_refl _) _
  have hcell := box_cell hbx 0
  have HW := Lib.hid (i_wiresN n w1 (by omega))
  have HS := Lib.hid (fun (w2 : World) (v2 : Value) (ho2 : Own w2 3 w1.heap.size v2 (ints ((List.range n).map fun (i : Nat) => (i : Int)))) (hb2 : Below w1.heap.size w1 w2) =>
    f_SortStable40 (ltK T) (fun x => ∃ j : Nat, j < n ∧ x = j) 178 #[.pointer (some ⟨w.heap.size, 0, none⟩)] k_stable1 v2 ((List.range n).map fun (i : Nat) => (i : Int)) n w1.heap.size w2 ho2 (by simp) (by omega)
      (fun x hx => by
        obtain ⟨j, hj, rfl⟩ := List.mem_map.1 hx
        exact ⟨j, List.mem_range.1 hj, rfl⟩)
      (fun wx x y hg hx hy => by
        obtain ⟨X, hX, rfl⟩ := hx
        obtain ⟨Y, hY, rfl⟩ := hy
        have hlt := fun r (hr : v2.ownBlock = some r) => (ho2.lt r hr).1
        have hbw : Below w.heap.size w wx := (hb1.trans (hb2.mono hb1.size)).grown hg (by have := hb1.size; have := hb2.size; omega) (fun r hr => by have := hlt r hr; omega)
        have hc : wx.heap[w.heap.size]? = some (.cells #[.slice a n c] 23 (0, 0)) :=
          (hg.block w.heap.size (by have := hb2.size; omega) (fun e => by have := hlt w.heap.size e.symm; omega)).trans ((hb2.block w.heap.size (by omega)).trans hbx)
        exact i_stable1 T _ ⟨w.heap.size, 0, none⟩ wx (box_cell hc 0) (h.below hbw) X Y (by have := HN.out; omega) (by have := HN.out; omega)))
  go_enter Tryz.func115, Tryz.ntmps115
  go_upto_region 1 with (fail)
  try rw [hw1]
  go_wp2_with (first
    | (go_at_call 138; refine HW.out.mono ?_; rintro e w2 ⟨v2, rfl, ho2, hb2⟩)
    | (go_at_call 129; refine (HS.out w2 v2 ho2 hb2).mono ?_; rintro e w3 ⟨rfl, ho3, hg3⟩))
  go_ret
  exact ⟨_, rfl, ho3.mono (by omega), (hb1.trans (hb2.mono hb1.size)).grown hg3 (by have := hb1.size; have := hb2.size; omega) (fun r hr => by have := (ho2.lt r hr).1; omega)⟩

end Go.Proofs.YtggblfnajeikjaaGreatDoor

namespace Go.Proofs.YtggblfnajeikjaaGreatDoor
open Go.RowKit
set_option linter.unusedVariables false
set_option linter.unusedSimpArgs false

set_option maxHeartbeats 2000000 in
theorem i_FarthestMove (v : Value) (xs : List Int) (w : World) (h : Rd w v (ints xs)) (hl : xs.length ≤ 12) : Calls Tryz.prog 60 #[v] w (RetB (.int .i64 (farN (ordK xs xs.length) xs.length)) w) := by
  have HO := i_isTwelve v xs w h
  rw [show decide (xs.length ≤ 12) = true by simpa using hl] at HO
  have HOK := Lib.hid HO
  have HC := Lib.hid (i_stable v xs w h hl)
  obtain ⟨a, n, c, rfl, HN, hnc, hc⟩ := h.formN
  have h12 : n ≤ 12 := by have := HN.out; omega
  rw [← HN.out] at HC ⊢
  clear HO
  have hq : ∀ y ∈ ordK xs n, 0 ≤ y ∧ y < (n : Int) := fun y hy => by obtain ⟨j, hj, rfl⟩ := ordK_mem hy; omega
  have hqL := ordK_len xs n
  obtain ⟨q, hqe⟩ : ∃ q, ordK xs n = q := ⟨_, rfl⟩
  rw [hqe] at HC hq hqL ⊢
  clear hqe
  have HQ := Lib.hid hq
  have HQL := Lib.hid hqL
  clear hq hqL
  go_enter Tryz.func60, Tryz.ntmps60
  go_wp2_with (first
    | (go_at_call 56; refine HOK.out.mono ?_; rintro e w' ⟨rfl, rfl⟩)
    | (go_at_call 115; refine HC.out.mono ?_; rintro e w2 ⟨v2, rfl, ho2, hb2⟩; obtain ⟨a2, m2, c2, rfl, HM2, _, _⟩ := ho2.rd.formN))
  have hm2 : m2 = n := by have := HM2.out; have := HQL.out; omega
  subst hm2
  have hr2 := ho2.rd
  go_loopg [3, 12] m2 (fun g sv iv wr => ∃ (k : Nat) (z : Int), g = m2 - k ∧ k ≤ m2 ∧ iv = .int .i64 k ∧ sv = .int .i64 z ∧ 0 ≤ z ∧ z ≤ m2 ∧ w2 = wr ∧ Hid (z = farN q k))
  case atStart => exact ⟨0, 0, rfl, Nat.zero_le _, rfl, rfl, Int.le_refl _, by omega, rfl, rfl⟩
  case round =>
    obtain ⟨k, z, hg, hk, rfl, rfl, hz0, hz1, rfl, HZ⟩ := hrel
    by_cases hlt : k < m2
    · obtain ⟨ad, y, rfl, hcy, hy⟩ := hr2.int (k := k) (by rw [HQL.out]; exact hlt)
      have hyb := HQ.out y (List.mem_of_getElem? hy.out)
      have HT2 : Hid (max z (max ((k : Int) - y) (y - (k : Int))) = farN q (k + 1)) := by rw [Hid, farN, getD_ok hy.out, ← HZ.out]
      have i1 : (k : Int) < (m2 : Int) := by omega
      go_wp2
      all_goals (
        go_roundg (m2 - (k + 1))
        case measure => omega
        case rel => exact ⟨k + 1, _, rfl, by omega, by go_num, rfl, by omega, by omega, rfl, by have := HT2.out; rw [Hid, ← this] <;> omega⟩)
    · obtain rfl : k = m2 := by omega
      go_wp2
      go_ret
      exact ⟨by rw [← HZ.out]; rfl, hb2⟩

def disL (xs : List Int) : List Int := [((invN xs : Nat) : Int), ((runN xs xs.length : Nat) : Int), (xs.length : Int) - dpB xs xs.length, farN (ordK xs xs.length) xs.length]
def disLine (xs : List Int) : List UInt8 := if xs.length ≤ 12 then numsB (disL xs) else [110, 111, 110, 101]
theorem disL_I64 {xs : List Int} (hl : xs.length ≤ 12) : I64s (disL xs) := by
  have h1 : invN xs ≤ 144 := Nat.le_trans (invN_le xs) (Nat.mul_le_mul hl hl)
  have h2 := runN_le xs xs.length
  have h3 := dpB_bd xs xs.length
  have h4 := farN_bd (q := ordK xs xs.length) (m := (xs.length : Int)) (fun y hy => by obtain ⟨j, hj, rfl⟩ := ordK_mem hy; omega) (by omega) xs.length (Int.le_refl _)
  intro x hx
  simp only [disL, List.mem_cons, List.not_mem_nil, or_false] at hx
  unfold I64
  rcases hx with rfl | rfl | rfl | rfl <;> omega

set_option maxHeartbeats 1000000 in
theorem i_DisorderOf (v : Value) (xs : List Int) (w : World) (h : Rd w v (ints xs)) (hl : xs.length ≤ 12) : Calls Tryz.prog 12 #[v] w (RetOwn 3 (ints (disL xs)) w) := by
  have HO := i_isTwelve v xs w h
  rw [show decide (xs.length ≤ 12) = true by simpa using hl] at HO
  have HOK := Lib.hid HO
  have H1 := Lib.hid (fun (W : World) (hW : Below w.heap.size w W) => i_InversionsOf v xs W (h.below hW) hl)
  have H2 := Lib.hid (fun (W : World) (hW : Below w.heap.size w W) => i_RunsOf v xs W (h.below hW) hl)
  have H3 := Lib.hid (fun (W : World) (hW : Below w.heap.size w W) => i_RemoveLeast v xs W (h.below hW) hl)
  have H4 := Lib.hid (fun (W : World) (hW : Below w.heap.size w W) => i_FarthestMove v xs W (h.below hW) hl)
  have HD : Hid (ints (disL xs) = [.int .i64 (invN xs : Nat), .int .i64 (runN xs xs.length : Nat), .int .i64 ((xs.length : Int) - dpB xs xs.length), .int .i64 (farN (ordK xs xs.length) xs.length)]) := rfl
  obtain ⟨a, n, c, rfl, HN, hnc, hc⟩ := h.formN
  clear HO
  generalize ((xs.length : Int) - dpB xs xs.length) = z3 at *
  generalize farN (ordK xs xs.length) xs.length = z4 at *
  generalize invN xs = z1 at *
  generalize runN xs xs.length = z2 at *
  go_enter Tryz.func12, Tryz.ntmps12
  go_wp2_with (first
    | (go_at_call 56; refine HOK.out.mono ?_; rintro e w' ⟨rfl, rfl⟩; have b0 : Below w.heap.size w w := Below.refl _ _)
    | (go_at_call 57; refine (H1.out _ b0).mono ?_; rintro e w1 ⟨rfl, hb1⟩)
    | (go_at_call 58; refine (H2.out _ hb1).mono ?_; rintro e w2 ⟨rfl, hb2⟩; have hb2' := hb1.trans (hb2.mono hb1.size))
    | (go_at_call 59; refine (H3.out _ hb2').mono ?_; rintro e w3 ⟨rfl, hb3⟩; have hb3' := hb2'.trans (hb3.mono hb2'.size))
    | (go_at_call 60; refine (H4.out _ hb3').mono ?_; rintro e w4 ⟨rfl, hb4⟩; have hb4' := hb3'.trans (hb4.mono hb3'.size)))
  go_ret
  have hlit := Own.lit w4 3 w.heap.size #[.int .i64 (z1 : Int), .int .i64 (z2 : Int), .int .i64 z3, .int .i64 z4] hb4'.size (by simp)
  exact ⟨_, rfl, by rw [HD.out]; exact hlit, hb4'.alloc hb4'.size _⟩

set_option maxHeartbeats 1000000 in
theorem I_DisorderLine (w : World) (v : Value) (xs : List Int) (h : Rd w v (ints xs)) (_ : I64s xs) (_ : xs.length ≤ 1048576) (ht : Tab w) : Calls Tryz.prog 11 #[v] w (RetB (.string (bstr (disLine xs))) w) := by
  have HO := i_isTwelve v xs w h
  by_cases hl : xs.length ≤ 12
  · rw [show decide (xs.length ≤ 12) = true by simpa using hl] at HO
    have HOK := Lib.hid HO
    have HD := Lib.hid (i_DisorderOf v xs w h hl)
    have hi := disL_I64 hl
    have hn4 : (disL xs).length = 4 := rfl
    have HR : Hid (disLine xs = numsB (disL xs)) := by rw [Hid, disLine, if_pos hl]
    have HF0 := fun (W : World) (u : Value) (hu : Rd W u (ints (disL xs))) (hW : Tab W) => i_numbers W u _ hu hi (by omega) hW
    have HF := Lib.hid HF0
    obtain ⟨a, n, c, rfl, HN, hnc, hc⟩ := h.formN
    clear HO hi hn4 HF0 hl
    go_enter Tryz.func11, Tryz.ntmps11
    go_wp2_with (first
      | (go_at_call 56; refine HOK.out.mono ?_; rintro e w' ⟨rfl, rfl⟩)
      | (go_at_call 12; refine HD.out.mono ?_; rintro e w2 ⟨v2, rfl, ho2, hb2⟩)
      | (go_at_call 46; (with_reducible refine (HF.out _ _ ho2.rd (ht.below hb2)).mono ?_); rintro e w3 ⟨rfl, hb3⟩))
    go_ret
    exact ⟨by rw [HR.out]; rfl, hb2.trans (hb3.mono hb2.size)⟩
  · rw [show decide (xs.length ≤ 12) = false by simpa using hl] at HO
    have HOK := Lib.hid HO
    have HR : Hid (disLine xs = [110, 111, 110, 101]) := by rw [Hid, disLine, if_neg hl]
    obtain ⟨a, n, c, rfl, HN, hnc, hc⟩ := h.formN
    clear HO hl
    go_enter Tryz.func11, Tryz.ntmps11
    go_wp2_with (go_at_call 56; refine HOK.out.mono ?_; rintro e w' ⟨rfl, rfl⟩)
    go_ret
    exact ⟨by rw [HR.out]; rfl, Below.refl _ _⟩

end Go.Proofs.YtggblfnajeikjaaGreatDoor

namespace Go.Proofs.YtggblfnajeikjaaGreatDoor
open Go.RowKit
set_option linter.unusedVariables false
set_option linter.unusedSimpArgs false

set_option maxHeartbeats 1000000 in
theorem i_CheapestNeighbors (v : Value) (xs : List Int) (w : World) (h : Rd w v (ints xs)) (hs : lensB xs = true) : Calls Tryz.prog 32 #[v] w (RetQ (.int .i64 (nbAll xs)) w) := by
  have HL := Lib.hid (hs ▸ i_LengthsOk v xs w h)
  obtain ⟨h8, hb⟩ := lensB_iff.1 hs
  have HN := Lib.hid (i_nb xs.length v xs w h (Nat.le_refl _) h8 hb)
  have HE : Hid (nb xs.length xs = nbAll xs) := rfl
  rw [HE.out] at HN
  generalize nbAll xs = Z at HN ⊢
  obtain ⟨a, n, c, rfl, _, hnc, hc⟩ := h.formN
  clear hs h8 hb
  go_enter Tryz.func32, Tryz.ntmps32
  go_wp2_with (first
    | (go_at_call 88; refine HL.out.mono ?_; rintro e w' ⟨rfl, rfl⟩)
    | (go_at_call 89; refine HN.out.mono ?_; rintro e w1 ⟨rfl, hd1⟩))
  go_ret
  exact ⟨rfl, hd1⟩

theorem fmt60 {xs : List Int} (h : xs.length ≤ 60) : fmtNums xs = numsB xs := by rw [fmtNums, if_neg (by omega)]
theorem rep_parse {l : List Int} (h1 : l.length ≤ 12) (h2 : ∀ y ∈ l, -3 ≤ y ∧ y ≤ 8) :
    I64s l ∧ pn0 (bstr (numsB l)) = l ∧ pn1 (bstr (numsB l)) = true ∧ (bstr (numsB l)).size ≤ 1000 ∧ (bstr (numsB l) = (⟨#[45]⟩ : ByteArray) ↔ l.length = 0) := by
  have hi : I64s l := fun y hy => by have := h2 y hy; unfold I64; omega
  have hp := parse_format hi (by omega : l.length ≤ 60)
  have e : (bstr (numsB l)).data.toList = numsB l := by simp [bstr]
  refine ⟨hi, by rw [pn0, e, hp]; rfl, by rw [pn1, e, hp]; rfl, ?_, ?_⟩
  · have := numsB_le hi (by omega : l.length ≤ 20)
    show (bstr (numsB l)).data.size ≤ 1000
    have e2 : (bstr (numsB l)).data.size = (numsB l).length := by simp [bstr]
    omega
  · refine ⟨fun h => ?_, fun h => ?_⟩
    · have h0 : l = [] := numsB_dash.1 (by rw [← e, h])
      rw [h0]; rfl
    · rw [List.eq_nil_of_length_eq_zero h]; rfl
theorem rep_dis {l : List Int} (h1 : l.length ≤ 12) : disLine l = numsB (disL l) := by rw [disLine, if_pos h1]
theorem rep_net {N : Nat} {xss : List (List Int)} (hk : netOk (N : Int) xss = true) (hf : failsB (N : Int) xss = false) : netLine (N : Int) xss = [112, 97, 105, 114, 115, 32] ++ Lib.itoa xss.length ++ [32, 100, 101, 112, 116, 104, 32] ++ Lib.itoa (depthOf N xss) ++ [32, 115, 111, 114, 116, 115] := by
  rw [netLine, if_pos hk, hf]; rfl
theorem rep_netF {N : Nat} {xss : List (List Int)} (hk : netOk (N : Int) xss = true) (hf : failsB (N : Int) xss = true) : netLine (N : Int) xss = [112, 97, 105, 114, 115, 32] ++ Lib.itoa xss.length ++ [32, 100, 101, 112, 116, 104, 32] ++ Lib.itoa (depthOf N xss) ++ ([32, 102, 97, 105, 108, 115, 32] ++ numsB (failLs N xss)) := by
  rw [netLine, if_pos hk, if_pos hf, netHead]; simp [List.append_assoc]
theorem rep_order {N : Nat} {xss : List (List Int)} (hk : netOk (N : Int) xss = true) {a b : Nat} (ha : (knownL (N : Int) xss).length = a) (hb : (resL (N : Int) xss).length = b) :
    orderLine (N : Int) xss = [107, 110, 111, 119, 110, 32] ++ Lib.itoa a ++ [32, 114, 101, 115, 117, 108, 116, 115, 32] ++ Lib.itoa b ++ [32, 105, 100, 108, 101, 32] ++ numsB (idleL N xss) := by
  rw [orderLine_ok hk, ha, hb]
theorem rep_test {N : Nat} {xss : List (List Int)} (hk : netOk (N : Int) xss = true) (hl : xss.length ≤ 20) : testLine (N : Int) xss = [104, 105, 100, 100, 101, 110, 32] ++ Lib.itoa (hiddenL N xss).length ++ [32, 116, 101, 115, 116, 115, 32] ++ numsB (greedyL N xss) := by
  rw [testLine, if_pos (by simp [hk, hl])]
theorem rep_perm {m : Nat} {o : List Int} (h5 : m ≤ 5) (h : PermN m o) : shortB o = true ∧ sixB o = true := by
  obtain ⟨h1, h2⟩ := h
  subst h1
  exact ⟨shortB_iff.2 ⟨by omega, h2⟩, by rw [sixB, Bool.and_eq_true]; exact ⟨by simp; omega, ordB_iff.2 h2⟩⟩
theorem rep_stack {o : List Int} (h : shortB o = true) : stackLine o = if canB o then [119, 111, 114, 100, 32] ++ wordOf o else [114, 111, 117, 110, 100, 115, 32] ++ Lib.itoa (rndN 9 o : Nat) := by
  rw [stackLine, if_pos h, wordOf, h, Bool.true_and]
  cases hc : canB o <;> rfl
theorem rep_lens {r : List Int} (h1 : r.length ≤ 6) (h2 : ∀ y ∈ r, 1 ≤ y ∧ y ≤ 12) : lensB r = true := lensB_iff.2 ⟨by omega, fun y hy => by have := h2 y hy; omega⟩
theorem rep_merge {r : List Int} (h : lensB r = true) : mergeLine r = [97, 110, 121, 32] ++ Lib.itoa (cm r) ++ [32, 110, 101, 105, 103, 104, 98, 111, 114, 115, 32] ++ Lib.itoa (nbAll r) := by rw [mergeLine, if_pos h]
theorem rep_lateOk {t : List Int} (h1 : t.length ≤ 11) (h2 : ∀ y ∈ t, 0 ≤ y ∧ y ≤ 36) : lateOkB t 2 = true := lateOkB_iff.2 ⟨⟨by omega, fun y hy => by have := h2 y hy; omega⟩, by omega, by omega⟩
theorem rep_late {t : List Int} {s : Int} (h : lateOkB t s = true) : lateLine t s = numsB (emitO t s) ++ [32] ++ numsB (emitL t s) := by rw [lateLine, if_pos h, emitO, emitL, if_pos h, if_pos h]
theorem rep_flip {o : List Int} (h1 : shortB o = true) (h2 : sixB o = true) : flipLine o = [103, 114, 101, 101, 100, 121, 32] ++ numsB (grL o) ++ [32, 98, 101, 115, 116, 32] ++ numsB (bestL o) := by rw [flipLine, if_pos h1, if_pos h2]

end Go.Proofs.YtggblfnajeikjaaGreatDoor

namespace Go.Proofs.YtggblfnajeikjaaGreatDoor
open Go.RowKit
set_option linter.unusedVariables false
set_option linter.unusedSimpArgs false

set_option maxRecDepth 100000 in
set_option maxHeartbeats 4000000 in
theorem s_l20Draw (g : Nat) (vb : Value) (xs : List Int) (hxb : ∀ x ∈ xs, 0 ≤ x ∧ x ≤ 255) (w : World) (hC : Cur w g vb xs) :
    Calls Tryz.prog 75 #[.pointer (some ⟨g, 0, none⟩)] w fun e w' => ∃ (ys : List Int) (v : Value), ys.length ≤ 6 ∧ (∀ y ∈ ys, 1 ≤ y ∧ y ≤ 12) ∧ e = .returned v ∧ Own w' 3 w.heap.size v (ints ys) ∧ Cur w' g vb xs ∧ w.grownBy w' (some g) := by
  have HB := Lib.hid (fun (n : Int) (h1 : 1 ≤ n) (h2 : n ≤ 1000000000) (wx : World) (hx : Cur wx g vb xs) => s_l01Below g vb xs hxb n h1 h2 wx hx)
  have hgl := hC.lt
  have HUP := Lib.hid (fun (w6 : World) (hg : w.grownBy w6 (some g)) => hC.up hg)
  clear hxb
  go_enter Tryz.func75, Tryz.ntmps75
  go_wp2_with fail
  refine (HB.out 7 (by omega) (by omega) _ (hC.alloc _)).mono ?_
  rintro e w1 ⟨x, rfl, hx0, hx1, hC1, hg1⟩
  obtain ⟨n, rfl⟩ := Int.eq_ofNat_of_zero_le hx0
  have hg0 : w.grownBy w1 (some g) := gb_trans (gb_alloc (World.grownBy.refl _ _) _) hg1
  have ho0 : Own w1 3 w.heap.size (.slice (some ⟨w.heap.size, 0, none⟩) 0 0) (ints []) := (Own.lit0 w 3 (Nat.le_refl _)).apart hg1 (fun k h1 h2 => (Own.lit0 w 3 (Nat.le_refl _)).neg hgl (by rw [h1, h2]))
  have hn : n ≤ 6 := by omega
  clear hC hg1 hx0 hx1
  go_wp2_with fail
  go_loopg [3, 4] n (fun gq vl k wr => ∃ (q : Nat) (ys : List Int), gq = q ∧ k = .int .i64 q ∧ Hid (ys.length + q = n) ∧ Hid (∀ y ∈ ys, 1 ≤ y ∧ y ≤ 12) ∧ Own wr 3 w.heap.size vl (ints ys) ∧ Cur wr g vb xs ∧ w.grownBy wr (some g))
  case atStart => exact ⟨n, [], rfl, rfl, by simp [Hid], (fun y hy => by cases hy), ho0, hC1, hg0⟩
  case round =>
    clear hC1 ho0 hg0
    obtain ⟨q, ys, hgq, rfl, HL, HY, ho, hC, hg⟩ := hrel
    by_cases hq0 : 0 < q
    · obtain ⟨r, rfl⟩ : ∃ r, q = r + 1 := ⟨q - 1, by omega⟩
      have d0 : decide (((r + 1 : Nat) : Int) > 0) = true := by simp
      have hr13 : r ≤ 13 := by have := HL.out; omega
      obtain ⟨al, ml, cl, rfl, HML, _, _⟩ := ho.rd.formN
      have hml : ml ≤ 6 := by have := HML.out; have := HL.out; omega
      have HYM : Hid ((ints ys).length = ml) := by rw [Hid, ints_length, HML.out]
      go_wp2_with (first
        | (go_at_call 49; refine (HB.out 12 (by omega) (by omega) _ hC).mono ?_; rintro e w3 ⟨m, rfl, hm0, hm1, hC3, hg3⟩
           have ho3 := ho.apart hg3 (fun k h1 h2 => ho.neg hgl (by rw [h1, h2]))
           have hgg3 := gb_trans hg hg3)
        | (at_builtin; refine wpList_app1m rfl _ _ 23 rfl elI rfl ho3 (by show Value.slice (some ⟨w3.heap.size, 0, none⟩) 1 1 = _; simp) rfl hgg3.size _ HYM.out (by omega) (by omega) ?_; intro b6 c6 w6 ho6 hg6 hat6))
      have hg7 := gb_up hgg3 hg6 (fun b hb => (ho3.lt b hb).1)
      have hC6 := hC3.turn hg6 (ho3.neg hgl) (HUP.out _ hg7)
      go_roundg r
      case measure => omega
      case rel =>
        refine ⟨r, ys ++ [_], rfl, by go_num, by rw [Hid, List.length_append]; have := HL.out; simp; omega, (fun z hz => ?_), by rw [ints_append]; exact ho6, hC6, hg7⟩
        rcases List.mem_append.1 hz with hz | hz
        · exact HY.out z hz
        · rw [List.mem_singleton] at hz
          subst hz
          omega
    · obtain rfl : q = 0 := by omega
      go_wp2_with fail
      go_ret
      exact ⟨ys, _, by have := HL.out; omega, HY.out, rfl, ho, hC, hg⟩

set_option maxHeartbeats 1000000 in
theorem s_MakeRuns (vb : Value) (xs : List Int) (hxb : ∀ x ∈ xs, 0 ≤ x ∧ x ≤ 255) (hl : xs.length ≤ 1048576) (n : Nat) (hn : n ≤ 1000) (w : World) (h : Rd w vb (bytesV xs)) :
    Calls Tryz.prog 23 #[vb, .int .i64 n] w fun e w' => ∃ (ys : List Int) (v : Value), ys.length ≤ 6 ∧ (∀ y ∈ ys, 1 ≤ y ∧ y ≤ 12) ∧ e = .returned v ∧ Rd w' v (ints ys) ∧ Below w.heap.size w w' := by
  have HN := Lib.hid (s_l31New vb xs hxb hl n hn w h)
  have HL := Lib.hid (fun (g : Nat) (wx : World) (hx : Cur wx g vb xs) => s_l20Draw g vb xs hxb wx hx)
  clear hxb
  go_enter Tryz.func23, Tryz.ntmps23
  go_wp2_with fail
  refine HN.out.mono ?_
  rintro e w1 ⟨g, rfl, hg, hC1, hb1⟩
  go_wp2_with fail
  refine (HL.out g _ hC1).mono ?_
  rintro e w2 ⟨ys, vl, hyn, hyr, rfl, ho2, hC2, hg2⟩
  have hb2 := hb1.grown hg2 hb1.size (fun r hr => by cases hr; exact hg)
  have HYN := Lib.hid hyn
  have HYR := Lib.hid hyr
  clear hyn hyr
  go_wp2_with fail
  go_ret
  exact ⟨ys, _, HYN.out, HYR.out, rfl, ho2.rd, hb2⟩

theorem PermN.ins {n k : Nat} {ys : List Int} (h : PermN n ys) (hk : k ≤ n) : PermN (n + 1) (ys.take k ++ [(n : Int)] ++ ys.drop k) := by
  obtain ⟨h1, h2, h3⟩ := h
  have hp : (ys.take k ++ [(n : Int)] ++ ys.drop k).Perm ((n : Int) :: ys) := by
    have : (ys.take k ++ (n : Int) :: ys.drop k).Perm ((n : Int) :: (ys.take k ++ ys.drop k)) := List.perm_middle
    rw [List.take_append_drop] at this
    simpa using this
  refine ⟨by rw [hp.length_eq]; simp [h1], fun x hx => ?_, hp.nodup_iff.2 (List.nodup_cons.2 ⟨fun hm => by have := h2 _ hm; omega, h3⟩)⟩
  rcases List.mem_cons.1 (hp.mem_iff.1 hx) with e | e
  · subst e; omega
  · have := h2 x e; omega

set_option maxRecDepth 100000 in
set_option maxHeartbeats 4000000 in
theorem s_l02Order (g : Nat) (vb : Value) (xs : List Int) (hxb : ∀ x ∈ xs, 0 ≤ x ∧ x ≤ 255) (n : Nat) (hn : n ≤ 8) (w : World) (hC : Cur w g vb xs) :
    Calls Tryz.prog 74 #[.pointer (some ⟨g, 0, none⟩), .int .i64 n] w fun e w' => ∃ (ys : List Int) (v : Value), PermN n ys ∧ e = .returned v ∧ Own w' 3 w.heap.size v (ints ys) ∧ Cur w' g vb xs ∧ w.grownBy w' (some g) := by
  have HB := Lib.hid (fun (n : Int) (h1 : 1 ≤ n) (h2 : n ≤ 1000000000) (wx : World) (hx : Cur wx g vb xs) => s_l01Below g vb xs hxb n h1 h2 wx hx)
  have hgl := hC.lt
  have HUP := Lib.hid (fun (w6 : World) (hg : w.grownBy w6 (some g)) => hC.up hg)
  clear hxb
  go_enter Tryz.func74, Tryz.ntmps74
  go_wp2_with fail
  go_loopg [5, 6] n (fun gq vl k wr => ∃ (q : Nat) (ys : List Int) (ap : Addr) (cp : Nat), gq = n - q ∧ q ≤ n ∧ k = .int .i64 q ∧ vl = .slice (some ap) q cp ∧ Hid (PermN q ys) ∧ Own wr 3 w.heap.size (.slice (some ap) q cp) (ints ys) ∧ Cur wr g vb xs ∧ w.grownBy wr (some g))
  case atStart => exact ⟨0, [], _, 0, rfl, Nat.zero_le _, rfl, rfl, by (refine ⟨rfl, ?_, List.nodup_nil⟩; intro x hx; cases hx), Own.lit0 w 3 (Nat.le_refl _), hC.alloc _, gb_alloc (World.grownBy.refl _ _) _⟩
  case round =>
    clear hC
    obtain ⟨q, ys, ap, cp, hgq, hqn, rfl, rfl, HP, ho, hC, hg⟩ := hrel
    by_cases hlt : q < n
    · go_wp2_with fail
      refine (HB.out ((q : Int) + 1) (by omega) (by omega) _ hC).mono ?_
      rintro e w3 ⟨m, rfl, hm0, hm1, hC3, hg3⟩
      obtain ⟨j, rfl⟩ := Int.eq_ofNat_of_zero_le hm0
      have hj : j ≤ q := by omega
      have ho3 := ho.apart hg3 (fun k h1 h2 => ho.neg hgl (by rw [h1, h2]))
      have hgg3 := gb_trans hg hg3
      have hLq : ys.length = q := HP.out.1
      have HL := Lib.hid hLq
      have hsb := hgg3.size
      obtain ⟨ao, co, hfo, hco, hco2⟩ := ho3.rd.form
      simp only [Value.slice.injEq] at hfo
      obtain ⟨hf1, hf2, rfl⟩ := hfo
      have hcq : q ≤ cp := by rw [hf2]; exact hco
      have hrT : Rd w3 (.slice (some ap) j cp) (ints (ys.take j)) := by rw [← ints_take]; exact ho3.rd.take hj
      have hrC : Rd w3 (.slice (if cp = j then some ap else some (ap.add j)) (q - j) (cp - j)) (ints (ys.drop j)) := by rw [← ints_drop]; exact ho3.rd.cut hj
      have HT1 : Hid ((ints (ys.take j)).length = j) := by rw [Hid, ints_length, List.length_take]; omega
      have HT2 : Hid ((ints (ys.drop j)).length = q - j) := by rw [Hid, ints_length, List.length_drop]; omega
      have HFIN : Hid (∀ (W : World) (b : Option Addr) (m' c' : Nat), Below w3.heap.size w3 W → Own W 3 w3.heap.size (.slice b m' c') (ints (ys.take j) ++ [.int .i64 (q : Int)] ++ ints (ys.drop j)) →
          PermN (q + 1) (ys.take j ++ [(q : Int)] ++ ys.drop j) ∧ m' = q + 1 ∧ (∃ p, b = some p) ∧ Own W 3 w.heap.size (.slice b m' c') (ints (ys.take j ++ [(q : Int)] ++ ys.drop j)) ∧ Cur W g vb xs ∧ w.grownBy W (some g)) := fun W b m' c' hW hO => by
        have hP2 := HP.out.ins hj
        have hO2 : Own W 3 w.heap.size (.slice b m' c') (ints (ys.take j ++ [(q : Int)] ++ ys.drop j)) := by
          have := hO.mono (B' := w.heap.size) hsb
          simpa [ints] using this
        obtain ⟨a9, m9, c9, e9, h9, _, _⟩ := hO2.rd.formN
        simp only [Value.slice.injEq] at e9
        obtain ⟨rfl, rfl, rfl⟩ := e9
        have hm : m' = q + 1 := by rw [h9.out]; exact hP2.1
        obtain ⟨p, hp⟩ := hO2.some_of (by rw [ints_length, hP2.1]; omega)
        exact ⟨hP2, hm, ⟨p, hp⟩, hO2, hC3.below hW, gb_below hgg3 hW⟩
      have i1 : (j : Int) ≤ (cp : Int) := by omega
      have i2 : (j : Int) ≤ (q : Int) := by omega
      clear hf1 hf2 hLq hm0 hm1 HP ho ho3 hC hg hg3 hgg3 hco
      go_wp2_with (first
        | (at_builtin; (refine wpList_copy (B := w3.heap.size) rfl _ _ 23 rfl elI hrT rfl rfl (oneCell_ints1 _) (Nat.le_refl _) _ HT1.out (by omega) (by omega) ?_); intro b1 c1 w1 ho1 hb1)
        | (at_builtin; refine wpList_app1m rfl _ _ 23 rfl elI rfl ho1 (by show Value.slice (some ⟨w1.heap.size, 0, none⟩) 1 1 = _; simp) rfl hb1.size _ HT1.out (by omega) (by omega) ?_; intro b2 c2 w2 ho2 hg2 hat2; have hb2 := hb1.grown hg2 hb1.size (fun r hr => (ho1.lt r hr).1))
        | (at_builtin; refine wpList_appn rfl _ _ 23 rfl elI ho2 (hrC.below hb2) rfl (by first | rfl | simp) (oneCell_ints1 _) hb2.size (q + 1) (by rw [List.length_append, HT1.out, HT2.out]; simp; omega) (by omega) (by omega) ?_; intro b3 c3 w4 ho4 hg4 hat4; have hb4 := hb2.grown hg4 hb2.size (fun r hr => (ho2.lt r hr).1)))
      all_goals
        obtain ⟨f1, f2, ⟨p, f3⟩, f4, f5, f6⟩ := HFIN.out _ _ _ _ hb4 ho4
        subst f3
        go_roundg (n - (q + 1))
        case measure => omega
        case rel => exact ⟨q + 1, _, p, _, rfl, hlt, by go_num, rfl, f1, f4, f5, f6⟩
    · obtain rfl : q = n := by omega
      go_wp2_with fail
      go_ret
      exact ⟨ys, _, HP.out, rfl, ho, hC, hg⟩

set_option maxHeartbeats 1000000 in
theorem s_MakeOrder (vb : Value) (xs : List Int) (hxb : ∀ x ∈ xs, 0 ≤ x ∧ x ≤ 255) (hl : xs.length ≤ 1048576) (n : Nat) (hn : n ≤ 1000) (m : Nat) (hm : m ≤ 8) (w : World) (h : Rd w vb (bytesV xs)) :
    Calls Tryz.prog 22 #[vb, .int .i64 n, .int .i64 m] w fun e w' => ∃ (ys : List Int) (v : Value), PermN m ys ∧ e = .returned v ∧ Rd w' v (ints ys) ∧ Below w.heap.size w w' := by
  have HN := Lib.hid (s_l31New vb xs hxb hl n hn w h)
  have HL := Lib.hid (fun (g : Nat) (wx : World) (hx : Cur wx g vb xs) => s_l02Order g vb xs hxb m hm wx hx)
  clear hxb
  go_enter Tryz.func22, Tryz.ntmps22
  go_wp2_with fail
  refine HN.out.mono ?_
  rintro e w1 ⟨g, rfl, hg, hC1, hb1⟩
  go_wp2_with fail
  refine (HL.out g _ hC1).mono ?_
  rintro e w2 ⟨ys, vl, hyn, rfl, ho2, hC2, hg2⟩
  have hb2 := hb1.grown hg2 hb1.size (fun r hr => by cases hr; exact hg)
  have HYN := Lib.hid hyn
  clear hyn
  go_wp2_with fail
  go_ret
  exact ⟨ys, _, HYN.out, rfl, ho2.rd, hb2⟩

end Go.Proofs.YtggblfnajeikjaaGreatDoor

namespace Go.Proofs.YtggblfnajeikjaaGreatDoor
open Go.RowKit
set_option linter.unusedVariables false
set_option linter.unusedSimpArgs false

/-- A network of neighbours is drawn. -/
def RetPrim (g : Nat) (vb : Value) (xs : List Int) (w : World) (e : Ending) (w' : World) : Prop :=
  ∃ (n : Nat) (xss : List (List Int)) (v : Value), 2 ≤ n ∧ n ≤ 5 ∧ xss.length ≤ 13 ∧ (∀ r ∈ xss, netRow n r = true) ∧ e = .returned (.agg #[.int .i64 n, v]) ∧ Own2 w' 23 3 (w.heap.size + 1) w'.heap.size v xss ∧ Cur w' g vb xs ∧ w.grownBy w' (some g)
theorem Own2.appq {w w' : World} {EO E B T : Nat} {v v' : Value} {rows rows' : List Value} {xss' : List (List Int)} (hr : RowsOwn w E B T rows' xss') (ho : Own w EO B v rows) (hne : EO ≠ E) (hg : w.grownBy w' v.ownBlock) (ho' : Own w' EO B v' rows') (hT : T ≤ w'.heap.size) : Own2 w' EO E B w'.heap.size v' xss' :=
  ⟨rows', ho', fun k hk => (ho'.lt k hk).2, (hr.outer hg ho hne).mono (Nat.le_refl _) hT⟩

set_option maxRecDepth 100000 in
set_option maxHeartbeats 4000000 in
theorem s_l05Primitive (g : Nat) (vb : Value) (xs : List Int) (hxb : ∀ x ∈ xs, 0 ≤ x ∧ x ≤ 255) (w : World) (hC : Cur w g vb xs) :
    Calls Tryz.prog 55 #[.pointer (some ⟨g, 0, none⟩)] w (RetPrim g vb xs w) := by
  have HB := Lib.hid (fun (n : Int) (h1 : 1 ≤ n) (h2 : n ≤ 1000000000) (wx : World) (hx : Cur wx g vb xs) => s_l01Below g vb xs hxb n h1 h2 wx hx)
  clear hxb
  have hgl := hC.lt
  have HUP := Lib.hid (fun (w6 : World) (hg : w.grownBy w6 (some g)) => hC.up hg)
  go_enter Tryz.func55, Tryz.ntmps55
  go_wp2_with fail
  refine (HB.out 4 (by omega) (by omega) _ (hC.alloc _)).mono ?_
  rintro e w1 ⟨x, rfl, hx0, hx1, hC1, hg1⟩
  obtain ⟨n, hn⟩ : ∃ n : Nat, 2 + x = n := ⟨(2 + x).toNat, by omega⟩
  have hg0 : w.heap.size ≠ g := by omega
  have hgg1 : w.grownBy w1 (some g) := gb_trans (gb_alloc (World.grownBy.refl _ _) _) hg1
  have hA1 := (hg1.block w.heap.size (by simp) (fun e => hg0 (Option.some.inj e))).trans (heap_alloc_new w (.cells #[.int .i64 0, .slice none 0 0] 30))
  have hz1 := box_ltp hA1
  have hgw1 := hC1.lt
  obtain ⟨bx, hbx⟩ : ∃ bx, w1.heap.size = bx := ⟨_, rfl⟩
  obtain ⟨w2, hw2⟩ : ∃ w2, w1.alloc (.cells #[.int .i64 n, .slice none 0 0] 30) = w2 := ⟨_, rfl⟩
  have hX2 : w2.heap[bx]? = some (.cells #[.int .i64 n, .slice none 0 0] 30 (0, 0)) := by rw [← hw2, ← hbx]; exact heap_alloc_new w1 _
  have hbl2 : Below w1.heap.size w1 w2 := by rw [← hw2]; exact (Below.refl _ _).alloc (Nat.le_refl _) _
  have hC2 := hC1.below hbl2
  have hgg2 := gb_below hgg1 hbl2
  have hA2 := (hbl2.block _ hz1).trans hA1
  have hz2 : bx + 1 ≤ w2.heap.size := by rw [← hw2, ← hbx]; simp
  have hzb : w.heap.size < bx := by omega
  have hgbx : g < bx := by omega
  have hn1 : 2 ≤ n ∧ n ≤ 5 := by omega
  have HW2 := Lib.hid hw2
  have HN := Lib.hid hn
  have HBX := Lib.hid hbx
  clear hw2 hbl2 hA1 hz1 hC1 hg1 hgg1 hgw1 hn hbx hC
  go_wp2_with fail
  rw [HN.out, HW2.out, HBX.out]
  refine (HB.out 14 (by omega) (by omega) _ hC2).mono ?_
  rintro e w3 ⟨y, rfl, hy0, hy1, hC3, hg3⟩
  obtain ⟨k0, rfl⟩ := Int.eq_ofNat_of_zero_le hy0
  have hX3 := (hg3.block bx (by omega) (fun e => by injection e; omega)).trans hX2
  have hA3 := (hg3.block w.heap.size (by omega) (fun e => hg0 (Option.some.inj e))).trans hA2
  have hgg3 := gb_trans hgg2 hg3
  have hz3 : bx + 1 ≤ w3.heap.size := Nat.le_trans hz2 hg3.size
  clear hX2 hA2 hC2 hgg2 hg3 hz2
  have hk0 : k0 ≤ 13 := by omega
  clear hy0 hy1
  go_wp2_with fail
  go_loopg [4] k0 (fun gq k wr => ∃ (q : Nat) (xss : List (List Int)) (vp : Value), gq = q ∧ k = .int .i64 q ∧ Hid (xss.length + q ≤ 13) ∧ Hid (∀ r ∈ xss, netRow n r = true) ∧ Hid (wr.heap[bx]? = some (.cells #[.int .i64 n, vp] 30 (0, 0))) ∧ Hid (wr.heap[w.heap.size]? = some (.cells #[.int .i64 0, .slice none 0 0] 30 (0, 0))) ∧ Own2 wr 23 3 (bx + 1) wr.heap.size vp xss ∧ Cur wr g vb xs ∧ w.grownBy wr (some g))
  case atStart => exact ⟨k0, [], _, rfl, rfl, by simpa [Hid] using hk0, (fun r hr => by cases hr), hX3, hA3, Own2.nil _ _ _ _ _, hC3, hgg3⟩
  case round =>
    clear hX3 hA3 hC3 hgg3 hz3
    obtain ⟨q, xss, vp, hgq, rfl, HL, HR, HX, HA, ho, hC, hg⟩ := hrel
    obtain ⟨ap, cp, rfl, _, _⟩ := ho.form
    have c0 := box_cell HX.out 0
    have c1 := box_cell HX.out 1
    by_cases hq0 : 0 < q
    · obtain ⟨r, rfl⟩ : ∃ r, q = r + 1 := ⟨q - 1, by omega⟩
      have d0 : decide (((r + 1 : Nat) : Int) > 0) = true := by simp
      have hr13 : r ≤ 13 := by have := HL.out; omega
      go_wp2_with fail
      refine (HB.out ((n : Int) - 1) (by omega) (by omega) _ hC).mono ?_
      rintro e w4 ⟨i, rfl, hi0, hi1, hC4, hg4⟩
      have hbxl : bx < wr.heap.size := box_lt HX.out
      have ho4 := (ho.apartp hg4 (fun q hq => by cases hq; exact .inl (by omega))).mono (Nat.le_refl _) hg4.size
      have hgg4 := gb_trans hg hg4
      have hX4 := (hg4.block bx hbxl (fun e => by injection e; omega)).trans HX.out
      have hA4 := (hg4.block w.heap.size (by omega) (fun e => hg0 (Option.some.inj e))).trans HA.out
      have hz4 := hg4.size
      obtain ⟨rows, hov, hT, hrows⟩ := ho4
      have hrl : rows.length ≤ 13 := by have := hrows.1; have := HL.out; omega
      have hml := hov.rd.form
      obtain ⟨ao, co, hfo, _, _⟩ := hml
      simp only [Value.slice.injEq] at hfo
      obtain ⟨hf1, hf2, hf3⟩ := hfo
      clear hf1 hf3
      obtain ⟨mo, hmo⟩ : ∃ mo, rows.length = mo := ⟨_, rfl⟩
      have hxl : xss.length = mo := by omega
      rw [hxl] at hov hX4
      rw [hmo] at hrl
      have HMO := Lib.hid hmo
      have e0 := box_cell hX4 0
      have e1 := box_cell hX4 1
      have hovA := fun o => hov.alloc o
      have step : ∀ (b6 : Option Addr) (c6 : Nat) (w6 : World), Own w6 23 (bx + 1) (.slice b6 (mo + 1) c6) (rows ++ [.slice (some ⟨w4.heap.size, 0, none⟩) 2 2]) → (w4.alloc (.cells #[.int .i64 i, .int .i64 (i + 1)] 3)).grownBy w6 (Value.slice ap mo cp).ownBlock →
          w6.cell? ⟨bx, 1, none⟩ = some (.slice ap mo cp) ∧ w6.frozen? ⟨bx, 1, none⟩ = false ∧ Hid (∀ r ∈ xss ++ [[i, i + 1]], netRow n r = true) ∧ Hid ((w6.setCell ⟨bx, 1, none⟩ (.slice b6 (mo + 1) c6)).heap[bx]? = some (.cells #[.int .i64 n, .slice b6 (mo + 1) c6] 30 (0, 0))) ∧ Hid ((w6.setCell ⟨bx, 1, none⟩ (.slice b6 (mo + 1) c6)).heap[w.heap.size]? = some (.cells #[.int .i64 0, .slice none 0 0] 30 (0, 0))) ∧
          Own2 (w6.setCell ⟨bx, 1, none⟩ (.slice b6 (mo + 1) c6)) 23 3 (bx + 1) (w6.setCell ⟨bx, 1, none⟩ (.slice b6 (mo + 1) c6)).heap.size (.slice b6 (mo + 1) c6) (xss ++ [[i, i + 1]]) ∧ Cur (w6.setCell ⟨bx, 1, none⟩ (.slice b6 (mo + 1) c6)) g vb xs ∧ w.grownBy (w6.setCell ⟨bx, 1, none⟩ (.slice b6 (mo + 1) c6)) (some g) := fun b6 c6 w6 ho6 hg6 => by
        have hgA := gb_alloc hgg4 (.cells #[.int .i64 i, .int .i64 (i + 1)] 3)
        have hovA := hov.alloc (.cells #[.int .i64 i, .int .i64 (i + 1)] 3)
        have hrowA := (own_pair (B := bx + 1) (heap_alloc_new w4 (.cells #[.int .i64 i, .int .i64 (i + 1)] 3)) (by omega))
        have hR1 := (hrows.alloc (.cells #[.int .i64 i, .int .i64 (i + 1)] 3)).snoc (T' := w4.heap.size + 1) hrowA (fun g hg => by
          have : w4.heap.size = g := Option.some.inj hg
          omega) (by omega)
        have hz6 := hg6.size
        simp at hz6
        have ho7 := Own2.appq hR1 hovA (by decide) hg6 ho6 (by omega)
        have hg7 := gb_up hgA hg6 (fun b hb => by have := (hovA.lt b hb).1; omega)
        have hC7 := (hC4.alloc (.cells #[.int .i64 i, .int .i64 (i + 1)] 3)).turn hg6 (fun e => by have := (hovA.lt g e).1; omega) (HUP.out _ hg7)
        have hne6 : ∀ k, k ≤ bx → some k ≠ (Value.slice ap mo cp).ownBlock := fun k hk e => by have := (hovA.lt k e.symm).1; omega
        have hX6 : w6.heap[bx]? = _ := (hg6.block bx (by simp; omega) (hne6 bx (Nat.le_refl _))).trans ((Below.heap_alloc _ _ _ (by omega)).trans hX4)
        have hA6 : w6.heap[w.heap.size]? = _ := (hg6.block w.heap.size (by simp; omega) (hne6 _ (by omega))).trans ((Below.heap_alloc _ _ _ (by omega)).trans hA4)
        have hgs : w6.grownBy (w6.setCell ⟨bx, 1, none⟩ (.slice b6 (mo + 1) c6)) (some bx) := ⟨rfl, rfl, rfl, by simp, fun k _ hk => heap_setCell_other w6 ⟨bx, 1, none⟩ k _ (fun e => hk (by rw [e]))⟩
        have hg8 := gb_up hg7 hgs (fun b hb => by cases hb; omega)
        refine ⟨box_cell hX6 1, frozen_of_row w6 bx 1 _ _ hX6, fun z hz => ?_, heap_setCell_same w6 bx 1 _ _ _ hX6, (heap_setCell_other w6 ⟨bx, 1, none⟩ _ _ (by show w.heap.size ≠ bx; omega)).trans hA6, (ho7.apartp hgs (fun q hq => by cases hq; exact .inl (by omega))).mono (Nat.le_refl _) (by simp), hC7.turn hgs (fun e => by injection e; omega) (HUP.out _ hg8), hg8⟩
        rcases List.mem_append.1 hz with hz | hz
        · exact HR.out z hz
        · rw [List.mem_singleton] at hz
          subst hz
          exact netRow_mk ⟨hi0, by omega⟩ ⟨by omega, by omega⟩ (by omega)
      have STEP := Lib.hid step
      have hB6 : bx + 1 ≤ (w4.alloc (.cells #[.int .i64 i, .int .i64 (i + 1)] 3)).heap.size := by simp; omega
      have hm6 : mo ≤ 13 := hrl
      have HLE : Hid ((xss ++ [[i, i + 1]]).length + r ≤ 13) := by have := HL.out; rw [Hid, List.length_append, List.length_singleton]; omega
      clear step hX4 hA4 hrows ho hC hC4 hg hg4 hf2 hxl hmo HX HA hgg4
      go_wp2_with (at_builtin; refine wpList_app1m rfl _ _ 28 rfl elII rfl (hovA _) (by show Value.slice (some ⟨w4.heap.size + 1, 0, none⟩) 1 1 = _; simp) rfl hB6 _ HMO.out (by omega) (by omega) ?_; intro b6 c6 w6 ho6 hg6 hat6; obtain ⟨q1, q2, q3, q4, q5, q6, q7, q8⟩ := STEP.out _ _ _ ho6 hg6)
      go_roundg r
      case measure => omega
      case rel => exact ⟨r, _, _, rfl, by go_num, HLE, q3, q4, q5, q6, q7, q8⟩
    · obtain rfl : q = 0 := by omega
      have a0 := box_cell HA.out 0
      have a1 := box_cell HA.out 1
      have f0 := frozen_of_row wr w.heap.size 0 _ _ HA.out
      have f1 := frozen_of_row wr w.heap.size 1 _ _ HA.out
      have e1 := heap_setCell_same wr w.heap.size 0 _ _ (.int .i64 n) HA.out
      have e2 := heap_setCell_same _ w.heap.size 1 _ _ (.slice ap xss.length cp) e1
      have hgz : wr.grownBy ((wr.setCell ⟨w.heap.size, 0, none⟩ (.int .i64 n)).setCell ⟨w.heap.size, 1, none⟩ (.slice ap xss.length cp)) (some w.heap.size) :=
        ⟨rfl, rfl, rfl, by simp, fun i _ hi => (heap_setCell_other _ ⟨w.heap.size, 1, none⟩ i _ (fun e => hi (by rw [e]))).trans (heap_setCell_other wr ⟨w.heap.size, 0, none⟩ i _ (fun e => hi (by rw [e])))⟩
      have hz9 : w.heap.size < bx + 1 := by omega
      have hoz := (ho.apartp hgz (fun q hq => by cases hq; exact .inl hz9)).mono (show w.heap.size + 1 ≤ bx + 1 by omega) hgz.size
      have hgf := gb_up hg hgz (fun b hb => by cases hb; exact Nat.le_refl _)
      have hCz := hC.turn hgz (fun e => hg0 (Option.some.inj e)) (HUP.out _ hgf)
      have ea : (((#[Value.int .i64 0, .slice none 0 0] : Array Value).setIfInBounds 0 (.int .i64 n)).setIfInBounds 1 (.slice ap xss.length cp)) = #[.int .i64 n, .slice ap xss.length cp] := rfl
      rw [ea] at e2
      have q0 := box_cell e2 0
      have q1 := box_cell e2 1
      clear e1 e2 ea
      go_wp2_with fail
      exact bodyPost_ret (v := .agg #[.int .i64 n, .slice ap xss.length cp]) (by simp [results, Tryz.results55, go_sem, q0, q1]) rfl ⟨n, xss, _, hn1.1, hn1.2, by have := HL.out; omega, HR.out, rfl, hoz, hCz, hgf⟩

set_option maxHeartbeats 1000000 in
theorem s_MakePrimitive (vb : Value) (xs : List Int) (hxb : ∀ x ∈ xs, 0 ≤ x ∧ x ≤ 255) (hl : xs.length ≤ 1048576) (n : Nat) (hn : n ≤ 1000) (w : World) (h : Rd w vb (bytesV xs)) :
    Calls Tryz.prog 9 #[vb, .int .i64 n] w fun e w' => ∃ (n : Nat) (xss : List (List Int)) (v : Value), 2 ≤ n ∧ n ≤ 5 ∧ xss.length ≤ 13 ∧ netOk n xss = true ∧ e = .returned (.agg #[.int .i64 n, v]) ∧ Rd2 w' v xss ∧ Below w.heap.size w w' := by
  have HN := Lib.hid (fun (wx : World) (hx : Rd wx vb (bytesV xs)) => s_l31New vb xs hxb hl n hn wx hx)
  have HL := Lib.hid (fun (g : Nat) (wx : World) (hx : Cur wx g vb xs) => s_l05Primitive g vb xs hxb wx hx)
  clear hxb
  have hbA : Below w.heap.size w (w.alloc (.cells #[.int .i64 0, .slice none 0 0] 30)) := (Below.refl _ _).alloc (Nat.le_refl _) _
  go_enter Tryz.func9, Tryz.ntmps9
  go_wp2_with fail
  refine (HN.out _ (h.alloc _)).mono ?_
  rintro e w1 ⟨g, rfl, hg, hC1, hb1⟩
  have hg0 : w.heap.size ≠ g := by simp at hg; omega
  have hA1 := (hb1.block w.heap.size (by simp)).trans (heap_alloc_new w (.cells #[.int .i64 0, .slice none 0 0] 30))
  have hz1 := box_ltp hA1
  have hbb1 := hbA.trans (hb1.mono hbA.size)
  go_wp2_with fail
  refine (HL.out g _ hC1).mono ?_
  rintro e w3 ⟨n2, xss, vl, h1, h6, h12, hr, rfl, ho3, hC2, hg2⟩
  obtain ⟨a3, c3, rfl, _, _⟩ := ho3.form
  have hA3 := (hg2.block w.heap.size hz1 (fun e => hg0 (Option.some.inj e))).trans hA1
  have hb2 := hbb1.grown hg2 hbb1.size (fun r hr => by cases hr; simp at hg; omega)
  have c0 := cell_of_row w3 w.heap.size 0 _ _ (0, 0) hA3
  have c1 := cell_of_row w3 w.heap.size 1 _ _ (0, 0) hA3
  have f0 := frozen_of_row w3 w.heap.size 0 _ _ hA3
  have f1 := frozen_of_row w3 w.heap.size 1 _ _ hA3
  go_wp2_with fail
  have e1 := heap_setCell_same w3 w.heap.size 0 _ _ (.int .i64 n2) hA3
  have e2 := heap_setCell_same _ w.heap.size 1 _ _ (.slice a3 xss.length c3) e1
  obtain ⟨wz, hwz⟩ : ∃ wz, (w3.setCell ⟨w.heap.size, 0, none⟩ (.int .i64 n2)).setCell ⟨w.heap.size, 1, none⟩ (.slice a3 xss.length c3) = wz := ⟨_, rfl⟩
  have hgz : w3.grownBy wz (some w.heap.size) := by
    rw [← hwz]
    exact ⟨rfl, rfl, rfl, by simp, fun i _ hi => (heap_setCell_other _ ⟨w.heap.size, 1, none⟩ i _ (fun e => hi (by rw [e]))).trans (heap_setCell_other w3 ⟨w.heap.size, 0, none⟩ i _ (fun e => hi (by rw [e])))⟩
  rw [hwz] at e2 ⊢
  have ea : (((#[Value.int .i64 0, .slice none 0 0] : Array Value).setIfInBounds 0 (.int .i64 n2)).setIfInBounds 1 (.slice a3 xss.length c3)) = #[.int .i64 n2, .slice a3 xss.length c3] := rfl
  rw [ea] at e2
  have q0 := box_cell e2 0
  have q1 := box_cell e2 1
  have hz9 : w.heap.size < w1.heap.size + 1 := by omega
  have hoz := ho3.apartp hgz (fun q hq => by cases hq; exact .inl hz9)
  exact bodyPost_ret (v := .agg #[.int .i64 n2, .slice a3 xss.length c3]) (by simp [results, Tryz.results9, go_sem, q0, q1]) rfl ⟨n2, xss, _, h1, h6, h12, by simp [netOk, inB_iff]; exact ⟨⟨⟨by omega, by omega⟩, by omega⟩, hr⟩, rfl, hoz.rd, hb2.grown hgz hb2.size (fun r hr => by cases hr; exact Nat.le_refl _)⟩

end Go.Proofs.YtggblfnajeikjaaGreatDoor

namespace Go.Proofs.YtggblfnajeikjaaGreatDoor
open Go.RowKit
set_option linter.unusedVariables false
set_option linter.unusedSimpArgs false

set_option maxRecDepth 100000 in
set_option maxHeartbeats 4000000 in
theorem s_l24Draw (g : Nat) (vb : Value) (xs : List Int) (hxb : ∀ x ∈ xs, 0 ≤ x ∧ x ≤ 255) (w : World) (hC : Cur w g vb xs) :
    Calls Tryz.prog 76 #[.pointer (some ⟨g, 0, none⟩)] w fun e w' => ∃ (ys : List Int) (v : Value), ys.length ≤ 11 ∧ (∀ y ∈ ys, 0 ≤ y ∧ y ≤ 36) ∧ e = .returned v ∧ Own w' 3 w.heap.size v (ints ys) ∧ Cur w' g vb xs ∧ w.grownBy w' (some g) := by
  have HB := Lib.hid (fun (n : Int) (h1 : 1 ≤ n) (h2 : n ≤ 1000000000) (wx : World) (hx : Cur wx g vb xs) => s_l01Below g vb xs hxb n h1 h2 wx hx)
  have HPK := Lib.hid (fun (vl : Value) (wx : World) (hx : Cur wx g vb xs) (hr : Rd wx vl (ints [0, 0, 0, 1, 2, 5, 9])) (hne : vl.ownBlock ≠ some g) => s_l01Pick g vb xs hxb vl [0, 0, 0, 1, 2, 5, 9] (by simp) (by simp) wx hx hr hne)
  have hgl := hC.lt
  have HUP := Lib.hid (fun (w6 : World) (hg : w.grownBy w6 (some g)) => hC.up hg)
  clear hxb
  go_enter Tryz.func76, Tryz.ntmps76
  go_wp2_with fail
  refine (HB.out 12 (by omega) (by omega) _ (hC.alloc _)).mono ?_
  rintro e w1 ⟨x, rfl, hx0, hx1, hC1, hg1⟩
  obtain ⟨n, rfl⟩ := Int.eq_ofNat_of_zero_le hx0
  have hg0 : w.grownBy w1 (some g) := gb_trans (gb_alloc (World.grownBy.refl _ _) _) hg1
  have ho0 : Own w1 3 w.heap.size (.slice (some ⟨w.heap.size, 0, none⟩) 0 0) (ints []) := (Own.lit0 w 3 (Nat.le_refl _)).apart hg1 (fun k h1 h2 => (Own.lit0 w 3 (Nat.le_refl _)).neg hgl (by rw [h1, h2]))
  have hn : n ≤ 11 := by omega
  clear hC hg1 hx0 hx1
  go_wp2_with fail
  go_loopg [3, 4, 5] n (fun gq vl vt k wr => ∃ (q : Nat) (ys : List Int) (t : Int), gq = q ∧ k = .int .i64 q ∧ vt = .int .i64 t ∧ 3 ≤ t ∧ t + 3 * (q : Int) ≤ 36 ∧ Hid (ys.length + q = n) ∧ Hid (∀ y ∈ ys, 0 ≤ y ∧ y ≤ 36) ∧ Own wr 3 w.heap.size vl (ints ys) ∧ Cur wr g vb xs ∧ w.grownBy wr (some g))
  case atStart => exact ⟨n, [], 3, rfl, rfl, rfl, by omega, by omega, by simp [Hid], (fun y hy => by cases hy), ho0, hC1, hg0⟩
  case round =>
    clear hC1 ho0 hg0
    obtain ⟨q, ys, t, hgq, rfl, rfl, ht0, ht1, HL, HY, ho, hC, hg⟩ := hrel
    by_cases hq0 : 0 < q
    · obtain ⟨r, rfl⟩ : ∃ r, q = r + 1 := ⟨q - 1, by omega⟩
      have d0 : decide (((r + 1 : Nat) : Int) > 0) = true := by simp
      obtain ⟨al, ml, cl, rfl, HML, _, _⟩ := ho.rd.formN
      have hml : ml ≤ 11 := by have := HML.out; have := HL.out; omega
      have HYM : Hid ((ints ys).length = ml) := by rw [Hid, ints_length, HML.out]
      go_upto_region 7 with (go_at_call 49; refine (HB.out 4 (by omega) (by omega) _ hC).mono ?_; rintro e w2 ⟨x, rfl, hx0, hx1, hC2, hg2⟩)
      have ho2 := ho.apart hg2 (fun k h1 h2 => ho.neg hgl (by rw [h1, h2]))
      have hgg2 := gb_trans hg hg2
      have hsz2 := hgg2.size
      have hgw := hC2.lt
      obtain ⟨t2, ht2⟩ : ∃ t2, t + x = t2 := ⟨_, rfl⟩
      rw [ht2]
      have hb2 : 3 ≤ t2 ∧ t2 + 3 * (r : Int) ≤ 36 := by omega
      clear ht2 ht0 ht1 hC ho hg hg2
      have hbA : Below w2.heap.size w2 (w2.alloc (.cells #[.int .i64 0, .int .i64 0, .int .i64 0, .int .i64 1, .int .i64 2, .int .i64 5, .int .i64 9] 3)) := (Below.refl _ _).alloc (Nat.le_refl _) _
      have hCA := hC2.below hbA
      have hoA := ho2.below hbA
      have hggA := gb_below hgg2 hbA
      have hlit : Rd (w2.alloc (.cells #[.int .i64 0, .int .i64 0, .int .i64 0, .int .i64 1, .int .i64 2, .int .i64 5, .int .i64 9] 3)) (.slice (some ⟨w2.heap.size, 0, none⟩) 7 7) (ints [0, 0, 0, 1, 2, 5, 9]) := by
        have := (Own.lit w2 3 w2.heap.size #[.int .i64 0, .int .i64 0, .int .i64 0, .int .i64 1, .int .i64 2, .int .i64 5, .int .i64 9] (Nat.le_refl _) (by simp)).rd
        simpa [ints] using this
      have hneL : (Value.slice (some ⟨w2.heap.size, 0, none⟩) 7 7).ownBlock ≠ some g := fun e => by have : w2.heap.size = g := Option.some.inj e; omega
      go_wp2_with (first
        | (go_at_call 126; refine (HPK.out _ _ hCA hlit hneL).mono ?_; rintro e w3 ⟨m, hm, rfl, hC3, hg3⟩
           have hm1 : 0 ≤ m ∧ m ≤ 9 := by simp only [List.mem_cons, List.not_mem_nil, or_false] at hm; omega
           have ho3 := hoA.apart hg3 (fun k h1 h2 => hoA.neg hgl (by rw [h1, h2]))
           have hgg3 := gb_trans hggA hg3)
        | (at_builtin; refine wpList_app1m rfl _ _ 23 rfl elI rfl ho3 (by show Value.slice (some ⟨w3.heap.size, 0, none⟩) 1 1 = _; simp) rfl hgg3.size _ HYM.out (by omega) (by omega) ?_; intro b6 c6 w6 ho6 hg6 hat6))
      all_goals
        have hg7 := gb_up hgg3 hg6 (fun b hb => (ho3.lt b hb).1)
        have hC6 := hC3.turn hg6 (ho3.neg hgl) (HUP.out _ hg7)
        go_roundg r
        case measure => omega
        case rel =>
          refine ⟨r, ys ++ [_], t2, rfl, by go_num, rfl, hb2.1, hb2.2, by rw [Hid, List.length_append]; have := HL.out; simp; omega, (fun z hz => ?_), by rw [ints_append]; exact ho6, hC6, hg7⟩
          rcases List.mem_append.1 hz with hz | hz
          · exact HY.out z hz
          · rw [List.mem_singleton] at hz
            subst hz
            omega
    · obtain rfl : q = 0 := by omega
      go_wp2_with fail
      go_ret
      exact ⟨ys, _, by have := HL.out; omega, HY.out, rfl, ho, hC, hg⟩

set_option maxHeartbeats 1000000 in
theorem s_MakeTimes (vb : Value) (xs : List Int) (hxb : ∀ x ∈ xs, 0 ≤ x ∧ x ≤ 255) (hl : xs.length ≤ 1048576) (n : Nat) (hn : n ≤ 1000) (w : World) (h : Rd w vb (bytesV xs)) :
    Calls Tryz.prog 24 #[vb, .int .i64 n] w fun e w' => ∃ (ys : List Int) (v : Value), ys.length ≤ 11 ∧ (∀ y ∈ ys, 0 ≤ y ∧ y ≤ 36) ∧ e = .returned v ∧ Rd w' v (ints ys) ∧ Below w.heap.size w w' := by
  have HN := Lib.hid (s_l31New vb xs hxb hl n hn w h)
  have HL := Lib.hid (fun (g : Nat) (wx : World) (hx : Cur wx g vb xs) => s_l24Draw g vb xs hxb wx hx)
  clear hxb
  go_enter Tryz.func24, Tryz.ntmps24
  go_wp2_with fail
  refine HN.out.mono ?_
  rintro e w1 ⟨g, rfl, hg, hC1, hb1⟩
  go_wp2_with fail
  refine (HL.out g _ hC1).mono ?_
  rintro e w2 ⟨ys, vl, hyn, hyr, rfl, ho2, hC2, hg2⟩
  have hb2 := hb1.grown hg2 hb1.size (fun r hr => by cases hr; exact hg)
  have HYN := Lib.hid hyn
  have HYR := Lib.hid hyr
  clear hyn hyr
  go_wp2_with fail
  go_ret
  exact ⟨ys, _, HYN.out, HYR.out, rfl, ho2.rd, hb2⟩

end Go.Proofs.YtggblfnajeikjaaGreatDoor

namespace Go.Proofs.YtggblfnajeikjaaGreatDoor
open Go.RowKit
set_option linter.unusedVariables false
set_option linter.unusedSimpArgs false

set_option maxHeartbeats 400000 in
theorem same_c (v u : Value) (xs ys : List Int) (w : World) (hx : Rd w v (ints xs)) (hy : Rd w u (ints ys)) :
    Calls Tryz.prog 10 #[v, u] w (RetQ (.bool (eqI xs ys)) w) := by
  obtain ⟨a, c, rfl, h2, h3⟩ := hx.formi
  obtain ⟨b, d, rfl, h4, h5⟩ := hy.formi
  by_cases hl : xs.length = ys.length
  · have hL : ((xs.length : Int) != (ys.length : Int)) = false := by simp [hl]
    have HL := Lib.hid hl
    clear hl
    have hle : xs.length ≤ ys.length := by have := HL.out; omega
    go_enter Tryz.func10, Tryz.ntmps10
    go_wp2
    go_loopw [14] (fun i wr => ∃ k : Nat, k ≤ xs.length ∧ i = .int .i64 k ∧ (∀ (j : Nat) x y, j < k → xs[j]? = some x → ys[j]? = some y → x = y) ∧ Dr w wr) (fun i _ => xs.length - (intOf i).toNat)
    case atStart => exact ⟨0, Nat.zero_le _, rfl, fun j _ _ hj => by omega, Dr.refl _⟩
    case round =>
      obtain ⟨k, hk, rfl, hno, hw⟩ := hrel
      have HN := Lib.hid hno
      clear hno
      by_cases hlt : k < xs.length
      · obtain ⟨ad, x, rfl, hc, hxk⟩ := (hx.dr hw).int hlt
        obtain ⟨bd, y, rfl, hc2, hyk⟩ := (hy.dr hw).int (show k < ys.length by omega)
        have hlt2 : (k : Int) < (ys.length : Int) := by omega
        have hlt1 : (k : Int) < (xs.length : Int) := by omega
        by_cases e : x = y
        · have e1 : (x != y) = false := by simp [e]
          go_wp2
          go_roundw
          case rel => exact ⟨k + 1, by omega, by go_num, fun j p q hj hp hq => by
            by_cases ej : j = k
            · subst ej
              rw [hxk.out] at hp
              rw [hyk.out] at hq
              cases hp
              cases hq
              exact e
            · exact HN.out j p q (by omega) hp hq, hw⟩
          case measure => simp [intOf]; omega
        · have e1 : (x != y) = true := by simp [e]
          have HE := Lib.hid (eqI_no hxk.out hyk.out e)
          go_wp2
          go_ret
          exact ⟨ret_bool HE.out.symm, hw⟩
      · obtain rfl : k = xs.length := by omega
        have HE := Lib.hid (eqI_yes HL.out HN.out)
        go_wp2
        go_ret
        exact ⟨ret_bool HE.out.symm, hw⟩
  · have hL : ((xs.length : Int) != (ys.length : Int)) = true := by simp; omega
    have HE := Lib.hid (eqI_len hl)
    clear hl
    go_enter Tryz.func10, Tryz.ntmps10
    go_wp2
    go_ret
    exact ⟨ret_bool HE.out.symm, Dr.refl _⟩

end Go.Proofs.YtggblfnajeikjaaGreatDoor

namespace Go.Proofs.YtggblfnajeikjaaGreatDoor
open Go.RowKit
set_option linter.unusedVariables false
set_option linter.unusedSimpArgs false

theorem Chg.cell {B T : Nat} {w w' : World} (h : Chg B T w w') {p : Addr} (hp : p.block < w.heap.size) (hd : p.block < B ∨ T ≤ p.block) : w'.cell? p = w.cell? p := by
  have := h.block _ hp hd
  simp only [World.cell?, this]
theorem box_store (w : World) (x y : Value) (T : Nat) : ∃ w', Below w.heap.size w w' ∧ w'.cell? ⟨w.heap.size, 0, none⟩ = some x ∧ w'.cell? ⟨w.heap.size, 1, none⟩ = some y ∧
    w.alloc (.cells #[x, y] T) = w' := by
  refine ⟨_, ?_, ?_, ?_, rfl⟩
  · exact (Below.refl _ _).alloc (Nat.le_refl _) _
  · go_simp
  · go_simp

end Go.Proofs.YtggblfnajeikjaaGreatDoor

namespace Go.Proofs.YtggblfnajeikjaaGreatDoor
open Go.RowKit
set_option linter.unusedVariables false
set_option linter.unusedSimpArgs false

theorem tot_bnd {xss : List (List Int)} {B : Nat} (h : ∀ xs ∈ xss, xs.length ≤ B) : tot xss ≤ xss.length * B := by
  induction xss with
  | nil => simp [tot]
  | cons x t ih =>
    have h1 := ih (fun xs hx => h xs (List.mem_cons_of_mem _ hx))
    have h2 := h x (List.mem_cons_self ..)
    simp only [tot, List.foldr_cons, List.length_cons] at *
    rw [Nat.add_mul]
    omega
theorem netOk_I64' {N : Nat} {xss : List (List Int)} (hk : netOk (N : Int) xss = true) : I64ss xss ∧ SzOk xss := by
  obtain ⟨N', hN', h1, h8, h60⟩ := netOk_n hk
  have hr : ∀ xs ∈ xss, ∃ a b : Nat, xs = [(a : Int), (b : Int)] ∧ a < N ∧ b < N ∧ a ≠ b := fun xs hx => by
    obtain ⟨k, hx⟩ := List.getElem?_of_mem hx
    exact netOk_row hk hx
  refine ⟨fun xs hx y hy => ?_, by omega, ?_⟩
  · obtain ⟨a, b, rfl, ha, hb, _⟩ := hr xs hx
    have : y = (a : Int) ∨ y = (b : Int) := by simpa using hy
    unfold I64
    omega
  · have := tot_bnd (B := 2) (fun xs hx => by obtain ⟨a, b, rfl, _⟩ := hr xs hx; simp)
    omega
theorem toL (L : List UInt8) : (bstr L).toList = L := by rw [ByteArray.toList_eq]; simp [bstr]
theorem catNet (a b c d : List UInt8) (R : List UInt8) (h : R = [112, 97, 105, 114, 115, 32] ++ a ++ [32, 100, 101, 112, 116, 104, 32] ++ b ++ c) :
    bstr R = (⟨#[112, 97, 105, 114, 115, 32]⟩ : ByteArray) ++ bstr a ++ ⟨#[32, 100, 101, 112, 116, 104, 32]⟩ ++ bstr b ++ bstr c := by
  rw [h]
  show _ = bstr [112, 97, 105, 114, 115, 32] ++ bstr _ ++ bstr [32, 100, 101, 112, 116, 104, 32] ++ bstr _ ++ bstr _
  rw [bstr_app, bstr_app, bstr_app, bstr_app]
theorem catOrd (a b c : List UInt8) (R : List UInt8) (h : R = [107, 110, 111, 119, 110, 32] ++ a ++ [32, 114, 101, 115, 117, 108, 116, 115, 32] ++ b ++ [32, 105, 100, 108, 101, 32] ++ c) :
    bstr R = (⟨#[107, 110, 111, 119, 110, 32]⟩ : ByteArray) ++ bstr a ++ ⟨#[32, 114, 101, 115, 117, 108, 116, 115, 32]⟩ ++ bstr b ++ ⟨#[32, 105, 100, 108, 101, 32]⟩ ++ bstr c := by
  rw [h]
  show _ = bstr [107, 110, 111, 119, 110, 32] ++ bstr _ ++ bstr [32, 114, 101, 115, 117, 108, 116, 115, 32] ++ bstr _ ++ bstr [32, 105, 100, 108, 101, 32] ++ bstr _
  rw [bstr_app, bstr_app, bstr_app, bstr_app, bstr_app]
theorem catTest (a b : List UInt8) (R : List UInt8) (h : R = [104, 105, 100, 100, 101, 110, 32] ++ a ++ [32, 116, 101, 115, 116, 115, 32] ++ b) :
    bstr R = (⟨#[104, 105, 100, 100, 101, 110, 32]⟩ : ByteArray) ++ bstr a ++ ⟨#[32, 116, 101, 115, 116, 115, 32]⟩ ++ bstr b := by
  rw [h]
  show _ = bstr [104, 105, 100, 100, 101, 110, 32] ++ bstr _ ++ bstr [32, 116, 101, 115, 116, 115, 32] ++ bstr _
  rw [bstr_app, bstr_app, bstr_app]
theorem cat4 (a b c d : List UInt8) : bstr (a ++ b ++ c ++ d) = bstr a ++ bstr b ++ bstr c ++ bstr d := by rw [bstr_app, bstr_app, bstr_app]
theorem cat3 (a b c : List UInt8) : bstr (a ++ b ++ c) = bstr a ++ bstr b ++ bstr c := by rw [bstr_app, bstr_app]
theorem fab01 : fabLine [0, 1] = [115, 101, 116, 32, 48, 32, 112, 97, 115, 115, 101, 115] := by decide +kernel
theorem fab012 : fabLine [0, 1, 2] = [110, 111, 110, 101] := by decide +kernel
theorem i_Fab01 (W : World) (ht : Tab W) : Calls Tryz.prog 36 #[.slice (some ⟨W.heap.size, 0, none⟩) 2 2] (W.alloc (.cells #[.int .i64 0, .int .i64 1] 3)) fun e w' => e = .returned (.string ⟨#[115, 101, 116, 32, 48, 32, 112, 97, 115, 115, 101, 115]⟩) ∧ Below W.heap.size W w' := by
  have ho := Own.lit W 3 W.heap.size #[.int .i64 0, .int .i64 1] (Nat.le_refl _) (by simp)
  have hb : Below W.heap.size W (W.alloc (.cells #[.int .i64 0, .int .i64 1] 3)) := (Below.refl _ _).alloc (Nat.le_refl _) _
  refine (I_FabricLine _ _ [0, 1] (by simpa [ints] using ho.rd) (fun y hy => by simp at hy; unfold I64; omega) (by simp) (ht.below hb)).mono ?_
  rintro e w' ⟨rfl, h⟩
  exact ⟨by rw [fab01]; rfl, hb.trans (h.mono hb.size)⟩
theorem i_Fab012 (W : World) (ht : Tab W) : Calls Tryz.prog 36 #[.slice (some ⟨W.heap.size, 0, none⟩) 3 3] (W.alloc (.cells #[.int .i64 0, .int .i64 1, .int .i64 2] 3)) fun e w' => e = .returned (.string ⟨#[110, 111, 110, 101]⟩) ∧ Below W.heap.size W w' := by
  have ho := Own.lit W 3 W.heap.size #[.int .i64 0, .int .i64 1, .int .i64 2] (Nat.le_refl _) (by simp)
  have hb : Below W.heap.size W (W.alloc (.cells #[.int .i64 0, .int .i64 1, .int .i64 2] 3)) := (Below.refl _ _).alloc (Nat.le_refl _) _
  refine (I_FabricLine _ _ [0, 1, 2] (by simpa [ints] using ho.rd) (fun y hy => by simp at hy; unfold I64; omega) (by simp) (ht.below hb)).mono ?_
  rintro e w' ⟨rfl, h⟩
  exact ⟨by rw [fab012]; rfl, hb.trans (h.mono hb.size)⟩
theorem Rd2.formZ {w : World} {v : Value} {xss : List (List Int)} (h : Rd2 w v xss) : ∃ (a : Option Addr) (m c : Nat), v = .slice a m c ∧ Hid (m = xss.length) ∧ m ≤ c ∧ c ≤ 9223372036854775807 := by
  obtain ⟨a, c, h1, h2, h3⟩ := h.form
  exact ⟨a, _, c, h1, rfl, h2, h3⟩
set_option maxRecDepth 100000 in
set_option maxHeartbeats 16000000 in
theorem law_FnReports (w : World) (v : Value) (xs : List Int) (h : Rd w v (bytesV xs)) (hxb : ∀ n ∈ xs, 0 ≤ n ∧ n ≤ 255) (ht : TabE w) : Calls Tryz.prog 3 #[v] w (Law w) := by
  obtain ⟨ab, nb, cb, rfl, HNB, hn1, hn2⟩ := h.formB
  by_cases hl : nb ≤ 1048576
  case neg =>
    have hd : decide ((nb : Int) > 1048576) = true := by simp; omega
    go_enter Tryz.func3, Tryz.ntmps3
    go_wp2_with fail
    go_ret
    exact ⟨rfl, Below.refl _ _⟩
  have hl' : xs.length ≤ 1048576 := by have := HNB.out; omega
  have hd : decide ((nb : Int) > 1048576) = false := by simp; omega
  have HNear := Lib.hid (s_MakeNear _ xs hxb hl' 0 (by omega) w h)
  have HSo := Lib.hid (fun (W : World) (hW : Rd W (.slice ab nb cb) (bytesV xs)) => s_MakeSorting _ xs hxb hl' 20 (by omega) W hW)
  have HPr := Lib.hid (fun (W : World) (hW : Rd W (.slice ab nb cb) (bytesV xs)) => s_MakePrimitive _ xs hxb hl' 40 (by omega) W hW)
  have HOr := Lib.hid (fun (m : Nat) (hm : m ≤ 8) (W : World) (hW : Rd W (.slice ab nb cb) (bytesV xs)) => s_MakeOrder _ xs hxb hl' 60 (by omega) m hm W hW)
  have HRu := Lib.hid (fun (W : World) (hW : Rd W (.slice ab nb cb) (bytesV xs)) => s_MakeRuns _ xs hxb hl' 70 (by omega) W hW)
  have HTi := Lib.hid (fun (W : World) (hW : Rd W (.slice ab nb cb) (bytesV xs)) => s_MakeTimes _ xs hxb hl' 80 (by omega) W hW)
  clear hxb
  go_enter Tryz.func3, Tryz.ntmps3
  go_wp2_with fail
  refine HNear.out.mono ?_
  rintro e w1 ⟨l, vl, hl1, hl2, rfl, rl, bt⟩
  clear HNear
  obtain ⟨fi, hp0, hp1, hsz, hdash⟩ := rep_parse hl1 hl2
  have hdi := disL_I64 hl1
  have hD1 := fmt60 (xs := disL l) (by simp [disL])
  have hD2 := rep_dis hl1
  obtain ⟨al, nl, cl, rfl, HNL, _, _⟩ := rl.formN
  have HL12 := Lib.hid hl1
  have HDASH : Hid (bstr (numsB l) = (⟨#[45]⟩ : ByteArray) ↔ nl = 0) := by rw [Hid, hdash, HNL.out]
  have HP0 := Lib.hid hp0
  have HP1 := Lib.hid hp1
  have HFI := Lib.hid fi
  have HDI := Lib.hid hdi
  have HF := Lib.hid (fmt60 (xs := l) (by omega))
  have HD1 := Lib.hid hD1
  have HD2 := Lib.hid hD2
  clear hp0 hp1 hdash hl2 fi hdi hD1 hD2
  go_wp2_with fail
  refine (I_FormatNumbers w1 _ l rl HFI.out (by have := HL12.out; omega) (ht.tab.below bt)).mono ?_
  rintro e w2 ⟨rfl, b2⟩
  rw [HF.out]
  replace rl := rl.below b2
  replace bt := bt.trans (b2.mono bt.size)
  go_wp2_with fail
  refine (I_ParseNumbers w2 (bstr (numsB l)) (by simp only [maxLen]; omega) (by omega) (ht.below bt)).mono ?_
  rintro e w3 ⟨vk, rfl, ok, b3⟩
  rw [HP1.out]
  rw [HP0.out] at ok
  have rk := ok.rd
  obtain ⟨ak, nk, ck, rfl, HNK, _, _⟩ := rk.formN
  replace rl := rl.below b3
  replace bt := bt.trans (b3.mono bt.size)
  clear ok
  go_wp2_with fail
  refine (HSo.out _ (h.below bt)).mono ?_
  rintro e w4 ⟨N, P, Q, b, vx, hN1, hN4, hP, hQ, hPQ, rfl, rx, b4⟩
  obtain ⟨X, hX⟩ : ∃ X, (if b then insNK (N - 1) else P ++ batS 8 (wiresL 0 N)) ++ Q = X := ⟨_, rfl⟩
  rw [hX] at rx
  obtain ⟨hkx, h20x, hsx⟩ := mk_sorts hN1 hN4 hP hQ hPQ hX.symm
  obtain ⟨hfx, hknx, hrx⟩ := sorts_known hN1 hN4 hkx hsx
  have HKX := Lib.hid hkx
  have HFX := Lib.hid hfx
  have HKNX := Lib.hid hknx
  have HRX := Lib.hid hrx
  have H20X := Lib.hid h20x
  obtain ⟨ax, mx, cx, rfl, HMX, _, _⟩ := rx.formZ
  clear hX hPQ hP hQ hsx hfx hknx hrx h20x hkx HSo
  go_wp2_with fail
  obtain ⟨w5, b5, cx0, cx1, hw5⟩ := box_store w4 (.int .i64 N) (.slice ax mx cx) 30
  rw [hw5]
  clear hw5
  have b5' := b4.trans (b5.mono b4.size)
  replace rl := rl.below b5'
  replace rk := rk.below b5'
  replace rx := rx.below b5
  replace bt := bt.trans (b5'.mono bt.size)
  have lX : w4.heap.size < w5.heap.size := World.block_lt_of_cell? _ _ cx0
  refine (HPr.out _ (h.below bt)).mono ?_
  rintro e w6 ⟨M, Y, vy, hM2, hM5, hY, hky, rfl, ry, b6⟩
  have HKY := Lib.hid hky
  have HY := Lib.hid hY
  obtain ⟨ay, my, cy, rfl, HMY, _, _⟩ := ry.formZ
  clear hky hY HPr
  go_wp2_with fail
  obtain ⟨w7, b7, cy0, cy1, hw7⟩ := box_store w6 (.int .i64 M) (.slice ay my cy) 30
  rw [hw7]
  clear hw7
  have b7' := b6.trans (b7.mono b6.size)
  replace rl := rl.below b7'
  replace rk := rk.below b7'
  replace rx := rx.below b7'
  replace ry := ry.below b7
  replace bt := bt.trans (b7'.mono bt.size)
  have lY : w6.heap.size < w7.heap.size := World.block_lt_of_cell? _ _ cy0
  replace cx0 := (b7'.cell lX).trans cx0
  replace cx1 := (b7'.cell lX).trans cx1
  have z57 := b7'.size
  clear b2 b3 b4 b5 b6 b7 b5' b7'
  have hdq : ((bstr (numsB l)).toList == [45]) = ((nl : Int) == 0) := by
    by_cases h0 : nl = 0
    · rw [HDASH.out.2 h0, ByteArray.toList_eq, h0]; rfl
    · have h1 : ((nl : Int) == 0) = false := by simp [h0]
      rw [h1, beq_eq_false_iff_ne]
      intro h2
      rw [toL] at h2
      exact h0 (HDASH.out.1 (by rw [h2]; rfl))
  go_wp2_with (first
    | (go_at_call 10; refine (same_c _ _ l l _ rk rl).mono ?_; rintro e w8 ⟨rfl, d8⟩; rw [eqI_self]; have b8 := d8.below w7.heap.size)
    | (go_at_call 11; refine (I_DisorderLine w8 _ l (rl.below b8) HFI.out (by have := HL12.out; omega) ((ht.tab.below bt).below b8)).mono ?_; rintro e w9 ⟨rfl, b9⟩; rw [HD2.out]; have b9' := b8.trans (b9.mono b8.size))
    | (go_at_call 12; refine (i_DisorderOf _ l w9 (rl.below b9') HL12.out).mono ?_; rintro e w10 ⟨v10, rfl, o10, b10⟩; have b10' := b9'.trans (b10.mono b9'.size))
    | (go_at_call 6; refine (I_FormatNumbers w10 _ (disL l) o10.rd HDI.out (by simp [disL]) ((ht.tab.below bt).below b10')).mono ?_; rintro e w11 ⟨rfl, b11⟩; rw [HD1.out]; have b11' := b10'.trans (b11.mono b10'.size)))
  clear hdq rl rk HDASH HP0 HP1 HDI HF HD1 HD2 o10
  replace rx := rx.below b11'
  replace ry := ry.below b11'
  have lW7 := bt.size
  replace bt := bt.trans (b11'.mono lW7)
  replace cx0 := (b11'.cell (World.block_lt_of_cell? _ _ cx0)).trans cx0
  replace cx1 := (b11'.cell (World.block_lt_of_cell? _ _ cx1)).trans cx1
  replace cy0 := (b11'.cell (World.block_lt_of_cell? _ _ cy0)).trans cy0
  replace cy1 := (b11'.cell (World.block_lt_of_cell? _ _ cy1)).trans cy1
  have z7 := b11'.size
  clear b8 b9 b10 b11 b9' b10' b11' d8 HFI HL12 hl1 hsz
  obtain ⟨fX, lenX⟩ := netOk_I64' HKX.out
  obtain ⟨fY, lenY⟩ := netOk_I64' HKY.out
  have HFXX := Lib.hid fX
  have HFYY := Lib.hid fY
  have HLX := Lib.hid lenX
  have HLY := Lib.hid lenY
  clear fX fY lenX lenY
  have hNI : I64 (N : Int) := ⟨by omega, by omega⟩
  have hMI : I64 (M : Int) := ⟨by omega, by omega⟩
  have hmX : mx ≤ 20 := by have := HMX.out; have := H20X.out; omega
  have hmY : my ≤ 13 := by have := HMY.out; have := HY.out; omega
  have hmXI : I64 (mx : Int) := ⟨by omega, by omega⟩
  have hmYI : I64 (my : Int) := ⟨by omega, by omega⟩
  have hdX := depthOf_bound HKX.out
  have HRN : Hid (bstr (netLine N X) = (⟨#[112, 97, 105, 114, 115, 32]⟩ : ByteArray) ++ bstr (Lib.itoa (X.length : Int)) ++ ⟨#[32, 100, 101, 112, 116, 104, 32]⟩ ++ bstr (Lib.itoa (depthOf N X)) ++ ⟨#[32, 115, 111, 114, 116, 115]⟩) := catNet _ _ _ [] _ (rep_net HKX.out HFX.out)
  have HDC := Lib.hid (fun (W : World) (hW : Rd2 W (.slice ax mx cx) X) => i_DepthOf (N : Int) _ X W hW hNI)
  rw [← HMX.out] at HRN
  have hdXI : I64 (depthOf (N : Int) X) := by unfold I64; omega
  generalize depthOf (N : Int) X = dx at hdX HRN HDC hdXI
  have HPm := Lib.hid (fun (W : World) (hW : Tab W) => I_FormatInt W (mx : Int) hmXI hW)
  have HPd := Lib.hid (fun (W : World) (hW : Tab W) => I_FormatInt W dx hdXI hW)
  have sA0 := (itoa_len hmXI).2
  have sD0 := (itoa_len hdXI).2
  obtain ⟨A, hA⟩ : ∃ A, bstr (Lib.itoa (mx : Int)) = A := ⟨_, rfl⟩
  obtain ⟨D, hD⟩ : ∃ D, bstr (Lib.itoa dx) = D := ⟨_, rfl⟩
  have sA : A.size ≤ 20 := by rw [← hA, bstr_size]; exact sA0
  have sD : D.size ≤ 20 := by rw [← hD, bstr_size]; exact sD0
  rw [hA] at HPm HRN
  rw [hD] at HPd HRN
  have HNLC := Lib.hid (fun (W : World) (hW : Below w11.heap.size w11 W) => I_NetworkLine W (N : Int) hNI _ X (rx.below hW) HFXX.out HLX.out ((ht.tab.below bt).below hW))
  have q1 : ¬ 9223372036854775807 < 6 + A.size := by omega
  have q2 : ¬ 9223372036854775807 < 6 + A.size + 7 := by omega
  have q3 : ¬ 9223372036854775807 < 6 + A.size + 7 + D.size := by omega
  have q4 : ¬ 9223372036854775807 < 6 + A.size + 7 + D.size + 6 := by omega
  clear hA hD sA0 sD0
  have HT : Hid (∀ wx : World, Below w11.heap.size w11 wx → wx.cell? ⟨w4.heap.size, 0, none⟩ = some (.int .i64 N) ∧ wx.cell? ⟨w4.heap.size, 1, none⟩ = some (.slice ax mx cx)) := fun wx hb => ⟨(hb.cell (World.block_lt_of_cell? _ _ cx0)).trans cx0, (hb.cell (World.block_lt_of_cell? _ _ cx1)).trans cx1⟩
  go_wp2
  go_region_held3 (fun wx => wx.cell? ⟨w4.heap.size, 0, none⟩ = some (.int .i64 N) ∧ wx.cell? ⟨w4.heap.size, 1, none⟩ = some (.slice ax mx cx))
    (first | exact HT.out _ g15 | exact HT.out _ g14 | exact HT.out _ g13 | exact HT.out _ g12 | go_keep)
    (first
      | (go_at_call 13; refine (HNLC.out _ (by exact ⟨rfl, rfl, rfl, Nat.le_refl _, fun _ _ => rfl⟩)).mono ?_; rintro e w12 ⟨rfl, h12⟩; have g12 : Below w11.heap.size w11 w12 := (by exact ⟨h12.os, h12.tape, h12.output, h12.size, h12.block⟩); rw [HRN.out])
      | (go_at_call_of 14 (mx : Int); refine (HPm.out _ ((ht.tab.below bt).below g12)).mono ?_; rintro e w13 ⟨rfl, h13⟩; have g13 := g12.trans (h13.mono g12.size))
      | (go_at_call 15; refine (HDC.out _ (rx.below g13)).mono ?_; rintro e w14 ⟨rfl, h14⟩; have g14 := g13.trans (h14.mono g13.size))
      | (go_at_call_of 14 dx; refine (HPd.out _ ((ht.tab.below bt).below g14)).mono ?_; rintro e w15 ⟨rfl, h15⟩; have g15 := g14.trans (h15.mono g14.size)))
  clear HT HNLC HPm HPd HDC HRN sA sD q1 q2 q3 q4 h12 h13 h14 h15 g12 g13 g14
  replace rx := rx.below g15
  replace ry := ry.below g15
  replace bt := bt.trans (g15.mono bt.size)
  replace cx0 := (g15.cell (World.block_lt_of_cell? _ _ cx0)).trans cx0
  replace cx1 := (g15.cell (World.block_lt_of_cell? _ _ cx1)).trans cx1
  replace cy0 := (g15.cell (World.block_lt_of_cell? _ _ cy0)).trans cy0
  replace cy1 := (g15.cell (World.block_lt_of_cell? _ _ cy1)).trans cy1
  clear g15
  go_wp2_with fail
  refine (i_FailingList (M : Int) _ Y _ ry hMI).mono ?_
  rintro e w16 ⟨vf, rfl, of, b16⟩
  replace rx := rx.below b16
  replace ry := ry.below b16
  replace bt := bt.trans (b16.mono bt.size)
  replace cx0 := (b16.cell (World.block_lt_of_cell? _ _ cx0)).trans cx0
  replace cx1 := (b16.cell (World.block_lt_of_cell? _ _ cx1)).trans cx1
  replace cy0 := (b16.cell (World.block_lt_of_cell? _ _ cy0)).trans cy0
  replace cy1 := (b16.cell (World.block_lt_of_cell? _ _ cy1)).trans cy1
  have rf := of.rd
  clear b16 of
  obtain ⟨hfI, hfL⟩ := failLs_ok (n := M) (xss := Y)
  have hdY := depthOf_bound HKY.out
  have hdYI : I64 (depthOf (M : Int) Y) := by unfold I64; omega
  have smy0 := (itoa_len hmYI).2
  obtain ⟨S1, hS1⟩ : ∃ S1, bstr (Lib.itoa (my : Int)) = S1 := ⟨_, rfl⟩
  have smy : S1.size ≤ 20 := by rw [← hS1, bstr_size]; exact smy0
  have sdy0 := (itoa_len hdYI).2
  obtain ⟨S2, hS2⟩ : ∃ S2, bstr (Lib.itoa (depthOf (M : Int) Y)) = S2 := ⟨_, rfl⟩
  have sdy : S2.size ≤ 20 := by rw [← hS2, bstr_size]; exact sdy0
  clear smy0 sdy0
  have HCAT : ∀ c : List UInt8, netLine (M : Int) Y = [112, 97, 105, 114, 115, 32] ++ Lib.itoa Y.length ++ [32, 100, 101, 112, 116, 104, 32] ++ Lib.itoa (depthOf M Y) ++ c → Hid (bstr (netLine M Y) = (⟨#[112, 97, 105, 114, 115, 32]⟩ : ByteArray) ++ S1 ++ ⟨#[32, 100, 101, 112, 116, 104, 32]⟩ ++ S2 ++ bstr c) := fun c hc => by
    have := catNet _ _ c [] _ hc
    rw [← HMY.out, hS1, hS2] at this
    exact this
  have HCATH := Lib.hid HCAT
  clear HCAT
  have HPF0 := Lib.hid (I_FormatNumbers w16 vf _ rf hfI (by omega) (ht.tab.below bt))
  rw [fmt60 (by omega)] at HPF0
  have sF0 := numsB_le hfI hfL
  obtain ⟨F, hF⟩ : ∃ F, bstr (numsB (failLs (M : Int) Y)) = F := ⟨_, rfl⟩
  have sF : F.size ≤ 400 := by rw [← hF, bstr_size]; omega
  rw [hF] at HPF0
  have HFE := Lib.hid hF
  have q0 : ¬ 9223372036854775807 < 7 + F.size := by omega
  clear hF sF0 rf hfI hfL
  have HYES : Hid (∀ b, failsB (M : Int) Y = b → (b = false → Hid (bstr (netLine M Y) = (⟨#[112, 97, 105, 114, 115, 32]⟩ : ByteArray) ++ S1 ++ ⟨#[32, 100, 101, 112, 116, 104, 32]⟩ ++ S2 ++ ⟨#[32, 115, 111, 114, 116, 115]⟩)) ∧ (b = true → Hid (bstr (netLine M Y) = (⟨#[112, 97, 105, 114, 115, 32]⟩ : ByteArray) ++ S1 ++ ⟨#[32, 100, 101, 112, 116, 104, 32]⟩ ++ S2 ++ (⟨#[32, 102, 97, 105, 108, 115, 32]⟩ ++ F)))) := fun b hb => by
    subst hb
    refine ⟨fun hfy => HCATH.out _ (rep_net HKY.out hfy), fun hfy => ?_⟩
    have HRN := HCATH.out _ (rep_netF HKY.out hfy)
    rw [show bstr ([32, 102, 97, 105, 108, 115, 32] ++ numsB (failLs (M : Int) Y)) = (⟨#[32, 102, 97, 105, 108, 115, 32]⟩ : ByteArray) ++ F by rw [← HFE.out]; exact (bstr_app _ _).symm] at HRN
    exact HRN
  obtain ⟨fb, hfb⟩ : ∃ fb, failsB (M : Int) Y = fb := ⟨_, rfl⟩
  have HFB := Lib.hid (HYES.out fb hfb)
  rw [hfb]
  clear hfb HYES HCATH HFE
  go_upto_if 82 with (fail)
  go_cut [11] (fun vt wx => ∃ T : ByteArray, vt = .string T ∧ Hid (bstr (netLine M Y) = (⟨#[112, 97, 105, 114, 115, 32]⟩ : ByteArray) ++ S1 ++ ⟨#[32, 100, 101, 112, 116, 104, 32]⟩ ++ S2 ++ T) ∧ T.size ≤ 500 ∧ Below w16.heap.size w16 wx)
  case first => as_aux_lemma =>
    cases fb
    · have HRN := HFB.out.1 rfl
      go_wp2_with fail
      go_meet
      exact ⟨_, rfl, HRN, by decide, Below.refl _ _⟩
    · have HRN := HFB.out.2 rfl
      go_wp2_with (go_at_call 6; refine HPF0.out.mono ?_; rintro e w17 ⟨rfl, b17⟩)
      go_meet
      exact ⟨_, rfl, HRN, by rw [ByteArray.size_append]; show 7 + F.size ≤ 500; omega, b17⟩
  case rest => as_aux_lemma =>
  obtain ⟨T, rfl, HRN, sT, bc⟩ := hcut
  replace rx := rx.below bc
  replace ry := ry.below bc
  replace bt := bt.trans (bc.mono bt.size)
  replace cx0 := (bc.cell (World.block_lt_of_cell? _ _ cx0)).trans cx0
  replace cx1 := (bc.cell (World.block_lt_of_cell? _ _ cx1)).trans cx1
  replace cy0 := (bc.cell (World.block_lt_of_cell? _ _ cy0)).trans cy0
  replace cy1 := (bc.cell (World.block_lt_of_cell? _ _ cy1)).trans cy1
  clear bc HPF0 HFB sF q0
  -- facts for region 17
  have HHL := hiddenL_len (M : Int) Y
  obtain ⟨hiI, hiL⟩ := idleL_bd (N : Int) X
  obtain ⟨hgI, hgL⟩ := greedyL_bd (M : Int) Y
  have HN' : N * (N - 1) / 2 ≤ 6 ∧ IntKind.i64.wrap ((IntKind.i64.wrap ((N : Int) * IntKind.i64.wrap ((N : Int) - 1))).tdiv 2) = ((N * (N - 1) / 2 : Nat) : Int) ∧ 0 ≤ (N : Int) * ((N : Int) - 1) ∧ (N : Int) * ((N : Int) - 1) ≤ 12 := by
    obtain rfl | rfl | rfl | rfl : N = 1 ∨ N = 2 ∨ N = 3 ∨ N = 4 := by omega
    all_goals exact ⟨by decide, by decide, by decide, by decide⟩
  obtain ⟨k1, k2, k3, k4⟩ := HN'
  obtain ⟨N1, hN1e⟩ : ∃ N1 : Int, (N : Int) + 1 = N1 := ⟨_, rfl⟩
  have k5 : IntKind.i64.wrap ((N : Int) + 1) = N1 := by rw [← hN1e]; exact IntWalk.i64_in _ (by omega)
  obtain ⟨K, hK⟩ : ∃ K : Nat, N * (N - 1) / 2 = K := ⟨_, rfl⟩
  have HRO := Lib.hid (catOrd _ _ _ _ (rep_order HKX.out (HKNX.out.trans hK) HRX.out))
  rw [hK] at k1 k2
  have HRT := Lib.hid (catTest _ _ _ (rep_test HKY.out (by have := HY.out; omega)))
  have HIDL := Lib.hid hiI
  have HGDL := Lib.hid hgI
  have HFI60 := Lib.hid (fmt60 (xs := idleL N X) (by omega))
  have HFG60 := Lib.hid (fmt60 (xs := greedyL M Y) (by omega))
  have HDCY := Lib.hid (fun (W : World) (hW : Rd2 W (.slice ay my cy) Y) => i_DepthOf (M : Int) _ Y W hW hMI)
  have HNLY := Lib.hid (fun (W : World) (hW : Below wc.heap.size wc W) => I_NetworkLine W (M : Int) hMI _ Y (ry.below hW) HFYY.out HLY.out ((ht.tab.below bt).below hW))
  have HOLX := Lib.hid (fun (W : World) (hW : Below wc.heap.size wc W) => I_OrderLine W (N : Int) hNI _ X (rx.below hW) HFXX.out HLX.out ((ht.tab.below bt).below hW))
  have HTLY := Lib.hid (fun (W : World) (hW : Below wc.heap.size wc W) => I_TestLine W (M : Int) hMI _ Y (ry.below hW) HFYY.out HLY.out ((ht.tab.below bt).below hW))
  have HIDX := Lib.hid (fun (W : World) (hW : Below wc.heap.size wc W) => i_IdleOf (N : Int) _ X W (rx.below hW) hNI)
  have HHFY := Lib.hid (fun (W : World) (hW : Below wc.heap.size wc W) => i_HiddenFaults (M : Int) _ Y W (ry.below hW) hMI)
  have HGTY := Lib.hid (fun (W : World) (hW : Below wc.heap.size wc W) => i_GreedyTests (M : Int) _ Y W (ry.below hW) hMI)
  have hKI : I64 (K : Int) := ⟨by omega, by omega⟩
  have hN1I : I64 N1 := ⟨by omega, by omega⟩
  have hHI : I64 (((hiddenL M Y).length : Nat) : Int) := ⟨by omega, by omega⟩
  rw [show ((N + 1 : Nat) : Int) = N1 by omega] at HRO
  clear hN1e
  have HPmy := Lib.hid (fun (W : World) (hW : Below wc.heap.size wc W) => I_FormatInt W (my : Int) hmYI ((ht.tab.below bt).below hW))
  have HPdy := Lib.hid (fun (W : World) (hW : Below wc.heap.size wc W) => I_FormatInt W (depthOf (M : Int) Y) hdYI ((ht.tab.below bt).below hW))
  have HPk := Lib.hid (fun (W : World) (hW : Below wc.heap.size wc W) => I_FormatInt W (K : Int) hKI ((ht.tab.below bt).below hW))
  have sk0 := (itoa_len hKI).2
  obtain ⟨S3, hS3⟩ : ∃ S3, bstr (Lib.itoa (K : Int)) = S3 := ⟨_, rfl⟩
  have sk : S3.size ≤ 20 := by rw [← hS3, bstr_size]; exact sk0
  clear sk0
  have HPn1 := Lib.hid (fun (W : World) (hW : Below wc.heap.size wc W) => I_FormatInt W N1 hN1I ((ht.tab.below bt).below hW))
  have sn10 := (itoa_len hN1I).2
  obtain ⟨S4, hS4⟩ : ∃ S4, bstr (Lib.itoa N1) = S4 := ⟨_, rfl⟩
  have sn1 : S4.size ≤ 20 := by rw [← hS4, bstr_size]; exact sn10
  clear sn10
  have HPh := Lib.hid (fun (W : World) (hW : Below wc.heap.size wc W) => I_FormatInt W (((hiddenL M Y).length : Nat) : Int) hHI ((ht.tab.below bt).below hW))
  have sh0 := (itoa_len hHI).2
  obtain ⟨S5, hS5⟩ : ∃ S5, bstr (Lib.itoa (((hiddenL M Y).length : Nat) : Int)) = S5 := ⟨_, rfl⟩
  have sh : S5.size ≤ 20 := by rw [← hS5, bstr_size]; exact sh0
  clear sh0
  have sI0 := numsB_le hiI hiL
  have sG0 := numsB_le hgI hgL
  obtain ⟨S6, hS6⟩ : ∃ S6, bstr (numsB (idleL N X)) = S6 := ⟨_, rfl⟩
  obtain ⟨S7, hS7⟩ : ∃ S7, bstr (numsB (greedyL M Y)) = S7 := ⟨_, rfl⟩
  have sI : S6.size ≤ 3000 := by rw [← hS6, bstr_size]; omega
  have sG : S7.size ≤ 3000 := by rw [← hS7, bstr_size]; omega
  have HPi := Lib.hid (fun (W : World) (v : Value) (hv : Rd W v (ints (idleL N X))) (hW : Below wc.heap.size wc W) => I_FormatNumbers W v _ hv hiI (by omega) ((ht.tab.below bt).below hW))
  have HPg := Lib.hid (fun (W : World) (v : Value) (hv : Rd W v (ints (greedyL M Y))) (hW : Below wc.heap.size wc W) => I_FormatNumbers W v _ hv hgI (by omega) ((ht.tab.below bt).below hW))
  rw [HFI60.out, hS6] at HPi
  rw [HFG60.out, hS7] at HPg
  rw [hS3, hS4, hS6] at HRO
  rw [hS5, hS7] at HRT
  rw [hS1] at HPmy
  rw [hS2] at HPdy
  rw [hS3] at HPk
  rw [hS4] at HPn1
  rw [hS5] at HPh
  have HT := Lib.hid (fun (wx : World) (hb : Below wc.heap.size wc wx) => And.intro ((hb.cell (World.block_lt_of_cell? _ _ cx0)).trans cx0) (And.intro ((hb.cell (World.block_lt_of_cell? _ _ cx1)).trans cx1) (And.intro ((hb.cell (World.block_lt_of_cell? _ _ cy0)).trans cy0) ((hb.cell (World.block_lt_of_cell? _ _ cy1)).trans cy1))))
  have q1 : ¬ 9223372036854775807 < 6 + S1.size := by omega
  have q2 : ¬ 9223372036854775807 < 6 + S1.size + 7 := by omega
  have q3 : ¬ 9223372036854775807 < 6 + S1.size + 7 + S2.size := by omega
  have q4 : ¬ 9223372036854775807 < 6 + S1.size + 7 + S2.size + T.size := by omega
  have p1 : ¬ 9223372036854775807 < 6 + S3.size := by omega
  have p2 : ¬ 9223372036854775807 < 6 + S3.size + 9 := by omega
  have p3 : ¬ 9223372036854775807 < 6 + S3.size + 9 + S4.size := by omega
  have p4 : ¬ 9223372036854775807 < 6 + S3.size + 9 + S4.size + 6 := by omega
  have p5 : ¬ 9223372036854775807 < 6 + S3.size + 9 + S4.size + 6 + S6.size := by omega
  have t1 : ¬ 9223372036854775807 < 7 + S5.size := by omega
  have t2 : ¬ 9223372036854775807 < 7 + S5.size + 7 := by omega
  have t3 : ¬ 9223372036854775807 < 7 + S5.size + 7 + S7.size := by omega
  go_upto_region 17 with (fail)
  go_cut [142] (fun vb wx => vb = .bool false ∧ Below wc.heap.size wc wx)
  case first => as_aux_lemma =>
    go_region_held3 (fun wx => wx.cell? ⟨w4.heap.size, 0, none⟩ = some (.int .i64 N) ∧ wx.cell? ⟨w4.heap.size, 1, none⟩ = some (.slice ax mx cx) ∧ wx.cell? ⟨w6.heap.size, 0, none⟩ = some (.int .i64 M) ∧ wx.cell? ⟨w6.heap.size, 1, none⟩ = some (.slice ay my cy))
      (first | exact HT.out _ g30 | exact HT.out _ g29 | exact HT.out _ g28 | exact HT.out _ g27 | exact HT.out _ g26 | exact HT.out _ g25 | exact HT.out _ g24 | exact HT.out _ g23 | exact HT.out _ g22 | exact HT.out _ g21 | exact HT.out _ g20 | exact HT.out _ g19 | exact HT.out _ g18 | exact HT.out _ g17 | go_keep)
      (first
        | (go_at_call 13; refine (HNLY.out _ (by exact ⟨rfl, rfl, rfl, Nat.le_refl _, fun _ _ => rfl⟩)).mono ?_; rintro e w17 ⟨rfl, h17⟩; have g17 : Below wc.heap.size wc w17 := (by exact ⟨h17.os, h17.tape, h17.output, h17.size, h17.block⟩); rw [HRN.out])
        | (go_at_call_of 14 (my : Int); refine (HPmy.out _ g17).mono ?_; rintro e w18 ⟨rfl, h18⟩; have g18 := g17.trans (h18.mono g17.size))
        | (go_at_call 15; refine (HDCY.out _ (ry.below g18)).mono ?_; rintro e w19 ⟨rfl, h19⟩; have g19 := g18.trans (h19.mono g18.size))
        | (go_at_call_of 14 (depthOf (M : Int) Y); refine (HPdy.out _ g19).mono ?_; rintro e w20 ⟨rfl, h20⟩; have g20 := g19.trans (h20.mono g19.size))
        | (go_at_call 17; refine (HOLX.out _ g20).mono ?_; rintro e w21 ⟨rfl, h21⟩; rw [HRO.out]; have g21 := g20.trans (h21.mono g20.size))
        | (go_at_call_of 14 N1; refine (HPn1.out _ g22).mono ?_; rintro e w23 ⟨rfl, h23⟩; have g23 := g22.trans (h23.mono g22.size))
        | (go_at_call_of 14 (((hiddenL M Y).length : Nat) : Int); refine (HPh.out _ g27).mono ?_; rintro e w28 ⟨rfl, h28⟩; have g28 := g27.trans (h28.mono g27.size))
        | (go_at_call_of 14 (K : Int); refine (HPk.out _ g21).mono ?_; rintro e w22 ⟨rfl, h22⟩; have g22 := g21.trans (h22.mono g21.size))
        | (go_at_call 18; refine (HIDX.out _ g23).mono ?_; rintro e w24 ⟨v24, rfl, o24, h24⟩; have g24 := g23.trans (h24.mono g23.size))
        | (go_at_call 6; refine (HPi.out _ _ o24.rd g24).mono ?_; rintro e w25 ⟨rfl, h25⟩; have g25 := g24.trans (h25.mono g24.size))
        | (go_at_call 19; refine (HTLY.out _ g25).mono ?_; rintro e w26 ⟨rfl, h26⟩; rw [HRT.out]; have g26 := g25.trans (h26.mono g25.size))
        | (go_at_call 20; refine (HHFY.out _ g26).mono ?_; rintro e w27 ⟨v27, rfl, o27, h27⟩; obtain ⟨a27, c27, rfl, _, _⟩ := o27.form; have g27 := g26.trans (h27.mono g26.size))
        | (go_at_call 21; refine (HGTY.out _ g28).mono ?_; rintro e w29 ⟨v29, rfl, o29, h29⟩; have g29 := g28.trans (h29.mono g28.size))
        | (go_at_call 6; refine (HPg.out _ _ o29.rd g29).mono ?_; rintro e w30 ⟨rfl, h30⟩; have g30 := g29.trans (h30.mono g29.size)))
    all_goals go_wp2_with (fail)
    all_goals
      go_meet
      exact ⟨rfl, g30⟩
  case rest => as_aux_lemma =>
  obtain ⟨rfl, bd⟩ := hcut
  replace bt := bt.trans (bd.mono bt.size)
  clear bd rx ry cx0 cx1 cy0 cy1 HRN HRO HRT HNLY HOLX HTLY HIDX HHFY HGTY HPmy HPdy HPk HPn1 HPh HPi HPg HT sT q1 q2 q3 q4 p1 p2 p3 p4 p5 t1 t2 t3 HDCY HFXX HFYY HLX HLY HKX HKY HFX HKNX HRX H20X HY HMX HMY HIDL HGDL HFI60 HFG60
  go_wp2_with fail
  refine (HOr.out M (by omega) _ (h.below bt)).mono ?_
  rintro e w31 ⟨o, vo, hpo, rfl, ro, b31⟩
  obtain ⟨hso, hsx⟩ := rep_perm hM5 hpo
  obtain ⟨ao, mo, co, rfl, HMO, _, _⟩ := ro.formN
  replace bt := bt.trans (b31.mono bt.size)
  clear b31
  have hlo : o.length ≤ 5 := by rw [hpo.1]; exact hM5
  have fo : I64s o := fun y hy => by have := hpo.2.1 y hy; unfold I64; omega
  clear hpo
  go_wp2_with fail
  refine (HRu.out _ (h.below bt)).mono ?_
  rintro e w32 ⟨r, vr, hr6, hr12, rfl, rr, b32⟩
  obtain ⟨ar, mr, cr, rfl, HMR, _, _⟩ := rr.formN
  replace ro := ro.below b32
  replace bt := bt.trans (b32.mono bt.size)
  clear b32
  have hrl := rep_lens hr6 hr12
  have fr : I64s r := fun y hy => by have := hr12 y hy; unfold I64; omega
  clear hr12
  go_wp2_with fail
  refine (HTi.out _ (h.below bt)).mono ?_
  rintro e w33 ⟨t, vt, ht11, ht36, rfl, rt, b33⟩
  obtain ⟨at_, mt, ct, rfl, HMT, _, _⟩ := rt.formN
  replace ro := ro.below b33
  replace rr := rr.below b33
  replace bt := bt.trans (b33.mono bt.size)
  clear b33
  have htl := rep_lateOk ht11 ht36
  have ft : I64s t := fun y hy => by have := ht36 y hy; unfold I64; omega
  clear ht36 HOr HRu HTi
  go_wp2_with fail
  refine (I_EmitOrder w33 _ t rt ft (by omega) 2 (by unfold I64; omega)).mono ?_
  rintro e w34 ⟨va, vb, rfl, oa, ob, _, b34⟩
  obtain ⟨aa, ma, ca, rfl, HMA, _, _⟩ := oa.rd.formN
  obtain ⟨ab2, mb, cb2, rfl, HMB, _, _⟩ := ob.rd.formN
  replace ro := ro.below b34
  replace rr := rr.below b34
  replace rt := rt.below b34
  replace bt := bt.trans (b34.mono bt.size)
  have ra := oa.rd
  have rb := ob.rd
  clear b34 oa ob
  have HSW := Lib.hid (I_StackWord _ o w34 ro)
  rw [hso, Bool.true_and] at HSW
  have HSR := Lib.hid (fun (W : World) (hW : Below w34.heap.size w34 W) => I_StackRounds _ o W (ro.below hW) hso)
  have HFR := Lib.hid (fun (W : World) (hW : Below w34.heap.size w34 W) => I_FormatInt W _ (rnd_I64 o) ((ht.tab.below bt).below hW))
  have hlen := (itoa_len (rnd_I64 o)).2
  have hlen2 := stkW_len (xs := o)
  have HSL := Lib.hid (rep_stack hso)
  obtain ⟨R0, hR0⟩ : ∃ R0, bstr (Lib.itoa ((rndN 9 o : Nat) : Int)) = R0 := ⟨_, rfl⟩
  have sR0 : R0.size ≤ 20 := by rw [← hR0, bstr_size]; exact hlen
  obtain ⟨W0, hW0⟩ : ∃ W0, bstr (wordOf o) = W0 := ⟨_, rfl⟩
  have sW0 : W0.size ≤ 20 := by
    rw [← hW0, bstr_size, wordOf]
    split
    · omega
    · simp
  obtain ⟨cb0, hcb⟩ : ∃ cb0, canB o = cb0 := ⟨_, rfl⟩
  have HS1 : Hid (cb0 = true → bstr (stackLine o) = (⟨#[119, 111, 114, 100, 32]⟩ : ByteArray) ++ W0) := fun h => by
    rw [HSL.out, hcb, h, ← hW0]; exact (bstr_app _ _).symm
  have HS0 : Hid (cb0 = false → bstr (stackLine o) = (⟨#[114, 111, 117, 110, 100, 115, 32]⟩ : ByteArray) ++ R0) := fun h => by
    rw [HSL.out, hcb, h, ← hR0]; exact (bstr_app _ _).symm
  have HSW2 : Hid (Calls Tryz.prog 26 #[.slice ao mo co] w34 fun e w' => e = .returned (.tuple #[.string W0, .bool cb0]) ∧ Below w34.heap.size w34 w') := by rw [← hW0, ← hcb]; exact HSW.out
  rw [hR0] at HFR
  generalize rndN 9 o = rn at HSR HFR
  have y1 : ¬ 9223372036854775807 < 7 + R0.size := by omega
  have y2 : ¬ 9223372036854775807 < 5 + W0.size := by omega
  clear HSW HSL hlen hlen2 hR0 hW0 hcb
  go_upto_if 164 with (first
    | (go_at_call 26; refine HSW2.out.mono ?_; rintro e w35 ⟨rfl, b35⟩)
    | (go_at_call 27; refine (HSR.out _ b35).mono ?_; rintro e w36 ⟨rfl, b36⟩; have B36 := b35.trans (b36.mono b35.size))
    | (go_at_call 14; refine (HFR.out _ B36).mono ?_; rintro e w37 ⟨rfl, b37⟩; have B37 := B36.trans (b37.mono B36.size)))
  go_cut [20] (fun vt wx => ∃ T : ByteArray, vt = .string T ∧ Hid (bstr (stackLine o) = T) ∧ w37 = wx)
  case first => as_aux_lemma =>
    cases cb0
    · have HX := HS0.out rfl
      go_wp2_with fail
      go_meet
      exact ⟨_, rfl, HX, rfl⟩
    · have HX := HS1.out rfl
      go_wp2_with fail
      go_meet
      exact ⟨_, rfl, HX, rfl⟩
  case rest => as_aux_lemma =>
  obtain ⟨T, rfl, HST, rfl⟩ := hcut
  replace ro := ro.below B37
  replace rr := rr.below B37
  replace rt := rt.below B37
  replace ra := ra.below B37
  replace rb := rb.below B37
  replace bt := bt.trans (B37.mono bt.size)
  clear HS0 HS1 HSW2 HSR HFR y1 y2 b35 b36 b37 B36 B37 sR0 sW0
  go_wp2_with fail
  refine (i_BestFlips _ o _ ro hsx).mono ?_
  rintro e w38 ⟨⟨vg, rfl, og, b38⟩, hg12, hg26⟩
  obtain ⟨ag, mg, cg, rfl, HMG, _, _⟩ := og.rd.formN
  have rg := og.rd
  replace ro := ro.below b38
  replace rr := rr.below b38
  replace rt := rt.below b38
  replace ra := ra.below b38
  replace rb := rb.below b38
  replace bt := bt.trans (b38.mono bt.size)
  clear b38 og hg26
  have h20a := (late_lens htl).1
  have h20b := (late_lens htl).2.1
  obtain ⟨j0, j1⟩ := late_I64 htl
  have eO : emitO t 2 = lateOut t 2 := by rw [emitO, if_pos htl]
  have eL : emitL t 2 = lateLate t 2 := by rw [emitL, if_pos htl]
  obtain ⟨gI, gL⟩ := grL_bd hso
  obtain ⟨bI, bL⟩ := bestL_bd hsx
  have tb := ht.tab.below bt
  have HSLL := Lib.hid (I_StackLine w38 _ o ro fo (by omega) tb)
  rw [HST.out] at HSLL
  have HML := Lib.hid (fun (W : World) (hW : Below w38.heap.size w38 W) => I_MergeLine W _ r (rr.below hW) fr (by omega) (tb.below hW))
  have HCM := Lib.hid (fun (W : World) (hW : Below w38.heap.size w38 W) => i_CheapestMerge _ r W (rr.below hW) hrl)
  have HCN := Lib.hid (fun (W : World) (hW : Below w38.heap.size w38 W) => i_CheapestNeighbors _ r W (rr.below hW) hrl)
  have HLL := Lib.hid (fun (W : World) (hW : Below w38.heap.size w38 W) => I_LateLine W _ t (rt.below hW) ft (by omega) 2 (by unfold I64; omega) (tb.below hW))
  have HFLL := Lib.hid (fun (W : World) (hW : Below w38.heap.size w38 W) => I_FlipLine W _ o (ro.below hW) fo (by omega) (tb.below hW))
  have HGF := Lib.hid (fun (W : World) (hW : Below w38.heap.size w38 W) => i_GreedyFlips _ o W (ro.below hW) hso)
  have HNa := Lib.hid (fun (W : World) (hW : Below w38.heap.size w38 W) => I_FormatNumbers W _ _ (ra.below hW) (by rw [eO]; exact j0) (by rw [eO]; omega) (tb.below hW))
  have HNb := Lib.hid (fun (W : World) (hW : Below w38.heap.size w38 W) => I_FormatNumbers W _ _ (rb.below hW) (by rw [eL]; exact j1) (by rw [eL]; omega) (tb.below hW))
  have HNg := Lib.hid (fun (W : World) (hW : Below w38.heap.size w38 W) => I_FormatNumbers W _ _ (rg.below hW) bI (by omega) (tb.below hW))
  have HNr := Lib.hid (fun (W : World) (v : Value) (hv : Rd W v (ints (grL o))) (hW : Below w38.heap.size w38 W) => I_FormatNumbers W v _ hv gI (by omega) (tb.below hW))
  rw [fmt60 (by rw [eO]; omega)] at HNa
  rw [fmt60 (by rw [eL]; omega)] at HNb
  rw [fmt60 (by omega)] at HNg
  rw [fmt60 (by omega)] at HNr
  obtain ⟨cI, nI⟩ := cm_I64 hrl
  have HF1 := Lib.hid (fun (W : World) (hW : Below w38.heap.size w38 W) => I_FormatInt W (cm r) cI (tb.below hW))
  have HF2 := Lib.hid (fun (W : World) (hW : Below w38.heap.size w38 W) => I_FormatInt W (nbAll r) nI (tb.below hW))
  have l1 := (itoa_len cI).2
  have l2 := (itoa_len nI).2
  have l3 := numsB_le (by rw [← eO] at j0; exact j0) (by rw [eO]; exact h20a)
  have l4 := numsB_le (by rw [← eL] at j1; exact j1) (by rw [eL]; exact h20b)
  have l5 := numsB_le gI gL
  have l6 := numsB_le bI bL
  have HRM : Hid (bstr (mergeLine r) = (⟨#[97, 110, 121, 32]⟩ : ByteArray) ++ bstr (Lib.itoa (cm r)) ++ ⟨#[32, 110, 101, 105, 103, 104, 98, 111, 114, 115, 32]⟩ ++ bstr (Lib.itoa (nbAll r))) := by
    rw [Hid, rep_merge hrl]; exact cat4 _ _ _ _
  have HRL : Hid (bstr (lateLine t 2) = bstr (numsB (emitO t 2)) ++ (⟨#[32]⟩ : ByteArray) ++ bstr (numsB (emitL t 2))) := by
    rw [Hid, rep_late htl]; exact cat3 _ _ _
  have HRF : Hid (bstr (flipLine o) = (⟨#[103, 114, 101, 101, 100, 121, 32]⟩ : ByteArray) ++ bstr (numsB (grL o)) ++ ⟨#[32, 98, 101, 115, 116, 32]⟩ ++ bstr (numsB (bestL o))) := by
    rw [Hid, rep_flip hso hsx]; exact cat4 _ _ _ _
  obtain ⟨C1, hC1⟩ : ∃ C, bstr (Lib.itoa (cm r)) = C := ⟨_, rfl⟩
  obtain ⟨C2, hC2⟩ : ∃ C, bstr (Lib.itoa (nbAll r)) = C := ⟨_, rfl⟩
  obtain ⟨Ea, hEa⟩ : ∃ C, bstr (numsB (emitO t 2)) = C := ⟨_, rfl⟩
  obtain ⟨Eb, hEb⟩ : ∃ C, bstr (numsB (emitL t 2)) = C := ⟨_, rfl⟩
  obtain ⟨G1, hG1⟩ : ∃ C, bstr (numsB (grL o)) = C := ⟨_, rfl⟩
  obtain ⟨G2, hG2⟩ : ∃ C, bstr (numsB (bestL o)) = C := ⟨_, rfl⟩
  have s1 : C1.size ≤ 2000 := by rw [← hC1, bstr_size]; omega
  have s2 : C2.size ≤ 2000 := by rw [← hC2, bstr_size]; omega
  have s3 : Ea.size ≤ 2000 := by rw [← hEa, bstr_size]; omega
  have s4 : Eb.size ≤ 2000 := by rw [← hEb, bstr_size]; omega
  have s5 : G1.size ≤ 2000 := by rw [← hG1, bstr_size]; omega
  have s6 : G2.size ≤ 2000 := by rw [← hG2, bstr_size]; omega
  rw [hC1, hC2] at HRM
  rw [hEa, hEb] at HRL
  rw [hG1, hG2] at HRF
  rw [hC1] at HF1
  rw [hC2] at HF2
  rw [hEa] at HNa
  rw [hEb] at HNb
  rw [hG2] at HNg
  rw [hG1] at HNr
  have y1 : ¬ 9223372036854775807 < 4 + C1.size := by omega
  have y2 : ¬ 9223372036854775807 < 4 + C1.size + 11 := by omega
  have y3 : ¬ 9223372036854775807 < 4 + C1.size + 11 + C2.size := by omega
  have y4 : ¬ 9223372036854775807 < Ea.size + 1 := by omega
  have y5 : ¬ 9223372036854775807 < Ea.size + 1 + Eb.size := by omega
  have y6 : ¬ 9223372036854775807 < 7 + G1.size := by omega
  have y7 : ¬ 9223372036854775807 < 7 + G1.size + 6 := by omega
  have y8 : ¬ 9223372036854775807 < 7 + G1.size + 6 + G2.size := by omega
  have HA01 := Lib.hid (fun (W : World) (hW : Below w38.heap.size w38 W) => i_Fab01 W (tb.below hW))
  have HA012 := Lib.hid (fun (W : World) (hW : Below w38.heap.size w38 W) => i_Fab012 W (tb.below hW))
  clear hC1 hC2 hEa hEb hG1 hG2 l1 l2 l3 l4 l5 l6 j0 j1 eO eL h20a h20b gI gL bI bL cI nI s1 s2 s3 s4 s5 s6 htl hrl hso hsx fo fr ft hlo hr6 ht11 hg12 rr ro rt ra rb rg tb HST
  generalize cm r = c1 at *
  generalize nbAll r = c2 at *
  go_wp2_with (first
    | (go_at_call 29; refine HSLL.out.mono ?_; rintro e u1 ⟨rfl, e1⟩)
    | (go_at_call 30; refine (HML.out _ e1).mono ?_; rintro e u2 ⟨rfl, e2⟩; rw [HRM.out]; have f2 := e1.trans (e2.mono e1.size))
    | (go_at_call 31; refine (HCM.out _ f2).mono ?_; rintro e u3 ⟨rfl, e3⟩; have f3 := f2.trans (e3.mono f2.size))
    | (go_at_call_of 14 c1; refine (HF1.out _ f3).mono ?_; rintro e u4 ⟨rfl, e4⟩; have f4 := f3.trans (e4.mono f3.size))
    | (go_at_call 32; refine (HCN.out _ f4).mono ?_; rintro e u5 ⟨rfl, e5⟩; have f5 := f4.trans (e5.below _))
    | (go_at_call_of 14 c2; refine (HF2.out _ f5).mono ?_; rintro e u6 ⟨rfl, e6⟩; have f6 := f5.trans (e6.mono f5.size))
    | (go_at_call 33; refine (HLL.out _ f6).mono ?_; rintro e u7 ⟨rfl, e7⟩; rw [HRL.out]; have f7 := f6.trans (e7.mono f6.size))
    | (go_at_call 6; (with_reducible refine (HNa.out _ f7).mono ?_); rintro e u8 ⟨rfl, e8⟩; have f8 := f7.trans (e8.mono f7.size); clear HNa)
    | (go_at_call 6; (with_reducible refine (HNb.out _ f8).mono ?_); rintro e u9 ⟨rfl, e9⟩; have f9 := f8.trans (e9.mono f8.size); clear HNb)
    | (go_at_call 34; refine (HFLL.out _ f9).mono ?_; rintro e u10 ⟨rfl, e10⟩; rw [HRF.out]; have f10 := f9.trans (e10.mono f9.size))
    | (go_at_call 35; refine (HGF.out _ f10).mono ?_; rintro e u11 ⟨v11, rfl, o11, e11⟩; have f11 := f10.trans (e11.mono f10.size))
    | (go_at_call 6; (with_reducible refine (HNr.out _ _ o11.rd f11).mono ?_); rintro e u12 ⟨rfl, e12⟩; have f12 := f11.trans (e12.mono f11.size); clear HNr)
    | (go_at_call 6; (with_reducible refine (HNg.out _ f12).mono ?_); rintro e u13 ⟨rfl, e13⟩; have f13 := f12.trans (e13.mono f12.size); clear HNg)
    | (go_at_call 36; (with_reducible refine (HA01.out _ f13).mono ?_); rintro e u14 ⟨rfl, e14⟩; have f14 := f13.trans (e14.mono f13.size); clear HA01)
    | (go_at_call 36; (with_reducible refine (HA012.out _ f14).mono ?_); rintro e u15 ⟨rfl, e15⟩; have f15 := f14.trans (e15.mono f14.size); clear HA012))
  go_ret
  exact ⟨rfl, bt.trans (f15.mono bt.size)⟩

end Go.Proofs.YtggblfnajeikjaaGreatDoor
