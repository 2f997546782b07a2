/- Joined texts of the proof: ConfQ, ConfR. -/
import Derived.WalkKit
import Derived.WalkSpells
import Derived.WalkLawsBesides
import Derived.Deep.Draws
import Derived.Lib.Hide
import Derived.RegionTactic
import Derived.Test.YtggblfnajeikjaaGreatRows
import Derived.BigQuiet
import Derived.Deep.QuietTactic
import Derived.Deep.RegionHeld3
import Derived.Deep.DeepCutAuto
import Derived.Deep.LoopGhost
import Derived.IntWalk
import Derived.Laws.BitsAllLaws
import Derived.Laws.BitsLemmas
import Derived.Deep.RegionLaw
import Derived.Lib.AppendZeros
import Derived.Lib.LazyBuf
import Derived.Shelf.Strconv.Itoa0
import Derived.Shelf.Sort.Plain
import Derived.Shelf.Slices.Reverse
import Derived.Ground.Names2Prog
import Derived.Shelf.Slices.CompactI
import Derived.Test.YtggblfnajeikjaaGreatProg
import Derived.Lib.RowBridge
import Derived.Sort.OwnSortedInts
import Derived.RangeFuncNested
import Derived.RangeFuncBound
import Derived.RangeFuncCalls
import Derived.RangeFuncBox
import Derived.RangeFuncLeaves
import Derived.Shelf.Abstract
import Derived.Shelf.RegionOpen
import Derived.OwnWalkIn
import Derived.TacticsInMore
import Derived.LoopNIn
import Derived.LoopIn
import Derived.Maps.AppendAt
import Derived.Test.YtggblfnajeikjaaGreatJ1
import Derived.Test.YtggblfnajeikjaaGreatJ2
import Derived.Test.YtggblfnajeikjaaGreatJ3
import Derived.Test.YtggblfnajeikjaaGreatJ4
import Derived.Test.YtggblfnajeikjaaGreatJ5
import Derived.Test.YtggblfnajeikjaaGreatJ6
import Derived.Test.YtggblfnajeikjaaGreatJ8
import Derived.Test.YtggblfnajeikjaaGreatJ9
import Derived.Test.YtggblfnajeikjaaGreatJ10
import Derived.Test.YtggblfnajeikjaaGreatJ11
import Derived.Test.YtggblfnajeikjaaGreatJ12
import Derived.Test.YtggblfnajeikjaaGreatJ13
import Derived.Test.YtggblfnajeikjaaGreatJ17
import Derived.Test.YtggblfnajeikjaaGreatJ21
import Derived.Test.YtggblfnajeikjaaGreatJ22
import Derived.Test.YtggblfnajeikjaaGreatJ25
import Derived.Test.YtggblfnajeikjaaGreatJ27
import Derived.Test.YtggblfnajeikjaaGreatJ29
import Derived.Test.YtggblfnajeikjaaGreatJ31
import Derived.Test.YtggblfnajeikjaaGreatJ32
import Derived.Test.YtggblfnajeikjaaGreatJ35
import Derived.Test.YtggblfnajeikjaaGreatJ41
namespace Go.Proofs.YtggblfnajeikjaaGreat
open Go.RowKit Go.Shelf
set_option linter.unusedVariables false
set_option linter.unusedSimpArgs false
attribute [local go_sem] Oper.semAt_some

def upQ {α : Type} (f : Nat → α) (k : Nat) : List α := (List.range k).map f
theorem upQ_s {α : Type} (f : Nat → α) (k : Nat) : upQ f (k + 1) = upQ f k ++ [f k] := by simp [upQ, List.range_succ]
theorem upQ_len {α : Type} (f : Nat → α) (k : Nat) : (upQ f k).length = k := by simp [upQ]
theorem upQ_all (zs : List Int) : upQ (fun j => zs[j]?.getD 0) zs.length = zs := by
  apply List.ext_getElem
  · simp [upQ]
  · intro i h1 h2
    simp [upQ, h2]
theorem upQ_take (zs : List Int) {k : Nat} (hk : k ≤ zs.length) : upQ (fun j => zs[j]?.getD 0) k = zs.take k := by
  apply List.ext_getElem
  · simp [upQ, hk]
  · intro i h1 h2
    have : i < zs.length := by simp [upQ] at h1; omega
    simp [upQ, this]
set_option maxRecDepth 100000 in
set_option maxHeartbeats 2000000 in
theorem v_values1 (F : Fence) (n : Nat) (h7 : F.fn 133) (hro : F.round = none) (hn : 1 ≤ n) (l Bs n₀ b off len cap : Nat) (zs : List Int) (hreach : len * 8 ≤ 140737488351232) (hb : b < n₀) (J Jx : List Int → World → Prop)
    (hY : ∀ pre x W, J pre W → pre.length < len → YieldAt F (n - 1) Tryz.prog l #[.int .i64 x] W fun e W' =>
      (e = .returned (.bool true) ∧ J (pre ++ [x]) W' ∧ Below n₀ W W') ∨ (e = .returned (.bool false) ∧ Jx (pre ++ [x]) W'))
    (W : World) (hBs : W.cell? ⟨Bs, 0, none⟩ = some (.slice (some ⟨b, off, none⟩) len cap)) (hc : ∀ j, j < len → W.cell? ⟨b, off + j, none⟩ = some (.int .i64 (zs[j]?.getD 0))) (h0 : J [] W) :
    CallsIn F n Tryz.prog 133 #[.func (.yield l) #[] #[], .pointer (some ⟨Bs, 0, none⟩)] W fun e W' => (∃ v, e = .returned v) ∧
      ((∃ ys, ys = upQ (fun j => zs[j]?.getD 0) len ∧ J ys W') ∨ (∃ pre, (∃ k, k ≤ len ∧ pre = upQ (fun j => zs[j]?.getD 0) k) ∧ Jx pre W')) := by
  refine callsIn_of_wp Tryz.func133 rfl h7 ?_ hro
  simp only [Tryz.ntmps133, List.size_toArray, List.length_cons, List.length_nil, Nat.reduceAdd, Nat.reduceSub, Array.replicate_succ, Array.replicate_zero, List.push_toArray, List.append_toArray, List.nil_append, List.cons_append]
  gi_wp2
  gi_loopw [7] (fun i wr => ∃ k : Nat, k ≤ len ∧ i = .int .i64 k ∧ J (upQ (fun j => zs[j]?.getD 0) k) wr ∧ Below n₀ W wr)
    (fun i _ => len - (intOf i).toNat)
  case atStart => exact ⟨0, Nat.zero_le _, rfl, h0, Below.refl _ _⟩
  case round =>
    obtain ⟨k, hk, rfl, hJs, hnx⟩ := hrel
    have hcx : k < len → wr.cell? ⟨b, off + k, none⟩ = some (.int .i64 (zs[k]?.getD 0)) := fun h => (hnx.cell (p := ⟨b, off + k, none⟩) hb).trans (hc k h)
    by_cases hlt : k < len
    · obtain ⟨fn, tmps, assign, body, hy, hR⟩ := hY _ (zs[k]?.getD 0) wr hJs (by rw [upQ_len]; exact hlt)
      have hcx' := hcx hlt
      gi_wp2
      refine hR.mono ?_
      rintro e W3 (⟨rfl, hJ3, hk3⟩ | ⟨rfl, hJx3⟩)
      · gi_wp2
        go_roundw
        case rel => exact ⟨k + 1, by omega, by simp, by rw [upQ_s]; exact hJ3, hnx.trans hk3⟩
        case measure => simp [intOf]; omega
      · gi_wp2
        refine bodyPost_ret (results_none rfl _ _ _) rfl ?_
        exact ⟨⟨_, rfl⟩, .inr ⟨_, ⟨k + 1, by omega, (upQ_s _ _).symm⟩, hJx3⟩⟩
    · obtain rfl : k = len := by omega
      gi_wp2
      go_end0
      exact ⟨⟨_, rfl⟩, .inl ⟨_, rfl, hJs⟩⟩

set_option maxHeartbeats 1000000 in
theorem f_ValuesQ (a : Option Addr) (len cap : Nat) (w : World) : Calls Tryz.prog 119 #[.slice a len cap] w fun e w' => e = .returned (.func (.func 133) #[] #[.pointer (some ⟨w.heap.size, 0, none⟩)]) ∧ w' = w.alloc (.cells #[.slice a len cap] 33) := by
  go_enter Tryz.func119, Tryz.ntmps119
  go_wp2
  go_ret
  exact ⟨rfl, rfl⟩
theorem v_stops (F : Fence) (n : Nat) (h7 : F.fn 133) (hro : F.round = none) (hn : 1 ≤ n) (Bs n₀ b off cap : Nat) (zs : List Int) (hreach : zs.length * 8 ≤ 140737488351232) (hb : b < n₀) (w : World) (hBs : Bs < w.heap.size) (hn₀ : n₀ ≤ w.heap.size)
    (hc : w.cell? ⟨Bs, 0, none⟩ = some (.slice (some ⟨b, off, none⟩) zs.length cap)) (hI : ∀ j, j < zs.length → w.cell? ⟨b, off + j, none⟩ = some (.int .i64 (zs[j]?.getD 0))) :
    SeqStopsK F n Tryz.prog 133 #[.pointer (some ⟨Bs, 0, none⟩)] (fun x : Int => #[Value.int .i64 x]) (Below n₀) (fun ys => ys = zs) (fun pre => pre <+: zs) zs.length w := fun l J Jx W hW _ _ hY h0 => by
  have hc' := (hW.cell (p := ⟨Bs, 0, none⟩) hBs).trans hc
  refine (v_values1 F n h7 hro hn l Bs n₀ b off zs.length cap zs hreach hb J Jx hY W hc' (fun j hj => ((hW.mono hn₀).cell (p := ⟨b, off + j, none⟩) hb).trans (hI j hj)) h0).mono ?_
  rintro e W' ⟨he, ⟨ys, rfl, hj⟩ | ⟨pre, ⟨k, hk, rfl⟩, hj⟩⟩
  · exact ⟨he, .inl ⟨_, upQ_all zs, hj⟩⟩
  · exact ⟨he, .inr ⟨_, by rw [upQ_take zs hk]; exact List.take_prefix _ _, hj⟩⟩

theorem infoQ : (Tryz.prog.info? 3).map (fun i => (i.zero, i.size, i.bytes)) = some (some (.int .i64 0), 1, 8) := by kernel_rfl
set_option maxRecDepth 100000 in
set_option maxHeartbeats 2000000 in
theorem v_AppendSeq (F : Fence) (n : Nat) (h3 : F.fn 145) (h5 : F.fn 133) (hro : F.round = none) (hn : 3 ≤ n) (Bs b off cap : Nat) (zs : List Int) (hlen : zs.length ≤ 1000000) (w : World) (hb : b < w.heap.size)
    (hBs : w.cell? ⟨Bs, 0, none⟩ = some (.slice (some ⟨b, off, none⟩) zs.length cap)) (hI : ∀ j, j < zs.length → w.cell? ⟨b, off + j, none⟩ = some (.int .i64 (zs[j]?.getD 0))) :
    CallsIn F n Tryz.prog 145 #[.slice none 0 0, .func (.func 133) #[] #[.pointer (some ⟨Bs, 0, none⟩)]] w fun e W' => ∃ v, e = .returned v ∧ W'.ownsRow w.heap.size 3 1 v zs.length (zs.map (Value.int .i64)) ∧ Below w.heap.size w W' := by
  have h1 : 1 ≤ n := by omega
  obtain ⟨i0, hi, hz0, hz1, hz2⟩ := info_parts infoQ
  have hBl := World.block_lt_of_cell? _ _ hBs
  refine callsIn_of_wp_marks Tryz.func145 rfl h3 ?_ hro
  simp only [Tryz.ntmps145, List.size_toArray, List.length_cons, List.length_nil, Nat.reduceAdd, Nat.reduceSub, Array.replicate_succ, Array.replicate_zero, List.push_toArray, List.append_toArray, List.nil_append, List.cons_append]
  gi_wp2
  have bO := Boxed.new w 33 (.slice none 0 0)
  have hB0 : Below w.heap.size w (w.alloc (.cells #[.slice none 0 0] 33)) := (Below.refl _ w).alloc (Nat.le_refl _) _
  refine wpIn_rangeFunc_ownG hro h1 (gf := 133) (lb := #[.pointer (some ⟨Bs, 0, none⟩)]) rfl h5 (enters_of Tryz.func133 (by kernel_rfl) rfl)
    (v_stops F (n - 1) h5 hro (by omega) Bs w.heap.size b off cap zs (by omega) hb _ (by simp; omega) (by simp) ((hB0.cell hBl).trans hBs) (fun j hj => (hB0.cell (p := ⟨b, off + j, none⟩) hb).trans (hI j hj))) belowK_t (belowK_b (by simp)) (Below.refl _ _) (fun _ => rfl)
    (fun pre W => (∃ v, Boxed W w.heap.size 33 v ∧ W.ownsRow w.heap.size 3 1 v pre.length (pre.map (Value.int .i64)) ∧ True) ∧ Below w.heap.size w W)
    (fun _ _ _ => False)
    (OwnFrom.and (Go.Own.from (holdsRow_own w.heap.size w.heap.size 33 3 1 (fun pre : List Int => pre.length) (fun pre => pre.map (Value.int .i64)) (fun pre v => True)) _) (ownFrom_below (Nat.le_refl _) (by simp)))
    (fun _ _ _ _ _ hs _ _ => hs)
    ⟨⟨_, bO, World.ownsRow_nil _ _ _ _, trivial⟩, hB0⟩
    (fun x => { tmps := #[.slice none 0 0, .func (.func 133) #[] #[.pointer (some ⟨Bs, 0, none⟩)], .pointer (some ⟨w.heap.size, 0, none⟩), undef, .slice none 0 0, .int .i64 x, .func (.func 133) #[] #[.pointer (some ⟨Bs, 0, none⟩)], .int .i64 x, undef, undef, undef, undef, undef], defers := [] }) ?assign ?body ?done ?stop
  case assign =>
    intro l x W K hK
    gi_wp2
    exact hK
  case body =>
    rintro l pre x W ⟨⟨v, hv, hrow, _⟩, hB⟩ hlt
    have hc := hv.cell
    gi_wp2_with (gi_at_builtin; refine wpListIn_append_own _ rfl _ _ 33 rfl w.heap.size 3 i0 (.int .i64 0) 1 8 Tryz.underlying33 hi hz0 hz1 hz2 rfl (by decide) _ _ _ rfl (hrow.alloc _) ⟨W.heap.size, 0, none⟩ 1 1 [.int .i64 x] rfl rfl (cell_one_new _ _ _) (by simp [Value.oneCell']) (by simp only [maxLen]; omega) (by omega) (by have := hB.size; simp; omega) ?_; intro v' w1 hown' hgrow _; obtain ⟨g', cap', rfl⟩ := ownsRow_succ hown'; obtain ⟨hv1, hv2, hr2, hk2, hb2⟩ := hv.appended (by decide) hrow hB.size (Nat.le_refl _) hown' hgrow; have hc1 := hv1.cell; have hf1 := hv1.frozen)
    exact ⟨hk2.from _, hb2, ⟨_, hv2, by simpa using hr2, trivial⟩, hB.trans hb2⟩
  case done =>
    rintro D ys W hD rfl ⟨⟨v, hv, hrow, _⟩, hB⟩ hK
    have hc := hv.cell
    gi_wp2
    refine ⟨by simp, .inl ⟨_, _, rfl, run_takeDeferred hK, ?_⟩⟩
    exact ⟨_, results_tmp rfl _ _ _, v, rfl, ownsRow_putObj hrow _ hK rfl, hB.trans (belowK_b (w := w) (Nat.le_refl _) W D _ _ (by simp at hD; omega) hK rfl rfl)⟩
  case stop =>
    rintro D c pre W _ _ h _
    exact h.elim

end Go.Proofs.YtggblfnajeikjaaGreat

namespace Go.Proofs.YtggblfnajeikjaaGreat
open Go.RowKit
set_option linter.unusedVariables false
set_option linter.unusedSimpArgs false

theorem own_of_row {w : World} {E B : Nat} {v : Value} {xs : List Value} (h : w.ownsRow B E 1 v xs.length xs) : Own w E B v xs := by
  obtain ⟨_, ⟨rfl, h0⟩ | ⟨g, cap, cur, rfl, hg, hh, hn, hm, hs, ht⟩⟩ := h
  · exact .inl ⟨rfl, List.length_eq_zero_iff.1 h0⟩
  · refine .inr ⟨g, 0, cap, cur, rfl, hg, hh, hn, Nat.le_trans hm (by simp [maxLen]), by omega, fun j u hj => ?_⟩
    rw [← ht, List.getElem?_take] at hj
    split at hj
    · rw [Nat.zero_add, ← Array.getElem?_toList]; exact hj
    · cases hj
set_option maxHeartbeats 1000000 in
theorem f_Collect (Bs b off cap : Nat) (zs : List Int) (hlen : zs.length ≤ 1000000) (w : World) (hb : b < w.heap.size)
    (hBs : w.cell? ⟨Bs, 0, none⟩ = some (.slice (some ⟨b, off, none⟩) zs.length cap)) (hI : ∀ j, j < zs.length → w.cell? ⟨b, off + j, none⟩ = some (.int .i64 (zs[j]?.getD 0))) :
    Calls Tryz.prog 132 #[.func (.func 133) #[] #[.pointer (some ⟨Bs, 0, none⟩)]] w (RetOwn 3 (ints zs) w) := by
  have HA := Lib.hid ((callsIn_wide (n := 3)).1 (v_AppendSeq Fence.wide 3 trivial trivial rfl (by omega) Bs b off cap zs hlen w hb hBs hI))
  clear hBs hI hb
  go_enter Tryz.func132, Tryz.ntmps132
  go_wp2_with (go_at_call 145; refine HA.out.mono ?_; rintro e w1 ⟨v1, rfl, o1, b1⟩)
  go_ret
  exact ⟨_, rfl, own_of_row (by simpa [ints] using o1), b1⟩
set_option maxHeartbeats 1000000 in
theorem f_SortedQ (Bs b off cap : Nat) (zs : List Int) (hlen : zs.length ≤ 1000000) (h0 : 0 < zs.length) (w : World) (hb : b < w.heap.size)
    (hBs : w.cell? ⟨Bs, 0, none⟩ = some (.slice (some ⟨b, off, none⟩) zs.length cap)) (hI : ∀ j, j < zs.length → w.cell? ⟨b, off + j, none⟩ = some (.int .i64 (zs[j]?.getD 0))) :
    Calls Tryz.prog 118 #[.func (.func 133) #[] #[.pointer (some ⟨Bs, 0, none⟩)]] w (RetOwn 3 (ints (msort zs)) w) := by
  have HC := Lib.hid (f_Collect Bs b off cap zs hlen w hb hBs hI)
  have HSO := Lib.hid (fun (v : Value) (W : World) (ho : Own W 3 w.heap.size v (ints zs)) => f_SortI v _ w.heap.size W ho h0 hlen)
  clear hBs hI hb h0
  go_enter Tryz.func118, Tryz.ntmps118
  go_wp2_with (first
    | (go_at_call 132; refine HC.out.mono ?_; rintro e w1 ⟨v1, rfl, o1, b1⟩)
    | (go_at_call 111; refine (HSO.out _ _ o1).mono ?_; rintro e w2 ⟨rfl, o2, g2⟩))
  go_ret
  exact ⟨_, rfl, o2, b1.grown g2 b1.size fun r hr => (o1.lt r hr).1⟩

theorem msort_312 : msort [3, 1, 2] = [1, 2, 3] := by
  simp [msort, List.mergeSort, List.MergeSort.Internal.splitInTwo, List.merge]
set_option maxHeartbeats 1000000 in
theorem i_median31 (b off c : Nat) (w : World) (h : Rd w (.slice (some ⟨b, off, none⟩) 3 c) (ints [3, 1, 2])) : Calls Tryz.prog 84 #[.slice (some ⟨b, off, none⟩) 3 c] w (RetB (.int .i64 2) w) := by
  have hcs : ∀ j, j < 3 → w.cell? ⟨b, off + j, none⟩ = some (.int .i64 (([3, 1, 2] : List Int)[j]?.getD 0)) := fun j hj => by
    obtain ⟨ad, y, e, hc, hy⟩ := h.int (k := j) (by simpa using hj)
    cases e
    have hy' := hy.out
    rw [hy']
    have e2 : (⟨b, off, none⟩ : Addr).add j = ⟨b, off + j, none⟩ := by cases j <;> simp [Addr.add]
    rwa [e2] at hc
  have hbl : b < w.heap.size := World.block_lt_of_cell? _ _ (hcs 0 (by omega))
  have hbA := (Below.refl w.heap.size w).alloc (Nat.le_refl _) (.cells #[.slice (some ⟨b, off, none⟩) 3 c] 33)
  have hnew := box_cell (heap_alloc_new w (.cells #[.slice (some ⟨b, off, none⟩) 3 c] 33)) 0
  have HS := Lib.hid (f_SortedQ w.heap.size b off c [3, 1, 2] (by simp) (by simp) (w.alloc (.cells #[.slice (some ⟨b, off, none⟩) 3 c] 33)) (by simp; omega) hnew (fun j hj => (hbA.cell (p := ⟨b, off + j, none⟩) hbl).trans (hcs j (by simpa using hj))))
  rw [msort_312] at HS
  have HV := Lib.hid (f_ValuesQ (some ⟨b, off, none⟩) 3 c w)
  clear hcs hnew h
  go_enter Tryz.func84, Tryz.ntmps84
  go_wp2_with (first
    | (go_at_call 119; refine HV.out.mono ?_; rintro e w1 ⟨rfl, rfl⟩)
    | (go_at_call 118; refine HS.out.mono ?_; rintro e w2 ⟨v2, rfl, o2, b2⟩; have b02 := hbA.trans (b2.mono hbA.size); obtain ⟨a2, n2, c2, rfl, HN2, _, _⟩ := o2.rd.formN; obtain rfl : n2 = 3 := HN2.out; obtain ⟨ad, y, rfl, hc, hy⟩ := o2.rd.int (k := 1) (by decide); obtain rfl : y = 2 := (by have := hy.out; simpa using this.symm); have hc' : w2.cell? ⟨ad.block, ad.off + 1, none⟩ = some (.int .i64 2) := (by simpa [Addr.add] using hc); clear hy HN2 hc))
  go_ret
  exact ⟨rfl, b02⟩

set_option maxHeartbeats 1000000 in
theorem i_WindowMedians31 (b off c : Nat) (w : World) (h : Rd w (.slice (some ⟨b, off, none⟩) 3 c) (ints [3, 1, 2])) : Calls Tryz.prog 38 #[.slice (some ⟨b, off, none⟩) 3 c, .int .i64 3] w (RetOwn 3 (ints [2]) w) := by
  have HO := Lib.hid (i_ofWindows31 _ w h (fun W hW => i_median31 b off c W hW))
  clear h
  go_enter Tryz.func38, Tryz.ntmps38
  go_wp2_with (go_at_call 83; refine HO.out.mono ?_; rintro e w1 ⟨v1, rfl, o1, b1⟩)
  go_ret
  exact ⟨_, rfl, o1, b1⟩

end Go.Proofs.YtggblfnajeikjaaGreat
