/- Walks: networks read back from texts, in the reference. -/
import Derived.Test.YtdfjopcfgpigoaaConsole
import Derived.Deep.RegionLaw
import Derived.IntWalk
namespace Go.Proofs.Ytdfjopcfgpigoaa
open Go.RowKit
set_option linter.unusedVariables false
set_option linter.unusedSimpArgs false

theorem own_ne_box {w : World} {E B F g : Nat} {v : Value} {xs : List Value} {cur : Array Value} (h : Own w E B v xs) (hb : w.heap[g]? = some (.cells cur F (0, 0))) (hne : F ≠ E) : v.ownBlock ≠ some g := by
  intro e
  rcases h with ⟨rfl, _⟩ | ⟨g1, o1, c1, cur1, rfl, _, hh1, _⟩
  · cases e
  · simp only [Value.ownBlock, Option.some.injEq] at e
    subst e
    rw [hh1] at hb
    injection hb with hb
    injection hb with _ e
    exact hne e.symm
theorem box_lt {w : World} {g F : Nat} {cur : Array Value} (hb : w.heap[g]? = some (.cells cur F (0, 0))) : g < w.heap.size := (Array.getElem?_eq_some_iff.1 hb).1
theorem box_cell {w : World} {g F : Nat} {cur : Array Value} (hb : w.heap[g]? = some (.cells cur F (0, 0))) (i : Nat) : w.cell? ⟨g, i, none⟩ = cur[i]? := cell_of_row w g i cur F (0, 0) hb

theorem itoa_dig {n : Int} (h : 0 ≤ n ∧ n ≤ 9) : Lib.itoa n = [UInt8.ofNat (48 + n.toNat)] := by
  rw [Lib.itoa, if_neg (by omega), decDigits_small (by omega)]
theorem fmtPair_dig {x y : Int} (hx : 0 ≤ x ∧ x ≤ 9) (hy : 0 ≤ y ∧ y ≤ 9) : fmtPair [x, y] = [32, UInt8.ofNat (48 + x.toNat), 45, UInt8.ofNat (48 + y.toNat)] := by
  show [32] ++ Lib.itoa x ++ [45] ++ Lib.itoa y = _
  rw [itoa_dig hx, itoa_dig hy]
  rfl
theorem fmtK_facts {n : Int} {xss : List (List Int)} (hok : netOk n xss = true) : ∀ k, k ≤ xss.length → (fmtK n xss k).length = 2 + 4 * k ∧ (fmtK n xss k)[0]? = some (UInt8.ofNat (48 + n.toNat)) ∧
    ∀ j x y, j < k → xss[j]? = some [x, y] → (fmtK n xss k)[2 + 4 * j + 1]? = some (UInt8.ofNat (48 + x.toNat)) ∧ (fmtK n xss k)[2 + 4 * j + 3]? = some (UInt8.ofNat (48 + y.toNat))
  | 0, _ => by
    obtain ⟨hn, _, _⟩ := netOk_iff.1 hok
    rw [fmtK, itoa_dig (by omega)]
    exact ⟨rfl, rfl, fun j x y h => by omega⟩
  | k + 1, h => by
    obtain ⟨hn, _, hr⟩ := netOk_iff.1 hok
    obtain ⟨i1, i2, i3⟩ := fmtK_facts hok k (by omega)
    obtain ⟨x, y, hxy, hx, hy, _⟩ := netRow_iff (hr _ (List.getElem_mem (show k < xss.length by omega)))
    have e : xss.getD k [] = [x, y] := by rw [List.getD_eq_getElem?_getD, List.getElem?_eq_getElem (by omega), hxy]; rfl
    rw [fmtK, e, fmtPair_dig (by omega) (by omega)]
    refine ⟨by rw [List.length_append, i1]; rfl, by rw [List.getElem?_append_left (by omega)]; exact i2, fun j x' y' hj hq => ?_⟩
    by_cases ej : j = k
    · subst ej
      rw [List.getElem?_eq_getElem (by omega), hxy] at hq
      injection hq with hq
      injection hq with q1 hq
      injection hq with q2 _
      subst q1
      subst q2
      rw [List.getElem?_append_right (by omega), List.getElem?_append_right (by omega), i1]
      rw [show 2 + 4 * j + 1 - (2 + 4 * j) = 1 by omega, show 2 + 4 * j + 3 - (2 + 4 * j) = 3 by omega]
      exact ⟨rfl, rfl⟩
    · obtain ⟨q1, q2⟩ := i3 j x' y' (by omega) hq
      have hl1 := (List.getElem?_eq_some_iff.1 q1).1
      have hl2 := (List.getElem?_eq_some_iff.1 q2).1
      rw [List.getElem?_append_left hl1, List.getElem?_append_left hl2]
      exact ⟨q1, q2⟩
theorem bstr_get {l : List UInt8} {i x : Nat} (h : l[i]? = some (UInt8.ofNat x)) (hx : x ≤ 255) (hi : i < (bstr l).size) : ((bstr l)[i]'hi).toNat = x := by
  obtain ⟨h1, h2⟩ := List.getElem?_eq_some_iff.1 h
  have e : (bstr l)[i]'hi = l[i]'h1 := rfl
  rw [e, h2]
  simp
  omega
set_option maxRecDepth 100000 in
set_option maxHeartbeats 8000000 in
theorem s_ParseOk (n : Int) (xss : List (List Int)) (w : World) (hok : netOk n xss = true) :
    Calls Try.prog 68 #[.string (bstr (fmtK n xss xss.length))] w fun e w' => ∃ v, e = .returned (.tuple #[.agg #[.int .i64 n, v], .bool true]) ∧ Own2 w' 42 3 w.heap.size w'.heap.size v xss ∧ Below w.heap.size w w' := by
  obtain ⟨hn, hl, hr⟩ := netOk_iff.1 hok
  obtain ⟨m, hm⟩ : ∃ m, xss.length = m := ⟨_, rfl⟩
  obtain ⟨f1, f2, f3⟩ := fmtK_facts hok xss.length (Nat.le_refl _)
  rw [hm] at f1 f2 f3 hl ⊢
  obtain ⟨S, hS⟩ : ∃ S, bstr (fmtK n xss m) = S := ⟨_, rfl⟩
  have hsz : S.size = 2 + 4 * m := by rw [← hS, bstr_size]; exact f1
  have hS0 : ∀ hi : 0 < S.size, (S[0]'hi).toNat = 48 + n.toNat := by rw [← hS]; exact fun hi => bstr_get f2 (by omega) hi
  have HS1 : Hid (∀ k x y, k < m → xss[k]? = some [x, y] → ∀ (h1 : 2 + 4 * k + 1 < S.size) (h3 : 2 + 4 * k + 3 < S.size), (S[2 + 4 * k + 1]'h1).toNat = 48 + x.toNat ∧ (S[2 + 4 * k + 3]'h3).toNat = 48 + y.toNat) := by
    rw [← hS]
    exact fun k x y hk hq h1 h3 => by
      obtain ⟨_, _, hr2⟩ := netOk_iff.1 hok
      obtain ⟨x', y', e, hx, hy, _⟩ := netRow_iff (hr2 _ (List.mem_of_getElem? hq))
      injection e with e1 e2
      injection e2 with e2 _
      subst e1
      subst e2
      obtain ⟨q1, q2⟩ := f3 k x y hk hq
      exact ⟨bstr_get q1 (by omega) h1, bstr_get q2 (by omega) h3⟩
  have HS := Lib.hid hS
  have HM := Lib.hid hm
  have HOK := Lib.hid hok
  have HR := Lib.hid hr
  rw [hS]
  clear hS hm hok hr f1 f2 f3
  have h0 : 0 < S.size := by omega
  have hS00 := Lib.hid (hS0 h0)
  have i1 : ¬ S.size < 2 := by omega
  have i2 : ¬ 300 < S.size := by omega
  have HSZ := Lib.hid hsz
  clear hS0 hsz
  have hs1 : (S[0]'h0).toNat ≤ 57 := by have := hS00.out; omega
  have hs2 : 48 ≤ (S[0]'h0).toNat := by have := hS00.out; omega
  have hw0 : Below w.heap.size w (w.alloc (.cells #[.int .i64 0, .slice none 0 0] 32)) := (Below.refl _ _).alloc (Nat.le_refl _) _
  go_enter Try.func68, Try.ntmps68
  go_upto_region 5 with (fail)
  have hn0 : ((S[0]'h0).toNat : Int) - 48 = n := by have := hS00.out; omega
  rw [hn0]
  obtain ⟨wA, hwA⟩ : ∃ wA, (w.alloc (.cells #[.int .i64 0, .slice none 0 0] 32)).alloc (.cells #[.int .i64 n, .slice none 0 0] 32) = wA := ⟨_, rfl⟩
  have hAb : wA.heap[w.heap.size + 1]? = some (.cells #[.int .i64 n, .slice none 0 0] 32 (0, 0)) := by
    rw [← hwA]
    have := heap_alloc_new (w.alloc (.cells #[.int .i64 0, .slice none 0 0] 32)) (.cells #[.int .i64 n, .slice none 0 0] 32)
    simpa using this
  have hAr : wA.heap[w.heap.size]? = some (.cells #[.int .i64 0, .slice none 0 0] 32 (0, 0)) := by
    rw [← hwA]
    exact (Below.heap_alloc _ _ _ (by simp)).trans (heap_alloc_new w _)
  have hAB : Below w.heap.size w wA := by rw [← hwA]; exact hw0.alloc (by simp) _
  rw [hwA]
  clear hwA hn0 hs1 hs2 hw0
  obtain ⟨bx, hbx⟩ : ∃ bx, w.heap.size + 1 = bx := ⟨_, rfl⟩
  rw [hbx] at hAb ⊢
  have HBX := Lib.hid hbx
  clear hbx
  go_loopg [5] m (fun gq iv wr => ∃ (k : Nat) (vp : Value) (rows : List Value), gq = m - k ∧ k ≤ m ∧ iv = .int .i64 ((2 + 4 * k : Nat) : Int) ∧ wr.heap[bx]? = some (.cells #[.int .i64 n, vp] 32 (0, 0)) ∧ wr.heap[w.heap.size]? = some (.cells #[.int .i64 0, .slice none 0 0] 32 (0, 0)) ∧
    Own wr 42 w.heap.size vp rows ∧ RowsOwn wr 3 w.heap.size wr.heap.size rows (xss.take k) ∧ Below w.heap.size w wr)
  case atStart => exact ⟨0, _, [], rfl, Nat.zero_le _, rfl, hAb, hAr, Own.nil _ _ _, RowsOwn.nil _ _ _ _, hAB⟩
  case round =>
    clear hAb hAr hAB
    obtain ⟨k, vp, rows, hgq, hk, rfl, hB, hRs, ho, hR, hb⟩ := hrel
    have hrl : rows.length = k := by rw [hR.1, List.length_take]; have := HM.out; omega
    obtain ⟨ap, mp, cp, rfl, hmp, hmpc, _⟩ : ∃ a m c, vp = .slice a m c ∧ rows.length = m ∧ m ≤ c ∧ c ≤ 9223372036854775807 := by
      obtain ⟨a, c, e, h1, h2⟩ := ho.rd.form
      exact ⟨a, _, c, e, rfl, h1, h2⟩
    have HSZ2 := HSZ.out
    by_cases hlt : k < m
    · obtain ⟨x, y, hxy, hx, hy, _⟩ := netRow_iff (HR.out _ (List.getElem_mem (show k < xss.length by have := HM.out; omega)))
      have HXY : Hid (xss[k]? = some [x, y]) := by rw [Hid, List.getElem?_eq_getElem (by have := HM.out; omega), hxy]
      obtain ⟨i, hi⟩ : ∃ i : Nat, 2 + 4 * k = i := ⟨_, rfl⟩
      have l1 : i + 1 < S.size := by omega
      have l3 : i + 3 < S.size := by omega
      have hv := HS1.out k x y hlt HXY.out (by omega) (by omega)
      have hv1 : ((S[i + 1]'l1).toNat : Int) = 48 + x := by
        have h1 := hv.1
        simp only [hi] at h1
        omega
      have hv3 : ((S[i + 3]'l3).toNat : Int) = 48 + y := by
        have h1 := hv.2
        simp only [hi] at h1
        omega
      rw [hi]
      have HI := Lib.hid hi
      have j1 : (i : Int) + 3 < (S.size : Int) := by omega
      have a1 : IntKind.i64.wrap ((i : Int) + 1) = ((i + 1 : Nat) : Int) := by rw [IntWalk.i64_in _ (by omega)]; omega
      have a3 : IntKind.i64.wrap ((i : Int) + 3) = ((i + 3 : Nat) : Int) := by rw [IntWalk.i64_in _ (by omega)]; omega
      have b1 : (((i + 1 : Nat) : Int)) < (S.size : Int) := by omega
      have b3 : (((i + 3 : Nat) : Int)) < (S.size : Int) := by omega
      have c1 : IntKind.i64.wrap (48 + x) = 48 + x := IntWalk.i64_in _ (by omega)
      have c3 : IntKind.i64.wrap (48 + y) = 48 + y := IntWalk.i64_in _ (by omega)
      have e1 : IntKind.i64.wrap (48 + x - 48) = x := by rw [IntWalk.i64_in _ (by omega)]; omega
      have e3 : IntKind.i64.wrap (48 + y - 48) = y := by rw [IntWalk.i64_in _ (by omega)]; omega
      have q1 : (0 : Int) ≤ (i : Int) + 1 := by omega
      have q2 : (i : Int) + 1 < (S.size : Int) := by omega
      have q3 : (0 : Int) ≤ (i : Int) + 3 := by omega
      have t3 : ((i : Int) + 3).toNat = i + 3 := by omega
      have t1 : ((i : Int) + 1).toNat = i + 1 := by omega
      have cb := box_cell hB 1
      have hoA := ho.alloc (.cells #[.int .i64 x, .int .i64 y] 3)
      have hsA : w.heap.size ≤ (wr.alloc (.cells #[.int .i64 x, .int .i64 y] 3)).heap.size := by have := hb.size; simp; omega
      have hBA : (wr.alloc (.cells #[.int .i64 x, .int .i64 y] 3)).heap[bx]? = some (.cells #[.int .i64 n, .slice ap mp cp] 32 (0, 0)) := (Below.heap_alloc _ _ _ (box_lt hB)).trans hB
      have cbA := box_cell hBA 1
      have cbB := box_cell ((Below.heap_alloc (wr.alloc (.cells #[.int .i64 x, .int .i64 y] 3)) (.cells #[.slice (some ⟨wr.heap.size, 0, none⟩) 2 2] 42) bx (box_lt hBA)).trans hBA) 1
      clear hv hi HSZ2
      go_upto_region 7 with (fail)
      go_region_law ((refine step_app1 (w := wr.alloc (.cells #[.int .i64 x, .int .i64 y] 3)) (by rfl) _ _ _ (by rfl) elII (by rfl) hoA (by show Value.slice (some ⟨wr.heap.size + 1, 0, none⟩) 1 1 = _; simp) (by rfl) hsA (by omega) (by omega) ?_; intro b6 c6 w6 ho6 hg6 hat6; have hB6 := (hg6.block bx (box_lt hBA) (fun e => own_ne_box hoA hBA (by decide) e.symm)).trans hBA; have hc6 := box_cell hB6 1; have hf6 := frozen_of_row w6 bx 1 _ _ hB6))
      all_goals
        have hR0 : RowsOwn (wr.alloc (.cells #[.int .i64 x, .int .i64 y] 3)) 3 w.heap.size wr.heap.size rows (xss.take k) := hR.alloc _
        have hrow : Own (wr.alloc (.cells #[.int .i64 x, .int .i64 y] 3)) 3 w.heap.size (.slice (some ⟨wr.heap.size, 0, none⟩) 2 2) (ints [x, y]) := own_two (heap_alloc_new wr _) hb.size
        have hR1 := hR0.snoc (T' := wr.heap.size + 1) hrow (fun g hg => by simp [Value.ownBlock] at hg; omega) (by omega)
        have hR6 := hR1.outer hg6 hoA (by decide)
        have hz6 := hg6.size
        have hb6 : Below w.heap.size w w6 := (hb.alloc hb.size _).grown hg6 hsA (fun r hr => (hoA.lt r hr).1)
        have hRes6 : w6.heap[w.heap.size]? = some (.cells #[.int .i64 0, .slice none 0 0] 32 (0, 0)) := (hg6.block _ (by have := box_lt hRs; simp; omega) (fun e => own_ne_box hoA ((Below.heap_alloc _ _ _ (box_lt hRs)).trans hRs) (by decide) e.symm)).trans ((Below.heap_alloc _ _ _ (box_lt hRs)).trans hRs)
        have hbw := HBX.out
        have hB7 := heap_setCell_same w6 bx 1 _ _ (.slice b6 (rows.length + 1) c6) hB6
        have hRes7 := (heap_setCell_other w6 ⟨bx, 1, none⟩ w.heap.size (.slice b6 (rows.length + 1) c6) (by show w.heap.size ≠ bx; omega)).trans hRes6
        have ho7 := ho6.setCell (p := ⟨bx, 1, none⟩) (own_ne_box ho6 hB6 (by decide)) (.slice b6 (rows.length + 1) c6)
        have hg7 : w6.grownBy (w6.setCell ⟨bx, 1, none⟩ (.slice b6 (rows.length + 1) c6)) (some bx) := ⟨rfl, rfl, rfl, by simp, fun i _ hi => heap_setCell_other w6 ⟨bx, 1, none⟩ i _ (fun e => hi (by rw [e]))⟩
        have hR7 := hR6.grown hg7 (fun r hr k hk e => by
          obtain ⟨q, hq, rfl⟩ := List.getElem_of_mem hr
          obtain ⟨ys, _, hoq⟩ := hR6.row (List.getElem?_eq_getElem hq)
          exact own_ne_box hoq hB6 (by decide) (hk.trans e.symm))
        have hb7 := hb6.grown hg7 hb6.size (fun r hr => by cases hr; omega)
        rw [← take_snoc' HXY.out] at hR7
        rw [hrl] at hB7 hRes7 ho7 hR7 hb7
        clear hR0 hrow hR1 hR6 hb6 hRes6 hg7 ho6 hg6 hat6 hB6 hc6 hf6 hoA hsA hBA cbA cbB cb
        go_wp2_with fail
        go_roundg (m - (k + 1))
        case measure => omega
        case rel => exact ⟨k + 1, _, _, rfl, by omega, by have := HI.out; (congr 1; omega), hB7, hRes7, ho7, hR7.mono (Nat.le_refl _) (by simp at hz6; simp; omega), hb7⟩
    · have j1 : ¬ ((2 + 4 * k : Nat) : Int) + 3 < (S.size : Int) := by omega
      obtain rfl : k = m := by omega
      have htk : xss.take k = xss := List.take_of_length_le (by have := HM.out; omega)
      rw [htk] at hR
      have hO2 : Own2 wr 42 3 w.heap.size wr.heap.size (.slice ap mp cp) xss := ⟨rows, ho, fun g hg => (ho.lt g hg).2, hR⟩
      have HN := Lib.hid (s_NetworkOk n _ xss wr hO2.rd ⟨by omega, by omega⟩)
      have HF := Lib.hid (fun wx hx => s_FormatNetworkOk n (.slice ap mp cp) xss wx hx HOK.out)
      have HSE : Hid (bstr (fmtK n xss xss.length) = S) := by rw [Hid, HM.out]; exact HS.out
      have hz := box_lt hB
      have c0 := box_cell hB 0
      have c1 := box_cell hB 1
      have HB := Lib.hid hB
      have HRS := Lib.hid hRs
      rw [HOK.out] at HN
      clear hB hRs htk HSZ2
      go_upto_region 10 with (first
        | (go_at_call 51; refine HN.out.mono ?_; rintro e w5 ⟨rfl, hb5⟩; have d0 := (hb5.cell (p := ⟨bx, 0, none⟩) hz).trans c0; have d1 := (hb5.cell (p := ⟨bx, 1, none⟩) hz).trans c1)
        | (go_at_call 78; refine (HF.out _ (hO2.rd.below hb5)).mono ?_; rintro e w6 ⟨rfl, hb6⟩; rw [HSE.out]))
      have hb56 : Below wr.heap.size wr w6 := hb5.trans (hb6.mono hb5.size)
      have hB6 := (hb56.block bx hz).trans HB.out
      have hRs6 := (hb56.block w.heap.size (box_lt HRS.out)).trans HRS.out
      have hO6 := hO2.below hb56
      have c0' := box_cell hB6 0
      have c1' := box_cell hB6 1
      have r0 := box_cell hRs6 0
      have r1 := box_cell hRs6 1
      have rf := fun i => frozen_of_row w6 w.heap.size i _ _ hRs6
      have HRS6 := Lib.hid hRs6
      clear d0 d1 c0 c1 hRs6
      go_wp2_with fail
      have e1 := heap_setCell_same w6 w.heap.size 0 _ _ (.int .i64 n) HRS6.out
      have e2 := heap_setCell_same _ w.heap.size 1 _ _ (.slice ap mp cp) e1
      obtain ⟨wz, hwz⟩ : ∃ wz, (w6.setCell ⟨w.heap.size, 0, none⟩ (.int .i64 n)).setCell ⟨w.heap.size, 1, none⟩ (.slice ap mp cp) = wz := ⟨_, rfl⟩
      have hgz : w6.grownBy wz (some w.heap.size) := by
        rw [← hwz]
        exact ⟨rfl, rfl, rfl, by simp, fun i _ hi => (heap_setCell_other _ ⟨w.heap.size, 1, none⟩ i _ (fun e => hi (by rw [e]))).trans (heap_setCell_other w6 ⟨w.heap.size, 0, none⟩ i _ (fun e => hi (by rw [e])))⟩
      have hsz6 : wz.heap.size = w6.heap.size := by rw [← hwz]; simp
      rw [hwz] at e2 ⊢
      have q0 := box_cell e2 0
      have q1 := box_cell e2 1
      have ea : (((#[Value.int .i64 0, .slice none 0 0] : Array Value).setIfInBounds 0 (.int .i64 n)).setIfInBounds 1 (.slice ap mp cp)) = #[.int .i64 n, .slice ap mp cp] := rfl
      rw [ea] at q0 q1
      obtain ⟨rows6, ho6, hlt6, hR6⟩ := hO6
      have hoz := ho6.apart hgz (fun g h1 h2 => own_ne_box ho6 HRS6.out (by decide) (h1.trans h2.symm))
      have hRz := hR6.grown hgz (fun r hr g h1 h2 => by
        obtain ⟨q, hq, rfl⟩ := List.getElem_of_mem hr
        obtain ⟨ys, _, hoq⟩ := hR6.row (List.getElem?_eq_getElem hq)
        exact own_ne_box hoq HRS6.out (by decide) (h1.trans h2.symm))
      have hz6 := hb56.size
      have hbz : Below w.heap.size w wz := (hb.trans (hb56.mono hb.size)).grown hgz (by have := hb.size; omega) (fun r hr => by cases hr; exact Nat.le_refl _)
      refine bodyPost_ret (v := .tuple #[.agg #[.int .i64 n, .slice ap mp cp], .bool true]) (by simp [results, Try.results68, go_sem, q0, q1]) rfl ⟨_, rfl, ⟨rows6, hoz, fun g hg => (hoz.lt g hg).2, hRz.mono (Nat.le_refl _) (by omega)⟩, hbz⟩

end Go.Proofs.Ytdfjopcfgpigoaa
