/- Walks: places by their numbers; how far; the line. -/
import Derived.Test.YtdagkgkllgpeeaaDoorDisC
namespace Go.Proofs.YtdagkgkllgpeeaaDoor
open Go.RowKit
set_option linter.unusedVariables false
set_option linter.unusedSimpArgs false

set_option maxHeartbeats 1000000 in
theorem i_stable (v : Value) (T : List Int) (w : World) (h : Rd w v (ints T)) (hl : T.length ≤ 12) : Calls Tryd.prog 226 #[v] w (RetOwn 3 (ints (ordK T T.length)) w) := by
  obtain ⟨a, n, c, rfl, HN, hnc, hc⟩ := h.formN
  have h12 : n ≤ 12 := by have := HN.out; omega
  rw [← HN.out]
  obtain ⟨w1, hw1⟩ : ∃ w1, w.alloc (.cells #[.slice a n c] 22) = w1 := ⟨_, rfl⟩
  have hbx : w1.heap[w.heap.size]? = some (.cells #[.slice a n c] 22 (0, 0)) := by rw [← hw1]; exact heap_alloc_new w _
  have hs1 : w1.heap.size = w.heap.size + 1 := by rw [← hw1]; simp
  have hb1 : Below w.heap.size w w1 := by rw [← hw1]; exact (Below.refl _ _).alloc (Nat.le_refl _) _
  have hcell := box_cell hbx 0
  have HW := Lib.hid (i_wiresN n w1 (by omega))
  have HS := Lib.hid (fun (w2 : World) (v2 : Value) (ho2 : Own w2 3 w1.heap.size v2 (ints ((List.range n).map fun (i : Nat) => (i : Int)))) (hb2 : Below w1.heap.size w1 w2) =>
    f_SortStable40 (ltK T) (fun x => ∃ j : Nat, j < n ∧ x = j) 249 #[.pointer (some ⟨w.heap.size, 0, none⟩)] k_stable1 v2 ((List.range n).map fun (i : Nat) => (i : Int)) n w1.heap.size w2 ho2 (by simp) (by omega)
      (fun x hx => by
        obtain ⟨j, hj, rfl⟩ := List.mem_map.1 hx
        exact ⟨j, List.mem_range.1 hj, rfl⟩)
      (fun wx x y hg hx hy => by
        obtain ⟨X, hX, rfl⟩ := hx
        obtain ⟨Y, hY, rfl⟩ := hy
        have hlt := fun r (hr : v2.ownBlock = some r) => (ho2.lt r hr).1
        have hbw : Below w.heap.size w wx := (hb1.trans (hb2.mono hb1.size)).grown hg (by have := hb1.size; have := hb2.size; omega) (fun r hr => by have := hlt r hr; omega)
        have hc : wx.heap[w.heap.size]? = some (.cells #[.slice a n c] 22 (0, 0)) :=
          (hg.block w.heap.size (by have := hb2.size; omega) (fun e => by have := hlt w.heap.size e.symm; omega)).trans ((hb2.block w.heap.size (by omega)).trans hbx)
        exact i_stable1 T _ ⟨w.heap.size, 0, none⟩ wx (box_cell hc 0) (h.below hbw) X Y (by have := HN.out; omega) (by have := HN.out; omega)))
  go_enter Tryd.func226, Tryd.ntmps226
  go_upto_region 1 with (fail)
  try rw [hw1]
  go_wp2_with (first
    | (go_at_call 204; refine HW.out.mono ?_; rintro e w2 ⟨v2, rfl, ho2, hb2⟩)
    | (go_at_call 136; refine (HS.out w2 v2 ho2 hb2).mono ?_; rintro e w3 ⟨rfl, ho3, hg3⟩))
  go_ret
  exact ⟨_, rfl, ho3.mono (by omega), (hb1.trans (hb2.mono hb1.size)).grown hg3 (by have := hb1.size; have := hb2.size; omega) (fun r hr => by have := (ho2.lt r hr).1; omega)⟩

set_option maxRecDepth 100000 in
set_option maxHeartbeats 8000000 in
theorem s_l19Order (v : Value) (T : List Int) (w : World) (h : Rd w v (ints T)) (hl : T.length ≤ 12) : Calls Tryd.prog 222 #[v] w (RetOwn 3 (ints (ordK T T.length)) w) := by
  obtain ⟨aT, n, cT, rfl, HN, hnc, hc⟩ := h.formN
  have h12 : n ≤ 12 := by have := HN.out; omega
  rw [← HN.out]
  have hA : Own (w.alloc (.cells #[] 3)) 3 w.heap.size (.slice (some ⟨w.heap.size, 0, none⟩) 0 0) (ints (ordK T 0)) := Own.lit0 w 3 (Nat.le_refl _)
  have hb0 : Below w.heap.size w (w.alloc (.cells #[] 3)) := (Below.refl _ _).alloc (Nat.le_refl _) _
  go_enter Tryd.func222, Tryd.ntmps222
  go_wp2
  go_loopg [3, 11] n (fun g vo iv wr => ∃ (k : Nat) (p : Addr) (m c : Nat), g = n - k ∧ k ≤ n ∧ iv = .int .i64 (k : Int) ∧ vo = .slice (some p) m c ∧ Own wr 3 w.heap.size vo (ints (ordK T k)) ∧ Below w.heap.size w wr)
  case atStart => exact ⟨0, _, _, _, rfl, Nat.zero_le _, rfl, rfl, hA, hb0⟩
  case round =>
    clear hA hb0
    obtain ⟨k, p, m, c, hg, hk, rfl, rfl, how, hb⟩ := hrel
    obtain ⟨W, hW⟩ : ∃ W, ordK T k = W := ⟨_, rfl⟩
    have HKW : Hid (KAsc (ltK T) W) := by rw [Hid, ← hW]; exact ordK_asc T k
    have HWL : Hid (∀ x ∈ W, ∃ j : Nat, j < k ∧ x = j) := fun x hx => by rw [← hW] at hx; exact ordK_mem hx
    have HORD : Hid (ordK T (k + 1) = srtS (ltK T) (W ++ [(k : Int)])) := by rw [Hid, ordK_succ, hW]
    have hWl : W.length = k := by rw [← hW]; exact ordK_len T k
    have hmW : Hid (m = W.length) := by
      obtain ⟨_, m', _, e, hm', _, _⟩ := how.rd.formN
      injection e with e1 e2 e3
      rw [Hid, e2, ← hW]; exact hm'.out
    rw [hW] at how
    have HFIN := Lib.hid hW
    have hm12 : m ≤ 12 := by have := hmW.out; omega
    clear hW hWl
    have hsb := hb.size
    by_cases hlt : k < n
    · have i0 : (k : Int) < (n : Int) := by omega
      obtain ⟨ad, t, rfl, hct, ht⟩ := (h.below hb).int (k := k) (by have := HN.out; omega)
      have HTK : Hid (T.getD k 0 = t) := getD_of ht.out
      go_wp2_with fail
      go_loopg [6] m (fun gj q wi => ∃ j : Nat, gj = j ∧ j ≤ m ∧ q = .int .i64 j ∧ Hid (j = W.length ∨ ∃ y, W[j]? = some y ∧ t < ltK T y) ∧ wr = wi)
      case atStart => exact ⟨m, rfl, Nat.le_refl _, rfl, .inl hmW.out, rfl⟩
      case round =>
        obtain ⟨j, hgj, hj, rfl, HG, rfl⟩ := hrel
        by_cases hjs : ∃ y, 0 < j ∧ W[j - 1]? = some y ∧ t < ltK T y
        · obtain ⟨y, hj0, hy, hxy⟩ := hjs
          obtain ⟨i, rfl⟩ : ∃ i, j = i + 1 := ⟨j - 1, by omega⟩
          rw [Nat.add_sub_cancel] at hy
          have hcy := how.rd.cell_i hy
          obtain ⟨Y, hYk, rfl⟩ := HWL.out y (List.mem_of_getElem? hy)
          obtain ⟨ad2, z, had2, hcz, hz⟩ := (h.below hb).int (k := Y) (by have := HN.out; omega)
          obtain rfl : ad = ad2 := by injection had2
          clear had2
          have hzz : ltK T (Y : Int) = z := by rw [ltK_nat]; exact getD_of hz.out
          have HXY := Lib.hid hxy
          rw [hzz] at hxy
          have d3 : decide (z > t) = true := by simpa using hxy
          have d3n : t < z := hxy
          have d0 : decide (((i + 1 : Nat) : Int) > 0) = true := by simp
          have i5 : (Y : Int) < (n : Int) := by omega
          have i6 : (i : Int) < (m : Int) := by omega
          have HY := Lib.hid hy
          clear hy hxy hzz
          go_wp2_with fail
          go_roundg i
          case measure => omega
          case rel => exact ⟨i, rfl, by omega, by go_num, .inr ⟨_, HY.out, HXY.out⟩, rfl⟩
        · have HST2 : Hid (ordK T (k + 1) = W.take j ++ (k : Int) :: W.drop j) := by
            rw [Hid, HORD.out]
            refine last_cut (x := (k : Int)) HKW.out j (by have := hmW.out; omega) ?_ ?_
            · by_cases hj0 : j = 0
              · exact .inl hj0
              · have hy := List.getElem?_eq_getElem (show j - 1 < W.length by have := hmW.out; omega)
                refine .inr ⟨_, hy, ?_⟩
                rw [ltK_nat, HTK.out]
                exact Int.not_lt.mp fun hlt2 => hjs ⟨_, by omega, hy, hlt2⟩
            · rcases HG.out with hg | ⟨y, hy, hlt2⟩
              · exact .inl hg
              · exact .inr ⟨y, hy, by rw [ltK_nat, HTK.out]; exact hlt2⟩
          have hrT : Rd wr (.slice (some p) j c) (ints (W.take j)) := by rw [← ints_take]; exact how.rd.take hj
          have hrC : Rd wr (.slice (if c = j then some p else some (p.add j)) (m - j) (c - j)) (ints (W.drop j)) := by rw [← ints_drop]; exact how.rd.cut hj
          have HT1 : Hid ((ints (W.take j)).length = j) := by rw [Hid, ints_length, List.length_take]; have := hmW.out; omega
          have HT2 : Hid ((ints (W.drop j)).length = m - j) := by rw [Hid, ints_length, List.length_drop]; have := hmW.out; omega
          have hmc : m ≤ c := by obtain ⟨_, m', c', e, _, hmc', _⟩ := how.rd.formN; injection e with e1 e2 e3; omega
          have i1 : (j : Int) ≤ (c : Int) := by omega
          have i2 : (j : Int) ≤ (m : Int) := by omega
          obtain ⟨vC, hvC⟩ : ∃ vC, Value.slice (if c = j then some p else some (p.add j)) (m - j) (c - j) = vC := ⟨_, rfl⟩
          have HVC := Lib.hid hvC
          rw [hvC] at hrC
          clear hvC
          have hcond : (0 < j ∧ decide ((j : Int) > 0) = true) ∨ j = 0 := by
            rcases Nat.eq_zero_or_pos j with h0 | h0
            · exact .inr h0
            · exact .inl ⟨h0, by simp; omega⟩
          rcases hcond with ⟨hj0, hd0⟩ | hj0
          all_goals first
            | (have hj9 : j = 0 := hj0
               subst hj9
               have d0 : decide (((0 : Nat) : Int) > 0) = false := rfl
               replace HVC : Hid (Value.slice (some p) m c = vC) := by
                 have := HVC.out
                 rw [show (if c = 0 then some p else some (p.add 0)) = some p by unfold Addr.add; simp] at this
                 exact this)
            | (obtain ⟨i, rfl⟩ : ∃ i, j = i + 1 := ⟨j - 1, by omega⟩
               have hyl := List.getElem?_eq_getElem (show i < W.length by have := hmW.out; omega)
               obtain ⟨y, hy⟩ : ∃ y, W[i]? = some y := ⟨_, hyl⟩
               clear hyl
               have hcy := how.rd.cell_i hy
               obtain ⟨Y, hYk, rfl⟩ := HWL.out y (List.mem_of_getElem? hy)
               obtain ⟨ad2, z, had2, hcz, hz⟩ := (h.below hb).int (k := Y) (by have := HN.out; omega)
               obtain rfl : ad = ad2 := by injection had2
               clear had2
               have hzz : ltK T (Y : Int) = z := by rw [ltK_nat]; exact getD_of hz.out
               have d3n : ¬ t < z := fun hlt2 => hjs ⟨_, by omega, hy, by rw [hzz]; exact hlt2⟩
               have d3 : decide (z > t) = false := by simpa using d3n
               have d0 : decide (((i + 1 : Nat) : Int) > 0) = true := by simp
               have i5 : (Y : Int) < (n : Int) := by omega
               have i6 : (i : Int) < (m : Int) := by omega
               clear hy hzz)
          all_goals
            clear hjs HG
            go_wp2_with (first
              | (at_builtin; (refine wpList_copy (B := w.heap.size) rfl _ _ 22 rfl elI hrT rfl rfl (oneCell_ints1 _) hsb _ HT1.out (by omega) (by omega) ?_); intro b1 c1 w1 ho1 hb1)
              | (at_builtin; refine wpList_app1m rfl _ _ 22 rfl elI rfl ho1 (by show Value.slice (some ⟨w1.heap.size, 0, none⟩) 1 1 = _; simp) rfl hb1.size _ HT1.out (by omega) (by omega) ?_; intro b2 c2 w2 ho2 hg2 hat2; have hb2 := hb1.grown hg2 hb1.size (fun r hr => (ho1.lt r hr).1))
              | (at_builtin; refine wpList_appn rfl _ _ 22 rfl elI ho2 (hrC.below hb2) rfl (by rw [← HVC.out]; first | rfl | simp | (simp [*])) (oneCell_ints1 _) hb2.size (m + 1) (by rw [List.length_append, HT1.out, HT2.out]; simp; omega) (by omega) (by omega) ?_; intro b3 c3 w6 ho3 hg3 hat3; have hb3 := hb2.grown hg3 hb2.size (fun r hr => (ho2.lt r hr).1)))
            all_goals
              have ho3' : Own w6 3 wr.heap.size (.slice b3 (m + 1) c3) (ints (ordK T (k + 1))) := by rw [HST2.out]; simpa [ints] using ho3
              obtain ⟨p, rfl⟩ := ho3'.some_of (by rw [HST2.out]; simp [ints] <;> omega)
              have hb6 := hb.trans (hb3.mono hsb)
              go_roundg (n - (k + 1))
              case measure => omega
              case rel => exact ⟨k + 1, _, _, _, rfl, by omega, by go_num, rfl, ho3'.mono hsb, hb6⟩
    · obtain rfl : k = n := by omega
      go_wp2_with fail
      go_ret
      exact ⟨_, rfl, by rw [HFIN.out]; exact how, hb⟩

end Go.Proofs.YtdagkgkllgpeeaaDoor
