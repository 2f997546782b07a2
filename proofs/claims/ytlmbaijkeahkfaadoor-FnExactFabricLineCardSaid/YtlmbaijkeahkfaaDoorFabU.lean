/- Walks: rounds of paths, in the reference. -/
import Derived.Test.YtlmbaijkeahkfaaDoorFabT
namespace Go.Proofs.YtlmbaijkeahkfaaDoor
open Go.RowKit
set_option linter.unusedVariables false
set_option linter.unusedSimpArgs false

/-- Is a round free for i, by its first t members? -/
def frT (n k : Nat) (x : Nat → Nat) (i : Nat) (r : List Int) (t : Nat) : Bool := !(r.take t).any fun q => meetB n k (x i) i (x q.toNat) q.toNat
theorem frT_zero (n k : Nat) (x : Nat → Nat) (i : Nat) (r : List Int) : frT n k x i r 0 = true := by simp [frT]
theorem frT_succ {n k i t q : Nat} {x : Nat → Nat} {r : List Int} (h : r[t]? = some (q : Int)) : frT n k x i r (t + 1) = (frT n k x i r t && !meetB n k (x i) i (x q) q) := by
  rw [frT, frT, take_snoc' h, List.any_append]
  simp
theorem frT_all (n k : Nat) (x : Nat → Nat) (i : Nat) (r : List Int) : frT n k x i r r.length = frB n k x i r := by rw [frT, List.take_length]; rfl

set_option maxRecDepth 100000 in
set_option maxHeartbeats 8000000 in
theorem s_RoundsNeeded (v : Value) (n k : Nat) (x : Nat → Nat) (w : World) (hs : Stg n k) (H : Ord n x) (hst : stagedB (natA n x) = true) (h : Rd w v (ints (natA n x))) : Calls Tryd.prog 55 #[v] w (RetB (.int .i64 ((rK n k x n).length : Nat)) w) := by
  obtain ⟨a, c, rfl, hnc, hc⟩ := h.formi
  rw [natA_len] at h hnc ⊢
  have hk3 : k ≤ 3 := by rcases hs with ⟨_, rfl⟩ | ⟨_, rfl⟩ | ⟨_, rfl⟩ <;> omega
  have hn8 : 2 ≤ n ∧ n ≤ 8 := by rcases hs with ⟨rfl, _⟩ | ⟨rfl, _⟩ | ⟨rfl, _⟩ <;> omega
  obtain ⟨ad, rfl, _⟩ := h.cell (k := 0) (by rw [ints_length, natA_len]; omega)
  have HIS := Lib.hid (hst ▸ s_l15Order _ _ w h)
  have HP := Lib.hid (fun (i : Nat) (hi : i < n) W => s_l15Path n k (x i) i W hs (H.lx i hi) hi)
  have HM := Lib.hid (fun (i j : Nat) (v1 v2 : Value) W (h1 : Rd W v1 (ints (pathL n k (x i) i k))) (h2 : Rd W v2 (ints (pathL n k (x j) j k))) => s_l15Meet n k (x i) i (x j) j v1 v2 W h1 h2 hk3)
  have HC := Lib.hid (fun (W : World) (hW : Below w.heap.size w W) (i : Nat) (hi : i < n) => (h.below hW).cell_int' (natA_get x hi))
  have HRI := Lib.hid (fun i => rK_inv n k x i)
  have HRS : Hid (∀ i, rK n k x (i + 1) = rStep (frB n k x i) i (rK n k x i)) := fun i => rfl
  go_enter Tryd.func55, Tryd.ntmps55
  go_wp2_with (go_at_call 52; refine HIS.out.mono ?_; rintro e w1 ⟨rfl, hb1⟩)
  have hO1 : Own2 (w1.alloc (.cells #[] 22)) 22 3 w.heap.size (w1.alloc (.cells #[] 22)).heap.size (.slice (some ⟨w1.heap.size, 0, none⟩) 0 0) [] := by
    refine ⟨[], by simpa [ints] using Own.lit0 w1 22 (B := w.heap.size) hb1.size, fun g hg => ?_, RowsOwn.nil _ _ _ _⟩
    simp [Value.ownBlock] at hg
    simp
    omega
  have hB1 : Below w.heap.size w (w1.alloc (.cells #[] 22)) := hb1.alloc hb1.size _
  go_loopg [4, 19] n (fun g vo iv wr => ∃ i : Nat, g = n - i ∧ i ≤ n ∧ iv = .int .i64 i ∧ Own2 wr 22 3 w.heap.size wr.heap.size vo (rK n k x i) ∧ Below w.heap.size w wr)
  case atStart => exact ⟨0, rfl, Nat.zero_le _, rfl, hO1, hB1⟩
  case round =>
    clear hO1 hB1 hb1
    obtain ⟨i, hg, hi, rfl, ho, hb⟩ := hrel
    obtain ⟨R, hRe⟩ : ∃ R, rK n k x i = R := ⟨_, rfl⟩
    have HI := Lib.hid (HRI.out i)
    have HS1 := Lib.hid (HRS.out i)
    rw [hRe] at ho HI HS1
    obtain ⟨ao, co, rfl, _, _⟩ := ho.form
    have hRl : R.length ≤ 8 := by have := HI.out.1; omega
    obtain ⟨m, hm⟩ : ∃ m, R.length = m := ⟨_, rfl⟩
    have HMR := Lib.hid hm
    rw [hm] at ho hRl ⊢
    clear hm
    by_cases hlt : i < n
    · have cx := HC.out wr hb i hlt
      have hsz := hb.size
      clear hRe
      go_wp2
      clear cx
      obtain ⟨wo, hwo⟩ : ∃ wo : World, wo = wr := ⟨_, rfl⟩
      rw [← hwo] at ho hb hsz ⊢
      clear hwo
      go_loopg [7] m (fun g tv wr => ∃ t : Nat, g = m - t ∧ t ≤ m ∧ tv = .int .i64 t ∧ Hid (∀ (q : Nat) y, q < t → R[q]? = some y → frB n k x i y = false) ∧ Below wo.heap.size wo wr)
      case atStart => exact ⟨0, rfl, Nat.zero_le _, rfl, fun q y h => by omega, Below.refl _ _⟩
      case round =>
        obtain ⟨t, hgt, htm, rfl, HNO, hbt⟩ := hrel
        have hot : Own2 wr 22 3 w.heap.size wo.heap.size (.slice ao m co) R := ho.below hbt
        have hbw := hb.trans (hbt.mono hb.size)
        by_cases hltt : t < m
        · obtain ⟨ado, br, mr, cr, xs, rfl, hcr, HXS, HMX, hmcr, hcr9, hrr⟩ := hot.rd.row (k := t) (by rw [HMR.out]; exact hltt)
          have hq := (HI.out.2 xs (List.mem_of_getElem? HXS.out)).2
          have hxl := (HI.out.2 xs (List.mem_of_getElem? HXS.out)).1
          have hmr : mr ≤ 8 := by have := HMX.out; omega
          have HFA : Hid (frT n k x i xs mr = frB n k x i xs) := by rw [Hid, HMX.out]; exact frT_all _ _ _ _ _
          have HF0 : Hid (frT n k x i xs 0 = true) := frT_zero _ _ _ _ _
          have HQ := Lib.hid hq
          clear hq
          go_wp2
          clear hcr
          obtain ⟨wt, hwt⟩ : ∃ wt : World, wt = wr := ⟨_, rfl⟩
          rw [← hwt] at hot hbw hbt hrr ⊢
          clear hwt
          go_loopg [8, 33] mr (fun g fv jv wr => ∃ j : Nat, g = mr - j ∧ j ≤ mr ∧ jv = .int .i64 j ∧ fv = .bool (frT n k x i xs j) ∧ Below wt.heap.size wt wr)
          case atStart => exact ⟨0, rfl, Nat.zero_le _, rfl, by rw [HF0.out], Below.refl _ _⟩
          case round =>
            obtain ⟨j, hgj, hjm, rfl, rfl, hbj⟩ := hrel
            have hbwj := hbw.trans (hbj.mono hbw.size)
            by_cases hltj : j < mr
            · obtain ⟨adx, y, hal, hcy, hy⟩ := (hrr.below hbj).int (k := j) (by rw [← HMX.out]; exact hltj)
              subst hal
              obtain ⟨q, hyq, hqi⟩ := HQ.out y (List.mem_of_getElem? hy.out)
              subst hyq
              have hqn : q < n := by omega
              have HFS : Hid (frT n k x i xs (j + 1) = (frT n k x i xs j && !meetB n k (x i) i (x q) q)) := frT_succ hy.out
              have c2 := HC.out wr hbwj q hqn
              clear hy
              cases hf : frT n k x i xs j
              · have HV : Hid (frT n k x i xs (j + 1) = false) := by rw [Hid, HFS.out, hf]; rfl
                clear hf
                go_wp2
                go_quiet (fail)
                go_wp2_with fail
                go_roundg (mr - (j + 1))
                case measure => omega
                case rel => exact ⟨j + 1, rfl, by omega, by go_num, by rw [HV.out], hbj.trans (Dr.below ((Dr.refl _).step _) _)⟩
              · have HV : Hid (frT n k x i xs (j + 1) = !meetB n k (x i) i (x q) q) := by rw [Hid, HFS.out, hf]; rfl
                have K1 : Hid (∀ W : World, Below wr.heap.size wr W → Calls Tryd.prog 102 #[.int .i64 (n : Int), .int .i64 ((x i : Nat) : Int), .int .i64 (i : Int)] W fun e w' => ∃ v, e = .returned v ∧ Rd w' v (ints (pathL n k (x i) i k)) ∧ Below wr.heap.size wr w' ∧ Below W.heap.size W w') := fun W hW => (HP.out i hlt W).mono fun e w' h => by
                  obtain ⟨vq, rfl, ho, hb⟩ := h
                  exact ⟨vq, rfl, ho.rd, hW.trans (hb.mono hW.size), hb⟩
                have K2 : Hid (∀ W : World, Below wr.heap.size wr W → Calls Tryd.prog 102 #[.int .i64 (n : Int), .int .i64 ((x q : Nat) : Int), .int .i64 (q : Int)] W fun e w' => ∃ v, e = .returned v ∧ Rd w' v (ints (pathL n k (x q) q k)) ∧ Below wr.heap.size wr w' ∧ Below W.heap.size W w') := fun W hW => (HP.out q hqn W).mono fun e w' h => by
                  obtain ⟨vq, rfl, ho, hb⟩ := h
                  exact ⟨vq, rfl, ho.rd, hW.trans (hb.mono hW.size), hb⟩
                have K3 : Hid (∀ (W : World) (v1 v2 : Value), Below wr.heap.size wr W → Rd W v1 (ints (pathL n k (x i) i k)) → Rd W v2 (ints (pathL n k (x q) q k)) → Calls Tryd.prog 101 #[v1, v2] W fun e w' => e = .returned (.bool (meetB n k (x i) i (x q) q)) ∧ Below wr.heap.size wr w') := fun W v1 v2 hW h1 h2 => (HM.out i q v1 v2 W h1 h2).mono fun e w' h => ⟨h.1, hW.trans (h.2.mono hW.size)⟩
                have HT : Hid (∀ wx : World, Below wr.heap.size wr wx → Below wr.heap.size wr wx ∧ wx.cell? (ad.add q) = some (.int .i64 ((x q : Nat) : Int))) := fun wx hb =>
                  ⟨hb, (hb.cell (World.block_lt_of_cell? _ _ c2)).trans c2⟩
                clear hf HFS
                generalize hPI : pathL n k (x i) i k = PI at K1 K3
                generalize hPJ : pathL n k (x q) q k = PJ at K2 K3
                generalize hMI : meetB n k (x i) i (x q) q = mb at K3 HV
                generalize hXJ : x q = xq at K2 HT c2
                clear hPI hPJ hMI hXJ
                go_wp2
                go_region_held3 (fun wx => Below wr.heap.size wr wx ∧ wx.cell? (ad.add q) = some (.int .i64 (xq : Int)))
                  (first | exact HT.out _ gM | exact HT.out _ gB | exact HT.out _ gA | exact HT.out _ (by exact ⟨rfl, rfl, rfl, Nat.le_refl _, fun _ _ => rfl⟩) | go_keep)
                  (first
                    | (go_at_call 102; (with_reducible refine (K1.out _ (by exact (show _ ∧ _ from by assumption).1)).mono ?_); rintro e wA ⟨vA, rfl, rA, gA, rAA⟩; obtain ⟨aA, nA, cA, rfl, _, _, _⟩ := rA.formN)
                    | (go_at_call 102; (with_reducible refine (K2.out _ (by exact (show _ ∧ _ from by assumption).1)).mono ?_); rintro e wB ⟨vB, rfl, rB, gB, rBB⟩; obtain ⟨aB, nB, cB, rfl, _, _, _⟩ := rB.formN)
                    | (go_at_call 101; refine (K3.out _ _ _ (by exact (show _ ∧ _ from by assumption).1) (by first | exact rA | exact rA.below rBB) (by first | exact rB | exact rB.below rAA)).mono ?_; rintro e wM ⟨rfl, gM⟩))
                all_goals
                  go_wp2_with fail
                  go_roundg (mr - (j + 1))
                  case measure => omega
                  case rel => exact ⟨j + 1, rfl, by omega, by go_num, by rw [HV.out], hbj.trans (gM.mono hbj.size)⟩
            · obtain rfl : j = mr := Nat.le_antisymm hjm (Nat.le_of_not_lt hltj)
              rw [HFA.out]
              cases hfr : frB n k x i xs
              · have HN2 : Hid (∀ (q : Nat) y, q < t + 1 → R[q]? = some y → frB n k x i y = false) := fun q y hq hy => by
                  by_cases e : q = t
                  · subst e
                    rw [HXS.out] at hy
                    cases hy
                    exact hfr
                  · exact HNO.out q y (by omega) hy
                clear hfr
                go_wp2
                go_roundg (m - (t + 1))
                case measure => omega
                case rel => exact ⟨t + 1, rfl, by omega, by go_num, HN2, hbt.trans (hbj.mono hbt.size)⟩
              · have he := idxOf2_yes HXS.out hfr HNO.out
                have HRNZ : Hid (R.set t (xs ++ [(i : Int)]) = rK n k x (i + 1)) := by rw [Hid, HS1.out, rStep_in he HXS.out]
                have HMZ := HMR
                have HXZ : Hid (R[t]? = some xs) := HXS
                have hOZ : Own2 wr 22 3 w.heap.size wo.heap.size (.slice (some ado) m co) R := hot.below hbj
                have hBZ : Below w.heap.size w wr := hbwj
                have hTZ : wo.heap.size ≤ wr.heap.size := Nat.le_trans hbt.size hbj.size
                have hTM := hltt
                have d0 : ((t : Int) == (m : Int)) = false := by rw [beq_eq_false_iff_ne]; omega
                have i2 : (t : Int) < (m : Int) := by omega
                obtain ⟨ys, hys⟩ : ∃ ys, xs = ys := ⟨_, rfl⟩
                rw [hys] at HXZ HRNZ hxl
                clear hfr he hys hot hbw hbj hbt hbwj hrr
                obtain ⟨rows, hov, hTT, hrows⟩ := hOZ
                have HRL : Hid (rows.length = m) := by rw [Hid, hrows.1, HMZ.out]
                obtain ⟨r, hr⟩ : ∃ r, rows[t]? = some r := ⟨_, List.getElem?_eq_getElem (by rw [HRL.out]; exact hTM)⟩
                obtain ⟨xs', hx', hor, hrT⟩ := hrows.2.1 t r hr
                obtain rfl : ys = xs' := by rw [HXZ.out] at hx'; exact Option.some.inj hx'
                obtain ⟨aq, mq, cq, rfl, HNQ, _, _⟩ := hor.rd.formN
                have hmq : mq ≤ 8 := by have := HNQ.out; omega
                have HLQ : Hid ((ints ys).length = mq) := by rw [Hid, ints_length, HNQ.out]
                have HRR := Lib.hid hr
                have HCE : Hid (∀ (wx : World) (bo : Addr) (co : Nat), Own wx 22 w.heap.size (.slice (some bo) m co) rows → wx.cell? (bo.add t) = some (.slice aq mq cq)) := fun wx bo co hx => by
                  obtain ⟨ad2, e, hc2⟩ := hx.rd.cell (k := t) (by rw [HRL.out]; exact hTM)
                  have h2 := HRR.out
                  injection e with e
                  rw [List.getElem?_eq_getElem (by rw [HRL.out]; exact hTM)] at h2
                  injection h2 with h2
                  rw [e, hc2, h2]
                obtain ⟨bo, rfl⟩ : ∃ bo, bo = ado := ⟨_, rfl⟩
                have hcq := HCE.out _ _ _ hov
                have hsb : w.heap.size ≤ wr.heap.size := hBZ.size
                have hj9 : t < rows.length := by rw [HRL.out]; exact hTM
                clear hr hx'
                go_wp2_with (at_builtin; (refine wpList_app1m rfl _ _ 22 rfl elI ?_ hor ?_ ?_ hsb mq HLQ.out (by omega) (by omega) ?_); (focus exact rfl); (focus (simp [Act.eval])); (focus exact rfl); intro b7 c7 w7 ho7 hg7 hat7; have hoo7 := hov.apart hg7 (hov.elem_ne hor (by decide)); have hcq7 := HCE.out _ _ _ hoo7; have hfq7 := hoo7.frozen rfl t)
                have hR7 := hrows.set (ys := ys ++ [(i : Int)]) HRR.out hg7 (by rw [ints_append]; exact ho7) (Nat.le_trans hTZ hg7.size) (fun g hg => by
                  rcases hat_of hat7 g hg with e | e
                  · exact .inl e
                  · exact .inr (by omega)) (fun g hg => (ho7.lt g hg).2)
                have hb7 := hBZ.grown hg7 hsb (fun r hr => (hor.lt r hr).1)
                have hst := hoo7.set rfl hj9 (.slice b7 (mq + 1) c7)
                have hR8 := hR7.outer hst.2 hoo7 (by decide)
                rw [HRNZ.out] at hR8
                have hb8 := hb7.grown hst.2 hb7.size (fun r hr => (hoo7.lt r hr).1)
                go_roundg (n - (i + 1))
                case measure => omega
                case rel => exact ⟨i + 1, rfl, by omega, by go_num, ⟨_, hst.1, fun g hg => (hst.1.lt g hg).2, hR8.mono (Nat.le_refl _) (by simp)⟩, ⟨hb8.os, hb8.tape, hb8.output, hb8.size, hb8.block⟩⟩
        · obtain rfl : t = m := Nat.le_antisymm htm (Nat.le_of_not_lt hltt)
          have he : idxOf2 (frB n k x i) R = -1 := idxOf2_no fun q y hq hy => HNO.out q y (by rw [← HMR.out]; exact hq) hy
          have HRNZ : Hid ((R ++ [[]]).set t (([] : List Int) ++ [(i : Int)]) = rK n k x (i + 1)) := by
            rw [Hid, HS1.out, rStep_new he, ← HMR.out]
            simp
          obtain ⟨rows, hov, hTT, hrows⟩ := hot
          have HRL0 : Hid (rows.length = t) := by rw [Hid, hrows.1, HMR.out]
          have hsw := hbw.size
          have hbA : Below wr.heap.size wr (wr.alloc (.cells #[] 3)) := (Below.refl _ _).alloc (Nat.le_refl _) _
          have hE : Own (wr.alloc (.cells #[] 3)) 3 w.heap.size (.slice (some ⟨wr.heap.size, 0, none⟩) 0 0) (ints []) := Own.lit0 wr 3 hsw
          have hovA := hov.below hbA
          have hrowsA := hrows.below hbA
          have hsA : w.heap.size ≤ (wr.alloc (.cells #[] 3)).heap.size := by simp; omega
          clear he
          have hTW : wo.heap.size ≤ wr.heap.size := hbt.size
          go_upto_region 20 with (at_builtin; (refine wpList_app1m rfl _ _ 27 rfl elII ?_ hovA ?_ ?_ ?_ t ?_ ?_ ?_ ?_); (focus exact rfl); (focus (simp [Act.eval])); (focus exact rfl); (focus exact hsA); (focus exact HRL0.out); (focus omega); (focus omega); intro b5 c5 w5 ho5 hg5 hat5)
          have hOZ := Own2.app (hrowsA.snoc hE (fun k hk => by simp [Value.ownBlock] at hk; simp; omega) (show wo.heap.size ≤ (wr.alloc (.cells #[] 3)).heap.size by simp; omega)) hovA (by decide) hg5 ho5 hg5.size
          have hBZ : Below w.heap.size w w5 := (hbw.trans (hbA.mono hsw)).grown hg5 hsA fun r hr => (hovA.lt r hr).1
          have HMZ : Hid ((R ++ [[]]).length = t + 1) := by rw [Hid, List.length_append, HMR.out]; rfl
          obtain ⟨ys, hys⟩ : ∃ ys : List Int, [] = ys := ⟨_, rfl⟩
          have hxl : ys.length ≤ i := by rw [← hys]; exact Nat.zero_le _
          have HXZ : Hid ((R ++ [[]])[t]? = some ys) := by rw [Hid, ← hys, ← HMR.out]; simp
          have HRNZ2 : Hid ((R ++ [[]]).set t (ys ++ [(i : Int)]) = rK n k x (i + 1)) := by rw [← hys]; exact HRNZ
          have hTM : t < t + 1 := Nat.lt_succ_self _
          have hTZ : w5.heap.size ≤ w5.heap.size := Nat.le_refl _
          have i2 : (t : Int) < (t : Int) + 1 := by omega
          clear hys HRNZ hov hrows hTT hE hovA hrowsA hsA hg5 hat5 ho5 hbA
          have HRNZ := HRNZ2
          clear HRNZ2
          obtain ⟨rows, hov, hTT, hrows⟩ := hOZ
          have HRL : Hid (rows.length = (t + 1)) := by rw [Hid, hrows.1, HMZ.out]
          obtain ⟨r, hr⟩ : ∃ r, rows[t]? = some r := ⟨_, List.getElem?_eq_getElem (by rw [HRL.out]; exact hTM)⟩
          obtain ⟨xs', hx', hor, hrT⟩ := hrows.2.1 t r hr
          obtain rfl : ys = xs' := by rw [HXZ.out] at hx'; exact Option.some.inj hx'
          obtain ⟨aq, mq, cq, rfl, HNQ, _, _⟩ := hor.rd.formN
          have hmq : mq ≤ 8 := by have := HNQ.out; omega
          have HLQ : Hid ((ints ys).length = mq) := by rw [Hid, ints_length, HNQ.out]
          have HRR := Lib.hid hr
          have HCE : Hid (∀ (wx : World) (bo : Addr) (co : Nat), Own wx 22 w.heap.size (.slice (some bo) (t + 1) co) rows → wx.cell? (bo.add t) = some (.slice aq mq cq)) := fun wx bo co hx => by
            obtain ⟨ad2, e, hc2⟩ := hx.rd.cell (k := t) (by rw [HRL.out]; exact hTM)
            have h2 := HRR.out
            injection e with e
            rw [List.getElem?_eq_getElem (by rw [HRL.out]; exact hTM)] at h2
            injection h2 with h2
            rw [e, hc2, h2]
          obtain ⟨bo, rfl⟩ := hov.some_of (by rw [HRL.out]; omega)
          have hcq := HCE.out _ _ _ hov
          have hsb : w.heap.size ≤ w5.heap.size := hBZ.size
          have hj9 : t < rows.length := by rw [HRL.out]; exact hTM
          clear hr hx'
          go_wp2_with (at_builtin; (refine wpList_app1m rfl _ _ 22 rfl elI ?_ hor ?_ ?_ hsb mq HLQ.out (by omega) (by omega) ?_); (focus exact rfl); (focus (simp [Act.eval])); (focus exact rfl); intro b7 c7 w7 ho7 hg7 hat7; have hoo7 := hov.apart hg7 (hov.elem_ne hor (by decide)); have hcq7 := HCE.out _ _ _ hoo7; have hfq7 := hoo7.frozen rfl t)
          have hR7 := hrows.set (ys := ys ++ [(i : Int)]) HRR.out hg7 (by rw [ints_append]; exact ho7) (Nat.le_trans hTZ hg7.size) (fun g hg => by
            rcases hat_of hat7 g hg with e | e
            · exact .inl e
            · exact .inr (by omega)) (fun g hg => (ho7.lt g hg).2)
          have hb7 := hBZ.grown hg7 hsb (fun r hr => (hor.lt r hr).1)
          have hst := hoo7.set rfl hj9 (.slice b7 (mq + 1) c7)
          have hR8 := hR7.outer hst.2 hoo7 (by decide)
          rw [HRNZ.out] at hR8
          have hb8 := hb7.grown hst.2 hb7.size (fun r hr => (hoo7.lt r hr).1)
          go_roundg (n - (i + 1))
          case measure => omega
          case rel => exact ⟨i + 1, rfl, by omega, by go_num, ⟨_, hst.1, fun g hg => (hst.1.lt g hg).2, hR8.mono (Nat.le_refl _) (by simp)⟩, ⟨hb8.os, hb8.tape, hb8.output, hb8.size, hb8.block⟩⟩
    · obtain rfl : i = n := Nat.le_antisymm hi (Nat.le_of_not_lt hlt)
      have HRE := Lib.hid hRe
      have HMM : Hid ((rK i k x i).length = m) := by rw [Hid, HRE.out, HMR.out]
      clear hRe
      go_wp2
      go_ret
      exact ⟨ret_int (by rw [HMM.out]), hb⟩

end Go.Proofs.YtlmbaijkeahkfaaDoor
