/- Walks: orders that pass through stages, and rounds of paths, in the reference. -/
import Derived.Test.YtlmbaijkeahkfaaDoorFabQ
import Derived.Test.YtlmbaijkeahkfaaDoorFabR
namespace Go.Proofs.YtlmbaijkeahkfaaDoor
open Go.RowKit
set_option linter.unusedVariables false
set_option linter.unusedSimpArgs false

theorem s_l15N (n : Nat) (w : World) : Calls Tryd.prog 100 #[.int .i64 (n : Int)] w fun e w' => e = .returned (.bool (decide (0 < stgK n))) ∧ w = w' := by
  by_cases h2 : n = 2
  · subst h2
    go_enter Tryd.func100, Tryd.ntmps100
    go_wp2
    go_ret
    exact ⟨rfl, rfl⟩
  · by_cases h4 : n = 4
    · subst h4
      go_enter Tryd.func100, Tryd.ntmps100
      go_wp2
      go_ret
      exact ⟨rfl, rfl⟩
    · by_cases h8 : n = 8
      · subst h8
        go_enter Tryd.func100, Tryd.ntmps100
        go_wp2
        go_ret
        exact ⟨rfl, rfl⟩
      · have HR : Hid (decide (0 < stgK n) = false) := by simp [Hid, stgK, h2, h4, h8]
        have d2 : ((n : Int) == 2) = false := by rw [beq_eq_false_iff_ne]; omega
        have d4 : ((n : Int) == 4) = false := by rw [beq_eq_false_iff_ne]; omega
        have d8 : ((n : Int) == 8) = false := by rw [beq_eq_false_iff_ne]; omega
        clear h2 h4 h8
        go_enter Tryd.func100, Tryd.ntmps100
        go_wp2
        go_ret
        exact ⟨ret_bool HR.out.symm, rfl⟩
theorem s_l15Order (v : Value) (xs : List Int) (w : World) (h : Rd w v (ints xs)) : Calls Tryd.prog 52 #[v] w (RetB (.bool (stagedB xs)) w) := by
  obtain ⟨a, n, c, rfl, HN, hnc, hc⟩ := h.formN
  have HS := Lib.hid (fun W => s_l15N n W)
  by_cases h0 : 0 < stgK n
  · have hk3 := stgK_ok h0
    have hn8 : n ≤ 8 ∧ stgK n ≤ 3 := by rcases hk3 with ⟨e, e2⟩ | ⟨e, e2⟩ | ⟨e, e2⟩ <;> omega
    have HK := s_l02Perm _ xs w h (by have := HN.out; omega)
    rw [← HN.out] at HK
    have HR : Hid (stagedB xs = ordB n xs) := by rw [Hid, stagedB, ← HN.out]; simp [h0]
    have HK2 := Lib.hid HK
    rw [decide_eq_true h0] at HS
    clear HK hk3 h0
    go_enter Tryd.func52, Tryd.ntmps52
    go_wp2_with (first
      | (go_at_call 100; refine (HS.out _).mono ?_; rintro e w' ⟨rfl, rfl⟩)
      | (go_at_call 79; refine HK2.out.mono ?_; rintro e w' ⟨rfl, hb⟩))
    go_ret
    exact ⟨by rw [HR.out]; rfl, hb⟩
  · have HR : Hid (stagedB xs = false) := by rw [Hid, stagedB, ← HN.out]; simp [h0]
    rw [decide_eq_false h0] at HS
    clear h0
    go_enter Tryd.func52, Tryd.ntmps52
    go_wp2_with (go_at_call 100; refine (HS.out _).mono ?_; rintro e w' ⟨rfl, rfl⟩)
    go_ret
    exact ⟨ret_bool HR.out.symm, Below.refl _ _⟩

set_option maxRecDepth 100000 in
set_option maxHeartbeats 4000000 in
theorem s_CanPass (v : Value) (n k : Nat) (x : Nat → Nat) (w : World) (hs : Stg n k) (H : Ord n x) (hst : stagedB (natA n x) = true) (h : Rd w v (ints (natA n x))) : Calls Tryd.prog 54 #[v] w (RetB (.bool (passB n k x)) w) := by
  obtain ⟨a, c, rfl, hnc, hc⟩ := h.formi
  rw [natA_len] at h hnc ⊢
  have hk3 : k ≤ 3 := by rcases hs with ⟨_, rfl⟩ | ⟨_, rfl⟩ | ⟨_, rfl⟩ <;> omega
  have hn8 : 2 ≤ n ∧ n ≤ 8 := by rcases hs with ⟨rfl, _⟩ | ⟨rfl, _⟩ | ⟨rfl, _⟩ <;> omega
  obtain ⟨ad, rfl, _⟩ := h.cell (k := 0) (by rw [ints_length, natA_len]; omega)
  have HIS := Lib.hid (hst ▸ s_l15Order _ _ w h)
  have HP := Lib.hid (fun (i : Nat) (hi : i < n) W => s_l15Path n k (x i) i W hs (H.lx i hi) hi)
  have HM := Lib.hid (fun (i j : Nat) (v1 v2 : Value) W (h1 : Rd W v1 (ints (pathL n k (x i) i k))) (h2 : Rd W v2 (ints (pathL n k (x j) j k))) => s_l15Meet n k (x i) i (x j) j v1 v2 W h1 h2 hk3)
  have HC := Lib.hid (fun (W : World) (hW : Below w.heap.size w W) (i : Nat) (hi : i < n) => (h.below hW).cell_int' (natA_get x hi))
  have HY : Hid ((∀ i, i < n → ∀ j, j < i → meetB n k (x i) i (x j) j = false) → passB n k x = true) := passB_yes
  have HN : Hid (∀ i j, i < n → j < i → meetB n k (x i) i (x j) j = true → passB n k x = false) := fun i j => passB_no
  generalize passB n k x = r at HY HN ⊢
  go_enter Tryd.func54, Tryd.ntmps54
  go_wp2_with (go_at_call 52; refine HIS.out.mono ?_; rintro e w1 ⟨rfl, hb1⟩)
  go_loopg [13] n (fun g iv wr => ∃ i : Nat, g = n - i ∧ i ≤ n ∧ iv = .int .i64 i ∧ Hid (∀ i', i' < i → ∀ j, j < i' → meetB n k (x i') i' (x j) j = false) ∧ Below w.heap.size w wr)
  case atStart => exact ⟨0, rfl, Nat.zero_le _, rfl, fun i h => by omega, hb1⟩
  case round =>
    clear hb1
    obtain ⟨i, hg, hi, rfl, HI, hb⟩ := hrel
    by_cases hlt : i < n
    · go_wp2
      go_loopg [5] i (fun g jv wr => ∃ j : Nat, g = i - j ∧ j ≤ i ∧ jv = .int .i64 j ∧ Hid (∀ j', j' < j → meetB n k (x i) i (x j') j' = false) ∧ Below w.heap.size w wr)
      case atStart => exact ⟨0, rfl, Nat.zero_le _, rfl, fun i h => by omega, hb⟩
      case round =>
        clear hb
        obtain ⟨j, hgj, hj, rfl, HJ, hb⟩ := hrel
        by_cases hltj : j < i
        · have c1 := HC.out wr hb i hlt
          have c2 := HC.out wr hb j (by omega)
          have hjn : j < n := by omega
          have K1 : Hid (∀ W : World, Below wr.heap.size wr W → Calls Tryd.prog 102 #[.int .i64 (n : Int), .int .i64 ((x i : Nat) : Int), .int .i64 (i : Int)] W fun e w' => ∃ v, e = .returned v ∧ Rd w' v (ints (pathL n k (x i) i k)) ∧ Below wr.heap.size wr w' ∧ Below W.heap.size W w') := fun W hW => (HP.out i hlt W).mono fun e w' h => by
            obtain ⟨vq, rfl, ho, hb⟩ := h
            exact ⟨vq, rfl, ho.rd, hW.trans (hb.mono hW.size), hb⟩
          have K2 : Hid (∀ W : World, Below wr.heap.size wr W → Calls Tryd.prog 102 #[.int .i64 (n : Int), .int .i64 ((x j : Nat) : Int), .int .i64 (j : Int)] W fun e w' => ∃ v, e = .returned v ∧ Rd w' v (ints (pathL n k (x j) j k)) ∧ Below wr.heap.size wr w' ∧ Below W.heap.size W w') := fun W hW => (HP.out j hjn W).mono fun e w' h => by
            obtain ⟨vq, rfl, ho, hb⟩ := h
            exact ⟨vq, rfl, ho.rd, hW.trans (hb.mono hW.size), hb⟩
          have K3 : Hid (∀ (W : World) (v1 v2 : Value), Below wr.heap.size wr W → Rd W v1 (ints (pathL n k (x i) i k)) → Rd W v2 (ints (pathL n k (x j) j k)) → Calls Tryd.prog 101 #[v1, v2] W fun e w' => e = .returned (.bool (meetB n k (x i) i (x j) j)) ∧ Below wr.heap.size wr w') := fun W v1 v2 hW h1 h2 => (HM.out i j v1 v2 W h1 h2).mono fun e w' h => ⟨h.1, hW.trans (h.2.mono hW.size)⟩
          have HT : Hid (∀ wx : World, Below wr.heap.size wr wx → Below wr.heap.size wr wx ∧ wx.cell? (ad.add i) = some (.int .i64 ((x i : Nat) : Int)) ∧ wx.cell? (ad.add j) = some (.int .i64 ((x j : Nat) : Int))) := fun wx hb =>
            ⟨hb, (hb.cell (World.block_lt_of_cell? _ _ c1)).trans c1, (hb.cell (World.block_lt_of_cell? _ _ c2)).trans c2⟩
          have HME : Hid ((meetB n k (x i) i (x j) j = false → ∀ j', j' < j + 1 → meetB n k (x i) i (x j') j' = false) ∧ (meetB n k (x i) i (x j) j = true → r = false)) := ⟨fun hm j' hj' => by
            by_cases e : j' = j
            · subst e; exact hm
            · exact HJ.out j' (by omega), HN.out i j hlt hltj⟩
          generalize hPI : pathL n k (x i) i k = PI at K1 K3
          generalize hPJ : pathL n k (x j) j k = PJ at K2 K3
          generalize hMI : meetB n k (x i) i (x j) j = m at K3 HME
          generalize hXI : x i = xi at K1 HT c1
          generalize hXJ : x j = xj at K2 HT c2
          have HXI := Lib.hid hXI
          clear c1 c2 hPI hPJ hMI hXJ hXI
          go_wp2
          go_region_held3 (fun wx => Below wr.heap.size wr wx ∧ wx.cell? (ad.add i) = some (.int .i64 (xi : Int)) ∧ wx.cell? (ad.add j) = some (.int .i64 (xj : Int)))
            (first | exact HT.out _ gM | exact HT.out _ gB | exact HT.out _ gA | exact HT.out _ (by exact ⟨rfl, rfl, rfl, Nat.le_refl _, fun _ _ => rfl⟩) | go_keep)
            (first
              | (go_at_call 102; (with_reducible refine (K1.out _ (by exact (show _ ∧ _ ∧ _ from by assumption).1)).mono ?_); rintro e wA ⟨vA, rfl, rA, gA, rAA⟩; obtain ⟨aA, nA, cA, rfl, _, _, _⟩ := rA.formN)
              | (go_at_call 102; (with_reducible refine (K2.out _ (by exact (show _ ∧ _ ∧ _ from by assumption).1)).mono ?_); rintro e wB ⟨vB, rfl, rB, gB, rBB⟩; obtain ⟨aB, nB, cB, rfl, _, _, _⟩ := rB.formN)
              | (go_at_call 101; refine (K3.out _ _ _ (by exact (show _ ∧ _ ∧ _ from by assumption).1) (by first | exact rA | exact rA.below rBB) (by first | exact rB | exact rB.below rAA)).mono ?_; rintro e wM ⟨rfl, gM⟩))
          all_goals
            cases m
            · have HJ2 := Lib.hid (HME.out.1 rfl)
              go_wp2_with fail
              go_roundg (i - (j + 1))
              case measure => omega
              case rel => exact ⟨j + 1, rfl, by omega, by go_num, HJ2, hb.trans (gM.mono hb.size)⟩
            · have HE := Lib.hid (HME.out.2 rfl)
              go_wp2_with fail
              go_ret
              exact ⟨ret_bool HE.out.symm, hb.trans (gM.mono hb.size)⟩
        · obtain rfl : j = i := Nat.le_antisymm hj (Nat.le_of_not_lt hltj)
          have HI2 : Hid (∀ i', i' < j + 1 → ∀ q, q < i' → meetB n k (x i') i' (x q) q = false) := fun i' hi' => by
            by_cases e : i' = j
            · subst e; exact HJ.out
            · exact HI.out i' (by omega)
          go_wp2
          go_roundg (n - (j + 1))
          case measure => omega
          case rel => exact ⟨j + 1, rfl, by omega, by go_num, HI2, hb⟩
    · obtain rfl : i = n := Nat.le_antisymm hi (Nat.le_of_not_lt hlt)
      have HE := Lib.hid (HY.out HI.out)
      go_wp2
      go_ret
      exact ⟨ret_bool HE.out.symm, hb⟩

end Go.Proofs.YtlmbaijkeahkfaaDoor
