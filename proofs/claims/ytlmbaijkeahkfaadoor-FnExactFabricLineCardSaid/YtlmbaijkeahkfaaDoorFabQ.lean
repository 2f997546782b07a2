/- Walks: paths through stages, in the reference. -/
import Derived.Test.YtlmbaijkeahkfaaDoorFabP
import Derived.Test.YtlmbaijkeahkfaaDoorBits3
namespace Go.Proofs.YtlmbaijkeahkfaaDoor
open Go.RowKit
set_option linter.unusedVariables false
set_option linter.unusedSimpArgs false

theorem s_l15Stages (n k : Nat) (w : World) (hs : Stg n k) : Calls Tryd.prog 143 #[.int .i64 (n : Int)] w fun e w' => e = .returned (.int .i64 (k : Int)) ∧ w = w' := by
  have hk : 1 ≤ k ∧ k ≤ 3 := by rcases hs with ⟨_, rfl⟩ | ⟨_, rfl⟩ | ⟨_, rfl⟩ <;> omega
  have hnk : n = 2 ^ k := by rcases hs with ⟨rfl, rfl⟩ | ⟨rfl, rfl⟩ | ⟨rfl, rfl⟩ <;> rfl
  have HW := Lib.hid (fun (j : Nat) (hj : j ≤ k) => shl_of j (by omega))
  have HLT : Hid (∀ j, j < k → 2 ^ j < n) := fun j hj => by rw [hnk]; exact Nat.pow_lt_pow_right (by omega) hj
  have HEQ := Lib.hid hnk
  clear hs hnk
  go_enter Tryd.func143, Tryd.ntmps143
  go_wp2
  go_loopg [3] k (fun g jv wr => ∃ j : Nat, g = k - j ∧ j ≤ k ∧ jv = .int .i64 j ∧ w = wr)
  case atStart => exact ⟨0, rfl, Nat.zero_le _, rfl, rfl⟩
  case round =>
    obtain ⟨j, hg, hj, rfl, rfl⟩ := hrel
    have e1 := HW.out j hj
    by_cases hlt : j < k
    · have e2 := HLT.out j hlt
      generalize 2 ^ j = M at e1 e2
      have i1 : (M : Int) < (n : Int) := by omega
      go_wp2
      try rw [e1]
      go_roundg (k - (j + 1))
      case measure => omega
      case rel => exact ⟨j + 1, rfl, by omega, by go_num, rfl⟩
    · obtain rfl : j = k := Nat.le_antisymm hj (Nat.le_of_not_lt hlt)
      have e2 := HEQ.out
      rw [← e2] at e1
      have i1 : ¬ (n : Int) < (n : Int) := by omega
      go_wp2
      go_ret
      exact ⟨rfl, rfl⟩

theorem s_l15Shuffle (n k p : Nat) (w : World) (hs : Stg n k) (hp : p < n) : Calls Tryd.prog 144 #[.int .i64 (n : Int), .int .i64 (p : Int)] w fun e w' => e = .returned (.int .i64 ((shf n p : Nat) : Int)) ∧ w = w' := by
  have hn8 : 2 ≤ n ∧ n ≤ 8 := by rcases hs with ⟨rfl, _⟩ | ⟨rfl, _⟩ | ⟨rfl, _⟩ <;> omega
  have hev : n % 2 = 0 := by rcases hs with ⟨rfl, _⟩ | ⟨rfl, _⟩ | ⟨rfl, _⟩ <;> rfl
  by_cases h : p < n / 2
  · have HR : Hid (((shf n p : Nat) : Int) = 2 * (p : Int)) := by rw [Hid, shf, if_pos h]; omega
    have i1 : (p : Int) < (n : Int) / 2 := by omega
    go_enter Tryd.func144, Tryd.ntmps144
    go_wp2
    go_ret
    exact ⟨ret_int HR.out.symm, rfl⟩
  · have HR : Hid (((shf n p : Nat) : Int) = 2 * (p : Int) + 1 - (n : Int)) := by rw [Hid, shf, if_neg h]; omega
    have i1 : ¬ (p : Int) < (n : Int) / 2 := by omega
    go_enter Tryd.func144, Tryd.ntmps144
    go_wp2
    go_ret
    exact ⟨ret_int HR.out.symm, rfl⟩

set_option maxHeartbeats 2000000 in
theorem s_l15Path (n k fr tg : Nat) (w : World) (hs : Stg n k) (hf : fr < n) (ht : tg < n) : Calls Tryd.prog 102 #[.int .i64 (n : Int), .int .i64 (fr : Int), .int .i64 (tg : Int)] w
    (RetOwn 3 (ints (pathL n k fr tg k)) w) := by
  have hk : 1 ≤ k ∧ k ≤ 3 := by rcases hs with ⟨_, rfl⟩ | ⟨_, rfl⟩ | ⟨_, rfl⟩ <;> omega
  have HST := Lib.hid (fun W => s_l15Stages n k W hs)
  have HSF := Lib.hid (fun p hp W => s_l15Shuffle n k p W hs hp)
  have HPL := Lib.hid (fun s => pos_lt (tg := tg) hs hf s)
  have HSG := Lib.hid hs
  have hn8 : 2 ≤ n ∧ n ≤ 8 := by rcases hs with ⟨rfl, _⟩ | ⟨rfl, _⟩ | ⟨rfl, _⟩ <;> omega
  have hO : Own (w.alloc (.cells #[] 3)) 3 w.heap.size (.slice (some ⟨w.heap.size, 0, none⟩) 0 0) (ints (pathL n k fr tg 0)) := Own.lit0 w 3 (Nat.le_refl _)
  have hB : Below w.heap.size w (w.alloc (.cells #[] 3)) := (Below.refl _ _).alloc (Nat.le_refl _) _
  clear hs
  go_enter Tryd.func102, Tryd.ntmps102
  go_wp2_with (go_at_call 143; refine (HST.out _).mono ?_; rintro e w1 ⟨rfl, rfl⟩)
  go_loopg [7, 8, 9] k (fun g vp pv iv wr => ∃ s : Nat, g = k - s ∧ s ≤ k ∧ iv = .int .i64 ((k : Int) - 1 - (s : Int)) ∧ pv = .int .i64 ((pos n k fr tg s : Nat) : Int) ∧ Own wr 3 w.heap.size vp (ints (pathL n k fr tg s)) ∧ Below w.heap.size w wr)
  case atStart => exact ⟨0, rfl, Nat.zero_le _, by simp, rfl, hO, hB⟩
  case round =>
    clear hO hB
    obtain ⟨s, hg, hsk, rfl, rfl, hO, hb⟩ := hrel
    by_cases hlt : s < k
    · have hp := HPL.out s
      obtain ⟨p, hpe⟩ : ∃ p, pos n k fr tg s = p := ⟨_, rfl⟩
      rw [hpe] at hp ⊢
      have HS := Lib.hid (HSF.out p hp)
      have hq8 : shf n p < 8 := by have := shf_lt HSG.out hp; omega
      have f2 := fab2 (t := tg) (e := k - 1 - s) (by omega) (by omega)
      have HPS : Hid (pos n k fr tg (s + 1) = shf n p - shf n p % 2 + tg / 2 ^ (k - 1 - s) % 2) := by rw [Hid, pos, hpe]; rfl
      have HPP := Lib.hid (pathL_succ n k fr tg s)
      have hlt2 := HPL.out (s + 1)
      have hb2 : tg / 2 ^ (k - 1 - s) % 2 < 2 := Nat.mod_lt _ (by omega)
      rw [HPS.out] at HPP hlt2
      generalize hbe : tg / 2 ^ (k - 1 - s) % 2 = b at f2 HPS HPP hb2 hlt2
      generalize shf n p = q at HS HPS HPP hq8 hlt2
      obtain ⟨r, hr⟩ : ∃ r, q - q % 2 + b = r := ⟨_, rfl⟩
      rw [hr] at HPS HPP hlt2
      have f3 : (q : Int) - (q : Int) % 2 + (b : Int) = (r : Int) := by omega
      obtain ⟨e, he⟩ : ∃ e, k - 1 - s = e := ⟨_, rfl⟩
      rw [he] at f2
      have ei : (k : Int) - 1 - (s : Int) = (e : Int) := by omega
      rw [ei]
      obtain ⟨ap, np, cp, rfl, HNP, _, _⟩ := hO.rd.formN
      have hnp : np = s := by have := HNP.out; rw [pathL_len] at this; exact this
      subst hnp
      have HLP : Hid ((ints (pathL n k fr tg np)).length = np) := by rw [Hid, ints_length, pathL_len]
      have hsb := hb.size
      clear hpe hbe hr
      go_wp2_with (first
        | (go_at_call 144; refine (HS.out _).mono ?_; rintro e1 w1 ⟨rfl, rfl⟩)
        | (at_builtin; (refine wpList_app1m rfl _ _ 22 rfl elI ?_ hO ?_ ?_ hsb np HLP.out (by omega) (by omega) ?_); (focus exact rfl); (focus (simp [Act.eval])); (focus exact rfl); intro b5 c5 w5 ho5 hg5 hat5))
      go_roundg (k - (np + 1))
      case measure => omega
      case rel => exact ⟨np + 1, rfl, by omega, by go_num, by rw [HPS.out], by rw [HPP.out, ints_append]; exact ho5, hb.grown hg5 hsb (fun r hr => (hO.lt r hr).1)⟩
    · obtain rfl : s = k := Nat.le_antisymm hsk (Nat.le_of_not_lt hlt)
      have i1 : ¬ (s : Int) - 1 - (s : Int) ≥ 0 := by omega
      go_wp2
      go_ret
      exact ⟨_, rfl, hO, hb⟩

set_option maxHeartbeats 1000000 in
theorem s_l15Meet (n k a b c d : Nat) (v1 v2 : Value) (w : World) (hr1 : Rd w v1 (ints (pathL n k a b k))) (hr2 : Rd w v2 (ints (pathL n k c d k))) (hk : k ≤ 3) : Calls Tryd.prog 101 #[v1, v2] w (RetB (.bool (meetB n k a b c d)) w) := by
  have HY : Hid (∀ j, j < k → pos n k a b (j + 1) = pos n k c d (j + 1) → meetB n k a b c d = true) := fun j => meetB_yes
  have HN : Hid ((∀ j, j < k → pos n k a b (j + 1) ≠ pos n k c d (j + 1)) → meetB n k a b c d = false) := meetB_no
  have HG1 : Hid (∀ j, j < k → (pathL n k a b k)[j]? = some ((pos n k a b (j + 1) : Nat) : Int)) := fun j hj => pathL_get hj
  have HG2 : Hid (∀ j, j < k → (pathL n k c d k)[j]? = some ((pos n k c d (j + 1) : Nat) : Int)) := fun j hj => pathL_get hj
  have HL1 : Hid ((pathL n k a b k).length = k) := pathL_len _ _ _ _ _
  have HL2 : Hid ((pathL n k c d k).length = k) := pathL_len _ _ _ _ _
  generalize pathL n k a b k = P1 at hr1 HG1 HL1
  generalize pathL n k c d k = P2 at hr2 HG2 HL2
  generalize pos n k a b = p1 at HY HN HG1
  generalize pos n k c d = p2 at HY HN HG2
  generalize meetB n k a b c d = m at HY HN ⊢
  obtain ⟨a1, n1, c1, rfl, HN1, _, _⟩ := hr1.formN
  obtain ⟨a2, n2, c2, rfl, HN2, _, _⟩ := hr2.formN
  have hn1 : n1 = k := by have := HN1.out; rw [HL1.out] at this; exact this
  have hn2 : n2 = k := by have := HN2.out; rw [HL2.out] at this; exact this
  subst hn1
  subst hn2
  go_enter Tryd.func101, Tryd.ntmps101
  go_wp2
  go_loopg [9] n2 (fun g iv wr => ∃ j : Nat, g = n2 - j ∧ j ≤ n2 ∧ iv = .int .i64 j ∧ Hid (∀ i, i < j → p1 (i + 1) ≠ p2 (i + 1)) ∧ Dr w wr)
  case atStart => exact ⟨0, rfl, Nat.zero_le _, rfl, fun i h => by omega, Dr.refl _⟩
  case round =>
    obtain ⟨j, hg, hj, rfl, HNO, hdr⟩ := hrel
    by_cases hlt : j < n2
    · obtain ⟨ad1, y1, hal1, hc1, hy1⟩ := (hr1.dr hdr).int (k := j) (by rw [HL1.out]; exact hlt)
      obtain ⟨ad2, y2, hal2, hc2, hy2⟩ := (hr2.dr hdr).int (k := j) (by rw [HL2.out]; exact hlt)
      subst hal1
      subst hal2
      obtain rfl : y1 = ((p1 (j + 1) : Nat) : Int) := by have := hy1.out; rw [HG1.out j hlt] at this; cases this; rfl
      obtain rfl : y2 = ((p2 (j + 1) : Nat) : Int) := by have := hy2.out; rw [HG2.out j hlt] at this; cases this; rfl
      clear hy1 hy2
      by_cases he : p1 (j + 1) = p2 (j + 1)
      · have hm := Lib.hid (HY.out j hlt he)
        rw [he] at hc1
        clear he
        generalize p2 (j + 1) = q2 at hc1 hc2
        go_wp2
        try go_quiet (fail)
        try go_wp2
        go_ret
        first
          | exact ⟨ret_bool hm.out.symm, hdr.below _⟩
          | exact ⟨ret_bool hm.out.symm, (hdr.step _).below _⟩
      · have HNO2 : Hid (∀ i, i < j + 1 → p1 (i + 1) ≠ p2 (i + 1)) := fun i hi => by
          by_cases e : i = j
          · subst e; exact he
          · exact HNO.out i (by omega)
        have d0 : (((p1 (j + 1) : Nat) : Int) == ((p2 (j + 1) : Nat) : Int)) = false := by rw [beq_eq_false_iff_ne]; omega
        clear he
        generalize p1 (j + 1) = q1 at hc1 d0
        generalize p2 (j + 1) = q2 at hc2 d0
        go_wp2
        try go_quiet (fail)
        try go_wp2
        go_roundg (n2 - (j + 1))
        case measure => omega
        case rel => exact ⟨j + 1, rfl, by omega, by go_num, HNO2, by first | exact hdr | exact hdr.step _⟩
    · obtain rfl : j = n2 := Nat.le_antisymm hj (Nat.le_of_not_lt hlt)
      have hm := Lib.hid (HN.out HNO.out)
      go_wp2
      go_ret
      exact ⟨ret_bool hm.out.symm, hdr.below _⟩

end Go.Proofs.YtlmbaijkeahkfaaDoor
