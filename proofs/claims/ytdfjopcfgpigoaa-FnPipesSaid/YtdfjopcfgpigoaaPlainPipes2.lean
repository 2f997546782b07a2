/- Plain laws: levels are not empty and add up; a pipe gives out what went in, level by level. -/
import Derived.Test.YtdfjopcfgpigoaaPlainPipes
import Derived.Test.YtdfjopcfgpigoaaPipes
namespace Go.Proofs.Ytdfjopcfgpigoaa
open Go.RowKit
set_option linter.unusedVariables false
set_option linter.unusedSimpArgs false

theorem lv_all {N : Nat} {xss : List (List Int)} (HP : Pairs N xss) : ∀ k, k ≤ xss.length → ∀ (i : Nat) (v : Int), 1 ≤ v → v ≤ (lvM xss k).1 i → ∃ j, j < k ∧ (lvM xss xss.length).2[j]? = some v
  | 0, _, i, v, h1, h2 => by simp [lvM] at h2; omega
  | k + 1, hk, i, v, h1, h2 => by
    have he := List.getElem?_eq_getElem (show k < xss.length by omega)
    obtain ⟨a, b, e, _, _, _⟩ := HP k _ he
    rw [e] at he
    rw [lvM_succ he] at h2
    have hL := lv_at HP he
    have ih := lv_all HP k (by omega)
    dsimp only at h2
    split at h2
    · by_cases h3 : v = 1 + max ((lvM xss k).1 a) ((lvM xss k).1 b)
      · exact ⟨k, by omega, by rw [hL, h3]⟩
      · rcases Int.le_total ((lvM xss k).1 a) ((lvM xss k).1 b) with h4 | h4
        · obtain ⟨j, h5, h6⟩ := ih b v h1 (by omega)
          exact ⟨j, by omega, h6⟩
        · obtain ⟨j, h5, h6⟩ := ih a v h1 (by omega)
          exact ⟨j, by omega, h6⟩
    · obtain ⟨j, h5, h6⟩ := ih i v h1 h2
      exact ⟨j, by omega, h6⟩
theorem mostL_at (xs : List Int) : ∀ k, mostL xs k = 0 ∨ ∃ j, j < k ∧ xs.getD j 0 = mostL xs k
  | 0 => .inl rfl
  | k + 1 => by
    simp only [mostL]
    rcases Int.le_total (mostL xs k) (xs.getD k 0) with h | h
    · exact .inr ⟨k, by omega, by omega⟩
    · rcases mostL_at xs k with h1 | ⟨j, h1, h2⟩
      · left; omega
      · exact .inr ⟨j, by omega, by omega⟩
theorem mostL_ge (xs : List Int) : ∀ k j, j < k → xs.getD j 0 ≤ mostL xs k
  | 0, j, h => by omega
  | k + 1, j, h => by
    simp only [mostL]
    by_cases e : j = k
    · subst e; omega
    · have := mostL_ge xs k j (by omega)
      omega
theorem lpM_pos {xss : List (List Int)} {lv : List Int} {lvl : Int} : ∀ k j, j < k → lv.getD j 0 = lvl → 0 < (lpM xss lv lvl k).length
  | 0, j, h, _ => by omega
  | k + 1, j, h, e => by
    simp only [lpM]
    split
    · simp
    · rename_i h1
      exact lpM_pos k j (by rcases Nat.lt_or_ge j k with h2 | h2; exact h2; exact absurd (by rw [← e, show j = k by omega]) h1) e
/-- What a valid network's depth is. -/
theorem depth_eq {N : Nat} {xss : List (List Int)} (hk : netOk (N : Int) xss = true) : depthOf N xss = mostL (lvM xss xss.length).2 xss.length := by
  rw [depthOf, if_pos hk, lvM_len (pairs_of hk) _ (Nat.le_refl _)]
theorem levelPairs_eq {N : Nat} {xss : List (List Int)} (hk : netOk (N : Int) xss = true) (v : Int) : levelPairs N xss v = lpM xss (lvM xss xss.length).2 v xss.length := by
  rw [levelPairs, if_pos hk, lvM_len (pairs_of hk) _ (Nat.le_refl _)]
theorem level_ne {N : Nat} {xss : List (List Int)} (hk : netOk (N : Int) xss = true) (v : Int) (h1 : 1 ≤ v) (h2 : v ≤ depthOf N xss) : 0 < (levelPairs N xss v).length := by
  rw [levelPairs_eq hk]
  rw [depth_eq hk] at h2
  have HP := pairs_of hk
  rcases mostL_at (lvM xss xss.length).2 xss.length with h3 | ⟨j, h3, h4⟩
  · omega
  · have he := List.getElem?_eq_getElem h3
    obtain ⟨a, b, e, _, _, _⟩ := HP j _ he
    rw [e] at he
    have hT := lv_top HP he (j + 1) (by omega) (by omega)
    rw [h4] at hT
    obtain ⟨q, h5, h6⟩ := lv_all HP (j + 1) (by omega) a v h1 (by omega)
    exact lpM_pos _ q (by omega) (by rw [List.getD_eq_getElem?_getD, h6]; rfl)
theorem lv_range {N : Nat} {xss : List (List Int)} (hk : netOk (N : Int) xss = true) {j : Nat} (hj : j < xss.length) : 1 ≤ (lvM xss xss.length).2.getD j 0 ∧ (lvM xss xss.length).2.getD j 0 ≤ depthOf N xss := by
  have HP := pairs_of hk
  have he := List.getElem?_eq_getElem hj
  obtain ⟨a, b, e, _, _, _⟩ := HP j _ he
  rw [e] at he
  have h1 := (lvM_bound xss j a).1
  refine ⟨?_, by rw [depth_eq hk]; exact mostL_ge _ _ _ hj⟩
  rw [List.getD_eq_getElem?_getD, lv_at HP he]
  simp only [Option.getD_some]
  omega
def sumLv (xss : List (List Int)) (lv : List Int) (k : Nat) : Nat → Nat
  | 0 => 0
  | d + 1 => sumLv xss lv k d + (lpM xss lv ((d : Int) + 1) k).length
theorem sumLv_succ (xss : List (List Int)) (lv : List Int) (k : Nat) : ∀ d : Nat, sumLv xss lv (k + 1) d = sumLv xss lv k d + if 1 ≤ lv.getD k 0 ∧ lv.getD k 0 ≤ d then 1 else 0
  | 0 => by rw [sumLv, sumLv, if_neg (by omega)]
  | d + 1 => by
    rw [sumLv, sumLv, sumLv_succ xss lv k d]
    simp only [lpM]
    by_cases h : lv.getD k 0 = (d : Int) + 1
    · rw [if_pos h, if_neg (by omega), if_pos (by omega)]
      simp
      omega
    · rw [if_neg h]
      by_cases h2 : 1 ≤ lv.getD k 0 ∧ lv.getD k 0 ≤ d
      · rw [if_pos h2, if_pos (by omega)]; omega
      · rw [if_neg h2, if_neg (by omega)]; omega
theorem sumLv_zero (xss : List (List Int)) (lv : List Int) : ∀ d : Nat, sumLv xss lv 0 d = 0
  | 0 => rfl
  | d + 1 => by rw [sumLv, sumLv_zero xss lv d]; rfl
theorem sumLv_all (xss : List (List Int)) (lv : List Int) (D : Nat) : ∀ k, (∀ j, j < k → 1 ≤ lv.getD j 0 ∧ lv.getD j 0 ≤ D) → sumLv xss lv k D = k
  | 0, _ => sumLv_zero xss lv D
  | k + 1, h => by rw [sumLv_succ, sumLv_all xss lv D k (fun j hj => h j (by omega)), if_pos (h k (by omega))]

def wireSum (f : Nat → Int) : Nat → Int
  | 0 => 0
  | n + 1 => wireSum f n + f n
theorem wireSum_two {f g : Nat → Int} {a b : Nat} (hab : a ≠ b) (h : ∀ i, f i ≤ g i) (ha : f a + 1 ≤ g a) (hb : f b + 1 ≤ g b) : ∀ n, wireSum f n + (if a < n then 1 else 0) + (if b < n then 1 else 0) ≤ wireSum g n
  | 0 => by simp [wireSum]
  | n + 1 => by
    have ih := wireSum_two hab h ha hb n
    have hn := h n
    simp only [wireSum]
    by_cases e1 : a = n
    · subst e1
      rw [if_neg (by omega)] at ih
      rw [if_pos (by omega)]
      by_cases e2 : b < a
      · rw [if_pos e2] at ih; rw [if_pos (by omega)]; omega
      · rw [if_neg e2] at ih; rw [if_neg (by omega)]; omega
    · by_cases e2 : b = n
      · subst e2
        rw [if_neg (show ¬ b < b by omega)] at ih
        rw [if_pos (show b < b + 1 by omega)]
        by_cases e3 : a < b
        · rw [if_pos e3] at ih; rw [if_pos (by omega)]; omega
        · rw [if_neg e3] at ih; rw [if_neg (by omega)]; omega
      · have q1 : (if a < n + 1 then (1 : Int) else 0) = if a < n then 1 else 0 := by split <;> split <;> omega
        have q2 : (if b < n + 1 then (1 : Int) else 0) = if b < n then 1 else 0 := by split <;> split <;> omega
        rw [q1, q2]; omega
theorem wireSum_le {f : Nat → Int} {D : Int} (h : ∀ i, f i ≤ D) : ∀ n : Nat, wireSum f n ≤ n * D
  | 0 => by simp [wireSum]
  | n + 1 => by
    have ih := wireSum_le h n
    have := h n
    simp only [wireSum]
    rw [show ((n + 1 : Nat) : Int) * D = n * D + D by rw [Int.natCast_add, Int.add_mul]; simp]
    omega
theorem wireSum_lv {N : Nat} {xss : List (List Int)} (HP : Pairs N xss) : ∀ k, k ≤ xss.length → 2 * (k : Int) ≤ wireSum (lvM xss k).1 N
  | 0, _ => by
    have : ∀ n, wireSum (lvM xss 0).1 n = 0 := fun n => by
      induction n with
      | zero => rfl
      | succ n ih => rw [wireSum, ih]; rfl
    rw [this]; simp
  | k + 1, hk => by
    have ih := wireSum_lv HP k (by omega)
    have he := List.getElem?_eq_getElem (show k < xss.length by omega)
    obtain ⟨a, b, e, ha, hb, hab⟩ := HP k _ he
    rw [e] at he
    have h2 := wireSum_two (f := (lvM xss k).1) (g := (lvM xss (k + 1)).1) hab (fun i => by
      rw [lvM_succ he]
      dsimp only
      split
      · rename_i h
        rcases h with rfl | rfl <;> omega
      · omega) (by rw [lvM_succ he]; simp only [true_or, if_true]; omega) (by rw [lvM_succ he]; simp only [or_true, if_true]; omega) N
    rw [if_pos ha, if_pos hb] at h2
    omega
/-- Every comparator takes two registers of its level. -/
theorem two_pairs {N : Nat} {xss : List (List Int)} (hk : netOk (N : Int) xss = true) : 2 * (xss.length : Int) ≤ N * depthOf N xss := by
  have HP := pairs_of hk
  have h1 := wireSum_lv HP xss.length (Nat.le_refl _)
  have h2 := wireSum_le (f := (lvM xss xss.length).1) (D := depthOf N xss) (fun i => by
    have h0 := (lvM_bound xss xss.length i).1
    have hd := depthOf_bound hk
    by_cases h3 : 1 ≤ (lvM xss xss.length).1 i
    · obtain ⟨j, h4, h5⟩ := lv_all HP xss.length (Nat.le_refl _) i _ h3 (Int.le_refl _)
      have h6 := mostL_ge (lvM xss xss.length).2 xss.length j h4
      rw [List.getD_eq_getElem?_getD, h5] at h6
      rw [depth_eq hk]
      exact h6
    · omega) N
  omega

theorem runC_nil (ps : List (List Int)) : runC ps [] = [] := List.eq_nil_of_length_eq_zero (by rw [runC_length]; rfl)
theorem nextRow_run {N : Nat} {xss : List (List Int)} (hk : netOk (N : Int) xss = true) (v : Int) (now : List Int) : nextRow N xss v now = runC (lpM xss (lvM xss xss.length).2 v xss.length) now := by
  rw [nextRow, levelPairs_eq hk]
  split
  · rename_i h
    rw [List.eq_nil_of_length_eq_zero h, runC_nil]
  · rfl
theorem nextM_get (n : Int) (xss st : List (List Int)) (xin : List Int) : ∀ K j, j < K → (nextM n xss st xin K).getD j [] = nextRow n xss ((j : Int) + 1) (nowM st xin j)
  | 0, j, h => by omega
  | K + 1, j, h => by
    rw [nextM, List.getD_eq_getElem?_getD]
    by_cases e : j < K
    · rw [List.getElem?_append_left (by rw [nextM_length]; exact e), ← List.getD_eq_getElem?_getD]
      exact nextM_get n xss st xin K j e
    · obtain rfl : j = K := by omega
      rw [List.getElem?_append_right (by rw [nextM_length]; exact Nat.le_refl _), nextM_length]
      simp
theorem stM_get {N : Nat} {xss ins : List (List Int)} (hk : netOk (N : Int) xss = true) : ∀ k j, j < (depthOf N xss).toNat → (stM N xss ins k).getD j [] = if j + 1 ≤ k then levRun xss (lvM xss xss.length).2 xss.length (inAt ins (k - 1 - j)) (j + 1) else []
  | 0, j, h => by
    rw [if_neg (by omega), stM, List.getD_eq_getElem?_getD]
    simp [h]
  | k + 1, j, h => by
    rw [stM, nextM_get _ _ _ _ _ _ (by rw [stM_length]; exact h), nextRow_run hk]
    cases j with
    | zero =>
      rw [if_pos (by omega), nowM]
      rfl
    | succ j =>
      rw [nowM, stM_get hk k j (by omega)]
      by_cases e : j + 1 ≤ k
      · rw [if_pos e, if_pos (by omega), show k + 1 - 1 - (j + 1) = k - 1 - j by omega]
        rfl
      · rw [if_neg e, if_neg (by omega), runC_nil]
theorem outM_get (n : Int) (xss ins : List (List Int)) : ∀ K t, t < K → (outM n xss ins K).getD t [] = nowM (stM n xss ins t) (inAt ins t) (stM n xss ins t).length
  | 0, t, h => by omega
  | K + 1, t, h => by
    rw [outM, List.getD_eq_getElem?_getD]
    by_cases e : t < K
    · rw [List.getElem?_append_left (by rw [outM_length]; exact e), ← List.getD_eq_getElem?_getD]
      exact outM_get n xss ins K t e
    · obtain rfl : t = K := by omega
      rw [List.getElem?_append_right (by rw [outM_length]; exact Nat.le_refl _), outM_length]
      simp
theorem now_get {N : Nat} {xss ins : List (List Int)} (hk : netOk (N : Int) xss = true) {D : Nat} (hD : depthOf N xss = D) (t : Nat) : nowM (stM N xss ins t) (inAt ins t) (stM N xss ins t).length = if D ≤ t then levRun xss (lvM xss xss.length).2 xss.length (inAt ins (t - D)) D else [] := by
  have hd : (depthOf N xss).toNat = D := by omega
  rw [stM_length, hd]
  cases D with
  | zero => rw [nowM, if_pos (Nat.zero_le _)]; rfl
  | succ d =>
    rw [nowM, stM_get hk t d (by omega)]
    by_cases e : d + 1 ≤ t
    · rw [if_pos e, if_pos e, show t - 1 - d = t - (d + 1) by omega]
    · rw [if_neg e, if_neg e]
theorem levRun_nil (xss : List (List Int)) (lv : List Int) (k d : Nat) : levRun xss lv k [] d = [] := List.eq_nil_of_length_eq_zero (by rw [levRun_length]; rfl)
theorem levRun_net {N : Nat} {xss : List (List Int)} {xs : List Int} (hk : netOk (N : Int) xss = true) (hx : xs.length = N) {D : Nat} (hD : depthOf N xss = D) : levRun xss (lvM xss xss.length).2 xss.length xs D = apM xss xs xss.length :=
  levRun_all (pairs_of hk) hx D _ (Nat.le_refl _) fun j hj => by have := (lv_range hk hj).2; omega
/-- What comes out of a pipe: nothing at first, then what went in, sorted as by the network. -/
theorem pipe_outs {N : Nat} {xss ins : List (List Int)} (hk : netOk (N : Int) xss = true) (hi : ins.all (pipeRow N) = true) (hl : ins.length ≤ 12) {D : Nat} (hD : depthOf N xss = D) :
    rp1 N xss ins = true ∧ (rp0 N xss ins).length = ins.length + D ∧ (∀ i, i < D → (rp0 N xss ins).getD i [] = []) ∧
    ∀ i, i < ins.length → (rp0 N xss ins).getD (i + D) [] = if (inAt ins i).length = 0 then [] else apM xss (inAt ins i) xss.length := by
  have h1 : rp1 N xss ins = true := by simp [rp1, hk, hi, hl]
  have hd : (depthOf N xss).toNat = D := by omega
  refine ⟨h1, by rw [rp0, if_pos h1, outM_length, hd], fun i h => ?_, fun i h => ?_⟩
  · rw [rp0, if_pos h1, hd, outM_get _ _ _ _ _ (by omega), now_get hk hD, if_neg (by omega)]
  · rw [rp0, if_pos h1, hd, outM_get _ _ _ _ _ (by omega), now_get hk hD, if_pos (by omega), show i + D - D = i by omega]
    split
    · rename_i h0
      rw [List.eq_nil_of_length_eq_zero h0, levRun_nil]
    · rename_i h0
      have h2 := pipeRow_len (inAt_row hi i)
      exact levRun_net hk (by omega) hD

theorem fillOf_app (xss : List (List Int)) (xs : List Int) : fillOf (xss ++ [xs]) = fillOf xss + if 0 < xs.length then 1 else 0 := by
  unfold fillOf
  rw [List.filter_append, List.length_append]
  by_cases h : 0 < xs.length <;> simp [h]
theorem fillOf_nils : ∀ D : Nat, fillOf (List.replicate D []) = 0
  | 0 => rfl
  | D + 1 => by rw [List.replicate_succ', fillOf_app, fillOf_nils D]; rfl
theorem nowM_nils (D : Nat) (xin : List Int) : ∀ k, 0 < k → nowM (List.replicate D []) xin k = []
  | 0, h => by omega
  | k + 1, _ => by
    rw [nowM, List.getD_eq_getElem?_getD, List.getElem?_replicate]
    split <;> rfl
theorem fillOf_next (n : Int) (xss : List (List Int)) (D : Nat) (xin : List Int) : ∀ k, fillOf (nextM n xss (List.replicate D []) xin k) = if 0 < xin.length ∧ 0 < k then 1 else 0
  | 0 => by rw [nextM, if_neg (by omega)]; rfl
  | k + 1 => by
    rw [nextM, fillOf_app, fillOf_next n xss D xin k, nextRow_length]
    by_cases h : k = 0
    · subst h
      rw [nowM]
      by_cases h1 : 0 < xin.length <;> simp [h1]
    · rw [nowM_nils D xin k (by omega)]
      by_cases h1 : 0 < xin.length
      · simp [h1, show 0 < k by omega]
      · simp [h1]

end Go.Proofs.Ytdfjopcfgpigoaa
