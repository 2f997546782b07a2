/- Digit by digit, the last one first, numbers are sorted: no program in sight. -/
import Derived.Test.YtnjdihbaofclbaaPlainPerm
import Derived.Test.YtnjdihbaofclbaaLawHelp
import Derived.Test.YtnjdihbaofclbaaDigitSort
import Derived.Test.YtnjdihbaofclbaaTopFirst2
import Derived.Test.YtnjdihbaofclbaaDigits2
namespace Go.Proofs.Ytnjdihbaofclbaa
open Go.RowKit
set_option linter.unusedVariables false

theorem insK_perm (key : Int → Int) (s : List Int) (x : Int) : (insK key s x).Perm (x :: s) := by
  induction s with
  | nil => exact List.Perm.refl _
  | cons y t ih =>
    simp only [insK]
    split
    · exact (List.Perm.cons y ih).trans (List.Perm.swap x y t)
    · exact List.Perm.refl _
theorem sortK_perm (key : Int → Int) (xs : List Int) : ∀ s : List Int, (xs.foldl (insK key) s).Perm (xs ++ s) := by
  induction xs with
  | nil => intro s; exact List.Perm.refl _
  | cons x t ih =>
    intro s
    rw [List.foldl_cons]
    exact (ih _).trans (((insK_perm key s x).append_left t).trans List.perm_middle)
theorem srtS_perm (key : Int → Int) (xs : List Int) : (srtS key xs).Perm xs := by
  have := sortK_perm key xs []
  rw [List.append_nil] at this
  exact (List.reverse_perm _).trans this
theorem passM_perm (xs : List Int) (b : Int) : ∀ k, (passM xs b k).Perm xs
  | 0 => List.Perm.refl _
  | k + 1 => (srtS_perm _ _).trans (passM_perm xs b k)
theorem mod_split {x p b : Int} (hp : 0 < p) (hb : 0 < b) : x % (p * b) = x % p + p * (x / p % b) := by
  have h1 := Int.emod_add_mul_ediv x p
  have h2 := Int.emod_add_mul_ediv (x / p) b
  have h3 := Int.emod_nonneg x (show p ≠ 0 by omega)
  have h4 := Int.emod_lt_of_pos x hp
  have h5 := Int.emod_nonneg (x / p) (show b ≠ 0 by omega)
  have h6 := Int.emod_lt_of_pos (x / p) hb
  have e : x = (x % p + p * (x / p % b)) + p * b * (x / p / b) := by
    rw [Int.mul_assoc, Int.add_assoc, ← Int.mul_add, h2, h1]
  have h7 : 0 ≤ p * (x / p % b) := Int.mul_nonneg (by omega) h5
  have h8 : p * (x / p % b) ≤ p * (b - 1) := Int.mul_le_mul_of_nonneg_left (by omega) (by omega)
  rw [Int.mul_sub, Int.mul_one] at h8
  have h9 : (x % p + p * (x / p % b)) % (p * b) = x % p + p * (x / p % b) := Int.emod_eq_of_lt (by omega) (by omega)
  conv => lhs; rw [e]
  rw [Int.add_mul_emod_self_left, h9]
theorem byKey_pair (b : Int) (hb : 2 ≤ b) (d : Nat) (ys : List Int) (h : ys.Pairwise fun x y => x % b ^ d ≤ y % b ^ d) : ∀ v : Nat, (byKey (keyB b d) ys v).Pairwise fun x y => x % b ^ (d + 1) ≤ y % b ^ (d + 1)
  | 0 => List.Pairwise.nil
  | v + 1 => by
    have hp : 0 < b ^ d := by have := pow_pos' (show 1 ≤ b by omega) d; omega
    have hs : ∀ x : Int, x % b ^ (d + 1) = x % b ^ d + b ^ d * keyB b d x := fun x => by rw [Int.pow_succ, mod_split hp (by omega)]; rfl
    rw [byKey, List.pairwise_append]
    refine ⟨byKey_pair b hb d ys h v, ?_, fun x hx y hy => ?_⟩
    · refine (h.filter _).imp_of_mem fun hx hy hxy => ?_
      have e1 := of_decide_eq_true (List.mem_filter.1 hx).2
      have e2 := of_decide_eq_true (List.mem_filter.1 hy).2
      rw [hs, hs, e1, e2]
      omega
    · have e1 := byKey_mem (keyB b d) ys v x hx
      have e2 := of_decide_eq_true (List.mem_filter.1 hy).2
      have h1 := Int.emod_nonneg y (show b ^ d ≠ 0 by omega)
      have h2 := Int.emod_lt_of_pos x hp
      have h3 : b ^ d * keyB b d x ≤ b ^ d * ((v : Int) - 1) := Int.mul_le_mul_of_nonneg_left (by omega) (by omega)
      rw [Int.mul_sub, Int.mul_one] at h3
      rw [hs, hs, e2]
      omega
theorem passM_pair (xs : List Int) (b : Int) (hb : 2 ≤ b) : ∀ d, (passM xs b d).Pairwise fun x y => x % b ^ d ≤ y % b ^ d
  | 0 => by
    refine List.Pairwise.imp_of_mem (R := fun _ _ => True) (fun _ _ _ => ?_) (List.pairwise_of_forall (fun _ _ => trivial))
    simp
  | d + 1 => by
    obtain ⟨B, hB⟩ := Int.eq_ofNat_of_zero_le (show 0 ≤ b by omega)
    rw [passM, pass_eq hB hb]
    exact byKey_pair b hb d _ (passM_pair xs b hb d) B
theorem ndig_lt {b : Nat} (hb : 2 ≤ b) : ∀ n : Nat, n < b ^ ndig b n := by
  intro n
  induction n using Nat.strongRecOn with
  | ind n ih =>
    by_cases h0 : n = 0
    · subst h0
      rw [ndig_zero]
      simp
    · have hlt : n / b < n := Nat.div_lt_self (by omega) (by omega)
      have h1 := ih (n / b) hlt
      rw [ndig_pos hb (by omega), Nat.add_comm, Nat.pow_succ]
      have h2 := Nat.div_add_mod n b
      have h3 := Nat.mod_lt n (show 0 < b by omega)
      have h4 : (n / b + 1) * b ≤ b ^ ndig b (n / b) * b := Nat.mul_le_mul_right b h1
      rw [Nat.add_mul, Nat.mul_comm (n / b) b] at h4
      omega
theorem foldl_max_le (xs : List Int) : ∀ a : Int, a ≤ xs.foldl max a ∧ ∀ x ∈ xs, x ≤ xs.foldl max a := by
  induction xs with
  | nil => intro a; exact ⟨by simp, fun x h => by cases h⟩
  | cons y t ih =>
    intro a
    rw [List.foldl_cons]
    have := ih (max a y)
    refine ⟨by omega, fun x hx => ?_⟩
    rcases List.mem_cons.1 hx with rfl | hx
    · omega
    · exact this.2 x hx
theorem lt_passes {xs : List Int} {b : Int} (h : digitsOk xs b = true) {K : Nat} (hK : passesNeeded xs b = (K : Int)) {x : Int} (hx : x ∈ xs) : 0 ≤ x ∧ x < b ^ K := by
  obtain ⟨h1, h2, h3⟩ := digitsOk_iff.1 h
  rw [passesNeeded, if_pos h] at hK
  have hm : x ≤ maxOf xs := (foldl_max_le xs 0).2 x hx
  have hx0 := (h3 x hx).1
  have hl := ndig_lt (show 2 ≤ b.toNat by omega) (maxOf xs).toNat
  have e : ndig b.toNat (maxOf xs).toNat = K := by omega
  rw [e] at hl
  refine ⟨hx0, ?_⟩
  have hb : b = (b.toNat : Int) := by omega
  have : ((maxOf xs).toNat : Int) < ((b.toNat ^ K : Nat) : Int) := by exact_mod_cast hl
  rw [Int.natCast_pow, ← hb] at this
  omega
theorem topM_flat (key : Int → Int) (xs : List Int) : ∀ v, (topM key xs v).flatten = byKey key xs v
  | 0 => rfl
  | v + 1 => by
    rw [topM, byKey]
    split
    · rename_i h
      rw [h, topM_flat key xs v, List.append_nil]
    · rw [List.flatten_append, topM_flat key xs v]
      simp
theorem topM_rows (key : Int → Int) (xs : List Int) : ∀ v : Nat, ∀ r ∈ topM key xs v, r ≠ [] ∧ ∃ u : Nat, u < v ∧ r = xs.filter (fun x => decide (key x = (u : Int)))
  | 0, r, h => by simp [topM] at h
  | v + 1, r, h => by
    rw [topM] at h
    split at h
    · obtain ⟨h1, u, h2, h3⟩ := topM_rows key xs v r h
      exact ⟨h1, u, by omega, h3⟩
    · rename_i hne
      rcases List.mem_append.1 h with h | h
      · obtain ⟨h1, u, h2, h3⟩ := topM_rows key xs v r h
        exact ⟨h1, u, by omega, h3⟩
      · rw [List.mem_singleton] at h
        subst h
        exact ⟨hne, v, by omega, rfl⟩
theorem sum_counts (key : Int → Int) (xs : List Int) : ∀ v : Nat, sumI (countsOf key v xs) = ((byKey key xs v).length : Int)
  | 0 => rfl
  | v + 1 => by
    have := sum_counts key xs v
    unfold sumI countsOf at this ⊢
    rw [List.range_succ, List.map_append, List.foldl_append, this, byKey, List.length_append]
    simp only [List.map_cons, List.map_nil, List.foldl_cons, List.foldl_nil, Int.natCast_add]
    congr 2

/-- All that the law asks of the passes. -/
structure Passes (L : List Int) (b : Int) (K : Nat) : Prop where
  ok : ∀ d, digitsOk (passM L b d) b = true
  pass : ∀ d : Nat, d ≤ 20 → digitPass (passM L b d) b (d : Int) = passM L b (d + 1)
  perm : ∀ d, srt (passM L b d) = srt L
  done : digitSort L b = srt L
  end_ : passM L b K = srt L
  rise : ∀ d : Nat, d ≤ 20 → isDigitSorted (passM L b d) b (d : Int) = true
  rise20 : isDigitSorted (passM L b K) b 20 = true
  cnt : ∀ d : Nat, d ≤ 20 → countDigits (passM L b d) b (d : Int) = countsOf (keyB b d) b.toNat (passM L b d)
  sum : ∀ d : Nat, sumI (countsOf (keyB b d) b.toNat (passM L b d)) = (L.length : Int)
  top : ∀ d : Nat, d ≤ 20 → topFirst (passM L b d) b (d : Int) = topM (keyB b d) (passM L b d) b.toNat
  flat : ∀ d : Nat, (topM (keyB b d) (passM L b d) b.toNat).flatten = passM L b (d + 1)
  nil : passesNeeded [] b = 0
  horner : ∀ x ∈ L, x / b ^ K = 0 ∧ ∀ d : Nat, d ≤ 20 → digitOf x b (d : Int) = dig x b d ∧ (x / b ^ (d + 1)) * b + dig x b d = x / b ^ d
theorem passes_mk {L : List Int} {b : Int} (h : digitsOk L b = true) {K : Nat} (hK : passesNeeded L b = (K : Int)) (hK2 : K ≤ 20) : Passes L b K := by
  obtain ⟨h1, h2, h3⟩ := digitsOk_iff.1 h
  have hok : ∀ d, digitsOk (passM L b d) b = true := fun d => digitsOk_iff.2 ⟨by rw [passM_length]; exact h1, h2, fun x hx => h3 x (passM_mem L b x d hx)⟩
  have hin : ∀ d : Nat, d ≤ 20 → inB (d : Int) 0 20 = true := fun d hd => inB_iff.2 ⟨by omega, by omega⟩
  have hsame : ∀ x ∈ L, x % b ^ K = x := fun x hx => by
    have := lt_passes h hK hx
    exact Int.emod_eq_of_lt this.1 this.2
  have hend : passM L b K = srt L := srt_unique (passM_perm L b K) <| by
    refine (passM_pair L b h2.1 K).imp_of_mem fun hx hy hxy => ?_
    rw [hsame _ (passM_mem L b _ K hx), hsame _ (passM_mem L b _ K hy)] at hxy
    exact hxy
  have hpos : ∀ d : Nat, 0 < b ^ d := fun d => by have := pow_pos' (show 1 ≤ b by omega) d; omega
  have hrise : ∀ d : Nat, adjB ((passM L b d).map fun x => x % b ^ d) = true := fun d => adjB_pair (List.pairwise_map.2 (passM_pair L b h2.1 d))
  obtain ⟨B, hB⟩ := Int.eq_ofNat_of_zero_le (show 0 ≤ b by omega)
  have hBt : b.toNat = B := by omega
  refine ⟨hok, fun d hd => ?_, fun d => srt_congr (passM_perm L b d), ?_, hend, fun d hd => ?_, ?_, fun d hd => ?_, fun d => ?_, fun d hd => ?_, fun d => ?_, ?_, fun x hx => ⟨?_, fun d hd => ⟨?_, ?_⟩⟩⟩
  · rw [digitPass, hok, hin d hd]
    rfl
  · rw [digitSort, if_pos h, hK, ← hend]
    simp
  · rw [isDigitSorted, hok, hin d hd]
    simpa using hrise d
  · rw [isDigitSorted, hok, inB_iff.2 ⟨by omega, by omega⟩, hend]
    have e : ∀ x ∈ srt L, x % b ^ (20 : Int).toNat = x := fun x hx => by
      have hxb := h3 x ((srt_mem L x).1 hx)
      refine mod_big hxb.1 hxb.2 ?_
      have hm : (2 : Int) ^ 20 ≤ b ^ 20 := by
        have : ∀ k : Nat, (2 : Int) ^ k ≤ b ^ k := fun k => by
          induction k with
          | zero => simp
          | succ k ih =>
            rw [Int.pow_succ, Int.pow_succ]
            exact Int.mul_le_mul ih h2.1 (by omega) (Int.pow_nonneg (by omega))
        exact this 20
      have : (2 : Int) ^ 20 = 1048576 := by decide
      show (999999 : Int) < b ^ 20
      omega
    have e2 : (srt L).map (fun x => x % b ^ (20 : Int).toNat) = srt L := by
      conv => rhs; rw [← List.map_id (srt L)]
      exact List.map_congr_left fun x hx => e x hx
    rw [e2, adjB_pair (srt_pair L)]
    rfl
  · rw [countDigits, hok, hin d hd]
    simp
    rfl
  · rw [sum_counts, hBt, ← pass_eq hB h2.1, srtS_length, passM_length]
  · rw [topFirst, hok, hin d hd]
    simp
  · rw [topM_flat, hBt, ← pass_eq hB h2.1]
    rfl
  · have : digitsOk [] b = true := digitsOk_iff.2 ⟨by simp, h2, fun x hx => by cases hx⟩
    rw [passesNeeded, if_pos this]
    simp [maxOf, ndig_zero]
  · have := lt_passes h hK hx
    exact Int.ediv_eq_zero_of_lt this.1 this.2
  · have hxb := h3 x hx
    rw [digitOf, inB_iff.2 ⟨hxb.1, hxb.2⟩, inB_iff.2 ⟨h2.1, h2.2⟩, hin d hd]
    simp
  · rw [dig, Int.pow_succ, ← Int.ediv_ediv_of_nonneg (Int.le_of_lt (hpos d))]
    rw [Int.mul_comm]
    exact Int.mul_ediv_add_emod _ _

end Go.Proofs.Ytnjdihbaofclbaa
