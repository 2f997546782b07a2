/- Walks: orders that pass through stages, in the program. -/
import Derived.Test.YtlmbaijkeahkfaaDoorFabP
import Derived.Test.YtlmbaijkeahkfaaDoorStackA
import Derived.Test.YtlmbaijkeahkfaaDoorClone
import Derived.Test.YtlmbaijkeahkfaaDoorSlicesB
import Derived.Test.YtlmbaijkeahkfaaDoorRowsSet
import Derived.Test.YtlmbaijkeahkfaaDoorLevelP0
import Derived.Test.YtlmbaijkeahkfaaDoorFlt3
import Derived.Deep.RegionLaw
namespace Go.Proofs.YtlmbaijkeahkfaaDoor
open Go.RowKit
set_option linter.unusedVariables false
set_option linter.unusedSimpArgs false

def stgK (n : Nat) : Nat := if n = 2 then 1 else if n = 4 then 2 else if n = 8 then 3 else 0
theorem stgK_ok {n : Nat} (h : 0 < stgK n) : Stg n (stgK n) := by
  unfold stgK at *
  unfold Stg
  split at h
  · simp_all
  · split at h
    · simp_all
    · split at h
      · simp_all
      · omega
def stgI (n : Nat) : Int := if stgK n = 0 then -1 else (stgK n : Int)
def stagedB (xs : List Int) : Bool := decide (0 < stgK xs.length) && ordB xs.length xs
def passB (n k : Nat) (x : Nat → Nat) : Bool := (List.range n).all fun i => (List.range i).all fun j => !meetB n k (x i) i (x j) j
theorem passB_no {n k i j : Nat} {x : Nat → Nat} (hi : i < n) (hj : j < i) (h : meetB n k (x i) i (x j) j = true) : passB n k x = false := by
  cases e : passB n k x
  · rfl
  · rw [passB, List.all_eq_true] at e
    have h1 := e i (List.mem_range.2 hi)
    rw [List.all_eq_true] at h1
    have h2 := h1 j (List.mem_range.2 hj)
    rw [h] at h2
    cases h2
theorem passB_yes {n k : Nat} {x : Nat → Nat} (h : ∀ i, i < n → ∀ j, j < i → meetB n k (x i) i (x j) j = false) : passB n k x = true := by
  rw [passB, List.all_eq_true]
  intro i hi
  rw [List.all_eq_true]
  intro j hj
  rw [h i (List.mem_range.1 hi) j (List.mem_range.1 hj)]
  rfl
def frB (n k : Nat) (x : Nat → Nat) (i : Nat) (r : List Int) : Bool := !r.any fun q => meetB n k (x i) i (x q.toNat) q.toNat
def rStep (p : List Int → Bool) (i : Nat) (R : List (List Int)) : List (List Int) :=
  if idxOf2 p R < 0 then R ++ [[(i : Int)]] else R.set (idxOf2 p R).toNat (R.getD (idxOf2 p R).toNat [] ++ [(i : Int)])
def rK (n k : Nat) (x : Nat → Nat) : Nat → List (List Int)
  | 0 => []
  | i + 1 => rStep (frB n k x i) i (rK n k x i)
theorem idxOf2_cases (p : List Int → Bool) (R : List (List Int)) : (idxOf2 p R = -1 ∧ ∀ r ∈ R, p r = false) ∨ ∃ (j : Nat) (xs : List Int), idxOf2 p R = (j : Int) ∧ R[j]? = some xs ∧ p xs = true ∧ ∀ (q : Nat) y, q < j → R[q]? = some y → p y = false := by
  unfold idxOf2
  cases h : R.any p
  · left
    refine ⟨rfl, fun r hr => ?_⟩
    cases hp : p r
    · rfl
    · have : R.any p = true := List.any_eq_true.2 ⟨r, hr, hp⟩
      rw [h] at this; cases this
  · right
    obtain ⟨r, hr, hp⟩ := List.any_eq_true.1 h
    have hl : R.findIdx p < R.length := List.findIdx_lt_length_of_exists ⟨r, hr, hp⟩
    refine ⟨R.findIdx p, R[R.findIdx p], rfl, List.getElem?_eq_getElem hl, List.findIdx_getElem (w := hl), fun q y hq hy => ?_⟩
    have h2 := List.not_of_lt_findIdx hq
    obtain ⟨hq2, e⟩ := List.getElem?_eq_some_iff.1 hy
    rw [← e]
    simpa using h2
theorem rStep_new {p : List Int → Bool} {i : Nat} {R : List (List Int)} (h : idxOf2 p R = -1) : rStep p i R = R ++ [[(i : Int)]] := by rw [rStep, h, if_pos (by omega)]
theorem rStep_in {p : List Int → Bool} {i j : Nat} {R : List (List Int)} {xs : List Int} (h : idxOf2 p R = (j : Int)) (hx : R[j]? = some xs) : rStep p i R = R.set j (xs ++ [(i : Int)]) := by
  rw [rStep, h, if_neg (by omega), Int.toNat_natCast, List.getD_eq_getElem?_getD, hx]
  rfl
theorem rK_inv (n k : Nat) (x : Nat → Nat) : ∀ i, (rK n k x i).length ≤ i ∧ ∀ r ∈ rK n k x i, r.length ≤ i ∧ ∀ q ∈ r, ∃ j : Nat, q = j ∧ j < i
  | 0 => ⟨Nat.le_refl _, fun r hr => (by cases hr)⟩
  | i + 1 => by
    obtain ⟨h1, h2⟩ := rK_inv n k x i
    rw [rK]
    rcases idxOf2_cases (frB n k x i) (rK n k x i) with ⟨e, _⟩ | ⟨j, xs, e, hx, _, _⟩
    · rw [rStep_new e]
      refine ⟨by simp; omega, fun r hr => ?_⟩
      rcases List.mem_append.1 hr with hr | hr
      · obtain ⟨a, b⟩ := h2 r hr
        exact ⟨by omega, fun q hq => by obtain ⟨j, e, h⟩ := b q hq; exact ⟨j, e, by omega⟩⟩
      · rw [List.mem_singleton] at hr
        subst hr
        exact ⟨by simp, fun q hq => by rw [List.mem_singleton] at hq; exact ⟨i, hq, by omega⟩⟩
    · rw [rStep_in e hx]
      refine ⟨by simp; omega, fun r hr => ?_⟩
      rcases List.mem_or_eq_of_mem_set hr with hr | hr
      · obtain ⟨a, b⟩ := h2 r hr
        exact ⟨by omega, fun q hq => by obtain ⟨j, e, h⟩ := b q hq; exact ⟨j, e, by omega⟩⟩
      · subst hr
        obtain ⟨a, b⟩ := h2 xs (List.mem_of_getElem? hx)
        refine ⟨by simp; omega, fun q hq => ?_⟩
        rcases List.mem_append.1 hq with hq | hq
        · obtain ⟨j, e, h⟩ := b q hq; exact ⟨j, e, by omega⟩
        · rw [List.mem_singleton] at hq; exact ⟨i, hq, by omega⟩

theorem i_stages (n : Nat) (w : World) : Calls Tryd.prog 103 #[.int .i64 (n : Int)] w fun e w' => e = .returned (.int .i64 (stgI n)) ∧ w = w' := by
  by_cases h2 : n = 2
  · subst h2
    go_enter Tryd.func103, Tryd.ntmps103
    go_wp2
    go_ret
    exact ⟨rfl, rfl⟩
  · by_cases h4 : n = 4
    · subst h4
      go_enter Tryd.func103, Tryd.ntmps103
      go_wp2
      go_ret
      exact ⟨rfl, rfl⟩
    · by_cases h8 : n = 8
      · subst h8
        go_enter Tryd.func103, Tryd.ntmps103
        go_wp2
        go_ret
        exact ⟨rfl, rfl⟩
      · have HR : Hid (stgI n = -1) := by simp [Hid, stgI, stgK, h2, h4, h8]
        have d2 : ((n : Int) == 2) = false := by rw [beq_eq_false_iff_ne]; omega
        have d4 : ((n : Int) == 4) = false := by rw [beq_eq_false_iff_ne]; omega
        have d8 : ((n : Int) == 8) = false := by rw [beq_eq_false_iff_ne]; omega
        clear h2 h4 h8
        go_enter Tryd.func103, Tryd.ntmps103
        go_wp2
        go_ret
        exact ⟨ret_int HR.out.symm, rfl⟩
theorem i_isStaged (v : Value) (xs : List Int) (w : World) (h : Rd w v (ints xs)) : Calls Tryd.prog 56 #[v] w (RetB (.bool (stagedB xs)) w) := by
  obtain ⟨a, n, c, rfl, HN, hnc, hc⟩ := h.formN
  have HS := Lib.hid (fun W => i_stages n W)
  by_cases h0 : 0 < stgK n
  · have hk3 := stgK_ok h0
    have hn8 : n ≤ 8 ∧ stgK n ≤ 3 := by rcases hk3 with ⟨e, e2⟩ | ⟨e, e2⟩ | ⟨e, e2⟩ <;> omega
    have HK := i_isOrder _ xs w h (by have := HN.out; omega)
    rw [← HN.out] at HK
    have HR : Hid (stagedB xs = ordB n xs) := by rw [Hid, stagedB, ← HN.out]; simp [h0]
    have HK2 := Lib.hid HK
    rw [stgI, if_neg (by omega)] at HS
    clear HK hk3
    generalize stgK n = k at h0 hn8 HS
    have i1 : (k : Int) > 0 := by omega
    go_enter Tryd.func56, Tryd.ntmps56
    go_wp2_with (first
      | (go_at_call 103; refine (HS.out _).mono ?_; rintro e w' ⟨rfl, rfl⟩)
      | (go_at_call 85; refine HK2.out.mono ?_; rintro e w' ⟨rfl, hb⟩))
    go_ret
    exact ⟨by rw [HR.out]; rfl, hb⟩
  · have HR : Hid (stagedB xs = false) := by rw [Hid, stagedB, ← HN.out]; simp [h0]
    rw [stgI, if_pos (by omega)] at HS
    clear h0
    go_enter Tryd.func56, Tryd.ntmps56
    go_wp2_with (go_at_call 103; refine (HS.out _).mono ?_; rintro e w' ⟨rfl, rfl⟩)
    go_ret
    exact ⟨ret_bool HR.out.symm, Below.refl _ _⟩

set_option maxHeartbeats 1000000 in
theorem i_canPass (v : Value) (n k : Nat) (x : Nat → Nat) (w : World) (hs : Stg n k) (H : Ord n x) (h : Rd w v (ints (natA n x))) : Calls Tryd.prog 58 #[v] w (RetB (.bool (passB n k x)) w) := by
  obtain ⟨a, c, rfl, hnc, hc⟩ := h.formi
  rw [natA_len] at h hnc ⊢
  have hn8 : 2 ≤ n ∧ n ≤ 8 := by rcases hs with ⟨rfl, _⟩ | ⟨rfl, _⟩ | ⟨rfl, _⟩ <;> omega
  obtain ⟨ad, rfl, _⟩ := h.cell (k := 0) (by rw [ints_length, natA_len]; omega)
  have HM := Lib.hid (fun (i j : Nat) (hi : i < n) (hj : j < n) W => i_meet n k (x i) i (x j) j W hs (H.lx i hi) hi (H.lx j hj) hj)
  have HC := Lib.hid (fun (W : World) (hW : Below w.heap.size w W) (i : Nat) (hi : i < n) => (h.below hW).cell_int' (natA_get x hi))
  have HY : Hid ((∀ i, i < n → ∀ j, j < i → meetB n k (x i) i (x j) j = false) → passB n k x = true) := passB_yes
  have HN : Hid (∀ i j, i < n → j < i → meetB n k (x i) i (x j) j = true → passB n k x = false) := fun i j => passB_no
  generalize passB n k x = r at HY HN ⊢
  go_enter Tryd.func58, Tryd.ntmps58
  go_wp2
  go_loopg [8] n (fun g iv wr => ∃ i : Nat, g = n - i ∧ i ≤ n ∧ iv = .int .i64 i ∧ Hid (∀ i', i' < i → ∀ j, j < i' → meetB n k (x i') i' (x j) j = false) ∧ Below w.heap.size w wr)
  case atStart => exact ⟨0, rfl, Nat.zero_le _, rfl, fun i h => by omega, Below.refl _ _⟩
  case round =>
    obtain ⟨i, hg, hi, rfl, HI, hb⟩ := hrel
    by_cases hlt : i < n
    · have c1 := HC.out wr hb i hlt
      have HXI : Hid (x i = x i) := rfl
      go_wp2
      clear c1
      go_loopg [14] i (fun g jv wr => ∃ j : Nat, g = i - j ∧ j ≤ i ∧ jv = .int .i64 j ∧ Hid (∀ j', j' < j → meetB n k (x i) i (x j') j' = false) ∧ Below w.heap.size w wr)
      case atStart => exact ⟨0, rfl, Nat.zero_le _, rfl, fun i h => by omega, hb⟩
      case round =>
        clear hb
        obtain ⟨j, hgj, hj, rfl, HJ, hb⟩ := hrel
        by_cases hltj : j < i
        · have c2 := HC.out wr hb j (by omega)
          have hcall := Lib.hid (HM.out i j hlt (by omega))
          cases hm : meetB n k (x i) i (x j) j
          · rw [hm] at hcall
            have HJ2 : Hid (∀ j', j' < j + 1 → meetB n k (x i) i (x j') j' = false) := fun j' hj' => by
              by_cases e : j' = j
              · subst e; exact hm
              · exact HJ.out j' (by omega)
            clear hm
            go_wp2_with (go_at_call 106; refine (hcall.out _).mono ?_; rintro e w2 ⟨rfl, hb2⟩)
            go_roundg (i - (j + 1))
            case measure => omega
            case rel => exact ⟨j + 1, rfl, by omega, by go_num, HJ2, hb.trans (hb2.mono hb.size)⟩
          · rw [hm] at hcall
            have HE := Lib.hid (HN.out i j hlt hltj hm)
            clear hm
            go_wp2_with (go_at_call 106; refine (hcall.out _).mono ?_; rintro e w2 ⟨rfl, hb2⟩)
            go_ret
            exact ⟨ret_bool HE.out.symm, hb.trans (hb2.mono hb.size)⟩
        · obtain rfl : j = i := Nat.le_antisymm hj (Nat.le_of_not_lt hltj)
          have HI2 : Hid (∀ i', i' < j + 1 → ∀ q, q < i' → meetB n k (x i') i' (x q) q = false) := fun i' hi' => by
            by_cases e : i' = j
            · subst e; exact HJ.out
            · exact HI.out i' (by omega)
          go_wp2
          go_roundg (n - (j + 1))
          case measure => omega
          case rel => exact ⟨j + 1, rfl, by omega, by go_num, HI2, hb⟩
    · obtain rfl : i = n := Nat.le_antisymm hi (Nat.le_of_not_lt hlt)
      have HE := Lib.hid (HY.out HI.out)
      go_wp2
      go_ret
      exact ⟨ret_bool HE.out.symm, hb⟩

end Go.Proofs.YtlmbaijkeahkfaaDoor
