/- Walks: lengths of runs, cheapest merges of neighbours. -/
import Derived.Test.YtlmbaijkeahkfaaDoorSlicesWalks
import Derived.Test.YtlmbaijkeahkfaaDoorPlainDigits
import Derived.Test.YtlmbaijkeahkfaaDoorApp
import Derived.Deep.LoopGhost
namespace Go.Proofs.YtlmbaijkeahkfaaDoor
open Go.RowKit
set_option linter.unusedVariables false
set_option linter.unusedSimpArgs false

def lenB (x : Int) : Bool := inB x 1 1000
def lensB (xs : List Int) : Bool := decide (xs.length ≤ 8) && xs.all lenB
theorem lensB_iff {xs : List Int} : lensB xs = true ↔ xs.length ≤ 8 ∧ ∀ x ∈ xs, 1 ≤ x ∧ x ≤ 1000 := by
  simp [lensB, lenB, inB_iff]
def sumL : List Int → Int
  | [] => 0
  | x :: t => x + sumL t
theorem sumL_append (a b : List Int) : sumL (a ++ b) = sumL a + sumL b := by
  induction a with
  | nil => simp [sumL]
  | cons x t ih => simp only [List.cons_append, sumL, ih]; omega
theorem sumL_take {xs : List Int} {k : Nat} {x : Int} (h : xs[k]? = some x) : sumL (xs.take (k + 1)) = sumL (xs.take k) + x := by
  rw [take_snoc' h, sumL_append]; simp [sumL]
theorem sumL_bd : ∀ (xs : List Int), (∀ x ∈ xs, 1 ≤ x ∧ x ≤ 1000) → 0 ≤ sumL xs ∧ sumL xs ≤ 1000 * (xs.length : Int)
  | [], _ => by simp [sumL]
  | x :: t, h => by
    have h1 := h x (by simp)
    have h2 := sumL_bd t fun y hy => h y (by simp [hy])
    simp only [sumL, List.length_cons]
    omega
def nbS (b t : Int) : Int := if b < 0 ∨ t < b then t else b
/-- The best over the first k cuts. -/
def nbK (g : List Int → Int) (xs : List Int) : Nat → Int
  | 0 => -1
  | k + 1 => nbS (nbK g xs k) (g (xs.take (k + 1)) + g (xs.drop (k + 1)))
def nb : Nat → List Int → Int
  | 0, _ => 0
  | f + 1, xs => if xs.length < 2 then 0 else nbK (nb f) xs (xs.length - 1) + sumL xs
def nbTop : Nat → Int
  | 0 => 0
  | f + 1 => 2 * nbTop f + 8000
theorem nbTop_le : ∀ f, f ≤ 8 → 0 ≤ nbTop f ∧ nbTop f ≤ 2040000
  | 0, _ => by decide
  | 1, _ => by decide
  | 2, _ => by decide
  | 3, _ => by decide
  | 4, _ => by decide
  | 5, _ => by decide
  | 6, _ => by decide
  | 7, _ => by decide
  | 8, _ => by decide
theorem nbK_bd {g : List Int → Int} {T : Int} {xs : List Int} (hT : 0 ≤ T) (hg : ∀ ys, (∀ y ∈ ys, y ∈ xs) → ys.length ≤ xs.length → 0 ≤ g ys ∧ g ys ≤ T) : ∀ k, -1 ≤ nbK g xs k ∧ nbK g xs k ≤ 2 * T
  | 0 => by simp [nbK]; omega
  | k + 1 => by
    have h1 := nbK_bd hT hg k
    have h2 := hg (xs.take (k + 1)) (fun y hy => List.mem_of_mem_take hy) (by simp; omega)
    have h3 := hg (xs.drop (k + 1)) (fun y hy => List.mem_of_mem_drop hy) (by simp)
    simp only [nbK, nbS]
    split <;> omega
theorem nbK_pos {g : List Int → Int} {T : Int} {xs : List Int} (hT : 0 ≤ T) (hg : ∀ ys, (∀ y ∈ ys, y ∈ xs) → ys.length ≤ xs.length → 0 ≤ g ys ∧ g ys ≤ T) (k : Nat) : 0 ≤ nbK g xs (k + 1) := by
  have h1 := nbK_bd hT hg k
  have h2 := hg (xs.take (k + 1)) (fun y hy => List.mem_of_mem_take hy) (by simp; omega)
  have h3 := hg (xs.drop (k + 1)) (fun y hy => List.mem_of_mem_drop hy) (by simp)
  simp only [nbK, nbS]
  split <;> omega
theorem nb_bd : ∀ (f : Nat) (xs : List Int), xs.length ≤ 8 → (∀ x ∈ xs, 1 ≤ x ∧ x ≤ 1000) → f ≤ 8 → 0 ≤ nb f xs ∧ nb f xs ≤ nbTop f
  | 0, xs, _, _, _ => by simp [nb, nbTop]
  | f + 1, xs, hl, h, hf => by
    have hT := (nbTop_le f (by omega)).1
    have hg : ∀ ys, (∀ y ∈ ys, y ∈ xs) → ys.length ≤ xs.length → 0 ≤ nb f ys ∧ nb f ys ≤ nbTop f := fun ys hy hyl => nb_bd f ys (by omega) (fun y hm => h y (hy y hm)) (by omega)
    have hs := sumL_bd xs h
    rw [nb, nbTop]
    split
    · omega
    · have h1 := nbK_bd hT hg (xs.length - 1)
      have h2 := nbK_pos hT hg (xs.length - 2)
      rw [show xs.length - 2 + 1 = xs.length - 1 by omega] at h2
      omega

theorem k_LengthsOk1 : Known 75 := known Tryd.func75 (by kernel_rfl) (by kernel_rfl)
theorem i_LengthsOk1 (x : Int) (w : World) : Calls Tryd.prog 75 #[.int .i64 x] w fun e w' => e = .returned (.bool (!lenB x)) ∧ w = w' := by
  by_cases h : x < 1
  · have H : Hid ((!lenB x) = true) := by rw [Hid, lenB, inB, decide_eq_false (by omega)]; rfl
    have h1 : decide (x < 1) = true := by simpa using h
    go_enter Tryd.func75, Tryd.ntmps75
    go_wp2
    go_ret
    exact ⟨ret_bool (by rw [H.out]), rfl⟩
  · have H : Hid ((!lenB x) = decide (x > 1000)) := by
      rw [Hid, lenB, inB, decide_eq_true (p := 1 ≤ x) (by omega)]
      by_cases h2 : x ≤ 1000
      · simp [h2]
      · simp [h2] <;> omega
    have h1 : decide (x < 1) = false := by simpa using h
    go_enter Tryd.func75, Tryd.ntmps75
    go_wp2
    go_ret
    exact ⟨ret_bool H.out.symm, rfl⟩
set_option maxHeartbeats 1000000 in
theorem i_LengthsOk (v : Value) (xs : List Int) (w : World) (h : Rd w v (ints xs)) : Calls Tryd.prog 30 #[v] w fun e w' => e = .returned (.bool (lensB xs)) ∧ w = w' := by
  obtain ⟨a, c, rfl, h2, h3⟩ := h.formi
  have HF := Lib.hid (f_ContainsFunc (fun x => !lenB x) 75 #[] k_LengthsOk1 _ xs w h (fun x _ => by simpa using i_LengthsOk1 x w))
  have HR : Hid (lensB xs = (decide (xs.length ≤ 8) && !(xs.any fun x => !lenB x))) := by
    show _ = _
    rw [List.not_any_eq_all_not]
    simp [lensB]
  generalize (xs.any fun x => !lenB x) = r at HF HR
  by_cases h16 : xs.length ≤ 8
  · have HR2 : Hid (lensB xs = !r) := by rw [Hid, HR.out, decide_eq_true h16]; rfl
    go_enter Tryd.func30, Tryd.ntmps30
    go_wp2_with (go_at_call 74; refine HF.out.mono ?_; rintro e w' ⟨rfl, rfl⟩)
    go_ret
    exact ⟨ret_bool (by rw [HR2.out]), rfl⟩
  · have HR2 : Hid (lensB xs = false) := by rw [Hid, HR.out, decide_eq_false h16]; rfl
    have hd : decide ((xs.length : Int) ≤ 8) = false := by simp; omega
    go_enter Tryd.func30, Tryd.ntmps30
    go_wp2
    go_ret
    exact ⟨ret_bool (by rw [HR2.out]), rfl⟩

set_option maxHeartbeats 1000000 in
theorem s_LengthsOk (v : Value) (xs : List Int) (w : World) (h : Rd w v (ints xs)) : Calls Tryd.prog 26 #[v] w fun e w' => e = .returned (.bool (lensB xs)) ∧ w = w' := by
  obtain ⟨a, c, rfl, h2, h3⟩ := h.formi
  by_cases h16 : xs.length ≤ 8
  · have hd : decide ((xs.length : Int) > 8) = false := by simp; omega
    have HNO : Hid ((∃ x ∈ xs, inB x 1 1000 = false) → lensB xs = false) := fun ⟨x, hx, hb⟩ => by
      have : xs.all lenB = false := List.all_eq_false.2 ⟨x, hx, by rw [lenB, hb]; simp⟩
      rw [lensB, this, Bool.and_false]
    have HYES : Hid ((∀ (j : Nat) x, j < xs.length → xs[j]? = some x → inB x 1 1000 = true) → lensB xs = true) := fun hh => by
      rw [lensB, decide_eq_true h16]
      refine List.all_eq_true.2 fun x hx => ?_
      obtain ⟨j, hj, rfl⟩ := List.getElem_of_mem hx
      exact hh j _ hj (List.getElem?_eq_getElem hj)
    go_enter Tryd.func26, Tryd.ntmps26
    go_wp2
    go_loop [10] (fun i => ∃ k : Nat, k ≤ xs.length ∧ i = .int .i64 k ∧ Hid (∀ (j : Nat) x, j < k → xs[j]? = some x → inB x 1 1000 = true)) (fun i => xs.length - (intOf i).toNat)
    case atStart => exact ⟨0, Nat.zero_le _, rfl, fun j _ hj => by omega⟩
    case round =>
      obtain ⟨k, hk, rfl, HN⟩ := hrel
      by_cases hlt : k < xs.length
      · obtain ⟨ad, x, rfl, hc, hx⟩ := h.int hlt
        cases hp : inB x 1 1000
        · have HV := Lib.hid (HNO.out ⟨x, List.mem_of_getElem? hx.out, hp⟩)
          go_wp2_with (go_at_call 71; refine (s_l01In _ _ _ _).mono ?_; rintro e w' ⟨rfl, rfl⟩)
          go_ret
          exact ⟨ret_bool (by rw [HV.out]), rfl⟩
        · have HN2 : Hid (∀ (j : Nat) x, j < k + 1 → xs[j]? = some x → inB x 1 1000 = true) := fun j y hj hy => by
            by_cases e : j = k
            · subst e; rw [hx.out] at hy; cases hy; exact hp
            · exact HN.out j y (by omega) hy
          go_wp2_with (go_at_call 71; refine (s_l01In _ _ _ _).mono ?_; rintro e w' ⟨rfl, rfl⟩)
          go_round
          case rel => exact ⟨k + 1, by omega, by go_num, HN2⟩
          case measure => simp [intOf]; omega
      · obtain rfl : k = xs.length := by omega
        have HV := Lib.hid (HYES.out HN.out)
        go_wp2
        go_ret
        exact ⟨ret_bool (by rw [HV.out]), rfl⟩
  · have HV : Hid (lensB xs = false) := by rw [Hid, lensB, decide_eq_false h16]; rfl
    have hd : decide ((xs.length : Int) > 8) = true := by simp; omega
    go_enter Tryd.func26, Tryd.ntmps26
    go_wp2
    go_ret
    exact ⟨ret_bool (by rw [HV.out]), rfl⟩

end Go.Proofs.YtlmbaijkeahkfaaDoor
