/- Walks: functions of the library's package slices, at ints. -/
import Derived.Test.YtlmbaijkeahkfaaDoorNumWalks
namespace Go.Proofs.YtlmbaijkeahkfaaDoor
open Go.RowKit
set_option linter.unusedVariables false
set_option linter.unusedSimpArgs false

def idxOf (p : Int → Bool) (xs : List Int) : Int := if xs.any p then (xs.findIdx p : Nat) else -1

theorem idxOf_yes {p : Int → Bool} {xs : List Int} {k : Nat} {x : Int} (hx : xs[k]? = some x) (hp : p x = true) (hno : ∀ j y, j < k → xs[j]? = some y → p y = false) : idxOf p xs = k := by
  obtain ⟨hk, rfl⟩ := List.getElem?_eq_some_iff.1 hx
  have h1 : xs.any p = true := List.any_eq_true.2 ⟨_, List.getElem_mem hk, hp⟩
  unfold idxOf
  rw [if_pos h1]
  have : xs.findIdx p = k := by
    rw [List.findIdx_eq hk]
    exact ⟨hp, fun j hj => by simpa using hno j xs[j] hj (List.getElem?_eq_getElem _)⟩
  rw [this]
theorem idxOf_no {p : Int → Bool} {xs : List Int} (hno : ∀ (j : Nat) y, j < xs.length → xs[j]? = some y → p y = false) : idxOf p xs = -1 := by
  unfold idxOf
  rw [if_neg]
  intro h
  obtain ⟨x, hx, hp⟩ := List.any_eq_true.1 h
  obtain ⟨j, hj, rfl⟩ := List.getElem_of_mem hx
  rw [hno j _ hj (List.getElem?_eq_getElem hj)] at hp
  cases hp
theorem idxOf_any (p : Int → Bool) (xs : List Int) : decide (0 ≤ idxOf p xs) = xs.any p := by
  unfold idxOf
  cases h : xs.any p <;> simp

set_option maxHeartbeats 400000 in
theorem f_IndexFunc (p : Int → Bool) (fn : Nat) (cap : Array Value) (hk : Known fn) (v : Value) (xs : List Int) (w : World) (h : Rd w v (ints xs))
    (hf : ∀ x ∈ xs, Calls Tryd.prog fn (#[.int .i64 x] ++ cap) w fun e w' => e = .returned (.bool (p x)) ∧ w = w') :
    Calls Tryd.prog 127 #[v, .func (.func fn) #[] cap] w fun e w' => e = .returned (.int .i64 (idxOf p xs)) ∧ w = w' := by
  obtain ⟨a, c, rfl, h2, h3⟩ := h.formi
  go_enter Tryd.func127, Tryd.ntmps127
  go_wp2
  go_loop [8] (fun i => ∃ k : Nat, k ≤ xs.length ∧ i = .int .i64 k ∧ (∀ j y, j < k → xs[j]? = some y → p y = false)) (fun i => xs.length - (intOf i).toNat)
  case atStart => exact ⟨0, Nat.zero_le _, rfl, fun j y hj => by omega⟩
  case round =>
    obtain ⟨k, hkl, rfl, hno⟩ := hrel
    have HN := Lib.hid hno
    clear hno
    by_cases hlt : k < xs.length
    · obtain ⟨ad, x, rfl, hc, hx⟩ := h.int hlt
      have HF := Lib.hid (hf x (List.mem_of_getElem? hx.out))
      clear hf
      have hcall := hk (#[.int .i64 x] ++ cap) w
      cases hp : p x
      · rw [hp] at HF
        go_wp2_with (with_reducible refine (HF.out).mono ?_; rintro e w' ⟨rfl, rfl⟩)
        go_round
        case rel => exact ⟨k + 1, by omega, by go_num, fun j y hj hy => by
          by_cases e : j = k
          · subst e
            rw [hx.out] at hy
            cases hy
            exact hp
          · exact HN.out j y (by omega) hy⟩
        case measure => simp [intOf]; omega
      · rw [hp] at HF
        go_wp2_with (with_reducible refine (HF.out).mono ?_; rintro e w' ⟨rfl, rfl⟩)
        go_ret
        exact ⟨ret_int (idxOf_yes hx.out hp HN.out).symm, rfl⟩
    · obtain rfl : k = xs.length := by omega
      clear hf
      go_wp2
      go_ret
      exact ⟨ret_int (idxOf_no HN.out).symm, rfl⟩

theorem f_ContainsFunc (p : Int → Bool) (fn : Nat) (cap : Array Value) (hk : Known fn) (v : Value) (xs : List Int) (w : World) (h : Rd w v (ints xs))
    (hf : ∀ x ∈ xs, Calls Tryd.prog fn (#[.int .i64 x] ++ cap) w fun e w' => e = .returned (.bool (p x)) ∧ w = w') :
    Calls Tryd.prog 74 #[v, .func (.func fn) #[] cap] w fun e w' => e = .returned (.bool (xs.any p)) ∧ w = w' := by
  have H := f_IndexFunc p fn cap hk v xs w h hf
  have HI := Lib.hid (idxOf_any p xs)
  clear hf hk h
  generalize idxOf p xs = r at *
  go_enter Tryd.func74, Tryd.ntmps74
  go_wp2_with (go_at_call 127; refine H.mono ?_; rintro e w' ⟨rfl, rfl⟩)
  go_ret
  exact ⟨ret_bool (by rw [← HI.out]), rfl⟩

end Go.Proofs.YtlmbaijkeahkfaaDoor
