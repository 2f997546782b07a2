/- Walks: what the laws' own small functions answer. -/
import Derived.Test.YtkidbnlebeaikaaSort2
namespace Go.Proofs.Ytkidbnlebeaikaa
open Go.RowKit
set_option linter.unusedVariables false
set_option linter.unusedSimpArgs false

set_option maxHeartbeats 400000 in
theorem same_c (v u : Value) (xs ys : List Int) (w : World) (hx : Rd w v (ints xs)) (hy : Rd w u (ints ys)) :
    Calls Try.prog 34 #[v, u] w (RetQ (.bool (eqI xs ys)) w) := by
  obtain ⟨a, c, rfl, h2, h3⟩ := hx.formi
  obtain ⟨b, d, rfl, h4, h5⟩ := hy.formi
  by_cases hl : xs.length = ys.length
  · have hL : ((xs.length : Int) != (ys.length : Int)) = false := by simp [hl]
    have HL := Lib.hid hl
    clear hl
    have hle : xs.length ≤ ys.length := by have := HL.out; omega
    go_enter Try.func34, Try.ntmps34
    go_wp2
    go_loopw [14] (fun i wr => ∃ k : Nat, k ≤ xs.length ∧ i = .int .i64 k ∧ (∀ (j : Nat) x y, j < k → xs[j]? = some x → ys[j]? = some y → x = y) ∧ Dr w wr) (fun i _ => xs.length - (intOf i).toNat)
    case atStart => exact ⟨0, Nat.zero_le _, rfl, fun j _ _ hj => by omega, Dr.refl _⟩
    case round =>
      obtain ⟨k, hk, rfl, hno, hw⟩ := hrel
      have HN := Lib.hid hno
      clear hno
      by_cases hlt : k < xs.length
      · obtain ⟨ad, x, rfl, hc, hxk⟩ := (hx.dr hw).int hlt
        obtain ⟨bd, y, rfl, hc2, hyk⟩ := (hy.dr hw).int (show k < ys.length by omega)
        have hlt2 : (k : Int) < (ys.length : Int) := by omega
        have hlt1 : (k : Int) < (xs.length : Int) := by omega
        by_cases e : x = y
        · have e1 : (x != y) = false := by simp [e]
          go_wp2
          go_roundw
          case rel => exact ⟨k + 1, by omega, by go_num, fun j p q hj hp hq => by
            by_cases ej : j = k
            · subst ej
              rw [hxk.out] at hp
              rw [hyk.out] at hq
              cases hp
              cases hq
              exact e
            · exact HN.out j p q (by omega) hp hq, hw⟩
          case measure => simp [intOf]; omega
        · have e1 : (x != y) = true := by simp [e]
          have HE := Lib.hid (eqI_no hxk.out hyk.out e)
          go_wp2
          go_ret
          exact ⟨ret_bool HE.out.symm, hw⟩
      · obtain rfl : k = xs.length := by omega
        have HE := Lib.hid (eqI_yes HL.out HN.out)
        go_wp2
        go_ret
        exact ⟨ret_bool HE.out.symm, hw⟩
  · have hL : ((xs.length : Int) != (ys.length : Int)) = true := by simp; omega
    have HE := Lib.hid (eqI_len hl)
    clear hl
    go_enter Try.func34, Try.ntmps34
    go_wp2
    go_ret
    exact ⟨ret_bool HE.out.symm, Dr.refl _⟩

theorem sorted_c (v : Value) (xs : List Int) (w : World) (h : Rd w v (ints xs)) (hl : xs.length ≤ 1000) : Calls Try.prog 35 #[v] w (RetOwn 3 (ints (srt xs)) w) := by
  have HM : Calls Try.prog 56 #[v] w (RetOwn 3 (ints (srt xs)) w) := by
    go_enter Try.func56, Try.ntmps56
    go_wp2_with (go_at_call 62; refine (s_l08Sort v xs w h hl).mono ?_; rintro e w' ⟨u, rfl, ho, hb⟩)
    go_ret
    exact ⟨u, rfl, ho, hb⟩
  go_enter Try.func35, Try.ntmps35
  go_wp2_with (go_at_call 56; refine HM.mono ?_; rintro e w' ⟨u, rfl, ho, hb⟩)
  go_ret
  exact ⟨u, rfl, ho, hb⟩

def sumF (xs : List Int) : Int := xs.foldl (· + ·) 0
theorem foldl_bd {xs : List Int} (hx : ∀ x ∈ xs, 0 ≤ x ∧ x ≤ 1000000) : ∀ a : Int, a ≤ xs.foldl (· + ·) a ∧ xs.foldl (· + ·) a ≤ a + xs.length * 1000000 := by
  induction xs with
  | nil => intro a; simp
  | cons x t ih =>
    intro a
    have h1 := hx x (List.mem_cons_self ..)
    have h2 := ih (fun y hy => hx y (List.mem_cons_of_mem _ hy)) (a + x)
    rw [List.foldl_cons, List.length_cons]
    omega
theorem sum_c (v : Value) (xs : List Int) (w : World) (h : Rd w v (ints xs)) (hl : xs.length ≤ 1000) (hx : ∀ x ∈ xs, 0 ≤ x ∧ x ≤ 1000000) : Calls Try.prog 40 #[v] w fun e w' => e = .returned (.int .i64 (sumF xs)) ∧ w = w' := by
  obtain ⟨a, c, rfl, h2, h3⟩ := h.formi
  have HB : ∀ k, 0 ≤ (xs.take k).foldl (· + ·) (0 : Int) ∧ (xs.take k).foldl (· + ·) (0 : Int) ≤ 1000000000 := fun k => by
    have h1 := foldl_bd (fun x hx' => hx x (List.mem_of_mem_take hx')) (xs := xs.take k) 0
    have h2 : (xs.take k).length ≤ 1000 := by rw [List.length_take]; omega
    omega
  have HB' := Lib.hid HB
  clear HB
  go_enter Try.func40, Try.ntmps40
  go_wp2
  go_loop [3, 8] (fun m i => ∃ (k : Nat) (q : Int), k ≤ xs.length ∧ i = .int .i64 k ∧ m = .int .i64 q ∧ 0 ≤ q ∧ q ≤ 1000000000 ∧ Hid (q = (xs.take k).foldl (· + ·) 0)) (fun _ i => xs.length - (intOf i).toNat)
  case atStart => exact ⟨0, 0, Nat.zero_le _, rfl, rfl, by omega, by omega, rfl⟩
  case round =>
    obtain ⟨k, q, hk, rfl, rfl, hq0, hq1, hq⟩ := hrel
    by_cases hlt : k < xs.length
    · obtain ⟨ad, x, rfl, hc, hxk⟩ := h.int hlt
      have H1 := Lib.hid (foldl_take_succ (· + ·) 0 xs k x hxk.out)
      have hb := HB'.out (k + 1)
      rw [H1.out, ← hq.out] at hb
      go_wp2
      go_round
      case rel => exact ⟨k + 1, q + x, by omega, by go_num, rfl, hb.1, hb.2, by rw [H1.out, ← hq.out]; exact rfl⟩
      case measure => simp [intOf]; omega
    · obtain rfl : k = xs.length := by omega
      go_wp2
      go_ret
      exact ⟨ret_int (by rw [hq.out, List.take_length]; rfl), rfl⟩

theorem has_c (v : Value) (xs : List Int) (x : Int) (w : World) (h : Rd w v (ints xs)) : Calls Try.prog 37 #[v, .int .i64 x] w fun e w' => e = .returned (.bool (decide (x ∈ xs))) ∧ w = w' := by
  obtain ⟨a, c, rfl, h2, h3⟩ := h.formi
  go_enter Try.func37, Try.ntmps37
  go_wp2
  go_loop [9] (fun i => ∃ k : Nat, k ≤ xs.length ∧ i = .int .i64 k ∧ Hid (∀ (j : Nat) y, j < k → xs[j]? = some y → y ≠ x)) (fun i => xs.length - (intOf i).toNat)
  case atStart => exact ⟨0, Nat.zero_le _, rfl, fun j _ hj => by omega⟩
  case round =>
    obtain ⟨k, hk, rfl, HN⟩ := hrel
    by_cases hlt : k < xs.length
    · obtain ⟨ad, y, rfl, hc, hy⟩ := h.int hlt
      by_cases e : y = x
      · have e1 : (y == x) = true := by simp [e]
        have HM : Hid (decide (x ∈ xs) = true) := by have := List.mem_of_getElem? hy.out; rw [e] at this; exact decide_eq_true this
        go_wp2
        go_ret
        exact ⟨ret_bool HM.out.symm, rfl⟩
      · have e1 : (y == x) = false := by simp [e]
        go_wp2
        go_round
        case rel => exact ⟨k + 1, by omega, by go_num, fun j z hj hz => by
          by_cases ej : j = k
          · subst ej
            rw [hy.out] at hz
            cases hz
            exact e
          · exact HN.out j z (by omega) hz⟩
        case measure => simp [intOf]; omega
    · obtain rfl : k = xs.length := by omega
      have HM : Hid (decide (x ∈ xs) = false) := decide_eq_false fun hx => by
        obtain ⟨j, hj⟩ := List.getElem?_of_mem hx
        exact HN.out j x (List.getElem?_eq_some_iff.1 hj).1 hj rfl
      go_wp2
      go_ret
      exact ⟨ret_bool HM.out.symm, rfl⟩

end Go.Proofs.Ytkidbnlebeaikaa
