/- Walks: the helpers of the laws. -/
import Derived.Test.YtnjdihbaofclbaaRows
import Derived.Test.YtnjdihbaofclbaaMem
import Derived.BigQuiet
import Derived.Deep.QuietTactic
namespace Go.Proofs.Ytnjdihbaofclbaa
open Go.RowKit
set_option linter.unusedVariables false
set_option linter.unusedSimpArgs false

/-- A new slice is returned; nothing that existed has turned. -/
def RetOwn (E : Nat) (xs : List Value) (w : World) (e : Ending) (w' : World) : Prop :=
  ∃ v, e = .returned v ∧ Own w' E w.heap.size v xs ∧ Below w.heap.size w w'

theorem ret_int {k : IntKind} {a b : Int} (h : a = b) : Ending.returned (.int k a) = .returned (.int k b) := by rw [h]
theorem ret_bool {a b : Bool} (h : a = b) : Ending.returned (.bool a) = .returned (.bool b) := by rw [h]

theorem elI : ElemOk Try.prog 26 3 8 (.int .i64 0) := by
  obtain ⟨i, hi, h0, h1, h2⟩ := info_parts (show (Try.prog.info? 3).map (fun i => (i.zero, i.size, i.bytes)) = some (some (.int .i64 0), 1, 8) by kernel_rfl)
  exact ⟨i, Try.underlying26, hi, h0, h1, h2, rfl⟩

theorem copy_step (xs : List Int) (k : Nat) (x : Int) (h : xs[k]? = some x) : (xs.take k ++ List.replicate (xs.length - k) 0).set k x = xs.take (k + 1) ++ List.replicate (xs.length - (k + 1)) 0 := by
  obtain ⟨hk, rfl⟩ := List.getElem?_eq_some_iff.1 h
  apply List.ext_getElem?
  intro j
  simp only [List.getElem?_set, List.getElem?_append, List.length_take, List.getElem?_take, List.getElem?_replicate, List.length_append, List.length_replicate]
  grind

set_option maxHeartbeats 400000 in
theorem toIntS_c (v : Value) (xs : List Int) (w : World) (h : Rd w v (ints xs)) (hl : xs.length ≤ 2000000) :
    Calls Try.prog 19 #[v] w (RetOwn 3 (ints xs) w) := by
  obtain ⟨a, c, rfl, h2, h3⟩ := h.formi
  go_enter Try.func19, Try.ntmps19
  go_wp2_with (at_make; refine wpList_mk rfl _ _ 26 rfl elI rfl rfl (Nat.le_refl _) (by omega) (by omega) ?_; intro b w1 hb1 hown1 hg1)
  go_loopw [4] (fun i wr => ∃ k : Nat, k ≤ xs.length ∧ i = .int .i64 k ∧ Own wr 3 w.heap.size (.slice (some b) xs.length xs.length) (ints (xs.take k ++ List.replicate (xs.length - k) 0)) ∧ Below w.heap.size w wr)
    (fun i _ => xs.length - (intOf i).toNat)
  case atStart => exact ⟨0, Nat.zero_le _, rfl, by simpa [ints] using hown1, (Below.refl _ _).grown hg1 (Nat.le_refl _) (fun _ h => by cases h)⟩
  case round =>
    obtain ⟨k, hk, rfl, hown, hbel⟩ := hrel
    by_cases hlt : k < xs.length
    · obtain ⟨ad, x, rfl, hc, hx⟩ := (h.below hbel).int hlt
      have hl2 : k < (xs.take k ++ List.replicate (xs.length - k) 0).length := by simp; omega
      obtain ⟨ad2, y, had2, hc2, _⟩ := hown.rd.int hl2
      obtain rfl : b = ad2 := by injection had2
      clear had2
      have hf2 := hown.frozen rfl k
      have hs := (hown.seti rfl hl2 x).1
      have hb2 := hown.below_set rfl hl2 (.int .i64 x) hbel (Nat.le_refl _)
      rw [copy_step xs k x hx.out] at hs
      clear hown hbel
      go_wp2
      go_roundw
      case rel => exact ⟨k + 1, by omega, by go_num, hs, hb2⟩
      case measure => simp [intOf]; omega
    · obtain rfl : k = xs.length := by omega
      go_wp2
      go_ret
      exact ⟨_, rfl, by simpa using hown, hbel⟩
def eqI (xs ys : List Int) : Bool := decide (xs = ys)
theorem eqI_len {xs ys : List Int} (h : xs.length ≠ ys.length) : eqI xs ys = false := by
  simp only [eqI, decide_eq_false_iff_not]
  rintro rfl
  exact h rfl
theorem eqI_no {xs ys : List Int} {k : Nat} {x y : Int} (hx : xs[k]? = some x) (hy : ys[k]? = some y) (h : x ≠ y) : eqI xs ys = false := by
  simp only [eqI, decide_eq_false_iff_not]
  rintro rfl
  rw [hx] at hy
  cases hy
  exact h rfl
theorem eqI_yes {xs ys : List Int} (hl : xs.length = ys.length) (h : ∀ (j : Nat) x y, j < xs.length → xs[j]? = some x → ys[j]? = some y → x = y) : eqI xs ys = true := by
  simp only [eqI, decide_eq_true_eq]
  apply List.ext_getElem hl
  intro j h1 h2
  exact h j _ _ h1 (List.getElem?_eq_getElem h1) (List.getElem?_eq_getElem h2)
theorem eqI_self (xs : List Int) : eqI xs xs = true := by simp [eqI]

/-- It returns the value v, and but for draws the world is as it was. -/
def RetQ (v : Value) (w : World) (e : Ending) (w' : World) : Prop := e = .returned v ∧ Dr w w'

set_option maxHeartbeats 400000 in
theorem eqIntS_c (v u : Value) (xs ys : List Int) (w : World) (hx : Rd w v (ints xs)) (hy : Rd w u (ints ys)) :
    Calls Try.prog 21 #[v, u] w (RetQ (.bool (eqI xs ys)) w) := by
  obtain ⟨a, c, rfl, h2, h3⟩ := hx.formi
  obtain ⟨b, d, rfl, h4, h5⟩ := hy.formi
  by_cases hl : xs.length = ys.length
  · have hL : ((xs.length : Int) != (ys.length : Int)) = false := by simp [hl]
    have HL := Lib.hid hl
    clear hl
    have hle : xs.length ≤ ys.length := by have := HL.out; omega
    go_enter Try.func21, Try.ntmps21
    go_wp2
    go_loopw [5] (fun i wr => ∃ k : Nat, k ≤ xs.length ∧ i = .int .i64 k ∧ (∀ (j : Nat) x y, j < k → xs[j]? = some x → ys[j]? = some y → x = y) ∧ Dr w wr) (fun i _ => xs.length - (intOf i).toNat)
    case atStart => exact ⟨0, Nat.zero_le _, rfl, fun j _ _ hj => by omega, Dr.refl _⟩
    case round =>
      obtain ⟨k, hk, rfl, hno, hw⟩ := hrel
      have HN := Lib.hid hno
      clear hno
      by_cases hlt : k < xs.length
      · obtain ⟨ad, x, rfl, hc, hxk⟩ := (hx.dr hw).int hlt
        obtain ⟨bd, y, rfl, hc2, hyk⟩ := (hy.dr hw).int (show k < ys.length by omega)
        have hlt2 : (k : Int) < (ys.length : Int) := by omega
        have hlt1 : (k : Int) < (xs.length : Int) := by omega
        by_cases e : x = y
        · have e1 : (x != y) = false := by simp [e]
          go_wp2
          go_quiet (fail)
          go_wp2
          go_roundw
          case rel => exact ⟨k + 1, by omega, by go_num, fun j p q hj hp hq => by
            by_cases ej : j = k
            · subst ej
              rw [hxk.out] at hp
              rw [hyk.out] at hq
              cases hp
              cases hq
              exact e
            · exact HN.out j p q (by omega) hp hq, hw.step _⟩
          case measure => simp [intOf]; omega
        · have e1 : (x != y) = true := by simp [e]
          have HE := Lib.hid (eqI_no hxk.out hyk.out e)
          go_wp2
          go_quiet (fail)
          go_wp2
          go_ret
          exact ⟨ret_bool HE.out.symm, hw.step _⟩
      · obtain rfl : k = xs.length := by omega
        have HE := Lib.hid (eqI_yes HL.out HN.out)
        go_wp2
        go_ret
        exact ⟨ret_bool HE.out.symm, hw⟩
  · have hL : ((xs.length : Int) != (ys.length : Int)) = true := by simp; omega
    have HE := Lib.hid (eqI_len hl)
    clear hl
    go_enter Try.func21, Try.ntmps21
    go_wp2
    go_ret
    exact ⟨ret_bool HE.out.symm, Dr.refl _⟩

end Go.Proofs.Ytnjdihbaofclbaa
