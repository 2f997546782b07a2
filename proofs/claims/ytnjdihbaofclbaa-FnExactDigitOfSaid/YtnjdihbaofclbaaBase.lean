/- Walks: the helpers of the laws. -/
import Derived.Test.YtnjdihbaofclbaaRows
import Derived.Test.YtnjdihbaofclbaaMem
import Derived.BigQuiet
import Derived.Deep.QuietTactic
namespace Go.Proofs.Ytnjdihbaofclbaa
open Go.RowKit
set_option linter.unusedVariables false
set_option linter.unusedSimpArgs false

/-- A new slice is returned; nothing that existed has turned. -/
def RetOwn (E : Nat) (xs : List Value) (w : World) (e : Ending) (w' : World) : Prop :=
  ∃ v, e = .returned v ∧ Own w' E w.heap.size v xs ∧ Below w.heap.size w w'

theorem elI : ElemOk Try.prog 26 3 8 (.int .i64 0) := by
  obtain ⟨i, hi, h0, h1, h2⟩ := info_parts (show (Try.prog.info? 3).map (fun i => (i.zero, i.size, i.bytes)) = some (some (.int .i64 0), 1, 8) by kernel_rfl)
  exact ⟨i, Try.underlying26, hi, h0, h1, h2, rfl⟩

theorem copy_step (xs : List Int) (k : Nat) (x : Int) (h : xs[k]? = some x) : (xs.take k ++ List.replicate (xs.length - k) 0).set k x = xs.take (k + 1) ++ List.replicate (xs.length - (k + 1)) 0 := by
  obtain ⟨hk, rfl⟩ := List.getElem?_eq_some_iff.1 h
  apply List.ext_getElem?
  intro j
  simp only [List.getElem?_set, List.getElem?_append, List.length_take, List.getElem?_take, List.getElem?_replicate, List.length_append, List.length_replicate]
  grind

set_option maxHeartbeats 400000 in
theorem toIntS_c (v : Value) (xs : List Int) (w : World) (h : Rd w v (ints xs)) (hl : xs.length ≤ 2000000) :
    Calls Try.prog 19 #[v] w (RetOwn 3 (ints xs) w) := by
  obtain ⟨a, c, rfl, h2, h3⟩ := h.formi
  go_enter Try.func19, Try.ntmps19
  go_wp2_with (at_make; refine wpList_mk rfl _ _ 26 rfl elI rfl rfl (Nat.le_refl _) (by omega) (by omega) ?_; intro b w1 hb1 hown1 hg1)
  go_loopw [4] (fun i wr => ∃ k : Nat, k ≤ xs.length ∧ i = .int .i64 k ∧ Own wr 3 w.heap.size (.slice (some b) xs.length xs.length) (ints (xs.take k ++ List.replicate (xs.length - k) 0)) ∧ Below w.heap.size w wr)
    (fun i _ => xs.length - (intOf i).toNat)
  case atStart => exact ⟨0, Nat.zero_le _, rfl, by simpa [ints] using hown1, (Below.refl _ _).grown hg1 (Nat.le_refl _) (fun _ h => by cases h)⟩
  case round =>
    obtain ⟨k, hk, rfl, hown, hbel⟩ := hrel
    by_cases hlt : k < xs.length
    · obtain ⟨ad, x, rfl, hc, hx⟩ := (h.below hbel).int hlt
      have hl2 : k < (xs.take k ++ List.replicate (xs.length - k) 0).length := by simp; omega
      obtain ⟨ad2, y, had2, hc2, _⟩ := hown.rd.int hl2
      obtain rfl : b = ad2 := by injection had2
      clear had2
      have hf2 := hown.frozen rfl k
      have hs := (hown.seti rfl hl2 x).1
      have hb2 := hown.below_set rfl hl2 (.int .i64 x) hbel (Nat.le_refl _)
      rw [copy_step xs k x hx.out] at hs
      clear hown hbel
      go_wp2
      go_roundw
      case rel => exact ⟨k + 1, by omega, by go_num, hs, hb2⟩
      case measure => simp [intOf]; omega
    · obtain rfl : k = xs.length := by omega
      go_wp2
      go_ret
      exact ⟨_, rfl, by simpa using hown, hbel⟩
end Go.Proofs.Ytnjdihbaofclbaa
