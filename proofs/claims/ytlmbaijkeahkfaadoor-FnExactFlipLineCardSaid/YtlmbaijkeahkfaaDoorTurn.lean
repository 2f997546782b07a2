/- Walks: a list turned round, in the reference. -/
import Derived.Test.YtlmbaijkeahkfaaDoorApp
import Derived.Deep.LoopGhost
namespace Go.Proofs.YtlmbaijkeahkfaaDoor
open Go.RowKit
set_option linter.unusedVariables false
set_option linter.unusedSimpArgs false

theorem drop_rev {xs : List Int} {k : Nat} {x : Int} (h : xs[k]? = some x) : (xs.drop k).reverse = (xs.drop (k + 1)).reverse ++ [x] := by
  obtain ⟨hk, rfl⟩ := List.getElem?_eq_some_iff.1 h
  rw [List.drop_eq_getElem_cons hk, List.reverse_cons]

set_option maxRecDepth 100000 in
set_option maxHeartbeats 1000000 in
theorem s_l17Turn (v : Value) (xs : List Int) (w : World) (h : Rd w v (ints xs)) (hl : xs.length ≤ 1000) : Calls Tryd.prog 134 #[v] w (RetOwn 3 (ints xs.reverse) w) := by
  obtain ⟨a, n, c, rfl, HN, hnc, hc⟩ := h.formN
  rw [← HN.out] at hl
  have hA : Own (w.alloc (.cells #[] 3)) 3 w.heap.size (.slice (some ⟨w.heap.size, 0, none⟩) 0 0) (ints (xs.drop n).reverse) := by
    rw [List.drop_eq_nil_of_le (by rw [HN.out]; exact Nat.le_refl _)]
    exact Own.lit0 w 3 (Nat.le_refl _)
  have hb0 : Below w.heap.size w (w.alloc (.cells #[] 3)) := (Below.refl _ _).alloc (Nat.le_refl _) _
  go_enter Tryd.func134, Tryd.ntmps134
  go_wp2
  go_loopg [3, 4] n (fun g vo iv wr => ∃ (k : Nat) (z : Int), g = k ∧ k ≤ n ∧ iv = .int .i64 z ∧ z = (k : Int) - 1 ∧ Own wr 3 w.heap.size vo (ints (xs.drop k).reverse) ∧ Below w.heap.size w wr)
  case atStart => exact ⟨n, _, rfl, Nat.le_refl _, rfl, rfl, hA, hb0⟩
  case round =>
    clear hA hb0
    obtain ⟨k, z, hg, hk, rfl, hz, ho, hb⟩ := hrel
    obtain ⟨ao, mo, co, rfl, HMO, _, _⟩ := ho.rd.formN
    have hmo : mo ≤ 1000 := by have := HMO.out; have := HN.out; simp at *; omega
    have HLe : Hid ((ints (xs.drop k).reverse).length = mo) := by rw [Hid, ints_length]; exact HMO.out.symm
    rcases Nat.eq_zero_or_pos k with hk0 | hk0
    · subst hk0
      have d0 : ¬ (0 ≤ z) := by omega
      have d1 : decide (z ≥ 0) = false := by simp; omega
      rw [List.drop_zero] at ho
      clear hz
      go_wp2
      go_ret
      exact ⟨_, rfl, ho, hb⟩
    · obtain ⟨K, rfl⟩ : ∃ K, k = K + 1 := ⟨k - 1, by omega⟩
      obtain rfl : z = (K : Int) := by omega
      obtain ⟨ad, x, rfl, hcx, hx⟩ := (h.below hb).int (k := K) (by have := HN.out; omega)
      have i1 : (K : Int) < (n : Int) := by omega
      have HD : Hid (ints (xs.drop K).reverse = ints (xs.drop (K + 1)).reverse ++ [.int .i64 x]) := by rw [Hid, drop_rev hx.out, ints_append]; rfl
      have hsb := hb.size
      clear hz
      go_wp2_with (at_builtin; refine wpList_app1m rfl _ _ 22 rfl elI rfl ho (by show Value.slice (some ⟨wr.heap.size, 0, none⟩) 1 1 = _; simp) rfl hsb _ HLe.out (by omega) (by omega) ?_; intro b5 c5 w5 ho5 hg5 hat5)
      go_roundg K
      case measure => omega
      case rel => exact ⟨K, _, rfl, by omega, rfl, rfl, by rw [HD.out]; exact ho5, hb.grown hg5 hsb (fun r hr => (ho.lt r hr).1)⟩

end Go.Proofs.YtlmbaijkeahkfaaDoor
