/- Walks: the library's IndexFunc and ContainsFunc with a function that may lay new blocks. -/
import Derived.Test.YtlmbaijkeahkfaaDoorSlicesWalks
namespace Go.Proofs.YtlmbaijkeahkfaaDoor
open Go.RowKit
set_option linter.unusedVariables false
set_option linter.unusedSimpArgs false

set_option maxHeartbeats 400000 in
theorem f_IndexFuncB (p : Int → Bool) (fn : Nat) (cap : Array Value) (hk : Known fn) (v : Value) (xs : List Int) (w : World) (h : Rd w v (ints xs))
    (hf : ∀ (wr : World) (x : Int), Below w.heap.size w wr → x ∈ xs → Calls Tryd.prog fn (#[.int .i64 x] ++ cap) wr (RetB (.bool (p x)) wr)) :
    Calls Tryd.prog 127 #[v, .func (.func fn) #[] cap] w (RetB (.int .i64 (idxOf p xs)) w) := by
  obtain ⟨a, c, rfl, h2, h3⟩ := h.formi
  have HF0 := Lib.hid hf
  clear hf
  go_enter Tryd.func127, Tryd.ntmps127
  go_wp2
  go_loopw [8] (fun i wr => ∃ k : Nat, k ≤ xs.length ∧ i = .int .i64 k ∧ Below w.heap.size w wr ∧ Hid (∀ (j : Nat) y, j < k → xs[j]? = some y → p y = false)) (fun i _ => xs.length - (intOf i).toNat)
  case atStart => exact ⟨0, Nat.zero_le _, rfl, Below.refl _ _, fun j y hj => by omega⟩
  case round =>
    obtain ⟨k, hkl, rfl, hdr, HN⟩ := hrel
    by_cases hlt : k < xs.length
    · obtain ⟨ad, x, rfl, hc, hx⟩ := (h.below hdr).int hlt
      have HF := Lib.hid (HF0.out wr x hdr (List.mem_of_getElem? hx.out))
      have hcall := hk (#[.int .i64 x] ++ cap) wr
      cases hp : p x
      · rw [hp] at HF
        go_wp2_with ((with_reducible refine (HF.out).mono ?_); rintro e w2 ⟨rfl, hd2⟩)
        go_roundw
        case rel => exact ⟨k + 1, by omega, by go_num, hdr.trans (hd2.mono hdr.size), fun j y hj hy => by
          by_cases e : j = k
          · subst e
            rw [hx.out] at hy
            cases hy
            exact hp
          · exact HN.out j y (by omega) hy⟩
        case measure => simp [intOf]; omega
      · rw [hp] at HF
        go_wp2_with ((with_reducible refine (HF.out).mono ?_); rintro e w2 ⟨rfl, hd2⟩)
        go_ret
        exact ⟨ret_int (idxOf_yes hx.out hp HN.out).symm, hdr.trans (hd2.mono hdr.size)⟩
    · obtain rfl : xs.length = k := by omega
      go_wp2
      go_ret
      exact ⟨ret_int (idxOf_no HN.out).symm, hdr⟩

theorem f_ContainsFuncB (p : Int → Bool) (fn : Nat) (cap : Array Value) (hk : Known fn) (v : Value) (xs : List Int) (w : World) (h : Rd w v (ints xs))
    (hf : ∀ (wr : World) (x : Int), Below w.heap.size w wr → x ∈ xs → Calls Tryd.prog fn (#[.int .i64 x] ++ cap) wr (RetB (.bool (p x)) wr)) :
    Calls Tryd.prog 74 #[v, .func (.func fn) #[] cap] w (RetB (.bool (xs.any p)) w) := by
  have H := f_IndexFuncB p fn cap hk v xs w h hf
  have HI := Lib.hid (idxOf_any p xs)
  clear hf hk h
  generalize idxOf p xs = r at *
  go_enter Tryd.func74, Tryd.ntmps74
  go_wp2_with (go_at_call 127; refine H.mono ?_; rintro e w2 ⟨rfl, hd⟩)
  go_ret
  exact ⟨ret_bool (by rw [← HI.out]), hd⟩

end Go.Proofs.YtlmbaijkeahkfaaDoor
