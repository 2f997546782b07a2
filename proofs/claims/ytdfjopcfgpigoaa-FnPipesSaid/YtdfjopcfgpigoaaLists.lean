/- Walks: lists that rise; searches among rows. -/
import Derived.Test.YtdfjopcfgpigoaaNumWalks
import Derived.Test.YtdfjopcfgpigoaaPlainDigits
namespace Go.Proofs.Ytdfjopcfgpigoaa
open Go.RowKit
set_option linter.unusedVariables false
set_option linter.unusedSimpArgs false

def idxOf2 (p : List Int → Bool) (xss : List (List Int)) : Int := if xss.any p then (xss.findIdx p : Nat) else -1
theorem idxOf2_yes {p : List Int → Bool} {xs : List (List Int)} {k : Nat} {x : List Int} (hx : xs[k]? = some x) (hp : p x = true) (hno : ∀ (j : Nat) y, j < k → xs[j]? = some y → p y = false) : idxOf2 p xs = k := by
  obtain ⟨hk, rfl⟩ := List.getElem?_eq_some_iff.1 hx
  have h1 : xs.any p = true := List.any_eq_true.2 ⟨_, List.getElem_mem hk, hp⟩
  unfold idxOf2
  rw [if_pos h1]
  have : xs.findIdx p = k := by
    rw [List.findIdx_eq hk]
    exact ⟨hp, fun j hj => by simpa using hno j xs[j] hj (List.getElem?_eq_getElem _)⟩
  rw [this]
theorem idxOf2_no {p : List Int → Bool} {xs : List (List Int)} (hno : ∀ (j : Nat) y, j < xs.length → xs[j]? = some y → p y = false) : idxOf2 p xs = -1 := by
  unfold idxOf2
  rw [if_neg]
  intro h
  obtain ⟨x, hx, hp⟩ := List.any_eq_true.1 h
  obtain ⟨j, hj, rfl⟩ := List.getElem_of_mem hx
  rw [hno j _ hj (List.getElem?_eq_getElem hj)] at hp
  cases hp
theorem idxOf2_any (p : List Int → Bool) (xs : List (List Int)) : decide (0 ≤ idxOf2 p xs) = xs.any p := by
  unfold idxOf2
  cases h : xs.any p <;> simp

set_option maxHeartbeats 400000 in
theorem f_IndexFunc2 (p : List Int → Bool) (fn : Nat) (cap : Array Value) (hk : Known fn) (v : Value) (xss : List (List Int)) (w : World) (h : Rd2 w v xss)
    (hf : ∀ (wr : World) (r : Value) (xs : List Int), Dr w wr → xs ∈ xss → Rd wr r (ints xs) → Calls Try.prog fn (#[r] ++ cap) wr (RetQ (.bool (p xs)) wr)) :
    Calls Try.prog 72 #[v, .func (.func fn) #[] cap] w (RetQ (.int .i64 (idxOf2 p xss)) w) := by
  obtain ⟨a, c, rfl, h2, h3⟩ := h.form
  have HF0 := Lib.hid hf
  clear hf
  go_enter Try.func72, Try.ntmps72
  go_wp2
  go_loopw [8] (fun i wr => ∃ k : Nat, k ≤ xss.length ∧ i = .int .i64 k ∧ Dr w wr ∧ Hid (∀ (j : Nat) y, j < k → xss[j]? = some y → p y = false)) (fun i _ => xss.length - (intOf i).toNat)
  case atStart => exact ⟨0, Nat.zero_le _, rfl, Dr.refl _, fun j y hj => by omega⟩
  case round =>
    obtain ⟨k, hkl, rfl, hdr, HN⟩ := hrel
    by_cases hlt : k < xss.length
    · obtain ⟨ad, b, m, d, xs, rfl, hc, hx, hm, hmd, hd, hr⟩ := (h.dr hdr).row hlt
      have HF := Lib.hid (HF0.out wr _ xs hdr (List.mem_of_getElem? hx.out) hr)
      have hcall := hk (#[.slice b m d] ++ cap) wr
      cases hp : p xs
      · rw [hp] at HF
        go_wp2_with ((with_reducible refine (HF.out).mono ?_); rintro e w2 ⟨rfl, hd2⟩)
        go_roundw
        case rel => exact ⟨k + 1, by omega, by go_num, hdr.trans hd2, fun j y hj hy => by
          by_cases e : j = k
          · subst e
            rw [hx.out] at hy
            cases hy
            exact hp
          · exact HN.out j y (by omega) hy⟩
        case measure => simp [intOf]; omega
      · rw [hp] at HF
        go_wp2_with ((with_reducible refine (HF.out).mono ?_); rintro e w2 ⟨rfl, hd2⟩)
        go_ret
        exact ⟨ret_int (idxOf2_yes hx.out hp HN.out).symm, hdr.trans hd2⟩
    · obtain rfl : xss.length = k := by omega
      go_wp2
      go_ret
      exact ⟨ret_int (idxOf2_no HN.out).symm, hdr⟩

theorem f_ContainsFunc2 (p : List Int → Bool) (fn : Nat) (cap : Array Value) (hk : Known fn) (v : Value) (xss : List (List Int)) (w : World) (h : Rd2 w v xss)
    (hf : ∀ (wr : World) (r : Value) (xs : List Int), Dr w wr → xs ∈ xss → Rd wr r (ints xs) → Calls Try.prog fn (#[r] ++ cap) wr (RetQ (.bool (p xs)) wr)) :
    Calls Try.prog 54 #[v, .func (.func fn) #[] cap] w (RetQ (.bool (xss.any p)) w) := by
  have H := f_IndexFunc2 p fn cap hk v xss w h hf
  have HI := Lib.hid (idxOf2_any p xss)
  clear hf hk h
  generalize idxOf2 p xss = r at *
  go_enter Try.func54, Try.ntmps54
  go_wp2_with (go_at_call 72; refine H.mono ?_; rintro e w2 ⟨rfl, hd⟩)
  go_ret
  exact ⟨ret_bool (by rw [← HI.out]), hd⟩

end Go.Proofs.Ytdfjopcfgpigoaa
