/- Joined texts of the proof: Clone. -/
import Derived.WalkKit
import Derived.WalkSpells
import Derived.WalkLawsBesides
import Derived.Deep.Draws
import Derived.Lib.Hide
import Derived.RegionTactic
import Derived.Test.YtggblfnajeikjaaGreatDoorRows
import Derived.BigQuiet
import Derived.Deep.QuietTactic
import Derived.Lib.LazyBuf
import Derived.Test.YtggblfnajeikjaaGreatDoorJ1
import Derived.Test.YtggblfnajeikjaaGreatDoorJ6
import Derived.Test.YtggblfnajeikjaaGreatDoorJ7
namespace Go.Proofs.YtggblfnajeikjaaGreatDoor
open Go.RowKit
set_option linter.unusedVariables false
set_option linter.unusedSimpArgs false

theorem oneCell_ints (xs : List Int) : ∀ u ∈ ints xs, u.oneCell' = true := by
  intro u hu
  simp only [ints, List.mem_map] at hu
  obtain ⟨x, _, rfl⟩ := hu
  rfl
set_option maxHeartbeats 400000 in
theorem f_Clone (v : Value) (xs : List Int) (w : World) (h : Rd w v (ints xs)) (hl : xs.length ≤ 2000000) :
    Calls Tryz.prog 85 #[v] w (RetOwn 3 (ints xs) w) := by
  obtain ⟨a, c, rfl, h2, h3⟩ := h.formi
  cases a with
  | none =>
    have hx : xs = [] := by
      cases xs with
      | nil => rfl
      | cons y t => obtain ⟨ad, x, e, _⟩ := h.int (k := 0) (by simp); cases e
    subst hx
    have q : ∀ W, (binOp .eql 23 (.slice none 0 c) (.slice none 0 0)).run Tryz.prog W = .ok (.bool true) W := fun W => run_eql_slice_nil W _ _ none 0 c Tryz.underlying23
    go_enter Tryz.func85, Tryz.ntmps85
    go_wp2
    go_ret
    exact RetOwn.nil w _
  | some ad =>
    have h' := h.alloc (.cells #[] 3)
    have HL := Lib.hid hl
    clear hl
    have q : ∀ W, (binOp .eql 23 (.slice (some ad) xs.length c) (.slice none 0 0)).run Tryz.prog W = .ok (.bool false) W := fun W => run_eql_slice_nil W _ _ (some ad) xs.length c Tryz.underlying23
    go_enter Tryz.func85, Tryz.ntmps85
    go_wp2_with (at_builtin; refine wpList_app (B := w.heap.size) rfl _ _ 23 rfl elI rfl (Own.lit0 w 3 (Nat.le_refl _)) rfl h' (oneCell_ints _) (by simp) (by simp only [ints_length, List.length_nil]; have := HL.out; omega) (by simp only [ints_length, List.length_nil]; have := HL.out; omega) ?_; intro b cc w2 ho2 hg2 hat2; have hb2 := ((Below.refl w.heap.size w).alloc (Nat.le_refl _) (.cells #[] 3)).grown hg2 (by simp) (fun r hr => ((Own.lit0 w 3 (Nat.le_refl _)).lt r hr).1))
    go_ret
    exact ⟨_, rfl, ho2, hb2⟩

set_option maxHeartbeats 400000 in
theorem f_IndexFunc2B (p : List Int → Bool) (fn : Nat) (cap : Array Value) (hk : Known fn) (v : Value) (xss : List (List Int)) (w : World) (h : Rd2 w v xss)
    (hf : ∀ (wr : World) (r : Value) (xs : List Int), Below w.heap.size w wr → xs ∈ xss → Rd wr r (ints xs) → Calls Tryz.prog fn (#[r] ++ cap) wr (RetB (.bool (p xs)) wr)) :
    Calls Tryz.prog 147 #[v, .func (.func fn) #[] cap] w (RetB (.int .i64 (idxOf2 p xss)) w) := by
  obtain ⟨a, c, rfl, h2, h3⟩ := h.form
  have HF0 := Lib.hid hf
  clear hf
  go_enter Tryz.func147, Tryz.ntmps147
  go_wp2
  go_loopw [8] (fun i wr => ∃ k : Nat, k ≤ xss.length ∧ i = .int .i64 k ∧ Below w.heap.size w wr ∧ Hid (∀ (j : Nat) y, j < k → xss[j]? = some y → p y = false)) (fun i _ => xss.length - (intOf i).toNat)
  case atStart => exact ⟨0, Nat.zero_le _, rfl, Below.refl _ _, fun j y hj => by omega⟩
  case round =>
    obtain ⟨k, hkl, rfl, hdr, HN⟩ := hrel
    by_cases hlt : k < xss.length
    · obtain ⟨ad, b, m, d, xs, rfl, hc, hx, hm, hmd, hd, hr⟩ := (h.below hdr).row hlt
      have HF := Lib.hid (HF0.out wr _ xs hdr (List.mem_of_getElem? hx.out) hr)
      have hcall := hk (#[.slice b m d] ++ cap) wr
      cases hp : p xs
      · rw [hp] at HF
        go_wp2_with ((with_reducible refine (HF.out).mono ?_); rintro e w2 ⟨rfl, hd2⟩)
        go_roundw
        case rel => exact ⟨k + 1, by omega, by go_num, hdr.trans (hd2.mono hdr.size), fun j y hj hy => by
          by_cases e : j = k
          · subst e
            rw [hx.out] at hy
            cases hy
            exact hp
          · exact HN.out j y (by omega) hy⟩
        case measure => simp [intOf]; omega
      · rw [hp] at HF
        go_wp2_with ((with_reducible refine (HF.out).mono ?_); rintro e w2 ⟨rfl, hd2⟩)
        go_ret
        exact ⟨ret_int (idxOf2_yes hx.out hp HN.out).symm, hdr.trans (hd2.mono hdr.size)⟩
    · obtain rfl : xss.length = k := by omega
      go_wp2
      go_ret
      exact ⟨ret_int (idxOf2_no HN.out).symm, hdr⟩

end Go.Proofs.YtggblfnajeikjaaGreatDoor
