/- Walks: lists that are drawn. -/
import Derived.Test.YtdfjopcfgpigoaaDraws2
import Derived.Test.YtdfjopcfgpigoaaSort2
namespace Go.Proofs.Ytdfjopcfgpigoaa
open Go.RowKit
set_option linter.unusedVariables false
set_option linter.unusedSimpArgs false

theorem gb_below {w w1 w2 : World} {r : Option Nat} (h : w.grownBy w1 r) (k : Below w1.heap.size w1 w2) : w.grownBy w2 r :=
  ⟨k.os.trans h.os, k.tape.trans h.tape, k.output.trans h.output, Nat.le_trans h.size k.size, fun i hi hne => (k.block i (Nat.lt_of_lt_of_le hi h.size)).trans (h.block i hi hne)⟩
theorem gb_up {w w1 w2 : World} {r s : Option Nat} (h : w.grownBy w1 r) (k : w1.grownBy w2 s) (hs : ∀ b, s = some b → w.heap.size ≤ b) : w.grownBy w2 r :=
  ⟨k.os.trans h.os, k.tape.trans h.tape, k.output.trans h.output, Nat.le_trans h.size k.size, fun i hi hne => (k.block i (Nat.lt_of_lt_of_le hi h.size) (fun e => by have := hs i e.symm; omega)).trans (h.block i hi hne)⟩
theorem gb_alloc {w w1 : World} {r : Option Nat} (h : w.grownBy w1 r) (o : Obj) : w.grownBy (w1.alloc o) r := gb_below h ((Below.refl _ _).alloc (Nat.le_refl _) o)
theorem Cur.lt {w : World} {g : Nat} {vb : Value} {xs : List Int} (h : Cur w g vb xs) : g < w.heap.size := by obtain ⟨_, _, _, c0, _⟩ := h.ex; exact World.block_lt_of_cell? _ _ c0
theorem Cur.alloc {w : World} {g : Nat} {vb : Value} {xs : List Int} (h : Cur w g vb xs) (o : Obj) : Cur (w.alloc o) g vb xs := h.below ((Below.refl _ _).alloc (Nat.le_refl _) o)
theorem Cur.up {w w6 : World} {g : Nat} {vb : Value} {xs : List Int} (hC : Cur w g vb xs) (hg : w.grownBy w6 (some g)) : Rd w6 vb (bytesV xs) := by
  rcases hC.ne with rfl | hne
  · obtain ⟨a, c, e, h2, h3, _⟩ := hC.rd
    exact ⟨a, c, e, h2, h3, fun h => absurd h (by simp [bytesV])⟩
  · exact hC.rd.grown hg (.inl hne)
theorem Own.neg {w w0 : World} {E g : Nat} {v : Value} {xs : List Value} (h : Own w E w0.heap.size v xs) (hg : g < w0.heap.size) : v.ownBlock ≠ some g := fun e => by have := (h.lt g e).1; omega
/-- A list that is drawn: so many numbers from -3 to 8. -/
def RetL (n : Nat) (g : Nat) (vb : Value) (xs : List Int) (w : World) (e : Ending) (w' : World) : Prop :=
  ∃ (ys : List Int) (v : Value), ys.length = n ∧ (∀ y ∈ ys, -3 ≤ y ∧ y ≤ 8) ∧ e = .returned v ∧ Own w' 3 w.heap.size v (ints ys) ∧ Cur w' g vb xs ∧ w.grownBy w' (some g)

set_option maxHeartbeats 1000000 in
theorem s_l02List (g : Nat) (vb : Value) (xs : List Int) (hxb : ∀ x ∈ xs, 0 ≤ x ∧ x ≤ 255) (n : Nat) (hn : n ≤ 1000) (w : World) (hC : Cur w g vb xs) :
    Calls Try.prog 77 #[.pointer (some ⟨g, 0, none⟩), .int .i64 n] w (RetL n g vb xs w) := by
  have HB := Lib.hid (fun (wx : World) (hx : Cur wx g vb xs) => s_l01Below g vb xs hxb 12 (by omega) (by omega) wx hx)
  have hgl := hC.lt
  have HUP := Lib.hid (fun (w6 : World) (hg : w.grownBy w6 (some g)) => hC.up hg)
  go_enter Try.func77, Try.ntmps77
  go_wp2
  go_loopw [5, 6] (fun vl k wr => ∃ (q : Nat) (ys : List Int), k = .int .i64 q ∧ q ≤ n ∧ Hid (ys.length = q) ∧ Hid (∀ y ∈ ys, -3 ≤ y ∧ y ≤ 8) ∧ Own wr 3 w.heap.size vl (ints ys) ∧ Cur wr g vb xs ∧ w.grownBy wr (some g)) (fun _ k _ => n - (intOf k).toNat)
  case atStart => exact ⟨0, [], rfl, Nat.zero_le _, rfl, (fun y hy => by cases hy), Own.lit0 w 3 (Nat.le_refl _), hC.alloc _, gb_alloc (World.grownBy.refl _ _) _⟩
  case round =>
    clear hC
    obtain ⟨q, ys, rfl, hq, HL, HY, ho, hC, hg⟩ := hrel
    by_cases hqn : q < n
    · have i1 : (q : Int) < (n : Int) := by omega
      obtain ⟨al, ml, cl, rfl, HML, _, _⟩ := ho.rd.formN
      have hml : ml ≤ 1000 := by have := HML.out; have := HL.out; omega
      have HYM : Hid ((ints ys).length = ml) := by rw [Hid, ints_length, HML.out]
      have hsz := hg.size
      go_wp2_with (first
        | (go_at_call 66; refine (HB.out _ hC).mono ?_; rintro e w3 ⟨m, rfl, hm0, hm1, hC3, hg3⟩
           have ho3 := ho.apart hg3 (fun k h1 h2 => ho.neg hgl (by rw [h1, h2]))
           have hgg3 := gb_trans hg hg3)
        | (at_builtin; refine wpList_app1m rfl _ _ 42 rfl elI rfl ho3 (by show Value.slice (some ⟨w3.heap.size, 0, none⟩) 1 1 = _; simp) rfl hgg3.size _ HYM.out (by omega) (by omega) ?_; intro b6 c6 w6 ho6 hg6 hat6))
      have hg7 := gb_up hgg3 hg6 (fun b hb => (ho3.lt b hb).1)
      have hC6 := hC3.turn hg6 (ho3.neg hgl) (HUP.out _ hg7)
      go_roundw
      case rel => exact ⟨q + 1, ys ++ [m - 3], by go_num, by omega, by rw [Hid, List.length_append, HL.out]; rfl, (fun z hz => by
        rcases List.mem_append.1 hz with hz | hz
        · exact HY.out z hz
        · rw [List.mem_singleton] at hz
          subst hz
          omega), by rw [ints_append]; exact ho6, hC6, hg7⟩
      case measure => simp [intOf]; omega
    · obtain rfl : q = n := by omega
      go_wp2
      go_ret
      exact ⟨ys, _, HL.out, HY.out, rfl, ho, hC, hg⟩

end Go.Proofs.Ytdfjopcfgpigoaa
