/- Joined texts of the proof: DrawsT. -/
import Derived.WalkKit
import Derived.WalkSpells
import Derived.WalkLawsBesides
import Derived.Deep.Draws
import Derived.Lib.Hide
import Derived.RegionTactic
import Derived.Test.YtggblfnajeikjaaGreatDoorRows
import Derived.BigQuiet
import Derived.Deep.QuietTactic
import Derived.Deep.DeepCutAuto
import Derived.Deep.LoopGhost
import Derived.Laws.BitsAllLaws
import Derived.Laws.BitsLemmas
import Derived.Test.YtggblfnajeikjaaGreatDoorJ1
import Derived.Test.YtggblfnajeikjaaGreatDoorJ2
import Derived.Test.YtggblfnajeikjaaGreatDoorJ6
import Derived.Test.YtggblfnajeikjaaGreatDoorJ7
import Derived.Test.YtggblfnajeikjaaGreatDoorJ15
namespace Go.Proofs.YtggblfnajeikjaaGreatDoor
open Go.RowKit
set_option linter.unusedVariables false
set_option linter.unusedSimpArgs false

set_option maxRecDepth 100000 in
set_option maxHeartbeats 4000000 in
theorem s_l24Draw (g : Nat) (vb : Value) (xs : List Int) (hxb : ∀ x ∈ xs, 0 ≤ x ∧ x ≤ 255) (w : World) (hC : Cur w g vb xs) :
    Calls Tryz.prog 76 #[.pointer (some ⟨g, 0, none⟩)] w fun e w' => ∃ (ys : List Int) (v : Value), ys.length ≤ 11 ∧ (∀ y ∈ ys, 0 ≤ y ∧ y ≤ 36) ∧ e = .returned v ∧ Own w' 3 w.heap.size v (ints ys) ∧ Cur w' g vb xs ∧ w.grownBy w' (some g) := by
  have HB := Lib.hid (fun (n : Int) (h1 : 1 ≤ n) (h2 : n ≤ 1000000000) (wx : World) (hx : Cur wx g vb xs) => s_l01Below g vb xs hxb n h1 h2 wx hx)
  have HPK := Lib.hid (fun (vl : Value) (wx : World) (hx : Cur wx g vb xs) (hr : Rd wx vl (ints [0, 0, 0, 1, 2, 5, 9])) (hne : vl.ownBlock ≠ some g) => s_l01Pick g vb xs hxb vl [0, 0, 0, 1, 2, 5, 9] (by simp) (by simp) wx hx hr hne)
  have hgl := hC.lt
  have HUP := Lib.hid (fun (w6 : World) (hg : w.grownBy w6 (some g)) => hC.up hg)
  clear hxb
  go_enter Tryz.func76, Tryz.ntmps76
  go_wp2_with fail
  refine (HB.out 12 (by omega) (by omega) _ (hC.alloc _)).mono ?_
  rintro e w1 ⟨x, rfl, hx0, hx1, hC1, hg1⟩
  obtain ⟨n, rfl⟩ := Int.eq_ofNat_of_zero_le hx0
  have hg0 : w.grownBy w1 (some g) := gb_trans (gb_alloc (World.grownBy.refl _ _) _) hg1
  have ho0 : Own w1 3 w.heap.size (.slice (some ⟨w.heap.size, 0, none⟩) 0 0) (ints []) := (Own.lit0 w 3 (Nat.le_refl _)).apart hg1 (fun k h1 h2 => (Own.lit0 w 3 (Nat.le_refl _)).neg hgl (by rw [h1, h2]))
  have hn : n ≤ 11 := by omega
  clear hC hg1 hx0 hx1
  go_wp2_with fail
  go_loopg [3, 4, 5] n (fun gq vl vt k wr => ∃ (q : Nat) (ys : List Int) (t : Int), gq = q ∧ k = .int .i64 q ∧ vt = .int .i64 t ∧ 3 ≤ t ∧ t + 3 * (q : Int) ≤ 36 ∧ Hid (ys.length + q = n) ∧ Hid (∀ y ∈ ys, 0 ≤ y ∧ y ≤ 36) ∧ Own wr 3 w.heap.size vl (ints ys) ∧ Cur wr g vb xs ∧ w.grownBy wr (some g))
  case atStart => exact ⟨n, [], 3, rfl, rfl, rfl, by omega, by omega, by simp [Hid], (fun y hy => by cases hy), ho0, hC1, hg0⟩
  case round =>
    clear hC1 ho0 hg0
    obtain ⟨q, ys, t, hgq, rfl, rfl, ht0, ht1, HL, HY, ho, hC, hg⟩ := hrel
    by_cases hq0 : 0 < q
    · obtain ⟨r, rfl⟩ : ∃ r, q = r + 1 := ⟨q - 1, by omega⟩
      have d0 : decide (((r + 1 : Nat) : Int) > 0) = true := by simp
      obtain ⟨al, ml, cl, rfl, HML, _, _⟩ := ho.rd.formN
      have hml : ml ≤ 11 := by have := HML.out; have := HL.out; omega
      have HYM : Hid ((ints ys).length = ml) := by rw [Hid, ints_length, HML.out]
      go_upto_region 7 with (go_at_call 49; refine (HB.out 4 (by omega) (by omega) _ hC).mono ?_; rintro e w2 ⟨x, rfl, hx0, hx1, hC2, hg2⟩)
      have ho2 := ho.apart hg2 (fun k h1 h2 => ho.neg hgl (by rw [h1, h2]))
      have hgg2 := gb_trans hg hg2
      have hsz2 := hgg2.size
      have hgw := hC2.lt
      obtain ⟨t2, ht2⟩ : ∃ t2, t + x = t2 := ⟨_, rfl⟩
      rw [ht2]
      have hb2 : 3 ≤ t2 ∧ t2 + 3 * (r : Int) ≤ 36 := by omega
      clear ht2 ht0 ht1 hC ho hg hg2
      have hbA : Below w2.heap.size w2 (w2.alloc (.cells #[.int .i64 0, .int .i64 0, .int .i64 0, .int .i64 1, .int .i64 2, .int .i64 5, .int .i64 9] 3)) := (Below.refl _ _).alloc (Nat.le_refl _) _
      have hCA := hC2.below hbA
      have hoA := ho2.below hbA
      have hggA := gb_below hgg2 hbA
      have hlit : Rd (w2.alloc (.cells #[.int .i64 0, .int .i64 0, .int .i64 0, .int .i64 1, .int .i64 2, .int .i64 5, .int .i64 9] 3)) (.slice (some ⟨w2.heap.size, 0, none⟩) 7 7) (ints [0, 0, 0, 1, 2, 5, 9]) := by
        have := (Own.lit w2 3 w2.heap.size #[.int .i64 0, .int .i64 0, .int .i64 0, .int .i64 1, .int .i64 2, .int .i64 5, .int .i64 9] (Nat.le_refl _) (by simp)).rd
        simpa [ints] using this
      have hneL : (Value.slice (some ⟨w2.heap.size, 0, none⟩) 7 7).ownBlock ≠ some g := fun e => by have : w2.heap.size = g := Option.some.inj e; omega
      go_wp2_with (first
        | (go_at_call 126; refine (HPK.out _ _ hCA hlit hneL).mono ?_; rintro e w3 ⟨m, hm, rfl, hC3, hg3⟩
           have hm1 : 0 ≤ m ∧ m ≤ 9 := by simp only [List.mem_cons, List.not_mem_nil, or_false] at hm; omega
           have ho3 := hoA.apart hg3 (fun k h1 h2 => hoA.neg hgl (by rw [h1, h2]))
           have hgg3 := gb_trans hggA hg3)
        | (at_builtin; refine wpList_app1m rfl _ _ 23 rfl elI rfl ho3 (by show Value.slice (some ⟨w3.heap.size, 0, none⟩) 1 1 = _; simp) rfl hgg3.size _ HYM.out (by omega) (by omega) ?_; intro b6 c6 w6 ho6 hg6 hat6))
      all_goals
        have hg7 := gb_up hgg3 hg6 (fun b hb => (ho3.lt b hb).1)
        have hC6 := hC3.turn hg6 (ho3.neg hgl) (HUP.out _ hg7)
        go_roundg r
        case measure => omega
        case rel =>
          refine ⟨r, ys ++ [_], t2, rfl, by go_num, rfl, hb2.1, hb2.2, by rw [Hid, List.length_append]; have := HL.out; simp; omega, (fun z hz => ?_), by rw [ints_append]; exact ho6, hC6, hg7⟩
          rcases List.mem_append.1 hz with hz | hz
          · exact HY.out z hz
          · rw [List.mem_singleton] at hz
            subst hz
            omega
    · obtain rfl : q = 0 := by omega
      go_wp2_with fail
      go_ret
      exact ⟨ys, _, by have := HL.out; omega, HY.out, rfl, ho, hC, hg⟩

set_option maxHeartbeats 1000000 in
theorem s_MakeTimes (vb : Value) (xs : List Int) (hxb : ∀ x ∈ xs, 0 ≤ x ∧ x ≤ 255) (hl : xs.length ≤ 1048576) (n : Nat) (hn : n ≤ 1000) (w : World) (h : Rd w vb (bytesV xs)) :
    Calls Tryz.prog 24 #[vb, .int .i64 n] w fun e w' => ∃ (ys : List Int) (v : Value), ys.length ≤ 11 ∧ (∀ y ∈ ys, 0 ≤ y ∧ y ≤ 36) ∧ e = .returned v ∧ Rd w' v (ints ys) ∧ Below w.heap.size w w' := by
  have HN := Lib.hid (s_l31New vb xs hxb hl n hn w h)
  have HL := Lib.hid (fun (g : Nat) (wx : World) (hx : Cur wx g vb xs) => s_l24Draw g vb xs hxb wx hx)
  clear hxb
  go_enter Tryz.func24, Tryz.ntmps24
  go_wp2_with fail
  refine HN.out.mono ?_
  rintro e w1 ⟨g, rfl, hg, hC1, hb1⟩
  go_wp2_with fail
  refine (HL.out g _ hC1).mono ?_
  rintro e w2 ⟨ys, vl, hyn, hyr, rfl, ho2, hC2, hg2⟩
  have hb2 := hb1.grown hg2 hb1.size (fun r hr => by cases hr; exact hg)
  have HYN := Lib.hid hyn
  have HYR := Lib.hid hyr
  clear hyn hyr
  go_wp2_with fail
  go_ret
  exact ⟨ys, _, HYN.out, HYR.out, rfl, ho2.rd, hb2⟩

end Go.Proofs.YtggblfnajeikjaaGreatDoor
