/- Joined texts of the proof: DrawsP. -/
import Derived.WalkKit
import Derived.WalkSpells
import Derived.WalkLawsBesides
import Derived.Deep.Draws
import Derived.Lib.Hide
import Derived.RegionTactic
import Derived.Test.YtggblfnajeikjaaGreatDoorRows
import Derived.BigQuiet
import Derived.Deep.QuietTactic
import Derived.Deep.DeepCutAuto
import Derived.Deep.RegionHeld3
import Derived.Laws.BitsAllLaws
import Derived.Laws.BitsLemmas
import Derived.Test.YtggblfnajeikjaaGreatDoorJ1
import Derived.Test.YtggblfnajeikjaaGreatDoorJ2
import Derived.Test.YtggblfnajeikjaaGreatDoorJ6
import Derived.Test.YtggblfnajeikjaaGreatDoorJ7
import Derived.Test.YtggblfnajeikjaaGreatDoorJ10
import Derived.Test.YtggblfnajeikjaaGreatDoorJ15
namespace Go.Proofs.YtggblfnajeikjaaGreatDoor
open Go.RowKit
set_option linter.unusedVariables false
set_option linter.unusedSimpArgs false

theorem Own2.appp {w w' : World} {EO E B T : Nat} {v v' : Value} {rows rows' : List Value} {xss' : List (List Int)} (hr : RowsOwn w E B T rows' xss') (ho : Own w EO B v rows) (hne : EO ≠ E) (hg : w.grownBy w' v.ownBlock) (ho' : Own w' EO B v' rows') (hT : T ≤ w'.heap.size) : Own2 w' EO E B w'.heap.size v' xss' :=
  ⟨rows', ho', fun k hk => (ho'.lt k hk).2, (hr.outer hg ho hne).mono (Nat.le_refl _) hT⟩
theorem Own2.apartp {w w' : World} {EO E B T : Nat} {v : Value} {xss : List (List Int)} {row : Option Nat} (h : Own2 w EO E B T v xss) (hg : w.grownBy w' row) (hne : ∀ g, row = some g → g < B ∨ T ≤ g) : Own2 w' EO E B T v xss := by
  cases row with
  | none => exact h.chg (C := T) (D := T) (Chg.row hg (fun k hk => by cases hk)) (.inl (Nat.le_refl _))
  | some g => exact h.chg (C := g) (D := g + 1) (Chg.row hg (fun k hk => by cases hk; omega)) (by have := hne g rfl; omega)
theorem Own2.litp {E B : Nat} (w : World) (EO : Nat) (hB : B ≤ w.heap.size) : Own2 (w.alloc (.cells #[] EO)) EO E B (w.alloc (.cells #[] EO)).heap.size (.slice (some ⟨w.heap.size, 0, none⟩) 0 0) [] := by
  refine ⟨[], ?_, fun k hk => ?_, RowsOwn.nil _ _ _ _⟩
  · simpa [ints] using Own.lit0 w EO hB
  · have : w.heap.size = k := Option.some.inj hk
    simp
    omega
theorem own_pair {W : World} {g E B : Nat} {a b : Int} (h : W.heap[g]? = some (.cells #[.int .i64 a, .int .i64 b] E (0, 0))) (hB : B ≤ g) : Own W E B (.slice (some ⟨g, 0, none⟩) 2 2) (ints [a, b]) :=
  .inr ⟨g, 0, 2, _, rfl, hB, h, by simp [ints], by omega, by simp, fun j u hu => by simpa [ints] using hu⟩
theorem box_ltp {w : World} {g F : Nat} {cur : Array Value} (hb : w.heap[g]? = some (.cells cur F (0, 0))) : g < w.heap.size := (Array.getElem?_eq_some_iff.1 hb).1
theorem netRow_mk {n a b : Int} (ha : 0 ≤ a ∧ a ≤ n - 1) (hb : 0 ≤ b ∧ b ≤ n - 1) (h : a ≠ b) : netRow n [a, b] = true := by
  simp [netRow, inB_iff, ha, hb, h]
theorem turn_ne {n a m : Int} (hn : 2 ≤ n) (hn8 : n ≤ 8) (ha : 0 ≤ a ∧ a ≤ n - 1) (hm : 0 ≤ m ∧ m ≤ n - 2) : 0 ≤ (a + 1 + m) % n ∧ (a + 1 + m) % n ≤ n - 1 ∧ a ≠ (a + 1 + m) % n := by
  have : n = 2 ∨ n = 3 ∨ n = 4 ∨ n = 5 ∨ n = 6 ∨ n = 7 ∨ n = 8 := by omega
  rcases this with rfl | rfl | rfl | rfl | rfl | rfl | rfl <;> omega

/-- The first wire is the lesser one, if that is asked. -/
def upRow (up : Bool) (r : List Int) : Prop := up = true → ∀ a b, r = [a, b] → a < b
/-- Comparators that are drawn. -/
def RetP (n most g : Nat) (up : Bool) (vb : Value) (xs : List Int) (w : World) (e : Ending) (w' : World) : Prop :=
  ∃ (xss : List (List Int)) (v : Value), xss.length ≤ most ∧ (∀ r ∈ xss, netRow n r = true ∧ upRow up r) ∧ e = .returned v ∧ Own2 w' 23 3 w.heap.size w'.heap.size v xss ∧ Cur w' g vb xs ∧ w.grownBy w' (some g)

set_option maxRecDepth 100000 in
set_option maxHeartbeats 4000000 in
theorem s_l02Pairs (g : Nat) (vb : Value) (xs : List Int) (hxb : ∀ x ∈ xs, 0 ≤ x ∧ x ≤ 255) (n most : Nat) (hn1 : 1 ≤ n) (hn8 : n ≤ 8) (hm : most ≤ 50) (up : Bool) (w : World) (hC : Cur w g vb xs) :
    Calls Tryz.prog 50 #[.pointer (some ⟨g, 0, none⟩), .int .i64 n, .int .i64 most, .bool up] w (RetP n most g up vb xs w) := by
  have HB := Lib.hid (fun (n : Int) (h1 : 1 ≤ n) (h2 : n ≤ 1000000000) (wx : World) (hx : Cur wx g vb xs) => s_l01Below g vb xs hxb n h1 h2 wx hx)
  clear hxb
  have hgl := hC.lt
  have HUP := Lib.hid (fun (w6 : World) (hg : w.grownBy w6 (some g)) => hC.up hg)
  go_enter Tryz.func50, Tryz.ntmps50
  go_wp2_with fail
  refine (HB.out ((most : Int) + 1) (by omega) (by omega) _ (hC.alloc _)).mono ?_
  rintro e w1 ⟨x, rfl, hx0, hx1, hC1, hg1⟩
  have ho1 := (Own2.litp (E := 3) (B := w.heap.size) w 23 (Nat.le_refl _)).apartp hg1 (fun q hq => by cases hq; exact .inl hgl)
  have hgg1 : w.grownBy w1 (some g) := gb_trans (gb_alloc (World.grownBy.refl _ _) _) hg1
  replace ho1 := ho1.mono (Nat.le_refl _) hg1.size
  clear hC
  go_wp2_with fail
  go_loopw [9, 10, 11, 12] (fun vl k _ _ wr => ∃ (q : Nat) (xss : List (List Int)), k = .int .i64 q ∧ q ≤ most ∧ Hid (xss.length + q ≤ most) ∧ Hid (∀ r ∈ xss, netRow n r = true ∧ upRow up r) ∧ Own2 wr 23 3 w.heap.size wr.heap.size vl xss ∧ Cur wr g vb xs ∧ w.grownBy wr (some g)) (fun _ k _ _ _ => (intOf k).toNat)
  case atStart => exact ⟨x.toNat, [], by congr 1; omega, by omega, (by rw [Hid, List.length_nil]; omega), (fun y hy => by cases hy), ho1, hC1, hgg1⟩
  case round =>
    clear ho1 hC1 hgg1 hg1
    obtain ⟨q, xss, rfl, hq6, HQ, HR, ho, hC, hg⟩ := hrel
    cases q with
    | zero =>
      go_wp2_with fail
      go_ret
      exact ⟨xss, _, by have := HQ.out; omega, HR.out, rfl, ho, hC, hg⟩
    | succ r =>
      have i1 : (0 : Int) < (r : Int) + 1 := by omega
      by_cases hn2 : 1 < n
      · have hsz := hg.size
        have i2 : (1 : Int) < (n : Int) := by omega
        go_wp2_with fail
        refine (HB.out (n : Int) (by omega) (by omega) _ hC).mono ?_
        rintro e w2 ⟨a, rfl, ha0, ha1, hC2, hg2⟩
        have ho2 := (ho.apartp hg2 (fun q hq => by cases hq; exact .inl hgl)).mono (Nat.le_refl _) hg2.size
        have hgg2 := gb_trans hg hg2
        clear ho hC
        go_wp2_with fail
        refine (HB.out ((n : Int) - 1) (by omega) (by omega) _ hC2).mono ?_
        rintro e w3 ⟨m, rfl, hm0, hm1, hC3, hg3⟩
        have ho3 := (ho2.apartp hg3 (fun q hq => by cases hq; exact .inl hgl)).mono (Nat.le_refl _) hg3.size
        have hgg3 := gb_trans hgg2 hg3
        clear ho2 hC2 hg2
        have HT := Lib.hid (turn_ne (n := (n : Int)) (a := a) (m := m) (by omega) (by omega) ⟨ha0, ha1⟩ ⟨hm0, by omega⟩)
        have n0 : ¬ (n : Int) = 0 := by omega
        go_upto_region 7 with (fail)
        obtain ⟨b, hb⟩ : ∃ b, (a + 1 + m) % (n : Int) = b := ⟨_, rfl⟩
        rw [hb] at HT
        simp only [hb]
        clear hb
        obtain ⟨hb0, hb1, hab⟩ := HT.out
        obtain ⟨rows, hov, hT, hrows⟩ := ho3
        have hrl : rows.length ≤ 50 := by have := hrows.1; have := HQ.out; omega
        obtain ⟨ao, co, rfl, _, _⟩ := hov.rd.form
        obtain ⟨mo, hmo⟩ : ∃ mo, rows.length = mo := ⟨_, rfl⟩
        have hov' := hov
        rw [hmo] at hov' hrl ⊢
        have HMO := Lib.hid hmo
        have HAB := Lib.hid hab
        clear hmo HT hab
        have hz3 := hgg3.size
        have step : ∀ (c d : Int), Hid (netRow n [c, d] = true ∧ upRow up [c, d]) → ∀ b6 c6 w6, Own w6 23 w.heap.size (.slice b6 (mo + 1) c6) (rows ++ [.slice (some ⟨w3.heap.size, 0, none⟩) 2 2]) → (w3.alloc (.cells #[.int .i64 c, .int .i64 d] 3)).grownBy w6 (Value.slice ao mo co).ownBlock →
            Hid (∀ r ∈ xss ++ [[c, d]], netRow n r = true ∧ upRow up r) ∧ Own2 w6 23 3 w.heap.size w6.heap.size (.slice b6 (mo + 1) c6) (xss ++ [[c, d]]) ∧ Cur w6 g vb xs ∧ w.grownBy w6 (some g) := fun c d hcd b6 c6 w6 ho6 hg6 => by
          have hgA := gb_alloc hgg3 (.cells #[.int .i64 c, .int .i64 d] 3)
          have hovA := hov'.alloc (.cells #[.int .i64 c, .int .i64 d] 3)
          have hrowA := own_pair (B := w.heap.size) (heap_alloc_new w3 (.cells #[.int .i64 c, .int .i64 d] 3)) hz3
          have hR1 := (hrows.alloc (.cells #[.int .i64 c, .int .i64 d] 3)).snoc (T' := w3.heap.size + 1) hrowA (fun g hg => by
            have : w3.heap.size = g := Option.some.inj hg
            omega) (by omega)
          have hz6 := hg6.size
          have ho7 := Own2.appp hR1 hovA (by decide) hg6 ho6 (by simp at hz6; omega)
          have hg7 := gb_up hgA hg6 (fun b hb => (hovA.lt b hb).1)
          have hC7 := (hC3.alloc (.cells #[.int .i64 c, .int .i64 d] 3)).turn hg6 (fun e => by have := (hovA.lt g e).1; omega) (HUP.out _ hg7)
          exact ⟨fun z hz => by
            rcases List.mem_append.1 hz with hz | hz
            · exact HR.out z hz
            · rw [List.mem_singleton] at hz
              subst hz
              exact hcd.out, ho7, hC7, hg7⟩
        have STEP := Lib.hid step
        have hovA := fun o => hov'.alloc o
        clear step hov
        by_cases hgt : up = true ∧ b < a
        · obtain ⟨rfl, hlt⟩ := hgt
          have i3 : decide (a > b) = true := by simp; omega
          have hNR : Hid (netRow n [b, a] = true ∧ upRow true [b, a]) := ⟨netRow_mk ⟨hb0, hb1⟩ ⟨ha0, ha1⟩ (fun e => HAB.out e.symm), fun _ x y e => by
            injection e with e1 e2
            injection e2 with e2 _
            omega⟩
          go_wp2_with (at_builtin; refine wpList_app1m rfl _ _ 28 rfl elII rfl (hovA _) (by show Value.slice (some ⟨w3.heap.size + 1, 0, none⟩) 1 1 = _; simp) rfl (by simp; omega) _ HMO.out (by omega) (by omega) ?_; intro b6 c6 w6 ho6 hg6 hat6)
          obtain ⟨q1, q2, q3, q4⟩ := STEP.out b a hNR _ _ _ ho6 hg6
          go_roundw
          case rel => exact ⟨r, xss ++ [[b, a]], by go_num, by omega, by have := HQ.out; rw [Hid, List.length_append, List.length_singleton]; omega, q1, q2, q3, q4⟩
          case measure => simp [intOf]
        · have hNR : Hid (netRow n [a, b] = true ∧ upRow up [a, b]) := ⟨netRow_mk ⟨ha0, ha1⟩ ⟨hb0, hb1⟩ HAB.out, fun hu x y e => by
            injection e with e1 e2
            injection e2 with e2 _
            have h1 := HAB.out
            have h2 : ¬ b < a := fun h => hgt ⟨hu, h⟩
            omega⟩
          have hcase : up = false ∨ (up = true ∧ decide (a > b) = false) := by
            cases up
            · exact .inl rfl
            · refine .inr ⟨rfl, ?_⟩
              simp only [true_and] at hgt
              simpa using hgt
          clear hgt
          rcases hcase with rfl | ⟨rfl, i3⟩
          all_goals
            go_wp2_with (at_builtin; refine wpList_app1m rfl _ _ 28 rfl elII rfl (hovA _) (by show Value.slice (some ⟨w3.heap.size + 1, 0, none⟩) 1 1 = _; simp) rfl (by simp; omega) _ HMO.out (by omega) (by omega) ?_; intro b6 c6 w6 ho6 hg6 hat6)
            obtain ⟨q1, q2, q3, q4⟩ := STEP.out a b hNR _ _ _ ho6 hg6
            go_roundw
            case rel => exact ⟨r, xss ++ [[a, b]], by go_num, by omega, by have := HQ.out; rw [Hid, List.length_append, List.length_singleton]; omega, q1, q2, q3, q4⟩
            case measure => simp [intOf]
      · have i2 : decide ((1 : Int) < (n : Int)) = false := by simp; omega
        have i3 : ¬ (1 : Int) < (n : Int) := by omega
        go_wp2_with fail
        go_ret
        exact ⟨xss, _, by have := HQ.out; omega, HR.out, rfl, ho, hC, hg⟩

end Go.Proofs.YtggblfnajeikjaaGreatDoor
