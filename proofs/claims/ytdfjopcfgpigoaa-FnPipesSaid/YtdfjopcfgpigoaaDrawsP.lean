/- Walks: networks and rows that are drawn. -/
import Derived.Test.YtdfjopcfgpigoaaDraws3
import Derived.Test.YtdfjopcfgpigoaaNets
import Derived.Deep.DeepCutAuto
namespace Go.Proofs.Ytdfjopcfgpigoaa
open Go.RowKit
set_option linter.unusedVariables false
set_option linter.unusedSimpArgs false

theorem Own2.appp {w w' : World} {EO E B T : Nat} {v v' : Value} {rows rows' : List Value} {xss' : List (List Int)} (hr : RowsOwn w E B T rows' xss') (ho : Own w EO B v rows) (hne : EO ≠ E) (hg : w.grownBy w' v.ownBlock) (ho' : Own w' EO B v' rows') (hT : T ≤ w'.heap.size) : Own2 w' EO E B w'.heap.size v' xss' :=
  ⟨rows', ho', fun k hk => (ho'.lt k hk).2, (hr.outer hg ho hne).mono (Nat.le_refl _) hT⟩
theorem Own2.apartp {w w' : World} {EO E B T : Nat} {v : Value} {xss : List (List Int)} {row : Option Nat} (h : Own2 w EO E B T v xss) (hg : w.grownBy w' row) (hne : ∀ g, row = some g → g < B ∨ T ≤ g) : Own2 w' EO E B T v xss := by
  cases row with
  | none => exact h.chg (C := T) (D := T) (Chg.row hg (fun k hk => by cases hk)) (.inl (Nat.le_refl _))
  | some g => exact h.chg (C := g) (D := g + 1) (Chg.row hg (fun k hk => by cases hk; omega)) (by have := hne g rfl; omega)
theorem Own2.litp {E B : Nat} (w : World) (EO : Nat) (hB : B ≤ w.heap.size) : Own2 (w.alloc (.cells #[] EO)) EO E B (w.alloc (.cells #[] EO)).heap.size (.slice (some ⟨w.heap.size, 0, none⟩) 0 0) [] := by
  refine ⟨[], ?_, fun k hk => ?_, RowsOwn.nil _ _ _ _⟩
  · simpa [ints] using Own.lit0 w EO hB
  · have : w.heap.size = k := Option.some.inj hk
    simp
    omega
theorem own_pair {W : World} {g E B : Nat} {a b : Int} (h : W.heap[g]? = some (.cells #[.int .i64 a, .int .i64 b] E (0, 0))) (hB : B ≤ g) : Own W E B (.slice (some ⟨g, 0, none⟩) 2 2) (ints [a, b]) :=
  .inr ⟨g, 0, 2, _, rfl, hB, h, by simp [ints], by omega, by simp, fun j u hu => by simpa [ints] using hu⟩
theorem box_ltp {w : World} {g F : Nat} {cur : Array Value} (hb : w.heap[g]? = some (.cells cur F (0, 0))) : g < w.heap.size := (Array.getElem?_eq_some_iff.1 hb).1
theorem netRow_mk {n a b : Int} (ha : 0 ≤ a ∧ a ≤ n - 1) (hb : 0 ≤ b ∧ b ≤ n - 1) (h : a ≠ b) : netRow n [a, b] = true := by
  simp [netRow, inB_iff, ha, hb, h]
theorem turn_ne {n a m : Int} (hn : 2 ≤ n) (hn8 : n ≤ 8) (ha : 0 ≤ a ∧ a ≤ n - 1) (hm : 0 ≤ m ∧ m ≤ n - 2) : 0 ≤ (a + 1 + m) % n ∧ (a + 1 + m) % n ≤ n - 1 ∧ a ≠ (a + 1 + m) % n := by
  have : n = 2 ∨ n = 3 ∨ n = 4 ∨ n = 5 ∨ n = 6 ∨ n = 7 ∨ n = 8 := by omega
  rcases this with rfl | rfl | rfl | rfl | rfl | rfl | rfl <;> omega

/-- Comparators that are drawn. -/
def RetP (n most g : Nat) (vb : Value) (xs : List Int) (w : World) (e : Ending) (w' : World) : Prop :=
  ∃ (xss : List (List Int)) (v : Value), xss.length ≤ most ∧ (∀ r ∈ xss, netRow n r = true) ∧ e = .returned v ∧ Own2 w' 42 3 w.heap.size w'.heap.size v xss ∧ Cur w' g vb xs ∧ w.grownBy w' (some g)

set_option maxRecDepth 100000 in
set_option maxHeartbeats 4000000 in
theorem s_l02Pairs (g : Nat) (vb : Value) (xs : List Int) (hxb : ∀ x ∈ xs, 0 ≤ x ∧ x ≤ 255) (n most : Nat) (hn1 : 1 ≤ n) (hn8 : n ≤ 8) (hm : most ≤ 50) (up : Bool) (w : World) (hC : Cur w g vb xs) :
    Calls Try.prog 74 #[.pointer (some ⟨g, 0, none⟩), .int .i64 n, .int .i64 most, .bool up] w (RetP n most g vb xs w) := by
  have HB := Lib.hid (fun (n : Int) (h1 : 1 ≤ n) (h2 : n ≤ 1000000000) (wx : World) (hx : Cur wx g vb xs) => s_l01Below g vb xs hxb n h1 h2 wx hx)
  clear hxb
  have hgl := hC.lt
  have HUP := Lib.hid (fun (w6 : World) (hg : w.grownBy w6 (some g)) => hC.up hg)
  go_enter Try.func74, Try.ntmps74
  go_wp2_with fail
  refine (HB.out ((most : Int) + 1) (by omega) (by omega) _ (hC.alloc _)).mono ?_
  rintro e w1 ⟨x, rfl, hx0, hx1, hC1, hg1⟩
  have ho1 := (Own2.litp (E := 3) (B := w.heap.size) w 42 (Nat.le_refl _)).apartp hg1 (fun q hq => by cases hq; exact .inl hgl)
  have hgg1 : w.grownBy w1 (some g) := gb_trans (gb_alloc (World.grownBy.refl _ _) _) hg1
  replace ho1 := ho1.mono (Nat.le_refl _) hg1.size
  clear hC
  go_wp2_with fail
  go_loopw [9, 10, 11, 12] (fun vl k _ _ wr => ∃ (q : Nat) (xss : List (List Int)), k = .int .i64 q ∧ q ≤ most ∧ Hid (xss.length + q ≤ most) ∧ Hid (∀ r ∈ xss, netRow n r = true) ∧ Own2 wr 42 3 w.heap.size wr.heap.size vl xss ∧ Cur wr g vb xs ∧ w.grownBy wr (some g)) (fun _ k _ _ _ => (intOf k).toNat)
  case atStart => exact ⟨x.toNat, [], by congr 1; omega, by omega, (by rw [Hid, List.length_nil]; omega), (fun y hy => by cases hy), ho1, hC1, hgg1⟩
  case round =>
    clear ho1 hC1 hgg1 hg1
    obtain ⟨q, xss, rfl, hq6, HQ, HR, ho, hC, hg⟩ := hrel
    cases q with
    | zero =>
      go_wp2_with fail
      go_ret
      exact ⟨xss, _, by have := HQ.out; omega, HR.out, rfl, ho, hC, hg⟩
    | succ r =>
      have i1 : (0 : Int) < (r : Int) + 1 := by omega
      by_cases hn2 : 1 < n
      · have hsz := hg.size
        have i2 : (1 : Int) < (n : Int) := by omega
        go_wp2_with fail
        refine (HB.out (n : Int) (by omega) (by omega) _ hC).mono ?_
        rintro e w2 ⟨a, rfl, ha0, ha1, hC2, hg2⟩
        have ho2 := (ho.apartp hg2 (fun q hq => by cases hq; exact .inl hgl)).mono (Nat.le_refl _) hg2.size
        have hgg2 := gb_trans hg hg2
        clear ho hC
        go_wp2_with fail
        refine (HB.out ((n : Int) - 1) (by omega) (by omega) _ hC2).mono ?_
        rintro e w3 ⟨m, rfl, hm0, hm1, hC3, hg3⟩
        have ho3 := (ho2.apartp hg3 (fun q hq => by cases hq; exact .inl hgl)).mono (Nat.le_refl _) hg3.size
        have hgg3 := gb_trans hgg2 hg3
        clear ho2 hC2 hg2
        have HT := Lib.hid (turn_ne (n := (n : Int)) (a := a) (m := m) (by omega) (by omega) ⟨ha0, ha1⟩ ⟨hm0, by omega⟩)
        have n0 : ¬ (n : Int) = 0 := by omega
        go_upto_region 7 with (fail)
        obtain ⟨b, hb⟩ : ∃ b, (a + 1 + m) % (n : Int) = b := ⟨_, rfl⟩
        rw [hb] at HT
        simp only [hb]
        clear hb
        obtain ⟨hb0, hb1, hab⟩ := HT.out
        obtain ⟨rows, hov, hT, hrows⟩ := ho3
        have hrl : rows.length ≤ 50 := by have := hrows.1; have := HQ.out; omega
        obtain ⟨ao, co, rfl, _, _⟩ := hov.rd.form
        obtain ⟨mo, hmo⟩ : ∃ mo, rows.length = mo := ⟨_, rfl⟩
        have hov' := hov
        rw [hmo] at hov' hrl ⊢
        have HMO := Lib.hid hmo
        have HAB := Lib.hid hab
        clear hmo HT hab
        have hz3 := hgg3.size
        have step : ∀ (c d : Int), Hid (netRow n [c, d] = true) → ∀ b6 c6 w6, Own w6 42 w.heap.size (.slice b6 (mo + 1) c6) (rows ++ [.slice (some ⟨w3.heap.size, 0, none⟩) 2 2]) → (w3.alloc (.cells #[.int .i64 c, .int .i64 d] 3)).grownBy w6 (Value.slice ao mo co).ownBlock →
            Hid (∀ r ∈ xss ++ [[c, d]], netRow n r = true) ∧ Own2 w6 42 3 w.heap.size w6.heap.size (.slice b6 (mo + 1) c6) (xss ++ [[c, d]]) ∧ Cur w6 g vb xs ∧ w.grownBy w6 (some g) := fun c d hcd b6 c6 w6 ho6 hg6 => by
          have hgA := gb_alloc hgg3 (.cells #[.int .i64 c, .int .i64 d] 3)
          have hovA := hov'.alloc (.cells #[.int .i64 c, .int .i64 d] 3)
          have hrowA := own_pair (B := w.heap.size) (heap_alloc_new w3 (.cells #[.int .i64 c, .int .i64 d] 3)) hz3
          have hR1 := (hrows.alloc (.cells #[.int .i64 c, .int .i64 d] 3)).snoc (T' := w3.heap.size + 1) hrowA (fun g hg => by
            have : w3.heap.size = g := Option.some.inj hg
            omega) (by omega)
          have hz6 := hg6.size
          have ho7 := Own2.appp hR1 hovA (by decide) hg6 ho6 (by simp at hz6; omega)
          have hg7 := gb_up hgA hg6 (fun b hb => (hovA.lt b hb).1)
          have hC7 := (hC3.alloc (.cells #[.int .i64 c, .int .i64 d] 3)).turn hg6 (fun e => by have := (hovA.lt g e).1; omega) (HUP.out _ hg7)
          exact ⟨fun z hz => by
            rcases List.mem_append.1 hz with hz | hz
            · exact HR.out z hz
            · rw [List.mem_singleton] at hz
              subst hz
              exact hcd.out, ho7, hC7, hg7⟩
        have STEP := Lib.hid step
        have hovA := fun o => hov'.alloc o
        clear step hov
        by_cases hgt : up = true ∧ b < a
        · obtain ⟨rfl, hlt⟩ := hgt
          have i3 : decide (a > b) = true := by simp; omega
          have hNR : Hid (netRow n [b, a] = true) := netRow_mk ⟨hb0, hb1⟩ ⟨ha0, ha1⟩ (fun e => HAB.out e.symm)
          go_wp2_with (at_builtin; refine wpList_app1m rfl _ _ 22 rfl elII rfl (hovA _) (by show Value.slice (some ⟨w3.heap.size + 1, 0, none⟩) 1 1 = _; simp) rfl (by simp; omega) _ HMO.out (by omega) (by omega) ?_; intro b6 c6 w6 ho6 hg6 hat6)
          obtain ⟨q1, q2, q3, q4⟩ := STEP.out b a hNR _ _ _ ho6 hg6
          go_roundw
          case rel => exact ⟨r, xss ++ [[b, a]], by go_num, by omega, by have := HQ.out; rw [Hid, List.length_append, List.length_singleton]; omega, q1, q2, q3, q4⟩
          case measure => simp [intOf]
        · have hNR : Hid (netRow n [a, b] = true) := netRow_mk ⟨ha0, ha1⟩ ⟨hb0, hb1⟩ HAB.out
          have hcase : up = false ∨ (up = true ∧ decide (a > b) = false) := by
            cases up
            · exact .inl rfl
            · refine .inr ⟨rfl, ?_⟩
              simp only [true_and] at hgt
              simpa using hgt
          clear hgt
          rcases hcase with rfl | ⟨rfl, i3⟩
          all_goals
            go_wp2_with (at_builtin; refine wpList_app1m rfl _ _ 22 rfl elII rfl (hovA _) (by show Value.slice (some ⟨w3.heap.size + 1, 0, none⟩) 1 1 = _; simp) rfl (by simp; omega) _ HMO.out (by omega) (by omega) ?_; intro b6 c6 w6 ho6 hg6 hat6)
            obtain ⟨q1, q2, q3, q4⟩ := STEP.out a b hNR _ _ _ ho6 hg6
            go_roundw
            case rel => exact ⟨r, xss ++ [[a, b]], by go_num, by omega, by have := HQ.out; rw [Hid, List.length_append, List.length_singleton]; omega, q1, q2, q3, q4⟩
            case measure => simp [intOf]
      · have i2 : decide ((1 : Int) < (n : Int)) = false := by simp; omega
        have i3 : ¬ (1 : Int) < (n : Int) := by omega
        go_wp2_with fail
        go_ret
        exact ⟨xss, _, by have := HQ.out; omega, HR.out, rfl, ho, hC, hg⟩

set_option maxRecDepth 100000 in
set_option maxHeartbeats 4000000 in
theorem s_l02Draw (g : Nat) (vb : Value) (xs : List Int) (hxb : ∀ x ∈ xs, 0 ≤ x ∧ x ≤ 255) (w : World) (hC : Cur w g vb xs) :
    Calls Try.prog 63 #[.pointer (some ⟨g, 0, none⟩), .int .i64 6] w fun e w' => ∃ (n : Nat) (xss : List (List Int)) (v : Value), 1 ≤ n ∧ n ≤ 6 ∧ xss.length ≤ 12 ∧ (∀ r ∈ xss, netRow n r = true) ∧ e = .returned (.agg #[.int .i64 n, v]) ∧ Own2 w' 42 3 w.heap.size w'.heap.size v xss ∧ Cur w' g vb xs ∧ w.grownBy w' (some g) := by
  have HB := Lib.hid (fun (n : Int) (h1 : 1 ≤ n) (h2 : n ≤ 1000000000) (wx : World) (hx : Cur wx g vb xs) => s_l01Below g vb xs hxb n h1 h2 wx hx)
  have HP := Lib.hid (fun (n : Nat) (h1 : 1 ≤ n) (h2 : n ≤ 8) (up : Bool) (wx : World) (hx : Cur wx g vb xs) => s_l02Pairs g vb xs hxb n 12 h1 h2 (by omega) up wx hx)
  clear hxb
  have hgl := hC.lt
  have HUP := Lib.hid (fun (w6 : World) (hg : w.grownBy w6 (some g)) => hC.up hg)
  go_enter Try.func63, Try.ntmps63
  go_wp2_with fail
  refine (HB.out 6 (by omega) (by omega) _ (hC.alloc _)).mono ?_
  rintro e w1 ⟨x, rfl, hx0, hx1, hC1, hg1⟩
  obtain ⟨n, hn⟩ : ∃ n : Nat, 1 + x = n := ⟨(1 + x).toNat, by omega⟩
  have hgg1 : w.grownBy w1 (some g) := gb_trans (gb_alloc (World.grownBy.refl _ _) _) hg1
  go_upto_region 2 with (fail)
  have hn1 : 1 ≤ n ∧ n ≤ 6 := by omega
  clear hn hx0 hx1
  have hg0 : w.heap.size ≠ g := by omega
  have hA1 := (hg1.block w.heap.size (by simp) (fun e => hg0 (Option.some.inj e))).trans (heap_alloc_new w (.cells #[.int .i64 0, .slice none 0 0] 32))
  have hz1 := box_ltp hA1
  go_wp2_with (first
    | (go_at_call 66; refine (HB.out 4 (by omega) (by omega) _ hC1).mono ?_; rintro e w2 ⟨y, rfl, hy0, hy1, hC2, hg2⟩
       have hA2 := (hg2.block w.heap.size hz1 (fun e => hg0 (Option.some.inj e))).trans hA1
       have hz2 := box_ltp hA2
       have hgg2 := gb_trans hgg1 hg2)
    | (go_at_call 74; refine (HP.out n (by omega) (by omega) _ _ hC2).mono ?_; rintro e w3 ⟨xss, v3, hx1, hx2, rfl, ho3, hC3, hg3⟩
       obtain ⟨a3, c3, rfl, _, _⟩ := ho3.form
       have hA3 := (hg3.block w.heap.size hz2 (fun e => hg0 (Option.some.inj e))).trans hA2
       have hgg3 := gb_trans hgg2 hg3
       have c0 := cell_of_row w3 w.heap.size 0 _ _ (0, 0) hA3
       have c1 := cell_of_row w3 w.heap.size 1 _ _ (0, 0) hA3
       have f0 := frozen_of_row w3 w.heap.size 0 _ _ hA3
       have f1 := frozen_of_row w3 w.heap.size 1 _ _ hA3))
  have e1 := heap_setCell_same w3 w.heap.size 0 _ _ (.int .i64 n) hA3
  have e2 := heap_setCell_same _ w.heap.size 1 _ _ (.slice a3 xss.length c3) e1
  obtain ⟨wz, hwz⟩ : ∃ wz, (w3.setCell ⟨w.heap.size, 0, none⟩ (.int .i64 n)).setCell ⟨w.heap.size, 1, none⟩ (.slice a3 xss.length c3) = wz := ⟨_, rfl⟩
  have hgz : w3.grownBy wz (some w.heap.size) := by
    rw [← hwz]
    exact ⟨rfl, rfl, rfl, by simp, fun i _ hi => (heap_setCell_other _ ⟨w.heap.size, 1, none⟩ i _ (fun e => hi (by rw [e]))).trans (heap_setCell_other w3 ⟨w.heap.size, 0, none⟩ i _ (fun e => hi (by rw [e])))⟩
  rw [hwz] at e2 ⊢
  have ea : (((#[Value.int .i64 0, .slice none 0 0] : Array Value).setIfInBounds 0 (.int .i64 n)).setIfInBounds 1 (.slice a3 xss.length c3)) = #[.int .i64 n, .slice a3 xss.length c3] := rfl
  rw [ea] at e2
  have q0 := cell_of_row wz w.heap.size 0 _ _ (0, 0) e2
  have q1 := cell_of_row wz w.heap.size 1 _ _ (0, 0) e2
  have hoz := (ho3.apartp hgz (fun q hq => by cases hq; exact .inl hz2)).mono (Nat.le_of_lt hz2) hgz.size
  have hgf := gb_up hgg3 hgz (fun b hb => by cases hb; exact Nat.le_refl _)
  have hCz := hC3.turn hgz (fun e => hg0 (Option.some.inj e)) (HUP.out _ hgf)
  exact bodyPost_ret (v := .agg #[.int .i64 n, .slice a3 xss.length c3]) (by simp [results, Try.results63, go_sem, q0, q1]) rfl ⟨n, xss, _, hn1.1, hn1.2, hx1, hx2, rfl, hoz, hCz, hgf⟩

theorem s_MakeNetwork (vb : Value) (xs : List Int) (hxb : ∀ x ∈ xs, 0 ≤ x ∧ x ≤ 255) (hl : xs.length ≤ 1048576) (n : Nat) (hn : n ≤ 1000) (w : World) (h : Rd w vb (bytesV xs)) :
    Calls Try.prog 42 #[vb, .int .i64 n] w fun e w' => ∃ (n : Nat) (xss : List (List Int)) (v : Value), 1 ≤ n ∧ n ≤ 6 ∧ xss.length ≤ 12 ∧ netOk n xss = true ∧ e = .returned (.agg #[.int .i64 n, v]) ∧ Rd2 w' v xss ∧ Below w.heap.size w w' := by
  have HN := Lib.hid (fun (wx : World) (hx : Rd wx vb (bytesV xs)) => s_l31New vb xs hxb hl n hn wx hx)
  have HL := Lib.hid (fun (g : Nat) (wx : World) (hx : Cur wx g vb xs) => s_l02Draw g vb xs hxb wx hx)
  clear hxb
  have hbA : Below w.heap.size w (w.alloc (.cells #[.int .i64 0, .slice none 0 0] 32)) := (Below.refl _ _).alloc (Nat.le_refl _) _
  go_enter Try.func42, Try.ntmps42
  go_wp2_with fail
  refine (HN.out _ (h.alloc _)).mono ?_
  rintro e w1 ⟨g, rfl, hg, hC1, hb1⟩
  have hg0 : w.heap.size ≠ g := by simp at hg; omega
  have hA1 := (hb1.block w.heap.size (by simp)).trans (heap_alloc_new w (.cells #[.int .i64 0, .slice none 0 0] 32))
  have hz1 := box_ltp hA1
  have hbb1 := hbA.trans (hb1.mono hbA.size)
  go_wp2_with fail
  refine (HL.out g _ hC1).mono ?_
  rintro e w3 ⟨n2, xss, vl, h1, h6, h12, hr, rfl, ho3, hC2, hg2⟩
  obtain ⟨a3, c3, rfl, _, _⟩ := ho3.form
  have hA3 := (hg2.block w.heap.size hz1 (fun e => hg0 (Option.some.inj e))).trans hA1
  have hb2 := hbb1.grown hg2 hbb1.size (fun r hr => by cases hr; simp at hg; omega)
  have c0 := cell_of_row w3 w.heap.size 0 _ _ (0, 0) hA3
  have c1 := cell_of_row w3 w.heap.size 1 _ _ (0, 0) hA3
  have f0 := frozen_of_row w3 w.heap.size 0 _ _ hA3
  have f1 := frozen_of_row w3 w.heap.size 1 _ _ hA3
  go_wp2_with fail
  have e1 := heap_setCell_same w3 w.heap.size 0 _ _ (.int .i64 n2) hA3
  have e2 := heap_setCell_same _ w.heap.size 1 _ _ (.slice a3 xss.length c3) e1
  obtain ⟨wz, hwz⟩ : ∃ wz, (w3.setCell ⟨w.heap.size, 0, none⟩ (.int .i64 n2)).setCell ⟨w.heap.size, 1, none⟩ (.slice a3 xss.length c3) = wz := ⟨_, rfl⟩
  have hgz : w3.grownBy wz (some w.heap.size) := by
    rw [← hwz]
    exact ⟨rfl, rfl, rfl, by simp, fun i _ hi => (heap_setCell_other _ ⟨w.heap.size, 1, none⟩ i _ (fun e => hi (by rw [e]))).trans (heap_setCell_other w3 ⟨w.heap.size, 0, none⟩ i _ (fun e => hi (by rw [e])))⟩
  rw [hwz] at e2 ⊢
  have ea : (((#[Value.int .i64 0, .slice none 0 0] : Array Value).setIfInBounds 0 (.int .i64 n2)).setIfInBounds 1 (.slice a3 xss.length c3)) = #[.int .i64 n2, .slice a3 xss.length c3] := rfl
  rw [ea] at e2
  have q0 := cell_of_row wz w.heap.size 0 _ _ (0, 0) e2
  have q1 := cell_of_row wz w.heap.size 1 _ _ (0, 0) e2
  have hoz := ho3.apartp hgz (fun q hq => by cases hq; exact .inl hz1)
  exact bodyPost_ret (v := .agg #[.int .i64 n2, .slice a3 xss.length c3]) (by simp [results, Try.results42, go_sem, q0, q1]) rfl ⟨n2, xss, _, h1, h6, h12, by simp [netOk, inB_iff]; exact ⟨⟨⟨by omega, by omega⟩, by omega⟩, hr⟩, rfl, hoz.rd, hb2.grown hgz hb2.size (fun r hr => by cases hr; exact Nat.le_refl _)⟩

/-- Rows that are drawn: each empty or with a number for each wire. -/
def RetR (m n g : Nat) (vb : Value) (xs : List Int) (w : World) (e : Ending) (w' : World) : Prop :=
  ∃ (xss : List (List Int)) (v : Value), xss.length = m ∧ (∀ r ∈ xss, (r.length = 0 ∨ r.length = n) ∧ ∀ y ∈ r, -3 ≤ y ∧ y ≤ 8) ∧ e = .returned v ∧ Own2 w' 42 3 w.heap.size w'.heap.size v xss ∧ w.grownBy w' (some g)
set_option maxRecDepth 100000 in
set_option maxHeartbeats 4000000 in
theorem s_l26Lists (g : Nat) (vb : Value) (xs : List Int) (hxb : ∀ x ∈ xs, 0 ≤ x ∧ x ≤ 255) (n m : Nat) (hn : n ≤ 8) (hm : m ≤ 50) (w : World) (hC : Cur w g vb xs) :
    Calls Try.prog 65 #[.pointer (some ⟨g, 0, none⟩), .int .i64 n, .int .i64 m] w (RetR m n g vb xs w) := by
  have HB := Lib.hid (fun (n : Int) (h1 : 1 ≤ n) (h2 : n ≤ 1000000000) (wx : World) (hx : Cur wx g vb xs) => s_l01Below g vb xs hxb n h1 h2 wx hx)
  have HL := Lib.hid (fun (wx : World) (hx : Cur wx g vb xs) => s_l02List g vb xs hxb n (by omega) wx hx)
  clear hxb
  have hgl := hC.lt
  have HUP := Lib.hid (fun (w6 : World) (hg : w.grownBy w6 (some g)) => hC.up hg)
  go_enter Try.func65, Try.ntmps65
  go_wp2_with fail
  go_loopw [7, 8, 9] (fun vl k _ wr => ∃ (q : Nat) (xss : List (List Int)), k = .int .i64 q ∧ q ≤ m ∧ Hid (xss.length = q) ∧ Hid (∀ r ∈ xss, (r.length = 0 ∨ r.length = n) ∧ ∀ y ∈ r, -3 ≤ y ∧ y ≤ 8) ∧ Own2 wr 42 3 w.heap.size wr.heap.size vl xss ∧ Cur wr g vb xs ∧ w.grownBy wr (some g)) (fun _ k _ _ => m - (intOf k).toNat)
  case atStart => exact ⟨0, [], rfl, Nat.zero_le _, rfl, (fun y hy => by cases hy), Own2.litp w 42 (Nat.le_refl _), hC.alloc _, gb_alloc (World.grownBy.refl _ _) _⟩
  case round =>
    clear hC
    obtain ⟨q, xss, rfl, hqm, HQ, HR, ho, hC, hg⟩ := hrel
    by_cases hlt : q < m
    · have i0 : (q : Int) < (m : Int) := by omega
      have hsz := hg.size
      have hoA := (ho.apartp (w' := wr.alloc (.cells #[] 3)) (row := none) (gb_alloc (World.grownBy.refl _ _) _) (fun q hq => by cases hq)).mono (Nat.le_refl _) (show wr.heap.size ≤ (wr.alloc (.cells #[] 3)).heap.size by simp)
      have hCA := hC.alloc (.cells #[] 3)
      have hgA := gb_alloc hg (.cells #[] 3)
      have hzA : wr.heap.size ≤ (wr.alloc (.cells #[] 3)).heap.size := by simp
      have hl0 := Own.lit0 (B := wr.heap.size) wr 3 (Nat.le_refl _)
      have hoW := Lib.hid (ho.apartp (w' := wr.alloc (.cells #[] 3)) (row := none) (gb_alloc (World.grownBy.refl _ _) _) (fun q hq => by cases hq))
      go_wp2_with fail
      refine (HB.out 4 (by omega) (by omega) _ hCA).mono ?_
      rintro e w2 ⟨x2, rfl, hx20, hx21, hC2, hg2⟩
      have ho2 := (hoA.apartp hg2 (fun q hq => by cases hq; exact .inl hgl)).mono (Nat.le_refl _) hg2.size
      have hgg2 := gb_trans hgA hg2
      have hl2 : Own w2 3 wr.heap.size (.slice (some ⟨wr.heap.size, 0, none⟩) 0 0) (ints []) := hl0.apart hg2 (fun k h1 h2 => by
        have h3 := (hl0.lt k h1).1
        have h4 : g = k := Option.some.inj h2
        omega)
      have hz2 := hg2.size
      clear ho hC hl0 hoA hCA
      by_cases hx : 0 < x2
      · have i1 : decide (x2 > 0) = true := by simp; omega
        go_wp2_with fail
        refine (HL.out _ hC2).mono ?_
        rintro e w3 ⟨ys, vl, hyn, hyr, rfl, hl3, hC3, hg3⟩
        have ho3 := ho2.apartp hg3 (fun q hq => by cases hq; exact .inl hgl)
        have hgg3 := gb_trans hgg2 hg3
        have hz3 := hg3.size
        obtain ⟨a4, m4, c4, rfl, _, _, _⟩ := hl3.rd.formN
        obtain ⟨rows, hov, hT, hrows⟩ := ho3
        have hrl : rows.length ≤ 50 := by have := hrows.1; have := HQ.out; omega
        obtain ⟨ao, co, rfl, _, _⟩ := hov.rd.form
        obtain ⟨mo, hmo⟩ : ∃ mo, rows.length = mo := ⟨_, rfl⟩
        have hov' := hov
        rw [hmo] at hov' hrl ⊢
        have HMO := Lib.hid hmo
        clear hmo
        go_wp2_with (at_builtin; refine wpList_app1m rfl _ _ 22 rfl elII rfl hov' (by show Value.slice (some ⟨w3.heap.size, 0, none⟩) 1 1 = _; simp) rfl hgg3.size _ HMO.out (by omega) (by omega) ?_; intro b6 c6 w6 ho6 hg6 hat6)
        have ho7 := Own2.appp (hrows.snoc (T' := w3.heap.size) (hl3.mono (by have := hgg2.size; omega)) (fun k hk => by have := hl3.lt k hk; exact this) hz3) hov' (by decide) hg6 ho6 hg6.size
        have hg7 := gb_up hgg3 hg6 (fun b hb => (hov'.lt b hb).1)
        have hC7 := hC3.turn hg6 (fun e => by have := (hov'.lt g e).1; omega) (HUP.out _ hg7)
        have HYR : Hid ((ys.length = 0 ∨ ys.length = n) ∧ (∀ y ∈ ys, -3 ≤ y ∧ y ≤ 8)) := ⟨.inr hyn, hyr⟩
        clear hyn hyr
        go_roundw
        case rel => exact ⟨q + 1, xss ++ [ys], by go_num, by omega, by have := HQ.out; rw [Hid, List.length_append, List.length_singleton]; omega, (fun z hz => by
          rcases List.mem_append.1 hz with hz | hz
          · exact HR.out z hz
          · rw [List.mem_singleton] at hz
            subst hz
            exact HYR.out), ho7, hC7, hg7⟩
        case measure => simp [intOf]; omega
      · have i1 : decide (x2 > 0) = false := by simp; omega
        have i2 : ¬ 0 < x2 := hx
        obtain ⟨rows, hov, hT, hrows2⟩ := hoW.out.apartp hg2 (fun q hq => by cases hq; exact .inl hgl)
        have hrows := hrows2
        have hrl : rows.length ≤ 50 := by have := hrows.1; have := HQ.out; omega
        obtain ⟨ao, co, rfl, _, _⟩ := hov.rd.form
        obtain ⟨mo, hmo⟩ : ∃ mo, rows.length = mo := ⟨_, rfl⟩
        have hov' := hov
        rw [hmo] at hov' hrl ⊢
        have HMO := Lib.hid hmo
        clear hmo
        go_wp2_with (at_builtin; refine wpList_app1m rfl _ _ 22 rfl elII rfl hov' (by show Value.slice (some ⟨w2.heap.size, 0, none⟩) 1 1 = _; simp) rfl hgg2.size _ HMO.out (by omega) (by omega) ?_; intro b6 c6 w6 ho6 hg6 hat6)
        have ho7 := Own2.appp (hrows2.snoc (T' := w2.heap.size) (hl2.mono hsz) (fun k hk => by have := hl2.lt k hk; exact this) (by simp at hz2; omega)) hov' (by decide) hg6 ho6 hg6.size
        have hg7 := gb_up hgg2 hg6 (fun b hb => (hov'.lt b hb).1)
        have hC7 := hC2.turn hg6 (fun e => by have := (hov'.lt g e).1; omega) (HUP.out _ hg7)
        go_roundw
        case rel => exact ⟨q + 1, xss ++ [[]], by go_num, by omega, by have := HQ.out; rw [Hid, List.length_append, List.length_singleton]; omega, (fun z hz => by
          rcases List.mem_append.1 hz with hz | hz
          · exact HR.out z hz
          · rw [List.mem_singleton] at hz
            subst hz
            exact ⟨.inl rfl, fun y hy => by cases hy⟩), ho7, hC7, hg7⟩
        case measure => simp [intOf]; omega
    · obtain rfl : q = m := by omega
      have i0 : ¬ (q : Int) < (q : Int) := by omega
      go_wp2_with fail
      go_ret
      exact ⟨xss, _, HQ.out, HR.out, rfl, ho, hg⟩

theorem s_MakeRows (vb : Value) (xs : List Int) (hxb : ∀ x ∈ xs, 0 ≤ x ∧ x ≤ 255) (hl : xs.length ≤ 1048576) (n : Nat) (hn : n ≤ 1000) (N : Nat) (hN : N ≤ 8) (w : World) (h : Rd w vb (bytesV xs)) :
    Calls Try.prog 43 #[vb, .int .i64 n, .int .i64 N] w fun e w' => ∃ (xss : List (List Int)) (v : Value), 1 ≤ xss.length ∧ xss.length ≤ 4 ∧ (∀ r ∈ xss, (r.length = 0 ∨ r.length = N) ∧ ∀ y ∈ r, -3 ≤ y ∧ y ≤ 8) ∧ e = .returned v ∧ Rd2 w' v xss ∧ Below w.heap.size w w' := by
  have HN := Lib.hid (s_l31New vb xs hxb hl n hn w h)
  have HB := Lib.hid (fun (g : Nat) (wx : World) (hx : Cur wx g vb xs) => s_l01Below g vb xs hxb 4 (by omega) (by omega) wx hx)
  have HL := Lib.hid (fun (g m : Nat) (hm : m ≤ 50) (wx : World) (hx : Cur wx g vb xs) => s_l26Lists g vb xs hxb N m hN hm wx hx)
  clear hxb
  go_enter Try.func43, Try.ntmps43
  go_wp2_with fail
  refine HN.out.mono ?_
  rintro e w1 ⟨g, rfl, hg, hC1, hb1⟩
  go_wp2_with fail
  refine (HB.out g _ hC1).mono ?_
  rintro e w2 ⟨x, rfl, hx0, hx1, hC2, hg2⟩
  obtain ⟨m, hm⟩ : ∃ m : Nat, 1 + x = m := ⟨(1 + x).toNat, by omega⟩
  have hb2 := hb1.grown hg2 hb1.size (fun r hr => by cases hr; exact hg)
  go_wp2_with fail
  refine (HL.out g m (by omega) _ hC2).mono ?_
  rintro e w3 ⟨xss, vl, h1, hr, rfl, ho2, hg3⟩
  have hb3 := hb2.grown hg3 hb2.size (fun r hr => by cases hr; exact hg)
  go_wp2_with fail
  go_ret
  exact ⟨xss, _, by omega, by omega, hr, rfl, ho2.rd, hb3⟩

end Go.Proofs.Ytdfjopcfgpigoaa
