/- Walks: lists of lists that are drawn. -/
import Derived.Test.YtkidbnlebeaikaaDraws3
namespace Go.Proofs.Ytkidbnlebeaikaa
open Go.RowKit
set_option linter.unusedVariables false
set_option linter.unusedSimpArgs false

theorem Own2.appd {w w' : World} {EO E B T : Nat} {v v' : Value} {rows rows' : List Value} {xss' : List (List Int)} (hr : RowsOwn w E B T rows' xss') (ho : Own w EO B v rows) (hne : EO ≠ E) (hg : w.grownBy w' v.ownBlock) (ho' : Own w' EO B v' rows') (hT : T ≤ w'.heap.size) : Own2 w' EO E B w'.heap.size v' xss' :=
  ⟨rows', ho', fun k hk => (ho'.lt k hk).2, (hr.outer hg ho hne).mono (Nat.le_refl _) hT⟩
theorem Own2.apartd {w w' : World} {EO E B T : Nat} {v : Value} {xss : List (List Int)} {row : Option Nat} (h : Own2 w EO E B T v xss) (hg : w.grownBy w' row) (hne : ∀ g, row = some g → g < B ∨ T ≤ g) : Own2 w' EO E B T v xss := by
  cases row with
  | none => exact h.chg (C := T) (D := T) (Chg.row hg (fun k hk => by cases hk)) (.inl (Nat.le_refl _))
  | some g => exact h.chg (C := g) (D := g + 1) (Chg.row hg (fun k hk => by cases hk; omega)) (by have := hne g rfl; omega)
theorem Own2.litd {E B : Nat} (w : World) (EO : Nat) (hB : B ≤ w.heap.size) : Own2 (w.alloc (.cells #[] EO)) EO E B (w.alloc (.cells #[] EO)).heap.size (.slice (some ⟨w.heap.size, 0, none⟩) 0 0) [] := by
  refine ⟨[], ?_, fun k hk => ?_, RowsOwn.nil _ _ _ _⟩
  · simpa [ints] using Own.lit0 w EO hB
  · have : w.heap.size = k := Option.some.inj hk
    simp
    omega

set_option maxRecDepth 100000 in
set_option maxHeartbeats 2000000 in
theorem s_l28Draw (g : Nat) (vb : Value) (xs : List Int) (hxb : ∀ x ∈ xs, 0 ≤ x ∧ x ≤ 255) (w : World) (hC : Cur w g vb xs) :
    Calls Try.prog 54 #[.pointer (some ⟨g, 0, none⟩)] w fun e w' => ∃ (xss : List (List Int)) (v : Value), 1 ≤ xss.length ∧ xss.length ≤ 6 ∧ (∀ r ∈ xss, r.length ≤ 4 ∧ (∀ y ∈ r, -3 ≤ y ∧ y ≤ 8) ∧ srt r = r) ∧ e = .returned v ∧ Own2 w' 27 3 w.heap.size w'.heap.size v xss ∧ w.grownBy w' (some g) := by
  have HB := Lib.hid (fun (n : Int) (h1 : 1 ≤ n) (h2 : n ≤ 1000000000) (wx : World) (hx : Cur wx g vb xs) => s_l01Below g vb xs hxb n h1 h2 wx hx)
  have HL := Lib.hid (fun (n : Nat) (hn : n ≤ 1000) (wx : World) (hx : Cur wx g vb xs) => s_l02List g vb xs hxb n hn wx hx)
  clear hxb
  have hgl := hC.lt
  have HUP := Lib.hid (fun (w6 : World) (hg : w.grownBy w6 (some g)) => hC.up hg)
  go_enter Try.func54, Try.ntmps54
  go_wp2_with fail
  have hbL : Below w.heap.size w (w.alloc (.cells #[] 27)) := (Below.refl _ _).alloc (Nat.le_refl _) _
  refine (HB.out 6 (by omega) (by omega) _ (hC.alloc _)).mono ?_
  rintro e w1 ⟨x, rfl, hx0, hx1, hC1, hg1⟩
  have ho1 := (Own2.litd (E := 3) (B := w.heap.size) w 27 (Nat.le_refl _)).apartd hg1 (fun q hq => by cases hq; exact .inl hgl)
  have hgg1 : w.grownBy w1 (some g) := gb_trans (gb_alloc (World.grownBy.refl _ _) _) hg1
  replace ho1 := ho1.mono (Nat.le_refl _) hg1.size
  clear hC
  go_wp2_with fail
  go_loopw [3, 4] (fun vl k wr => ∃ (q : Nat) (xss : List (List Int)), k = .int .i64 q ∧ q ≤ 6 ∧ Hid (1 ≤ xss.length + q ∧ xss.length + q ≤ 6) ∧ Hid (∀ r ∈ xss, r.length ≤ 4 ∧ (∀ y ∈ r, -3 ≤ y ∧ y ≤ 8) ∧ srt r = r) ∧ Own2 wr 27 3 w.heap.size wr.heap.size vl xss ∧ Cur wr g vb xs ∧ w.grownBy wr (some g)) (fun _ k _ => (intOf k).toNat)
  case atStart => exact ⟨x.toNat + 1, [], by congr 1; omega, by omega, (by rw [Hid, List.length_nil]; omega), (fun y hy => by cases hy), ho1, hC1, hgg1⟩
  case round =>
    clear ho1 hC1 hgg1 hbL hg1
    obtain ⟨q, xss, rfl, hq6, HQ, HR, ho, hC, hg⟩ := hrel
    cases q with
    | zero =>
      go_wp2_with fail
      go_ret
      exact ⟨xss, _, by have := HQ.out; omega, by have := HQ.out; omega, HR.out, rfl, ho, hg⟩
    | succ r =>
      have i1 : (0 : Int) < (r : Int) + 1 := by omega
      have hsz := hg.size
      go_wp2_with fail
      refine (HB.out 5 (by omega) (by omega) _ hC).mono ?_
      rintro e w2 ⟨x2, rfl, hx20, hx21, hC2, hg2⟩
      obtain ⟨n, rfl⟩ := Int.eq_ofNat_of_zero_le hx20
      have ho2 := (ho.apartd hg2 (fun q hq => by cases hq; exact .inl hgl)).mono (Nat.le_refl _) hg2.size
      have hgg2 := gb_trans hg hg2
      clear ho hC
      go_wp2_with fail
      refine (HL.out n (by omega) _ hC2).mono ?_
      rintro e w3 ⟨ys, vl, hyn, hyr, rfl, hl3, hC3, hg3⟩
      have ho3 := (ho2.apartd hg3 (fun q hq => by cases hq; exact .inl hgl)).mono (Nat.le_refl _) hg3.size
      have hgg3 := gb_trans hgg2 hg3
      clear ho2 hC2 hg2
      go_wp2_with fail
      refine (s_l08Sort _ ys _ hl3.rd (by omega)).mono ?_
      rintro e w4 ⟨v4, rfl, hl4, hb4⟩
      obtain ⟨a4, m4, c4, rfl, _, _, _⟩ := hl4.rd.formN
      have hC4 := hC3.below hb4
      have hgg4 := gb_below hgg3 hb4
      obtain ⟨rows, hov, hT, hrows⟩ := ho3.below hb4
      have hrl : rows.length ≤ 6 := by have := hrows.1; have := HQ.out; omega
      obtain ⟨ao, co, rfl, _, _⟩ := hov.rd.form
      obtain ⟨mo, hmo⟩ : ∃ mo, rows.length = mo := ⟨_, rfl⟩
      have hov' := hov
      rw [hmo] at hov' hrl ⊢
      have HMO := Lib.hid hmo
      clear hmo
      go_wp2_with (at_builtin; refine wpList_app1m rfl _ _ 22 rfl elII rfl hov' (by show Value.slice (some ⟨w4.heap.size, 0, none⟩) 1 1 = _; simp) rfl hgg4.size _ HMO.out (by omega) (by omega) ?_; intro b6 c6 w6 ho6 hg6 hat6)
      have hz4 := hb4.size
      have ho7 := Own2.appd ((hrows).snoc (hl4.mono (by have := hgg3.size; omega)) (fun k hk => hl4.lt k hk) hz4) hov' (by decide) hg6 ho6 hg6.size
      have hg7 := gb_up hgg4 hg6 (fun b hb => (hov'.lt b hb).1)
      have hC7 := hC4.turn hg6 (fun e => by have := (hov'.lt g e).1; omega) (HUP.out _ hg7)
      have HYR : Hid (ys.length ≤ 4 ∧ (∀ y ∈ ys, -3 ≤ y ∧ y ≤ 8)) := ⟨by omega, hyr⟩
      clear hyn hyr
      go_roundw
      case rel => exact ⟨r, xss ++ [srt ys], by go_num, by omega, by have := HQ.out; rw [Hid, List.length_append, List.length_singleton]; omega, (fun z hz => by
        rcases List.mem_append.1 hz with hz | hz
        · exact HR.out z hz
        · rw [List.mem_singleton] at hz
          subst hz
          exact ⟨by rw [srt_length]; exact HYR.out.1, fun y hy => HYR.out.2 y ((srt_mem _ _).1 hy), srt_srt _⟩), ho7, hC7, hg7⟩
      case measure => simp [intOf]

set_option maxHeartbeats 1000000 in
theorem s_MakeLists (vb : Value) (xs : List Int) (hxb : ∀ x ∈ xs, 0 ≤ x ∧ x ≤ 255) (hl : xs.length ≤ 1048576) (n : Nat) (hn : n ≤ 1000) (w : World) (h : Rd w vb (bytesV xs)) :
    Calls Try.prog 33 #[vb, .int .i64 n] w fun e w' => ∃ (xss : List (List Int)) (v : Value), 1 ≤ xss.length ∧ xss.length ≤ 6 ∧ (∀ r ∈ xss, r.length ≤ 4 ∧ (∀ y ∈ r, -3 ≤ y ∧ y ≤ 8) ∧ srt r = r) ∧ e = .returned v ∧ Rd2 w' v xss ∧ Below w.heap.size w w' := by
  have HN := Lib.hid (s_l31New vb xs hxb hl n hn w h)
  have HL := Lib.hid (fun (g : Nat) (wx : World) (hx : Cur wx g vb xs) => s_l28Draw g vb xs hxb wx hx)
  clear hxb
  go_enter Try.func33, Try.ntmps33
  go_wp2_with fail
  refine HN.out.mono ?_
  rintro e w1 ⟨g, rfl, hg, hC1, hb1⟩
  go_wp2_with fail
  refine (HL.out g _ hC1).mono ?_
  rintro e w2 ⟨xss, vl, h1, h6, hr, rfl, ho2, hg2⟩
  have hb2 := hb1.grown hg2 hb1.size (fun r hr => by cases hr; exact hg)
  go_wp2_with fail
  go_ret
  exact ⟨xss, _, h1, h6, hr, rfl, ho2.rd, hb2⟩

end Go.Proofs.Ytkidbnlebeaikaa
