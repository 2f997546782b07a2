/- Joined texts of the proof: DrawsO, DrawsN. -/
import Derived.WalkKit
import Derived.WalkSpells
import Derived.WalkLawsBesides
import Derived.Deep.Draws
import Derived.Lib.Hide
import Derived.RegionTactic
import Derived.Test.YtggblfnajeikjaaGreatDoorRows
import Derived.BigQuiet
import Derived.Deep.QuietTactic
import Derived.Deep.DeepCutAuto
import Derived.Deep.LoopGhost
import Derived.Deep.RegionHeld3
import Derived.Laws.BitsAllLaws
import Derived.Laws.BitsLemmas
import Derived.Test.YtggblfnajeikjaaGreatDoorJ1
import Derived.Test.YtggblfnajeikjaaGreatDoorJ2
import Derived.Test.YtggblfnajeikjaaGreatDoorJ6
import Derived.Test.YtggblfnajeikjaaGreatDoorJ7
import Derived.Test.YtggblfnajeikjaaGreatDoorJ9
import Derived.Test.YtggblfnajeikjaaGreatDoorJ10
import Derived.Test.YtggblfnajeikjaaGreatDoorJ15
import Derived.Test.YtggblfnajeikjaaGreatDoorJ16
import Derived.Test.YtggblfnajeikjaaGreatDoorJ19
import Derived.Test.YtggblfnajeikjaaGreatDoorJ23
namespace Go.Proofs.YtggblfnajeikjaaGreatDoor
open Go.RowKit
set_option linter.unusedVariables false
set_option linter.unusedSimpArgs false

set_option maxRecDepth 100000 in
set_option maxHeartbeats 4000000 in
theorem s_l20Draw (g : Nat) (vb : Value) (xs : List Int) (hxb : ∀ x ∈ xs, 0 ≤ x ∧ x ≤ 255) (w : World) (hC : Cur w g vb xs) :
    Calls Tryz.prog 75 #[.pointer (some ⟨g, 0, none⟩)] w fun e w' => ∃ (ys : List Int) (v : Value), ys.length ≤ 6 ∧ (∀ y ∈ ys, 1 ≤ y ∧ y ≤ 12) ∧ e = .returned v ∧ Own w' 3 w.heap.size v (ints ys) ∧ Cur w' g vb xs ∧ w.grownBy w' (some g) := by
  have HB := Lib.hid (fun (n : Int) (h1 : 1 ≤ n) (h2 : n ≤ 1000000000) (wx : World) (hx : Cur wx g vb xs) => s_l01Below g vb xs hxb n h1 h2 wx hx)
  have hgl := hC.lt
  have HUP := Lib.hid (fun (w6 : World) (hg : w.grownBy w6 (some g)) => hC.up hg)
  clear hxb
  go_enter Tryz.func75, Tryz.ntmps75
  go_wp2_with fail
  refine (HB.out 7 (by omega) (by omega) _ (hC.alloc _)).mono ?_
  rintro e w1 ⟨x, rfl, hx0, hx1, hC1, hg1⟩
  obtain ⟨n, rfl⟩ := Int.eq_ofNat_of_zero_le hx0
  have hg0 : w.grownBy w1 (some g) := gb_trans (gb_alloc (World.grownBy.refl _ _) _) hg1
  have ho0 : Own w1 3 w.heap.size (.slice (some ⟨w.heap.size, 0, none⟩) 0 0) (ints []) := (Own.lit0 w 3 (Nat.le_refl _)).apart hg1 (fun k h1 h2 => (Own.lit0 w 3 (Nat.le_refl _)).neg hgl (by rw [h1, h2]))
  have hn : n ≤ 6 := by omega
  clear hC hg1 hx0 hx1
  go_wp2_with fail
  go_loopg [3, 4] n (fun gq vl k wr => ∃ (q : Nat) (ys : List Int), gq = q ∧ k = .int .i64 q ∧ Hid (ys.length + q = n) ∧ Hid (∀ y ∈ ys, 1 ≤ y ∧ y ≤ 12) ∧ Own wr 3 w.heap.size vl (ints ys) ∧ Cur wr g vb xs ∧ w.grownBy wr (some g))
  case atStart => exact ⟨n, [], rfl, rfl, by simp [Hid], (fun y hy => by cases hy), ho0, hC1, hg0⟩
  case round =>
    clear hC1 ho0 hg0
    obtain ⟨q, ys, hgq, rfl, HL, HY, ho, hC, hg⟩ := hrel
    by_cases hq0 : 0 < q
    · obtain ⟨r, rfl⟩ : ∃ r, q = r + 1 := ⟨q - 1, by omega⟩
      have d0 : decide (((r + 1 : Nat) : Int) > 0) = true := by simp
      have hr13 : r ≤ 13 := by have := HL.out; omega
      obtain ⟨al, ml, cl, rfl, HML, _, _⟩ := ho.rd.formN
      have hml : ml ≤ 6 := by have := HML.out; have := HL.out; omega
      have HYM : Hid ((ints ys).length = ml) := by rw [Hid, ints_length, HML.out]
      go_wp2_with (first
        | (go_at_call 49; refine (HB.out 12 (by omega) (by omega) _ hC).mono ?_; rintro e w3 ⟨m, rfl, hm0, hm1, hC3, hg3⟩
           have ho3 := ho.apart hg3 (fun k h1 h2 => ho.neg hgl (by rw [h1, h2]))
           have hgg3 := gb_trans hg hg3)
        | (at_builtin; refine wpList_app1m rfl _ _ 23 rfl elI rfl ho3 (by show Value.slice (some ⟨w3.heap.size, 0, none⟩) 1 1 = _; simp) rfl hgg3.size _ HYM.out (by omega) (by omega) ?_; intro b6 c6 w6 ho6 hg6 hat6))
      have hg7 := gb_up hgg3 hg6 (fun b hb => (ho3.lt b hb).1)
      have hC6 := hC3.turn hg6 (ho3.neg hgl) (HUP.out _ hg7)
      go_roundg r
      case measure => omega
      case rel =>
        refine ⟨r, ys ++ [_], rfl, by go_num, by rw [Hid, List.length_append]; have := HL.out; simp; omega, (fun z hz => ?_), by rw [ints_append]; exact ho6, hC6, hg7⟩
        rcases List.mem_append.1 hz with hz | hz
        · exact HY.out z hz
        · rw [List.mem_singleton] at hz
          subst hz
          omega
    · obtain rfl : q = 0 := by omega
      go_wp2_with fail
      go_ret
      exact ⟨ys, _, by have := HL.out; omega, HY.out, rfl, ho, hC, hg⟩

set_option maxHeartbeats 1000000 in
theorem s_MakeRuns (vb : Value) (xs : List Int) (hxb : ∀ x ∈ xs, 0 ≤ x ∧ x ≤ 255) (hl : xs.length ≤ 1048576) (n : Nat) (hn : n ≤ 1000) (w : World) (h : Rd w vb (bytesV xs)) :
    Calls Tryz.prog 23 #[vb, .int .i64 n] w fun e w' => ∃ (ys : List Int) (v : Value), ys.length ≤ 6 ∧ (∀ y ∈ ys, 1 ≤ y ∧ y ≤ 12) ∧ e = .returned v ∧ Rd w' v (ints ys) ∧ Below w.heap.size w w' := by
  have HN := Lib.hid (s_l31New vb xs hxb hl n hn w h)
  have HL := Lib.hid (fun (g : Nat) (wx : World) (hx : Cur wx g vb xs) => s_l20Draw g vb xs hxb wx hx)
  clear hxb
  go_enter Tryz.func23, Tryz.ntmps23
  go_wp2_with fail
  refine HN.out.mono ?_
  rintro e w1 ⟨g, rfl, hg, hC1, hb1⟩
  go_wp2_with fail
  refine (HL.out g _ hC1).mono ?_
  rintro e w2 ⟨ys, vl, hyn, hyr, rfl, ho2, hC2, hg2⟩
  have hb2 := hb1.grown hg2 hb1.size (fun r hr => by cases hr; exact hg)
  have HYN := Lib.hid hyn
  have HYR := Lib.hid hyr
  clear hyn hyr
  go_wp2_with fail
  go_ret
  exact ⟨ys, _, HYN.out, HYR.out, rfl, ho2.rd, hb2⟩

theorem PermN.ins {n k : Nat} {ys : List Int} (h : PermN n ys) (hk : k ≤ n) : PermN (n + 1) (ys.take k ++ [(n : Int)] ++ ys.drop k) := by
  obtain ⟨h1, h2, h3⟩ := h
  have hp : (ys.take k ++ [(n : Int)] ++ ys.drop k).Perm ((n : Int) :: ys) := by
    have : (ys.take k ++ (n : Int) :: ys.drop k).Perm ((n : Int) :: (ys.take k ++ ys.drop k)) := List.perm_middle
    rw [List.take_append_drop] at this
    simpa using this
  refine ⟨by rw [hp.length_eq]; simp [h1], fun x hx => ?_, hp.nodup_iff.2 (List.nodup_cons.2 ⟨fun hm => by have := h2 _ hm; omega, h3⟩)⟩
  rcases List.mem_cons.1 (hp.mem_iff.1 hx) with e | e
  · subst e; omega
  · have := h2 x e; omega

set_option maxRecDepth 100000 in
set_option maxHeartbeats 4000000 in
theorem s_l02Order (g : Nat) (vb : Value) (xs : List Int) (hxb : ∀ x ∈ xs, 0 ≤ x ∧ x ≤ 255) (n : Nat) (hn : n ≤ 8) (w : World) (hC : Cur w g vb xs) :
    Calls Tryz.prog 74 #[.pointer (some ⟨g, 0, none⟩), .int .i64 n] w fun e w' => ∃ (ys : List Int) (v : Value), PermN n ys ∧ e = .returned v ∧ Own w' 3 w.heap.size v (ints ys) ∧ Cur w' g vb xs ∧ w.grownBy w' (some g) := by
  have HB := Lib.hid (fun (n : Int) (h1 : 1 ≤ n) (h2 : n ≤ 1000000000) (wx : World) (hx : Cur wx g vb xs) => s_l01Below g vb xs hxb n h1 h2 wx hx)
  have hgl := hC.lt
  have HUP := Lib.hid (fun (w6 : World) (hg : w.grownBy w6 (some g)) => hC.up hg)
  clear hxb
  go_enter Tryz.func74, Tryz.ntmps74
  go_wp2_with fail
  go_loopg [5, 6] n (fun gq vl k wr => ∃ (q : Nat) (ys : List Int) (ap : Addr) (cp : Nat), gq = n - q ∧ q ≤ n ∧ k = .int .i64 q ∧ vl = .slice (some ap) q cp ∧ Hid (PermN q ys) ∧ Own wr 3 w.heap.size (.slice (some ap) q cp) (ints ys) ∧ Cur wr g vb xs ∧ w.grownBy wr (some g))
  case atStart => exact ⟨0, [], _, 0, rfl, Nat.zero_le _, rfl, rfl, by (refine ⟨rfl, ?_, List.nodup_nil⟩; intro x hx; cases hx), Own.lit0 w 3 (Nat.le_refl _), hC.alloc _, gb_alloc (World.grownBy.refl _ _) _⟩
  case round =>
    clear hC
    obtain ⟨q, ys, ap, cp, hgq, hqn, rfl, rfl, HP, ho, hC, hg⟩ := hrel
    by_cases hlt : q < n
    · go_wp2_with fail
      refine (HB.out ((q : Int) + 1) (by omega) (by omega) _ hC).mono ?_
      rintro e w3 ⟨m, rfl, hm0, hm1, hC3, hg3⟩
      obtain ⟨j, rfl⟩ := Int.eq_ofNat_of_zero_le hm0
      have hj : j ≤ q := by omega
      have ho3 := ho.apart hg3 (fun k h1 h2 => ho.neg hgl (by rw [h1, h2]))
      have hgg3 := gb_trans hg hg3
      have hLq : ys.length = q := HP.out.1
      have HL := Lib.hid hLq
      have hsb := hgg3.size
      obtain ⟨ao, co, hfo, hco, hco2⟩ := ho3.rd.form
      simp only [Value.slice.injEq] at hfo
      obtain ⟨hf1, hf2, rfl⟩ := hfo
      have hcq : q ≤ cp := by rw [hf2]; exact hco
      have hrT : Rd w3 (.slice (some ap) j cp) (ints (ys.take j)) := by rw [← ints_take]; exact ho3.rd.take hj
      have hrC : Rd w3 (.slice (if cp = j then some ap else some (ap.add j)) (q - j) (cp - j)) (ints (ys.drop j)) := by rw [← ints_drop]; exact ho3.rd.cut hj
      have HT1 : Hid ((ints (ys.take j)).length = j) := by rw [Hid, ints_length, List.length_take]; omega
      have HT2 : Hid ((ints (ys.drop j)).length = q - j) := by rw [Hid, ints_length, List.length_drop]; omega
      have HFIN : Hid (∀ (W : World) (b : Option Addr) (m' c' : Nat), Below w3.heap.size w3 W → Own W 3 w3.heap.size (.slice b m' c') (ints (ys.take j) ++ [.int .i64 (q : Int)] ++ ints (ys.drop j)) →
          PermN (q + 1) (ys.take j ++ [(q : Int)] ++ ys.drop j) ∧ m' = q + 1 ∧ (∃ p, b = some p) ∧ Own W 3 w.heap.size (.slice b m' c') (ints (ys.take j ++ [(q : Int)] ++ ys.drop j)) ∧ Cur W g vb xs ∧ w.grownBy W (some g)) := fun W b m' c' hW hO => by
        have hP2 := HP.out.ins hj
        have hO2 : Own W 3 w.heap.size (.slice b m' c') (ints (ys.take j ++ [(q : Int)] ++ ys.drop j)) := by
          have := hO.mono (B' := w.heap.size) hsb
          simpa [ints] using this
        obtain ⟨a9, m9, c9, e9, h9, _, _⟩ := hO2.rd.formN
        simp only [Value.slice.injEq] at e9
        obtain ⟨rfl, rfl, rfl⟩ := e9
        have hm : m' = q + 1 := by rw [h9.out]; exact hP2.1
        obtain ⟨p, hp⟩ := hO2.some_of (by rw [ints_length, hP2.1]; omega)
        exact ⟨hP2, hm, ⟨p, hp⟩, hO2, hC3.below hW, gb_below hgg3 hW⟩
      have i1 : (j : Int) ≤ (cp : Int) := by omega
      have i2 : (j : Int) ≤ (q : Int) := by omega
      clear hf1 hf2 hLq hm0 hm1 HP ho ho3 hC hg hg3 hgg3 hco
      go_wp2_with (first
        | (at_builtin; (refine wpList_copy (B := w3.heap.size) rfl _ _ 23 rfl elI hrT rfl rfl (oneCell_ints1 _) (Nat.le_refl _) _ HT1.out (by omega) (by omega) ?_); intro b1 c1 w1 ho1 hb1)
        | (at_builtin; refine wpList_app1m rfl _ _ 23 rfl elI rfl ho1 (by show Value.slice (some ⟨w1.heap.size, 0, none⟩) 1 1 = _; simp) rfl hb1.size _ HT1.out (by omega) (by omega) ?_; intro b2 c2 w2 ho2 hg2 hat2; have hb2 := hb1.grown hg2 hb1.size (fun r hr => (ho1.lt r hr).1))
        | (at_builtin; refine wpList_appn rfl _ _ 23 rfl elI ho2 (hrC.below hb2) rfl (by first | rfl | simp) (oneCell_ints1 _) hb2.size (q + 1) (by rw [List.length_append, HT1.out, HT2.out]; simp; omega) (by omega) (by omega) ?_; intro b3 c3 w4 ho4 hg4 hat4; have hb4 := hb2.grown hg4 hb2.size (fun r hr => (ho2.lt r hr).1)))
      all_goals
        obtain ⟨f1, f2, ⟨p, f3⟩, f4, f5, f6⟩ := HFIN.out _ _ _ _ hb4 ho4
        subst f3
        go_roundg (n - (q + 1))
        case measure => omega
        case rel => exact ⟨q + 1, _, p, _, rfl, hlt, by go_num, rfl, f1, f4, f5, f6⟩
    · obtain rfl : q = n := by omega
      go_wp2_with fail
      go_ret
      exact ⟨ys, _, HP.out, rfl, ho, hC, hg⟩

set_option maxHeartbeats 1000000 in
theorem s_MakeOrder (vb : Value) (xs : List Int) (hxb : ∀ x ∈ xs, 0 ≤ x ∧ x ≤ 255) (hl : xs.length ≤ 1048576) (n : Nat) (hn : n ≤ 1000) (m : Nat) (hm : m ≤ 8) (w : World) (h : Rd w vb (bytesV xs)) :
    Calls Tryz.prog 22 #[vb, .int .i64 n, .int .i64 m] w fun e w' => ∃ (ys : List Int) (v : Value), PermN m ys ∧ e = .returned v ∧ Rd w' v (ints ys) ∧ Below w.heap.size w w' := by
  have HN := Lib.hid (s_l31New vb xs hxb hl n hn w h)
  have HL := Lib.hid (fun (g : Nat) (wx : World) (hx : Cur wx g vb xs) => s_l02Order g vb xs hxb m hm wx hx)
  clear hxb
  go_enter Tryz.func22, Tryz.ntmps22
  go_wp2_with fail
  refine HN.out.mono ?_
  rintro e w1 ⟨g, rfl, hg, hC1, hb1⟩
  go_wp2_with fail
  refine (HL.out g _ hC1).mono ?_
  rintro e w2 ⟨ys, vl, hyn, rfl, ho2, hC2, hg2⟩
  have hb2 := hb1.grown hg2 hb1.size (fun r hr => by cases hr; exact hg)
  have HYN := Lib.hid hyn
  clear hyn
  go_wp2_with fail
  go_ret
  exact ⟨ys, _, HYN.out, rfl, ho2.rd, hb2⟩

end Go.Proofs.YtggblfnajeikjaaGreatDoor

namespace Go.Proofs.YtggblfnajeikjaaGreatDoor
open Go.RowKit
set_option linter.unusedVariables false
set_option linter.unusedSimpArgs false

/-- A network of neighbours is drawn. -/
def RetPrim (g : Nat) (vb : Value) (xs : List Int) (w : World) (e : Ending) (w' : World) : Prop :=
  ∃ (n : Nat) (xss : List (List Int)) (v : Value), 2 ≤ n ∧ n ≤ 5 ∧ xss.length ≤ 13 ∧ (∀ r ∈ xss, netRow n r = true) ∧ e = .returned (.agg #[.int .i64 n, v]) ∧ Own2 w' 23 3 (w.heap.size + 1) w'.heap.size v xss ∧ Cur w' g vb xs ∧ w.grownBy w' (some g)
theorem Own2.appq {w w' : World} {EO E B T : Nat} {v v' : Value} {rows rows' : List Value} {xss' : List (List Int)} (hr : RowsOwn w E B T rows' xss') (ho : Own w EO B v rows) (hne : EO ≠ E) (hg : w.grownBy w' v.ownBlock) (ho' : Own w' EO B v' rows') (hT : T ≤ w'.heap.size) : Own2 w' EO E B w'.heap.size v' xss' :=
  ⟨rows', ho', fun k hk => (ho'.lt k hk).2, (hr.outer hg ho hne).mono (Nat.le_refl _) hT⟩

set_option maxRecDepth 100000 in
set_option maxHeartbeats 4000000 in
theorem s_l05Primitive (g : Nat) (vb : Value) (xs : List Int) (hxb : ∀ x ∈ xs, 0 ≤ x ∧ x ≤ 255) (w : World) (hC : Cur w g vb xs) :
    Calls Tryz.prog 55 #[.pointer (some ⟨g, 0, none⟩)] w (RetPrim g vb xs w) := by
  have HB := Lib.hid (fun (n : Int) (h1 : 1 ≤ n) (h2 : n ≤ 1000000000) (wx : World) (hx : Cur wx g vb xs) => s_l01Below g vb xs hxb n h1 h2 wx hx)
  clear hxb
  have hgl := hC.lt
  have HUP := Lib.hid (fun (w6 : World) (hg : w.grownBy w6 (some g)) => hC.up hg)
  go_enter Tryz.func55, Tryz.ntmps55
  go_wp2_with fail
  refine (HB.out 4 (by omega) (by omega) _ (hC.alloc _)).mono ?_
  rintro e w1 ⟨x, rfl, hx0, hx1, hC1, hg1⟩
  obtain ⟨n, hn⟩ : ∃ n : Nat, 2 + x = n := ⟨(2 + x).toNat, by omega⟩
  have hg0 : w.heap.size ≠ g := by omega
  have hgg1 : w.grownBy w1 (some g) := gb_trans (gb_alloc (World.grownBy.refl _ _) _) hg1
  have hA1 := (hg1.block w.heap.size (by simp) (fun e => hg0 (Option.some.inj e))).trans (heap_alloc_new w (.cells #[.int .i64 0, .slice none 0 0] 30))
  have hz1 := box_ltp hA1
  have hgw1 := hC1.lt
  obtain ⟨bx, hbx⟩ : ∃ bx, w1.heap.size = bx := ⟨_, rfl⟩
  obtain ⟨w2, hw2⟩ : ∃ w2, w1.alloc (.cells #[.int .i64 n, .slice none 0 0] 30) = w2 := ⟨_, rfl⟩
  have hX2 : w2.heap[bx]? = some (.cells #[.int .i64 n, .slice none 0 0] 30 (0, 0)) := by rw [← hw2, ← hbx]; exact heap_alloc_new w1 _
  have hbl2 : Below w1.heap.size w1 w2 := by rw [← hw2]; exact (Below.refl _ _).alloc (Nat.le_refl _) _
  have hC2 := hC1.below hbl2
  have hgg2 := gb_below hgg1 hbl2
  have hA2 := (hbl2.block _ hz1).trans hA1
  have hz2 : bx + 1 ≤ w2.heap.size := by rw [← hw2, ← hbx]; simp
  have hzb : w.heap.size < bx := by omega
  have hgbx : g < bx := by omega
  have hn1 : 2 ≤ n ∧ n ≤ 5 := by omega
  have HW2 := Lib.hid hw2
  have HN := Lib.hid hn
  have HBX := Lib.hid hbx
  clear hw2 hbl2 hA1 hz1 hC1 hg1 hgg1 hgw1 hn hbx hC
  go_wp2_with fail
  rw [HN.out, HW2.out, HBX.out]
  refine (HB.out 14 (by omega) (by omega) _ hC2).mono ?_
  rintro e w3 ⟨y, rfl, hy0, hy1, hC3, hg3⟩
  obtain ⟨k0, rfl⟩ := Int.eq_ofNat_of_zero_le hy0
  have hX3 := (hg3.block bx (by omega) (fun e => by injection e; omega)).trans hX2
  have hA3 := (hg3.block w.heap.size (by omega) (fun e => hg0 (Option.some.inj e))).trans hA2
  have hgg3 := gb_trans hgg2 hg3
  have hz3 : bx + 1 ≤ w3.heap.size := Nat.le_trans hz2 hg3.size
  clear hX2 hA2 hC2 hgg2 hg3 hz2
  have hk0 : k0 ≤ 13 := by omega
  clear hy0 hy1
  go_wp2_with fail
  go_loopg [4] k0 (fun gq k wr => ∃ (q : Nat) (xss : List (List Int)) (vp : Value), gq = q ∧ k = .int .i64 q ∧ Hid (xss.length + q ≤ 13) ∧ Hid (∀ r ∈ xss, netRow n r = true) ∧ Hid (wr.heap[bx]? = some (.cells #[.int .i64 n, vp] 30 (0, 0))) ∧ Hid (wr.heap[w.heap.size]? = some (.cells #[.int .i64 0, .slice none 0 0] 30 (0, 0))) ∧ Own2 wr 23 3 (bx + 1) wr.heap.size vp xss ∧ Cur wr g vb xs ∧ w.grownBy wr (some g))
  case atStart => exact ⟨k0, [], _, rfl, rfl, by simpa [Hid] using hk0, (fun r hr => by cases hr), hX3, hA3, Own2.nil _ _ _ _ _, hC3, hgg3⟩
  case round =>
    clear hX3 hA3 hC3 hgg3 hz3
    obtain ⟨q, xss, vp, hgq, rfl, HL, HR, HX, HA, ho, hC, hg⟩ := hrel
    obtain ⟨ap, cp, rfl, _, _⟩ := ho.form
    have c0 := box_cell HX.out 0
    have c1 := box_cell HX.out 1
    by_cases hq0 : 0 < q
    · obtain ⟨r, rfl⟩ : ∃ r, q = r + 1 := ⟨q - 1, by omega⟩
      have d0 : decide (((r + 1 : Nat) : Int) > 0) = true := by simp
      have hr13 : r ≤ 13 := by have := HL.out; omega
      go_wp2_with fail
      refine (HB.out ((n : Int) - 1) (by omega) (by omega) _ hC).mono ?_
      rintro e w4 ⟨i, rfl, hi0, hi1, hC4, hg4⟩
      have hbxl : bx < wr.heap.size := box_lt HX.out
      have ho4 := (ho.apartp hg4 (fun q hq => by cases hq; exact .inl (by omega))).mono (Nat.le_refl _) hg4.size
      have hgg4 := gb_trans hg hg4
      have hX4 := (hg4.block bx hbxl (fun e => by injection e; omega)).trans HX.out
      have hA4 := (hg4.block w.heap.size (by omega) (fun e => hg0 (Option.some.inj e))).trans HA.out
      have hz4 := hg4.size
      obtain ⟨rows, hov, hT, hrows⟩ := ho4
      have hrl : rows.length ≤ 13 := by have := hrows.1; have := HL.out; omega
      have hml := hov.rd.form
      obtain ⟨ao, co, hfo, _, _⟩ := hml
      simp only [Value.slice.injEq] at hfo
      obtain ⟨hf1, hf2, hf3⟩ := hfo
      clear hf1 hf3
      obtain ⟨mo, hmo⟩ : ∃ mo, rows.length = mo := ⟨_, rfl⟩
      have hxl : xss.length = mo := by omega
      rw [hxl] at hov hX4
      rw [hmo] at hrl
      have HMO := Lib.hid hmo
      have e0 := box_cell hX4 0
      have e1 := box_cell hX4 1
      have hovA := fun o => hov.alloc o
      have step : ∀ (b6 : Option Addr) (c6 : Nat) (w6 : World), Own w6 23 (bx + 1) (.slice b6 (mo + 1) c6) (rows ++ [.slice (some ⟨w4.heap.size, 0, none⟩) 2 2]) → (w4.alloc (.cells #[.int .i64 i, .int .i64 (i + 1)] 3)).grownBy w6 (Value.slice ap mo cp).ownBlock →
          w6.cell? ⟨bx, 1, none⟩ = some (.slice ap mo cp) ∧ w6.frozen? ⟨bx, 1, none⟩ = false ∧ Hid (∀ r ∈ xss ++ [[i, i + 1]], netRow n r = true) ∧ Hid ((w6.setCell ⟨bx, 1, none⟩ (.slice b6 (mo + 1) c6)).heap[bx]? = some (.cells #[.int .i64 n, .slice b6 (mo + 1) c6] 30 (0, 0))) ∧ Hid ((w6.setCell ⟨bx, 1, none⟩ (.slice b6 (mo + 1) c6)).heap[w.heap.size]? = some (.cells #[.int .i64 0, .slice none 0 0] 30 (0, 0))) ∧
          Own2 (w6.setCell ⟨bx, 1, none⟩ (.slice b6 (mo + 1) c6)) 23 3 (bx + 1) (w6.setCell ⟨bx, 1, none⟩ (.slice b6 (mo + 1) c6)).heap.size (.slice b6 (mo + 1) c6) (xss ++ [[i, i + 1]]) ∧ Cur (w6.setCell ⟨bx, 1, none⟩ (.slice b6 (mo + 1) c6)) g vb xs ∧ w.grownBy (w6.setCell ⟨bx, 1, none⟩ (.slice b6 (mo + 1) c6)) (some g) := fun b6 c6 w6 ho6 hg6 => by
        have hgA := gb_alloc hgg4 (.cells #[.int .i64 i, .int .i64 (i + 1)] 3)
        have hovA := hov.alloc (.cells #[.int .i64 i, .int .i64 (i + 1)] 3)
        have hrowA := (own_pair (B := bx + 1) (heap_alloc_new w4 (.cells #[.int .i64 i, .int .i64 (i + 1)] 3)) (by omega))
        have hR1 := (hrows.alloc (.cells #[.int .i64 i, .int .i64 (i + 1)] 3)).snoc (T' := w4.heap.size + 1) hrowA (fun g hg => by
          have : w4.heap.size = g := Option.some.inj hg
          omega) (by omega)
        have hz6 := hg6.size
        simp at hz6
        have ho7 := Own2.appq hR1 hovA (by decide) hg6 ho6 (by omega)
        have hg7 := gb_up hgA hg6 (fun b hb => by have := (hovA.lt b hb).1; omega)
        have hC7 := (hC4.alloc (.cells #[.int .i64 i, .int .i64 (i + 1)] 3)).turn hg6 (fun e => by have := (hovA.lt g e).1; omega) (HUP.out _ hg7)
        have hne6 : ∀ k, k ≤ bx → some k ≠ (Value.slice ap mo cp).ownBlock := fun k hk e => by have := (hovA.lt k e.symm).1; omega
        have hX6 : w6.heap[bx]? = _ := (hg6.block bx (by simp; omega) (hne6 bx (Nat.le_refl _))).trans ((Below.heap_alloc _ _ _ (by omega)).trans hX4)
        have hA6 : w6.heap[w.heap.size]? = _ := (hg6.block w.heap.size (by simp; omega) (hne6 _ (by omega))).trans ((Below.heap_alloc _ _ _ (by omega)).trans hA4)
        have hgs : w6.grownBy (w6.setCell ⟨bx, 1, none⟩ (.slice b6 (mo + 1) c6)) (some bx) := ⟨rfl, rfl, rfl, by simp, fun k _ hk => heap_setCell_other w6 ⟨bx, 1, none⟩ k _ (fun e => hk (by rw [e]))⟩
        have hg8 := gb_up hg7 hgs (fun b hb => by cases hb; omega)
        refine ⟨box_cell hX6 1, frozen_of_row w6 bx 1 _ _ hX6, fun z hz => ?_, heap_setCell_same w6 bx 1 _ _ _ hX6, (heap_setCell_other w6 ⟨bx, 1, none⟩ _ _ (by show w.heap.size ≠ bx; omega)).trans hA6, (ho7.apartp hgs (fun q hq => by cases hq; exact .inl (by omega))).mono (Nat.le_refl _) (by simp), hC7.turn hgs (fun e => by injection e; omega) (HUP.out _ hg8), hg8⟩
        rcases List.mem_append.1 hz with hz | hz
        · exact HR.out z hz
        · rw [List.mem_singleton] at hz
          subst hz
          exact netRow_mk ⟨hi0, by omega⟩ ⟨by omega, by omega⟩ (by omega)
      have STEP := Lib.hid step
      have hB6 : bx + 1 ≤ (w4.alloc (.cells #[.int .i64 i, .int .i64 (i + 1)] 3)).heap.size := by simp; omega
      have hm6 : mo ≤ 13 := hrl
      have HLE : Hid ((xss ++ [[i, i + 1]]).length + r ≤ 13) := by have := HL.out; rw [Hid, List.length_append, List.length_singleton]; omega
      clear step hX4 hA4 hrows ho hC hC4 hg hg4 hf2 hxl hmo HX HA hgg4
      go_wp2_with (at_builtin; refine wpList_app1m rfl _ _ 28 rfl elII rfl (hovA _) (by show Value.slice (some ⟨w4.heap.size + 1, 0, none⟩) 1 1 = _; simp) rfl hB6 _ HMO.out (by omega) (by omega) ?_; intro b6 c6 w6 ho6 hg6 hat6; obtain ⟨q1, q2, q3, q4, q5, q6, q7, q8⟩ := STEP.out _ _ _ ho6 hg6)
      go_roundg r
      case measure => omega
      case rel => exact ⟨r, _, _, rfl, by go_num, HLE, q3, q4, q5, q6, q7, q8⟩
    · obtain rfl : q = 0 := by omega
      have a0 := box_cell HA.out 0
      have a1 := box_cell HA.out 1
      have f0 := frozen_of_row wr w.heap.size 0 _ _ HA.out
      have f1 := frozen_of_row wr w.heap.size 1 _ _ HA.out
      have e1 := heap_setCell_same wr w.heap.size 0 _ _ (.int .i64 n) HA.out
      have e2 := heap_setCell_same _ w.heap.size 1 _ _ (.slice ap xss.length cp) e1
      have hgz : wr.grownBy ((wr.setCell ⟨w.heap.size, 0, none⟩ (.int .i64 n)).setCell ⟨w.heap.size, 1, none⟩ (.slice ap xss.length cp)) (some w.heap.size) :=
        ⟨rfl, rfl, rfl, by simp, fun i _ hi => (heap_setCell_other _ ⟨w.heap.size, 1, none⟩ i _ (fun e => hi (by rw [e]))).trans (heap_setCell_other wr ⟨w.heap.size, 0, none⟩ i _ (fun e => hi (by rw [e])))⟩
      have hz9 : w.heap.size < bx + 1 := by omega
      have hoz := (ho.apartp hgz (fun q hq => by cases hq; exact .inl hz9)).mono (show w.heap.size + 1 ≤ bx + 1 by omega) hgz.size
      have hgf := gb_up hg hgz (fun b hb => by cases hb; exact Nat.le_refl _)
      have hCz := hC.turn hgz (fun e => hg0 (Option.some.inj e)) (HUP.out _ hgf)
      have ea : (((#[Value.int .i64 0, .slice none 0 0] : Array Value).setIfInBounds 0 (.int .i64 n)).setIfInBounds 1 (.slice ap xss.length cp)) = #[.int .i64 n, .slice ap xss.length cp] := rfl
      rw [ea] at e2
      have q0 := box_cell e2 0
      have q1 := box_cell e2 1
      clear e1 e2 ea
      go_wp2_with fail
      exact bodyPost_ret (v := .agg #[.int .i64 n, .slice ap xss.length cp]) (by simp [results, Tryz.results55, go_sem, q0, q1]) rfl ⟨n, xss, _, hn1.1, hn1.2, by have := HL.out; omega, HR.out, rfl, hoz, hCz, hgf⟩

set_option maxHeartbeats 1000000 in
theorem s_MakePrimitive (vb : Value) (xs : List Int) (hxb : ∀ x ∈ xs, 0 ≤ x ∧ x ≤ 255) (hl : xs.length ≤ 1048576) (n : Nat) (hn : n ≤ 1000) (w : World) (h : Rd w vb (bytesV xs)) :
    Calls Tryz.prog 9 #[vb, .int .i64 n] w fun e w' => ∃ (n : Nat) (xss : List (List Int)) (v : Value), 2 ≤ n ∧ n ≤ 5 ∧ xss.length ≤ 13 ∧ netOk n xss = true ∧ e = .returned (.agg #[.int .i64 n, v]) ∧ Rd2 w' v xss ∧ Below w.heap.size w w' := by
  have HN := Lib.hid (fun (wx : World) (hx : Rd wx vb (bytesV xs)) => s_l31New vb xs hxb hl n hn wx hx)
  have HL := Lib.hid (fun (g : Nat) (wx : World) (hx : Cur wx g vb xs) => s_l05Primitive g vb xs hxb wx hx)
  clear hxb
  have hbA : Below w.heap.size w (w.alloc (.cells #[.int .i64 0, .slice none 0 0] 30)) := (Below.refl _ _).alloc (Nat.le_refl _) _
  go_enter Tryz.func9, Tryz.ntmps9
  go_wp2_with fail
  refine (HN.out _ (h.alloc _)).mono ?_
  rintro e w1 ⟨g, rfl, hg, hC1, hb1⟩
  have hg0 : w.heap.size ≠ g := by simp at hg; omega
  have hA1 := (hb1.block w.heap.size (by simp)).trans (heap_alloc_new w (.cells #[.int .i64 0, .slice none 0 0] 30))
  have hz1 := box_ltp hA1
  have hbb1 := hbA.trans (hb1.mono hbA.size)
  go_wp2_with fail
  refine (HL.out g _ hC1).mono ?_
  rintro e w3 ⟨n2, xss, vl, h1, h6, h12, hr, rfl, ho3, hC2, hg2⟩
  obtain ⟨a3, c3, rfl, _, _⟩ := ho3.form
  have hA3 := (hg2.block w.heap.size hz1 (fun e => hg0 (Option.some.inj e))).trans hA1
  have hb2 := hbb1.grown hg2 hbb1.size (fun r hr => by cases hr; simp at hg; omega)
  have c0 := cell_of_row w3 w.heap.size 0 _ _ (0, 0) hA3
  have c1 := cell_of_row w3 w.heap.size 1 _ _ (0, 0) hA3
  have f0 := frozen_of_row w3 w.heap.size 0 _ _ hA3
  have f1 := frozen_of_row w3 w.heap.size 1 _ _ hA3
  go_wp2_with fail
  have e1 := heap_setCell_same w3 w.heap.size 0 _ _ (.int .i64 n2) hA3
  have e2 := heap_setCell_same _ w.heap.size 1 _ _ (.slice a3 xss.length c3) e1
  obtain ⟨wz, hwz⟩ : ∃ wz, (w3.setCell ⟨w.heap.size, 0, none⟩ (.int .i64 n2)).setCell ⟨w.heap.size, 1, none⟩ (.slice a3 xss.length c3) = wz := ⟨_, rfl⟩
  have hgz : w3.grownBy wz (some w.heap.size) := by
    rw [← hwz]
    exact ⟨rfl, rfl, rfl, by simp, fun i _ hi => (heap_setCell_other _ ⟨w.heap.size, 1, none⟩ i _ (fun e => hi (by rw [e]))).trans (heap_setCell_other w3 ⟨w.heap.size, 0, none⟩ i _ (fun e => hi (by rw [e])))⟩
  rw [hwz] at e2 ⊢
  have ea : (((#[Value.int .i64 0, .slice none 0 0] : Array Value).setIfInBounds 0 (.int .i64 n2)).setIfInBounds 1 (.slice a3 xss.length c3)) = #[.int .i64 n2, .slice a3 xss.length c3] := rfl
  rw [ea] at e2
  have q0 := box_cell e2 0
  have q1 := box_cell e2 1
  have hz9 : w.heap.size < w1.heap.size + 1 := by omega
  have hoz := ho3.apartp hgz (fun q hq => by cases hq; exact .inl hz9)
  exact bodyPost_ret (v := .agg #[.int .i64 n2, .slice a3 xss.length c3]) (by simp [results, Tryz.results9, go_sem, q0, q1]) rfl ⟨n2, xss, _, h1, h6, h12, by simp [netOk, inB_iff]; exact ⟨⟨⟨by omega, by omega⟩, by omega⟩, hr⟩, rfl, hoz.rd, hb2.grown hgz hb2.size (fun r hr => by cases hr; exact Nat.le_refl _)⟩

end Go.Proofs.YtggblfnajeikjaaGreatDoor
