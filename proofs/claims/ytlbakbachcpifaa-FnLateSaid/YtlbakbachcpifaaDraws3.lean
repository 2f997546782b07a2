/- Walks: lists that are drawn. -/
import Derived.Test.YtlbakbachcpifaaDraws2
import Derived.Test.YtlbakbachcpifaaSort2
namespace Go.Proofs.Ytlbakbachcpifaa
open Go.RowKit
set_option linter.unusedVariables false
set_option linter.unusedSimpArgs false

theorem gb_below {w w1 w2 : World} {r : Option Nat} (h : w.grownBy w1 r) (k : Below w1.heap.size w1 w2) : w.grownBy w2 r :=
  ⟨k.os.trans h.os, k.tape.trans h.tape, k.output.trans h.output, Nat.le_trans h.size k.size, fun i hi hne => (k.block i (Nat.lt_of_lt_of_le hi h.size)).trans (h.block i hi hne)⟩
theorem gb_up {w w1 w2 : World} {r s : Option Nat} (h : w.grownBy w1 r) (k : w1.grownBy w2 s) (hs : ∀ b, s = some b → w.heap.size ≤ b) : w.grownBy w2 r :=
  ⟨k.os.trans h.os, k.tape.trans h.tape, k.output.trans h.output, Nat.le_trans h.size k.size, fun i hi hne => (k.block i (Nat.lt_of_lt_of_le hi h.size) (fun e => by have := hs i e.symm; omega)).trans (h.block i hi hne)⟩
theorem gb_alloc {w w1 : World} {r : Option Nat} (h : w.grownBy w1 r) (o : Obj) : w.grownBy (w1.alloc o) r := gb_below h ((Below.refl _ _).alloc (Nat.le_refl _) o)
theorem Cur.lt {w : World} {g : Nat} {vb : Value} {xs : List Int} (h : Cur w g vb xs) : g < w.heap.size := by obtain ⟨_, _, _, c0, _⟩ := h.ex; exact World.block_lt_of_cell? _ _ c0
theorem Cur.alloc {w : World} {g : Nat} {vb : Value} {xs : List Int} (h : Cur w g vb xs) (o : Obj) : Cur (w.alloc o) g vb xs := h.below ((Below.refl _ _).alloc (Nat.le_refl _) o)
theorem Cur.up {w w6 : World} {g : Nat} {vb : Value} {xs : List Int} (hC : Cur w g vb xs) (hg : w.grownBy w6 (some g)) : Rd w6 vb (bytesV xs) := by
  rcases hC.ne with rfl | hne
  · obtain ⟨a, c, e, h2, h3, _⟩ := hC.rd
    exact ⟨a, c, e, h2, h3, fun h => absurd h (by simp [bytesV])⟩
  · exact hC.rd.grown hg (.inl hne)
theorem Own.neg {w w0 : World} {E g : Nat} {v : Value} {xs : List Value} (h : Own w E w0.heap.size v xs) (hg : g < w0.heap.size) : v.ownBlock ≠ some g := fun e => by have := (h.lt g e).1; omega
/-- A list that is drawn: so many numbers from -3 to 8. -/
def RetL (n : Nat) (g : Nat) (vb : Value) (xs : List Int) (w : World) (e : Ending) (w' : World) : Prop :=
  ∃ (ys : List Int) (v : Value), ys.length = n ∧ (∀ y ∈ ys, -3 ≤ y ∧ y ≤ 8) ∧ e = .returned v ∧ Own w' 3 w.heap.size v (ints ys) ∧ Cur w' g vb xs ∧ w.grownBy w' (some g)

theorem s_l01Once (g : Nat) (vb : Value) (xs : List Int) (hxb : ∀ x ∈ xs, 0 ≤ x ∧ x ≤ 255) (n : Int) (h1 : 1 ≤ n) (h2 : n ≤ 1000000000) (w : World) (hC : Cur w g vb xs) :
    Calls Try.prog 83 #[.pointer (some ⟨g, 0, none⟩), .int .i64 n] w fun e w' => (∃ b : Bool, e = .returned (.bool b)) ∧ Cur w' g vb xs ∧ w.grownBy w' (some g) := by
  have HB := Lib.hid (s_l01Below g vb xs hxb n h1 h2 w hC)
  go_enter Try.func83, Try.ntmps83
  go_wp2_with (go_at_call 54; refine HB.out.mono ?_; rintro e w2 ⟨x, rfl, hx0, hx1, hC2, hg2⟩)
  go_ret
  exact ⟨⟨_, rfl⟩, hC2, hg2⟩

set_option maxHeartbeats 1000000 in
theorem s_l02List (g : Nat) (vb : Value) (xs : List Int) (hxb : ∀ x ∈ xs, 0 ≤ x ∧ x ≤ 255) (n : Nat) (hn : n ≤ 1000) (w : World) (hC : Cur w g vb xs) :
    Calls Try.prog 82 #[.pointer (some ⟨g, 0, none⟩), .int .i64 n] w (RetL n g vb xs w) := by
  have HB := Lib.hid (fun (wx : World) (hx : Cur wx g vb xs) => s_l01Below g vb xs hxb 12 (by omega) (by omega) wx hx)
  have hgl := hC.lt
  have HUP := Lib.hid (fun (w6 : World) (hg : w.grownBy w6 (some g)) => hC.up hg)
  go_enter Try.func82, Try.ntmps82
  go_wp2
  go_loopw [5, 6] (fun vl k wr => ∃ (q : Nat) (ys : List Int), k = .int .i64 q ∧ q ≤ n ∧ Hid (ys.length = q) ∧ Hid (∀ y ∈ ys, -3 ≤ y ∧ y ≤ 8) ∧ Own wr 3 w.heap.size vl (ints ys) ∧ Cur wr g vb xs ∧ w.grownBy wr (some g)) (fun _ k _ => n - (intOf k).toNat)
  case atStart => exact ⟨0, [], rfl, Nat.zero_le _, rfl, (fun y hy => by cases hy), Own.lit0 w 3 (Nat.le_refl _), hC.alloc _, gb_alloc (World.grownBy.refl _ _) _⟩
  case round =>
    clear hC
    obtain ⟨q, ys, rfl, hq, HL, HY, ho, hC, hg⟩ := hrel
    by_cases hqn : q < n
    · have i1 : (q : Int) < (n : Int) := by omega
      obtain ⟨al, ml, cl, rfl, HML, _, _⟩ := ho.rd.formN
      have hml : ml ≤ 1000 := by have := HML.out; have := HL.out; omega
      have HYM : Hid ((ints ys).length = ml) := by rw [Hid, ints_length, HML.out]
      have hsz := hg.size
      go_wp2_with (first
        | (go_at_call 54; refine (HB.out _ hC).mono ?_; rintro e w3 ⟨m, rfl, hm0, hm1, hC3, hg3⟩
           have ho3 := ho.apart hg3 (fun k h1 h2 => ho.neg hgl (by rw [h1, h2]))
           have hgg3 := gb_trans hg hg3)
        | (at_builtin; refine wpList_app1m rfl _ _ 22 rfl elI rfl ho3 (by show Value.slice (some ⟨w3.heap.size, 0, none⟩) 1 1 = _; simp) rfl hgg3.size _ HYM.out (by omega) (by omega) ?_; intro b6 c6 w6 ho6 hg6 hat6))
      have hg7 := gb_up hgg3 hg6 (fun b hb => (ho3.lt b hb).1)
      have hC6 := hC3.turn hg6 (ho3.neg hgl) (HUP.out _ hg7)
      go_roundw
      case rel => exact ⟨q + 1, ys ++ [m - 3], by go_num, by omega, by rw [Hid, List.length_append, HL.out]; rfl, (fun z hz => by
        rcases List.mem_append.1 hz with hz | hz
        · exact HY.out z hz
        · rw [List.mem_singleton] at hz
          subst hz
          omega), by rw [ints_append]; exact ho6, hC6, hg7⟩
      case measure => simp [intOf]; omega
    · obtain rfl : q = n := by omega
      go_wp2
      go_ret
      exact ⟨ys, _, HL.out, HY.out, rfl, ho, hC, hg⟩

set_option maxRecDepth 100000 in
set_option maxHeartbeats 4000000 in
theorem s_l25Draw (g : Nat) (vb : Value) (xs : List Int) (hxb : ∀ x ∈ xs, 0 ≤ x ∧ x ≤ 255) (w : World) (hC : Cur w g vb xs) :
    Calls Try.prog 62 #[.pointer (some ⟨g, 0, none⟩)] w fun e w' => ∃ n, n ≤ 1000 ∧ RetL n g vb xs w e w' := by
  have HB := Lib.hid (fun (n : Int) (h1 : 1 ≤ n) (h2 : n ≤ 1000000000) (wx : World) (hx : Cur wx g vb xs) => s_l01Below g vb xs hxb n h1 h2 wx hx)
  have HO := Lib.hid (fun (n : Int) (h1 : 1 ≤ n) (h2 : n ≤ 1000000000) (wx : World) (hx : Cur wx g vb xs) => s_l01Once g vb xs hxb n h1 h2 wx hx)
  have HL := Lib.hid (fun (n : Nat) (hn : n ≤ 1000) (wx : World) (hx : Cur wx g vb xs) => s_l02List g vb xs hxb n hn wx hx)
  clear hxb
  have hgl := hC.lt
  have HUP := Lib.hid (fun (w6 : World) (hg : w.grownBy w6 (some g)) => hC.up hg)
  go_enter Try.func62, Try.ntmps62
  go_wp2_with fail
  refine (HB.out 12 (by omega) (by omega) _ hC).mono ?_
  rintro e w1 ⟨x, rfl, hx0, hx1, hC1, hg1⟩
  obtain ⟨n, rfl⟩ := Int.eq_ofNat_of_zero_le hx0
  clear hC
  go_wp2_with fail
  refine (HL.out n (by omega) _ hC1).mono ?_
  rintro e w2 ⟨ys, vl, hyn, hyr, rfl, ho2, hC2, hg2⟩
  replace hg2 := gb_trans hg1 hg2
  replace ho2 := ho2.mono (B' := w.heap.size) hg1.size
  have HYN := Lib.hid hyn
  have HYR := Lib.hid hyr
  clear hyn hyr hC1 hg1
  go_wp2_with fail
  refine (HO.out 2 (by omega) (by omega) _ hC2).mono ?_
  rintro e w3 ⟨⟨b1, rfl⟩, hC3, hg3⟩
  have ho3 := ho2.apart hg3 (fun k h1 h2 => ho2.neg hgl (by rw [h1, h2]))
  replace hg3 := gb_trans hg2 hg3
  clear ho2 hC2 hg2
  cases b1
  · go_wp2_with fail
    refine (HO.out 14 (by omega) (by omega) _ hC3).mono ?_
    rintro e w4 ⟨⟨b2, rfl⟩, hC4, hg4⟩
    have ho4 := ho3.apart hg4 (fun k h1 h2 => ho3.neg hgl (by rw [h1, h2]))
    replace hg4 := gb_trans hg3 hg4
    cases b2
    · go_wp2_with fail
      go_ret
      exact ⟨n, by omega, ys, _, HYN.out, HYR.out, rfl, ho4, hC4, hg4⟩
    · go_wp2_with fail
      refine (HB.out 3 (by omega) (by omega) _ hC4).mono ?_
      rintro e w5 ⟨x, rfl, hx0, hx1, hC5, hg5⟩
      obtain ⟨m, rfl⟩ := Int.eq_ofNat_of_zero_le hx0
      replace hg5 := gb_trans hg4 hg5
      go_wp2_with fail
      rw [show (23 : Int) + (m : Int) = ((23 + m : Nat) : Int) by omega]
      refine (HL.out (23 + m) (by omega) _ hC5).mono ?_
      rintro e w6 ⟨zs, vz, hzn, hzr, rfl, ho6, hC6, hg6⟩
      go_wp2_with fail
      go_ret
      exact ⟨23 + m, by omega, zs, _, hzn, hzr, rfl, ho6.mono hg5.size, hC6, gb_trans hg5 hg6⟩
  · go_wp2_with fail
    refine (s_l08Sort _ ys _ ho3.rd (by have := HYN.out; omega)).mono ?_
    rintro e w4 ⟨v4, rfl, ho4, hb4⟩
    replace hC3 := hC3.below hb4
    have hg4 := gb_below hg3 hb4
    replace ho4 := ho4.mono (B' := w.heap.size) hg3.size
    obtain ⟨zs, hzs⟩ : ∃ zs, srt ys = zs := ⟨_, rfl⟩
    have HZN : Hid (zs.length = n) := by rw [Hid, ← hzs, srt_length, HYN.out]
    have HZR : Hid (∀ z ∈ zs, -3 ≤ z ∧ z ≤ 8) := fun z hz => by rw [← hzs, srt_mem] at hz; exact HYR.out z hz
    rw [hzs] at ho4
    clear hzs ho3 hg3 hb4
    obtain ⟨a4, m4, c4, rfl, HM4, _, _⟩ := ho4.rd.formN
    have hm4 : m4 = n := by have := HM4.out; have := HZN.out; omega
    subst hm4
    go_wp2_with fail
    go_loopw [17] (fun iv wr => ∃ (j : Nat) (qs : List Int), j ≤ m4 ∧ iv = .int .i64 j ∧ Hid (qs.length = m4) ∧ Hid (∀ z ∈ qs, -3 ≤ z ∧ z ≤ 8) ∧ Own wr 3 w.heap.size (.slice a4 m4 c4) (ints qs) ∧ Cur wr g vb xs ∧ w.grownBy wr (some g)) (fun iv _ => m4 - (intOf iv).toNat)
    case atStart => exact ⟨0, zs, Nat.zero_le _, rfl, HZN, HZR, ho4, hC3, hg4⟩
    case round =>
      clear ho4 hC3 hg4
      obtain ⟨j, qs, hj, rfl, HQ, HR, ho, hC, hg⟩ := hrel
      by_cases hjm : j < m4
      · have i1 : (j : Int) < (m4 : Int) := by omega
        go_wp2_with fail
        refine (HB.out 3 (by omega) (by omega) _ hC).mono ?_
        rintro e w5 ⟨x, rfl, hx0, hx1, hC5, hg5⟩
        have ho5 := ho.apart hg5 (fun k h1 h2 => ho.neg hgl (by rw [h1, h2]))
        replace hg5 := gb_trans hg hg5
        obtain ⟨X, rfl⟩ := Int.eq_ofNat_of_zero_le hx0
        obtain ⟨ad, y, rfl, hcy, hy⟩ := ho5.rd.int (k := j) (by have := HQ.out; omega)
        have hfj := ho5.frozen rfl j
        have FIN : Hid (∀ (r : Nat) (z : Int), r < m4 → qs[r]? = some z → ∀ wz, wz = (w5.setCell (ad.add j) (.int .i64 z)).setCell (ad.add r) (.int .i64 y) → ∃ ps : List Int, ps.length = m4 ∧ (∀ z ∈ ps, -3 ≤ z ∧ z ≤ 8) ∧ Own wz 3 w.heap.size (.slice (some ad) m4 c4) (ints ps) ∧ Cur wz g vb xs ∧ w.grownBy wz (some g)) := by
          intro r z hr hz wz hwz
          obtain ⟨h1, h2⟩ := ho5.seti rfl (k := j) (by have := HQ.out; omega) z
          obtain ⟨h3, h4⟩ := h1.seti rfl (k := r) (by rw [List.length_set]; have := HQ.out; omega) y
          have h5 := gb_trans h2 h4
          have h6 := gb_up hg5 h5 (fun b hb => by cases hb; exact (ho5.lt _ rfl).1)
          have h7 := hC5.turn h5 (fun e => ho5.neg hgl e) (HUP.out _ h6)
          subst hwz
          refine ⟨_, ?_, ?_, h3, h7, h6⟩
          · rw [List.length_set, List.length_set, HQ.out]
          · intro u hu
            rcases List.mem_or_eq_of_mem_set hu with hu | rfl
            · rcases List.mem_or_eq_of_mem_set hu with hu | rfl
              · exact HR.out u hu
              · exact HR.out u (List.mem_of_getElem? hz)
            · exact HR.out u (List.mem_of_getElem? hy.out)
        by_cases hmn : (m4 : Int) - 1 ≤ (j : Int) + (X : Int)
        · obtain ⟨r, hr⟩ : ∃ r : Nat, (m4 : Int) - 1 = (r : Int) := ⟨m4 - 1, by omega⟩
          obtain ⟨ad2, z, had, hcz, hz⟩ := ho5.rd.int (k := r) (by have := HQ.out; omega)
          obtain rfl : ad = ad2 := by injection had
          clear had
          have hfr := ho5.frozen rfl r
          have i2 : (r : Int) < (m4 : Int) := by omega
          have FI := FIN.out r z (by omega) hz.out _ rfl
          clear FIN
          have h1 := (ho5.seti rfl (k := j) (by have := HQ.out; omega) z).1
          obtain ⟨ad3, z3, had, hc3, _⟩ := h1.rd.int (k := r) (by rw [List.length_set]; have := HQ.out; omega)
          obtain rfl : ad = ad3 := by injection had
          clear had
          have hf3 := h1.frozen rfl r
          clear h1
          go_wp2_with fail
          go_roundw
          case rel => exact ⟨j + 1, FI.choose, by omega, by go_num, FI.choose_spec.1, FI.choose_spec.2.1, FI.choose_spec.2.2.1, FI.choose_spec.2.2.2.1, FI.choose_spec.2.2.2.2⟩
          case measure => simp [intOf]; omega
        · have i3 : (j : Int) + (X : Int) < (m4 : Int) := by omega
          obtain ⟨ad2, z, had, hcz, hz⟩ := ho5.rd.int (k := j + X) (by have := HQ.out; omega)
          obtain rfl : ad = ad2 := by injection had
          clear had
          have hfr := ho5.frozen rfl (j + X)
          have i4 : ((j : Int) + (X : Int)).toNat = j + X := by omega
          have i5 : (0 : Int) ≤ (j : Int) + (X : Int) := by omega
          have FI := FIN.out (j + X) z (by omega) hz.out _ rfl
          clear FIN
          have h1 := (ho5.seti rfl (k := j) (by have := HQ.out; omega) z).1
          obtain ⟨ad3, z3, had, hc3, _⟩ := h1.rd.int (k := (j + X)) (by rw [List.length_set]; have := HQ.out; omega)
          obtain rfl : ad = ad3 := by injection had
          clear had
          have hf3 := h1.frozen rfl (j + X)
          clear h1
          go_wp2_with fail
          go_roundw
          case rel => exact ⟨j + 1, FI.choose, by omega, by go_num, FI.choose_spec.1, FI.choose_spec.2.1, FI.choose_spec.2.2.1, FI.choose_spec.2.2.2.1, FI.choose_spec.2.2.2.2⟩
          case measure => simp [intOf]; omega
      · obtain rfl : m4 = j := by omega
        go_wp2_with fail
        refine (HO.out 14 (by omega) (by omega) _ hC).mono ?_
        rintro e w4 ⟨⟨b2, rfl⟩, hC4, hg4⟩
        have ho4 := ho.apart hg4 (fun k h1 h2 => ho.neg hgl (by rw [h1, h2]))
        replace hg4 := gb_trans hg hg4
        cases b2
        · go_wp2_with fail
          go_ret
          exact ⟨m4, by omega, qs, _, HQ.out, HR.out, rfl, ho4, hC4, hg4⟩
        · go_wp2_with fail
          refine (HB.out 3 (by omega) (by omega) _ hC4).mono ?_
          rintro e w5 ⟨x, rfl, hx0, hx1, hC5, hg5⟩
          obtain ⟨m, rfl⟩ := Int.eq_ofNat_of_zero_le hx0
          replace hg5 := gb_trans hg4 hg5
          go_wp2_with fail
          rw [show (23 : Int) + (m : Int) = ((23 + m : Nat) : Int) by omega]
          refine (HL.out (23 + m) (by omega) _ hC5).mono ?_
          rintro e w6 ⟨zs, vz, hzn, hzr, rfl, ho6, hC6, hg6⟩
          go_wp2_with fail
          go_ret
          exact ⟨23 + m, by omega, zs, _, hzn, hzr, rfl, ho6.mono hg5.size, hC6, gb_trans hg5 hg6⟩

set_option maxHeartbeats 1000000 in
theorem s_MakeNear (vb : Value) (xs : List Int) (hxb : ∀ x ∈ xs, 0 ≤ x ∧ x ≤ 255) (hl : xs.length ≤ 1048576) (n : Nat) (hn : n ≤ 1000) (w : World) (h : Rd w vb (bytesV xs)) :
    Calls Try.prog 36 #[vb, .int .i64 n] w fun e w' => ∃ (ys : List Int) (v : Value), ys.length ≤ 12 ∧ (∀ y ∈ ys, -3 ≤ y ∧ y ≤ 8) ∧ e = .returned v ∧ Rd w' v (ints ys) ∧ Below w.heap.size w w' := by
  have HN := Lib.hid (s_l31New vb xs hxb hl n hn w h)
  have HL := Lib.hid (fun (g : Nat) (wx : World) (hx : Cur wx g vb xs) => s_l25Draw g vb xs hxb wx hx)
  clear hxb
  go_enter Try.func36, Try.ntmps36
  go_wp2_with fail
  refine HN.out.mono ?_
  rintro e w1 ⟨g, rfl, hg, hC1, hb1⟩
  go_wp2_with fail
  refine (HL.out g _ hC1).mono ?_
  rintro e w2 ⟨m, hm, ys, vl, hyn, hyr, rfl, ho2, hC2, hg2⟩
  have hb2 := hb1.grown hg2 hb1.size (fun r hr => by cases hr; exact hg)
  obtain ⟨a, k, c, rfl, HK, hkc, hc⟩ := ho2.rd.formN
  have hkm : k = m := by have := HK.out; omega
  have HYN := Lib.hid hyn
  have HYR := Lib.hid hyr
  clear hyn hyr
  subst hkm
  by_cases h12 : (k : Int) ≤ 12
  · have h12' : k ≤ c := hkc
    go_wp2_with fail
    go_ret
    exact ⟨ys, _, by have := HYN.out; omega, HYR.out, rfl, ho2.rd, hb2⟩
  · have h12' : 12 ≤ k := by omega
    have hr := ho2.rd.take h12'
    go_wp2_with fail
    go_ret
    refine ⟨ys.take 12, _, by rw [List.length_take]; omega, fun y hy => HYR.out y (List.mem_of_mem_take hy), rfl, ?_, hb2⟩
    rw [ints_take] at hr
    exact hr

end Go.Proofs.Ytlbakbachcpifaa
