/- Walks: sizes and lists that are drawn. -/
import Derived.Test.YtnjdihbaofclbaaDraws
import Derived.Test.YtnjdihbaofclbaaApp
namespace Go.Proofs.Ytnjdihbaofclbaa
open Go.RowKit
set_option linter.unusedVariables false
set_option linter.unusedSimpArgs false

theorem Cur.turn {w w' : World} {g : Nat} {vb : Value} {xs : List Int} {row : Option Nat} (hC : Cur w g vb xs) (hg : w.grownBy w' row) (hne : row ≠ some g) (hrd : Rd w' vb (bytesV xs)) : Cur w' g vb xs := by
  obtain ⟨⟨i, hh, hi, c0, c1, c2, f1, f2⟩, _, hn⟩ := hC
  have hlt : g < w.heap.size := World.block_lt_of_cell? w _ c0
  have hb := hg.block g hlt (fun e => hne e.symm)
  exact ⟨⟨i, hh, hi, (World.cell?_of_block (w := w) (a := ⟨g, 0, none⟩) hb).trans c0, (World.cell?_of_block (w := w) (a := ⟨g, 1, none⟩) hb).trans c1, (World.cell?_of_block (w := w) (a := ⟨g, 2, none⟩) hb).trans c2, (World.frozen?_of_block (w := w) (a := ⟨g, 1, none⟩) hb).trans f1, (World.frozen?_of_block (w := w) (a := ⟨g, 2, none⟩) hb).trans f2⟩, hrd, hn⟩
theorem Cur.below {w w' : World} {g : Nat} {vb : Value} {xs : List Int} (hC : Cur w g vb xs) (hb : Below w.heap.size w w') : Cur w' g vb xs :=
  hC.turn (row := none) ⟨hb.os, hb.tape, hb.output, hb.size, fun i hi _ => hb.block i hi⟩ (by simp) (hC.rd.below hb)

set_option maxHeartbeats 1000000 in
theorem s_MakeSize (vb : Value) (xs : List Int) (hxb : ∀ x ∈ xs, 0 ≤ x ∧ x ≤ 255) (hl : xs.length ≤ 1048576) (n : Nat) (hn : n ≤ 1000) (lo hi : Int) (h0 : 0 ≤ lo) (h1 : lo ≤ hi) (h2 : hi ≤ 90) (w : World) (h : Rd w vb (bytesV xs)) :
    Calls Try.prog 40 #[vb, .int .i64 n, .int .i64 lo, .int .i64 hi] w fun e w' => ∃ x : Int, e = .returned (.int .i64 x) ∧ lo ≤ x ∧ x ≤ hi ∧ Below w.heap.size w w' := by
  have HN := Lib.hid (s_l31New vb xs hxb hl n hn w h)
  have HB := Lib.hid (fun (g : Nat) (wx : World) (hx : Cur wx g vb xs) => s_l01Below g vb xs hxb (hi - lo + 1) (by omega) (by omega) wx hx)
  go_enter Try.func40, Try.ntmps40
  go_wp2
  go_loopw [9, 10] (fun s k wr => ∃ j : Nat, lo + (j : Int) ≤ hi ∧ k = .int .i64 (lo + (j : Int)) ∧ s = .int .i64 (1 + (j : Int)) ∧ w = wr) (fun _ k _ => (hi - intOf k).toNat)
  case atStart => exact ⟨0, by omega, by simp, by simp, rfl⟩
  case round =>
    obtain ⟨j, hj, rfl, rfl, rfl⟩ := hrel
    by_cases hjh : lo + (j : Int) < hi
    · have i1 : 1 + (j : Int) < 100 := by omega
      go_wp2
      go_roundw
      case rel => exact ⟨j + 1, by omega, by go_num, by go_num, trivial⟩
      case measure => simp [intOf]; omega
    · have e : hi - lo + 1 = 1 + (j : Int) := by omega
      rw [e] at HB
      have hjx : lo + (j : Int) = hi := by omega
      go_wp2_with (first
        | (go_at_call 58; refine HN.out.mono ?_; rintro e w1 ⟨g, rfl, hg, hC1, hb1⟩)
        | (go_at_call 59; refine (HB.out g _ hC1).mono ?_; rintro e w2 ⟨x, rfl, hx0, hx1, hC2, hg2⟩))
      have hb2 := hb1.grown hg2 hb1.size (fun r hr => by cases hr; exact hg)
      go_loopw [11, 12] (fun o k wr => ∃ q : Nat, (q : Int) ≤ x ∧ k = .int .i64 q ∧ o = .int .i64 (lo + (x - (q : Int))) ∧ w2 = wr) (fun _ k _ => (intOf k).toNat)
      case atStart => exact ⟨x.toNat, by omega, by rw [Int.toNat_of_nonneg hx0], by rw [Int.toNat_of_nonneg hx0]; simp, rfl⟩
      case round =>
        obtain ⟨q, hq, rfl, rfl, rfl⟩ := hrel
        by_cases hq0 : 0 < q
        · obtain ⟨r, rfl⟩ : ∃ r, q = r + 1 := ⟨q - 1, by omega⟩
          go_wp2
          go_roundw
          case rel => exact ⟨r, by omega, by go_num, by congr 1; omega, trivial⟩
          case measure => simp [intOf]
        · obtain rfl : q = 0 := by omega
          go_wp2
          go_ret
          exact ⟨_, rfl, by omega, by omega, hb2⟩

set_option maxHeartbeats 1000000 in
theorem s_l01Pick (g : Nat) (vb : Value) (xs : List Int) (hxb : ∀ x ∈ xs, 0 ≤ x ∧ x ≤ 255) (vl : Value) (l : List Int) (hl1 : 1 ≤ l.length) (hl2 : l.length ≤ 1000) (w : World) (hC : Cur w g vb xs) (hr : Rd w vl (ints l)) (hne : vl.ownBlock ≠ some g) :
    Calls Try.prog 60 #[.pointer (some ⟨g, 0, none⟩), vl] w fun e w' => ∃ x, x ∈ l ∧ e = .returned (.int .i64 x) ∧ Cur w' g vb xs ∧ w.grownBy w' (some g) := by
  obtain ⟨a, m, c, rfl, HM, h2, h3⟩ := hr.formN
  have hm1 : 1 ≤ m := by have := HM.out; omega
  have hm2 : m ≤ 1000 := by have := HM.out; omega
  have HB := Lib.hid (s_l01Below g vb xs hxb (m : Int) (by omega) (by omega) w hC)
  go_enter Try.func60, Try.ntmps60
  go_wp2_with (go_at_call 59; refine HB.out.mono ?_; rintro e w2 ⟨x, rfl, hx0, hx1, hC2, hg2⟩; have hr2 := hr.grown hg2 (.inl hne); obtain ⟨k, rfl⟩ := Int.eq_ofNat_of_zero_le hx0; obtain ⟨ad, y, rfl, hcy, hy⟩ := hr2.int (k := k) (by have := HM.out; omega); have i1 : (k : Int) < (m : Int) := by omega)
  go_ret
  exact ⟨y, List.mem_of_getElem? hy.out, rfl, hC2, hg2⟩

set_option maxHeartbeats 2000000 in
theorem s_MakeDigits (vb : Value) (xs : List Int) (hxb : ∀ x ∈ xs, 0 ≤ x ∧ x ≤ 255) (hl : xs.length ≤ 1048576) (n : Nat) (hn : n ≤ 1000) (w : World) (h : Rd w vb (bytesV xs)) :
    Calls Try.prog 39 #[vb, .int .i64 n] w fun e w' => ∃ ys : List Int, ys.length ≤ 8 ∧ (∀ y ∈ ys, 0 ≤ y ∧ y ≤ 999999) ∧ RetOwn 3 (ints ys) w e w' := by
  have HN := Lib.hid (s_l31New vb xs hxb hl n hn w h)
  have HB9 := Lib.hid (fun (g : Nat) (wx : World) (hx : Cur wx g vb xs) => s_l01Below g vb xs hxb 9 (by omega) (by omega) wx hx)
  have HBB := Lib.hid (fun (g : Nat) (m : Int) (h1 : 1 ≤ m) (h2 : m ≤ 1000000) (wx : World) (hx : Cur wx g vb xs) => s_l01Below g vb xs hxb m h1 (by omega) wx hx)
  have HPK := Lib.hid (fun (g : Nat) (vl : Value) (wx : World) (hx : Cur wx g vb xs) (hr : Rd wx vl (ints [4, 30, 300, 1000000])) (hne : vl.ownBlock ≠ some g) => s_l01Pick g vb xs hxb vl [4, 30, 300, 1000000] (by simp) (by simp) wx hx hr hne)
  go_enter Try.func39, Try.ntmps39
  go_wp2_with (first
    | (go_at_call 58; refine HN.out.mono ?_; rintro e w1 ⟨g, rfl, hg, hC1, hb1⟩
       have hCL := hC1.below ((Below.refl _ _).alloc (Nat.le_refl _) (.cells #[] 3))
       have hbL := hb1.alloc hb1.size (.cells #[] 3)
       have hoL := Own.lit0 w1 3 hb1.size
       have hglt : g < w1.heap.size := by obtain ⟨_, _, _, c0, _⟩ := hC1.ex; exact World.block_lt_of_cell? _ _ c0)
    | (go_at_call 59; refine (HB9.out g _ hCL).mono ?_; rintro e w2 ⟨x, rfl, hx0, hx1, hC2, hg2⟩))
  have hne0 : (Value.slice (some ⟨w1.heap.size, 0, none⟩) 0 0).ownBlock ≠ some g := fun e => by have : w1.heap.size = g := Option.some.inj e; omega
  have ho2 := hoL.apart hg2 (fun k h1 h2 => hne0 (by rw [h1, h2]))
  have hb2 := hbL.grown hg2 hbL.size (fun r hr => by cases hr; exact hg)
  clear hCL hbL hoL hg2
  go_loopw [6, 7] (fun vl k wr => ∃ (q : Nat) (ys : List Int), k = .int .i64 q ∧ ys.length + q ≤ 8 ∧ Hid (∀ y ∈ ys, 0 ≤ y ∧ y ≤ 999999) ∧ Own wr 3 w.heap.size vl (ints ys) ∧ vl.ownBlock ≠ some g ∧ Cur wr g vb xs ∧ Below w.heap.size w wr) (fun _ k _ => (intOf k).toNat)
  case atStart => exact ⟨x.toNat, [], by rw [Int.toNat_of_nonneg hx0], by simp; omega, (fun y hy => by cases hy), ho2, hne0, hC2, hb2⟩
  case round =>
    clear ho2 hne0 hC2 hb2
    obtain ⟨q, ys, rfl, hq, HY, ho, hne, hC, hb⟩ := hrel
    by_cases hq0 : 0 < q
    · obtain ⟨r, rfl⟩ : ∃ r, q = r + 1 := ⟨q - 1, by omega⟩
      have hgw : g < wr.heap.size := by obtain ⟨_, _, _, c0, _⟩ := hC.ex; exact World.block_lt_of_cell? _ _ c0
      have hbA : Below wr.heap.size wr (wr.alloc (.cells #[.int .i64 4, .int .i64 30, .int .i64 300, .int .i64 1000000] 3)) := (Below.refl _ _).alloc (Nat.le_refl _) _
      have hCA := hC.below hbA
      have hoA := ho.below hbA
      have hbB := hb.trans (hbA.mono hb.size)
      have hlit : Rd (wr.alloc (.cells #[.int .i64 4, .int .i64 30, .int .i64 300, .int .i64 1000000] 3)) (.slice (some ⟨wr.heap.size, 0, none⟩) 4 4) (ints [4, 30, 300, 1000000]) := by
        have := (Own.lit wr 3 wr.heap.size #[.int .i64 4, .int .i64 30, .int .i64 300, .int .i64 1000000] (Nat.le_refl _) (by simp)).rd
        simpa [ints] using this
      have hneL : (Value.slice (some ⟨wr.heap.size, 0, none⟩) 4 4).ownBlock ≠ some g := fun e => by have : wr.heap.size = g := Option.some.inj e; omega
      have HYL : Hid ((ints ys).length = ys.length) := ints_length ys
      obtain ⟨al, ml, cl, rfl, HML, _, _⟩ := ho.rd.formN
      have hml : ml ≤ 8 := by have := HML.out; omega
      have HYM : Hid ((ints ys).length = ml) := by rw [Hid, ints_length, HML.out]
      go_wp2_with (first
        | (go_at_call 60; refine (HPK.out g _ _ hCA hlit hneL).mono ?_; rintro e w3 ⟨m, hm, rfl, hC3, hg3⟩
           have hm1 : 1 ≤ m ∧ m ≤ 1000000 := by simp only [List.mem_cons, List.not_mem_nil, or_false] at hm; omega
           have ho3 := hoA.apart hg3 (fun k h1 h2 => hne (by rw [h1, h2]))
           have hb3 := hbB.grown hg3 hbB.size (fun r hr => by cases hr; exact hg))
        | (go_at_call 59; refine (HBB.out g m hm1.1 hm1.2 _ hC3).mono ?_; rintro e w4 ⟨y, rfl, hy0, hy1, hC4, hg4⟩
           have ho4 := ho3.apart hg4 (fun k h1 h2 => hne (by rw [h1, h2]))
           have hb4 := hb3.grown hg4 hb3.size (fun r hr => by cases hr; exact hg))
        | (at_builtin; refine wpList_app1m rfl _ _ 26 rfl elI rfl ho4 (by show Value.slice (some ⟨w4.heap.size, 0, none⟩) 1 1 = _; simp) rfl hb4.size _ HYM.out (by omega) (by omega) ?_; intro b6 c6 w6 ho6 hg6 hat6))
      have hgw4 : g < w4.heap.size := by obtain ⟨_, _, _, c0, _⟩ := hC4.ex; exact World.block_lt_of_cell? _ _ c0
      have hb6 := hb4.grown hg6 hb4.size (fun r hr => (ho4.lt r hr).1)
      have hC6 := hC4.turn hg6 hne (h.below hb6)
      have hne6 : (Value.slice b6 (ml + 1) c6).ownBlock ≠ some g := fun e => by
        rcases hat6 with e2 | ⟨k, hk, e2⟩
        · exact hne (e2 ▸ e)
        · rw [e2] at e
          cases e
          omega
      go_roundw
      case rel => exact ⟨r, ys ++ [y], by go_num, by simp; omega, (fun z hz => by
        rcases List.mem_append.1 hz with hz | hz
        · exact HY.out z hz
        · rw [List.mem_singleton] at hz
          subst hz
          omega), by rw [ints_append]; exact ho6, hne6, hC6, hb6⟩
      case measure => simp [intOf]
    · obtain rfl : q = 0 := by omega
      go_wp2
      go_ret
      exact ⟨ys, by omega, HY.out, _, rfl, ho, hb⟩

end Go.Proofs.Ytnjdihbaofclbaa
