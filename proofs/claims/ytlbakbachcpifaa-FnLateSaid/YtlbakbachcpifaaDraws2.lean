/- Walks: sizes and lists that are drawn. -/
import Derived.Test.YtlbakbachcpifaaDraws
import Derived.Test.YtlbakbachcpifaaApp
namespace Go.Proofs.Ytlbakbachcpifaa
open Go.RowKit
set_option linter.unusedVariables false
set_option linter.unusedSimpArgs false

theorem Cur.turn {w w' : World} {g : Nat} {vb : Value} {xs : List Int} {row : Option Nat} (hC : Cur w g vb xs) (hg : w.grownBy w' row) (hne : row ≠ some g) (hrd : Rd w' vb (bytesV xs)) : Cur w' g vb xs := by
  obtain ⟨⟨i, hh, hi, c0, c1, c2, f1, f2⟩, _, hn⟩ := hC
  have hlt : g < w.heap.size := World.block_lt_of_cell? w _ c0
  have hb := hg.block g hlt (fun e => hne e.symm)
  exact ⟨⟨i, hh, hi, (World.cell?_of_block (w := w) (a := ⟨g, 0, none⟩) hb).trans c0, (World.cell?_of_block (w := w) (a := ⟨g, 1, none⟩) hb).trans c1, (World.cell?_of_block (w := w) (a := ⟨g, 2, none⟩) hb).trans c2, (World.frozen?_of_block (w := w) (a := ⟨g, 1, none⟩) hb).trans f1, (World.frozen?_of_block (w := w) (a := ⟨g, 2, none⟩) hb).trans f2⟩, hrd, hn⟩
theorem Cur.below {w w' : World} {g : Nat} {vb : Value} {xs : List Int} (hC : Cur w g vb xs) (hb : Below w.heap.size w w') : Cur w' g vb xs :=
  hC.turn (row := none) ⟨hb.os, hb.tape, hb.output, hb.size, fun i hi _ => hb.block i hi⟩ (by simp) (hC.rd.below hb)

set_option maxHeartbeats 1000000 in
theorem s_MakeSize (vb : Value) (xs : List Int) (hxb : ∀ x ∈ xs, 0 ≤ x ∧ x ≤ 255) (hl : xs.length ≤ 1048576) (n : Nat) (hn : n ≤ 1000) (lo hi : Int) (h0 : 0 ≤ lo) (h1 : lo ≤ hi) (h2 : hi ≤ 90) (w : World) (h : Rd w vb (bytesV xs)) :
    Calls Try.prog 19 #[vb, .int .i64 n, .int .i64 lo, .int .i64 hi] w fun e w' => ∃ x : Int, e = .returned (.int .i64 x) ∧ lo ≤ x ∧ x ≤ hi ∧ Below w.heap.size w w' := by
  have HN := Lib.hid (s_l31New vb xs hxb hl n hn w h)
  have HB := Lib.hid (fun (g : Nat) (wx : World) (hx : Cur wx g vb xs) => s_l01Below g vb xs hxb (hi - lo + 1) (by omega) (by omega) wx hx)
  go_enter Try.func19, Try.ntmps19
  go_wp2
  go_loopw [9, 10] (fun s k wr => ∃ j : Nat, lo + (j : Int) ≤ hi ∧ k = .int .i64 (lo + (j : Int)) ∧ s = .int .i64 (1 + (j : Int)) ∧ w = wr) (fun _ k _ => (hi - intOf k).toNat)
  case atStart => exact ⟨0, by omega, by simp, by simp, rfl⟩
  case round =>
    obtain ⟨j, hj, rfl, rfl, rfl⟩ := hrel
    by_cases hjh : lo + (j : Int) < hi
    · have i1 : 1 + (j : Int) < 100 := by omega
      go_wp2
      go_roundw
      case rel => exact ⟨j + 1, by omega, by go_num, by go_num, trivial⟩
      case measure => simp [intOf]; omega
    · have e : hi - lo + 1 = 1 + (j : Int) := by omega
      rw [e] at HB
      have hjx : lo + (j : Int) = hi := by omega
      go_wp2_with (first
        | (go_at_call 53; refine HN.out.mono ?_; rintro e w1 ⟨g, rfl, hg, hC1, hb1⟩)
        | (go_at_call 54; refine (HB.out g _ hC1).mono ?_; rintro e w2 ⟨x, rfl, hx0, hx1, hC2, hg2⟩))
      have hb2 := hb1.grown hg2 hb1.size (fun r hr => by cases hr; exact hg)
      go_loopw [11, 12] (fun o k wr => ∃ q : Nat, (q : Int) ≤ x ∧ k = .int .i64 q ∧ o = .int .i64 (lo + (x - (q : Int))) ∧ w2 = wr) (fun _ k _ => (intOf k).toNat)
      case atStart => exact ⟨x.toNat, by omega, by rw [Int.toNat_of_nonneg hx0], by rw [Int.toNat_of_nonneg hx0]; simp, rfl⟩
      case round =>
        obtain ⟨q, hq, rfl, rfl, rfl⟩ := hrel
        by_cases hq0 : 0 < q
        · obtain ⟨r, rfl⟩ : ∃ r, q = r + 1 := ⟨q - 1, by omega⟩
          go_wp2
          go_roundw
          case rel => exact ⟨r, by omega, by go_num, by congr 1; omega, trivial⟩
          case measure => simp [intOf]
        · obtain rfl : q = 0 := by omega
          go_wp2
          go_ret
          exact ⟨_, rfl, by omega, by omega, hb2⟩

set_option maxHeartbeats 1000000 in
theorem s_l01Pick (g : Nat) (vb : Value) (xs : List Int) (hxb : ∀ x ∈ xs, 0 ≤ x ∧ x ≤ 255) (vl : Value) (l : List Int) (hl1 : 1 ≤ l.length) (hl2 : l.length ≤ 1000) (w : World) (hC : Cur w g vb xs) (hr : Rd w vl (ints l)) (hne : vl.ownBlock ≠ some g) :
    Calls Try.prog 70 #[.pointer (some ⟨g, 0, none⟩), vl] w fun e w' => ∃ x, x ∈ l ∧ e = .returned (.int .i64 x) ∧ Cur w' g vb xs ∧ w.grownBy w' (some g) := by
  obtain ⟨a, m, c, rfl, HM, h2, h3⟩ := hr.formN
  have hm1 : 1 ≤ m := by have := HM.out; omega
  have hm2 : m ≤ 1000 := by have := HM.out; omega
  have HB := Lib.hid (s_l01Below g vb xs hxb (m : Int) (by omega) (by omega) w hC)
  go_enter Try.func70, Try.ntmps70
  go_wp2_with (go_at_call 54; refine HB.out.mono ?_; rintro e w2 ⟨x, rfl, hx0, hx1, hC2, hg2⟩; have hr2 := hr.grown hg2 (.inl hne); obtain ⟨k, rfl⟩ := Int.eq_ofNat_of_zero_le hx0; obtain ⟨ad, y, rfl, hcy, hy⟩ := hr2.int (k := k) (by have := HM.out; omega); have i1 : (k : Int) < (m : Int) := by omega)
  go_ret
  exact ⟨y, List.mem_of_getElem? hy.out, rfl, hC2, hg2⟩

end Go.Proofs.Ytlbakbachcpifaa
