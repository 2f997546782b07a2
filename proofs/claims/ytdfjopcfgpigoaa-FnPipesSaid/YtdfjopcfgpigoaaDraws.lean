/- Walks: draws of the laws. -/
import Derived.Test.YtdfjopcfgpigoaaSlicesWalks
import Derived.Laws.BitsAllLaws
import Derived.Laws.BitsLemmas
import Derived.BigQuiet
import Derived.Deep.QuietTactic
namespace Go.Proofs.Ytdfjopcfgpigoaa
open Go.RowKit
set_option linter.unusedVariables false
set_option linter.unusedSimpArgs false

theorem and255 (x : Int) : 0 ≤ bits .and .i64 x 255 ∧ bits .and .i64 x 255 ≤ 255 := by
  have h1 : ((BitVec.ofInt 64 x).toNat &&& 255) ≤ 255 := Nat.and_le_right
  have h2 : bits .and .i64 x 255 = (((BitVec.ofInt 64 x).toNat &&& 255 : Nat) : Int) := by
    have e : (BitVec.ofInt 64 255).toNat = 255 := by decide
    have e2 : (BitVec.ofInt 64 x &&& BitVec.ofInt 64 255).toNat = (BitVec.ofInt 64 x).toNat &&& 255 := by rw [BitVec.toNat_and, e]
    show IntKind.i64.wrap (((BitVec.ofInt 64 x &&& BitVec.ofInt 64 255).toNat : Nat) : Int) = _
    rw [e2]
    exact IntWalk.i64_in _ (by omega)
  rw [h2]
  omega
def bytesV (xs : List Int) : List Value := xs.map (Value.int .u8)
/-- A cursor that draws: what is drawn from, the place, the hash. -/
structure Cur (w : World) (g : Nat) (vb : Value) (xs : List Int) : Prop where
  ex : ∃ (i : Nat) (h : Int), i ≤ xs.length ∧ w.cell? ⟨g, 0, none⟩ = some vb ∧ w.cell? ⟨g, 1, none⟩ = some (.int .i64 i) ∧ w.cell? ⟨g, 2, none⟩ = some (.int .i64 h) ∧ w.frozen? ⟨g, 1, none⟩ = false ∧ w.frozen? ⟨g, 2, none⟩ = false
  rd : Rd w vb (bytesV xs)
  ne : xs = [] ∨ vb.ownBlock ≠ some g

theorem Rd.setB {w : World} {v : Value} {xs : List Int} (h : Rd w v (bytesV xs)) {p : Addr} (hne : xs = [] ∨ v.ownBlock ≠ some p.block) (u : Value) : Rd (w.setCell p u) v (bytesV xs) := by
  rcases hne with rfl | hne
  · obtain ⟨a, c, e, h2, h3, _⟩ := h
    exact ⟨a, c, e, h2, h3, fun h => absurd h (by simp [bytesV])⟩
  · exact h.setCell hne u
theorem Cur.drewN {w : World} {g : Nat} {vb : Value} {xs : List Int} (h : Cur w g vb xs) (n : Nat) : Cur (w.drewN n) g vb xs := ⟨h.ex, h.rd.drewN n, h.ne⟩
theorem Cur.hash {w : World} {g : Nat} {vb : Value} {xs : List Int} (hC : Cur w g vb xs) (H : Int) : Cur (w.setCell ⟨g, 2, none⟩ (.int .i64 H)) g vb xs ∧ w.grownBy (w.setCell ⟨g, 2, none⟩ (.int .i64 H)) (some g) := by
  obtain ⟨⟨i, hh, hi, c0, c1, c2, f1, f2⟩, hrd, hne⟩ := hC
  exact ⟨⟨⟨i, H, hi, by go_simp, by go_simp, by go_simp, by go_simp, by go_simp⟩, hrd.setB hne _, hne⟩, ⟨rfl, rfl, rfl, by simp, fun k _ hk => heap_setCell_other w ⟨g, 2, none⟩ k _ (fun e => hk (by rw [e]))⟩⟩
theorem Cur.place {w : World} {g : Nat} {vb : Value} {xs : List Int} (hC : Cur w g vb xs) (j : Nat) (hj : j ≤ xs.length) : Cur (w.setCell ⟨g, 1, none⟩ (.int .i64 j)) g vb xs ∧ w.grownBy (w.setCell ⟨g, 1, none⟩ (.int .i64 j)) (some g) := by
  obtain ⟨⟨i, hh, hi, c0, c1, c2, f1, f2⟩, hrd, hne⟩ := hC
  exact ⟨⟨⟨j, hh, hj, by go_simp, by go_simp, by go_simp, by go_simp, by go_simp⟩, hrd.setB hne _, hne⟩, ⟨rfl, rfl, rfl, by simp, fun k _ hk => heap_setCell_other w ⟨g, 1, none⟩ k _ (fun e => hk (by rw [e]))⟩⟩
theorem Rd.formB {w : World} {v : Value} {xs : List Int} (h : Rd w v (bytesV xs)) : ∃ (a : Option Addr) (m c : Nat), v = .slice a m c ∧ Hid (m = xs.length) ∧ m ≤ c ∧ c ≤ 9223372036854775807 := by
  obtain ⟨a, c, e, h2, h3⟩ := h.form
  simp only [bytesV, List.length_map] at e h2
  exact ⟨a, _, c, e, rfl, h2, h3⟩
theorem gb_trans {w w1 w2 : World} {r : Option Nat} (h : w.grownBy w1 r) (k : w1.grownBy w2 r) : w.grownBy w2 r :=
  ⟨k.os.trans h.os, k.tape.trans h.tape, k.output.trans h.output, Nat.le_trans h.size k.size, fun i hi hne => (k.block i (Nat.lt_of_lt_of_le hi h.size) hne).trans (h.block i hi hne)⟩
theorem gb_drewN {w w1 : World} {r : Option Nat} (h : w.grownBy w1 r) (n : Nat) : w.grownBy (w1.drewN n) r := ⟨h.os, h.tape, h.output, h.size, h.block⟩
/-- A draw: a number from lo to hi, and but for the cursor nothing that existed has turned. -/
def RetD (lo hi : Int) (g : Nat) (vb : Value) (xs : List Int) (w : World) (e : Ending) (w' : World) : Prop :=
  ∃ x, e = .returned (.int .i64 x) ∧ lo ≤ x ∧ x ≤ hi ∧ Cur w' g vb xs ∧ w.grownBy w' (some g)

set_option maxRecDepth 100000 in
set_option maxHeartbeats 4000000 in
theorem s_l01Byte (g : Nat) (vb : Value) (xs : List Int) (hxb : ∀ x ∈ xs, 0 ≤ x ∧ x ≤ 255) (w : World) (hC : Cur w g vb xs) :
    Calls Try.prog 76 #[.pointer (some ⟨g, 0, none⟩)] w (RetD 0 255 g vb xs w) := by
  obtain ⟨ab, n, cb, rfl, hn, hn1, hn2⟩ := hC.rd.formB
  have HC1 := Lib.hid (fun H => hC.hash H)
  have HXB := Lib.hid hxb
  clear hxb
  obtain ⟨⟨i0, hh, hi0, c0, c1, c2, f1, f2⟩, hrd, hne⟩ := hC
  go_enter Try.func76, Try.ntmps76
  go_wp2
  obtain ⟨H, hH⟩ : ∃ H, wrap64 (wrap64 (hh * 6364136223846793005) + 1442695040888963407) = H := ⟨_, rfl⟩
  rw [hH]
  obtain ⟨hC1, hg1⟩ := HC1.out H
  obtain ⟨w1, hw1⟩ : ∃ w1, w.setCell ⟨g, 2, none⟩ (.int .i64 H) = w1 := ⟨_, rfl⟩
  rw [hw1] at hC1 hg1 ⊢
  clear hw1 hH HC1 c0 c1 c2 f1 f2 hrd hne hi0
  obtain ⟨⟨i, hh1, hi, c0, c1, c2, f1, f2⟩, hrd, hne⟩ := hC1
  go_quiet (fail)
  rename_i nq
  obtain ⟨x0, hx0⟩ : ∃ x0, bits BinOp.and .i64 (bits BinOp.xor .i64 (hh1 / 8589934592) (hh1 / 35184372088832)) 255 = x0 := ⟨_, rfl⟩
  have hx0b := and255 (bits BinOp.xor .i64 (hh1 / 8589934592) (hh1 / 35184372088832))
  rw [hx0] at hx0b ⊢
  obtain ⟨w2, hw2⟩ : ∃ w2, w1.drewN nq = w2 := ⟨_, rfl⟩
  have hC2 : Cur (w1.drewN nq) g _ xs := Cur.drewN ⟨⟨i, hh1, hi, c0, c1, c2, f1, f2⟩, hrd, hne⟩ nq
  have hg2 := gb_drewN hg1 nq
  rw [hw2] at hC2 hg2 ⊢
  clear hw2 hx0 c0 c1 c2 f1 f2 hrd hne hi hg1
  obtain ⟨⟨i, hh2, hi, c0, c1, c2, f1, f2⟩, hrd, hne⟩ := hC2
  have hC3 : Hid (∀ k, Cur (w2.drewN k) g (.slice ab n cb) xs ∧ w.grownBy (w2.drewN k) (some g)) := fun k => ⟨Cur.drewN ⟨⟨i, hh2, hi, c0, c1, c2, f1, f2⟩, hrd, hne⟩ k, gb_drewN hg2 k⟩
  have fin : Hid (∀ k wz, wz = w2.drewN k → i + 1 ≤ xs.length → Cur (wz.setCell ⟨g, 1, none⟩ (.int .i64 ((i : Int) + 1))) g (.slice ab n cb) xs ∧ w.grownBy (wz.setCell ⟨g, 1, none⟩ (.int .i64 ((i : Int) + 1))) (some g)) := fun k wz e hl => by
    subst e
    obtain ⟨h1, h2⟩ := (hC3.out k).1.place (i + 1) hl
    rw [show (((i + 1 : Nat) : Int)) = (i : Int) + 1 by simp] at h1 h2
    exact ⟨h1, gb_trans (hC3.out k).2 h2⟩
  by_cases hin : i < n
  · have hin' : (i : Int) < (n : Int) := by omega
    obtain ⟨ad, had, hcb⟩ := hrd.cell (k := i) (by simp only [bytesV, List.length_map]; have := hn.out; omega)
    subst had
    obtain ⟨y, hy, hy0⟩ : ∃ y, (bytesV xs)[i]'(by simp only [bytesV, List.length_map]; have := hn.out; omega) = .int .u8 y ∧ 0 ≤ y ∧ y ≤ 255 := by
      refine ⟨xs[i]'(by have := hn.out; omega), by simp [bytesV], HXB.out _ (List.getElem_mem _)⟩
    rw [hy] at hcb
    clear hy
    go_wp2
    go_quiet (fail)
    go_wp2
    go_quiet (fail)
    obtain ⟨x1, hx1⟩ : ∃ x1, bits BinOp.and .i64 (x0 + y) 255 = x1 := ⟨_, rfl⟩
    have hx1b := and255 (x0 + y)
    rw [hx1] at hx1b ⊢
    go_wp2
    go_ret
    have hl2 : i + 1 ≤ xs.length := by have := hn.out; omega
    first
      | exact ⟨x1, rfl, hx1b.1, hx1b.2, (fin.out _ _ rfl hl2).1, (fin.out _ _ rfl hl2).2⟩
      | exact ⟨x1, rfl, hx1b.1, hx1b.2, (fin.out _ _ (World.drewN_drewN _ _ _) hl2).1, (fin.out _ _ (World.drewN_drewN _ _ _) hl2).2⟩
  · have hin' : ¬ (i : Int) < (n : Int) := by omega
    go_wp2
    go_quiet (fail)
    go_wp2
    go_ret
    exact ⟨x0, rfl, hx0b.1, hx0b.2, (hC3.out _).1, (hC3.out _).2⟩

set_option maxRecDepth 100000 in
set_option maxHeartbeats 2000000 in
theorem s_l01Below (g : Nat) (vb : Value) (xs : List Int) (hxb : ∀ x ∈ xs, 0 ≤ x ∧ x ≤ 255) (n : Int) (hn1 : 1 ≤ n) (hn2 : n ≤ 1000000000) (w : World) (hC : Cur w g vb xs) :
    Calls Try.prog 66 #[.pointer (some ⟨g, 0, none⟩), .int .i64 n] w (RetD 0 (n - 1) g vb xs w) := by
  have HB := Lib.hid (fun (wx : World) (hx : Cur wx g vb xs) => s_l01Byte g vb xs hxb wx hx)
  have h0 : ¬ n ≤ 0 := by omega
  by_cases h1 : n ≤ 256
  · go_enter Try.func66, Try.ntmps66
    go_wp2_with (go_at_call 76; refine (HB.out _ hC).mono ?_; rintro e w1 ⟨x, rfl, hx0, hx1, hC1, hg1⟩)
    go_ret
    exact ⟨_, rfl, Int.emod_nonneg _ (by omega), by have := Int.emod_lt_of_pos x (show 0 < n by omega); omega, hC1, hg1⟩
  · go_enter Try.func66, Try.ntmps66
    go_wp2_with (first
      | (go_at_call 76; with_reducible refine (HB.out _ hC4).mono ?_; fail)
      | (go_at_call 76; ((with_reducible refine (HB.out _ hC3).mono ?_); rintro e w4 ⟨x4, rfl, hx40, hx41, hC4, hg4⟩))
      | (go_at_call 76; ((with_reducible refine (HB.out _ hC2).mono ?_); rintro e w3 ⟨x3, rfl, hx30, hx31, hC3, hg3⟩))
      | (go_at_call 76; ((with_reducible refine (HB.out _ hC1).mono ?_); rintro e w2 ⟨x2, rfl, hx20, hx21, hC2, hg2⟩))
      | (go_at_call 76; ((with_reducible refine (HB.out _ hC).mono ?_); rintro e w1 ⟨x1, rfl, hx10, hx11, hC1, hg1⟩)))
    go_ret
    exact ⟨_, rfl, Int.emod_nonneg _ (by omega), by have := Int.emod_lt_of_pos (x1 * 16777216 + x2 * 65536 + x3 * 256 + x4) (show 0 < n by omega); omega, hC4, gb_trans (gb_trans (gb_trans hg1 hg2) hg3) hg4⟩

theorem and30 (x : Int) : 0 ≤ bits .and .i64 x 1073741823 ∧ bits .and .i64 x 1073741823 ≤ 1073741823 := by
  have h1 : ((BitVec.ofInt 64 x).toNat &&& 1073741823) ≤ 1073741823 := Nat.and_le_right
  have h2 : bits .and .i64 x 1073741823 = (((BitVec.ofInt 64 x).toNat &&& 1073741823 : Nat) : Int) := by
    have e : (BitVec.ofInt 64 1073741823).toNat = 1073741823 := by decide
    have e2 : (BitVec.ofInt 64 x &&& BitVec.ofInt 64 1073741823).toNat = (BitVec.ofInt 64 x).toNat &&& 1073741823 := by rw [BitVec.toNat_and, e]
    show IntKind.i64.wrap (((BitVec.ofInt 64 x &&& BitVec.ofInt 64 1073741823).toNat : Nat) : Int) = _
    rw [e2]
    exact IntWalk.i64_in _ (by omega)
  rw [h2]
  omega
/-- A new cursor is returned; nothing that existed has turned. -/
def RetCur (vb : Value) (xs : List Int) (w : World) (e : Ending) (w' : World) : Prop :=
  ∃ g, e = .returned (.pointer (some ⟨g, 0, none⟩)) ∧ w.heap.size ≤ g ∧ Cur w' g vb xs ∧ Below w.heap.size w w'
set_option maxRecDepth 100000 in
set_option maxHeartbeats 2000000 in
theorem s_l01New (vb : Value) (xs : List Int) (hxb : ∀ x ∈ xs, 0 ≤ x ∧ x ≤ 255) (hl : xs.length ≤ 1048576) (w : World) (h : Rd w vb (bytesV xs)) :
    Calls Try.prog 75 #[vb] w (RetCur vb xs w) := by
  obtain ⟨ab, n, cb, rfl, hn, hn1, hn2⟩ := h.formB
  have HXB := Lib.hid hxb
  clear hxb
  have hnl : n ≤ 1048576 := by have := hn.out; omega
  have hblk : ∀ k, (Value.slice ab n cb).ownBlock = some k → k < w.heap.size ∨ n = 0 := fun k hk => by
    by_cases h0 : n = 0
    · exact .inr h0
    · obtain ⟨ad, had, hc⟩ := h.cell (k := 0) (by simp only [bytesV, List.length_map]; have := hn.out; omega)
      subst had
      have := World.block_lt_of_cell? w _ hc
      rw [block_of_add] at this
      have e : ad.block = k := Option.some.inj hk
      exact .inl (by omega)
  go_enter Try.func75, Try.ntmps75
  go_wp2
  go_loopw [3, 4] (fun hh i wr => ∃ (j : Nat) (q : Int), j ≤ n ∧ i = .int .i64 j ∧ hh = .int .i64 q ∧ 0 ≤ q ∧ q ≤ 1073741823 ∧ w = wr) (fun _ i _ => n - (intOf i).toNat)
  case atStart => exact ⟨0, _, Nat.zero_le _, rfl, rfl, by omega, by omega, rfl⟩
  case round =>
    obtain ⟨j, q, hj, rfl, rfl, hq0, hq1, rfl⟩ := hrel
    by_cases hjn : j < n ∧ j < 4000
    · have i1 : (j : Int) < (n : Int) := by omega
      have i2 : (j : Int) < 4000 := by omega
      have i3 : j < n := hjn.1
      have i4 : j < 4000 := hjn.2
      obtain ⟨ad, had, hcb⟩ := h.cell (k := j) (by simp only [bytesV, List.length_map]; have := hn.out; omega)
      subst had
      obtain ⟨y, hy, hy0⟩ : ∃ y, (bytesV xs)[j]'(by simp only [bytesV, List.length_map]; have := hn.out; omega) = .int .u8 y ∧ 0 ≤ y ∧ y ≤ 255 := by
        refine ⟨xs[j]'(by have := hn.out; omega), by simp [bytesV], HXB.out _ (List.getElem_mem _)⟩
      rw [hy] at hcb
      clear hy
      go_wp2
      go_roundw
      case rel => exact ⟨j + 1, _, by omega, by go_num, rfl, (and30 _).1, (and30 _).2, trivial⟩
      case measure => simp [intOf]; omega
    · have hd : (decide ((j : Int) < (n : Int)) && decide ((j : Int) < 4000)) = false := by
        rw [Bool.and_eq_false_iff]
        simp
        omega
      by_cases hjn2 : j < n
      · have i3 : ¬ j < 4000 := fun h => hjn ⟨hjn2, h⟩
        have i2 : ¬ (j : Int) < 4000 := by omega
        go_wp2
        go_ret
        refine ⟨w.heap.size, rfl, Nat.le_refl _, ⟨⟨0, q, Nat.zero_le _, by go_simp, by go_simp, by go_simp, by go_simp, by go_simp⟩, h.alloc _, ?_⟩, (Below.refl _ _).alloc (Nat.le_refl _) _⟩
        by_cases hx0 : n = 0
        · exact .inl (List.eq_nil_of_length_eq_zero (by have := hn.out; omega))
        · refine .inr (fun e => ?_)
          rcases hblk _ e with e | e <;> omega
      · have i2 : ¬ (j : Int) < (n : Int) := by omega
        go_wp2
        go_ret
        refine ⟨w.heap.size, rfl, Nat.le_refl _, ⟨⟨0, q, Nat.zero_le _, by go_simp, by go_simp, by go_simp, by go_simp, by go_simp⟩, h.alloc _, ?_⟩, (Below.refl _ _).alloc (Nat.le_refl _) _⟩
        by_cases hx0 : n = 0
        · exact .inl (List.eq_nil_of_length_eq_zero (by have := hn.out; omega))
        · refine .inr (fun e => ?_)
          rcases hblk _ e with e | e <;> omega

set_option maxHeartbeats 1000000 in
theorem s_l31New (vb : Value) (xs : List Int) (hxb : ∀ x ∈ xs, 0 ≤ x ∧ x ≤ 255) (hl : xs.length ≤ 1048576) (n : Nat) (hn : n ≤ 1000) (w : World) (h : Rd w vb (bytesV xs)) :
    Calls Try.prog 64 #[vb, .int .i64 n] w (RetCur vb xs w) := by
  have HN := Lib.hid (s_l01New vb xs hxb hl w h)
  have HB := Lib.hid (fun (g : Nat) (wx : World) (hx : Cur wx g vb xs) => s_l01Byte g vb xs hxb wx hx)
  go_enter Try.func64, Try.ntmps64
  go_wp2_with (go_at_call 75; refine HN.out.mono ?_; rintro e w1 ⟨g, rfl, hg, hC1, hb1⟩)
  go_loopw [6] (fun i wr => ∃ j : Nat, j ≤ n ∧ i = .int .i64 j ∧ Cur wr g vb xs ∧ Below w.heap.size w wr) (fun i _ => n - (intOf i).toNat)
  case atStart => exact ⟨0, Nat.zero_le _, rfl, hC1, hb1⟩
  case round =>
    clear hC1 hb1
    obtain ⟨j, hj, rfl, hC, hb⟩ := hrel
    by_cases hjn : j < n
    · have i1 : (j : Int) < (n : Int) := by omega
      go_wp2_with (go_at_call 76; refine (HB.out g _ hC).mono ?_; rintro e w2 ⟨x, rfl, _, _, hC2, hg2⟩)
      go_roundw
      case rel => exact ⟨j + 1, by omega, by go_num, hC2, hb.grown hg2 hb.size (fun r hr => by cases hr; exact hg)⟩
      case measure => simp [intOf]; omega
    · obtain rfl : n = j := by omega
      go_wp2
      go_ret
      exact ⟨g, rfl, hg, hC, hb⟩

end Go.Proofs.Ytdfjopcfgpigoaa
