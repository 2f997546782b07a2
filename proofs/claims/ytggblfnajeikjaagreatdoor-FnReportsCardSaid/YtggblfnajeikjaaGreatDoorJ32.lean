/- Joined texts of the proof: DrawsD. -/
import Derived.WalkKit
import Derived.WalkSpells
import Derived.WalkLawsBesides
import Derived.Deep.Draws
import Derived.Lib.Hide
import Derived.RegionTactic
import Derived.Test.YtggblfnajeikjaaGreatDoorRows
import Derived.BigQuiet
import Derived.Deep.QuietTactic
import Derived.Deep.RegionLaw
import Derived.Deep.DeepCutAuto
import Derived.Deep.LoopGhost
import Derived.Deep.RegionHeld3
import Derived.IntWalk
import Derived.Laws.BitsAllLaws
import Derived.Laws.BitsLemmas
import Derived.Test.YtggblfnajeikjaaGreatDoorJ1
import Derived.Test.YtggblfnajeikjaaGreatDoorJ2
import Derived.Test.YtggblfnajeikjaaGreatDoorJ6
import Derived.Test.YtggblfnajeikjaaGreatDoorJ7
import Derived.Test.YtggblfnajeikjaaGreatDoorJ10
import Derived.Test.YtggblfnajeikjaaGreatDoorJ15
import Derived.Test.YtggblfnajeikjaaGreatDoorJ22
import Derived.Test.YtggblfnajeikjaaGreatDoorJ23
namespace Go.Proofs.YtggblfnajeikjaaGreatDoor
open Go.RowKit
set_option linter.unusedVariables false
set_option linter.unusedSimpArgs false

theorem s_l07N (n : Int) (w : World) : Calls Tryz.prog 111 #[.int .i64 n] w fun e w' => e = .returned (.bool (inB n 1 8)) ∧ w = w' := by
  have H := Lib.hid (s_l01In n 1 8 w)
  generalize inB n 1 8 = b at H ⊢
  go_enter Tryz.func111, Tryz.ntmps111
  go_wp2_with (go_at_call 175; refine H.out.mono ?_; rintro e w' ⟨rfl, rfl⟩)
  go_ret
  exact ⟨rfl, rfl⟩

/-- A network, and true. -/
def RetNetB (n : Int) (xss : List (List Int)) (w : World) (e : Ending) (w' : World) : Prop :=
  ∃ (a : Option Addr) (m c : Nat), e = .returned (.tuple #[.agg #[.int .i64 n, .slice a m c], .bool true]) ∧ OwnP w' w.heap.size (.slice a m c) xss ∧ Below w.heap.size w w'

set_option maxRecDepth 100000 in
set_option maxHeartbeats 4000000 in
theorem s_InsertionNetwork (n : Nat) (h1 : 1 ≤ n) (h8 : n ≤ 8) (w : World) : Calls Tryz.prog 54 #[.int .i64 n] w (RetNetB n (insNK (n - 1)) w) := by
  have H := Lib.hid (fun (W : World) => (inB_iff.2 ⟨by omega, by omega⟩ : inB (n : Int) 1 8 = true) ▸ s_l07N n W)
  obtain ⟨B, hB⟩ : ∃ B, w.heap.size = B := ⟨_, rfl⟩
  obtain ⟨bx, hbx⟩ : ∃ bx, w.heap.size + 1 = bx := ⟨_, rfl⟩
  obtain ⟨w0, hw0⟩ : ∃ w0, (w.alloc (.cells #[.int .i64 0, .slice none 0 0] 30)).alloc (.cells #[.int .i64 n, .slice none 0 0] 30) = w0 := ⟨_, rfl⟩
  have hb0 : Below w.heap.size w w0 := by rw [← hw0]; exact ((Below.refl _ _).alloc (Nat.le_refl _) _).alloc (by simp) _
  have hA0 : w0.heap[B]? = some (.cells #[.int .i64 0, .slice none 0 0] 30 (0, 0)) := by rw [← hw0, ← hB]; exact (Below.heap_alloc _ _ _ (by simp)).trans (heap_alloc_new w _)
  have hX0 : w0.heap[bx]? = some (.cells #[.int .i64 n, .slice none 0 0] 30 (0, 0)) := by
    rw [← hw0, ← hbx]
    have := heap_alloc_new (w.alloc (.cells #[.int .i64 0, .slice none 0 0] 30)) (.cells #[.int .i64 n, .slice none 0 0] 30)
    simpa using this
  have hz0 : w0.heap.size = bx + 1 := by rw [← hw0, ← hbx]; simp
  have hBx : B < bx := by omega
  have HB := Lib.hid hB
  have HBX := Lib.hid hbx
  have HW0 := Lib.hid hw0
  have hoL : OwnP w0 (bx + 1) (.slice none 0 0) (insNK 0) := OwnP.nil _ _
  have hz0' : bx + 1 ≤ w0.heap.size := by omega
  clear hB hbx hw0 hz0
  go_enter Tryz.func54, Tryz.ntmps54
  go_upto_region 4 with (go_at_call 111; refine (H.out _).mono ?_; rintro e w' ⟨rfl, rfl⟩)
  rw [HW0.out, HBX.out, HB.out]
  go_wp2_with fail
  go_loopg [5] (n - 1) (fun gk iv wr => ∃ (k : Nat) (a : Option Addr) (m c : Nat), gk = n - 1 - k ∧ k ≤ n - 1 ∧ iv = .int .i64 ((k + 1 : Nat) : Int) ∧ Hid (wr.heap[bx]? = some (.cells #[.int .i64 n, .slice a m c] 30 (0, 0))) ∧ Hid (wr.heap[B]? = some (.cells #[.int .i64 0, .slice none 0 0] 30 (0, 0))) ∧ OwnP wr (bx + 1) (.slice a m c) (insNK k) ∧ bx + 1 ≤ wr.heap.size ∧ Below w.heap.size w wr)
  case atStart => exact ⟨0, none, 0, 0, rfl, Nat.zero_le _, rfl, hX0, hA0, hoL, hz0', hb0⟩
  case round =>
    clear hX0 hA0 hoL hz0' hb0
    obtain ⟨wo, rfl⟩ : ∃ wo : World, wo = wr := ⟨_, rfl⟩
    obtain ⟨k, a, m, c, hg, hk, rfl, HX, HA, ho, hz, hb⟩ := hrel
    by_cases hlt : k + 1 < n
    · have HKL := Lib.hid (insK_len k (by omega))
      have hoS : OwnP wo (bx + 1) (.slice a m c) (insNK k ++ insJ (k + 1) 0) := by simpa [insJ] using ho
      have i1 : (k : Int) + 1 < (n : Int) := by omega
      have HZ0 : Hid ((k : Int) = ((k + 1 : Nat) : Int) - 1 - ((0 : Nat) : Int)) := by rw [Hid]; omega
      clear ho
      go_wp2_with fail
      go_loopg [6] (k + 1) (fun gk zv wr => ∃ (t : Nat) (z : Int) (a : Option Addr) (m c : Nat), gk = k + 1 - t ∧ t ≤ k + 1 ∧ zv = .int .i64 z ∧ Hid (z = ((k + 1 : Nat) : Int) - 1 - (t : Int)) ∧ -1 ≤ z ∧ z ≤ 8 ∧ Hid (wr.heap[bx]? = some (.cells #[.int .i64 n, .slice a m c] 30 (0, 0))) ∧ Hid (wr.heap[B]? = some (.cells #[.int .i64 0, .slice none 0 0] 30 (0, 0))) ∧ OwnP wr (bx + 1) (.slice a m c) (insNK k ++ insJ (k + 1) t) ∧ bx + 1 ≤ wr.heap.size ∧ Below w.heap.size w wr)
      case atStart => exact ⟨0, _, a, m, c, rfl, Nat.zero_le _, rfl, HZ0, by omega, by omega, HX, HA, hoS, hz, hb⟩
      case round =>
        clear HX HA hoS hz hb HZ0
        obtain ⟨wi, rfl⟩ : ∃ wi : World, wi = wr := ⟨_, rfl⟩
        obtain ⟨t, z, a, m, c, hgt, ht, rfl, HZ, hz1, hz8, HX, HA, ho, hsz, hb⟩ := hrel
        by_cases hz0 : 0 ≤ z
        · have htk : t < k + 1 := by have := HZ.out; omega
          have d0 : decide (z ≥ 0) = true := by simpa using hz0
          have HS : Hid (insNK k ++ insJ (k + 1) (t + 1) = (insNK k ++ insJ (k + 1) t) ++ [[z, z + 1]]) := by rw [Hid, insJ_succ, HZ.out, List.append_assoc]
          have HLN : Hid ((insNK k ++ insJ (k + 1) t).length ≤ 120) := by rw [Hid, List.length_append, insJ_len]; have := HKL.out; omega
          obtain ⟨rows, hov, hrp⟩ := ho
          obtain ⟨m0, hm0⟩ : ∃ m0, rows.length = m0 := ⟨_, rfl⟩
          have hmm : m = m0 := by
            obtain ⟨p, q, e, _, _⟩ := hov.rd.form
            simp only [Value.slice.injEq] at e
            omega
          subst hmm
          have HM0 := Lib.hid hm0
          have hm120 : m ≤ 120 := by have := hrp.1; have := HLN.out; omega
          have c1 := box_cell HX.out 1
          have step : ∀ (b6 : Option Addr) (c6 : Nat) (w6 : World), Own w6 23 (bx + 1) (.slice b6 (m + 1) c6) (rows ++ [.slice (some ⟨wi.heap.size, 0, none⟩) 2 2]) → (wi.alloc (.cells #[.int .i64 z, .int .i64 (z + 1)] 3)).grownBy w6 (Value.slice a m c).ownBlock →
              w6.cell? ⟨bx, 1, none⟩ = some (.slice a m c) ∧ w6.frozen? ⟨bx, 1, none⟩ = false ∧ Hid ((w6.setCell ⟨bx, 1, none⟩ (.slice b6 (m + 1) c6)).heap[bx]? = some (.cells #[.int .i64 n, .slice b6 (m + 1) c6] 30 (0, 0))) ∧ Hid ((w6.setCell ⟨bx, 1, none⟩ (.slice b6 (m + 1) c6)).heap[B]? = some (.cells #[.int .i64 0, .slice none 0 0] 30 (0, 0))) ∧
              OwnP (w6.setCell ⟨bx, 1, none⟩ (.slice b6 (m + 1) c6)) (bx + 1) (.slice b6 (m + 1) c6) (insNK k ++ insJ (k + 1) (t + 1)) ∧ bx + 1 ≤ (w6.setCell ⟨bx, 1, none⟩ (.slice b6 (m + 1) c6)).heap.size ∧ Below w.heap.size w (w6.setCell ⟨bx, 1, none⟩ (.slice b6 (m + 1) c6)) := fun b6 c6 w6 ho6 hg6 => by
            have hb1 : Below wi.heap.size wi (wi.alloc (.cells #[.int .i64 z, .int .i64 (z + 1)] 3)) := (Below.refl _ _).alloc (Nat.le_refl _) _
            have hov1 := hov.below hb1
            have hne6 : ∀ q, q ≤ bx → some q ≠ (Value.slice a m c).ownBlock := fun q hq e => by have := (hov1.lt q e.symm).1; omega
            have hX6 : w6.heap[bx]? = _ := (hg6.block bx (by simp; omega) (hne6 bx (Nat.le_refl _))).trans ((Below.heap_alloc _ _ _ (by omega)).trans HX.out)
            have hA6 : w6.heap[B]? = _ := (hg6.block B (by simp; omega) (hne6 B (by omega))).trans ((Below.heap_alloc _ _ _ (by omega)).trans HA.out)
            have hz6 := hg6.size
            simp at hz6
            have hgs : w6.grownBy (w6.setCell ⟨bx, 1, none⟩ (.slice b6 (m + 1) c6)) (some bx) := ⟨rfl, rfl, rfl, by simp, fun q _ hq => heap_setCell_other w6 ⟨bx, 1, none⟩ q _ (fun e => hq (by rw [e]))⟩
            have hB6 : Below w.heap.size w w6 := (hb.trans (hb1.mono hb.size)).grown hg6 (by have := hb.size; simp; omega) (fun r hr => by have := (hov1.lt r hr).1; have := HBX.out; omega)
            refine ⟨box_cell hX6 1, frozen_of_row w6 bx 1 _ _ hX6, heap_setCell_same w6 bx 1 _ _ _ hX6, (heap_setCell_other w6 ⟨bx, 1, none⟩ _ _ (by show B ≠ bx; omega)).trans hA6, ?_, by simp; omega, hB6.setCell (by show w.heap.size ≤ bx; have := HBX.out; omega) _⟩
            rw [HS.out]
            exact (OwnP.push (hrp.below hb1) hov1 (heap_alloc_new wi _) hg6 ho6 hsz).under hgs (fun q hq => by cases hq; omega)
          have STEP := Lib.hid step
          have hovA := fun o => hov.alloc o
          have hB6 : bx + 1 ≤ (wi.alloc (.cells #[.int .i64 z, .int .i64 (z + 1)] 3)).heap.size := by simp; omega
          have HZ2 : Hid (z - 1 = ((k + 1 : Nat) : Int) - 1 - ((t + 1 : Nat) : Int)) := by have := HZ.out; rw [Hid]; omega
          clear step hov hrp HX HA hb HZ hm0
          go_wp2_with (at_builtin; refine wpList_app1m rfl _ _ 28 rfl elII rfl (hovA _) (by show Value.slice (some ⟨wi.heap.size + 1, 0, none⟩) 1 1 = _; simp) rfl hB6 _ HM0.out (by omega) (by omega) ?_; intro b6 c6 w6 ho6 hg6 hat6; obtain ⟨q1, q2, q3, q4, q5, q6, q7⟩ := STEP.out _ _ _ ho6 hg6)
          go_roundg (k + 1 - (t + 1))
          case measure => omega
          case rel => exact ⟨t + 1, z - 1, _, _, _, rfl, htk, rfl, HZ2, by omega, by omega, q3, q4, q5, q6, q7⟩
        · obtain rfl : t = k + 1 := by have := HZ.out; omega
          have d0 : decide (z ≥ 0) = false := by simpa using hz0
          go_wp2_with fail
          go_roundg (n - 1 - (k + 1))
          case measure => omega
          case rel => exact ⟨k + 1, a, m, c, rfl, by omega, by go_num, HX, HA, ho, hsz, hb⟩
    · obtain rfl : k = n - 1 := by omega
      have i1 : ¬ (((n - 1 : Nat) : Int) + 1 < (n : Int)) := by omega
      have c0 := box_cell HX.out 0
      have c1 := box_cell HX.out 1
      have f0 := frozen_of_row wo B 0 _ _ HA.out
      have f1 := frozen_of_row wo B 1 _ _ HA.out
      have a0 := box_cell HA.out 0
      have a1 := box_cell HA.out 1
      have e2 := box2 (x := .int .i64 n) (y := .slice a m c) HA.out
      have q0 := box_cell e2 0
      have q1 := box_cell e2 1
      have hgz : wo.grownBy ((wo.setCell ⟨B, 0, none⟩ (.int .i64 n)).setCell ⟨B, 1, none⟩ (.slice a m c)) (some B) :=
        ⟨rfl, rfl, rfl, by simp, fun i _ hi => (heap_setCell_other _ ⟨B, 1, none⟩ i _ (fun e => hi (by rw [e]))).trans (heap_setCell_other wo ⟨B, 0, none⟩ i _ (fun e => hi (by rw [e])))⟩
      have hoz := ho.under hgz (fun q hq => by cases hq; omega)
      have hBB := HB.out
      clear e2
      go_wp2_with fail
      refine bodyPost_ret (v := .tuple #[.agg #[.int .i64 n, .slice a m c], .bool true]) (by simp [results, Tryz.results54, go_sem, q0, q1]) rfl ⟨_, _, _, rfl, hoz.mono (by omega), hb.grown hgz hb.size (fun r hr => by cases hr; omega)⟩

theorem Cur.low {w w' : World} {g B : Nat} {vb : Value} {xs : List Int} (hC : Cur w g vb xs) (hb : Below B w w') (hg : g < B) (hrd : Rd w' vb (bytesV xs)) : Cur w' g vb xs := by
  obtain ⟨⟨i, hh, hi, c0, c1, c2, f1, f2⟩, _, hn⟩ := hC
  have hb := hb.block g hg
  exact ⟨⟨i, hh, hi, (World.cell?_of_block (w := w) (a := ⟨g, 0, none⟩) hb).trans c0, (World.cell?_of_block (w := w) (a := ⟨g, 1, none⟩) hb).trans c1, (World.cell?_of_block (w := w) (a := ⟨g, 2, none⟩) hb).trans c2, (World.frozen?_of_block (w := w) (a := ⟨g, 1, none⟩) hb).trans f1, (World.frozen?_of_block (w := w) (a := ⟨g, 2, none⟩) hb).trans f2⟩, hrd, hn⟩

set_option maxRecDepth 100000 in
set_option maxHeartbeats 8000000 in
theorem s_MakeSorting (vb : Value) (xs : List Int) (hxb : ∀ x ∈ xs, 0 ≤ x ∧ x ≤ 255) (hl : xs.length ≤ 1048576) (n : Nat) (hn : n ≤ 1000) (w : World) (h : Rd w vb (bytesV xs)) :
    Calls Tryz.prog 8 #[vb, .int .i64 n, .int .i64 4] w fun e w' => ∃ (N : Nat) (P Q : List (List Int)) (b : Bool) (v : Value), 1 ≤ N ∧ N ≤ 4 ∧ P.length ≤ 4 ∧ Q.length ≤ 3 ∧ (∀ r ∈ P ++ Q, netRow N r = true ∧ upRow true r) ∧ e = .returned (.agg #[.int .i64 N, v]) ∧ Rd2 w' v ((if b then insNK (N - 1) else P ++ batS 8 (wiresL 0 N)) ++ Q) ∧ Below w.heap.size w w' := by
  have HN := Lib.hid (fun (wx : World) (hx : Rd wx vb (bytesV xs)) => s_l31New vb xs hxb hl n hn wx hx)
  have HB := Lib.hid (fun (g : Nat) (n : Int) (h1 : 1 ≤ n) (h2 : n ≤ 1000000000) (wx : World) (hx : Cur wx g vb xs) => s_l01Below g vb xs hxb n h1 h2 wx hx)
  have HO := Lib.hid (fun (g : Nat) (n : Int) (h1 : 1 ≤ n) (h2 : n ≤ 1000000000) (wx : World) (hx : Cur wx g vb xs) => s_l01Once g vb xs hxb n h1 h2 wx hx)
  have HP := Lib.hid (fun (g n m : Nat) (h1 : 1 ≤ n) (h2 : n ≤ 8) (h3 : m ≤ 50) (wx : World) (hx : Cur wx g vb xs) => s_l02Pairs g vb xs hxb n m h1 h2 h3 true wx hx)
  clear hxb
  obtain ⟨B, hB⟩ : ∃ B, w.heap.size = B := ⟨_, rfl⟩
  have HBW := Lib.hid hB
  have hbA : Below w.heap.size w (w.alloc (.cells #[.int .i64 0, .slice none 0 0] 30)) := (Below.refl _ _).alloc (Nat.le_refl _) _
  go_enter Tryz.func8, Tryz.ntmps8
  go_wp2_with fail
  refine (HN.out _ (h.alloc _)).mono ?_
  rintro e w1 ⟨g, rfl, hg, hC1, hb1⟩
  have hgB : B < g := by simp at hg; omega
  have hA1 := (hb1.block w.heap.size (by simp)).trans (heap_alloc_new w (.cells #[.int .i64 0, .slice none 0 0] 30))
  have hbb1 := hbA.trans (hb1.mono hbA.size)
  rw [hB] at hA1
  go_wp2_with fail
  refine (HB.out g 4 (by omega) (by omega) _ hC1).mono ?_
  rintro e w2 ⟨x, rfl, hx0, hx1, hC2, hg2⟩
  obtain ⟨N, hNx⟩ : ∃ N : Nat, 1 + x = N := ⟨(1 + x).toNat, by omega⟩
  have hN : 1 ≤ N ∧ N ≤ 4 := by omega
  have HNX := Lib.hid hNx
  have hA2 := (hg2.block B (box_lt hA1) (fun e => by injection e; omega)).trans hA1
  have hbb2 := hbb1.grown hg2 hbb1.size (fun r hr => by cases hr; omega)
  clear hbb1 hA1 hC1 hb1 hg2 hbA hg
  go_wp2_with fail
  clear hNx hx0 hx1
  refine (HP.out g N 4 hN.1 (by omega) (by omega) _ hC2).mono ?_
  rintro e w3 ⟨P, v3, hP4, hPr, rfl, ho3, hC3, hg3⟩
  have hA3 := (hg3.block B (box_lt hA2) (fun e => by injection e; omega)).trans hA2
  have hbb3 := hbb2.grown hg3 hbb2.size (fun r hr => by cases hr; omega)
  have hgl2 := hC2.lt
  have o3 := OwnP.of_own2 ho3
  obtain ⟨a3, m3, c3, rfl, HM3, _, _⟩ := o3.formN
  have HPR := Lib.hid hPr
  have hm3 : m3 ≤ 4 := by have := HM3.out; omega
  have hzg : g < w3.heap.size := hC3.lt
  have hz23 : w2.heap.size ≤ w3.heap.size := hg3.size
  obtain ⟨bx, hbx⟩ : ∃ bx, w3.heap.size = bx := ⟨_, rfl⟩
  obtain ⟨w4, hw4⟩ : ∃ w4, w3.alloc (.cells #[.int .i64 N, .slice a3 m3 c3] 30) = w4 := ⟨_, rfl⟩
  have hX4 : w4.heap[bx]? = some (.cells #[.int .i64 N, .slice a3 m3 c3] 30 (0, 0)) := by rw [← hw4, ← hbx]; exact heap_alloc_new w3 _
  have hbl4 : Below w3.heap.size w3 w4 := by rw [← hw4]; exact (Below.refl _ _).alloc (Nat.le_refl _) _
  have hz4 : w4.heap.size = bx + 1 := by rw [← hw4, ← hbx]; simp
  have hC4 := hC3.below hbl4
  have o4 := o3.below hbl4
  have hA4 := (hbl4.block B (box_lt hA3)).trans hA3
  have hbb4 := hbb3.trans (hbl4.mono hbb3.size)
  have HW4 := Lib.hid hw4
  have HBX := Lib.hid hbx
  clear hPr ho3 hg3 hA2 hA3 hbb2 hbb3 hC2 hC3 o3 hbl4
  go_upto_region 4 with (fail)
  have hz24 : w2.heap.size ≤ w4.heap.size := by omega
  have hz2x : w2.heap.size ≤ bx := by omega
  clear hw4 hbx
  have HWI : Hid (∀ W : World, Calls Tryz.prog 52 #[.int .i64 0, .int .i64 N] W (RetOwn 3 (ints (wiresL 0 N)) W)) := fun W => s_l08Wires 0 N (by omega) (by omega) W
  have HBT := Lib.hid (fun (v : Value) (W : World) (h : Rd W v (ints (wiresL 0 N))) => s_l09Batcher 8 v _ W h (by rw [wiresL_len]; omega) (by omega))
  have HBL : Hid ((batS 8 (wiresL 0 N)).length ≤ 100000000000) := batS_le (by rw [wiresL_len]; omega) (by omega)
  obtain ⟨T, hT⟩ : ∃ T, batS 8 (wiresL 0 N) = T := ⟨_, rfl⟩
  have HTT := Lib.hid hT
  rw [hT] at HBT HBL
  clear hT
  have HK : Hid (∀ W : World, Below w4.heap.size w4 W → W.cell? ⟨bx, 1, none⟩ = some (.slice a3 m3 c3) ∧ W.frozen? ⟨bx, 1, none⟩ = false ∧ OwnP W w2.heap.size (.slice a3 m3 c3) P ∧ Hid (W.heap[bx]? = some (.cells #[.int .i64 N, .slice a3 m3 c3] 30 (0, 0)))) := fun W hW => by
    have hX := (hW.block bx (by omega)).trans hX4
    exact ⟨box_cell hX 1, frozen_of_row W bx 1 _ _ hX, o4.below hW, hX⟩
  obtain ⟨k1, k2, _, _⟩ := HK.out _ (Below.refl _ _)
  have hb44 : Below w4.heap.size w4 w4 := Below.refl _ _
  go_cut [] (fun wx => ∃ (a5 : Option Addr) (m5 c5 : Nat), wx.heap[bx]? = some (.cells #[.int .i64 N, .slice a5 m5 c5] 30 (0, 0)) ∧ OwnP wx w2.heap.size (.slice a5 m5 c5) (P ++ T) ∧ Below w2.heap.size w4 wx)
  case first =>
    go_region_law (first
      | (go_simp; go_at_call 52; (with_reducible refine (HWI.out _).mono ?_); rintro e w5 ⟨v5, rfl, o5, b5⟩; have g5 : Below w4.heap.size w4 w5 := ⟨b5.os, b5.tape, b5.output, b5.size, b5.block⟩; obtain ⟨k5, _, _, _⟩ := HK.out _ g5)
      | (go_simp; go_at_call 51; (with_reducible refine (HBT.out _ _ (by first | exact o5.rd | exact o5.rd.drew)).mono ?_); rintro e w6 ⟨v6, rfl, o6, b6⟩; have g6 : Below w4.heap.size w4 w6 := Below.trans g5 (Below.mono ⟨b6.os, b6.tape, b6.output, b6.size, b6.block⟩ (Below.size g5)); obtain ⟨k6, _, o6', X6⟩ := HK.out _ g6; obtain ⟨a6, m6, c6, rfl, _, _, _⟩ := o6.formN)
      | (obtain ⟨r3, ov3, rp3⟩ := o6'; obtain ⟨r6, ov6, rp6⟩ := o6; have hx6 := rp6.1; have hx3 := rp3.1; have hX9 := HBL.out; refine step_app (by rfl) _ _ _ (by rfl) elII (by rfl) (by exact ov3) (by rfl) (by exact ov6.rd) rp6.one (by have := Below.size g6; exact Nat.le_trans hz24 this) (by omega) (by omega) ?_; clear hx6 hx3 hX9; intro b8 c8 w8 ho8 hg8 hat8; have X8 := Lib.hid (World.grownBy.block hg8 bx (box_lt X6.out) (fun e => own_ne_box ov3 X6.out (by decide) e.symm) |>.trans X6.out); have k8 := box_cell X8.out 1; have f8 := frozen_of_row w8 bx 1 _ _ X8.out))
    all_goals go_wp2_with (fail)
    all_goals
      go_meet
      exact ⟨_, _, _, heap_setCell_same w8 bx 1 _ _ _ X8.out, (OwnP.cat rp3 ov3 rp6 (Nat.le_trans hz24 (Below.size g5)) hg8 ho8).setBox X8.out (by decide) (by decide) _, (Below.grown (Below.mono g6 hz24) hg8 (Nat.le_trans hz24 (Below.size g6)) (fun r hr => (ov3.lt r hr).1)).setCell (by show w2.heap.size ≤ bx; exact hz2x) _⟩
  case rest =>
  obtain ⟨a5, m5, c5, hX5, o5, g5⟩ := hcut
  have hwB : w.heap.size ≤ w2.heap.size := by omega
  have hbb5 : Below w.heap.size w wc := hbb4.trans (g5.mono hwB)
  have hC5 : Cur wc g vb xs := hC4.low g5 hgl2 (h.below hbb5)
  have hA5 := (g5.block B (by omega)).trans hA4
  clear hX4 hA4 hC4 o4 hbb4 HK HWI HBT k1 k2 hb44
  go_upto_if 32 with (go_at_call 53; refine (HO.out g 2 (by omega) (by omega) _ hC5).mono ?_; rintro e w6 ⟨⟨b, rfl⟩, hC6, hg6⟩)
  have hX6 := (hg6.block bx (box_lt hX5) (fun e => by injection e; omega)).trans hX5
  have hA6 := (hg6.block B (box_lt hA5) (fun e => by injection e; omega)).trans hA5
  have o6 := o5.under hg6 (fun k hk => by cases hk; omega)
  have hbb6 := hbb5.grown hg6 hbb5.size (fun r hr => by cases hr; omega)
  have hz6 : w2.heap.size ≤ w6.heap.size := Nat.le_trans hz24 (Nat.le_trans g5.size hg6.size)
  have HIN := Lib.hid (fun (W : World) => s_InsertionNetwork N hN.1 (by omega) W)
  obtain ⟨Y, hY⟩ : ∃ Y, (if b then insNK (N - 1) else P ++ T) = Y := ⟨_, rfl⟩
  have HYE := Lib.hid hY
  have hzbx : bx < w6.heap.size := box_lt hX6
  clear hC5 hg6 hX5 hA5 o5 hbb5 g5 hY
  go_cut [] (fun wx => ∃ (a7 : Option Addr) (m7 c7 : Nat), wx.heap[bx]? = some (.cells #[.int .i64 N, .slice a7 m7 c7] 30 (0, 0)) ∧ OwnP wx w2.heap.size (.slice a7 m7 c7) Y ∧ wx.heap[B]? = some (.cells #[.int .i64 0, .slice none 0 0] 30 (0, 0)) ∧ Cur wx g vb xs ∧ Below w.heap.size w wx ∧ w2.heap.size ≤ wx.heap.size)
  case first =>
    cases b
    · have hY : P ++ T = Y := HYE.out
      go_wp2_with fail
      go_meet
      exact ⟨_, _, _, hX6, by rw [← hY]; exact o6, hA6, hC6, hbb6, hz6⟩
    · have hY : insNK (N - 1) = Y := HYE.out
      go_wp2_with fail
      refine (HIN.out w6).mono ?_
      rintro e w7 ⟨a7, m7, c7, rfl, o7, b7⟩
      have hX7 := (b7.block bx hzbx).trans hX6
      have hA7 := (b7.block B (box_lt hA6)).trans hA6
      have hC7 := hC6.below b7
      have hbb7 := hbb6.trans (b7.mono hbb6.size)
      have hb8 : Below w7.heap.size w7 (w7.alloc (.cells #[.int .i64 N, .slice a7 m7 c7] 30)) := (Below.refl _ _).alloc (Nat.le_refl _) _
      have hX8 := (hb8.block bx (box_lt hX7)).trans hX7
      have hA8 := (hb8.block B (box_lt hA7)).trans hA7
      have hC8 := hC7.below hb8
      have hbb8 := hbb7.trans (hb8.mono hbb7.size)
      have o8 := o7.below hb8
      have hY8 := heap_alloc_new w7 (.cells #[.int .i64 N, .slice a7 m7 c7] 30 (0, 0))
      have hz78 : bx < w7.heap.size := box_lt hX7
      obtain ⟨w8, hw8⟩ : ∃ w8, w7.alloc (.cells #[.int .i64 N, .slice a7 m7 c7] 30) = w8 := ⟨_, rfl⟩
      obtain ⟨b8, hb8'⟩ : ∃ b8, w7.heap.size = b8 := ⟨_, rfl⟩
      rw [hw8] at hX8 hA8 hC8 hbb8 o8 hY8
      rw [hb8'] at hY8 hz78
      have hb8n : b8 ≠ bx := by omega
      have c0 := box_cell hX8 0
      have c1 := box_cell hX8 1
      have f0 := frozen_of_row w8 bx 0 _ _ hX8
      have f1 := frozen_of_row w8 bx 1 _ _ hX8
      have e0 := box_cell hY8 0
      have e1 := box_cell hY8 1
      clear hX6 hA6 hC6 hbb6 o6 hX7 hA7 hC7 hbb7 o7 hb8
      have hgs : w8.grownBy ((w8.setCell ⟨bx, 0, none⟩ (.int .i64 N)).setCell ⟨bx, 1, none⟩ (.slice a7 m7 c7)) (some bx) :=
        ⟨rfl, rfl, rfl, by simp, fun i _ hi => (heap_setCell_other _ ⟨bx, 1, none⟩ i _ (fun e => hi (by rw [e]))).trans (heap_setCell_other w8 ⟨bx, 0, none⟩ i _ (fun e => hi (by rw [e])))⟩
      have hX9 := box2 (x := .int .i64 N) (y := .slice a7 m7 c7) hX8
      have o9 := ((o8.mono hz6).setBox (o := 0) hX8 (by decide) (by decide) (.int .i64 N)).setBox (o := 1) (heap_setCell_same w8 bx 0 _ _ _ hX8) (by decide) (by decide) (.slice a7 m7 c7)
      have hbb9 := hbb8.grown hgs hbb8.size (fun r hr => by cases hr; omega)
      have hA9 := (hgs.block B (box_lt hA8) (fun e => by injection e; omega)).trans hA8
      have hC9 := hC8.turn hgs (fun e => by injection e; omega) (h.below hbb9)
      have hz9 : w2.heap.size ≤ ((w8.setCell ⟨bx, 0, none⟩ (.int .i64 N)).setCell ⟨bx, 1, none⟩ (.slice a7 m7 c7)).heap.size := by have := box_lt hX8; simp; omega
      clear hX8 hA8 hC8 hbb8 o8 hgs
      go_wp2_with fail
      go_meet
      exact ⟨_, _, _, hX9, by rw [← hY]; exact o9, hA9, hC9, hbb9, hz9⟩
  case rest =>
  obtain ⟨a7, m7, c7, hX7, o7, hA7, hC7, hbb7, hz7⟩ := hcut
  clear hX6 hA6 hC6 hbb6 o6 HIN
  obtain ⟨a7', m7', c7', e7, HM7, _, _⟩ := o7.formN
  simp only [Value.slice.injEq] at e7
  have hm7 : m7 ≤ 200000000000 := by
    have h1 := HM7.out
    have h2 := HYE.out
    have h3 := HBL.out
    have h4 := insK_len (N - 1) (by omega)
    have h5 : Y.length ≤ 200000000000 := by
      rw [← h2]
      cases b
      · show (P ++ T).length ≤ _
        rw [List.length_append]; omega
      · show (insNK (N - 1)).length ≤ _
        omega
    omega
  clear e7 HM7
  go_upto_if 40 with (go_at_call 53; refine (HO.out g 3 (by omega) (by omega) _ hC7).mono ?_; rintro e w8 ⟨⟨b2, rfl⟩, hC8, hg8⟩)
  have hX8 := (hg8.block bx (box_lt hX7) (fun e => by injection e; omega)).trans hX7
  have hA8 := (hg8.block B (box_lt hA7) (fun e => by injection e; omega)).trans hA7
  have o8 := o7.under hg8 (fun k hk => by cases hk; omega)
  have hbb8 := hbb7.grown hg8 hbb7.size (fun r hr => by cases hr; omega)
  have hz8 : w2.heap.size ≤ w8.heap.size := Nat.le_trans hz7 hg8.size
  clear hX7 hA7 o7 hbb7 hC7 hg8
  go_cut [] (fun wx => ∃ (Q : List (List Int)) (a9 : Option Addr) (m9 c9 : Nat), Hid (Q.length ≤ 3) ∧ Hid (∀ r ∈ Q, netRow N r = true ∧ upRow true r) ∧ wx.heap[bx]? = some (.cells #[.int .i64 N, .slice a9 m9 c9] 30 (0, 0)) ∧ OwnP wx w2.heap.size (.slice a9 m9 c9) (Y ++ Q) ∧ wx.heap[B]? = some (.cells #[.int .i64 0, .slice none 0 0] 30 (0, 0)) ∧ Below w.heap.size w wx)
  case first =>
    cases b2
    · go_wp2_with fail
      go_meet
      exact ⟨[], _, _, _, Nat.zero_le _, (fun r hr => by cases hr), hX8, by simpa using o8, hA8, hbb8⟩
    · have HP3 : Hid (∀ W : World, Cur W g vb xs → Calls Tryz.prog 50 #[.pointer (some ⟨g, 0, none⟩), .int .i64 N, .int .i64 3, .bool true] W (RetP N 3 g true vb xs W)) := fun W hW => HP.out g N 3 hN.1 (by omega) (by omega) W hW
      have HK : Hid (∀ W : World, w8.grownBy W (some g) → W.cell? ⟨bx, 1, none⟩ = some (.slice a7 m7 c7) ∧ W.frozen? ⟨bx, 1, none⟩ = false ∧ OwnP W w2.heap.size (.slice a7 m7 c7) Y ∧ Hid (W.heap[bx]? = some (.cells #[.int .i64 N, .slice a7 m7 c7] 30 (0, 0)))) := fun W hW => by
        have hX := (hW.block bx (box_lt hX8) (fun e => by injection e; omega)).trans hX8
        exact ⟨box_cell hX 1, frozen_of_row W bx 1 _ _ hX, o8.under hW (fun k hk => by cases hk; omega), hX⟩
      obtain ⟨k1, k2, _, _⟩ := HK.out _ (World.grownBy.refl w8 _)
      have hC8d : Cur w8.drew g vb xs := ⟨hC8.ex, hC8.rd, hC8.ne⟩
      go_wp2_with fail
      go_region_law (first
        | (go_simp; go_at_call 50; (with_reducible refine (HP3.out _ (by first | exact hC8d | exact hC8)).mono ?_); rintro e w9 ⟨Q, v9, hQ3, hQr, rfl, o9, hC9, hg9⟩; have gg9 : w8.grownBy w9 (some g) := ⟨hg9.os, hg9.tape, hg9.output, hg9.size, hg9.block⟩; obtain ⟨k9, _, o9', X9⟩ := HK.out _ gg9; obtain ⟨a9, m9, c9, rfl, _, _, _⟩ := (OwnP.of_own2 o9).formN)
        | (obtain ⟨r3, ov3, rp3⟩ := o9'; obtain ⟨r6, ov6, rp6⟩ := OwnP.of_own2 o9; have hx6 := rp6.1; have hx3 := rp3.1; obtain ⟨p3, q3, e3, _, _⟩ := ov3.rd.form; simp only [Value.slice.injEq] at e3; have e33 := e3.2.1; clear e3; refine step_app (by rfl) _ _ _ (by rfl) elII (by rfl) (by exact ov3) (by rfl) (by exact ov6.rd) rp6.one (Nat.le_trans hz8 (World.grownBy.size gg9)) (by omega) (by omega) ?_; clear hx6 hx3 e33; intro b10 c10 w10 ho10 hg10 hat10; have X10 := Lib.hid (World.grownBy.block hg10 bx (box_lt X9.out) (fun e => own_ne_box ov3 X9.out (by decide) e.symm) |>.trans X9.out); have k10 := box_cell X10.out 1; have f10 := frozen_of_row w10 bx 1 _ _ X10.out))
      all_goals go_wp2_with (fail)
      all_goals
        have hbb9 := hbb8.grown gg9 hbb8.size (fun r hr => by cases hr; omega)
        have hA10 : w10.heap[B]? = _ := (hg10.block B (Nat.lt_of_lt_of_le (box_lt hA8) gg9.size) (fun e => by have := (ov3.lt B e.symm).1; omega)).trans ((gg9.block B (box_lt hA8) (fun e => by injection e; omega)).trans hA8)
        have hbb10 := hbb9.grown hg10 hbb9.size (fun r hr => by have := (ov3.lt r hr).1; omega)
        go_meet
        exact ⟨Q, _, _, _, hQ3, hQr, heap_setCell_same w10 bx 1 _ _ _ X10.out, (OwnP.cat rp3 ov3 rp6 hz8 hg10 ho10).setBox X10.out (by decide) (by decide) _, (heap_setCell_other w10 ⟨bx, 1, none⟩ B _ (by show B ≠ bx; omega)).trans hA10, hbb10.setCell (by show w.heap.size ≤ bx; omega) _⟩
  case rest =>
  obtain ⟨Q, a9, m9, c9, HQ3, HQR, hX9, o9, hA9, hbb9⟩ := hcut
  clear hX8 hA8 o8 hbb8 hC8
  have c0 := box_cell hX9 0
  have c1 := box_cell hX9 1
  have f0 := frozen_of_row wc B 0 _ _ hA9
  have f1 := frozen_of_row wc B 1 _ _ hA9
  have a0 := box_cell hA9 0
  have a1 := box_cell hA9 1
  have e2 := box2 (x := .int .i64 N) (y := .slice a9 m9 c9) hA9
  have q0 := box_cell e2 0
  have q1 := box_cell e2 1
  have hgz : wc.grownBy ((wc.setCell ⟨B, 0, none⟩ (.int .i64 N)).setCell ⟨B, 1, none⟩ (.slice a9 m9 c9)) (some B) :=
    ⟨rfl, rfl, rfl, by simp, fun i _ hi => (heap_setCell_other _ ⟨B, 1, none⟩ i _ (fun e => hi (by rw [e]))).trans (heap_setCell_other wc ⟨B, 0, none⟩ i _ (fun e => hi (by rw [e])))⟩
  have hBw2 : B < w2.heap.size := by omega
  have hoz := (o9.under hgz (fun q hq => by cases hq; exact hBw2)).rd2
  have hbbz := hbb9.grown hgz hbb9.size (fun r hr => by cases hr; omega)
  rw [← HYE.out] at hoz
  have HOZ := Lib.hid hoz
  clear e2 hoz
  have HPQ : Hid (∀ r ∈ P ++ Q, netRow N r = true ∧ upRow true r) := fun r hr => by
    rcases List.mem_append.1 hr with hr | hr
    · exact HPR.out r hr
    · exact HQR.out r hr
  go_wp2_with fail
  exact bodyPost_ret (v := .agg #[.int .i64 N, .slice a9 m9 c9]) (by simp [results, Tryz.results8, go_sem, q0, q1]) rfl ⟨N, P, Q, b, _, hN.1, hN.2, hP4, HQ3.out, HPQ.out, rfl, by rw [HTT.out]; exact HOZ.out, hbbz⟩

end Go.Proofs.YtggblfnajeikjaaGreatDoor
