/- Joined texts of the proof: FabC, FabD. -/
import Derived.WalkKit
import Derived.WalkSpells
import Derived.WalkLawsBesides
import Derived.Deep.Draws
import Derived.Lib.Hide
import Derived.RegionTactic
import Derived.Test.YtggblfnajeikjaaGreatDoorRows
import Derived.BigQuiet
import Derived.Deep.QuietTactic
import Derived.Deep.RegionLaw
import Derived.Deep.DeepCutAuto
import Derived.Deep.LoopGhost
import Derived.Deep.RegionHeld3
import Derived.Lib.AppendZeros
import Derived.Test.YtggblfnajeikjaaGreatDoorJ1
import Derived.Test.YtggblfnajeikjaaGreatDoorJ6
import Derived.Test.YtggblfnajeikjaaGreatDoorJ7
import Derived.Test.YtggblfnajeikjaaGreatDoorJ9
import Derived.Test.YtggblfnajeikjaaGreatDoorJ10
import Derived.Test.YtggblfnajeikjaaGreatDoorJ14
import Derived.Test.YtggblfnajeikjaaGreatDoorJ16
import Derived.Test.YtggblfnajeikjaaGreatDoorJ19
import Derived.Test.YtggblfnajeikjaaGreatDoorJ24
namespace Go.Proofs.YtggblfnajeikjaaGreatDoor
open Go.RowKit
set_option linter.unusedVariables false
set_option linter.unusedSimpArgs false

set_option maxRecDepth 100000 in
set_option maxHeartbeats 4000000 in
theorem i_setStep (h : Nat) (hh : 2 ≤ h) (hh4 : h ≤ 4) (R : (Nat → Nat) → List Int) (hR : ∀ x, (R x).length ≤ 100)
    (IH : ∀ (v : Value) (x : Nat → Nat) (w : World), Rd w v (ints (natA h x)) → Ord h x → Calls Tryz.prog 93 #[v] w (RetOwn 3 (ints (R x)) w))
    (v : Value) (x : Nat → Nat) (w : World) (hr : Rd w v (ints (natA (2 * h) x))) (H : Ord (2 * h) x) :
    Calls Tryz.prog 93 #[v] w (RetOwn 3 (ints (natA h (finS h x).first ++ R (finS h x).up ++ R (finS h x).low ++ natA h (finS h x).last)) w) := by
  obtain ⟨a, c, rfl, hnc, hc⟩ := hr.formi
  rw [natA_len] at hr hnc ⊢
  obtain ⟨ad, rfl, _⟩ := hr.cell (k := 0) (by rw [ints_length, natA_len]; omega)
  obtain ⟨RES, hRES⟩ : ∃ RES, natA h (finS h x).first ++ R (finS h x).up ++ R (finS h x).low ++ natA h (finS h x).last = RES := ⟨_, rfl⟩
  rw [hRES]
  have HRES := Lib.hid hRES
  clear hRES
  have HI := Lib.hid (i_inverse _ _ x w hr H (by omega))
  have d1 : ((((2 * h : Nat) : Int)) == 1) = false := by rw [beq_eq_false_iff_ne]; omega
  have d2 : ((((2 * h : Nat) : Int)) == 2) = false := by rw [beq_eq_false_iff_ne]; omega
  have d3 : (((2 * h : Nat) : Int)) / 2 = (h : Int) := by omega
  obtain ⟨n, hn⟩ : ∃ n, 2 * h = n := ⟨_, rfl⟩
  rw [hn] at hr d1 d2 d3 HI ⊢
  have HNN := Lib.hid hn
  clear hn
  have hn8 : n ≤ 8 := by have := HNN.out; omega
  go_enter Tryz.func93, Tryz.ntmps93
  go_upto_region 9 with (go_at_call 145; refine HI.out.mono ?_; rintro e w1 ⟨v1, rfl, ho1, hb1⟩; obtain ⟨a1, n1, c1, rfl, HN1, _, _⟩ := ho1.rd.formN)
  have h1n : n1 = n := by have := HN1.out; rw [natA_len] at this; exact this
  subst h1n
  obtain ⟨ba, rfl⟩ := ho1.some_of (by rw [ints_length, natA_len]; omega)
  have hO : OwnsL w1 3 w.heap.size [(.slice (some ba) n1 c1, natA n1 (invF n1 x))] := by simpa using OwnsL.snoc (OwnsL.nil w 3 w.heap.size) hb1 (Nat.le_refl _) ho1
  have hsz := hb1.size
  obtain ⟨Z, hZl, hmk⟩ := mk_ints h (by omega)
  have hZs : Z.size = h := by have := congrArg List.length hZl; simpa using this
  rw [natA_zero] at hZl
  have hh8 : 8 * h ≤ 281474976710656 := by omega
  have hh9 : h ≤ 9223372036854775807 := by omega
  go_cut [6, 7] (fun v6 v7 wx => ∃ b6 b7 : Addr, v6 = .slice (some b6) h h ∧ v7 = .slice (some b7) h h ∧ OwnsL wx 3 w.heap.size [(.slice (some ba) n1 c1, natA n1 (invF n1 x)), (.slice (some b6) h h, natA h fun _ => 0), (.slice (some b7) h h, natA h fun _ => 0)] ∧ Below w.heap.size w wx)
  case first =>
    have hbD : Below w.heap.size w (((w1.alloc (.cells Z 3)).alloc (.cells Z 3)).drew) := ((hb1.alloc hsz _).alloc (by simp; omega) _).drew
    have hOD := OwnsL.mk2 hO hsz hZl hZs (by omega)
    go_region
    · go_wp2_with (fail)
      go_meet
      exact ⟨_, _, rfl, rfl, OwnsL.of_heap hOD rfl, hbD⟩
    · go_wp2_with (fail)
      go_meet
      exact ⟨_, _, rfl, rfl, OwnsL.of_heap hOD.swap12 rfl, hbD⟩
  case rest =>
  obtain ⟨b6, b7, rfl, rfl, hO2, hb2⟩ := hcut
  clear hO hb1 ho1
  have hsz2 := hb2.size
  go_upto_region 10 with (fail)
  go_cut [8, 9] (fun v8 v9 wx => ∃ b8 b9 : Addr, v8 = .slice (some b8) h h ∧ v9 = .slice (some b9) h h ∧ OwnsL wx 3 w.heap.size [(.slice (some ba) n1 c1, natA n1 (invF n1 x)), (.slice (some b6) h h, natA h fun _ => 0), (.slice (some b7) h h, natA h fun _ => 0), (.slice (some b8) h h, natA h fun _ => 0), (.slice (some b9) h h, natA h fun _ => 0)] ∧ Below w.heap.size w wx)
  case first =>
    have hbD : Below w.heap.size w (((wc.alloc (.cells Z 3)).alloc (.cells Z 3)).drew) := ((hb2.alloc hsz2 _).alloc (by simp; omega) _).drew
    have hOD := OwnsL.mk2 hO2 hsz2 hZl hZs (by omega)
    go_region
    · go_wp2_with (fail)
      go_meet
      exact ⟨_, _, rfl, rfl, OwnsL.of_heap hOD rfl, hbD⟩
    · go_wp2_with (fail)
      go_meet
      exact ⟨_, _, rfl, rfl, OwnsL.of_heap hOD.swap34 rfl, hbD⟩
  case rest =>
  obtain ⟨b8, b9, rfl, rfl, hO3, hb3⟩ := hcut
  clear hO2 hb2 hsz2 hsz
  have hsz3 := hb3.size
  go_wp2_with (at_make; refine wpList_mk (n := h) (B := w.heap.size) rfl _ _ 127 rfl elB rfl rfl hsz3 (by omega) (by omega) ?_; intro bs w4 hbs4 hos4 hgs4)
  rw [boolA_zero] at hos4
  have hb34 : Below wc.heap.size wc w4 := (Below.refl _ _).grown hgs4 (Nat.le_refl _) (fun _ h => by cases h)
  have HF0 : FMs 3 4 w.heap.size ba b6 b7 b8 b9 bs n1 h c1 x (cycs h x 0) w w4 := ⟨hO3.below hb34, hos4, hb3.trans (hb34.mono hsz3)⟩
  clear hO3 hos4 hb34 hb3 hbs4 hgs4 hsz3 hmk hZl hZs
  go_loopg [43] h (fun g jv wr => ∃ j : Nat, g = h - j ∧ j ≤ h ∧ jv = .int .i64 j ∧ FMs 3 4 w.heap.size ba b6 b7 b8 b9 bs n1 h c1 x (cycs h x j) w wr)
  case atStart => exact ⟨0, rfl, Nat.zero_le _, rfl, HF0⟩
  case round =>
    clear HF0
    obtain ⟨j, hg, hj, rfl, HF⟩ := hrel
    by_cases hlt : j < h
    · have HCY : Hid (cyc (2 * h) x (cntU h (cycs h x j)) (2 * j + 0) (cycs h x j) = cycs h x (j + 1)) := rfl
      generalize cycs h x j = s0 at HF HCY
      obtain ⟨sE, hsE⟩ : ∃ sE, cycs h x (j + 1) = sE := ⟨_, rfl⟩
      have HSE := Lib.hid hsE
      rw [hsE] at HCY
      clear hsE
      go_wp2
      go_loopg [12, 13] (cntU h s0) (fun g kv cv wr => ∃ (K C : Nat) (s : FS), g = cntU h s ∧ K < h ∧ C < 2 ∧ kv = .int .i64 K ∧ cv = .int .i64 C ∧ Hid (cyc (2 * h) x (cntU h s) (2 * K + C) s = sE) ∧ FMs 3 4 w.heap.size ba b6 b7 b8 b9 bs n1 h c1 x s w wr)
      case atStart => exact ⟨j, 0, s0, rfl, hlt, by omega, rfl, rfl, HCY, HF⟩
      case round =>
        clear HF HCY
        obtain ⟨K, C, s, hgk, hK, hC, rfl, rfl, HCY, HF⟩ := hrel
        have hcS := HF.set.rd.boolc (boolA_get s.set hK)
        have hfS := HF.set.frozen rfl K
        cases hset : s.set K
        · rw [hset] at hcS
          obtain ⟨o, ho⟩ : ∃ o, 2 * K + C = o := ⟨_, rfl⟩
          have hon : o < n1 := by have := HNN.out; omega
          have hoK : o / 2 = K := by omega
          have hoC : o % 2 = C := by omega
          have hX8 : x o < n1 := by have := HNN.out; have := H.lx o (by omega); omega
          have hXP : par (x o) < n1 := by have := HNN.out; have := par_lt (a := x o) (h := h) (by omega); omega
          have hPn : tt n1 x o < n1 := by have h1 := HNN.out; have h2 := H.tt_lt (o := o) (by omega); rw [h1] at h2; exact h2
          have HCO : Hid (∀ W : World, Below w.heap.size w W → W.cell? (ad.add o) = some (.int .i64 ((x o : Nat) : Int))) := fun W hW => (hr.below hW).cell_int' (natA_get x hon)
          have hAt := HF.own.o0.rd
          dsimp only at hAt
          have hxx := xor_par (x o) (by omega)
          have HPUT : Hid (fput (2 * h) x s o = ⟨upd s.set K true, upd s.last K C, upd s.first (x o / 2) (x o % 2), upd s.up K (x o / 2), upd s.low (tt n1 x o / 2) (x o / 2)⟩) := by
            rw [Hid, fput, hoK, hoC, ff, par_half, HNN.out]
          have HGO : Hid (cyc (2 * h) x (cntU h s) o s = cyc (2 * h) x (cntU h (fput (2 * h) x s o)) (par (tt n1 x o)) (fput (2 * h) x s o)) := by
            have := cyc_go (n := 2 * h) (x := x) (o := o) (s := s) (h := h) (by omega) (by rw [hoK]; exact hset)
            rw [ff, HNN.out] at this
            rw [Hid, HNN.out]
            exact this
          have HCN : Hid (cntU h (fput (2 * h) x s o) + 1 = cntU h s) := cnt_put (by omega) (by rw [hoK]; exact hset)
          have hPc : (natA n1 (invF n1 x))[par (x o)]? = some ((tt n1 x o : Nat) : Int) := natA_get _ hXP
          generalize tt n1 x o = P at hPn HPUT HGO hPc
          generalize hXe : x o = X at hX8 hXP HCO hxx HPUT hPc
          generalize hXPe : par X = XP at hXP hxx hPc
          generalize fput (2 * h) x s o = s' at HPUT HGO HCN
          have ho2 : (2 * (K : Int) + (C : Int)) = (o : Int) := by omega
          obtain ⟨X2, hX2⟩ : ∃ X2, X / 2 = X2 := ⟨_, rfl⟩
          obtain ⟨XM, hXM⟩ : ∃ XM, X % 2 = XM := ⟨_, rfl⟩
          obtain ⟨P2, hP2⟩ : ∃ P2, P / 2 = P2 := ⟨_, rfl⟩
          obtain ⟨PC, hPC⟩ : ∃ PC, 1 - P % 2 = PC := ⟨_, rfl⟩
          rw [hX2, hXM, hP2] at HPUT
          have e1 : (X : Int) / 2 = (X2 : Int) := by omega
          have e2 : (X : Int) % 2 = (XM : Int) := by omega
          have e3 : (P : Int) / 2 = (P2 : Int) := by omega
          have e4 : 1 - (P : Int) % 2 = (PC : Int) := by omega
          have hX2h : X2 < h := by have := HNN.out; omega
          have hP2h : P2 < h := by have := HNN.out; omega
          have hPC2 : PC < 2 := by omega
          have HPP : Hid (par P = 2 * P2 + PC) := by rw [Hid, par]; omega
          clear hset hXe hXPe hX2 hXM hP2 hPC
          have H1 := FM.stS HF (by decide) (show K < (boolA h s.set).length by rw [boolA_len]; exact hK) true
          have H2 := FM.stL H1 (by decide) (show K < (natA h s.last).length by rw [natA_len]; exact hK) (C : Int)
          have H3 := FM.stU H2 (by decide) (show K < (natA h s.up).length by rw [natA_len]; exact hK) (X2 : Int)
          have H4 := FM.stF H3 (by decide) (show X2 < (natA h s.first).length by rw [natA_len]; exact hX2h) (XM : Int)
          have H5 := FM.stW H4 (by decide) (show P2 < (natA h s.low).length by rw [natA_len]; exact hP2h) (X2 : Int)
          have cL := H1.own.o2.rd.cell_int' (natA_get s.last hK)
          have fL := H1.own.o2.frozen rfl K
          have cO := HCO.out _ H2.bel
          have cU := H2.own.o3.rd.cell_int' (natA_get s.up hK)
          have fU := H2.own.o3.frozen rfl K
          have cF := H3.own.o1.rd.cell_int' (natA_get s.first hX2h)
          have fF := H3.own.o1.frozen rfl X2
          have cA := H4.own.o0.rd.cell_int' hPc
          have cW := H4.own.o4.rd.cell_int' (natA_get s.low hP2h)
          have fW := H4.own.o4.frozen rfl P2
          have HH5 : Hid (FMs 3 4 w.heap.size ba b6 b7 b8 b9 bs n1 h c1 x s' w (((((wr.setCell (bs.add K) (.bool true)).setCell (b7.add K) (.int .i64 (C : Int))).setCell (b8.add K) (.int .i64 (X2 : Int))).setCell (b6.add X2) (.int .i64 (XM : Int))).setCell (b9.add P2) (.int .i64 (X2 : Int)))) := by
            have := H5
            rw [natA_set, natA_set, natA_set, natA_set, boolA_set] at this
            rw [Hid, HPUT.out]
            exact this
          clear H1 H2 H3 H4 H5 HPUT
          have HCY2 : Hid (cyc (2 * h) x (cntU h s') (2 * P2 + PC) s' = sE) := by rw [Hid, ← HPP.out, ← HGO.out, ← ho, HCY.out]
          have hcn : cntU h s' < cntU h s := by have := HCN.out; omega
          go_wp2
          go_roundg (cntU h s')
          case measure => omega
          case rel => exact ⟨P2, PC, s', rfl, hP2h, hPC2, rfl, rfl, HCY2, HH5.out⟩
        · rw [hset] at hcS
          have HE : Hid (s = sE) := by rw [Hid, ← HCY.out, cyc_stop _ (by rw [show (2 * K + C) / 2 = K by omega]; exact hset)]
          clear hset
          go_wp2
          go_roundg (h - (j + 1))
          case measure => omega
          case rel => exact ⟨j + 1, rfl, by omega, by go_num, by rw [HSE.out, ← HE.out]; exact HF⟩
    · obtain rfl : j = h := Nat.le_antisymm hj (Nat.le_of_not_lt hlt)
      have HFD := Lib.hid (fin_up H (cycs_FD H j (Nat.le_refl _)).1 (cycs_FD H j (Nat.le_refl _)).2)
      have HZ : Hid (finS j x = cycs j x j) := rfl
      rw [HZ.out] at HRES
      generalize cycs j x j = z at HF HFD HRES
      clear HZ
      have hru := HF.own.o3.rd
      have hrw := HF.own.o4.rd
      have hrf := HF.own.o1.rd
      have hrl := HF.own.o2.rd
      dsimp only at hru hrw hrf hrl
      have hbw := HF.bel
      have HU := Lib.hid (fun (W : World) (hW : Below wr.heap.size wr W) => IH _ z.up W ((hru.keep fun p hp _ => hW.cell hp)) HFD.out.1)
      have HW := Lib.hid (fun (W : World) (hW : Below wr.heap.size wr W) => IH _ z.low W ((hrw.keep fun p hp _ => hW.cell hp)) HFD.out.2)
      have hUl := hR z.up
      have hWl := hR z.low
      have HFL : Hid ([natA j z.first, R z.up, R z.low, natA j z.last].flatten = RES) := by rw [Hid, ← HRES.out]; simp
      have HTT : Hid (tot [natA j z.first, R z.up, R z.low, natA j z.last] ≤ 1000000) := by simp [Hid, tot, natA_len]; omega
      clear HF IH HFD hR H HRES
      generalize R z.up = RU at *
      generalize R z.low = RL at *
      go_wp2_with (first
        | (go_at_call 93; (with_reducible refine (HU.out _ (Below.refl _ _)).mono ?_); rintro e w5 ⟨v5, rfl, ho5, hb5⟩; obtain ⟨a5, m5, c5, rfl, _, _, _⟩ := ho5.rd.formN)
        | (go_at_call 93; (with_reducible refine (HW.out _ hb5).mono ?_); rintro e w6 ⟨v6, rfl, ho6, hb6⟩; obtain ⟨a6, m6, c6, rfl, _, _, _⟩ := ho6.rd.formN; have hb56 := hb5.trans (hb6.mono hb5.size); have hA := (Below.refl w6.heap.size w6).alloc (Nat.le_refl _) (.cells #[.slice (some b6) j j, .slice a5 m5 c5, .slice a6 m6 c6, .slice (some b7) j j] 23)))
      refine (f_Concat _ _ _ (Rd2.of4 (heap_alloc_new w6 _) ((hrf.below hb56).below hA) ((ho5.rd.below hb6).below hA) (ho6.rd.below hA) ((hrl.below hb56).below hA)) HTT.out).mono ?_
      rintro e w8 ⟨v8, rfl, ho8, hb8⟩
      go_wp2_with fail
      have hb58 := hb56.trans ((hA.mono hb56.size).trans (hb8.mono (by have := hb56.size; simp; omega)))
      go_ret
      exact ⟨_, rfl, by rw [← HFL.out]; exact ho8.mono (by have := hbw.size; have := hb56.size; simp; omega), hbw.trans (hb58.mono hbw.size)⟩

theorem i_setTwo (v : Value) (x : Nat → Nat) (w : World) (hr : Rd w v (ints (natA 2 x))) : Calls Tryz.prog 93 #[v] w (RetOwn 3 (ints [((x 0 : Nat) : Int)]) w) := by
  obtain ⟨a, c, rfl, hnc, hc⟩ := hr.formi
  rw [natA_len] at hr hnc ⊢
  obtain ⟨ad, rfl, _⟩ := hr.cell (k := 0) (by rw [ints_length, natA_len]; omega)
  have hx := hr.cell_int' (natA_get x (show 0 < 2 by omega))
  have hx' : w.cell? ad = some (.int .i64 ((x 0 : Nat) : Int)) := by simpa [Addr.add] using hx
  generalize x 0 = X at hx hx' ⊢
  go_enter Tryz.func93, Tryz.ntmps93
  go_wp2
  go_ret
  exact ⟨_, rfl, Own.lit w 3 w.heap.size #[.int .i64 (X : Int)] (Nat.le_refl _) (by simp), (Below.refl _ _).alloc (Nat.le_refl _) _⟩
theorem setL_len : ∀ (d : Nat) (x : Nat → Nat), d ≤ 2 → (setL d x).length ≤ 20
  | 0, x, _ => by simp [setL]
  | 1, x, _ => by simp [setL, atL_length]
  | 2, x, _ => by simp [setL, atL_length]
  | d + 3, x, h => by omega
theorem i_settingsFor : ∀ (d : Nat), d ≤ 2 → ∀ (v : Value) (x : Nat → Nat) (w : World), Rd w v (ints (natA (2 ^ (d + 1)) x)) → Ord (2 ^ (d + 1)) x → Calls Tryz.prog 93 #[v] w (RetOwn 3 (ints (setL d x)) w)
  | 0, _, v, x, w, hr, _ => i_setTwo v x w hr
  | d + 1, hd, v, x, w, hr, H => by
    have e : 2 ^ (d + 1 + 1) = 2 * 2 ^ (d + 1) := by rw [Nat.pow_succ]; omega
    rw [e] at hr H
    have h2 : 2 ≤ 2 ^ (d + 1) ∧ 2 ^ (d + 1) ≤ 4 := by
      match d, hd with
      | 0, _ => decide
      | 1, _ => decide
      | d + 2, h => omega
    exact i_setStep (2 ^ (d + 1)) h2.1 h2.2 (setL d) (fun x => by have := setL_len d x (by omega); omega) (fun v x w h1 h2 => i_settingsFor d (by omega) v x w h1 h2) v x w hr H

end Go.Proofs.YtggblfnajeikjaaGreatDoor

namespace Go.Proofs.YtggblfnajeikjaaGreatDoor
open Go.RowKit
set_option linter.unusedVariables false
set_option linter.unusedSimpArgs false

structure FG (E EB B : Nat) (ba bf bl bs : Addr) (n h ca : Nat) (A F L : List Int) (S : List Bool) (w0 w : World) : Prop where
  own : OwnsL w E B [(.slice (some ba) n ca, A), (.slice (some bf) h h, F), (.slice (some bl) h h, L)]
  set : Own w EB B (.slice (some bs) h h) (bools S)
  bel : Below B w0 w
section
variable {E EB B n h ca k : Nat} {ba bf bl bs : Addr} {A F L : List Int} {S : List Bool} {w0 w : World}
theorem FG.stS (H : FG E EB B ba bf bl bs n h ca A F L S w0 w) (hne : E ≠ EB) (hk : k < S.length) (b : Bool) : FG E EB B ba bf bl bs n h ca A F L (S.set k b) w0 (w.setCell (bs.add k) (.bool b)) := by
  have hs := H.set.set rfl (show k < (bools S).length by rw [bools_len]; exact hk) (.bool b)
  rw [bools_set] at hs
  refine ⟨H.own.setB H.set hne k _, hs.1, H.bel.setCell ?_ _⟩
  rw [block_of_add]
  exact (H.set.lt _ rfl).1
theorem FG.stF (H : FG E EB B ba bf bl bs n h ca A F L S w0 w) (hne : E ≠ EB) (hk : k < F.length) (y : Int) : FG E EB B ba bf bl bs n h ca A (F.set k y) L S w0 (w.setCell (bf.add k) (.int .i64 y)) := by
  refine ⟨H.own.st1 hk y, H.set.setCell (fun e => H.set.elem_ne H.own.o1 hne.symm _ e (by rw [block_of_add]; rfl)) _, H.bel.setCell ?_ _⟩
  rw [block_of_add]
  exact (H.own.o1.lt _ rfl).1
theorem FG.stL (H : FG E EB B ba bf bl bs n h ca A F L S w0 w) (hne : E ≠ EB) (hk : k < L.length) (y : Int) : FG E EB B ba bf bl bs n h ca A F (L.set k y) S w0 (w.setCell (bl.add k) (.int .i64 y)) := by
  refine ⟨H.own.st2 hk y, H.set.setCell (fun e => H.set.elem_ne H.own.o2 hne.symm _ e (by rw [block_of_add]; rfl)) _, H.bel.setCell ?_ _⟩
  rw [block_of_add]
  exact (H.own.o2.lt _ rfl).1
end
end Go.Proofs.YtggblfnajeikjaaGreatDoor
