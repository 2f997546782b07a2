/- Walks: settings by loops, in the reference. -/
import Derived.Test.YtlmbaijkeahkfaaDoorFabB
import Derived.Deep.DeepCutAuto
import Derived.Deep.RegionLaw
namespace Go.Proofs.YtlmbaijkeahkfaaDoor
open Go.RowKit
set_option linter.unusedVariables false
set_option linter.unusedSimpArgs false

structure FG (E EB B : Nat) (ba bf bl bs : Addr) (n h ca : Nat) (A F L : List Int) (S : List Bool) (w0 w : World) : Prop where
  own : OwnsL w E B [(.slice (some ba) n ca, A), (.slice (some bf) h h, F), (.slice (some bl) h h, L)]
  set : Own w EB B (.slice (some bs) h h) (bools S)
  bel : Below B w0 w
section
variable {E EB B n h ca k : Nat} {ba bf bl bs : Addr} {A F L : List Int} {S : List Bool} {w0 w : World}
theorem FG.stS (H : FG E EB B ba bf bl bs n h ca A F L S w0 w) (hne : E ≠ EB) (hk : k < S.length) (b : Bool) : FG E EB B ba bf bl bs n h ca A F L (S.set k b) w0 (w.setCell (bs.add k) (.bool b)) := by
  have hs := H.set.set rfl (show k < (bools S).length by rw [bools_len]; exact hk) (.bool b)
  rw [bools_set] at hs
  refine ⟨H.own.setB H.set hne k _, hs.1, H.bel.setCell ?_ _⟩
  rw [block_of_add]
  exact (H.set.lt _ rfl).1
theorem FG.stF (H : FG E EB B ba bf bl bs n h ca A F L S w0 w) (hne : E ≠ EB) (hk : k < F.length) (y : Int) : FG E EB B ba bf bl bs n h ca A (F.set k y) L S w0 (w.setCell (bf.add k) (.int .i64 y)) := by
  refine ⟨H.own.st1 hk y, H.set.setCell (fun e => H.set.elem_ne H.own.o1 hne.symm _ e (by rw [block_of_add]; rfl)) _, H.bel.setCell ?_ _⟩
  rw [block_of_add]
  exact (H.own.o1.lt _ rfl).1
theorem FG.stL (H : FG E EB B ba bf bl bs n h ca A F L S w0 w) (hne : E ≠ EB) (hk : k < L.length) (y : Int) : FG E EB B ba bf bl bs n h ca A F (L.set k y) S w0 (w.setCell (bl.add k) (.int .i64 y)) := by
  refine ⟨H.own.st2 hk y, H.set.setCell (fun e => H.set.elem_ne H.own.o2 hne.symm _ e (by rw [block_of_add]; rfl)) _, H.bel.setCell ?_ _⟩
  rw [block_of_add]
  exact (H.own.o2.lt _ rfl).1
end
def FGs (E EB B : Nat) (ba bf bl bs : Addr) (n h ca : Nat) (x : Nat → Nat) (s : FS) (w0 w : World) : Prop :=
  FG E EB B ba bf bl bs n h ca (natA n (invF n x)) (natA h s.first) (natA h s.last) (boolA h s.set) w0 w
def uptoF (i : Nat) (f : Nat → Nat) : Nat → Nat := fun k => if k < i then f k else 0
theorem uptoF_zero (f : Nat → Nat) : uptoF 0 f = fun _ => 0 := by funext k; simp [uptoF]
theorem uptoF_succ (h i : Nat) (f : Nat → Nat) : natA h (upd (uptoF i f) i (f i)) = natA h (uptoF (i + 1) f) := natA_congr fun k _ => by
  unfold upd uptoF
  by_cases e : k = i
  · subst e; simp
  · rw [if_neg e]
    by_cases e2 : k < i
    · rw [if_pos e2, if_pos (by omega)]
    · rw [if_neg e2, if_neg (by omega)]
theorem uptoF_all (h : Nat) (f : Nat → Nat) : natA h (uptoF h f) = natA h f := natA_congr fun k hk => by rw [uptoF, if_pos hk]

set_option maxRecDepth 100000 in
set_option maxHeartbeats 4000000 in
theorem s_setStep (h : Nat) (hh : 2 ≤ h) (hh4 : h ≤ 4) (R : (Nat → Nat) → List Int) (hR : ∀ x, (R x).length ≤ 100)
    (IH : ∀ (v : Value) (x : Nat → Nat) (w : World), Rd w v (ints (natA h x)) → Ord h x → Calls Tryd.prog 53 #[v] w (RetOwn 3 (ints (R x)) w))
    (v : Value) (x : Nat → Nat) (w : World) (hr : Rd w v (ints (natA (2 * h) x))) (H : Ord (2 * h) x) :
    Calls Tryd.prog 53 #[v] w (RetOwn 3 (ints (natA h (finS h x).first ++ R (finS h x).up ++ R (finS h x).low ++ natA h (finS h x).last)) w) := by
  obtain ⟨a, c, rfl, hnc, hc⟩ := hr.formi
  rw [natA_len] at hr hnc ⊢
  obtain ⟨ad, rfl, _⟩ := hr.cell (k := 0) (by rw [ints_length, natA_len]; omega)
  obtain ⟨RES, hRES⟩ : ∃ RES, natA h (finS h x).first ++ R (finS h x).up ++ R (finS h x).low ++ natA h (finS h x).last = RES := ⟨_, rfl⟩
  rw [hRES]
  have HRES := Lib.hid hRES
  clear hRES
  have HI := Lib.hid (s_l14Inverse _ _ x w hr H (by omega))
  have d1 : ((((2 * h : Nat) : Int)) == 1) = false := by rw [beq_eq_false_iff_ne]; omega
  have d2 : ((((2 * h : Nat) : Int)) == 2) = false := by rw [beq_eq_false_iff_ne]; omega
  have d3 : (((2 * h : Nat) : Int)) / 2 = (h : Int) := by omega
  obtain ⟨n, hn⟩ : ∃ n, 2 * h = n := ⟨_, rfl⟩
  rw [hn] at hr d1 d2 d3 HI ⊢
  have HNN := Lib.hid hn
  clear hn
  have hn8 : n ≤ 8 := by have := HNN.out; omega
  go_enter Tryd.func53, Tryd.ntmps53
  go_upto_region 8 with (go_at_call 81; refine HI.out.mono ?_; rintro e w1 ⟨v1, rfl, ho1, hb1⟩; obtain ⟨a1, n1, c1, rfl, HN1, _, _⟩ := ho1.rd.formN)
  have h1n : n1 = n := by have := HN1.out; rw [natA_len] at this; exact this
  subst h1n
  obtain ⟨ba, rfl⟩ := ho1.some_of (by rw [ints_length, natA_len]; omega)
  have hO : OwnsL w1 3 w.heap.size [(.slice (some ba) n1 c1, natA n1 (invF n1 x))] := by simpa using OwnsL.snoc (OwnsL.nil w 3 w.heap.size) hb1 (Nat.le_refl _) ho1
  have hsz := hb1.size
  have hh8 : 8 * h ≤ 281474976710656 := by omega
  have hh9 : h ≤ 9223372036854775807 := by omega
  go_upto_region 9 with (at_make; refine wpList_mk (n := h) (B := w1.heap.size) rfl _ _ 22 rfl elI rfl rfl (Nat.le_refl _) hh8 hh9 ?_; intro b6 w2 hq2 hos2 hgs2)
  rw [natA_zero] at hos2
  have hb12 : Below w1.heap.size w1 w2 := (Below.refl _ _).grown hgs2 (Nat.le_refl _) (fun _ h => by cases h)
  have hO2 := hO.snoc hb12 hsz hos2
  have hbw2 := hb1.trans (hb12.mono hsz)
  have hsz2 := hbw2.size
  clear hO ho1 hq2 hgs2 hb12 hb1 hsz hos2
  go_upto_region 10 with (at_make; refine wpList_mk (n := h) (B := w2.heap.size) rfl _ _ 22 rfl elI rfl rfl (Nat.le_refl _) hh8 hh9 ?_; intro b7 w3 hq2 hos2 hgs2)
  rw [natA_zero] at hos2
  have hb12 : Below w2.heap.size w2 w3 := (Below.refl _ _).grown hgs2 (Nat.le_refl _) (fun _ h => by cases h)
  have hO3 := hO2.snoc hb12 hsz2 hos2
  simp only [List.singleton_append, List.cons_append, List.nil_append] at hO3
  have hbw3 := hbw2.trans (hb12.mono hsz2)
  have hsz3 := hbw3.size
  clear hO2 hq2 hgs2 hb12 hbw2 hsz2 hos2
  go_wp2_with (at_make; refine wpList_mk (n := h) (B := w.heap.size) rfl _ _ 65 rfl elB rfl rfl hsz3 (by omega) (by omega) ?_; intro bs w4 hbs4 hos4 hgs4)
  rw [boolA_zero] at hos4
  have hb34 : Below w3.heap.size w3 w4 := (Below.refl _ _).grown hgs4 (Nat.le_refl _) (fun _ h => by cases h)
  have HF0 : FGs 3 4 w.heap.size ba b6 b7 bs n1 h c1 x (cycs h x 0) w w4 := ⟨hO3.below hb34, hos4, hbw3.trans (hb34.mono hsz3)⟩
  clear hO3 hos4 hb34 hbw3 hbs4 hgs4 hsz3
  go_loopg [9, 10] h (fun g jv ov wr => ∃ j : Nat, g = h - j ∧ j ≤ h ∧ jv = .int .i64 j ∧ FGs 3 4 w.heap.size ba b6 b7 bs n1 h c1 x (cycs h x j) w wr)
  case atStart => exact ⟨0, rfl, Nat.zero_le _, rfl, HF0⟩
  case round =>
    clear HF0
    obtain ⟨j, hg, hj, rfl, HF⟩ := hrel
    by_cases hlt : j < h
    · have HCY : Hid (cyc (2 * h) x (cntU h (cycs h x j)) (2 * j) (cycs h x j) = cycs h x (j + 1)) := rfl
      generalize cycs h x j = s0 at HF HCY
      obtain ⟨sE, hsE⟩ : ∃ sE, cycs h x (j + 1) = sE := ⟨_, rfl⟩
      have HSE := Lib.hid hsE
      rw [hsE] at HCY
      clear hsE
      have hcS := HF.set.rd.boolc (boolA_get s0.set hlt)
      cases hset0 : s0.set j
      · rw [hset0] at hcS
        obtain ⟨j2, hj2⟩ : ∃ j2, 2 * j = j2 := ⟨_, rfl⟩
        rw [hj2] at HCY
        have ej : 2 * (j : Int) = (j2 : Int) := by omega
        have hj2n : j2 < n1 := by have := HNN.out; omega
        clear hset0 hj2
        go_wp2
        clear hcS
        go_loopg [10, 11] (cntU h s0) (fun g ov iv wr => ∃ (o : Nat) (s : FS), g = cntU h s ∧ o < n1 ∧ ov = .int .i64 o ∧ Hid (cyc (2 * h) x (cntU h s) o s = sE) ∧ FGs 3 4 w.heap.size ba b6 b7 bs n1 h c1 x s w wr)
        case atStart => exact ⟨j2, s0, rfl, hj2n, rfl, HCY, HF⟩
        case round =>
          clear HF HCY
          obtain ⟨o, s, hgk, hon, rfl, HCY, HF⟩ := hrel
          obtain ⟨K, hoK⟩ : ∃ K, o / 2 = K := ⟨_, rfl⟩
          obtain ⟨C, hoC⟩ : ∃ C, o % 2 = C := ⟨_, rfl⟩
          have hK : K < h := by have := HNN.out; omega
          have eK : (o : Int) / 2 = (K : Int) := by omega
          have eC : (o : Int) % 2 = (C : Int) := by omega
          have hcS := HF.set.rd.boolc (boolA_get s.set hK)
          cases hset : s.set K
          · rw [hset] at hcS
            have hX8 : x o < n1 := by have := HNN.out; have := H.lx o (by omega); omega
            have hXP : par (x o) < n1 := by have := HNN.out; have := par_lt (a := x o) (h := h) (by omega); omega
            have hPn : tt n1 x o < n1 := by have h1 := HNN.out; have h2 := H.tt_lt (o := o) (by omega); rw [h1] at h2; exact h2
            have HCO : Hid (∀ W : World, Below w.heap.size w W → W.cell? (ad.add o) = some (.int .i64 ((x o : Nat) : Int))) := fun W hW => (hr.below hW).cell_int' (natA_get x hon)
            have hxx := xor_par (x o) (by omega)
            have hpp := xor_par (tt n1 x o) (by omega)
            have hppn : par (tt n1 x o) < n1 := by have := HNN.out; have := par_lt (a := tt n1 x o) (h := h) (by omega); omega
            have HPUT : Hid (natA h (fput (2 * h) x s o).first = natA h (upd s.first (x o / 2) (x o % 2)) ∧ natA h (fput (2 * h) x s o).last = natA h (upd s.last K C) ∧ boolA h (fput (2 * h) x s o).set = boolA h (upd s.set K true)) := by
              rw [Hid, fput, hoK, hoC]
              exact ⟨rfl, rfl, rfl⟩
            have HGO : Hid (cyc (2 * h) x (cntU h s) o s = cyc (2 * h) x (cntU h (fput (2 * h) x s o)) (par (tt n1 x o)) (fput (2 * h) x s o)) := by
              have := cyc_go (n := 2 * h) (x := x) (o := o) (s := s) (h := h) (by omega) (by rw [hoK]; exact hset)
              rw [ff, HNN.out] at this
              rw [Hid, HNN.out]
              exact this
            have HCN : Hid (cntU h (fput (2 * h) x s o) + 1 = cntU h s) := cnt_put (by omega) (by rw [hoK]; exact hset)
            have hPc : (natA n1 (invF n1 x))[par (x o)]? = some ((tt n1 x o : Nat) : Int) := natA_get _ hXP
            generalize tt n1 x o = P at hPn HGO hPc hpp hppn
            generalize hXe : x o = X at hX8 hXP HCO hxx HPUT hPc
            generalize hXPe : par X = XP at hXP hxx hPc
            generalize par P = PP at hpp hppn HGO
            generalize fput (2 * h) x s o = s' at HPUT HGO HCN
            obtain ⟨X2, hX2⟩ : ∃ X2, X / 2 = X2 := ⟨_, rfl⟩
            obtain ⟨XM, hXM⟩ : ∃ XM, X % 2 = XM := ⟨_, rfl⟩
            rw [hX2, hXM] at HPUT
            have e1 : (X : Int) / 2 = (X2 : Int) := by omega
            have e2 : (X : Int) % 2 = (XM : Int) := by omega
            have hX2h : X2 < h := by have := HNN.out; omega
            clear hset hXe hXPe hX2 hXM hoK hoC
            have H1 := FG.stL HF (by decide) (show K < (natA h s.last).length by rw [natA_len]; exact hK) (C : Int)
            have H2 := FG.stS H1 (by decide) (show K < (boolA h s.set).length by rw [boolA_len]; exact hK) true
            have H3 := FG.stF H2 (by decide) (show X2 < (natA h s.first).length by rw [natA_len]; exact hX2h) (XM : Int)
            have cL := HF.own.o2.rd.cell_int' (natA_get s.last hK)
            have fL := HF.own.o2.frozen rfl K
            have cS1 := H1.set.rd.boolc (boolA_get s.set hK)
            have fS1 := H1.set.frozen rfl K
            have cO := HCO.out _ H2.bel
            have cF := H2.own.o1.rd.cell_int' (natA_get s.first hX2h)
            have fF := H2.own.o1.frozen rfl X2
            have cA := H3.own.o0.rd.cell_int' hPc
            have HH5 : Hid (FGs 3 4 w.heap.size ba b6 b7 bs n1 h c1 x s' w (((wr.setCell (b7.add K) (.int .i64 (C : Int))).setCell (bs.add K) (.bool true)).setCell (b6.add X2) (.int .i64 (XM : Int)))) := by
              have := H3
              rw [natA_set, natA_set, boolA_set] at this
              rw [Hid, FGs, HPUT.out.1, HPUT.out.2.1, HPUT.out.2.2]
              exact this
            clear H1 H2 H3 HPUT
            have HCY2 : Hid (cyc (2 * h) x (cntU h s') PP s' = sE) := by rw [Hid, ← HGO.out, HCY.out]
            have hcn : cntU h s' < cntU h s := by have := HCN.out; omega
            go_wp2
            go_roundg (cntU h s')
            case measure => omega
            case rel => exact ⟨PP, s', rfl, hppn, rfl, HCY2, HH5.out⟩
          · rw [hset] at hcS
            have HE : Hid (s = sE) := by rw [Hid, ← HCY.out, cyc_stop _ (by rw [hoK]; exact hset)]
            clear hset
            go_wp2
            go_roundg (h - (j + 1))
            case measure => omega
            case rel => exact ⟨j + 1, rfl, by omega, by go_num, by rw [HSE.out, ← HE.out]; exact HF⟩
      · rw [hset0] at hcS
        have HE : Hid (s0 = sE) := by rw [Hid, ← HCY.out, cyc_stop _ (by rw [show 2 * j / 2 = j by omega]; exact hset0)]
        clear hset0
        go_wp2
        go_roundg (h - (j + 1))
        case measure => omega
        case rel => exact ⟨j + 1, rfl, by omega, by go_num, by rw [HSE.out, ← HE.out]; exact HF⟩
    · obtain rfl : j = h := Nat.le_antisymm hj (Nat.le_of_not_lt hlt)
      have HFD := Lib.hid (fin_up H (cycs_FD H j (Nat.le_refl _)).1 (cycs_FD H j (Nat.le_refl _)).2)
      have HZF : Hid (∀ k, k < j → (cycs j x j).last k < 2 ∧ (cycs j x j).up k = x (2 * k + (cycs j x j).last k) / 2 ∧ (cycs j x j).low k = x (2 * k + 1 - (cycs j x j).last k) / 2) := fun k hk => by
        obtain ⟨D, hall⟩ := cycs_FD H j (Nat.le_refl _)
        exact ⟨D.base.lb k hk (hall k hk), D.base.up k hk (hall k hk), D.low k hk (hall k hk)⟩
      have HZ : Hid (finS j x = cycs j x j) := rfl
      rw [HZ.out] at HRES
      generalize cycs j x j = z at HF HFD HRES HZF
      clear HZ
      have hO := HF.own
      have hbw := HF.bel
      have hsz := hbw.size
      clear HF
      go_upto_region 23 with (at_make; refine wpList_mk (n := j) (B := wr.heap.size) rfl _ _ 22 rfl elI rfl rfl (Nat.le_refl _) hh8 hh9 ?_; intro b8 w2 hq2 hos2 hgs2)
      rw [natA_zero] at hos2
      have hb12 : Below wr.heap.size wr w2 := (Below.refl _ _).grown hgs2 (Nat.le_refl _) (fun _ h => by cases h)
      have hO2 := hO.snoc hb12 hsz hos2
      have hbw2 := hbw.trans (hb12.mono hsz)
      have hsz2 := hbw2.size
      clear hO hq2 hgs2 hb12 hbw hsz hos2
      go_upto_region 24 with (at_make; refine wpList_mk (n := j) (B := w2.heap.size) rfl _ _ 22 rfl elI rfl rfl (Nat.le_refl _) hh8 hh9 ?_; intro b9 w3 hq2 hos2 hgs2)
      rw [natA_zero] at hos2
      have hb12 : Below w2.heap.size w2 w3 := (Below.refl _ _).grown hgs2 (Nat.le_refl _) (fun _ h => by cases h)
      have hO3 := hO2.snoc hb12 hsz2 hos2
      simp only [List.singleton_append, List.cons_append, List.nil_append] at hO3
      have hbw3 := hbw2.trans (hb12.mono hsz2)
      clear hO2 hq2 hgs2 hb12 hbw2 hsz2 hos2
      have HRX := Lib.hid (fun (W : World) (hW : Below w.heap.size w W) (o : Nat) (ho : o < n1) => (hr.below hW).cell_int' (natA_get x ho))
      rw [← uptoF_zero z.up] at hO3
      have hO4 : OwnsL w3 3 w.heap.size [(.slice (some ba) n1 c1, natA n1 (invF n1 x)), (.slice (some b6) j j, natA j z.first), (.slice (some b7) j j, natA j z.last), (.slice (some b8) j j, natA j (uptoF 0 z.up)), (.slice (some b9) j j, natA j (uptoF 0 z.low))] := by
        rw [uptoF_zero] at hO3 ⊢
        rw [uptoF_zero]
        exact hO3
      clear hO3
      go_wp2
      go_loopg [14] j (fun g iv wr => ∃ i : Nat, g = j - i ∧ i ≤ j ∧ iv = .int .i64 i ∧ OwnsL wr 3 w.heap.size [(.slice (some ba) n1 c1, natA n1 (invF n1 x)), (.slice (some b6) j j, natA j z.first), (.slice (some b7) j j, natA j z.last), (.slice (some b8) j j, natA j (uptoF i z.up)), (.slice (some b9) j j, natA j (uptoF i z.low))] ∧ Below w.heap.size w wr)
      case atStart => exact ⟨0, rfl, Nat.zero_le _, rfl, hO4, hbw3⟩
      case round =>
        clear hO4 hbw3
        obtain ⟨i, hg, hi, rfl, hO, hb⟩ := hrel
        by_cases hlt : i < j
        · obtain ⟨hl2, hup, hlo⟩ := HZF.out i hlt
          have hub := HFD.out.1.lx i hlt
          have hlb := HFD.out.2.lx i hlt
          have hU := (hO.o3.seti rfl (show i < (natA j (uptoF i z.up)).length by rw [natA_len]; exact hlt) ((z.up i : Nat) : Int))
          have hOa := hO.st3 (show i < (natA j (uptoF i z.up)).length by rw [natA_len]; exact hlt) ((z.up i : Nat) : Int)
          have hba := hb.setCell (p := b8.add i) (by rw [block_of_add]; exact (hO.o3.lt _ rfl).1) (.int .i64 ((z.up i : Nat) : Int))
          have hOb := hOa.st4 (show i < (natA j (uptoF i z.low)).length by rw [natA_len]; exact hlt) ((z.low i : Nat) : Int)
          have hbb := hba.setCell (p := b9.add i) (by rw [block_of_add]; exact (hOa.o4.lt _ rfl).1) (.int .i64 ((z.low i : Nat) : Int))
          rw [natA_set, natA_set, uptoF_succ, uptoF_succ] at hOb
          have cL := hO.o2.rd.cell_int' (natA_get z.last hlt)
          have cU := hO.o3.rd.cell_int' (natA_get (uptoF i z.up) hlt)
          have fU := hO.o3.frozen rfl i
          have cLa := hOa.o2.rd.cell_int' (natA_get z.last hlt)
          have cW := hOa.o4.rd.cell_int' (natA_get (uptoF i z.low) hlt)
          have fW := hOa.o4.frozen rfl i
          have hq1 : 2 * i + z.last i < n1 := by have := HNN.out; omega
          have hq2 : 2 * i + 1 - z.last i < n1 := by have := HNN.out; omega
          have c1 := HRX.out wr hb _ hq1
          have c2 := HRX.out _ hba _ hq2
          have HO2 := Lib.hid hOb
          have HB2 := Lib.hid hbb
          have hx1 : ((x (2 * i + z.last i) : Nat) : Int) / 2 = ((z.up i : Nat) : Int) := by omega
          have hx2 : ((x (2 * i + 1 - z.last i) : Nat) : Int) / 2 = ((z.low i : Nat) : Int) := by omega
          clear hU hOa hba hOb hbb hup hlo
          obtain ⟨q1, hq1e⟩ : ∃ q1, 2 * i + z.last i = q1 := ⟨_, rfl⟩
          obtain ⟨q2, hq2e⟩ : ∃ q2, 2 * i + 1 - z.last i = q2 := ⟨_, rfl⟩
          rw [hq1e] at hq1 c1 hx1
          rw [hq2e] at hq2 c2 hx2
          generalize z.last i = l at hl2 cL cLa hq1e hq2e
          generalize z.up i = U at cU hx1 HO2 HB2 cLa cW fW c2 hub
          generalize z.low i = L at hx2 HO2 HB2 hlb
          have e1 : 2 * (i : Int) + (l : Int) = (q1 : Int) := by omega
          have e2 : 2 * (i : Int) + 1 - (l : Int) = (q2 : Int) := by omega
          clear hq1e hq2e
          go_wp2
          go_roundg (j - (i + 1))
          case measure => omega
          case rel => exact ⟨i + 1, rfl, by omega, by go_num, HO2.out, HB2.out⟩
        · obtain rfl : i = j := Nat.le_antisymm hi (Nat.le_of_not_lt hlt)
          rw [uptoF_all, uptoF_all] at hO
          have hru := hO.o3.rd
          have hrw := hO.o4.rd
          have hrf := hO.o1.rd
          have hrl := hO.o2.rd
          dsimp only at hru hrw hrf hrl
          have HU := Lib.hid (fun (W : World) (hW : Below wr.heap.size wr W) => IH _ z.up W ((hru.keep fun p hp _ => hW.cell hp)) HFD.out.1)
          have HW := Lib.hid (fun (W : World) (hW : Below wr.heap.size wr W) => IH _ z.low W ((hrw.keep fun p hp _ => hW.cell hp)) HFD.out.2)
          have hUl := hR z.up
          have hWl := hR z.low
          clear hO IH HFD hR H HZF HRX
          generalize R z.up = RU at *
          generalize R z.low = RL at *
          have HLA : Hid ((ints (natA i z.first)).length = i) := by rw [Hid, ints_length, natA_len]
          go_upto_region 30 with (at_builtin; refine wpList_copy (B := wr.heap.size) rfl _ _ 22 rfl elI hrf rfl rfl (oneCell_ints1 _) (Nat.le_refl _) _ HLA.out (by omega) (by omega) ?_; intro b5 c5 w5 h5 hb5)
          have hsb := hb.size
          have hs5 := hb5.size
          go_upto_region 31 with (first
            | (go_at_call 53; (with_reducible refine (HU.out _ hb5).mono ?_); rintro e w6 ⟨v6, rfl, ho6, hb6⟩; obtain ⟨a6, m6, c6, rfl, HM6, _, _⟩ := ho6.rd.formN; have h56 := h5.below hb6; have hs6 := hb6.size; have hm6 : i + m6 ≤ 200 := by have := HM6.out; omega)
            | (at_builtin; refine wpList_appn (B := wr.heap.size) rfl _ _ 22 rfl elI h56 ho6.rd rfl rfl (oneCell_ints1 _) (Nat.le_trans hs5 hs6) (i + m6) (by rw [ints_length, ints_length, natA_len, HM6.out]) (by omega) (by omega) ?_; intro b7 c7 w7 h7 hg7 hat7))
          rw [← ints_append] at h7
          have hb57 : Below wr.heap.size wr w7 := (hb5.trans (hb6.mono hs5)).grown hg7 (Nat.le_trans hs5 hs6) (fun r hr => (h56.lt r hr).1)
          have hs7 := hb57.size
          obtain ⟨m7, hm7⟩ : ∃ m7, i + m6 = m7 := ⟨_, rfl⟩
          rw [hm7] at h7 hm6 ⊢
          have HM7 : Hid ((natA i z.first ++ RU).length = m7) := by rw [Hid, List.length_append, natA_len, ← HM6.out]; exact hm7
          clear h5 hb5 h56 ho6 hb6 hg7 hat7 hs5 hs6 hm7 HM6
          go_upto_region 32 with (first
            | (go_at_call 53; (with_reducible refine (HW.out _ hb57).mono ?_); rintro e w8 ⟨v8, rfl, ho8, hb8⟩; obtain ⟨a8, m8, c8, rfl, HM8, _, _⟩ := ho8.rd.formN; have h78 := h7.below hb8; have hs8 := hb8.size; have hm8 : m7 + m8 ≤ 400 := by have := HM8.out; omega)
            | (at_builtin; refine wpList_appn (B := wr.heap.size) rfl _ _ 22 rfl elI h78 ho8.rd rfl rfl (oneCell_ints1 _) (Nat.le_trans hs7 hs8) (m7 + m8) (by rw [ints_length, ints_length, HM7.out, HM8.out]) (by omega) (by omega) ?_; intro b9 c9 w9 h9 hg9 hat9))
          rw [← ints_append] at h9
          have hb59 : Below wr.heap.size wr w9 := (hb57.trans (hb8.mono hs7)).grown hg9 (Nat.le_trans hs7 hs8) (fun r hr => (h78.lt r hr).1)
          have hs9 := hb59.size
          obtain ⟨m9, hm9⟩ : ∃ m9, m7 + m8 = m9 := ⟨_, rfl⟩
          rw [hm9] at h9 hm8 ⊢
          have HM9 : Hid ((natA i z.first ++ RU ++ RL).length = m9) := by rw [Hid, List.length_append, HM7.out, ← HM8.out]; exact hm9
          have hrl9 := hrl.keep fun p hp _ => hb59.cell hp
          clear h7 hb57 h78 ho8 hb8 hg9 hat9 hs7 hs8 hm9 HM8 HM7
          go_wp2_with (at_builtin; refine wpList_appn (B := wr.heap.size) rfl _ _ 22 rfl elI h9 hrl9 rfl rfl (oneCell_ints1 _) hs9 (m9 + i) (by rw [ints_length, ints_length, HM9.out, natA_len]) (by omega) (by omega) ?_; intro b10 c10 w10 h10 hg10 hat10)
          have hb510 : Below wr.heap.size wr w10 := hb59.grown hg10 hs9 (fun r hr => (h9.lt r hr).1)
          rw [← ints_append, HRES.out] at h10
          go_ret
          exact ⟨_, rfl, h10.mono hsb, hb.trans (hb510.mono hsb)⟩

theorem s_setTwo (v : Value) (x : Nat → Nat) (w : World) (hr : Rd w v (ints (natA 2 x))) : Calls Tryd.prog 53 #[v] w (RetOwn 3 (ints [((x 0 : Nat) : Int)]) w) := by
  obtain ⟨a, c, rfl, hnc, hc⟩ := hr.formi
  rw [natA_len] at hr hnc ⊢
  obtain ⟨ad, rfl, _⟩ := hr.cell (k := 0) (by rw [ints_length, natA_len]; omega)
  have hx := hr.cell_int' (natA_get x (show 0 < 2 by omega))
  have hx' : w.cell? ad = some (.int .i64 ((x 0 : Nat) : Int)) := by simpa [Addr.add] using hx
  generalize x 0 = X at hx hx' ⊢
  go_enter Tryd.func53, Tryd.ntmps53
  go_wp2
  go_ret
  exact ⟨_, rfl, Own.lit w 3 w.heap.size #[.int .i64 (X : Int)] (Nat.le_refl _) (by simp), (Below.refl _ _).alloc (Nat.le_refl _) _⟩
theorem setL_len' : ∀ (d : Nat) (x : Nat → Nat), d ≤ 2 → (setL d x).length ≤ 20
  | 0, x, _ => by simp [setL]
  | 1, x, _ => by simp [setL, atL_length]
  | 2, x, _ => by simp [setL, atL_length]
  | d + 3, x, h => by omega
theorem s_l14For : ∀ (d : Nat), d ≤ 2 → ∀ (v : Value) (x : Nat → Nat) (w : World), Rd w v (ints (natA (2 ^ (d + 1)) x)) → Ord (2 ^ (d + 1)) x → Calls Tryd.prog 53 #[v] w (RetOwn 3 (ints (setL d x)) w)
  | 0, _, v, x, w, hr, _ => s_setTwo v x w hr
  | d + 1, hd, v, x, w, hr, H => by
    have e : 2 ^ (d + 1 + 1) = 2 * 2 ^ (d + 1) := by rw [Nat.pow_succ]; omega
    rw [e] at hr H
    have h2 : 2 ≤ 2 ^ (d + 1) ∧ 2 ^ (d + 1) ≤ 4 := by
      match d, hd with
      | 0, _ => decide
      | 1, _ => decide
      | d + 2, h => omega
    exact s_setStep (2 ^ (d + 1)) h2.1 h2.2 (setL d) (fun x => by have := setL_len' d x (by omega); omega) (fun v x w h1 h2 => s_l14For d (by omega) v x w h1 h2) v x w hr H

end Go.Proofs.YtlmbaijkeahkfaaDoor
