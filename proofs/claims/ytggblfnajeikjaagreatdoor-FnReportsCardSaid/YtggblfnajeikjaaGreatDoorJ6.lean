/- Joined texts of the proof: FabC, FabD, FabP, Clone, SlicesB, RowsSet, FabR, FabS, FabLine, PlainFlip, FlipA, IndexI, FlipE, PlainBfs, Taken. -/
import Derived.Test.YtggblfnajeikjaaGreatDoorRows
import Derived.WalkKit
import Derived.WalkSpells
import Derived.WalkLawsBesides
import Derived.Deep.Draws
import Derived.Lib.Hide
import Derived.RegionTactic
import Derived.BigQuiet
import Derived.Deep.QuietTactic
import Derived.Lib.SliceRun
import Derived.Deep.RegionLaw
import Derived.Deep.DeepCutAuto
import Derived.Deep.LoopGhost
import Derived.Deep.RegionWith
import Derived.Lib.ItoaNum
import Derived.Deep.RegionHeld3
import Derived.IntWalk
import Derived.Lib.Join
import Derived.Shelf.Strings.Builder1
import Derived.Shelf.Strings.Builder2
import Derived.Shelf.Strings.OnBuilder
import Derived.Shelf.Strconv.Atoi
import Derived.Shelf.Strconv.Itoa0
import Derived.Shelf.Strconv.Itoa1
import Derived.Shelf.LaysM
import Derived.Shelf.Strconv.Itoa2
import Derived.Shelf.Strconv.Itoa3
import Derived.Shelf.Strconv.AtoiErrFast
import Derived.Shelf.Strconv.ParseIntEmpty
import Derived.Shelf.Strconv.AtoiFail
import Derived.Shelf.Strconv.Clone
import Derived.Shelf.Strconv.SyntaxError
import Derived.Shelf.LaysC
import Derived.Shelf.Strconv.ToError
import Derived.Shelf.Strconv.Lower
import Derived.Shelf.Strconv.ParseUint10
import Derived.Shelf.Strconv.ParseUint10Empty
import Derived.Shelf.Strconv.ParseUint10Any
import Derived.Shelf.Strconv.ParseInt10
import Derived.Shelf.Strconv.AtoiLong
import Derived.Shelf.Strconv.AtoiInnerAll
import Derived.Shelf.Strconv.RangeError
import Derived.Shelf.Strconv.ToErrorRange
import Derived.Shelf.Strconv.AtoiAll
import Derived.Shelf.Strconv.ErrVarAll
import Derived.Shelf.Strings.Search1
import Derived.Shelf.Strings.Search2
import Derived.Shelf.Strings.Search3
import Derived.Shelf.Strings.Cut
import Derived.Shelf.Strings.Count
import Derived.Shelf.Strings.Shaped
import Derived.Shelf.Sort.Plain
import Derived.Shelf.Strings.Prefix
import Derived.Shelf.Strings.Split
import Derived.Shelf.Unicode.DecodeSlow
import Derived.Shelf.Slices.Reverse
import Derived.Ground.Names2Prog
import Derived.Shelf.Slices.CompactI
import Derived.Test.YtggblfnajeikjaaGreatDoorProg
import Derived.Lib.SmallJoins
import Derived.Lib.AppendZeros
import Derived.Deep.AppendLies
import Derived.Lib.SplitLaws
import Derived.Lib.Split
import Derived.Lib.IndexBytes
import Derived.Lib.AtoiAllCases
import Derived.Lib.AtoiErrMem
import Derived.Laws.BitsAllLaws
import Derived.Laws.BitsLemmas
import Derived.Lib.RowBridge
import Derived.Sort.OwnSortedInts
import Derived.Lib.LazyBuf
import Derived.Maps.OwnOps
import Derived.Maps.OwnSet
import Derived.Maps.Views
import Derived.Carry
import Derived.Laws.Bits64b
import Derived.BigRegion
import Derived.Test.YtggblfnajeikjaaGreatDoorJ5
namespace Go.Proofs.YtggblfnajeikjaaGreatDoor
open Go.RowKit
set_option linter.unusedVariables false
set_option linter.unusedSimpArgs false

set_option maxRecDepth 100000 in
set_option maxHeartbeats 4000000 in
theorem i_setStep (h : Nat) (hh : 2 ≤ h) (hh4 : h ≤ 4) (R : (Nat → Nat) → List Int) (hR : ∀ x, (R x).length ≤ 100)
    (IH : ∀ (v : Value) (x : Nat → Nat) (w : World), Rd w v (ints (natA h x)) → Ord h x → Calls Tryz.prog 93 #[v] w (RetOwn 3 (ints (R x)) w))
    (v : Value) (x : Nat → Nat) (w : World) (hr : Rd w v (ints (natA (2 * h) x))) (H : Ord (2 * h) x) :
    Calls Tryz.prog 93 #[v] w (RetOwn 3 (ints (natA h (finS h x).first ++ R (finS h x).up ++ R (finS h x).low ++ natA h (finS h x).last)) w) := by
  obtain ⟨a, c, rfl, hnc, hc⟩ := hr.formi
  rw [natA_len] at hr hnc ⊢
  obtain ⟨ad, rfl, _⟩ := hr.cell (k := 0) (by rw [ints_length, natA_len]; omega)
  obtain ⟨RES, hRES⟩ : ∃ RES, natA h (finS h x).first ++ R (finS h x).up ++ R (finS h x).low ++ natA h (finS h x).last = RES := ⟨_, rfl⟩
  rw [hRES]
  have HRES := Lib.hid hRES
  clear hRES
  have HI := Lib.hid (i_inverse _ _ x w hr H (by omega))
  have d1 : ((((2 * h : Nat) : Int)) == 1) = false := by rw [beq_eq_false_iff_ne]; omega
  have d2 : ((((2 * h : Nat) : Int)) == 2) = false := by rw [beq_eq_false_iff_ne]; omega
  have d3 : (((2 * h : Nat) : Int)) / 2 = (h : Int) := by omega
  obtain ⟨n, hn⟩ : ∃ n, 2 * h = n := ⟨_, rfl⟩
  rw [hn] at hr d1 d2 d3 HI ⊢
  have HNN := Lib.hid hn
  clear hn
  have hn8 : n ≤ 8 := by have := HNN.out; omega
  go_enter Tryz.func93, Tryz.ntmps93
  go_upto_region 9 with (go_at_call 145; refine HI.out.mono ?_; rintro e w1 ⟨v1, rfl, ho1, hb1⟩; obtain ⟨a1, n1, c1, rfl, HN1, _, _⟩ := ho1.rd.formN)
  have h1n : n1 = n := by have := HN1.out; rw [natA_len] at this; exact this
  subst h1n
  obtain ⟨ba, rfl⟩ := ho1.some_of (by rw [ints_length, natA_len]; omega)
  have hO : OwnsL w1 3 w.heap.size [(.slice (some ba) n1 c1, natA n1 (invF n1 x))] := by simpa using OwnsL.snoc (OwnsL.nil w 3 w.heap.size) hb1 (Nat.le_refl _) ho1
  have hsz := hb1.size
  obtain ⟨Z, hZl, hmk⟩ := mk_ints h (by omega)
  have hZs : Z.size = h := by have := congrArg List.length hZl; simpa using this
  rw [natA_zero] at hZl
  have hh8 : 8 * h ≤ 281474976710656 := by omega
  have hh9 : h ≤ 9223372036854775807 := by omega
  go_cut [6, 7] (fun v6 v7 wx => ∃ b6 b7 : Addr, v6 = .slice (some b6) h h ∧ v7 = .slice (some b7) h h ∧ OwnsL wx 3 w.heap.size [(.slice (some ba) n1 c1, natA n1 (invF n1 x)), (.slice (some b6) h h, natA h fun _ => 0), (.slice (some b7) h h, natA h fun _ => 0)] ∧ Below w.heap.size w wx)
  case first =>
    have hbD : Below w.heap.size w (((w1.alloc (.cells Z 3)).alloc (.cells Z 3)).drew) := ((hb1.alloc hsz _).alloc (by simp; omega) _).drew
    have hOD := OwnsL.mk2 hO hsz hZl hZs (by omega)
    go_region
    · go_wp2_with (fail)
      go_meet
      exact ⟨_, _, rfl, rfl, OwnsL.of_heap hOD rfl, hbD⟩
    · go_wp2_with (fail)
      go_meet
      exact ⟨_, _, rfl, rfl, OwnsL.of_heap hOD.swap12 rfl, hbD⟩
  case rest =>
  obtain ⟨b6, b7, rfl, rfl, hO2, hb2⟩ := hcut
  clear hO hb1 ho1
  have hsz2 := hb2.size
  go_upto_region 10 with (fail)
  go_cut [8, 9] (fun v8 v9 wx => ∃ b8 b9 : Addr, v8 = .slice (some b8) h h ∧ v9 = .slice (some b9) h h ∧ OwnsL wx 3 w.heap.size [(.slice (some ba) n1 c1, natA n1 (invF n1 x)), (.slice (some b6) h h, natA h fun _ => 0), (.slice (some b7) h h, natA h fun _ => 0), (.slice (some b8) h h, natA h fun _ => 0), (.slice (some b9) h h, natA h fun _ => 0)] ∧ Below w.heap.size w wx)
  case first =>
    have hbD : Below w.heap.size w (((wc.alloc (.cells Z 3)).alloc (.cells Z 3)).drew) := ((hb2.alloc hsz2 _).alloc (by simp; omega) _).drew
    have hOD := OwnsL.mk2 hO2 hsz2 hZl hZs (by omega)
    go_region
    · go_wp2_with (fail)
      go_meet
      exact ⟨_, _, rfl, rfl, OwnsL.of_heap hOD rfl, hbD⟩
    · go_wp2_with (fail)
      go_meet
      exact ⟨_, _, rfl, rfl, OwnsL.of_heap hOD.swap34 rfl, hbD⟩
  case rest =>
  obtain ⟨b8, b9, rfl, rfl, hO3, hb3⟩ := hcut
  clear hO2 hb2 hsz2 hsz
  have hsz3 := hb3.size
  go_wp2_with (at_make; refine wpList_mk (n := h) (B := w.heap.size) rfl _ _ 127 rfl elB rfl rfl hsz3 (by omega) (by omega) ?_; intro bs w4 hbs4 hos4 hgs4)
  rw [boolA_zero] at hos4
  have hb34 : Below wc.heap.size wc w4 := (Below.refl _ _).grown hgs4 (Nat.le_refl _) (fun _ h => by cases h)
  have HF0 : FMs 3 4 w.heap.size ba b6 b7 b8 b9 bs n1 h c1 x (cycs h x 0) w w4 := ⟨hO3.below hb34, hos4, hb3.trans (hb34.mono hsz3)⟩
  clear hO3 hos4 hb34 hb3 hbs4 hgs4 hsz3 hmk hZl hZs
  go_loopg [43] h (fun g jv wr => ∃ j : Nat, g = h - j ∧ j ≤ h ∧ jv = .int .i64 j ∧ FMs 3 4 w.heap.size ba b6 b7 b8 b9 bs n1 h c1 x (cycs h x j) w wr)
  case atStart => exact ⟨0, rfl, Nat.zero_le _, rfl, HF0⟩
  case round =>
    clear HF0
    obtain ⟨j, hg, hj, rfl, HF⟩ := hrel
    by_cases hlt : j < h
    · have HCY : Hid (cyc (2 * h) x (cntU h (cycs h x j)) (2 * j + 0) (cycs h x j) = cycs h x (j + 1)) := rfl
      generalize cycs h x j = s0 at HF HCY
      obtain ⟨sE, hsE⟩ : ∃ sE, cycs h x (j + 1) = sE := ⟨_, rfl⟩
      have HSE := Lib.hid hsE
      rw [hsE] at HCY
      clear hsE
      go_wp2
      go_loopg [12, 13] (cntU h s0) (fun g kv cv wr => ∃ (K C : Nat) (s : FS), g = cntU h s ∧ K < h ∧ C < 2 ∧ kv = .int .i64 K ∧ cv = .int .i64 C ∧ Hid (cyc (2 * h) x (cntU h s) (2 * K + C) s = sE) ∧ FMs 3 4 w.heap.size ba b6 b7 b8 b9 bs n1 h c1 x s w wr)
      case atStart => exact ⟨j, 0, s0, rfl, hlt, by omega, rfl, rfl, HCY, HF⟩
      case round =>
        clear HF HCY
        obtain ⟨K, C, s, hgk, hK, hC, rfl, rfl, HCY, HF⟩ := hrel
        have hcS := HF.set.rd.boolc (boolA_get s.set hK)
        have hfS := HF.set.frozen rfl K
        cases hset : s.set K
        · rw [hset] at hcS
          obtain ⟨o, ho⟩ : ∃ o, 2 * K + C = o := ⟨_, rfl⟩
          have hon : o < n1 := by have := HNN.out; omega
          have hoK : o / 2 = K := by omega
          have hoC : o % 2 = C := by omega
          have hX8 : x o < n1 := by have := HNN.out; have := H.lx o (by omega); omega
          have hXP : par (x o) < n1 := by have := HNN.out; have := par_lt (a := x o) (h := h) (by omega); omega
          have hPn : tt n1 x o < n1 := by have h1 := HNN.out; have h2 := H.tt_lt (o := o) (by omega); rw [h1] at h2; exact h2
          have HCO : Hid (∀ W : World, Below w.heap.size w W → W.cell? (ad.add o) = some (.int .i64 ((x o : Nat) : Int))) := fun W hW => (hr.below hW).cell_int' (natA_get x hon)
          have hAt := HF.own.o0.rd
          dsimp only at hAt
          have hxx := xor_par (x o) (by omega)
          have HPUT : Hid (fput (2 * h) x s o = ⟨upd s.set K true, upd s.last K C, upd s.first (x o / 2) (x o % 2), upd s.up K (x o / 2), upd s.low (tt n1 x o / 2) (x o / 2)⟩) := by
            rw [Hid, fput, hoK, hoC, ff, par_half, HNN.out]
          have HGO : Hid (cyc (2 * h) x (cntU h s) o s = cyc (2 * h) x (cntU h (fput (2 * h) x s o)) (par (tt n1 x o)) (fput (2 * h) x s o)) := by
            have := cyc_go (n := 2 * h) (x := x) (o := o) (s := s) (h := h) (by omega) (by rw [hoK]; exact hset)
            rw [ff, HNN.out] at this
            rw [Hid, HNN.out]
            exact this
          have HCN : Hid (cntU h (fput (2 * h) x s o) + 1 = cntU h s) := cnt_put (by omega) (by rw [hoK]; exact hset)
          have hPc : (natA n1 (invF n1 x))[par (x o)]? = some ((tt n1 x o : Nat) : Int) := natA_get _ hXP
          generalize tt n1 x o = P at hPn HPUT HGO hPc
          generalize hXe : x o = X at hX8 hXP HCO hxx HPUT hPc
          generalize hXPe : par X = XP at hXP hxx hPc
          generalize fput (2 * h) x s o = s' at HPUT HGO HCN
          have ho2 : (2 * (K : Int) + (C : Int)) = (o : Int) := by omega
          obtain ⟨X2, hX2⟩ : ∃ X2, X / 2 = X2 := ⟨_, rfl⟩
          obtain ⟨XM, hXM⟩ : ∃ XM, X % 2 = XM := ⟨_, rfl⟩
          obtain ⟨P2, hP2⟩ : ∃ P2, P / 2 = P2 := ⟨_, rfl⟩
          obtain ⟨PC, hPC⟩ : ∃ PC, 1 - P % 2 = PC := ⟨_, rfl⟩
          rw [hX2, hXM, hP2] at HPUT
          have e1 : (X : Int) / 2 = (X2 : Int) := by omega
          have e2 : (X : Int) % 2 = (XM : Int) := by omega
          have e3 : (P : Int) / 2 = (P2 : Int) := by omega
          have e4 : 1 - (P : Int) % 2 = (PC : Int) := by omega
          have hX2h : X2 < h := by have := HNN.out; omega
          have hP2h : P2 < h := by have := HNN.out; omega
          have hPC2 : PC < 2 := by omega
          have HPP : Hid (par P = 2 * P2 + PC) := by rw [Hid, par]; omega
          clear hset hXe hXPe hX2 hXM hP2 hPC
          have H1 := FM.stS HF (by decide) (show K < (boolA h s.set).length by rw [boolA_len]; exact hK) true
          have H2 := FM.stL H1 (by decide) (show K < (natA h s.last).length by rw [natA_len]; exact hK) (C : Int)
          have H3 := FM.stU H2 (by decide) (show K < (natA h s.up).length by rw [natA_len]; exact hK) (X2 : Int)
          have H4 := FM.stF H3 (by decide) (show X2 < (natA h s.first).length by rw [natA_len]; exact hX2h) (XM : Int)
          have H5 := FM.stW H4 (by decide) (show P2 < (natA h s.low).length by rw [natA_len]; exact hP2h) (X2 : Int)
          have cL := H1.own.o2.rd.cell_int' (natA_get s.last hK)
          have fL := H1.own.o2.frozen rfl K
          have cO := HCO.out _ H2.bel
          have cU := H2.own.o3.rd.cell_int' (natA_get s.up hK)
          have fU := H2.own.o3.frozen rfl K
          have cF := H3.own.o1.rd.cell_int' (natA_get s.first hX2h)
          have fF := H3.own.o1.frozen rfl X2
          have cA := H4.own.o0.rd.cell_int' hPc
          have cW := H4.own.o4.rd.cell_int' (natA_get s.low hP2h)
          have fW := H4.own.o4.frozen rfl P2
          have HH5 : Hid (FMs 3 4 w.heap.size ba b6 b7 b8 b9 bs n1 h c1 x s' w (((((wr.setCell (bs.add K) (.bool true)).setCell (b7.add K) (.int .i64 (C : Int))).setCell (b8.add K) (.int .i64 (X2 : Int))).setCell (b6.add X2) (.int .i64 (XM : Int))).setCell (b9.add P2) (.int .i64 (X2 : Int)))) := by
            have := H5
            rw [natA_set, natA_set, natA_set, natA_set, boolA_set] at this
            rw [Hid, HPUT.out]
            exact this
          clear H1 H2 H3 H4 H5 HPUT
          have HCY2 : Hid (cyc (2 * h) x (cntU h s') (2 * P2 + PC) s' = sE) := by rw [Hid, ← HPP.out, ← HGO.out, ← ho, HCY.out]
          have hcn : cntU h s' < cntU h s := by have := HCN.out; omega
          go_wp2
          go_roundg (cntU h s')
          case measure => omega
          case rel => exact ⟨P2, PC, s', rfl, hP2h, hPC2, rfl, rfl, HCY2, HH5.out⟩
        · rw [hset] at hcS
          have HE : Hid (s = sE) := by rw [Hid, ← HCY.out, cyc_stop _ (by rw [show (2 * K + C) / 2 = K by omega]; exact hset)]
          clear hset
          go_wp2
          go_roundg (h - (j + 1))
          case measure => omega
          case rel => exact ⟨j + 1, rfl, by omega, by go_num, by rw [HSE.out, ← HE.out]; exact HF⟩
    · obtain rfl : j = h := Nat.le_antisymm hj (Nat.le_of_not_lt hlt)
      have HFD := Lib.hid (fin_up H (cycs_FD H j (Nat.le_refl _)).1 (cycs_FD H j (Nat.le_refl _)).2)
      have HZ : Hid (finS j x = cycs j x j) := rfl
      rw [HZ.out] at HRES
      generalize cycs j x j = z at HF HFD HRES
      clear HZ
      have hru := HF.own.o3.rd
      have hrw := HF.own.o4.rd
      have hrf := HF.own.o1.rd
      have hrl := HF.own.o2.rd
      dsimp only at hru hrw hrf hrl
      have hbw := HF.bel
      have HU := Lib.hid (fun (W : World) (hW : Below wr.heap.size wr W) => IH _ z.up W ((hru.keep fun p hp _ => hW.cell hp)) HFD.out.1)
      have HW := Lib.hid (fun (W : World) (hW : Below wr.heap.size wr W) => IH _ z.low W ((hrw.keep fun p hp _ => hW.cell hp)) HFD.out.2)
      have hUl := hR z.up
      have hWl := hR z.low
      have HFL : Hid ([natA j z.first, R z.up, R z.low, natA j z.last].flatten = RES) := by rw [Hid, ← HRES.out]; simp
      have HTT : Hid (tot [natA j z.first, R z.up, R z.low, natA j z.last] ≤ 1000000) := by simp [Hid, tot, natA_len]; omega
      clear HF IH HFD hR H HRES
      generalize R z.up = RU at *
      generalize R z.low = RL at *
      go_wp2_with (first
        | (go_at_call 93; (with_reducible refine (HU.out _ (Below.refl _ _)).mono ?_); rintro e w5 ⟨v5, rfl, ho5, hb5⟩; obtain ⟨a5, m5, c5, rfl, _, _, _⟩ := ho5.rd.formN)
        | (go_at_call 93; (with_reducible refine (HW.out _ hb5).mono ?_); rintro e w6 ⟨v6, rfl, ho6, hb6⟩; obtain ⟨a6, m6, c6, rfl, _, _, _⟩ := ho6.rd.formN; have hb56 := hb5.trans (hb6.mono hb5.size); have hA := (Below.refl w6.heap.size w6).alloc (Nat.le_refl _) (.cells #[.slice (some b6) j j, .slice a5 m5 c5, .slice a6 m6 c6, .slice (some b7) j j] 23)))
      refine (f_Concat _ _ _ (Rd2.of4 (heap_alloc_new w6 _) ((hrf.below hb56).below hA) ((ho5.rd.below hb6).below hA) (ho6.rd.below hA) ((hrl.below hb56).below hA)) HTT.out).mono ?_
      rintro e w8 ⟨v8, rfl, ho8, hb8⟩
      go_wp2_with fail
      have hb58 := hb56.trans ((hA.mono hb56.size).trans (hb8.mono (by have := hb56.size; simp; omega)))
      go_ret
      exact ⟨_, rfl, by rw [← HFL.out]; exact ho8.mono (by have := hbw.size; have := hb56.size; simp; omega), hbw.trans (hb58.mono hbw.size)⟩

theorem i_setTwo (v : Value) (x : Nat → Nat) (w : World) (hr : Rd w v (ints (natA 2 x))) : Calls Tryz.prog 93 #[v] w (RetOwn 3 (ints [((x 0 : Nat) : Int)]) w) := by
  obtain ⟨a, c, rfl, hnc, hc⟩ := hr.formi
  rw [natA_len] at hr hnc ⊢
  obtain ⟨ad, rfl, _⟩ := hr.cell (k := 0) (by rw [ints_length, natA_len]; omega)
  have hx := hr.cell_int' (natA_get x (show 0 < 2 by omega))
  have hx' : w.cell? ad = some (.int .i64 ((x 0 : Nat) : Int)) := by simpa [Addr.add] using hx
  generalize x 0 = X at hx hx' ⊢
  go_enter Tryz.func93, Tryz.ntmps93
  go_wp2
  go_ret
  exact ⟨_, rfl, Own.lit w 3 w.heap.size #[.int .i64 (X : Int)] (Nat.le_refl _) (by simp), (Below.refl _ _).alloc (Nat.le_refl _) _⟩
theorem setL_len : ∀ (d : Nat) (x : Nat → Nat), d ≤ 2 → (setL d x).length ≤ 20
  | 0, x, _ => by simp [setL]
  | 1, x, _ => by simp [setL, atL_length]
  | 2, x, _ => by simp [setL, atL_length]
  | d + 3, x, h => by omega
theorem i_settingsFor : ∀ (d : Nat), d ≤ 2 → ∀ (v : Value) (x : Nat → Nat) (w : World), Rd w v (ints (natA (2 ^ (d + 1)) x)) → Ord (2 ^ (d + 1)) x → Calls Tryz.prog 93 #[v] w (RetOwn 3 (ints (setL d x)) w)
  | 0, _, v, x, w, hr, _ => i_setTwo v x w hr
  | d + 1, hd, v, x, w, hr, H => by
    have e : 2 ^ (d + 1 + 1) = 2 * 2 ^ (d + 1) := by rw [Nat.pow_succ]; omega
    rw [e] at hr H
    have h2 : 2 ≤ 2 ^ (d + 1) ∧ 2 ^ (d + 1) ≤ 4 := by
      match d, hd with
      | 0, _ => decide
      | 1, _ => decide
      | d + 2, h => omega
    exact i_setStep (2 ^ (d + 1)) h2.1 h2.2 (setL d) (fun x => by have := setL_len d x (by omega); omega) (fun v x w h1 h2 => i_settingsFor d (by omega) v x w h1 h2) v x w hr H

end Go.Proofs.YtggblfnajeikjaaGreatDoor

namespace Go.Proofs.YtggblfnajeikjaaGreatDoor
open Go.RowKit
set_option linter.unusedVariables false
set_option linter.unusedSimpArgs false

structure FG (E EB B : Nat) (ba bf bl bs : Addr) (n h ca : Nat) (A F L : List Int) (S : List Bool) (w0 w : World) : Prop where
  own : OwnsL w E B [(.slice (some ba) n ca, A), (.slice (some bf) h h, F), (.slice (some bl) h h, L)]
  set : Own w EB B (.slice (some bs) h h) (bools S)
  bel : Below B w0 w
section
variable {E EB B n h ca k : Nat} {ba bf bl bs : Addr} {A F L : List Int} {S : List Bool} {w0 w : World}
theorem FG.stS (H : FG E EB B ba bf bl bs n h ca A F L S w0 w) (hne : E ≠ EB) (hk : k < S.length) (b : Bool) : FG E EB B ba bf bl bs n h ca A F L (S.set k b) w0 (w.setCell (bs.add k) (.bool b)) := by
  have hs := H.set.set rfl (show k < (bools S).length by rw [bools_len]; exact hk) (.bool b)
  rw [bools_set] at hs
  refine ⟨H.own.setB H.set hne k _, hs.1, H.bel.setCell ?_ _⟩
  rw [block_of_add]
  exact (H.set.lt _ rfl).1
theorem FG.stF (H : FG E EB B ba bf bl bs n h ca A F L S w0 w) (hne : E ≠ EB) (hk : k < F.length) (y : Int) : FG E EB B ba bf bl bs n h ca A (F.set k y) L S w0 (w.setCell (bf.add k) (.int .i64 y)) := by
  refine ⟨H.own.st1 hk y, H.set.setCell (fun e => H.set.elem_ne H.own.o1 hne.symm _ e (by rw [block_of_add]; rfl)) _, H.bel.setCell ?_ _⟩
  rw [block_of_add]
  exact (H.own.o1.lt _ rfl).1
theorem FG.stL (H : FG E EB B ba bf bl bs n h ca A F L S w0 w) (hne : E ≠ EB) (hk : k < L.length) (y : Int) : FG E EB B ba bf bl bs n h ca A F (L.set k y) S w0 (w.setCell (bl.add k) (.int .i64 y)) := by
  refine ⟨H.own.st2 hk y, H.set.setCell (fun e => H.set.elem_ne H.own.o2 hne.symm _ e (by rw [block_of_add]; rfl)) _, H.bel.setCell ?_ _⟩
  rw [block_of_add]
  exact (H.own.o2.lt _ rfl).1
end
end Go.Proofs.YtggblfnajeikjaaGreatDoor

namespace Go.Proofs.YtggblfnajeikjaaGreatDoor
open Go.RowKit
set_option linter.unusedVariables false
set_option linter.unusedSimpArgs false

def Stg (n k : Nat) : Prop := (n = 2 ∧ k = 1) ∨ (n = 4 ∧ k = 2) ∨ (n = 8 ∧ k = 3)
def shf (n p : Nat) : Nat := if p < n / 2 then 2 * p else 2 * p + 1 - n
def bitK (k tg s : Nat) : Nat := tg / 2 ^ (k - 1 - s) % 2
def pos (n k fr tg : Nat) : Nat → Nat
  | 0 => fr
  | s + 1 => shf n (pos n k fr tg s) - shf n (pos n k fr tg s) % 2 + bitK k tg s
def pathL (n k fr tg s : Nat) : List Int := (List.range s).map fun j => ((pos n k fr tg (j + 1) : Nat) : Int)
theorem pathL_succ (n k fr tg s : Nat) : pathL n k fr tg (s + 1) = pathL n k fr tg s ++ [((pos n k fr tg (s + 1) : Nat) : Int)] := by simp [pathL, List.range_succ]
theorem pathL_len (n k fr tg s : Nat) : (pathL n k fr tg s).length = s := by simp [pathL]
theorem pathL_get {n k fr tg s j : Nat} (h : j < s) : (pathL n k fr tg s)[j]? = some ((pos n k fr tg (j + 1) : Nat) : Int) := by simp [pathL, h]
theorem shf_lt {n k p : Nat} (hs : Stg n k) (hp : p < n) : shf n p < n := by
  rcases hs with ⟨rfl, _⟩ | ⟨rfl, _⟩ | ⟨rfl, _⟩ <;> unfold shf <;> split <;> omega
theorem pos_lt {n k fr tg : Nat} (hs : Stg n k) (hf : fr < n) : ∀ s, pos n k fr tg s < n
  | 0 => hf
  | s + 1 => by
    have h1 := shf_lt hs (pos_lt (tg := tg) hs hf s)
    have h2 : bitK k tg s < 2 := Nat.mod_lt _ (by omega)
    rw [pos]
    generalize shf n (pos n k fr tg s) = q at h1 ⊢
    generalize bitK k tg s = b at h2 ⊢
    rcases hs with ⟨rfl, _⟩ | ⟨rfl, _⟩ | ⟨rfl, _⟩ <;> omega

theorem fab1 {n k p : Nat} (hs : Stg n k) (hp : p < n) : bits BinOp.or IntKind.i64 (bits BinOp.and IntKind.i64 ((p : Int) * 2) ((n : Int) - 1)) ((p : Int) / 2 ^ (k - 1)) = ((shf n p : Nat) : Int) := by
  rcases hs with ⟨rfl, rfl⟩ | ⟨rfl, rfl⟩ | ⟨rfl, rfl⟩
  · exact (show ∀ p : Nat, p < 2 → bits BinOp.or IntKind.i64 (bits BinOp.and IntKind.i64 ((p : Int) * 2) (((2 : Nat) : Int) - 1)) ((p : Int) / 2 ^ (1 - 1)) = ((shf 2 p : Nat) : Int) by decide +kernel) p hp
  · exact (show ∀ p : Nat, p < 4 → bits BinOp.or IntKind.i64 (bits BinOp.and IntKind.i64 ((p : Int) * 2) (((4 : Nat) : Int) - 1)) ((p : Int) / 2 ^ (2 - 1)) = ((shf 4 p : Nat) : Int) by decide +kernel) p hp
  · exact (show ∀ p : Nat, p < 8 → bits BinOp.or IntKind.i64 (bits BinOp.and IntKind.i64 ((p : Int) * 2) (((8 : Nat) : Int) - 1)) ((p : Int) / 2 ^ (3 - 1)) = ((shf 8 p : Nat) : Int) by decide +kernel) p hp
theorem fab2 {t e : Nat} (ht : t < 8) (he : e < 3) : bits BinOp.and IntKind.i64 ((t : Int) / 2 ^ e) 1 = ((t / 2 ^ e % 2 : Nat) : Int) :=
  (show ∀ t : Nat, t < 8 → ∀ e : Nat, e < 3 → bits BinOp.and IntKind.i64 ((t : Int) / 2 ^ e) 1 = ((t / 2 ^ e % 2 : Nat) : Int) by decide +kernel) t ht e he
theorem fab3 {q b : Nat} (hq : q < 8) (hb : b < 2) : bits BinOp.or IntKind.i64 (bits BinOp.andNot IntKind.i64 (q : Int) 1) (b : Int) = ((q - q % 2 + b : Nat) : Int) :=
  (show ∀ q : Nat, q < 8 → ∀ b : Nat, b < 2 → bits BinOp.or IntKind.i64 (bits BinOp.andNot IntKind.i64 (q : Int) 1) (b : Int) = ((q - q % 2 + b : Nat) : Int) by decide +kernel) q hq b hb

set_option maxHeartbeats 2000000 in
theorem i_path (n k fr tg : Nat) (w : World) (hs : Stg n k) (hf : fr < n) (ht : tg < n) : Calls Tryz.prog 190 #[.int .i64 (n : Int), .int .i64 (fr : Int), .int .i64 (tg : Int)] w
    fun e w' => ∃ v1 v2, e = .returned (.tuple #[v1, v2]) ∧ Own w' 3 w.heap.size v1 (ints (pathL n k fr tg k)) ∧ Below w.heap.size w w' := by
  have hk : 1 ≤ k ∧ k ≤ 3 := by rcases hs with ⟨_, rfl⟩ | ⟨_, rfl⟩ | ⟨_, rfl⟩ <;> omega
  have hST : Calls Tryz.prog 144 #[.int .i64 (n : Int)] w fun e w' => e = .returned (.int .i64 (k : Int)) ∧ w = w' := by
    rcases hs with ⟨rfl, rfl⟩ | ⟨rfl, rfl⟩ | ⟨rfl, rfl⟩ <;>
    · go_enter Tryz.func144, Tryz.ntmps144
      go_wp2
      go_ret
      exact ⟨rfl, rfl⟩
  have HST := Lib.hid hST
  have HPL := Lib.hid (fun s => pos_lt (tg := tg) hs hf s)
  have HSG := Lib.hid hs
  have hn8 : 2 ≤ n ∧ n ≤ 8 := by rcases hs with ⟨rfl, _⟩ | ⟨rfl, _⟩ | ⟨rfl, _⟩ <;> omega
  have hO : OwnsL ((w.alloc (.cells #[] 3)).alloc (.cells #[] 3)) 3 w.heap.size [(.slice (some ⟨w.heap.size, 0, none⟩) 0 0, []), (.slice (some ⟨w.heap.size + 1, 0, none⟩) 0 0, [])] := by
    have h1 := OwnsL.snoc (OwnsL.nil w 3 w.heap.size) ((Below.refl _ _).alloc (Nat.le_refl _) (.cells #[] 3)) (Nat.le_refl _) (Own.lit0 w 3 (Nat.le_refl _))
    have h2 := OwnsL.snoc h1 ((Below.refl _ _).alloc (Nat.le_refl _) (.cells #[] 3)) (by simp) (Own.lit0 _ 3 (Nat.le_refl _))
    simpa using h2
  have hB : Below w.heap.size w ((w.alloc (.cells #[] 3)).alloc (.cells #[] 3)) := ((Below.refl _ _).alloc (Nat.le_refl _) _).alloc (by simp) _
  clear hST hs
  go_enter Tryz.func190, Tryz.ntmps190
  go_wp2_with (go_at_call 144; refine HST.out.mono ?_; rintro e w1 ⟨rfl, rfl⟩)
  go_loopg [1, 9, 10, 19] k (fun g fv vp vc iv wr => ∃ (s : Nat) (ys : List Int), g = k - s ∧ s ≤ k ∧ iv = .int .i64 s ∧ fv = .int .i64 ((pos n k fr tg s : Nat) : Int) ∧ Hid (ys.length = s) ∧ OwnsL wr 3 w.heap.size [(vp, pathL n k fr tg s), (vc, ys)] ∧ Below w.heap.size w wr)
  case atStart => exact ⟨0, [], rfl, Nat.zero_le _, rfl, rfl, rfl, hO, hB⟩
  case round =>
    clear hO hB
    obtain ⟨s, ys, hg, hsk, rfl, rfl, HYL, hO, hb⟩ := hrel
    by_cases hlt : s < k
    · have hp := HPL.out s
      obtain ⟨p, hpe⟩ : ∃ p, pos n k fr tg s = p := ⟨_, rfl⟩
      rw [hpe] at hp ⊢
      have i1 : (k : Int) - 1 ≥ 0 := by omega
      have i2 : (k : Int) - 1 - (s : Int) ≥ 0 := by omega
      have f1 := fab1 HSG.out hp
      have hq8 : shf n p < 8 := by have := shf_lt HSG.out hp; omega
      have f2 := fab2 (t := tg) (e := k - 1 - s) (by omega) (by omega)
      have f3 := fab3 hq8 (b := tg / 2 ^ (k - 1 - s) % 2) (Nat.mod_lt _ (by omega))
      have HPS : Hid (pos n k fr tg (s + 1) = shf n p - shf n p % 2 + tg / 2 ^ (k - 1 - s) % 2) := by rw [Hid, pos, hpe]; rfl
      have HPP := Lib.hid (pathL_succ n k fr tg s)
      rw [HPS.out] at HPP
      generalize hbe : tg / 2 ^ (k - 1 - s) % 2 = b at f2 f3 HPS HPP
      generalize shf n p = q at f1 f3 HPS HPP
      generalize q - q % 2 + b = r at f3 HPS HPP
      obtain ⟨ap, np, cp, rfl, HNP, _, _⟩ := hO.o0.rd.formN
      obtain ⟨ac, nc, cc, rfl, HNC, _, _⟩ := hO.o1.rd.formN
      have hnp : np = s := by have := HNP.out; rw [pathL_len] at this; exact this
      have hnc : nc = s := by have := HNC.out; rw [HYL.out] at this; exact this
      subst hnp
      subst hnc
      have HLC : Hid ((ints ys).length = nc) := by rw [Hid, ints_length, HYL.out]
      have HLP : Hid ((ints (pathL n k fr tg nc)).length = nc) := by rw [Hid, ints_length, pathL_len]
      have hsb := hb.size
      have hs3 : nc ≤ 3 := by omega
      clear hpe
      go_upto_region 10 with (at_builtin; (refine wpList_app1m rfl _ _ 23 rfl elI ?_ hO.o1 ?_ ?_ hsb nc HLC.out (by omega) (by omega) ?_); (focus exact rfl); (focus (simp [Act.eval])); (focus exact rfl); intro b5 c5 w5 ho5 hg5 hat5)
      obtain ⟨yn, hyn⟩ : ∃ yn, bits BinOp.xor IntKind.i64 (bits BinOp.and IntKind.i64 (q : Int) 1) (b : Int) = yn := ⟨_, rfl⟩
      rw [hyn] at ho5
      have hO5 := hO.t1 hg5 (ys := ys ++ [yn]) (by rw [ints_append]; exact ho5) (hat_of hat5)
      have hb5 := hb.grown hg5 hsb (fun r hr => (hO.o1.lt r hr).1)
      have hs5 := hb5.size
      have hYL : Hid ((ys ++ [yn]).length = nc + 1) := by rw [Hid, List.length_append, HYL.out]; rfl
      clear hO hb hg5 hat5 ho5 hyn
      go_wp2_with (at_builtin; (refine wpList_app1m rfl _ _ 23 rfl elI ?_ hO5.o0 ?_ ?_ hs5 nc HLP.out (by omega) (by omega) ?_); (focus exact rfl); (focus (simp [Act.eval])); (focus exact rfl); intro b6 c6 w6 ho6 hg6 hat6)
      have hO6 := hO5.t0 hg6 (ys := pathL n k fr tg (nc + 1)) (by rw [HPP.out, ints_append]; exact ho6) (hat_of hat6)
      have hb6 := hb5.grown hg6 hs5 (fun r hr => (hO5.o0.lt r hr).1)
      go_roundg (k - (nc + 1))
      case measure => omega
      case rel => exact ⟨nc + 1, ys ++ [yn], rfl, by omega, by go_num, by rw [HPS.out], hYL, hO6, hb6⟩
    · obtain rfl : s = k := Nat.le_antisymm hsk (Nat.le_of_not_lt hlt)
      have ho := hO.o0
      dsimp only at ho
      go_wp2
      go_ret2
      exact ⟨_, _, rfl, ho, hb⟩

/-- Two paths have one position behind some stage. -/
def meetB (n k a b c d : Nat) : Bool := (List.range k).any fun j => decide (pos n k a b (j + 1) = pos n k c d (j + 1))
theorem meetB_yes {n k a b c d j : Nat} (hj : j < k) (h : pos n k a b (j + 1) = pos n k c d (j + 1)) : meetB n k a b c d = true := by
  rw [meetB, List.any_eq_true]
  exact ⟨j, List.mem_range.2 hj, by simpa using h⟩
theorem meetB_no {n k a b c d : Nat} (h : ∀ j, j < k → pos n k a b (j + 1) ≠ pos n k c d (j + 1)) : meetB n k a b c d = false := by
  cases e : meetB n k a b c d
  · rfl
  · rw [meetB, List.any_eq_true] at e
    obtain ⟨j, hj, he⟩ := e
    exact absurd (by simpa using he) (h j (List.mem_range.1 hj))

set_option maxHeartbeats 2000000 in
theorem i_meet (n k a b c d : Nat) (w : World) (hs : Stg n k) (ha : a < n) (hb : b < n) (hc : c < n) (hd : d < n) : Calls Tryz.prog 146 #[.int .i64 (n : Int), .int .i64 (a : Int), .int .i64 (b : Int), .int .i64 (c : Int), .int .i64 (d : Int)] w (RetB (.bool (meetB n k a b c d)) w) := by
  have hk : 1 ≤ k ∧ k ≤ 3 := by rcases hs with ⟨_, rfl⟩ | ⟨_, rfl⟩ | ⟨_, rfl⟩ <;> omega
  have HP1 := Lib.hid (fun W => i_path n k a b W hs ha hb)
  have HP2 := Lib.hid (fun W => i_path n k c d W hs hc hd)
  have HY : Hid (∀ j, j < k → pos n k a b (j + 1) = pos n k c d (j + 1) → meetB n k a b c d = true) := fun j => meetB_yes
  have HN : Hid ((∀ j, j < k → pos n k a b (j + 1) ≠ pos n k c d (j + 1)) → meetB n k a b c d = false) := meetB_no
  have HG1 : Hid (∀ j, j < k → (pathL n k a b k)[j]? = some ((pos n k a b (j + 1) : Nat) : Int)) := fun j hj => pathL_get hj
  have HG2 : Hid (∀ j, j < k → (pathL n k c d k)[j]? = some ((pos n k c d (j + 1) : Nat) : Int)) := fun j hj => pathL_get hj
  have HL1 : Hid ((pathL n k a b k).length = k) := pathL_len _ _ _ _ _
  have HL2 : Hid ((pathL n k c d k).length = k) := pathL_len _ _ _ _ _
  generalize pathL n k a b k = P1 at HP1 HG1 HL1
  generalize pathL n k c d k = P2 at HP2 HG2 HL2
  generalize pos n k a b = p1 at HY HN HG1
  generalize pos n k c d = p2 at HY HN HG2
  generalize meetB n k a b c d = m at HY HN ⊢
  go_enter Tryz.func146, Tryz.ntmps146
  go_wp2_with (first
    | (go_at_call 190; (with_reducible refine (HP1.out _).mono ?_); rintro e w1 ⟨v1, v2, rfl, ho1, hb1⟩)
    | (go_at_call 190; (with_reducible refine (HP2.out _).mono ?_); rintro e w2 ⟨v3, v4, rfl, ho2, hb2⟩; have h12 := ho1.below hb2; obtain ⟨a1, n1, c1, rfl, HN1, _, _⟩ := h12.rd.formN; obtain ⟨a2, n2, c2, rfl, HN2, _, _⟩ := ho2.rd.formN))
  have hn1 : n1 = k := by have := HN1.out; rw [HL1.out] at this; exact this
  have hn2 : n2 = k := by have := HN2.out; rw [HL2.out] at this; exact this
  subst hn1
  subst hn2
  have hbw := hb1.trans (hb2.mono hb1.size)
  have hr1 := h12.rd
  have hr2 := ho2.rd
  clear h12 ho1 ho2 hb1 hb2
  go_loopg [32] n2 (fun g iv wr => ∃ j : Nat, g = n2 - j ∧ j ≤ n2 ∧ iv = .int .i64 j ∧ Hid (∀ i, i < j → p1 (i + 1) ≠ p2 (i + 1)) ∧ Dr w2 wr)
  case atStart => exact ⟨0, rfl, Nat.zero_le _, rfl, fun i h => by omega, Dr.refl _⟩
  case round =>
    obtain ⟨j, hg, hj, rfl, HNO, hdr⟩ := hrel
    by_cases hlt : j < n2
    · obtain ⟨ad1, y1, hal1, hc1, hy1⟩ := (hr1.dr hdr).int (k := j) (by rw [HL1.out]; exact hlt)
      obtain ⟨ad2, y2, hal2, hc2, hy2⟩ := (hr2.dr hdr).int (k := j) (by rw [HL2.out]; exact hlt)
      subst hal1
      subst hal2
      obtain rfl : y1 = ((p1 (j + 1) : Nat) : Int) := by have := hy1.out; rw [HG1.out j hlt] at this; cases this; rfl
      obtain rfl : y2 = ((p2 (j + 1) : Nat) : Int) := by have := hy2.out; rw [HG2.out j hlt] at this; cases this; rfl
      clear hy1 hy2
      by_cases he : p1 (j + 1) = p2 (j + 1)
      · have hm := Lib.hid (HY.out j hlt he)
        rw [he] at hc1
        clear he
        generalize p2 (j + 1) = q2 at hc1 hc2
        go_wp2
        go_quiet (fail)
        go_wp2
        go_ret
        exact ⟨ret_bool hm.out.symm, hbw.trans ((hdr.step _).below _)⟩
      · have HNO2 : Hid (∀ i, i < j + 1 → p1 (i + 1) ≠ p2 (i + 1)) := fun i hi => by
          by_cases e : i = j
          · subst e; exact he
          · exact HNO.out i (by omega)
        have d0 : (((p1 (j + 1) : Nat) : Int) == ((p2 (j + 1) : Nat) : Int)) = false := by rw [beq_eq_false_iff_ne]; omega
        clear he
        generalize p1 (j + 1) = q1 at hc1 d0
        generalize p2 (j + 1) = q2 at hc2 d0
        go_wp2
        go_quiet (fail)
        go_wp2
        go_roundg (n2 - (j + 1))
        case measure => omega
        case rel => exact ⟨j + 1, rfl, by omega, by go_num, HNO2, hdr.step _⟩
    · obtain rfl : j = n2 := Nat.le_antisymm hj (Nat.le_of_not_lt hlt)
      have hm := Lib.hid (HN.out HNO.out)
      go_wp2
      go_ret
      exact ⟨ret_bool hm.out.symm, hbw.trans (hdr.below _)⟩

end Go.Proofs.YtggblfnajeikjaaGreatDoor

namespace Go.Proofs.YtggblfnajeikjaaGreatDoor
open Go.RowKit
set_option linter.unusedVariables false
set_option linter.unusedSimpArgs false

theorem oneCell_ints (xs : List Int) : ∀ u ∈ ints xs, u.oneCell' = true := by
  intro u hu
  simp only [ints, List.mem_map] at hu
  obtain ⟨x, _, rfl⟩ := hu
  rfl
set_option maxHeartbeats 400000 in
theorem f_Clone (v : Value) (xs : List Int) (w : World) (h : Rd w v (ints xs)) (hl : xs.length ≤ 2000000) :
    Calls Tryz.prog 85 #[v] w (RetOwn 3 (ints xs) w) := by
  obtain ⟨a, c, rfl, h2, h3⟩ := h.formi
  cases a with
  | none =>
    have hx : xs = [] := by
      cases xs with
      | nil => rfl
      | cons y t => obtain ⟨ad, x, e, _⟩ := h.int (k := 0) (by simp); cases e
    subst hx
    have q : ∀ W, (binOp .eql 23 (.slice none 0 c) (.slice none 0 0)).run Tryz.prog W = .ok (.bool true) W := fun W => run_eql_slice_nil W _ _ none 0 c Tryz.underlying23
    go_enter Tryz.func85, Tryz.ntmps85
    go_wp2
    go_ret
    exact RetOwn.nil w _
  | some ad =>
    have h' := h.alloc (.cells #[] 3)
    have HL := Lib.hid hl
    clear hl
    have q : ∀ W, (binOp .eql 23 (.slice (some ad) xs.length c) (.slice none 0 0)).run Tryz.prog W = .ok (.bool false) W := fun W => run_eql_slice_nil W _ _ (some ad) xs.length c Tryz.underlying23
    go_enter Tryz.func85, Tryz.ntmps85
    go_wp2_with (at_builtin; refine wpList_app (B := w.heap.size) rfl _ _ 23 rfl elI rfl (Own.lit0 w 3 (Nat.le_refl _)) rfl h' (oneCell_ints _) (by simp) (by simp only [ints_length, List.length_nil]; have := HL.out; omega) (by simp only [ints_length, List.length_nil]; have := HL.out; omega) ?_; intro b cc w2 ho2 hg2 hat2; have hb2 := ((Below.refl w.heap.size w).alloc (Nat.le_refl _) (.cells #[] 3)).grown hg2 (by simp) (fun r hr => ((Own.lit0 w 3 (Nat.le_refl _)).lt r hr).1))
    go_ret
    exact ⟨_, rfl, ho2, hb2⟩

set_option maxHeartbeats 400000 in
theorem f_IndexFunc2B (p : List Int → Bool) (fn : Nat) (cap : Array Value) (hk : Known fn) (v : Value) (xss : List (List Int)) (w : World) (h : Rd2 w v xss)
    (hf : ∀ (wr : World) (r : Value) (xs : List Int), Below w.heap.size w wr → xs ∈ xss → Rd wr r (ints xs) → Calls Tryz.prog fn (#[r] ++ cap) wr (RetB (.bool (p xs)) wr)) :
    Calls Tryz.prog 147 #[v, .func (.func fn) #[] cap] w (RetB (.int .i64 (idxOf2 p xss)) w) := by
  obtain ⟨a, c, rfl, h2, h3⟩ := h.form
  have HF0 := Lib.hid hf
  clear hf
  go_enter Tryz.func147, Tryz.ntmps147
  go_wp2
  go_loopw [8] (fun i wr => ∃ k : Nat, k ≤ xss.length ∧ i = .int .i64 k ∧ Below w.heap.size w wr ∧ Hid (∀ (j : Nat) y, j < k → xss[j]? = some y → p y = false)) (fun i _ => xss.length - (intOf i).toNat)
  case atStart => exact ⟨0, Nat.zero_le _, rfl, Below.refl _ _, fun j y hj => by omega⟩
  case round =>
    obtain ⟨k, hkl, rfl, hdr, HN⟩ := hrel
    by_cases hlt : k < xss.length
    · obtain ⟨ad, b, m, d, xs, rfl, hc, hx, hm, hmd, hd, hr⟩ := (h.below hdr).row hlt
      have HF := Lib.hid (HF0.out wr _ xs hdr (List.mem_of_getElem? hx.out) hr)
      have hcall := hk (#[.slice b m d] ++ cap) wr
      cases hp : p xs
      · rw [hp] at HF
        go_wp2_with ((with_reducible refine (HF.out).mono ?_); rintro e w2 ⟨rfl, hd2⟩)
        go_roundw
        case rel => exact ⟨k + 1, by omega, by go_num, hdr.trans (hd2.mono hdr.size), fun j y hj hy => by
          by_cases e : j = k
          · subst e
            rw [hx.out] at hy
            cases hy
            exact hp
          · exact HN.out j y (by omega) hy⟩
        case measure => simp [intOf]; omega
      · rw [hp] at HF
        go_wp2_with ((with_reducible refine (HF.out).mono ?_); rintro e w2 ⟨rfl, hd2⟩)
        go_ret
        exact ⟨ret_int (idxOf2_yes hx.out hp HN.out).symm, hdr.trans (hd2.mono hdr.size)⟩
    · obtain rfl : xss.length = k := by omega
      go_wp2
      go_ret
      exact ⟨ret_int (idxOf2_no HN.out).symm, hdr⟩

end Go.Proofs.YtggblfnajeikjaaGreatDoor

namespace Go.Proofs.YtggblfnajeikjaaGreatDoor
open Go.RowKit
set_option linter.unusedVariables false
set_option linter.unusedSimpArgs false

set_option maxHeartbeats 400000 in
theorem f_IndexFuncB (p : Int → Bool) (fn : Nat) (cap : Array Value) (hk : Known fn) (v : Value) (xs : List Int) (w : World) (h : Rd w v (ints xs))
    (hf : ∀ (wr : World) (x : Int), Below w.heap.size w wr → x ∈ xs → Calls Tryz.prog fn (#[.int .i64 x] ++ cap) wr (RetB (.bool (p x)) wr)) :
    Calls Tryz.prog 183 #[v, .func (.func fn) #[] cap] w (RetB (.int .i64 (idxOf p xs)) w) := by
  obtain ⟨a, c, rfl, h2, h3⟩ := h.formi
  have HF0 := Lib.hid hf
  clear hf
  go_enter Tryz.func183, Tryz.ntmps183
  go_wp2
  go_loopw [8] (fun i wr => ∃ k : Nat, k ≤ xs.length ∧ i = .int .i64 k ∧ Below w.heap.size w wr ∧ Hid (∀ (j : Nat) y, j < k → xs[j]? = some y → p y = false)) (fun i _ => xs.length - (intOf i).toNat)
  case atStart => exact ⟨0, Nat.zero_le _, rfl, Below.refl _ _, fun j y hj => by omega⟩
  case round =>
    obtain ⟨k, hkl, rfl, hdr, HN⟩ := hrel
    by_cases hlt : k < xs.length
    · obtain ⟨ad, x, rfl, hc, hx⟩ := (h.below hdr).int hlt
      have HF := Lib.hid (HF0.out wr x hdr (List.mem_of_getElem? hx.out))
      have hcall := hk (#[.int .i64 x] ++ cap) wr
      cases hp : p x
      · rw [hp] at HF
        go_wp2_with ((with_reducible refine (HF.out).mono ?_); rintro e w2 ⟨rfl, hd2⟩)
        go_roundw
        case rel => exact ⟨k + 1, by omega, by go_num, hdr.trans (hd2.mono hdr.size), fun j y hj hy => by
          by_cases e : j = k
          · subst e
            rw [hx.out] at hy
            cases hy
            exact hp
          · exact HN.out j y (by omega) hy⟩
        case measure => simp [intOf]; omega
      · rw [hp] at HF
        go_wp2_with ((with_reducible refine (HF.out).mono ?_); rintro e w2 ⟨rfl, hd2⟩)
        go_ret
        exact ⟨ret_int (idxOf_yes hx.out hp HN.out).symm, hdr.trans (hd2.mono hdr.size)⟩
    · obtain rfl : xs.length = k := by omega
      go_wp2
      go_ret
      exact ⟨ret_int (idxOf_no HN.out).symm, hdr⟩

theorem f_ContainsFuncB (p : Int → Bool) (fn : Nat) (cap : Array Value) (hk : Known fn) (v : Value) (xs : List Int) (w : World) (h : Rd w v (ints xs))
    (hf : ∀ (wr : World) (x : Int), Below w.heap.size w wr → x ∈ xs → Calls Tryz.prog fn (#[.int .i64 x] ++ cap) wr (RetB (.bool (p x)) wr)) :
    Calls Tryz.prog 119 #[v, .func (.func fn) #[] cap] w (RetB (.bool (xs.any p)) w) := by
  have H := f_IndexFuncB p fn cap hk v xs w h hf
  have HI := Lib.hid (idxOf_any p xs)
  clear hf hk h
  generalize idxOf p xs = r at *
  go_enter Tryz.func119, Tryz.ntmps119
  go_wp2_with (go_at_call 183; refine H.mono ?_; rintro e w2 ⟨rfl, hd⟩)
  go_ret
  exact ⟨ret_bool (by rw [← HI.out]), hd⟩

end Go.Proofs.YtggblfnajeikjaaGreatDoor

namespace Go.Proofs.YtggblfnajeikjaaGreatDoor
open Go.RowKit
set_option linter.unusedVariables false
set_option linter.unusedSimpArgs false

theorem RowsOwn.set {w w2 : World} {E B T T' j : Nat} {rows : List Value} {r r' : Value} {xss : List (List Int)} {ys : List Int} (h : RowsOwn w E B T rows xss) (hr : rows[j]? = some r) (hg : w.grownBy w2 r.ownBlock) (ho : Own w2 E B r' (ints ys)) (hT : T ≤ T')
    (hat : ∀ g, r'.ownBlock = some g → r.ownBlock = some g ∨ T ≤ g) (hT' : ∀ g, r'.ownBlock = some g → g < T') : RowsOwn w2 E B T' (rows.set j r') (xss.set j ys) := by
  have hj := (List.getElem?_eq_some_iff.1 hr).1
  refine ⟨by simp [h.1], fun i s hs => ?_, fun i k s t hik hs ht g hg2 => ?_⟩
  · rw [List.getElem?_set] at hs
    by_cases e : j = i
    · subst e
      rw [if_pos rfl, if_pos hj] at hs
      cases hs
      exact ⟨ys, by rw [List.getElem?_set, if_pos rfl, if_pos (by rw [← h.1]; exact hj)], ho, hT'⟩
    · rw [if_neg e] at hs
      obtain ⟨xs, h1, h2, h3⟩ := h.2.1 i s hs
      refine ⟨xs, by rw [List.getElem?_set, if_neg e]; exact h1, h2.apart hg fun g hg2 e2 => ?_, fun g hg2 => Nat.lt_of_lt_of_le (h3 g hg2) hT⟩
      rcases Nat.lt_or_gt_of_ne e with e3 | e3
      · exact h.2.2 j i r s e3 hr hs g e2 hg2
      · exact h.2.2 i j s r e3 hs hr g hg2 e2
  · rw [List.getElem?_set] at hs ht
    by_cases e : j = i
    · subst e
      rw [if_pos rfl, if_pos hj] at hs
      cases hs
      rw [if_neg (by omega)] at ht
      intro e2
      obtain ⟨_, _, _, h3⟩ := h.2.1 k t ht
      rcases hat g hg2 with e3 | e3
      · exact h.2.2 j k r t hik hr ht g e3 e2
      · have := h3 g e2; omega
    · rw [if_neg e] at hs
      by_cases e4 : j = k
      · subst e4
        rw [if_pos rfl, if_pos hj] at ht
        cases ht
        intro e2
        obtain ⟨_, _, _, h3⟩ := h.2.1 i s hs
        rcases hat g e2 with e3 | e3
        · exact h.2.2 i j s r hik hs hr g hg2 e3
        · have := h3 g hg2; omega
      · rw [if_neg e4] at ht
        exact h.2.2 i k s t hik hs ht g hg2

end Go.Proofs.YtggblfnajeikjaaGreatDoor

namespace Go.Proofs.YtggblfnajeikjaaGreatDoor
open Go.RowKit
set_option linter.unusedVariables false
set_option linter.unusedSimpArgs false

def stgK (n : Nat) : Nat := if n = 2 then 1 else if n = 4 then 2 else if n = 8 then 3 else 0
theorem stgK_ok {n : Nat} (h : 0 < stgK n) : Stg n (stgK n) := by
  unfold stgK at *
  unfold Stg
  split at h
  · simp_all
  · split at h
    · simp_all
    · split at h
      · simp_all
      · omega
def stgI (n : Nat) : Int := if stgK n = 0 then -1 else (stgK n : Int)
def stagedB (xs : List Int) : Bool := decide (0 < stgK xs.length) && ordB xs.length xs
def passB (n k : Nat) (x : Nat → Nat) : Bool := (List.range n).all fun i => (List.range i).all fun j => !meetB n k (x i) i (x j) j
theorem passB_no {n k i j : Nat} {x : Nat → Nat} (hi : i < n) (hj : j < i) (h : meetB n k (x i) i (x j) j = true) : passB n k x = false := by
  cases e : passB n k x
  · rfl
  · rw [passB, List.all_eq_true] at e
    have h1 := e i (List.mem_range.2 hi)
    rw [List.all_eq_true] at h1
    have h2 := h1 j (List.mem_range.2 hj)
    rw [h] at h2
    cases h2
theorem passB_yes {n k : Nat} {x : Nat → Nat} (h : ∀ i, i < n → ∀ j, j < i → meetB n k (x i) i (x j) j = false) : passB n k x = true := by
  rw [passB, List.all_eq_true]
  intro i hi
  rw [List.all_eq_true]
  intro j hj
  rw [h i (List.mem_range.1 hi) j (List.mem_range.1 hj)]
  rfl
def frB (n k : Nat) (x : Nat → Nat) (i : Nat) (r : List Int) : Bool := !r.any fun q => meetB n k (x i) i (x q.toNat) q.toNat
def rStep (p : List Int → Bool) (i : Nat) (R : List (List Int)) : List (List Int) :=
  if idxOf2 p R < 0 then R ++ [[(i : Int)]] else R.set (idxOf2 p R).toNat (R.getD (idxOf2 p R).toNat [] ++ [(i : Int)])
def rK (n k : Nat) (x : Nat → Nat) : Nat → List (List Int)
  | 0 => []
  | i + 1 => rStep (frB n k x i) i (rK n k x i)
theorem idxOf2_cases (p : List Int → Bool) (R : List (List Int)) : (idxOf2 p R = -1 ∧ ∀ r ∈ R, p r = false) ∨ ∃ (j : Nat) (xs : List Int), idxOf2 p R = (j : Int) ∧ R[j]? = some xs ∧ p xs = true ∧ ∀ (q : Nat) y, q < j → R[q]? = some y → p y = false := by
  unfold idxOf2
  cases h : R.any p
  · left
    refine ⟨rfl, fun r hr => ?_⟩
    cases hp : p r
    · rfl
    · have : R.any p = true := List.any_eq_true.2 ⟨r, hr, hp⟩
      rw [h] at this; cases this
  · right
    obtain ⟨r, hr, hp⟩ := List.any_eq_true.1 h
    have hl : R.findIdx p < R.length := List.findIdx_lt_length_of_exists ⟨r, hr, hp⟩
    refine ⟨R.findIdx p, R[R.findIdx p], rfl, List.getElem?_eq_getElem hl, List.findIdx_getElem (w := hl), fun q y hq hy => ?_⟩
    have h2 := List.not_of_lt_findIdx hq
    obtain ⟨hq2, e⟩ := List.getElem?_eq_some_iff.1 hy
    rw [← e]
    simpa using h2
theorem rStep_new {p : List Int → Bool} {i : Nat} {R : List (List Int)} (h : idxOf2 p R = -1) : rStep p i R = R ++ [[(i : Int)]] := by rw [rStep, h, if_pos (by omega)]
theorem rStep_in {p : List Int → Bool} {i j : Nat} {R : List (List Int)} {xs : List Int} (h : idxOf2 p R = (j : Int)) (hx : R[j]? = some xs) : rStep p i R = R.set j (xs ++ [(i : Int)]) := by
  rw [rStep, h, if_neg (by omega), Int.toNat_natCast, List.getD_eq_getElem?_getD, hx]
  rfl
theorem rK_inv (n k : Nat) (x : Nat → Nat) : ∀ i, (rK n k x i).length ≤ i ∧ ∀ r ∈ rK n k x i, r.length ≤ i ∧ ∀ q ∈ r, ∃ j : Nat, q = j ∧ j < i
  | 0 => ⟨Nat.le_refl _, fun r hr => (by cases hr)⟩
  | i + 1 => by
    obtain ⟨h1, h2⟩ := rK_inv n k x i
    rw [rK]
    rcases idxOf2_cases (frB n k x i) (rK n k x i) with ⟨e, _⟩ | ⟨j, xs, e, hx, _, _⟩
    · rw [rStep_new e]
      refine ⟨by simp; omega, fun r hr => ?_⟩
      rcases List.mem_append.1 hr with hr | hr
      · obtain ⟨a, b⟩ := h2 r hr
        exact ⟨by omega, fun q hq => by obtain ⟨j, e, h⟩ := b q hq; exact ⟨j, e, by omega⟩⟩
      · rw [List.mem_singleton] at hr
        subst hr
        exact ⟨by simp, fun q hq => by rw [List.mem_singleton] at hq; exact ⟨i, hq, by omega⟩⟩
    · rw [rStep_in e hx]
      refine ⟨by simp; omega, fun r hr => ?_⟩
      rcases List.mem_or_eq_of_mem_set hr with hr | hr
      · obtain ⟨a, b⟩ := h2 r hr
        exact ⟨by omega, fun q hq => by obtain ⟨j, e, h⟩ := b q hq; exact ⟨j, e, by omega⟩⟩
      · subst hr
        obtain ⟨a, b⟩ := h2 xs (List.mem_of_getElem? hx)
        refine ⟨by simp; omega, fun q hq => ?_⟩
        rcases List.mem_append.1 hq with hq | hq
        · obtain ⟨j, e, h⟩ := b q hq; exact ⟨j, e, by omega⟩
        · rw [List.mem_singleton] at hq; exact ⟨i, hq, by omega⟩

theorem i_stages (n : Nat) (w : World) : Calls Tryz.prog 144 #[.int .i64 (n : Int)] w fun e w' => e = .returned (.int .i64 (stgI n)) ∧ w = w' := by
  by_cases h2 : n = 2
  · subst h2
    go_enter Tryz.func144, Tryz.ntmps144
    go_wp2
    go_ret
    exact ⟨rfl, rfl⟩
  · by_cases h4 : n = 4
    · subst h4
      go_enter Tryz.func144, Tryz.ntmps144
      go_wp2
      go_ret
      exact ⟨rfl, rfl⟩
    · by_cases h8 : n = 8
      · subst h8
        go_enter Tryz.func144, Tryz.ntmps144
        go_wp2
        go_ret
        exact ⟨rfl, rfl⟩
      · have HR : Hid (stgI n = -1) := by simp [Hid, stgI, stgK, h2, h4, h8]
        have d2 : ((n : Int) == 2) = false := by rw [beq_eq_false_iff_ne]; omega
        have d4 : ((n : Int) == 4) = false := by rw [beq_eq_false_iff_ne]; omega
        have d8 : ((n : Int) == 8) = false := by rw [beq_eq_false_iff_ne]; omega
        clear h2 h4 h8
        go_enter Tryz.func144, Tryz.ntmps144
        go_wp2
        go_ret
        exact ⟨ret_int HR.out.symm, rfl⟩
theorem i_isStaged (v : Value) (xs : List Int) (w : World) (h : Rd w v (ints xs)) : Calls Tryz.prog 92 #[v] w (RetB (.bool (stagedB xs)) w) := by
  obtain ⟨a, n, c, rfl, HN, hnc, hc⟩ := h.formN
  have HS := Lib.hid (fun W => i_stages n W)
  by_cases h0 : 0 < stgK n
  · have hk3 := stgK_ok h0
    have hn8 : n ≤ 8 ∧ stgK n ≤ 3 := by rcases hk3 with ⟨e, e2⟩ | ⟨e, e2⟩ | ⟨e, e2⟩ <;> omega
    have HK := i_isOrder _ xs w h (by have := HN.out; omega)
    rw [← HN.out] at HK
    have HR : Hid (stagedB xs = ordB n xs) := by rw [Hid, stagedB, ← HN.out]; simp [h0]
    have HK2 := Lib.hid HK
    rw [stgI, if_neg (by omega)] at HS
    clear HK hk3
    generalize stgK n = k at h0 hn8 HS
    have i1 : (k : Int) > 0 := by omega
    go_enter Tryz.func92, Tryz.ntmps92
    go_wp2_with (first
      | (go_at_call 144; refine (HS.out _).mono ?_; rintro e w' ⟨rfl, rfl⟩)
      | (go_at_call 136; refine HK2.out.mono ?_; rintro e w' ⟨rfl, hb⟩))
    go_ret
    exact ⟨by rw [HR.out]; rfl, hb⟩
  · have HR : Hid (stagedB xs = false) := by rw [Hid, stagedB, ← HN.out]; simp [h0]
    rw [stgI, if_pos (by omega)] at HS
    clear h0
    go_enter Tryz.func92, Tryz.ntmps92
    go_wp2_with (go_at_call 144; refine (HS.out _).mono ?_; rintro e w' ⟨rfl, rfl⟩)
    go_ret
    exact ⟨ret_bool HR.out.symm, Below.refl _ _⟩

set_option maxHeartbeats 1000000 in
theorem i_canPass (v : Value) (n k : Nat) (x : Nat → Nat) (w : World) (hs : Stg n k) (H : Ord n x) (h : Rd w v (ints (natA n x))) : Calls Tryz.prog 94 #[v] w (RetB (.bool (passB n k x)) w) := by
  obtain ⟨a, c, rfl, hnc, hc⟩ := h.formi
  rw [natA_len] at h hnc ⊢
  have hn8 : 2 ≤ n ∧ n ≤ 8 := by rcases hs with ⟨rfl, _⟩ | ⟨rfl, _⟩ | ⟨rfl, _⟩ <;> omega
  obtain ⟨ad, rfl, _⟩ := h.cell (k := 0) (by rw [ints_length, natA_len]; omega)
  have HM := Lib.hid (fun (i j : Nat) (hi : i < n) (hj : j < n) W => i_meet n k (x i) i (x j) j W hs (H.lx i hi) hi (H.lx j hj) hj)
  have HC := Lib.hid (fun (W : World) (hW : Below w.heap.size w W) (i : Nat) (hi : i < n) => (h.below hW).cell_int' (natA_get x hi))
  have HY : Hid ((∀ i, i < n → ∀ j, j < i → meetB n k (x i) i (x j) j = false) → passB n k x = true) := passB_yes
  have HN : Hid (∀ i j, i < n → j < i → meetB n k (x i) i (x j) j = true → passB n k x = false) := fun i j => passB_no
  generalize passB n k x = r at HY HN ⊢
  go_enter Tryz.func94, Tryz.ntmps94
  go_wp2
  go_loopg [8] n (fun g iv wr => ∃ i : Nat, g = n - i ∧ i ≤ n ∧ iv = .int .i64 i ∧ Hid (∀ i', i' < i → ∀ j, j < i' → meetB n k (x i') i' (x j) j = false) ∧ Below w.heap.size w wr)
  case atStart => exact ⟨0, rfl, Nat.zero_le _, rfl, fun i h => by omega, Below.refl _ _⟩
  case round =>
    obtain ⟨i, hg, hi, rfl, HI, hb⟩ := hrel
    by_cases hlt : i < n
    · have c1 := HC.out wr hb i hlt
      have HXI : Hid (x i = x i) := rfl
      go_wp2
      clear c1
      go_loopg [14] i (fun g jv wr => ∃ j : Nat, g = i - j ∧ j ≤ i ∧ jv = .int .i64 j ∧ Hid (∀ j', j' < j → meetB n k (x i) i (x j') j' = false) ∧ Below w.heap.size w wr)
      case atStart => exact ⟨0, rfl, Nat.zero_le _, rfl, fun i h => by omega, hb⟩
      case round =>
        clear hb
        obtain ⟨j, hgj, hj, rfl, HJ, hb⟩ := hrel
        by_cases hltj : j < i
        · have c2 := HC.out wr hb j (by omega)
          have hcall := Lib.hid (HM.out i j hlt (by omega))
          cases hm : meetB n k (x i) i (x j) j
          · rw [hm] at hcall
            have HJ2 : Hid (∀ j', j' < j + 1 → meetB n k (x i) i (x j') j' = false) := fun j' hj' => by
              by_cases e : j' = j
              · subst e; exact hm
              · exact HJ.out j' (by omega)
            clear hm
            go_wp2_with (go_at_call 146; refine (hcall.out _).mono ?_; rintro e w2 ⟨rfl, hb2⟩)
            go_roundg (i - (j + 1))
            case measure => omega
            case rel => exact ⟨j + 1, rfl, by omega, by go_num, HJ2, hb.trans (hb2.mono hb.size)⟩
          · rw [hm] at hcall
            have HE := Lib.hid (HN.out i j hlt hltj hm)
            clear hm
            go_wp2_with (go_at_call 146; refine (hcall.out _).mono ?_; rintro e w2 ⟨rfl, hb2⟩)
            go_ret
            exact ⟨ret_bool HE.out.symm, hb.trans (hb2.mono hb.size)⟩
        · obtain rfl : j = i := Nat.le_antisymm hj (Nat.le_of_not_lt hltj)
          have HI2 : Hid (∀ i', i' < j + 1 → ∀ q, q < i' → meetB n k (x i') i' (x q) q = false) := fun i' hi' => by
            by_cases e : i' = j
            · subst e; exact HJ.out
            · exact HI.out i' (by omega)
          go_wp2
          go_roundg (n - (j + 1))
          case measure => omega
          case rel => exact ⟨j + 1, rfl, by omega, by go_num, HI2, hb⟩
    · obtain rfl : i = n := Nat.le_antisymm hi (Nat.le_of_not_lt hlt)
      have HE := Lib.hid (HY.out HI.out)
      go_wp2
      go_ret
      exact ⟨ret_bool HE.out.symm, hb⟩

end Go.Proofs.YtggblfnajeikjaaGreatDoor

namespace Go.Proofs.YtggblfnajeikjaaGreatDoor
open Go.RowKit
set_option linter.unusedVariables false
set_option linter.unusedSimpArgs false

theorem k_RN11 : Known 149 := known Tryz.func149 (by kernel_rfl) (by kernel_rfl)
theorem k_RN1 : Known 148 := known Tryz.func148 (by kernel_rfl) (by kernel_rfl)
set_option maxHeartbeats 2000000 in
theorem i_RN11 (n k i q : Nat) (x : Nat → Nat) (ad : Addr) (c b1 b2 b3 : Nat) (w : World) (hs : Stg n k) (H : Ord n x) (hi : i < n) (hq : q < n) (c1 : w.cell? ⟨b1, 0, none⟩ = some (.slice (some ad) n c)) (c2 : w.cell? ⟨b2, 0, none⟩ = some (.int .i64 ((x i : Nat) : Int))) (c3 : w.cell? ⟨b3, 0, none⟩ = some (.int .i64 (i : Int))) (cq : w.cell? (ad.add q) = some (.int .i64 ((x q : Nat) : Int))) :
    Calls Tryz.prog 149 #[.int .i64 (q : Int), .pointer (some ⟨b1, 0, none⟩), .pointer (some ⟨b2, 0, none⟩), .pointer (some ⟨b3, 0, none⟩)] w (RetB (.bool (meetB n k (x i) i (x q) q)) w) := by
  have KM : Hid (∀ W : World, Below w.heap.size w W → Calls Tryz.prog 146 #[.int .i64 (n : Int), .int .i64 ((x i : Nat) : Int), .int .i64 (i : Int), .int .i64 ((x q : Nat) : Int), .int .i64 (q : Int)] W fun e w' => e = .returned (.bool (meetB n k (x i) i (x q) q)) ∧ Below w.heap.size w w') := fun W hW => (i_meet n k (x i) i (x q) q W hs (H.lx i hi) hi (H.lx q hq) hq).mono fun e w' h => ⟨h.1, hW.trans (h.2.mono hW.size)⟩
  have hn8 : n ≤ 8 := by rcases hs with ⟨rfl, _⟩ | ⟨rfl, _⟩ | ⟨rfl, _⟩ <;> omega
  generalize meetB n k (x i) i (x q) q = m at KM ⊢
  generalize x i = xi at KM c2
  generalize x q = xq at KM cq
  have HT : Hid (∀ wx : World, Below w.heap.size w wx → Below w.heap.size w wx ∧ wx.cell? ⟨b1, 0, none⟩ = some (.slice (some ad) n c) ∧ wx.cell? ⟨b2, 0, none⟩ = some (.int .i64 (xi : Int)) ∧ wx.cell? ⟨b3, 0, none⟩ = some (.int .i64 (i : Int)) ∧ wx.cell? (ad.add q) = some (.int .i64 (xq : Int))) := fun wx hb =>
    ⟨hb, (hb.cell (World.block_lt_of_cell? _ _ c1)).trans c1, (hb.cell (World.block_lt_of_cell? _ _ c2)).trans c2, (hb.cell (World.block_lt_of_cell? _ _ c3)).trans c3, (hb.cell (World.block_lt_of_cell? _ _ cq)).trans cq⟩
  go_enter Tryz.func149, Tryz.ntmps149
  go_wp2_with fail
  go_region_held3 (fun wx => Below w.heap.size w wx ∧ wx.cell? ⟨b1, 0, none⟩ = some (.slice (some ad) n c) ∧ wx.cell? ⟨b2, 0, none⟩ = some (.int .i64 (xi : Int)) ∧ wx.cell? ⟨b3, 0, none⟩ = some (.int .i64 (i : Int)) ∧ wx.cell? (ad.add q) = some (.int .i64 (xq : Int)))
    (first | exact HT.out _ gM | exact HT.out _ (by exact ⟨rfl, rfl, rfl, Nat.le_refl _, fun _ _ => rfl⟩) | go_keep)
    ((go_at_call 146; refine (KM.out _ (by exact (show _ ∧ _ ∧ _ from by assumption).1)).mono ?_; rintro e wM ⟨rfl, gM⟩))
  all_goals
    go_wp2_with fail
    go_ret
    exact ⟨rfl, gM⟩
theorem i_RN1 (n k i : Nat) (x : Nat → Nat) (ad : Addr) (c b1 b2 b3 : Nat) (vr : Value) (r : List Int) (w : World) (hs : Stg n k) (H : Ord n x) (hi : i < n) (c1 : w.cell? ⟨b1, 0, none⟩ = some (.slice (some ad) n c)) (c2 : w.cell? ⟨b2, 0, none⟩ = some (.int .i64 ((x i : Nat) : Int))) (c3 : w.cell? ⟨b3, 0, none⟩ = some (.int .i64 (i : Int))) (ho : Rd w (.slice (some ad) n c) (ints (natA n x)))
    (hr : Rd w vr (ints r)) (hq : ∀ q ∈ r, ∃ j : Nat, q = j ∧ j < n) :
    Calls Tryz.prog 148 #[vr, .pointer (some ⟨b1, 0, none⟩), .pointer (some ⟨b2, 0, none⟩), .pointer (some ⟨b3, 0, none⟩)] w (RetB (.bool (frB n k x i r)) w) := by
  have HC := f_ContainsFuncB (fun q => meetB n k (x i) i (x q.toNat) q.toNat) 149 #[.pointer (some ⟨b1, 0, none⟩), .pointer (some ⟨b2, 0, none⟩), .pointer (some ⟨b3, 0, none⟩)] k_RN11 vr r w hr fun wr y hw hy => by
    obtain ⟨j, rfl, hj⟩ := hq y hy
    have c := (ho.below hw).cell_int' (natA_get x hj)
    exact i_RN11 n k i j x ad _ b1 b2 b3 wr hs H hi hj ((hw.cell (World.block_lt_of_cell? _ _ c1)).trans c1) ((hw.cell (World.block_lt_of_cell? _ _ c2)).trans c2) ((hw.cell (World.block_lt_of_cell? _ _ c3)).trans c3) c
  have HR : Hid (frB n k x i r = !(r.any fun q => meetB n k (x i) i (x q.toNat) q.toNat)) := rfl
  generalize (r.any fun q => meetB n k (x i) i (x q.toNat) q.toNat) = m at HC HR
  have HCC := Lib.hid HC
  obtain ⟨ar, nr, cr, rfl, _, _, _⟩ := hr.formN
  clear HC
  go_enter Tryz.func148, Tryz.ntmps148
  go_wp2_with (go_at_call 119; refine HCC.out.mono ?_; rintro e w2 ⟨rfl, hb2⟩)
  go_ret
  exact ⟨ret_bool HR.out.symm, hb2⟩

set_option maxRecDepth 100000 in
set_option maxHeartbeats 4000000 in
theorem i_RoundsNeeded (v : Value) (n k : Nat) (x : Nat → Nat) (w : World) (hs : Stg n k) (H : Ord n x) (hst : stagedB (natA n x) = true) (h : Rd w v (ints (natA n x))) : Calls Tryz.prog 95 #[v] w (RetB (.int .i64 ((rK n k x n).length : Nat)) w) := by
  obtain ⟨a, c, rfl, hnc, hc⟩ := h.formi
  rw [natA_len] at h hnc ⊢
  have hn8 : 2 ≤ n ∧ n ≤ 8 := by rcases hs with ⟨rfl, _⟩ | ⟨rfl, _⟩ | ⟨rfl, _⟩ <;> omega
  obtain ⟨ad, rfl, _⟩ := h.cell (k := 0) (by rw [ints_length, natA_len]; omega)
  have HX := Lib.hid (fun (W : World) (hW : Below w.heap.size w W) => h.below hW)
  have HC := Lib.hid (fun (W : World) (hW : Below w.heap.size w W) (i : Nat) (hi : i < n) => (h.below hW).cell_int' (natA_get x hi))
  obtain ⟨w0, hw0⟩ : ∃ w0, w.alloc (.cells #[.slice (some ad) n c] 23) = w0 := ⟨_, rfl⟩
  have hb0 : Below w.heap.size w w0 := by rw [← hw0]; exact (Below.refl _ _).alloc (Nat.le_refl _) _
  have hz0 : w0.heap.size = w.heap.size + 1 := by rw [← hw0]; simp
  have c0 : w0.cell? ⟨w.heap.size, 0, none⟩ = some (.slice (some ad) n c) := by rw [← hw0]; exact (cell_of_row _ _ 0 _ _ (0, 0) (heap_alloc_new w _)).trans rfl
  have C0 := Lib.hid c0
  have HIS := Lib.hid (hst ▸ i_isStaged _ _ w0 (h.below hb0))
  have HR : Hid (rK n k x n = rK n k x n) := rfl
  have HRI := Lib.hid (fun i => rK_inv n k x i)
  have HRS : Hid (∀ i, rK n k x (i + 1) = rStep (frB n k x i) i (rK n k x i)) := fun i => rfl
  have HCL := Lib.hid (fun (i : Nat) (hi : i < n) (b2 b3 : Nat) (vr : Value) (r : List Int) (W : World) (hW : Below w.heap.size w W) (c1 : W.cell? ⟨w.heap.size, 0, none⟩ = some (.slice (some ad) n c)) (c2 : W.cell? ⟨b2, 0, none⟩ = some (.int .i64 ((x i : Nat) : Int))) (c3 : W.cell? ⟨b3, 0, none⟩ = some (.int .i64 (i : Int))) (hr : Rd W vr (ints r)) (hq : ∀ q ∈ r, ∃ j : Nat, q = j ∧ j < n) => i_RN1 n k i x ad c w.heap.size b2 b3 vr r W hs H hi c1 c2 c3 (h.below hW) hr hq)
  go_enter Tryz.func95, Tryz.ntmps95
  go_wp2_with (fail)
  refine HIS.out.mono ?_
  rintro e w1 ⟨rfl, hb1⟩
  have hs1 := hb1.size
  have hO1 : Own2 (w1.alloc (.cells #[] 23)) 23 3 (w.heap.size + 1) (w1.alloc (.cells #[] 23)).heap.size (.slice (some ⟨w1.heap.size, 0, none⟩) 0 0) [] := by
    refine ⟨[], by simpa [ints] using Own.lit0 w1 23 (B := w.heap.size + 1) (by omega), fun g hg => ?_, RowsOwn.nil _ _ _ _⟩
    simp [Value.ownBlock] at hg
    simp
    omega
  have hB1 : Below (w.heap.size + 1) w0 (w1.alloc (.cells #[] 23)) := (hb1.mono (by omega)).alloc (by omega) _
  have c1 := (hb1.cell (show w.heap.size < w0.heap.size by omega)).trans C0.out
  have c1a := (((Below.refl w1.heap.size w1).alloc (Nat.le_refl _) (.cells #[] 23)).cell (show w.heap.size < w1.heap.size by omega)).trans c1
  go_wp2_with (fail)
  clear c1 c1a c0
  go_loopg [3, 13] n (fun g vo iv wr => ∃ i : Nat, g = n - i ∧ i ≤ n ∧ iv = .int .i64 i ∧ Own2 wr 23 3 (w.heap.size + 1) wr.heap.size vo (rK n k x i) ∧ Below (w.heap.size + 1) w0 wr)
  case atStart => exact ⟨0, rfl, Nat.zero_le _, rfl, hO1, hB1⟩
  case round =>
    clear hO1 hB1 hb1 hs1
    obtain ⟨i, hg, hi, rfl, ho, hb⟩ := hrel
    obtain ⟨R, hRe⟩ : ∃ R, rK n k x i = R := ⟨_, rfl⟩
    have HI := Lib.hid (HRI.out i)
    have HS1 := Lib.hid (HRS.out i)
    rw [hRe] at ho HI HS1
    by_cases hlt : i < n
    · have hbw := hb0.trans (hb.mono (by omega))
      have cx := HC.out wr hbw i hlt
      clear hRe
      obtain ⟨ao, co, rfl, _, _⟩ := ho.form
      have hRl : R.length ≤ 8 := by have := HI.out.1; omega
      obtain ⟨m, hm⟩ : ∃ m, R.length = m := ⟨_, rfl⟩
      have HMR := Lib.hid hm
      rw [hm] at ho hRl ⊢
      clear hm
      go_upto_region 7 with (fail)
      clear cx
      obtain ⟨w5, hw5⟩ : ∃ w5, (wr.alloc (.cells #[.int .i64 (i : Int)] 3)).alloc (.cells #[.int .i64 ((x i : Nat) : Int)] 3) = w5 := ⟨_, rfl⟩
      have hb5 : Below wr.heap.size wr w5 := by rw [← hw5]; exact ((Below.refl _ _).alloc (Nat.le_refl _) _).alloc (by simp) _
      have hz5 : w5.heap.size = wr.heap.size + 2 := by rw [← hw5]; simp
      have d1 : w5.cell? ⟨wr.heap.size, 0, none⟩ = some (.int .i64 (i : Int)) := by
        have e1 : (wr.alloc (.cells #[.int .i64 (i : Int)] 3)).cell? ⟨wr.heap.size, 0, none⟩ = some (.int .i64 (i : Int)) := (cell_of_row _ _ 0 _ _ (0, 0) (heap_alloc_new wr _)).trans rfl
        rw [← hw5]
        exact (World.cell?_alloc_lt _ _ _ (by simp)).trans e1
      have d2 : w5.cell? ⟨wr.heap.size + 1, 0, none⟩ = some (.int .i64 ((x i : Nat) : Int)) := by
        have := (cell_of_row _ _ 0 _ _ (0, 0) (heap_alloc_new (wr.alloc (.cells #[.int .i64 (i : Int)] 3)) (.cells #[.int .i64 ((x i : Nat) : Int)] 3))).trans rfl
        rw [← hw5]
        simp
      have hsr := hb.size
      have d0 : w5.cell? ⟨w.heap.size, 0, none⟩ = some (.slice (some ad) n c) := (hb5.cell (show w.heap.size < wr.heap.size by omega)).trans ((hb.cell (Nat.lt_succ_self _)).trans C0.out)
      obtain ⟨rows, hov, hTT, hrows⟩ := ho
      have hbw5 := hbw.trans (hb5.mono hbw.size)
      have ho5 : Own2 w5 23 3 (w.heap.size + 1) wr.heap.size (.slice ao m co) R := ⟨rows, hov.below hb5, hTT, hrows.below hb5⟩
      have HIX := Lib.hid (f_IndexFunc2B (frB n k x i) 148 #[.pointer (some ⟨w.heap.size, 0, none⟩), .pointer (some ⟨wr.heap.size + 1, 0, none⟩), .pointer (some ⟨wr.heap.size, 0, none⟩)] k_RN1 (.slice ao m co) R w5 ho5.rd fun W r xs hW hxs hr =>
        HCL.out i hlt (wr.heap.size + 1) wr.heap.size r xs W (hbw5.trans (hW.mono hbw5.size)) ((hW.cell (World.block_lt_of_cell? _ _ d0)).trans d0) ((hW.cell (World.block_lt_of_cell? _ _ d2)).trans d2) ((hW.cell (World.block_lt_of_cell? _ _ d1)).trans d1) hr fun q hq => by
          obtain ⟨j, e, hj⟩ := (HI.out.2 xs hxs).2 q hq
          exact ⟨j, e, by omega⟩)
      clear d2
      rcases idxOf2_cases (frB n k x i) R with ⟨he, _⟩ | ⟨j, xs, he, hxj, _, _⟩
      · have HRN : Hid (rK n k x (i + 1) = R ++ [[(i : Int)]]) := by rw [Hid, HS1.out, rStep_new he]
        rw [he] at HIX
        clear he
        go_upto_region 9 with (go_at_call 147; refine HIX.out.mono ?_; rintro e w6 ⟨rfl, hb6⟩)
        have d6 := (hb6.cell (World.block_lt_of_cell? _ _ d1)).trans d1
        obtain ⟨rows, hov, hTT, hrows⟩ := ho5
        have hb67 : Below w6.heap.size w6 (w6.alloc (.cells #[.int .i64 (i : Int)] 3)) := (Below.refl _ _).alloc (Nat.le_refl _) _
        have hs6 := hb6.size
        have hrow : Own (w6.alloc (.cells #[.int .i64 (i : Int)] 3)) 3 w6.heap.size (.slice (some ⟨w6.heap.size, 0, none⟩) 1 1) (ints [(i : Int)]) := Own.lit w6 3 w6.heap.size #[.int .i64 (i : Int)] (Nat.le_refl _) (by simp)
        have hov7 := (hov.below hb6).below hb67
        have hrows7 := (hrows.below hb6).below hb67
        have hB7 : w.heap.size + 1 ≤ (w6.alloc (.cells #[.int .i64 (i : Int)] 3)).heap.size := by simp; omega
        have HRL : Hid (rows.length = m) := by rw [Hid, hrows.1, HMR.out]
        go_wp2_with (at_builtin; (refine wpList_app1m rfl _ _ 28 rfl elII ?_ hov7 ?_ ?_ hB7 m HRL.out (by omega) (by omega) ?_); (focus exact rfl); (focus (simp [Act.eval])); (focus exact rfl); intro bn cn' w8 ho8 hg8 hat8)
        have ho9 := Own2.app (hrows7.snoc (hrow.mono (show w.heap.size + 1 ≤ w6.heap.size by omega)) (fun k hk => by simp [Value.ownBlock] at hk; simp; omega) (show wr.heap.size ≤ (w6.alloc (.cells #[.int .i64 (i : Int)] 3)).heap.size by simp; omega)) hov7 (by decide) hg8 ho8 hg8.size
        have hb8 := ((hb.trans (hb5.mono (by omega))).trans ((hb6.mono (by omega)).trans (hb67.mono (by omega)))).grown hg8 hB7 fun r hr => (hov7.lt r hr).1
        go_roundg (n - (i + 1))
        case measure => omega
        case rel => exact ⟨i + 1, rfl, by omega, by go_num, by rw [HRN.out]; exact ho9, hb8⟩
      · have HRN : Hid (rK n k x (i + 1) = R.set j (xs ++ [(i : Int)])) := by rw [Hid, HS1.out, rStep_in he hxj]
        rw [he] at HIX
        have hjm : j < m := by have := (List.getElem?_eq_some_iff.1 hxj).1; rw [← HMR.out]; exact this
        have hxl : xs.length ≤ 8 := by have := (HI.out.2 xs (List.mem_of_getElem? hxj)).1; omega
        clear he
        have i0 : ¬ ((j : Int) < 0) := by omega
        go_upto_region 10 with (go_at_call 147; refine HIX.out.mono ?_; rintro e w6 ⟨rfl, hb6⟩)
        have d6 := (hb6.cell (World.block_lt_of_cell? _ _ d1)).trans d1
        have d7 := (((Below.refl w6.heap.size w6).alloc (Nat.le_refl _) (.cells #[.int .i64 (i : Int)] 3)).cell (World.block_lt_of_cell? _ _ d6)).trans d6
        obtain ⟨rows, hov, hTT, hrows⟩ := ho5
        have hs6 := hb6.size
        have ho := hov.below hb6
        have hR := hrows.below hb6
        have HRL : Hid (rows.length = m) := by rw [Hid, hrows.1, HMR.out]
        obtain ⟨r, hr⟩ : ∃ r, rows[j]? = some r := ⟨_, List.getElem?_eq_getElem (by rw [HRL.out]; exact hjm)⟩
        obtain ⟨xs', hx', hor, hrT⟩ := hR.2.1 j r hr
        obtain rfl : xs = xs' := by rw [hxj] at hx'; exact Option.some.inj hx'
        obtain ⟨ar, mr, cr, rfl, HNR, _, _⟩ := hor.rd.formN
        have hmr : mr ≤ 8 := by have := HNR.out; omega
        have HLR : Hid ((ints xs).length = mr) := by rw [Hid, ints_length, HNR.out]
        obtain ⟨bo, rfl⟩ := ho.some_of (by rw [HRL.out]; omega)
        have HRR := Lib.hid hr
        have HCE : Hid (∀ wx : World, Own wx 23 (w.heap.size + 1) (.slice (some bo) m co) rows → wx.cell? (bo.add j) = some (.slice ar mr cr)) := fun wx hx => by
          obtain ⟨ad2, e, hc2⟩ := hx.rd.cell (k := j) (by rw [HRL.out]; exact hjm)
          have h2 := HRR.out
          injection e with e
          rw [List.getElem?_eq_getElem (by rw [HRL.out]; exact hjm)] at h2
          injection h2 with h2
          rw [e, hc2, h2]
        have hcq := HCE.out _ ho
        have hcqA := HCE.out _ (ho.alloc (.cells #[.int .i64 (i : Int)] 3))
        have hsb : w.heap.size + 1 ≤ w6.heap.size := by omega
        have i2 : (j : Int) < (m : Int) := by omega
        clear hr hxj hx'
        go_region_law ((refine step_app1 (by rfl) _ _ _ (by rfl) elI (by rfl) hor (by rfl) (by rfl) hsb (by rw [HLR.out]; omega) (by rw [HLR.out]; omega) ?_; intro b7 c7 w7 ho7 hg7 hat7; have hoo7 := ho.apart hg7 (ho.elem_ne hor (by decide)); have hcq7 := HCE.out _ hoo7; have hfq7 := hoo7.frozen rfl j))
        all_goals
          have hj9 : j < rows.length := by rw [HRL.out]; exact hjm
          have hR7 := hR.set (ys := xs ++ [(i : Int)]) HRR.out hg7 (by rw [ints_append]; exact ho7) (Nat.le_trans (show wr.heap.size ≤ w6.heap.size by omega) hg7.size) (fun g hg => by
            rcases hat_of hat7 g hg with e | e
            · exact .inl e
            · exact .inr (by omega)) (fun g hg => (ho7.lt g hg).2)
          have hb7 := ((hb.trans (hb5.mono (by omega))).trans (hb6.mono (by omega))).grown hg7 hsb (fun r hr => (hor.lt r hr).1)
          have hst := hoo7.set rfl hj9 (.slice b7 ((ints xs).length + 1) c7)
          have hR8 := hR7.outer hst.2 hoo7 (by decide)
          rw [← HRN.out] at hR8
          have hb8 := hb7.grown hst.2 (by have := hb7.size; omega) (fun r hr => (hoo7.lt r hr).1)
          clear hor hcq hcqA hoo7 hg7 hat7 ho7 hR7 hb7
          go_wp2_with fail
          go_roundg (n - (i + 1))
          case measure => omega
          case rel => exact ⟨i + 1, rfl, by omega, by go_num, ⟨_, hst.1, fun g hg => (hst.1.lt g hg).2, hR8.mono (Nat.le_refl _) (by simp)⟩, ⟨hb8.os, hb8.tape, hb8.output, hb8.size, hb8.block⟩⟩
    · obtain rfl : i = n := Nat.le_antisymm hi (Nat.le_of_not_lt hlt)
      have HRE := Lib.hid hRe
      clear hRe
      obtain ⟨ao, co, rfl, _, _⟩ := ho.form
      go_wp2
      go_ret
      exact ⟨ret_int (by rw [HRE.out]), hb0.trans (hb.mono (by omega))⟩

end Go.Proofs.YtggblfnajeikjaaGreatDoor

namespace Go.Proofs.YtggblfnajeikjaaGreatDoor
open Go.RowKit
set_option linter.unusedVariables false
set_option linter.unusedSimpArgs false

def fabX (xs : List Int) : Nat → Nat := fun o => (xs.getD o 0).toNat
theorem fabX_ok {xs : List Int} (h : stagedB xs = true) : Stg xs.length (stgK xs.length) ∧ Ord xs.length (fabX xs) ∧ natA xs.length (fabX xs) = xs := by
  simp only [stagedB, Bool.and_eq_true, decide_eq_true_eq] at h
  obtain ⟨x, hx, H⟩ := ord_of rfl (ordB_iff.1 h.2)
  have e : ∀ o, o < xs.length → fabX xs o = x o := fun o ho => by
    have h1 : xs[o]? = some ((x o : Nat) : Int) := by
      have := natA_get (n := xs.length) x ho
      rw [← hx] at this
      exact this
    rw [fabX, List.getD_eq_getElem?_getD, h1]
    simp
  refine ⟨stgK_ok h.1, ⟨fun o ho => by rw [e o ho]; exact H.lx o ho, fun o p ho hp h2 => H.inj o p ho hp (by rw [← e o ho, ← e p hp]; exact h2), fun v hv => ?_⟩, (natA_congr e).trans hx.symm⟩
  obtain ⟨o, ho, h2⟩ := H.sur v hv
  exact ⟨o, ho, by rw [e o ho]; exact h2⟩
theorem cyc_two (n : Nat) (x : Nat → Nat) : ∀ (f o : Nat) (s : FS), (∀ k, s.first k < 2 ∧ s.last k < 2) → ∀ k, (cyc n x f o s).first k < 2 ∧ (cyc n x f o s).last k < 2
  | 0, _, _, h => h
  | f + 1, o, s, h => by
    rw [cyc]
    split
    · exact h
    · refine cyc_two n x f _ _ fun k => ?_
      simp only [fput, upd]
      have := h k
      constructor
      · split <;> omega
      · split <;> omega
theorem cycs_two (h : Nat) (x : Nat → Nat) : ∀ j k, (cycs h x j).first k < 2 ∧ (cycs h x j).last k < 2
  | 0, k => ⟨Nat.zero_lt_two, Nat.zero_lt_two⟩
  | j + 1, k => cyc_two _ _ _ _ _ (cycs_two h x j) k
theorem setL_bd : ∀ (d : Nat) (x : Nat → Nat), Ord (2 ^ (d + 1)) x → ∀ v ∈ setL d x, 0 ≤ v ∧ v < 2
  | 0, x, H, v, hv => by
    have h1 := H.lx 0 (by decide)
    simp only [setL, List.mem_singleton] at hv
    subst hv
    have : x 0 < 2 := h1
    omega
  | d + 1, x, H, v, hv => by
    have e : 2 ^ (d + 1 + 1) = 2 * 2 ^ (d + 1) := by rw [Nat.pow_succ]; omega
    rw [e] at H
    have hF := fin_up H (cycs_FD H _ (Nat.le_refl _)).1 (cycs_FD H _ (Nat.le_refl _)).2
    have h2 := cycs_two (2 ^ (d + 1)) x (2 ^ (d + 1))
    simp only [setL, List.mem_append] at hv
    rcases hv with ((hv | hv) | hv) | hv
    · simp only [atL, List.mem_map, List.mem_range] at hv
      obtain ⟨k, _, rfl⟩ := hv
      have := (h2 k).1
      simp only [finS]
      omega
    · exact setL_bd d _ hF.1 v hv
    · exact setL_bd d _ hF.2 v hv
    · simp only [atL, List.mem_map, List.mem_range] at hv
      obtain ⟨k, _, rfl⟩ := hv
      have := (h2 k).2
      simp only [finS]
      omega
def fabSet (xs : List Int) : List Int := setL (stgK xs.length - 1) (fabX xs)
def fabLine (xs : List Int) : List UInt8 :=
  if stagedB xs then (if passB xs.length (stgK xs.length) (fabX xs) then [115, 101, 116, 32] ++ numsB (fabSet xs) ++ [32, 112, 97, 115, 115, 101, 115]
    else [115, 101, 116, 32] ++ numsB (fabSet xs) ++ [32, 114, 111, 117, 110, 100, 115, 32] ++ Lib.itoa ((rK xs.length (stgK xs.length) (fabX xs) xs.length).length : Nat)) else [110, 111, 110, 101]
theorem fabSet_bd {xs : List Int} (h : stagedB xs = true) : I64s (fabSet xs) ∧ (fabSet xs).length ≤ 20 := by
  obtain ⟨hs, H, _⟩ := fabX_ok h
  have hd : xs.length = 2 ^ (stgK xs.length - 1 + 1) ∧ stgK xs.length - 1 ≤ 2 := by
    rcases hs with ⟨a, b⟩ | ⟨a, b⟩ | ⟨a, b⟩ <;> rw [b] <;> exact ⟨a, by omega⟩
  rw [hd.1] at H
  refine ⟨fun v hv => ?_, ?_⟩
  · have := setL_bd _ _ H v hv
    unfold I64
    omega
  · have : ∀ (d : Nat) (x : Nat → Nat), d ≤ 2 → (setL d x).length ≤ 20 := fun d x h => by
      match d, h with
      | 0, _ => simp [setL]
      | 1, _ => simp [setL, atL_length]
      | 2, _ => simp [setL, atL_length]
      | d + 3, h => omega
    exact this _ _ hd.2

set_option maxHeartbeats 2000000 in
theorem I_FabricLine (w : World) (v : Value) (xs : List Int) (h : Rd w v (ints xs)) (_ : I64s xs) (_ : xs.length ≤ 1048576) (ht : Tab w) : Calls Tryz.prog 36 #[v] w (RetB (.string (bstr (fabLine xs))) w) := by
  have HO := i_isStaged v xs w h
  obtain ⟨a, n, c, rfl, HN, hnc, hc⟩ := h.formN
  cases hs : stagedB xs
  · rw [hs] at HO
    have HR : Hid (fabLine xs = [110, 111, 110, 101]) := by rw [Hid, fabLine, hs]; rfl
    have HOK := Lib.hid HO
    clear HO hs
    go_enter Tryz.func36, Tryz.ntmps36
    go_wp2_with (go_at_call 92; refine HOK.out.mono ?_; rintro e w' ⟨rfl, hb1⟩)
    go_ret
    exact ⟨by rw [HR.out]; rfl, hb1⟩
  rw [hs] at HO
  have HOK := Lib.hid HO
  obtain ⟨hst, H, hx⟩ := fabX_ok hs
  obtain ⟨hfi, hfl⟩ := fabSet_bd hs
  have hd : xs.length = 2 ^ (stgK xs.length - 1 + 1) ∧ stgK xs.length - 1 ≤ 2 := by
    rcases hst with ⟨a, b⟩ | ⟨a, b⟩ | ⟨a, b⟩ <;> rw [b] <;> exact ⟨a, by omega⟩
  have hxN : ∀ W, Below w.heap.size w W → Rd W (.slice a n c) (ints (natA xs.length (fabX xs))) := fun W hW => by rw [hx]; exact h.below hW
  have HSET := Lib.hid (fun (W : World) (hW : Below w.heap.size w W) => i_settingsFor (stgK xs.length - 1) hd.2 (.slice a n c) (fabX xs) W (by rw [← hd.1]; exact hxN W hW) (by rw [← hd.1]; exact H))
  have hst2 : stagedB (natA xs.length (fabX xs)) = true := by rw [hx]; exact hs
  have HCP := Lib.hid (fun (W : World) (hW : Below w.heap.size w W) => i_canPass (.slice a n c) xs.length (stgK xs.length) (fabX xs) W hst H (hxN W hW))
  have HRN := Lib.hid (fun (W : World) (hW : Below w.heap.size w W) => i_RoundsNeeded (.slice a n c) xs.length (stgK xs.length) (fabX xs) W hst H hst2 (hxN W hW))
  have hrk := (rK_inv xs.length (stgK xs.length) (fabX xs) xs.length).1
  have hn8 : xs.length ≤ 8 := by rcases hst with ⟨e, _⟩ | ⟨e, _⟩ | ⟨e, _⟩ <;> omega
  have HRX : Hid (fabLine xs = if passB xs.length (stgK xs.length) (fabX xs) then [115, 101, 116, 32] ++ numsB (fabSet xs) ++ [32, 112, 97, 115, 115, 101, 115] else [115, 101, 116, 32] ++ numsB (fabSet xs) ++ [32, 114, 111, 117, 110, 100, 115, 32] ++ Lib.itoa ((rK xs.length (stgK xs.length) (fabX xs) xs.length).length : Nat)) := by rw [Hid, fabLine, if_pos hs]
  have HFS : Hid (setL (stgK xs.length - 1) (fabX xs) = fabSet xs) := rfl
  rw [HFS.out] at HSET
  generalize fabSet xs = fs at HSET HRX hfi hfl
  generalize (rK xs.length (stgK xs.length) (fabX xs) xs.length).length = rl at HRN HRX hrk
  generalize passB xs.length (stgK xs.length) (fabX xs) = pb at HCP HRX
  have hzn := numsB_le hfi hfl
  have HF0 := fun (W : World) (u : Value) (hu : Rd W u (ints fs)) (hW : Tab W) => i_numbers W u _ hu hfi (by omega) hW
  have KI0 := Lib.hid (fun (W : World) (hW : Below w.heap.size w W) => I_FormatInt W (rl : Int) (by unfold I64; omega) (ht.below hW))
  have zA := (itoa_len (n := (rl : Int)) (by unfold I64; omega)).2
  have HFN := Lib.hid HF0
  obtain ⟨F, hF⟩ : ∃ F, numsB fs = F := ⟨_, rfl⟩
  obtain ⟨A, hA⟩ : ∃ A, Lib.itoa (rl : Int) = A := ⟨_, rfl⟩
  rw [hF] at HFN hzn HRX
  rw [hA] at KI0 zA HRX
  have GL1 := Lib.hid (fun W => i_line2 [115, 101, 116] F (by simp) (by omega) W)
  have GL2 := Lib.hid (fun W => i_line2 ([115, 101, 116] ++ [32] ++ F) [112, 97, 115, 115, 101, 115] (by simp; omega) (by simp) W)
  have GL3 := Lib.hid (fun W => i_line3 ([115, 101, 116] ++ [32] ++ F) [114, 111, 117, 110, 100, 115] A (by simp; omega) (by simp) (by omega) W)
  have HR1 : Hid (fabLine xs = if pb then [115, 101, 116] ++ [32] ++ F ++ [32] ++ [112, 97, 115, 115, 101, 115] else [115, 101, 116] ++ [32] ++ F ++ [32] ++ [114, 111, 117, 110, 100, 115] ++ [32] ++ A) := by
    rw [Hid, HRX.out]
    cases pb <;> simp
  generalize hL1 : [115, 101, 116] ++ [32] ++ F = L1 at GL1 GL2 GL3 HR1
  have K1 : Hid (∀ W : World, Calls Tryz.prog 61 #[.slice (some ⟨W.heap.size, 0, none⟩) 2 2] (W.alloc (.cells #[.string ⟨#[115, 101, 116]⟩, .string (bstr F)] 9)) fun e w' => e = .returned (.string (bstr L1)) ∧ Below W.heap.size W w') := fun W => GL1.out W
  have K2 : Hid (∀ W : World, Calls Tryz.prog 61 #[.slice (some ⟨W.heap.size, 0, none⟩) 2 2] (W.alloc (.cells #[.string (bstr L1), .string ⟨#[112, 97, 115, 115, 101, 115]⟩] 9)) fun e w' => e = .returned (.string (bstr (L1 ++ [32] ++ [112, 97, 115, 115, 101, 115]))) ∧ Below W.heap.size W w') := fun W => GL2.out W
  have K3 : Hid (∀ W : World, Calls Tryz.prog 61 #[.slice (some ⟨W.heap.size, 0, none⟩) 3 3] (W.alloc (.cells #[.string (bstr L1), .string ⟨#[114, 111, 117, 110, 100, 115]⟩, .string (bstr A)] 9)) fun e w' => e = .returned (.string (bstr (L1 ++ [32] ++ [114, 111, 117, 110, 100, 115] ++ [32] ++ A))) ∧ Below W.heap.size W w') := fun W => GL3.out W
  clear HO hs hst H hx hd hxN hst2 HFS HF0 hzn hfi hfl zA hA hF HRX hrk hn8 GL1 GL2 GL3 hL1
  generalize L1 ++ [32] ++ [112, 97, 115, 115, 101, 115] = R2 at K2 HR1
  generalize L1 ++ [32] ++ [114, 111, 117, 110, 100, 115] ++ [32] ++ A = R3 at K3 HR1
  go_enter Tryz.func36, Tryz.ntmps36
  cases pb
  · go_wp2_with (first
      | (go_at_call 92; refine HOK.out.mono ?_; rintro e w' ⟨rfl, hb1⟩)
      | (go_at_call 93; refine (HSET.out _ hb1).mono ?_; rintro e w2 ⟨v2, rfl, ho2, hb2⟩; have hb2' := hb1.trans (hb2.mono hb1.size))
      | (go_at_call 46; refine (HFN.out _ _ ho2.rd (ht.below hb2')).mono ?_; rintro e w3 ⟨rfl, hb3⟩; have hb3' := hb2'.trans (hb3.mono hb2'.size))
      | (go_at_call 61; (with_reducible refine (K1.out w3).mono ?_); rintro e w4 ⟨rfl, hb4⟩; have hb4' := hb3'.trans (hb4.mono hb3'.size))
      | (go_at_call 94; refine (HCP.out _ hb4').mono ?_; rintro e w5 ⟨rfl, hb5⟩; have hb5' := hb4'.trans (hb5.mono hb4'.size))
      | (go_at_call 95; refine (HRN.out _ hb5').mono ?_; rintro e w6 ⟨rfl, hb6⟩; have hb6' := hb5'.trans (hb6.mono hb5'.size))
      | (go_at_call 14; refine (KI0.out _ hb6').mono ?_; rintro e w7 ⟨rfl, hb7⟩; have hb7' := hb6'.trans (hb7.mono hb6'.size))
      | (go_at_call 61; (with_reducible refine (K3.out w7).mono ?_); rintro e w8 ⟨rfl, hb8⟩))
    go_ret
    exact ⟨by rw [HR1.out]; rfl, hb7'.trans (hb8.mono hb7'.size)⟩
  · go_wp2_with (first
      | (go_at_call 92; refine HOK.out.mono ?_; rintro e w' ⟨rfl, hb1⟩)
      | (go_at_call 93; refine (HSET.out _ hb1).mono ?_; rintro e w2 ⟨v2, rfl, ho2, hb2⟩; have hb2' := hb1.trans (hb2.mono hb1.size))
      | (go_at_call 46; refine (HFN.out _ _ ho2.rd (ht.below hb2')).mono ?_; rintro e w3 ⟨rfl, hb3⟩; have hb3' := hb2'.trans (hb3.mono hb2'.size))
      | (go_at_call 61; (with_reducible refine (K1.out w3).mono ?_); rintro e w4 ⟨rfl, hb4⟩; have hb4' := hb3'.trans (hb4.mono hb3'.size))
      | (go_at_call 94; refine (HCP.out _ hb4').mono ?_; rintro e w5 ⟨rfl, hb5⟩; have hb5' := hb4'.trans (hb5.mono hb4'.size))
      | (go_at_call 61; (with_reducible refine (K2.out w5).mono ?_); rintro e w8 ⟨rfl, hb8⟩))
    go_ret
    exact ⟨by rw [HR1.out]; rfl, hb5'.trans (hb8.mono hb5'.size)⟩

end Go.Proofs.YtggblfnajeikjaaGreatDoor

namespace Go.Proofs.YtggblfnajeikjaaGreatDoor
set_option linter.unusedVariables false
set_option linter.unusedSimpArgs false

def flipL (xs : List Int) (k : Nat) : List Int := (xs.take k).reverse ++ xs.drop k
theorem flipL_len (xs : List Int) (k : Nat) : (flipL xs k).length = xs.length := by simp [flipL]; omega
theorem flipL_flipL {xs : List Int} {k : Nat} (hk : k ≤ xs.length) : flipL (flipL xs k) k = xs := by
  have hl : (xs.take k).reverse.length = k := by simp; omega
  unfold flipL
  rw [List.take_left' hl, List.drop_left' hl, List.reverse_reverse, List.take_append_drop]
theorem flipL_perm (xs : List Int) (k : Nat) : (flipL xs k).Perm xs := by
  have h := (List.reverse_perm (xs.take k)).append_right (xs.drop k)
  rwa [List.take_append_drop] at h
theorem flipL_one {xs : List Int} {k : Nat} (hk : k ≤ 1) : flipL xs k = xs := by
  unfold flipL
  match k, hk with
  | 0, _ => simp
  | 1, _ =>
    cases xs with
    | nil => rfl
    | cons a t => simp
theorem flipL_lo {xs : List Int} {k i : Nat} (hk : k ≤ xs.length) (hi : i < k) : (flipL xs k)[i]? = xs[k - 1 - i]? := by
  have hl : (xs.take k).reverse.length = k := by simp; omega
  rw [flipL, List.getElem?_append_left (by omega), List.getElem?_reverse (by simp; omega), List.length_take, Nat.min_eq_left hk, List.getElem?_take, if_pos (by omega)]
theorem flipL_hi {xs : List Int} {k i : Nat} (hk : k ≤ xs.length) (hi : k ≤ i) : (flipL xs k)[i]? = xs[i]? := by
  have hl : (xs.take k).reverse.length = k := by simp; omega
  rw [flipL, List.getElem?_append_right (by omega), hl, List.getElem?_drop]
  congr 1
  omega

/-- An order of 0 .. n - 1. -/
def PermN (n : Nat) (xs : List Int) : Prop := xs.length = n ∧ OrdP n xs
def idL (n : Nat) : List Int := (List.range n).map fun (i : Nat) => (i : Int)
theorem PermN.flip {n k : Nat} {xs : List Int} (h : PermN n xs) : PermN n (flipL xs k) := by
  obtain ⟨h1, h2, h3⟩ := h
  have hp := flipL_perm xs k
  exact ⟨by rw [flipL_len, h1], fun x hx => h2 x (hp.mem_iff.1 hx), hp.nodup_iff.2 h3⟩
theorem idL_get {n i : Nat} (h : i < n) : (idL n)[i]? = some (i : Int) := by simp [idL, h]
theorem PermN.idL (n : Nat) : PermN n (idL n) := by
  refine ⟨by simp [Go.Proofs.YtggblfnajeikjaaGreatDoor.idL], fun x hx => ?_, ?_⟩
  · simp only [Go.Proofs.YtggblfnajeikjaaGreatDoor.idL, List.mem_map, List.mem_range] at hx
    obtain ⟨i, hi, rfl⟩ := hx
    omega
  · rw [List.Nodup, Go.Proofs.YtggblfnajeikjaaGreatDoor.idL, List.pairwise_map]
    refine List.Pairwise.imp (fun {a b} hne e => ?_) (List.nodup_range (n := n))
    exact hne (by omega)
theorem PermN.eq_of_get {n : Nat} {xs ys : List Int} (h : xs.length = n) (h2 : ys.length = n) (he : ∀ i, i < n → xs[i]? = ys[i]?) : xs = ys := by
  apply List.ext_getElem?
  intro i
  by_cases hi : i < n
  · exact he i hi
  · rw [List.getElem?_eq_none (by omega), List.getElem?_eq_none (by omega)]
/-- Where a value stands. -/
theorem PermN.at {n v : Nat} {xs : List Int} (h : PermN n xs) (hv : v < n) : ∃ p, p < n ∧ xs[p]? = some (v : Int) := by
  obtain ⟨x, hx, H⟩ := ord_of h.1 h.2
  obtain ⟨o, ho, e⟩ := H.sur v hv
  exact ⟨o, ho, by rw [hx, natA_get x ho, e]⟩
theorem PermN.inj {n p q : Nat} {v : Int} {xs : List Int} (h : PermN n xs) (h1 : xs[p]? = some v) (h2 : xs[q]? = some v) : p = q := by
  obtain ⟨hp, e1⟩ := List.getElem?_eq_some_iff.1 h1
  obtain ⟨hq, e2⟩ := List.getElem?_eq_some_iff.1 h2
  have h6 := List.pairwise_iff_getElem.1 h.2.2
  rcases Nat.lt_trichotomy p q with l | l | l
  · exact absurd (e1.trans e2.symm) (h6 p q hp hq l)
  · exact l
  · exact absurd (e2.trans e1.symm) (h6 q p hq hp l)
/-- Whatever holds of the sorted order and goes on over flips holds of every order. -/
theorem PermN.reach {n : Nat} (T : List Int → Prop) (h0 : T (Go.Proofs.YtggblfnajeikjaaGreatDoor.idL n)) (hf : ∀ xs k, PermN n xs → T xs → 2 ≤ k → k ≤ n → T (flipL xs k)) : ∀ m, m ≤ n → ∀ xs, PermN n xs → (∀ i, m ≤ i → i < n → xs[i]? = some (i : Int)) → T xs
  | 0, _, xs, h, hi => by
    have : xs = Go.Proofs.YtggblfnajeikjaaGreatDoor.idL n := PermN.eq_of_get h.1 (by simp [Go.Proofs.YtggblfnajeikjaaGreatDoor.idL]) fun i h2 => by rw [hi i (Nat.zero_le _) h2, idL_get h2]
    rw [this]
    exact h0
  | m + 1, hm, xs, h, hi => by
    have hf' : ∀ xs k, PermN n xs → T xs → k ≤ n → T (flipL xs k) := fun xs k h hT hk => by
      by_cases e : 2 ≤ k
      · exact hf xs k h hT e hk
      · rw [flipL_one (by omega)]; exact hT
    obtain ⟨p, hp, hpx⟩ := h.at (v := m) (by omega)
    have hpm : p ≤ m := by
      by_cases e : p ≤ m
      · exact e
      · have := hi p (by omega) hp
        rw [hpx] at this
        injection this with this
        omega
    have h1 : PermN n (flipL xs (p + 1)) := h.flip
    have h2 : PermN n (flipL (flipL xs (p + 1)) (m + 1)) := h1.flip
    have hT2 : T (flipL (flipL xs (p + 1)) (m + 1)) := by
      refine PermN.reach T h0 hf m (by omega) _ h2 fun i hmi hin => ?_
      by_cases e : i = m
      · subst e
        rw [flipL_lo (by rw [h1.1]; omega) (by omega), flipL_lo (by rw [h.1]; omega) (by omega)]
        have : p + 1 - 1 - (i + 1 - 1 - i) = p := by omega
        rw [this]
        exact hpx
      · rw [flipL_hi (by rw [h1.1]; omega) (by omega), flipL_hi (by rw [h.1]; omega) (by omega)]
        exact hi i (by omega) hin
    have h3 := hf' _ (m + 1) h2 hT2 (by omega)
    rw [flipL_flipL (by rw [h1.1]; omega)] at h3
    have h4 := hf' _ (p + 1) h1 h3 (by omega)
    rwa [flipL_flipL (by rw [h.1]; omega)] at h4
theorem PermN.all {n : Nat} (T : List Int → Prop) (h0 : T (Go.Proofs.YtggblfnajeikjaaGreatDoor.idL n)) (hf : ∀ xs k, PermN n xs → T xs → 2 ≤ k → k ≤ n → T (flipL xs k)) (xs : List Int) (h : PermN n xs) : T xs :=
  PermN.reach T h0 hf n (Nat.le_refl _) xs h fun i h1 h2 => by omega
theorem adjB_id (n : Nat) : adjB (idL n) = true := adjB_iff.2 fun i a b ha hb => by
  have hl := (List.getElem?_eq_some_iff.1 hb).1
  have hl2 : i + 1 < n := by simpa [idL] using hl
  rw [idL_get (by omega)] at ha hb
  cases ha
  cases hb
  omega
theorem adjB_perm {n : Nat} {xs : List Int} (h : PermN n xs) (ha : adjB xs = true) : xs = idL n := by
  have hA := adjB_iff.1 ha
  obtain ⟨x, hx, H⟩ := ord_of h.1 h.2
  have hst : ∀ i, i + 1 < n → x i < x (i + 1) := fun i hi => by
    have := hA i _ _ (by rw [hx]; exact natA_get x (by omega)) (by rw [hx]; exact natA_get x hi)
    have : x i ≠ x (i + 1) := fun e => by have := H.inj i (i + 1) (by omega) hi e; omega
    omega
  have hge : ∀ i, i < n → i ≤ x i := fun i => by
    induction i with
    | zero => intro _; exact Nat.zero_le _
    | succ i ih => intro hi; have := hst i hi; have := ih (by omega); omega
  have hle : ∀ j, j < n → x (n - 1 - j) ≤ n - 1 - j := fun j => by
    induction j with
    | zero => intro hj; have := H.lx (n - 1) (by omega); simp; omega
    | succ j ih =>
      intro hj
      have h1 := ih (by omega)
      have h2 := hst (n - 1 - (j + 1)) (by omega)
      have e : n - 1 - (j + 1) + 1 = n - 1 - j := by omega
      rw [e] at h2
      omega
  refine PermN.eq_of_get h.1 (by simp [idL]) fun i hi => ?_
  rw [idL_get hi, hx, natA_get x hi]
  have h1 := hge i hi
  have h2 := hle (n - 1 - i) (by omega)
  have e : n - 1 - (n - 1 - i) = i := by omega
  rw [e] at h2
  have : x i = i := by omega
  rw [this]

def gp (a b : Int) : Nat := if b - a ≠ 1 ∧ a - b ≠ 1 then 1 else 0
theorem gp_comm (a b : Int) : gp a b = gp b a := by unfold gp; congr 1; simp only [eq_iff_iff]; constructor <;> rintro ⟨h1, h2⟩ <;> exact ⟨h2, h1⟩
theorem gp_le (a b : Int) : gp a b ≤ 1 := by unfold gp; split <;> omega
def adjG : List Int → Nat
  | a :: b :: t => gp a b + adjG (b :: t)
  | _ => 0
theorem adjG_snoc (l : List Int) (b a : Int) : adjG (l ++ [b, a]) = adjG (l ++ [b]) + gp b a := by
  induction l with
  | nil => simp [adjG]
  | cons c t ih =>
    cases t with
    | nil => simp [adjG]
    | cons d t => simp only [List.cons_append, adjG] at ih ⊢; omega
theorem adjG_reverse : ∀ l : List Int, adjG l.reverse = adjG l
  | [] => rfl
  | [a] => rfl
  | a :: b :: t => by
    have e : (a :: b :: t).reverse = t.reverse ++ [b, a] := by simp
    have e2 : (b :: t).reverse = t.reverse ++ [b] := by simp
    rw [e, adjG_snoc, ← e2, adjG_reverse (b :: t), adjG, gp_comm b a]
    omega
theorem adjG_append : ∀ (l r : List Int), adjG l + adjG r ≤ adjG (l ++ r) ∧ adjG (l ++ r) ≤ adjG l + adjG r + 1
  | [], r => by simp [adjG]
  | [a], r => by
    cases r with
    | nil => simp [adjG]
    | cons b t => have := gp_le a b; simp only [List.cons_append, List.nil_append, adjG]; omega
  | a :: b :: t, r => by
    have := adjG_append (b :: t) r
    simp only [List.cons_append, adjG] at this ⊢
    omega
def gapsN (xs : List Int) : Nat := adjG (xs ++ [(xs.length : Int)])
theorem gaps_flip (xs : List Int) (k : Nat) : gapsN (flipL xs k) ≤ gapsN xs + 1 := by
  unfold gapsN
  rw [flipL_len, flipL, List.append_assoc]
  have h1 := adjG_append (xs.take k).reverse (xs.drop k ++ [(xs.length : Int)])
  have h2 := adjG_append (xs.take k) (xs.drop k ++ [(xs.length : Int)])
  rw [← List.append_assoc, List.take_append_drop] at h2
  rw [adjG_reverse] at h1
  omega
theorem gaps_id (n : Nat) : gapsN (idL n) = 0 := by
  have e : idL n ++ [((idL n).length : Int)] = idL (n + 1) := by simp [idL, List.range_succ]
  rw [gapsN, e]
  have : ∀ m, adjG (idL m) = 0 := fun m => by
    induction m with
    | zero => rfl
    | succ m ih =>
      cases m with
      | zero => rfl
      | succ m =>
        have e : idL (m + 1 + 1) = (List.range m).map (fun (i : Nat) => (i : Int)) ++ [(m : Int), ((m + 1 : Nat) : Int)] := by simp [idL, List.range_succ]
        have e2 : idL (m + 1) = (List.range m).map (fun (i : Nat) => (i : Int)) ++ [(m : Int)] := by simp [idL, List.range_succ]
        rw [e, adjG_snoc, ← e2, ih]
        unfold gp
        rw [if_neg (by omega)]
  exact this _

/-- D is the least number of flips, as far as the two searches need it. -/
structure Dist (n : Nat) (D : List Int → Nat) : Prop where
  zero : D (idL n) = 0
  pos : ∀ xs, PermN n xs → xs ≠ idL n → 0 < D xs
  flip : ∀ xs k, PermN n xs → 2 ≤ k → k ≤ n → D (flipL xs k) ≤ D xs + 1
  down : ∀ xs, PermN n xs → xs ≠ idL n → ∃ k, 2 ≤ k ∧ k ≤ n ∧ D (flipL xs k) + 1 = D xs
  bd : ∀ xs, PermN n xs → D xs < 1000000
def fstSome {α : Type} (p : Nat → Option α) : Nat → Option α
  | 0 => none
  | m + 1 => (fstSome p m).or (p m)
theorem fstSome_none {α : Type} {p : Nat → Option α} : ∀ {m : Nat}, (∀ j, j < m → p j = none) → fstSome p m = none
  | 0, _ => rfl
  | m + 1, h => by rw [fstSome, fstSome_none fun j hj => h j (by omega), h m (by omega)]; rfl
theorem fstSome_some {α : Type} {p : Nat → Option α} {k : Nat} {y : α} (h : ∀ j, j < k → p j = none) (hk : p k = some y) : ∀ {m : Nat}, k < m → fstSome p m = some y
  | m + 1, hm => by
    by_cases e : k = m
    · subst e
      rw [fstSome, fstSome_none h, hk]; rfl
    · rw [fstSome, fstSome_some h hk (show k < m by omega)]; rfl
/-- The search by depth: e is the depth and one more. -/
def findE : Nat → List Int → Option (List Int)
  | 0, _ => none
  | e + 1, xs => if adjB xs then (if e = 0 then some [] else none) else if e < gapsN xs then none else
    fstSome (fun k => if k < 2 then none else (findE e (flipL xs k)).map fun r => (k : Int) :: r) (xs.length + 1)
def bestL (xs : List Int) : List Int := (fstSome (fun e => findE e xs) 1000002).getD []
section
variable {n : Nat} {D : List Int → Nat}
theorem Dist.back (H : Dist n D) {xs : List Int} {k : Nat} (h : PermN n xs) (h2 : 2 ≤ k) (hk : k ≤ n) : D xs ≤ D (flipL xs k) + 1 := by
  have := H.flip (flipL xs k) k h.flip h2 hk
  rwa [flipL_flipL (by rw [h.1]; exact hk)] at this
theorem Dist.gaps (H : Dist n D) : ∀ (d : Nat) (xs : List Int), PermN n xs → D xs ≤ d → gapsN xs ≤ D xs
  | 0, xs, h, hd => by
    by_cases e : xs = idL n
    · subst e; rw [gaps_id]; exact Nat.zero_le _
    · have := H.pos xs h e; omega
  | d + 1, xs, h, hd => by
    by_cases e : xs = idL n
    · subst e; rw [gaps_id]; exact Nat.zero_le _
    · obtain ⟨k, h2, hk, he⟩ := H.down xs h e
      have h3 := H.gaps d (flipL xs k) h.flip (by omega)
      have h4 := gaps_flip (flipL xs k) k
      rw [flipL_flipL (by rw [h.1]; exact hk)] at h4
      omega
theorem Dist.none (H : Dist n D) : ∀ (e : Nat) (xs : List Int), PermN n xs → e ≤ D xs → findE e xs = .none
  | 0, _, _, _ => rfl
  | e + 1, xs, h, he => by
    have hne : adjB xs = false := by
      cases ha : adjB xs
      · rfl
      · have := adjB_perm h ha
        rw [this, H.zero] at he
        omega
    rw [findE, if_neg (by rw [hne]; simp)]
    split
    · rfl
    · refine fstSome_none fun j hj => ?_
      by_cases h2 : j < 2
      · rw [if_pos h2]
      · rw [if_neg h2, H.none e (flipL xs j) h.flip (by have := H.back h (k := j) (by omega) (by rw [h.1] at hj; omega); omega)]
        rfl
/-- The descent. -/
theorem Dist.some (H : Dist n D) {xs : List Int} {k : Nat} {l : List Int} (h : PermN n xs) (h2 : 2 ≤ k) (hk : k ≤ n) (hd : D (flipL xs k) < D xs) (hno : ∀ j, j < k → ¬ D (flipL xs j) < D xs) (hl : findE (D (flipL xs k) + 1) (flipL xs k) = .some l) : findE (D xs + 1) xs = .some ((k : Int) :: l) := by
  have hb := H.back h h2 hk
  have e1 : D xs = D (flipL xs k) + 1 := by omega
  have hne : adjB xs = false := by
    cases ha : adjB xs
    · rfl
    · have := adjB_perm h ha
      rw [this, H.zero] at hd
      omega
  have hg := H.gaps _ xs h (Nat.le_refl _)
  rw [findE, if_neg (by rw [hne]; simp), if_neg (by omega)]
  refine fstSome_some (k := k) (fun j hj => ?_) ?_ (by rw [h.1]; omega)
  · by_cases h3 : j < 2
    · rw [if_pos h3]
    · have := hno j hj
      rw [if_neg h3, H.none _ _ h.flip (by omega)]
      rfl
  · rw [if_neg (by omega), e1, hl]
    rfl
theorem Dist.least (H : Dist n D) {xs : List Int} (h : PermN n xs) (hs : xs ≠ idL n) : ∃ k, 2 ≤ k ∧ k ≤ n ∧ D (flipL xs k) < D xs ∧ ∀ j, j < k → ¬ D (flipL xs j) < D xs := by
  obtain ⟨k, h2, hk, he⟩ := H.down xs h hs
  have go : ∀ m k, k ≤ m → 2 ≤ k → k ≤ n → D (flipL xs k) < D xs → ∃ k, 2 ≤ k ∧ k ≤ n ∧ D (flipL xs k) < D xs ∧ ∀ j, j < k → ¬ D (flipL xs j) < D xs := by
    intro m
    induction m with
    | zero => intro k hkm h2; omega
    | succ m ih =>
      intro k hkm h2 hk he
      by_cases hex : ∃ j, j < k ∧ D (flipL xs j) < D xs
      · obtain ⟨j, hj, hd⟩ := hex
        by_cases h3 : 2 ≤ j
        · exact ih j (by omega) h3 (by omega) hd
        · rw [flipL_one (by omega)] at hd
          omega
      · exact ⟨k, h2, hk, he, fun j hj hd => hex ⟨j, hj, hd⟩⟩
  exact go k k (Nat.le_refl _) h2 hk (by omega)
theorem Dist.found (H : Dist n D) : ∀ (d : Nat) (xs : List Int), PermN n xs → D xs = d → ∃ l, findE (d + 1) xs = .some l ∧ l.length = d ∧ ∀ x ∈ l, 2 ≤ x ∧ x ≤ (n : Int)
  | 0, xs, h, hd => by
    have : xs = idL n := by
      by_cases e : xs = idL n
      · exact e
      · have := H.pos xs h e; omega
    subst this
    exact ⟨[], by rw [findE, adjB_id]; rfl, rfl, fun x hx => by cases hx⟩
  | d + 1, xs, h, hd => by
    have hs : xs ≠ idL n := fun e => by rw [e, H.zero] at hd; omega
    obtain ⟨k, h2, hk, hlt, hno⟩ := H.least h hs
    have hb := H.back h h2 hk
    obtain ⟨l, hl, hll, hlx⟩ := H.found d (flipL xs k) h.flip (by omega)
    have e : D (flipL xs k) = d := by omega
    have := H.some h h2 hk hlt hno (by rw [e]; exact hl)
    rw [hd] at this
    exact ⟨_, this, by simp [hll], fun x hx => by
      rcases List.mem_cons.1 hx with rfl | hx
      · omega
      · exact hlx x hx⟩
theorem Dist.best (H : Dist n D) {xs l : List Int} (h : PermN n xs) (hl : findE (D xs + 1) xs = .some l) : bestL xs = l := by
  have hb := H.bd xs h
  rw [bestL, fstSome_some (k := D xs + 1) (fun j hj => H.none j xs h (by omega)) hl (by omega)]
  rfl
end

end Go.Proofs.YtggblfnajeikjaaGreatDoor

namespace Go.Proofs.YtggblfnajeikjaaGreatDoor
open Go.RowKit Go.Sort
set_option linter.unusedVariables false
set_option linter.unusedSimpArgs false

theorem own_pre {w : World} {E B n c g off q : Nat} {xs ys : List Int} (h : Own w E B (.slice (some ⟨g, off, none⟩) n c) (ints xs)) (hl : ys.length ≤ xs.length) :
    Own (putRow (Value.int .i64) (Sort.ahead w q) g off ys.toArray) E B (.slice (some ⟨g, off, none⟩) n c) (ints (ys ++ xs.drop ys.length)) ∧ w.grownBy (putRow (Value.int .i64) (Sort.ahead w q) g off ys.toArray) (some g) := by
  rcases h with ⟨h, _⟩ | ⟨g', off', c', cur, h1, h2, h3, h4, h5, h6, h7⟩
  · cases h
  · injection h1 with e1 e2 e3
    injection e1 with e1
    injection e1 with e4 e5
    subst e4 e5 e3
    rw [ints_length] at e2 h4
    have hg : g < w.heap.size := (Array.getElem?_eq_some_iff.1 h3).1
    have hb : (putRow (Value.int .i64) (Sort.ahead w q) g off ys.toArray).heap[g]? = some (.cells (putCells (Value.int .i64) off ys.toArray cur) E (0, 0)) := by
      simp [putRow, mapBlock, Sort.ahead, Array.getElem?_modify, h3, onCells]
    refine ⟨.inr ⟨g, off, c, _, by rw [ints_length]; simp; omega, h2, hb, by rw [ints_length]; simp; omega, h5, by simpa [putCells] using h6, fun j u hu => ?_⟩, rfl, rfl, rfl, by simp, fun k hk hne => ?_⟩
    · by_cases hj : j < ys.length
      · have hc := h7 j (.int .i64 (xs[j]'(by omega))) (by simp [ints, show j < xs.length by omega])
        simp only [putCells, Array.getElem?_mapIdx, hc, Option.map_some]
        rw [if_pos ⟨by omega, by simp; omega⟩, show off + j - off = j by omega, getElem!_pos ys.toArray j (by simpa using hj)]
        rw [ints_append, List.getElem?_append_left (by rw [ints_length]; exact hj)] at hu
        simp [ints, hj] at hu
        simp [hu]
      · rw [ints_append, List.getElem?_append_right (by rw [ints_length]; omega), ints_length, ← ints_drop, List.getElem?_drop, show ys.length + (j - ys.length) = j by omega] at hu
        have hc := h7 j u hu
        simp only [putCells, Array.getElem?_mapIdx, hc, Option.map_some]
        rw [if_neg (by simp; omega)]
    · have : g ≠ k := fun e => hne (by rw [e])
      simp [putRow, mapBlock, Sort.ahead, Array.getElem?_modify, this]

theorem f_ReversePre (a : Option Addr) (n c k : Nat) (xs : List Int) (B : Nat) (w : World) (ho : Own w 3 B (.slice a n c) (ints xs)) (h0 : 0 < xs.length) (hk : k ≤ xs.length) (hl : xs.length ≤ 1000000) :
    Calls Tryz.prog 139 #[.slice a k c] w fun e w' => e = .returned (.tuple #[]) ∧ Own w' 3 B (.slice a n c) (ints (flipL xs k)) ∧ w.grownBy w' (Value.slice a n c).ownBlock := by
  obtain ⟨⟨g, off, fr⟩, rfl⟩ := ho.some_of (by rw [ints_length]; exact h0)
  obtain rfl : fr = none := by
    rcases ho with ⟨h, _⟩ | ⟨g', off', c', cur, h1, _⟩
    · cases h
    · injection h1 with h1
      injection h1 with h1
      injection h1
  obtain ⟨e, hc, hg, hH⟩ := own_holds (own_cut ho (m := k) (by omega))
  have := Tryz.slices_Reverse_int g off c (xs.take k) w hH (by simp; omega)
  rw [List.length_take, Nat.min_eq_left hk] at this
  refine this.mono ?_
  rintro e w' ⟨rfl, q, rfl⟩
  have h2 := own_pre (q := q) ho (ys := (xs.take k).reverse) (by simp; omega)
  rw [show (xs.take k).reverse.length = k by simp; omega] at h2
  exact ⟨rfl, h2.1, h2.2⟩
theorem i_flip (v : Value) (xs : List Int) (k : Nat) (w : World) (h : Rd w v (ints xs)) (h0 : 0 < xs.length) (hk : k ≤ xs.length) (hl : xs.length ≤ 1000) : Calls Tryz.prog 87 #[v, .int .i64 (k : Int)] w (RetOwn 3 (ints (flipL xs k)) w) := by
  obtain ⟨a, c, rfl, hnc, hc⟩ := h.formi
  have HC := Lib.hid (f_Clone _ xs w h (by omega))
  have HR := Lib.hid (fun (a : Option Addr) (n c : Nat) (W : World) (ho : Own W 3 w.heap.size (.slice a n c) (ints xs)) => f_ReversePre a n c k xs w.heap.size W ho h0 hk (by omega))
  have HK := Lib.hid hk
  clear h0 hl hk
  go_enter Tryz.func87, Tryz.ntmps87
  go_upto_region 2 with (go_at_call 85; refine HC.out.mono ?_; rintro e w1 ⟨v1, rfl, ho1, hb1⟩; obtain ⟨a1, n1, c1, rfl, HN1, h1c, _⟩ := ho1.rd.formN)
  have i1 : (k : Int) ≤ (c1 : Int) := by have := HN1.out; have := HK.out; omega
  go_wp2_with (go_at_call 139; refine (HR.out _ _ _ _ ho1).mono ?_; rintro e w2 ⟨rfl, ho2, hg2⟩)
  go_ret
  exact ⟨_, rfl, ho2, hb1.grown hg2 hb1.size fun r hr => (ho1.lt r hr).1⟩

theorem or_eight {a x : Nat} (ha : a < 100000000) (hx : x < 8) : bits .or .i64 ((a : Int) * 8) (x : Int) = ((a * 8 + x : Nat) : Int) := by
  have e : ((a : Int) * 8) = ((a * 8 : Nat) : Int) := by omega
  have h1 : (a * 8) ||| x = a * 8 + x := by
    have := Nat.shiftLeft_add_eq_or_of_lt (b := x) (i := 3) (by omega) a
    rw [Nat.shiftLeft_eq] at this
    exact this.symm
  rw [e]
  show IntKind.i64.wrap ((BitVec.ofInt 64 ((a * 8 : Nat) : Int) ||| BitVec.ofInt 64 (x : Int)).toNat : Int) = _
  rw [BitVec.toNat_or, BitVec.ofInt_natCast, BitVec.ofInt_natCast, BitVec.toNat_ofNat, BitVec.toNat_ofNat, Nat.mod_eq_of_lt (by omega), Nat.mod_eq_of_lt (by omega), h1, IntKind.wrap_i64]
  omega
def keyN (xs : List Int) : Nat := xs.foldl (fun a x => a * 8 + x.toNat) 1
theorem keyN_snoc (xs : List Int) (x : Int) : keyN (xs ++ [x]) = keyN xs * 8 + x.toNat := by rw [keyN, List.foldl_append]; rfl
theorem keyN_ltR : ∀ (ys : List Int), (∀ x ∈ ys, 0 ≤ x ∧ x < 8) → keyN ys.reverse < 2 * 8 ^ ys.length ∧ 8 ^ ys.length ≤ keyN ys.reverse
  | [], _ => by simp [keyN]
  | y :: t, h => by
    have h1 := keyN_ltR t fun z hz => h z (by simp [hz])
    have h2 := h y (by simp)
    rw [List.reverse_cons, keyN_snoc, List.length_cons, Nat.pow_succ]
    omega
theorem keyN_lt (xs : List Int) (h : ∀ x ∈ xs, 0 ≤ x ∧ x < 8) : keyN xs < 2 * 8 ^ xs.length ∧ 8 ^ xs.length ≤ keyN xs := by
  have := keyN_ltR xs.reverse fun x hx => h x (List.mem_reverse.1 hx)
  rwa [List.reverse_reverse, List.length_reverse] at this
theorem keyN_injR : ∀ (xs ys : List Int), xs.length = ys.length → (∀ x ∈ xs, 0 ≤ x ∧ x < 8) → (∀ x ∈ ys, 0 ≤ x ∧ x < 8) → keyN xs.reverse = keyN ys.reverse → xs = ys
  | [], [], _, _, _, _ => rfl
  | [], y :: t, h, _, _, _ => by simp at h
  | x :: s, [], h, _, _, _ => by simp at h
  | x :: s, y :: t, hl, hx, hy, he => by
    rw [List.reverse_cons, List.reverse_cons, keyN_snoc, keyN_snoc] at he
    have h1 := hx x (by simp)
    have h2 := hy y (by simp)
    have h3 : s = t := keyN_injR s t (by simpa using hl) (fun z hz => hx z (by simp [hz])) (fun z hz => hy z (by simp [hz])) (by omega)
    subst h3
    have : x = y := by omega
    rw [this]
theorem keyN_inj (xs ys : List Int) (hl : xs.length = ys.length) (hx : ∀ x ∈ xs, 0 ≤ x ∧ x < 8) (hy : ∀ x ∈ ys, 0 ≤ x ∧ x < 8) (he : keyN xs = keyN ys) : xs = ys := by
  have := keyN_injR xs.reverse ys.reverse (by simpa using hl) (fun x h => hx x (List.mem_reverse.1 h)) (fun x h => hy x (List.mem_reverse.1 h)) (by simpa using he)
  exact List.reverse_inj.1 this
set_option maxHeartbeats 1000000 in
theorem i_key (v : Value) (xs : List Int) (w : World) (h : Rd w v (ints xs)) (hl : xs.length ≤ 6) (hx : ∀ x ∈ xs, 0 ≤ x ∧ x < 8) : Calls Tryz.prog 86 #[v] w fun e w' => e = .returned (.int .i64 ((keyN xs : Nat) : Int)) ∧ w = w' := by
  obtain ⟨a, c, rfl, hnc, hc⟩ := h.formi
  have HX := Lib.hid hx
  have HT : Hid (keyN xs = keyN (xs.take xs.length)) := by rw [Hid, List.take_length]
  obtain ⟨n, hn⟩ : ∃ n, xs.length = n := ⟨_, rfl⟩
  have HB : Hid (∀ k, k ≤ n → keyN (xs.take k) < 1000000) := fun k hk => by
    have h1 := (keyN_lt (xs.take k) fun x hx' => hx x (List.mem_of_mem_take hx')).1
    have h2 : (xs.take k).length ≤ 6 := by simp; omega
    have h3 : 8 ^ (xs.take k).length ≤ 8 ^ 6 := Nat.pow_le_pow_right (by omega) h2
    omega
  rw [hn] at h HT hl hnc ⊢
  have HN := Lib.hid hn
  clear hn hx
  go_enter Tryz.func86, Tryz.ntmps86
  go_wp2
  go_loopg [3, 8] n (fun g ov iv wr => ∃ k o : Nat, g = n - k ∧ k ≤ n ∧ iv = .int .i64 k ∧ ov = .int .i64 (o : Int) ∧ Hid (o = keyN (xs.take k)) ∧ w = wr)
  case atStart => exact ⟨0, 1, rfl, Nat.zero_le _, rfl, rfl, rfl, rfl⟩
  case round =>
    obtain ⟨k, o, hg, hk, rfl, rfl, HO, rfl⟩ := hrel
    by_cases hlt : k < n
    · obtain ⟨ad, x, hal, hcx, hxk⟩ := h.int (k := k) (by rw [HN.out]; exact hlt)
      subst hal
      obtain ⟨h1, h2⟩ := HX.out x (List.mem_of_getElem? hxk.out)
      obtain ⟨X, rfl⟩ := Int.eq_ofNat_of_zero_le h1
      have hob : o < 1000000 := by rw [HO.out]; exact HB.out k (by omega)
      have e1 := or_eight (a := o) (x := X) (by omega) (by omega)
      have HO2 : Hid (o * 8 + X = keyN (xs.take (k + 1))) := by rw [Hid, take_snoc' hxk.out, keyN_snoc, HO.out]; simp
      clear hxk h1 h2
      generalize o * 8 + X = o2 at e1 HO2
      go_wp2
      go_roundg (n - (k + 1))
      case measure => omega
      case rel => exact ⟨k + 1, o2, rfl, by omega, by go_num, rfl, HO2, rfl⟩
    · obtain rfl : k = n := Nat.le_antisymm hk (Nat.le_of_not_lt hlt)
      go_wp2
      go_ret
      exact ⟨ret_int (by rw [HT.out, HO.out]), rfl⟩

def sixB (xs : List Int) : Bool := decide (xs.length ≤ 6) && ordB xs.length xs
theorem sixB_perm {xs : List Int} (h : sixB xs = true) : xs.length ≤ 6 ∧ PermN xs.length xs := by
  simp only [sixB, Bool.and_eq_true, decide_eq_true_eq] at h
  exact ⟨h.1, rfl, ordB_iff.1 h.2⟩
theorem i_isSix (v : Value) (xs : List Int) (w : World) (h : Rd w v (ints xs)) : Calls Tryz.prog 83 #[v] w (RetB (.bool (sixB xs)) w) := by
  obtain ⟨a, n, c, rfl, HN, hnc, hc⟩ := h.formN
  by_cases h8 : n ≤ 6
  · have HK := i_isOrder _ xs w h (by have := HN.out; omega)
    rw [← HN.out] at HK
    have HR : Hid (sixB xs = ordB n xs) := by rw [Hid, sixB, ← HN.out]; simp [h8]
    have HK2 := Lib.hid HK
    clear HK
    have i1 : (n : Int) ≤ 6 := by omega
    go_enter Tryz.func83, Tryz.ntmps83
    go_wp2_with (go_at_call 136; refine HK2.out.mono ?_; rintro e w' ⟨rfl, hb⟩)
    go_ret
    exact ⟨by rw [HR.out]; rfl, hb⟩
  · have HR : Hid (sixB xs = false) := by rw [Hid, sixB, ← HN.out]; simp [h8]
    have i1 : ¬ (n : Int) ≤ 6 := by omega
    go_enter Tryz.func83, Tryz.ntmps83
    go_wp2
    go_ret
    exact ⟨ret_bool HR.out.symm, Below.refl _ _⟩

end Go.Proofs.YtggblfnajeikjaaGreatDoor

namespace Go.Proofs.YtggblfnajeikjaaGreatDoor
open Go.RowKit
set_option linter.unusedVariables false
set_option linter.unusedSimpArgs false

set_option maxHeartbeats 400000 in
theorem f_Index (v : Value) (xs : List Int) (x : Int) (w : World) (h : Rd w v (ints xs)) :
    Calls Tryz.prog 91 #[v, .int .i64 x] w fun e w' => e = .returned (.int .i64 (idxOf (fun y => decide (x = y)) xs)) ∧ w = w' := by
  obtain ⟨a, c, rfl, h2, h3⟩ := h.formi
  go_enter Tryz.func91, Tryz.ntmps91
  go_wp2
  go_loop [8] (fun i => ∃ k : Nat, k ≤ xs.length ∧ i = .int .i64 k ∧ (∀ j y, j < k → xs[j]? = some y → decide (x = y) = false)) (fun i => xs.length - (intOf i).toNat)
  case atStart => exact ⟨0, Nat.zero_le _, rfl, fun j y hj => by omega⟩
  case round =>
    obtain ⟨k, hkl, rfl, hno⟩ := hrel
    have HN := Lib.hid hno
    clear hno
    by_cases hlt : k < xs.length
    · obtain ⟨ad, y, rfl, hc, hy⟩ := h.int hlt
      cases hp : (x == y)
      · go_wp2
        go_round
        case rel => exact ⟨k + 1, by omega, by go_num, fun j z hj hz => by
          by_cases e : j = k
          · subst e
            rw [hy.out] at hz
            cases hz
            simpa using hp
          · exact HN.out j z (by omega) hz⟩
        case measure => simp [intOf]; omega
      · have HE := Lib.hid (idxOf_yes (p := fun y => decide (x = y)) hy.out (by simpa using hp) HN.out)
        go_wp2
        go_ret
        exact ⟨ret_int HE.out.symm, rfl⟩
    · obtain rfl : k = xs.length := by omega
      have HE := Lib.hid (idxOf_no (p := fun y => decide (x = y)) HN.out)
      go_wp2
      go_ret
      exact ⟨ret_int HE.out.symm, rfl⟩

end Go.Proofs.YtggblfnajeikjaaGreatDoor

namespace Go.Proofs.YtggblfnajeikjaaGreatDoor
open Go.RowKit
set_option linter.unusedVariables false
set_option linter.unusedSimpArgs false

def atI (L : List Int) (x : Nat) : Nat := (idxOf (fun y => decide ((x : Int) = y)) L).toNat
theorem atI_ok {n x : Nat} {L : List Int} (h : PermN n L) (hx : x < n) : atI L x < n ∧ L[atI L x]? = some (x : Int) ∧ idxOf (fun y => decide ((x : Int) = y)) L = ((atI L x : Nat) : Int) := by
  obtain ⟨p, hp, hpx⟩ := h.at hx
  have e : idxOf (fun y => decide ((x : Int) = y)) L = (p : Int) := idxOf_yes hpx (by simp) fun j y hj hy => by
    rw [decide_eq_false_iff_not]
    intro e
    subst e
    have := h.inj hpx hy
    omega
  have e2 : atI L x = p := by rw [atI, e]; simp
  rw [e2]
  exact ⟨hp, hpx, e⟩
def grFlip (s : List Int × List Int) (k : Nat) : List Int × List Int := (flipL s.1 k, s.2 ++ [(k : Int)])
def grStep (s : List Int × List Int) (x : Nat) : List Int × List Int :=
  if atI s.1 x = x then s else if 0 < atI s.1 x then grFlip (grFlip s (atI s.1 x + 1)) (x + 1) else grFlip s (x + 1)
def grK (xs : List Int) (n : Nat) : Nat → List Int × List Int
  | 0 => (xs, [])
  | j + 1 => grStep (grK xs n j) (n - 1 - j)
def grL (xs : List Int) : List Int := (grK xs xs.length (xs.length - 1)).2
theorem grK_inv {n : Nat} {xs : List Int} (h : PermN n xs) : ∀ j, j ≤ n - 1 → PermN n (grK xs n j).1 ∧ (grK xs n j).2.length ≤ 2 * j ∧ ∀ y ∈ (grK xs n j).2, 0 ≤ y ∧ y ≤ (n : Int)
  | 0, _ => ⟨h, Nat.le_refl _, fun y hy => by cases hy⟩
  | j + 1, hj => by
    obtain ⟨h1, h2, h3⟩ := grK_inv h j (by omega)
    obtain ⟨h4, _, _⟩ := atI_ok h1 (x := n - 1 - j) (by omega)
    simp only [grK, grStep]
    split
    · exact ⟨h1, by omega, h3⟩
    · split
      · refine ⟨h1.flip.flip, by simp [grFlip]; omega, fun y hy => ?_⟩
        simp only [grFlip, List.mem_append, List.mem_singleton] at hy
        rcases hy with (hy | rfl) | rfl
        · exact h3 y hy
        · omega
        · omega
      · refine ⟨h1.flip, by simp [grFlip]; omega, fun y hy => ?_⟩
        simp only [grFlip, List.mem_append, List.mem_singleton] at hy
        rcases hy with hy | rfl
        · exact h3 y hy
        · omega

set_option maxRecDepth 100000 in
set_option maxHeartbeats 4000000 in
theorem i_GreedyFlips (v : Value) (xs : List Int) (w : World) (h : Rd w v (ints xs)) (hs : shortB xs = true) : Calls Tryz.prog 35 #[v] w (RetOwn 3 (ints (grL xs)) w) := by
  have HS := Lib.hid (hs ▸ i_isShortOrder v xs w h)
  obtain ⟨h8, hor⟩ := shortB_iff.1 hs
  obtain ⟨a, c, rfl, hnc, hc⟩ := h.formi
  have hp0 : PermN xs.length xs := ⟨rfl, hor⟩
  have HG : Hid (grL xs = (grK xs xs.length (xs.length - 1)).2) := rfl
  obtain ⟨n, hn⟩ : ∃ n, xs.length = n := ⟨_, rfl⟩
  rw [hn] at hp0 h8 HG hnc ⊢
  have HN := Lib.hid hn
  have HKI := Lib.hid (fun j hj => grK_inv hp0 j hj)
  have HKS : Hid (∀ j, grK xs n (j + 1) = grStep (grK xs n j) (n - 1 - j)) := fun j => rfl
  have HK0 : Hid (grK xs n 0 = (xs, [])) := rfl
  have HCL := Lib.hid (fun (W : World) (hW : Below w.heap.size w W) => f_Clone _ xs W (h.below hW) (by omega))
  rw [hn] at HCL HS
  clear hn
  go_enter Tryz.func35, Tryz.ntmps35
  go_upto_region 5 with (first
    | (go_at_call 81; refine HS.out.mono ?_; rintro e w1 ⟨rfl, hb1⟩; have hA : Below w1.heap.size w1 (w1.alloc (.cells #[] 3)) := (Below.refl _ _).alloc (Nat.le_refl _) _; have hlit := Own.lit0 w1 3 (Nat.le_refl _); have hbA := hb1.trans (hA.mono hb1.size))
    | (go_at_call 85; refine (HCL.out _ hbA).mono ?_; rintro e w2 ⟨v2, rfl, ho2, hb2⟩))
  have hO : OwnsL w2 3 w.heap.size [(.slice (some ⟨w1.heap.size, 0, none⟩) 0 0, []), (v2, xs)] := by
    have h1 := OwnsL.snoc (OwnsL.nil w1 3 w.heap.size) hA hb1.size hlit
    have h2 := h1.snoc hb2 hbA.size ho2
    simpa using h2
  have hb := hbA.trans (hb2.mono hbA.size)
  clear hA hlit hbA ho2 hb2 hb1
  go_wp2
  go_loopg [3, 4, 5] (n + 1) (fun g vo vl xv wr => ∃ j : Nat, g = n + 1 - j ∧ (j ≤ n - 1) ∧ xv = .int .i64 ((n : Int) - 1 - (j : Int)) ∧ OwnsL wr 3 w.heap.size [(vo, (grK xs n j).2), (vl, (grK xs n j).1)] ∧ Below w.heap.size w wr)
  case atStart => exact ⟨0, rfl, Nat.zero_le _, by simp, by rw [HK0.out]; exact hO, hb⟩
  case round =>
    clear hO hb
    obtain ⟨j, hg, hj, rfl, hO, hb⟩ := hrel
    obtain ⟨hp, hol, _⟩ := HKI.out j hj
    by_cases hlt : j < n - 1
    · have HSJ := Lib.hid (HKS.out j)
      obtain ⟨hpS, _, _⟩ := HKI.out (j + 1) (by omega)
      obtain ⟨L, hLe⟩ : ∃ L, (grK xs n j).1 = L := ⟨_, rfl⟩
      obtain ⟨O, hOe⟩ : ∃ O, (grK xs n j).2 = O := ⟨_, rfl⟩
      rw [hLe, hOe] at hO
      rw [hLe] at hp
      rw [hOe] at hol
      have HST : Hid (grK xs n (j + 1) = grStep (L, O) (n - 1 - j)) := by rw [Hid, HSJ.out, ← hLe, ← hOe]
      obtain ⟨x, hx⟩ : ∃ x, n - 1 - j = x := ⟨_, rfl⟩
      have ex : (n : Int) - 1 - (j : Int) = (x : Int) := by omega
      rw [hx] at HST
      rw [ex]
      obtain ⟨hat, _, hidx⟩ := atI_ok hp (x := x) (by omega)
      have HAT : Hid (grStep (L, O) x = if atI L x = x then (L, O) else if 0 < atI L x then grFlip (grFlip (L, O) (atI L x + 1)) (x + 1) else grFlip (L, O) (x + 1)) := rfl
      have hLl := hp.1
      have hp1 : PermN n (flipL L (atI L x + 1)) := hp.flip
      have HP1 := Lib.hid hp1
      obtain ⟨ao, no, co, rfl, HNO, _, _⟩ := hO.o0.rd.formN
      obtain ⟨al, nl, cl, rfl, HNL, _, _⟩ := hO.o1.rd.formN
      replace HNO : Hid (no = O.length) := HNO.out
      have hxn : x + 1 ≤ n := by omega
      have hx1 : 1 ≤ x := by omega
      have hno : no ≤ 16 := by have := HNO.out; omega
      have HLO : Hid ((ints O).length = no) := by rw [Hid, ints_length, HNO.out]
      have hsb := hb.size
      have HIX := Lib.hid (f_Index _ L (x : Int) wr hO.o1.rd)
      dsimp only at HIX
      rw [hidx] at HIX
      have HFL := Lib.hid (fun (W : World) (hW : Rd W (.slice al nl cl) (ints L)) (k : Nat) (hk : k ≤ n) => i_flip _ L k W hW (by rw [hLl]; omega) (by rw [hLl]; exact hk) (by rw [hLl]; omega))
      have HXJ := Lib.hid hx
      clear hidx hLe hOe hx ex HSJ hpS hp1
      obtain ⟨p, hpe⟩ : ∃ p, atI L x = p := ⟨_, rfl⟩
      rw [hpe] at hat HAT HIX HP1
      have HFL2 := Lib.hid (fun (v : Value) (W : World) (hW : Rd W v (ints (flipL L (p + 1)))) => i_flip v (flipL L (p + 1)) (x + 1) W hW (by rw [HP1.out.1]; omega) (by rw [HP1.out.1]; exact hxn) (by rw [HP1.out.1]; omega))
      clear hpe hp hLl
      by_cases hpx : p = x
      · have HV : Hid (grK xs n (j + 1) = (L, O)) := by rw [Hid, HST.out, HAT.out, if_pos hpx]
        have d0 : ((p : Int) == (x : Int)) = true := by simp [hpx]
        clear hpx
        go_wp2_with (go_at_call 91; refine HIX.out.mono ?_; rintro e w' ⟨rfl, rfl⟩)
        go_roundg (n + 1 - (j + 1))
        case measure => omega
        case rel => exact ⟨j + 1, rfl, by omega, by have := HXJ.out; first | go_num | (congr 1; omega), by rw [HV.out]; exact hO, hb⟩
      · have d0 : ((p : Int) == (x : Int)) = false := by rw [beq_eq_false_iff_ne]; omega
        rcases Nat.eq_zero_or_pos p with hp0 | hp0
        · have HV : Hid (grK xs n (j + 1) = (flipL L (x + 1), O ++ [((x + 1 : Nat) : Int)])) := by rw [Hid, HST.out, HAT.out, if_neg hpx, if_neg (by omega)]; rfl
          have i1 : ¬ ((p : Int) > 0) := by omega
          clear hpx hp0
          go_upto_region 14 with (first
            | (go_at_call 91; refine HIX.out.mono ?_; rintro e w' ⟨rfl, rfl⟩)
            | (at_builtin; (refine wpList_app1m rfl _ _ 23 rfl elI ?_ hO.o0 ?_ ?_ hsb no HLO.out (by omega) (by omega) ?_); (focus exact rfl); (focus (simp [Act.eval])); (focus exact rfl); intro b5 c5 w5 ho5 hg5 hat5))
          have ex1 : (x : Int) + 1 = ((x + 1 : Nat) : Int) := by omega
          have hO5 := hO.t0 hg5 (ys := O ++ [((x + 1 : Nat) : Int)]) (by rw [ints_append, ← ex1]; exact ho5) (hat_of hat5)
          have hb5 := hb.grown hg5 hsb (fun r hr => (hO.o0.lt r hr).1)
          have hs5 := hb5.size
          have HFX := Lib.hid (HFL.out w5 hO5.o1.rd (x + 1) hxn)
          rw [← ex1] at HFX
          clear hO hb hg5 hat5 ho5 ex1
          go_wp2_with (go_at_call 87; refine (HFX.out).mono ?_; rintro e w6 ⟨v6, rfl, ho6, hb6⟩)
          have hO6 := OwnsL.fresh (L1 := [(Value.slice b5 (no + 1) c5, O ++ [((x + 1 : Nat) : Int)])]) (L2 := []) hO5 hb6 hs5 ho6
          go_roundg (n + 1 - (j + 1))
          case measure => omega
          case rel => exact ⟨j + 1, rfl, by omega, by have := HXJ.out; first | go_num | (congr 1; omega), by rw [HV.out]; exact hO6, hb5.trans (hb6.mono hs5)⟩
        · have HV : Hid (grK xs n (j + 1) = (flipL (flipL L (p + 1)) (x + 1), (O ++ [((p + 1 : Nat) : Int)]) ++ [((x + 1 : Nat) : Int)])) := by rw [Hid, HST.out, HAT.out, if_neg hpx, if_pos hp0]; rfl
          have i1 : ((p : Int) > 0) := by omega
          clear hpx hp0
          go_upto_region 12 with (first
            | (go_at_call 91; refine HIX.out.mono ?_; rintro e w' ⟨rfl, rfl⟩)
            | (at_builtin; (refine wpList_app1m rfl _ _ 23 rfl elI ?_ hO.o0 ?_ ?_ hsb no HLO.out (by omega) (by omega) ?_); (focus exact rfl); (focus (simp [Act.eval])); (focus exact rfl); intro b5 c5 w5 ho5 hg5 hat5))
          have ex1 : (p : Int) + 1 = ((p + 1 : Nat) : Int) := by omega
          have hO5 := hO.t0 hg5 (ys := O ++ [((p + 1 : Nat) : Int)]) (by rw [ints_append, ← ex1]; exact ho5) (hat_of hat5)
          have hb5 := hb.grown hg5 hsb (fun r hr => (hO.o0.lt r hr).1)
          have hs5 := hb5.size
          have HFX := Lib.hid (HFL.out w5 hO5.o1.rd (p + 1) (by omega))
          rw [← ex1] at HFX
          clear hO hb hg5 hat5 ho5 ex1
          go_upto_region 13 with (go_at_call 87; refine (HFX.out).mono ?_; rintro e w6 ⟨v6, rfl, ho6, hb6⟩)
          have hO6 := OwnsL.fresh (L1 := [(Value.slice b5 (no + 1) c5, O ++ [((p + 1 : Nat) : Int)])]) (L2 := []) hO5 hb6 hs5 ho6
          have hb6' := hb5.trans (hb6.mono hs5)
          have hs6 := hb6'.size
          have HLO2 : Hid ((ints (O ++ [((p + 1 : Nat) : Int)])).length = no + 1) := by rw [Hid, ints_length, List.length_append, HNO.out]; rfl
          simp only [List.singleton_append, List.cons_append, List.nil_append] at hO6
          clear hO5 hb5 hb6 ho6 hs5
          go_upto_region 14 with (at_builtin; (refine wpList_app1m rfl _ _ 23 rfl elI ?_ hO6.o0 ?_ ?_ hs6 (no + 1) HLO2.out (by omega) (by omega) ?_); (focus exact rfl); (focus (simp [Act.eval])); (focus exact rfl); intro b7 c7 w7 ho7 hg7 hat7)
          have ex1 : (x : Int) + 1 = ((x + 1 : Nat) : Int) := by omega
          have hO7 := hO6.t0 hg7 (ys := (O ++ [((p + 1 : Nat) : Int)]) ++ [((x + 1 : Nat) : Int)]) (by rw [ints_append (O ++ _), ← ex1]; exact ho7) (hat_of hat7)
          have hb7 := hb6'.grown hg7 hs6 (fun r hr => (hO6.o0.lt r hr).1)
          have hs7 := hb7.size
          have HFX2 := Lib.hid (HFL2.out v6 w7 hO7.o1.rd)
          rw [← ex1] at HFX2
          clear hO6 hb6' hg7 hat7 ho7 ex1
          go_wp2_with (go_at_call 87; refine (HFX2.out).mono ?_; rintro e w8 ⟨v8, rfl, ho8, hb8⟩)
          have hO8 := OwnsL.fresh (L1 := [(Value.slice b7 (no + 1 + 1) c7, (O ++ [((p + 1 : Nat) : Int)]) ++ [((x + 1 : Nat) : Int)])]) (L2 := []) hO7 hb8 hs7 ho8
          go_roundg (n + 1 - (j + 1))
          case measure => omega
          case rel => exact ⟨j + 1, rfl, by omega, by have := HXJ.out; first | go_num | (congr 1; omega), by rw [HV.out]; exact hO8, hb7.trans (hb8.mono hs7)⟩
    · have HV : Hid (grL xs = (grK xs n j).2) := by rw [Hid, HG.out]; congr 2; omega
      have ho := hO.o0
      dsimp only at ho
      have i1 : ¬ ((n : Int) - 1 - (j : Int) ≥ 1) := by omega
      go_wp2
      go_ret
      exact ⟨_, rfl, by rw [HV.out]; exact ho, hb⟩

end Go.Proofs.YtggblfnajeikjaaGreatDoor

namespace Go.Proofs.YtggblfnajeikjaaGreatDoor
open Go.RowKit Go.Maps
set_option linter.unusedVariables false
set_option linter.unusedSimpArgs false

theorem keyLaw : Keyed Tryz.prog 3 := int_keyed Tryz.underlying3
theorem zeroInt (w : World) : (zeroValue 3).run Tryz.prog w = .ok (.int .i64 0) w := by kernel_rfl
theorem wf_of {q : Int} (h : I64 q) : (Lit.int .i64 q).wf = true := by
  obtain ⟨h1, h2⟩ := h
  simp [Lit.wf, IntKind.min, IntKind.max, IntKind.signed, IntKind.bits]
  omega
/-- The map in block g has f's values. -/
def MapF (w : World) (g n : Nat) (f : Int → Option Int) : Prop :=
  ∃ D : DataW Unit, w.ownsMap Tryz.prog 3 (plainElem Tryz.prog 3) g n D ∧
    ∀ q, I64 q → Maps.has D (.int .i64 q) = (f q).isSome ∧ D.atKey (.int .i64 q) (.lit (.int .i64 0)) = .lit (.int .i64 ((f q).getD 0))
def updF (f : Int → Option Int) (q v : Int) : Int → Option Int := fun k => if k = q then some v else f k
section
variable {w w' : World} {g n : Nat} {f : Int → Option Int} {q v : Int}
theorem MapF.look (h : MapF w g n f) (hq : I64 q) : (Instr.lookup 87 (.map (some g)) (.int .i64 q) false).run Tryz.prog w = .ok (.int .i64 ((f q).getD 0)) w := by
  obtain ⟨D, hD, hf⟩ := h
  obtain ⟨c, hrun, hat, _⟩ := hD.lookup_int keyLaw Tryz.underlying87 Tryz.underlying3 (zeroInt w) (keyOf_int_mk Tryz.underlying3 (wf_of hq))
  rw [(hf q hq).2] at hat
  simp only [DataW.lit.injEq, Lit.int.injEq, true_and] at hat
  rw [hrun, hat]
theorem MapF.lookOk (h : MapF w g n f) (hq : I64 q) : (Instr.lookup 87 (.map (some g)) (.int .i64 q) true).run Tryz.prog w = .ok (.tuple #[.int .i64 ((f q).getD 0), .bool (f q).isSome]) w := by
  obtain ⟨D, hD, hf⟩ := h
  obtain ⟨c, ps, hrun, hv⟩ := hD.look_ok keyLaw Tryz.underlying87 (zeroInt w) (plainElem_int Tryz.underlying3 (by decide)) (keyOf_int_mk Tryz.underlying3 (wf_of hq))
  obtain ⟨c', rfl, hc, _⟩ := plainElem_int_inv Tryz.underlying3 hv
  rw [(hf q hq).2] at hc
  have e := congrArg Prod.fst hc
  simp only [DataW.lit.injEq, Lit.int.injEq, true_and] at e
  rw [hrun, (hf q hq).1, e]
theorem MapF.put (h : MapF w g n f) (hn : n < 10000000) (hq : I64 q) (hv : I64 v) : ∃ w', (Instr.mapUpdate 87 (.map (some g)) (.int .i64 q) (.int .i64 v)).run Tryz.prog w = .ok () w' ∧ MapF w' g (n + 1) (updF f q v) ∧ w.grownBy w' (some g) := by
  obtain ⟨D, hD, hf⟩ := h
  have hM := hD.isMap
  obtain ⟨w', hrun, hD', hg⟩ := hD.update keyLaw Tryz.underlying87 (by simp only [maxLen]; omega) (keyOf_int_mk Tryz.underlying3 (wf_of hq)) (plainElem_int Tryz.underlying3 (wf_of hv))
  refine ⟨w', hrun, ⟨_, hD', fun k hk => ?_⟩, hg⟩
  by_cases e : k = q
  · subst e
    rw [has_put_same hM (show WideAt.IsKeyLit (.int .i64 k) from trivial), atKey_put_same hM (show WideAt.IsKeyLit (.int .i64 k) from trivial), updF, if_pos rfl]
    exact ⟨rfl, rfl⟩
  · have hne : (Lit.int .i64 k) ≠ .int .i64 q := fun h => e (by injection h)
    rw [has_put_other hne, atKey_put_other hne, updF, if_neg e]
    exact hf k hk
theorem MapF.made (w : World) : MapF (w.alloc (.map #[] 0)) w.heap.size 0 fun _ => none :=
  ⟨_, World.ownsMap_made _ _ _ _, fun q _ => ⟨rfl, rfl⟩⟩
theorem MapF.kept {row : Option Nat} (h : MapF w g n f) (hg : w.grownBy w' row) (hne : some g ≠ row) : MapF w' g n f := by
  obtain ⟨D, hD, hf⟩ := h
  exact ⟨D, hD.kept hg hne, hf⟩
theorem MapF.lt (h : MapF w g n f) : g < w.heap.size := by
  obtain ⟨D, hD, _⟩ := h
  exact hD.lt
theorem MapF.below (h : MapF w g n f) (hb : Below w.heap.size w w') : MapF w' g n f :=
  h.kept (row := none) ⟨hb.os, hb.tape, hb.output, hb.size, fun i hi _ => hb.block i hi⟩ (by simp)
theorem MapF.alloc (h : MapF w g n f) (o : Obj) : MapF (w.alloc o) g n f := h.below ((Below.refl _ _).alloc (Nat.le_refl _) _)
theorem MapF.ne {E B : Nat} {u : Value} {xs : List Value} (h : MapF w g n f) (ho : Own w E B u xs) : u.ownBlock ≠ some g := by
  obtain ⟨D, ⟨es, clock, hb, _⟩, _⟩ := h
  intro e
  rcases ho with ⟨rfl, _⟩ | ⟨g1, o1, c1, cur1, rfl, _, hh1, _⟩
  · cases e
  · simp only [Value.ownBlock, Option.some.injEq] at e
    subst e
    rw [hb] at hh1
    cases hh1
end

structure Bfs (n at_ k : Nat) (T : List (List Int × Nat)) (f : Int → Option Int) : Prop where
  perm : ∀ p ∈ T, PermN n p.1
  nodup : (T.map Prod.fst).Nodup
  first : T[0]? = some (idL n, 0)
  mono : T.Pairwise fun p q => p.2 ≤ q.2
  near : ∀ p ∈ T, ∀ c, T[at_]? = some c → p.2 ≤ c.2 + 1
  par : ∀ (i : Nat) p, T[i]? = some p → i = 0 ∨ ∃ j, 2 ≤ j ∧ j ≤ n ∧ ∃ e, (flipL p.1 j, e) ∈ T ∧ p.2 = e + 1
  done : ∀ (i : Nat) p, T[i]? = some p → ∀ j, 2 ≤ j → j ≤ n → (i < at_ ∨ (i = at_ ∧ j < k)) → ∃ e, (flipL p.1 j, e) ∈ T ∧ e ≤ p.2 + 1
  bd : ∀ (i : Nat) p, T[i]? = some p → p.2 ≤ i
  fok : ∀ p ∈ T, f (keyN p.1) = some (p.2 : Int)
  fin : ∀ q v, f q = some v → ∃ p ∈ T, q = (keyN p.1 : Int)
section
variable {n at_ k d : Nat} {T : List (List Int × Nat)} {f : Int → Option Int} {x : List Int}
theorem PermN.small (h : PermN n x) (hn : n ≤ 6) : ∀ y ∈ x, 0 ≤ y ∧ y < 8 := fun y hy => by have := h.2.1 y hy; omega
theorem Bfs.start (n : Nat) : Bfs n 0 2 [(idL n, 0)] (updF (fun _ => none) (keyN (idL n)) 0) := by
  refine ⟨fun p hp => ?_, by simp, rfl, by simp, fun p hp c hc => ?_, fun i p hp => ?_, fun i p hp j h2 hj h => ?_, fun i p hp => ?_, fun p hp => ?_, fun q v hq => ?_⟩
  · rw [List.mem_singleton] at hp; subst hp; exact PermN.idL n
  · rw [List.mem_singleton] at hp; subst hp; exact Nat.zero_le _
  · left
    have := (List.getElem?_eq_some_iff.1 hp).1
    simpa using this
  · omega
  · have := List.mem_of_getElem? hp
    rw [List.mem_singleton] at this
    subst this
    exact Nat.zero_le _
  · rw [List.mem_singleton] at hp; subst hp; simp [updF]
  · unfold updF at hq
    split at hq
    · rename_i e
      exact ⟨_, List.mem_singleton.2 rfl, e⟩
    · cases hq
theorem Bfs.len (H : Bfs n at_ k T f) (hn : n ≤ 6) : T.length ≤ 524288 := by
  have h1 : (T.map fun p => keyN p.1).Nodup := by
    have := H.nodup
    rw [List.Nodup, List.pairwise_map] at this ⊢
    refine List.Pairwise.imp_of_mem (fun {a b} ha hb hne e => hne ?_) this
    exact keyN_inj _ _ ((H.perm a ha).1.trans (H.perm b hb).1.symm) ((H.perm a ha).small hn) ((H.perm b hb).small hn) e
  have h2 := len_bd 524288 _ h1 fun y hy => by
    obtain ⟨p, hp, rfl⟩ := List.mem_map.1 hy
    have h3 := (keyN_lt p.1 ((H.perm p hp).small hn)).1
    rw [(H.perm p hp).1] at h3
    have : 8 ^ n ≤ 8 ^ 6 := Nat.pow_le_pow_right (by omega) hn
    omega
  simpa using h2
theorem Bfs.old (H : Bfs n at_ k T f) (hn : n ≤ 6) (hx : T[at_]? = some (x, d)) {v : Int} (hf : f (keyN (flipL x k)) = some v) : Bfs n at_ (k + 1) T f := by
  refine ⟨H.perm, H.nodup, H.first, H.mono, H.near, H.par, fun i p hp j h2 hj h => ?_, H.bd, H.fok, H.fin⟩
  by_cases e : i = at_ ∧ j = k
  · obtain ⟨rfl, rfl⟩ := e
    rw [hx] at hp
    cases hp
    obtain ⟨q, hq, he⟩ := H.fin _ _ hf
    have h1 := H.perm _ (List.mem_of_getElem? hx)
    have h3 : flipL x j = q.1 := keyN_inj _ _ (h1.flip.1.trans (H.perm q hq).1.symm) (h1.flip.small hn) ((H.perm q hq).small hn) (by omega)
    exact ⟨q.2, by rw [h3]; exact hq, H.near q hq _ hx⟩
  · exact H.done i p hp j h2 hj (by omega)
theorem Bfs.new (H : Bfs n at_ k T f) (hx : T[at_]? = some (x, d)) (h2 : 2 ≤ k) (hk : k ≤ n) (hf : f (keyN (flipL x k)) = none) :
    Bfs n at_ (k + 1) (T ++ [(flipL x k, d + 1)]) (updF f (keyN (flipL x k)) ((d + 1 : Nat) : Int)) := by
  have hxm := List.mem_of_getElem? hx
  have hal := (List.getElem?_eq_some_iff.1 hx).1
  have h1 := H.perm _ hxm
  have hnew : ∀ p ∈ T, (keyN p.1 : Int) ≠ (keyN (flipL x k) : Int) := fun p hp e => by
    have := H.fok p hp
    rw [e, hf] at this
    cases this
  have hold : ∀ (i : Nat) p, (T ++ [(flipL x k, d + 1)])[i]? = some p → (T[i]? = some p) ∨ (i = T.length ∧ p = (flipL x k, d + 1)) := fun i p hp => by
    by_cases hi : i < T.length
    · rw [List.getElem?_append_left hi] at hp; exact .inl hp
    · rw [List.getElem?_append_right (by omega)] at hp
      have hb := (List.getElem?_eq_some_iff.1 hp).1
      simp at hb
      have e : i = T.length := by omega
      subst e
      simp at hp
      exact .inr ⟨rfl, hp.symm⟩
  refine ⟨fun p hp => ?_, ?_, by rw [List.getElem?_append_left (by omega)]; exact H.first, ?_, fun p hp c hc => ?_, fun i p hp => ?_, fun i p hp j h2' hj h => ?_, fun i p hp => ?_, fun p hp => ?_, fun q v hq => ?_⟩
  · rcases List.mem_append.1 hp with hp | hp
    · exact H.perm p hp
    · rw [List.mem_singleton] at hp; subst hp; exact h1.flip
  · rw [List.map_append, List.nodup_append]
    refine ⟨H.nodup, by simp, fun a ha b hb e => ?_⟩
    simp at hb
    subst hb
    obtain ⟨p, hp, rfl⟩ := List.mem_map.1 ha
    exact hnew p hp (by rw [e])
  · rw [List.pairwise_append]
    refine ⟨H.mono, by simp, fun a ha b hb => ?_⟩
    rw [List.mem_singleton] at hb; subst hb
    exact H.near a ha _ hx
  · rw [List.getElem?_append_left hal, hx] at hc
    cases hc
    rcases List.mem_append.1 hp with hp | hp
    · exact H.near p hp _ hx
    · rw [List.mem_singleton] at hp; subst hp; exact Nat.le_refl _
  · rcases hold i p hp with hp | ⟨rfl, rfl⟩
    · rcases H.par i p hp with e | ⟨j, a, b, e, c, hd⟩
      · exact .inl e
      · exact .inr ⟨j, a, b, e, List.mem_append_left _ c, hd⟩
    · exact .inr ⟨k, h2, hk, d, by rw [flipL_flipL (by rw [h1.1]; exact hk)]; exact List.mem_append_left _ hxm, rfl⟩
  · rcases hold i p hp with hp2 | ⟨rfl, rfl⟩
    · by_cases e : i = at_ ∧ j = k
      · obtain ⟨rfl, rfl⟩ := e
        rw [hx] at hp2
        cases hp2
        exact ⟨d + 1, by simp, Nat.le_refl _⟩
      · obtain ⟨e, a, b⟩ := H.done i p hp2 j h2' hj (by omega)
        exact ⟨e, List.mem_append_left _ a, b⟩
    · omega
  · rcases hold i p hp with hp | ⟨rfl, rfl⟩
    · exact H.bd i p hp
    · have := H.bd _ _ hx; simp only at this ⊢; omega
  · rcases List.mem_append.1 hp with hp | hp
    · rw [updF, if_neg (hnew p hp)]; exact H.fok p hp
    · rw [List.mem_singleton] at hp; subst hp; rw [updF, if_pos rfl]
  · unfold updF at hq
    split at hq
    · rename_i e
      exact ⟨(flipL x k, d + 1), by simp, e⟩
    · obtain ⟨p, hp, e⟩ := H.fin q v hq
      exact ⟨p, List.mem_append_left _ hp, e⟩
theorem Bfs.step (H : Bfs n at_ k T f) (hk : n < k) (hat : at_ < T.length) : Bfs n (at_ + 1) 2 T f := by
  refine ⟨H.perm, H.nodup, H.first, H.mono, fun p hp c hc => ?_, H.par, fun i p hp j h2 hj h => H.done i p hp j h2 hj (by omega), H.bd, H.fok, H.fin⟩
  have h1 := H.near p hp _ (List.getElem?_eq_getElem hat)
  obtain ⟨hl, e⟩ := List.getElem?_eq_some_iff.1 hc
  have h2 := List.pairwise_iff_getElem.1 H.mono at_ (at_ + 1) hat hl (by omega)
  rw [e] at h2
  omega
theorem Bfs.dist (H : Bfs n at_ 2 T f) (hat : T.length ≤ at_) (hn : n ≤ 6) : ∃ D, Dist n D ∧ ∀ xs, PermN n xs → f (keyN xs) = some (D xs : Int) := by
  have hall : ∀ xs, PermN n xs → ∃ (i d : Nat), T[i]? = some (xs, d) := fun xs h => by
    refine PermN.all (fun xs => ∃ (i d : Nat), T[i]? = some (xs, d)) ⟨0, 0, H.first⟩ (fun xs k hp ⟨i, d, hi⟩ h2 hk => ?_) xs h
    have := (List.getElem?_eq_some_iff.1 hi).1
    obtain ⟨e, he, _⟩ := H.done i _ hi k h2 hk (by omega)
    obtain ⟨j, hj, hje⟩ := List.getElem_of_mem he
    exact ⟨j, e, by rw [List.getElem?_eq_getElem hj, hje]⟩
  have hD : ∀ (i : Nat) (xs : List Int) (d : Nat), T[i]? = some (xs, d) → ((f (keyN xs)).getD 0).toNat = d := fun i xs d hi => by
    rw [H.fok _ (List.mem_of_getElem? hi)]; simp
  have hDm : ∀ (xs : List Int) (d : Nat), (xs, d) ∈ T → ((f (keyN xs)).getD 0).toNat = d := fun xs d hi => by rw [H.fok _ hi]; simp
  refine ⟨fun xs => ((f (keyN xs)).getD 0).toNat, ⟨hD 0 _ _ H.first, fun xs h hne => ?_, fun xs k h h2 hk => ?_, fun xs h hne => ?_, fun xs h => ?_⟩, fun xs h => ?_⟩
  · obtain ⟨i, d, hi⟩ := hall xs h
    simp only [hD i xs d hi]
    rcases H.par i _ hi with rfl | ⟨j, _, _, e, _, he⟩
    · rw [H.first] at hi; cases hi; exact absurd rfl hne
    · simp only at he; omega
  · obtain ⟨i, d, hi⟩ := hall xs h
    have hil := (List.getElem?_eq_some_iff.1 hi).1
    obtain ⟨e, he, hle⟩ := H.done i _ hi k h2 hk (by omega)
    simp only [hD i xs d hi, hDm _ _ he]
    exact hle
  · obtain ⟨i, d, hi⟩ := hall xs h
    rcases H.par i _ hi with rfl | ⟨j, h2, hj, e, hm, he⟩
    · rw [H.first] at hi; cases hi; exact absurd rfl hne
    · refine ⟨j, h2, hj, ?_⟩
      simp only [hD i xs d hi, hDm _ _ hm]
      exact he.symm
  · obtain ⟨i, d, hi⟩ := hall xs h
    have hil := (List.getElem?_eq_some_iff.1 hi).1
    have h1 : d ≤ i := H.bd i _ hi
    have h2 := H.len hn
    show ((f (keyN xs)).getD 0).toNat < 1000000
    rw [hD i xs d hi]
    omega
  · obtain ⟨i, d, hi⟩ := hall xs h
    have h1 : f (keyN xs) = some (d : Int) := H.fok _ (List.mem_of_getElem? hi)
    simp only [hD i xs d hi]
    exact h1
end

end Go.Proofs.YtggblfnajeikjaaGreatDoor

namespace Go.Proofs.YtggblfnajeikjaaGreatDoor
open Go.RowKit
set_option linter.unusedVariables false
set_option linter.unusedSimpArgs false

def TK (xss : List (List Int)) (t : List Int) : Prop := t.length = xss.length ∧ ∀ (k : Nat) n xs, t[k]? = some n → xss[k]? = some xs → 0 ≤ n ∧ n ≤ (xs.length : Int)
end Go.Proofs.YtggblfnajeikjaaGreatDoor
