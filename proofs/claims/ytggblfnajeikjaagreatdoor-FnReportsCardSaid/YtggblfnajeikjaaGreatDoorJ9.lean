/- Joined texts of the proof: OutLate3, LateFns, PlainFnLate, LineLate, StackB, StackC, StackD, StackE, StackF, StackG, PlainDis, DisA, DisB. -/
import Derived.Test.YtggblfnajeikjaaGreatDoorRows
import Derived.WalkKit
import Derived.WalkSpells
import Derived.WalkLawsBesides
import Derived.Deep.Draws
import Derived.Lib.Hide
import Derived.RegionTactic
import Derived.BigQuiet
import Derived.Deep.QuietTactic
import Derived.Lib.SliceRun
import Derived.Deep.RegionLaw
import Derived.Deep.DeepCutAuto
import Derived.Deep.LoopGhost
import Derived.Deep.RegionWith
import Derived.Lib.ItoaNum
import Derived.Deep.RegionHeld3
import Derived.IntWalk
import Derived.Lib.Join
import Derived.Shelf.Strings.Builder1
import Derived.Shelf.Strings.Builder2
import Derived.Shelf.Strings.OnBuilder
import Derived.Shelf.Strconv.Atoi
import Derived.Shelf.Strconv.Itoa0
import Derived.Shelf.Strconv.Itoa1
import Derived.Shelf.LaysM
import Derived.Shelf.Strconv.Itoa2
import Derived.Shelf.Strconv.Itoa3
import Derived.Shelf.Strconv.AtoiErrFast
import Derived.Shelf.Strconv.ParseIntEmpty
import Derived.Shelf.Strconv.AtoiFail
import Derived.Shelf.Strconv.Clone
import Derived.Shelf.Strconv.SyntaxError
import Derived.Shelf.LaysC
import Derived.Shelf.Strconv.ToError
import Derived.Shelf.Strconv.Lower
import Derived.Shelf.Strconv.ParseUint10
import Derived.Shelf.Strconv.ParseUint10Empty
import Derived.Shelf.Strconv.ParseUint10Any
import Derived.Shelf.Strconv.ParseInt10
import Derived.Shelf.Strconv.AtoiLong
import Derived.Shelf.Strconv.AtoiInnerAll
import Derived.Shelf.Strconv.RangeError
import Derived.Shelf.Strconv.ToErrorRange
import Derived.Shelf.Strconv.AtoiAll
import Derived.Shelf.Strconv.ErrVarAll
import Derived.Shelf.Strings.Search1
import Derived.Shelf.Strings.Search2
import Derived.Shelf.Strings.Search3
import Derived.Shelf.Strings.Cut
import Derived.Shelf.Strings.Count
import Derived.Shelf.Strings.Shaped
import Derived.Shelf.Sort.Plain
import Derived.Shelf.Strings.Prefix
import Derived.Shelf.Strings.Split
import Derived.Shelf.Unicode.DecodeSlow
import Derived.Shelf.Slices.Reverse
import Derived.Ground.Names2Prog
import Derived.Shelf.Slices.CompactI
import Derived.Test.YtggblfnajeikjaaGreatDoorProg
import Derived.Lib.SmallJoins
import Derived.Lib.AppendZeros
import Derived.Deep.AppendLies
import Derived.Lib.SplitLaws
import Derived.Lib.Split
import Derived.Lib.IndexBytes
import Derived.Lib.AtoiAllCases
import Derived.Lib.AtoiErrMem
import Derived.Laws.BitsAllLaws
import Derived.Laws.BitsLemmas
import Derived.Lib.RowBridge
import Derived.Sort.OwnSortedInts
import Derived.Lib.LazyBuf
import Derived.Maps.OwnOps
import Derived.Maps.OwnSet
import Derived.Maps.Views
import Derived.Carry
import Derived.Laws.Bits64b
import Derived.BigRegion
import Derived.Test.YtggblfnajeikjaaGreatDoorJ8
namespace Go.Proofs.YtggblfnajeikjaaGreatDoor
open Go.RowKit
set_option linter.unusedVariables false
set_option linter.unusedSimpArgs false

def RetEm (T : List Int) (s : Int) (w : World) (e : Ending) (w' : World) : Prop :=
  ∃ vo vl vm vd, e = .returned (.agg #[vo, vl, vm, vd, .int .i64 (lateMost T s)]) ∧ OwnsL w' 3 w.heap.size [(vo, lateOut T s), (vl, lateLate T s), (vm, lateMarks T s), (vd, lateDel T s)] ∧ Below w.heap.size w w'
def K0 (w : World) (g : Nat) : Prop := g ≤ w.heap.size + 1
theorem K0b (w : World) : K0 w w.heap.size := Nat.le_succ _
theorem StK0 {w : World} {K : Nat → Prop} {be bw : Nat} {wr : World} {vo vl vm vd vw : Value} {O Lt Mk D W : List Int} {ms : Int} (h : St (K0 w) be bw wr vo vl vm vd vw O Lt Mk D W ms []) :
    OwnsL wr 3 w.heap.size [(vo, O), (vl, Lt), (vm, Mk), (vd, D)] :=
  ⟨fun p hp => (h.ow.own p (by simp only [List.mem_cons, List.not_mem_nil, or_false] at hp ⊢; rcases hp with h1 | h1 | h1 | h1 <;> simp [h1])).raise fun k hk => by
      have := h.nk p (by simp only [List.mem_cons, List.not_mem_nil, or_false] at hp ⊢; rcases hp with h1 | h1 | h1 | h1 <;> simp [h1]) k hk
      unfold K0 at this
      omega,
    (OwnsL.left (L1 := [(vo, O), (vl, Lt), (vm, Mk), (vd, D)]) h.ow).ap⟩
set_option maxRecDepth 100000 in
set_option maxHeartbeats 16000000 in
theorem i_emit (v : Value) (T : List Int) (s : Int) (w : World) (h : Rd w v (ints T)) (hn30 : T.length ≤ 30) (hT : ∀ t ∈ T, 0 ≤ t ∧ t ≤ 1000) (hs : 0 ≤ s ∧ s ≤ 1000) :
    Calls Tryz.prog 78 #[v, .int .i64 s] w (RetEm T s w) := by
  obtain ⟨aT, n, cT, rfl, HN, hnc, hc⟩ := h.formN
  have hn : n ≤ 30 := by have := HN.out; omega
  have HINV := Lib.hid (fun k (hk : k ≤ T.length) => lrun_inv hT hs k hk)
  have HTR := Lib.hid hT
  have hTK : 0 < T.length → ∀ k, (Value.slice aT n cT).ownBlock = some k → K0 w k := fun h0 k hk => by
    obtain ⟨ad, x, rfl, hcx, _⟩ := h.int h0
    have := World.block_lt_of_cell? _ _ hcx
    rw [block_of_add] at this
    simp only [Value.ownBlock, Option.some.injEq] at hk
    unfold K0
    omega
  have HTK := Lib.hid hTK
  clear hT hn30 hTK
  go_enter Tryz.func78, Tryz.ntmps78
  go_upto_region 5 with (at_make; refine wpList_mk (B := w.heap.size + 2) rfl _ _ 23 rfl elI rfl rfl (by simp) (by omega) (by omega) ?_; intro bd wd hbd hown hgd)
  have hBd : w.heap.size + 2 ≤ wd.heap.size := by have := hgd.size; simp at this; omega
  have hbdb : bd.block = w.heap.size + 2 := by simpa using hbd
  have hbl : bd.block < wd.heap.size := (hown.lt _ rfl).2
  obtain ⟨wA, hwA⟩ : ∃ wA, ((wd.alloc (.cells #[.slice none 0 0, .slice none 0 0, .slice none 0 0, .slice (some bd) n n, .int .i64 0] 83)).alloc (.cells #[] 3)).alloc (.cells #[.slice (some ⟨wd.heap.size + 1, 0, none⟩) 0 0] 23) = wA := ⟨_, rfl⟩
  have hbA : Below wd.heap.size wd wA := by rw [← hwA]; exact (((Below.refl _ _).alloc (Nat.le_refl _) _).alloc (by simp) _).alloc (by simp; omega) _
  have hbw0 : Below (w.heap.size + 2) ((w.alloc (.cells #[.slice aT n cT] 23)).alloc (.cells #[.slice none 0 0, .slice none 0 0, .slice none 0 0, .slice none 0 0, .int .i64 0] 83)) wA := by
    have h1 : Below (w.heap.size + 2) ((w.alloc (.cells #[.slice aT n cT] 23)).alloc (.cells #[.slice none 0 0, .slice none 0 0, .slice none 0 0, .slice none 0 0, .int .i64 0] 83)) wd := (Below.refl _ _).grown hgd (by simp) (fun _ h => by cases h)
    exact h1.trans (hbA.mono (by omega))
  have hbt : wA.heap[w.heap.size]? = some (.cells #[.slice aT n cT] 23 (0, 0)) := (hbw0.block _ (by omega)).trans ((Below.heap_alloc _ _ _ (by simp)).trans (heap_alloc_new w _))
  have hbr : wA.heap[w.heap.size + 1]? = some (.cells #[.slice none 0 0, .slice none 0 0, .slice none 0 0, .slice none 0 0, .int .i64 0] 83 (0, 0)) := (hbw0.block _ (by omega)).trans (by
    have := heap_alloc_new (w.alloc (.cells #[.slice aT n cT] 23)) (.cells #[.slice none 0 0, .slice none 0 0, .slice none 0 0, .slice none 0 0, .int .i64 0] 83)
    rwa [show (w.alloc (.cells #[.slice aT n cT] 23)).heap.size = w.heap.size + 1 by simp] at this)
  have hbB : Below w.heap.size w wA := (((Below.refl _ _).alloc (Nat.le_refl _) _).alloc (by simp) _).trans (hbw0.mono (by omega))
  have hSt : St (K0 w) wd.heap.size (wd.heap.size + 1 + 1) wA (.slice none 0 0) (.slice none 0 0) (.slice none 0 0) (.slice (some bd) n n) (.slice (some ⟨wd.heap.size + 1, 0, none⟩) 0 0) [] [] [] (List.replicate n 0) [] 0 [] := by
    have e0 : Own wA 3 0 (.slice (some bd) n n) (ints (List.replicate n 0)) := by
      have : ints (List.replicate n 0) = List.replicate n (.int .i64 0) := by simp [ints]
      rw [this]
      exact (hown.below hbA).mono (Nat.zero_le _)
    have e1 : Own wA 3 0 (.slice (some ⟨wd.heap.size + 1, 0, none⟩) 0 0) (ints []) := by
      rw [← hwA]
      have := Own.lit0 (B := 0) (wd.alloc (.cells #[.slice none 0 0, .slice none 0 0, .slice none 0 0, .slice (some bd) n n, .int .i64 0] 83)) 3 (Nat.zero_le _)
      exact (by simpa using this : Own _ 3 0 (.slice (some ⟨wd.heap.size + 1, 0, none⟩) 0 0) (ints [])).alloc _
    refine ⟨?_, ?_, ⟨fun p hp => ?_, ?_⟩, fun p hp g hg => ?_⟩
    · rw [← hwA]
      rw [Below.heap_alloc _ _ _ (by simp; omega), Below.heap_alloc _ _ _ (by simp)]
      exact heap_alloc_new wd _
    · rw [← hwA]
      have := heap_alloc_new ((wd.alloc (.cells #[.slice none 0 0, .slice none 0 0, .slice none 0 0, .slice (some bd) n n, .int .i64 0] 83)).alloc (.cells #[] 3)) (.cells #[.slice (some ⟨wd.heap.size + 1, 0, none⟩) 0 0] 23)
      simpa using this
    · simp only [List.mem_cons, List.not_mem_nil, or_false] at hp
      rcases hp with h1 | h1 | h1 | h1 | h1 <;> subst h1
      · exact Own.nil _ _ _
      · exact Own.nil _ _ _
      · exact Own.nil _ _ _
      · exact e0
      · exact e1
    · simp [Value.ownBlock]
      omega
    · simp only [List.mem_cons, List.not_mem_nil, or_false] at hp
      unfold K0
      rcases hp with h1 | h1 | h1 | h1 | h1 <;> subst h1 <;> simp [Value.ownBlock] at hg <;> omega
  have hR : Rd wA (.slice aT n cT) (ints T) := h.below hbB
  have hKA : ∀ k, K0 w k → k < wA.heap.size := fun k hk => by have := hbw0.size; simp at this; unfold K0 at hk; omega
  have hKe : ¬ K0 w wd.heap.size := by unfold K0; omega
  have hKw : ¬ K0 w (wd.heap.size + 1 + 1) := by unfold K0; omega
  have hew : wd.heap.size ≠ wd.heap.size + 1 + 1 := by omega
  rw [hwA]
  obtain ⟨va, hva⟩ : ∃ va, Value.slice (some ⟨wd.heap.size + 1, 0, none⟩) 0 0 = va := ⟨_, rfl⟩
  rw [hva] at hSt ⊢
  obtain ⟨bw, hbw⟩ : ∃ bw, wd.heap.size + 1 + 1 = bw := ⟨_, rfl⟩
  rw [hbw] at hSt hKw hew ⊢
  obtain ⟨be, hbe⟩ : ∃ be, wd.heap.size = be := ⟨_, rfl⟩
  rw [hbe] at hSt hKe hew ⊢
  have HBT := Lib.hid hbt
  have HBRES := Lib.hid hbr
  have HKA := Lib.hid hKA
  have hct := box_cell hbt 0
  clear hva hbw hbe hwA hbw0 hbA hbl hbdb hBd hown hgd hbt hbr hKA
  have HL0 : Hid (lrun T s 0 = ⟨[], [], [], List.replicate n 0, [], 0, -1001⟩) := by rw [Hid, lrun, lS0, HN.out]
  go_wp2_with fail
  go_loopg [7, 20] n (fun gq vg iv wr => ∃ (k : Nat) (L : LS) (g : Int) (vo vl vm vw : Value), gq = n - k ∧ k ≤ n ∧ iv = .int .i64 (k : Int) ∧ vg = .int .i64 g ∧ 0 ≤ g ∧ g ≤ 1000 ∧ Hid ((k = 0 ∧ g = 0 ∧ L.mark = -1001) ∨ (0 < k ∧ L.mark = g - s)) ∧ Hid (lrun T s k = L) ∧ St (K0 w) be bw wr vo vl vm (.slice (some bd) n n) vw L.out L.late L.marks L.del L.w L.most [] ∧ Fr (K0 w) wA wr)
  case atStart => exact ⟨0, _, 0, _, _, _, _, rfl, Nat.zero_le _, rfl, rfl, by omega, by omega, .inl ⟨rfl, rfl, rfl⟩, HL0, hSt, Fr.refl _ _⟩
  case round =>
    clear hSt HL0
    obtain ⟨k, ⟨W, O, Lt, D, Mk, ms, mk⟩, g, vo, vl, vm, vw, hgk, hk, rfl, rfl, hg0, hg1, HG, HL, hSt, hF⟩ := hrel
    dsimp only at hSt HL HG
    have HI : Hid (LInv T s k ⟨W, O, Lt, D, Mk, ms, mk⟩) := by have := HINV.out k (by have := HN.out; omega); rw [HL.out] at this; exact this
    have hmk := HI.out.mkb
    have hms := HI.out.most0
    dsimp only at hmk hms
    have HLEN : Hid (W.length + O.length + Lt.length = k) := HI.out.len
    have HML : Hid (Mk.length = k) := HI.out.marks
    have HBR : Hid (wr.heap[w.heap.size]? = some (.cells #[.slice aT n cT] 23 (0, 0))) := (hF.block _ (K0b w)).trans HBT.out
    have hctr := box_cell HBR.out 0
    have hKR : ∀ k, K0 w k → k < wr.heap.size := fun k hk => by have := HKA.out k hk; have := hF.size; omega
    have HKR := Lib.hid hKR
    clear hKR
    by_cases hlt : k < n
    · have i0 : (k : Int) < (n : Int) := by omega
      have hRr : Rd wr (.slice aT n cT) (ints T) := hF.rd hR HTK.out
      obtain ⟨ad, t, rfl, hcx, ht⟩ := hRr.int (k := k) (by have := HN.out; omega)
      have htb := HTR.out t (List.mem_of_getElem? ht.out)
      have HTKK : Hid (T.getD k 0 = t) := getD_of ht.out
      have HSTEP : Hid (lrun T s (k + 1) = lstep T s ⟨W, O, Lt, D, Mk, ms, mk⟩ k) := by rw [Hid, lrun, HL.out]
      have hDl : Hid (D.length = n) := by have := HI.out.del; rw [Hid, HN.out]; exact this
      obtain ⟨mk2, hmk2⟩ : ∃ mk2, max mk (t - s) = mk2 := ⟨_, rfl⟩
      have HMK : Hid (lmk T s ⟨W, O, Lt, D, Mk, ms, mk⟩ k = mk2) := by rw [Hid, lmk, HTKK.out]; exact hmk2
      obtain ⟨ao, mo, co, rfl, HMO, _, _⟩ := hSt.ow.o0.rd.formN
      obtain ⟨al, ml, cl, rfl, HMLt, _, _⟩ := hSt.ow.o1.rd.formN
      obtain ⟨am, mm, cm, rfl, HMM, _, _⟩ := hSt.ow.o2.rd.formN
      obtain ⟨aw, mw, cw, rfl, HMW, _, _⟩ := hSt.ow.o4.rd.formN
      have hml : ml ≤ k := by have := HLEN.out; have := HMLt.out; dsimp only at this; omega
      have hmw : mw ≤ k := by have := HLEN.out; have := HMW.out; dsimp only at this; omega
      have hmm : mm ≤ k := by have := HML.out; have := HMM.out; dsimp only at this; omega
      have HLe : Hid ((ints Lt).length = ml) := by rw [Hid, ints_length]; exact HMLt.out.symm
      have HLw : Hid ((ints W).length = mw) := by rw [Hid, ints_length]; exact HMW.out.symm
      have HLm : Hid ((ints Mk).length = mm) := by rw [Hid, ints_length]; exact HMM.out.symm
      obtain ⟨⟨c0, c1, c2, c3, c4⟩, cw0, fe, fw⟩ := hSt.cells
      obtain ⟨zD, hzD⟩ : ∃ z, D[k]? = some z := ⟨_, List.getElem?_eq_getElem (show k < D.length by have := hDl.out; omega)⟩
      have HZD := Lib.hid hzD
      have HG2 : Hid ((k = 0 → t - s = mk2) ∧ (0 < k → mk = g - s)) := by
        rw [Hid]
        rcases HG.out with ⟨h1, h2, h3⟩ | ⟨h1, h2⟩
        · exact ⟨fun _ => by omega, fun h => by omega⟩
        · exact ⟨fun h => by omega, fun _ => h2⟩
      have hlate0 : t < mk → 0 < k := fun hh => by
        rcases HG.out with ⟨h1, h2, h3⟩ | ⟨h1, h2⟩
        · omega
        · exact h1
      have HMK2 := Lib.hid hmk2
      have HLT0 := Lib.hid hlate0
      clear hzD hmk2 hlate0
      obtain ⟨lb, hlb⟩ : ∃ lb, decide (t < mk) = lb := ⟨_, rfl⟩
      have HLB := Lib.hid hlb
      clear hlb
      go_upto_region 8 with (fail)
      go_cut [33] (fun vb wx => vb = .bool lb ∧ wr = wx)
      case first =>
        rcases Nat.eq_zero_or_pos k with hk0 | hk0
        · have hl : lb = false := by
            rw [← HLB.out]
            exact decide_eq_false fun hh => by have := HLT0.out hh; omega
          subst hk0
          subst hl
          have d0 : decide (((0 : Nat) : Int) > 0) = false := rfl
          go_wp2_with fail
          go_meet
          exact ⟨rfl, rfl⟩
        · have hgs := HG2.out.2 hk0
          have hl : decide (t < g - s) = lb := by rw [← HLB.out, hgs]
          have HL9 := Lib.hid hl
          have i1 : (k : Int) > 0 := by omega
          have d0 : decide ((k : Int) > 0) = true := by simp; omega
          clear hgs hl
          go_wp2_with fail
          go_meet
          exact ⟨by rw [← HL9.out], rfl⟩
      case rest =>
        obtain ⟨rfl, rfl⟩ := hcut
        go_upto_if 33 with (fail)
        go_cut [7] (fun vg wx => vg = .int .i64 g ∧ ∃ (vl1 vw1 : Value) (Lt1 D1 W1 : List Int), St (K0 w) be bw wx (.slice ao mo co) vl1 (.slice am mm cm) (.slice (some bd) n n) vw1 O Lt1 Mk D1 W1 ms [] ∧ Fr (K0 w) wr wx ∧ Hid (srtS (ltK T) W1 = lq T ⟨W, O, Lt, D, Mk, ms, mk⟩ k) ∧ Hid ((lstep T s ⟨W, O, Lt, D, Mk, ms, mk⟩ k).late = Lt1 ∧ (if T.getD k 0 < mk then D.set k (-1) else D) = D1) ∧ Hid (W1.length ≤ 30 ∧ ∀ x ∈ W1, ∃ j : Nat, j < n ∧ x = j))
        case first =>
          by_cases hlate : t < mk
          · have hl : lb = true := by rw [← HLB.out]; exact decide_eq_true hlate
            subst hl
            have HLA : Hid ((lstep T s ⟨W, O, Lt, D, Mk, ms, mk⟩ k).late = Lt ++ [(k : Int)] ∧ (if T.getD k 0 < mk then D.set k (-1) else D) = D.set k (-1)) := by rw [Hid, HTKK.out]; exact ⟨(if_pos (by rw [HTKK.out]; exact hlate)), if_pos hlate⟩
            have HQ : Hid (srtS (ltK T) W = lq T ⟨W, O, Lt, D, Mk, ms, mk⟩ k) := by
              rw [Hid, lq, HTKK.out, srtS_self HI.out.asc]; exact (if_pos hlate).symm
            clear hlate
            go_upto_region 10 with (at_builtin; refine wpList_app1m rfl _ _ 23 rfl elI rfl hSt.ow.o1 (by show Value.slice (some ⟨wr.heap.size, 0, none⟩) 1 1 = _; simp) rfl (Nat.zero_le _) _ HLe.out (by omega) (by omega) ?_; intro b7 c7 w7 ho7 hg7 hat7; have hgr := hSt.grow (.tail _ (.head _)) hg7; have hc7 := box_cell hgr.1 1; have hf7 := frozen_of_row w7 be 1 _ _ hgr.1)
            have h8 := hSt.appL (O1 := Lt ++ [(k : Int)]) hKe hew HKR.out hg7 (by rw [ints_append]; exact ho7) (hat_of hat7)
            obtain ⟨v7, hv7⟩ : ∃ v, Value.slice b7 (ml + 1) c7 = v := ⟨_, rfl⟩
            rw [hv7] at h8 ⊢
            obtain ⟨w8, hw8⟩ : ∃ w8, w7.setCell ⟨be, 1, none⟩ v7 = w8 := ⟨_, rfl⟩
            rw [hw8] at h8 ⊢
            have hS8 := h8.1
            have c3' := hS8.cells.1.2.2.2.1
            have hcd := hS8.ow.o3.rd.cell_i HZD.out
            have hfd := hS8.ow.o3.frozen rfl k
            have h9 := hS8.setD (fun k hk => by have := HKR.out k hk; have := h8.2.size; omega) (show k < D.length by rw [hDl.out]; exact hlt) (-1)
            clear hv7 hw8 hg7 ho7 hat7 hgr hc7 hf7 c0 c1 c2 c3 c4
            go_wp2_with fail
            go_meet
            exact ⟨rfl, _, _, _, _, _, h9.1, h8.2.trans h9.2, HQ, HLA, ⟨by have := HLEN.out; have := HMW.out; omega, fun x hx => by obtain ⟨j, hj, e⟩ := HI.out.wlt x hx; exact ⟨j, by omega, e⟩⟩⟩
          · have hl : lb = false := by rw [← HLB.out]; exact decide_eq_false hlate
            subst hl
            have HLA : Hid ((lstep T s ⟨W, O, Lt, D, Mk, ms, mk⟩ k).late = Lt ∧ (if T.getD k 0 < mk then D.set k (-1) else D) = D) := by rw [Hid, HTKK.out]; exact ⟨(if_neg (by rw [HTKK.out]; exact hlate)), if_neg hlate⟩
            have HQ : Hid (srtS (ltK T) (W ++ [(k : Int)]) = lq T ⟨W, O, Lt, D, Mk, ms, mk⟩ k) := by
              rw [Hid, lq, HTKK.out]; exact (if_neg hlate).symm
            clear hlate
            go_wp2_with (at_builtin; refine wpList_app1m rfl _ _ 23 rfl elI rfl hSt.ow.o4 (by show Value.slice (some ⟨wr.heap.size, 0, none⟩) 1 1 = _; simp) rfl (Nat.zero_le _) _ HLw.out (by omega) (by omega) ?_; intro b7 c7 w7 ho7 hg7 hat7; have hgr := hSt.grow (.tail _ (.tail _ (.tail _ (.tail _ (.head _))))) hg7; have hc7 := box_cell hgr.2 0; have hf7 := frozen_of_row w7 bw 0 _ _ hgr.2)
            have h8 := hSt.appW (O1 := W ++ [(k : Int)]) hKw hew HKR.out hg7 (by rw [ints_append]; exact ho7) (hat_of hat7)
            go_meet
            exact ⟨rfl, _, _, _, _, _, h8.1, h8.2, HQ, HLA, ⟨by have := HLEN.out; have := HMW.out; simp; omega, fun x hx => by
              rcases List.mem_append.1 hx with hx | hx
              · obtain ⟨j, hj, e⟩ := HI.out.wlt x hx; exact ⟨j, by omega, e⟩
              · exact ⟨k, hlt, by simpa using hx⟩⟩⟩
        case rest =>
          obtain ⟨rfl, vl1, vw1, Lt1, D1, W1, hSt1, hF1, HQ, HLA, HW1⟩ := hcut
          clear hSt c0 c1 c2 c3 c4 cw0 fe fw hctr
          replace hF1 : Fr (K0 w) wA wc := hF.trans hF1
          have hctr := box_cell ((hF1.block _ (K0b w)).trans HBT.out : wc.heap[w.heap.size]? = _) 0
          go_upto_if 49 with (fail)
          go_cut [7] (fun vg wx => wc = wx ∧ ∃ g1, vg = .int .i64 g1 ∧ 0 ≤ g1 ∧ g1 ≤ 1000 ∧ Hid (max g1 t - s = mk2))
          case first =>
            rcases Nat.eq_zero_or_pos k with hk0 | hk0
            · have hx : Hid (max t t - s = mk2) := by have := HG2.out.1 hk0; rw [Hid]; omega
              subst hk0
              have d0 : (((0 : Nat) : Int) == 0) = true := rfl
              go_wp2_with fail
              go_meet
              exact ⟨rfl, t, rfl, htb.1, htb.2, hx⟩
            · have hx : Hid (max g t - s = mk2) := by have := HG2.out.2 hk0; have := HMK2.out; rw [Hid]; omega
              have d0 : ((k : Int) == 0) = false := by simp; omega
              go_wp2_with fail
              go_meet
              exact ⟨rfl, g, rfl, hg0, hg1, hx⟩
          case rest =>
            obtain ⟨rfl, g1, rfl, hg10, hg11, HX1⟩ := hcut
            go_upto_region 14 with (fail)
            go_cut [7] (fun vg wx => wc = wx ∧ ∃ g2, vg = .int .i64 g2 ∧ 0 ≤ g2 ∧ g2 ≤ 1000 ∧ Hid (g2 - s = mk2))
            case first =>
              go_wp2_with fail
              all_goals
                go_meet
                exact ⟨rfl, _, rfl, by omega, by omega, by have := HX1.out; rw [Hid]; omega⟩
            case rest =>
              obtain ⟨rfl, g2, rfl, hg20, hg21, HX2⟩ := hcut
              clear HX1 hg0 hg1
              go_upto_region 16 with (fail)
              have hmk2b : -1001 ≤ mk2 ∧ mk2 ≤ 1000 := by have := HX2.out; omega
              have hE2 := HX2.out
              obtain ⟨wM, hwM⟩ : ∃ wM, wc.alloc (.cells #[.int .i64 (g2 - s)] 3) = wM := ⟨_, rfl⟩
              have hbM : Below wc.heap.size wc wM := by rw [← hwM]; exact (Below.refl _ _).alloc (Nat.le_refl _) _
              have hmM : wM.heap[wc.heap.size]? = some (.cells #[.int .i64 mk2] 3 (0, 0)) := by rw [← hwM, hE2]; exact heap_alloc_new wc _
              have hbel := box_lt hSt1.eb
              have hbwl := box_lt hSt1.wb
              have hbms : wc.heap.size < wM.heap.size := box_lt hmM
              have hK1c : ∀ k, K0 w k → k < wc.heap.size := fun k hk => by have := HKA.out k hk; have := hF1.size; omega
              have hStM := (hSt1.mono (K' := fun k => K0 w k ∨ k = wc.heap.size) (fun k hk h => h.resolve_right (by omega))).below hbM
              have hK1e : ¬ (K0 w be ∨ be = wc.heap.size) := by rintro (h1 | h1); exact hKe h1; omega
              have hK1w : ¬ (K0 w bw ∨ bw = wc.heap.size) := by rintro (h1 | h1); exact hKw h1; omega
              have hK1M : ∀ k, (K0 w k ∨ k = wc.heap.size) → k < wM.heap.size := fun k hk => by
                rcases hk with h1 | h1
                · have := hK1c k h1; omega
                · omega
              have HFM : Fr (K0 w) wA wM := hF1.trans (Fr.below hbM hK1c)
              rw [hwM]
              obtain ⟨bm, hbm⟩ : ∃ bm, wc.heap.size = bm := ⟨_, rfl⟩
              rw [hbm] at hmM hStM hK1e hK1w hK1M ⊢
              have HK1M := Lib.hid hK1M
              have HMM0 := Lib.hid hmM
              have hcm := box_cell hmM 0
              obtain ⟨⟨c0, c1, c2, c3, c4⟩, cw0, fe, fw⟩ := hStM.cells
              clear hE2 hwM hbM hbm hbel hbwl hbms hK1c hK1M hmM hSt1 hF1 hctr
              have hctM := box_cell ((HFM.block _ (K0b w)).trans HBT.out : wM.heap[w.heap.size]? = _) 0
              go_upto_region 17 with (at_builtin; refine wpList_app1m rfl _ _ 23 rfl elI rfl hStM.ow.o2 (by show Value.slice (some ⟨wM.heap.size, 0, none⟩) 1 1 = _; simp) rfl (Nat.zero_le _) _ HLm.out (by omega) (by omega) ?_; intro b7 c7 w7 ho7 hg7 hat7; have hgr := hStM.grow (.tail _ (.tail _ (.head _))) hg7; have hc7 := box_cell hgr.1 2; have hf7 := frozen_of_row w7 be 2 _ _ hgr.1)
              have h8 := hStM.appM (O1 := Mk ++ [mk2]) hK1e hew HK1M.out hg7 (by rw [ints_append]; exact ho7) (hat_of hat7)
              obtain ⟨v7, hv7⟩ : ∃ v, Value.slice b7 (mm + 1) c7 = v := ⟨_, rfl⟩
              rw [hv7] at h8 ⊢
              obtain ⟨w8, hw8⟩ : ∃ w8, w7.setCell ⟨be, 2, none⟩ v7 = w8 := ⟨_, rfl⟩
              rw [hw8] at h8 ⊢
              have hS8 := h8.1
              have hF8 : Fr (fun k => K0 w k ∨ k = bm) wM w8 := h8.2
              have hFA8 : Fr (K0 w) wA w8 := HFM.trans (hF8.mono fun k hk => .inl hk)
              clear hv7 hw8 hg7 ho7 hat7 hgr hc7 hf7 c0 c1 c2 c3 c4 cw0 fe fw h8 hctM hcm
              have hbt8 := (hFA8.block _ (K0b w)).trans HBT.out
              have hR8 : Rd w8 (.slice (some ad) n cT) (ints T) := hFA8.rd hR HTK.out
              have HE : Hid (Calls Tryz.prog 128 #[.int .i64 (k : Int), .func (.func 132) #[] #[.pointer (some ⟨bm, 0, none⟩)], .pointer (some ⟨bw, 0, none⟩), .pointer (some ⟨w.heap.size, 0, none⟩), .pointer (some ⟨be, 0, none⟩)] w8 (RetSt (fun k => K0 w k ∨ k = bm) be bw vl1 v7 (.slice (some bd) n n) (O ++ (lq T ⟨W, O, Lt, D, Mk, ms, mk⟩ k).filter (due T mk2)) Lt1 (Mk ++ [mk2]) (setAll D1 ((lq T ⟨W, O, Lt, D, Mk, ms, mk⟩ k).filter (due T mk2)) k) ((lq T ⟨W, O, Lt, D, Mk, ms, mk⟩ k).filter fun x => !due T mk2 x) ms w8)) := by
                have hOl : O.length ≤ 60 := by have := HLEN.out; omega
                have hD1 : D1.length = n := by
                  rw [← HLA.out.2]
                  split
                  · rw [List.length_set]; exact hDl.out
                  · exact hDl.out
                have := i_emit1 (fun t => decide (t ≤ mk2)) 132 #[.pointer (some ⟨bm, 0, none⟩)] k_emit2 (fun k => K0 w k ∨ k = bm) be bw w.heap.size (.slice (some ad) n cT) T n k w8 _ _ _ _ bd n O Lt1 (Mk ++ [mk2]) D1 W1 ms hK1e hK1w hew
                  (fun k hk => by have := HK1M.out k hk; have := hF8.size; omega) (.inl (K0b w)) hbt8 hR8 (fun h k hk => .inl (HTK.out h k hk)) HN.out.symm hn hS8 HW1.out.2 HW1.out.1 hOl hD1 (by omega)
                  (fun wx t hf ht => i_emit2 t mk2 _ wx (box_cell ((hf.block bm (.inr rfl)).trans ((hF8.block bm (.inr rfl)).trans HMM0.out)) 0))
                rw [HQ.out] at this
                exact this
              clear hbt8 hR8
              go_upto_region 18 with (go_at_call 128; refine HE.out.mono ?_; rintro e w9 ⟨rfl, vo9, vw9, hS9, hF9⟩)
              have hF : Fr (K0 w) wA w9 := hFA8.trans (hF9.mono fun k hk => .inl hk)
              replace hS9 := hS9.mono (K' := K0 w) (fun k _ hk => .inl hk)
              obtain ⟨L2, hL2⟩ : ∃ L2, (lq T ⟨W, O, Lt, D, Mk, ms, mk⟩ k).filter (fun x => !due T mk2 x) = L2 := ⟨_, rfl⟩
              have HFIN : Hid (lrun T s (k + 1) = ⟨L2, O ++ (lq T ⟨W, O, Lt, D, Mk, ms, mk⟩ k).filter (due T mk2), Lt1, setAll D1 ((lq T ⟨W, O, Lt, D, Mk, ms, mk⟩ k).filter (due T mk2)) (k : Int), Mk ++ [mk2], max ms (L2.length : Int), mk2⟩) := by
                have e1 := HSTEP.out
                have e2 := HLA.out
                rw [Hid, e1]
                have e3 : lstep T s ⟨W, O, Lt, D, Mk, ms, mk⟩ k = ⟨(lq T ⟨W, O, Lt, D, Mk, ms, mk⟩ k).filter fun x => !due T (lmk T s ⟨W, O, Lt, D, Mk, ms, mk⟩ k) x, O ++ (lq T ⟨W, O, Lt, D, Mk, ms, mk⟩ k).filter (due T (lmk T s ⟨W, O, Lt, D, Mk, ms, mk⟩ k)), (lstep T s ⟨W, O, Lt, D, Mk, ms, mk⟩ k).late, setAll (if T.getD k 0 < mk then D.set k (-1) else D) ((lq T ⟨W, O, Lt, D, Mk, ms, mk⟩ k).filter (due T (lmk T s ⟨W, O, Lt, D, Mk, ms, mk⟩ k))) (k : Int), Mk ++ [lmk T s ⟨W, O, Lt, D, Mk, ms, mk⟩ k], max ms (((lq T ⟨W, O, Lt, D, Mk, ms, mk⟩ k).filter fun x => !due T (lmk T s ⟨W, O, Lt, D, Mk, ms, mk⟩ k) x).length : Int), lmk T s ⟨W, O, Lt, D, Mk, ms, mk⟩ k⟩ := rfl
                rw [e3, e2.1, e2.2, HMK.out, hL2]
              rw [hL2] at hS9
              obtain ⟨a9, m9, c9, rfl, HM9, _, _⟩ := hS9.ow.o4.rd.formN
              have HM9' : Hid (m9 = L2.length) := HM9
              obtain ⟨⟨c0, c1, c2, c3, c4⟩, cw0, fe, fw⟩ := hS9.cells
              have hcase : (ms < (m9 : Int) ∧ max ms (L2.length : Int) = m9) ∨ (¬ ms < (m9 : Int) ∧ max ms (L2.length : Int) = ms) := by have := HM9'.out; omega
              clear hL2 HE
              rcases hcase with ⟨hx, hxe⟩ | ⟨hx, hxe⟩
              · have hS10 := hS9.setMs hKe hew (m9 : Int)
                rw [hxe] at HFIN
                clear hxe
                go_wp2_with fail
                go_roundg (n - (k + 1))
                case measure => omega
                case rel => exact ⟨k + 1, _, g2, _, _, _, _, rfl, by omega, by go_num, rfl, hg20, hg21, .inr ⟨by omega, HX2.out.symm⟩, HFIN, hS10.1, hF.trans hS10.2⟩
              · have hS10 := hS9.setMs hKe hew ms
                rw [hxe] at HFIN
                clear hxe
                go_wp2_with fail
                go_roundg (n - (k + 1))
                case measure => omega
                case rel => exact ⟨k + 1, _, g2, _, _, _, _, rfl, by omega, by go_num, rfl, hg20, hg21, .inr ⟨by omega, HX2.out.symm⟩, HFIN, hS10.1, hF.trans hS10.2⟩
    · have HKN : Hid (k = T.length) := by rw [Hid]; have := HN.out; omega
      have hkn : k = n := by omega
      subst hkn
      have hRr : Rd wr (.slice aT k cT) (ints T) := hF.rd hR HTK.out
      have HDl : Hid (D.length = k) := by have := HI.out.del; rw [Hid, HKN.out]; exact this
      have HE : Hid (Calls Tryz.prog 128 #[.int .i64 ((k : Int) - 1), .func (.func 133) #[] #[], .pointer (some ⟨bw, 0, none⟩), .pointer (some ⟨w.heap.size, 0, none⟩), .pointer (some ⟨be, 0, none⟩)] wr (RetSt (K0 w) be bw vl vm (.slice (some bd) k k) (O ++ W) Lt Mk (setAll D W ((k : Int) - 1)) [] ms wr)) := by
        have := i_emit1 (fun _ => true) 133 #[] k_emit3 (K0 w) be bw w.heap.size (.slice aT k cT) T k ((k : Int) - 1) wr _ _ _ _ bd k O Lt Mk D W ms hKe hKw hew
          HKR.out (K0b w) HBR.out hRr HTK.out HKN.out.symm hn hSt HI.out.wlt (by have := HLEN.out; omega) (by have := HLEN.out; omega) HDl.out (by omega)
          (fun wx t hf ht => i_emit3 t wx)
        have e1 : (srtS (ltK T) W).filter (duo T fun _ => true) = W := by
          rw [srtS_self HI.out.asc]
          exact List.filter_eq_self.2 fun _ _ => rfl
        have e2 : ((srtS (ltK T) W).filter fun x => !duo T (fun _ => true) x) = [] := List.filter_eq_nil_iff.2 fun _ _ => by simp [duo]
        rw [e1, e2] at this
        exact this
      have HF : Hid (lateOut T s = O ++ W ∧ lateLate T s = Lt ∧ lateDel T s = setAll D W ((k : Int) - 1) ∧ lateMost T s = ms ∧ lateMarks T s = Mk) := by
        have h1 := HL.out
        rw [HKN.out] at h1
        rw [Hid, lateOut, lateLate, lateDel, lateMost, lateMarks, h1, ← HKN.out]
        exact ⟨rfl, rfl, rfl, rfl, rfl⟩
      clear hRr hlt
      go_upto_region 21 with (go_at_call 128; refine HE.out.mono ?_; rintro e w9 ⟨rfl, vo9, vw9, hS9, hF9⟩)
      obtain ⟨⟨c0, c1, c2, c3, c4⟩, cw0, fe, fw⟩ := hS9.cells
      have hbr9 : w9.heap[w.heap.size + 1]? = some (.cells #[.slice none 0 0, .slice none 0 0, .slice none 0 0, .slice none 0 0, .int .i64 0] 83 (0, 0)) := (hF9.block _ (Nat.le_refl _)).trans ((hF.block _ (Nat.le_refl _)).trans HBRES.out)
      have r0 := box_cell hbr9 0
      have r1 := box_cell hbr9 1
      have r2 := box_cell hbr9 2
      have r3 := box_cell hbr9 3
      have r4 := box_cell hbr9 4
      have rf := fun i => frozen_of_row w9 (w.heap.size + 1) i _ _ hbr9
      have HBR9 := Lib.hid hbr9
      have hew1 : be ≠ w.heap.size + 1 := fun e => hKe (by unfold K0; omega)
      have hbw1 : bw ≠ w.heap.size + 1 := fun e => hKw (by unfold K0; omega)
      clear hbr9
      obtain ⟨ao, mo, co, rfl, HMO, _, _⟩ := hS9.ow.o0.rd.formN
      obtain ⟨al, ml, cl, rfl, HMLt, _, _⟩ := hS9.ow.o1.rd.formN
      obtain ⟨am, mm, cm, rfl, HMM, _, _⟩ := hS9.ow.o2.rd.formN
      go_wp2_with fail
      have e1 := heap_setCell_same w9 (w.heap.size + 1) 0 _ _ (.slice ao mo co) HBR9.out
      have e2 := heap_setCell_same _ (w.heap.size + 1) 1 _ _ (.slice al ml cl) e1
      have e3 := heap_setCell_same _ (w.heap.size + 1) 2 _ _ (.slice am mm cm) e2
      have e4 := heap_setCell_same _ (w.heap.size + 1) 3 _ _ (.slice (some bd) k k) e3
      have e5 := heap_setCell_same _ (w.heap.size + 1) 4 _ _ (.int .i64 ms) e4
      have ow5 := (((((StK0 (K := K0 w) hS9).setBox (off := 0) HBR9.out (by decide) (.slice ao mo co)).setBox (off := 1) e1 (by decide) (.slice al ml cl)).setBox (off := 2) e2 (by decide) (.slice am mm cm)).setBox (off := 3) e3 (by decide) (.slice (some bd) k k)).setBox (off := 4) e4 (by decide) (.int .i64 ms)
      have hb9 : Below w.heap.size w w9 := hbB.trans ((hF.trans hF9).to_below fun k hk => by unfold K0; omega)
      have hb5 := ((((hb9.setCell (p := ⟨w.heap.size + 1, 0, none⟩) (by simp) (.slice ao mo co)).setCell (p := ⟨w.heap.size + 1, 1, none⟩) (by simp) (.slice al ml cl)).setCell (p := ⟨w.heap.size + 1, 2, none⟩) (by simp) (.slice am mm cm)).setCell (p := ⟨w.heap.size + 1, 3, none⟩) (by simp) (.slice (some bd) k k)).setCell (p := ⟨w.heap.size + 1, 4, none⟩) (by simp) (.int .i64 ms)
      obtain ⟨wz, hwz⟩ : ∃ wz, ((((w9.setCell ⟨w.heap.size + 1, 0, none⟩ (.slice ao mo co)).setCell ⟨w.heap.size + 1, 1, none⟩ (.slice al ml cl)).setCell ⟨w.heap.size + 1, 2, none⟩ (.slice am mm cm)).setCell ⟨w.heap.size + 1, 3, none⟩ (.slice (some bd) k k)).setCell ⟨w.heap.size + 1, 4, none⟩ (.int .i64 ms) = wz := ⟨_, rfl⟩
      rw [hwz] at e5 ow5 hb5 ⊢
      have q0 := box_cell e5 0
      have q1 := box_cell e5 1
      have q2 := box_cell e5 2
      have q3 := box_cell e5 3
      have q4 := box_cell e5 4
      have hq : ∀ i : Nat, i < 5 → (((((#[Value.slice none 0 0, .slice none 0 0, .slice none 0 0, .slice none 0 0, .int .i64 0] : Array Value).setIfInBounds 0 (.slice ao mo co)).setIfInBounds 1 (.slice al ml cl)).setIfInBounds 2 (.slice am mm cm)).setIfInBounds 3 (.slice (some bd) k k)).setIfInBounds 4 (.int .i64 ms) = #[.slice ao mo co, .slice al ml cl, .slice am mm cm, .slice (some bd) k k, .int .i64 ms] := fun _ _ => rfl
      rw [hq 0 (by omega)] at q0 q1 q2 q3 q4
      refine bodyPost_ret (v := .agg #[.slice ao mo co, .slice al ml cl, .slice am mm cm, .slice (some bd) k k, .int .i64 ms]) (by simp [results, Tryz.results78, go_sem, q0, q1, q2, q3, q4]) rfl ⟨_, _, _, _, by rw [HF.out.2.2.2.1], ?_, hb5⟩
      rw [HF.out.1, HF.out.2.1, HF.out.2.2.1, HF.out.2.2.2.2]
      exact ow5

end Go.Proofs.YtggblfnajeikjaaGreatDoor

namespace Go.Proofs.YtggblfnajeikjaaGreatDoor
open Go.RowKit
set_option linter.unusedVariables false
set_option linter.unusedSimpArgs false

/-- Two slices of numbers that the call owns, in different blocks. -/
def RetOwn11 (E : Nat) (xs ys : List Value) (w : World) (e : Ending) (w' : World) : Prop :=
  ∃ v0 v1, e = .returned (.tuple #[v0, v1]) ∧ Own w' E w.heap.size v0 xs ∧ Own w' E w.heap.size v1 ys ∧ (∀ k, v0.ownBlock = some k → v1.ownBlock ≠ some k) ∧ Below w.heap.size w w'

def tB (t : Int) : Bool := decide (0 ≤ t) && decide (t ≤ 1000)
theorem timesOk_eq (T : List Int) : timesOk T = (decide (T.length ≤ 30) && T.all tB) := rfl
theorem k_TimesOk1 : Known 186 := known Tryz.func186 (by kernel_rfl) (by kernel_rfl)
theorem i_TimesOk1 (x : Int) (w : World) : Calls Tryz.prog 186 #[.int .i64 x] w fun e w' => e = .returned (.bool (!tB x)) ∧ w = w' := by
  by_cases h1 : x < 0
  · have H : Hid (tB x = false) := by rw [Hid, tB]; simp; omega
    go_enter Tryz.func186, Tryz.ntmps186
    go_wp2
    go_ret
    exact ⟨ret_bool (by rw [H.out]; rfl), rfl⟩
  · by_cases h2 : x > 1000
    · have H : Hid (tB x = false) := by rw [Hid, tB]; simp; omega
      go_enter Tryz.func186, Tryz.ntmps186
      go_wp2
      go_ret
      exact ⟨ret_bool (by rw [H.out]; simp <;> omega), rfl⟩
    · have H : Hid (tB x = true) := by rw [Hid, tB]; simp; omega
      go_enter Tryz.func186, Tryz.ntmps186
      go_wp2
      go_ret
      exact ⟨ret_bool (by rw [H.out]; simp <;> omega), rfl⟩
set_option maxHeartbeats 400000 in
theorem i_TimesOk (v : Value) (xs : List Int) (w : World) (h : Rd w v (ints xs)) :
    Calls Tryz.prog 127 #[v] w fun e w' => e = .returned (.bool (timesOk xs)) ∧ w = w' := by
  obtain ⟨a, c, rfl, h2, h3⟩ := h.formi
  have HF := f_ContainsFunc (fun x => !tB x) 186 #[] k_TimesOk1 _ xs w h (fun x _ => by simpa using i_TimesOk1 x w)
  have HR : Hid (timesOk xs = (decide (xs.length ≤ 30) && !(xs.any fun x => !tB x))) := by
    show _ = _
    rw [List.not_any_eq_all_not, timesOk_eq]
    simp
  generalize (xs.any fun x => !tB x) = r at *
  by_cases h16 : xs.length ≤ 30
  · have hd : decide ((xs.length : Int) ≤ 30) = true := by simp; omega
    go_enter Tryz.func127, Tryz.ntmps127
    go_wp2_with (go_at_call 119; refine HF.mono ?_; rintro e w' ⟨rfl, rfl⟩)
    go_ret
    exact ⟨ret_bool (by rw [HR.out]; simp [h16]), rfl⟩
  · have hd : decide ((xs.length : Int) ≤ 30) = false := by simp; omega
    go_enter Tryz.func127, Tryz.ntmps127
    go_wp2
    go_ret
    exact ⟨ret_bool (by rw [HR.out]; simp [h16]), rfl⟩
theorem i_isLate (v : Value) (xs : List Int) (s : Int) (w : World) (h : Rd w v (ints xs)) :
    Calls Tryz.prog 77 #[v, .int .i64 s] w fun e w' => e = .returned (.bool (lateOkB xs s)) ∧ w = w' := by
  have HT := i_TimesOk v xs w h
  obtain ⟨a, c, rfl, h2, h3⟩ := h.formi
  have HR : Hid (lateOkB xs s = (timesOk xs && (decide (0 ≤ s) && decide (s ≤ 1000)))) := rfl
  cases ht : timesOk xs
  · rw [ht] at HT HR
    clear ht
    go_enter Tryz.func77, Tryz.ntmps77
    go_wp2_with (go_at_call 127; refine HT.mono ?_; rintro e w' ⟨rfl, rfl⟩)
    go_ret
    exact ⟨ret_bool (by rw [HR.out]; rfl), rfl⟩
  · rw [ht] at HT HR
    clear ht
    by_cases h1 : 0 ≤ s
    · have d1 : decide (s ≥ 0) = true := by simpa using h1
      go_enter Tryz.func77, Tryz.ntmps77
      go_wp2_with (go_at_call 127; refine HT.mono ?_; rintro e w' ⟨rfl, rfl⟩)
      go_ret
      exact ⟨ret_bool (by rw [HR.out]; simp [h1] <;> omega), rfl⟩
    · have d1 : decide (s ≥ 0) = false := by simpa using h1
      go_enter Tryz.func77, Tryz.ntmps77
      go_wp2_with (go_at_call 127; refine HT.mono ?_; rintro e w' ⟨rfl, rfl⟩)
      go_ret
      exact ⟨ret_bool (by rw [HR.out]; simp [h1] <;> omega), rfl⟩
def emitO (T : List Int) (s : Int) : List Int := if lateOkB T s then lateOut T s else []
def emitL (T : List Int) (s : Int) : List Int := if lateOkB T s then lateLate T s else []
theorem late_lens {T : List Int} {s : Int} (h : lateOkB T s = true) : (lateOut T s).length ≤ 30 ∧ (lateLate T s).length ≤ 30 ∧ (lateDel T s).length = T.length ∧ (lateMarks T s).length = T.length := by
  obtain ⟨⟨h1, h2⟩, h3⟩ := lateOkB_iff.1 h
  have H := lrun_inv h2 h3 T.length (Nat.le_refl _)
  have := H.len
  refine ⟨?_, ?_, ?_, ?_⟩
  · rw [lateOut, List.length_append]; omega
  · rw [lateLate]; omega
  · rw [lateDel, setAll_length]; exact H.del
  · exact H.marks
set_option maxRecDepth 100000 in
set_option maxHeartbeats 1000000 in
theorem I_EmitOrder (w : World) (v : Value) (xs : List Int) (h : Rd w v (ints xs)) (_ : I64s xs) (_ : xs.length ≤ 1048576) (s : Int) (_ : I64 s) : Calls Tryz.prog 25 #[v, .int .i64 s] w (RetOwn11 3 (ints (emitO xs s)) (ints (emitL xs s)) w) := by
  have HO := i_isLate v xs s w h
  cases hok : lateOkB xs s
  · rw [hok] at HO
    have HR0 : Hid (emitO xs s = []) := by rw [Hid, emitO, hok]; rfl
    have HR1 : Hid (emitL xs s = []) := by rw [Hid, emitL, hok]; rfl
    have HOK := Lib.hid HO
    clear HO hok
    obtain ⟨a, c, rfl, h2, h3⟩ := h.formi
    go_enter Tryz.func25, Tryz.ntmps25
    go_wp2_with (go_at_call 77; refine HOK.out.mono ?_; rintro e w' ⟨rfl, rfl⟩)
    go_ret2
    exact ⟨_, _, rfl, by rw [HR0.out]; exact Own.nil _ _ _, by rw [HR1.out]; exact Own.nil _ _ _, (fun k h => by cases h), Below.refl _ _⟩
  · rw [hok] at HO
    have HR0 : Hid (emitO xs s = lateOut xs s) := by rw [Hid, emitO, hok]; rfl
    have HR1 : Hid (emitL xs s = lateLate xs s) := by rw [Hid, emitL, hok]; rfl
    obtain ⟨⟨ha, hb⟩, hc⟩ := lateOkB_iff.1 hok
    have HE := Lib.hid (i_emit v xs s w h ha hb hc)
    have HOK := Lib.hid HO
    clear HO hok ha hb hc
    obtain ⟨a, c, rfl, h2, h3⟩ := h.formi
    go_enter Tryz.func25, Tryz.ntmps25
    go_wp2_with (first | (go_at_call 77; refine HOK.out.mono ?_; rintro e w' ⟨rfl, rfl⟩) | (go_at_call 78; refine HE.out.mono ?_; rintro e w2 ⟨vo, vl, vm, vd, rfl, hO, hb⟩; obtain ⟨ao, no, co, rfl, _, _, _⟩ := hO.o0.rd.formN; obtain ⟨al, nl, cl, rfl, _, _, _⟩ := hO.o1.rd.formN; obtain ⟨am, nm, cm, rfl, _, _, _⟩ := hO.o2.rd.formN; obtain ⟨ad, nd, cd, rfl, _, _, _⟩ := hO.o3.rd.formN))
    go_quiet (fail)
    go_wp2_with fail
    go_ret2
    have hb3 := hb.alloc hb.size (.cells #[.slice ao no co, .slice al nl cl, .slice am nm cm, .slice ad nd cd, .int .i64 (lateMost xs s)] 83)
    exact ⟨_, _, rfl, by rw [HR0.out]; exact (hO.o0.alloc _).drewN _, by rw [HR1.out]; exact (hO.o1.alloc _).drewN _, (List.pairwise_cons.1 hO.ap).1 _ (.head _), ⟨hb3.os, hb3.tape, hb3.output, hb3.size, hb3.block⟩⟩

end Go.Proofs.YtggblfnajeikjaaGreatDoor

namespace Go.Proofs.YtggblfnajeikjaaGreatDoor
set_option linter.unusedVariables false
set_option linter.unusedSimpArgs false

theorem insK_perm (key : Int → Int) (s : List Int) (x : Int) : (insK key s x).Perm (x :: s) := by
  induction s with
  | nil => exact List.Perm.refl _
  | cons y t ih =>
    simp only [insK]
    split
    · exact (List.Perm.cons y ih).trans (List.Perm.swap x y t)
    · exact List.Perm.refl _
theorem sortK_perm (key : Int → Int) (xs : List Int) : ∀ s : List Int, (xs.foldl (insK key) s).Perm (xs ++ s) := by
  induction xs with
  | nil => intro s; exact List.Perm.refl _
  | cons x t ih =>
    intro s
    rw [List.foldl_cons]
    refine (ih _).trans ?_
    refine ((insK_perm key s x).append_left t).trans ?_
    exact List.perm_middle
theorem srtS_perm (key : Int → Int) (xs : List Int) : (srtS key xs).Perm xs := by
  have := sortK_perm key xs []
  rw [List.append_nil] at this
  exact (List.reverse_perm _).trans this
theorem setAll_get (q : List Int) (at_ : Int) : ∀ (d : List Int) (i : Nat), i < d.length → (∀ x ∈ q, 0 ≤ x) → (setAll d q at_)[i]? = if (i : Int) ∈ q then some (at_ - (i : Int)) else d[i]? := by
  induction q with
  | nil => intro d i _ _; simp [setAll]
  | cons x t ih =>
    intro d i hi hx
    have h0 := hx x (by simp)
    have := ih (d.set x.toNat (at_ - x)) i (by simpa using hi) (fun y hy => hx y (by simp [hy]))
    rw [setAll] at this
    rw [setAll, List.foldl_cons, this]
    by_cases h1 : (i : Int) ∈ t
    · simp [h1]
    · by_cases h2 : (i : Int) = x
      · subst h2
        simp [h1, hi]
      · have h3 : x.toNat ≠ i := by omega
        simp [h1, h2, List.getElem?_set, h3]
section
variable {T : List Int} {s : Int}
def mkf (T : List Int) (s : Int) (k : Nat) : Int := (lrun T s k).mark
def Lex (T : List Int) (a b : Int) : Prop := ltK T a < ltK T b ∨ (ltK T a = ltK T b ∧ a < b)
theorem mkf_succ (k : Nat) : mkf T s (k + 1) = max (mkf T s k) (T.getD k 0 - s) := rfl
theorem mkf_mono {i j : Nat} (h : i ≤ j) : mkf T s i ≤ mkf T s j := by
  induction h with
  | refl => exact Int.le_refl _
  | step _ ih => rw [mkf_succ]; omega
theorem lex_of {key : Int → Int} {ys : List Int} (h : KAsc key ys) (hf : ∀ v, (ys.filter fun x => decide (key x = v)).Pairwise (· < ·)) : ys.Pairwise fun a b => key a < key b ∨ (key a = key b ∧ a < b) := by
  rw [List.pairwise_iff_forall_sublist]
  intro a b hs
  have h1 : key a ≤ key b := List.pairwise_iff_forall_sublist.1 h hs
  by_cases e : key a = key b
  · refine .inr ⟨e, ?_⟩
    have h2 := hs.filter (fun x => decide (key x = key b))
    have h3 : [a, b].filter (fun x => decide (key x = key b)) = [a, b] := by simp [e]
    rw [h3] at h2
    exact List.pairwise_iff_forall_sublist.1 (hf _) h2
  · exact .inl (by omega)
theorem lex_filter {key : Int → Int} {ys : List Int} (h : ys.Pairwise fun a b => key a < key b ∨ (key a = key b ∧ a < b)) (v : Int) : (ys.filter fun x => decide (key x = v)).Pairwise (· < ·) := by
  refine List.Pairwise.imp_of_mem ?_ (h.sublist List.filter_sublist)
  intro a b ha hb hab
  have h1 := of_decide_eq_true (List.mem_filter.1 ha).2
  have h2 := of_decide_eq_true (List.mem_filter.1 hb).2
  rcases hab with hab | hab
  · omega
  · exact hab.2
/-- The stable sort of an ordered list and one more that is greater than all its records. -/
theorem lex_srt {key : Int → Int} {W : List Int} {k : Int} (h : W.Pairwise fun a b => key a < key b ∨ (key a = key b ∧ a < b)) (hk : ∀ x ∈ W, x < k) : (srtS key (W ++ [k])).Pairwise fun a b => key a < key b ∨ (key a = key b ∧ a < b) := by
  refine lex_of (srtS_asc _) fun v => ?_
  rw [srtS_stab (W ++ [k]) v, List.filter_append]
  refine List.pairwise_append.2 ⟨lex_filter h v, ?_, fun a ha b hb => ?_⟩
  · by_cases e : key k = v
    · simp [e]
    · simp [e]
  · have h1 := List.mem_singleton.1 (List.mem_filter.1 hb).1
    subst h1
    exact hk a (List.mem_filter.1 ha).1
structure LF (T : List Int) (s : Int) (k : Nat) (L : LS) : Prop where
  perm : ((L.out ++ L.w) ++ L.late).Perm (stairs k)
  outS : L.out.Pairwise (Lex T)
  wS : L.w.Pairwise (Lex T)
  outLe : ∀ x ∈ L.out, ltK T x ≤ L.mark
  wGt : ∀ x ∈ L.w, L.mark < ltK T x
  marks : ∀ j, j < k → L.marks[j]? = some (mkf T s (j + 1))
  outD : ∀ x ∈ L.out, ∃ i p : Nat, x = i ∧ i ≤ p ∧ p < k ∧ L.del[i]? = some ((p : Int) - (i : Int)) ∧ ltK T x ≤ mkf T s (p + 1) ∧ (p = i ∨ mkf T s p < ltK T x)
  lateD : ∀ x ∈ L.late, ∃ i : Nat, x = i ∧ i < k ∧ L.del[i]? = some (-1) ∧ ltK T x < mkf T s i
  none : L.late = [] ↔ ∀ i, i < k → mkf T s i ≤ T.getD i 0
theorem LF.start : LF T s 0 (lS0 T.length) where
  perm := by simp [lS0, stairs]
  outS := List.Pairwise.nil
  wS := List.Pairwise.nil
  outLe := fun x h => by simp [lS0] at h
  wGt := fun x h => by simp [lS0] at h
  marks := fun j h => by omega
  outD := fun x h => by simp [lS0] at h
  lateD := fun x h => by simp [lS0] at h
  none := ⟨fun _ i h => by omega, fun _ => rfl⟩
theorem split_perm (p : Int → Bool) (Q : List Int) : (Q.filter p ++ Q.filter fun x => !p x).Perm Q := List.filter_append_perm p Q
theorem LF.step {k : Nat} {L : LS} (hk : k < T.length) (hm : L.mark = mkf T s k) (H : LInv T s k L) (F : LF T s k L) (hm1 : lmk T s L k = mkf T s (k + 1)) : LF T s (k + 1) (lstep T s L k) := by
  have hmono : mkf T s k ≤ mkf T s (k + 1) := mkf_mono (by omega)
  have hnd : ((L.out ++ L.w) ++ L.late).Nodup := F.perm.nodup_iff.2 ((stairs_sorted k).imp (by intro a b h; omega))
  obtain ⟨n1, n2, n3⟩ := List.nodup_append.1 hnd
  obtain ⟨n4, n5, n6⟩ := List.nodup_append.1 n1
  obtain ⟨Q, hQ⟩ : ∃ Q, lq T L k = Q := ⟨_, rfl⟩
  obtain ⟨D2, hD2⟩ : ∃ D2, (if T.getD k 0 < L.mark then L.del.set k (-1) else L.del) = D2 := ⟨_, rfl⟩
  obtain ⟨Lt2, hLt2⟩ : ∃ Lt2, (if T.getD k 0 < L.mark then L.late ++ [(k : Int)] else L.late) = Lt2 := ⟨_, rfl⟩
  obtain ⟨m2, hm2⟩ : ∃ m2, lmk T s L k = m2 := ⟨_, rfl⟩
  have hst : lstep T s L k = ⟨Q.filter fun x => !due T m2 x, L.out ++ Q.filter (due T m2), Lt2, setAll D2 (Q.filter (due T m2)) (k : Int), L.marks ++ [m2], max L.most ((Q.filter fun x => !due T m2 x).length : Int), m2⟩ := by
    rw [← hQ, ← hD2, ← hLt2, ← hm2]; rfl
  rw [hm2] at hm1
  have hltk : ltK T (k : Int) = T.getD k 0 := by simp [ltK]
  have hD2l : D2.length = T.length := by
    rw [← hD2]
    split
    · rw [List.length_set]; exact H.del
    · exact H.del
  -- what the waiting ones are
  have hQm : ∀ x ∈ Q, x ∈ L.w ∨ (x = k ∧ ¬ T.getD k 0 < L.mark) := fun x hx => by
    rw [← hQ, lq] at hx
    split at hx
    · exact .inl hx
    · rename_i hn
      rw [srtS_mem, List.mem_append, List.mem_singleton] at hx
      exact hx.imp id fun e => ⟨e, hn⟩
  have hQp : (Q ++ Lt2).Perm (L.w ++ (L.late ++ [(k : Int)])) := by
    rw [← hQ, ← hLt2, lq]
    split
    · exact List.Perm.refl _
    · refine ((srtS_perm _ _).append_right _).trans ?_
      rw [List.append_assoc]
      exact List.Perm.append_left _ List.perm_append_comm
  have hQs : Q.Pairwise (Lex T) := by
    rw [← hQ, lq]
    split
    · exact F.wS
    · exact lex_srt F.wS fun x hx => by
        obtain ⟨j, h1, h2⟩ := H.wlt x hx
        omega
  have hQ0 : ∀ x ∈ Q, 0 ≤ x := fun x hx => by
    rcases hQm x hx with h | h
    · obtain ⟨j, _, h2⟩ := H.wlt x h
      omega
    · omega
  have hQk : ∀ x ∈ Q, x ≤ (k : Int) := fun x hx => by
    rcases hQm x hx with h | h
    · obtain ⟨j, _, h2⟩ := H.wlt x h
      omega
    · omega
  have hget : ∀ i, i < T.length → (setAll D2 (Q.filter (due T m2)) (k : Int))[i]? = if (i : Int) ∈ Q.filter (due T m2) then some ((k : Int) - (i : Int)) else D2[i]? := fun i hi => setAll_get _ _ _ i (by omega) fun x hx => hQ0 x (List.mem_filter.1 hx).1
  have hD2get : ∀ i, i ≠ k → D2[i]? = L.del[i]? := fun i hi => by
    rw [← hD2]
    split
    · rw [List.getElem?_set_ne (by omega)]
    · rfl
  -- a record of before that doesn't wait isn't among those that go
  have hold : ∀ i : Nat, i < k → ¬ (i : Int) ∈ L.w → (setAll D2 (Q.filter (due T m2)) (k : Int))[i]? = L.del[i]? := fun i hi hw => by
    rw [hget i (by omega), if_neg, hD2get i (by omega)]
    intro hc
    rcases hQm _ (List.mem_filter.1 hc).1 with h | h
    · exact hw h
    · omega
  rw [hst]
  refine ⟨?_, ?_, hQs.sublist List.filter_sublist, fun x hx => ?_, fun x hx => ?_, fun j hj => ?_, fun x hx => ?_, fun x hx => ?_, ?_⟩
  · dsimp only
    rw [stairs_succ]
    have h1 : (L.out ++ Q.filter (due T m2) ++ (Q.filter fun x => !due T m2 x) ++ Lt2).Perm (L.out ++ (Q ++ Lt2)) := by
      rw [List.append_assoc, List.append_assoc]
      refine List.Perm.append_left _ ?_
      rw [← List.append_assoc]
      exact (split_perm _ _).append_right _
    refine h1.trans ((List.Perm.append_left _ hQp).trans ?_)
    have h2 : L.out ++ (L.w ++ (L.late ++ [(k : Int)])) = ((L.out ++ L.w) ++ L.late) ++ [(k : Int)] := by simp
    rw [h2]
    exact F.perm.append_right _
  · dsimp only
    refine List.pairwise_append.2 ⟨F.outS, hQs.sublist List.filter_sublist, fun a ha b hb => ?_⟩
    have h1 := F.outLe a ha
    rcases hQm b (List.mem_filter.1 hb).1 with h | ⟨h, h3⟩
    · exact .inl (by have := F.wGt b h; omega)
    · subst h
      obtain ⟨j, h4, h5⟩ := H.olt a ha
      by_cases e : ltK T a = ltK T (k : Int)
      · exact .inr ⟨e, by omega⟩
      · exact .inl (by omega)
  · rcases List.mem_append.1 hx with h | h
    · have := F.outLe x h
      dsimp only
      omega
    · exact of_decide_eq_true (List.mem_filter.1 h).2
  · have h := (List.mem_filter.1 hx).2
    have h2 : ¬ ltK T x ≤ m2 := fun h3 => by rw [due, decide_eq_true h3] at h; cases h
    dsimp only
    omega
  · dsimp only
    have hl := H.marks
    by_cases e : j < k
    · rw [List.getElem?_append_left (by omega)]
      exact F.marks j e
    · obtain rfl : j = k := by omega
      rw [List.getElem?_append_right (by omega), hl, hm1]
      simp
  · dsimp only at hx ⊢
    rcases List.mem_append.1 hx with h | h
    · obtain ⟨i, p, rfl, h2, h3, h4, h5, h6⟩ := F.outD x h
      refine ⟨i, p, rfl, h2, by omega, ?_, h5, h6⟩
      rw [hold i (by omega) (fun hw => n6 _ h _ hw rfl)]
      exact h4
    · have hxq := (List.mem_filter.1 h).1
      have hxd := of_decide_eq_true (List.mem_filter.1 h).2
      obtain ⟨i, rfl⟩ := Int.eq_ofNat_of_zero_le (hQ0 x hxq)
      have hik := hQk _ hxq
      refine ⟨i, k, rfl, by omega, by omega, ?_, by rw [← hm1]; exact hxd, ?_⟩
      · rw [hget i (by omega), if_pos h]
      · rcases hQm _ hxq with h7 | h7
        · exact .inr (by have := F.wGt _ h7; omega)
        · exact .inl (by omega)
  · dsimp only at hx ⊢
    rw [← hLt2] at hx
    have hb : x ∈ L.late ∨ (x = k ∧ T.getD k 0 < L.mark) := by
      split at hx
      · rename_i hl
        exact (List.mem_append.1 hx).imp id fun h => ⟨List.mem_singleton.1 h, hl⟩
      · exact .inl hx
    rcases hb with h | ⟨rfl, h⟩
    · obtain ⟨i, rfl, h2, h3, h4⟩ := F.lateD x h
      refine ⟨i, rfl, by omega, ?_, h4⟩
      rw [hold i h2 (fun hw => n3 _ (List.mem_append_right _ hw) _ h rfl)]
      exact h3
    · refine ⟨k, rfl, by omega, ?_, by rw [hltk]; omega⟩
      rw [hget k hk, if_neg, ← hD2, if_pos h, List.getElem?_set_self (by have := H.del; omega)]
      intro hc
      rcases hQm _ (List.mem_filter.1 hc).1 with h7 | h7
      · obtain ⟨j, h8, h9⟩ := H.wlt _ h7
        omega
      · exact h7.2 h
  · dsimp only
    rw [← hLt2]
    split
    · rename_i hl
      constructor
      · intro h; simp at h
      · intro h; have := h k (by omega); omega
    · rename_i hl
      rw [F.none]
      constructor
      · intro h i hi
        by_cases e : i < k
        · exact h i e
        · obtain rfl : i = k := by omega
          omega
      · intro h i hi; exact h i (by omega)
theorem lrun_facts (hT : ∀ t ∈ T, 0 ≤ t ∧ t ≤ 1000) (hs : 0 ≤ s ∧ s ≤ 1000) : ∀ k, k ≤ T.length → LF T s k (lrun T s k)
  | 0, _ => LF.start
  | k + 1, h => (lrun_facts hT hs k (by omega)).step (by omega) rfl (lrun_inv hT hs k (by omega)) rfl
/-- The greatest time so far, and the slack that is needed. -/
def hiK (T : List Int) : Nat → Int
  | 0 => 0
  | k + 1 => max (hiK T k) (T.getD k 0)
def slackK (T : List Int) : Nat → Int
  | 0 => 0
  | k + 1 => max (slackK T k) (hiK T (k + 1) - T.getD k 0)
theorem mkf_hi (hT : ∀ t ∈ T, 0 ≤ t ∧ t ≤ 1000) (hs : 0 ≤ s ∧ s ≤ 1000) : ∀ k, k < T.length → mkf T s (k + 1) = hiK T (k + 1) - s
  | 0, h => by
    have : 0 ≤ T.getD 0 0 := by rw [List.getD_eq_getElem?_getD, List.getElem?_eq_getElem h]; exact (hT _ (List.getElem_mem _)).1
    rw [mkf_succ, hiK, hiK]
    have e : mkf T s 0 = -1001 := rfl
    rw [e]
    omega
  | k + 1, h => by
    have e : hiK T (k + 1 + 1) = max (hiK T (k + 1)) (T.getD (k + 1) 0) := rfl
    rw [mkf_succ, mkf_hi hT hs k (by omega), e]
    omega
theorem slack_iff (hT : ∀ t ∈ T, 0 ≤ t ∧ t ≤ 1000) (hs : 0 ≤ s ∧ s ≤ 1000) : ∀ k, k ≤ T.length → ((∀ i, i < k → mkf T s i ≤ T.getD i 0) ↔ slackK T k ≤ s)
  | 0, _ => ⟨fun _ => by rw [slackK]; omega, fun _ i h => by omega⟩
  | k + 1, h => by
    have ih := slack_iff hT hs k (by omega)
    have h0 : 0 ≤ T.getD k 0 := by rw [List.getD_eq_getElem?_getD, List.getElem?_eq_getElem (by omega)]; exact (hT _ (List.getElem_mem _)).1
    have hstep : mkf T s k ≤ T.getD k 0 ↔ hiK T (k + 1) - T.getD k 0 ≤ s := by
      cases k with
      | zero =>
        have e : mkf T s 0 = -1001 := rfl
        rw [e, hiK, hiK]
        omega
      | succ j =>
        have e : hiK T (j + 1 + 1) = max (hiK T (j + 1)) (T.getD (j + 1) 0) := rfl
        rw [mkf_hi hT hs j (by omega), e]
        omega
    rw [slackK]
    constructor
    · intro H
      have h1 := ih.1 fun i hi => H i (by omega)
      have h2 := hstep.1 (H k (by omega))
      omega
    · intro H i hi
      by_cases e : i < k
      · exact ih.2 (by omega) i e
      · obtain rfl : i = k := by omega
        exact hstep.2 (by omega)
/-- The facts that the law asks for. -/
structure LateFacts (T : List Int) (s : Int) : Prop where
  len : (lateOut T s).length + (lateLate T s).length = T.length
  dlen : (lateDel T s).length = T.length
  mlen : (lateMarks T s).length = T.length
  rise : adjB (lateMarks T s) = true
  most0 : 0 ≤ lateMost T s ∧ lateMost T s ≤ (T.length : Int)
  perm : srt (lateOut T s ++ lateLate T s) = stairs T.length
  order : ∀ (k : Nat) x y, (lateOut T s)[k]? = some x → (lateOut T s)[k + 1]? = some y → Lex T x y
  each : ∀ x ∈ lateOut T s, ∃ i p : Nat, x = i ∧ i ≤ p ∧ p < T.length ∧ (lateDel T s)[i]? = some ((p : Int) - (i : Int)) ∧ (p + 1 = T.length ∨ ∃ m, (lateMarks T s)[p]? = some m ∧ T.getD i 0 ≤ m) ∧ (p = i ∨ ∃ m, (lateMarks T s)[p - 1]? = some m ∧ m < T.getD i 0)
  late : ∀ x ∈ lateLate T s, ∃ i : Nat, x = i ∧ 1 ≤ i ∧ i < T.length ∧ (lateDel T s)[i]? = some (-1) ∧ ∃ m, (lateMarks T s)[i - 1]? = some m ∧ T.getD i 0 < m
  zero : lateLate T s = [] ↔ slackK T T.length ≤ s
theorem late_facts (hT : ∀ t ∈ T, 0 ≤ t ∧ t ≤ 1000) (hs : 0 ≤ s ∧ s ≤ 1000) : LateFacts T s := by
  have F := lrun_facts hT hs T.length (Nat.le_refl _)
  have H := lrun_inv hT hs T.length (Nat.le_refl _)
  obtain ⟨L, hL⟩ : ∃ L, lrun T s T.length = L := ⟨_, rfl⟩
  have hmk : L.mark = mkf T s T.length := by rw [← hL]; rfl
  rw [hL] at F H
  have hnd : ((L.out ++ L.w) ++ L.late).Nodup := F.perm.nodup_iff.2 ((stairs_sorted T.length).imp (by intro a b h; omega))
  obtain ⟨n1, n2, n3⟩ := List.nodup_append.1 hnd
  obtain ⟨n4, n5, n6⟩ := List.nodup_append.1 n1
  have hw0 : ∀ x ∈ L.w, 0 ≤ x := fun x hx => by
    obtain ⟨j, _, h2⟩ := H.wlt x hx
    omega
  have hget : ∀ i, i < T.length → (setAll L.del L.w ((T.length : Int) - 1))[i]? = if (i : Int) ∈ L.w then some ((T.length : Int) - 1 - (i : Int)) else L.del[i]? := fun i hi => setAll_get _ _ _ i (by rw [H.del]; exact hi) hw0
  have hlt : ∀ i : Nat, ltK T (i : Int) = T.getD i 0 := fun i => by simp [ltK]
  have hO : (lateOut T s).Pairwise (Lex T) := by
    rw [lateOut, hL]
    exact List.pairwise_append.2 ⟨F.outS, F.wS, fun a ha b hb => .inl (by have := F.outLe a ha; have := F.wGt b hb; omega)⟩
  refine ⟨?_, ?_, by rw [lateMarks, hL]; exact H.marks, ?_, by rw [lateMost, hL]; exact H.most0, ?_, fun k x y hx hy => ?_, fun x hx => ?_, fun x hx => ?_, ?_⟩
  · rw [lateOut, lateLate, hL, List.length_append]
    have := H.len
    omega
  · rw [lateDel, hL, setAll_length]; exact H.del
  · refine adjB_iff.2 fun m a b ha hb => ?_
    rw [lateMarks, hL] at ha hb
    have h1 := (List.getElem?_eq_some_iff.1 hb).1
    have h2 := H.marks
    rw [F.marks m (by omega)] at ha
    rw [F.marks (m + 1) (by omega)] at hb
    cases ha
    cases hb
    exact mkf_mono (by omega)
  · rw [lateOut, lateLate, hL]
    exact (srt_unique F.perm.symm ((stairs_sorted T.length).imp (by intro a b h; omega))).symm
  · have h1 := (List.getElem?_eq_some_iff.1 hx)
    have h2 := (List.getElem?_eq_some_iff.1 hy)
    obtain ⟨h1, rfl⟩ := h1
    obtain ⟨h2, rfl⟩ := h2
    exact List.pairwise_iff_getElem.1 hO k (k + 1) h1 h2 (by omega)
  · rw [lateOut, hL] at hx
    rw [lateDel, lateMarks, hL]
    rcases List.mem_append.1 hx with h | h
    · obtain ⟨i, p, rfl, h2, h3, h4, h5, h6⟩ := F.outD x h
      rw [hlt] at h5 h6
      refine ⟨i, p, rfl, h2, h3, ?_, .inr ⟨_, F.marks p h3, h5⟩, ?_⟩
      · rw [hget i (by omega), if_neg (fun hw => n6 _ h _ hw rfl)]
        exact h4
      · rcases h6 with h6 | h6
        · exact .inl h6
        · by_cases e : p = i
          · exact .inl e
          · refine .inr ⟨_, F.marks (p - 1) (by omega), ?_⟩
            rw [show p - 1 + 1 = p by omega]
            exact h6
    · obtain ⟨i, hi, rfl⟩ := H.wlt x h
      have h7 := F.wGt _ h
      rw [hlt] at h7
      refine ⟨i, T.length - 1, rfl, by omega, by omega, ?_, .inl (by omega), ?_⟩
      · rw [hget i hi, if_pos h]
        congr 1
        omega
      · by_cases e : T.length - 1 = i
        · exact .inl e
        · refine .inr ⟨_, F.marks (T.length - 1 - 1) (by omega), ?_⟩
          have := mkf_mono (T := T) (s := s) (show T.length - 1 - 1 + 1 ≤ T.length by omega)
          omega
  · rw [lateLate, hL] at hx
    rw [lateDel, lateMarks, hL]
    obtain ⟨i, rfl, h2, h3, h4⟩ := F.lateD x hx
    rw [hlt] at h4
    have h0 : 0 ≤ T.getD i 0 := by rw [List.getD_eq_getElem?_getD, List.getElem?_eq_getElem h2]; exact (hT _ (List.getElem_mem _)).1
    have h1 : 1 ≤ i := by
      cases i with
      | zero => have e : mkf T s 0 = -1001 := rfl; omega
      | succ i => omega
    refine ⟨i, rfl, h1, h2, ?_, _, F.marks (i - 1) (by omega), ?_⟩
    · rw [hget i h2, if_neg (fun hw => n3 _ (List.mem_append_right _ hw) _ hx rfl)]
      exact h3
    · rw [show i - 1 + 1 = i by omega]
      exact h4
  · rw [lateLate, hL, F.none]
    exact slack_iff hT hs _ (Nat.le_refl _)
end

end Go.Proofs.YtggblfnajeikjaaGreatDoor

namespace Go.Proofs.YtggblfnajeikjaaGreatDoor
open Go.RowKit
set_option linter.unusedVariables false
set_option linter.unusedSimpArgs false

def noneB : List UInt8 := [110, 111, 110, 101]
def lateLine (T : List Int) (s : Int) : List UInt8 := if lateOkB T s then numsB (lateOut T s) ++ [32] ++ numsB (lateLate T s) else noneB
theorem late_I64 {T : List Int} {s : Int} (h : lateOkB T s = true) : I64s (lateOut T s) ∧ I64s (lateLate T s) := by
  obtain ⟨⟨ha, hb⟩, hc⟩ := lateOkB_iff.1 h
  obtain ⟨f1, f2, f3, f4, f5, f6, f7, f8, f9, f10⟩ := late_facts (T := T) (s := s) hb hc
  refine ⟨fun x hx => ?_, fun x hx => ?_⟩
  · obtain ⟨i, p, rfl, hip, hp, _⟩ := f8 x hx
    unfold I64
    omega
  · obtain ⟨i, rfl, _, hin, _⟩ := f9 x hx
    unfold I64
    omega

set_option maxRecDepth 100000 in
set_option maxHeartbeats 1000000 in
theorem I_LateLine (w : World) (v : Value) (xs : List Int) (h : Rd w v (ints xs)) (fx : I64s xs) (lx : xs.length ≤ 1048576) (s : Int) (hs : I64 s) (ht : Tab w) : Calls Tryz.prog 33 #[v, .int .i64 s] w (RetB (.string (bstr (lateLine xs s))) w) := by
  have HO := i_isLate v xs s w h
  cases hok : lateOkB xs s
  · rw [hok] at HO
    have HR0 : Hid (lateLine xs s = noneB) := by rw [Hid, lateLine, hok]; rfl
    have HOK := Lib.hid HO
    clear HO hok
    obtain ⟨a, c, rfl, h2, h3⟩ := h.formi
    go_enter Tryz.func33, Tryz.ntmps33
    go_wp2_with (go_at_call 77; refine HOK.out.mono ?_; rintro e w' ⟨rfl, rfl⟩)
    go_ret
    exact ⟨by rw [HR0.out]; rfl, Below.refl _ _⟩
  · rw [hok] at HO
    have HR0 : Hid (lateLine xs s = numsB (lateOut xs s) ++ [32] ++ numsB (lateLate xs s)) := by rw [Hid, lateLine, hok]; rfl
    obtain ⟨⟨ha, hb⟩, hc⟩ := lateOkB_iff.1 hok
    have HE := Lib.hid (i_emit v xs s w h ha hb hc)
    obtain ⟨l0, l1, _⟩ := late_lens hok
    obtain ⟨i0, i1⟩ := late_I64 hok
    have z0 := numsB_le i0 l0
    have z1 := numsB_le i1 l1
    have HL := Lib.hid (fun W => i_line2 (numsB (lateOut xs s)) (numsB (lateLate xs s)) (by omega) (by omega) W)
    have GF0 := Lib.hid (fun (W : World) (hW : Tab W) (u : Value) (hu : Rd W u (ints (lateOut xs s))) => i_numbers W u _ hu i0 (by omega) hW)
    have GF1 := Lib.hid (fun (W : World) (hW : Tab W) (u : Value) (hu : Rd W u (ints (lateLate xs s))) => i_numbers W u _ hu i1 (by omega) hW)
    have HOK := Lib.hid HO
    clear HO hok l0 l1 i0 i1 z0 z1 ha hb hc
    obtain ⟨a, c, rfl, h2, h3⟩ := h.formi
    go_enter Tryz.func33, Tryz.ntmps33
    go_upto_region 4 with (first
      | (go_at_call 77; refine HOK.out.mono ?_; rintro e w' ⟨rfl, rfl⟩)
      | (go_at_call 78; refine HE.out.mono ?_; rintro e w2 ⟨vo, vl, vm, vd, rfl, hO, hb⟩; obtain ⟨ao, no, co, rfl, _, _, _⟩ := hO.o0.rd.formN; obtain ⟨al, nl, cl, rfl, _, _, _⟩ := hO.o1.rd.formN; obtain ⟨am, nm, cm, rfl, _, _, _⟩ := hO.o2.rd.formN; obtain ⟨ad, nd, cd, rfl, _, _, _⟩ := hO.o3.rd.formN))
    have ro := hO.o0.rd
    have rl := hO.o1.rd
    obtain ⟨wB, hwB⟩ : ∃ wB, w2.alloc (.cells #[.slice ao no co, .slice al nl cl, .slice am nm cm, .slice ad nd cd, .int .i64 (lateMost xs s)] 83) = wB := ⟨_, rfl⟩
    have hbB : Below w2.heap.size w2 wB := by rw [← hwB]; exact (Below.refl _ _).alloc (Nat.le_refl _) _
    have c0 : wB.cell? ⟨w2.heap.size, 0, none⟩ = some (.slice ao no co) := by rw [← hwB]; exact (cell_of_row _ _ 0 _ _ (0, 0) (heap_alloc_new w2 _)).trans rfl
    have c1 : wB.cell? ⟨w2.heap.size, 1, none⟩ = some (.slice al nl cl) := by rw [← hwB]; exact (cell_of_row _ _ 1 _ _ (0, 0) (heap_alloc_new w2 _)).trans rfl
    rw [hwB]
    clear hwB
    have bt := hb.trans (hbB.mono hb.size)
    replace ro := ro.below hbB
    replace rl := rl.below hbB
    have tB := ht.below bt
    have HT : Hid (∀ wx : World, Below wB.heap.size wB wx → Below wB.heap.size wB wx ∧ wx.cell? ⟨w2.heap.size, 0, none⟩ = some (.slice ao no co) ∧ wx.cell? ⟨w2.heap.size, 1, none⟩ = some (.slice al nl cl)) := fun wx hb => ⟨hb, (hb.cell (World.block_lt_of_cell? _ _ c0)).trans c0, (hb.cell (World.block_lt_of_cell? _ _ c1)).trans c1⟩
    have K0 : Hid (∀ W : World, Below wB.heap.size wB W → Calls Tryz.prog 46 #[.slice ao no co] W fun e w' => e = .returned (.string (bstr (numsB (lateOut xs s)))) ∧ Below wB.heap.size wB w') := fun W hW => (GF0.out W (tB.below hW) _ (ro.below hW)).mono fun e w' h => ⟨h.1, hW.trans (h.2.mono hW.size)⟩
    have K1 : Hid (∀ W : World, Below wB.heap.size wB W → Calls Tryz.prog 46 #[.slice al nl cl] W fun e w' => e = .returned (.string (bstr (numsB (lateLate xs s)))) ∧ Below wB.heap.size wB w') := fun W hW => (GF1.out W (tB.below hW) _ (rl.below hW)).mono fun e w' h => ⟨h.1, hW.trans (h.2.mono hW.size)⟩
    have K2 : Hid (∀ W : World, Below wB.heap.size wB W → Calls Tryz.prog 61 #[.slice (some ⟨W.heap.size, 0, none⟩) 2 2] (W.alloc (.cells #[.string (bstr (numsB (lateOut xs s))), .string (bstr (numsB (lateLate xs s)))] 9)) fun e w' => e = .returned (.string (bstr (numsB (lateOut xs s) ++ [32] ++ numsB (lateLate xs s)))) ∧ Below wB.heap.size wB w') := fun W hW => (HL.out W).mono fun e w' h => ⟨h.1, hW.trans (h.2.mono hW.size)⟩
    have BT := Lib.hid bt
    clear hO hb GF0 GF1 HL HE HOK c0 c1 hbB ro rl tB bt
    go_region_held3 (fun wx => Below wB.heap.size wB wx ∧ wx.cell? ⟨w2.heap.size, 0, none⟩ = some (.slice ao no co) ∧ wx.cell? ⟨w2.heap.size, 1, none⟩ = some (.slice al nl cl))
        (first | exact HT.out _ g4 | exact HT.out _ g3 | exact HT.out _ (g4.alloc g4.size _) | exact HT.out _ (g3.alloc g3.size _) | exact HT.out _ g5 | exact HT.out _ (by exact ⟨rfl, rfl, rfl, Nat.le_refl _, fun _ _ => rfl⟩) | go_keep)
        (first
          | (go_at_call 46; (with_reducible refine (K0.out _ (by exact (show _ ∧ _ ∧ _ from by assumption).1)).mono ?_); rintro e w3 ⟨rfl, g3⟩)
          | (go_at_call 46; (with_reducible refine (K1.out _ (by exact (show _ ∧ _ ∧ _ from by assumption).1)).mono ?_); rintro e w4 ⟨rfl, g4⟩)
          | (go_at_call 61; (refine (K2.out w4 g4).mono ?_); rintro e w5 ⟨rfl, g5⟩)
          | (go_at_call 61; (refine (K2.out w3 g3).mono ?_); rintro e w5 ⟨rfl, g5⟩))
    all_goals
      go_wp2_with fail
      go_ret
      exact ⟨by rw [HR0.out, List.append_assoc]; rfl, BT.out.trans (Below.mono ⟨g5.os, g5.tape, g5.output, g5.size, g5.block⟩ BT.out.size)⟩

end Go.Proofs.YtggblfnajeikjaaGreatDoor

namespace Go.Proofs.YtggblfnajeikjaaGreatDoor
open Go.RowKit
set_option linter.unusedVariables false
set_option linter.unusedSimpArgs false

theorem getD_eq {T : List Int} {k : Nat} {t : Int} (h : T[k]? = some t) : T.getD k 0 = t := by rw [List.getD_eq_getElem?_getD, h]; rfl
theorem tri_hit {xs : List Int} {i j k : Nat} {x y z : Int} (hij : i < j) (hjk : j < k) (hx : xs[i]? = some x) (hy : xs[j]? = some y) (hz : xs[k]? = some z) (h1 : z < x) (h2 : x < y) : canB xs = false :=
  canB_no (i := i) (j := j) (k := k) ⟨hij, hjk, (List.getElem?_eq_some_iff.1 hz).1, by rw [getD_eq hx, getD_eq hz]; exact h1, by rw [getD_eq hx, getD_eq hy]; exact h2⟩
theorem tri_miss {xs : List Int} {i j k : Nat} {x y z : Int} (hx : xs[i]? = some x) (hy : xs[j]? = some y) (hz : xs[k]? = some z) (h : ¬ (z < x ∧ x < y)) : ¬ Tri xs i j k := by
  rintro ⟨_, _, _, h4, h5⟩
  rw [getD_eq hx, getD_eq hz] at h4
  rw [getD_eq hx, getD_eq hy] at h5
  exact h ⟨h4, h5⟩

set_option maxHeartbeats 1000000 in
theorem i_canStackSort (v : Value) (xs : List Int) (w : World) (hR : Rd w v (ints xs)) (hl : xs.length ≤ 1000) :
    Calls Tryz.prog 134 #[v] w (RetB (.bool (canB xs)) w) := by
  obtain ⟨a, n, c, rfl, HN, hnc, hc⟩ := hR.formN
  rw [← HN.out] at hl
  go_enter Tryz.func134, Tryz.ntmps134
  go_wp2
  go_loopg [10] n (fun g iv wr => ∃ i : Nat, g = n - i ∧ i ≤ n ∧ iv = .int .i64 i ∧ w = wr ∧ Hid (∀ i' j k, i' < i → ¬ Tri xs i' j k))
  case atStart => exact ⟨0, rfl, Nat.zero_le _, rfl, rfl, fun _ _ _ h => absurd h (Nat.not_lt_zero _)⟩
  case round =>
    obtain ⟨i, hg, hi, rfl, rfl, HI⟩ := hrel
    by_cases hlt : i < n
    · obtain ⟨ad, x, rfl, hcx, hx⟩ := hR.int (k := i) (by have := HN.out; omega)
      have i1 : (i : Int) < (n : Int) := by omega
      go_wp2
      go_loopg [5] (n - (i + 1)) (fun g jv wr => ∃ j : Nat, g = n - j ∧ i + 1 ≤ j ∧ j ≤ n ∧ jv = .int .i64 j ∧ w = wr ∧ Hid (∀ j' k, j' < j → ¬ Tri xs i j' k))
      case atStart => exact ⟨i + 1, rfl, Nat.le_refl _, by omega, by go_num, rfl, fun j' k h h2 => by have := h2.1; omega⟩
      case round =>
        obtain ⟨j, hgj, hij, hj, rfl, rfl, HJ⟩ := hrel
        by_cases hltj : j < n
        · obtain ⟨ad2, y, had2, hcy, hy⟩ := hR.int (k := j) (by have := HN.out; omega)
          obtain rfl : ad = ad2 := by injection had2
          clear had2
          have j1 : (j : Int) < (n : Int) := by omega
          have j2 : (j : Int) + 1 ≤ (n : Int) := by omega
          have j3 : (j : Int) + 1 ≤ (c : Int) := by omega
          have j5 : ((j : Int) + 1).toNat = j + 1 := by omega
          have hrC : Rd w (.slice (if c = j + 1 then some ad else some (ad.add (j + 1))) (n - (j + 1)) (c - (j + 1))) (ints (xs.drop (j + 1))) := by rw [← ints_drop]; exact hR.cut (show j + 1 ≤ n by omega)
          obtain ⟨m, hm⟩ : ∃ m, n - (j + 1) = m := ⟨_, rfl⟩
          obtain ⟨cC, hcC⟩ : ∃ cC, c - (j + 1) = cC := ⟨_, rfl⟩
          rw [hm, hcC] at hrC
          have hrC1 : c = j + 1 → Rd w (.slice (some ad) m cC) (ints (xs.drop (j + 1))) := fun e => by rw [if_pos e] at hrC; exact hrC
          have hrC2 : ¬ c = j + 1 → Rd w (.slice (some ⟨ad.block, ad.off + (j + 1), none⟩) m cC) (ints (xs.drop (j + 1))) := fun e => by rw [if_neg e, add_succ] at hrC; exact hrC
          clear hrC
          go_wp2
          all_goals first
            | (have hrC := hrC1 (by assumption); rw [← h]; clear h)
            | (have hrC := hrC2 (by assumption); clear h)
          all_goals (
          go_loopg [28] m (fun g qv wr => ∃ q : Nat, g = m - q ∧ q ≤ m ∧ qv = .int .i64 q ∧ w = wr ∧ Hid (∀ k, k < j + 1 + q → ¬ Tri xs i j k))
          case atStart => exact ⟨0, rfl, Nat.zero_le _, rfl, rfl, fun k hk h2 => by have := h2.2.1; omega⟩
          case round =>
            obtain ⟨q, hgq, hq, rfl, rfl, HQ⟩ := hrel
            by_cases hltq : q < m
            · obtain ⟨adC, z, had3, hcz, hz⟩ := hrC.int (k := q) (by rw [List.length_drop, ← HN.out]; omega)
              have hz' : xs[j + 1 + q]? = some z := by have := hz.out; rw [List.getElem?_drop] at this; exact this
              have q1 : (q : Int) < (m : Int) := by omega
              obtain rfl := Option.some.inj had3
              clear had3
              try rw [Addr.add_lit] at hcz
              by_cases h1 : z < x
              · by_cases h2 : x < y
                · have HR : Hid (canB xs = false) := tri_hit (by omega) (by omega) hx.out hy.out hz' h1 h2
                  clear hz'
                  go_wp2
                  go_ret
                  exact ⟨ret_bool HR.out.symm, Below.refl _ _⟩
                · have HM : Hid (∀ k, k < j + 1 + (q + 1) → ¬ Tri xs i j k) := fun k hk => by
                    by_cases e : k = j + 1 + q
                    · subst e; exact tri_miss hx.out hy.out hz' (fun hh => h2 hh.2)
                    · exact HQ.out k (by omega)
                  clear hz'
                  go_wp2
                  go_roundg (m - (q + 1))
                  case measure => omega
                  case rel => exact ⟨q + 1, rfl, by omega, by go_num, rfl, HM⟩
              · have HM : Hid (∀ k, k < j + 1 + (q + 1) → ¬ Tri xs i j k) := fun k hk => by
                  by_cases e : k = j + 1 + q
                  · subst e; exact tri_miss hx.out hy.out hz' (fun hh => h1 hh.1)
                  · exact HQ.out k (by omega)
                clear hz'
                go_wp2
                go_roundg (m - (q + 1))
                case measure => omega
                case rel => exact ⟨q + 1, rfl, by omega, by go_num, rfl, HM⟩
            · have HM : Hid (∀ j' k, j' < j + 1 → ¬ Tri xs i j' k) := fun j' k hj' h2 => by
                by_cases e : j' = j
                · subst e
                  have := h2.2.2.1
                  exact HQ.out k (by have := HN.out; omega) h2
                · exact HJ.out j' k (by omega) h2
              go_wp2
              go_roundg (n - (j + 1))
              case measure => omega
              case rel => exact ⟨j + 1, rfl, by omega, by omega, by go_num, rfl, HM⟩)
        · have HM : Hid (∀ i' j k, i' < i + 1 → ¬ Tri xs i' j k) := fun i' j' k hi' h2 => by
            by_cases e : i' = i
            · subst e
              have := h2.2.1
              have := h2.2.2.1
              exact HJ.out j' k (by have := HN.out; omega) h2
            · exact HI.out i' j' k (by omega) h2
          go_wp2
          go_roundg (n - (i + 1))
          case measure => omega
          case rel => exact ⟨i + 1, rfl, by omega, by go_num, rfl, HM⟩
    · have HR : Hid (canB xs = true) := canB_yes fun i' j k h2 => by
        have h3 := h2.1
        have h4 := h2.2.1
        have h5 := h2.2.2.1
        exact HI.out i' j k (by have := HN.out; omega) h2
      go_wp2
      go_ret
      exact ⟨ret_bool HR.out.symm, Below.refl _ _⟩

theorem I_CanStackSort (v : Value) (xs : List Int) (w : World) (h : Rd w v (ints xs)) : Calls Tryz.prog 79 #[v] w (RetB (.bool (shortB xs && canB xs)) w) := by
  have HS := i_isShortOrder v xs w h
  obtain ⟨a, n, c, rfl, HN, hnc, hc⟩ := h.formN
  cases hs : shortB xs
  · rw [hs] at HS
    have HK := Lib.hid HS
    clear HS hs
    go_enter Tryz.func79, Tryz.ntmps79
    go_wp2_with (go_at_call 81; refine HK.out.mono ?_; rintro e w' ⟨rfl, hb⟩)
    go_ret
    exact ⟨rfl, hb⟩
  · have h8 := (shortB_iff.1 hs).1
    rw [hs] at HS
    have HK := Lib.hid HS
    have HC := Lib.hid (fun w (h : Rd w _ (ints xs)) => i_canStackSort (.slice a n c) xs w h (by omega))
    generalize canB xs = cb at *
    clear HS hs
    go_enter Tryz.func79, Tryz.ntmps79
    go_wp2_with (first | (go_at_call 81; refine HK.out.mono ?_; rintro e w' ⟨rfl, hb⟩) | (go_at_call 134; refine (HC.out _ (h.below hb)).mono ?_; rintro e w2 ⟨rfl, hb2⟩))
    go_ret
    exact ⟨rfl, hb.trans (hb2.mono hb.size)⟩

end Go.Proofs.YtggblfnajeikjaaGreatDoor

namespace Go.Proofs.YtggblfnajeikjaaGreatDoor
open Go.RowKit
set_option linter.unusedVariables false
set_option linter.unusedSimpArgs false

theorem popA_stop {x a : Int} (h : ¬ a < x) (o r : List Int) (w : List UInt8) : popA x o (a :: r) w = (o, a :: r, w) := by rw [popA, if_neg h]
theorem popA_go {x a : Int} (h : a < x) (o r : List Int) (w : List UInt8) : popA x o (a :: r) w = popA x (o ++ [a]) r (w ++ [116]) := by rw [popA, if_pos h]
theorem stk_of {xs : List Int} {k : Nat} {x : Int} {O R O2 R2 : List Int} {W W2 : List UInt8} (hx : xs[k]? = some x) (h : stkR xs k = (O, R, W)) (hp : popA x O2 R2 W2 = popA x O R W) (hs : popA x O2 R2 W2 = (O2, R2, W2)) :
    stkR xs (k + 1) = (O2, x :: R2, W2 ++ [112]) := by
  rw [stkR_succ hx, h, stk1, ← hp, hs]
theorem rev_top (a : Int) (r : List Int) : (a :: r).reverse[r.length]? = some a := by
  rw [List.reverse_cons, List.getElem?_append_right (by simp)]
  simp
end Go.Proofs.YtggblfnajeikjaaGreatDoor

namespace Go.Proofs.YtggblfnajeikjaaGreatDoor
open Go.RowKit
set_option linter.unusedVariables false
set_option linter.unusedSimpArgs false

def RetWord (u : List UInt8) (b : Bool) (w : World) (e : Ending) (w' : World) : Prop := e = .returned (.tuple #[.string (bstr u), .bool b]) ∧ Below w.heap.size w w'
def wordOf (xs : List Int) : List UInt8 := if shortB xs && canB xs then stkW xs else []
theorem bstr_snoc {A : ByteArray} {W : List UInt8} (h : A = bstr W) (x : UInt8) : A ++ (⟨#[x]⟩ : ByteArray) = bstr (W ++ [x]) := by
  rw [h]
  exact bstr_app W [x]
theorem stkR_bd {xs : List Int} {k : Nat} {O R : List Int} {W : List UInt8} (hk : k ≤ xs.length) (h : stkR xs k = (O, R, W)) : O.length + R.length = k ∧ W.length = k + O.length := by
  have := stkR_len xs k hk
  rw [h] at this
  exact this
/-- The last is taken off a slice that is owned. -/
theorem own_pop {w : World} {E B n c ρ : Nat} {a : Option Addr} {x : Int} {r : List Int} (h : Own w E B (.slice a n c) (ints (x :: r).reverse)) (hn : ρ ≤ n) (hr : ρ = r.length) : Own w E B (.slice a ρ c) (ints r.reverse) := by
  have ho := h.take hn
  rw [ints_take, List.reverse_cons, List.take_append_of_le_length (by simp; omega), List.take_of_length_le (by simp; omega)] at ho
  exact ho

end Go.Proofs.YtggblfnajeikjaaGreatDoor

namespace Go.Proofs.YtggblfnajeikjaaGreatDoor
open Go.RowKit
set_option linter.unusedVariables false
set_option linter.unusedSimpArgs false

/-- The closure's three boxes: what went out, the stack (its top last), the word; two slices that are owned. -/
structure SS (B bo bs bw : Nat) (w : World) (vo vs : Value) (O R : List Int) (A : ByteArray) : Prop where
  ob : w.heap[bo]? = some (.cells #[vo] 23 (0, 0))
  sb : w.heap[bs]? = some (.cells #[vs] 23 (0, 0))
  wb : w.heap[bw]? = some (.cells #[.string A] 9 (0, 0))
  ow : OwnsL w 3 B [(vo, O), (vs, R.reverse)]
  h0 : B ≤ bo
  h1 : bo < bs
  h2 : bs < bw
section
variable {B bo bs bw : Nat} {w w' w0 : World} {vo vs v1 : Value} {O R O1 R1 : List Int} {A A1 : ByteArray}
theorem SS.below (h : SS B bo bs bw w vo vs O R A) (hb : Below w.heap.size w w') : SS B bo bs bw w' vo vs O R A :=
  ⟨(hb.block bo (box_lt h.ob)).trans h.ob, (hb.block bs (box_lt h.sb)).trans h.sb, (hb.block bw (box_lt h.wb)).trans h.wb, h.ow.below hb, h.h0, h.h1, h.h2⟩
theorem SS.grow {p : Value × List Int} (h : SS B bo bs bw w vo vs O R A) (hp : p ∈ [(vo, O), (vs, R.reverse)]) (hg : w.grownBy w' p.1.ownBlock) :
    w'.heap[bo]? = some (.cells #[vo] 23 (0, 0)) ∧ w'.heap[bs]? = some (.cells #[vs] 23 (0, 0)) ∧ w'.heap[bw]? = some (.cells #[.string A] 9 (0, 0)) :=
  ⟨(hg.block bo (box_lt h.ob) fun e => own_ne_box (h.ow.own p hp) h.ob (by decide) e.symm).trans h.ob, (hg.block bs (box_lt h.sb) fun e => own_ne_box (h.ow.own p hp) h.sb (by decide) e.symm).trans h.sb,
    (hg.block bw (box_lt h.wb) fun e => own_ne_box (h.ow.own p hp) h.wb (by decide) e.symm).trans h.wb⟩
theorem SS.outs (h : SS B bo bs bw w vo vs O R A) (hg : w.grownBy w' vo.ownBlock) (ho : Own w' 3 B v1 (ints O1)) (hat : ∀ g, v1.ownBlock = some g → vo.ownBlock = some g ∨ w.heap.size ≤ g) :
    SS B bo bs bw (w'.setCell ⟨bo, 0, none⟩ v1) v1 vs O1 R A := by
  obtain ⟨e1, e2, e3⟩ := h.grow (p := (vo, O)) (by simp) hg
  have := h.h1
  have := h.h2
  exact ⟨heap_setCell_same w' bo 0 _ _ v1 e1, (heap_setCell_other w' _ bs v1 (by show bs ≠ bo; omega)).trans e2, (heap_setCell_other w' _ bw v1 (by show bw ≠ bo; omega)).trans e3, (h.ow.t0 hg ho hat).setBox e1 (by decide) _, h.h0, h.h1, h.h2⟩
theorem SS.push (h : SS B bo bs bw w vo vs O R A) (hg : w.grownBy w' vs.ownBlock) (ho : Own w' 3 B v1 (ints R1.reverse)) (hat : ∀ g, v1.ownBlock = some g → vs.ownBlock = some g ∨ w.heap.size ≤ g) :
    SS B bo bs bw (w'.setCell ⟨bs, 0, none⟩ v1) vo v1 O R1 A := by
  obtain ⟨e1, e2, e3⟩ := h.grow (p := (vs, R.reverse)) (by simp) hg
  have := h.h1
  have := h.h2
  exact ⟨(heap_setCell_other w' _ bo v1 (by show bo ≠ bs; omega)).trans e1, heap_setCell_same w' bs 0 _ _ v1 e2, (heap_setCell_other w' _ bw v1 (by show bw ≠ bs; omega)).trans e3, (h.ow.t1 hg ho hat).setBox e2 (by decide) _, h.h0, h.h1, h.h2⟩
theorem SS.word (h : SS B bo bs bw w vo vs O R A) (A1 : ByteArray) : SS B bo bs bw (w.setCell ⟨bw, 0, none⟩ (.string A1)) vo vs O R A1 := by
  have := h.h1
  have := h.h2
  exact ⟨(heap_setCell_other w _ bo _ (by show bo ≠ bw; omega)).trans h.ob, (heap_setCell_other w _ bs _ (by show bs ≠ bw; omega)).trans h.sb, heap_setCell_same w bw 0 _ _ _ h.wb, h.ow.setBox h.wb (by decide) _, h.h0, h.h1, h.h2⟩
theorem SS.cells (h : SS B bo bs bw w vo vs O R A) : w.cell? ⟨bo, 0, none⟩ = some vo ∧ w.cell? ⟨bs, 0, none⟩ = some vs ∧ w.cell? ⟨bw, 0, none⟩ = some (.string A) ∧
    (∀ i, w.frozen? ⟨bo, i, none⟩ = false) ∧ (∀ i, w.frozen? ⟨bs, i, none⟩ = false) ∧ (∀ i, w.frozen? ⟨bw, i, none⟩ = false) :=
  ⟨box_cell h.ob 0, box_cell h.sb 0, box_cell h.wb 0, fun i => frozen_of_row w bo i _ _ h.ob, fun i => frozen_of_row w bs i _ _ h.sb, fun i => frozen_of_row w bw i _ _ h.wb⟩
end

theorem SS_init (w : World) :
    SS w.heap.size (w.heap.size + 1 + 1) (w.heap.size + 1 + 1 + 1) (w.heap.size + 1 + 1 + 1 + 1)
      (((((w.alloc (.cells #[] 3)).alloc (.cells #[] 3)).alloc (.cells #[.slice (some ⟨w.heap.size, 0, none⟩) 0 0] 23)).alloc (.cells #[.slice (some ⟨w.heap.size + 1, 0, none⟩) 0 0] 23)).alloc (.cells #[.string ⟨#[]⟩] 9))
      (.slice (some ⟨w.heap.size, 0, none⟩) 0 0) (.slice (some ⟨w.heap.size + 1, 0, none⟩) 0 0) [] [] ⟨#[]⟩ ∧
    Below w.heap.size w (((((w.alloc (.cells #[] 3)).alloc (.cells #[] 3)).alloc (.cells #[.slice (some ⟨w.heap.size, 0, none⟩) 0 0] 23)).alloc (.cells #[.slice (some ⟨w.heap.size + 1, 0, none⟩) 0 0] 23)).alloc (.cells #[.string ⟨#[]⟩] 9)) := by
  have hA1 := (OwnsL.nil w 3 w.heap.size).snoc ((Below.refl _ _).alloc (Nat.le_refl _) (.cells #[] 3)) (Nat.le_refl _) (Own.lit0 w 3 (Nat.le_refl _))
  have hA2 := hA1.snoc ((Below.refl _ _).alloc (Nat.le_refl _) (.cells #[] 3)) (by simp) (Own.lit0 _ 3 (Nat.le_refl _))
  have hb2 : Below w.heap.size w ((w.alloc (.cells #[] 3)).alloc (.cells #[] 3)) := ((Below.refl _ _).alloc (Nat.le_refl _) _).alloc (by simp) _
  have hs2 : ((w.alloc (.cells #[] 3)).alloc (.cells #[] 3)).heap.size = w.heap.size + 1 + 1 := by simp
  have hO2 : OwnsL ((w.alloc (.cells #[] 3)).alloc (.cells #[] 3)) 3 w.heap.size [(.slice (some ⟨w.heap.size, 0, none⟩) 0 0, []), (.slice (some ⟨w.heap.size + 1, 0, none⟩) 0 0, ([] : List Int).reverse)] := by simpa using hA2
  clear hA1 hA2
  generalize ((w.alloc (.cells #[] 3)).alloc (.cells #[] 3)) = w2 at *
  generalize Value.slice (some ⟨w.heap.size, 0, none⟩) 0 0 = v1 at *
  generalize Value.slice (some ⟨w.heap.size + 1, 0, none⟩) 0 0 = v2 at *
  have r2 := heap_alloc_new w2 (.cells #[v1] 23)
  have hs3 : (w2.alloc (.cells #[v1] 23)).heap.size = w.heap.size + 1 + 1 + 1 := by simp [hs2]
  rw [hs2] at r2
  have hb3 := hb2.alloc hb2.size (.cells #[v1] 23)
  have hO3 := hO2.below ((Below.refl _ _).alloc (Nat.le_refl _) (.cells #[v1] 23))
  generalize w2.alloc (.cells #[v1] 23) = w3 at *
  have r3 := heap_alloc_new w3 (.cells #[v2] 23)
  have q2 := (Below.heap_alloc w3 (.cells #[v2] 23) (w.heap.size + 1 + 1) (by omega)).trans r2
  have hs4 : (w3.alloc (.cells #[v2] 23)).heap.size = w.heap.size + 1 + 1 + 1 + 1 := by simp [hs3]
  rw [hs3] at r3
  have hb4 := hb3.alloc hb3.size (.cells #[v2] 23)
  have hO4 := hO3.below ((Below.refl _ _).alloc (Nat.le_refl _) (.cells #[v2] 23))
  generalize w3.alloc (.cells #[v2] 23) = w4 at *
  have r4 := heap_alloc_new w4 (.cells #[.string ⟨#[]⟩] 9)
  have q3 := (Below.heap_alloc w4 (.cells #[.string ⟨#[]⟩] 9) (w.heap.size + 1 + 1) (by omega)).trans q2
  have p3 := (Below.heap_alloc w4 (.cells #[.string ⟨#[]⟩] 9) (w.heap.size + 1 + 1 + 1) (by omega)).trans r3
  rw [hs4] at r4
  exact ⟨⟨q3, p3, r4, hO4.below ((Below.refl _ _).alloc (Nat.le_refl _) (.cells #[.string ⟨#[]⟩] 9)), by omega, by omega, by omega⟩, hb4.alloc hb4.size _⟩

def RetTake (B bo bs bw : Nat) (O R : List Int) (A : ByteArray) (w0 : World) (e : Ending) (w' : World) : Prop :=
  e = .returned (.tuple #[]) ∧ ∃ vo vs, SS B bo bs bw w' vo vs O R A ∧ Below B w0 w'
set_option maxRecDepth 100000 in
set_option maxHeartbeats 4000000 in
theorem i_take (w0 w : World) (B bo bs bw : Nat) (vo vs : Value) (O r : List Int) (y : Int) (A : ByteArray) (h : SS B bo bs bw w vo vs O (y :: r) A) (hb : Below B w0 w) (hB : B ≤ w0.heap.size) (hO : O.length ≤ 8) (hr : r.length ≤ 8) (hA : A.size ≤ 20) :
    Calls Tryz.prog 135 #[.pointer (some ⟨bo, 0, none⟩), .pointer (some ⟨bs, 0, none⟩), .pointer (some ⟨bw, 0, none⟩)] w (RetTake B bo bs bw (O ++ [y]) r (A ++ (⟨#[116]⟩ : ByteArray)) w0) := by
  obtain ⟨ao, mo, co, rfl, HMO, _, _⟩ := h.ow.o0.rd.formN
  obtain ⟨aS, ms, cs, rfl, HMS, hmcs, _⟩ := h.ow.o1.rd.formN
  obtain ⟨ρ, hρ⟩ : ∃ ρ, r.length = ρ := ⟨_, rfl⟩
  have hmsρ : ms = ρ + 1 := by have := HMS.out; simp at this; omega
  subst hmsρ
  have hmo : mo ≤ 8 := by have := HMO.out; dsimp only at this; omega
  have HLo : Hid ((ints O).length = mo) := by rw [Hid, ints_length]; exact HMO.out.symm
  obtain ⟨ps, y', rfl, hcy, hy⟩ := h.ow.o1.rd.int (k := ρ) (by simp; omega)
  have hya : y' = y := by have := hy.out; rw [← hρ, rev_top] at this; injection this with this; exact this.symm
  subst hya
  have d1 : (ρ : Int) < (ρ : Int) + 1 := by omega
  have d2 : (ρ : Int) ≤ (cs : Int) := by omega
  have d4 : (0 : Int) ≤ (ρ : Int) := by omega
  have d5 : IntKind.i64.wrap (ρ : Int) = (ρ : Int) := IntWalk.i64_in _ (by omega)
  have hsb : B ≤ w.heap.size := Nat.le_trans hB hb.size
  have q1 : ¬ 9223372036854775807 < A.size + 1 := by omega
  have q2 : ¬ 9223372036854775807 ≤ A.size := by omega
  obtain ⟨c0, c1, c2, f0, f1, f2⟩ := h.cells
  have hbA : Below w.heap.size w (w.alloc (.cells #[.int .i64 y'] 3)) := (Below.refl _ _).alloc (Nat.le_refl _) _
  have cA0 := (h.below hbA).cells.1
  have cA1 := (h.below hbA).cells.2.1
  have how := h.ow.o0
  dsimp only at how
  clear hbA
  go_enter Tryz.func135, Tryz.ntmps135
  go_upto_region 0 with (fail)
  go_region_law ((refine step_app1 (by rfl) _ _ _ (by rfl) elI (by rfl) how (by rfl) (by rfl) hsb (by rw [HLo.out]; omega) (by rw [HLo.out]; omega) ?_; intro b6 c6 w6 ho6 hg6 hat6; have hgr := h.grow (.head _) hg6; have hc6 := box_cell hgr.1 0; have hf6 := frozen_of_row w6 bo 0 _ _ hgr.1))
  all_goals
    have h6 := h.outs (O1 := O ++ [y']) hg6 (by rw [ints_append]; exact ho6) (hat_of hat6)
    have hb6 := (hb.grown hg6 hsb (fun r hr => (how.lt r hr).1)).setCell (p := ⟨bo, 0, none⟩) h.h0 (.slice b6 ((ints O).length + 1) c6)
    clear hgr hc6 hf6 c0 c1 c2 f0 f1 f2 cA0 cA1 h how hb hg6 ho6 hat6 hcy hsb
    obtain ⟨v6, hv6⟩ : ∃ v6, Value.slice b6 ((ints O).length + 1) c6 = v6 := ⟨_, rfl⟩
    rw [hv6] at h6 hb6 ⊢
    obtain ⟨w7, hw7⟩ : ∃ w7, w6.setCell ⟨bo, 0, none⟩ v6 = w7 := ⟨_, rfl⟩
    rw [hw7] at h6 hb6 ⊢
    clear hv6 hw7
    obtain ⟨c0, c1, c2, f0, f1, f2⟩ := h6.cells
    go_upto_region 2 with (fail)
    have hpo := h6.ow.o1
    dsimp only at hpo
    have h8 := h6.push (w' := w7) (R1 := r) (v1 := .slice (some ps) ρ cs) (World.grownBy.refl w7 _) (own_pop hpo (by omega) hρ.symm) (fun g hg => .inl hg)
    have hb8 := hb6.setCell (p := ⟨bs, 0, none⟩) (by have := h6.h0; have := h6.h1; show B ≤ bs; omega) (.slice (some ps) ρ cs)
    obtain ⟨w8, hw8⟩ : ∃ w8, w7.setCell ⟨bs, 0, none⟩ (.slice (some ps) ρ cs) = w8 := ⟨_, rfl⟩
    rw [hw8] at h8 hb8 ⊢
    clear hw8 c0 c1 c2 f0 f1 f2 h6 hb6 hpo
    obtain ⟨c0, c1, c2, f0, f1, f2⟩ := h8.cells
    go_wp2_with fail
    go_end0
    exact ⟨rfl, _, _, h8.word _, hb8.setCell (p := ⟨bw, 0, none⟩) (by have := h8.h0; have := h8.h1; have := h8.h2; show B ≤ bw; omega) _⟩

end Go.Proofs.YtggblfnajeikjaaGreatDoor

namespace Go.Proofs.YtggblfnajeikjaaGreatDoor
open Go.RowKit
set_option linter.unusedVariables false
set_option linter.unusedSimpArgs false

def RetSW (ys : List Int) (u : List UInt8) (w : World) (e : Ending) (w' : World) : Prop := ∃ v, e = .returned (.tuple #[v, .string (bstr u)]) ∧ Own w' 3 w.heap.size v (ints ys) ∧ Below w.heap.size w w'
set_option maxRecDepth 100000 in
set_option maxHeartbeats 8000000 in
theorem i_stackSort (v : Value) (xs : List Int) (w : World) (h : Rd w v (ints xs)) (hl : xs.length ≤ 8) : Calls Tryz.prog 80 #[v] w (RetSW (stkS xs) (stkW xs) w) := by
  obtain ⟨aT, n, cT, rfl, HN, hnc, hc⟩ := h.formN
  have h8 : n ≤ 8 := by have := HN.out; omega
  obtain ⟨hS, hb⟩ := SS_init w
  have HSL : Hid (∀ k, k ≤ xs.length → (stkR xs k).1.length + (stkR xs k).2.1.length = k ∧ (stkR xs k).2.2.length = k + (stkR xs k).1.length) := stkR_len xs
  go_enter Tryz.func80, Tryz.ntmps80
  go_upto_region 4 with (fail)
  obtain ⟨w8, hw8⟩ : ∃ w8, (((((w.alloc (.cells #[] 3)).alloc (.cells #[] 3)).alloc (.cells #[.slice (some ⟨w.heap.size, 0, none⟩) 0 0] 23)).alloc (.cells #[.slice (some ⟨w.heap.size + 1, 0, none⟩) 0 0] 23)).alloc (.cells #[.string ⟨#[]⟩] 9)) = w8 := ⟨_, rfl⟩
  rw [hw8] at hS hb ⊢
  clear hw8
  obtain ⟨v1, hv1⟩ : ∃ v1, Value.slice (some ⟨w.heap.size, 0, none⟩) 0 0 = v1 := ⟨_, rfl⟩
  obtain ⟨v2, hv2⟩ : ∃ v2, Value.slice (some ⟨w.heap.size + 1, 0, none⟩) 0 0 = v2 := ⟨_, rfl⟩
  rw [hv1, hv2] at hS
  rw [hv1, hv2]
  clear hv1 hv2
  obtain ⟨bw, hbw⟩ : ∃ bw, w.heap.size + 1 + 1 + 1 + 1 = bw := ⟨_, rfl⟩
  obtain ⟨bs, hbs⟩ : ∃ bs, w.heap.size + 1 + 1 + 1 = bs := ⟨_, rfl⟩
  obtain ⟨bo, hbo⟩ : ∃ bo, w.heap.size + 1 + 1 = bo := ⟨_, rfl⟩
  rw [hbw, hbs, hbo] at hS
  rw [hbw, hbs, hbo]
  clear hbw hbs hbo
  have HA0 : Hid ((⟨#[]⟩ : ByteArray) = bstr []) := rfl
  go_wp2
  go_loopg [15] n (fun g iv wr => ∃ (k : Nat) (O R : List Int) (W : List UInt8) (A : ByteArray) (vo vs : Value), g = n - k ∧ k ≤ n ∧ iv = .int .i64 k ∧ Hid (A = bstr W) ∧ Hid (stkR xs k = (O, R, W)) ∧ SS w.heap.size bo bs bw wr vo vs O R A ∧ Below w.heap.size w wr)
  case atStart => exact ⟨0, _, _, _, _, _, _, rfl, Nat.zero_le _, rfl, HA0, rfl, hS, hb⟩
  case round =>
    clear hS hb HA0
    obtain ⟨k, O, R, W, A, vo, vs, hg, hk, rfl, HA, HK, hS, hb⟩ := hrel
    have HLK := Lib.hid (stkR_bd (by rw [← HN.out]; exact hk) HK.out)
    by_cases hlt : k < n
    · obtain ⟨ad, x, rfl, hcx, hx⟩ := (h.below hb).int (k := k) (by have := HN.out; omega)
      have i1 : (k : Int) < (n : Int) := by omega
      go_wp2
      clear hcx
      go_loopg [33] R.length (fun g iv wr => ∃ (O2 R2 : List Int) (W2 : List UInt8) (A : ByteArray) (vo vs : Value), g = R2.length ∧ Hid (A = bstr W2) ∧ Hid (popA x O2 R2 W2 = popA x O R W) ∧ Hid (O2.length + R2.length = k ∧ W2.length = k + O2.length) ∧ SS w.heap.size bo bs bw wr vo vs O2 R2 A ∧ Below w.heap.size w wr)
      case atStart => exact ⟨_, _, _, _, _, _, rfl, HA, rfl, HLK, hS, hb⟩
      case round =>
        clear hS hb HA
        obtain ⟨O2, R2, W2, A, vo, vs, hg2, HA, HP, HL2, hS, hb⟩ := hrel
        obtain ⟨aS, ms, cs, rfl, HMS, hmcs, _⟩ := hS.ow.o1.rd.formN
        have hsb := hb.size
        have hms : ms ≤ 8 := by have := HMS.out; have := HL2.out; simp at *; omega
        have HLs : Hid ((ints R2.reverse).length = ms) := by rw [Hid, ints_length]; exact HMS.out.symm
        have hAs : A.size ≤ 16 := by rw [HA.out, bstr_size]; have := HL2.out; omega
        have q1 : ¬ 9223372036854775807 < A.size + 1 := by omega
        have q2 : ¬ 9223372036854775807 ≤ A.size := by omega
        obtain ⟨c0, c1, c2, f0, f1, f2⟩ := hS.cells
        have hcase : R2 = [] ∨ ∃ a r, R2 = a :: r := by cases R2 with | nil => exact .inl rfl | cons a r => exact .inr ⟨a, r, rfl⟩
        by_cases hpop : ∃ a r, R2 = a :: r ∧ a < x
        · obtain ⟨y, r, rfl, hyx⟩ := hpop
          clear hcase
          obtain ⟨ρ, hρ⟩ : ∃ ρ, r.length = ρ := ⟨_, rfl⟩
          have hmsρ : ms = ρ + 1 := by have := HMS.out; simp at this; omega
          subst hmsρ
          obtain ⟨ps, y', rfl, hcy, hy⟩ := hS.ow.o1.rd.int (k := ρ) (by simp; omega)
          have hya : y' = y := by have := hy.out; rw [← hρ, rev_top] at this; injection this with this; exact this.symm
          subst hya
          have d0 : decide (((ρ + 1 : Nat) : Int) > 0) = true := by simp
          have d1 : (ρ : Int) < (ρ : Int) + 1 := by omega
          have d2 : (ρ : Int) ≤ (cs : Int) := by omega
          have d4 : (0 : Int) < (ρ : Int) + 1 := by omega
          have d3 : decide (y' < x) = true := by simpa using hyx
          have HP2 := Lib.hid ((popA_go hyx O2 r W2).symm.trans HP.out)
          have HE := Lib.hid (i_take w wr w.heap.size bo bs bw _ _ O2 r y' A hS hb (Nat.le_refl _) (by have := HL2.out; omega) (by have := HL2.out; simp at this; omega) (by omega))
          go_wp2_with (go_at_call 135; refine HE.out.mono ?_; rintro e w9 ⟨rfl, vo9, vs9, hS9, hb9⟩)
          go_roundg r.length
          case measure => simp at hg2; omega
          case rel => exact ⟨_, _, _, _, _, _, rfl, bstr_snoc HA.out 116, HP2, by have := HL2.out; rw [Hid]; simp at *; omega, hS9, hb9⟩
        · have hstop : popA x O2 R2 W2 = (O2, R2, W2) := by
            rcases hcase with rfl | ⟨a, r, rfl⟩
            · rfl
            · exact popA_stop (fun hlt => hpop ⟨a, r, rfl, hlt⟩) _ _ _
          have HNX := Lib.hid (stk_of hx.out HK.out HP.out hstop)
          have htail : ∃ d0 : Bool, decide ((ms : Int) > 0) = d0 ∧ (d0 = true → ∃ (ps : Addr) (y : Int) (ρ : Nat), aS = some ps ∧ ms = ρ + 1 ∧ wr.cell? (ps.add ρ) = some (.int .i64 y) ∧ ¬ y < x) := by
            refine ⟨_, rfl, fun hd => ?_⟩
            rcases hcase with rfl | ⟨a, r, rfl⟩
            · have := HMS.out; simp at this; subst this; simp at hd
            · have hmsρ : ms = r.length + 1 := by have := HMS.out; simp at this; omega
              obtain ⟨ps, y', hps, hcy, hy⟩ := hS.ow.o1.rd.int (k := r.length) (by simp)
              have hya : y' = a := by have := hy.out; rw [rev_top] at this; injection this with this; exact this.symm
              exact ⟨ps, y', r.length, hps, hmsρ, hcy, fun hlt => hpop ⟨a, r, rfl, by rw [← hya]; exact hlt⟩⟩
          clear hstop hcase hpop
          obtain ⟨d0, hd0, htop⟩ := htail
          cases d0
          all_goals first
            | (have d1 : ¬ (0 : Int) < (ms : Int) := by simpa using hd0
               clear htop)
            | (obtain ⟨ps, y, ρ, rfl, rfl, hcy, hyx⟩ := htop rfl
               have d1 : (ρ : Int) < (ρ : Int) + 1 := by omega
               have d4 : (0 : Int) < (ρ : Int) + 1 := by omega
               have d3 : decide (y < x) = false := by simpa using hyx
               clear htop)
          all_goals
            go_upto_region 10 with (at_builtin; refine wpList_app1m rfl _ _ 23 rfl elI rfl hS.ow.o1 (by show Value.slice (some ⟨wr.heap.size, 0, none⟩) 1 1 = _; simp) rfl hsb _ HLs.out (by omega) (by omega) ?_; intro b5 c5 w5 ho5 hg5 hat5; have hgr := hS.grow (.tail _ (.head _)) hg5; have hc5 := box_cell hgr.2.1 0; have hf5 := frozen_of_row w5 bs 0 _ _ hgr.2.1)
            have h6 := hS.push (R1 := x :: R2) hg5 (by rw [List.reverse_cons (a := x), ints_append]; exact ho5) (hat_of hat5)
            have hb6 := fun (u : Value) => (hb.grown hg5 hsb (fun r hr => (hS.ow.o1.lt r hr).1)).setCell (p := ⟨bs, 0, none⟩) (by have := hS.h0; have := hS.h1; show w.heap.size ≤ bs; omega) u
            clear hgr hc5 hf5 c0 c1 c2 f0 f1 f2 hS hb ho5 hg5 hat5
            obtain ⟨c0, c1, c2, f0, f1, f2⟩ := h6.cells
            go_wp2_with fail
            go_roundg (n - (k + 1))
            case measure => omega
            case rel => exact ⟨k + 1, _, _, _, _, _, _, rfl, by omega, by go_num, bstr_snoc HA.out 112, HNX, h6.word _, (hb6 _).setCell (p := ⟨bw, 0, none⟩) (by have := h6.h0; have := h6.h1; have := h6.h2; show w.heap.size ≤ bw; omega) _⟩
    · obtain rfl : k = n := by omega
      have HF1 : Hid (O ++ R = stkS xs) := by rw [Hid, stkS, ← HN.out, HK.out]
      have HF2 : Hid (W ++ List.replicate R.length 116 = stkW xs) := by rw [Hid, stkW, ← HN.out, HK.out]
      go_wp2
      go_loopg [45] R.length (fun g iv wr => ∃ (O2 R2 : List Int) (W2 : List UInt8) (A : ByteArray) (vo vs : Value), g = R2.length ∧ Hid (A = bstr W2) ∧ Hid (O2 ++ R2 = stkS xs) ∧ Hid (W2 ++ List.replicate R2.length 116 = stkW xs) ∧ Hid (O2.length + R2.length = k ∧ W2.length = k + O2.length) ∧ SS w.heap.size bo bs bw wr vo vs O2 R2 A ∧ Below w.heap.size w wr)
      case atStart => exact ⟨_, _, _, _, _, _, rfl, HA, HF1, HF2, HLK, hS, hb⟩
      case round =>
        clear hS hb HA HF1 HF2
        obtain ⟨O2, R2, W2, A, vo, vs, hg2, HA, HF1, HF2, HL2, hS, hb⟩ := hrel
        obtain ⟨aS, ms, cs, rfl, HMS, hmcs, _⟩ := hS.ow.o1.rd.formN
        obtain ⟨c0, c1, c2, f0, f1, f2⟩ := hS.cells
        have hAs : A.size ≤ 16 := by rw [HA.out, bstr_size]; have := HL2.out; omega
        have hcase : R2 = [] ∨ ∃ a r, R2 = a :: r := by cases R2 with | nil => exact .inl rfl | cons a r => exact .inr ⟨a, r, rfl⟩
        rcases hcase with rfl | ⟨y, r, rfl⟩
        · have hms0 : ms = 0 := by have := HMS.out; simpa using this
          subst hms0
          have HX1 : Hid (O2 = stkS xs) := by have := HF1.out; rw [List.append_nil] at this; exact this
          have HX2 : Hid (W2 = stkW xs) := by have := HF2.out; simp at this; exact this
          obtain ⟨ao, mo, co, rfl, HMO, _, _⟩ := hS.ow.o0.rd.formN
          have ho := hS.ow.o0
          dsimp only at ho
          rw [HX1.out] at ho
          clear hS
          go_wp2
          go_quiet (fail)
          go_wp2
          go_ret2
          exact ⟨.slice ao mo co, by rw [← HX2.out, ← HA.out]; rfl, ho.drewN _, ⟨hb.os, hb.tape, hb.output, hb.size, hb.block⟩⟩
        · have hmsρ : ms = r.length + 1 := by have := HMS.out; simp at this; omega
          have d0 : (0 : Int) < (ms : Int) := by omega
          have HE := Lib.hid (i_take w wr w.heap.size bo bs bw _ _ O2 r y A hS hb (Nat.le_refl _) (by have := HL2.out; omega) (by have := HL2.out; simp at this; omega) (by omega))
          clear hmsρ
          go_wp2_with (go_at_call 135; refine HE.out.mono ?_; rintro e w9 ⟨rfl, vo9, vs9, hS9, hb9⟩)
          go_roundg r.length
          case measure => simp at hg2; omega
          case rel => exact ⟨_, _, _, _, _, _, rfl, bstr_snoc HA.out 116, by have := HF1.out; rw [Hid, ← this]; simp, by have := HF2.out; rw [Hid, ← this]; simp [List.replicate_succ], by have := HL2.out; rw [Hid]; simp at *; omega, hS9, hb9⟩

end Go.Proofs.YtggblfnajeikjaaGreatDoor

namespace Go.Proofs.YtggblfnajeikjaaGreatDoor
open Go.RowKit
set_option linter.unusedVariables false
set_option linter.unusedSimpArgs false

set_option maxHeartbeats 1000000 in
theorem I_StackWord (v : Value) (xs : List Int) (w : World) (h : Rd w v (ints xs)) : Calls Tryz.prog 26 #[v] w (RetWord (wordOf xs) (shortB xs && canB xs) w) := by
  have HS0 := I_CanStackSort v xs w h
  obtain ⟨aT, n, cT, rfl, HN, hnc, hc⟩ := h.formN
  cases hcan : (shortB xs && canB xs)
  · rw [hcan] at HS0
    have HR : Hid (wordOf xs = []) := by rw [Hid, wordOf, hcan]; rfl
    have HS := Lib.hid HS0
    clear HS0 hcan
    go_enter Tryz.func26, Tryz.ntmps26
    go_wp2_with (go_at_call 79; refine HS.out.mono ?_; rintro e w1 ⟨rfl, hb1⟩)
    go_ret2
    exact ⟨by rw [HR.out]; rfl, hb1⟩
  · rw [hcan] at HS0
    have HR : Hid (wordOf xs = stkW xs) := by rw [Hid, wordOf, hcan]; rfl
    have h8 := (shortB_iff.1 (Bool.and_eq_true_iff.1 hcan).1).1
    have HS := Lib.hid HS0
    have HT := Lib.hid (fun (W : World) (hW : Below w.heap.size w W) => i_stackSort _ xs W (h.below hW) h8)
    clear HS0 hcan
    go_enter Tryz.func26, Tryz.ntmps26
    go_wp2_with (first
      | (go_at_call 79; refine HS.out.mono ?_; rintro e w1 ⟨rfl, hb1⟩)
      | (go_at_call 80; refine (HT.out _ hb1).mono ?_; rintro e w2 ⟨v2, rfl, ho2, hb2⟩))
    go_ret2
    exact ⟨by rw [HR.out]; rfl, hb1.trans (hb2.mono hb1.size)⟩

set_option maxHeartbeats 1000000 in
theorem I_StackRounds (v : Value) (xs : List Int) (w : World) (h : Rd w v (ints xs)) (hs : shortB xs = true) : Calls Tryz.prog 27 #[v] w (RetB (.int .i64 (rndN 9 xs : Nat)) w) := by
  have HS0 := i_isShortOrder v xs w h
  rw [hs] at HS0
  have HS := Lib.hid HS0
  have H0 : Hid (Rnd 0 xs) := Rnd.start (shortB_iff.1 hs).2.2 (shortB_iff.1 hs).1
  have HSH := Lib.hid hs
  clear HS0 hs
  go_enter Tryz.func27, Tryz.ntmps27
  go_wp2_with (go_at_call 81; refine HS.out.mono ?_; rintro e w1 ⟨rfl, hb1⟩)
  have h1 := h.below hb1
  go_loopg [0, 3] 9 (fun g vn iv wr => ∃ (k : Nat) (ys : List Int), g = 9 - k ∧ k ≤ 8 ∧ iv = .int .i64 k ∧ Rd wr vn (ints ys) ∧ Below w.heap.size w wr ∧ Hid (Rnd k ys) ∧ Hid (shortB ys = true) ∧ Hid (rndN 9 xs = k + rndN (9 - k) ys))
  case atStart => exact ⟨0, _, rfl, Nat.zero_le _, rfl, h1, hb1, H0, HSH, by rw [Hid, Nat.zero_add]⟩
  case round =>
    clear h1 hb1
    obtain ⟨k, ys, hg, hk, rfl, hr, hb, HRN, HSY, HE⟩ := hrel
    have hA := f_IsSorted _ ys wr hr
    cases hadj : adjB ys
    · rw [hadj] at hA
      have HAD := Lib.hid hA
      obtain ⟨hk8, hst⟩ := HRN.out.step hadj
      have HST := Lib.hid hst
      have HE2 : Hid (rndN 9 xs = (k + 1) + rndN (9 - (k + 1)) (stkS ys)) := by
        have := HE.out
        rw [show 9 - k = (9 - (k + 1)) + 1 by omega, rndN_no hadj] at this
        rw [Hid, this]; omega
      have HSP : Hid (shortB (stkS ys) = true) := shortB_perm (stkS_perm ys) HSY.out
      have HT := Lib.hid (fun (W : World) (hW : Dr wr W) => i_stackSort _ ys W (hr.dr hW) (shortB_iff.1 HSY.out).1)
      clear hA hadj hst HE HRN
      go_wp2_with (first
        | (go_at_call 82; refine HAD.out.mono ?_; rintro e w2 ⟨rfl, hd2⟩)
        | (go_at_call 80; refine (HT.out _ hd2).mono ?_; rintro e w3 ⟨v3, rfl, ho3, hb3⟩))
      have hb4 := hb.trans (((hd2.below _).trans (hb3.mono (hd2.below wr.heap.size).size)).mono hb.size)
      go_roundg (9 - (k + 1))
      case measure => omega
      case rel => exact ⟨k + 1, _, rfl, by omega, by go_num, ho3.rd, hb4, HST, HSP, HE2⟩
    · rw [hadj] at hA
      have HAD := Lib.hid hA
      have HE2 : Hid (rndN 9 xs = k) := by have := HE.out; rw [rndN_yes hadj] at this; exact this
      clear hA hadj
      go_wp2_with (go_at_call 82; refine HAD.out.mono ?_; rintro e w2 ⟨rfl, hd2⟩)
      go_ret
      exact ⟨by rw [HE2.out]; rfl, hb.trans ((hd2.below _).mono hb.size)⟩

def stackLine (xs : List Int) : List UInt8 :=
  if shortB xs then (if canB xs then [119, 111, 114, 100, 32] ++ stkW xs else [114, 111, 117, 110, 100, 115, 32] ++ Lib.itoa (rndN 9 xs : Nat)) else [110, 111, 110, 101]
theorem stkW_len {xs : List Int} : (stkW xs).length ≤ 2 * xs.length := by
  have := stkR_len xs xs.length (Nat.le_refl _)
  simp only [stkW, List.length_append, List.length_replicate]
  omega
theorem rnd_I64 (xs : List Int) : I64 ((rndN 9 xs : Nat) : Int) := by
  have := rndN_le 9 xs
  unfold I64
  omega

set_option maxHeartbeats 1000000 in
theorem I_StackLine (w : World) (v : Value) (xs : List Int) (h : Rd w v (ints xs)) (_ : I64s xs) (_ : xs.length ≤ 1048576) (ht : Tab w) : Calls Tryz.prog 29 #[v] w (RetB (.string (bstr (stackLine xs))) w) := by
  have HO := i_isShortOrder v xs w h
  have HW0 := fun (W : World) (hW : Below w.heap.size w W) => I_StackWord v xs W (h.below hW)
  cases hs : shortB xs
  · rw [hs] at HO
    have HR : Hid (stackLine xs = [110, 111, 110, 101]) := by rw [Hid, stackLine, hs]; rfl
    have HOK := Lib.hid HO
    clear HO hs HW0
    obtain ⟨a, n, c, rfl, HN, hnc, hc⟩ := h.formN
    go_enter Tryz.func29, Tryz.ntmps29
    go_wp2_with (go_at_call 81; refine HOK.out.mono ?_; rintro e w' ⟨rfl, hb1⟩)
    go_ret
    exact ⟨by rw [HR.out]; rfl, hb1⟩
  · rw [hs] at HO HW0
    have HOK := Lib.hid HO
    have h8 := (shortB_iff.1 hs).1
    cases hcan : canB xs
    · rw [hcan] at HW0
      have HR : Hid (stackLine xs = [114, 111, 117, 110, 100, 115, 32] ++ Lib.itoa (rndN 9 xs : Nat)) := by rw [Hid, stackLine, hs, hcan]; rfl
      have HWK := Lib.hid HW0
      have HRK := Lib.hid (fun (W : World) (hW : Below w.heap.size w W) => I_StackRounds v xs W (h.below hW) hs)
      have HFI := Lib.hid (fun (W : World) (hW : Below w.heap.size w W) => I_FormatInt W _ (rnd_I64 xs) (ht.below hW))
      have hlen := (itoa_len (rnd_I64 xs)).2
      obtain ⟨A, hA⟩ : ∃ A, bstr (Lib.itoa ((rndN 9 xs : Nat) : Int)) = A := ⟨_, rfl⟩
      have hAs : A.size ≤ 20 := by rw [← hA, bstr_size]; exact hlen
      have HR1 : Hid (bstr (stackLine xs) = (⟨#[114, 111, 117, 110, 100, 115, 32]⟩ : ByteArray) ++ A) := by rw [Hid, HR.out, ← hA]; exact (bstr_app _ _).symm
      have HFI2 : Hid (∀ (W : World) (hW : Below w.heap.size w W), Calls Tryz.prog 14 #[.int .i64 ((rndN 9 xs : Nat) : Int)] W (RetB (.string A) W)) := by rw [← hA]; exact HFI.out
      have q1 : ¬ 9223372036854775807 < 7 + A.size := by omega
      generalize rndN 9 xs = rr at *
      clear HO hs hcan HW0 hA HFI hlen
      obtain ⟨a, n, c, rfl, HN, hnc, hc⟩ := h.formN
      go_enter Tryz.func29, Tryz.ntmps29
      go_wp2_with (first
        | (go_at_call 81; refine HOK.out.mono ?_; rintro e w' ⟨rfl, hb1⟩)
        | (go_at_call 26; refine (HWK.out _ hb1).mono ?_; rintro e w2 ⟨rfl, hb2⟩; have hb2' := hb1.trans (hb2.mono hb1.size))
        | (go_at_call 27; refine (HRK.out _ hb2').mono ?_; rintro e w3 ⟨rfl, hb3⟩; have hb3' := hb2'.trans (hb3.mono hb2'.size))
        | (go_at_call 14; refine (HFI2.out _ hb3').mono ?_; rintro e w4 ⟨rfl, hb4⟩))
      go_ret
      exact ⟨by rw [HR1.out]; rfl, hb3'.trans (hb4.mono hb3'.size)⟩
    · rw [hcan] at HW0
      have HR : Hid (stackLine xs = [119, 111, 114, 100, 32] ++ wordOf xs) := by rw [Hid, stackLine, wordOf, hs, hcan]; rfl
      have HWK := Lib.hid HW0
      have hlen := stkW_len (xs := xs)
      obtain ⟨A, hA⟩ : ∃ A, bstr (wordOf xs) = A := ⟨_, rfl⟩
      have hAs : A.size ≤ 20 := by rw [← hA, bstr_size, wordOf, hs, hcan]; show (stkW xs).length ≤ 20; omega
      have HR1 : Hid (bstr (stackLine xs) = (⟨#[119, 111, 114, 100, 32]⟩ : ByteArray) ++ A) := by rw [Hid, HR.out, ← hA]; exact (bstr_app _ _).symm
      have HWK2 : Hid (∀ (W : World) (hW : Below w.heap.size w W), Calls Tryz.prog 26 #[v] W fun e w' => e = .returned (.tuple #[.string A, .bool true]) ∧ Below W.heap.size W w') := by rw [← hA]; exact HWK.out
      have q1 : ¬ 9223372036854775807 < 5 + A.size := by omega
      clear HO hs hcan HW0 hA hlen HWK
      obtain ⟨a, n, c, rfl, HN, hnc, hc⟩ := h.formN
      go_enter Tryz.func29, Tryz.ntmps29
      go_wp2_with (first
        | (go_at_call 81; refine HOK.out.mono ?_; rintro e w' ⟨rfl, hb1⟩)
        | (go_at_call 26; refine (HWK2.out _ hb1).mono ?_; rintro e w2 ⟨rfl, hb2⟩; have hb2' := hb1.trans (hb2.mono hb1.size)))
      go_ret
      exact ⟨by rw [HR1.out]; rfl, hb2'⟩

end Go.Proofs.YtggblfnajeikjaaGreatDoor

namespace Go.Proofs.YtggblfnajeikjaaGreatDoor
set_option linter.unusedVariables false
set_option linter.unusedSimpArgs false

theorem getD_ok {T : List Int} {k : Nat} {t : Int} (h : T[k]? = some t) : T.getD k 0 = t := by rw [List.getD_eq_getElem?_getD, h]; rfl
theorem take_ok {xs : List Int} {k : Nat} {x : Int} (h : xs[k]? = some x) : xs.take (k + 1) = xs.take k ++ [x] := by rw [List.take_add_one, h]; rfl
theorem drop_ok {xs : List Int} {k : Nat} {x : Int} (h : xs[k]? = some x) : xs.drop k = x :: xs.drop (k + 1) := by
  obtain ⟨hk, rfl⟩ := List.getElem?_eq_some_iff.1 h
  exact List.drop_eq_getElem_cons hk
/-- Pairs that stand the wrong way round. -/
def invN : List Int → Nat
  | [] => 0
  | x :: xs => xs.countP (fun y => decide (y < x)) + invN xs
theorem invN_le : ∀ xs : List Int, invN xs ≤ xs.length * xs.length
  | [] => by simp [invN]
  | x :: xs => by
    have h1 := invN_le xs
    have h2 := List.countP_le_length (p := fun y => decide (y < x)) (l := xs)
    simp only [invN, List.length_cons]
    rw [Nat.add_mul, Nat.mul_add]
    omega
theorem countP_take {xs : List Int} {k : Nat} {x : Int} (p : Int → Bool) (h : xs[k]? = some x) : (xs.take (k + 1)).countP p = (xs.take k).countP p + (if p x = true then 1 else 0) := by
  rw [take_ok h, List.countP_append, List.countP_cons, List.countP_nil]; omega
/-- Runs that rise. -/
def runB (xs : List Int) (k : Nat) : Bool := decide (k = 0) || decide (xs.getD k 0 < xs.getD (k - 1) 0)
def runN (xs : List Int) : Nat → Nat
  | 0 => 0
  | k + 1 => runN xs k + (if runB xs k = true then 1 else 0)
theorem runN_le (xs : List Int) : ∀ k, runN xs k ≤ k
  | 0 => Nat.le_refl _
  | k + 1 => by
    have := runN_le xs k
    rw [runN]
    split <;> omega
/-- The longest that rise and end at each place. -/
def dpIn (xs L : List Int) (y : Int) : Nat → Int
  | 0 => 1
  | k + 1 => if xs.getD k 0 ≤ y then max (dpIn xs L y k) (L.getD k 0 + 1) else dpIn xs L y k
def dpL (xs : List Int) : Nat → List Int
  | 0 => []
  | i + 1 => dpL xs i ++ [dpIn xs (dpL xs i) (xs.getD i 0) i]
def dpB (xs : List Int) : Nat → Int
  | 0 => 0
  | i + 1 => max (dpB xs i) (dpIn xs (dpL xs i) (xs.getD i 0) i)
theorem dpL_len (xs : List Int) : ∀ i, (dpL xs i).length = i
  | 0 => rfl
  | i + 1 => by rw [dpL, List.length_append, dpL_len xs i]; rfl
theorem dpIn_bd {xs L : List Int} {y : Int} {m : Int} (hL : ∀ v ∈ L, v ≤ m) (hm : 0 ≤ m) : ∀ k, 1 ≤ dpIn xs L y k ∧ dpIn xs L y k ≤ m + 1
  | 0 => by simp [dpIn]; omega
  | k + 1 => by
    have h1 := dpIn_bd (xs := xs) (y := y) hL hm k
    have h2 : L.getD k 0 ≤ m := by
      rw [List.getD_eq_getElem?_getD]
      cases h : L[k]? with
      | none => simpa using hm
      | some v => exact hL v (List.mem_of_getElem? h)
    rw [dpIn]
    split <;> omega
theorem dpL_bd (xs : List Int) : ∀ i, ∀ v ∈ dpL xs i, v ≤ (i : Int)
  | 0 => by simp [dpL]
  | i + 1 => by
    intro v hv
    rw [dpL, List.mem_append, List.mem_singleton] at hv
    rcases hv with hv | rfl
    · have := dpL_bd xs i v hv; omega
    · have := (dpIn_bd (xs := xs) (y := xs.getD i 0) (dpL_bd xs i) (by omega) i).2
      omega
theorem dpB_bd (xs : List Int) : ∀ i, 0 ≤ dpB xs i ∧ dpB xs i ≤ (i : Int)
  | 0 => by simp [dpB]
  | i + 1 => by
    have h1 := dpB_bd xs i
    have h2 := dpIn_bd (xs := xs) (y := xs.getD i 0) (dpL_bd xs i) (by omega) i
    rw [dpB]
    omega
/-- How far a number has to go. -/
def farN (q : List Int) : Nat → Int
  | 0 => 0
  | k + 1 => max (farN q k) (max ((k : Int) - q.getD k 0) (q.getD k 0 - (k : Int)))
theorem farN_bd {q : List Int} {m : Int} (hq : ∀ v ∈ q, 0 ≤ v ∧ v < m) (hm : 0 ≤ m) : ∀ k : Nat, (k : Int) ≤ m → 0 ≤ farN q k ∧ farN q k ≤ m
  | 0, _ => by simp [farN]; exact hm
  | k + 1, hk => by
    have h1 := farN_bd hq hm k (by omega)
    have h2 : 0 ≤ q.getD k 0 ∧ q.getD k 0 ≤ m := by
      rw [List.getD_eq_getElem?_getD]
      cases h : q[k]? with
      | none => exact ⟨Int.le_refl _, hm⟩
      | some v => have := hq v (List.mem_of_getElem? h); exact ⟨this.1, by show v ≤ m; omega⟩
    rw [farN]
    omega

end Go.Proofs.YtggblfnajeikjaaGreatDoor

namespace Go.Proofs.YtggblfnajeikjaaGreatDoor
open Go.RowKit
set_option linter.unusedVariables false
set_option linter.unusedSimpArgs false

theorem i_isTwelve (v : Value) (xs : List Int) (w : World) (h : Rd w v (ints xs)) : Calls Tryz.prog 56 #[v] w fun e w' => e = .returned (.bool (decide (xs.length ≤ 12))) ∧ w = w' := by
  obtain ⟨a, n, c, rfl, HN, hnc, hc⟩ := h.formN
  have HB : Hid (decide (xs.length ≤ 12) = decide (n ≤ 12)) := by rw [Hid, HN.out]
  by_cases h12 : n ≤ 12
  · have d : decide ((n : Int) ≤ 12) = true := by simp; omega
    go_enter Tryz.func56, Tryz.ntmps56
    go_wp2
    go_ret
    exact ⟨ret_bool (by rw [HB.out]; simp [h12]), rfl⟩
  · have d : decide ((n : Int) ≤ 12) = false := by simp; omega
    go_enter Tryz.func56, Tryz.ntmps56
    go_wp2
    go_ret
    exact ⟨ret_bool (by rw [HB.out]; simp [h12]), rfl⟩

set_option maxHeartbeats 1000000 in
theorem i_inversions (v : Value) (xs : List Int) (w : World) (hR : Rd w v (ints xs)) (hl : xs.length ≤ 12) : Calls Tryz.prog 112 #[v] w (RetB (.int .i64 (invN xs : Nat)) w) := by
  obtain ⟨a, n, c, rfl, HN, hnc, hc⟩ := hR.formN
  have h12 : n ≤ 12 := by have := HN.out; omega
  have hzb : invN xs ≤ 144 := by
    have h1 := invN_le xs
    exact Nat.le_trans h1 (Nat.mul_le_mul hl hl)
  have HZB := Lib.hid hzb
  clear hzb
  go_enter Tryz.func112, Tryz.ntmps112
  go_wp2
  go_loopg [3, 10] n (fun g sv iv wr => ∃ (i : Nat) (z : Nat), g = n - i ∧ i ≤ n ∧ iv = .int .i64 i ∧ sv = .int .i64 z ∧ w = wr ∧ Hid (z + invN (xs.drop i) = invN xs))
  case atStart => exact ⟨0, 0, rfl, Nat.zero_le _, rfl, rfl, rfl, by rw [Hid, List.drop_zero, Nat.zero_add]⟩
  case round =>
    obtain ⟨i, z, hg, hi, rfl, rfl, rfl, HZ⟩ := hrel
    by_cases hlt : i < n
    · obtain ⟨ad, x, rfl, hcx, hx⟩ := hR.int (k := i) (by have := HN.out; omega)
      have i1 : (i : Int) < (n : Int) := by omega
      have j2 : (i : Int) + 1 ≤ (n : Int) := by omega
      have j3 : (i : Int) + 1 ≤ (c : Int) := by omega
      have j5 : ((i : Int) + 1).toNat = i + 1 := by omega
      have HD : Hid (invN (xs.drop i) = (xs.drop (i + 1)).countP (fun y => decide (y < x)) + invN (xs.drop (i + 1))) := by rw [Hid, drop_ok hx.out]; rfl
      have hrC : Rd w (.slice (if c = i + 1 then some ad else some (ad.add (i + 1))) (n - (i + 1)) (c - (i + 1))) (ints (xs.drop (i + 1))) := by rw [← ints_drop]; exact hR.cut (show i + 1 ≤ n by omega)
      obtain ⟨m, hm⟩ : ∃ m, n - (i + 1) = m := ⟨_, rfl⟩
      obtain ⟨cC, hcC⟩ : ∃ cC, c - (i + 1) = cC := ⟨_, rfl⟩
      rw [hm, hcC] at hrC
      have hrC1 : c = i + 1 → Rd w (.slice (some ad) m cC) (ints (xs.drop (i + 1))) := fun e => by rw [if_pos e] at hrC; exact hrC
      have hrC2 : ¬ c = i + 1 → Rd w (.slice (some ⟨ad.block, ad.off + (i + 1), none⟩) m cC) (ints (xs.drop (i + 1))) := fun e => by rw [if_neg e, add_succ] at hrC; exact hrC
      clear hrC
      go_wp2
      all_goals first
        | (have hrC := hrC1 (by assumption); rw [← h]; clear h)
        | (have hrC := hrC2 (by assumption); clear h)
      all_goals (
        go_loopg [3, 20] m (fun g sv qv wr => ∃ (q : Nat) (t : Nat), g = m - q ∧ q ≤ m ∧ qv = .int .i64 q ∧ sv = .int .i64 (t : Int) ∧ w = wr ∧ Hid (t = z + ((xs.drop (i + 1)).take q).countP (fun y => decide (y < x))))
        case atStart => exact ⟨0, z, rfl, Nat.zero_le _, rfl, rfl, rfl, rfl⟩
        case round =>
          obtain ⟨q, t, hgq, hq, rfl, rfl, rfl, HT⟩ := hrel
          have htb : t ≤ 144 := by
            have h1 := HT.out
            have h2 := HZ.out
            have h3 := HD.out
            have h4 := HZB.out
            have h5 : ((xs.drop (i + 1)).take q).countP (fun y => decide (y < x)) ≤ (xs.drop (i + 1)).countP (fun y => decide (y < x)) := (List.take_sublist _ _).countP_le
            omega
          by_cases hltq : q < m
          · obtain ⟨adC, y, had3, hcz, hy⟩ := hrC.int (k := q) (by rw [List.length_drop, ← HN.out]; omega)
            have q1 : (q : Int) < (m : Int) := by omega
            obtain rfl := Option.some.inj had3
            clear had3
            try rw [Addr.add_lit] at hcz
            by_cases hxy : y < x
            · have d1 : decide (x > y) = true := by simpa using hxy
              have HT2 : Hid (t + 1 = z + ((xs.drop (i + 1)).take (q + 1)).countP (fun y => decide (y < x))) := by rw [Hid, countP_take _ hy.out, ← Nat.add_assoc, ← HT.out]; simp [hxy]
              go_wp2
              go_roundg (m - (q + 1))
              case measure => omega
              case rel => exact ⟨q + 1, t + 1, rfl, by omega, by go_num, by go_num, rfl, HT2⟩
            · have d1 : decide (x > y) = false := by simpa using hxy
              have HT2 : Hid (t = z + ((xs.drop (i + 1)).take (q + 1)).countP (fun y => decide (y < x))) := by rw [Hid, countP_take _ hy.out, ← Nat.add_assoc, ← HT.out]; simp [hxy]
              go_wp2
              go_roundg (m - (q + 1))
              case measure => omega
              case rel => exact ⟨q + 1, t, rfl, by omega, by go_num, rfl, rfl, HT2⟩
          · have HT2 : Hid (t + invN (xs.drop (i + 1)) = invN xs) := by
              have h1 := HT.out
              rw [List.take_of_length_le (by rw [List.length_drop, ← HN.out]; omega)] at h1
              have h2 := HZ.out
              have h3 := HD.out
              rw [Hid]; omega
            go_wp2
            go_roundg (n - (i + 1))
            case measure => omega
            case rel => exact ⟨i + 1, t, rfl, by omega, by go_num, rfl, rfl, HT2⟩)
    · have HZ2 : Hid (invN xs = z) := by
        have := HZ.out
        rw [List.drop_eq_nil_of_le (by rw [← HN.out]; omega)] at this
        rw [Hid, ← this]; rfl
      go_wp2
      go_ret
      exact ⟨by rw [HZ2.out]; rfl, Below.refl _ _⟩

theorem i_InversionsOf (v : Value) (xs : List Int) (w : World) (h : Rd w v (ints xs)) (hl : xs.length ≤ 12) : Calls Tryz.prog 57 #[v] w (RetB (.int .i64 (invN xs : Nat)) w) := by
  have HO := i_isTwelve v xs w h
  rw [show decide (xs.length ≤ 12) = true by simpa using hl] at HO
  have HOK := Lib.hid HO
  have HC := Lib.hid (i_inversions v xs w h hl)
  obtain ⟨a, n, c, rfl, HN, hnc, hc⟩ := h.formN
  clear HO
  generalize invN xs = z at *
  go_enter Tryz.func57, Tryz.ntmps57
  go_wp2_with (first
    | (go_at_call 56; refine HOK.out.mono ?_; rintro e w' ⟨rfl, rfl⟩)
    | (go_at_call 112; refine HC.out.mono ?_; rintro e w2 ⟨rfl, hb2⟩))
  go_ret
  exact ⟨rfl, hb2⟩

end Go.Proofs.YtggblfnajeikjaaGreatDoor

namespace Go.Proofs.YtggblfnajeikjaaGreatDoor
open Go.RowKit
set_option linter.unusedVariables false
set_option linter.unusedSimpArgs false

theorem i_follows (x y : Int) (w : World) : Calls Tryz.prog 177 #[.int .i64 x, .int .i64 y] w fun e w' => e = .returned (.bool (decide (x ≤ y))) ∧ w = w' := by
  obtain ⟨b, hb⟩ : ∃ b, decide (x ≤ y) = b := ⟨_, rfl⟩
  rw [hb]
  go_enter Tryz.func177, Tryz.ntmps177
  go_wp2
  go_ret
  exact ⟨rfl, rfl⟩

set_option maxHeartbeats 2000000 in
theorem i_longest (v : Value) (xs : List Int) (w : World) (h : Rd w v (ints xs)) (hl : xs.length ≤ 12) : Calls Tryz.prog 176 #[v, .func (.func 177) #[] #[]] w (RetB (.int .i64 (dpB xs xs.length)) w) := by
  obtain ⟨a, n, c, rfl, HN, hnc, hc⟩ := h.formN
  have h12 : n ≤ 12 := by have := HN.out; omega
  rw [← HN.out]
  have hA : Own (w.alloc (.cells #[] 3)) 3 w.heap.size (.slice (some ⟨w.heap.size, 0, none⟩) 0 0) (ints (dpL xs 0)) := Own.lit0 w 3 (Nat.le_refl _)
  have hb0 : Below w.heap.size w (w.alloc (.cells #[] 3)) := (Below.refl _ _).alloc (Nat.le_refl _) _
  go_enter Tryz.func176, Tryz.ntmps176
  go_wp2
  go_loopg [5, 6, 15] n (fun g sv vo iv wr => ∃ (i : Nat) (z : Int), g = n - i ∧ i ≤ n ∧ iv = .int .i64 i ∧ sv = .int .i64 z ∧ 0 ≤ z ∧ z ≤ i ∧ Hid (z = dpB xs i) ∧ Own wr 3 w.heap.size vo (ints (dpL xs i)) ∧ Below w.heap.size w wr)
  case atStart => exact ⟨0, 0, rfl, Nat.zero_le _, rfl, rfl, Int.le_refl _, Int.le_refl _, rfl, hA, hb0⟩
  case round =>
    clear hA hb0
    obtain ⟨i, z, hg, hi, rfl, rfl, hz0, hzi, HZ, ho, hb⟩ := hrel
    obtain ⟨ao, mo, co, rfl, HMO, _, _⟩ := ho.rd.formN
    have hmo : mo = i := by have := HMO.out; rw [dpL_len] at this; exact this
    subst hmo
    by_cases hlt : mo < n
    · obtain ⟨ad, x, rfl, hcx, hx⟩ := (h.below hb).int (k := mo) (by have := HN.out; omega)
      have i1 : (mo : Int) < (n : Int) := by omega
      have i2 : (mo : Int) ≤ (c : Int) := by omega
      go_wp2
      go_loopg [9, 24] mo (fun g nv qv wx => ∃ (q : Nat) (t : Int), g = mo - q ∧ q ≤ mo ∧ qv = .int .i64 q ∧ nv = .int .i64 t ∧ 1 ≤ t ∧ t ≤ (mo : Int) + 1 ∧ wr = wx ∧ Hid (t = dpIn xs (dpL xs mo) x q))
      case atStart => exact ⟨0, 1, rfl, Nat.zero_le _, rfl, rfl, Int.le_refl _, by omega, rfl, rfl⟩
      case round =>
        obtain ⟨q, t, hgq, hq, rfl, rfl, ht1, ht2, rfl, HT⟩ := hrel
        by_cases hlq : q < mo
        · obtain ⟨ad2, y, had2, hcy, hy⟩ := (h.below hb).int (k := q) (by have := HN.out; omega)
          obtain rfl : ad = ad2 := by injection had2
          clear had2
          obtain ⟨po, l, rfl, hcl, hl9⟩ := ho.rd.int (k := q) (by rw [dpL_len]; exact hlq)
          have hlb := dpL_bd xs mo l (List.mem_of_getElem? hl9.out)
          have hl0 : -1 ≤ l := by
            have h9 := hl9.out
            have h8 : ∀ i, ∀ v ∈ dpL xs i, (1 : Int) ≤ v := by
              intro i
              induction i with
              | zero => simp [dpL]
              | succ i ih =>
                intro v hv
                rw [dpL, List.mem_append, List.mem_singleton] at hv
                rcases hv with hv | rfl
                · exact ih v hv
                · exact (dpIn_bd (dpL_bd xs i) (by omega) i).1
            have := h8 mo l (List.mem_of_getElem? h9)
            omega
          have q1 : (q : Int) < (mo : Int) := by omega
          have HF := Lib.hid (i_follows y x wr)
          by_cases hxy : y ≤ x
          · have d1 : decide (y ≤ x) = true := by simpa using hxy
            rw [d1] at HF
            have HT2 : Hid (max t (l + 1) = dpIn xs (dpL xs mo) x (q + 1)) := by rw [Hid, dpIn, getD_ok hy.out, getD_ok hl9.out, if_pos hxy, ← HT.out]
            go_wp2_with (go_at_call 177; refine HF.out.mono ?_; rintro e w' ⟨rfl, rfl⟩)
            all_goals (
              go_roundg (mo - (q + 1))
              case measure => omega
              case rel => exact ⟨q + 1, _, rfl, by omega, by go_num, rfl, by omega, by omega, rfl, by have := HT2.out; rw [Hid, ← this]; omega⟩)
          · have d1 : decide (y ≤ x) = false := by simpa using hxy
            rw [d1] at HF
            have HT2 : Hid (t = dpIn xs (dpL xs mo) x (q + 1)) := by rw [Hid, dpIn, getD_ok hy.out, if_neg hxy, ← HT.out]
            go_wp2_with (go_at_call 177; refine HF.out.mono ?_; rintro e w' ⟨rfl, rfl⟩)
            go_roundg (mo - (q + 1))
            case measure => omega
            case rel => exact ⟨q + 1, t, rfl, by omega, by go_num, rfl, ht1, ht2, rfl, HT2⟩
        · obtain rfl : q = mo := by omega
          have hsb := hb.size
          have HLo : Hid ((ints (dpL xs q)).length = q) := by rw [Hid, ints_length, dpL_len]
          have HC : Hid (ints (dpL xs (q + 1)) = ints (dpL xs q) ++ [.int .i64 t]) := by rw [Hid, dpL, ints_append, getD_ok hx.out, HT.out]; rfl
          have HZ2 : Hid (max z t = dpB xs (q + 1)) := by rw [Hid, dpB, getD_ok hx.out, ← HT.out, ← HZ.out]
          go_wp2_with (at_builtin; refine wpList_app1m rfl _ _ 23 rfl elI rfl ho (by show Value.slice (some ⟨wr.heap.size, 0, none⟩) 1 1 = _; simp) rfl hsb _ HLo.out (by omega) (by omega) ?_; intro b5 c5 w5 ho5 hg5 hat5)
          all_goals (
            go_roundg (n - (q + 1))
            case measure => omega
            case rel => exact ⟨q + 1, _, rfl, by omega, by go_num, rfl, by omega, by omega, by have := HZ2.out; rw [Hid, ← this]; omega, by rw [HC.out]; exact ho5, hb.grown hg5 hsb (fun r hr => (ho.lt r hr).1)⟩)
    · obtain rfl : mo = n := by omega
      go_wp2
      go_ret
      exact ⟨by rw [← HZ.out]; rfl, hb⟩

theorem i_LongestRising (v : Value) (xs : List Int) (w : World) (h : Rd w v (ints xs)) (hl : xs.length ≤ 12) : Calls Tryz.prog 114 #[v] w (RetB (.int .i64 (dpB xs xs.length)) w) := by
  have HO := i_isTwelve v xs w h
  rw [show decide (xs.length ≤ 12) = true by simpa using hl] at HO
  have HOK := Lib.hid HO
  have HC := Lib.hid (i_longest v xs w h hl)
  obtain ⟨a, n, c, rfl, HN, hnc, hc⟩ := h.formN
  clear HO
  generalize dpB xs xs.length = z at *
  go_enter Tryz.func114, Tryz.ntmps114
  go_wp2_with (first
    | (go_at_call 56; refine HOK.out.mono ?_; rintro e w' ⟨rfl, rfl⟩)
    | (go_at_call 176; refine HC.out.mono ?_; rintro e w2 ⟨rfl, hb2⟩))
  go_ret
  exact ⟨rfl, hb2⟩

theorem i_RemoveLeast (v : Value) (xs : List Int) (w : World) (h : Rd w v (ints xs)) (hl : xs.length ≤ 12) : Calls Tryz.prog 59 #[v] w (RetB (.int .i64 ((xs.length : Int) - dpB xs xs.length)) w) := by
  have HO := i_isTwelve v xs w h
  rw [show decide (xs.length ≤ 12) = true by simpa using hl] at HO
  have HOK := Lib.hid HO
  have HC := Lib.hid (i_LongestRising v xs w h hl)
  have hz := dpB_bd xs xs.length
  obtain ⟨a, n, c, rfl, HN, hnc, hc⟩ := h.formN
  rw [← HN.out] at hz hl HC ⊢
  clear HO
  generalize dpB xs n = z at *
  go_enter Tryz.func59, Tryz.ntmps59
  go_wp2_with (first
    | (go_at_call 56; refine HOK.out.mono ?_; rintro e w' ⟨rfl, rfl⟩)
    | (go_at_call 114; refine HC.out.mono ?_; rintro e w2 ⟨rfl, hb2⟩))
  go_ret
  exact ⟨rfl, hb2⟩

end Go.Proofs.YtggblfnajeikjaaGreatDoor
