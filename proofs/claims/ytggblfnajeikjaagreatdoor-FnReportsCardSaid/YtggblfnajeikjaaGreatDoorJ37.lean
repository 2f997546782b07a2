/- Joined texts of the proof: Known. -/
import Derived.WalkKit
import Derived.WalkSpells
import Derived.WalkLawsBesides
import Derived.Deep.Draws
import Derived.Lib.Hide
import Derived.RegionTactic
import Derived.Test.YtggblfnajeikjaaGreatDoorRows
import Derived.BigQuiet
import Derived.Deep.QuietTactic
import Derived.Lib.SliceRun
import Derived.Deep.DeepCutAuto
import Derived.Deep.LoopGhost
import Derived.Deep.RegionHeld3
import Derived.Shelf.Strings.Builder1
import Derived.Shelf.Strings.Builder2
import Derived.Shelf.Strings.OnBuilder
import Derived.Shelf.Strconv.Atoi
import Derived.Shelf.Strconv.Itoa0
import Derived.Shelf.Strconv.Itoa1
import Derived.Shelf.LaysM
import Derived.Shelf.Strconv.Itoa2
import Derived.Shelf.Strconv.Itoa3
import Derived.Shelf.Strconv.AtoiErrFast
import Derived.Shelf.Strconv.ParseIntEmpty
import Derived.Shelf.Strconv.AtoiFail
import Derived.Shelf.Strconv.Clone
import Derived.Shelf.Strconv.SyntaxError
import Derived.Shelf.LaysC
import Derived.Shelf.Strconv.ToError
import Derived.Shelf.Strconv.Lower
import Derived.Shelf.Strconv.ParseUint10
import Derived.Shelf.Strconv.ParseUint10Empty
import Derived.Shelf.Strconv.ParseUint10Any
import Derived.Shelf.Strconv.ParseInt10
import Derived.Shelf.Strconv.AtoiLong
import Derived.Shelf.Strconv.AtoiInnerAll
import Derived.Shelf.Strconv.RangeError
import Derived.Shelf.Strconv.ToErrorRange
import Derived.Shelf.Strconv.AtoiAll
import Derived.Shelf.Strconv.ErrVarAll
import Derived.Shelf.Strings.Search1
import Derived.Shelf.Strings.Search2
import Derived.Shelf.Strings.Search3
import Derived.Shelf.Strings.Cut
import Derived.Shelf.Strings.Count
import Derived.Shelf.Strings.Shaped
import Derived.Shelf.Sort.Plain
import Derived.Shelf.Strings.Prefix
import Derived.Shelf.Strings.Split
import Derived.Shelf.Unicode.DecodeSlow
import Derived.Shelf.Slices.Reverse
import Derived.Ground.Names2Prog
import Derived.Shelf.Slices.CompactI
import Derived.Test.YtggblfnajeikjaaGreatDoorProg
import Derived.Lib.RowBridge
import Derived.Sort.OwnSortedInts
import Derived.Test.YtggblfnajeikjaaGreatDoorJ1
import Derived.Test.YtggblfnajeikjaaGreatDoorJ3
import Derived.Test.YtggblfnajeikjaaGreatDoorJ6
import Derived.Test.YtggblfnajeikjaaGreatDoorJ7
import Derived.Test.YtggblfnajeikjaaGreatDoorJ9
import Derived.Test.YtggblfnajeikjaaGreatDoorJ10
import Derived.Test.YtggblfnajeikjaaGreatDoorJ16
import Derived.Test.YtggblfnajeikjaaGreatDoorJ19
import Derived.Test.YtggblfnajeikjaaGreatDoorJ34
import Derived.Test.YtggblfnajeikjaaGreatDoorJ35
import Derived.Test.YtggblfnajeikjaaGreatDoorJ36
namespace Go.Proofs.YtggblfnajeikjaaGreatDoor
open Go.RowKit
set_option linter.unusedVariables false
set_option linter.unusedSimpArgs false

def dedN (M : Nat) (l : List Nat) : List Nat := (List.range M).filter fun r => l.contains r
theorem dedL_natsI (M : Nat) (l : List Nat) : dedL M l = natsI (dedN M l) := rfl
def badB (i k r : Nat) : Bool := r.testBit i && !r.testBit k
def knP (res : List Nat) (i k : Nat) : Bool := decide (i ≠ k) && !res.any (badB i k)
def kL (p : Nat → Nat → Bool) (n : Nat) : Nat → List (List Int)
  | 0 => []
  | i + 1 => kL p n i ++ fltAt p i n
theorem kL_len (p : Nat → Nat → Bool) (n : Nat) : ∀ i, (kL p n i).length ≤ n * i
  | 0 => Nat.zero_le _
  | i + 1 => by
    have := kL_len p n i
    have := fltAt_len p i n
    simp only [kL, List.length_append, Nat.mul_succ]
    omega
def resN (n : Int) (xss : List (List Int)) : List Nat := dedN (2 ^ n.toNat) ((List.range (2 ^ n.toNat)).map (outM xss))
def knownL (n : Int) (xss : List (List Int)) : List (List Int) := if netOk n xss then kL (knP (resN n xss)) n.toNat n.toNat else []
theorem knownL_no {n : Int} {xss : List (List Int)} (h : netOk n xss = false) : knownL n xss = [] := by rw [knownL, if_neg (by simp [h])]
theorem knownL_ok {n : Int} {xss : List (List Int)} (h : netOk n xss = true) : knownL n xss = kL (knP (resN n xss)) n.toNat n.toNat := by rw [knownL, if_pos h]
theorem knownL_len (n : Int) (xss : List (List Int)) : (knownL n xss).length ≤ 64 := by
  cases hk : netOk n xss
  · rw [knownL_no hk]; simp
  · rw [knownL_ok hk]
    obtain ⟨N, rfl, _, h8, _⟩ := netOk_n hk
    have := kL_len (knP (resN (N : Int) xss)) N N
    simp only [Int.toNat_natCast]
    have : N * N ≤ 8 * 8 := Nat.mul_le_mul h8 h8
    omega
theorem resN_nats {n : Int} {xss : List (List Int)} (h : netOk n xss = true) : resL n xss = natsI (resN n xss) := by rw [resL_ok h, dedL_natsI]; rfl
theorem resN_lt {n : Int} {xss : List (List Int)} : ∀ r ∈ resN n xss, r < 2 ^ n.toNat := fun r hr => by
  simp only [resN, dedN, List.mem_filter, List.mem_range] at hr
  exact hr.1
theorem resN_pos {N : Nat} {xss : List (List Int)} (h : netOk (N : Int) xss = true) : 0 < (resN (N : Int) xss).length := by
  have h0 : 0 < 2 ^ N := Nat.two_pow_pos N
  have h1 := runM_lt h h0 xss.length
  have : outM xss 0 ∈ resN (N : Int) xss := by
    simp only [resN, dedN, List.mem_filter, List.mem_range, Int.toNat_natCast, List.contains_iff_mem, List.mem_map]
    exact ⟨h1, 0, h0, rfl⟩
  exact List.length_pos_of_mem this
theorem resN_len (n : Int) (xss : List (List Int)) : (resN n xss).length ≤ 2 ^ n.toNat := Nat.le_trans (List.length_filter_le _ _) (by simp)
theorem any_natsI (res : List Nat) (i k : Nat) : ((natsI res).any fun x => badB i k x.toNat) = res.any (badB i k) := by
  rw [natsI, List.any_map]
  rfl

theorem grown_cell {w w' : World} {row : Option Nat} (hg : w.grownBy w' row) (p : Addr) (hp : p.block < w.heap.size) (hne : some p.block ≠ row) : w'.cell? p = w.cell? p := by
  simp only [World.cell?, hg.block _ hp hne]

theorem k_Kno : Known 120 := known Tryz.func120 (by kernel_rfl) (by kernel_rfl)
set_option maxHeartbeats 1000000 in
theorem i_Kno1 (m i k b1 b2 : Nat) (hm : m < 256) (hi : i < 8) (hk : k < 8) (w : World) (c0 : w.cell? ⟨b1, 0, none⟩ = some (.int .i64 i)) (c1 : w.cell? ⟨b2, 0, none⟩ = some (.int .i64 k)) :
    Calls Tryz.prog 120 #[.int .i64 m, .pointer (some ⟨b1, 0, none⟩), .pointer (some ⟨b2, 0, none⟩)] w fun e w' => e = .returned (.bool (badB i k m)) ∧ w = w' := by
  have e1 := bit_of m hm i hi
  have e2 := bit_of m hm k hk
  cases h1 : m.testBit i
  · have HR : Hid (badB i k m = false) := by rw [Hid, badB, h1]; rfl
    rw [h1] at e1
    have q1 : bits BinOp.and IntKind.i64 ((m : Int) / 2 ^ i) 1 = 0 := e1
    clear e1 e2 h1
    go_enter Tryz.func120, Tryz.ntmps120
    go_wp2
    go_ret
    exact ⟨ret_bool HR.out.symm, rfl⟩
  · rw [h1] at e1
    have q1 : bits BinOp.and IntKind.i64 ((m : Int) / 2 ^ i) 1 = 1 := e1
    clear e1
    cases h2 : m.testBit k
    · have HR : Hid (badB i k m = true) := by rw [Hid, badB, h1, h2]; rfl
      rw [h2] at e2
      have q2 : bits BinOp.and IntKind.i64 ((m : Int) / 2 ^ k) 1 = 0 := e2
      clear e2 h1 h2
      go_enter Tryz.func120, Tryz.ntmps120
      go_wp2
      go_ret
      exact ⟨ret_bool HR.out.symm, rfl⟩
    · have HR : Hid (badB i k m = false) := by rw [Hid, badB, h1, h2]; rfl
      rw [h2] at e2
      have q2 : bits BinOp.and IntKind.i64 ((m : Int) / 2 ^ k) 1 = 1 := e2
      clear e2 h1 h2
      go_enter Tryz.func120, Tryz.ntmps120
      go_wp2
      go_ret
      exact ⟨ret_bool HR.out.symm, rfl⟩
set_option maxRecDepth 100000 in
set_option maxHeartbeats 4000000 in
theorem i_KnownOrder (n : Int) (v : Value) (xss : List (List Int)) (w : World) (h : Rd2 w v xss) (hn : I64 n) (hk : netOk n xss = true) : Calls Tryz.prog 66 #[.agg #[.int .i64 n, v]] w (RetOwn2 (knownL n xss) w) := by
  obtain ⟨a, c, rfl, h2, h3⟩ := h.form
  obtain ⟨w0, hw0, hb0, hz0, c0, c1⟩ := net_box w (.int .i64 n) (.slice a xss.length c) 30
  have hb1 : Below (w.heap.size + 1) w0 (w0.alloc (.cells #[] 23)) := (Below.refl _ _).alloc (by omega) _
  have HS := i_ResultsOf n _ xss (w0.alloc (.cells #[] 23)) (h.below (hb0.trans (hb1.mono (by omega)))) hn
  have HR := Lib.hid (knownL_ok hk)
  rw [resN_nats hk] at HS
  obtain ⟨N, rfl, hN1, hN8, hL60⟩ := netOk_n hk
  rw [Int.toNat_natCast] at HR
  have hp := pow_le8 hN8
  have hrl := resN_len (N : Int) xss
  have hr0 := resN_pos hk
  have hrb := resN_lt (n := (N : Int)) (xss := xss)
  rw [Int.toNat_natCast] at hrl hrb
  have C0 := Lib.hid c0
  have C1 := Lib.hid c1
  obtain ⟨res, hres⟩ : ∃ res, resN (N : Int) xss = res := ⟨_, rfl⟩
  rw [hres] at HS hrl hr0 hrb HR
  have HP : Hid (∀ i k, knP res i k = (decide (i ≠ k) && !res.any (badB i k))) := fun i k => rfl
  have HCF : Hid (∀ (u : Value) (W : World) (i k b1 b2 : Nat), i < 8 → k < 8 → Rd W u (ints (natsI res)) → W.cell? ⟨b1, 0, none⟩ = some (.int .i64 i) → W.cell? ⟨b2, 0, none⟩ = some (.int .i64 k) → Calls Tryz.prog 119 #[u, .func (.func 120) #[] #[.pointer (some ⟨b1, 0, none⟩), .pointer (some ⟨b2, 0, none⟩)]] W fun e w' => e = .returned (.bool (res.any (badB i k))) ∧ W = w') := fun u W i k b1 b2 hi hk8 hu d1 d2 => by
    have := f_ContainsFunc (fun x => badB i k x.toNat) 120 #[.pointer (some ⟨b1, 0, none⟩), .pointer (some ⟨b2, 0, none⟩)] k_Kno u (natsI res) W hu fun x hx => by
      simp only [natsI, List.mem_map] at hx
      obtain ⟨r, hr, rfl⟩ := hx
      have := hrb r hr
      exact i_Kno1 r i k b1 b2 (by omega) hi hk8 W d1 d2
    rwa [any_natsI] at this
  obtain ⟨p, hp0⟩ : ∃ p, knP res = p := ⟨_, rfl⟩
  rw [hp0] at HP HR
  have HNIL : Hid (∀ (W : World) (ad : Addr) (n c : Nat), (binOp .eql 23 (.slice (some ad) n c) (.slice none 0 0)).run Tryz.prog W = .ok (.bool false) W) := fun W ad n c => by
    have := Lib.run_eql_slice_nil (P := Tryz.prog) W 23 3 (some ad) n c 0 0 Tryz.underlying23
    simpa using this
  clear hk hres hrb hp0
  go_enter Tryz.func66, Tryz.ntmps66
  go_upto_region 5 with (go_at_call 67; refine HS.mono ?_; rintro e w2 ⟨vs, rfl, hos, hb2⟩; obtain ⟨as_, ns, cs, rfl, HNS, _, _⟩ := hos.rd.formN; obtain ⟨ads, has⟩ := hos.some_of (by rw [ints_length, natsI_len]; exact hr0); subst has; have hnil := HNIL.out w2 ads ns cs)
  have hz1 : (w0.alloc (.cells #[] 23)).heap.size = w0.heap.size + 1 := by simp
  have hb2' : Below (w.heap.size + 1) w0 w2 := hb1.trans (hb2.mono (by omega))
  have hs2 := hb2.size
  obtain ⟨c0, c1⟩ := Below.cells2 hb2' (Nat.lt_succ_self _) C0.out C1.out
  have hout : Own2 w2 23 3 (w.heap.size + 1) w2.heap.size (.slice (some ⟨w.heap.size + 1, 0, none⟩) 0 0) [] := by
    refine ⟨[], ?_, fun k hk => ?_, RowsOwn.nil _ _ _ _⟩
    · have := (Own.lit0 (B := w.heap.size + 1) w0 23 (by omega)).below hb2
      rw [hz0] at this
      exact this
    · simp [Value.ownBlock] at hk
      omega
  have hset : Own w2 3 (w.heap.size + 1) (.slice (some ads) ns cs) (ints (natsI res)) := hos.mono (by omega)
  go_wp2
  clear c0 c1 hos hnil hz1 hb2 HS hw0 hb1
  go_loopg [3, 14] N (fun g vo iv wr => ∃ i : Nat, g = N - i ∧ i ≤ N ∧ iv = .int .i64 i ∧ Own2 wr 23 3 (w.heap.size + 1) wr.heap.size vo (kL p N i) ∧ Own wr 3 (w.heap.size + 1) (.slice (some ads) ns cs) (ints (natsI res)) ∧ Below (w.heap.size + 1) w0 wr)
  case atStart => exact ⟨0, rfl, Nat.zero_le _, rfl, hout, hset, hb2'⟩
  case round =>
    clear hout hset hb2' hs2
    obtain ⟨i, hg, hil, rfl, ho, hset, hb⟩ := hrel
    obtain ⟨ao, co, rfl, _, _⟩ := ho.form
    obtain ⟨no, hno⟩ : ∃ no, (kL p N i).length = no := ⟨_, rfl⟩
    rw [hno] at ho ⊢
    clear hno
    by_cases hlt : i < N
    · obtain ⟨wo, rfl⟩ : ∃ wo : World, wo = wr := ⟨_, rfl⟩
      have g0 : wo.cell? ⟨w.heap.size, 0, none⟩ = some (.int .i64 N) := (hb.cell (Nat.lt_succ_self _)).trans C0.out
      obtain ⟨w5, hw5⟩ : ∃ w5, wo.alloc (.cells #[.int .i64 i] 3) = w5 := ⟨_, rfl⟩
      have hz5 : w5.heap.size = wo.heap.size + 1 := by rw [← hw5]; simp
      have hb5 : Below wo.heap.size wo w5 := by rw [← hw5]; exact (Below.refl _ _).alloc (Nat.le_refl _) _
      have d0 : w5.cell? ⟨wo.heap.size, 0, none⟩ = some (.int .i64 i) := by rw [← hw5]; exact (cell_of_row _ _ 0 _ _ (0, 0) (heap_alloc_new wo _)).trans rfl
      have g5 : w5.cell? ⟨w.heap.size, 0, none⟩ = some (.int .i64 N) := (hb5.cell (World.block_lt_of_cell? _ _ g0)).trans g0
      have hsb := hb.size
      have hT : ∀ g, (Value.slice ao no co).ownBlock = some g → g ≠ wo.heap.size := fun g hg e => by
        obtain ⟨rows, hov, _, _⟩ := ho
        have := (hov.lt g hg).2
        omega
      have ho5 := (ho.below hb5).mono (Nat.le_refl (w.heap.size + 1)) (show wo.heap.size ≤ w5.heap.size by omega)
      have hset5 := hset.below hb5
      have hbb5 : Below (w.heap.size + 1) w0 w5 := hb.trans (hb5.mono (by omega))
      obtain ⟨bi, hbi⟩ : ∃ bi, wo.heap.size = bi := ⟨_, rfl⟩
      rw [hbi] at d0 hT
      have hbi2 : w.heap.size < bi := by omega
      clear g0 ho hset
      go_wp2
      try rw [hw5]
      try rw [hbi]
      clear hw5 hb5 g5 hz5
      go_loopg [3, 19] N (fun g vo kv wr => ∃ k : Nat, g = N - k ∧ k ≤ N ∧ kv = .int .i64 k ∧ Own2 wr 23 3 (w.heap.size + 1) wr.heap.size vo (kL p N i ++ fltAt p i k) ∧ Own wr 3 (w.heap.size + 1) (.slice (some ads) ns cs) (ints (natsI res)) ∧ Below (w.heap.size + 1) w0 wr ∧ (∀ g, vo.ownBlock = some g → g ≠ bi) ∧ wr.cell? ⟨bi, 0, none⟩ = some (.int .i64 i))
      case atStart => exact ⟨0, rfl, Nat.zero_le _, rfl, by simpa [fltAt] using ho5, hset5, hbb5, hT, d0⟩
      case round =>
        clear ho5 hset5 hbb5 hT d0
        obtain ⟨k, hgk, hkl, rfl, ho, hset, hb, hT, d0⟩ := hrel
        by_cases hltk : k < N
        · obtain ⟨wy, rfl⟩ : ∃ wy : World, wy = wr := ⟨_, rfl⟩
          obtain ⟨w6, hw6⟩ : ∃ w6, wy.alloc (.cells #[.int .i64 k] 3) = w6 := ⟨_, rfl⟩
          have hz6 : w6.heap.size = wy.heap.size + 1 := by rw [← hw6]; simp
          have hb6 : Below wy.heap.size wy w6 := by rw [← hw6]; exact (Below.refl _ _).alloc (Nat.le_refl _) _
          have d1 : w6.cell? ⟨wy.heap.size, 0, none⟩ = some (.int .i64 k) := by rw [← hw6]; exact (cell_of_row _ _ 0 _ _ (0, 0) (heap_alloc_new wy _)).trans rfl
          have d6 : w6.cell? ⟨bi, 0, none⟩ = some (.int .i64 i) := (hb6.cell (World.block_lt_of_cell? _ _ d0)).trans d0
          have hbiy := World.block_lt_of_cell? _ _ d0
          have hsb := hb.size
          have hCF := HCF.out (.slice (some ads) ns cs) w6 i k bi wy.heap.size (by omega) (by omega) (hset.below hb6).rd d6 d1
          have hpk := HP.out i k
          obtain ⟨bk, hbk⟩ : ∃ bk, wy.heap.size = bk := ⟨_, rfl⟩
          rw [hbk] at d1 hCF
          have HYN : Hid ((p i k = true → fltAt p i (k + 1) = fltAt p i k ++ [[(i : Int), (k : Int)]]) ∧ (p i k = false → fltAt p i (k + 1) = fltAt p i k)) := ⟨fltAt_yes, fltAt_no⟩
          generalize p i k = b at hpk HYN
          by_cases hik : i = k
          · have q0 : ((i : Int) != (k : Int)) = false := by simp [hik]
            have hbf : b = false := by rw [hpk, hik]; simp
            have HA := Lib.hid (HYN.out.2 hbf)
            clear HYN hpk hbf hik hCF
            go_wp2
            try rw [hw6]
            go_roundg (N - (k + 1))
            case measure => omega
            case rel => exact ⟨k + 1, rfl, by omega, by go_num, by rw [HA.out]; exact (ho.below hb6).mono (Nat.le_refl _) hb6.size, hset.below hb6, hb.trans (hb6.mono (by omega)), hT, d6⟩
          · have q0 : ((i : Int) != (k : Int)) = true := by rw [bne_iff_ne]; omega
            rw [show decide (i ≠ k) = true by simpa using hik, Bool.true_and] at hpk
            have HCH := Lib.hid hCF
            generalize res.any (badB i k) = q at HCH hpk
            clear hik hCF
            cases q
            · have HA := Lib.hid (HYN.out.1 hpk)
              clear HYN hpk
              obtain ⟨rows, hov, hTT, hrows⟩ := ho
              have hrl2 : rows.length ≤ 200 := by
                have e1 := hrows.1
                have e2 := kL_len p N i
                have e3 := fltAt_len p i k
                rw [List.length_append] at e1
                have : N * i ≤ 8 * 8 := Nat.mul_le_mul hN8 (by omega)
                omega
              obtain ⟨aq, cq, rfl, _, _⟩ := hov.rd.form
              obtain ⟨nr, hnr⟩ : ∃ nr, rows.length = nr := ⟨_, rfl⟩
              have HNR := Lib.hid hnr
              rw [hnr] at hov hrl2 hT hTT ⊢
              clear hnr
              go_upto_region 12 with (go_at_call 119; refine HCH.out.mono ?_; rintro e w' ⟨rfl, rfl⟩)
              try rw [hw6]
              obtain ⟨w7, hw7⟩ : ∃ w7, w6.alloc (.cells #[.int .i64 i, .int .i64 k] 3) = w7 := ⟨_, rfl⟩
              have hs7 : w7.heap.size = w6.heap.size + 1 := by rw [← hw7]; simp
              have hb67 : Below w6.heap.size w6 w7 := by rw [← hw7]; exact (Below.refl _ _).alloc (Nat.le_refl _) _
              have hb7 : Below wy.heap.size wy w7 := hb6.trans (hb67.mono (by omega))
              have hrow : Own w7 3 w6.heap.size (.slice (some ⟨w6.heap.size, 0, none⟩) 2 2) (ints [(i : Int), (k : Int)]) := by rw [← hw7]; exact row2_own w6 _ _ _ (Nat.le_refl _) _
              rw [show w6.heap.size = bk + 1 by omega] at hrow
              have hov3 := hov.below hb7
              have hB3 : w.heap.size + 1 ≤ w7.heap.size := by omega
              have hn1 : (nr + 1) * 24 ≤ 140737488355328 := by omega
              have hn2 : nr + 1 ≤ 9223372036854775807 := by omega
              go_wp2_with (at_builtin; (refine wpList_app1m rfl _ _ 28 rfl elII ?_ hov3 ?_ ?_ hB3 nr HNR.out hn1 hn2 ?_); (focus exact rfl); (focus (simp [Act.eval])); (focus exact rfl); intro bn cn' w8 ho8 hg8 hat8)
              have ho9 := Own2.app ((hrows.below hb7).snoc (hrow.mono (show w.heap.size + 1 ≤ bk + 1 by omega)) (fun k hk => by simp [Value.ownBlock] at hk; omega) (show wy.heap.size ≤ w7.heap.size by omega)) hov3 (by decide) hg8 ho8 hg8.size
              have hb8 := (hb.trans (hb7.mono (by omega))).grown hg8 hB3 fun r hr => (hov3.lt r hr).1
              have hset7 := hset.below hb7
              have hset8 := hset7.apart hg8 fun g h2 h3 => Own.elem_ne hset7 hov3 (by decide) g h2 h3
              have hd8 : w8.cell? ⟨bi, 0, none⟩ = some (.int .i64 i) := (grown_cell hg8 _ (show bi < w7.heap.size by omega) fun e => hT bi e.symm rfl).trans ((hb7.cell hbiy).trans d0)
              go_roundg (N - (k + 1))
              case measure => omega
              case rel => exact ⟨k + 1, rfl, by omega, by go_num, by rw [HA.out, ← List.append_assoc]; exact ho9, hset8, hb8, fun g hg e => by
                rcases hat8 with e8 | ⟨q, hq', e8⟩
                · exact hT g (e8 ▸ hg) e
                · rw [e8] at hg
                  cases hg
                  omega, hd8⟩
            · have HA := Lib.hid (HYN.out.2 hpk)
              clear HYN hpk
              go_wp2_with (go_at_call 119; refine HCH.out.mono ?_; rintro e w' ⟨rfl, rfl⟩)
              try rw [hw6]
              go_roundg (N - (k + 1))
              case measure => omega
              case rel => exact ⟨k + 1, rfl, by omega, by go_num, by rw [HA.out]; exact (ho.below hb6).mono (Nat.le_refl _) hb6.size, hset.below hb6, hb.trans (hb6.mono (by omega)), hT, d6⟩
        · obtain rfl : N = k := by omega
          go_wp2
          go_roundg (N - (i + 1))
          case measure => omega
          case rel => exact ⟨i + 1, rfl, by omega, by go_num, ho, hset, hb⟩
    · obtain rfl : N = i := by omega
      go_wp2
      go_ret
      rw [HR.out]
      exact ⟨_, rfl, ho.mono (by omega) (Nat.le_refl _), hb0.trans (hb.mono (by omega))⟩

end Go.Proofs.YtggblfnajeikjaaGreatDoor
