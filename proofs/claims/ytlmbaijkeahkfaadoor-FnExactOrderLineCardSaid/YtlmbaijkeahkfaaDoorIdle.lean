/- Walks: idle comparators. -/
import Derived.Test.YtlmbaijkeahkfaaDoorBits5
import Derived.Deep.DeepCutAuto
namespace Go.Proofs.YtlmbaijkeahkfaaDoor
open Go.RowKit
set_option linter.unusedVariables false
set_option linter.unusedSimpArgs false

def chgB (xss : List (List Int)) (m k : Nat) : Bool := decide (runM xss m (k + 1) ≠ runM xss m k)
/-- How many masks below M a comparator exchanges bits of. -/
def useC (xss : List (List Int)) (M j : Nat) : Nat := ((List.range M).filter fun m => chgB xss m j).length
theorem useC_le (xss : List (List Int)) (M j : Nat) : useC xss M j ≤ M := Nat.le_trans (List.length_filter_le _ _) (by simp)
theorem useC_succ (xss : List (List Int)) (m j : Nat) : useC xss (m + 1) j = useC xss m j + (if chgB xss m j then 1 else 0) := by
  simp only [useC, List.range_succ, List.filter_append, List.length_append]
  cases h : chgB xss m j <;> simp [h]
def useS (xss : List (List Int)) (m k j : Nat) : Int := ((useC xss m j + (if decide (j < k) && chgB xss m j then 1 else 0) : Nat) : Int)
theorem useS_zero (xss : List (List Int)) (L : Nat) : atL L (useS xss 0 0) = List.replicate L 0 := by
  rw [List.eq_replicate_iff]
  simp [atL, useS, useC]
theorem useS_next (xss : List (List Int)) (L m : Nat) : atL L (useS xss m L) = atL L (useS xss (m + 1) 0) := by
  unfold atL
  apply List.map_congr_left
  intro j hj
  simp only [List.mem_range] at hj
  simp only [useS, useC_succ, hj]
  cases chgB xss m j <;> simp
theorem useS_no {xss : List (List Int)} {L m k : Nat} (h : chgB xss m k = false) : atL L (useS xss m k) = atL L (useS xss m (k + 1)) := by
  unfold atL
  apply List.map_congr_left
  intro j hj
  simp only [useS]
  by_cases e : j = k
  · subst e; simp [h]
  · have : decide (j < k + 1) = decide (j < k) := by rw [decide_eq_decide]; omega
    rw [this]
theorem useS_yes {xss : List (List Int)} {L m k : Nat} (h : chgB xss m k = true) : (atL L (useS xss m k)).set k (useS xss m k k + 1) = atL L (useS xss m (k + 1)) := by
  apply List.ext_getElem?
  intro q
  rw [List.getElem?_set]
  by_cases hq : q < L
  · rw [atL_get _ hq, atL_get _ hq, atL_length]
    by_cases e : k = q
    · subst e; simp [hq, useS, h]
    · have : decide (q < k + 1) = decide (q < k) := by rw [decide_eq_decide]; omega
      simp only [useS, this]
      simp [e]
  · have e1 : (atL L (useS xss m k))[q]? = none := List.getElem?_eq_none (by rw [atL_length]; omega)
    have e2 : (atL L (useS xss m (k + 1)))[q]? = none := List.getElem?_eq_none (by rw [atL_length]; omega)
    rw [e1, e2, atL_length]
    by_cases e : k = q
    · subst e; simp [hq]
    · simp [e]
theorem useS_bd (xss : List (List Int)) (m k j : Nat) : 0 ≤ useS xss m k j ∧ useS xss m k j ≤ m + 1 := by
  have := useC_le xss m j
  unfold useS
  split <;> omega
def useL (xss : List (List Int)) (M : Nat) : List Int := atL xss.length (useS xss M 0)
def idleK (xss : List (List Int)) (M k : Nat) : List Int := ((List.range k).filter fun j => decide (useC xss M j = 0)).map fun (j : Nat) => (j : Int)
theorem idleK_yes {xss : List (List Int)} {M k : Nat} (h : useC xss M k = 0) : idleK xss M (k + 1) = idleK xss M k ++ [(k : Int)] := by simp [idleK, List.range_succ, h]
theorem idleK_no {xss : List (List Int)} {M k : Nat} (h : useC xss M k ≠ 0) : idleK xss M (k + 1) = idleK xss M k := by simp [idleK, List.range_succ, h]
theorem idleK_len (xss : List (List Int)) (M k : Nat) : (idleK xss M k).length ≤ k := by
  rw [idleK, List.length_map]
  exact Nat.le_trans (List.length_filter_le _ _) (by simp)
def idleL (n : Int) (xss : List (List Int)) : List Int := if netOk n xss then idleK xss (2 ^ n.toNat) xss.length else []
theorem idleL_no {n : Int} {xss : List (List Int)} (h : netOk n xss = false) : idleL n xss = [] := by rw [idleL, if_neg (by simp [h])]
theorem idleL_ok {n : Int} {xss : List (List Int)} (h : netOk n xss = true) : idleL n xss = idleK xss (2 ^ n.toNat) xss.length := by rw [idleL, if_pos h]
theorem idleL_bd (n : Int) (xss : List (List Int)) : I64s (idleL n xss) ∧ (idleL n xss).length ≤ 60 := by
  cases hk : netOk n xss
  · rw [idleL_no hk]; exact ⟨fun x hx => (by cases hx), by simp⟩
  · rw [idleL_ok hk]
    obtain ⟨N, rfl, _, h8, h60⟩ := netOk_n hk
    refine ⟨fun x hx => ?_, by have := idleK_len xss (2 ^ (N : Int).toNat) xss.length; omega⟩
    simp only [idleK, List.mem_map, List.mem_filter, List.mem_range] at hx
    obtain ⟨j, ⟨hj, _⟩, rfl⟩ := hx
    unfold I64
    omega
theorem chg_of' : ∀ m : Nat, m < 256 → ∀ i : Nat, i < 8 → ∀ k : Nat, k < 8 → (i == k || (decide (stepN m i k ≠ m) == (m.testBit i && !m.testBit k))) = true := by decide +kernel
theorem chg_of {m i k : Nat} (hm : m < 256) (hi : i < 8) (hk : k < 8) (hik : i ≠ k) : decide (stepN m i k ≠ m) = (m.testBit i && !m.testBit k) := by
  have := chg_of' m hm i hi k hk
  simpa [hik] using this

set_option maxRecDepth 100000 in
set_option maxHeartbeats 4000000 in
theorem i_uses (N : Nat) (v : Value) (xss : List (List Int)) (w : World) (h : Rd2 w v xss) (hk : netOk (N : Int) xss = true) :
    Calls Tryd.prog 125 #[.agg #[.int .i64 N, v]] w (RetOwn 3 (ints (useL xss (2 ^ N))) w) := by
  obtain ⟨N', e, hN1, hN8, hL60⟩ := netOk_n hk
  obtain rfl : N = N' := by omega
  clear e
  have hp := pow_le8 hN8
  have e2 := shl_of N (by omega)
  obtain ⟨a, c, rfl, _, _⟩ := h.form
  obtain ⟨w0, hw0, hb0, hz0, c0, c1⟩ := net_box w (.int .i64 N) (.slice a xss.length c) 32
  have h' := h.below hb0
  have HL := Lib.hid (fun m (hm : m < 2 ^ N) k => runM_lt hk hm k)
  have HP := Lib.hid (fun (W : World) (hW : Rd2 W (.slice a xss.length c) xss) (k : Nat) (hlt : k < xss.length) => hW.pair hk hlt)
  have C0 := Lib.hid c0
  have C1 := Lib.hid c1
  obtain ⟨M, hM⟩ : ∃ M, 2 ^ N = M := ⟨_, rfl⟩
  rw [hM] at hp e2 HL ⊢
  have HU : Hid (useL xss M = atL xss.length (useS xss M 0)) := rfl
  obtain ⟨L, hLe⟩ : ∃ L, xss.length = L := ⟨_, rfl⟩
  rw [hLe] at hL60 c1 C1 HP h' HU hw0
  have H' := Lib.hid h'
  clear hk hM
  go_enter Tryd.func125, Tryd.ntmps125
  rw [hLe]
  go_upto_region 2 with (at_make; (refine wpList_mk (n := L) (B := w.heap.size + 1) rfl _ _ 22 rfl elI ?_ ?_ (by omega) (by omega) (by omega) ?_); (focus exact rfl); (focus exact rfl); intro b w4 hb4 ho4 hg4)
  have hb04 : Below (w.heap.size + 1) w0 w4 := (Below.refl _ _).grown hg4 (by omega) (fun _ h => by cases h)
  have ho5 : Own w4 3 (w.heap.size + 1) (.slice (some b) L L) (ints (atL L (useS xss 0 0))) := by
    rw [useS_zero]
    have : ints (List.replicate L 0) = List.replicate L (Value.int .i64 0) := by simp [ints]
    rw [this]
    exact ho4
  obtain ⟨g0, g1⟩ := Below.cells2 hb04 (Nat.lt_succ_self _) c0 c1
  clear c0 c1 hw0 hb4 hg4 ho4
  go_wp2
  try rw [e2]
  clear e2 g0 g1
  go_loopg [15] M (fun g mv wr => ∃ m : Nat, g = M - m ∧ m ≤ M ∧ mv = .int .i64 m ∧ Own wr 3 (w.heap.size + 1) (.slice (some b) L L) (ints (atL L (useS xss m 0))) ∧ Below (w.heap.size + 1) w0 wr)
  case atStart => exact ⟨0, rfl, Nat.zero_le _, rfl, ho5, hb04⟩
  case round =>
    clear ho5 hb04
    obtain ⟨m, hg, hml, rfl, ho, hb⟩ := hrel
    by_cases hlt : m < M
    · obtain ⟨wo, rfl⟩ : ∃ wo : World, wo = wr := ⟨_, rfl⟩
      have g1 : wo.cell? ⟨w.heap.size, 1, none⟩ = some (.slice a L c) := (hb.cell (Nat.lt_succ_self _)).trans C1.out
      have HLm := Lib.hid (fun k => HL.out m hlt k)
      have HNX : Hid (atL L (useS xss m L) = atL L (useS xss (m + 1) 0)) := useS_next xss L m
      go_wp2
      clear g1
      go_loopg [4, 21] L (fun g rv kv wr => ∃ k r : Nat, g = L - k ∧ k ≤ L ∧ kv = .int .i64 k ∧ rv = .int .i64 (r : Int) ∧ Own wr 3 (w.heap.size + 1) (.slice (some b) L L) (ints (atL L (useS xss m k))) ∧ Below (w.heap.size + 1) w0 wr ∧ Hid (r = runM xss m k))
      case atStart => exact ⟨0, m, rfl, Nat.zero_le _, rfl, rfl, ho, hb, rfl⟩
      case round =>
        clear ho hb
        obtain ⟨k, r, hgk, hkl, rfl, rfl, ho, hb, HRr⟩ := hrel
        by_cases hltk : k < L
        · obtain ⟨ad, z, d, x, y, hal, hc, hcx, hcy, hxN, hyN, hxy, hx⟩ := HP.out wr (H'.out.below (by rw [hz0]; exact hb)) k hltk
          subst hal
          have hr : r < 256 := by have := HLm.out k; rw [← HRr.out] at this; omega
          have HSX : Hid (stepN r x y = runM xss m (k + 1)) := by rw [Hid, runM_succ hx.out, ← HRr.out]
          have HCG : Hid (chgB xss m k = ((stepN r x y : Int) != (r : Int))) := by
            rw [Hid, chgB, ← HSX.out, ← HRr.out]
            by_cases e : stepN r x y = r
            · simp [e]
            · have : ¬ (stepN r x y : Int) = (r : Int) := by omega
              simp [e, this]
          have HK := Lib.hid (fun W => i_step r x y hr (by omega) (by omega) W)
          clear hx
          generalize stepN r x y = s at HSX HCG HK
          cases hq : ((s : Int) != (r : Int))
          · have HV : Hid (atL L (useS xss m k) = atL L (useS xss m (k + 1))) := useS_no (by rw [HCG.out, hq])
            go_wp2
            go_quiet ((go_at_call 153; exact Calls.quiet_of ((HK.out _).mono fun _ _ hh => ⟨hh.1, hh.2.imp fun _ e => e.symm⟩)))
            rename_i nq
            have ho2 := ho.drewN nq
            have hb2 : Below (w.heap.size + 1) w0 (wr.drewN nq) := hb.trans (Dr.below ((Dr.refl _).step _) _)
            go_wp2
            go_roundg (L - (k + 1))
            case measure => omega
            case rel => exact ⟨k + 1, s, rfl, by omega, by go_num, rfl, by rw [← HV.out]; exact ho2, hb2, HSX⟩
          · have HV : Hid ((atL L (useS xss m k)).set k (useS xss m k k + 1) = atL L (useS xss m (k + 1))) := useS_yes (by rw [HCG.out, hq])
            have hbd := useS_bd xss m k k
            have hta := ho.rd.cell_int' (atL_get (useS xss m k) hltk)
            have fz := ho.frozen rfl k
            have hL2 := atL_length L (useS xss m k)
            have HOS := Lib.hid (fun (nq : Nat) => by
              have hoW := ho.drewN nq
              have hs := (hoW.seti rfl (show k < (atL L (useS xss m k)).length by omega) (useS xss m k k + 1)).1
              have hbs := hoW.below_set rfl (show k < (atL L (useS xss m k)).length by omega) (.int .i64 (useS xss m k k + 1)) (hb.trans (Dr.below ((Dr.refl wr).step nq) _)) (Nat.le_refl _)
              rw [HV.out] at hs
              exact (⟨hs, hbs⟩ : Own ((wr.drewN nq).setCell (b.add k) (.int .i64 (useS xss m k k + 1))) 3 (w.heap.size + 1) (.slice (some b) L L) (ints (atL L (useS xss m (k + 1)))) ∧ Below (w.heap.size + 1) w0 ((wr.drewN nq).setCell (b.add k) (.int .i64 (useS xss m k k + 1)))))
            generalize useS xss m k k = u at hbd hta HOS
            clear HV hL2
            go_wp2
            go_quiet ((go_at_call 153; exact Calls.quiet_of ((HK.out _).mono fun _ _ hh => ⟨hh.1, hh.2.imp fun _ e => e.symm⟩)))
            rename_i nq
            obtain ⟨o1, o2⟩ := HOS.out nq
            have iw : IntKind.i64.wrap (u + 1) = u + 1 := IntWalk.i64_in _ (by omega)
            go_wp2
            go_roundg (L - (k + 1))
            case measure => omega
            case rel => exact ⟨k + 1, s, rfl, by omega, by go_num, rfl, o1, o2, HSX⟩
        · obtain rfl : L = k := by omega
          rw [HNX.out] at ho
          go_wp2
          go_roundg (M - (m + 1))
          case measure => omega
          case rel => exact ⟨m + 1, rfl, by omega, by go_num, ho, hb⟩
    · obtain rfl : M = m := by omega
      go_wp2
      go_ret
      exact ⟨_, rfl, by rw [HU.out]; exact ho.mono (by omega), hb0.trans (hb.mono (by omega))⟩

set_option maxRecDepth 100000 in
set_option maxHeartbeats 2000000 in
theorem i_IdleOf (n : Int) (v : Value) (xss : List (List Int)) (w : World) (h : Rd2 w v xss) (hn : I64 n) : Calls Tryd.prog 70 #[.agg #[.int .i64 n, v]] w (RetOwn 3 (ints (idleL n xss)) w) := by
  obtain ⟨a, c, rfl, h2, h3⟩ := h.form
  obtain ⟨w0, hw0, hb0, hz0, c0, c1⟩ := net_box w (.int .i64 n) (.slice a xss.length c) 32
  have h' := h.below hb0
  have HN := i_NetworkOk n _ xss _ h' hn
  cases hk : netOk n xss
  · rw [hk] at HN
    have HR := Lib.hid (idleL_no hk)
    go_enter Tryd.func70, Tryd.ntmps70
    go_wp2_with (go_at_call 48; refine HN.mono ?_; rintro e w2 ⟨rfl, hb2⟩)
    go_ret
    rw [HR.out]
    exact ⟨_, rfl, Own.nil _ _ _, hb0.trans (hb2.mono (by omega))⟩
  rw [hk] at HN
  have HR := Lib.hid (idleL_ok hk)
  obtain ⟨N, rfl, hN1, hN8, hL60⟩ := netOk_n hk
  rw [Int.toNat_natCast] at HR
  have C0 := Lib.hid c0
  have C1 := Lib.hid c1
  have HU := Lib.hid (fun (W : World) (hW : Below w.heap.size w W) => i_uses N _ xss W (h.below hW) hk)
  have HUL : Hid (useL xss (2 ^ N) = atL xss.length (useS xss (2 ^ N) 0)) := rfl
  obtain ⟨M, hM⟩ : ∃ M, 2 ^ N = M := ⟨_, rfl⟩
  rw [hM] at HR HU HUL
  obtain ⟨L, hLe⟩ : ∃ L, xss.length = L := ⟨_, rfl⟩
  rw [hLe] at hL60 c1 C1 HUL HU HR hw0 HN
  clear hk hM
  go_enter Tryd.func70, Tryd.ntmps70
  rw [hLe]
  go_wp2_with (first
    | (go_at_call 48; refine HN.mono ?_; rintro e w2 ⟨rfl, hb2⟩; have hbw2 : Below w.heap.size w w2 := hb0.trans (hb2.mono (by omega)); obtain ⟨c0, c1⟩ := Below.cells2 hb2 (show w.heap.size < w0.heap.size by omega) C0.out C1.out
       obtain ⟨wa, hwa⟩ : ∃ wa, w2.alloc (.cells #[] 3) = wa := ⟨_, rfl⟩
       have hza : wa.heap.size = w2.heap.size + 1 := by rw [← hwa]; simp
       have hba : Below w2.heap.size w2 wa := by rw [← hwa]; exact (Below.refl _ _).alloc (Nat.le_refl _) _
       have hbwa : Below w.heap.size w wa := hbw2.trans (hba.mono hbw2.size)
       have hsz2 := hb2.size
       have g0 : wa.cell? ⟨w.heap.size, 0, none⟩ = some (.int .i64 N) := (hba.cell (show w.heap.size < w2.heap.size by omega)).trans c0
       have g1 : wa.cell? ⟨w.heap.size, 1, none⟩ = some (.slice a L c) := (hba.cell (show w.heap.size < w2.heap.size by omega)).trans c1
       have hlit : Own wa 3 w.heap.size (.slice (some ⟨w2.heap.size, 0, none⟩) 0 0) (ints []) := by rw [← hwa]; exact Own.lit0 w2 3 (by omega)
       have hap : ∀ g, (Value.slice (some ⟨w2.heap.size, 0, none⟩) 0 0).ownBlock = some g → g < wa.heap.size := fun g hg => by
         simp [Value.ownBlock] at hg
         omega)
    | (go_at_call 125; refine (HU.out _ hbwa).mono ?_; rintro e w3 ⟨vs, rfl, hos, hb3⟩; obtain ⟨as_, ns, cs, rfl, HNS, _, _⟩ := hos.rd.formN))
  have hnsL : ns = L := by have := HNS.out; rw [HUL.out, atL_length] at this; exact this
  subst hnsL
  rw [HUL.out] at hos
  have hlit3 := hlit.below hb3
  have hb3' : Below w.heap.size w w3 := hbwa.trans (hb3.mono hbwa.size)
  have hap3 : ∀ g, (Value.slice (some ⟨w2.heap.size, 0, none⟩) 0 0).ownBlock = some g → (Value.slice as_ ns cs).ownBlock ≠ some g := fun g h1 h2 => by
    have := hap g h1
    have := (hos.lt g h2).1
    omega
  have hset := hos.mono (B' := w.heap.size) hbwa.size
  clear c0 c1 g0 g1 hos hb2 hba hb3 hbw2 hbwa hwa hza hsz2 hlit HU HN hw0 HNS hap
  go_loopg [3, 13] ns (fun g vo iv wr => ∃ k : Nat, g = ns - k ∧ k ≤ ns ∧ iv = .int .i64 k ∧ Own wr 3 w.heap.size vo (ints (idleK xss M k)) ∧ Own wr 3 w.heap.size (.slice as_ ns cs) (ints (atL ns (useS xss M 0))) ∧ (∀ g, vo.ownBlock = some g → (Value.slice as_ ns cs).ownBlock ≠ some g) ∧ Below w.heap.size w wr)
  case atStart => exact ⟨0, rfl, Nat.zero_le _, rfl, hlit3, hset, hap3, hb3'⟩
  case round =>
    clear hlit3 hset hap3 hb3'
    obtain ⟨k, hg, hkl, rfl, ho, hset, hap, hb⟩ := hrel
    obtain ⟨ao, no, co, rfl, HNO, _, _⟩ := ho.rd.formN
    by_cases hlt : k < ns
    · obtain ⟨ad, y, hal, hc, hy⟩ := hset.rd.int (k := k) (by rw [atL_length]; exact hlt)
      subst hal
      have hyv := hy.out
      rw [atL_get _ hlt] at hyv
      obtain rfl : useS xss M 0 k = y := by injection hyv
      have huv : useS xss M 0 k = (useC xss M k : Nat) := by simp [useS]
      rw [huv] at hc
      have HY : Hid (useC xss M k = 0 → idleK xss M (k + 1) = idleK xss M k ++ [(k : Int)]) := idleK_yes
      have HNy : Hid (useC xss M k ≠ 0 → idleK xss M (k + 1) = idleK xss M k) := idleK_no
      clear hy hyv huv
      generalize useC xss M k = u at hc HY HNy
      by_cases hu : u = 0
      · subst hu
        have HS := Lib.hid (HY.out rfl)
        have HLo : Hid ((ints (idleK xss M k)).length = no) := by rw [Hid, ints_length, HNO.out]
        have hno : no ≤ 60 := by have := HNO.out; have := idleK_len xss M k; omega
        have hsb := hb.size
        have hn1 : (no + 1) * 8 ≤ 140737488355328 := by omega
        have hn2 : no + 1 ≤ 9223372036854775807 := by omega
        clear HY HNy
        go_wp2_with (at_builtin; (refine wpList_app1m rfl _ _ 22 rfl elI ?_ ho ?_ ?_ hsb no HLo.out hn1 hn2 ?_); (focus exact rfl); (focus (simp [Act.eval])); (focus exact rfl); intro bn cn' w6 ho6 hg6 hat6)
        have hset6 := hset.apart hg6 fun g h2 h3 => hap g h3 h2
        have hb6 := hb.grown hg6 hsb fun r hr => (ho.lt r hr).1
        go_roundg (ns - (k + 1))
        case measure => omega
        case rel => exact ⟨k + 1, rfl, by omega, by go_num, by rw [HS.out, ints_append]; exact ho6, hset6, fun g h2 h3 => by
          rcases hat6 with e | ⟨q, hq, e⟩
          · exact hap g (e ▸ h2) h3
          · rw [e] at h2
            cases h2
            have := (hset.lt _ h3).2
            omega, hb6⟩
      · have HS := Lib.hid (HNy.out hu)
        have d0 : ((u : Int) == 0) = false := by rw [beq_eq_false_iff_ne]; omega
        clear HY HNy
        go_wp2
        go_roundg (ns - (k + 1))
        case measure => omega
        case rel => exact ⟨k + 1, rfl, by omega, by go_num, by rw [HS.out]; exact ho, hset, hap, hb⟩
    · obtain rfl : ns = k := by omega
      go_wp2
      go_ret
      rw [HR.out]
      exact ⟨_, rfl, ho, hb⟩

set_option maxRecDepth 100000 in
set_option maxHeartbeats 4000000 in
theorem s_l06Use (N : Nat) (v : Value) (xss : List (List Int)) (w : World) (h : Rd2 w v xss) (hk : netOk (N : Int) xss = true) :
    Calls Tryd.prog 120 #[.agg #[.int .i64 N, v]] w (RetOwn 3 (ints (useL xss (2 ^ N))) w) := by
  obtain ⟨N', e, hN1, hN8, hL60⟩ := netOk_n hk
  obtain rfl : N = N' := by omega
  clear e
  have hp := pow_le8 hN8
  have e2 := shl_of N (by omega)
  obtain ⟨a, c, rfl, _, _⟩ := h.form
  obtain ⟨w0, hw0, hb0, hz0, c0, c1⟩ := net_box w (.int .i64 N) (.slice a xss.length c) 32
  have h' := h.below hb0
  have HL := Lib.hid (fun m (hm : m < 2 ^ N) k => runM_lt hk hm k)
  have HP := Lib.hid (fun (W : World) (hW : Rd2 W (.slice a xss.length c) xss) (k : Nat) (hlt : k < xss.length) => hW.pair hk hlt)
  have C0 := Lib.hid c0
  have C1 := Lib.hid c1
  obtain ⟨M, hM⟩ : ∃ M, 2 ^ N = M := ⟨_, rfl⟩
  rw [hM] at hp e2 HL ⊢
  have HU : Hid (useL xss M = atL xss.length (useS xss M 0)) := rfl
  obtain ⟨L, hLe⟩ : ∃ L, xss.length = L := ⟨_, rfl⟩
  rw [hLe] at hL60 c1 C1 HP h' HU hw0
  have H' := Lib.hid h'
  clear hk hM
  go_enter Tryd.func120, Tryd.ntmps120
  rw [hLe]
  go_wp2_with (at_make; (refine wpList_mk (n := L) (B := w.heap.size + 1) rfl _ _ 22 rfl elI ?_ ?_ (by omega) (by omega) (by omega) ?_); (focus exact rfl); (focus exact rfl); intro b w4 hb4 ho4 hg4)
  have hb04 : Below (w.heap.size + 1) w0 w4 := (Below.refl _ _).grown hg4 (by omega) (fun _ h => by cases h)
  have ho5 : Own w4 3 (w.heap.size + 1) (.slice (some b) L L) (ints (atL L (useS xss 0 0))) := by
    rw [useS_zero]
    have : ints (List.replicate L 0) = List.replicate L (Value.int .i64 0) := by simp [ints]
    rw [this]
    exact ho4
  have E2 := Lib.hid e2
  clear c0 c1 hw0 hb4 hg4 ho4 e2
  go_loopg [4] M (fun g mv wr => ∃ m : Nat, g = M - m ∧ m ≤ M ∧ mv = .int .i64 m ∧ Own wr 3 (w.heap.size + 1) (.slice (some b) L L) (ints (atL L (useS xss m 0))) ∧ Below (w.heap.size + 1) w0 wr)
  case atStart => exact ⟨0, rfl, Nat.zero_le _, rfl, ho5, hb04⟩
  case round =>
    clear ho5 hb04
    obtain ⟨m, hg, hml, rfl, ho, hb⟩ := hrel
    obtain ⟨wo, rfl⟩ : ∃ wo : World, wo = wr := ⟨_, rfl⟩
    have g0 : wo.cell? ⟨w.heap.size, 0, none⟩ = some (.int .i64 N) := (hb.cell (Nat.lt_succ_self _)).trans C0.out
    have e2 := E2.out
    by_cases hlt : m < M
    · have g1 : wo.cell? ⟨w.heap.size, 1, none⟩ = some (.slice a L c) := (hb.cell (Nat.lt_succ_self _)).trans C1.out
      have HLm := Lib.hid (fun k => HL.out m hlt k)
      have HNX : Hid (atL L (useS xss m L) = atL L (useS xss (m + 1) 0)) := useS_next xss L m
      go_wp2
      try rw [e2]
      clear g1 g0 e2
      go_loopg [5, 23] L (fun g rv kv wr => ∃ k r : Nat, g = L - k ∧ k ≤ L ∧ kv = .int .i64 k ∧ rv = .int .i64 (r : Int) ∧ Own wr 3 (w.heap.size + 1) (.slice (some b) L L) (ints (atL L (useS xss m k))) ∧ Below (w.heap.size + 1) w0 wr ∧ Hid (r = runM xss m k))
      case atStart => exact ⟨0, m, rfl, Nat.zero_le _, rfl, rfl, ho, hb, rfl⟩
      case round =>
        clear ho hb
        obtain ⟨k, r, hgk, hkl, rfl, rfl, ho, hb, HRr⟩ := hrel
        by_cases hltk : k < L
        · obtain ⟨ad, z, d, x, y, hal, hc0, hcx0, hcy0, hxN, hyN, hxy, hx⟩ := HP.out w0 H'.out k hltk
          subst hal
          have HB0 : Hid (∀ q : World, Below (w.heap.size + 1) w0 q → q.cell? (ad.add k) = some (.slice (some z) 2 d) ∧ q.cell? z = some (.int .i64 (x : Int)) ∧ q.cell? ⟨z.block, z.off + (0 + 1), none⟩ = some (.int .i64 (y : Int))) := fun q hq => by
            have l0 := World.block_lt_of_cell? _ _ hc0
            have l1 := World.block_lt_of_cell? _ _ hcx0
            have l2 := World.block_lt_of_cell? _ _ hcy0
            rw [hz0] at l0 l1 l2
            exact ⟨(hq.cell l0).trans hc0, (hq.cell l1).trans hcx0, (hq.cell l2).trans hcy0⟩
          clear hc0 hcx0 hcy0
          obtain ⟨hc, hcx, hcy⟩ := HB0.out wr hb
          have hr : r < 256 := by have := HLm.out k; rw [← HRr.out] at this; omega
          have HSX : Hid (stepN r x y = runM xss m (k + 1)) := by rw [Hid, runM_succ hx.out, ← HRr.out]
          have HCG : Hid (chgB xss m k = (r.testBit x && !r.testBit y)) := by
            rw [Hid, chgB, ← HSX.out, ← HRr.out]
            exact chg_of hr (by omega) (by omega) hxy
          have b1 := bit_of r hr x (by omega)
          have b2 := bit_of r hr y (by omega)
          have hbk := fun h1 h2 => back_of (m := r) (i := x) (k := y) hr (by omega) (by omega) hxy h1 h2
          clear hx
          cases t1 : r.testBit x
          · have HV : Hid (atL L (useS xss m k) = atL L (useS xss m (k + 1))) := useS_no (by rw [HCG.out, t1]; rfl)
            have HE : Hid (r = runM xss m (k + 1)) := by rw [Hid, ← HSX.out, stepN, t1]; rfl
            rw [t1] at b1
            have q1 : bits BinOp.and IntKind.i64 ((r : Int) / 2 ^ x) 1 = 0 := b1
            clear b1 b2 t1 hbk
            go_wp2
            go_roundg (L - (k + 1))
            case measure => omega
            case rel => exact ⟨k + 1, r, rfl, by omega, by go_num, rfl, by rw [← HV.out]; exact ho, hb, HE⟩
          · rw [t1] at b1
            have q1 : bits BinOp.and IntKind.i64 ((r : Int) / 2 ^ x) 1 = 1 := b1
            clear b1
            cases t2 : r.testBit y
            · have HV : Hid ((atL L (useS xss m k)).set k (useS xss m k k + 1) = atL L (useS xss m (k + 1))) := useS_yes (by rw [HCG.out, t1, t2]; rfl)
              have e3 := hbk t1 t2
              rw [t2] at b2
              have q2 : bits BinOp.and IntKind.i64 ((r : Int) / 2 ^ y) 1 = 0 := b2
              have hbd := useS_bd xss m k k
              have hta := ho.rd.cell_int' (atL_get (useS xss m k) hltk)
              have fz := ho.frozen rfl k
              have hL2 := atL_length L (useS xss m k)
              have hs := (ho.seti rfl (show k < (atL L (useS xss m k)).length by omega) (useS xss m k k + 1)).1
              have hbs := ho.below_set rfl (show k < (atL L (useS xss m k)).length by omega) (.int .i64 (useS xss m k k + 1)) hb (Nat.le_refl _)
              rw [HV.out] at hs
              obtain ⟨_, hcx2, hcy2⟩ := HB0.out _ hbs
              generalize useS xss m k k = u at hbd hta hs hbs hcx2 hcy2
              have iw : IntKind.i64.wrap (u + 1) = u + 1 := IntWalk.i64_in _ (by omega)
              have HSD : Hid (∀ nq : Nat, Own (((wr.setCell (b.add k) (.int .i64 (u + 1)))).drewN nq) 3 (w.heap.size + 1) (.slice (some b) L L) (ints (atL L (useS xss m (k + 1)))) ∧ Below (w.heap.size + 1) w0 (((wr.setCell (b.add k) (.int .i64 (u + 1)))).drewN nq)) := fun nq => ⟨hs.drewN nq, hbs.trans (Dr.below ((Dr.refl _).step nq) _)⟩
              clear hs hbs
              go_wp2
              go_quiet (fail)
              rename_i nq
              obtain ⟨o1, o2⟩ := HSD.out nq
              go_wp2
              go_roundg (L - (k + 1))
              case measure => omega
              case rel => exact ⟨k + 1, _, rfl, by omega, by go_num, by rw [e3], o1, o2, HSX⟩
            · have HV : Hid (atL L (useS xss m k) = atL L (useS xss m (k + 1))) := useS_no (by rw [HCG.out, t1, t2]; rfl)
              have HE : Hid (r = runM xss m (k + 1)) := by rw [Hid, ← HSX.out, stepN, t1, t2]; rfl
              rw [t2] at b2
              have q2 : bits BinOp.and IntKind.i64 ((r : Int) / 2 ^ y) 1 = 1 := b2
              clear b2 t1 t2 hbk
              go_wp2
              go_roundg (L - (k + 1))
              case measure => omega
              case rel => exact ⟨k + 1, r, rfl, by omega, by go_num, rfl, by rw [← HV.out]; exact ho, hb, HE⟩
        · obtain rfl : L = k := by omega
          rw [HNX.out] at ho
          go_wp2
          go_roundg (M - (m + 1))
          case measure => omega
          case rel => exact ⟨m + 1, rfl, by omega, by go_num, ho, hb⟩
    · obtain rfl : M = m := Nat.le_antisymm (Nat.le_of_not_lt hlt) hml
      go_wp2
      go_ret
      exact ⟨_, rfl, by rw [HU.out]; exact ho.mono (by omega), hb0.trans (hb.mono (by omega))⟩

set_option maxRecDepth 100000 in
set_option maxHeartbeats 2000000 in
theorem s_IdleOf (n : Int) (v : Value) (xss : List (List Int)) (w : World) (h : Rd2 w v xss) (hn : I64 n) : Calls Tryd.prog 67 #[.agg #[.int .i64 n, v]] w (RetOwn 3 (ints (idleL n xss)) w) := by
  obtain ⟨a, c, rfl, h2, h3⟩ := h.form
  obtain ⟨w0, hw0, hb0, hz0, c0, c1⟩ := net_box w (.int .i64 n) (.slice a xss.length c) 32
  have h' := h.below hb0
  have HN := s_NetworkOk n _ xss _ h' hn
  cases hk : netOk n xss
  · rw [hk] at HN
    have HR := Lib.hid (idleL_no hk)
    go_enter Tryd.func67, Tryd.ntmps67
    go_wp2_with (go_at_call 44; refine HN.mono ?_; rintro e w2 ⟨rfl, hb2⟩)
    go_ret
    rw [HR.out]
    exact ⟨_, rfl, Own.nil _ _ _, hb0.trans (hb2.mono (by omega))⟩
  rw [hk] at HN
  have HR := Lib.hid (idleL_ok hk)
  obtain ⟨N, rfl, hN1, hN8, hL60⟩ := netOk_n hk
  rw [Int.toNat_natCast] at HR
  have C0 := Lib.hid c0
  have C1 := Lib.hid c1
  have HU := Lib.hid (fun (W : World) (hW : Below w.heap.size w W) => s_l06Use N _ xss W (h.below hW) hk)
  have HUL : Hid (useL xss (2 ^ N) = atL xss.length (useS xss (2 ^ N) 0)) := rfl
  obtain ⟨M, hM⟩ : ∃ M, 2 ^ N = M := ⟨_, rfl⟩
  rw [hM] at HR HU HUL
  obtain ⟨L, hLe⟩ : ∃ L, xss.length = L := ⟨_, rfl⟩
  rw [hLe] at hL60 c1 C1 HUL HU HR hw0 HN
  clear hk hM
  go_enter Tryd.func67, Tryd.ntmps67
  rw [hLe]
  go_wp2_with (first
    | (go_at_call 44; refine HN.mono ?_; rintro e w2 ⟨rfl, hb2⟩; have hbw2 : Below w.heap.size w w2 := hb0.trans (hb2.mono (by omega)); obtain ⟨c0, c1⟩ := Below.cells2 hb2 (show w.heap.size < w0.heap.size by omega) C0.out C1.out
       obtain ⟨wa, hwa⟩ : ∃ wa, w2.alloc (.cells #[] 3) = wa := ⟨_, rfl⟩
       have hza : wa.heap.size = w2.heap.size + 1 := by rw [← hwa]; simp
       have hba : Below w2.heap.size w2 wa := by rw [← hwa]; exact (Below.refl _ _).alloc (Nat.le_refl _) _
       have hbwa : Below w.heap.size w wa := hbw2.trans (hba.mono hbw2.size)
       have hsz2 := hb2.size
       have g0 : wa.cell? ⟨w.heap.size, 0, none⟩ = some (.int .i64 N) := (hba.cell (show w.heap.size < w2.heap.size by omega)).trans c0
       have g1 : wa.cell? ⟨w.heap.size, 1, none⟩ = some (.slice a L c) := (hba.cell (show w.heap.size < w2.heap.size by omega)).trans c1
       have hlit : Own wa 3 w.heap.size (.slice (some ⟨w2.heap.size, 0, none⟩) 0 0) (ints []) := by rw [← hwa]; exact Own.lit0 w2 3 (by omega)
       have hap : ∀ g, (Value.slice (some ⟨w2.heap.size, 0, none⟩) 0 0).ownBlock = some g → g < wa.heap.size := fun g hg => by
         simp [Value.ownBlock] at hg
         omega)
    | (go_at_call 120; refine (HU.out _ hbwa).mono ?_; rintro e w3 ⟨vs, rfl, hos, hb3⟩; obtain ⟨as_, ns, cs, rfl, HNS, _, _⟩ := hos.rd.formN))
  have hnsL : ns = L := by have := HNS.out; rw [HUL.out, atL_length] at this; exact this
  subst hnsL
  rw [HUL.out] at hos
  have hlit3 := hlit.below hb3
  have hb3' : Below w.heap.size w w3 := hbwa.trans (hb3.mono hbwa.size)
  have hap3 : ∀ g, (Value.slice (some ⟨w2.heap.size, 0, none⟩) 0 0).ownBlock = some g → (Value.slice as_ ns cs).ownBlock ≠ some g := fun g h1 h2 => by
    have := hap g h1
    have := (hos.lt g h2).1
    omega
  have hset := hos.mono (B' := w.heap.size) hbwa.size
  clear c0 c1 g0 g1 hos hb2 hba hb3 hbw2 hbwa hwa hza hsz2 hlit HU HN hw0 HNS hap
  go_loopg [3, 13] ns (fun g vo iv wr => ∃ k : Nat, g = ns - k ∧ k ≤ ns ∧ iv = .int .i64 k ∧ Own wr 3 w.heap.size vo (ints (idleK xss M k)) ∧ Own wr 3 w.heap.size (.slice as_ ns cs) (ints (atL ns (useS xss M 0))) ∧ (∀ g, vo.ownBlock = some g → (Value.slice as_ ns cs).ownBlock ≠ some g) ∧ Below w.heap.size w wr)
  case atStart => exact ⟨0, rfl, Nat.zero_le _, rfl, hlit3, hset, hap3, hb3'⟩
  case round =>
    clear hlit3 hset hap3 hb3'
    obtain ⟨k, hg, hkl, rfl, ho, hset, hap, hb⟩ := hrel
    obtain ⟨ao, no, co, rfl, HNO, _, _⟩ := ho.rd.formN
    by_cases hlt : k < ns
    · obtain ⟨ad, y, hal, hc, hy⟩ := hset.rd.int (k := k) (by rw [atL_length]; exact hlt)
      subst hal
      have hyv := hy.out
      rw [atL_get _ hlt] at hyv
      obtain rfl : useS xss M 0 k = y := by injection hyv
      have huv : useS xss M 0 k = (useC xss M k : Nat) := by simp [useS]
      rw [huv] at hc
      have HY : Hid (useC xss M k = 0 → idleK xss M (k + 1) = idleK xss M k ++ [(k : Int)]) := idleK_yes
      have HNy : Hid (useC xss M k ≠ 0 → idleK xss M (k + 1) = idleK xss M k) := idleK_no
      clear hy hyv huv
      generalize useC xss M k = u at hc HY HNy
      by_cases hu : u = 0
      · subst hu
        have HS := Lib.hid (HY.out rfl)
        have HLo : Hid ((ints (idleK xss M k)).length = no) := by rw [Hid, ints_length, HNO.out]
        have hno : no ≤ 60 := by have := HNO.out; have := idleK_len xss M k; omega
        have hsb := hb.size
        have hn1 : (no + 1) * 8 ≤ 140737488355328 := by omega
        have hn2 : no + 1 ≤ 9223372036854775807 := by omega
        clear HY HNy
        go_wp2_with (at_builtin; (refine wpList_app1m rfl _ _ 22 rfl elI ?_ ho ?_ ?_ hsb no HLo.out hn1 hn2 ?_); (focus exact rfl); (focus (simp [Act.eval])); (focus exact rfl); intro bn cn' w6 ho6 hg6 hat6)
        have hset6 := hset.apart hg6 fun g h2 h3 => hap g h3 h2
        have hb6 := hb.grown hg6 hsb fun r hr => (ho.lt r hr).1
        go_roundg (ns - (k + 1))
        case measure => omega
        case rel => exact ⟨k + 1, rfl, by omega, by go_num, by rw [HS.out, ints_append]; exact ho6, hset6, fun g h2 h3 => by
          rcases hat6 with e | ⟨q, hq, e⟩
          · exact hap g (e ▸ h2) h3
          · rw [e] at h2
            cases h2
            have := (hset.lt _ h3).2
            omega, hb6⟩
      · have HS := Lib.hid (HNy.out hu)
        have d0 : ((u : Int) == 0) = false := by rw [beq_eq_false_iff_ne]; omega
        clear HY HNy
        go_wp2
        go_roundg (ns - (k + 1))
        case measure => omega
        case rel => exact ⟨k + 1, rfl, by omega, by go_num, by rw [HS.out]; exact ho, hset, hap, hb⟩
    · obtain rfl : ns = k := by omega
      go_wp2
      go_ret
      rw [HR.out]
      exact ⟨_, rfl, ho, hb⟩

end Go.Proofs.YtlmbaijkeahkfaaDoor
