/- Walks: tests that are chosen greedily, in the reference. -/
import Derived.Test.YtlmbaijkeahkfaaDoorGreedyI
namespace Go.Proofs.YtlmbaijkeahkfaaDoor
open Go.RowKit
set_option linter.unusedVariables false
set_option linter.unusedSimpArgs false

set_option maxHeartbeats 1000000 in
theorem s_l03OnesW (m : Nat) (hm : m < 2 ^ 62) (w : World) : Calls Tryd.prog 112 #[.int .i64 (m : Int)] w fun e w' => e = .returned (.int .i64 (popN m : Nat)) ∧ w = w' := by
  have HLE : Hid (popN m ≤ 62) := popK_le m 62
  go_enter Tryd.func112, Tryd.ntmps112
  go_wp2
  go_loopg [0, 3] m (fun g mv kv wr => ∃ (r k : Nat), g = r ∧ r < 4611686018427387904 ∧ mv = .int .i64 (r : Int) ∧ kv = .int .i64 (k : Int) ∧ w = wr ∧ Hid (popN m = k + popN r))
  case atStart => exact ⟨m, 0, rfl, hm, rfl, rfl, rfl, by rw [Hid, Nat.zero_add]⟩
  case round =>
    obtain ⟨r, k, hg, hr, rfl, rfl, rfl, HK⟩ := hrel
    have hk8 : k ≤ 62 := by have := HK.out; have := HLE.out; omega
    rcases Nat.eq_zero_or_pos r with h0 | h0
    · subst h0
      have HZ : Hid (popN m = k) := by have := HK.out; rw [popN_zero] at this; exact this
      have d0 : decide (((0 : Nat) : Int) > 0) = false := rfl
      go_wp2
      go_ret
      exact ⟨by rw [HZ.out]; rfl, rfl⟩
    · have d0 : decide ((r : Int) > 0) = true := by simp; omega
      have d1 : (0 : Int) < (r : Int) := by omega
      have ha : bits BinOp.and IntKind.i64 (r : Int) 1 = ((r % 2 : Nat) : Int) := by
        have := and_i64 r 1 (by omega) (by omega)
        rw [Nat.and_one_is_mod] at this
        exact this
      have HZ : Hid (popN m = (k + r % 2) + popN (r / 2)) := by have := HK.out; rw [popN_half (show r < 2 ^ 62 by omega)] at this; rw [Hid]; omega
      go_wp2
      go_roundg (r / 2)
      case measure => omega
      case rel => exact ⟨r / 2, k + r % 2, rfl, by omega, by go_num, by go_num, rfl, HZ⟩

def fndL (f : Nat → Nat → Bool) (n k : Nat) : List Int := (List.range k).map fun m => ((setB (f m) n : Nat) : Int)
theorem fndL_succ (f : Nat → Nat → Bool) (n k : Nat) : fndL f n (k + 1) = fndL f n k ++ [((setB (f k) n : Nat) : Int)] := by simp [fndL, List.range_succ]
theorem fndL_len (f : Nat → Nat → Bool) (n k : Nat) : (fndL f n k).length = k := by simp [fndL]
theorem fndL_get {f : Nat → Nat → Bool} {n k i : Nat} (h : i < k) : (fndL f n k)[i]? = some ((setB (f i) n : Nat) : Int) := by simp [fndL, h]
theorem shlW : ∀ n : Nat, n < 61 → wrap64 (2 ^ n) = ((1 <<< n : Nat) : Int) := by decide +kernel
theorem setB_yes {p : Nat → Bool} {n : Nat} (hn : n < 61) (h : p n = true) : bits BinOp.or IntKind.i64 ((setB p n : Nat) : Int) (wrap64 (2 ^ n)) = ((setB p (n + 1) : Nat) : Int) := by
  have h1 : setB p n < 2 ^ 61 := Nat.lt_of_lt_of_le (setB_lt p n) (Nat.pow_le_pow_right (by decide) (by omega))
  have h2 : 1 <<< n < 2 ^ 61 := by rw [Nat.one_shiftLeft]; exact Nat.pow_lt_pow_right (by decide) hn
  rw [shlW n hn, or_i64 _ _ (by omega) (by omega), setB, if_pos h]
theorem setB_no {p : Nat → Bool} {n : Nat} (h : p n = false) : setB p (n + 1) = setB p n := by rw [setB, if_neg (by simp [h])]
/-- The best choice as the reference has it: -1 as long as there is none. -/
def bI (p : Nat × Nat) : Int := if p.2 = 0 then -1 else p.1
theorem fullW : ∀ n : Nat, n < 61 → wrap64 (wrap64 (2 ^ n) - 1) = ((2 ^ n - 1 : Nat) : Int) := by decide +kernel
set_option maxRecDepth 100000 in
set_option maxHeartbeats 8000000 in
theorem s_GreedyTests (n : Int) (v : Value) (xss : List (List Int)) (w : World) (h : Rd2 w v xss) (hn : I64 n) : Calls Tryd.prog 61 #[.agg #[.int .i64 n, v]] w (RetOwn 3 (ints (greedyL n xss)) w) := by
  obtain ⟨a, c, rfl, h2, h3⟩ := h.form
  obtain ⟨w0, hw0, hb0, hz0, c0, c1⟩ := net_box w (.int .i64 n) (.slice a xss.length c) 32
  have h' := h.below hb0
  have HN := s_NetworkOk n _ xss _ h' hn
  have C1 := Lib.hid c1
  cases hk : netOk n xss
  · rw [hk] at HN
    have HR := Lib.hid (greedyL_no (.inl hk))
    go_enter Tryd.func61, Tryd.ntmps61
    go_wp2_with (go_at_call 44; refine HN.mono ?_; rintro e w2 ⟨rfl, hb2⟩; have c1 := (hb2.cell (show w.heap.size < w0.heap.size by omega)).trans C1.out)
    go_ret
    rw [HR.out]
    exact ⟨_, rfl, Own.nil _ _ _, hb0.trans (hb2.mono (by omega))⟩
  rw [hk] at HN
  by_cases hl20 : xss.length ≤ 20
  case neg =>
    have HR := Lib.hid (greedyL_no (n := n) (xss := xss) (.inr (by omega)))
    have d0 : decide ((xss.length : Int) > 20) = true := by simp; omega
    go_enter Tryd.func61, Tryd.ntmps61
    go_wp2_with (go_at_call 44; refine HN.mono ?_; rintro e w2 ⟨rfl, hb2⟩; have c1 := (hb2.cell (show w.heap.size < w0.heap.size by omega)).trans C1.out)
    go_ret
    rw [HR.out]
    exact ⟨_, rfl, Own.nil _ _ _, hb0.trans (hb2.mono (by omega))⟩
  have HR := Lib.hid (greedyL_ok hk hl20)
  obtain ⟨N, rfl, hN1, hN8, hL60⟩ := netOk_n hk
  rw [Int.toNat_natCast] at HR
  have d0 : decide ((xss.length : Int) > 20) = false := by simp; omega
  have C0 := Lib.hid c0
  have hp := pow_le8 hN8
  have E2 := Lib.hid (shl_of N (by omega))
  obtain ⟨M, hM⟩ : ∃ M, 2 ^ N = M := ⟨_, rfl⟩
  have HFi : Hid (∀ (i kd m : Nat) (W : World), i < xss.length → kd < 3 → m < M → Below w.heap.size w W → Calls Tryd.prog 111 #[.agg #[.int .i64 N, .slice a xss.length c], .int .i64 i, .int .i64 kd, .int .i64 m] W (RetB (.bool (fjB xss m (3 * i + kd))) W)) := fun i kd m W hi hkd hm hW => by
    have := s_FindsFault N _ xss i kd m W (h.below hW) hk hi (by omega) (by omega)
    rwa [fjB, show (3 * i + kd) / 3 = i by omega, show (3 * i + kd) % 3 = kd by omega]
  rw [hM] at hp E2 HR
  obtain ⟨L, hL⟩ : ∃ L, xss.length = L := ⟨_, rfl⟩
  rw [hL] at hl20 hL60 HFi HR c1 C1 hw0 h HN d0
  obtain ⟨f, hf⟩ : ∃ f, fjB xss = f := ⟨_, rfl⟩
  rw [hf] at HFi HR
  have HBC := Lib.hid (fun left => bestG_cnt f left M)
  clear hk hM hf
  go_enter Tryd.func61, Tryd.ntmps61
  rw [hL]
  go_upto_region 4 with (go_at_call 44; refine HN.mono ?_; rintro e w2 ⟨rfl, hb2⟩; have hbw2 : Below w.heap.size w w2 := hb0.trans (hb2.mono (by omega)); obtain ⟨c0, c1⟩ := Below.cells2 hb2 (show w.heap.size < w0.heap.size by omega) C0.out C1.out)
  have hs2 := hb2.size
  have hbs2 : Below (w.heap.size + 1) w0 w2 := hb2.mono (by omega)
  have ho2 := Own.lit0 (B := w.heap.size + 1) w2 3 (by omega)
  have hbA : Below (w.heap.size + 1) w0 (w2.alloc (.cells #[] 3)) := Below.alloc' hbs2 (by omega) _
  clear c0 c1 hw0 HN
  go_wp2
  go_loopg [3, 4] M (fun g vf mv wr => ∃ k : Nat, g = M - k ∧ k ≤ M ∧ mv = .int .i64 k ∧ Own wr 3 (w.heap.size + 1) vf (ints (fndL f (3 * L) k)) ∧ Below (w.heap.size + 1) w0 wr)
  case atStart => exact ⟨0, rfl, Nat.zero_le _, rfl, ho2, hbA⟩
  case round =>
    clear ho2 hbA hbs2 hs2 hbw2 hb2
    obtain ⟨k, hg, hkl, rfl, ho, hb⟩ := hrel
    obtain ⟨ao, no, co, rfl, HNO, _, _⟩ := ho.rd.formN
    obtain ⟨wo, rfl⟩ : ∃ wo : World, wo = wr := ⟨_, rfl⟩
    have g0 : wo.cell? ⟨w.heap.size, 0, none⟩ = some (.int .i64 N) := (hb.cell (Nat.lt_succ_self _)).trans C0.out
    have g1 : wo.cell? ⟨w.heap.size, 1, none⟩ = some (.slice a L c) := (hb.cell (Nat.lt_succ_self _)).trans C1.out
    have G0 := Lib.hid g0
    have G1 := Lib.hid g1
    have hbw : Below w.heap.size w wo := hb0.trans (hb.mono (by omega))
    by_cases hlt : k < M
    · have e2 := E2.out
      have HFk : Hid (∀ (i kd : Nat) (W : World), i < L → kd < 3 → Below wo.heap.size wo W → Calls Tryd.prog 111 #[.agg #[.int .i64 N, .slice a L c], .int .i64 i, .int .i64 kd, .int .i64 k] W (RetB (.bool (f k (3 * i + kd))) W)) := fun i kd W hi hkd hW => HFi.out i kd k W hi hkd hlt (hbw.trans (hW.mono hbw.size))
      have HSY : Hid (∀ n, n < 61 → f k n = true → bits BinOp.or IntKind.i64 ((setB (f k) n : Nat) : Int) (wrap64 (2 ^ n)) = ((setB (f k) (n + 1) : Nat) : Int)) := fun n h1 h2 => setB_yes h1 h2
      have HSN : Hid (∀ n, f k n = false → setB (f k) (n + 1) = setB (f k) n) := fun n h2 => setB_no h2
      have HFS := Lib.hid (fndL_succ f (3 * L) k)
      generalize f k = p at HFk HSY HSN HFS
      go_wp2
      try rw [e2]
      clear e2 g0 g1
      go_loopg [5, 34] L (fun g sv iv wr => ∃ i : Nat, g = L - i ∧ i ≤ L ∧ iv = .int .i64 i ∧ sv = .int .i64 (setB p (3 * i) : Nat) ∧ Below wo.heap.size wo wr)
      case atStart => exact ⟨0, rfl, Nat.zero_le _, rfl, rfl, Below.refl _ _⟩
      case round =>
        obtain ⟨i, hgi, hil, rfl, rfl, hq⟩ := hrel
        obtain ⟨wy, rfl⟩ : ∃ wy : World, wy = wr := ⟨_, rfl⟩
        by_cases hlti : i < L
        · go_wp2
          go_loopg [5, 7] 3 (fun g sv kv wr => ∃ kd : Nat, g = 3 - kd ∧ kd ≤ 3 ∧ kv = .int .i64 kd ∧ sv = .int .i64 (setB p (3 * i + kd) : Nat) ∧ Below wo.heap.size wo wr)
          case atStart => exact ⟨0, rfl, Nat.zero_le _, rfl, rfl, hq⟩
          case round =>
            clear hq
            obtain ⟨kd, hgk, hkdl, rfl, rfl, hq⟩ := hrel
            by_cases hltk : kd < 3
            · have d1 : decide ((kd : Int) < 3) = true := by simp; omega
              have HF := Lib.hid (HFk.out i kd wr hlti hltk hq)
              have g0 : wr.cell? ⟨w.heap.size, 0, none⟩ = some (.int .i64 N) := (hq.cell (World.block_lt_of_cell? _ _ G0.out)).trans G0.out
              have g1 : wr.cell? ⟨w.heap.size, 1, none⟩ = some (.slice a L c) := (hq.cell (World.block_lt_of_cell? _ _ G1.out)).trans G1.out
              have v1 : IntKind.i64.wrap (3 * (i : Int)) = ((3 * i : Nat) : Int) := by rw [show ((3 * i : Nat) : Int) = 3 * (i : Int) by omega]; exact IntWalk.i64_in _ (by omega)
              have v2 : IntKind.i64.wrap (((3 * i : Nat) : Int) + (kd : Int)) = ((3 * i + kd : Nat) : Int) := by rw [show ((3 * i + kd : Nat) : Int) = ((3 * i : Nat) : Int) + (kd : Int) by omega]; exact IntWalk.i64_in _ (by omega)
              have hq61 : 3 * i + kd < 61 := by omega
              have hsq := hq.size
              cases hpb : p (3 * i + kd)
              · rw [hpb] at HF
                have HS := Lib.hid (HSN.out _ hpb)
                clear hpb v1 v2
                go_wp2_with (go_at_call 111; refine HF.out.mono ?_; rintro e w3 ⟨rfl, g3⟩)
                go_roundg (3 - (kd + 1))
                case measure => omega
                case rel => exact ⟨kd + 1, rfl, by omega, by go_num, by rw [← Nat.add_assoc, HS.out], hq.trans (g3.mono hsq)⟩
              · rw [hpb] at HF
                have hor := HSY.out _ hq61 hpb
                clear hpb
                go_wp2_with (go_at_call 111; refine HF.out.mono ?_; rintro e w3 ⟨rfl, g3⟩)
                go_roundg (3 - (kd + 1))
                case measure => omega
                case rel => exact ⟨kd + 1, rfl, by omega, by go_num, rfl, hq.trans (g3.mono hsq)⟩
            · obtain rfl : kd = 3 := by omega
              go_wp2
              go_roundg (L - (i + 1))
              case measure => omega
              case rel => exact ⟨i + 1, rfl, by omega, by go_num, by rw [Nat.mul_succ], hq⟩
        · obtain rfl : L = i := by omega
          have hsq := hq.size
          have hoq := ho.below hq
          have HLo : Hid ((ints (fndL f (3 * L) k)).length = no) := by rw [Hid, ints_length, HNO.out]
          have hno : no ≤ 256 := by have := HNO.out; rw [fndL_len] at this; omega
          have hsb := hb.size
          have hBq : w.heap.size + 1 ≤ wy.heap.size := by omega
          have hn1 : (no + 1) * 8 ≤ 140737488355328 := by omega
          have hn2 : no + 1 ≤ 9223372036854775807 := by omega
          go_wp2_with (at_builtin; (refine wpList_app1m rfl _ _ 22 rfl elI ?_ hoq ?_ ?_ hBq no HLo.out hn1 hn2 ?_); (focus exact rfl); (focus (simp [Act.eval])); (focus exact rfl); intro bn cn' w6 ho6 hg6 hat6)
          have hb6 : Below (w.heap.size + 1) w0 w6 := (hb.trans (hq.mono (by omega))).grown hg6 hBq fun r hr => (hoq.lt r hr).1
          go_roundg (M - (k + 1))
          case measure => omega
          case rel => exact ⟨k + 1, rfl, by omega, by go_num, by rw [HFS.out, ints_append]; exact ho6, hb6⟩
    · obtain rfl : M = k := by omega
      have e2 := E2.out
      have v1 : IntKind.i64.wrap (3 * (L : Int)) = ((3 * L : Nat) : Int) := by rw [show ((3 * L : Nat) : Int) = 3 * (L : Int) by omega]; exact IntWalk.i64_in _ (by omega)
      have v2 := fullW (3 * L) (by omega)
      have hnM : no = M := by have := HNO.out; rwa [fndL_len] at this
      subst hnM
      have hF := ho.rd
      have hsb := hb.size
      have hsw : w.heap.size + 1 ≤ wo.heap.size := by omega
      have HCL : Hid (∀ (W : World) (i : Nat), Below wo.heap.size wo W → i < no → ∃ ad : Addr, ao = some ad ∧ W.cell? (ad.add i) = some (.int .i64 (setB (f i) (3 * L) : Nat))) := fun W i hW hi => by
        obtain ⟨ad, x, hal, hc, hx⟩ := (hF.below hW).int (k := i) (by rw [fndL_len]; exact hi)
        have h1 := hx.out
        rw [fndL_get hi] at h1
        cases h1
        exact ⟨ad, hal, hc⟩
      have HPO : Hid (∀ (i b : Nat), b < 2 ^ (3 * L) → bits BinOp.and IntKind.i64 ((setB (f i) (3 * L) : Nat) : Int) (b : Int) = ((setB (f i) (3 * L) &&& b : Nat) : Int) ∧ setB (f i) (3 * L) &&& b < 2 ^ 62 ∧ popN (setB (f i) (3 * L) &&& b) = cntG f (bitsL b (3 * L)) i) := fun i b hb => by
        have h1 := setB_lt (f i) (3 * L)
        have h2 : 2 ^ (3 * L) ≤ 2 ^ 60 := Nat.pow_le_pow_right (by decide) (by omega)
        have h3 : setB (f i) (3 * L) &&& b < 2 ^ (3 * L) := Nat.and_lt_two_pow _ hb
        exact ⟨and_i64 _ _ (by omega) (by omega), by omega, cnt_bits f b (3 * L) i (by omega) hb⟩
      have HAN : Hid (∀ (i b : Nat), b < 2 ^ (3 * L) → ∃ c : Nat, bits BinOp.andNot IntKind.i64 (b : Int) ((setB (f i) (3 * L) : Nat) : Int) = (c : Int) ∧ c < 2 ^ (3 * L) ∧ bitsL c (3 * L) = (bitsL b (3 * L)).filter fun j => !f i j) := fun i b hb => by
        have h1 := setB_lt (f i) (3 * L)
        have h2 : 2 ^ (3 * L) ≤ 2 ^ 60 := Nat.pow_le_pow_right (by decide) (by omega)
        obtain ⟨c, e1, e2, e3⟩ := andNot_i64 b (setB (f i) (3 * L)) (by omega) (by omega)
        exact ⟨c, e1, bitsL_bound hb e3, bitsL_without f e3⟩
      have HO1 := Lib.hid (fun (m : Nat) (hm : m < 2 ^ 62) (W : World) => s_l03OnesW m hm W)
      have HST : Hid (bitsL (2 ^ (3 * L) - 1) (3 * L) = List.range (3 * L)) := bitsL_all _
      have hpw : 2 ^ (3 * L) - 1 < 2 ^ (3 * L) := by have : 0 < 2 ^ (3 * L) := Nat.two_pow_pos _; omega
      have hlit := Own.lit0 (B := wo.heap.size) wo 3 (Nat.le_refl _)
      have hbA : Below wo.heap.size wo (wo.alloc (.cells #[] 3)) := (Below.refl _ _).alloc (Nat.le_refl _) _
      have g1' : (wo.alloc (.cells #[] 3)).cell? ⟨w.heap.size, 1, none⟩ = some (.slice a L c) := (World.cell?_alloc_lt _ _ _ (World.block_lt_of_cell? _ _ g1)).trans g1
      clear ho HNO
      go_wp2
      try rw [v2]
      clear g0 g1 g1' v1 v2 e2 G0 G1 HFi
      go_loopg [8, 9] (3 * L) (fun g ov lv wr => ∃ (o : List Int) (b : Nat), g = (bitsL b (3 * L)).length ∧ b < 2 ^ (3 * L) ∧ lv = .int .i64 (b : Nat) ∧ o.length + (bitsL b (3 * L)).length ≤ 60 ∧ Own wr 3 wo.heap.size ov (ints o) ∧ Below wo.heap.size wo wr ∧ Hid (o ++ greedyG f no (bitsL b (3 * L)) = greedyL (N : Int) xss))
      case atStart => exact ⟨[], 2 ^ (3 * L) - 1, by rw [HST.out, List.length_range], hpw, rfl, by rw [HST.out, List.length_range, List.length_nil]; omega, hlit, hbA, by rw [Hid, HST.out, HR.out, List.nil_append]⟩
      case round =>
        clear hlit hbA hpw
        obtain ⟨o, b, hgb, hb2, rfl, hob, hoo, hq, HG⟩ := hrel
        obtain ⟨wy, rfl⟩ : ∃ wy : World, wy = wr := ⟨_, rfl⟩
        obtain ⟨aq, nq, cq, rfl, HNQ, _, _⟩ := hoo.rd.formN
        have HP1 := Lib.hid (fun i => HPO.out i b hb2)
        have HA1 := Lib.hid (fun i => HAN.out i b hb2)
        obtain ⟨left, hleft⟩ : ∃ left, bitsL b (3 * L) = left := ⟨_, rfl⟩
        rw [hleft] at hgb hob HG HP1 HA1
        clear hleft
        go_wp2
        go_loopg [10, 11, 67] no (fun g bv mv kv wr => ∃ k : Nat, g = no - k ∧ k ≤ no ∧ kv = .int .i64 k ∧ bv = .int .i64 (bI (bestG f left k)) ∧ mv = .int .i64 ((bestG f left k).2 : Nat) ∧ wy = wr)
        case atStart => exact ⟨0, rfl, Nat.zero_le _, rfl, rfl, rfl, rfl⟩
        case round =>
          obtain ⟨k, hgk, hkl2, rfl, rfl, rfl, rfl⟩ := hrel
          have hbl := bestG_le f left k
          by_cases hltk : k < no
          · obtain ⟨ad, hal, q1⟩ := HCL.out wy k hq hltk
            subst hal
            obtain ⟨p1, p2, p3⟩ := HP1.out k
            have hYes := fun h => bestG_yes (f := f) (left := left) (m := k) h
            have hNo := fun h => bestG_no (f := f) (left := left) (m := k) h
            have hcb : cntG f left k ≤ 60 := by
              have : cntG f left k ≤ left.length := List.length_filter_le _ _
              omega
            have HK := Lib.hid (fun W => HO1.out _ p2 W)
            rw [p3] at HK
            clear p3 p2
            generalize cntG f left k = cN at HK hcb hYes hNo
            generalize setB (f k) (3 * L) &&& b = sb at p1 HK
            generalize setB (f k) (3 * L) = sk at p1 q1
            generalize bestG f left k = bg at hbl hYes hNo ⊢
            obtain ⟨b1, m1⟩ := bg
            by_cases hgt : m1 < cN
            · have HU := Lib.hid (hYes hgt)
              have HBI : Hid (bI (k, cN) = k) := by rw [Hid, bI, if_neg (by show ¬ cN = 0; omega)]
              clear hYes hNo
              go_wp2_with (go_at_call 112; refine (HK.out _).mono ?_; rintro e w' ⟨rfl, rfl⟩)
              go_roundg (no - (k + 1))
              case measure => omega
              case rel => exact ⟨k + 1, rfl, by omega, by go_num, by rw [HU.out, HBI.out], by rw [HU.out], rfl⟩
            · have HU := Lib.hid (hNo hgt)
              clear hYes hNo
              go_wp2_with (go_at_call 112; refine (HK.out _).mono ?_; rintro e w' ⟨rfl, rfl⟩)
              go_roundg (no - (k + 1))
              case measure => omega
              case rel => exact ⟨k + 1, rfl, by omega, by go_num, by rw [HU.out], by rw [HU.out], rfl⟩
          · obtain rfl : no = k := by omega
            have hbc := HBC.out left
            by_cases hz : (bestG f left no).2 = 0
            · have HE : Hid (o = greedyL (N : Int) xss) := by rw [Hid, ← HG.out, greedyG_end f hz, List.append_nil]
              have hbi : bI (bestG f left no) = -1 := by rw [bI, if_pos hz]
              rw [hbi]
              clear hz hbc hbi
              go_wp2
              go_ret
              exact ⟨_, rfl, by rw [← HE.out]; exact hoo.mono (by omega), hbw.trans (hq.mono (by omega))⟩
            · obtain ⟨_, hb1⟩ := hbc hz
              have HE : Hid ((o ++ [((bestG f left no).1 : Int)]) ++ greedyG f no (nextG f no left) = greedyL (N : Int) xss) := by rw [Hid, ← HG.out, greedyG_step f hz, List.append_assoc]; rfl
              have HLT := Lib.hid (greedy_lt f hz)
              have HNX : Hid (nextG f no left = left.filter fun j => !f (bestG f left no).1 j) := rfl
              have hbi : bI (bestG f left no) = ((bestG f left no).1 : Int) := by rw [bI, if_neg hz]
              rw [hbi]
              clear hz hbc hbi
              generalize (bestG f left no).2 = m1 at hbl ⊢
              obtain ⟨bm, hbm⟩ : ∃ bm, (bestG f left no).1 = bm := ⟨_, rfl⟩
              rw [hbm] at HE HLT HNX hb1 ⊢
              clear hbm
              obtain ⟨c', p1, p2, p3⟩ := HA1.out bm
              rw [← HNX.out] at p3
              have HCB := Lib.hid p3
              clear p3
              obtain ⟨ad, hal, q1⟩ := HCL.out wy bm hq hb1
              subst hal
              have Q1 : Hid (∀ W, Below wo.heap.size wo W → W.cell? (ad.add bm) = some (.int .i64 (setB (f bm) (3 * L) : Nat))) := fun W hW => by
                obtain ⟨ad', e, q⟩ := HCL.out W bm hW hb1
                injection e with e
                subst e
                exact q
              generalize setB (f bm) (3 * L) = sk at p1 q1 Q1
              have d1 : decide ((bm : Int) < 0) = false := by simp
              have HLo : Hid ((ints o).length = nq) := by rw [Hid, ints_length, HNQ.out]
              have hno : nq ≤ 60 := by have := HNQ.out; omega
              have hBq := hq.size
              have hn1 : (nq + 1) * 8 ≤ 140737488355328 := by omega
              have hn2 : nq + 1 ≤ 9223372036854775807 := by omega
              have hltb : (bm : Int) < (no : Int) := by omega
              go_upto_region 32 with (at_builtin; (refine wpList_app1m rfl _ _ 22 rfl elI ?_ hoo ?_ ?_ hBq nq HLo.out hn1 hn2 ?_); (focus exact rfl); (focus (simp [Act.eval])); (focus exact rfl); intro bn cn' w6 ho6 hg6 hat6)
              have hb6 : Below wo.heap.size wo w6 := hq.grown hg6 hBq fun r hr => (hoo.lt r hr).1
              have q6 := Q1.out w6 hb6
              clear q1
              go_wp2
              go_roundg (nextG f no left).length
              case measure => rw [hgb, HNX.out]; exact HLT.out
              case rel => exact ⟨o ++ [(bm : Int)], c', by rw [HCB.out], p2, by first | rfl | rw [p1], by have h1 := HLT.out; rw [HCB.out, HNX.out, List.length_append, List.length_singleton]; omega, by rw [ints_append]; exact ho6, hb6, by rw [HCB.out]; exact HE⟩

end Go.Proofs.YtlmbaijkeahkfaaDoor
