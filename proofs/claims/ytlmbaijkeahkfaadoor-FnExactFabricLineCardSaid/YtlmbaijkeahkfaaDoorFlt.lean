/- Walks: masks through networks with a fault. -/
import Derived.Test.YtlmbaijkeahkfaaDoorBits5
namespace Go.Proofs.YtlmbaijkeahkfaaDoor
open Go.RowKit
set_option linter.unusedVariables false
set_option linter.unusedSimpArgs false

def swapN (m i k : Nat) : Nat := if m.testBit i != m.testBit k then (m ^^^ (1 <<< i)) ^^^ (1 <<< k) else m
def fltN (r a b kind : Nat) : Nat := if kind = 2 then stepN r b a else if kind = 1 then swapN r a b else r
/-- The mask behind the first k comparators, one of which has a fault. -/
def fltM (xss : List (List Int)) (idx kind m : Nat) : Nat → Nat
  | 0 => m
  | k + 1 => match xss[k]? with
    | some [a, b] => if k = idx then fltN (fltM xss idx kind m k) a.toNat b.toNat kind else stepN (fltM xss idx kind m k) a.toNat b.toNat
    | _ => fltM xss idx kind m k
theorem fltM_at {xss : List (List Int)} {idx kind m k a b : Nat} (h : xss[k]? = some [(a : Int), (b : Int)]) (e : k = idx) : fltM xss idx kind m (k + 1) = fltN (fltM xss idx kind m k) a b kind := by
  simp only [fltM, h, Int.toNat_natCast, if_pos e]
theorem fltM_off {xss : List (List Int)} {idx kind m k a b : Nat} (h : xss[k]? = some [(a : Int), (b : Int)]) (e : k ≠ idx) : fltM xss idx kind m (k + 1) = stepN (fltM xss idx kind m k) a b := by
  simp only [fltM, h, Int.toNat_natCast, if_neg e]
theorem swapN_lt : ∀ n : Nat, n < 9 → ∀ m : Nat, m < 2 ^ n → ∀ i : Nat, i < n → ∀ k : Nat, k < n → swapN m i k < 2 ^ n := by decide +kernel
theorem fltM_lt {N idx kind m : Nat} {xss : List (List Int)} (hk : netOk (N : Int) xss = true) (hm : m < 2 ^ N) : ∀ k, fltM xss idx kind m k < 2 ^ N
  | 0 => hm
  | k + 1 => by
    have ih := fltM_lt (idx := idx) (kind := kind) hk hm k
    obtain ⟨N', e, hN1, hN8, _⟩ := netOk_n hk
    cases hx : xss[k]? with
    | none => simp only [fltM, hx]; exact ih
    | some xs =>
      obtain ⟨a, b, rfl, ha, hb, _⟩ := netOk_row hk hx
      by_cases e : k = idx
      · rw [fltM_at hx e, fltN]
        split
        · exact stepN_lt N (by omega) _ ih b hb a ha
        · split
          · exact swapN_lt N (by omega) _ ih a ha b hb
          · exact ih
      · rw [fltM_off hx e]
        exact stepN_lt N (by omega) _ ih a ha b hb
def outF11 (xss : List (List Int)) (idx kind m : Nat) : Nat := fltM xss idx kind m xss.length
def findsB (xss : List (List Int)) (idx kind m : Nat) : Bool := decide (outF11 xss idx kind m ≠ outM xss m)
/-- The masks below M that find a fault. -/
def testsL (xss : List (List Int)) (idx kind M : Nat) : List Int := ((List.range M).filter fun m => findsB xss idx kind m).map fun (m : Nat) => (m : Int)
theorem testsL_yes {xss : List (List Int)} {idx kind m : Nat} (h : findsB xss idx kind m = true) : testsL xss idx kind (m + 1) = testsL xss idx kind m ++ [(m : Int)] := by
  simp [testsL, List.range_succ, h]
theorem testsL_no {xss : List (List Int)} {idx kind m : Nat} (h : findsB xss idx kind m = false) : testsL xss idx kind (m + 1) = testsL xss idx kind m := by
  simp [testsL, List.range_succ, h]
theorem testsL_len (xss : List (List Int)) (idx kind M : Nat) : (testsL xss idx kind M).length ≤ M := by
  rw [testsL, List.length_map]
  exact Nat.le_trans (List.length_filter_le _ _) (by simp)

theorem xorr_of' : ∀ m : Nat, m < 256 → ∀ i : Nat, i < 8 → ∀ k : Nat, k < 8 → (i == k || decide (bits BinOp.xor IntKind.i64 (m : Int) (bits BinOp.or IntKind.i64 (wrap64 (2 ^ i)) (wrap64 (2 ^ k))) = (((m ^^^ (1 <<< i)) ^^^ (1 <<< k) : Nat) : Int))) = true := by decide +kernel
theorem xorr_of {m i k : Nat} (hm : m < 256) (hi : i < 8) (hk : k < 8) (hik : i ≠ k) : bits BinOp.xor IntKind.i64 (m : Int) (bits BinOp.or IntKind.i64 (wrap64 (2 ^ i)) (wrap64 (2 ^ k))) = (((m ^^^ (1 <<< i)) ^^^ (1 <<< k) : Nat) : Int) := by
  have := xorr_of' m hm i hi k hk
  simpa [hik] using this
set_option maxHeartbeats 2000000 in
theorem i_faulty (N : Nat) (v : Value) (xss : List (List Int)) (idx kind m : Nat) (w : World) (h : Rd2 w v xss) (hk : netOk (N : Int) xss = true) (hm : m < 2 ^ N) (hkd : kind ≤ 2) :
    Calls Tryd.prog 150 #[.agg #[.int .i64 N, v], .int .i64 idx, .int .i64 kind, .int .i64 m] w (RetB (.int .i64 (outF11 xss idx kind m : Nat)) w) := by
  obtain ⟨N', e, hN1, hN8, hL60⟩ := netOk_n hk
  obtain rfl : N = N' := by omega
  clear e
  have hp := pow_le8 hN8
  obtain ⟨a, c, rfl, _, _⟩ := h.form
  obtain ⟨w0, hw0, hb0, hz0, c0, c1⟩ := net_box w (.int .i64 N) (.slice a xss.length c) 32
  have h' := h.below hb0
  have HL := Lib.hid (fun k => fltM_lt (idx := idx) (kind := kind) hk hm k)
  have HP := Lib.hid (fun (W : World) (hW : Rd2 W (.slice a xss.length c) xss) (k : Nat) (hlt : k < xss.length) => hW.pair hk hlt)
  clear hk
  go_enter Tryd.func150, Tryd.ntmps150
  go_wp2
  clear c0 c1 hw0
  go_loopg [3, 14] xss.length (fun g mv iv wr => ∃ (k r : Nat), g = xss.length - k ∧ k ≤ xss.length ∧ iv = .int .i64 k ∧ mv = .int .i64 (r : Int) ∧ Dr w0 wr ∧ Hid (r = fltM xss idx kind m k))
  case atStart => exact ⟨0, m, rfl, Nat.zero_le _, rfl, rfl, Dr.refl _, rfl⟩
  case round =>
    obtain ⟨k, r, hg, hkl, rfl, rfl, hdr, HR⟩ := hrel
    by_cases hlt : k < xss.length
    · obtain ⟨ad, z, d, x, y, rfl, hc, hcx, hcy, hxN, hyN, hxy, hx⟩ := HP.out _ (h'.dr hdr) k hlt
      have hr : r < 256 := by have := HL.out k; rw [← HR.out] at this; omega
      by_cases hki : k = idx
      · have q0 : ((k : Int) != (idx : Int)) = false := by simp [hki]
        have HS : Hid (fltN r x y kind = fltM xss idx kind m (k + 1)) := by rw [Hid, fltM_at hx.out hki, ← HR.out]
        have HK := Lib.hid (fun W => i_step r y x hr (by omega) (by omega) W)
        have b1 := bit_of r hr x (by omega)
        have b2 := bit_of r hr y (by omega)
        have hx3 := xorr_of (m := r) (i := x) (k := y) hr (by omega) (by omega) hxy
        clear hx hki
        rcases (show kind = 0 ∨ kind = 1 ∨ kind = 2 by omega) with rfl | rfl | rfl
        · have HE : Hid (fltN r x y 0 = r) := rfl
          clear b1 b2 hx3
          go_wp2
          go_quiet (fail)
          go_wp2
          go_roundg (xss.length - (k + 1))
          case measure => omega
          case rel => exact ⟨k + 1, r, rfl, by omega, by go_num, rfl, hdr.step _, by rw [Hid, ← HS.out, HE.out]⟩
        · by_cases hq : r.testBit x = r.testBit y
          · have HE : Hid (fltN r x y 1 = r) := by simp [Hid, fltN, swapN, hq]
            have q1 : (bits BinOp.and IntKind.i64 ((r : Int) / 2 ^ x) 1 != bits BinOp.and IntKind.i64 ((r : Int) / 2 ^ y) 1) = false := by rw [b1, b2, hq]; simp
            clear b1 b2 hx3 hq
            go_wp2
            go_quiet (fail)
            go_wp2
            go_roundg (xss.length - (k + 1))
            case measure => omega
            case rel => exact ⟨k + 1, r, rfl, by omega, by go_num, rfl, hdr.step _, by rw [Hid, ← HS.out, HE.out]⟩
          · have HE : Hid (fltN r x y 1 = (r ^^^ (1 <<< x)) ^^^ (1 <<< y)) := by simp [Hid, fltN, swapN, hq]
            have q1 : (bits BinOp.and IntKind.i64 ((r : Int) / 2 ^ x) 1 != bits BinOp.and IntKind.i64 ((r : Int) / 2 ^ y) 1) = true := by
              rw [b1, b2]
              exact (by decide : ∀ p q : Bool, p ≠ q → ((if p = true then (1 : Int) else 0) != (if q = true then 1 else 0)) = true) _ _ hq
            clear b1 b2 hq
            go_wp2
            go_quiet (fail)
            go_wp2
            go_quiet (fail)
            go_wp2
            go_roundg (xss.length - (k + 1))
            case measure => omega
            case rel => exact ⟨k + 1, _, rfl, by omega, by go_num, rfl, hdr.step _, by rw [Hid, ← HS.out, HE.out]⟩
        · have HE : Hid (fltN r x y 2 = stepN r y x) := rfl
          clear b1 b2 hx3
          go_wp2
          go_quiet ((go_at_call 153; exact Calls.quiet_of ((HK.out _).mono fun _ _ hh => ⟨hh.1, hh.2.imp fun _ e => e.symm⟩)))
          go_wp2
          go_roundg (xss.length - (k + 1))
          case measure => omega
          case rel => exact ⟨k + 1, _, rfl, by omega, by go_num, rfl, hdr.step _, by rw [Hid, ← HS.out, HE.out]⟩
      · have q0 : ((k : Int) != (idx : Int)) = true := by rw [bne_iff_ne]; omega
        have HS : Hid (stepN r x y = fltM xss idx kind m (k + 1)) := by rw [Hid, fltM_off hx.out hki, ← HR.out]
        have HK := Lib.hid (fun W => i_step r x y hr (by omega) (by omega) W)
        clear hx hki
        go_wp2
        go_quiet ((go_at_call 153; exact Calls.quiet_of ((HK.out _).mono fun _ _ hh => ⟨hh.1, hh.2.imp fun _ e => e.symm⟩)))
        go_wp2
        go_roundg (xss.length - (k + 1))
        case measure => omega
        case rel => exact ⟨k + 1, _, rfl, by omega, by go_num, rfl, hdr.step _, HS⟩
    · obtain rfl : xss.length = k := by omega
      go_wp2
      go_ret
      exact ⟨by rw [HR.out]; rfl, hb0.trans (hdr.below _)⟩

set_option maxHeartbeats 1000000 in
theorem i_finds (N : Nat) (v : Value) (xss : List (List Int)) (idx kind m : Nat) (w : World) (h : Rd2 w v xss) (hk : netOk (N : Int) xss = true) (hm : m < 2 ^ N) (hkd : kind ≤ 2) :
    Calls Tryd.prog 117 #[.agg #[.int .i64 N, v], .int .i64 idx, .int .i64 kind, .int .i64 m] w (RetB (.bool (findsB xss idx kind m)) w) := by
  obtain ⟨a, c, rfl, _, _⟩ := h.form
  obtain ⟨w0, hw0, hb0, hz0, c0, c1⟩ := net_box w (.int .i64 N) (.slice a xss.length c) 32
  have K0 : Hid (∀ W : World, Below w0.heap.size w0 W → Calls Tryd.prog 150 #[.agg #[.int .i64 N, .slice a xss.length c], .int .i64 idx, .int .i64 kind, .int .i64 m] W fun e w' => e = .returned (.int .i64 (outF11 xss idx kind m : Nat)) ∧ Below w0.heap.size w0 w') :=
    fun W hW => (i_faulty N _ xss idx kind m W (h.below (hb0.trans (hW.mono hb0.size))) hk hm hkd).mono fun e w' hh => ⟨hh.1, hW.trans (hh.2.mono hW.size)⟩
  have K1 : Hid (∀ W : World, Below w0.heap.size w0 W → Calls Tryd.prog 124 #[.agg #[.int .i64 N, .slice a xss.length c], .int .i64 m] W fun e w' => e = .returned (.int .i64 (outM xss m : Nat)) ∧ Below w0.heap.size w0 w') :=
    fun W hW => (i_bits N _ xss m W (h.below (hb0.trans (hW.mono hb0.size))) hk hm).mono fun e w' hh => ⟨hh.1, hW.trans (hh.2.mono hW.size)⟩
  have HR : Hid (findsB xss idx kind m = ((outF11 xss idx kind m : Int) != (outM xss m : Int))) := by
    rw [Hid, findsB]
    by_cases e : outF11 xss idx kind m = outM xss m
    · simp [e]
    · have : ¬ (outF11 xss idx kind m : Int) = (outM xss m : Int) := by omega
      simp [e, this]
  have HT := keep_box c0 c1
  clear hk hm hkd
  generalize outF11 xss idx kind m = r1 at *
  generalize outM xss m = r2 at *
  go_enter Tryd.func117, Tryd.ntmps117
  go_wp2
  go_region_held3 (fun wx => Below w0.heap.size w0 wx ∧ wx.cell? ⟨w.heap.size, 0, none⟩ = some (.int .i64 N) ∧ wx.cell? ⟨w.heap.size, 1, none⟩ = some (.slice a xss.length c))
    (first | exact HT.out _ g3 | exact HT.out _ (by exact ⟨rfl, rfl, rfl, Nat.le_refl _, fun _ _ => rfl⟩) | go_keep)
    (first
      | (go_at_call 150; (with_reducible refine (K0.out _ (by exact (show _ ∧ _ ∧ _ from by assumption).1)).mono ?_); rintro e w3 ⟨rfl, g3⟩)
      | (go_at_call 124; (with_reducible refine (K1.out _ (by exact (show _ ∧ _ ∧ _ from by assumption).1)).mono ?_); rintro e w3 ⟨rfl, g3⟩))
  all_goals
    go_wp2
    go_ret
    exact ⟨ret_bool HR.out.symm, hb0.trans (g3.mono hb0.size)⟩

set_option maxHeartbeats 2000000 in
theorem i_tests (N : Nat) (v : Value) (xss : List (List Int)) (idx kind : Nat) (w : World) (h : Rd2 w v xss) (hk : netOk (N : Int) xss = true) (hkd : kind ≤ 2) :
    Calls Tryd.prog 115 #[.agg #[.int .i64 N, v], .int .i64 idx, .int .i64 kind] w (RetOwn 3 (ints (testsL xss idx kind (2 ^ N))) w) := by
  obtain ⟨N', e, hN1, hN8, hL60⟩ := netOk_n hk
  obtain rfl : N = N' := by omega
  clear e
  have hp := pow_le8 hN8
  have e2 := shl_of N (by omega)
  obtain ⟨M, hM⟩ : ∃ M, 2 ^ N = M := ⟨_, rfl⟩
  rw [hM] at hp e2 ⊢
  obtain ⟨a, c, rfl, _, _⟩ := h.form
  have HB := Lib.hid (fun (m : Nat) (hm : m < M) (W : World) (hW : Below w.heap.size w W) => i_finds N _ xss idx kind m W (h.below hW) hk (by omega) hkd)
  have HLN := Lib.hid (fun M => testsL_len xss idx kind M)
  obtain ⟨w0, hw0, hb0, hz0, c0, c1⟩ := net_box w (.int .i64 N) (.slice a xss.length c) 32
  have C0 := Lib.hid c0
  have C1 := Lib.hid c1
  clear hk
  go_enter Tryd.func115, Tryd.ntmps115
  have hb1 : Below (w.heap.size + 1) w0 (w0.alloc (.cells #[] 3)) := (Below.refl _ _).alloc (by omega) _
  have e0 : (w0.alloc (.cells #[] 3)).cell? ⟨w.heap.size, 0, none⟩ = some (.int .i64 N) := (World.cell?_alloc_lt _ _ _ (World.block_lt_of_cell? _ _ c0)).trans c0
  go_wp2
  clear c0 c1 hM hw0 e0
  try rw [e2]
  clear e2
  go_loopg [7, 13] M (fun g vo iv wr => ∃ k : Nat, g = M - k ∧ k ≤ M ∧ iv = .int .i64 k ∧ Own wr 3 (w.heap.size + 1) vo (ints (testsL xss idx kind k)) ∧ Below (w.heap.size + 1) w0 wr)
  case atStart => exact ⟨0, rfl, Nat.zero_le _, rfl, by have := Own.lit0 (B := w.heap.size + 1) w0 3 (by omega); rw [hz0] at this; exact this, hb1⟩
  case round =>
    obtain ⟨k, hg, hkl, rfl, ho, hb⟩ := hrel
    obtain ⟨ao, no, co, rfl, HN, _, _⟩ := ho.rd.formN
    by_cases hlt : k < M
    · have hbw : Below w.heap.size w wr := hb0.trans (hb.mono (by omega))
      have HB1 := HB.out k hlt wr hbw
      have g0 : wr.cell? ⟨w.heap.size, 0, none⟩ = some (.int .i64 N) := (hb.cell (Nat.lt_succ_self _)).trans C0.out
      have g1 : wr.cell? ⟨w.heap.size, 1, none⟩ = some (.slice a xss.length c) := (hb.cell (Nat.lt_succ_self _)).trans C1.out
      have hsz := hb.size
      cases hq : findsB xss idx kind k
      · have HU := Lib.hid (testsL_no hq)
        rw [hq] at HB1
        clear hq
        go_wp2_with (go_at_call 117; refine HB1.mono ?_; rintro e w4 ⟨rfl, g4⟩)
        go_roundg (M - (k + 1))
        case measure => omega
        case rel => exact ⟨k + 1, rfl, by omega, by go_num, by rw [HU.out]; exact ho.below g4, hb.trans (g4.mono (by omega))⟩
      · have HU := Lib.hid (testsL_yes hq)
        rw [hq] at HB1
        clear hq
        have hln := HLN.out k
        have HLo : Hid ((ints (testsL xss idx kind k)).length = no) := by rw [Hid, ints_length, HN.out]
        have hno : no ≤ 256 := by have := HN.out; omega
        go_wp2_with (first
          | (go_at_call 117; refine HB1.mono ?_; rintro e w4 ⟨rfl, g4⟩; have ho4 := ho.below g4; have hz4 := g4.size; have hs4 : w.heap.size + 1 ≤ w4.heap.size := by omega)
          | (at_builtin; refine wpList_app1m rfl _ _ 22 rfl elI rfl ho4 (by show Value.slice (some ⟨w4.heap.size, 0, none⟩) 1 1 = _; simp) rfl hs4 no HLo.out (by omega) (by omega) ?_; intro bn cn' w6 ho6 hg6 hat6))
        have hb6 : Below (w.heap.size + 1) w0 w6 := (hb.trans (g4.mono (by omega))).grown hg6 hs4 fun r hr => (ho4.lt r hr).1
        go_roundg (M - (k + 1))
        case measure => omega
        case rel => exact ⟨k + 1, rfl, by omega, by go_num, by rw [HU.out, ints_append]; exact ho6, hb6⟩
    · obtain rfl : M = k := by omega
      go_wp2
      go_ret
      exact ⟨_, rfl, ho.mono (by omega), hb0.trans (hb.mono (by omega))⟩

end Go.Proofs.YtlmbaijkeahkfaaDoor
