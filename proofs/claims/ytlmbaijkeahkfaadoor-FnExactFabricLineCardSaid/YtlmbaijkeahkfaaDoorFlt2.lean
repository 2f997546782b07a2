/- Walks: faults that no mask finds. -/
import Derived.Test.YtlmbaijkeahkfaaDoorFlt
namespace Go.Proofs.YtlmbaijkeahkfaaDoor
open Go.RowKit
set_option linter.unusedVariables false
set_option linter.unusedSimpArgs false

theorem xorl_of' : ∀ m : Nat, m < 256 → ∀ i : Nat, i < 8 → ∀ k : Nat, k < 8 → decide (bits BinOp.xor IntKind.i64 (bits BinOp.xor IntKind.i64 (m : Int) (wrap64 (2 ^ i))) (wrap64 (2 ^ k)) = (((m ^^^ (1 <<< i)) ^^^ (1 <<< k) : Nat) : Int)) = true := by decide +kernel
theorem xorl_of {m i k : Nat} (hm : m < 256) (hi : i < 8) (hk : k < 8) : bits BinOp.xor IntKind.i64 (bits BinOp.xor IntKind.i64 (m : Int) (wrap64 (2 ^ i))) (wrap64 (2 ^ k)) = (((m ^^^ (1 <<< i)) ^^^ (1 <<< k) : Nat) : Int) := by
  simpa using xorl_of' m hm i hi k hk
set_option maxHeartbeats 2000000 in
theorem s_l11Bits (N : Nat) (v : Value) (xss : List (List Int)) (idx kind m : Nat) (w : World) (h : Rd2 w v xss) (hk : netOk (N : Int) xss = true) (hm : m < 2 ^ N) (hkd : kind ≤ 2) :
    Calls Tryd.prog 148 #[.agg #[.int .i64 N, v], .int .i64 idx, .int .i64 kind, .int .i64 m] w (RetB (.int .i64 (outF11 xss idx kind m : Nat)) w) := by
  obtain ⟨N', e, hN1, hN8, hL60⟩ := netOk_n hk
  obtain rfl : N = N' := by omega
  clear e
  have hp := pow_le8 hN8
  obtain ⟨a, c, rfl, _, _⟩ := h.form
  obtain ⟨w0, hw0, hb0, hz0, c0, c1⟩ := net_box w (.int .i64 N) (.slice a xss.length c) 32
  have h' := h.below hb0
  have HL := Lib.hid (fun k => fltM_lt (idx := idx) (kind := kind) hk hm k)
  have HP := Lib.hid (fun (W : World) (hW : Rd2 W (.slice a xss.length c) xss) (k : Nat) (hlt : k < xss.length) => hW.pair hk hlt)
  clear hk
  go_enter Tryd.func148, Tryd.ntmps148
  go_wp2
  clear c0 c1 hw0
  go_loopg [3, 16] xss.length (fun g mv iv wr => ∃ (k r : Nat), g = xss.length - k ∧ k ≤ xss.length ∧ iv = .int .i64 k ∧ mv = .int .i64 (r : Int) ∧ Dr w0 wr ∧ Hid (r = fltM xss idx kind m k))
  case atStart => exact ⟨0, m, rfl, Nat.zero_le _, rfl, rfl, Dr.refl _, rfl⟩
  case round =>
    obtain ⟨k, r, hg, hkl, rfl, rfl, hdr, HR⟩ := hrel
    by_cases hlt : k < xss.length
    · obtain ⟨ad, z, d, x, y, rfl, hc, hcx, hcy, hxN, hyN, hxy, hx⟩ := HP.out _ (h'.dr hdr) k hlt
      have hr : r < 256 := by have := HL.out k; rw [← HR.out] at this; omega
      by_cases hki : k = idx
      · have q0 : ((k : Int) == (idx : Int)) = true := by simp [hki]
        have HS0 : Hid (fltN r x y kind = fltM xss idx kind m (k + 1)) := by rw [Hid, fltM_at hx.out hki, ← HR.out]
        clear hki
        rcases (show kind = 0 ∨ kind = 1 ∨ kind = 2 by omega) with rfl | rfl | rfl
        · have HE : Hid (fltN r x y 0 = r) := rfl
          clear hx
          go_wp2
          go_roundg (xss.length - (k + 1))
          case measure => omega
          case rel => exact ⟨k + 1, r, rfl, by omega, by go_num, rfl, hdr, by rw [Hid, ← HS0.out, HE.out]⟩
        · have b1 := bit_of r hr x (by omega)
          have b2 := bit_of r hr y (by omega)
          have hx3 := xorl_of (m := r) (i := x) (k := y) hr (by omega) (by omega)
          clear hx
          by_cases hq : r.testBit x = r.testBit y
          · have HE : Hid (fltN r x y 1 = r) := by simp [Hid, fltN, swapN, hq]
            have q1 : (bits BinOp.and IntKind.i64 ((r : Int) / 2 ^ x) 1 != bits BinOp.and IntKind.i64 ((r : Int) / 2 ^ y) 1) = false := by rw [b1, b2, hq]; simp
            clear b1 b2 hx3 hq
            go_wp2
            go_quiet (fail)
            go_wp2
            go_roundg (xss.length - (k + 1))
            case measure => omega
            case rel => exact ⟨k + 1, r, rfl, by omega, by go_num, rfl, hdr.step _, by rw [Hid, ← HS0.out, HE.out]⟩
          · have HE : Hid (fltN r x y 1 = (r ^^^ (1 <<< x)) ^^^ (1 <<< y)) := by simp [Hid, fltN, swapN, hq]
            have q1 : (bits BinOp.and IntKind.i64 ((r : Int) / 2 ^ x) 1 != bits BinOp.and IntKind.i64 ((r : Int) / 2 ^ y) 1) = true := by
              rw [b1, b2]
              exact (by decide : ∀ p q : Bool, p ≠ q → ((if p = true then (1 : Int) else 0) != (if q = true then 1 else 0)) = true) _ _ hq
            clear b1 b2 hq
            go_wp2
            go_quiet (fail)
            go_wp2
            go_quiet (fail)
            go_wp2
            go_roundg (xss.length - (k + 1))
            case measure => omega
            case rel => exact ⟨k + 1, _, rfl, by omega, by go_num, rfl, hdr.step _, by rw [Hid, ← HS0.out, HE.out]⟩
        · have HS : Hid (stepN r y x = fltM xss idx 2 m (k + 1)) := HS0.out
          have b1 := bit_of r hr y (by omega)
          have b2 := bit_of r hr x (by omega)
          have hbk := fun h1 h2 => back_of (m := r) (i := y) (k := x) hr (by omega) (by omega) (by omega) h1 h2
          clear hx HS0
          cases t1 : r.testBit y
          · have HE : Hid (r = stepN r y x) := by rw [Hid, stepN, t1]; rfl
            rw [t1] at b1
            have q1 : bits BinOp.and IntKind.i64 ((r : Int) / 2 ^ y) 1 = 0 := b1
            clear b1 b2 t1 hbk
            go_wp2
            go_roundg (xss.length - (k + 1))
            case measure => omega
            case rel => exact ⟨k + 1, r, rfl, by omega, by go_num, rfl, hdr, by rw [Hid, ← HS.out, ← HE.out]⟩
          · cases t2 : r.testBit x
            · have e3 := hbk t1 t2
              rw [t1] at b1
              rw [t2] at b2
              have q1 : bits BinOp.and IntKind.i64 ((r : Int) / 2 ^ y) 1 = 1 := b1
              have q2 : bits BinOp.and IntKind.i64 ((r : Int) / 2 ^ x) 1 = 0 := b2
              clear b1 b2 t1 t2 hbk
              go_wp2
              go_quiet (fail)
              go_wp2
              go_roundg (xss.length - (k + 1))
              case measure => omega
              case rel => exact ⟨k + 1, stepN r y x, rfl, by omega, by go_num, by first | rw [e3] | rfl, hdr.step _, HS⟩
            · have HE : Hid (r = stepN r y x) := by rw [Hid, stepN, t1, t2]; rfl
              rw [t1] at b1
              rw [t2] at b2
              have q1 : bits BinOp.and IntKind.i64 ((r : Int) / 2 ^ y) 1 = 1 := b1
              have q2 : bits BinOp.and IntKind.i64 ((r : Int) / 2 ^ x) 1 = 1 := b2
              clear b1 b2 t1 t2 hbk
              go_wp2
              go_roundg (xss.length - (k + 1))
              case measure => omega
              case rel => exact ⟨k + 1, r, rfl, by omega, by go_num, rfl, hdr, by rw [Hid, ← HS.out, ← HE.out]⟩
      · have q0 : ((k : Int) == (idx : Int)) = false := by rw [beq_eq_false_iff_ne]; omega
        have HS : Hid (stepN r x y = fltM xss idx kind m (k + 1)) := by rw [Hid, fltM_off hx.out hki, ← HR.out]
        have b1 := bit_of r hr x (by omega)
        have b2 := bit_of r hr y (by omega)
        have hbk := fun h1 h2 => back_of (m := r) (i := x) (k := y) hr (by omega) (by omega) (by omega) h1 h2
        clear hx hki
        cases t1 : r.testBit x
        · have HE : Hid (r = stepN r x y) := by rw [Hid, stepN, t1]; rfl
          rw [t1] at b1
          have q1 : bits BinOp.and IntKind.i64 ((r : Int) / 2 ^ x) 1 = 0 := b1
          clear b1 b2 t1 hbk
          go_wp2
          go_roundg (xss.length - (k + 1))
          case measure => omega
          case rel => exact ⟨k + 1, r, rfl, by omega, by go_num, rfl, hdr, by rw [Hid, ← HS.out, ← HE.out]⟩
        · cases t2 : r.testBit y
          · have e3 := hbk t1 t2
            rw [t1] at b1
            rw [t2] at b2
            have q1 : bits BinOp.and IntKind.i64 ((r : Int) / 2 ^ x) 1 = 1 := b1
            have q2 : bits BinOp.and IntKind.i64 ((r : Int) / 2 ^ y) 1 = 0 := b2
            clear b1 b2 t1 t2 hbk
            go_wp2
            go_quiet (fail)
            go_wp2
            go_roundg (xss.length - (k + 1))
            case measure => omega
            case rel => exact ⟨k + 1, stepN r x y, rfl, by omega, by go_num, by first | rw [e3] | rfl, hdr.step _, HS⟩
          · have HE : Hid (r = stepN r x y) := by rw [Hid, stepN, t1, t2]; rfl
            rw [t1] at b1
            rw [t2] at b2
            have q1 : bits BinOp.and IntKind.i64 ((r : Int) / 2 ^ x) 1 = 1 := b1
            have q2 : bits BinOp.and IntKind.i64 ((r : Int) / 2 ^ y) 1 = 1 := b2
            clear b1 b2 t1 t2 hbk
            go_wp2
            go_roundg (xss.length - (k + 1))
            case measure => omega
            case rel => exact ⟨k + 1, r, rfl, by omega, by go_num, rfl, hdr, by rw [Hid, ← HS.out, ← HE.out]⟩
    · obtain rfl : xss.length = k := by omega
      go_wp2
      go_ret
      exact ⟨by rw [HR.out]; rfl, hb0.trans (hdr.below _)⟩

set_option maxHeartbeats 1000000 in
theorem s_l11Ok (N : Nat) (v : Value) (xss : List (List Int)) (idx kind : Nat) (w : World) (h : Rd2 w v xss) (hk : netOk (N : Int) xss = true) (hi : idx < xss.length) (hkd : kind ≤ 2) :
    Calls Tryd.prog 147 #[.agg #[.int .i64 N, v], .int .i64 idx, .int .i64 kind] w (RetB (.bool true) w) := by
  obtain ⟨N', e, hN1, hN8, hL60⟩ := netOk_n hk
  obtain rfl : N = N' := by omega
  clear e
  obtain ⟨a, c, rfl, _, _⟩ := h.form
  obtain ⟨w0, hw0, hb0, hz0, c0, c1⟩ := net_box w (.int .i64 N) (.slice a xss.length c) 32
  have HN := s_NetworkOk (N : Int) _ xss _ (h.below hb0) (by unfold I64; omega)
  rw [hk] at HN
  have HI1 := Lib.hid (fun wq => s_l01In (idx : Int) 0 ((xss.length : Int) - 1) wq)
  have HI2 := Lib.hid (fun wq => s_l01In (kind : Int) 0 2 wq)
  rw [show inB (idx : Int) 0 ((xss.length : Int) - 1) = true from inB_iff.2 (by omega)] at HI1
  rw [show inB (kind : Int) 0 2 = true from inB_iff.2 (by omega)] at HI2
  have iw : IntKind.i64.wrap ((xss.length : Int) - 1) = (xss.length : Int) - 1 := IntWalk.i64_in _ (by omega)
  have C0 := Lib.hid c0
  have C1 := Lib.hid c1
  clear hk
  go_enter Tryd.func147, Tryd.ntmps147
  go_wp2_with (first
    | (go_at_call 44; refine HN.mono ?_; rintro e w2 ⟨rfl, hb2⟩; obtain ⟨c0, c1⟩ := Below.cells2 hb2 (show w.heap.size < w0.heap.size by omega) C0.out C1.out)
    | (go_at_call 71; (with_reducible refine (HI1.out _).mono ?_); rintro e w' ⟨rfl, rfl⟩)
    | (go_at_call 71; (with_reducible refine (HI2.out _).mono ?_); rintro e w' ⟨rfl, rfl⟩))
  go_ret
  exact ⟨rfl, hb0.trans (hb2.mono (by omega))⟩

set_option maxHeartbeats 1000000 in
theorem s_FaultyBits (N : Nat) (v : Value) (xss : List (List Int)) (idx kind m : Nat) (w : World) (h : Rd2 w v xss) (hk : netOk (N : Int) xss = true) (hi : idx < xss.length) (hm : m < 2 ^ N) (hkd : kind ≤ 2) :
    Calls Tryd.prog 149 #[.agg #[.int .i64 N, v], .int .i64 idx, .int .i64 kind, .int .i64 m] w (RetB (.int .i64 (outF11 xss idx kind m : Nat)) w) := by
  obtain ⟨N', e, hN1, hN8, hL60⟩ := netOk_n hk
  obtain rfl : N = N' := by omega
  clear e
  obtain ⟨a, c, rfl, _, _⟩ := h.form
  obtain ⟨w0, hw0, hb0, hz0, c0, c1⟩ := net_box w (.int .i64 N) (.slice a xss.length c) 32
  have HO := s_l11Ok N _ xss idx kind _ (h.below hb0) hk hi hkd
  have HF := Lib.hid (fun (W : World) (hW : Below w.heap.size w W) => s_l11Bits N _ xss idx kind m W (h.below hW) hk hm hkd)
  have hp := pow_le8 hN8
  have e2 := shl_of N (by omega)
  obtain ⟨M, hM⟩ : ∃ M, 2 ^ N = M := ⟨_, rfl⟩
  rw [hM] at hp e2 hm
  have HI1 := Lib.hid (fun wq => s_l01In (m : Int) 0 ((M : Int) - 1) wq)
  rw [show inB (m : Int) 0 ((M : Int) - 1) = true from inB_iff.2 (by omega)] at HI1
  have iw : IntKind.i64.wrap ((M : Int) - 1) = (M : Int) - 1 := IntWalk.i64_in _ (by omega)
  have C0 := Lib.hid c0
  have C1 := Lib.hid c1
  clear hk hM
  go_enter Tryd.func149, Tryd.ntmps149
  go_wp2_with (first
    | (go_at_call 147; refine HO.mono ?_; rintro e w2 ⟨rfl, hb2⟩; have hbw2 : Below w.heap.size w w2 := hb0.trans (hb2.mono (by omega)); obtain ⟨c0, c1⟩ := Below.cells2 hb2 (show w.heap.size < w0.heap.size by omega) C0.out C1.out)
    | (go_at_call 71; (with_reducible refine (HI1.out _).mono ?_); rintro e w' ⟨rfl, rfl⟩)
    | (go_at_call 148; refine (HF.out _ hbw2).mono ?_; rintro e w3 ⟨rfl, hb3⟩))
  go_ret
  exact ⟨rfl, hbw2.trans (hb3.mono hbw2.size)⟩

set_option maxHeartbeats 1000000 in
theorem s_FindsFault (N : Nat) (v : Value) (xss : List (List Int)) (idx kind m : Nat) (w : World) (h : Rd2 w v xss) (hk : netOk (N : Int) xss = true) (hi : idx < xss.length) (hm : m < 2 ^ N) (hkd : kind ≤ 2) :
    Calls Tryd.prog 111 #[.agg #[.int .i64 N, v], .int .i64 idx, .int .i64 kind, .int .i64 m] w (RetB (.bool (findsB xss idx kind m)) w) := by
  obtain ⟨a, c, rfl, _, _⟩ := h.form
  obtain ⟨w0, hw0, hb0, hz0, c0, c1⟩ := net_box w (.int .i64 N) (.slice a xss.length c) 32
  have HF := s_FaultyBits N _ xss idx kind m _ (h.below hb0) hk hi hm hkd
  have HA := Lib.hid (fun (W : World) (hW : Below w.heap.size w W) => s_l03Apply N _ xss m W (h.below hW) hk hm)
  have HR : Hid (findsB xss idx kind m = ((outF11 xss idx kind m : Int) != (outM xss m : Int))) := by
    rw [Hid, findsB]
    by_cases e : outF11 xss idx kind m = outM xss m
    · simp [e]
    · have : ¬ (outF11 xss idx kind m : Int) = (outM xss m : Int) := by omega
      simp [e, this]
  have d0 : ((outF11 xss idx kind m : Int) != (-1)) = true := by rw [bne_iff_ne]; omega
  have C0 := Lib.hid c0
  have C1 := Lib.hid c1
  clear hk hm hkd hi
  generalize outF11 xss idx kind m = r1 at *
  generalize outM xss m = r2 at *
  go_enter Tryd.func111, Tryd.ntmps111
  go_wp2_with (first
    | (go_at_call 149; refine HF.mono ?_; rintro e w2 ⟨rfl, hb2⟩; have hbw2 : Below w.heap.size w w2 := hb0.trans (hb2.mono (by omega)); obtain ⟨c0, c1⟩ := Below.cells2 hb2 (show w.heap.size < w0.heap.size by omega) C0.out C1.out)
    | (go_at_call 140; refine (HA.out _ hbw2).mono ?_; rintro e w3 ⟨rfl, hd3⟩))
  go_ret
  exact ⟨ret_bool HR.out.symm, hbw2.trans (hd3.below _)⟩

set_option maxHeartbeats 2000000 in
theorem s_TestsFor (N : Nat) (v : Value) (xss : List (List Int)) (idx kind : Nat) (w : World) (h : Rd2 w v xss) (hk : netOk (N : Int) xss = true) (hi : idx < xss.length) (hkd : kind ≤ 2) :
    Calls Tryd.prog 110 #[.agg #[.int .i64 N, v], .int .i64 idx, .int .i64 kind] w (RetOwn 3 (ints (testsL xss idx kind (2 ^ N))) w) := by
  obtain ⟨N', e, hN1, hN8, hL60⟩ := netOk_n hk
  obtain rfl : N = N' := by omega
  clear e
  have hp := pow_le8 hN8
  have e2 := shl_of N (by omega)
  obtain ⟨M, hM⟩ : ∃ M, 2 ^ N = M := ⟨_, rfl⟩
  rw [hM] at hp e2 ⊢
  obtain ⟨a, c, rfl, _, _⟩ := h.form
  obtain ⟨w0, hw0, hb0, hz0, c0, c1⟩ := net_box w (.int .i64 N) (.slice a xss.length c) 32
  have HO := s_l11Ok N _ xss idx kind _ (h.below hb0) hk hi hkd
  have HB := Lib.hid (fun (m : Nat) (hm : m < M) (W : World) (hW : Below w.heap.size w W) => s_l11Bits N _ xss idx kind m W (h.below hW) hk (by omega) hkd)
  have HA := Lib.hid (fun (m : Nat) (hm : m < M) (W : World) (hW : Below w.heap.size w W) => s_l03Apply N _ xss m W (h.below hW) hk (by omega))
  have HLN := Lib.hid (fun M => testsL_len xss idx kind M)
  have HRK : Hid (∀ m, findsB xss idx kind m = ((outF11 xss idx kind m : Int) != (outM xss m : Int))) := fun m => by
    rw [findsB]
    by_cases e : outF11 xss idx kind m = outM xss m
    · simp [e]
    · have : ¬ (outF11 xss idx kind m : Int) = (outM xss m : Int) := by omega
      simp [e, this]
  have C0 := Lib.hid c0
  have C1 := Lib.hid c1
  clear hk hM
  go_enter Tryd.func110, Tryd.ntmps110
  go_wp2_with (go_at_call 147; refine HO.mono ?_; rintro e w2 ⟨rfl, hb2⟩; have hb2' : Below (w.heap.size + 1) w0 w2 := hb2.mono (by omega))
  have hs2 : w.heap.size + 1 ≤ w2.heap.size := by have := hb2.size; omega
  have hb1 : Below (w.heap.size + 1) w0 (w2.alloc (.cells #[] 3)) := Below.alloc' hb2' (by omega) _
  clear c0 c1 hw0 HO
  go_loopg [7, 8] M (fun g vo iv wr => ∃ k : Nat, g = M - k ∧ k ≤ M ∧ iv = .int .i64 k ∧ Own wr 3 (w.heap.size + 1) vo (ints (testsL xss idx kind k)) ∧ Below (w.heap.size + 1) w0 wr)
  case atStart => exact ⟨0, rfl, Nat.zero_le _, rfl, Own.lit0 (B := w.heap.size + 1) w2 3 hs2, hb1⟩
  case round =>
    clear hb2 hb2' hs2 hb1
    obtain ⟨k, hg, hkl, rfl, ho, hb⟩ := hrel
    obtain ⟨ao, no, co, rfl, HN, _, _⟩ := ho.rd.formN
    have g0 : wr.cell? ⟨w.heap.size, 0, none⟩ = some (.int .i64 N) := (hb.cell (Nat.lt_succ_self _)).trans C0.out
    have g1 : wr.cell? ⟨w.heap.size, 1, none⟩ = some (.slice a xss.length c) := (hb.cell (Nat.lt_succ_self _)).trans C1.out
    by_cases hlt : k < M
    · have hbw : Below w.heap.size w wr := hb0.trans (hb.mono (by omega))
      have HT := keep_box g0 g1
      have K0 : Hid (∀ W : World, Below wr.heap.size wr W → Calls Tryd.prog 148 #[.agg #[.int .i64 N, .slice a xss.length c], .int .i64 idx, .int .i64 kind, .int .i64 k] W fun e w' => e = .returned (.int .i64 (outF11 xss idx kind k : Nat)) ∧ Below wr.heap.size wr w') :=
        fun W hW => (HB.out k hlt W (hbw.trans (hW.mono hbw.size))).mono fun e w' hh => ⟨hh.1, hW.trans (hh.2.mono hW.size)⟩
      have K1 : Hid (∀ W : World, Below wr.heap.size wr W → Calls Tryd.prog 140 #[.slice a xss.length c, .int .i64 k] W fun e w' => e = .returned (.int .i64 (outM xss k : Nat)) ∧ Below wr.heap.size wr w') :=
        fun W hW => (HA.out k hlt W (hbw.trans (hW.mono hbw.size))).mono fun e w' hh => ⟨hh.1, hW.trans (hh.2.below _)⟩
      have hrk := HRK.out k
      have hsz := hb.size
      cases hq : findsB xss idx kind k
      · have HU := Lib.hid (testsL_no hq)
        rw [hq] at hrk
        have q0 := hrk.symm
        clear hq hrk
        generalize outF11 xss idx kind k = r1 at *
        generalize outM xss k = r2 at *
        go_wp2
        clear g0 g1
        go_region_held3 (fun wx => Below wr.heap.size wr wx ∧ wx.cell? ⟨w.heap.size, 0, none⟩ = some (.int .i64 N) ∧ wx.cell? ⟨w.heap.size, 1, none⟩ = some (.slice a xss.length c))
          (first | exact HT.out _ g3 | exact HT.out _ (by exact ⟨rfl, rfl, rfl, Nat.le_refl _, fun _ _ => rfl⟩) | go_keep)
          (first
            | (go_at_call 148; (with_reducible refine (K0.out _ (by exact (show _ ∧ _ ∧ _ from by assumption).1)).mono ?_); rintro e w3 ⟨rfl, g3⟩)
            | (go_at_call 140; (with_reducible refine (K1.out _ (by exact (show _ ∧ _ ∧ _ from by assumption).1)).mono ?_); rintro e w3 ⟨rfl, g3⟩))
        all_goals
          go_wp2
          go_roundg (M - (k + 1))
          case measure => omega
          case rel => exact ⟨k + 1, rfl, by omega, by go_num, by rw [HU.out]; exact ho.below g3, hb.trans (g3.mono (by omega))⟩
      · have HU := Lib.hid (testsL_yes hq)
        rw [hq] at hrk
        have q0 := hrk.symm
        clear hq hrk
        generalize outF11 xss idx kind k = r1 at *
        generalize outM xss k = r2 at *
        have hln := HLN.out k
        have HLo : Hid ((ints (testsL xss idx kind k)).length = no) := by rw [Hid, ints_length, HN.out]
        have hno : no ≤ 256 := by have := HN.out; omega
        go_wp2
        clear g0 g1
        go_region_held3 (fun wx => Below wr.heap.size wr wx ∧ wx.cell? ⟨w.heap.size, 0, none⟩ = some (.int .i64 N) ∧ wx.cell? ⟨w.heap.size, 1, none⟩ = some (.slice a xss.length c))
          (first | exact HT.out _ g3 | exact HT.out _ (by exact ⟨rfl, rfl, rfl, Nat.le_refl _, fun _ _ => rfl⟩) | go_keep)
          (first
            | (go_at_call 148; (with_reducible refine (K0.out _ (by exact (show _ ∧ _ ∧ _ from by assumption).1)).mono ?_); rintro e w3 ⟨rfl, g3⟩)
            | (go_at_call 140; (with_reducible refine (K1.out _ (by exact (show _ ∧ _ ∧ _ from by assumption).1)).mono ?_); rintro e w3 ⟨rfl, g3⟩))
        all_goals
          have ho4 := ho.below g3
          have hz4 := g3.size
          have hs4 : w.heap.size + 1 ≤ w3.heap.size := by omega
          go_wp2_with (at_builtin; refine wpList_app1m rfl _ _ 22 rfl elI rfl ho4 (by show Value.slice (some ⟨w3.heap.size, 0, none⟩) 1 1 = _; simp) rfl hs4 no HLo.out (by omega) (by omega) ?_; intro bn cn' w6 ho6 hg6 hat6)
          have hb6 : Below (w.heap.size + 1) w0 w6 := (hb.trans (g3.mono (by omega))).grown hg6 hs4 fun r hr => (ho4.lt r hr).1
          go_roundg (M - (k + 1))
          case measure => omega
          case rel => exact ⟨k + 1, rfl, by omega, by go_num, by rw [HU.out, ints_append]; exact ho6, hb6⟩
    · obtain rfl : M = k := by omega
      go_wp2
      go_ret
      exact ⟨_, rfl, ho.mono (by omega), hb0.trans (hb.mono (by omega))⟩

end Go.Proofs.YtlmbaijkeahkfaaDoor
