/- Walks: the first mask that a network does not sort. -/
import Derived.Test.YtlmbaijkeahkfaaDoorBits3
import Derived.Deep.DeepCutAuto
namespace Go.Proofs.YtlmbaijkeahkfaaDoor
open Go.RowKit
set_option linter.unusedVariables false
set_option linter.unusedSimpArgs false

theorem net_box (w : World) (x y : Value) (T : Nat) : ∃ w0, w.alloc (.cells #[x, y] T) = w0 ∧ Below w.heap.size w w0 ∧ w0.heap.size = w.heap.size + 1 ∧ w0.cell? ⟨w.heap.size, 0, none⟩ = some x ∧ w0.cell? ⟨w.heap.size, 1, none⟩ = some y :=
  ⟨_, rfl, (Below.refl _ _).alloc (Nat.le_refl _) _, by simp, (box_cells w x y T).1, (box_cells w x y T).2⟩
theorem keep_box {wr : World} {p : Nat} {x y : Value} (g0 : wr.cell? ⟨p, 0, none⟩ = some x) (g1 : wr.cell? ⟨p, 1, none⟩ = some y) :
    Hid (∀ wx : World, Below wr.heap.size wr wx → Below wr.heap.size wr wx ∧ wx.cell? ⟨p, 0, none⟩ = some x ∧ wx.cell? ⟨p, 1, none⟩ = some y) :=
  fun wx hx => ⟨hx, (hx.cell (World.block_lt_of_cell? _ _ g0)).trans g0, (hx.cell (World.block_lt_of_cell? _ _ g1)).trans g1⟩
theorem Below.cells2 {w w' : World} {B p : Nat} {x y : Value} (h : Below B w w') (hp : p < B) (g0 : w.cell? ⟨p, 0, none⟩ = some x) (g1 : w.cell? ⟨p, 1, none⟩ = some y) : w'.cell? ⟨p, 0, none⟩ = some x ∧ w'.cell? ⟨p, 1, none⟩ = some y :=
  ⟨(h.cell hp).trans g0, (h.cell hp).trans g1⟩

theorem unsN_pre (n : Nat) (xss : List (List Int)) (k : Nat) : ∀ d, ∃ t, unsN n xss (k + d) = unsN n xss k ++ t
  | 0 => ⟨[], by simp⟩
  | d + 1 => by
    obtain ⟨t, ht⟩ := unsN_pre n xss k d
    rw [← Nat.add_assoc]
    cases h : okM n xss (k + d)
    · exact ⟨t ++ [((k + d : Nat) : Int)], by rw [unsN_no h, ht, List.append_assoc]⟩
    · exact ⟨t, by rw [unsN_yes h, ht]⟩
theorem unsN_nil {n : Nat} {xss : List (List Int)} : ∀ k : Nat, (∀ j, j < k → okM n xss j = true) → unsN n xss k = []
  | 0, _ => rfl
  | k + 1, h => by rw [unsN_yes (h k (Nat.lt_succ_self _))]; exact unsN_nil k fun j hj => h j (by omega)
theorem firstU_yes {n : Nat} {xss : List (List Int)} {k : Nat} (h : ∀ j, j < k → okM n xss j = true) (hk : okM n xss k = false) (hlt : k < 2 ^ n) : firstU n xss = k := by
  obtain ⟨t, ht⟩ := unsN_pre n xss (k + 1) (2 ^ n - (k + 1))
  rw [show k + 1 + (2 ^ n - (k + 1)) = 2 ^ n by omega, unsN_no hk, unsN_nil k h] at ht
  rw [firstU, ht]
  rfl
theorem firstU_none {n : Nat} {xss : List (List Int)} (h : ∀ j, j < 2 ^ n → okM n xss j = true) : firstU n xss = -1 := by
  rw [firstU, unsN_nil _ h]
theorem firstU_nil {n : Nat} {xss : List (List Int)} (h : (unsN n xss (2 ^ n)).length = 0) : firstU n xss = -1 := by
  rw [firstU, List.length_eq_zero_iff.1 h]
theorem firstU_cons {n : Nat} {xss : List (List Int)} {x : Int} (h : (unsN n xss (2 ^ n))[0]? = some x) : firstU n xss = x := by
  rw [firstU]
  cases hh : unsN n xss (2 ^ n) with
  | nil => rw [hh] at h; simp at h
  | cons y t => rw [hh] at h; simp only [List.getElem?_cons_zero, Option.some.injEq] at h; exact h
theorem firstU_bound (n : Nat) (xss : List (List Int)) : firstU n xss = -1 ∨ ∃ m : Nat, firstU n xss = m ∧ m < 2 ^ n := by
  rw [firstU]
  cases hh : unsN n xss (2 ^ n) with
  | nil => exact .inl rfl
  | cons y t =>
    have hy : y ∈ unsN n xss (2 ^ n) := by rw [hh]; simp
    simp only [unsN, List.mem_map, List.mem_filter, List.mem_range] at hy
    obtain ⟨m, ⟨hm, _⟩, rfl⟩ := hy
    exact .inr ⟨m, rfl, hm⟩

set_option maxHeartbeats 1000000 in
theorem i_FirstUnsorted (n : Int) (v : Value) (xss : List (List Int)) (w : World) (h : Rd2 w v xss) (hn : I64 n) : Calls Tryd.prog 98 #[.agg #[.int .i64 n, v]] w (RetB (.int .i64 (firstUns n xss)) w) := by
  obtain ⟨a, c, rfl, h2, h3⟩ := h.form
  obtain ⟨w0, hw0, hb0, hz0, c0, c1⟩ := net_box w (.int .i64 n) (.slice a xss.length c) 32
  have h' := h.below hb0
  have HN := i_NetworkOk n _ xss _ h' hn
  cases hk : netOk n xss
  · rw [hk] at HN
    have HR : Hid (firstUns n xss = -1) := by simp [firstUns, hk, Hid]
    go_enter Tryd.func98, Tryd.ntmps98
    go_wp2_with (go_at_call 48; refine HN.mono ?_; rintro e w2 ⟨rfl, hb2⟩)
    go_ret
    exact ⟨ret_int HR.out.symm, hb0.trans (hb2.mono (by omega))⟩
  rw [hk] at HN
  obtain ⟨N, rfl, hN1, hN8, hL60⟩ := netOk_n hk
  have HR : Hid (firstUns (N : Int) xss = firstU N xss) := by simp [firstUns, hk, Hid]
  have HD := Lib.hid (fun (wq : World) (hq : Below w.heap.size w wq) => i_unsorted N _ xss wq (h.below hq) hk)
  have C0 := Lib.hid c0
  have C1 := Lib.hid c1
  have HNIL : Hid ((unsN N xss (2 ^ N)).length = 0 → firstU N xss = -1) := firstU_nil
  have HCONS : Hid (∀ x, (unsN N xss (2 ^ N))[0]? = some x → firstU N xss = x) := fun x => firstU_cons
  obtain ⟨us, hus⟩ : ∃ us, unsN N xss (2 ^ N) = us := ⟨_, rfl⟩
  rw [hus] at HD HNIL HCONS
  clear hk hus
  go_enter Tryd.func98, Tryd.ntmps98
  go_upto_region 4 with (first
    | (go_at_call 48; (refine HN.mono ?_; rintro e w2 ⟨rfl, hb2⟩; have hbw2 : Below w.heap.size w w2 := hb0.trans (hb2.mono (by omega)); obtain ⟨c0, c1⟩ := Below.cells2 hb2 (show w.heap.size < w0.heap.size by omega) C0.out C1.out))
    | (go_at_call 141; refine (HD.out _ hbw2).mono ?_; rintro e w3 ⟨vo, rfl, ho3, hb3⟩; obtain ⟨ao, no, co, rfl, HNo, _, _⟩ := ho3.rd.formN))
  rcases Nat.eq_zero_or_pos no with hz | hz
  · subst hz
    go_wp2
    go_ret
    exact ⟨ret_int (by rw [HR.out]; exact (HNIL.out HNo.out.symm).symm), hbw2.trans (hb3.mono hbw2.size)⟩
  · obtain ⟨ad, x, rfl, hc, hx⟩ := ho3.rd.int (k := 0) (by have := HNo.out; omega)
    have hc' : w3.cell? ad = some (.int .i64 x) := by simpa [Addr.add] using hc
    clear hc
    have d0 : ((no : Int) == 0) = false := by rw [beq_eq_false_iff_ne]; omega
    have d1 : (0 : Int) < (no : Int) := by omega
    go_wp2
    go_ret
    exact ⟨ret_int (by rw [HR.out]; exact (HCONS.out _ hx.out).symm), hbw2.trans (hb3.mono hbw2.size)⟩

theorem back_of' : ∀ m : Nat, m < 256 → ∀ i : Nat, i < 8 → ∀ k : Nat, k < 8 → (i == k || !m.testBit i || m.testBit k || decide (wrap64 (wrap64 ((m : Int) - wrap64 (2 ^ i)) + wrap64 (2 ^ k)) = ((stepN m i k : Nat) : Int))) = true := by decide +kernel
theorem back_of {m i k : Nat} (hm : m < 256) (hi : i < 8) (hk : k < 8) (hik : i ≠ k) (h1 : m.testBit i = true) (h2 : m.testBit k = false) : wrap64 (wrap64 ((m : Int) - wrap64 (2 ^ i)) + wrap64 (2 ^ k)) = ((stepN m i k : Nat) : Int) := by
  have := back_of' m hm i hi k hk
  rw [h1, h2] at this
  simpa [hik] using this
set_option maxHeartbeats 1000000 in
theorem s_l03Apply (N : Nat) (v : Value) (xss : List (List Int)) (m : Nat) (w : World) (h : Rd2 w v xss) (hk : netOk (N : Int) xss = true) (hm : m < 2 ^ N) :
    Calls Tryd.prog 140 #[v, .int .i64 m] w (RetQ (.int .i64 (outM xss m : Nat)) w) := by
  obtain ⟨N', e, hN1, hN8, hL60⟩ := netOk_n hk
  obtain rfl : N = N' := by omega
  clear e
  have hp := pow_le8 hN8
  obtain ⟨a, c, rfl, _, _⟩ := h.form
  have HL := Lib.hid (fun k => runM_lt hk hm k)
  have HP := Lib.hid (fun (W : World) (hW : Rd2 W (.slice a xss.length c) xss) (k : Nat) (hlt : k < xss.length) => hW.pair hk hlt)
  clear hk
  go_enter Tryd.func140, Tryd.ntmps140
  go_wp2
  go_loopg [1, 9] xss.length (fun g mv iv wr => ∃ (k r : Nat), g = xss.length - k ∧ k ≤ xss.length ∧ iv = .int .i64 k ∧ mv = .int .i64 (r : Int) ∧ Dr w wr ∧ Hid (r = runM xss m k))
  case atStart => exact ⟨0, m, rfl, Nat.zero_le _, rfl, rfl, Dr.refl _, rfl⟩
  case round =>
    obtain ⟨k, r, hg, hkl, rfl, rfl, hdr, HR⟩ := hrel
    by_cases hlt : k < xss.length
    · obtain ⟨ad, z, d, x, y, rfl, hc, hcx, hcy, hxN, hyN, hxy, hx⟩ := HP.out _ (h.dr hdr) k hlt
      have hr : r < 256 := by have := HL.out k; rw [← HR.out] at this; omega
      have HS : Hid (stepN r x y = runM xss m (k + 1)) := by rw [Hid, runM_succ hx.out, ← HR.out]
      have b1 := bit_of r hr x (by omega)
      have b2 := bit_of r hr y (by omega)
      have hb := fun h1 h2 => back_of (m := r) (i := x) (k := y) hr (by omega) (by omega) hxy h1 h2
      clear hx
      cases t1 : r.testBit x
      · have HE : Hid (r = stepN r x y) := by rw [Hid, stepN, t1]; rfl
        rw [t1] at b1
        have q1 : bits BinOp.and IntKind.i64 ((r : Int) / 2 ^ x) 1 = 0 := b1
        clear b1 b2 t1 hb
        go_wp2
        go_roundg (xss.length - (k + 1))
        case measure => omega
        case rel => exact ⟨k + 1, r, rfl, by omega, by go_num, rfl, hdr, by rw [Hid, ← HS.out, ← HE.out]⟩
      · cases t2 : r.testBit y
        · have e3 := hb t1 t2
          rw [t1] at b1
          rw [t2] at b2
          have q1 : bits BinOp.and IntKind.i64 ((r : Int) / 2 ^ x) 1 = 1 := b1
          have q2 : bits BinOp.and IntKind.i64 ((r : Int) / 2 ^ y) 1 = 0 := b2
          clear b1 b2 t1 t2 hb
          go_wp2
          go_quiet (fail)
          go_wp2
          go_roundg (xss.length - (k + 1))
          case measure => omega
          case rel => exact ⟨k + 1, stepN r x y, rfl, by omega, by go_num, by rw [e3], hdr.step _, HS⟩
        · have HE : Hid (r = stepN r x y) := by rw [Hid, stepN, t1, t2]; rfl
          rw [t1] at b1
          rw [t2] at b2
          have q1 : bits BinOp.and IntKind.i64 ((r : Int) / 2 ^ x) 1 = 1 := b1
          have q2 : bits BinOp.and IntKind.i64 ((r : Int) / 2 ^ y) 1 = 1 := b2
          clear b1 b2 t1 t2 hb
          go_wp2
          go_roundg (xss.length - (k + 1))
          case measure => omega
          case rel => exact ⟨k + 1, r, rfl, by omega, by go_num, rfl, hdr, by rw [Hid, ← HS.out, ← HE.out]⟩
    · obtain rfl : xss.length = k := by omega
      go_wp2
      go_ret
      exact ⟨by rw [HR.out]; rfl, hdr⟩

set_option maxHeartbeats 1000000 in
theorem s_FirstUnsorted (n : Int) (v : Value) (xss : List (List Int)) (w : World) (h : Rd2 w v xss) (hn : I64 n) : Calls Tryd.prog 94 #[.agg #[.int .i64 n, v]] w (RetB (.int .i64 (firstUns n xss)) w) := by
  obtain ⟨a, c, rfl, h2, h3⟩ := h.form
  obtain ⟨w0, hw0, hb0, hz0, c0, c1⟩ := net_box w (.int .i64 n) (.slice a xss.length c) 32
  have h' := h.below hb0
  have HN := s_NetworkOk n _ xss _ h' hn
  cases hk : netOk n xss
  · rw [hk] at HN
    have HR : Hid (firstUns n xss = -1) := by simp [firstUns, hk, Hid]
    go_enter Tryd.func94, Tryd.ntmps94
    go_wp2_with (go_at_call 44; refine HN.mono ?_; rintro e w2 ⟨rfl, hb2⟩)
    go_ret
    exact ⟨ret_int HR.out.symm, hb0.trans (hb2.mono (by omega))⟩
  rw [hk] at HN
  obtain ⟨N, rfl, hN1, hN8, hL60⟩ := netOk_n hk
  have hp := pow_le8 hN8
  have e2 := shl_of N (by omega)
  have HR : Hid (firstUns (N : Int) xss = firstU N xss) := by simp [firstUns, hk, Hid]
  have HA := Lib.hid (fun (m : Nat) (hm : m < 2 ^ N) (W : World) (hW : Below w.heap.size w W) => s_l03Apply N _ xss m W (h.below hW) hk hm)
  have HS : Hid (∀ (m : Nat) (hm : m < 2 ^ N) (W : World), Calls Tryd.prog 139 #[.int .i64 N, .int .i64 (outM xss m : Nat)] W fun e w' => e = .returned (.bool (okM N xss m)) ∧ W = w') := fun m hm W => by
    have e1 : onesN (outM xss m) = onesN m := runM_ones hk hm _
    have e2 : outM xss m < 2 ^ N := runM_lt hk hm _
    have := s_l03Sorted N (outM xss m) (by omega) hN8 (by rw [e1]; exact onesN_le' N (by omega) m hm) W
    rw [e1] at this
    exact this
  have HY : Hid (∀ k, (∀ j, j < k → okM N xss j = true) → okM N xss k = false → k < 2 ^ N → firstU N xss = k) := fun k => firstU_yes
  have HZ : Hid ((∀ j, j < 2 ^ N → okM N xss j = true) → firstU N xss = -1) := firstU_none
  obtain ⟨M, hM⟩ : ∃ M, 2 ^ N = M := ⟨_, rfl⟩
  rw [hM] at hp e2 HA HS HY HZ
  have C0 := Lib.hid c0
  have C1 := Lib.hid c1
  clear hk hM
  go_enter Tryd.func94, Tryd.ntmps94
  go_wp2_with (go_at_call 44; (refine HN.mono ?_; rintro e w2 ⟨rfl, hb2⟩; have hbw2 : Below w.heap.size w w2 := hb0.trans (hb2.mono (by omega)); obtain ⟨c0, c1⟩ := Below.cells2 hb2 (show w.heap.size < w0.heap.size by omega) C0.out C1.out))
  have C0' := Lib.hid c0
  have C1' := Lib.hid c1
  clear c0 c1 HN C0 C1
  go_loopg [3] M (fun g mv wr => ∃ k : Nat, g = M - k ∧ k ≤ M ∧ mv = .int .i64 k ∧ Dr w2 wr ∧ Hid (∀ j, j < k → okM N xss j = true))
  case atStart => exact ⟨0, rfl, Nat.zero_le _, rfl, Dr.refl _, fun j hj => by omega⟩
  case round =>
    obtain ⟨k, hg, hkl, rfl, hdr, HJ⟩ := hrel
    have g0 := (hdr.cell _).trans C0'.out
    have g1 := (hdr.cell _).trans C1'.out
    by_cases hlt : k < M
    · have HA1 := Lib.hid (fun (W : World) (hW : Below w.heap.size w W) => HA.out k hlt W hW)
      have HS1 := Lib.hid (fun (W : World) => HS.out k hlt W)
      have hbr : ∀ q, Below w.heap.size w (wr.drewN q) := fun q => hbw2.trans ((hdr.step q).below _)
      have HB := Lib.hid hbr
      clear hbr
      obtain ⟨b, hb⟩ : ∃ b, okM N xss k = b := ⟨_, rfl⟩
      rw [hb] at HS1
      have HOK := Lib.hid hb
      clear hb
      cases b
      · have HE : Hid (firstU N xss = k) := HY.out k HJ.out HOK.out hlt
        go_wp2
        go_quiet ((first
          | (go_at_call 140; exact Calls.quiet_of ((HA1.out _ (HB.out _)).mono fun _ _ hh => ⟨hh.1, hh.2.imp fun _ e => e.symm⟩))
          | (go_at_call 139; exact Calls.quiet_of_same ((HS1.out _).mono fun _ _ hh => ⟨hh.1, hh.2.symm⟩))))
        go_wp2
        go_ret
        exact ⟨by rw [HR.out, HE.out]; rfl, HB.out _⟩
      · go_wp2
        go_quiet ((first
          | (go_at_call 140; exact Calls.quiet_of ((HA1.out _ (HB.out _)).mono fun _ _ hh => ⟨hh.1, hh.2.imp fun _ e => e.symm⟩))
          | (go_at_call 139; exact Calls.quiet_of_same ((HS1.out _).mono fun _ _ hh => ⟨hh.1, hh.2.symm⟩))))
        go_wp2
        go_roundg (M - (k + 1))
        case measure => omega
        case rel => exact ⟨k + 1, rfl, by omega, by go_num, hdr.step _, fun j hj => by
          by_cases e : j = k
          · rw [e]; exact HOK.out
          · exact HJ.out j (by omega)⟩
    · obtain rfl : M = k := by omega
      have HE : Hid (firstU N xss = -1) := HZ.out HJ.out
      go_wp2
      go_ret
      exact ⟨by rw [HR.out, HE.out]; rfl, hbw2.trans (hdr.below _)⟩

end Go.Proofs.YtlmbaijkeahkfaaDoor
