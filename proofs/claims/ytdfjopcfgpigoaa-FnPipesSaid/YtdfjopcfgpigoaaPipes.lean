/- Walks: pipes. -/
import Derived.Test.YtdfjopcfgpigoaaNumWalks
namespace Go.Proofs.Ytdfjopcfgpigoaa
open Go.RowKit
set_option linter.unusedVariables false
set_option linter.unusedSimpArgs false

def fillOf (xss : List (List Int)) : Nat := (xss.filter fun xs => decide (0 < xs.length)).length
theorem fillOf_step {xss : List (List Int)} {k : Nat} {xs : List Int} (h : xss[k]? = some xs) : fillOf (xss.take (k + 1)) = if 0 < xs.length then fillOf (xss.take k) + 1 else fillOf (xss.take k) := by
  unfold fillOf
  rw [take_snoc' h, List.filter_append, List.length_append]
  by_cases e : 0 < xs.length <;> simp [e]

set_option maxHeartbeats 400000 in
theorem S_FillOf (w : World) (v : Value) (xss : List (List Int)) (h : Rd2 w v xss) (_ : I64ss xss) (hl : SzOk xss) :
    Calls Try.prog 14 #[v] w (RetB (.int .i64 (fillOf xss : Nat)) w) := by
  obtain ⟨a, c, rfl, h2, h3⟩ := h.form
  have hl1 := hl.1
  clear hl
  go_enter Try.func14, Try.ntmps14
  go_wp2
  go_loop [3, 8] (fun m i => ∃ (k q : Nat), k ≤ xss.length ∧ q ≤ k ∧ i = .int .i64 k ∧ m = .int .i64 q ∧ Hid (q = fillOf (xss.take k))) (fun _ i => xss.length - (intOf i).toNat)
  case atStart => exact ⟨0, 0, Nat.zero_le _, Nat.zero_le _, rfl, rfl, by simp [fillOf, Hid]⟩
  case round =>
    obtain ⟨k, q, hk, hqk, rfl, rfl, hq⟩ := hrel
    by_cases hlt : k < xss.length
    · obtain ⟨ad, b, m, d, xs, rfl, hc, hx, hm, hmd, hd, hr⟩ := h.row hlt
      have HS := Lib.hid (fillOf_step hx.out)
      by_cases hp : 0 < m
      · have hE : Hid (fillOf (xss.take (k + 1)) = q + 1) := by rw [HS.out, ← hq.out, if_pos (by have := hm.out; omega)]; rfl
        go_wp2
        go_round
        case rel => exact ⟨k + 1, q + 1, by omega, by omega, by go_num, by go_num, hE.out.symm⟩
        case measure => simp [intOf]; omega
      · have hE : Hid (fillOf (xss.take (k + 1)) = q) := by rw [HS.out, ← hq.out, if_neg (by have := hm.out; omega)]; rfl
        go_wp2
        go_round
        case rel => exact ⟨k + 1, q, by omega, by omega, by go_num, by go_num, hE.out.symm⟩
        case measure => simp [intOf]; omega
    · obtain rfl : xss.length = k := by omega
      have hq2 : Hid (q = fillOf xss) := by rw [hq.out, List.take_length]; rfl
      go_wp2
      go_ret
      exact ⟨ret_int (by rw [hq2.out]), Below.refl _ _⟩

set_option maxHeartbeats 400000 in
theorem I_FillOf (w : World) (v : Value) (xss : List (List Int)) (h : Rd2 w v xss) (_ : I64ss xss) (hl : SzOk xss) :
    Calls Try.prog 16 #[v] w (RetB (.int .i64 (fillOf xss : Nat)) w) := by
  obtain ⟨a, c, rfl, h2, h3⟩ := h.form
  have hl1 := hl.1
  clear hl
  go_enter Try.func16, Try.ntmps16
  go_wp2
  go_loop [3, 8] (fun m i => ∃ (k q : Nat), k ≤ xss.length ∧ q ≤ k ∧ i = .int .i64 k ∧ m = .int .i64 q ∧ Hid (q = fillOf (xss.take k))) (fun _ i => xss.length - (intOf i).toNat)
  case atStart => exact ⟨0, 0, Nat.zero_le _, Nat.zero_le _, rfl, rfl, by simp [fillOf, Hid]⟩
  case round =>
    obtain ⟨k, q, hk, hqk, rfl, rfl, hq⟩ := hrel
    by_cases hlt : k < xss.length
    · obtain ⟨ad, b, m, d, xs, rfl, hc, hx, hm, hmd, hd, hr⟩ := h.row hlt
      have HS := Lib.hid (fillOf_step hx.out)
      by_cases hp : 0 < m
      · have hE : Hid (fillOf (xss.take (k + 1)) = q + 1) := by rw [HS.out, ← hq.out, if_pos (by have := hm.out; omega)]; rfl
        go_wp2
        go_round
        case rel => exact ⟨k + 1, q + 1, by omega, by omega, by go_num, by go_num, hE.out.symm⟩
        case measure => simp [intOf]; omega
      · have hE : Hid (fillOf (xss.take (k + 1)) = q) := by rw [HS.out, ← hq.out, if_neg (by have := hm.out; omega)]; rfl
        go_wp2
        go_round
        case rel => exact ⟨k + 1, q, by omega, by omega, by go_num, by go_num, hE.out.symm⟩
        case measure => simp [intOf]; omega
    · obtain rfl : xss.length = k := by omega
      have hq2 : Hid (q = fillOf xss) := by rw [hq.out, List.take_length]; rfl
      go_wp2
      go_ret
      exact ⟨ret_int (by rw [hq2.out]), Below.refl _ _⟩

set_option maxRecDepth 100000 in
set_option maxHeartbeats 4000000 in
theorem law_FillOf (w : World) (vxstate : Value) (xstate : List (List Int)) (hxstate : Rd2 w vxstate xstate) (fxstate : I64ss xstate) : Calls Try.prog 3 #[vxstate] w (Law w) := by
  obtain ⟨axstate, cxstate, rfl, _, hcxstate⟩ := hxstate.form
  have hs1 := szSS_le xstate 1048576
  obtain ⟨L1, hL1⟩ : ∃ z, szSS xstate 1048576 = z := ⟨_, rfl⟩
  rw [hL1] at hs1
  have HL1 := Lib.hid hL1
  clear hL1
  by_cases pxstate : L1 < 0
  case pos =>
    go_enter Try.func3, Try.ntmps3
    go_wp2_with fail
    refine (szIntSS_c _ xstate 1048576 _ hxstate (by omega) (by omega)).mono ?_
    rintro e w' ⟨rfl, rfl⟩
    rw [HL1.out]
    go_wp2_with fail
    go_ret
    exact ⟨rfl, Below.refl _ _⟩
  have lxstate : SzOk xstate := szSS_ok (left := 1048576) (by have := HL1.out; omega) (by omega)
  obtain ⟨r0, HS, HI⟩ : ∃ (r0 : Int), 
      (∀ (W : World) (Vxstate : Value) (Hxstate : Rd2 W Vxstate xstate), Calls Try.prog 14 #[Vxstate] W (RetB (.int .i64 r0) W)) ∧
      (∀ (W : World) (Vxstate : Value) (Hxstate : Rd2 W Vxstate xstate), Calls Try.prog 16 #[Vxstate] W (RetB (.int .i64 r0) W)) :=
    ⟨_, fun W Vxstate Hxstate => S_FillOf W Vxstate xstate Hxstate fxstate lxstate, fun W Vxstate Hxstate => I_FillOf W Vxstate xstate Hxstate fxstate lxstate⟩
  have GS := Lib.hid HS
  have GI := Lib.hid HI
  clear HS HI
  go_enter Try.func3, Try.ntmps3
  go_wp2_with fail
  refine (szIntSS_c _ xstate 1048576 _ hxstate (by omega) (by omega)).mono ?_
  rintro e w' ⟨rfl, rfl⟩
  rw [HL1.out]
  have bt : Below w.heap.size w w := Below.refl _ _
  go_wp2_with fail
  refine (toIntSS_c _ xstate _ (hxstate.below bt) lxstate).mono ?_
  rintro e w1 ⟨vy1, rfl, oy1, b1⟩
  replace bt := bt.trans (b1.mono bt.size)
  have z1 := b1.size
  go_wp2_with fail
  refine ((GS.out _ _ oy1.rd)).mono ?_
  rintro e w2 ⟨rfl, b2⟩
  replace oy1 := oy1.below b2
  replace bt := bt.trans (b2.mono bt.size)
  have z2 := b2.size
  go_wp2_with fail
  refine (toIntSS_c _ xstate _ (hxstate.below bt) lxstate).mono ?_
  rintro e w3 ⟨vy2, rfl, oy2, b3⟩
  replace oy1 := oy1.below b3
  replace bt := bt.trans (b3.mono bt.size)
  have z3 := b3.size
  go_wp2_with fail
  refine ((GI.out _ _ oy2.rd)).mono ?_
  rintro e w4 ⟨rfl, b4⟩
  replace oy1 := oy1.below b4
  replace oy2 := oy2.below b4
  replace bt := bt.trans (b4.mono bt.size)
  have z4 := b4.size
  go_wp2_with fail
  refine (toIntSS_c _ xstate _ (hxstate.below bt) lxstate).mono ?_
  rintro e w5 ⟨vy3, rfl, oy3, b5⟩
  replace oy1 := oy1.below b5
  replace oy2 := oy2.below b5
  replace bt := bt.trans (b5.mono bt.size)
  have z5 := b5.size
  go_wp2_with fail
  refine (eqIntSS_c _ _ xstate xstate _ oy2.rd oy3.rd).mono ?_
  rintro e w6 ⟨rfl, d6⟩
  have b6 := d6.below w5.heap.size
  rw [eqII_self]
  replace oy1 := oy1.below b6
  replace oy2 := oy2.below b6
  replace oy3 := oy3.below b6
  replace bt := bt.trans (b6.mono bt.size)
  have z6 := b6.size
  go_wp2_with fail
  go_ret
  exact ⟨rfl, bt⟩

end Go.Proofs.Ytdfjopcfgpigoaa
