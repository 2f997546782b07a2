/- Walks: digits, further. -/
import Derived.Test.YtnjdihbaofclbaaDigits
namespace Go.Proofs.Ytnjdihbaofclbaa
open Go.RowKit
set_option linter.unusedVariables false
set_option linter.unusedSimpArgs false

set_option maxHeartbeats 400000 in
theorem I_CountDigits (w : World) (v : Value) (xs : List Int) (h : Rd w v (ints xs)) (_ : I64s xs) (_ : xs.length ≤ 1048576) (b : Int) (_ : I64 b) (d : Int) (_ : I64 d) :
    Calls Try.prog 27 #[v, .int .i64 b, .int .i64 d] w (RetOwn 3 (ints (countDigits xs b d)) w) := by
  have HO := i_DigitsOk v xs b w h
  obtain ⟨a, c, rfl, h2, h3⟩ := h.formi
  cases hd0 : digitsOk xs b
  · have HR : Hid (countDigits xs b d = []) := by simp [countDigits, hd0, Hid]
    rw [hd0] at HO
    go_enter Try.func27, Try.ntmps27
    go_wp2_with (go_at_call 20; refine HO.mono ?_; rintro e w' ⟨rfl, rfl⟩)
    go_ret
    rw [HR.out]
    exact RetOwn.nil _ _
  cases hd1 : inB d 0 20
  · have HR : Hid (countDigits xs b d = []) := by simp [countDigits, hd1, Hid]
    rw [hd0] at HO
    have HP := i_isPlace d w
    rw [hd1] at HP
    go_enter Try.func27, Try.ntmps27
    go_wp2_with (first | (go_at_call 20; refine HO.mono ?_; rintro e w' ⟨rfl, rfl⟩) | (go_at_call 50; refine HP.mono ?_; rintro e w' ⟨rfl, rfl⟩))
    go_ret
    rw [HR.out]
    exact RetOwn.nil _ _
  · have hd : (digitsOk xs b && inB d 0 20) = true := by rw [hd0, hd1]; rfl
    have HP := i_isPlace d w
    rw [hd1] at HP
    rw [hd0] at HO
    clear hd0 hd1
    have hd' := hd
    simp only [Bool.and_eq_true] at hd'
    obtain ⟨hl, ⟨hb, hb2⟩, hx⟩ := digitsOk_iff.1 hd'.1
    obtain ⟨hd0, hd1⟩ := inB_iff.1 hd'.2
    have HX := Lib.hid hx
    clear hx hd'
    obtain ⟨B, hB⟩ := Int.eq_ofNat_of_zero_le (show 0 ≤ b by omega)
    subst hB
    have HR : Hid (countDigits xs (B : Int) d = countsOf (fun x => dig x (B : Int) d.toNat) B xs) := by simp [countDigits, hd, Hid]
    clear hd
    go_enter Try.func27, Try.ntmps27
    go_wp2_with (first | (go_at_call 20; refine HO.mono ?_; rintro e w' ⟨rfl, rfl⟩) | (go_at_call 50; refine HP.mono ?_; rintro e w' ⟨rfl, rfl⟩) | (at_make; refine wpList_mk rfl _ _ 26 rfl elI rfl rfl (Nat.le_refl _) (by omega) (by omega) ?_; intro bb w1 hb1 hown1 hg1))
    clear HO HP
    go_loopw [23] (fun i wr => ∃ k : Nat, k ≤ xs.length ∧ i = .int .i64 k ∧ Own wr 3 w.heap.size (.slice (some bb) B B) (ints (countsOf (fun x => dig x (B : Int) d.toNat) B (xs.take k))) ∧ Below w.heap.size w wr)
      (fun i _ => xs.length - (intOf i).toNat)
    case atStart => exact ⟨0, Nat.zero_le _, rfl, by rw [List.take_zero, countsOf_nil]; simpa [ints] using hown1, (Below.refl _ _).grown hg1 (Nat.le_refl _) (fun _ h => by cases h)⟩
    case round =>
      obtain ⟨k, hk, rfl, hown, hbel⟩ := hrel
      by_cases hlt : k < xs.length
      · obtain ⟨ad, x, rfl, hc, hx⟩ := (h.below hbel).int hlt
        have hxb := HX.out x (List.mem_of_getElem? hx.out)
        have hdg := dig_bd x (B : Int) d.toNat hb
        obtain ⟨q, hq⟩ := Int.eq_ofNat_of_zero_le hdg.1
        have hqB : q < B := by omega
        have HS := Lib.hid (countsOf_step (fun x => dig x (B : Int) d.toNat) B (xs.take k) x q hq hqB)
        have hcl := count_le (fun x => dig x (B : Int) d.toNat) (xs.take k) (q : Int)
        have hl2 : q < (countsOf (fun x => dig x (B : Int) d.toNat) B (xs.take k)).length := by rw [countsOf_length]; exact hqB
        obtain ⟨ad2, y, had2, hc2, hy⟩ := hown.rd.int hl2
        obtain rfl : bb = ad2 := by injection had2
        clear had2
        have hy2 := hy.out
        rw [countsOf_get _ _ _ _ hqB, Option.some.injEq] at hy2
        have hyb : 0 ≤ y ∧ y ≤ 1048576 := by rw [← hy2]; simp only [List.length_take] at hcl; omega
        have hf2 := hown.frozen rfl q
        have hs := (hown.seti rfl hl2 (y + 1)).1
        have hb2 := hown.below_set rfl hl2 (.int .i64 (y + 1)) hbel (Nat.le_refl _)
        rw [← hy2] at hs
        rw [← HS.out, ← take_snoc hx.out, hy2] at hs
        have HC := i_digit x (B : Int) d wr hxb.1 hxb.2 hb (by omega) hd0 hd1
        rw [hq] at HC
        clear hown hbel hcl hy2 hdg hq hxb
        go_wp2_with (go_at_call 51; refine HC.mono ?_; rintro e w' ⟨rfl, rfl⟩)
        go_roundw
        case rel => exact ⟨k + 1, by omega, by go_num, hs, hb2⟩
        case measure => simp [intOf]; omega
      · obtain rfl : xs.length = k := by omega
        go_wp2
        go_ret
        exact ⟨_, rfl, by rw [HR.out]; rw [List.take_length] at hown; exact hown, hbel⟩

theorem N_CountDigits (xs : List Int) (_ : xs.length ≤ 1048576) (b d : Int) : (countDigits xs b d).length ≤ 2000000 := by
  unfold countDigits
  split
  · rename_i h
    simp only [Bool.and_eq_true] at h
    have := (digitsOk_iff.1 h.1).2.1
    rw [countsOf_length]
    omega
  · simp

set_option maxRecDepth 100000 in
set_option maxHeartbeats 4000000 in
theorem law_CountDigits (w : World) (vxl : Value) (xl : List Int) (hxl : Rd w vxl (ints xl)) (fxl : I64s xl) (xb : Int) (_ : I64 xb) (xd : Int) (_ : I64 xd) : Calls Try.prog 8 #[vxl, .int .i64 xb, .int .i64 xd] w (Law w) := by
  obtain ⟨axl, cxl, rfl, _, hcxl⟩ := hxl.formi
  by_cases lxl : xl.length ≤ 1048576
  case neg =>
    have hd : decide ((xl.length : Int) > 1048576) = true := by simp; omega
    go_enter Try.func8, Try.ntmps8
    go_wp2_with fail
    go_ret
    exact ⟨rfl, Below.refl _ _⟩
  have dxl : decide ((xl.length : Int) > 1048576) = false := by simp; omega
  obtain ⟨r0, Br0, HS, HI⟩ : ∃ (r0 : List Int), r0.length ≤ 2000000 ∧
      (∀ (W : World) (Vxl : Value) (Hxl : Rd W Vxl (ints xl)), Calls Try.prog 26 #[Vxl, .int .i64 xb, .int .i64 xd] W (RetOwn 3 (ints r0) W)) ∧
      (∀ (W : World) (Vxl : Value) (Hxl : Rd W Vxl (ints xl)), Calls Try.prog 27 #[Vxl, .int .i64 xb, .int .i64 xd] W (RetOwn 3 (ints r0) W)) :=
    ⟨_, N_CountDigits xl lxl xb xd, fun W Vxl Hxl => S_CountDigits W Vxl xl Hxl fxl lxl xb (by assumption) xd (by assumption), fun W Vxl Hxl => I_CountDigits W Vxl xl Hxl fxl lxl xb (by assumption) xd (by assumption)⟩
  have GS := Lib.hid HS
  have GI := Lib.hid HI
  clear HS HI
  go_enter Try.func8, Try.ntmps8
  have bt : Below w.heap.size w w := Below.refl _ _
  go_wp2_with fail
  refine (toIntS_c _ xl _ (hxl.below bt) (by omega)).mono ?_
  rintro e w1 ⟨vy1, rfl, oy1, b1⟩
  have ty1 : ∀ k, vy1.ownBlock = some k → k < w1.heap.size := fun k e => (oy1.lt k e).2
  replace bt := bt.trans (b1.mono bt.size)
  have z1 := b1.size
  go_wp2_with fail
  refine ((GS.out _ _ oy1.rd)).mono ?_
  rintro e w2 ⟨vg2, rfl, og2, b2⟩
  have tg2 : ∀ k, vg2.ownBlock = some k → k < w2.heap.size := fun k e => (og2.lt k e).2
  replace oy1 := oy1.below b2
  replace bt := bt.trans (b2.mono bt.size)
  have z2 := b2.size
  go_wp2_with fail
  refine (toIntS_c _ xl _ (hxl.below bt) (by omega)).mono ?_
  rintro e w3 ⟨vy3, rfl, oy3, b3⟩
  have ty3 : ∀ k, vy3.ownBlock = some k → k < w3.heap.size := fun k e => (oy3.lt k e).2
  replace oy1 := oy1.below b3
  replace og2 := og2.below b3
  replace bt := bt.trans (b3.mono bt.size)
  have z3 := b3.size
  go_wp2_with fail
  refine ((GI.out _ _ oy3.rd)).mono ?_
  rintro e w4 ⟨vg4, rfl, og4, b4⟩
  have tg4 : ∀ k, vg4.ownBlock = some k → k < w4.heap.size := fun k e => (og4.lt k e).2
  replace oy1 := oy1.below b4
  replace og2 := og2.below b4
  replace oy3 := oy3.below b4
  replace bt := bt.trans (b4.mono bt.size)
  have z4 := b4.size
  go_wp2_with fail
  refine (eqIntS_c _ _ r0 r0 _ og4.rd og2.rd).mono ?_
  rintro e w5 ⟨rfl, d5⟩
  have b5 := d5.below w4.heap.size
  rw [eqI_self]
  replace oy1 := oy1.below b5
  replace og2 := og2.below b5
  replace oy3 := oy3.below b5
  replace og4 := og4.below b5
  replace bt := bt.trans (b5.mono bt.size)
  have z5 := b5.size
  go_wp2_with fail
  refine (toIntS_c _ xl _ (hxl.below bt) (by omega)).mono ?_
  rintro e w6 ⟨vy5, rfl, oy5, b6⟩
  have ty5 : ∀ k, vy5.ownBlock = some k → k < w6.heap.size := fun k e => (oy5.lt k e).2
  replace oy1 := oy1.below b6
  replace og2 := og2.below b6
  replace oy3 := oy3.below b6
  replace og4 := og4.below b6
  replace bt := bt.trans (b6.mono bt.size)
  have z6 := b6.size
  go_wp2_with fail
  refine (eqIntS_c _ _ xl xl _ oy3.rd oy5.rd).mono ?_
  rintro e w7 ⟨rfl, d7⟩
  have b7 := d7.below w6.heap.size
  rw [eqI_self]
  replace oy1 := oy1.below b7
  replace og2 := og2.below b7
  replace oy3 := oy3.below b7
  replace og4 := og4.below b7
  replace oy5 := oy5.below b7
  replace bt := bt.trans (b7.mono bt.size)
  have z7 := b7.size
  go_wp2_with fail
  refine (markIntS_c _ xl (1) _ _ oy3 (by omega) (by omega) (by omega)).mono ?_
  rintro e w8 ⟨rfl, my3, gr8⟩
  have ch8 : Chg w2.heap.size w3.heap.size w7 w8 := Chg.row gr8 (fun k e => ⟨(oy3.lt k e).1, ty3 k e⟩)
  replace oy1 := oy1.chg ch8 (fun k e => by have h1 := (oy1.lt k e).1; have h2 := ty1 k e; omega)
  replace og2 := og2.chg ch8 (fun k e => by have h1 := (og2.lt k e).1; have h2 := tg2 k e; omega)
  replace og4 := og4.chg ch8 (fun k e => by have h1 := (og4.lt k e).1; have h2 := tg4 k e; omega)
  replace oy5 := oy5.chg ch8 (fun k e => by have h1 := (oy5.lt k e).1; have h2 := ty5 k e; omega)
  replace bt := below_chg bt ch8 (by omega) (Nat.le_refl _)
  have z8 := ch8.size
  go_wp2_with fail
  refine (eqIntS_c _ _ r0 r0 _ og4.rd og2.rd).mono ?_
  rintro e w9 ⟨rfl, d9⟩
  have b9 := d9.below w8.heap.size
  rw [eqI_self]
  replace oy1 := oy1.below b9
  replace og2 := og2.below b9
  replace my3 := my3.below b9
  replace og4 := og4.below b9
  replace oy5 := oy5.below b9
  replace bt := bt.trans (b9.mono bt.size)
  have z9 := b9.size
  go_wp2_with fail
  refine (markIntS_c _ r0 (1) _ _ og4 (by omega) (by omega) (by omega)).mono ?_
  rintro e w10 ⟨rfl, mg4, gr10⟩
  have ch10 : Chg w3.heap.size w4.heap.size w9 w10 := Chg.row gr10 (fun k e => ⟨(og4.lt k e).1, tg4 k e⟩)
  replace oy1 := oy1.chg ch10 (fun k e => by have h1 := (oy1.lt k e).1; have h2 := ty1 k e; omega)
  replace og2 := og2.chg ch10 (fun k e => by have h1 := (og2.lt k e).1; have h2 := tg2 k e; omega)
  replace my3 := my3.chg ch10 (fun k e => by have h1 := (my3.lt k e).1; have h2 := ty3 k e; omega)
  replace oy5 := oy5.chg ch10 (fun k e => by have h1 := (oy5.lt k e).1; have h2 := ty5 k e; omega)
  replace bt := below_chg bt ch10 (by omega) (Nat.le_refl _)
  have z10 := ch10.size
  go_wp2_with fail
  refine (heldIntS_c _ r0.length (1) _ mg4.rd (by omega) (by omega) (by omega)).mono ?_
  rintro e w' ⟨rfl, rfl⟩
  go_wp2_with fail
  refine (toIntS_c _ xl _ (hxl.below bt) (by omega)).mono ?_
  rintro e w11 ⟨vy6, rfl, oy6, b11⟩
  replace oy1 := oy1.below b11
  replace og2 := og2.below b11
  replace my3 := my3.below b11
  replace mg4 := mg4.below b11
  replace oy5 := oy5.below b11
  replace bt := bt.trans (b11.mono bt.size)
  have z11 := b11.size
  go_wp2_with fail
  refine ((GI.out _ _ oy6.rd)).mono ?_
  rintro e w12 ⟨vg7, rfl, og7, b12⟩
  replace oy1 := oy1.below b12
  replace og2 := og2.below b12
  replace my3 := my3.below b12
  replace mg4 := mg4.below b12
  replace oy5 := oy5.below b12
  replace oy6 := oy6.below b12
  replace bt := bt.trans (b12.mono bt.size)
  have z12 := b12.size
  go_wp2_with fail
  refine (eqIntS_c _ _ r0 r0 _ og7.rd og2.rd).mono ?_
  rintro e w13 ⟨rfl, d13⟩
  have b13 := d13.below w12.heap.size
  rw [eqI_self]
  replace oy1 := oy1.below b13
  replace og2 := og2.below b13
  replace my3 := my3.below b13
  replace mg4 := mg4.below b13
  replace oy5 := oy5.below b13
  replace oy6 := oy6.below b13
  replace og7 := og7.below b13
  replace bt := bt.trans (b13.mono bt.size)
  have z13 := b13.size
  go_wp2_with fail
  refine (heldIntS_c _ r0.length (1) _ mg4.rd (by omega) (by omega) (by omega)).mono ?_
  rintro e w' ⟨rfl, rfl⟩
  go_wp2_with fail
  go_ret
  exact ⟨rfl, bt⟩

def isDigitSorted (xs : List Int) (b k : Int) : Bool := digitsOk xs b && inB k 0 20 && adjB (xs.map fun x => x % b ^ k.toNat)
/-- What the reference's power comes to: it stops above 999999. -/
theorem mod_big {x p : Int} (h0 : 0 ≤ x) (h1 : x ≤ 999999) (hp : 999999 < p) : x % p = x := Int.emod_eq_of_lt h0 (by omega)
theorem pow_mono {b : Int} (hb : 1 ≤ b) {j k : Nat} (h : j ≤ k) : b ^ j ≤ b ^ k := by
  obtain ⟨m, rfl⟩ := Nat.le.dest h
  rw [Int.pow_add]
  have h1 : 1 ≤ b ^ m := by
    clear h
    induction m with
    | zero => simp
    | succ m ih =>
      rw [Int.pow_succ]
      have : 1 * 1 ≤ b ^ m * b := Int.mul_le_mul ih hb (by omega) (by omega)
      omega
  have h2 : 0 ≤ b ^ j := Int.pow_nonneg (by omega)
  have : b ^ j * 1 ≤ b ^ j * b ^ m := Int.mul_le_mul_of_nonneg_left h1 h2
  omega
theorem pow_pos' {b : Int} (hb : 1 ≤ b) (k : Nat) : 1 ≤ b ^ k := by have := pow_mono hb (Nat.zero_le k); simpa using this

set_option maxHeartbeats 400000 in
theorem S_IsDigitSorted (w : World) (v : Value) (xs : List Int) (h : Rd w v (ints xs)) (_ : I64s xs) (_ : xs.length ≤ 1048576) (b : Int) (_ : I64 b) (k : Int) (_ : I64 k) :
    Calls Try.prog 24 #[v, .int .i64 b, .int .i64 k] w (RetB (.bool (isDigitSorted xs b k)) w) := by
  have HO := s_l27Ok v xs b k w h
  obtain ⟨a, c, rfl, h2, h3⟩ := h.formi
  cases hd : (digitsOk xs b && inB k 0 20)
  · have HR : Hid (isDigitSorted xs b k = false) := by simp [isDigitSorted, hd, Hid]
    rw [hd] at HO
    go_enter Try.func24, Try.ntmps24
    go_wp2_with (go_at_call 54; refine HO.mono ?_; rintro e w' ⟨rfl, rfl⟩)
    go_ret
    exact ⟨ret_bool HR.out.symm, Below.refl _ _⟩
  · have hd' := hd
    simp only [Bool.and_eq_true] at hd'
    obtain ⟨hl, ⟨hb, hb2⟩, hx⟩ := digitsOk_iff.1 hd'.1
    obtain ⟨hd0, hd1⟩ := inB_iff.1 hd'.2
    obtain ⟨K, hK⟩ := Int.eq_ofNat_of_zero_le hd0
    subst hK
    have HR : Hid (isDigitSorted xs b (K : Int) = adjB (xs.map fun x => x % b ^ K)) := by simp [isDigitSorted, hd, Hid]
    have HX := Lib.hid hx
    clear hx hd'
    rw [hd] at HO
    clear hd
    go_enter Try.func24, Try.ntmps24
    go_wp2_with (go_at_call 54; refine HO.mono ?_; rintro e w' ⟨rfl, rfl⟩)
    clear HO
    go_loop [7, 8] (fun p i => ∃ (j : Nat) (q : Int), j ≤ K ∧ i = .int .i64 j ∧ p = .int .i64 q ∧ 1 ≤ q ∧ q ≤ 15999984 ∧ Hid (q = b ^ j)) (fun _ i => K - (intOf i).toNat)
    case atStart => exact ⟨0, 1, Nat.zero_le _, rfl, rfl, by omega, by omega, by simp [Hid]⟩
    case round =>
      obtain ⟨j, q, hj, rfl, rfl, hq0, hq1, hq⟩ := hrel
      by_cases hlt : j < K ∧ q ≤ 999999
      · obtain ⟨hlt, hq9⟩ := hlt
        have hm0 : 1 * 1 ≤ q * b := Int.mul_le_mul hq0 (show 1 ≤ b by omega) (by omega) (by omega)
        have hm1 : q * b ≤ 999999 * 16 := Int.mul_le_mul hq9 hb2 (by omega) (by omega)
        have hm0' : 1 ≤ q * b := by omega
        have hm1' : q * b ≤ 15999984 := by omega
        have hlt' : decide ((j : Int) < (K : Int)) = true := by simp; omega
        clear hm0 hm1
        go_wp2
        go_round
        case rel => exact ⟨j + 1, q * b, by omega, by go_num, rfl, hm0', hm1', by show _ = _; rw [Int.pow_succ, ← hq.out]⟩
        case measure => simp [intOf]; omega
      · have HQ : Hid (∀ x ∈ xs, x % q = x % b ^ K) := fun x hx => by
          have hxb := HX.out x hx
          by_cases e : j = K
          · rw [hq.out, e]
          · have hj2 : b ^ j ≤ b ^ K := pow_mono (by omega) hj
            rw [← hq.out] at hj2
            rw [mod_big hxb.1 hxb.2 (by omega), mod_big hxb.1 hxb.2 (by omega)]
        have hdec : (j : Int) < (K : Int) → 999999 < q := fun e => by
          rcases Nat.lt_or_ge 0 0 with h0 | h0
          · omega
          · have : j < K := by omega
            exact Int.not_le.1 fun e2 => hlt ⟨this, e2⟩
        clear hq hlt
        have hcase : (decide (j < K) = true ∧ decide (q ≤ 999999) = false) ∨ decide (j < K) = false := by
          by_cases e : j < K
          · exact .inl ⟨by simp; omega, by have := hdec (by omega); simp; omega⟩
          · exact .inr (by simp; omega)
        clear hdec
        rcases hcase with ⟨hc1, hc2⟩ | hc1
        all_goals
          go_wp2
          go_loopw [9] (fun i wr => ∃ n : Nat, n ≤ xs.length ∧ i = .int .i64 ((n : Int) + 1) ∧ Dr w wr ∧ Hid (∀ (m : Nat) y z, m < n → xs[m]? = some y → xs[m + 1]? = some z → y % q ≤ z % q)) (fun i _ => xs.length + 1 - (intOf i).toNat)
          case atStart => exact ⟨0, Nat.zero_le _, rfl, Dr.refl _, fun m _ _ hm => by omega⟩
          case round =>
            obtain ⟨n, hn, rfl, hdr, HN⟩ := hrel
            by_cases hlt : n + 1 < xs.length
            · obtain ⟨ad, y, rfl, hc3, hy⟩ := (h.dr hdr).int (show n < xs.length by omega)
              obtain ⟨ad2, z, had, hc4, hz⟩ := (h.dr hdr).int hlt
              obtain rfl : ad = ad2 := by injection had
              clear had
              rw [add_succ] at hc4
              have hyb := HX.out y (List.mem_of_getElem? hy.out)
              have hzb := HX.out z (List.mem_of_getElem? hz.out)
              have i1 : (n : Int) + 1 < (xs.length : Int) := by omega
              have i2 : (n : Int) < (xs.length : Int) := by omega
              have i3 : (0 : Int) ≤ (n : Int) := by omega
              have i4 : (0 : Int) ≤ (n : Int) + 1 := by omega
              have i5 : ((n : Int) + 1).toNat = n + 1 := by omega
              go_wp2
              go_quiet (fail)
              go_wp2
              · have hlt9 : z % q < y % q := by assumption
                go_ret
                refine ⟨ret_bool ?_, (hdr.step _).below _⟩
                rw [HR.out]
                refine (adjB_no (i := n) (a := y % b ^ K) (b := z % b ^ K) (by simp [hy.out]) (by simp [hz.out]) ?_).symm
                rw [← HQ.out y (List.mem_of_getElem? hy.out), ← HQ.out z (List.mem_of_getElem? hz.out)]
                exact hlt9
              · have hle9 : y % q ≤ z % q := by assumption
                go_roundw
                case rel => exact ⟨n + 1, by omega, by go_num, hdr.step _, fun m y' z' hm hy' hz' => by
                  by_cases e : m = n
                  · subst e
                    rw [hy.out] at hy'
                    rw [hz.out] at hz'
                    cases hy'
                    cases hz'
                    exact hle9
                  · exact HN.out m y' z' (by omega) hy' hz'⟩
                case measure => simp [intOf]; omega
            · go_wp2
              go_ret
              refine ⟨ret_bool ?_, hdr.below _⟩
              rw [HR.out]
              refine (adjB_iff.2 fun m a' b' ha hb' => ?_).symm
              rw [List.getElem?_map] at ha hb'
              obtain ⟨y, hy, rfl⟩ := Option.map_eq_some_iff.1 ha
              obtain ⟨z, hz, rfl⟩ := Option.map_eq_some_iff.1 hb'
              have hm := (List.getElem?_eq_some_iff.1 hz).1
              rw [← HQ.out y (List.mem_of_getElem? hy), ← HQ.out z (List.mem_of_getElem? hz)]
              exact HN.out m y z (by omega) hy hz

set_option maxHeartbeats 400000 in
theorem I_IsDigitSorted (w : World) (v : Value) (xs : List Int) (h : Rd w v (ints xs)) (_ : I64s xs) (_ : xs.length ≤ 1048576) (b : Int) (_ : I64 b) (k : Int) (_ : I64 k) :
    Calls Try.prog 25 #[v, .int .i64 b, .int .i64 k] w (RetB (.bool (isDigitSorted xs b k)) w) := by
  have HO := i_DigitsOk v xs b w h
  have HP := i_isPlace k w
  obtain ⟨a, c, rfl, h2, h3⟩ := h.formi
  cases hd0 : digitsOk xs b
  · have HR : Hid (isDigitSorted xs b k = false) := by simp [isDigitSorted, hd0, Hid]
    rw [hd0] at HO
    go_enter Try.func25, Try.ntmps25
    go_wp2_with (go_at_call 20; refine HO.mono ?_; rintro e w' ⟨rfl, rfl⟩)
    go_ret
    exact ⟨ret_bool HR.out.symm, Below.refl _ _⟩
  cases hd1 : inB k 0 20
  · have HR : Hid (isDigitSorted xs b k = false) := by simp [isDigitSorted, hd1, Hid]
    rw [hd0] at HO
    rw [hd1] at HP
    go_enter Try.func25, Try.ntmps25
    go_wp2_with (first | (go_at_call 20; refine HO.mono ?_; rintro e w' ⟨rfl, rfl⟩) | (go_at_call 50; refine HP.mono ?_; rintro e w' ⟨rfl, rfl⟩))
    go_ret
    exact ⟨ret_bool HR.out.symm, Below.refl _ _⟩
  · obtain ⟨hl, ⟨hb, hb2⟩, hx⟩ := digitsOk_iff.1 hd0
    obtain ⟨hk0, hk1⟩ := inB_iff.1 hd1
    obtain ⟨K, hK⟩ := Int.eq_ofNat_of_zero_le hk0
    subst hK
    have HR : Hid (isDigitSorted xs b (K : Int) = adjB (xs.map fun x => x % b ^ K)) := by simp [isDigitSorted, hd0, hd1, Hid]
    have HX := Lib.hid hx
    rw [hd0] at HO
    rw [hd1] at HP
    clear hx hd0 hd1
    go_enter Try.func25, Try.ntmps25
    go_wp2_with (first | (go_at_call 20; refine HO.mono ?_; rintro e w' ⟨rfl, rfl⟩) | (go_at_call 50; refine HP.mono ?_; rintro e w' ⟨rfl, rfl⟩))
    clear HO HP
    go_loop [7, 22] (fun p i => ∃ (j : Nat) (q : Int), j ≤ K ∧ i = .int .i64 j ∧ p = .int .i64 q ∧ 1 ≤ q ∧ q ≤ 16000000 ∧ Hid (q = min (b ^ j) 16000000)) (fun _ i => K - (intOf i).toNat)
    case atStart => exact ⟨0, 1, Nat.zero_le _, rfl, rfl, by omega, by omega, by show _ = _; rw [Int.pow_zero]; omega⟩
    case round =>
      obtain ⟨j, q, hj, rfl, rfl, hq0, hq1, hq⟩ := hrel
      by_cases hlt : j < K
      · have hm0 : 1 * 1 ≤ q * b := Int.mul_le_mul hq0 (show 1 ≤ b by omega) (by omega) (by omega)
        have hm1 : q * b ≤ 16000000 * 16 := Int.mul_le_mul hq1 hb2 (by omega) (by omega)
        have hm0' : 1 ≤ q * b := by omega
        have hm1' : q * b ≤ 256000000 := by omega
        have HM : Hid (min (q * b) 16000000 = min (b ^ (j + 1)) 16000000) := by
          show _ = _
          rw [Int.pow_succ, hq.out]
          exact min_step (by omega)
        clear hm0 hm1
        go_wp2
        go_round
        case rel => exact ⟨j + 1, min (q * b) 16000000, by omega, by go_num, by go_num, by omega, by omega, HM⟩
        case measure => simp [intOf]; omega
      · have HQ : Hid (∀ x ∈ xs, (if q ≤ 999999 then x % q else x) = x % b ^ K) := fun x hx => by
          have hxb := HX.out x hx
          obtain rfl : K = j := by omega
          have h1 := pow_pos' (show 1 ≤ b by omega) K
          by_cases e : b ^ K ≤ 999999
          · rw [if_pos (by rw [hq.out]; omega), hq.out, Int.min_eq_left (by omega)]
          · rw [if_neg (by rw [hq.out]; omega), mod_big hxb.1 hxb.2 (by omega)]
        clear hq
        have hcase : q ≤ 999999 ∨ 999999 < q := by omega
        rcases hcase with hc1 | hc1
        all_goals
          go_wp2
          go_loopw [8, 31] (fun l i wr => ∃ (n : Nat) (m : Int), n ≤ xs.length ∧ i = .int .i64 (n : Int) ∧ l = .int .i64 m ∧ Dr w wr ∧ 0 ≤ m ∧ m ≤ 999999 ∧ Hid (∀ y, 0 < n → xs[n - 1]? = some y → m = y % b ^ K) ∧ Hid (n = 0 → m = 0) ∧ Hid (∀ (m : Nat) y z, m + 1 < n → xs[m]? = some y → xs[m + 1]? = some z → y % b ^ K ≤ z % b ^ K)) (fun _ i _ => xs.length + 1 - (intOf i).toNat)
          case atStart => exact ⟨0, 0, Nat.zero_le _, rfl, rfl, Dr.refl _, by omega, by omega, fun y h0 => by omega, fun _ => rfl, fun m _ _ hm => by omega⟩
          case round =>
            obtain ⟨n, m, hn, rfl, rfl, hdr, hm0, hm1, HL, HZ, HN⟩ := hrel
            by_cases hlt2 : n < xs.length
            · obtain ⟨ad, y, rfl, hc3, hy⟩ := (h.dr hdr).int hlt2
              have hyb := HX.out y (List.mem_of_getElem? hy.out)
              have hy0 : 0 ≤ y := hyb.1
              have hy1 : y ≤ 999999 := hyb.2
              have hym := Lib.hid (HQ.out y (List.mem_of_getElem? hy.out))
              have hmod0 : 0 ≤ y % q := Int.emod_nonneg _ (by omega)
              have hmod1 : y % q < q := Int.emod_lt_of_pos _ (by omega)
              clear hyb
              go_wp2
              · go_ret
                refine ⟨ret_bool ?_, hdr.below _⟩
                rw [HR.out]
                first
                  | exact (sorted_bad hy.out (by rw [← hym.out, if_pos hc1]) HL.out HZ.out hmod0 (by assumption)).symm
                  | exact (sorted_bad hy.out (by rw [← hym.out, if_neg (by omega)]) HL.out HZ.out hy0 (by assumption)).symm
              · go_roundw
                case rel =>
                  first
                    | exact ⟨n + 1, y % q, by omega, by go_num, rfl, hdr, hmod0, by omega, fun z _ hz => by rw [Nat.add_sub_cancel, hy.out] at hz; cases hz; rw [← hym.out, if_pos hc1], fun e => by omega, sorted_next hy.out (by rw [← hym.out, if_pos hc1]) HL.out (by assumption) HN.out⟩
                    | exact ⟨n + 1, y, by omega, by go_num, rfl, hdr, hy0, hy1, fun z _ hz => by rw [Nat.add_sub_cancel, hy.out] at hz; cases hz; rw [← hym.out, if_neg (by omega)], fun e => by omega, sorted_next hy.out (by rw [← hym.out, if_neg (by omega)]) HL.out (by assumption) HN.out⟩
                case measure => simp [intOf]; omega
            · go_wp2
              go_ret
              refine ⟨ret_bool ?_, hdr.below _⟩
              rw [HR.out]
              refine (adjB_iff.2 fun m a' b' ha hb' => ?_).symm
              rw [List.getElem?_map] at ha hb'
              obtain ⟨y, hy, rfl⟩ := Option.map_eq_some_iff.1 ha
              obtain ⟨z, hz, rfl⟩ := Option.map_eq_some_iff.1 hb'
              have hm := (List.getElem?_eq_some_iff.1 hz).1
              exact HN.out m y z (by omega) hy hz

set_option maxRecDepth 100000 in
set_option maxHeartbeats 4000000 in
theorem law_IsDigitSorted (w : World) (vxl : Value) (xl : List Int) (hxl : Rd w vxl (ints xl)) (fxl : I64s xl) (xb : Int) (_ : I64 xb) (xk : Int) (_ : I64 xk) : Calls Try.prog 7 #[vxl, .int .i64 xb, .int .i64 xk] w (Law w) := by
  obtain ⟨axl, cxl, rfl, _, hcxl⟩ := hxl.formi
  by_cases lxl : xl.length ≤ 1048576
  case neg =>
    have hd : decide ((xl.length : Int) > 1048576) = true := by simp; omega
    go_enter Try.func7, Try.ntmps7
    go_wp2_with fail
    go_ret
    exact ⟨rfl, Below.refl _ _⟩
  have dxl : decide ((xl.length : Int) > 1048576) = false := by simp; omega
  obtain ⟨r0, HS, HI⟩ : ∃ (r0 : Bool), 
      (∀ (W : World) (Vxl : Value) (Hxl : Rd W Vxl (ints xl)), Calls Try.prog 24 #[Vxl, .int .i64 xb, .int .i64 xk] W (RetB (.bool r0) W)) ∧
      (∀ (W : World) (Vxl : Value) (Hxl : Rd W Vxl (ints xl)), Calls Try.prog 25 #[Vxl, .int .i64 xb, .int .i64 xk] W (RetB (.bool r0) W)) :=
    ⟨_, fun W Vxl Hxl => S_IsDigitSorted W Vxl xl Hxl fxl lxl xb (by assumption) xk (by assumption), fun W Vxl Hxl => I_IsDigitSorted W Vxl xl Hxl fxl lxl xb (by assumption) xk (by assumption)⟩
  have GS := Lib.hid HS
  have GI := Lib.hid HI
  clear HS HI
  go_enter Try.func7, Try.ntmps7
  have bt : Below w.heap.size w w := Below.refl _ _
  go_wp2_with fail
  refine (toIntS_c _ xl _ (hxl.below bt) (by omega)).mono ?_
  rintro e w1 ⟨vy1, rfl, oy1, b1⟩
  replace bt := bt.trans (b1.mono bt.size)
  have z1 := b1.size
  go_wp2_with fail
  refine ((GS.out _ _ oy1.rd)).mono ?_
  rintro e w2 ⟨rfl, b2⟩
  replace oy1 := oy1.below b2
  replace bt := bt.trans (b2.mono bt.size)
  have z2 := b2.size
  go_wp2_with fail
  refine (toIntS_c _ xl _ (hxl.below bt) (by omega)).mono ?_
  rintro e w3 ⟨vy2, rfl, oy2, b3⟩
  replace oy1 := oy1.below b3
  replace bt := bt.trans (b3.mono bt.size)
  have z3 := b3.size
  go_wp2_with fail
  refine ((GI.out _ _ oy2.rd)).mono ?_
  rintro e w4 ⟨rfl, b4⟩
  replace oy1 := oy1.below b4
  replace oy2 := oy2.below b4
  replace bt := bt.trans (b4.mono bt.size)
  have z4 := b4.size
  go_wp2_with fail
  refine (toIntS_c _ xl _ (hxl.below bt) (by omega)).mono ?_
  rintro e w5 ⟨vy3, rfl, oy3, b5⟩
  replace oy1 := oy1.below b5
  replace oy2 := oy2.below b5
  replace bt := bt.trans (b5.mono bt.size)
  have z5 := b5.size
  go_wp2_with fail
  refine (eqIntS_c _ _ xl xl _ oy2.rd oy3.rd).mono ?_
  rintro e w6 ⟨rfl, d6⟩
  have b6 := d6.below w5.heap.size
  rw [eqI_self]
  replace oy1 := oy1.below b6
  replace oy2 := oy2.below b6
  replace oy3 := oy3.below b6
  replace bt := bt.trans (b6.mono bt.size)
  have z6 := b6.size
  go_wp2_with fail
  go_ret
  exact ⟨rfl, bt⟩

end Go.Proofs.Ytnjdihbaofclbaa
