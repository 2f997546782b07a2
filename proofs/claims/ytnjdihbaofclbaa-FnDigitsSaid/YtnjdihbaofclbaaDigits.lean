/- Walks: digits. -/
import Derived.Test.YtnjdihbaofclbaaSlicesWalks
import Derived.Test.YtnjdihbaofclbaaPlainDigits
namespace Go.Proofs.Ytnjdihbaofclbaa
open Go.RowKit
set_option linter.unusedVariables false
set_option linter.unusedSimpArgs false

def plainB (x : Int) : Bool := inB x 0 999999
def digitsOk (xs : List Int) (b : Int) : Bool := decide (xs.length ≤ 16) && inB b 2 16 && xs.all plainB
theorem digitsOk_iff {xs : List Int} {b : Int} : digitsOk xs b = true ↔ xs.length ≤ 16 ∧ (2 ≤ b ∧ b ≤ 16) ∧ ∀ x ∈ xs, 0 ≤ x ∧ x ≤ 999999 := by
  simp [digitsOk, plainB, inB_iff, and_assoc]

theorem k_DigitsOk1 : Known 53 := known Try.func53 (by kernel_rfl) (by kernel_rfl)
theorem i_DigitsOk1 (x : Int) (w : World) : Calls Try.prog 53 #[.int .i64 x] w fun e w' => e = .returned (.bool (!plainB x)) ∧ w = w' := by
  have H : Hid (plainB x = inB x 0 999999) := rfl
  go_enter Try.func53, Try.ntmps53
  go_wp2_with (go_at_call 48; refine (i_isPlain _ _).mono ?_; rintro e w' ⟨rfl, rfl⟩)
  go_ret
  exact ⟨ret_bool (by rw [H.out]), rfl⟩

set_option maxHeartbeats 400000 in
theorem i_DigitsOk (v : Value) (xs : List Int) (b : Int) (w : World) (h : Rd w v (ints xs)) :
    Calls Try.prog 20 #[v, .int .i64 b] w fun e w' => e = .returned (.bool (digitsOk xs b)) ∧ w = w' := by
  obtain ⟨a, c, rfl, h2, h3⟩ := h.formi
  have HF := f_ContainsFunc (fun x => !plainB x) 53 #[] k_DigitsOk1 _ xs w h (fun x _ => by simpa using i_DigitsOk1 x w)
  have HR : Hid (digitsOk xs b = (decide (xs.length ≤ 16) && inB b 2 16 && !(xs.any fun x => !plainB x))) := by
    show _ = _
    rw [List.not_any_eq_all_not]
    simp [digitsOk]
  generalize (xs.any fun x => !plainB x) = r at *
  by_cases h16 : xs.length ≤ 16
  · cases hb : inB b 2 16
    · go_enter Try.func20, Try.ntmps20
      go_wp2_with (go_at_call 49; refine (i_isDigitBase _ _).mono ?_; rintro e w' ⟨rfl, rfl⟩)
      go_ret
      exact ⟨ret_bool (by rw [HR.out]; simp [hb]), rfl⟩
    · go_enter Try.func20, Try.ntmps20
      go_wp2_with (first | (go_at_call 49; refine (i_isDigitBase _ _).mono ?_; rintro e w' ⟨rfl, rfl⟩) | (go_at_call 52; refine HF.mono ?_; rintro e w' ⟨rfl, rfl⟩))
      go_ret
      exact ⟨ret_bool (by rw [HR.out]; simp [hb, h16]), rfl⟩
  · have hd : decide ((xs.length : Int) ≤ 16) = false := by simp; omega
    go_enter Try.func20, Try.ntmps20
    go_wp2
    go_ret
    exact ⟨ret_bool (by rw [HR.out]; simp [h16]), rfl⟩

set_option maxHeartbeats 400000 in
theorem s_DigitsOk (v : Value) (xs : List Int) (b : Int) (w : World) (h : Rd w v (ints xs)) :
    Calls Try.prog 18 #[v, .int .i64 b] w fun e w' => e = .returned (.bool (digitsOk xs b)) ∧ w = w' := by
  obtain ⟨a, c, rfl, h2, h3⟩ := h.formi
  by_cases h16 : xs.length ≤ 16
  · have hd : decide ((xs.length : Int) > 16) = false := by simp; omega
    cases hb : inB b 2 16
    · go_enter Try.func18, Try.ntmps18
      go_wp2_with (go_at_call 46; refine (s_l01In _ _ _ _).mono ?_; rintro e w' ⟨rfl, rfl⟩)
      go_ret
      exact ⟨ret_bool (by simp [digitsOk, hb]), rfl⟩
    · go_enter Try.func18, Try.ntmps18
      go_wp2_with (go_at_call 46; refine (s_l01In _ _ _ _).mono ?_; rintro e w' ⟨rfl, rfl⟩)
      go_loop [17] (fun i => ∃ k : Nat, k ≤ xs.length ∧ i = .int .i64 k ∧ (∀ (j : Nat) x, j < k → xs[j]? = some x → inB x 0 999999 = true)) (fun i => xs.length - (intOf i).toNat)
      case atStart => exact ⟨0, Nat.zero_le _, rfl, fun j _ hj => by omega⟩
      case round =>
        obtain ⟨k, hk, rfl, hno⟩ := hrel
        have HN := Lib.hid hno
        clear hno
        by_cases hlt : k < xs.length
        · obtain ⟨ad, x, rfl, hc, hx⟩ := h.int hlt
          cases hp : inB x 0 999999
          · go_wp2_with (go_at_call 46; refine (s_l01In _ _ _ _).mono ?_; rintro e w' ⟨rfl, rfl⟩)
            go_ret
            refine ⟨ret_bool ?_, rfl⟩
            symm
            have hm := List.mem_of_getElem? hx.out
            simp only [digitsOk, Bool.and_eq_false_iff]
            right
            rw [List.all_eq_false]
            exact ⟨x, hm, by simp [plainB, hp]⟩
          · go_wp2_with (go_at_call 46; refine (s_l01In _ _ _ _).mono ?_; rintro e w' ⟨rfl, rfl⟩)
            go_round
            case rel => exact ⟨k + 1, by omega, by go_num, fun j y hj hy => by
              by_cases e : j = k
              · subst e
                rw [hx.out] at hy
                cases hy
                exact hp
              · exact HN.out j y (by omega) hy⟩
            case measure => simp [intOf]; omega
        · obtain rfl : k = xs.length := by omega
          go_wp2
          go_ret
          refine ⟨ret_bool ?_, rfl⟩
          symm
          simp only [digitsOk, h16, hb, decide_true, Bool.true_and, List.all_eq_true]
          intro x hx
          obtain ⟨j, hj, rfl⟩ := List.getElem_of_mem hx
          exact HN.out j _ hj (List.getElem?_eq_getElem hj)
  · have hd : decide ((xs.length : Int) > 16) = true := by simp; omega
    go_enter Try.func18, Try.ntmps18
    go_wp2
    go_ret
    exact ⟨ret_bool (by simp [digitsOk, h16]), rfl⟩

set_option maxHeartbeats 400000 in
theorem law_DigitsOk (w : World) (v : Value) (xs : List Int) (h : Rd w v (ints xs)) (_ : I64s xs) (b : Int) (_ : I64 b) : Calls Try.prog 5 #[v, .int .i64 b] w (Law w) := by
  obtain ⟨a, c, rfl, h2, h3⟩ := h.formi
  by_cases hl : xs.length ≤ 1048576
  · have hd : decide ((xs.length : Int) > 1048576) = false := by simp; omega
    go_enter Try.func5, Try.ntmps5
    go_wp2_with fail
    refine (toIntS_c _ xs _ h (by omega)).mono ?_
    rintro e w1 ⟨v1, rfl, o1, b1⟩
    go_wp2_with fail
    refine (s_DigitsOk _ xs _ _ o1.rd).mono ?_
    rintro e w' ⟨rfl, rfl⟩
    go_wp2_with fail
    refine (toIntS_c _ xs _ (h.below b1) (by omega)).mono ?_
    rintro e w2 ⟨v2, rfl, o2, b2⟩
    go_wp2_with fail
    refine (i_DigitsOk _ xs _ _ o2.rd).mono ?_
    rintro e w' ⟨rfl, rfl⟩
    go_wp2_with fail
    have b2' := b1.trans (b2.mono b1.size)
    refine (toIntS_c _ xs _ (h.below b2') (by omega)).mono ?_
    rintro e w3 ⟨v3, rfl, o3, b3⟩
    go_wp2_with fail
    refine (eqIntS_c _ _ xs xs _ (o2.below b3).rd o3.rd).mono ?_
    rintro e w4 ⟨rfl, d4⟩
    rw [eqI_self]
    go_wp2_with fail
    go_ret
    exact ⟨rfl, (b2'.trans (b3.mono (by have := b1.size; have := b2.size; omega))).trans (d4.below _)⟩
  · have hd : decide ((xs.length : Int) > 1048576) = true := by simp; omega
    go_enter Try.func5, Try.ntmps5
    go_wp2
    go_ret
    exact ⟨rfl, Below.refl _ _⟩

def passesNeeded (xs : List Int) (b : Int) : Int := if digitsOk xs b then (ndig b.toNat (maxOf xs).toNat : Nat) else -1

set_option maxHeartbeats 400000 in
theorem s_PassesNeeded (v : Value) (xs : List Int) (b : Int) (w : World) (h : Rd w v (ints xs)) :
    Calls Try.prog 22 #[v, .int .i64 b] w fun e w' => e = .returned (.int .i64 (passesNeeded xs b)) ∧ w = w' := by
  have HD := s_DigitsOk v xs b w h
  obtain ⟨a, c, rfl, h2, h3⟩ := h.formi
  cases hd : digitsOk xs b
  · go_enter Try.func22, Try.ntmps22
    go_wp2_with (go_at_call 18; refine HD.mono ?_; rintro e w' ⟨rfl, rfl⟩)
    go_ret
    exact ⟨ret_int (by simp [passesNeeded, hd]), rfl⟩
  · obtain ⟨hl, ⟨hb, hb2⟩, hx⟩ := digitsOk_iff.1 hd
    have HX := Lib.hid hx
    have hmax := maxOf_bd xs hx
    clear hx
    have HP : Hid (passesNeeded xs b = (ndig b.toNat (maxOf xs).toNat : Nat)) := by simp [passesNeeded, hd, Hid]
    go_enter Try.func22, Try.ntmps22
    go_wp2_with (go_at_call 18; refine HD.mono ?_; rintro e w' ⟨rfl, rfl⟩)
    clear HD
    go_loop [5, 15] (fun m i => ∃ k : Nat, ∃ q : Int, k ≤ xs.length ∧ i = .int .i64 k ∧ m = .int .i64 q ∧ Hid (q = (xs.take k).foldl max 0)) (fun _ i => xs.length - (intOf i).toNat)
    case atStart => exact ⟨0, 0, Nat.zero_le _, rfl, rfl, rfl⟩
    case round =>
      obtain ⟨k, q, hk, rfl, rfl, hq⟩ := hrel
      by_cases hlt : k < xs.length
      · obtain ⟨ad, x, rfl, hc, hx⟩ := h.int hlt
        have H1 := Lib.hid (foldl_take_succ max 0 xs k x hx.out)
        go_wp2
        go_round
        case rel => exact ⟨k + 1, _, by omega, by go_num, rfl, by rw [H1.out, ← hq.out]; show _ = _; split <;> omega⟩
        case measure => simp [intOf]; omega
      · obtain rfl : k = xs.length := by omega
        have hq' : Hid (q = maxOf xs) := by rw [hq.out, List.take_length]; rfl
        have hq0 : 0 ≤ q := by rw [hq'.out]; exact hmax.1
        have hq1 : q ≤ 999999 := by rw [hq'.out]; exact hmax.2
        rw [← hq'.out] at HP
        clear hq hq' hmax
        go_wp2
        go_loop [5, 8] (fun m i => ∃ k : Nat, ∃ r : Int, i = .int .i64 k ∧ m = .int .i64 r ∧ 0 ≤ r ∧ r ≤ 999999 ∧ Hid (k + ndig b.toNat r.toNat = ndig b.toNat q.toNat)) (fun m _ => (intOf m).toNat)
        case atStart => exact ⟨0, q, rfl, rfl, hq0, hq1, by simp [Hid]⟩
        case round =>
          obtain ⟨k, r, rfl, rfl, hr0, hr1, hr⟩ := hrel
          have hk20 : k ≤ 20 := by have := ndig_20 hb hq1; have := hr.out; omega
          by_cases hp : 0 < r
          · have hdv := int_div_lt hb hp
            have H1 := Lib.hid (ndig_int hb hp)
            go_wp2
            go_round
            case rel => exact ⟨k + 1, r / b, by go_num, rfl, hdv.1, by omega, by have := H1.out; have := hr.out; show _ = _; omega⟩
            case measure => simp [intOf]; omega
          · obtain rfl : r = 0 := by omega
            go_wp2
            go_ret
            exact ⟨ret_int (by rw [HP.out, ← hr.out]; simp [ndig_zero]), rfl⟩

set_option maxHeartbeats 400000 in
theorem i_PassesNeeded (v : Value) (xs : List Int) (b : Int) (w : World) (h : Rd w v (ints xs)) :
    Calls Try.prog 23 #[v, .int .i64 b] w fun e w' => e = .returned (.int .i64 (passesNeeded xs b)) ∧ w = w' := by
  have HD := i_DigitsOk v xs b w h
  obtain ⟨a, c, rfl, h2, h3⟩ := h.formi
  cases hd : digitsOk xs b
  · go_enter Try.func23, Try.ntmps23
    go_wp2_with (go_at_call 20; refine HD.mono ?_; rintro e w' ⟨rfl, rfl⟩)
    go_ret
    exact ⟨ret_int (by simp [passesNeeded, hd]), rfl⟩
  · obtain ⟨hl, ⟨hb, hb2⟩, hx⟩ := digitsOk_iff.1 hd
    have HX := Lib.hid hx
    have HP : Hid (passesNeeded xs b = (maxDig b.toNat xs : Nat)) := by
      rw [maxDig_eq (by omega) xs fun x hx' => (hx x hx').1]
      simp [passesNeeded, hd, Hid]
    clear hx
    go_enter Try.func23, Try.ntmps23
    go_wp2_with (go_at_call 20; refine HD.mono ?_; rintro e w' ⟨rfl, rfl⟩)
    clear HD
    go_loop [5, 15] (fun m i => ∃ k : Nat, ∃ q : Nat, k ≤ xs.length ∧ q ≤ 20 ∧ i = .int .i64 k ∧ m = .int .i64 q ∧ Hid (q = (xs.take k).foldl (fun k x => max k (ndig b.toNat x.toNat)) 0)) (fun _ i => xs.length - (intOf i).toNat)
    case atStart => exact ⟨0, 0, Nat.zero_le _, by omega, rfl, rfl, rfl⟩
    case round =>
      obtain ⟨k, q, hk, hq20, rfl, rfl, hq⟩ := hrel
      by_cases hlt : k < xs.length
      · obtain ⟨ad, x, rfl, hc, hx⟩ := h.int hlt
        have H1 := Lib.hid (foldl_take_succ (fun k x => max k (ndig b.toNat x.toNat)) 0 xs k x hx.out)
        have hxb := HX.out x (List.mem_of_getElem? hx.out)
        have hx0 : 0 ≤ x := hxb.1
        have hx1 : x ≤ 999999 := hxb.2
        clear hxb
        go_wp2
        go_loop [7, 8] (fun m i => ∃ k : Nat, ∃ r : Int, i = .int .i64 k ∧ m = .int .i64 r ∧ 0 ≤ r ∧ r ≤ 999999 ∧ Hid (k + ndig b.toNat r.toNat = ndig b.toNat x.toNat)) (fun m _ => (intOf m).toNat)
        case atStart => exact ⟨0, x, rfl, rfl, hx0, hx1, by simp [Hid]⟩
        case round =>
          obtain ⟨j, r, rfl, rfl, hr0, hr1, hr⟩ := hrel
          have hk20 : j ≤ 20 := by have := ndig_20 hb hx1; have := hr.out; omega
          by_cases hp : 0 < r
          · have hdv := int_div_lt hb hp
            have H1 := Lib.hid (ndig_int hb hp)
            go_wp2
            go_round
            case rel => exact ⟨j + 1, r / b, by go_num, rfl, hdv.1, by omega, by have := H1.out; have := hr.out; show _ = _; omega⟩
            case measure => simp [intOf]; omega
          · obtain rfl : r = 0 := by omega
            have hr' : Hid (j = ndig b.toNat x.toNat) := by rw [← hr.out]; simp [ndig_zero, Hid]
            go_wp2
            go_round
            case rel => exact ⟨k + 1, max q j, by omega, by omega, by go_num, by go_num, by rw [H1.out, ← hq.out, ← hr'.out]; rfl⟩
            case measure => simp [intOf]; omega
      · obtain rfl : k = xs.length := by omega
        have hq' : Hid (q = maxDig b.toNat xs) := by rw [hq.out, List.take_length]; rfl
        go_wp2
        go_ret
        exact ⟨ret_int (by rw [HP.out, ← hq'.out]), rfl⟩

theorem S_PassesNeeded (w : World) (v : Value) (xs : List Int) (h : Rd w v (ints xs)) (_ : I64s xs) (_ : xs.length ≤ 1048576) (b : Int) (_ : I64 b) : Calls Try.prog 22 #[v, .int .i64 b] w (RetB (.int .i64 (passesNeeded xs b)) w) := retB_same (s_PassesNeeded v xs b w h)
theorem I_PassesNeeded (w : World) (v : Value) (xs : List Int) (h : Rd w v (ints xs)) (_ : I64s xs) (_ : xs.length ≤ 1048576) (b : Int) (_ : I64 b) : Calls Try.prog 23 #[v, .int .i64 b] w (RetB (.int .i64 (passesNeeded xs b)) w) := retB_same (i_PassesNeeded v xs b w h)

set_option maxRecDepth 100000 in
set_option maxHeartbeats 4000000 in
theorem law_PassesNeeded (w : World) (vxl : Value) (xl : List Int) (hxl : Rd w vxl (ints xl)) (fxl : I64s xl) (xb : Int) (_ : I64 xb) : Calls Try.prog 6 #[vxl, .int .i64 xb] w (Law w) := by
  obtain ⟨axl, cxl, rfl, _, hcxl⟩ := hxl.formi
  by_cases lxl : xl.length ≤ 1048576
  case neg =>
    have hd : decide ((xl.length : Int) > 1048576) = true := by simp; omega
    go_enter Try.func6, Try.ntmps6
    go_wp2_with fail
    go_ret
    exact ⟨rfl, Below.refl _ _⟩
  have dxl : decide ((xl.length : Int) > 1048576) = false := by simp; omega
  obtain ⟨r0, HS, HI⟩ : ∃ (r0 : Int), 
      (∀ (W : World) (Vxl : Value) (Hxl : Rd W Vxl (ints xl)), Calls Try.prog 22 #[Vxl, .int .i64 xb] W (RetB (.int .i64 r0) W)) ∧
      (∀ (W : World) (Vxl : Value) (Hxl : Rd W Vxl (ints xl)), Calls Try.prog 23 #[Vxl, .int .i64 xb] W (RetB (.int .i64 r0) W)) :=
    ⟨_, fun W Vxl Hxl => S_PassesNeeded W Vxl xl Hxl fxl lxl xb (by assumption), fun W Vxl Hxl => I_PassesNeeded W Vxl xl Hxl fxl lxl xb (by assumption)⟩
  have GS := Lib.hid HS
  have GI := Lib.hid HI
  clear HS HI
  go_enter Try.func6, Try.ntmps6
  have bt : Below w.heap.size w w := Below.refl _ _
  go_wp2_with fail
  refine (toIntS_c _ xl _ (hxl.below bt) (by omega)).mono ?_
  rintro e w1 ⟨vy1, rfl, oy1, b1⟩
  replace bt := bt.trans (b1.mono bt.size)
  have z1 := b1.size
  go_wp2_with fail
  refine ((GS.out _ _ oy1.rd)).mono ?_
  rintro e w2 ⟨rfl, b2⟩
  replace oy1 := oy1.below b2
  replace bt := bt.trans (b2.mono bt.size)
  have z2 := b2.size
  go_wp2_with fail
  refine (toIntS_c _ xl _ (hxl.below bt) (by omega)).mono ?_
  rintro e w3 ⟨vy2, rfl, oy2, b3⟩
  replace oy1 := oy1.below b3
  replace bt := bt.trans (b3.mono bt.size)
  have z3 := b3.size
  go_wp2_with fail
  refine ((GI.out _ _ oy2.rd)).mono ?_
  rintro e w4 ⟨rfl, b4⟩
  replace oy1 := oy1.below b4
  replace oy2 := oy2.below b4
  replace bt := bt.trans (b4.mono bt.size)
  have z4 := b4.size
  go_wp2_with fail
  refine (toIntS_c _ xl _ (hxl.below bt) (by omega)).mono ?_
  rintro e w5 ⟨vy3, rfl, oy3, b5⟩
  replace oy1 := oy1.below b5
  replace oy2 := oy2.below b5
  replace bt := bt.trans (b5.mono bt.size)
  have z5 := b5.size
  go_wp2_with fail
  refine (eqIntS_c _ _ xl xl _ oy2.rd oy3.rd).mono ?_
  rintro e w6 ⟨rfl, d6⟩
  have b6 := d6.below w5.heap.size
  rw [eqI_self]
  replace oy1 := oy1.below b6
  replace oy2 := oy2.below b6
  replace oy3 := oy3.below b6
  replace bt := bt.trans (b6.mono bt.size)
  have z6 := b6.size
  go_wp2_with fail
  go_ret
  exact ⟨rfl, bt⟩

def countDigits (xs : List Int) (b d : Int) : List Int := if digitsOk xs b && inB d 0 20 then countsOf (fun x => dig x b d.toNat) b.toNat xs else []

theorem s_l27Ok (v : Value) (xs : List Int) (b d : Int) (w : World) (h : Rd w v (ints xs)) :
    Calls Try.prog 54 #[v, .int .i64 b, .int .i64 d] w fun e w' => e = .returned (.bool (digitsOk xs b && inB d 0 20)) ∧ w = w' := by
  have HD := s_DigitsOk v xs b w h
  cases hd : digitsOk xs b
  · rw [hd] at HD
    go_enter Try.func54, Try.ntmps54
    go_wp2_with (go_at_call 18; refine HD.mono ?_; rintro e w' ⟨rfl, rfl⟩)
    go_ret
    exact ⟨rfl, rfl⟩
  · rw [hd] at HD
    go_enter Try.func54, Try.ntmps54
    go_wp2_with (first | (go_at_call 18; refine HD.mono ?_; rintro e w' ⟨rfl, rfl⟩) | (go_at_call 46; refine (s_l01In _ _ _ _).mono ?_; rintro e w' ⟨rfl, rfl⟩))
    go_ret
    exact ⟨ret_bool (by simp), rfl⟩

set_option maxHeartbeats 400000 in
theorem S_CountDigits (w : World) (v : Value) (xs : List Int) (h : Rd w v (ints xs)) (_ : I64s xs) (_ : xs.length ≤ 1048576) (b : Int) (_ : I64 b) (d : Int) (_ : I64 d) :
    Calls Try.prog 26 #[v, .int .i64 b, .int .i64 d] w (RetOwn 3 (ints (countDigits xs b d)) w) := by
  have HO := s_l27Ok v xs b d w h
  obtain ⟨a, c, rfl, h2, h3⟩ := h.formi
  cases hd : (digitsOk xs b && inB d 0 20)
  · have HR : Hid (countDigits xs b d = []) := by simp [countDigits, hd, Hid]
    rw [hd] at HO
    go_enter Try.func26, Try.ntmps26
    go_wp2_with (go_at_call 54; refine HO.mono ?_; rintro e w' ⟨rfl, rfl⟩)
    go_ret
    rw [HR.out]
    exact RetOwn.nil _ _
  · have hd' := hd
    simp only [Bool.and_eq_true] at hd'
    obtain ⟨hl, ⟨hb, hb2⟩, hx⟩ := digitsOk_iff.1 hd'.1
    obtain ⟨hd0, hd1⟩ := inB_iff.1 hd'.2
    have HX := Lib.hid hx
    clear hx hd'
    obtain ⟨B, hB⟩ := Int.eq_ofNat_of_zero_le (show 0 ≤ b by omega)
    subst hB
    have HR : Hid (countDigits xs (B : Int) d = countsOf (fun x => dig x (B : Int) d.toNat) B xs) := by simp [countDigits, hd, Hid]
    rw [hd] at HO
    clear hd
    go_enter Try.func26, Try.ntmps26
    go_wp2_with (first | (go_at_call 54; refine HO.mono ?_; rintro e w' ⟨rfl, rfl⟩) | (at_make; refine wpList_mk rfl _ _ 26 rfl elI rfl rfl (Nat.le_refl _) (by omega) (by omega) ?_; intro bb w1 hb1 hown1 hg1))
    clear HO
    go_loopw [19] (fun i wr => ∃ k : Nat, k ≤ xs.length ∧ i = .int .i64 k ∧ Own wr 3 w.heap.size (.slice (some bb) B B) (ints (countsOf (fun x => dig x (B : Int) d.toNat) B (xs.take k))) ∧ Below w.heap.size w wr)
      (fun i _ => xs.length - (intOf i).toNat)
    case atStart => exact ⟨0, Nat.zero_le _, rfl, by rw [List.take_zero, countsOf_nil]; simpa [ints] using hown1, (Below.refl _ _).grown hg1 (Nat.le_refl _) (fun _ h => by cases h)⟩
    case round =>
      obtain ⟨k, hk, rfl, hown, hbel⟩ := hrel
      by_cases hlt : k < xs.length
      · obtain ⟨ad, x, rfl, hc, hx⟩ := (h.below hbel).int hlt
        have hxb := HX.out x (List.mem_of_getElem? hx.out)
        have hdg := dig_bd x (B : Int) d.toNat hb
        obtain ⟨q, hq⟩ := Int.eq_ofNat_of_zero_le hdg.1
        have hqB : q < B := by omega
        have HS := Lib.hid (countsOf_step (fun x => dig x (B : Int) d.toNat) B (xs.take k) x q hq hqB)
        have hcl := count_le (fun x => dig x (B : Int) d.toNat) (xs.take k) (q : Int)
        have hl2 : q < (countsOf (fun x => dig x (B : Int) d.toNat) B (xs.take k)).length := by rw [countsOf_length]; exact hqB
        obtain ⟨ad2, y, had2, hc2, hy⟩ := hown.rd.int hl2
        obtain rfl : bb = ad2 := by injection had2
        clear had2
        have hy2 := hy.out
        rw [countsOf_get _ _ _ _ hqB, Option.some.injEq] at hy2
        have hyb : 0 ≤ y ∧ y ≤ 1048576 := by rw [← hy2]; simp only [List.length_take] at hcl; omega
        have hf2 := hown.frozen rfl q
        have hs := (hown.seti rfl hl2 (y + 1)).1
        have hb2 := hown.below_set rfl hl2 (.int .i64 (y + 1)) hbel (Nat.le_refl _)
        rw [← hy2] at hs
        rw [← HS.out, ← take_snoc hx.out, hy2] at hs
        have HC := s_l27Digit x (B : Int) d wr hxb.1 hxb.2 hb (by omega) hd0 hd1
        rw [hq] at HC
        clear hown hbel hcl hy2 hdg hq hxb
        go_wp2_with (go_at_call 47; refine HC.mono ?_; rintro e w' ⟨rfl, rfl⟩)
        go_roundw
        case rel => exact ⟨k + 1, by omega, by go_num, hs, hb2⟩
        case measure => simp [intOf]; omega
      · obtain rfl : xs.length = k := by omega
        go_wp2
        go_ret
        exact ⟨_, rfl, by rw [HR.out]; rw [List.take_length] at hown; exact hown, hbel⟩

end Go.Proofs.Ytnjdihbaofclbaa
