/- Walks: greater numbers ahead. -/
import Derived.Test.YtlbakbachcpifaaNumWalks
namespace Go.Proofs.Ytlbakbachcpifaa
open Go.RowKit
set_option linter.unusedVariables false
set_option linter.unusedSimpArgs false

def cntUp (xs : List Int) (x : Int) (j : Nat) : Nat := ((xs.take j).filter (fun y => decide (x < y))).length
theorem cntUp_yes {xs : List Int} {x y : Int} {j : Nat} (h : xs[j]? = some y) (hy : x < y) : cntUp xs x (j + 1) = cntUp xs x j + 1 := by
  obtain ⟨hj, rfl⟩ := List.getElem?_eq_some_iff.1 h
  unfold cntUp
  rw [List.take_succ_eq_append_getElem hj, List.filter_append]
  simp [hy]
theorem cntUp_no {xs : List Int} {x y : Int} {j : Nat} (h : xs[j]? = some y) (hy : ¬ x < y) : cntUp xs x (j + 1) = cntUp xs x j := by
  obtain ⟨hj, rfl⟩ := List.getElem?_eq_some_iff.1 h
  unfold cntUp
  rw [List.take_succ_eq_append_getElem hj, List.filter_append]
  simp [hy]
theorem cntUp_le (xs : List Int) (x : Int) (j : Nat) : cntUp xs x j ≤ xs.length := by
  unfold cntUp
  refine Nat.le_trans (List.length_filter_le _ _) ?_
  rw [List.length_take]
  omega
def cntsOf (xs : List Int) : Nat → List Int
  | 0 => []
  | k + 1 => cntsOf xs k ++ [(cntUp xs (xs.getD k 0) k : Int)]
theorem cntsOf_length (xs : List Int) : ∀ k, (cntsOf xs k).length = k
  | 0 => rfl
  | k + 1 => by simp [cntsOf, cntsOf_length xs k]
theorem cntsOf_get (xs : List Int) : ∀ (n k : Nat) z, (cntsOf xs n)[k]? = some z → z = (cntUp xs (xs.getD k 0) k : Int)
  | 0, k, z, h => by simp [cntsOf] at h
  | n + 1, k, z, h => by
    by_cases hk : k < n
    · rw [cntsOf, List.getElem?_append_left (by rw [cntsOf_length]; exact hk)] at h
      exact cntsOf_get xs n k z h
    · have h2 := (List.getElem?_eq_some_iff.1 h).1
      rw [cntsOf_length] at h2
      obtain rfl : k = n := by omega
      rw [cntsOf, List.getElem?_append_right (by rw [cntsOf_length]; omega), cntsOf_length] at h
      simpa using h.symm
def mostOf (xs : List Int) : Nat → Int
  | 0 => 0
  | k + 1 => max (mostOf xs k) (cntUp xs (xs.getD k 0) k)
theorem mostOf_succ {xs : List Int} {k : Nat} {x : Int} (h : xs[k]? = some x) : mostOf xs (k + 1) = max (mostOf xs k) (cntUp xs x k) := by
  rw [mostOf, List.getD_eq_getElem?_getD, h]
  rfl
theorem max_if (a b : Int) : Value.int .i64 (if a < b then b else a) = .int .i64 (max a b) := by
  congr 1
  split <;> omega
def lateOf (xs : List Int) : Int := if xs.length ≤ 24 then mostOf xs xs.length else -1

set_option maxHeartbeats 1000000 in
theorem I_LateOf (w : World) (v : Value) (xs : List Int) (h : Rd w v (ints xs)) (_ : I64s xs) (_ : xs.length ≤ 1048576) : Calls Try.prog 16 #[v] w (RetB (.int .i64 (lateOf xs)) w) := by
  obtain ⟨a, c, rfl, h2, h3⟩ := h.formi
  by_cases hl : xs.length ≤ 24
  · have hd : decide ((xs.length : Int) > 24) = false := by simp; omega
    have HR : Hid (lateOf xs = mostOf xs xs.length) := by simp [lateOf, hl, Hid]
    go_enter Try.func16, Try.ntmps16
    go_wp2
    go_loopw [3, 14] (fun m i wr => ∃ k : Nat, k ≤ xs.length ∧ i = .int .i64 k ∧ m = .int .i64 (mostOf xs k) ∧ Dr w wr) (fun _ i _ => xs.length - (intOf i).toNat)
    case atStart => exact ⟨0, Nat.zero_le _, rfl, rfl, Dr.refl _⟩
    case round =>
      obtain ⟨wo, rfl⟩ : ∃ wo : World, wo = wr := ⟨_, rfl⟩
      obtain ⟨k, hk, rfl, rfl, hdr⟩ := hrel
      by_cases hlt : k < xs.length
      · obtain ⟨ad, x, rfl, hc, hx⟩ := (h.dr hdr).int hlt
        have i1 : (k : Int) ≤ (c : Int) := by omega
        go_wp2
        go_loopw [6, 23] (fun n j wi => ∃ q : Nat, q ≤ k ∧ j = .int .i64 q ∧ n = .int .i64 (cntUp xs x q : Nat) ∧ Dr w wi) (fun _ j _ => k - (intOf j).toNat)
        case atStart => exact ⟨0, Nat.zero_le _, rfl, by simp [cntUp], hdr⟩
        case round =>
          obtain ⟨q, hq, rfl, rfl, hdr2⟩ := hrel
          have hcl := cntUp_le xs x q
          by_cases hqk : q < k
          · obtain ⟨ad', y, had, hc2, hy⟩ := (h.dr hdr2).int (show q < xs.length by omega)
            obtain rfl : ad = ad' := by injection had
            clear had
            by_cases hg : x < y
            · have HC := Lib.hid (cntUp_yes hy.out hg)
              have hd2 : decide (y > x) = true := by simpa using hg
              clear hg
              go_wp2
              go_roundw
              case rel => exact ⟨q + 1, by omega, by go_num, by rw [HC.out]; go_num, hdr2⟩
              case measure => simp [intOf]; omega
            · have HC := Lib.hid (cntUp_no hy.out hg)
              have hd2 : decide (y > x) = false := by simpa using hg
              clear hg
              go_wp2
              go_roundw
              case rel => exact ⟨q + 1, by omega, by go_num, by rw [HC.out], hdr2⟩
              case measure => simp [intOf]; omega
          · obtain rfl : k = q := by omega
            have HM := Lib.hid (mostOf_succ hx.out)
            go_wp2
            go_roundw
            case rel => exact ⟨k + 1, by omega, by go_num, by rw [HM.out]; exact max_if _ _, hdr2⟩
            case measure => simp [intOf]; omega
      · obtain rfl : xs.length = k := by omega
        go_wp2
        go_ret
        exact ⟨ret_int HR.out.symm, hdr.below _⟩
  · have hd : decide ((xs.length : Int) > 24) = true := by simp; omega
    have HR : Hid (lateOf xs = -1) := by simp [lateOf, hl, Hid]
    go_enter Try.func16, Try.ntmps16
    go_wp2
    go_ret
    exact ⟨ret_int HR.out.symm, Below.refl _ _⟩

set_option maxHeartbeats 1000000 in
theorem s_l19Counts (v : Value) (xs : List Int) (w : World) (h : Rd w v (ints xs)) (hl : xs.length ≤ 1000) : Calls Try.prog 51 #[v] w (RetOwn 3 (ints (cntsOf xs xs.length)) w) := by
  obtain ⟨a, c, rfl, h2, h3⟩ := h.formi
  go_enter Try.func51, Try.ntmps51
  go_wp2
  go_loopw [3, 12] (fun vo i wr => ∃ k : Nat, k ≤ xs.length ∧ i = .int .i64 k ∧ Own wr 3 w.heap.size vo (ints (cntsOf xs k)) ∧ Below w.heap.size w wr) (fun _ i _ => xs.length - (intOf i).toNat)
  case atStart => exact ⟨0, Nat.zero_le _, rfl, Own.lit0 w _ (Nat.le_refl _), (Below.refl _ _).alloc (Nat.le_refl _) _⟩
  case round =>
    obtain ⟨wo, rfl⟩ : ∃ wo : World, wo = wr := ⟨_, rfl⟩
    obtain ⟨k, hk, rfl, ho, hb⟩ := hrel
    obtain ⟨ao, co, rfl, _, hco⟩ := ho.rd.formi
    have hL := cntsOf_length xs k
    by_cases hlt : k < xs.length
    · obtain ⟨ad, x, rfl, hc, hx⟩ := (h.below hb).int hlt
      have i1 : (k : Int) ≤ (c : Int) := by omega
      go_wp2
      go_loopw [6, 21] (fun n j wi => ∃ q : Nat, q ≤ k ∧ j = .int .i64 q ∧ n = .int .i64 (cntUp xs x q : Nat) ∧ Dr wo wi) (fun _ j _ => k - (intOf j).toNat)
      case atStart => exact ⟨0, Nat.zero_le _, rfl, by simp [cntUp], Dr.refl _⟩
      case round =>
        obtain ⟨q, hq, rfl, rfl, hdr2⟩ := hrel
        have hcl := cntUp_le xs x q
        by_cases hqk : q < k
        · obtain ⟨ad', y, had, hc2, hy⟩ := ((h.below hb).dr hdr2).int (show q < xs.length by omega)
          obtain rfl : ad = ad' := by injection had
          clear had
          by_cases hg : x < y
          · have HC := Lib.hid (cntUp_yes hy.out hg)
            have hd2 : decide (y > x) = true := by simpa using hg
            clear hg
            go_wp2
            go_roundw
            case rel => exact ⟨q + 1, by omega, by go_num, by rw [HC.out]; go_num, hdr2⟩
            case measure => simp [intOf]; omega
          · have HC := Lib.hid (cntUp_no hy.out hg)
            have hd2 : decide (y > x) = false := by simpa using hg
            clear hg
            go_wp2
            go_roundw
            case rel => exact ⟨q + 1, by omega, by go_num, by rw [HC.out], hdr2⟩
            case measure => simp [intOf]; omega
        · obtain rfl : k = q := by omega
          have ho2 := ho.dr hdr2
          have hb2 : Below w.heap.size w wr := hb.trans (hdr2.below _)
          go_wp2_with (at_builtin; refine wpList_app1 rfl _ _ 22 rfl elI rfl ho2 rfl rfl hb2.size (by rw [ints_length]; omega) (by rw [ints_length]; omega) ?_; intro bn cn' w2 hs2 hgrow hat)
          have hb3 := hb2.grown hgrow hb2.size fun r hr => (ho2.lt r hr).1
          have HE : Hid (cntsOf xs (k + 1) = cntsOf xs k ++ [(cntUp xs x k : Int)]) := by
            show _ = _
            rw [cntsOf, List.getD_eq_getElem?_getD, hx.out]
            rfl
          go_roundw
          case rel => exact ⟨k + 1, by omega, by go_num, by rw [HE.out, ints_append]; exact hs2, hb3⟩
          case measure => simp [intOf]; omega
    · obtain rfl : xs.length = k := by omega
      go_wp2
      go_ret
      exact ⟨_, rfl, ho, hb⟩

set_option maxHeartbeats 1000000 in
theorem S_LateOf (w : World) (v : Value) (xs : List Int) (h : Rd w v (ints xs)) (_ : I64s xs) (_ : xs.length ≤ 1048576) : Calls Try.prog 14 #[v] w (RetB (.int .i64 (lateOf xs)) w) := by
  have HC := Lib.hid (fun hl => s_l19Counts v xs w h hl)
  obtain ⟨a, c, rfl, h2, h3⟩ := h.formi
  by_cases hl : xs.length ≤ 24
  · have hd : decide ((xs.length : Int) > 24) = false := by simp; omega
    have HR : Hid (lateOf xs = mostOf xs xs.length) := by simp [lateOf, hl, Hid]
    go_enter Try.func14, Try.ntmps14
    go_wp2_with (go_at_call 51; refine (HC.out (by omega)).mono ?_; rintro e w1 ⟨vc, rfl, hc1, hb1⟩; obtain ⟨ac, cc, rfl, _, _⟩ := hc1.rd.formi; simp only [cntsOf_length] at hc1 ⊢)
    obtain ⟨cs, hcs⟩ : ∃ cs, cntsOf xs xs.length = cs := ⟨_, rfl⟩
    have hL := cntsOf_length xs xs.length
    rw [hcs] at hc1 hL
    have HCS := Lib.hid hcs
    have HLL := Lib.hid hL
    clear hcs hL
    go_loopw [3, 12] (fun m i wr => ∃ k : Nat, k ≤ xs.length ∧ i = .int .i64 k ∧ m = .int .i64 (mostOf xs k) ∧ Dr w1 wr) (fun _ i _ => xs.length - (intOf i).toNat)
    case atStart => exact ⟨0, Nat.zero_le _, rfl, rfl, Dr.refl _⟩
    case round =>
      obtain ⟨k, hk, rfl, rfl, hdr⟩ := hrel
      by_cases hlt : k < xs.length
      · obtain ⟨ad, z, rfl, hcz, hz⟩ := (hc1.rd.dr hdr).int (show k < cs.length by have := HLL.out; omega)
        have hze := cntsOf_get xs _ _ _ (by rw [HCS.out]; exact hz.out)
        have HM : Hid (mostOf xs (k + 1) = max (mostOf xs k) z) := by
          show _ = _
          rw [mostOf, hze]
        clear hze
        go_wp2
        go_roundw
        case rel => exact ⟨k + 1, by omega, by go_num, by rw [HM.out]; exact max_if _ _, hdr⟩
        case measure => simp [intOf]; omega
      · obtain rfl : xs.length = k := by omega
        go_wp2
        go_ret
        exact ⟨ret_int HR.out.symm, hb1.trans (hdr.below _)⟩
  · have hd : decide ((xs.length : Int) > 24) = true := by simp; omega
    have HR : Hid (lateOf xs = -1) := by simp [lateOf, hl, Hid]
    go_enter Try.func14, Try.ntmps14
    go_wp2
    go_ret
    exact ⟨ret_int HR.out.symm, Below.refl _ _⟩

set_option maxRecDepth 100000 in
set_option maxHeartbeats 4000000 in
theorem law_LateOf (w : World) (vxl : Value) (xl : List Int) (hxl : Rd w vxl (ints xl)) (fxl : I64s xl) : Calls Try.prog 3 #[vxl] w (Law w) := by
  obtain ⟨axl, cxl, rfl, _, hcxl⟩ := hxl.formi
  by_cases lxl : xl.length ≤ 1048576
  case neg =>
    have hd : decide ((xl.length : Int) > 1048576) = true := by simp; omega
    go_enter Try.func3, Try.ntmps3
    go_wp2_with fail
    go_ret
    exact ⟨rfl, Below.refl _ _⟩
  have dxl : decide ((xl.length : Int) > 1048576) = false := by simp; omega
  obtain ⟨r0, HS, HI⟩ : ∃ (r0 : Int), 
      (∀ (W : World) (Vxl : Value) (Hxl : Rd W Vxl (ints xl)), Calls Try.prog 14 #[Vxl] W (RetB (.int .i64 r0) W)) ∧
      (∀ (W : World) (Vxl : Value) (Hxl : Rd W Vxl (ints xl)), Calls Try.prog 16 #[Vxl] W (RetB (.int .i64 r0) W)) :=
    ⟨_, fun W Vxl Hxl => S_LateOf W Vxl xl Hxl fxl lxl, fun W Vxl Hxl => I_LateOf W Vxl xl Hxl fxl lxl⟩
  have GS := Lib.hid HS
  have GI := Lib.hid HI
  clear HS HI
  go_enter Try.func3, Try.ntmps3
  have bt : Below w.heap.size w w := Below.refl _ _
  go_wp2_with fail
  refine (toIntS_c _ xl _ (hxl.below bt) (by omega)).mono ?_
  rintro e w1 ⟨vy1, rfl, oy1, b1⟩
  replace bt := bt.trans (b1.mono bt.size)
  have z1 := b1.size
  go_wp2_with fail
  refine ((GS.out _ _ oy1.rd)).mono ?_
  rintro e w2 ⟨rfl, b2⟩
  replace oy1 := oy1.below b2
  replace bt := bt.trans (b2.mono bt.size)
  have z2 := b2.size
  go_wp2_with fail
  refine (toIntS_c _ xl _ (hxl.below bt) (by omega)).mono ?_
  rintro e w3 ⟨vy2, rfl, oy2, b3⟩
  replace oy1 := oy1.below b3
  replace bt := bt.trans (b3.mono bt.size)
  have z3 := b3.size
  go_wp2_with fail
  refine ((GI.out _ _ oy2.rd)).mono ?_
  rintro e w4 ⟨rfl, b4⟩
  replace oy1 := oy1.below b4
  replace oy2 := oy2.below b4
  replace bt := bt.trans (b4.mono bt.size)
  have z4 := b4.size
  go_wp2_with fail
  refine (toIntS_c _ xl _ (hxl.below bt) (by omega)).mono ?_
  rintro e w5 ⟨vy3, rfl, oy3, b5⟩
  replace oy1 := oy1.below b5
  replace oy2 := oy2.below b5
  replace bt := bt.trans (b5.mono bt.size)
  have z5 := b5.size
  go_wp2_with fail
  refine (eqIntS_c _ _ xl xl _ oy2.rd oy3.rd).mono ?_
  rintro e w6 ⟨rfl, d6⟩
  have b6 := d6.below w5.heap.size
  rw [eqI_self]
  replace oy1 := oy1.below b6
  replace oy2 := oy2.below b6
  replace oy3 := oy3.below b6
  replace bt := bt.trans (b6.mono bt.size)
  have z6 := b6.size
  go_wp2_with fail
  go_ret
  exact ⟨rfl, bt⟩


end Go.Proofs.Ytlbakbachcpifaa
