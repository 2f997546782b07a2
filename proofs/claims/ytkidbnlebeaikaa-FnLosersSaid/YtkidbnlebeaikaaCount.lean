/- Walks: the number of matches. -/
import Derived.Test.YtkidbnlebeaikaaMerge2
import Derived.Test.YtkidbnlebeaikaaLosersNum
namespace Go.Proofs.Ytkidbnlebeaikaa
open Go.RowKit
set_option linter.unusedVariables false
set_option linter.unusedSimpArgs false

def matchSum (n : Nat) (S : List Int) : Nat → Int
  | 0 => 0
  | k + 1 => matchSum n S k + ((wayOf n (S.getD k 0).toNat).length : Int)
theorem matchSum_succ {n k a : Nat} {S : List Int} (h : S[k]? = some (a : Int)) : matchSum n S (k + 1) = matchSum n S k + ((wayOf n a).length : Int) := by
  rw [matchSum, List.getD_eq_getElem?_getD, h]
  rfl
theorem wayF_len8 : ∀ (f : Nat) (ss : List Int) (k : Nat), (wayF f ss k).length ≤ f
  | 0, _, _ => by simp [wayF]
  | f + 1, ss, k => by
    have := wayF_len8 f (pairUp ss) (k / 2)
    rw [wayF]
    split
    · simp
    · rw [List.length_append]
      have : (ss[k ^^^ 1]?.toList).length ≤ 1 := by cases ss[k ^^^ 1]? <;> simp
      omega
theorem wayOf_length8 {n : Nat} (a : Nat) (h : n ≤ 8) : (wayOf n a).length ≤ 8 := by
  have := wayF_len8 n (List.replicate n 1) a
  show (wayF _ _ _).length ≤ _
  omega
theorem matchSum_le {n : Nat} (S : List Int) (h : n ≤ 8) : ∀ k, 0 ≤ matchSum n S k ∧ matchSum n S k ≤ 8 * k
  | 0 => by simp [matchSum]
  | k + 1 => by
    have h1 := matchSum_le S h k
    have h2 := wayOf_length8 (S.getD k 0).toNat h
    simp only [matchSum]
    omega
def countOk (xss : List (List Int)) : Int := if listsOk xss then (xss.length : Int) - 1 + matchSum xss.length (allFrom xss) ((allFrom xss).length - 1) else -1
theorem seq_mem {xss : List (List Int)} (h1 : 1 ≤ xss.length) : ∀ (f : Nat) (t : List Int), ∀ x ∈ seqFrom xss f t, ∃ a : Nat, x = a ∧ a < xss.length
  | 0, t, x, hx => by simp [seqFrom] at hx
  | f + 1, t, x, hx => by
    simp only [seqFrom] at hx
    split at hx
    · simp at hx
    · simp only [List.mem_cons] at hx
      rcases hx with rfl | hx
      · exact ⟨_, rfl, (winOf_min h1).2.1⟩
      · exact seq_mem h1 f _ x hx

set_option maxHeartbeats 1000000 in
theorem I_CountMatches (w : World) (v : Value) (xss : List (List Int)) (h : Rd2 w v xss) (hf : I64ss xss) (hsz : SzOk xss) : Calls Try.prog 32 #[v] w (RetB (.int .i64 (countOk xss)) w) := by
  have HL := i_ListsOk v xss w h
  cases hk : listsOk xss
  · rw [hk] at HL
    have HR : Hid (countOk xss = -1) := by simp [countOk, hk, Hid]
    go_enter Try.func32, Try.ntmps32
    go_wp2_with (go_at_call 14; refine HL.mono ?_; rintro e w2 ⟨rfl, hd2⟩)
    go_ret
    exact ⟨ret_int HR.out.symm, hd2.below _⟩
  rw [hk] at HL
  obtain ⟨h1, h8⟩ := listsOk_len hk
  have HM := Lib.hid (fun (wq : World) (hq : Dr w wq) => i_mergeAll v xss wq (h.dr hq) hf (listsOk_rest hk) h1 h8)
  have hR : countOk xss = (xss.length : Int) - 1 + matchSum xss.length (allFrom xss) ((allFrom xss).length - 1) := by simp [countOk, hk]
  obtain ⟨S, hS⟩ : ∃ S, allFrom xss = S := ⟨_, rfl⟩
  rw [hS] at HM hR
  have HR := Lib.hid hR
  have HS : Hid (∀ x ∈ S, ∃ a : Nat, x = a ∧ a < xss.length) := by rw [← hS]; exact seq_mem h1 _ _
  have hSl : S.length ≤ 80 := by rw [← hS]; exact seq_len _ _
  have HB := Lib.hid (matchSum_le S h8)
  clear hk hS hR
  obtain ⟨a0, c0, rfl, _, _⟩ := h.form
  go_enter Try.func32, Try.ntmps32
  go_wp2_with (first | (go_at_call 14; refine HL.mono ?_; rintro e w2 ⟨rfl, hd2⟩) | (go_at_call 49; refine (HM.out _ hd2).mono ?_; rintro e w3 ⟨va, vb, rfl, ha3, hb3, bb3⟩; obtain ⟨aS, cS, rfl, _, _⟩ := hb3.rd.formi))
  have hbS : Below w.heap.size w w3 := (hd2.below _).trans (bb3.mono (by have := hd2.size; omega))
  clear ha3 bb3
  go_loopw [5, 21] (fun m i wr => ∃ k : Nat, k ≤ S.length ∧ i = .int .i64 k ∧ m = .int .i64 ((xss.length : Int) - 1 + matchSum xss.length S (min k (S.length - 1))) ∧ Below w3.heap.size w3 wr) (fun _ i _ => S.length - (intOf i).toNat)
  case atStart => exact ⟨0, Nat.zero_le _, rfl, by simp [matchSum], Below.refl _ _⟩
  case round =>
    obtain ⟨k, hk, rfl, rfl, hb⟩ := hrel
    by_cases hlt : k < S.length
    · obtain ⟨ad, x, rfl, hc, hx⟩ := (hb3.rd.below hb).int hlt
      obtain ⟨a, rfl, ha⟩ := HS.out x (List.mem_of_getElem? hx.out)
      have hmin : min k (S.length - 1) = k := by omega
      rw [hmin]
      have hbk := HB.out k
      obtain ⟨M, hM⟩ : ∃ M, matchSum xss.length S k = M := ⟨_, rfl⟩
      rw [hM] at hbk ⊢
      by_cases hl : k + 1 < S.length
      · have HE : Hid (matchSum xss.length S (min (k + 1) (S.length - 1)) = M + ((wayOf xss.length a).length : Int)) := by
          rw [show min (k + 1) (S.length - 1) = k + 1 by omega, matchSum_succ hx.out, hM]
          rfl
        have hw8 := wayOf_length8 a h8
        have HI := Lib.hid (fun wq => i_opponents xss.length a wq h8 (by omega))
        obtain ⟨W, hW⟩ : ∃ W, wayOf xss.length a = W := ⟨_, rfl⟩
        rw [hW] at HI HE hw8
        have hd1 : (k : Int) + 1 < (S.length : Int) := by omega
        clear hM hW hmin
        go_wp2_with (go_at_call 53; refine (HI.out _).mono ?_; rintro e w5 ⟨vo, rfl, ho5, bo5⟩; obtain ⟨ao, co, rfl, _, _⟩ := ho5.rd.formi)
        go_roundw
        case rel => exact ⟨k + 1, by omega, by go_num, by rw [HE.out]; congr 1; omega, hb.trans (bo5.mono hb.size)⟩
        case measure => simp [intOf]; omega
      · have HE : Hid (matchSum xss.length S (min (k + 1) (S.length - 1)) = M) := by
          rw [show min (k + 1) (S.length - 1) = k by omega, hM]
          rfl
        have hd1 : ¬ ((k : Int) + 1 < (S.length : Int)) := by omega
        clear hM hmin
        go_wp2
        go_roundw
        case rel => exact ⟨k + 1, by omega, by go_num, by rw [HE.out], hb⟩
        case measure => simp [intOf]; omega
    · obtain rfl : S.length = k := by omega
      go_wp2
      go_ret
      exact ⟨ret_int (by rw [HR.out, show min S.length (S.length - 1) = S.length - 1 by omega]), hbS.trans (hb.mono hbS.size)⟩

set_option maxHeartbeats 1000000 in
theorem S_CountMatches (w : World) (v : Value) (xss : List (List Int)) (h : Rd2 w v xss) (hf : I64ss xss) (hsz : SzOk xss) : Calls Try.prog 31 #[v] w (RetB (.int .i64 (countOk xss)) w) := by
  have HL := s_ListsOk v xss w h
  cases hk : listsOk xss
  · rw [hk] at HL
    have HR : Hid (countOk xss = -1) := by simp [countOk, hk, Hid]
    go_enter Try.func31, Try.ntmps31
    go_wp2_with (go_at_call 12; refine HL.mono ?_; rintro e w2 ⟨rfl, hd2⟩)
    go_ret
    exact ⟨ret_int HR.out.symm, hd2.below _⟩
  rw [hk] at HL
  obtain ⟨h1, h8⟩ := listsOk_len hk
  have HM := Lib.hid (fun (wq : World) (hq : Dr w wq) => S_TakenFrom wq v xss (h.dr hq) hf hsz)
  have hR : countOk xss = (xss.length : Int) - 1 + matchSum xss.length (allFrom xss) ((allFrom xss).length - 1) := by simp [countOk, hk]
  have hFO : fromOk xss = allFrom xss := by simp [fromOk, hk]
  rw [hFO] at HM
  clear hFO
  obtain ⟨S, hS⟩ : ∃ S, allFrom xss = S := ⟨_, rfl⟩
  rw [hS] at HM hR
  have HR := Lib.hid hR
  have HS : Hid (∀ x ∈ S, ∃ a : Nat, x = a ∧ a < xss.length) := by rw [← hS]; exact seq_mem h1 _ _
  have hSl : S.length ≤ 80 := by rw [← hS]; exact seq_len _ _
  have HB := Lib.hid (matchSum_le S h8)
  clear hk hS hR
  obtain ⟨a0, c0, rfl, _, _⟩ := h.form
  by_cases hS0 : S.length = 0
  · have HZ : Hid (matchSum xss.length S (S.length - 1) = 0) := by rw [hS0]; rfl
    go_enter Try.func31, Try.ntmps31
    go_wp2_with (first | (go_at_call 12; refine HL.mono ?_; rintro e w2 ⟨rfl, hd2⟩) | (go_at_call 22; refine (HM.out _ hd2).mono ?_; rintro e w3 ⟨vb, rfl, hb3, bb3⟩; obtain ⟨aS, cS, rfl, _, _⟩ := hb3.rd.formi; rw [hS0]))
    have hbS : Below w.heap.size w w3 := (hd2.below _).trans (bb3.mono (by have := hd2.size; omega))
    go_ret
    exact ⟨ret_int (by rw [HR.out, HZ.out]; omega), hbS⟩
  · have d0 : ((S.length : Int) == 0) = false := by rw [beq_eq_false_iff_ne]; omega
    have i0 : (0 : Int) ≤ (S.length : Int) - 1 := by omega
    have i00 : ((S.length : Int) - 1).toNat = S.length - 1 := by omega
    go_enter Try.func31, Try.ntmps31
    go_wp2_with (first | (go_at_call 12; refine HL.mono ?_; rintro e w2 ⟨rfl, hd2⟩) | (go_at_call 22; refine (HM.out _ hd2).mono ?_; rintro e w3 ⟨vb, rfl, hb3, bb3⟩; obtain ⟨aS, cS, rfl, hcS1, hcS2⟩ := hb3.rd.formi; have i9 : (S.length : Int) - 1 ≤ (cS : Int) := by omega))
    have hbS : Below w.heap.size w w3 := (hd2.below _).trans (bb3.mono (by have := hd2.size; omega))
    go_loopw [4, 27] (fun m i wr => ∃ k : Nat, k ≤ S.length - 1 ∧ i = .int .i64 k ∧ m = .int .i64 ((xss.length : Int) - 1 + matchSum xss.length S k) ∧ Below w3.heap.size w3 wr) (fun _ i _ => S.length - (intOf i).toNat)
    case atStart => exact ⟨0, Nat.zero_le _, rfl, by simp [matchSum], Below.refl _ _⟩
    case round =>
      obtain ⟨k, hk, rfl, rfl, hb⟩ := hrel
      by_cases hlt : k < S.length - 1
      · obtain ⟨ad, x, rfl, hc, hx⟩ := (hb3.rd.below hb).int (show k < S.length by omega)
        obtain ⟨a, rfl, ha⟩ := HS.out x (List.mem_of_getElem? hx.out)
        have hbk := HB.out k
        have HE := Lib.hid (matchSum_succ (n := xss.length) hx.out)
        have hw8 := wayOf_length8 a h8
        have HI := Lib.hid (fun wq => s_l28Way xss.length a wq h8 (by omega))
        obtain ⟨M, hM⟩ : ∃ M, matchSum xss.length S k = M := ⟨_, rfl⟩
        rw [hM] at hbk HE ⊢
        obtain ⟨W, hW⟩ : ∃ W, wayOf xss.length a = W := ⟨_, rfl⟩
        rw [hW] at HI HE hw8
        clear hM hW
        go_wp2_with (go_at_call 52; refine (HI.out _).mono ?_; rintro e w5 ⟨vo, rfl, ho5, bo5⟩; obtain ⟨ao, co, rfl, _, _⟩ := ho5.rd.formi)
        go_roundw
        case rel => exact ⟨k + 1, by omega, by go_num, by rw [HE.out]; congr 1; omega, hb.trans (bo5.mono hb.size)⟩
        case measure => simp [intOf]; omega
      · obtain rfl : S.length - 1 = k := by omega
        go_wp2
        go_ret
        exact ⟨ret_int (by rw [HR.out]), hbS.trans (hb.mono hbS.size)⟩

set_option maxRecDepth 100000 in
set_option maxHeartbeats 4000000 in
theorem law_CountMatches (w : World) (vxlists : Value) (xlists : List (List Int)) (hxlists : Rd2 w vxlists xlists) (fxlists : I64ss xlists) : Calls Try.prog 9 #[vxlists] w (Law w) := by
  obtain ⟨axlists, cxlists, rfl, _, hcxlists⟩ := hxlists.form
  have hs1 := szSS_le xlists 1048576
  obtain ⟨L1, hL1⟩ : ∃ z, szSS xlists 1048576 = z := ⟨_, rfl⟩
  rw [hL1] at hs1
  have HL1 := Lib.hid hL1
  clear hL1
  by_cases pxlists : L1 < 0
  case pos =>
    go_enter Try.func9, Try.ntmps9
    go_wp2_with fail
    refine (szIntSS_c _ xlists 1048576 _ hxlists (by omega) (by omega)).mono ?_
    rintro e w' ⟨rfl, rfl⟩
    rw [HL1.out]
    go_wp2_with fail
    go_ret
    exact ⟨rfl, Below.refl _ _⟩
  have lxlists : SzOk xlists := szSS_ok (left := 1048576) (by have := HL1.out; omega) (by omega)
  have txlists := lxlists.2
  obtain ⟨r0, HS, HI⟩ : ∃ (r0 : Int), 
      (∀ (W : World) (Vxlists : Value) (Hxlists : Rd2 W Vxlists xlists), Calls Try.prog 31 #[Vxlists] W (RetB (.int .i64 r0) W)) ∧
      (∀ (W : World) (Vxlists : Value) (Hxlists : Rd2 W Vxlists xlists), Calls Try.prog 32 #[Vxlists] W (RetB (.int .i64 r0) W)) :=
    ⟨_, fun W Vxlists Hxlists => S_CountMatches W Vxlists xlists Hxlists fxlists lxlists, fun W Vxlists Hxlists => I_CountMatches W Vxlists xlists Hxlists fxlists lxlists⟩
  have GS := Lib.hid HS
  have GI := Lib.hid HI
  clear HS HI
  go_enter Try.func9, Try.ntmps9
  go_wp2_with fail
  refine (szIntSS_c _ xlists 1048576 _ hxlists (by omega) (by omega)).mono ?_
  rintro e w' ⟨rfl, rfl⟩
  rw [HL1.out]
  have bt : Below w.heap.size w w := Below.refl _ _
  go_wp2_with fail
  refine (toIntSS_c _ xlists _ (hxlists.below bt) lxlists).mono ?_
  rintro e w1 ⟨vy1, rfl, oy1, b1⟩
  replace bt := bt.trans (b1.mono bt.size)
  have z1 := b1.size
  go_wp2_with fail
  refine ((GS.out _ _ oy1.rd)).mono ?_
  rintro e w2 ⟨rfl, b2⟩
  replace oy1 := oy1.below b2
  replace bt := bt.trans (b2.mono bt.size)
  have z2 := b2.size
  go_wp2_with fail
  refine (toIntSS_c _ xlists _ (hxlists.below bt) lxlists).mono ?_
  rintro e w3 ⟨vy2, rfl, oy2, b3⟩
  replace oy1 := oy1.below b3
  replace bt := bt.trans (b3.mono bt.size)
  have z3 := b3.size
  go_wp2_with fail
  refine ((GI.out _ _ oy2.rd)).mono ?_
  rintro e w4 ⟨rfl, b4⟩
  replace oy1 := oy1.below b4
  replace oy2 := oy2.below b4
  replace bt := bt.trans (b4.mono bt.size)
  have z4 := b4.size
  go_wp2_with fail
  refine (toIntSS_c _ xlists _ (hxlists.below bt) lxlists).mono ?_
  rintro e w5 ⟨vy3, rfl, oy3, b5⟩
  replace oy1 := oy1.below b5
  replace oy2 := oy2.below b5
  replace bt := bt.trans (b5.mono bt.size)
  have z5 := b5.size
  go_wp2_with fail
  refine (eqIntSS_c _ _ xlists xlists _ oy2.rd oy3.rd).mono ?_
  rintro e w6 ⟨rfl, d6⟩
  have b6 := d6.below w5.heap.size
  rw [eqII_self]
  replace oy1 := oy1.below b6
  replace oy2 := oy2.below b6
  replace oy3 := oy3.below b6
  replace bt := bt.trans (b6.mono bt.size)
  have z6 := b6.size
  go_wp2_with fail
  go_ret
  exact ⟨rfl, bt⟩


end Go.Proofs.Ytkidbnlebeaikaa
