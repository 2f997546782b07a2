/- Walks: words and rounds of a stack, in the reference. -/
import Derived.Test.YtdagkgkllgpeeaaDoorStackC
import Derived.Test.YtdagkgkllgpeeaaDoorFmt
namespace Go.Proofs.YtdagkgkllgpeeaaDoor
open Go.RowKit
set_option linter.unusedVariables false
set_option linter.unusedSimpArgs false

def RetWord (u : List UInt8) (b : Bool) (w : World) (e : Ending) (w' : World) : Prop := e = .returned (.tuple #[.string (bstr u), .bool b]) ∧ Below w.heap.size w w'
def wordOf (xs : List Int) : List UInt8 := if shortB xs && canB xs then stkW xs else []
theorem bstr_snoc {A : ByteArray} {W : List UInt8} (h : A = bstr W) (x : UInt8) : A ++ (⟨#[x]⟩ : ByteArray) = bstr (W ++ [x]) := by
  rw [h]
  exact bstr_app W [x]
theorem stkR_bd {xs : List Int} {k : Nat} {O R : List Int} {W : List UInt8} (hk : k ≤ xs.length) (h : stkR xs k = (O, R, W)) : O.length + R.length = k ∧ W.length = k + O.length := by
  have := stkR_len xs k hk
  rw [h] at this
  exact this
/-- The last is taken off a slice that is owned. -/
theorem own_pop {w : World} {E B n c ρ : Nat} {a : Option Addr} {x : Int} {r : List Int} (h : Own w E B (.slice a n c) (ints (x :: r).reverse)) (hn : ρ ≤ n) (hr : ρ = r.length) : Own w E B (.slice a ρ c) (ints r.reverse) := by
  have ho := h.take hn
  rw [ints_take, List.reverse_cons, List.take_append_of_le_length (by simp; omega), List.take_of_length_le (by simp; omega)] at ho
  exact ho

set_option maxRecDepth 100000 in
set_option maxHeartbeats 4000000 in
theorem S_StackWord (v : Value) (xs : List Int) (w : World) (h : Rd w v (ints xs)) : Calls Tryd.prog 51 #[v] w (RetWord (wordOf xs) (shortB xs && canB xs) w) := by
  have HS0 := S_CanStackSort v xs w h
  obtain ⟨aT, n, cT, rfl, HN, hnc, hc⟩ := h.formN
  cases hcan : (shortB xs && canB xs)
  · rw [hcan] at HS0
    have HR : Hid (wordOf xs = []) := by rw [Hid, wordOf, hcan]; rfl
    have HS := Lib.hid HS0
    clear HS0 hcan
    go_enter Tryd.func51, Tryd.ntmps51
    go_wp2_with (go_at_call 108; refine HS.out.mono ?_; rintro e w1 ⟨rfl, hb1⟩)
    go_ret2
    exact ⟨by rw [HR.out]; rfl, hb1⟩
  · rw [hcan] at HS0
    have HR : Hid (wordOf xs = stkW xs) := by rw [Hid, wordOf, hcan]; rfl
    have h8 : n ≤ 8 := by have := (shortB_iff.1 (Bool.and_eq_true_iff.1 hcan).1).1; have := HN.out; omega
    have HS := Lib.hid HS0
    clear HS0 hcan
    go_enter Tryd.func51, Tryd.ntmps51
    go_upto_region 3 with (go_at_call 108; refine HS.out.mono ?_; rintro e w1 ⟨rfl, hb1⟩)
    have hA : Own (w1.alloc (.cells #[] 3)) 3 w.heap.size (.slice (some ⟨w1.heap.size, 0, none⟩) 0 0) (ints ([] : List Int).reverse) := Own.lit0 w1 3 hb1.size
    have hb0 : Below w.heap.size w (w1.alloc (.cells #[] 3)) := hb1.alloc hb1.size _
    have HA0 : Hid ((⟨#[]⟩ : ByteArray) = bstr []) := rfl
    clear hb1
    go_wp2
    go_loopg [4, 5, 14] n (fun g vw vs iv wr => ∃ (k : Nat) (O R : List Int) (W : List UInt8) (A : ByteArray), g = n - k ∧ k ≤ n ∧ iv = .int .i64 k ∧ vw = .string A ∧ Hid (A = bstr W) ∧ Hid (stkR xs k = (O, R, W)) ∧ Own wr 3 w.heap.size vs (ints R.reverse) ∧ Below w.heap.size w wr)
    case atStart => exact ⟨0, _, _, _, _, rfl, Nat.zero_le _, rfl, rfl, HA0, rfl, hA, hb0⟩
    case round =>
      clear hA hb0 HA0
      obtain ⟨k, O, R, W, A, hg, hk, rfl, rfl, HA, HK, ho, hb⟩ := hrel
      have HLK := Lib.hid (stkR_bd (by rw [← HN.out]; exact hk) HK.out)
      obtain ⟨aS, ms, cs, rfl, HMS, _, _⟩ := ho.rd.formN
      by_cases hlt : k < n
      · obtain ⟨ad, x, rfl, hcx, hx⟩ := (h.below hb).int (k := k) (by have := HN.out; omega)
        have i1 : (k : Int) < (n : Int) := by omega
        go_wp2
        clear hcx
        go_loopg [4, 5] R.length (fun g vw vs wr => ∃ (O2 R2 : List Int) (W2 : List UInt8) (A : ByteArray), g = R2.length ∧ vw = .string A ∧ Hid (A = bstr W2) ∧ Hid (popA x O2 R2 W2 = popA x O R W) ∧ Hid (O2.length + R2.length = k ∧ W2.length = k + O2.length) ∧ Own wr 3 w.heap.size vs (ints R2.reverse) ∧ Below w.heap.size w wr)
        case atStart => exact ⟨_, _, _, _, rfl, rfl, HA, rfl, HLK, ho, hb⟩
        case round =>
          clear ho hb HMS HA
          obtain ⟨O2, R2, W2, A, hg2, rfl, HA, HP, HL2, ho, hb⟩ := hrel
          obtain ⟨aS, ms, cs, rfl, HMS, hmcs, _⟩ := ho.rd.formN
          have hsb := hb.size
          have hms : ms ≤ 8 := by have := HMS.out; have := HL2.out; simp at *; omega
          have HLs : Hid ((ints R2.reverse).length = ms) := by rw [Hid, ints_length]; exact HMS.out.symm
          have hAs : A.size ≤ 16 := by rw [HA.out, bstr_size]; have := HL2.out; omega
          have q1 : ¬ 9223372036854775807 < A.size + 1 := by omega
          have q2 : ¬ 9223372036854775807 ≤ A.size := by omega
          have hcase : R2 = [] ∨ ∃ a r, R2 = a :: r := by cases R2 with | nil => exact .inl rfl | cons a r => exact .inr ⟨a, r, rfl⟩
          rcases hcase with rfl | ⟨a, r, rfl⟩
          · have hms0 : ms = 0 := by have := HMS.out; simpa using this
            subst hms0
            have HNX := Lib.hid (stk_of hx.out HK.out HP.out (popA_nil _ _ _))
            have d0 : decide (((0 : Nat) : Int) > 0) = false := rfl
            go_wp2_with (at_builtin; refine wpList_app1m rfl _ _ 22 rfl elI rfl ho (by show Value.slice (some ⟨wr.heap.size, 0, none⟩) 1 1 = _; simp) rfl hsb _ HLs.out (by omega) (by omega) ?_; intro b5 c5 w5 ho5 hg5 hat5)
            go_roundg (n - (k + 1))
            case measure => omega
            case rel => exact ⟨k + 1, _, _, _, _, rfl, by omega, by go_num, rfl, bstr_snoc HA.out 112, HNX, by rw [List.reverse_cons, ints_append]; exact ho5, hb.grown hg5 hsb (fun r hr => (ho.lt r hr).1)⟩
          · obtain ⟨ρ, hρ⟩ : ∃ ρ, r.length = ρ := ⟨_, rfl⟩
            have hmsρ : ms = ρ + 1 := by have := HMS.out; simp at this; omega
            subst hmsρ
            obtain ⟨ps, y, rfl, hcy, hy⟩ := ho.rd.int (k := ρ) (by simp; omega)
            have hya : y = a := by have := hy.out; rw [← hρ, rev_top] at this; injection this with this; exact this.symm
            subst hya
            have d0 : decide (((ρ + 1 : Nat) : Int) > 0) = true := by simp
            have d1 : (ρ : Int) < (ρ : Int) + 1 := by omega
            have d2 : (ρ : Int) ≤ (cs : Int) := by omega
            have d4 : (0 : Int) < (ρ : Int) + 1 := by omega
            by_cases hyx : y < x
            · have HP2 := Lib.hid ((popA_go hyx O2 r W2).symm.trans HP.out)
              have d3 : decide (y < x) = true := by simpa using hyx
              go_wp2
              go_roundg r.length
              case measure => simp at hg2; omega
              case rel => exact ⟨_, _, _, _, rfl, rfl, bstr_snoc HA.out 116, HP2, by have := HL2.out; rw [Hid]; simp at *; omega, own_pop ho (by omega) hρ.symm, hb⟩
            · have HNX := Lib.hid (stk_of hx.out HK.out HP.out (popA_stop hyx _ _ _))
              have d3 : decide (y < x) = false := by simpa using hyx
              go_wp2_with (at_builtin; refine wpList_app1m rfl _ _ 22 rfl elI rfl ho (by show Value.slice (some ⟨wr.heap.size, 0, none⟩) 1 1 = _; simp) rfl hsb _ HLs.out (by omega) (by omega) ?_; intro b5 c5 w5 ho5 hg5 hat5)
              go_roundg (n - (k + 1))
              case measure => omega
              case rel => exact ⟨k + 1, _, _, _, _, rfl, by omega, by go_num, rfl, bstr_snoc HA.out 112, HNX, by rw [List.reverse_cons (a := x), ints_append]; exact ho5, hb.grown hg5 hsb (fun r hr => (ho.lt r hr).1)⟩
      · obtain rfl : k = n := by omega
        have HFIN : Hid (stkW xs = W ++ List.replicate ms 116) := by
          rw [Hid, stkW, ← HN.out, HK.out, HMS.out]; simp
        have hms : ms ≤ 8 := by have := HMS.out; have := HLK.out; simp at *; omega
        have HLW : Hid (W.length ≤ 16) := by have := HLK.out; rw [Hid]; omega
        go_wp2
        go_loopg [4, 47] ms (fun g vw iv wx => ∃ (q : Nat) (A : ByteArray), g = ms - q ∧ q ≤ ms ∧ iv = .int .i64 q ∧ vw = .string A ∧ Hid (A = bstr (W ++ List.replicate q 116)) ∧ wr = wx)
        case atStart => exact ⟨0, _, rfl, Nat.zero_le _, rfl, rfl, by rw [Hid, List.replicate_zero, List.append_nil]; exact HA.out, rfl⟩
        case round =>
          clear HA
          obtain ⟨q, A, hgq, hq, rfl, rfl, HA, rfl⟩ := hrel
          by_cases hlq : q < ms
          · have hAs : A.size ≤ 30 := by rw [HA.out, bstr_size]; have := HLW.out; simp; omega
            have q1 : ¬ 9223372036854775807 < A.size + 1 := by omega
            have q2 : ¬ 9223372036854775807 ≤ A.size := by omega
            have i1 : (q : Int) < (ms : Int) := by omega
            have HA2 : Hid (A ++ (⟨#[116]⟩ : ByteArray) = bstr (W ++ List.replicate (q + 1) 116)) := by
              rw [Hid, bstr_snoc HA.out 116, List.replicate_succ', List.append_assoc]
            go_wp2
            go_roundg (ms - (q + 1))
            case measure => omega
            case rel => exact ⟨q + 1, _, rfl, by omega, by go_num, rfl, HA2, rfl⟩
          · obtain rfl : q = ms := by omega
            go_wp2
            go_ret2
            exact ⟨by rw [HR.out, HFIN.out, ← HA.out]; rfl, hb⟩

set_option maxHeartbeats 1000000 in
theorem S_StackRounds (v : Value) (xs : List Int) (w : World) (h : Rd w v (ints xs)) (hs : shortB xs = true) : Calls Tryd.prog 52 #[v] w (RetB (.int .i64 (rndN 9 xs : Nat)) w) := by
  have HS0 := s_l14Small v xs w h
  rw [hs] at HS0
  have HS := Lib.hid HS0
  have H0 : Hid (Rnd 0 xs) := Rnd.start (shortB_iff.1 hs).2.2 (shortB_iff.1 hs).1
  have HSH := Lib.hid hs
  clear HS0 hs
  go_enter Tryd.func52, Tryd.ntmps52
  go_wp2_with (go_at_call 50; refine HS.out.mono ?_; rintro e w1 ⟨rfl, hb1⟩)
  have h1 := h.below hb1
  go_loopg [3, 4] 9 (fun g vn iv wr => ∃ (k : Nat) (ys : List Int), g = 9 - k ∧ k ≤ 8 ∧ iv = .int .i64 k ∧ Rd wr vn (ints ys) ∧ Below w.heap.size w wr ∧ Hid (Rnd k ys) ∧ Hid (shortB ys = true) ∧ Hid (rndN 9 xs = k + rndN (9 - k) ys))
  case atStart => exact ⟨0, _, rfl, Nat.zero_le _, rfl, h1, hb1, H0, HSH, by rw [Hid, Nat.zero_add]⟩
  case round =>
    clear h1 hb1
    obtain ⟨k, ys, hg, hk, rfl, hr, hb, HRN, HSY, HE⟩ := hrel
    have hA := s_l03Rises _ ys wr hr
    cases hadj : adjB ys
    · rw [hadj] at hA
      have HAD := Lib.hid hA
      obtain ⟨hk8, hst⟩ := HRN.out.step hadj
      have HST := Lib.hid hst
      have HE2 : Hid (rndN 9 xs = (k + 1) + rndN (9 - (k + 1)) (stkS ys)) := by
        have := HE.out
        rw [show 9 - k = (9 - (k + 1)) + 1 by omega, rndN_no hadj] at this
        rw [Hid, this]; omega
      have HSP : Hid (shortB (stkS ys) = true) := shortB_perm (stkS_perm ys) HSY.out
      have HT := Lib.hid (fun (W : World) (hW : Dr wr W) => s_StackSort _ ys W (hr.dr hW) HSY.out)
      clear hA hadj hst HE HRN
      go_wp2_with (first
        | (go_at_call 109; refine HAD.out.mono ?_; rintro e w2 ⟨rfl, hd2⟩)
        | (go_at_call 110; refine (HT.out _ hd2).mono ?_; rintro e w3 ⟨v3, rfl, ho3, hb3⟩))
      have hb4 := hb.trans (((hd2.below _).trans (hb3.mono (hd2.below wr.heap.size).size)).mono hb.size)
      go_roundg (9 - (k + 1))
      case measure => omega
      case rel => exact ⟨k + 1, _, rfl, by omega, by go_num, ho3.rd, hb4, HST, HSP, HE2⟩
    · rw [hadj] at hA
      have HAD := Lib.hid hA
      have HE2 : Hid (rndN 9 xs = k) := by have := HE.out; rw [rndN_yes hadj] at this; exact this
      clear hA hadj
      go_wp2_with (go_at_call 109; refine HAD.out.mono ?_; rintro e w2 ⟨rfl, hd2⟩)
      go_ret
      exact ⟨by rw [HE2.out]; rfl, hb.trans ((hd2.below _).mono hb.size)⟩

end Go.Proofs.YtdagkgkllgpeeaaDoor
