/- Walks: two buffers, and the room that is needed. -/
import Derived.Test.YtlbakbachcpifaaBufC
namespace Go.Proofs.Ytlbakbachcpifaa
open Go.RowKit
set_option linter.unusedVariables false
set_option linter.unusedSimpArgs false

theorem needF_yes {xs : List Int} {r k : Nat} (hk : 8 - r = k) (h : adjB (bOut xs k false) = true) : needF xs (r + 1) = (k : Int) := by
  rw [needF, hk, if_pos h]
theorem needF_no {xs : List Int} {r k : Nat} (hk : 8 - r = k) (h : adjB (bOut xs k false) = false) : needF xs (r + 1) = needF xs r := by
  rw [needF, hk, if_neg (by rw [h]; simp)]

theorem insR_all {p : Int → Prop} {s : List Int} {x : Int} (hs : ∀ y ∈ s, p y) (hx : p x) : ∀ y ∈ insR s x, p y := fun y hy => by
  rcases (insR_mem s x y).1 hy with rfl | h
  · exact hx
  · exact hs y h
structure BAll (p : Int → Prop) (S : BS) : Prop where
  b : ∀ y ∈ S.b, p y
  out : ∀ y ∈ S.out, p y
theorem bstep_all {p : Int → Prop} {xs : List Int} {k : Nat} {once : Bool} {S : BS} (hp : ∀ y ∈ xs, p y) (hk : 1 ≤ k) (hb : busy xs S) (h : BAll p S) : BAll p (bstep xs k once S) := by
  unfold bstep
  by_cases hc : S.b.length < k ∧ S.next < xs.length
  · rw [if_pos hc]
    refine ⟨fun y hy => ?_, h.out⟩
    dsimp only [bput] at hy
    split at hy
    · exact h.b y hy
    · rw [srt_mem, List.mem_append, List.mem_singleton] at hy
      rcases hy with hy | hy
      · exact h.b y hy
      · subst hy
        rw [List.getD_eq_getElem?_getD, List.getElem?_eq_getElem hc.2]
        exact hp _ (List.getElem_mem _)
  · rw [if_neg hc]
    refine ⟨fun y hy => h.b y (List.mem_of_mem_tail hy), fun y hy => ?_⟩
    rcases List.mem_append.1 hy with hy | hy
    · exact h.out y hy
    · rw [List.mem_singleton] at hy
      subst hy
      match hS : S.b with
      | [] => unfold busy at hb; rw [hS] at hc hb; simp at hc hb; omega
      | z :: t => rw [List.headD_cons]; exact h.b z (by rw [hS]; exact List.mem_cons_self ..)
theorem runB_all {p : Int → Prop} {xs : List Int} {k : Nat} {once : Bool} (hp : ∀ y ∈ xs, p y) (hk : 1 ≤ k) : ∀ (f : Nat) (S : BS), BAll p S → BAll p (runB xs k once f S)
  | 0, S, h => h
  | f + 1, S, h => by
    rw [runB]
    split
    · rename_i hb
      exact runB_all hp hk f _ (bstep_all hp hk hb h)
    · exact h
theorem bufSort_i64 {once : Bool} {xs : List Int} (fx : I64s xs) (k : Int) : I64s (bufSortM once xs k) := by
  unfold bufSortM
  split
  · rename_i h
    obtain ⟨_, K, rfl, h2, _⟩ := bufOk_iff h
    rw [Int.toNat_natCast]
    exact (runB_all (p := I64) (once := once) fx h2 (bmu xs bS0) bS0 ⟨fun y hy => by simp [bS0] at hy, fun y hy => by simp [bS0] at hy⟩).out
  · intro x hx
    cases hx

set_option maxRecDepth 100000 in
set_option maxHeartbeats 1000000 in
theorem I_TwoBuffers (w : World) (v : Value) (xs : List Int) (h : Rd w v (ints xs)) (fx : I64s xs) (lx : xs.length ≤ 1048576) (k : Int) (ik : I64 k) (m : Int) (im : I64 m) : Calls Try.prog 40 #[v, .int .i64 k, .int .i64 m] w (RetOwn 3 (ints (twoB xs k m)) w) := by
  have HO := i_isBuffered v xs k w h
  cases hk : bufOk xs k
  · rw [hk] at HO
    have HR : Hid (twoB xs k m = []) := by simp [twoB, hk, Hid]
    go_enter Try.func40, Try.ntmps40
    go_wp2_with (go_at_call 65; (with_reducible refine HO.mono ?_); rintro e w' ⟨rfl, rfl⟩)
    go_ret
    rw [HR.out]
    exact RetOwn.nil w _
  rw [hk] at HO
  have HO2 := i_isBuffered v xs m w h
  have HB2 : Hid (bufOk xs m = inB m 1 8) := by
    have := (bufOk_iff hk).1
    rw [Hid, bufOk, decide_eq_true this, Bool.true_and]
  rw [HB2.out] at HO2
  cases hm : inB m 1 8
  · rw [hm] at HO2
    have HR : Hid (twoB xs k m = []) := by simp [twoB, hm, Hid]
    go_enter Try.func40, Try.ntmps40
    go_wp2_with (first
      | (go_at_call 65; (with_reducible refine HO.mono ?_); rintro e w' ⟨rfl, rfl⟩)
      | (go_at_call 65; (with_reducible refine HO2.mono ?_); rintro e w' ⟨rfl, rfl⟩))
    go_ret
    rw [HR.out]
    exact RetOwn.nil w _
  · rw [hm] at HO2
    have HR : Hid (twoB xs k m = bufSortM false (bufSortM false xs k) m) := by simp [twoB, hk, hm, Hid]
    have H1 := I_BufferSort w v xs h fx lx k ik
    have hl1 := bufSortM_length false xs k
    have f1 : I64s (bufSortM false xs k) := bufSort_i64 fx k
    obtain ⟨ys, hys⟩ : ∃ ys, bufSortM false xs k = ys := ⟨_, rfl⟩
    rw [hys] at H1 hl1 f1 HR
    clear hk hm hys
    have H2 := Lib.hid (fun (v2 : Value) (wx : World) (h2 : Rd wx v2 (ints ys)) => I_BufferSort wx v2 ys h2 f1 (by omega) m im)
    go_enter Try.func40, Try.ntmps40
    go_wp2_with (first
      | (go_at_call 65; (with_reducible refine HO.mono ?_); rintro e w' ⟨rfl, rfl⟩)
      | (go_at_call 65; (with_reducible refine HO2.mono ?_); rintro e w' ⟨rfl, rfl⟩)
      | (go_at_call 38; (with_reducible refine H1.mono ?_); rintro e w2 ⟨v2, rfl, ho2, hb2⟩)
      | (go_at_call 38; (with_reducible refine (H2.out _ _ ho2.rd).mono ?_); rintro e w3 ⟨v3, rfl, ho3, hb3⟩))
    go_ret
    rw [HR.out]
    exact ⟨_, rfl, ho3.mono hb2.size, hb2.trans (hb3.mono hb2.size)⟩

set_option maxRecDepth 100000 in
set_option maxHeartbeats 1000000 in
theorem S_TwoBuffers (w : World) (v : Value) (xs : List Int) (h : Rd w v (ints xs)) (fx : I64s xs) (lx : xs.length ≤ 1048576) (k : Int) (ik : I64 k) (m : Int) (im : I64 m) : Calls Try.prog 46 #[v, .int .i64 k, .int .i64 m] w (RetOwn 3 (ints (twoB xs k m)) w) := by
  have HO := s_l25Ok v xs k w h
  cases hk : bufOk xs k
  · rw [hk] at HO
    have HR : Hid (twoB xs k m = []) := by simp [twoB, hk, Hid]
    go_enter Try.func46, Try.ntmps46
    go_wp2_with (go_at_call 66; (with_reducible refine HO.mono ?_); rintro e w' ⟨rfl, rfl⟩)
    go_ret
    rw [HR.out]
    exact RetOwn.nil w _
  rw [hk] at HO
  have HO2 := s_l01In m 1 8 w
  cases hm : inB m 1 8
  · rw [hm] at HO2
    have HR : Hid (twoB xs k m = []) := by simp [twoB, hm, Hid]
    go_enter Try.func46, Try.ntmps46
    go_wp2_with (first
      | (go_at_call 66; (with_reducible refine HO.mono ?_); rintro e w' ⟨rfl, rfl⟩)
      | (go_at_call 69; (with_reducible refine HO2.mono ?_); rintro e w' ⟨rfl, rfl⟩))
    go_ret
    rw [HR.out]
    exact RetOwn.nil w _
  · rw [hm] at HO2
    have HR : Hid (twoB xs k m = bufSortM false (bufSortM false xs k) m) := by simp [twoB, hk, hm, Hid]
    have H1 := S_BufferSort w v xs h fx lx k ik
    have hl1 := bufSortM_length false xs k
    have f1 : I64s (bufSortM false xs k) := bufSort_i64 fx k
    obtain ⟨ys, hys⟩ : ∃ ys, bufSortM false xs k = ys := ⟨_, rfl⟩
    rw [hys] at H1 hl1 f1 HR
    clear hk hm hys
    have H2 := Lib.hid (fun (v2 : Value) (wx : World) (h2 : Rd wx v2 (ints ys)) => S_BufferSort wx v2 ys h2 f1 (by omega) m im)
    go_enter Try.func46, Try.ntmps46
    go_wp2_with (first
      | (go_at_call 66; (with_reducible refine HO.mono ?_); rintro e w' ⟨rfl, rfl⟩)
      | (go_at_call 69; (with_reducible refine HO2.mono ?_); rintro e w' ⟨rfl, rfl⟩)
      | (go_at_call 43; (with_reducible refine H1.mono ?_); rintro e w2 ⟨v2, rfl, ho2, hb2⟩)
      | (go_at_call 43; (with_reducible refine (H2.out _ _ ho2.rd).mono ?_); rintro e w3 ⟨v3, rfl, ho3, hb3⟩))
    go_ret
    rw [HR.out]
    exact ⟨_, rfl, ho3.mono hb2.size, hb2.trans (hb3.mono hb2.size)⟩

set_option maxHeartbeats 1000000 in
theorem I_BufferNeeded (w : World) (v : Value) (xs : List Int) (h : Rd w v (ints xs)) (fx : I64s xs) (lx : xs.length ≤ 1048576) : Calls Try.prog 37 #[v] w (RetB (.int .i64 (bufNeed xs)) w) := by
  obtain ⟨a, m, c, rfl, HM, h2, h3⟩ := h.formN
  by_cases hm : m ≤ 24
  · have hm' : ¬ 24 < m := by omega
    have hl : xs.length ≤ 24 := by have := HM.out; omega
    have HR : Hid (bufNeed xs = needF xs 8) := by rw [Hid, bufNeed, if_pos hl]
    go_enter Try.func37, Try.ntmps37
    go_wp2
    go_loopw [3] (fun i wr => ∃ k : Nat, 1 ≤ k ∧ k ≤ 9 ∧ i = .int .i64 k ∧ Hid (needF xs 8 = needF xs (9 - k)) ∧ Below w.heap.size w wr) (fun i _ => 10 - (intOf i).toNat)
    case atStart => exact ⟨1, Nat.le_refl _, by omega, rfl, rfl, Below.refl _ _⟩
    case round =>
      obtain ⟨k, hk1, hk9, rfl, HF, hb⟩ := hrel
      by_cases hk8 : k ≤ 8
      · have i1 : (k : Int) ≤ 8 := by omega
        have HU := i_buffered _ xs k false wr (h.below hb) hl hk1 hk8
        have hz := hb.size
        have e9 : 9 - k = (8 - k) + 1 := by omega
        rw [e9] at HF
        cases hs : adjB (bOut xs k false)
        · have HN : Hid (needF xs 8 = needF xs (9 - (k + 1))) := by rw [Hid, HF.out, needF_no (by omega) hs]; congr 1; omega
          have HQ := Lib.hid (fun (v2 : Value) (wx : World) (h2 : Rd wx v2 (ints (bOut xs k false))) => f_IsSorted v2 _ wx h2)
          rw [hs] at HQ
          clear hs e9 HF
          go_wp2_with (first
            | (go_at_call 63; refine HU.mono ?_; rintro e w2 ⟨vo, vt, rfl, ho2, ht2, hb2⟩)
            | (go_at_call 64; refine (HQ.out _ _ ho2.rd).mono ?_; rintro e w3 ⟨rfl, hd3⟩))
          go_roundw
          case rel => exact ⟨k + 1, by omega, by omega, by go_num, HN, (hb.trans (hb2.mono hz)).trans (hd3.below _ |>.mono (by have := hb2.size; omega))⟩
          case measure => simp [intOf]; omega
        · have HN : Hid (bufNeed xs = (k : Int)) := by rw [Hid, HR.out, HF.out, needF_yes (by omega) hs]
          have HQ := Lib.hid (fun (v2 : Value) (wx : World) (h2 : Rd wx v2 (ints (bOut xs k false))) => f_IsSorted v2 _ wx h2)
          rw [hs] at HQ
          clear hs e9 HF
          go_wp2_with (first
            | (go_at_call 63; refine HU.mono ?_; rintro e w2 ⟨vo, vt, rfl, ho2, ht2, hb2⟩)
            | (go_at_call 64; refine (HQ.out _ _ ho2.rd).mono ?_; rintro e w3 ⟨rfl, hd3⟩))
          go_ret
          exact ⟨ret_int HN.out.symm, (hb.trans (hb2.mono hz)).trans (hd3.below _ |>.mono (by have := hb2.size; omega))⟩
      · obtain rfl : k = 9 := by omega
        have HN : Hid (bufNeed xs = -1) := by rw [Hid, HR.out, HF.out]; rfl
        go_wp2
        go_ret
        exact ⟨ret_int HN.out.symm, hb⟩
  · have hm' : 24 < m := by omega
    have HN : Hid (bufNeed xs = -1) := by rw [Hid, bufNeed, if_neg (by have := HM.out; omega)]
    go_enter Try.func37, Try.ntmps37
    go_wp2
    go_ret
    exact ⟨ret_int HN.out.symm, Below.refl _ _⟩

set_option maxHeartbeats 1000000 in
theorem S_BufferNeeded (w : World) (v : Value) (xs : List Int) (h : Rd w v (ints xs)) (fx : I64s xs) (lx : xs.length ≤ 1048576) : Calls Try.prog 45 #[v] w (RetB (.int .i64 (bufNeed xs)) w) := by
  obtain ⟨a, m, c, rfl, HM, h2, h3⟩ := h.formN
  by_cases hm : m ≤ 24
  · have hm' : ¬ 24 < m := by omega
    have hl : xs.length ≤ 24 := by have := HM.out; omega
    have HR : Hid (bufNeed xs = needF xs 8) := by rw [Hid, bufNeed, if_pos hl]
    go_enter Try.func45, Try.ntmps45
    go_wp2
    go_loopw [3] (fun i wr => ∃ k : Nat, 1 ≤ k ∧ k ≤ 9 ∧ i = .int .i64 k ∧ Hid (needF xs 8 = needF xs (9 - k)) ∧ Below w.heap.size w wr) (fun i _ => 10 - (intOf i).toNat)
    case atStart => exact ⟨1, Nat.le_refl _, by omega, rfl, rfl, Below.refl _ _⟩
    case round =>
      obtain ⟨k, hk1, hk9, rfl, HF, hb⟩ := hrel
      by_cases hk8 : k ≤ 8
      · have i1 : (k : Int) ≤ 8 := by omega
        have HU := s_l25Run _ xs k false wr (h.below hb) hl hk1 hk8
        have hz := hb.size
        have e9 : 9 - k = (8 - k) + 1 := by omega
        rw [e9] at HF
        cases hs : adjB (bOut xs k false)
        · have HN : Hid (needF xs 8 = needF xs (9 - (k + 1))) := by rw [Hid, HF.out, needF_no (by omega) hs]; congr 1; omega
          have HQ := Lib.hid (fun (v2 : Value) (wx : World) (h2 : Rd wx v2 (ints (bOut xs k false))) => s_l03Rises v2 _ wx h2)
          rw [hs] at HQ
          clear hs e9 HF
          go_wp2_with (first
            | (go_at_call 67; refine HU.mono ?_; rintro e w2 ⟨vo, vt, rfl, ho2, ht2, hb2⟩)
            | (go_at_call 68; refine (HQ.out _ _ ho2.rd).mono ?_; rintro e w3 ⟨rfl, hd3⟩))
          go_roundw
          case rel => exact ⟨k + 1, by omega, by omega, by go_num, HN, (hb.trans (hb2.mono hz)).trans (hd3.below _ |>.mono (by have := hb2.size; omega))⟩
          case measure => simp [intOf]; omega
        · have HN : Hid (bufNeed xs = (k : Int)) := by rw [Hid, HR.out, HF.out, needF_yes (by omega) hs]
          have HQ := Lib.hid (fun (v2 : Value) (wx : World) (h2 : Rd wx v2 (ints (bOut xs k false))) => s_l03Rises v2 _ wx h2)
          rw [hs] at HQ
          clear hs e9 HF
          go_wp2_with (first
            | (go_at_call 67; refine HU.mono ?_; rintro e w2 ⟨vo, vt, rfl, ho2, ht2, hb2⟩)
            | (go_at_call 68; refine (HQ.out _ _ ho2.rd).mono ?_; rintro e w3 ⟨rfl, hd3⟩))
          go_ret
          exact ⟨ret_int HN.out.symm, (hb.trans (hb2.mono hz)).trans (hd3.below _ |>.mono (by have := hb2.size; omega))⟩
      · obtain rfl : k = 9 := by omega
        have HN : Hid (bufNeed xs = -1) := by rw [Hid, HR.out, HF.out]; rfl
        go_wp2
        go_ret
        exact ⟨ret_int HN.out.symm, hb⟩
  · have hm' : 24 < m := by omega
    have HN : Hid (bufNeed xs = -1) := by rw [Hid, bufNeed, if_neg (by have := HM.out; omega)]
    go_enter Try.func45, Try.ntmps45
    go_wp2
    go_ret
    exact ⟨ret_int HN.out.symm, Below.refl _ _⟩

end Go.Proofs.Ytlbakbachcpifaa
