/- Walks: what the program tells of buffers. -/
import Derived.Test.YtlbakbachcpifaaBuf3
namespace Go.Proofs.Ytlbakbachcpifaa
open Go.RowKit
set_option linter.unusedVariables false
set_option linter.unusedSimpArgs false

theorem runB_inv {xs : List Int} {k : Nat} {once : Bool} (hk : 1 ≤ k) : ∀ (f : Nat) (S : BS), BInv xs k S → BInv xs k (runB xs k once f S)
  | 0, S, h => h
  | f + 1, S, h => by
    rw [runB]
    split
    · rename_i hb
      exact runB_inv hk f _ (h.step hk hb)
    · exact h
theorem bOut_length {xs : List Int} {k : Nat} {once : Bool} (hk : 1 ≤ k) : (bOut xs k once).length ≤ xs.length := by
  have := runB_inv (once := once) hk (bmu xs bS0) bS0 (BInv.start xs k)
  have h1 := this.all
  have h2 := this.read
  show (runB xs k once (bmu xs bS0) bS0).out.length ≤ xs.length
  omega
theorem bTr_sz {xs : List Int} {k : Nat} {once : Bool} (hk : 1 ≤ k) : (bTr xs k once).length ≤ xs.length ∧ ∀ r ∈ bTr xs k once, r.length ≤ k := by
  have := runB_inv (once := once) hk (bmu xs bS0) bS0 (BInv.start xs k)
  have h1 := this.all
  have h2 := this.read
  have h3 := this.trs
  refine ⟨?_, this.rows⟩
  show (runB xs k once (bmu xs bS0) bS0).tr.length ≤ xs.length
  omega
def bufOk (xs : List Int) (k : Int) : Bool := decide (xs.length ≤ 24) && inB k 1 8
def bufSortM (once : Bool) (xs : List Int) (k : Int) : List Int := if bufOk xs k then bOut xs k.toNat once else []
def bufTr (xs : List Int) (k : Int) : List (List Int) := if bufOk xs k then bTr xs k.toNat false else []
def twoB (xs : List Int) (k m : Int) : List Int := if bufOk xs k && inB m 1 8 then bufSortM false (bufSortM false xs k) m else []
theorem bufOk_iff {xs : List Int} {k : Int} (h : bufOk xs k = true) : xs.length ≤ 24 ∧ ∃ K : Nat, k = K ∧ 1 ≤ K ∧ K ≤ 8 := by
  simp only [bufOk, Bool.and_eq_true, decide_eq_true_eq, inB_iff] at h
  exact ⟨h.1, k.toNat, by omega, by omega, by omega⟩
theorem bufSortM_length (once : Bool) (xs : List Int) (k : Int) : (bufSortM once xs k).length ≤ 24 := by
  unfold bufSortM
  split
  · rename_i h
    obtain ⟨h1, K, rfl, h2, _⟩ := bufOk_iff h
    have := bOut_length (xs := xs) (once := once) h2
    rw [Int.toNat_natCast]
    omega
  · simp
theorem N_BufferSort (xs : List Int) (_ : xs.length ≤ 1048576) (k : Int) : (bufSortM false xs k).length ≤ 2000000 := by have := bufSortM_length false xs k; omega
theorem N_DistinctBuffer (xs : List Int) (_ : xs.length ≤ 1048576) (k : Int) : (bufSortM true xs k).length ≤ 2000000 := by have := bufSortM_length true xs k; omega
theorem N_TwoBuffers (xs : List Int) (_ : xs.length ≤ 1048576) (k m : Int) : (twoB xs k m).length ≤ 2000000 := by
  unfold twoB
  split
  · have := bufSortM_length false (bufSortM false xs k) m; omega
  · simp
theorem tot_le_mul {xss : List (List Int)} {B : Nat} (h : ∀ xs ∈ xss, xs.length ≤ B) : tot xss ≤ xss.length * B := by
  induction xss with
  | nil => simp [tot]
  | cons x t ih =>
    have h1 := ih (fun xs hx => h xs (List.mem_cons_of_mem _ hx))
    have h2 := h x (List.mem_cons_self ..)
    simp only [tot, List.foldr_cons, List.length_cons] at *
    rw [Nat.add_mul]
    omega
theorem N_TraceBuffer (xs : List Int) (_ : xs.length ≤ 1048576) (k : Int) : SzOk (bufTr xs k) := by
  unfold bufTr
  split
  · rename_i h
    obtain ⟨h1, K, rfl, h2, h8⟩ := bufOk_iff h
    obtain ⟨h3, h4⟩ := bTr_sz (xs := xs) (once := false) h2
    rw [Int.toNat_natCast]
    have h5 := tot_le_mul (B := 8) (fun r hr => by have := h4 r hr; omega : ∀ r ∈ bTr xs K false, r.length ≤ 8)
    exact ⟨by omega, by omega⟩
  · exact ⟨by simp, by simp [tot]⟩
def needF (xs : List Int) : Nat → Int
  | 0 => -1
  | r + 1 => if adjB (bOut xs (8 - r) false) then ((8 - r : Nat) : Int) else needF xs r
def bufNeed (xs : List Int) : Int := if xs.length ≤ 24 then needF xs 8 else -1

set_option maxHeartbeats 400000 in
theorem i_isBuffered (v : Value) (xs : List Int) (k : Int) (w : World) (h : Rd w v (ints xs)) : Calls Try.prog 65 #[v, .int .i64 k] w fun e w' => e = .returned (.bool (bufOk xs k)) ∧ w = w' := by
  obtain ⟨a, m, c, rfl, HM, h2, h3⟩ := h.formN
  have HB : Hid (bufOk xs k = (decide (m ≤ 24) && inB k 1 8)) := by rw [Hid, HM.out]; rfl
  by_cases h1 : m ≤ 24
  · have d1 : decide ((m : Int) ≤ 24) = true := by simp; omega
    by_cases h4 : k ≥ 1
    · have d2 : decide (k ≥ 1) = true := by simpa using h4
      have HE : Hid (bufOk xs k = decide (k ≤ 8)) := by rw [Hid, HB.out, decide_eq_true h1, Bool.true_and, Bool.eq_iff_iff, inB_iff]; simp; omega
      go_enter Try.func65, Try.ntmps65
      go_wp2
      go_ret
      exact ⟨ret_bool HE.out.symm, rfl⟩
    · have d2 : decide (k ≥ 1) = false := by simpa using h4
      have HE : Hid (bufOk xs k = false) := by rw [Hid, HB.out, inB_no.2 (by omega), Bool.and_false]
      go_enter Try.func65, Try.ntmps65
      go_wp2
      go_ret
      exact ⟨ret_bool HE.out.symm, rfl⟩
  · have d1 : decide ((m : Int) ≤ 24) = false := by simp; omega
    have HE : Hid (bufOk xs k = false) := by rw [Hid, HB.out, decide_eq_false h1, Bool.false_and]
    go_enter Try.func65, Try.ntmps65
    go_wp2
    go_ret
    exact ⟨ret_bool HE.out.symm, rfl⟩

set_option maxHeartbeats 400000 in
theorem s_l25Ok (v : Value) (xs : List Int) (k : Int) (w : World) (h : Rd w v (ints xs)) : Calls Try.prog 66 #[v, .int .i64 k] w fun e w' => e = .returned (.bool (bufOk xs k)) ∧ w = w' := by
  obtain ⟨a, m, c, rfl, HM, h2, h3⟩ := h.formN
  have HB : Hid (bufOk xs k = (decide (m ≤ 24) && inB k 1 8)) := by rw [Hid, HM.out]; rfl
  by_cases h1 : m ≤ 24
  · have d1 : decide ((m : Int) ≤ 24) = true := by simp; omega
    have HE : Hid (bufOk xs k = inB k 1 8) := by rw [Hid, HB.out, decide_eq_true h1, Bool.true_and]
    go_enter Try.func66, Try.ntmps66
    go_wp2_with (go_at_call 69; refine (s_l01In _ _ _ _).mono ?_; rintro e w' ⟨rfl, rfl⟩)
    go_ret
    exact ⟨ret_bool HE.out.symm, rfl⟩
  · have d1 : decide ((m : Int) ≤ 24) = false := by simp; omega
    have HE : Hid (bufOk xs k = false) := by rw [Hid, HB.out, decide_eq_false h1, Bool.false_and]
    go_enter Try.func66, Try.ntmps66
    go_wp2
    go_ret
    exact ⟨ret_bool HE.out.symm, rfl⟩

set_option maxHeartbeats 400000 in
theorem I_BufferSort (w : World) (v : Value) (xs : List Int) (h : Rd w v (ints xs)) (_ : I64s xs) (_ : xs.length ≤ 1048576) (k : Int) (_ : I64 k) : Calls Try.prog 38 #[v, .int .i64 k] w (RetOwn 3 (ints (bufSortM false xs k)) w) := by
  have HO := i_isBuffered v xs k w h
  cases hk : bufOk xs k
  · rw [hk] at HO
    have HR : Hid (bufSortM false xs k = []) := by simp [bufSortM, hk, Hid]
    go_enter Try.func38, Try.ntmps38
    go_wp2_with (go_at_call 65; refine HO.mono ?_; rintro e w' ⟨rfl, rfl⟩)
    go_ret
    rw [HR.out]
    exact RetOwn.nil w _
  · rw [hk] at HO
    obtain ⟨hl, K, rfl, hK1, hK8⟩ := bufOk_iff hk
    have HR : Hid (bufSortM false xs (K : Int) = bOut xs K false) := by simp [bufSortM, hk, Hid]
    have HU := i_buffered v xs K false w h hl hK1 hK8
    clear hk
    go_enter Try.func38, Try.ntmps38
    go_wp2_with (first
      | (go_at_call 65; refine HO.mono ?_; rintro e w' ⟨rfl, rfl⟩)
      | (go_at_call 63; refine HU.mono ?_; rintro e w2 ⟨vo, vt, rfl, ho2, ht2, hb2⟩))
    go_ret
    rw [HR.out]
    exact ⟨_, rfl, ho2, hb2⟩

set_option maxHeartbeats 400000 in
theorem I_DistinctBuffer (w : World) (v : Value) (xs : List Int) (h : Rd w v (ints xs)) (_ : I64s xs) (_ : xs.length ≤ 1048576) (k : Int) (_ : I64 k) : Calls Try.prog 41 #[v, .int .i64 k] w (RetOwn 3 (ints (bufSortM true xs k)) w) := by
  have HO := i_isBuffered v xs k w h
  cases hk : bufOk xs k
  · rw [hk] at HO
    have HR : Hid (bufSortM true xs k = []) := by simp [bufSortM, hk, Hid]
    go_enter Try.func41, Try.ntmps41
    go_wp2_with (go_at_call 65; refine HO.mono ?_; rintro e w' ⟨rfl, rfl⟩)
    go_ret
    rw [HR.out]
    exact RetOwn.nil w _
  · rw [hk] at HO
    obtain ⟨hl, K, rfl, hK1, hK8⟩ := bufOk_iff hk
    have HR : Hid (bufSortM true xs (K : Int) = bOut xs K true) := by simp [bufSortM, hk, Hid]
    have HU := i_buffered v xs K true w h hl hK1 hK8
    clear hk
    go_enter Try.func41, Try.ntmps41
    go_wp2_with (first
      | (go_at_call 65; refine HO.mono ?_; rintro e w' ⟨rfl, rfl⟩)
      | (go_at_call 63; refine HU.mono ?_; rintro e w2 ⟨vo, vt, rfl, ho2, ht2, hb2⟩))
    go_ret
    rw [HR.out]
    exact ⟨_, rfl, ho2, hb2⟩

set_option maxHeartbeats 400000 in
theorem I_TraceBuffer (w : World) (v : Value) (xs : List Int) (h : Rd w v (ints xs)) (_ : I64s xs) (_ : xs.length ≤ 1048576) (k : Int) (_ : I64 k) : Calls Try.prog 39 #[v, .int .i64 k] w (RetOwn2 (bufTr xs k) w) := by
  have HO := i_isBuffered v xs k w h
  cases hk : bufOk xs k
  · rw [hk] at HO
    have HR : Hid (bufTr xs k = []) := by simp [bufTr, hk, Hid]
    go_enter Try.func39, Try.ntmps39
    go_wp2_with (go_at_call 65; refine HO.mono ?_; rintro e w' ⟨rfl, rfl⟩)
    go_ret
    rw [HR.out]
    exact RetOwn2.nil w
  · rw [hk] at HO
    obtain ⟨hl, K, rfl, hK1, hK8⟩ := bufOk_iff hk
    have HR : Hid (bufTr xs (K : Int) = bTr xs K false) := by simp [bufTr, hk, Hid]
    have HU := i_buffered v xs K false w h hl hK1 hK8
    clear hk
    go_enter Try.func39, Try.ntmps39
    go_wp2_with (first
      | (go_at_call 65; refine HO.mono ?_; rintro e w' ⟨rfl, rfl⟩)
      | (go_at_call 63; refine HU.mono ?_; rintro e w2 ⟨vo, vt, rfl, ho2, ht2, hb2⟩))
    go_ret
    rw [HR.out]
    exact ⟨_, rfl, ht2, hb2⟩

set_option maxHeartbeats 400000 in
theorem S_BufferSort (w : World) (v : Value) (xs : List Int) (h : Rd w v (ints xs)) (_ : I64s xs) (_ : xs.length ≤ 1048576) (k : Int) (_ : I64 k) : Calls Try.prog 43 #[v, .int .i64 k] w (RetOwn 3 (ints (bufSortM false xs k)) w) := by
  have HO := s_l25Ok v xs k w h
  cases hk : bufOk xs k
  · rw [hk] at HO
    have HR : Hid (bufSortM false xs k = []) := by simp [bufSortM, hk, Hid]
    go_enter Try.func43, Try.ntmps43
    go_wp2_with (go_at_call 66; refine HO.mono ?_; rintro e w' ⟨rfl, rfl⟩)
    go_ret
    rw [HR.out]
    exact RetOwn.nil w _
  · rw [hk] at HO
    obtain ⟨hl, K, rfl, hK1, hK8⟩ := bufOk_iff hk
    have HR : Hid (bufSortM false xs (K : Int) = bOut xs K false) := by simp [bufSortM, hk, Hid]
    have HU := s_l25Run v xs K false w h hl hK1 hK8
    clear hk
    go_enter Try.func43, Try.ntmps43
    go_wp2_with (first
      | (go_at_call 66; refine HO.mono ?_; rintro e w' ⟨rfl, rfl⟩)
      | (go_at_call 67; refine HU.mono ?_; rintro e w2 ⟨vo, vt, rfl, ho2, ht2, hb2⟩))
    go_ret
    rw [HR.out]
    exact ⟨_, rfl, ho2, hb2⟩

set_option maxHeartbeats 400000 in
theorem S_DistinctBuffer (w : World) (v : Value) (xs : List Int) (h : Rd w v (ints xs)) (_ : I64s xs) (_ : xs.length ≤ 1048576) (k : Int) (_ : I64 k) : Calls Try.prog 44 #[v, .int .i64 k] w (RetOwn 3 (ints (bufSortM true xs k)) w) := by
  have HO := s_l25Ok v xs k w h
  cases hk : bufOk xs k
  · rw [hk] at HO
    have HR : Hid (bufSortM true xs k = []) := by simp [bufSortM, hk, Hid]
    go_enter Try.func44, Try.ntmps44
    go_wp2_with (go_at_call 66; refine HO.mono ?_; rintro e w' ⟨rfl, rfl⟩)
    go_ret
    rw [HR.out]
    exact RetOwn.nil w _
  · rw [hk] at HO
    obtain ⟨hl, K, rfl, hK1, hK8⟩ := bufOk_iff hk
    have HR : Hid (bufSortM true xs (K : Int) = bOut xs K true) := by simp [bufSortM, hk, Hid]
    have HU := s_l25Run v xs K true w h hl hK1 hK8
    clear hk
    go_enter Try.func44, Try.ntmps44
    go_wp2_with (first
      | (go_at_call 66; refine HO.mono ?_; rintro e w' ⟨rfl, rfl⟩)
      | (go_at_call 67; refine HU.mono ?_; rintro e w2 ⟨vo, vt, rfl, ho2, ht2, hb2⟩))
    go_ret
    rw [HR.out]
    exact ⟨_, rfl, ho2, hb2⟩

set_option maxHeartbeats 400000 in
theorem S_TraceBuffer (w : World) (v : Value) (xs : List Int) (h : Rd w v (ints xs)) (_ : I64s xs) (_ : xs.length ≤ 1048576) (k : Int) (_ : I64 k) : Calls Try.prog 47 #[v, .int .i64 k] w (RetOwn2 (bufTr xs k) w) := by
  have HO := s_l25Ok v xs k w h
  cases hk : bufOk xs k
  · rw [hk] at HO
    have HR : Hid (bufTr xs k = []) := by simp [bufTr, hk, Hid]
    go_enter Try.func47, Try.ntmps47
    go_wp2_with (go_at_call 66; refine HO.mono ?_; rintro e w' ⟨rfl, rfl⟩)
    go_ret
    rw [HR.out]
    exact RetOwn2.nil w
  · rw [hk] at HO
    obtain ⟨hl, K, rfl, hK1, hK8⟩ := bufOk_iff hk
    have HR : Hid (bufTr xs (K : Int) = bTr xs K false) := by simp [bufTr, hk, Hid]
    have HU := s_l25Run v xs K false w h hl hK1 hK8
    clear hk
    go_enter Try.func47, Try.ntmps47
    go_wp2_with (first
      | (go_at_call 66; refine HO.mono ?_; rintro e w' ⟨rfl, rfl⟩)
      | (go_at_call 67; refine HU.mono ?_; rintro e w2 ⟨vo, vt, rfl, ho2, ht2, hb2⟩))
    go_ret
    rw [HR.out]
    exact ⟨_, rfl, ht2, hb2⟩

end Go.Proofs.Ytlbakbachcpifaa
