/- Plain laws: records that arrive late; no program in sight. -/
import Derived.Test.YtdagkgkllgpeeaaDoorPlainMerge2
namespace Go.Proofs.YtdagkgkllgpeeaaDoor
set_option linter.unusedVariables false
set_option linter.unusedSimpArgs false

def ltK (T : List Int) (e : Int) : Int := T.getD e.toNat 0
def setAll (d q : List Int) (at_ : Int) : List Int := q.foldl (fun d x => d.set x.toNat (at_ - x)) d
theorem setAll_length (q : List Int) (at_ : Int) : ∀ d : List Int, (setAll d q at_).length = d.length := by
  induction q with
  | nil => intro d; rfl
  | cons x t ih => intro d; rw [setAll, List.foldl_cons]; exact (ih _).trans (by simp)
theorem setAll_snoc (d q : List Int) (x at_ : Int) : setAll d (q ++ [x]) at_ = (setAll d q at_).set x.toNat (at_ - x) := by simp [setAll]
theorem setAll_nil (d : List Int) (at_ : Int) : setAll d [] at_ = d := rfl
structure LS where
  w : List Int
  out : List Int
  late : List Int
  del : List Int
  marks : List Int
  most : Int
  mark : Int
def due (T : List Int) (mk : Int) (x : Int) : Bool := decide (ltK T x ≤ mk)
/-- The waiting ones, in order, when record i has come. -/
def lq (T : List Int) (L : LS) (i : Nat) : List Int := if T.getD i 0 < L.mark then L.w else srtS (ltK T) (L.w ++ [(i : Int)])
def lmk (T : List Int) (s : Int) (L : LS) (i : Nat) : Int := max L.mark (T.getD i 0 - s)
def lstep (T : List Int) (s : Int) (L : LS) (i : Nat) : LS where
  w := (lq T L i).filter fun x => !due T (lmk T s L i) x
  out := L.out ++ (lq T L i).filter (due T (lmk T s L i))
  late := if T.getD i 0 < L.mark then L.late ++ [(i : Int)] else L.late
  del := setAll (if T.getD i 0 < L.mark then L.del.set i (-1) else L.del) ((lq T L i).filter (due T (lmk T s L i))) (i : Int)
  marks := L.marks ++ [lmk T s L i]
  most := max L.most (((lq T L i).filter fun x => !due T (lmk T s L i) x).length : Int)
  mark := lmk T s L i
def lS0 (n : Nat) : LS := ⟨[], [], [], List.replicate n 0, [], 0, -1001⟩
def lrun (T : List Int) (s : Int) : Nat → LS
  | 0 => lS0 T.length
  | k + 1 => lstep T s (lrun T s k) k
/-- What holds all along. -/
structure LInv (T : List Int) (s : Int) (k : Nat) (L : LS) : Prop where
  asc : KAsc (ltK T) L.w
  wlt : ∀ x ∈ L.w, ∃ j : Nat, j < k ∧ x = j
  olt : ∀ x ∈ L.out, ∃ j : Nat, j < k ∧ x = j
  llt : ∀ x ∈ L.late, ∃ j : Nat, j < k ∧ x = j
  len : L.w.length + L.out.length + L.late.length = k
  del : L.del.length = T.length
  marks : L.marks.length = k
  most0 : 0 ≤ L.most ∧ L.most ≤ (k : Int)
  mkb : -1001 ≤ L.mark ∧ L.mark ≤ 1000
theorem asc_filter {key : Int → Int} {xs : List Int} (h : KAsc key xs) (p : Int → Bool) : KAsc key (xs.filter p) := h.sublist List.filter_sublist
theorem filter_len2 (p : Int → Bool) (xs : List Int) : (xs.filter fun x => !p x).length + (xs.filter p).length = xs.length := by
  induction xs with
  | nil => rfl
  | cons x t ih =>
    cases h : p x
    · simp [h]; omega
    · simp [h]; omega
theorem lq_facts {T : List Int} {s : Int} {k : Nat} {L : LS} (H : LInv T s k L) : KAsc (ltK T) (lq T L k) ∧ (∀ x ∈ lq T L k, ∃ j : Nat, j < k + 1 ∧ x = j) ∧ (lq T L k).length = L.w.length + (if T.getD k 0 < L.mark then 0 else 1) := by
  unfold lq
  split
  · exact ⟨H.asc, fun x hx => by obtain ⟨j, h1, h2⟩ := H.wlt x hx; exact ⟨j, by omega, h2⟩, rfl⟩
  · refine ⟨srtS_asc _, fun x hx => ?_, by rw [srtS_length]; simp⟩
    rw [srtS_mem, List.mem_append, List.mem_singleton] at hx
    rcases hx with hx | rfl
    · obtain ⟨j, h1, h2⟩ := H.wlt x hx; exact ⟨j, by omega, h2⟩
    · exact ⟨k, by omega, rfl⟩
theorem LInv.start (T : List Int) (s : Int) : LInv T s 0 (lS0 T.length) :=
  ⟨List.Pairwise.nil, fun x h => by simp [lS0] at h, fun x h => by simp [lS0] at h, fun x h => by simp [lS0] at h, by simp [lS0], by simp [lS0], by simp [lS0], by simp [lS0], by simp [lS0]⟩
theorem LInv.step {T : List Int} {s : Int} (hT : ∀ t ∈ T, 0 ≤ t ∧ t ≤ 1000) (hs : 0 ≤ s ∧ s ≤ 1000) {k : Nat} {L : LS} (hk : k < T.length) (H : LInv T s k L) : LInv T s (k + 1) (lstep T s L k) := by
  obtain ⟨h1, h2, h3⟩ := lq_facts H
  have hl := filter_len2 (due T (lmk T s L k)) (lq T L k)
  have ht : 0 ≤ T.getD k 0 ∧ T.getD k 0 ≤ 1000 := by
    rw [List.getD_eq_getElem?_getD, List.getElem?_eq_getElem hk]
    exact hT _ (List.getElem_mem _)
  have hm := H.mkb
  have hmk : -1001 ≤ lmk T s L k ∧ lmk T s L k ≤ 1000 := by unfold lmk; omega
  have hlen := H.len
  have hm0 := H.most0
  refine ⟨asc_filter h1 _, fun x hx => h2 x (List.mem_filter.1 hx).1, fun x hx => ?_, fun x hx => ?_, ?_, ?_, ?_, ?_, hmk⟩
  · rcases List.mem_append.1 hx with hx | hx
    · obtain ⟨j, a, b⟩ := H.olt x hx; exact ⟨j, by omega, b⟩
    · exact h2 x (List.mem_filter.1 hx).1
  · by_cases hlt : T.getD k 0 < L.mark
    · rw [show (lstep T s L k).late = L.late ++ [(k : Int)] from if_pos hlt] at hx
      rcases List.mem_append.1 hx with hx | hx
      · obtain ⟨j, a, b⟩ := H.llt x hx; exact ⟨j, by omega, b⟩
      · rw [List.mem_singleton] at hx; exact ⟨k, by omega, hx⟩
    · rw [show (lstep T s L k).late = L.late from if_neg hlt] at hx
      obtain ⟨j, a, b⟩ := H.llt x hx; exact ⟨j, by omega, b⟩
  · simp only [lstep, List.length_append]
    by_cases hlt : T.getD k 0 < L.mark
    · rw [if_pos hlt] at h3 ⊢
      simp only [List.length_append, List.length_singleton]
      omega
    · rw [if_neg hlt] at h3 ⊢
      omega
  · simp only [lstep]
    rw [setAll_length]
    split
    · rw [List.length_set]; exact H.del
    · exact H.del
  · simp [lstep, H.marks]
  · simp only [lstep]
    have : ((lq T L k).filter fun x => !due T (lmk T s L k) x).length ≤ k + 1 := by
      split at h3 <;> omega
    omega
theorem lrun_inv {T : List Int} {s : Int} (hT : ∀ t ∈ T, 0 ≤ t ∧ t ≤ 1000) (hs : 0 ≤ s ∧ s ≤ 1000) : ∀ k, k ≤ T.length → LInv T s k (lrun T s k)
  | 0, _ => LInv.start T s
  | k + 1, h => (lrun_inv hT hs k (by omega)).step hT hs (by omega)
/-- Of a sorted list those that are due are a front. -/
theorem due_cut {T W : List Int} {mk : Int} (h : KAsc (ltK T) W) (n : Nat) (hn : n ≤ W.length) (h1 : ∀ (j : Nat) x, j < n → W[j]? = some x → ltK T x ≤ mk) (h2 : n = W.length ∨ ∃ x, W[n]? = some x ∧ mk < ltK T x) :
    W.filter (due T mk) = W.take n ∧ (W.filter fun x => !due T mk x) = W.drop n := by
  have e1 : ∀ x ∈ W.take n, due T mk x = true := fun x hx => by
    obtain ⟨i, hi, hxi⟩ := mem_take_get hx
    exact decide_eq_true (h1 i x hi hxi)
  have e2 : ∀ x ∈ W.drop n, due T mk x = false := fun x hx => by
    obtain ⟨i, hi, hxi⟩ := mem_drop_get hx
    have hil := (List.getElem?_eq_some_iff.1 hxi).1
    rcases h2 with h2 | ⟨y, hy, hlt⟩
    · omega
    · have := asc_get h hy hxi hi
      exact decide_eq_false (by omega)
  constructor
  · conv => lhs; rw [← List.take_append_drop n W]
    rw [List.filter_append, List.filter_eq_self.2 e1, List.filter_eq_nil_iff.2 (fun x hx => by rw [e2 x hx]; simp), List.append_nil]
  · conv => lhs; rw [← List.take_append_drop n W]
    rw [List.filter_append, List.filter_eq_nil_iff.2 (fun x hx => by rw [e1 x hx]; simp), List.filter_eq_self.2 (fun x hx => by rw [e2 x hx]; rfl), List.nil_append]
/-- What comes of it in the end. -/
def lateOut (T : List Int) (s : Int) : List Int := (lrun T s T.length).out ++ (lrun T s T.length).w
def lateLate (T : List Int) (s : Int) : List Int := (lrun T s T.length).late
def lateDel (T : List Int) (s : Int) : List Int := setAll (lrun T s T.length).del (lrun T s T.length).w ((T.length : Int) - 1)
def lateMost (T : List Int) (s : Int) : Int := (lrun T s T.length).most
def lateMarks (T : List Int) (s : Int) : List Int := (lrun T s T.length).marks
def timesOk (T : List Int) : Bool := decide (T.length ≤ 30) && T.all fun t => decide (0 ≤ t) && decide (t ≤ 1000)
theorem timesOk_iff {T : List Int} : timesOk T = true ↔ T.length ≤ 30 ∧ ∀ t ∈ T, 0 ≤ t ∧ t ≤ 1000 := by
  simp only [timesOk, Bool.and_eq_true, decide_eq_true_eq, List.all_eq_true]
def lateOkB (T : List Int) (s : Int) : Bool := timesOk T && (decide (0 ≤ s) && decide (s ≤ 1000))
theorem lateOkB_iff {T : List Int} {s : Int} : lateOkB T s = true ↔ (T.length ≤ 30 ∧ ∀ t ∈ T, 0 ≤ t ∧ t ≤ 1000) ∧ 0 ≤ s ∧ s ≤ 1000 := by
  simp only [lateOkB, Bool.and_eq_true, timesOk_iff, decide_eq_true_eq]

end Go.Proofs.YtdagkgkllgpeeaaDoor
