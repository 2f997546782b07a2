/- Late records: what goes out is in order, and nothing is too late exactly if the slack suffices: no program in sight. -/
import Derived.Test.YtdagkgkllgpeeaaDoorPlainLate
import Derived.Test.YtdagkgkllgpeeaaDoorPlainTree
import Derived.Test.YtdagkgkllgpeeaaDoorPlainPerm
namespace Go.Proofs.YtdagkgkllgpeeaaDoor
set_option linter.unusedVariables false
set_option linter.unusedSimpArgs false

theorem insK_perm (key : Int → Int) (s : List Int) (x : Int) : (insK key s x).Perm (x :: s) := by
  induction s with
  | nil => exact List.Perm.refl _
  | cons y t ih =>
    simp only [insK]
    split
    · exact (List.Perm.cons y ih).trans (List.Perm.swap x y t)
    · exact List.Perm.refl _
theorem sortK_perm (key : Int → Int) (xs : List Int) : ∀ s : List Int, (xs.foldl (insK key) s).Perm (xs ++ s) := by
  induction xs with
  | nil => intro s; exact List.Perm.refl _
  | cons x t ih =>
    intro s
    rw [List.foldl_cons]
    refine (ih _).trans ?_
    refine ((insK_perm key s x).append_left t).trans ?_
    exact List.perm_middle
theorem srtS_perm (key : Int → Int) (xs : List Int) : (srtS key xs).Perm xs := by
  have := sortK_perm key xs []
  rw [List.append_nil] at this
  exact (List.reverse_perm _).trans this
theorem setAll_get (q : List Int) (at_ : Int) : ∀ (d : List Int) (i : Nat), i < d.length → (∀ x ∈ q, 0 ≤ x) → (setAll d q at_)[i]? = if (i : Int) ∈ q then some (at_ - (i : Int)) else d[i]? := by
  induction q with
  | nil => intro d i _ _; simp [setAll]
  | cons x t ih =>
    intro d i hi hx
    have h0 := hx x (by simp)
    have := ih (d.set x.toNat (at_ - x)) i (by simpa using hi) (fun y hy => hx y (by simp [hy]))
    rw [setAll] at this
    rw [setAll, List.foldl_cons, this]
    by_cases h1 : (i : Int) ∈ t
    · simp [h1]
    · by_cases h2 : (i : Int) = x
      · subst h2
        simp [h1, hi]
      · have h3 : x.toNat ≠ i := by omega
        simp [h1, h2, List.getElem?_set, h3]
section
variable {T : List Int} {s : Int}
def mkf (T : List Int) (s : Int) (k : Nat) : Int := (lrun T s k).mark
def Lex (T : List Int) (a b : Int) : Prop := ltK T a < ltK T b ∨ (ltK T a = ltK T b ∧ a < b)
theorem mkf_succ (k : Nat) : mkf T s (k + 1) = max (mkf T s k) (T.getD k 0 - s) := rfl
theorem mkf_mono {i j : Nat} (h : i ≤ j) : mkf T s i ≤ mkf T s j := by
  induction h with
  | refl => exact Int.le_refl _
  | step _ ih => rw [mkf_succ]; omega
theorem lex_of {key : Int → Int} {ys : List Int} (h : KAsc key ys) (hf : ∀ v, (ys.filter fun x => decide (key x = v)).Pairwise (· < ·)) : ys.Pairwise fun a b => key a < key b ∨ (key a = key b ∧ a < b) := by
  rw [List.pairwise_iff_forall_sublist]
  intro a b hs
  have h1 : key a ≤ key b := List.pairwise_iff_forall_sublist.1 h hs
  by_cases e : key a = key b
  · refine .inr ⟨e, ?_⟩
    have h2 := hs.filter (fun x => decide (key x = key b))
    have h3 : [a, b].filter (fun x => decide (key x = key b)) = [a, b] := by simp [e]
    rw [h3] at h2
    exact List.pairwise_iff_forall_sublist.1 (hf _) h2
  · exact .inl (by omega)
theorem lex_filter {key : Int → Int} {ys : List Int} (h : ys.Pairwise fun a b => key a < key b ∨ (key a = key b ∧ a < b)) (v : Int) : (ys.filter fun x => decide (key x = v)).Pairwise (· < ·) := by
  refine List.Pairwise.imp_of_mem ?_ (h.sublist List.filter_sublist)
  intro a b ha hb hab
  have h1 := of_decide_eq_true (List.mem_filter.1 ha).2
  have h2 := of_decide_eq_true (List.mem_filter.1 hb).2
  rcases hab with hab | hab
  · omega
  · exact hab.2
/-- The stable sort of an ordered list and one more that is greater than all its records. -/
theorem lex_srt {key : Int → Int} {W : List Int} {k : Int} (h : W.Pairwise fun a b => key a < key b ∨ (key a = key b ∧ a < b)) (hk : ∀ x ∈ W, x < k) : (srtS key (W ++ [k])).Pairwise fun a b => key a < key b ∨ (key a = key b ∧ a < b) := by
  refine lex_of (srtS_asc _) fun v => ?_
  rw [srtS_stab (W ++ [k]) v, List.filter_append]
  refine List.pairwise_append.2 ⟨lex_filter h v, ?_, fun a ha b hb => ?_⟩
  · by_cases e : key k = v
    · simp [e]
    · simp [e]
  · have h1 := List.mem_singleton.1 (List.mem_filter.1 hb).1
    subst h1
    exact hk a (List.mem_filter.1 ha).1
structure LF (T : List Int) (s : Int) (k : Nat) (L : LS) : Prop where
  perm : ((L.out ++ L.w) ++ L.late).Perm (stairs k)
  outS : L.out.Pairwise (Lex T)
  wS : L.w.Pairwise (Lex T)
  outLe : ∀ x ∈ L.out, ltK T x ≤ L.mark
  wGt : ∀ x ∈ L.w, L.mark < ltK T x
  marks : ∀ j, j < k → L.marks[j]? = some (mkf T s (j + 1))
  outD : ∀ x ∈ L.out, ∃ i p : Nat, x = i ∧ i ≤ p ∧ p < k ∧ L.del[i]? = some ((p : Int) - (i : Int)) ∧ ltK T x ≤ mkf T s (p + 1) ∧ (p = i ∨ mkf T s p < ltK T x)
  lateD : ∀ x ∈ L.late, ∃ i : Nat, x = i ∧ i < k ∧ L.del[i]? = some (-1) ∧ ltK T x < mkf T s i
  none : L.late = [] ↔ ∀ i, i < k → mkf T s i ≤ T.getD i 0
theorem LF.start : LF T s 0 (lS0 T.length) where
  perm := by simp [lS0, stairs]
  outS := List.Pairwise.nil
  wS := List.Pairwise.nil
  outLe := fun x h => by simp [lS0] at h
  wGt := fun x h => by simp [lS0] at h
  marks := fun j h => by omega
  outD := fun x h => by simp [lS0] at h
  lateD := fun x h => by simp [lS0] at h
  none := ⟨fun _ i h => by omega, fun _ => rfl⟩
theorem split_perm (p : Int → Bool) (Q : List Int) : (Q.filter p ++ Q.filter fun x => !p x).Perm Q := List.filter_append_perm p Q
theorem LF.step {k : Nat} {L : LS} (hk : k < T.length) (hm : L.mark = mkf T s k) (H : LInv T s k L) (F : LF T s k L) (hm1 : lmk T s L k = mkf T s (k + 1)) : LF T s (k + 1) (lstep T s L k) := by
  have hmono : mkf T s k ≤ mkf T s (k + 1) := mkf_mono (by omega)
  have hnd : ((L.out ++ L.w) ++ L.late).Nodup := F.perm.nodup_iff.2 ((stairs_sorted k).imp (by intro a b h; omega))
  obtain ⟨n1, n2, n3⟩ := List.nodup_append.1 hnd
  obtain ⟨n4, n5, n6⟩ := List.nodup_append.1 n1
  obtain ⟨Q, hQ⟩ : ∃ Q, lq T L k = Q := ⟨_, rfl⟩
  obtain ⟨D2, hD2⟩ : ∃ D2, (if T.getD k 0 < L.mark then L.del.set k (-1) else L.del) = D2 := ⟨_, rfl⟩
  obtain ⟨Lt2, hLt2⟩ : ∃ Lt2, (if T.getD k 0 < L.mark then L.late ++ [(k : Int)] else L.late) = Lt2 := ⟨_, rfl⟩
  obtain ⟨m2, hm2⟩ : ∃ m2, lmk T s L k = m2 := ⟨_, rfl⟩
  have hst : lstep T s L k = ⟨Q.filter fun x => !due T m2 x, L.out ++ Q.filter (due T m2), Lt2, setAll D2 (Q.filter (due T m2)) (k : Int), L.marks ++ [m2], max L.most ((Q.filter fun x => !due T m2 x).length : Int), m2⟩ := by
    rw [← hQ, ← hD2, ← hLt2, ← hm2]; rfl
  rw [hm2] at hm1
  have hltk : ltK T (k : Int) = T.getD k 0 := by simp [ltK]
  have hD2l : D2.length = T.length := by
    rw [← hD2]
    split
    · rw [List.length_set]; exact H.del
    · exact H.del
  -- what the waiting ones are
  have hQm : ∀ x ∈ Q, x ∈ L.w ∨ (x = k ∧ ¬ T.getD k 0 < L.mark) := fun x hx => by
    rw [← hQ, lq] at hx
    split at hx
    · exact .inl hx
    · rename_i hn
      rw [srtS_mem, List.mem_append, List.mem_singleton] at hx
      exact hx.imp id fun e => ⟨e, hn⟩
  have hQp : (Q ++ Lt2).Perm (L.w ++ (L.late ++ [(k : Int)])) := by
    rw [← hQ, ← hLt2, lq]
    split
    · exact List.Perm.refl _
    · refine ((srtS_perm _ _).append_right _).trans ?_
      rw [List.append_assoc]
      exact List.Perm.append_left _ List.perm_append_comm
  have hQs : Q.Pairwise (Lex T) := by
    rw [← hQ, lq]
    split
    · exact F.wS
    · exact lex_srt F.wS fun x hx => by
        obtain ⟨j, h1, h2⟩ := H.wlt x hx
        omega
  have hQ0 : ∀ x ∈ Q, 0 ≤ x := fun x hx => by
    rcases hQm x hx with h | h
    · obtain ⟨j, _, h2⟩ := H.wlt x h
      omega
    · omega
  have hQk : ∀ x ∈ Q, x ≤ (k : Int) := fun x hx => by
    rcases hQm x hx with h | h
    · obtain ⟨j, _, h2⟩ := H.wlt x h
      omega
    · omega
  have hget : ∀ i, i < T.length → (setAll D2 (Q.filter (due T m2)) (k : Int))[i]? = if (i : Int) ∈ Q.filter (due T m2) then some ((k : Int) - (i : Int)) else D2[i]? := fun i hi => setAll_get _ _ _ i (by omega) fun x hx => hQ0 x (List.mem_filter.1 hx).1
  have hD2get : ∀ i, i ≠ k → D2[i]? = L.del[i]? := fun i hi => by
    rw [← hD2]
    split
    · rw [List.getElem?_set_ne (by omega)]
    · rfl
  -- a record of before that doesn't wait isn't among those that go
  have hold : ∀ i : Nat, i < k → ¬ (i : Int) ∈ L.w → (setAll D2 (Q.filter (due T m2)) (k : Int))[i]? = L.del[i]? := fun i hi hw => by
    rw [hget i (by omega), if_neg, hD2get i (by omega)]
    intro hc
    rcases hQm _ (List.mem_filter.1 hc).1 with h | h
    · exact hw h
    · omega
  rw [hst]
  refine ⟨?_, ?_, hQs.sublist List.filter_sublist, fun x hx => ?_, fun x hx => ?_, fun j hj => ?_, fun x hx => ?_, fun x hx => ?_, ?_⟩
  · dsimp only
    rw [stairs_succ]
    have h1 : (L.out ++ Q.filter (due T m2) ++ (Q.filter fun x => !due T m2 x) ++ Lt2).Perm (L.out ++ (Q ++ Lt2)) := by
      rw [List.append_assoc, List.append_assoc]
      refine List.Perm.append_left _ ?_
      rw [← List.append_assoc]
      exact (split_perm _ _).append_right _
    refine h1.trans ((List.Perm.append_left _ hQp).trans ?_)
    have h2 : L.out ++ (L.w ++ (L.late ++ [(k : Int)])) = ((L.out ++ L.w) ++ L.late) ++ [(k : Int)] := by simp
    rw [h2]
    exact F.perm.append_right _
  · dsimp only
    refine List.pairwise_append.2 ⟨F.outS, hQs.sublist List.filter_sublist, fun a ha b hb => ?_⟩
    have h1 := F.outLe a ha
    rcases hQm b (List.mem_filter.1 hb).1 with h | ⟨h, h3⟩
    · exact .inl (by have := F.wGt b h; omega)
    · subst h
      obtain ⟨j, h4, h5⟩ := H.olt a ha
      by_cases e : ltK T a = ltK T (k : Int)
      · exact .inr ⟨e, by omega⟩
      · exact .inl (by omega)
  · rcases List.mem_append.1 hx with h | h
    · have := F.outLe x h
      dsimp only
      omega
    · exact of_decide_eq_true (List.mem_filter.1 h).2
  · have h := (List.mem_filter.1 hx).2
    have h2 : ¬ ltK T x ≤ m2 := fun h3 => by rw [due, decide_eq_true h3] at h; cases h
    dsimp only
    omega
  · dsimp only
    have hl := H.marks
    by_cases e : j < k
    · rw [List.getElem?_append_left (by omega)]
      exact F.marks j e
    · obtain rfl : j = k := by omega
      rw [List.getElem?_append_right (by omega), hl, hm1]
      simp
  · dsimp only at hx ⊢
    rcases List.mem_append.1 hx with h | h
    · obtain ⟨i, p, rfl, h2, h3, h4, h5, h6⟩ := F.outD x h
      refine ⟨i, p, rfl, h2, by omega, ?_, h5, h6⟩
      rw [hold i (by omega) (fun hw => n6 _ h _ hw rfl)]
      exact h4
    · have hxq := (List.mem_filter.1 h).1
      have hxd := of_decide_eq_true (List.mem_filter.1 h).2
      obtain ⟨i, rfl⟩ := Int.eq_ofNat_of_zero_le (hQ0 x hxq)
      have hik := hQk _ hxq
      refine ⟨i, k, rfl, by omega, by omega, ?_, by rw [← hm1]; exact hxd, ?_⟩
      · rw [hget i (by omega), if_pos h]
      · rcases hQm _ hxq with h7 | h7
        · exact .inr (by have := F.wGt _ h7; omega)
        · exact .inl (by omega)
  · dsimp only at hx ⊢
    rw [← hLt2] at hx
    have hb : x ∈ L.late ∨ (x = k ∧ T.getD k 0 < L.mark) := by
      split at hx
      · rename_i hl
        exact (List.mem_append.1 hx).imp id fun h => ⟨List.mem_singleton.1 h, hl⟩
      · exact .inl hx
    rcases hb with h | ⟨rfl, h⟩
    · obtain ⟨i, rfl, h2, h3, h4⟩ := F.lateD x h
      refine ⟨i, rfl, by omega, ?_, h4⟩
      rw [hold i h2 (fun hw => n3 _ (List.mem_append_right _ hw) _ h rfl)]
      exact h3
    · refine ⟨k, rfl, by omega, ?_, by rw [hltk]; omega⟩
      rw [hget k hk, if_neg, ← hD2, if_pos h, List.getElem?_set_self (by have := H.del; omega)]
      intro hc
      rcases hQm _ (List.mem_filter.1 hc).1 with h7 | h7
      · obtain ⟨j, h8, h9⟩ := H.wlt _ h7
        omega
      · exact h7.2 h
  · dsimp only
    rw [← hLt2]
    split
    · rename_i hl
      constructor
      · intro h; simp at h
      · intro h; have := h k (by omega); omega
    · rename_i hl
      rw [F.none]
      constructor
      · intro h i hi
        by_cases e : i < k
        · exact h i e
        · obtain rfl : i = k := by omega
          omega
      · intro h i hi; exact h i (by omega)
theorem lrun_facts (hT : ∀ t ∈ T, 0 ≤ t ∧ t ≤ 1000) (hs : 0 ≤ s ∧ s ≤ 1000) : ∀ k, k ≤ T.length → LF T s k (lrun T s k)
  | 0, _ => LF.start
  | k + 1, h => (lrun_facts hT hs k (by omega)).step (by omega) rfl (lrun_inv hT hs k (by omega)) rfl
/-- The greatest time so far, and the slack that is needed. -/
def hiK (T : List Int) : Nat → Int
  | 0 => 0
  | k + 1 => max (hiK T k) (T.getD k 0)
def slackK (T : List Int) : Nat → Int
  | 0 => 0
  | k + 1 => max (slackK T k) (hiK T (k + 1) - T.getD k 0)
theorem hiK_pos (k : Nat) : 0 ≤ hiK T k := by
  induction k with
  | zero => exact Int.le_refl _
  | succ k ih => rw [hiK]; omega
theorem slackK_pos (k : Nat) : 0 ≤ slackK T k := by
  induction k with
  | zero => exact Int.le_refl _
  | succ k ih => rw [slackK]; omega
theorem mkf_hi (hT : ∀ t ∈ T, 0 ≤ t ∧ t ≤ 1000) (hs : 0 ≤ s ∧ s ≤ 1000) : ∀ k, k < T.length → mkf T s (k + 1) = hiK T (k + 1) - s
  | 0, h => by
    have : 0 ≤ T.getD 0 0 := by rw [List.getD_eq_getElem?_getD, List.getElem?_eq_getElem h]; exact (hT _ (List.getElem_mem _)).1
    rw [mkf_succ, hiK, hiK]
    have e : mkf T s 0 = -1001 := rfl
    rw [e]
    omega
  | k + 1, h => by
    have e : hiK T (k + 1 + 1) = max (hiK T (k + 1)) (T.getD (k + 1) 0) := rfl
    rw [mkf_succ, mkf_hi hT hs k (by omega), e]
    omega
theorem slack_iff (hT : ∀ t ∈ T, 0 ≤ t ∧ t ≤ 1000) (hs : 0 ≤ s ∧ s ≤ 1000) : ∀ k, k ≤ T.length → ((∀ i, i < k → mkf T s i ≤ T.getD i 0) ↔ slackK T k ≤ s)
  | 0, _ => ⟨fun _ => by rw [slackK]; omega, fun _ i h => by omega⟩
  | k + 1, h => by
    have ih := slack_iff hT hs k (by omega)
    have h0 : 0 ≤ T.getD k 0 := by rw [List.getD_eq_getElem?_getD, List.getElem?_eq_getElem (by omega)]; exact (hT _ (List.getElem_mem _)).1
    have hstep : mkf T s k ≤ T.getD k 0 ↔ hiK T (k + 1) - T.getD k 0 ≤ s := by
      cases k with
      | zero =>
        have e : mkf T s 0 = -1001 := rfl
        rw [e, hiK, hiK]
        omega
      | succ j =>
        have e : hiK T (j + 1 + 1) = max (hiK T (j + 1)) (T.getD (j + 1) 0) := rfl
        rw [mkf_hi hT hs j (by omega), e]
        omega
    rw [slackK]
    constructor
    · intro H
      have h1 := ih.1 fun i hi => H i (by omega)
      have h2 := hstep.1 (H k (by omega))
      omega
    · intro H i hi
      by_cases e : i < k
      · exact ih.2 (by omega) i e
      · obtain rfl : i = k := by omega
        exact hstep.2 (by omega)
def slackNeed (T : List Int) : Int := if timesOk T then slackK T T.length else -1
/-- The facts that the law asks for. -/
structure LateFacts (T : List Int) (s : Int) : Prop where
  len : (lateOut T s).length + (lateLate T s).length = T.length
  dlen : (lateDel T s).length = T.length
  mlen : (lateMarks T s).length = T.length
  rise : adjB (lateMarks T s) = true
  most0 : 0 ≤ lateMost T s ∧ lateMost T s ≤ (T.length : Int)
  perm : srt (lateOut T s ++ lateLate T s) = stairs T.length
  order : ∀ (k : Nat) x y, (lateOut T s)[k]? = some x → (lateOut T s)[k + 1]? = some y → Lex T x y
  each : ∀ x ∈ lateOut T s, ∃ i p : Nat, x = i ∧ i ≤ p ∧ p < T.length ∧ (lateDel T s)[i]? = some ((p : Int) - (i : Int)) ∧ (p + 1 = T.length ∨ ∃ m, (lateMarks T s)[p]? = some m ∧ T.getD i 0 ≤ m) ∧ (p = i ∨ ∃ m, (lateMarks T s)[p - 1]? = some m ∧ m < T.getD i 0)
  late : ∀ x ∈ lateLate T s, ∃ i : Nat, x = i ∧ 1 ≤ i ∧ i < T.length ∧ (lateDel T s)[i]? = some (-1) ∧ ∃ m, (lateMarks T s)[i - 1]? = some m ∧ T.getD i 0 < m
  zero : lateLate T s = [] ↔ slackK T T.length ≤ s
theorem late_facts (hT : ∀ t ∈ T, 0 ≤ t ∧ t ≤ 1000) (hs : 0 ≤ s ∧ s ≤ 1000) : LateFacts T s := by
  have F := lrun_facts hT hs T.length (Nat.le_refl _)
  have H := lrun_inv hT hs T.length (Nat.le_refl _)
  obtain ⟨L, hL⟩ : ∃ L, lrun T s T.length = L := ⟨_, rfl⟩
  have hmk : L.mark = mkf T s T.length := by rw [← hL]; rfl
  rw [hL] at F H
  have hnd : ((L.out ++ L.w) ++ L.late).Nodup := F.perm.nodup_iff.2 ((stairs_sorted T.length).imp (by intro a b h; omega))
  obtain ⟨n1, n2, n3⟩ := List.nodup_append.1 hnd
  obtain ⟨n4, n5, n6⟩ := List.nodup_append.1 n1
  have hw0 : ∀ x ∈ L.w, 0 ≤ x := fun x hx => by
    obtain ⟨j, _, h2⟩ := H.wlt x hx
    omega
  have hget : ∀ i, i < T.length → (setAll L.del L.w ((T.length : Int) - 1))[i]? = if (i : Int) ∈ L.w then some ((T.length : Int) - 1 - (i : Int)) else L.del[i]? := fun i hi => setAll_get _ _ _ i (by rw [H.del]; exact hi) hw0
  have hlt : ∀ i : Nat, ltK T (i : Int) = T.getD i 0 := fun i => by simp [ltK]
  have hO : (lateOut T s).Pairwise (Lex T) := by
    rw [lateOut, hL]
    exact List.pairwise_append.2 ⟨F.outS, F.wS, fun a ha b hb => .inl (by have := F.outLe a ha; have := F.wGt b hb; omega)⟩
  refine ⟨?_, ?_, by rw [lateMarks, hL]; exact H.marks, ?_, by rw [lateMost, hL]; exact H.most0, ?_, fun k x y hx hy => ?_, fun x hx => ?_, fun x hx => ?_, ?_⟩
  · rw [lateOut, lateLate, hL, List.length_append]
    have := H.len
    omega
  · rw [lateDel, hL, setAll_length]; exact H.del
  · refine adjB_iff.2 fun m a b ha hb => ?_
    rw [lateMarks, hL] at ha hb
    have h1 := (List.getElem?_eq_some_iff.1 hb).1
    have h2 := H.marks
    rw [F.marks m (by omega)] at ha
    rw [F.marks (m + 1) (by omega)] at hb
    cases ha
    cases hb
    exact mkf_mono (by omega)
  · rw [lateOut, lateLate, hL]
    exact (srt_unique F.perm.symm ((stairs_sorted T.length).imp (by intro a b h; omega))).symm
  · have h1 := (List.getElem?_eq_some_iff.1 hx)
    have h2 := (List.getElem?_eq_some_iff.1 hy)
    obtain ⟨h1, rfl⟩ := h1
    obtain ⟨h2, rfl⟩ := h2
    exact List.pairwise_iff_getElem.1 hO k (k + 1) h1 h2 (by omega)
  · rw [lateOut, hL] at hx
    rw [lateDel, lateMarks, hL]
    rcases List.mem_append.1 hx with h | h
    · obtain ⟨i, p, rfl, h2, h3, h4, h5, h6⟩ := F.outD x h
      rw [hlt] at h5 h6
      refine ⟨i, p, rfl, h2, h3, ?_, .inr ⟨_, F.marks p h3, h5⟩, ?_⟩
      · rw [hget i (by omega), if_neg (fun hw => n6 _ h _ hw rfl)]
        exact h4
      · rcases h6 with h6 | h6
        · exact .inl h6
        · by_cases e : p = i
          · exact .inl e
          · refine .inr ⟨_, F.marks (p - 1) (by omega), ?_⟩
            rw [show p - 1 + 1 = p by omega]
            exact h6
    · obtain ⟨i, hi, rfl⟩ := H.wlt x h
      have h7 := F.wGt _ h
      rw [hlt] at h7
      refine ⟨i, T.length - 1, rfl, by omega, by omega, ?_, .inl (by omega), ?_⟩
      · rw [hget i hi, if_pos h]
        congr 1
        omega
      · by_cases e : T.length - 1 = i
        · exact .inl e
        · refine .inr ⟨_, F.marks (T.length - 1 - 1) (by omega), ?_⟩
          have := mkf_mono (T := T) (s := s) (show T.length - 1 - 1 + 1 ≤ T.length by omega)
          omega
  · rw [lateLate, hL] at hx
    rw [lateDel, lateMarks, hL]
    obtain ⟨i, rfl, h2, h3, h4⟩ := F.lateD x hx
    rw [hlt] at h4
    have h0 : 0 ≤ T.getD i 0 := by rw [List.getD_eq_getElem?_getD, List.getElem?_eq_getElem h2]; exact (hT _ (List.getElem_mem _)).1
    have h1 : 1 ≤ i := by
      cases i with
      | zero => have e : mkf T s 0 = -1001 := rfl; omega
      | succ i => omega
    refine ⟨i, rfl, h1, h2, ?_, _, F.marks (i - 1) (by omega), ?_⟩
    · rw [hget i h2, if_neg (fun hw => n3 _ (List.mem_append_right _ hw) _ hx rfl)]
      exact h3
    · rw [show i - 1 + 1 = i by omega]
      exact h4
  · rw [lateLate, hL, F.none]
    exact slack_iff hT hs _ (Nat.le_refl _)
end

end Go.Proofs.YtdagkgkllgpeeaaDoor
