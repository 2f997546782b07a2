/- Plain: sorting with a stack. -/
import Derived.Test.YtlmbaijkeahkfaaDoorLists
namespace Go.Proofs.YtlmbaijkeahkfaaDoor
set_option linter.unusedVariables false
set_option linter.unusedSimpArgs false

/-- Pop while the top is below x; the stack's top is its head; 't' for each. -/
def popA (x : Int) : List Int → List Int → List UInt8 → List Int × List Int × List UInt8
  | o, [], w => (o, [], w)
  | o, a :: r, w => if a < x then popA x (o ++ [a]) r (w ++ [116]) else (o, a :: r, w)
def stk1 (q : List Int × List Int × List UInt8) (x : Int) : List Int × List Int × List UInt8 :=
  ((popA x q.1 q.2.1 q.2.2).1, x :: (popA x q.1 q.2.1 q.2.2).2.1, (popA x q.1 q.2.1 q.2.2).2.2 ++ [112])
def stkR (xs : List Int) (k : Nat) : List Int × List Int × List UInt8 := (xs.take k).foldl stk1 ([], [], [])
def stkS (xs : List Int) : List Int := (stkR xs xs.length).1 ++ (stkR xs xs.length).2.1
def stkW (xs : List Int) : List UInt8 := (stkR xs xs.length).2.2 ++ List.replicate (stkR xs xs.length).2.1.length 116

theorem popA_eq (x : Int) (r : List Int) : ∀ o w, ∃ p q, r = p ++ q ∧ (popA x o r w) = (o ++ p, q, w ++ List.replicate p.length 116) ∧ (∀ y ∈ p, y < x) ∧ (∀ y q2, q = y :: q2 → ¬ y < x) := by
  induction r with
  | nil => intro o w; exact ⟨[], [], rfl, by simp [popA], by simp, by simp⟩
  | cons a r ih =>
    intro o w
    by_cases h : a < x
    · obtain ⟨p, q, h1, h2, h3, h4⟩ := ih (o ++ [a]) (w ++ [116])
      refine ⟨a :: p, q, by rw [h1]; rfl, ?_, ?_, h4⟩
      · rw [popA, if_pos h, h2]
        simp [List.replicate_succ]
      · intro y hy
        rcases List.mem_cons.1 hy with rfl | hy
        · exact h
        · exact h3 y hy
    · exact ⟨[], a :: r, rfl, by rw [popA, if_neg h]; simp, by simp, fun y q2 e => by injection e with e1 _; rw [← e1]; exact h⟩
theorem stkR_succ {xs : List Int} {k : Nat} {x : Int} (h : xs[k]? = some x) : stkR xs (k + 1) = stk1 (stkR xs k) x := by
  unfold stkR
  have : xs.take (k + 1) = xs.take k ++ [x] := by
    rw [List.take_add_one, h]; rfl
  rw [this, List.foldl_append]; rfl
/-- Lengths: out and stack hold what went in; the word is as long as what went in and what went out. -/
theorem stk1_len (q : List Int × List Int × List UInt8) (x : Int) (k : Nat) (h : q.1.length + q.2.1.length = k ∧ q.2.2.length = k + q.1.length) :
    (stk1 q x).1.length + (stk1 q x).2.1.length = k + 1 ∧ (stk1 q x).2.2.length = k + 1 + (stk1 q x).1.length := by
  obtain ⟨p, s, h1, h2, _, _⟩ := popA_eq x q.2.1 q.1 q.2.2
  unfold stk1
  rw [h2]
  rw [h1] at h
  simp at h ⊢
  omega
theorem stkR_len (xs : List Int) : ∀ k, k ≤ xs.length → (stkR xs k).1.length + (stkR xs k).2.1.length = k ∧ (stkR xs k).2.2.length = k + (stkR xs k).1.length := by
  intro k
  induction k with
  | zero => intro _; simp [stkR]
  | succ k ih =>
    intro h
    rw [stkR_succ (List.getElem?_eq_getElem (show k < xs.length by omega))]
    exact stk1_len _ _ _ (ih (by omega))
theorem stk1_perm (q : List Int × List Int × List UInt8) (x : Int) : ((stk1 q x).1 ++ (stk1 q x).2.1).Perm (x :: (q.1 ++ q.2.1)) := by
  obtain ⟨p, s, h1, h2, _, _⟩ := popA_eq x q.2.1 q.1 q.2.2
  unfold stk1
  rw [h2, h1]
  simp only [List.append_assoc]
  have := (List.perm_middle (a := x) (l₁ := q.1 ++ p) (l₂ := s))
  simpa using this
theorem fold_perm (L : List Int) : ∀ q, ((L.foldl stk1 q).1 ++ (L.foldl stk1 q).2.1).Perm (L ++ (q.1 ++ q.2.1)) := by
  induction L with
  | nil => intro q; exact List.Perm.refl _
  | cons x L ih =>
    intro q
    refine (ih (stk1 q x)).trans ?_
    refine ((stk1_perm q x).append_left L).trans ?_
    exact List.perm_middle
theorem stkR_all (xs : List Int) : stkR xs xs.length = xs.foldl stk1 ([], [], []) := by unfold stkR; rw [List.take_length]
theorem stkS_perm (xs : List Int) : (stkS xs).Perm xs := by
  unfold stkS
  rw [stkR_all]
  simpa using fold_perm xs ([], [], [])
/-- The stack's lowest is the greatest of all. -/
def StkG (q : List Int × List Int × List UInt8) : Prop := (q.1 = [] ∧ q.2.1 = []) ∨ ∃ r0 m, q.2.1 = r0 ++ [m] ∧ ∀ y ∈ q.1 ++ r0, y < m
theorem stk1_G {q : List Int × List Int × List UInt8} {x : Int} (h : StkG q) (hx : x ∉ q.1 ++ q.2.1) : ∃ r0 m, (stk1 q x).2.1 = r0 ++ [m] ∧ ∀ y ∈ (stk1 q x).1 ++ r0, y < m := by
  obtain ⟨p, s, h1, h2, h3, h4⟩ := popA_eq x q.2.1 q.1 q.2.2
  unfold stk1
  rw [h2]
  dsimp only
  rcases h with ⟨e1, e2⟩ | ⟨r0, m, e1, e2⟩
  · rw [e2] at h1
    obtain ⟨rfl, rfl⟩ := List.append_eq_nil_iff.1 h1.symm
    exact ⟨[], x, rfl, by rw [e1]; simp⟩
  · by_cases hs : s = []
    · subst hs
      rw [List.append_nil] at h1
      have hm : m < x := h3 m (by rw [← h1, e1]; simp)
      refine ⟨[], x, rfl, fun y hy => ?_⟩
      simp only [List.append_nil, List.mem_append] at hy
      rcases hy with hy | hy
      · have := e2 y (by simp [hy]); omega
      · exact h3 y hy
    · obtain ⟨s0, m', rfl⟩ : ∃ s0 m', s = s0 ++ [m'] := ⟨s.dropLast, s.getLast hs, (List.dropLast_concat_getLast hs).symm⟩
      rw [e1, ← List.append_assoc] at h1
      have hj := List.append_inj' h1 rfl
      obtain ⟨hr, hm⟩ := hj
      injection hm with hm _
      subst hm
      have hxm : x ≠ m := fun e => hx (by rw [e1, e]; simp)
      have hlt : x < m := by
        rcases s0 with _ | ⟨y, s1⟩
        · have := h4 m [] rfl; omega
        · have h5 := h4 y _ rfl
          have h6 := e2 y (by rw [hr]; simp)
          omega
      refine ⟨x :: s0, m, rfl, fun y hy => ?_⟩
      simp only [List.mem_append, List.mem_cons] at hy
      rcases hy with (hy | hy) | hy | hy
      · exact e2 y (by simp [hy])
      · exact e2 y (by rw [hr]; simp [hy])
      · rw [hy]; exact hlt
      · exact e2 y (by rw [hr]; simp [hy])
theorem fold_G (L : List Int) : ∀ q, StkG q → (L ++ (q.1 ++ q.2.1)).Nodup → StkG (L.foldl stk1 q) := by
  induction L with
  | nil => intro q h _; exact h
  | cons x L ih =>
    intro q h hn
    refine ih _ (.inr (stk1_G h ?_)) ?_
    · have := (List.nodup_cons.1 hn).1
      exact fun hx => this (List.mem_append_right L hx)
    · refine (List.Perm.nodup_iff ?_).2 hn
      exact ((stk1_perm q x).append_left L).trans List.perm_middle
theorem popA_all {x : Int} {r : List Int} (h : ∀ y ∈ r, y < x) (o : List Int) (w : List UInt8) : (popA x o r w).1 = o ++ r ∧ (popA x o r w).2.1 = [] := by
  obtain ⟨p, q, h1, h2, h3, h4⟩ := popA_eq x r o w
  rcases q with _ | ⟨y, q⟩
  · rw [h2, h1]; simp
  · exact absurd (h y (by rw [h1]; simp)) (h4 y q rfl)
theorem fold_asc (B : List Int) : ∀ q, B.Pairwise (· < ·) → (∀ y ∈ q.2.1, ∀ b ∈ B, y < b) → (B.foldl stk1 q).1 ++ (B.foldl stk1 q).2.1 = q.1 ++ q.2.1 ++ B := by
  induction B with
  | nil => intro q _ _; simp
  | cons b B ih =>
    intro q hB hq
    obtain ⟨p1, p2⟩ := popA_all (x := b) (r := q.2.1) (fun y hy => hq y hy b (by simp)) q.1 q.2.2
    obtain ⟨b1, b2⟩ := List.pairwise_cons.1 hB
    have e1 : (stk1 q b).1 = q.1 ++ q.2.1 := by unfold stk1; exact p1
    have e2 : (stk1 q b).2.1 = [b] := by unfold stk1; dsimp only; rw [p2]
    have := ih (stk1 q b) b2 (fun y hy c hc => by rw [e2, List.mem_singleton] at hy; subst hy; exact b1 c hc)
    rw [List.foldl_cons, this, e1, e2]
    simp
theorem stkS_split {A B : List Int} (hA : A ≠ []) (hn : (A ++ B).Nodup) (hB : B.Pairwise (· < ·)) (hAB : ∀ a ∈ A, ∀ b ∈ B, a < b) :
    ∃ A' m, stkS (A ++ B) = A' ++ (m :: B) ∧ A'.length + 1 = A.length ∧ (∀ a ∈ A', a < m) ∧ (∀ a ∈ A', ∀ b ∈ B, a < b) ∧ ∀ b ∈ B, m < b := by
  have hp := fold_perm A ([], [], [])
  simp only [List.append_nil] at hp
  have hg := fold_G A ([], [], []) (.inl ⟨rfl, rfl⟩) (by simpa using (List.nodup_append.1 hn).1)
  obtain ⟨o, r, w, hq⟩ : ∃ o r w, A.foldl stk1 ([], [], []) = (o, r, w) := ⟨_, _, _, rfl⟩
  rw [hq] at hp hg
  dsimp only at hp
  have hsub : ∀ y ∈ o ++ r, y ∈ A := fun y hy => hp.mem_iff.1 hy
  have hS : stkS (A ++ B) = o ++ r ++ B := by
    unfold stkS
    rw [stkR_all, List.foldl_append, hq]
    exact fold_asc B (o, r, w) hB fun y hy b hb => hAB y (hsub y (by simp [show y ∈ r from hy])) b hb
  rcases hg with ⟨e1, e2⟩ | ⟨r0, m, e1, e2⟩
  · dsimp only at e1 e2
    subst e1; subst e2
    exact absurd (List.nil_perm.1 hp) hA
  · dsimp only at e1 e2
    subst e1
    refine ⟨o ++ r0, m, by rw [hS]; simp, ?_, e2, fun a ha b hb => hAB a (hsub a (by simp at ha ⊢; rcases ha with h | h <;> simp [h])) b hb, fun b hb => hAB m (hsub m (by simp)) b hb⟩
    have := hp.length_eq
    simp at this ⊢
    omega
/-- After n rounds no more than the first 8 - n are out of place. -/
def Rnd (n : Nat) (ys : List Int) : Prop := ys.Nodup ∧ ∃ A B, ys = A ++ B ∧ A.length + n ≤ 8 ∧ B.Pairwise (· < ·) ∧ ∀ a ∈ A, ∀ b ∈ B, a < b
theorem Rnd.start {xs : List Int} (hn : xs.Nodup) (hl : xs.length ≤ 8) : Rnd 0 xs := ⟨hn, xs, [], by simp, by simpa using hl, List.Pairwise.nil, by simp⟩
theorem pairlt_adjB {ys : List Int} (h : ys.Pairwise (· < ·)) : adjB ys = true := by
  refine adjB_iff.2 fun m a b ha hb => ?_
  obtain ⟨h1, e1⟩ := List.getElem?_eq_some_iff.1 ha
  obtain ⟨h2, e2⟩ := List.getElem?_eq_some_iff.1 hb
  have := List.pairwise_iff_getElem.1 h m (m + 1) h1 h2 (by omega)
  rw [e1, e2] at this
  omega
theorem Rnd.step {n : Nat} {ys : List Int} (h : Rnd n ys) (hno : adjB ys = false) : n < 8 ∧ Rnd (n + 1) (stkS ys) := by
  obtain ⟨hn, A, B, rfl, hl, hB, hAB⟩ := h
  have hA : A ≠ [] := by
    rintro rfl
    rw [List.nil_append, pairlt_adjB hB] at hno
    cases hno
  obtain ⟨A', m, e, h1, h2, h3, h4⟩ := stkS_split hA hn hB hAB
  refine ⟨by omega, ?_, A', m :: B, e, by omega, List.pairwise_cons.2 ⟨h4, hB⟩, fun a ha b hb => ?_⟩
  · exact (stkS_perm _).nodup_iff.2 hn
  · rcases List.mem_cons.1 hb with rfl | hb
    · exact h2 a ha
    · exact h3 a ha b hb
/-- How many rounds. -/
def rndN : Nat → List Int → Nat
  | 0, _ => 0
  | f + 1, ys => if adjB ys then 0 else rndN f (stkS ys) + 1
theorem rndN_yes {f : Nat} {ys : List Int} (h : adjB ys = true) : rndN f ys = 0 := by cases f with | zero => rfl | succ f => rw [rndN, if_pos h]
theorem rndN_no {f : Nat} {ys : List Int} (h : adjB ys = false) : rndN (f + 1) ys = rndN f (stkS ys) + 1 := by rw [rndN, h]; rfl
theorem rndN_le : ∀ (f : Nat) (ys : List Int), rndN f ys ≤ f := by
  intro f
  induction f with
  | zero => intro ys; exact Nat.le_refl _
  | succ f ih =>
    intro ys
    rw [rndN]
    split
    · omega
    · have := ih (stkS ys); omega

/-- An order of at most eight numbers. -/
def OrdP (n : Nat) (xs : List Int) : Prop := (∀ x ∈ xs, 0 ≤ x ∧ x < (n : Int)) ∧ xs.Nodup
def ordB (n : Nat) (xs : List Int) : Bool := (xs.all fun x => decide (0 ≤ x) && decide (x < (n : Int))) && decide xs.Nodup
theorem ordB_iff {n : Nat} {xs : List Int} : ordB n xs = true ↔ OrdP n xs := by simp [ordB, OrdP]
theorem ordB_no {n : Nat} {xs : List Int} (h : ¬ OrdP n xs) : ordB n xs = false := by
  cases e : ordB n xs
  · rfl
  · exact absurd (ordB_iff.1 e) h
def shortB (xs : List Int) : Bool := decide (xs.length ≤ 8) && ordB xs.length xs
theorem shortB_iff {xs : List Int} : shortB xs = true ↔ xs.length ≤ 8 ∧ OrdP xs.length xs := by
  simp only [shortB, Bool.and_eq_true, decide_eq_true_eq, ordB_iff]
theorem shortB_perm {xs ys : List Int} (h : ys.Perm xs) (hx : shortB xs = true) : shortB ys = true := by
  obtain ⟨h1, h2, h3⟩ := shortB_iff.1 hx
  exact shortB_iff.2 ⟨by rw [h.length_eq]; exact h1, fun y hy => by rw [h.length_eq]; exact h2 y (h.mem_iff.1 hy), h.nodup_iff.2 h3⟩
/-- 'seen' after the first k. -/
def SeenP (n : Nat) (xs : List Int) (k : Nat) (S : List Bool) : Prop :=
  S.length = n ∧ (∀ (v : Nat) (b : Bool), S[v]? = some b → b = decide ((v : Int) ∈ xs.take k)) ∧ (∀ x ∈ xs.take k, 0 ≤ x ∧ x < (n : Int)) ∧ (xs.take k).Nodup
theorem SeenP.start (n : Nat) (xs : List Int) : SeenP n xs 0 (List.replicate n false) := ⟨by simp, fun v b h => by
  have := List.mem_of_getElem? h
  simp at this
  simp [this.2], by simp, by simp⟩
theorem take_add1 {xs : List Int} {k : Nat} {x : Int} (h : xs[k]? = some x) : xs.take (k + 1) = xs.take k ++ [x] := by rw [List.take_add_one, h]; rfl
theorem SeenP.next {n k X : Nat} {xs : List Int} {S : List Bool} (h : SeenP n xs k S) (hx : xs[k]? = some (X : Int)) (hX : X < n) (hf : S[X]? = some false) : SeenP n xs (k + 1) (S.set X true) := by
  obtain ⟨h1, h2, h3, h4⟩ := h
  have hno : (X : Int) ∉ xs.take k := by simpa using h2 X false hf
  rw [SeenP, take_add1 hx]
  refine ⟨by simpa using h1, fun v b hb => ?_, fun x hx => ?_, ?_⟩
  · by_cases e : v = X
    · subst e
      rw [List.getElem?_set_self (by omega)] at hb
      cases hb
      simp
    · rw [List.getElem?_set_ne (fun h => e h.symm)] at hb
      rw [h2 v b hb]
      have : ¬ (v : Int) = (X : Int) := by omega
      simp [this]
  · rcases List.mem_append.1 hx with hx | hx
    · exact h3 x hx
    · rw [List.mem_singleton] at hx; subst hx; omega
  · rw [List.nodup_append]
    exact ⟨h4, by simp, fun a ha b hb => by rw [List.mem_singleton] at hb; subst hb; exact fun e => hno (e ▸ ha)⟩
theorem SeenP.out {n k : Nat} {xs : List Int} {S : List Bool} {x : Int} (h : SeenP n xs k S) (hx : xs[k]? = some x) (hX : ¬ (0 ≤ x ∧ x < (n : Int))) : ordB n xs = false :=
  ordB_no fun ho => hX (ho.1 x (List.mem_of_getElem? hx))
theorem SeenP.twice {n k X : Nat} {xs : List Int} {S : List Bool} (h : SeenP n xs k S) (hx : xs[k]? = some (X : Int)) (hf : S[X]? = some true) : ordB n xs = false := by
  refine ordB_no fun ho => ?_
  have hy : (X : Int) ∈ xs.take k := by simpa using h.2.1 X true hf
  have hn := ho.2
  rw [← List.take_append_drop k xs, List.nodup_append] at hn
  refine hn.2.2 _ hy _ ?_ rfl
  obtain ⟨hk, e⟩ := List.getElem?_eq_some_iff.1 hx
  rw [List.drop_eq_getElem_cons hk, e]
  simp
theorem SeenP.fin {n : Nat} {xs : List Int} {S : List Bool} (h : SeenP n xs xs.length S) : ordB n xs = true := by
  refine ordB_iff.2 ?_
  have h3 := h.2.2
  rw [List.take_length] at h3
  exact h3

/-- A pattern that no stack can sort: places i < j < k. -/
def Tri (xs : List Int) (i j k : Nat) : Prop := i < j ∧ j < k ∧ k < xs.length ∧ xs.getD k 0 < xs.getD i 0 ∧ xs.getD i 0 < xs.getD j 0
def canB (xs : List Int) : Bool := (List.range xs.length).all fun k => (List.range xs.length).all fun i => (List.range xs.length).all fun j => !(decide (i < j ∧ j < k ∧ xs.getD k 0 < xs.getD i 0 ∧ xs.getD i 0 < xs.getD j 0))
theorem canB_yes {xs : List Int} (h : ∀ i j k, ¬ Tri xs i j k) : canB xs = true := by
  refine List.all_eq_true.2 fun k hk => List.all_eq_true.2 fun i hi => List.all_eq_true.2 fun j hj => ?_
  rw [List.mem_range] at hk
  have := h i j k
  simp only [Tri] at this
  simp only [Bool.not_eq_true', decide_eq_false_iff_not]
  exact fun hh => this ⟨hh.1, hh.2.1, hk, hh.2.2.1, hh.2.2.2⟩
theorem canB_no {xs : List Int} {i j k : Nat} (h : Tri xs i j k) : canB xs = false := by
  cases hc : canB xs
  · rfl
  · obtain ⟨h1, h2, h3, h4, h5⟩ := h
    have := List.all_eq_true.1 (List.all_eq_true.1 (List.all_eq_true.1 hc k (List.mem_range.2 h3)) i (List.mem_range.2 (by omega))) j (List.mem_range.2 (by omega))
    simp only [Bool.not_eq_true', decide_eq_false_iff_not] at this
    exact absurd ⟨h1, h2, h4, h5⟩ this
end Go.Proofs.YtlmbaijkeahkfaaDoor
