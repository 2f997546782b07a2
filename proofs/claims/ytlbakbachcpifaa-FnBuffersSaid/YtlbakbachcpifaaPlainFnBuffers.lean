/- A buffer sorts exactly if it has one place more than the greatest lateness: no program in sight. -/
import Derived.Test.YtlbakbachcpifaaPlainPerm
import Derived.Test.YtlbakbachcpifaaBufD
import Derived.Test.YtlbakbachcpifaaLate
namespace Go.Proofs.Ytlbakbachcpifaa
open Go.RowKit
set_option linter.unusedVariables false

def cnt (v : Int) (l : List Int) : Nat := (l.filter (fun y => decide (v < y))).length
theorem cnt_app (v : Int) (a b : List Int) : cnt v (a ++ b) = cnt v a + cnt v b := by simp [cnt, List.filter_append]
theorem cnt_perm (v : Int) {a b : List Int} (h : a.Perm b) : cnt v a = cnt v b := (h.filter _).length_eq
theorem cnt_le (v : Int) (a : List Int) : cnt v a ≤ a.length := List.length_filter_le _ _
theorem cnt_all (v : Int) {a : List Int} (h : ∀ y ∈ a, v < y) : cnt v a = a.length := by
  rw [cnt, List.filter_eq_self.2 (fun y hy => decide_eq_true (h y hy))]
theorem cnt_pos (v : Int) {a : List Int} (h : 0 < cnt v a) : ∃ y ∈ a, v < y := by
  obtain ⟨y, hy⟩ := List.exists_mem_of_length_pos h
  exact ⟨y, (List.mem_filter.1 hy).1, of_decide_eq_true (List.mem_filter.1 hy).2⟩
theorem cnt_take (v : Int) (xs : List Int) {i j : Nat} (h : i ≤ j) : cnt v (xs.take i) ≤ cnt v (xs.take j) := by
  obtain ⟨d, rfl⟩ := Nat.le.dest h
  rw [List.take_add, cnt_app]
  omega
theorem cntUp_cnt (xs : List Int) (x : Int) (j : Nat) : cntUp xs x j = cnt x (xs.take j) := rfl
theorem take_get {xs : List Int} {n : Nat} (h : n < xs.length) : xs.take (n + 1) = xs.take n ++ [xs.getD n 0] := by
  rw [List.take_succ_eq_append_getElem h, List.getD_eq_getElem?_getD, List.getElem?_eq_getElem h]
  rfl
theorem drop_get {xs : List Int} {n : Nat} (h : n < xs.length) : xs.drop n = xs.getD n 0 :: xs.drop (n + 1) := by
  rw [List.drop_eq_getElem_cons h, List.getD_eq_getElem?_getD, List.getElem?_eq_getElem h]
  rfl
theorem bput_mem (once : Bool) (b : List Int) (x y : Int) : y ∈ bput once b x ↔ y ∈ b ∨ y = x := by
  unfold bput
  split
  · rename_i h
    exact ⟨.inl, fun h2 => h2.elim id fun e => e ▸ h.2⟩
  · rw [srt_mem, List.mem_append, List.mem_singleton]
theorem bput_cnt (once : Bool) (b : List Int) (x v : Int) : cnt v (bput once b x) ≤ cnt v b + cnt v [x] := by
  unfold bput
  split
  · omega
  · rw [cnt_perm v (srt_perm _), cnt_app]; exact Nat.le_refl _
/-- The two kinds of step. -/
theorem bstep_cases {xs : List Int} {k : Nat} {once : Bool} {S : BS} (hk : 1 ≤ k) (hb : busy xs S) :
    (S.b.length < k ∧ S.next < xs.length ∧ bstep xs k once S = ⟨S.next + 1, bput once S.b (xs.getD S.next 0), S.out, S.tr⟩) ∨
    (∃ y t, S.b = y :: t ∧ (S.next < xs.length → k ≤ S.b.length) ∧ bstep xs k once S = ⟨S.next, t, S.out ++ [y], S.tr ++ [y :: t]⟩) := by
  unfold bstep
  by_cases hc : S.b.length < k ∧ S.next < xs.length
  · exact .inl ⟨hc.1, hc.2, if_pos hc⟩
  · refine .inr ?_
    unfold busy at hb
    rw [if_neg hc]
    match hS : S.b with
    | [] => rw [hS] at hb hc; simp at hb hc; omega
    | y :: t => exact ⟨y, t, rfl, fun h => by rw [hS] at hc; exact Nat.le_of_not_lt fun h2 => hc ⟨h2, h⟩, rfl⟩
theorem fin_ind {xs : List Int} {k : Nat} {once : Bool} (hk : 1 ≤ k) {I : BS → Prop} (hs : ∀ S, I S → busy xs S → I (bstep xs k once S)) : ∀ (f : Nat) (S : BS), bmu xs S ≤ f → I S → I (runB xs k once f S) ∧ ¬ busy xs (runB xs k once f S)
  | 0, S, hf, h => ⟨h, fun hb => by unfold bmu at hf; unfold busy at hb; rw [runB] at hb; omega⟩
  | f + 1, S, hf, h => by
    rw [runB]
    split
    · rename_i hb
      have := bmu_step (once := once) hk hb
      exact fin_ind hk hs f _ (by omega) (hs S h hb)
    · rename_i hb
      exact ⟨h, hb⟩
theorem asc_pair {b : List Int} (h : Desc b.reverse) : b.Pairwise (· ≤ ·) := by
  rw [Desc, List.pairwise_reverse] at h
  exact h
/-- What holds of each run. -/
structure BX (xs : List Int) (k : Nat) (S : BS) : Prop where
  inv : BInv xs k S
  mono : ∀ v, cnt v S.b ≤ cnt v (xs.take S.next)
  read : ∀ x ∈ xs.take S.next, x ∈ S.out ∨ x ∈ S.b
theorem BX.step {xs : List Int} {k : Nat} {once : Bool} {S : BS} (hk : 1 ≤ k) (h : BX xs k S) (hb : busy xs S) : BX xs k (bstep xs k once S) := by
  refine ⟨h.inv.step hk hb, ?_, ?_⟩
  · rcases bstep_cases (once := once) hk hb with ⟨h1, h2, e⟩ | ⟨y, t, h1, h2, e⟩
    · rw [e]
      intro v
      have h3 := bput_cnt once S.b (xs.getD S.next 0) v
      have h4 := h.mono v
      show cnt v (bput once S.b (xs.getD S.next 0)) ≤ cnt v (xs.take (S.next + 1))
      rw [take_get h2, cnt_app]
      omega
    · rw [e]
      intro v
      have h4 := h.mono v
      rw [h1, show y :: t = [y] ++ t from rfl, cnt_app] at h4
      show cnt v t ≤ cnt v (xs.take S.next)
      omega
  · rcases bstep_cases (once := once) hk hb with ⟨h1, h2, e⟩ | ⟨y, t, h1, h2, e⟩
    · rw [e]
      intro x hx
      dsimp only at hx ⊢
      rw [take_get h2, List.mem_append, List.mem_singleton] at hx
      rw [bput_mem]
      rcases hx with hx | hx
      · rcases h.read x hx with h3 | h3
        · exact .inl h3
        · exact .inr (.inl h3)
      · exact .inr (.inr hx)
    · rw [e]
      intro x hx
      dsimp only at hx ⊢
      rcases h.read x hx with h3 | h3
      · exact .inl (List.mem_append_left _ h3)
      · rw [h1] at h3
        rcases List.mem_cons.1 h3 with rfl | h3
        · exact .inl (by simp)
        · exact .inr h3
theorem BX.start (xs : List Int) (k : Nat) : BX xs k bS0 := ⟨BInv.start xs k, fun v => by simp [bS0, cnt], fun x hx => by simp [bS0] at hx⟩
theorem bx_fin {xs : List Int} {k : Nat} (once : Bool) (hk : 1 ≤ k) : BX xs k (finB xs k once bS0) ∧ ¬ busy xs (finB xs k once bS0) :=
  fin_ind hk (fun S h hb => h.step hk hb) _ _ (Nat.le_refl _) (BX.start xs k)
theorem idle_end {xs : List Int} {k : Nat} {S : BS} (h : BInv xs k S) (hb : ¬ busy xs S) : S.b = [] ∧ S.next = xs.length := by
  unfold busy at hb
  have := h.read
  exact ⟨List.eq_nil_of_length_eq_zero (by omega), by omega⟩
/-- What is written so far is in order, and what comes is not less. -/
structure BSorted (xs : List Int) (S : BS) : Prop where
  pw : S.out.Pairwise (· ≤ ·)
  ob : ∀ o ∈ S.out, ∀ y ∈ S.b, o ≤ y
  ox : ∀ o ∈ S.out, ∀ (i : Nat) x, S.next ≤ i → xs[i]? = some x → o ≤ x
theorem BSorted.step {xs : List Int} {k : Nat} {once : Bool} {S : BS} (hk : 1 ≤ k) (hl : ∀ (i : Nat) x, xs[i]? = some x → cntUp xs x i < k) (hx : BX xs k S) (h : BSorted xs S) (hb : busy xs S) : BSorted xs (bstep xs k once S) := by
  rcases bstep_cases (once := once) hk hb with ⟨h1, h2, e⟩ | ⟨y, t, h1, h2, e⟩
  · rw [e]
    refine ⟨h.pw, fun o ho y hy => ?_, fun o ho i x hi hxi => h.ox o ho i x (by dsimp only at hi; omega) hxi⟩
    rcases (bput_mem _ _ _ _).1 hy with hy | hy
    · exact h.ob o ho y hy
    · refine h.ox o ho S.next y (Nat.le_refl _) ?_
      rw [hy, List.getD_eq_getElem?_getD, List.getElem?_eq_getElem h2]
      rfl
  · rw [e]
    have hp := asc_pair hx.inv.desc
    rw [h1] at hp
    have hyt := (List.pairwise_cons.1 hp).1
    refine ⟨?_, fun o ho z hz => ?_, fun o ho i x hi hxi => ?_⟩
    · refine List.pairwise_append.2 ⟨h.pw, by simp, fun o ho z hz => ?_⟩
      rw [List.mem_singleton] at hz
      subst hz
      exact h.ob o ho z (by rw [h1]; simp)
    · rcases List.mem_append.1 ho with ho | ho
      · exact h.ob o ho z (by rw [h1]; exact List.mem_cons_of_mem _ hz)
      · rw [List.mem_singleton] at ho
        subst ho
        exact hyt z hz
    · dsimp only at hi
      rcases List.mem_append.1 ho with ho | ho
      · exact h.ox o ho i x hi hxi
      · rw [List.mem_singleton] at ho
        subst ho
        have hil := (List.getElem?_eq_some_iff.1 hxi).1
        have h3 := h2 (by omega)
        refine Int.not_lt.1 fun hlt => ?_
        have h4 := hl i x hxi
        have h5 := cnt_take x xs hi
        have h6 := hx.mono x
        rw [cnt_all x (fun z hz => by
          rw [h1] at hz
          rcases List.mem_cons.1 hz with rfl | hz
          · exact hlt
          · have := hyt z hz; omega)] at h6
        rw [cntUp_cnt] at h4
        omega
theorem bOut_sorted {xs : List Int} {k : Nat} (once : Bool) (hk : 1 ≤ k) (hl : ∀ (i : Nat) x, xs[i]? = some x → cntUp xs x i < k) : (bOut xs k once).Pairwise (· ≤ ·) := by
  have := fin_ind (once := once) hk (I := fun S => BX xs k S ∧ BSorted xs S) (fun S h hb => ⟨h.1.step hk hb, h.2.step hk hl h.1 hb⟩) _ bS0 (Nat.le_refl _) ⟨BX.start xs k, ⟨List.Pairwise.nil, fun o ho => by simp [bS0] at ho, fun o ho => by simp [bS0] at ho⟩⟩
  exact this.1.2.pw
/-- What is written is already out of order, or will be. -/
def Bad (xs : List Int) (S : BS) : Prop := ¬ S.out.Pairwise (· ≤ ·) ∨ ∃ o ∈ S.out, ∃ z, (z ∈ S.b ∨ z ∈ xs.drop S.next) ∧ z < o
theorem Bad.step {xs : List Int} {k : Nat} {once : Bool} {S : BS} (hk : 1 ≤ k) (h : Bad xs S) (hb : busy xs S) : Bad xs (bstep xs k once S) := by
  rcases bstep_cases (once := once) hk hb with ⟨h1, h2, e⟩ | ⟨y, t, h1, h2, e⟩
  · rw [e]
    rcases h with h | ⟨o, ho, z, hz, hlt⟩
    · exact .inl h
    · refine .inr ⟨o, ho, z, ?_, hlt⟩
      rcases hz with hz | hz
      · exact .inl ((bput_mem _ _ _ _).2 (.inl hz))
      · rw [drop_get h2] at hz
        rcases List.mem_cons.1 hz with hz | hz
        · exact .inl ((bput_mem _ _ _ _).2 (.inr hz))
        · exact .inr hz
  · rw [e]
    rcases h with h | ⟨o, ho, z, hz, hlt⟩
    · exact .inl fun hp => h (List.pairwise_append.1 hp).1
    · rcases hz with hz | hz
      · rw [h1] at hz
        rcases List.mem_cons.1 hz with rfl | hz
        · refine .inl fun hp => ?_
          have := (List.pairwise_append.1 hp).2.2 o ho z (by simp)
          omega
        · exact .inr ⟨o, List.mem_append_left _ ho, z, .inl hz, hlt⟩
      · exact .inr ⟨o, List.mem_append_left _ ho, z, .inr hz, hlt⟩
theorem bad_run {xs : List Int} {k : Nat} {once : Bool} (hk : 1 ≤ k) : ∀ (f : Nat) (S : BS), bmu xs S ≤ f → BInv xs k S → Bad xs S → ¬ (runB xs k once f S).out.Pairwise (· ≤ ·) := by
  intro f S hf hi hB
  obtain ⟨⟨h1, h2⟩, h3⟩ := fin_ind (once := once) hk (I := fun S => BInv xs k S ∧ Bad xs S) (fun S h hb => ⟨h.1.step hk hb, h.2.step hk hb⟩) f S hf ⟨hi, hB⟩
  obtain ⟨e1, e2⟩ := idle_end h1 h3
  rcases h2 with h2 | ⟨o, ho, z, hz, hlt⟩
  · exact h2
  · rw [e1, e2, List.drop_length] at hz
    rcases hz with hz | hz <;> cases hz
/-- Nothing is lost. -/
theorem perm_step {xs : List Int} {k : Nat} {S : BS} (hk : 1 ≤ k) (h : (S.out ++ S.b).Perm (xs.take S.next)) (hb : busy xs S) : ((bstep xs k false S).out ++ (bstep xs k false S).b).Perm (xs.take (bstep xs k false S).next) := by
  rcases bstep_cases (once := false) hk hb with ⟨h1, h2, e⟩ | ⟨y, t, h1, h2, e⟩
  · rw [e]
    dsimp only
    rw [take_get h2, bput, if_neg (by simp)]
    refine ((srt_perm _).append_left S.out).trans ?_
    rw [← List.append_assoc]
    exact h.append_right _
  · rw [e]
    dsimp only
    rw [h1] at h
    rw [List.append_assoc]
    exact h
theorem unsorted_run {xs : List Int} {k : Nat} (hk : 1 ≤ k) {i : Nat} {x : Int} (hx : xs[i]? = some x) (hc : k ≤ cntUp xs x i) : ∀ (f : Nat) (S : BS), bmu xs S ≤ f → BInv xs k S → (S.out ++ S.b).Perm (xs.take S.next) → S.next ≤ i → ¬ (runB xs k false f S).out.Pairwise (· ≤ ·)
  | 0, S, hf, hi, hp, hn => by
    have := (List.getElem?_eq_some_iff.1 hx).1
    unfold bmu at hf
    omega
  | f + 1, S, hf, hi, hp, hn => by
    have hil := (List.getElem?_eq_some_iff.1 hx).1
    have hb : busy xs S := .inl (by omega)
    have hmu := bmu_step (once := false) hk hb
    have hps := perm_step hk hp hb
    have his := hi.step (once := false) hk hb
    rw [runB, if_pos hb]
    rcases bstep_cases (once := false) hk hb with ⟨h1, h2, e⟩ | ⟨y, t, h1, h2, e⟩
    · by_cases hni : S.next = i
      · refine bad_run hk f _ (by omega) his ?_
        rw [e]
        have h3 := cnt_perm x hp
        rw [hni, ← cntUp_cnt, cnt_app] at h3
        have h4 := cnt_le x S.b
        obtain ⟨o, ho, hlt⟩ := cnt_pos x (a := S.out) (by omega)
        refine .inr ⟨o, ho, x, .inl ?_, hlt⟩
        show x ∈ bput false S.b (xs.getD S.next 0)
        rw [bput_mem]
        right
        rw [hni, List.getD_eq_getElem?_getD, hx]
        rfl
      · refine unsorted_run hk hx hc f _ (by omega) his hps ?_
        rw [e]
        dsimp only
        omega
    · refine unsorted_run hk hx hc f _ (by omega) his hps ?_
      rw [e]
      exact hn
theorem rises_iff {xs : List Int} {k : Nat} (hk : 1 ≤ k) : adjB (bOut xs k false) = true ↔ ∀ (i : Nat) x, xs[i]? = some x → cntUp xs x i < k := by
  constructor
  · intro h i x hx
    refine Nat.lt_of_not_le fun hc => ?_
    exact unsorted_run hk hx hc _ bS0 (Nat.le_refl _) (BInv.start xs k) (by simp [bS0]) (Nat.zero_le _) (pair_adjB h)
  · intro h
    exact adjB_pair (bOut_sorted false hk h)
theorem mostOf_lt {xs : List Int} {k : Nat} : ∀ n, n ≤ xs.length → (mostOf xs n < (k : Int) ↔ 0 < k ∧ ∀ (i : Nat) x, i < n → xs[i]? = some x → cntUp xs x i < k)
  | 0, _ => by
    constructor
    · intro h; exact ⟨by rw [mostOf] at h; omega, fun i x hi => by omega⟩
    · intro h; rw [mostOf]; omega
  | n + 1, hn => by
    have hx : xs[n]? = some xs[n] := List.getElem?_eq_getElem (by omega)
    have ih := mostOf_lt (xs := xs) (k := k) n (by omega)
    rw [mostOf_succ hx]
    constructor
    · intro h
      have h1 := ih.1 (by omega)
      refine ⟨h1.1, fun i x hi hxi => ?_⟩
      by_cases e : i = n
      · subst e
        rw [hx] at hxi
        cases hxi
        omega
      · exact h1.2 i x (by omega) hxi
    · intro h
      have h1 := ih.2 ⟨h.1, fun i x hi hxi => h.2 i x (by omega) hxi⟩
      have h2 := h.2 n _ (by omega) hx
      omega
theorem mostOf_nonneg (xs : List Int) : ∀ n, 0 ≤ mostOf xs n
  | 0 => by rw [mostOf]; exact Int.le_refl _
  | n + 1 => by rw [mostOf]; have := mostOf_nonneg xs n; omega
theorem rises_late {xs : List Int} {k : Nat} (hk : 1 ≤ k) : adjB (bOut xs k false) = decide (mostOf xs xs.length < (k : Int)) := by
  rw [Bool.eq_iff_iff, rises_iff hk, decide_eq_true_eq, mostOf_lt xs.length (Nat.le_refl _)]
  constructor
  · intro h; exact ⟨by omega, fun i x _ hx => h i x hx⟩
  · intro h i x hx; exact h.2 i x (List.getElem?_eq_some_iff.1 hx).1 hx
theorem need_eq (xs : List Int) : needF xs 8 = if mostOf xs xs.length < 8 then mostOf xs xs.length + 1 else -1 := by
  have h0 := mostOf_nonneg xs xs.length
  have h : ∀ r : Nat, r ≤ 8 → mostOf xs xs.length ≥ ((8 - r : Nat) : Int) → needF xs r = if mostOf xs xs.length < 8 then mostOf xs xs.length + 1 else -1 := by
    intro r
    induction r with
    | zero => intro _ h; rw [needF, if_neg (by omega)]
    | succ r ih =>
      intro hr h
      rw [needF]
      by_cases h8 : r = 8
      · omega
      · rw [rises_late (show 1 ≤ 8 - r by omega)]
        by_cases hd : mostOf xs xs.length < ((8 - r : Nat) : Int)
        · rw [if_pos (decide_eq_true hd), if_pos (by omega)]
          omega
        · rw [if_neg (by simpa using hd)]
          exact ih (by omega) (by omega)
  exact h 8 (by omega) (by omega)
/-- The rows of the trace. -/
structure BTr (xs : List Int) (k : Nat) (S : BS) : Prop where
  inv : BInv xs k S
  perm : (S.out ++ S.b).Perm (xs.take S.next)
  row : ∀ (i : Nat) r, S.tr[i]? = some r → (∃ y t, r = y :: t ∧ S.out[i]? = some y) ∧ r.Pairwise (· ≤ ·) ∧ r.length = min k (xs.length - i)
theorem BTr.step {xs : List Int} {k : Nat} {S : BS} (hk : 1 ≤ k) (h : BTr xs k S) (hb : busy xs S) : BTr xs k (bstep xs k false S) := by
  refine ⟨h.inv.step hk hb, perm_step hk h.perm hb, ?_⟩
  rcases bstep_cases (once := false) hk hb with ⟨h1, h2, e⟩ | ⟨y, t, h1, h2, e⟩
  · rw [e]
    exact h.row
  · rw [e]
    intro i r hr
    dsimp only at hr ⊢
    have h3 := h.inv.trs
    by_cases hi : i < S.tr.length
    · rw [List.getElem?_append_left hi] at hr
      obtain ⟨⟨y', t', e', ho⟩, h5, h6⟩ := h.row i r hr
      exact ⟨⟨y', t', e', by rw [List.getElem?_append_left (by omega)]; exact ho⟩, h5, h6⟩
    · have hl := (List.getElem?_eq_some_iff.1 hr).1
      rw [List.length_append, List.length_singleton] at hl
      obtain rfl : i = S.tr.length := by omega
      rw [List.getElem?_append_right (by omega), Nat.sub_self] at hr
      have hr' : r = y :: t := by simpa using hr.symm
      subst hr'
      have hp := asc_pair h.inv.desc
      have hlen := h.perm.length_eq
      rw [List.length_append, List.length_take] at hlen
      have hroom := h.inv.room
      have hread := h.inv.read
      rw [h1] at hp hlen hroom h2
      refine ⟨⟨y, t, rfl, by rw [h3, List.getElem?_append_right (by omega), Nat.sub_self]; rfl⟩, hp, ?_⟩
      rw [h3]
      by_cases hn : S.next < xs.length
      · have := h2 hn; omega
      · omega
theorem btr_fin {xs : List Int} {k : Nat} (hk : 1 ≤ k) : BTr xs k (finB xs k false bS0) ∧ ¬ busy xs (finB xs k false bS0) :=
  fin_ind hk (fun S h hb => h.step hk hb) _ _ (Nat.le_refl _) ⟨BInv.start xs k, by simp [bS0], fun i r hr => by simp [bS0] at hr⟩
theorem bOut_perm {xs : List Int} {k : Nat} (hk : 1 ≤ k) : (bOut xs k false).Perm xs := by
  obtain ⟨h1, h2⟩ := btr_fin (xs := xs) hk
  obtain ⟨e1, e2⟩ := idle_end h1.inv h2
  have := h1.perm
  rw [e1, e2, List.append_nil, List.take_length] at this
  exact this
theorem bOut_read {xs : List Int} {k : Nat} (once : Bool) (hk : 1 ≤ k) {x : Int} (hx : x ∈ xs) : x ∈ bOut xs k once := by
  obtain ⟨h1, h2⟩ := bx_fin (xs := xs) once hk
  obtain ⟨e1, e2⟩ := idle_end h1.inv h2
  have := h1.read x (by rw [e2, List.take_length]; exact hx)
  rw [e1] at this
  rcases this with h | h
  · exact h
  · cases h
theorem bOut_from {xs : List Int} {k : Nat} (once : Bool) (hk : 1 ≤ k) {x : Int} (hx : x ∈ bOut xs k once) : x ∈ xs :=
  (runB_all (p := fun y => y ∈ xs) (once := once) (fun y hy => hy) hk (bmu xs bS0) bS0 ⟨fun y hy => by simp [bS0] at hy, fun y hy => by simp [bS0] at hy⟩).out x hx
theorem bOut_one (xs : List Int) : bOut xs 1 false = xs := by
  have := fin_ind (xs := xs) (once := false) (Nat.le_refl 1) (I := fun S => BInv xs 1 S ∧ S.out ++ S.b = xs.take S.next) (fun S h hb => by
    refine ⟨h.1.step (Nat.le_refl 1) hb, ?_⟩
    rcases bstep_cases (once := false) (Nat.le_refl 1) hb with ⟨h1, h2, e⟩ | ⟨y, t, h1, h2, e⟩
    · rw [e]
      have hb0 : S.b = [] := List.eq_nil_of_length_eq_zero (by omega)
      dsimp only
      have h3 := h.2
      rw [hb0, List.append_nil] at h3
      rw [take_get h2, hb0, bput, if_neg (by simp), ← h3]
      rfl
    · rw [e]
      dsimp only
      rw [← h.2, h1, List.append_assoc]
      rfl) (bmu xs bS0) bS0 (Nat.le_refl _) ⟨BInv.start xs 1, rfl⟩
  obtain ⟨e1, e2⟩ := idle_end this.1.1 this.2
  have h := this.1.2
  rw [e1, e2, List.append_nil, List.take_length] at h
  exact h
theorem late_zero {xs : List Int} (h : xs.Pairwise (· ≤ ·)) (i : Nat) (x : Int) (hx : xs[i]? = some x) : cntUp xs x i = 0 := by
  rw [cntUp_cnt]
  refine Nat.eq_zero_of_not_pos fun hp => ?_
  obtain ⟨y, hy, hlt⟩ := cnt_pos x hp
  obtain ⟨j, hj⟩ := List.getElem?_of_mem hy
  rw [List.getElem?_take] at hj
  split at hj
  · rename_i hji
    obtain ⟨h1, rfl⟩ := List.getElem?_eq_some_iff.1 hj
    obtain ⟨h2, rfl⟩ := List.getElem?_eq_some_iff.1 hx
    have := List.pairwise_iff_getElem.1 h j i h1 h2 hji
    omega
  · cases hj
/-- All that the law asks. -/
structure Bufs (L : List Int) (K : Nat) : Prop where
  srt : srt (bOut L K false) = srt L
  late0 : 0 ≤ mostOf L L.length
  need : needF L 8 = if mostOf L L.length < 8 then mostOf L L.length + 1 else -1
  rise : adjB (bOut L K false) = (decide (0 < needF L 8) && decide (needF L 8 ≤ (K : Int)))
  len : (bTr L K false).length = L.length
  len2 : (bOut L K false).length = L.length
  row : ∀ (i : Nat) r, (bTr L K false)[i]? = some r → (∃ y t, r = y :: t ∧ (bOut L K false)[i]? = some y) ∧ adjB r = true ∧ r.length ≤ K ∧ r.length = min K (L.length - i)
  two : Go.Proofs.Ytlbakbachcpifaa.srt (bOut (bOut L K false) K false) = Go.Proofs.Ytlbakbachcpifaa.srt L
  twos : adjB (bOut L K false) = true → bOut (bOut L K false) K false = bOut L K false
  dfrom : ∀ x ∈ bOut L K true, x ∈ L
  dread : ∀ x ∈ L, x ∈ bOut L K true
  dlen : (bOut L K true).length ≤ L.length
  dsort : 0 < needF L 8 → needF L 8 ≤ (K : Int) → (bOut L K true).Pairwise (· ≤ ·)
  one : bOut L 1 false = L
  eight : L.length ≤ 8 → adjB (bOut L 8 false) = true
theorem bufs_mk (L : List Int) {K : Nat} (hK : 1 ≤ K) (hK8 : K ≤ 8) : Bufs L K := by
  have h0 := mostOf_nonneg L L.length
  have hn := need_eq L
  have hp := bOut_perm (xs := L) hK
  obtain ⟨ht, hb⟩ := btr_fin (xs := L) hK
  have hperm2 := bOut_perm (xs := bOut L K false) hK
  refine ⟨srt_congr hp, h0, hn, ?_, ?_, hp.length_eq, ?_, ?_, ?_, fun x hx => bOut_from true hK hx, fun x hx => bOut_read true hK hx, bOut_length hK, ?_, bOut_one L, ?_⟩
  · rw [rises_late hK, hn]
    by_cases h8 : mostOf L L.length < 8
    · rw [if_pos h8, Bool.eq_iff_iff, Bool.and_eq_true, decide_eq_true_eq, decide_eq_true_eq, decide_eq_true_eq]
      omega
    · rw [if_neg h8, Bool.eq_iff_iff, Bool.and_eq_true, decide_eq_true_eq, decide_eq_true_eq, decide_eq_true_eq]
      omega
  · have h1 := ht.inv.trs
    have h2 := hp.length_eq
    show (finB L K false bS0).tr.length = L.length
    rw [h1]
    exact h2
  · intro i r hr
    obtain ⟨h1, h2, h3⟩ := ht.row i r hr
    exact ⟨h1, adjB_pair h2, ht.inv.rows r (List.mem_of_getElem? hr), h3⟩
  · rw [srt_congr hperm2, srt_congr hp]
  · intro ha
    have hs := pair_adjB ha
    have h1 := bOut_sorted (xs := bOut L K false) false hK (fun i x hx => by rw [late_zero hs i x hx]; omega)
    rw [srt_unique hperm2 h1, ← srt_unique (List.Perm.refl _) hs]
  · intro h1 h2
    rw [hn] at h1 h2
    refine bOut_sorted true hK fun i x hx => ?_
    have h3 : mostOf L L.length < (K : Int) := by
      split at h1 <;> omega
    exact ((mostOf_lt L.length (Nat.le_refl _)).1 h3).2 i x (List.getElem?_eq_some_iff.1 hx).1 hx
  · intro h8
    refine (rises_iff (by omega)).2 fun i x hx => ?_
    have h1 := (List.getElem?_eq_some_iff.1 hx).1
    have h2 := cnt_le x (L.take i)
    rw [List.length_take] at h2
    rw [cntUp_cnt]
    omega

end Go.Proofs.Ytlbakbachcpifaa
