/- Plain laws: what a stable sort is, and how two sorted blocks are merged in place. -/
import Derived.Test.YtdagkgkllgpeeaaDoorPlainStable
namespace Go.Proofs.YtdagkgkllgpeeaaDoor
set_option linter.unusedVariables false
set_option linter.unusedSimpArgs false

section
variable {key : Int → Int}
def KAsc (key : Int → Int) (xs : List Int) : Prop := xs.Pairwise fun a b => key a ≤ key b
/-- The same numbers, and those of equal keys in the same order. -/
def Stab (key : Int → Int) (xs ys : List Int) : Prop := ∀ v, xs.filter (fun x => decide (key x = v)) = ys.filter (fun x => decide (key x = v))
theorem Stab.refl (xs : List Int) : Stab key xs xs := fun _ => rfl
theorem Stab.symm {xs ys : List Int} (h : Stab key xs ys) : Stab key ys xs := fun v => (h v).symm
theorem Stab.trans {xs ys zs : List Int} (h : Stab key xs ys) (k : Stab key ys zs) : Stab key xs zs := fun v => (h v).trans (k v)
theorem Stab.app {a b c d : List Int} (h : Stab key a b) (k : Stab key c d) : Stab key (a ++ c) (b ++ d) := fun v => by rw [List.filter_append, List.filter_append, h v, k v]
theorem Stab.mem {xs ys : List Int} (h : Stab key xs ys) (x : Int) : x ∈ xs ↔ x ∈ ys := by
  have e : ∀ l : List Int, x ∈ l ↔ x ∈ l.filter (fun y => decide (key y = key x)) := fun l => by simp [List.mem_filter]
  rw [e xs, e ys, h (key x)]
theorem Stab.swap {u v : List Int} (h : ∀ x ∈ u, ∀ y ∈ v, key y < key x) : Stab key (u ++ v) (v ++ u) := by
  intro q
  rw [List.filter_append, List.filter_append]
  by_cases hu : u.filter (fun x => decide (key x = q)) = []
  · rw [hu]; simp
  · have hv : v.filter (fun x => decide (key x = q)) = [] := by
      rw [List.filter_eq_nil_iff]
      intro y hy hk
      apply hu
      rw [List.filter_eq_nil_iff]
      intro x hx hk2
      have := h x hx y hy
      have := of_decide_eq_true hk
      have := of_decide_eq_true hk2
      omega
    rw [hv]; simp
theorem Stab.length {xs ys : List Int} (h : Stab key xs ys) : xs.length = ys.length := by
  have : ∀ (n : Nat) (xs ys : List Int), xs.length ≤ n → Stab key xs ys → xs.length = ys.length := by
    intro n
    induction n with
    | zero =>
      intro xs ys hl h
      have hx := List.eq_nil_of_length_eq_zero (Nat.le_zero.1 hl)
      subst hx
      cases ys with
      | nil => rfl
      | cons y t => exact absurd ((h.mem y).2 (by simp)) (by simp)
    | succ n ih =>
      intro xs ys hl h
      cases xs with
      | nil =>
        cases ys with
        | nil => rfl
        | cons y t => exact absurd ((h.mem y).2 (by simp)) (by simp)
      | cons x t =>
        have hmem := (h.mem x).1 (by simp)
        have e : ∀ l : List Int, l.length = (l.filter (fun y => decide (key y = key x))).length + (l.filter (fun y => !decide (key y = key x))).length := fun l => by
          induction l with
          | nil => rfl
          | cons a l ih =>
            by_cases ha : key a = key x
            · simp [ha, ih]; omega
            · simp [ha, ih]; omega
        have h2 : Stab key ((x :: t).filter (fun y => !decide (key y = key x))) (ys.filter (fun y => !decide (key y = key x))) := by
          intro v
          rw [List.filter_filter, List.filter_filter]
          by_cases hv : v = key x
          · subst hv
            rw [List.filter_eq_nil_iff.2 (by intro a _; simp), List.filter_eq_nil_iff.2 (by intro a _; simp)]
          · have e2 : ∀ l : List Int, l.filter (fun a => decide (key a = v) && !decide (key a = key x)) = l.filter (fun a => decide (key a = v)) := fun l => by
              congr 1
              funext a
              by_cases ha : key a = v
              · simp [ha, hv]
              · simp [ha]
            rw [e2, e2]
            exact h v
        have h3 := ih _ _ (by
          have h1 : ((x :: t).filter (fun y => !decide (key y = key x))) = t.filter (fun y => !decide (key y = key x)) := by simp
          have h4 := List.length_filter_le (fun y => !decide (key y = key x)) t
          rw [h1]
          simp only [List.length_cons] at hl
          omega) h2
        rw [e (x :: t), e ys, h3, h (key x)]
  exact this xs.length xs ys (Nat.le_refl _) h
theorem asc_unique : ∀ {xs ys : List Int}, KAsc key xs → KAsc key ys → Stab key xs ys → xs = ys
  | [], ys, _, _, h => by
    cases ys with
    | nil => rfl
    | cons y t => exact absurd ((h.mem y).2 (by simp)) (by simp)
  | x :: t, [], _, _, h => absurd ((h.mem x).1 (by simp)) (by simp)
  | x :: t, y :: u, hx, hy, h => by
    obtain ⟨hx1, hx2⟩ := List.pairwise_cons.1 hx
    obtain ⟨hy1, hy2⟩ := List.pairwise_cons.1 hy
    have h1 : key y ≤ key x := by
      rcases List.mem_cons.1 ((h.mem x).1 (by simp)) with e | e
      · rw [e]; exact Int.le_refl _
      · exact hy1 x e
    have h2 : key x ≤ key y := by
      rcases List.mem_cons.1 ((h.mem y).2 (by simp)) with e | e
      · rw [e]; exact Int.le_refl _
      · exact hx1 y e
    have he : key x = key y := by omega
    have h3 := h (key x)
    rw [List.filter_cons, List.filter_cons, if_pos (by simp), if_pos (by simp [he])] at h3
    injection h3 with h4 h5
    subst h4
    have h6 : Stab key t u := fun v => by
      by_cases hv : key x = v
      · subst hv; exact h5
      · have := h v
        rw [List.filter_cons, List.filter_cons, if_neg (by simpa using hv), if_neg (by simpa using hv)] at this
        exact this
    rw [asc_unique hx2 hy2 h6]
theorem insK_filter (v x : Int) : ∀ s : List Int, (insK key s x).filter (fun y => decide (key y = v)) = (if key x = v then [x] else []) ++ s.filter (fun y => decide (key y = v))
  | [] => by
    by_cases h : key x = v <;> simp [insK, h]
  | y :: t => by
    have ih := insK_filter v x t
    unfold insK
    split
    · rename_i hlt
      rw [List.filter_cons, ih]
      by_cases h1 : key x = v
      · have h2 : ¬ key y = v := by omega
        simp [h1, h2]
      · by_cases h2 : key y = v <;> simp [h1, h2]
    · by_cases h1 : key x = v <;> by_cases h2 : key y = v <;> simp [h1, h2]
theorem sortK_filter (v : Int) : ∀ (xs s : List Int), (xs.foldl (insK key) s).filter (fun y => decide (key y = v)) = (xs.filter (fun y => decide (key y = v))).reverse ++ s.filter (fun y => decide (key y = v))
  | [], s => by simp
  | x :: t, s => by
    rw [List.foldl_cons, sortK_filter v t, insK_filter]
    by_cases h1 : key x = v <;> simp [h1]
theorem srtS_stab (xs : List Int) : Stab key (srtS key xs) xs := by
  intro v
  rw [srtS, List.filter_reverse, sortK, sortK_filter]
  simp
theorem insK_mem (x y : Int) : ∀ s : List Int, y ∈ insK key s x ↔ y = x ∨ y ∈ s
  | [] => by simp [insK]
  | z :: t => by
    unfold insK
    split
    · rw [List.mem_cons, insK_mem x y t, List.mem_cons]
      constructor
      · rintro (h | h | h) <;> simp [h]
      · rintro (h | h | h) <;> simp [h]
    · simp
theorem insK_desc (x : Int) : ∀ s : List Int, s.Pairwise (fun a b => key b ≤ key a) → (insK key s x).Pairwise (fun a b => key b ≤ key a)
  | [], _ => by simp [insK]
  | y :: t, h => by
    obtain ⟨h1, h2⟩ := List.pairwise_cons.1 h
    unfold insK
    split
    · rename_i hlt
      refine List.pairwise_cons.2 ⟨fun z hz => ?_, insK_desc x t h2⟩
      rcases (insK_mem x z t).1 hz with rfl | hz
      · omega
      · exact h1 z hz
    · rename_i hlt
      refine List.pairwise_cons.2 ⟨fun z hz => ?_, h⟩
      rcases List.mem_cons.1 hz with rfl | hz
      · omega
      · have := h1 z hz; omega
theorem srtS_asc (xs : List Int) : KAsc key (srtS key xs) := by
  have : ∀ (xs s : List Int), s.Pairwise (fun a b => key b ≤ key a) → (xs.foldl (insK key) s).Pairwise (fun a b => key b ≤ key a) := by
    intro xs
    induction xs with
    | nil => intro s h; exact h
    | cons x t ih => intro s h; exact ih _ (insK_desc x s h)
  rw [KAsc, srtS, List.pairwise_reverse]
  exact this xs [] .nil
theorem srtS_unique {xs ys : List Int} (h : KAsc key ys) (hs : Stab key ys xs) : ys = srtS key xs := asc_unique h (srtS_asc xs) (hs.trans (srtS_stab xs).symm)
theorem srtS_self {xs : List Int} (h : KAsc key xs) : srtS key xs = xs := (srtS_unique h (Stab.refl _)).symm
theorem srtS_congr {xs ys : List Int} (h : Stab key xs ys) : srtS key xs = srtS key ys := srtS_unique (srtS_asc xs) ((srtS_stab xs).trans h)
theorem srtS_mem (xs : List Int) (x : Int) : x ∈ srtS key xs ↔ x ∈ xs := (srtS_stab xs).mem x
theorem asc_app {a b : List Int} (ha : KAsc key a) (hb : KAsc key b) (h : ∀ x ∈ a, ∀ y ∈ b, key x ≤ key y) : KAsc key (a ++ b) := List.pairwise_append.2 ⟨ha, hb, h⟩
/-- The two halves, when the middle blocks have changed places. -/
theorem srtS_halves {A1 U V B2 : List Int} (hA : KAsc key (A1 ++ U)) (hB : KAsc key (V ++ B2)) (h1 : ∀ x ∈ A1, ∀ y ∈ B2, key x ≤ key y) (h2 : ∀ x ∈ U, ∀ y ∈ V, key y < key x) :
    srtS key ((A1 ++ U) ++ (V ++ B2)) = srtS key (A1 ++ V) ++ srtS key (U ++ B2) := by
  obtain ⟨a1, a2, a3⟩ := List.pairwise_append.1 hA
  obtain ⟨b1, b2, b3⟩ := List.pairwise_append.1 hB
  refine (srtS_unique (asc_app (srtS_asc _) (srtS_asc _) fun x hx y hy => ?_) ?_).symm
  · rw [srtS_mem, List.mem_append] at hx hy
    rcases hx with hx | hx <;> rcases hy with hy | hy
    · exact a3 x hx y hy
    · exact h1 x hx y hy
    · exact Int.le_of_lt (h2 y hy x hx)
    · exact b3 x hx y hy
  · refine ((srtS_stab _).app (srtS_stab _)).trans ?_
    have e1 : (A1 ++ V) ++ (U ++ B2) = A1 ++ ((V ++ U) ++ B2) := by simp
    have e2 : (A1 ++ U) ++ (V ++ B2) = A1 ++ ((U ++ V) ++ B2) := by simp
    rw [e1, e2]
    exact (Stab.refl A1).app (((Stab.swap h2).symm).app (Stab.refl B2))
theorem srtS_first {x : Int} {B1 B2 : List Int} (hB : KAsc key (B1 ++ B2)) (h1 : ∀ y ∈ B1, key y < key x) (h2 : ∀ y ∈ B2, key x ≤ key y) : srtS key ([x] ++ (B1 ++ B2)) = B1 ++ x :: B2 := by
  obtain ⟨b1, b2, b3⟩ := List.pairwise_append.1 hB
  refine (srtS_unique (asc_app b1 (List.pairwise_cons.2 ⟨h2, b2⟩) fun y hy z hz => ?_) ?_).symm
  · rcases List.mem_cons.1 hz with rfl | hz
    · exact Int.le_of_lt (h1 y hy)
    · exact b3 y hy z hz
  · have e1 : B1 ++ x :: B2 = (B1 ++ [x]) ++ B2 := by simp
    have e2 : [x] ++ (B1 ++ B2) = ([x] ++ B1) ++ B2 := by simp
    rw [e1, e2]
    exact (Stab.swap (fun z hz y hy => by simp at hz; subst hz; exact h1 y hy)).symm.app (Stab.refl B2)
theorem srtS_last {x : Int} {A1 A2 : List Int} (hA : KAsc key (A1 ++ A2)) (h1 : ∀ y ∈ A1, key y ≤ key x) (h2 : ∀ y ∈ A2, key x < key y) : srtS key ((A1 ++ A2) ++ [x]) = A1 ++ x :: A2 := by
  obtain ⟨b1, b2, b3⟩ := List.pairwise_append.1 hA
  refine (srtS_unique (asc_app b1 (List.pairwise_cons.2 ⟨fun y hy => Int.le_of_lt (h2 y hy), b2⟩) fun y hy z hz => ?_) ?_).symm
  · rcases List.mem_cons.1 hz with rfl | hz
    · exact h1 y hy
    · exact b3 y hy z hz
  · have e1 : A1 ++ x :: A2 = A1 ++ ([x] ++ A2) := by simp
    have e2 : (A1 ++ A2) ++ [x] = A1 ++ (A2 ++ [x]) := by simp
    rw [e1, e2]
    exact (Stab.refl A1).app (Stab.swap (fun z hz y hy => by simp at hy; subst hy; exact h2 z hz)).symm
theorem srtS_app (xs ys : List Int) : srtS key (srtS key xs ++ srtS key ys) = srtS key (xs ++ ys) := srtS_congr ((srtS_stab xs).app (srtS_stab ys))
theorem srtS_snoc (xs : List Int) (x : Int) : srtS key (srtS key xs ++ [x]) = srtS key (xs ++ [x]) := srtS_congr ((srtS_stab xs).app (Stab.refl [x]))
theorem asc_get {xs : List Int} (h : KAsc key xs) {i j : Nat} {x y : Int} (hx : xs[i]? = some x) (hy : xs[j]? = some y) (hij : i ≤ j) : key x ≤ key y := by
  obtain ⟨h1, rfl⟩ := List.getElem?_eq_some_iff.1 hx
  obtain ⟨h2, rfl⟩ := List.getElem?_eq_some_iff.1 hy
  by_cases e : i = j
  · subst e; exact Int.le_refl _
  · exact List.pairwise_iff_getElem.1 h i j h1 h2 (by omega)
theorem mem_take_get {xs : List Int} {k : Nat} {x : Int} (h : x ∈ xs.take k) : ∃ i, i < k ∧ xs[i]? = some x := by
  obtain ⟨i, hi⟩ := List.getElem?_of_mem h
  rw [List.getElem?_take] at hi
  split at hi
  · exact ⟨i, by assumption, hi⟩
  · cases hi
theorem mem_drop_get {xs : List Int} {k : Nat} {x : Int} (h : x ∈ xs.drop k) : ∃ i, k ≤ i ∧ xs[i]? = some x := by
  obtain ⟨i, hi⟩ := List.getElem?_of_mem h
  rw [List.getElem?_drop] at hi
  exact ⟨k + i, by omega, hi⟩
/-- Where the search by symmetric comparisons ends: s of the first block stay, t of the second one come ahead. -/
theorem sym_cut {A B : List Int} (hA : KAsc key A) (hB : KAsc key B) (s t : Nat) (hs : s ≤ A.length) (ht : t ≤ B.length)
    (h1 : s = 0 ∨ t = B.length ∨ ∃ x y, A[s - 1]? = some x ∧ B[t]? = some y ∧ key x ≤ key y)
    (h2 : s = A.length ∨ t = 0 ∨ ∃ x y, A[s]? = some x ∧ B[t - 1]? = some y ∧ key y < key x) :
    srtS key (A ++ B) = srtS key (A.take s ++ B.take t) ++ srtS key (A.drop s ++ B.drop t) := by
  have hA' : KAsc key (A.take s ++ A.drop s) := by rw [List.take_append_drop]; exact hA
  have hB' : KAsc key (B.take t ++ B.drop t) := by rw [List.take_append_drop]; exact hB
  have := srtS_halves hA' hB' (fun x hx y hy => ?_) (fun x hx y hy => ?_)
  · rwa [List.take_append_drop, List.take_append_drop] at this
  · obtain ⟨i, hi, hxi⟩ := mem_take_get hx
    obtain ⟨j, hj, hyj⟩ := mem_drop_get hy
    have hjl := (List.getElem?_eq_some_iff.1 hyj).1
    rcases h1 with h1 | h1 | ⟨p, q, hp, hq, hpq⟩
    · omega
    · omega
    · have e1 := asc_get hA hxi hp (by omega)
      have e2 := asc_get hB hq hyj hj
      omega
  · obtain ⟨i, hi, hxi⟩ := mem_drop_get hx
    obtain ⟨j, hj, hyj⟩ := mem_take_get hy
    have hil := (List.getElem?_eq_some_iff.1 hxi).1
    rcases h2 with h2 | h2 | ⟨p, q, hp, hq, hpq⟩
    · omega
    · omega
    · have e1 := asc_get hA hp hxi hi
      have e2 := asc_get hB hyj hq (by omega)
      omega
end

end Go.Proofs.YtdagkgkllgpeeaaDoor
