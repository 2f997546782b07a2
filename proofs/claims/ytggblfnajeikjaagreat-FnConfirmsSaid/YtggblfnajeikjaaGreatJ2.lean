/- Joined texts of the proof: PlainSort, PlainBuf, PlainStable, PlainMerge, PlainLate, PlainPerm. -/
import Derived.Lib.Hide
import Derived.Test.YtggblfnajeikjaaGreatJ1
namespace Go.Proofs.YtggblfnajeikjaaGreat
set_option linter.unusedVariables false

/-- x goes in from the great end; the list stands with the greatest number first. -/
def insR : List Int → Int → List Int
  | [], x => [x]
  | y :: t, x => if x < y then y :: insR t x else x :: y :: t
def sortR (xs : List Int) : List Int := xs.foldl insR []
/-- The numbers in order. -/
def srt (xs : List Int) : List Int := (sortR xs).reverse

theorem insR_length (s : List Int) (x : Int) : (insR s x).length = s.length + 1 := by
  induction s with
  | nil => rfl
  | cons y t ih =>
    simp only [insR]
    split
    · simp only [List.length_cons, ih]
    · rfl
theorem insR_mem (s : List Int) (x y : Int) : y ∈ insR s x ↔ y = x ∨ y ∈ s := by
  induction s with
  | nil => simp [insR]
  | cons z t ih =>
    simp only [insR]
    split
    · simp only [List.mem_cons, ih]
      constructor
      · rintro (h | h | h) <;> simp [h]
      · rintro (h | h | h) <;> simp [h]
    · simp only [List.mem_cons]
def Desc (s : List Int) : Prop := s.Pairwise (fun a b => b ≤ a)
theorem insR_desc {s : List Int} (h : Desc s) (x : Int) : Desc (insR s x) := by
  induction s with
  | nil => simp [insR, Desc]
  | cons y t ih =>
    have h1 := List.pairwise_cons.1 h
    simp only [insR]
    split
    · rename_i hx
      refine List.pairwise_cons.2 ⟨fun a ha => ?_, ih h1.2⟩
      rcases (insR_mem t x a).1 ha with rfl | ha
      · omega
      · exact h1.1 a ha
    · rename_i hx
      refine List.pairwise_cons.2 ⟨fun a ha => ?_, h⟩
      rcases List.mem_cons.1 ha with rfl | ha
      · omega
      · have := h1.1 a ha; omega
theorem sortR_snoc (xs : List Int) (x : Int) : sortR (xs ++ [x]) = insR (sortR xs) x := by simp [sortR]
theorem sortR_desc (xs : List Int) : Desc (sortR xs) := by
  have : ∀ (s : List Int), Desc s → Desc (xs.foldl insR s) := by
    induction xs with
    | nil => intro s h; exact h
    | cons x t ih => intro s h; exact ih _ (insR_desc h x)
  exact this [] (by simp [Desc])
theorem foldl_length (xs : List Int) : ∀ s : List Int, (xs.foldl insR s).length = s.length + xs.length := by
  induction xs with
  | nil => intro s; rfl
  | cons x t ih => intro s; rw [List.foldl_cons, ih, insR_length, List.length_cons]; omega
theorem srt_length (xs : List Int) : (srt xs).length = xs.length := by
  simp only [srt, sortR, List.length_reverse, foldl_length, List.length_nil]; omega
theorem foldl_mem (xs : List Int) (y : Int) : ∀ s : List Int, y ∈ xs.foldl insR s ↔ y ∈ s ∨ y ∈ xs := by
  induction xs with
  | nil => intro s; simp
  | cons x t ih =>
    intro s
    rw [List.foldl_cons, ih, insR_mem, List.mem_cons]
    constructor
    · rintro ((h | h) | h) <;> simp [h]
    · rintro (h | h | h) <;> simp [h]
theorem srt_mem (xs : List Int) (y : Int) : y ∈ srt xs ↔ y ∈ xs := by
  simp only [srt, sortR, List.mem_reverse, foldl_mem, List.not_mem_nil, false_or]
/-- A list in order stays as it is. -/
theorem insR_top {s : List Int} {x : Int} (h : ∀ y ∈ s, y ≤ x) : insR s x = x :: s := by
  cases s with
  | nil => rfl
  | cons y t =>
    have := h y (List.mem_cons_self ..)
    simp only [insR]
    rw [if_neg (by omega)]
theorem foldl_asc (xs : List Int) : ∀ s : List Int, Desc (xs.reverse ++ s) → xs.foldl insR s = xs.reverse ++ s := by
  induction xs with
  | nil => intro s _; rfl
  | cons x t ih =>
    intro s h
    rw [List.reverse_cons, List.append_assoc, List.singleton_append] at h
    have h1 : Desc (x :: s) := (List.pairwise_append.1 h).2.1
    rw [List.foldl_cons, insR_top (List.pairwise_cons.1 h1).1, ih _ h, List.reverse_cons, List.append_assoc, List.singleton_append]
theorem srt_asc {b : List Int} (h : Desc b.reverse) : srt b = b := by
  have := foldl_asc b [] (by simpa using h)
  rw [List.append_nil] at this
  simp only [srt, sortR, this, List.reverse_reverse]
theorem srt_desc (xs : List Int) : Desc (srt xs).reverse := by
  rw [srt, List.reverse_reverse]
  exact sortR_desc xs
theorem srt_srt (xs : List Int) : srt (srt xs) = srt xs := srt_asc (srt_desc xs)
theorem sortR_srt (xs : List Int) : sortR (srt xs) = sortR xs := by
  have := congrArg List.reverse (srt_srt xs)
  simpa only [srt, List.reverse_reverse] using this
theorem srt_app (xs : List Int) (x : Int) : srt (srt xs ++ [x]) = srt (xs ++ [x]) := by
  simp only [srt, sortR_snoc]
  rw [← srt, sortR_srt]
theorem desc_tail {x : Int} {b : List Int} (h : Desc (x :: b).reverse) : Desc b.reverse := by
  rw [List.reverse_cons] at h
  exact (List.pairwise_append.1 h).1

/-- Number j sinks to its place among those before it. -/
def sink (ys : List Int) : Nat → List Int
  | 0 => ys
  | j + 1 => if ys.getD (j + 1) 0 < ys.getD j 0 then sink ((ys.set (j + 1) (ys.getD j 0)).set j (ys.getD (j + 1) 0)) j else ys
theorem sink_length (ys : List Int) (j : Nat) : (sink ys j).length = ys.length := by
  induction j generalizing ys with
  | zero => rfl
  | succ j ih =>
    simp only [sink]
    split
    · rw [ih]; simp
    · rfl
theorem sink_ins : ∀ (s : List Int) (x : Int) (rest : List Int), sink (s.reverse ++ x :: rest) s.length = (insR s x).reverse ++ rest
  | [], x, rest => rfl
  | y :: t, x, rest => by
    have e : (y :: t).reverse ++ x :: rest = t.reverse ++ y :: x :: rest := by simp
    have g0 : (t.reverse ++ y :: x :: rest).getD t.length 0 = y := by simp [List.getD_eq_getElem?_getD]
    have g1 : (t.reverse ++ y :: x :: rest).getD (t.length + 1) 0 = x := by
      rw [List.getD_eq_getElem?_getD, List.getElem?_append_right (by simp)]
      simp
    have g2 : ((t.reverse ++ y :: x :: rest).set (t.length + 1) y).set t.length x = t.reverse ++ x :: y :: rest := by
      rw [List.set_append_right _ _ (by simp), List.set_append_right _ _ (by simp)]
      simp
    rw [e, List.length_cons, sink, g0, g1, insR]
    split
    · rw [g2, sink_ins t x (y :: rest)]
      simp
    · simp
/-- The first k + 1 numbers are in order. -/
def srtK (xs : List Int) : Nat → List Int
  | 0 => xs
  | k + 1 => sink (srtK xs k) (k + 1)
theorem srtK_length (xs : List Int) (k : Nat) : (srtK xs k).length = xs.length := by
  induction k with
  | zero => rfl
  | succ k ih => rw [srtK, sink_length, ih]
theorem sortR_length (xs : List Int) : (sortR xs).length = xs.length := by
  have := srt_length xs
  simpa only [srt, List.length_reverse] using this
theorem srtK_eq (xs : List Int) : ∀ k, k < xs.length → srtK xs k = srt (xs.take (k + 1)) ++ xs.drop (k + 1)
  | 0, h => by
    cases xs with
    | nil => simp at h
    | cons x t => simp [srtK, srt, sortR, insR]
  | k + 1, h => by
    have ih := srtK_eq xs k (by omega)
    have hd : xs.drop (k + 1) = xs[k + 1] :: xs.drop (k + 1 + 1) := List.drop_eq_getElem_cons h
    have ht : xs.take (k + 1 + 1) = xs.take (k + 1) ++ [xs[k + 1]] := List.take_succ_eq_append_getElem h
    have hl : (sortR (xs.take (k + 1))).length = k + 1 := by rw [sortR_length, List.length_take]; omega
    have := sink_ins (sortR (xs.take (k + 1))) xs[k + 1] (xs.drop (k + 1 + 1))
    rw [hl] at this
    rw [srtK, ih, srt, hd, this, srt, ht, sortR_snoc]
theorem srtK_all {xs : List Int} {n : Nat} (h : xs.length = n) : srtK xs (n - 1) = srt xs := by
  by_cases h0 : n = 0
  · subst h0
    have : xs = [] := List.eq_nil_of_length_eq_zero h
    subst this
    rfl
  · rw [srtK_eq xs (n - 1) (by omega), show n - 1 + 1 = n by omega, ← h, List.take_length, List.drop_length, List.append_nil]

end Go.Proofs.YtggblfnajeikjaaGreat

namespace Go.Proofs.YtggblfnajeikjaaGreat
set_option linter.unusedVariables false

/-- A run of a buffer: how many numbers are read, what is in it, what is written, what was in it before each. -/
structure BS where
  next : Nat
  b : List Int
  out : List Int
  tr : List (List Int)
def busy (xs : List Int) (S : BS) : Prop := S.next < xs.length ∨ 0 < S.b.length
instance (xs : List Int) (S : BS) : Decidable (busy xs S) := inferInstanceAs (Decidable (_ ∨ _))
def bput (once : Bool) (b : List Int) (x : Int) : List Int := if once = true ∧ x ∈ b then b else srt (b ++ [x])
def bstep (xs : List Int) (k : Nat) (once : Bool) (S : BS) : BS :=
  if S.b.length < k ∧ S.next < xs.length then ⟨S.next + 1, bput once S.b (xs.getD S.next 0), S.out, S.tr⟩
  else ⟨S.next, S.b.tail, S.out ++ [S.b.headD 0], S.tr ++ [S.b]⟩
def bmu (xs : List Int) (S : BS) : Nat := 2 * (xs.length - S.next) + S.b.length
theorem bput_length (once : Bool) (b : List Int) (x : Int) : (bput once b x).length ≤ b.length + 1 := by
  unfold bput
  split
  · omega
  · rw [srt_length]; simp
theorem bmu_step {xs : List Int} {k : Nat} {once : Bool} {S : BS} (hk : 1 ≤ k) (hb : busy xs S) : bmu xs (bstep xs k once S) < bmu xs S := by
  unfold bstep bmu busy at *
  split
  · rename_i h
    have := bput_length once S.b (xs.getD S.next 0)
    dsimp only
    omega
  · rename_i h
    dsimp only
    rw [List.length_tail]
    omega
def runB (xs : List Int) (k : Nat) (once : Bool) : Nat → BS → BS
  | 0, S => S
  | f + 1, S => if busy xs S then runB xs k once f (bstep xs k once S) else S
def finB (xs : List Int) (k : Nat) (once : Bool) (S : BS) : BS := runB xs k once (bmu xs S) S
theorem runB_fuel {xs : List Int} {k : Nat} {once : Bool} (hk : 1 ≤ k) : ∀ (f : Nat) (S : BS), bmu xs S ≤ f → runB xs k once f S = finB xs k once S := by
  intro f
  induction f using Nat.strongRecOn with
  | _ f ih =>
    intro S hS
    match f, ih with
    | 0, _ => rw [finB, show bmu xs S = 0 by omega]
    | f + 1, ih =>
      by_cases hb : busy xs S
      · have h1 := bmu_step (once := once) hk hb
        obtain ⟨m, hm⟩ : ∃ m, bmu xs S = m + 1 := ⟨bmu xs S - 1, by omega⟩
        have e2 : finB xs k once S = finB xs k once (bstep xs k once S) := by rw [finB, hm, runB, if_pos hb, ih m (by omega) _ (by omega)]
        rw [runB, if_pos hb, ih f (by omega) _ (by omega), e2]
      · rw [runB, if_neg hb, finB]
        cases bmu xs S with
        | zero => rfl
        | succ m => rw [runB, if_neg hb]
theorem finB_busy {xs : List Int} {k : Nat} {once : Bool} {S : BS} (hk : 1 ≤ k) (hb : busy xs S) : finB xs k once S = finB xs k once (bstep xs k once S) := by
  have h1 := bmu_step (once := once) hk hb
  obtain ⟨m, hm⟩ : ∃ m, bmu xs S = m + 1 := ⟨bmu xs S - 1, by omega⟩
  rw [finB, hm, runB, if_pos hb, runB_fuel hk _ _ (by omega)]
theorem finB_done {xs : List Int} {k : Nat} {once : Bool} {S : BS} (hb : ¬ busy xs S) : finB xs k once S = S := by
  rw [finB]
  cases bmu xs S with
  | zero => rfl
  | succ m => rw [runB, if_neg hb]
def bS0 : BS := ⟨0, [], [], []⟩
def bOut (xs : List Int) (k : Nat) (once : Bool) : List Int := (finB xs k once bS0).out
def bTr (xs : List Int) (k : Nat) (once : Bool) : List (List Int) := (finB xs k once bS0).tr
/-- What holds on the way. -/
structure BInv (xs : List Int) (k : Nat) (S : BS) : Prop where
  desc : Desc S.b.reverse
  room : S.b.length ≤ k
  read : S.next ≤ xs.length
  all : S.out.length + S.b.length ≤ S.next
  trs : S.tr.length = S.out.length
  rows : ∀ r ∈ S.tr, r.length ≤ k
theorem bput_desc {once : Bool} {b : List Int} (h : Desc b.reverse) (x : Int) : Desc (bput once b x).reverse := by
  unfold bput
  split
  · exact h
  · exact srt_desc _
theorem BInv.step {xs : List Int} {k : Nat} {once : Bool} {S : BS} (h : BInv xs k S) (hk : 1 ≤ k) (hb : busy xs S) : BInv xs k (bstep xs k once S) := by
  unfold bstep
  by_cases hc : S.b.length < k ∧ S.next < xs.length
  · rw [if_pos hc]
    have := bput_length once S.b (xs.getD S.next 0)
    have h1 := h.all
    exact ⟨bput_desc h.desc _, by dsimp only; omega, by dsimp only; omega, by dsimp only; omega, h.trs, h.rows⟩
  · rw [if_neg hc]
    have h1 := h.all
    have h2 := h.room
    have h3 := h.trs
    unfold busy at hb
    match hS : S.b with
    | [] => rw [hS] at hc hb; simp at hc hb; omega
    | y :: t =>
      have hd := h.desc
      rw [hS] at h1 h2 hd
      simp only [List.length_cons] at h1 h2
      refine ⟨desc_tail hd, by simp only [List.tail_cons]; omega, h.read, by simp only [List.length_append, List.length_cons, List.length_nil, List.tail_cons]; omega, by simp only [List.length_append, h3]; rfl, fun r hr => ?_⟩
      rcases List.mem_append.1 hr with hr | hr
      · exact h.rows r hr
      · rw [List.mem_singleton] at hr
        subst hr
        simp only [List.length_cons]
        omega
theorem BInv.start (xs : List Int) (k : Nat) : BInv xs k bS0 := ⟨by simp [bS0, Desc], by simp [bS0], Nat.zero_le _, Nat.le_refl _, rfl, fun r hr => by simp [bS0] at hr⟩

end Go.Proofs.YtggblfnajeikjaaGreat

namespace Go.Proofs.YtggblfnajeikjaaGreat
set_option linter.unusedVariables false

section
variable (key : Int → Int)
/-- x goes in from the great end, behind its equals; the list stands with the greatest key first. -/
def insK : List Int → Int → List Int
  | [], x => [x]
  | y :: t, x => if key x < key y then y :: insK t x else x :: y :: t
def sortK (xs : List Int) : List Int := xs.foldl (insK key) []
def srtS (xs : List Int) : List Int := (sortK key xs).reverse
theorem insK_length (s : List Int) (x : Int) : (insK key s x).length = s.length + 1 := by
  induction s with
  | nil => rfl
  | cons y t ih =>
    simp only [insK]
    split
    · simp only [List.length_cons, ih]
    · rfl
theorem foldlK_length (xs : List Int) : ∀ s : List Int, (xs.foldl (insK key) s).length = s.length + xs.length := by
  induction xs with
  | nil => intro s; rfl
  | cons x t ih => intro s; rw [List.foldl_cons, ih, insK_length, List.length_cons]; omega
theorem sortK_length (xs : List Int) : (sortK key xs).length = xs.length := by simp [sortK, foldlK_length]
theorem srtS_length (xs : List Int) : (srtS key xs).length = xs.length := by simp [srtS, sortK_length]

end

end Go.Proofs.YtggblfnajeikjaaGreat

namespace Go.Proofs.YtggblfnajeikjaaGreat
set_option linter.unusedVariables false
set_option linter.unusedSimpArgs false

section
variable {key : Int → Int}
def KAsc (key : Int → Int) (xs : List Int) : Prop := xs.Pairwise fun a b => key a ≤ key b
/-- The same numbers, and those of equal keys in the same order. -/
def Stab (key : Int → Int) (xs ys : List Int) : Prop := ∀ v, xs.filter (fun x => decide (key x = v)) = ys.filter (fun x => decide (key x = v))
theorem Stab.refl (xs : List Int) : Stab key xs xs := fun _ => rfl
theorem Stab.symm {xs ys : List Int} (h : Stab key xs ys) : Stab key ys xs := fun v => (h v).symm
theorem Stab.trans {xs ys zs : List Int} (h : Stab key xs ys) (k : Stab key ys zs) : Stab key xs zs := fun v => (h v).trans (k v)
theorem Stab.app {a b c d : List Int} (h : Stab key a b) (k : Stab key c d) : Stab key (a ++ c) (b ++ d) := fun v => by rw [List.filter_append, List.filter_append, h v, k v]
theorem Stab.mem {xs ys : List Int} (h : Stab key xs ys) (x : Int) : x ∈ xs ↔ x ∈ ys := by
  have e : ∀ l : List Int, x ∈ l ↔ x ∈ l.filter (fun y => decide (key y = key x)) := fun l => by simp [List.mem_filter]
  rw [e xs, e ys, h (key x)]
theorem Stab.swap {u v : List Int} (h : ∀ x ∈ u, ∀ y ∈ v, key y < key x) : Stab key (u ++ v) (v ++ u) := by
  intro q
  rw [List.filter_append, List.filter_append]
  by_cases hu : u.filter (fun x => decide (key x = q)) = []
  · rw [hu]; simp
  · have hv : v.filter (fun x => decide (key x = q)) = [] := by
      rw [List.filter_eq_nil_iff]
      intro y hy hk
      apply hu
      rw [List.filter_eq_nil_iff]
      intro x hx hk2
      have := h x hx y hy
      have := of_decide_eq_true hk
      have := of_decide_eq_true hk2
      omega
    rw [hv]; simp
theorem Stab.length {xs ys : List Int} (h : Stab key xs ys) : xs.length = ys.length := by
  have : ∀ (n : Nat) (xs ys : List Int), xs.length ≤ n → Stab key xs ys → xs.length = ys.length := by
    intro n
    induction n with
    | zero =>
      intro xs ys hl h
      have hx := List.eq_nil_of_length_eq_zero (Nat.le_zero.1 hl)
      subst hx
      cases ys with
      | nil => rfl
      | cons y t => exact absurd ((h.mem y).2 (by simp)) (by simp)
    | succ n ih =>
      intro xs ys hl h
      cases xs with
      | nil =>
        cases ys with
        | nil => rfl
        | cons y t => exact absurd ((h.mem y).2 (by simp)) (by simp)
      | cons x t =>
        have hmem := (h.mem x).1 (by simp)
        have e : ∀ l : List Int, l.length = (l.filter (fun y => decide (key y = key x))).length + (l.filter (fun y => !decide (key y = key x))).length := fun l => by
          induction l with
          | nil => rfl
          | cons a l ih =>
            by_cases ha : key a = key x
            · simp [ha, ih]; omega
            · simp [ha, ih]; omega
        have h2 : Stab key ((x :: t).filter (fun y => !decide (key y = key x))) (ys.filter (fun y => !decide (key y = key x))) := by
          intro v
          rw [List.filter_filter, List.filter_filter]
          by_cases hv : v = key x
          · subst hv
            rw [List.filter_eq_nil_iff.2 (by intro a _; simp), List.filter_eq_nil_iff.2 (by intro a _; simp)]
          · have e2 : ∀ l : List Int, l.filter (fun a => decide (key a = v) && !decide (key a = key x)) = l.filter (fun a => decide (key a = v)) := fun l => by
              congr 1
              funext a
              by_cases ha : key a = v
              · simp [ha, hv]
              · simp [ha]
            rw [e2, e2]
            exact h v
        have h3 := ih _ _ (by
          have h1 : ((x :: t).filter (fun y => !decide (key y = key x))) = t.filter (fun y => !decide (key y = key x)) := by simp
          have h4 := List.length_filter_le (fun y => !decide (key y = key x)) t
          rw [h1]
          simp only [List.length_cons] at hl
          omega) h2
        rw [e (x :: t), e ys, h3, h (key x)]
  exact this xs.length xs ys (Nat.le_refl _) h
theorem insK_filter (v x : Int) : ∀ s : List Int, (insK key s x).filter (fun y => decide (key y = v)) = (if key x = v then [x] else []) ++ s.filter (fun y => decide (key y = v))
  | [] => by
    by_cases h : key x = v <;> simp [insK, h]
  | y :: t => by
    have ih := insK_filter v x t
    unfold insK
    split
    · rename_i hlt
      rw [List.filter_cons, ih]
      by_cases h1 : key x = v
      · have h2 : ¬ key y = v := by omega
        simp [h1, h2]
      · by_cases h2 : key y = v <;> simp [h1, h2]
    · by_cases h1 : key x = v <;> by_cases h2 : key y = v <;> simp [h1, h2]
theorem sortK_filter (v : Int) : ∀ (xs s : List Int), (xs.foldl (insK key) s).filter (fun y => decide (key y = v)) = (xs.filter (fun y => decide (key y = v))).reverse ++ s.filter (fun y => decide (key y = v))
  | [], s => by simp
  | x :: t, s => by
    rw [List.foldl_cons, sortK_filter v t, insK_filter]
    by_cases h1 : key x = v <;> simp [h1]
theorem srtS_stab (xs : List Int) : Stab key (srtS key xs) xs := by
  intro v
  rw [srtS, List.filter_reverse, sortK, sortK_filter]
  simp
theorem insK_mem (x y : Int) : ∀ s : List Int, y ∈ insK key s x ↔ y = x ∨ y ∈ s
  | [] => by simp [insK]
  | z :: t => by
    unfold insK
    split
    · rw [List.mem_cons, insK_mem x y t, List.mem_cons]
      constructor
      · rintro (h | h | h) <;> simp [h]
      · rintro (h | h | h) <;> simp [h]
    · simp
theorem insK_desc (x : Int) : ∀ s : List Int, s.Pairwise (fun a b => key b ≤ key a) → (insK key s x).Pairwise (fun a b => key b ≤ key a)
  | [], _ => by simp [insK]
  | y :: t, h => by
    obtain ⟨h1, h2⟩ := List.pairwise_cons.1 h
    unfold insK
    split
    · rename_i hlt
      refine List.pairwise_cons.2 ⟨fun z hz => ?_, insK_desc x t h2⟩
      rcases (insK_mem x z t).1 hz with rfl | hz
      · omega
      · exact h1 z hz
    · rename_i hlt
      refine List.pairwise_cons.2 ⟨fun z hz => ?_, h⟩
      rcases List.mem_cons.1 hz with rfl | hz
      · omega
      · have := h1 z hz; omega
theorem srtS_asc (xs : List Int) : KAsc key (srtS key xs) := by
  have : ∀ (xs s : List Int), s.Pairwise (fun a b => key b ≤ key a) → (xs.foldl (insK key) s).Pairwise (fun a b => key b ≤ key a) := by
    intro xs
    induction xs with
    | nil => intro s h; exact h
    | cons x t ih => intro s h; exact ih _ (insK_desc x s h)
  rw [KAsc, srtS, List.pairwise_reverse]
  exact this xs [] .nil
theorem srtS_mem (xs : List Int) (x : Int) : x ∈ srtS key xs ↔ x ∈ xs := (srtS_stab xs).mem x
end

end Go.Proofs.YtggblfnajeikjaaGreat

namespace Go.Proofs.YtggblfnajeikjaaGreat
set_option linter.unusedVariables false
set_option linter.unusedSimpArgs false

def ltK (T : List Int) (e : Int) : Int := T.getD e.toNat 0
def setAll (d q : List Int) (at_ : Int) : List Int := q.foldl (fun d x => d.set x.toNat (at_ - x)) d
theorem setAll_length (q : List Int) (at_ : Int) : ∀ d : List Int, (setAll d q at_).length = d.length := by
  induction q with
  | nil => intro d; rfl
  | cons x t ih => intro d; rw [setAll, List.foldl_cons]; exact (ih _).trans (by simp)
structure LS where
  w : List Int
  out : List Int
  late : List Int
  del : List Int
  marks : List Int
  most : Int
  mark : Int
def due (T : List Int) (mk : Int) (x : Int) : Bool := decide (ltK T x ≤ mk)
/-- The waiting ones, in order, when record i has come. -/
def lq (T : List Int) (L : LS) (i : Nat) : List Int := if T.getD i 0 < L.mark then L.w else srtS (ltK T) (L.w ++ [(i : Int)])
def lmk (T : List Int) (s : Int) (L : LS) (i : Nat) : Int := max L.mark (T.getD i 0 - s)
def lstep (T : List Int) (s : Int) (L : LS) (i : Nat) : LS where
  w := (lq T L i).filter fun x => !due T (lmk T s L i) x
  out := L.out ++ (lq T L i).filter (due T (lmk T s L i))
  late := if T.getD i 0 < L.mark then L.late ++ [(i : Int)] else L.late
  del := setAll (if T.getD i 0 < L.mark then L.del.set i (-1) else L.del) ((lq T L i).filter (due T (lmk T s L i))) (i : Int)
  marks := L.marks ++ [lmk T s L i]
  most := max L.most (((lq T L i).filter fun x => !due T (lmk T s L i) x).length : Int)
  mark := lmk T s L i
def lS0 (n : Nat) : LS := ⟨[], [], [], List.replicate n 0, [], 0, -1001⟩
def lrun (T : List Int) (s : Int) : Nat → LS
  | 0 => lS0 T.length
  | k + 1 => lstep T s (lrun T s k) k
/-- What holds all along. -/
structure LInv (T : List Int) (s : Int) (k : Nat) (L : LS) : Prop where
  asc : KAsc (ltK T) L.w
  wlt : ∀ x ∈ L.w, ∃ j : Nat, j < k ∧ x = j
  olt : ∀ x ∈ L.out, ∃ j : Nat, j < k ∧ x = j
  llt : ∀ x ∈ L.late, ∃ j : Nat, j < k ∧ x = j
  len : L.w.length + L.out.length + L.late.length = k
  del : L.del.length = T.length
  marks : L.marks.length = k
  most0 : 0 ≤ L.most ∧ L.most ≤ (k : Int)
  mkb : -1001 ≤ L.mark ∧ L.mark ≤ 1000
theorem asc_filter {key : Int → Int} {xs : List Int} (h : KAsc key xs) (p : Int → Bool) : KAsc key (xs.filter p) := h.sublist List.filter_sublist
theorem filter_len2 (p : Int → Bool) (xs : List Int) : (xs.filter fun x => !p x).length + (xs.filter p).length = xs.length := by
  induction xs with
  | nil => rfl
  | cons x t ih =>
    cases h : p x
    · simp [h]; omega
    · simp [h]; omega
theorem lq_facts {T : List Int} {s : Int} {k : Nat} {L : LS} (H : LInv T s k L) : KAsc (ltK T) (lq T L k) ∧ (∀ x ∈ lq T L k, ∃ j : Nat, j < k + 1 ∧ x = j) ∧ (lq T L k).length = L.w.length + (if T.getD k 0 < L.mark then 0 else 1) := by
  unfold lq
  split
  · exact ⟨H.asc, fun x hx => by obtain ⟨j, h1, h2⟩ := H.wlt x hx; exact ⟨j, by omega, h2⟩, rfl⟩
  · refine ⟨srtS_asc _, fun x hx => ?_, by rw [srtS_length]; simp⟩
    rw [srtS_mem, List.mem_append, List.mem_singleton] at hx
    rcases hx with hx | rfl
    · obtain ⟨j, h1, h2⟩ := H.wlt x hx; exact ⟨j, by omega, h2⟩
    · exact ⟨k, by omega, rfl⟩
theorem LInv.start (T : List Int) (s : Int) : LInv T s 0 (lS0 T.length) :=
  ⟨List.Pairwise.nil, fun x h => by simp [lS0] at h, fun x h => by simp [lS0] at h, fun x h => by simp [lS0] at h, by simp [lS0], by simp [lS0], by simp [lS0], by simp [lS0], by simp [lS0]⟩
theorem LInv.step {T : List Int} {s : Int} (hT : ∀ t ∈ T, 0 ≤ t ∧ t ≤ 1000) (hs : 0 ≤ s ∧ s ≤ 1000) {k : Nat} {L : LS} (hk : k < T.length) (H : LInv T s k L) : LInv T s (k + 1) (lstep T s L k) := by
  obtain ⟨h1, h2, h3⟩ := lq_facts H
  have hl := filter_len2 (due T (lmk T s L k)) (lq T L k)
  have ht : 0 ≤ T.getD k 0 ∧ T.getD k 0 ≤ 1000 := by
    rw [List.getD_eq_getElem?_getD, List.getElem?_eq_getElem hk]
    exact hT _ (List.getElem_mem _)
  have hm := H.mkb
  have hmk : -1001 ≤ lmk T s L k ∧ lmk T s L k ≤ 1000 := by unfold lmk; omega
  have hlen := H.len
  have hm0 := H.most0
  refine ⟨asc_filter h1 _, fun x hx => h2 x (List.mem_filter.1 hx).1, fun x hx => ?_, fun x hx => ?_, ?_, ?_, ?_, ?_, hmk⟩
  · rcases List.mem_append.1 hx with hx | hx
    · obtain ⟨j, a, b⟩ := H.olt x hx; exact ⟨j, by omega, b⟩
    · exact h2 x (List.mem_filter.1 hx).1
  · by_cases hlt : T.getD k 0 < L.mark
    · rw [show (lstep T s L k).late = L.late ++ [(k : Int)] from if_pos hlt] at hx
      rcases List.mem_append.1 hx with hx | hx
      · obtain ⟨j, a, b⟩ := H.llt x hx; exact ⟨j, by omega, b⟩
      · rw [List.mem_singleton] at hx; exact ⟨k, by omega, hx⟩
    · rw [show (lstep T s L k).late = L.late from if_neg hlt] at hx
      obtain ⟨j, a, b⟩ := H.llt x hx; exact ⟨j, by omega, b⟩
  · simp only [lstep, List.length_append]
    by_cases hlt : T.getD k 0 < L.mark
    · rw [if_pos hlt] at h3 ⊢
      simp only [List.length_append, List.length_singleton]
      omega
    · rw [if_neg hlt] at h3 ⊢
      omega
  · simp only [lstep]
    rw [setAll_length]
    split
    · rw [List.length_set]; exact H.del
    · exact H.del
  · simp [lstep, H.marks]
  · simp only [lstep]
    have : ((lq T L k).filter fun x => !due T (lmk T s L k) x).length ≤ k + 1 := by
      split at h3 <;> omega
    omega
def timesOk (T : List Int) : Bool := decide (T.length ≤ 30) && T.all fun t => decide (0 ≤ t) && decide (t ≤ 1000)
theorem timesOk_iff {T : List Int} : timesOk T = true ↔ T.length ≤ 30 ∧ ∀ t ∈ T, 0 ≤ t ∧ t ≤ 1000 := by
  simp only [timesOk, Bool.and_eq_true, decide_eq_true_eq, List.all_eq_true]
end Go.Proofs.YtggblfnajeikjaaGreat

namespace Go.Proofs.YtggblfnajeikjaaGreat
set_option linter.unusedVariables false

theorem insR_perm (s : List Int) (x : Int) : (insR s x).Perm (x :: s) := by
  induction s with
  | nil => exact List.Perm.refl _
  | cons y t ih =>
    simp only [insR]
    split
    · exact (List.Perm.cons y ih).trans (List.Perm.swap x y t)
    · exact List.Perm.refl _
theorem sortR_perm (xs : List Int) : ∀ s : List Int, (xs.foldl insR s).Perm (xs ++ s) := by
  induction xs with
  | nil => intro s; exact List.Perm.refl _
  | cons x t ih =>
    intro s
    rw [List.foldl_cons]
    refine (ih _).trans ?_
    refine ((insR_perm s x).append_left t).trans ?_
    exact List.perm_middle
theorem srt_perm (xs : List Int) : (srt xs).Perm xs := by
  have := sortR_perm xs []
  rw [List.append_nil] at this
  exact (List.reverse_perm _).trans this
theorem srt_pair (xs : List Int) : (srt xs).Pairwise (· ≤ ·) := by
  have := srt_desc xs
  rw [Desc, List.pairwise_reverse] at this
  exact this
theorem srt_unique {xs ys : List Int} (hp : ys.Perm xs) (hs : ys.Pairwise (· ≤ ·)) : ys = srt xs :=
  List.Perm.eq_of_pairwise (fun a b _ _ h1 h2 => Int.le_antisymm h1 h2) hs (srt_pair xs) (hp.trans (srt_perm xs).symm)
theorem srt_congr {xs ys : List Int} (hp : ys.Perm xs) : srt ys = srt xs := srt_unique ((srt_perm ys).trans hp) (srt_pair ys)
end Go.Proofs.YtggblfnajeikjaaGreat
