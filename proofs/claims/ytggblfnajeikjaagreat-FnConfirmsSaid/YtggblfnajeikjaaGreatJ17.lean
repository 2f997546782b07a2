/- Joined texts of the proof: FabA, PlainFlip. -/
import Derived.WalkKit
import Derived.WalkSpells
import Derived.WalkLawsBesides
import Derived.Deep.Draws
import Derived.Lib.Hide
import Derived.RegionTactic
import Derived.Test.YtggblfnajeikjaaGreatRows
import Derived.BigQuiet
import Derived.Deep.QuietTactic
import Derived.Deep.RegionHeld3
import Derived.Deep.DeepCutAuto
import Derived.Deep.LoopGhost
import Derived.Test.YtggblfnajeikjaaGreatJ1
import Derived.Test.YtggblfnajeikjaaGreatJ4
import Derived.Test.YtggblfnajeikjaaGreatJ6
import Derived.Test.YtggblfnajeikjaaGreatJ8
import Derived.Test.YtggblfnajeikjaaGreatJ9
import Derived.Test.YtggblfnajeikjaaGreatJ12
namespace Go.Proofs.YtggblfnajeikjaaGreat
open Go.RowKit
set_option linter.unusedVariables false
set_option linter.unusedSimpArgs false

def natA (n : Nat) (x : Nat → Nat) : List Int := atL n fun o => (x o : Int)
theorem natA_len (n : Nat) (x : Nat → Nat) : (natA n x).length = n := atL_length _ _
theorem natA_get {n i : Nat} (x : Nat → Nat) (h : i < n) : (natA n x)[i]? = some ((x i : Nat) : Int) := atL_get _ h
/-- An order, as a function. -/
theorem ord_of {n : Nat} {xs : List Int} (hl : xs.length = n) (h : OrdP n xs) : ∃ x, xs = natA n x ∧ Ord n x := by
  have hx : xs = natA n fun o => (xs.getD o 0).toNat := by
    apply List.ext_getElem?
    intro i
    by_cases hi : i < n
    · rw [natA_get _ hi, List.getD_eq_getElem?_getD, List.getElem?_eq_getElem (by omega)]
      have := h.1 xs[i] (List.getElem_mem _)
      simp
      omega
    · rw [List.getElem?_eq_none (by omega), List.getElem?_eq_none (by rw [natA_len]; omega)]
  refine ⟨_, hx, ?_⟩
  have hg : ∀ o, o < n → ∃ (ho : o < xs.length), ((xs.getD o 0).toNat : Int) = xs[o] := fun o ho => by
    refine ⟨by omega, ?_⟩
    rw [List.getD_eq_getElem?_getD, List.getElem?_eq_getElem (by omega)]
    have := h.1 xs[o] (List.getElem_mem _)
    simp
    omega
  have hlx : ∀ o, o < n → (xs.getD o 0).toNat < n := fun o ho => by
    obtain ⟨h1, h2⟩ := hg o ho
    have := h.1 xs[o] (List.getElem_mem _)
    omega
  have hinj : ∀ o p, o < n → p < n → (xs.getD o 0).toNat = (xs.getD p 0).toNat → o = p := fun o p ho hp e => by
    obtain ⟨h1, h2⟩ := hg o ho
    obtain ⟨h3, h4⟩ := hg p hp
    have h5 : xs[o] = xs[p] := by omega
    have h6 := List.pairwise_iff_getElem.1 h.2
    rcases Nat.lt_trichotomy o p with l | l | l
    · exact absurd h5 (h6 o p h1 h3 l)
    · exact l
    · exact absurd h5.symm (h6 p o h3 h1 l)
  refine ⟨hlx, hinj, fun v hv => ?_⟩
  have hn : ((List.range n).map fun o => (xs.getD o 0).toNat).Nodup := by
    rw [List.Nodup, List.pairwise_map]
    refine List.Pairwise.imp_of_mem (fun {a b} ha hb hne e => ?_) (List.nodup_range (n := n))
    exact hne (hinj a b (List.mem_range.1 ha) (List.mem_range.1 hb) e)
  have := all_mem hn (fun x hx => by
    obtain ⟨o, ho, rfl⟩ := List.mem_map.1 hx
    exact hlx o (List.mem_range.1 ho)) (by simp) hv
  obtain ⟨o, ho, e⟩ := List.mem_map.1 this
  exact ⟨o, List.mem_range.1 ho, e⟩
end Go.Proofs.YtggblfnajeikjaaGreat

namespace Go.Proofs.YtggblfnajeikjaaGreat
set_option linter.unusedVariables false
set_option linter.unusedSimpArgs false

def flipL (xs : List Int) (k : Nat) : List Int := (xs.take k).reverse ++ xs.drop k
theorem flipL_len (xs : List Int) (k : Nat) : (flipL xs k).length = xs.length := by simp [flipL]; omega
theorem flipL_flipL {xs : List Int} {k : Nat} (hk : k ≤ xs.length) : flipL (flipL xs k) k = xs := by
  have hl : (xs.take k).reverse.length = k := by simp; omega
  unfold flipL
  rw [List.take_left' hl, List.drop_left' hl, List.reverse_reverse, List.take_append_drop]
theorem flipL_perm (xs : List Int) (k : Nat) : (flipL xs k).Perm xs := by
  have h := (List.reverse_perm (xs.take k)).append_right (xs.drop k)
  rwa [List.take_append_drop] at h
theorem flipL_one {xs : List Int} {k : Nat} (hk : k ≤ 1) : flipL xs k = xs := by
  unfold flipL
  match k, hk with
  | 0, _ => simp
  | 1, _ =>
    cases xs with
    | nil => rfl
    | cons a t => simp
theorem flipL_lo {xs : List Int} {k i : Nat} (hk : k ≤ xs.length) (hi : i < k) : (flipL xs k)[i]? = xs[k - 1 - i]? := by
  have hl : (xs.take k).reverse.length = k := by simp; omega
  rw [flipL, List.getElem?_append_left (by omega), List.getElem?_reverse (by simp; omega), List.length_take, Nat.min_eq_left hk, List.getElem?_take, if_pos (by omega)]
theorem flipL_hi {xs : List Int} {k i : Nat} (hk : k ≤ xs.length) (hi : k ≤ i) : (flipL xs k)[i]? = xs[i]? := by
  have hl : (xs.take k).reverse.length = k := by simp; omega
  rw [flipL, List.getElem?_append_right (by omega), hl, List.getElem?_drop]
  congr 1
  omega

/-- An order of 0 .. n - 1. -/
def PermN (n : Nat) (xs : List Int) : Prop := xs.length = n ∧ OrdP n xs
def idL (n : Nat) : List Int := (List.range n).map fun (i : Nat) => (i : Int)
theorem PermN.flip {n k : Nat} {xs : List Int} (h : PermN n xs) : PermN n (flipL xs k) := by
  obtain ⟨h1, h2, h3⟩ := h
  have hp := flipL_perm xs k
  exact ⟨by rw [flipL_len, h1], fun x hx => h2 x (hp.mem_iff.1 hx), hp.nodup_iff.2 h3⟩
theorem idL_get {n i : Nat} (h : i < n) : (idL n)[i]? = some (i : Int) := by simp [idL, h]
theorem PermN.idL (n : Nat) : PermN n (idL n) := by
  refine ⟨by simp [Go.Proofs.YtggblfnajeikjaaGreat.idL], fun x hx => ?_, ?_⟩
  · simp only [Go.Proofs.YtggblfnajeikjaaGreat.idL, List.mem_map, List.mem_range] at hx
    obtain ⟨i, hi, rfl⟩ := hx
    omega
  · rw [List.Nodup, Go.Proofs.YtggblfnajeikjaaGreat.idL, List.pairwise_map]
    refine List.Pairwise.imp (fun {a b} hne e => ?_) (List.nodup_range (n := n))
    exact hne (by omega)
theorem PermN.eq_of_get {n : Nat} {xs ys : List Int} (h : xs.length = n) (h2 : ys.length = n) (he : ∀ i, i < n → xs[i]? = ys[i]?) : xs = ys := by
  apply List.ext_getElem?
  intro i
  by_cases hi : i < n
  · exact he i hi
  · rw [List.getElem?_eq_none (by omega), List.getElem?_eq_none (by omega)]
/-- Where a value stands. -/
theorem PermN.at {n v : Nat} {xs : List Int} (h : PermN n xs) (hv : v < n) : ∃ p, p < n ∧ xs[p]? = some (v : Int) := by
  obtain ⟨x, hx, H⟩ := ord_of h.1 h.2
  obtain ⟨o, ho, e⟩ := H.sur v hv
  exact ⟨o, ho, by rw [hx, natA_get x ho, e]⟩
theorem PermN.inj {n p q : Nat} {v : Int} {xs : List Int} (h : PermN n xs) (h1 : xs[p]? = some v) (h2 : xs[q]? = some v) : p = q := by
  obtain ⟨hp, e1⟩ := List.getElem?_eq_some_iff.1 h1
  obtain ⟨hq, e2⟩ := List.getElem?_eq_some_iff.1 h2
  have h6 := List.pairwise_iff_getElem.1 h.2.2
  rcases Nat.lt_trichotomy p q with l | l | l
  · exact absurd (e1.trans e2.symm) (h6 p q hp hq l)
  · exact l
  · exact absurd (e2.trans e1.symm) (h6 q p hq hp l)
/-- Whatever holds of the sorted order and goes on over flips holds of every order. -/
theorem PermN.reach {n : Nat} (T : List Int → Prop) (h0 : T (Go.Proofs.YtggblfnajeikjaaGreat.idL n)) (hf : ∀ xs k, PermN n xs → T xs → 2 ≤ k → k ≤ n → T (flipL xs k)) : ∀ m, m ≤ n → ∀ xs, PermN n xs → (∀ i, m ≤ i → i < n → xs[i]? = some (i : Int)) → T xs
  | 0, _, xs, h, hi => by
    have : xs = Go.Proofs.YtggblfnajeikjaaGreat.idL n := PermN.eq_of_get h.1 (by simp [Go.Proofs.YtggblfnajeikjaaGreat.idL]) fun i h2 => by rw [hi i (Nat.zero_le _) h2, idL_get h2]
    rw [this]
    exact h0
  | m + 1, hm, xs, h, hi => by
    have hf' : ∀ xs k, PermN n xs → T xs → k ≤ n → T (flipL xs k) := fun xs k h hT hk => by
      by_cases e : 2 ≤ k
      · exact hf xs k h hT e hk
      · rw [flipL_one (by omega)]; exact hT
    obtain ⟨p, hp, hpx⟩ := h.at (v := m) (by omega)
    have hpm : p ≤ m := by
      by_cases e : p ≤ m
      · exact e
      · have := hi p (by omega) hp
        rw [hpx] at this
        injection this with this
        omega
    have h1 : PermN n (flipL xs (p + 1)) := h.flip
    have h2 : PermN n (flipL (flipL xs (p + 1)) (m + 1)) := h1.flip
    have hT2 : T (flipL (flipL xs (p + 1)) (m + 1)) := by
      refine PermN.reach T h0 hf m (by omega) _ h2 fun i hmi hin => ?_
      by_cases e : i = m
      · subst e
        rw [flipL_lo (by rw [h1.1]; omega) (by omega), flipL_lo (by rw [h.1]; omega) (by omega)]
        have : p + 1 - 1 - (i + 1 - 1 - i) = p := by omega
        rw [this]
        exact hpx
      · rw [flipL_hi (by rw [h1.1]; omega) (by omega), flipL_hi (by rw [h.1]; omega) (by omega)]
        exact hi i (by omega) hin
    have h3 := hf' _ (m + 1) h2 hT2 (by omega)
    rw [flipL_flipL (by rw [h1.1]; omega)] at h3
    have h4 := hf' _ (p + 1) h1 h3 (by omega)
    rwa [flipL_flipL (by rw [h.1]; omega)] at h4
theorem PermN.all {n : Nat} (T : List Int → Prop) (h0 : T (Go.Proofs.YtggblfnajeikjaaGreat.idL n)) (hf : ∀ xs k, PermN n xs → T xs → 2 ≤ k → k ≤ n → T (flipL xs k)) (xs : List Int) (h : PermN n xs) : T xs :=
  PermN.reach T h0 hf n (Nat.le_refl _) xs h fun i h1 h2 => by omega
theorem adjB_id (n : Nat) : adjB (idL n) = true := adjB_iff.2 fun i a b ha hb => by
  have hl := (List.getElem?_eq_some_iff.1 hb).1
  have hl2 : i + 1 < n := by simpa [idL] using hl
  rw [idL_get (by omega)] at ha hb
  cases ha
  cases hb
  omega
theorem adjB_perm {n : Nat} {xs : List Int} (h : PermN n xs) (ha : adjB xs = true) : xs = idL n := by
  have hA := adjB_iff.1 ha
  obtain ⟨x, hx, H⟩ := ord_of h.1 h.2
  have hst : ∀ i, i + 1 < n → x i < x (i + 1) := fun i hi => by
    have := hA i _ _ (by rw [hx]; exact natA_get x (by omega)) (by rw [hx]; exact natA_get x hi)
    have : x i ≠ x (i + 1) := fun e => by have := H.inj i (i + 1) (by omega) hi e; omega
    omega
  have hge : ∀ i, i < n → i ≤ x i := fun i => by
    induction i with
    | zero => intro _; exact Nat.zero_le _
    | succ i ih => intro hi; have := hst i hi; have := ih (by omega); omega
  have hle : ∀ j, j < n → x (n - 1 - j) ≤ n - 1 - j := fun j => by
    induction j with
    | zero => intro hj; have := H.lx (n - 1) (by omega); simp; omega
    | succ j ih =>
      intro hj
      have h1 := ih (by omega)
      have h2 := hst (n - 1 - (j + 1)) (by omega)
      have e : n - 1 - (j + 1) + 1 = n - 1 - j := by omega
      rw [e] at h2
      omega
  refine PermN.eq_of_get h.1 (by simp [idL]) fun i hi => ?_
  rw [idL_get hi, hx, natA_get x hi]
  have h1 := hge i hi
  have h2 := hle (n - 1 - i) (by omega)
  have e : n - 1 - (n - 1 - i) = i := by omega
  rw [e] at h2
  have : x i = i := by omega
  rw [this]

def gp (a b : Int) : Nat := if b - a ≠ 1 ∧ a - b ≠ 1 then 1 else 0
theorem gp_comm (a b : Int) : gp a b = gp b a := by unfold gp; congr 1; simp only [eq_iff_iff]; constructor <;> rintro ⟨h1, h2⟩ <;> exact ⟨h2, h1⟩
theorem gp_le (a b : Int) : gp a b ≤ 1 := by unfold gp; split <;> omega
def adjG : List Int → Nat
  | a :: b :: t => gp a b + adjG (b :: t)
  | _ => 0
theorem adjG_snoc (l : List Int) (b a : Int) : adjG (l ++ [b, a]) = adjG (l ++ [b]) + gp b a := by
  induction l with
  | nil => simp [adjG]
  | cons c t ih =>
    cases t with
    | nil => simp [adjG]
    | cons d t => simp only [List.cons_append, adjG] at ih ⊢; omega
theorem adjG_reverse : ∀ l : List Int, adjG l.reverse = adjG l
  | [] => rfl
  | [a] => rfl
  | a :: b :: t => by
    have e : (a :: b :: t).reverse = t.reverse ++ [b, a] := by simp
    have e2 : (b :: t).reverse = t.reverse ++ [b] := by simp
    rw [e, adjG_snoc, ← e2, adjG_reverse (b :: t), adjG, gp_comm b a]
    omega
theorem adjG_append : ∀ (l r : List Int), adjG l + adjG r ≤ adjG (l ++ r) ∧ adjG (l ++ r) ≤ adjG l + adjG r + 1
  | [], r => by simp [adjG]
  | [a], r => by
    cases r with
    | nil => simp [adjG]
    | cons b t => have := gp_le a b; simp only [List.cons_append, List.nil_append, adjG]; omega
  | a :: b :: t, r => by
    have := adjG_append (b :: t) r
    simp only [List.cons_append, adjG] at this ⊢
    omega
def gapsN (xs : List Int) : Nat := adjG (xs ++ [(xs.length : Int)])
theorem gaps_flip (xs : List Int) (k : Nat) : gapsN (flipL xs k) ≤ gapsN xs + 1 := by
  unfold gapsN
  rw [flipL_len, flipL, List.append_assoc]
  have h1 := adjG_append (xs.take k).reverse (xs.drop k ++ [(xs.length : Int)])
  have h2 := adjG_append (xs.take k) (xs.drop k ++ [(xs.length : Int)])
  rw [← List.append_assoc, List.take_append_drop] at h2
  rw [adjG_reverse] at h1
  omega
theorem gaps_id (n : Nat) : gapsN (idL n) = 0 := by
  have e : idL n ++ [((idL n).length : Int)] = idL (n + 1) := by simp [idL, List.range_succ]
  rw [gapsN, e]
  have : ∀ m, adjG (idL m) = 0 := fun m => by
    induction m with
    | zero => rfl
    | succ m ih =>
      cases m with
      | zero => rfl
      | succ m =>
        have e : idL (m + 1 + 1) = (List.range m).map (fun (i : Nat) => (i : Int)) ++ [(m : Int), ((m + 1 : Nat) : Int)] := by simp [idL, List.range_succ]
        have e2 : idL (m + 1) = (List.range m).map (fun (i : Nat) => (i : Int)) ++ [(m : Int)] := by simp [idL, List.range_succ]
        rw [e, adjG_snoc, ← e2, ih]
        unfold gp
        rw [if_neg (by omega)]
  exact this _

/-- D is the least number of flips, as far as the two searches need it. -/
structure Dist (n : Nat) (D : List Int → Nat) : Prop where
  zero : D (idL n) = 0
  pos : ∀ xs, PermN n xs → xs ≠ idL n → 0 < D xs
  flip : ∀ xs k, PermN n xs → 2 ≤ k → k ≤ n → D (flipL xs k) ≤ D xs + 1
  down : ∀ xs, PermN n xs → xs ≠ idL n → ∃ k, 2 ≤ k ∧ k ≤ n ∧ D (flipL xs k) + 1 = D xs
  bd : ∀ xs, PermN n xs → D xs < 1000000
def fstSome {α : Type} (p : Nat → Option α) : Nat → Option α
  | 0 => none
  | m + 1 => (fstSome p m).or (p m)
theorem fstSome_none {α : Type} {p : Nat → Option α} : ∀ {m : Nat}, (∀ j, j < m → p j = none) → fstSome p m = none
  | 0, _ => rfl
  | m + 1, h => by rw [fstSome, fstSome_none fun j hj => h j (by omega), h m (by omega)]; rfl
theorem fstSome_some {α : Type} {p : Nat → Option α} {k : Nat} {y : α} (h : ∀ j, j < k → p j = none) (hk : p k = some y) : ∀ {m : Nat}, k < m → fstSome p m = some y
  | m + 1, hm => by
    by_cases e : k = m
    · subst e
      rw [fstSome, fstSome_none h, hk]; rfl
    · rw [fstSome, fstSome_some h hk (show k < m by omega)]; rfl
/-- The search by depth: e is the depth and one more. -/
def findE : Nat → List Int → Option (List Int)
  | 0, _ => none
  | e + 1, xs => if adjB xs then (if e = 0 then some [] else none) else if e < gapsN xs then none else
    fstSome (fun k => if k < 2 then none else (findE e (flipL xs k)).map fun r => (k : Int) :: r) (xs.length + 1)
def bestL (xs : List Int) : List Int := (fstSome (fun e => findE e xs) 1000002).getD []
section
variable {n : Nat} {D : List Int → Nat}
theorem Dist.back (H : Dist n D) {xs : List Int} {k : Nat} (h : PermN n xs) (h2 : 2 ≤ k) (hk : k ≤ n) : D xs ≤ D (flipL xs k) + 1 := by
  have := H.flip (flipL xs k) k h.flip h2 hk
  rwa [flipL_flipL (by rw [h.1]; exact hk)] at this
theorem Dist.gaps (H : Dist n D) : ∀ (d : Nat) (xs : List Int), PermN n xs → D xs ≤ d → gapsN xs ≤ D xs
  | 0, xs, h, hd => by
    by_cases e : xs = idL n
    · subst e; rw [gaps_id]; exact Nat.zero_le _
    · have := H.pos xs h e; omega
  | d + 1, xs, h, hd => by
    by_cases e : xs = idL n
    · subst e; rw [gaps_id]; exact Nat.zero_le _
    · obtain ⟨k, h2, hk, he⟩ := H.down xs h e
      have h3 := H.gaps d (flipL xs k) h.flip (by omega)
      have h4 := gaps_flip (flipL xs k) k
      rw [flipL_flipL (by rw [h.1]; exact hk)] at h4
      omega
theorem Dist.none (H : Dist n D) : ∀ (e : Nat) (xs : List Int), PermN n xs → e ≤ D xs → findE e xs = .none
  | 0, _, _, _ => rfl
  | e + 1, xs, h, he => by
    have hne : adjB xs = false := by
      cases ha : adjB xs
      · rfl
      · have := adjB_perm h ha
        rw [this, H.zero] at he
        omega
    rw [findE, if_neg (by rw [hne]; simp)]
    split
    · rfl
    · refine fstSome_none fun j hj => ?_
      by_cases h2 : j < 2
      · rw [if_pos h2]
      · rw [if_neg h2, H.none e (flipL xs j) h.flip (by have := H.back h (k := j) (by omega) (by rw [h.1] at hj; omega); omega)]
        rfl
/-- The descent. -/
theorem Dist.some (H : Dist n D) {xs : List Int} {k : Nat} {l : List Int} (h : PermN n xs) (h2 : 2 ≤ k) (hk : k ≤ n) (hd : D (flipL xs k) < D xs) (hno : ∀ j, j < k → ¬ D (flipL xs j) < D xs) (hl : findE (D (flipL xs k) + 1) (flipL xs k) = .some l) : findE (D xs + 1) xs = .some ((k : Int) :: l) := by
  have hb := H.back h h2 hk
  have e1 : D xs = D (flipL xs k) + 1 := by omega
  have hne : adjB xs = false := by
    cases ha : adjB xs
    · rfl
    · have := adjB_perm h ha
      rw [this, H.zero] at hd
      omega
  have hg := H.gaps _ xs h (Nat.le_refl _)
  rw [findE, if_neg (by rw [hne]; simp), if_neg (by omega)]
  refine fstSome_some (k := k) (fun j hj => ?_) ?_ (by rw [h.1]; omega)
  · by_cases h3 : j < 2
    · rw [if_pos h3]
    · have := hno j hj
      rw [if_neg h3, H.none _ _ h.flip (by omega)]
      rfl
  · rw [if_neg (by omega), e1, hl]
    rfl
theorem Dist.least (H : Dist n D) {xs : List Int} (h : PermN n xs) (hs : xs ≠ idL n) : ∃ k, 2 ≤ k ∧ k ≤ n ∧ D (flipL xs k) < D xs ∧ ∀ j, j < k → ¬ D (flipL xs j) < D xs := by
  obtain ⟨k, h2, hk, he⟩ := H.down xs h hs
  have go : ∀ m k, k ≤ m → 2 ≤ k → k ≤ n → D (flipL xs k) < D xs → ∃ k, 2 ≤ k ∧ k ≤ n ∧ D (flipL xs k) < D xs ∧ ∀ j, j < k → ¬ D (flipL xs j) < D xs := by
    intro m
    induction m with
    | zero => intro k hkm h2; omega
    | succ m ih =>
      intro k hkm h2 hk he
      by_cases hex : ∃ j, j < k ∧ D (flipL xs j) < D xs
      · obtain ⟨j, hj, hd⟩ := hex
        by_cases h3 : 2 ≤ j
        · exact ih j (by omega) h3 (by omega) hd
        · rw [flipL_one (by omega)] at hd
          omega
      · exact ⟨k, h2, hk, he, fun j hj hd => hex ⟨j, hj, hd⟩⟩
  exact go k k (Nat.le_refl _) h2 hk (by omega)
theorem Dist.found (H : Dist n D) : ∀ (d : Nat) (xs : List Int), PermN n xs → D xs = d → ∃ l, findE (d + 1) xs = .some l ∧ l.length = d ∧ ∀ x ∈ l, 2 ≤ x ∧ x ≤ (n : Int)
  | 0, xs, h, hd => by
    have : xs = idL n := by
      by_cases e : xs = idL n
      · exact e
      · have := H.pos xs h e; omega
    subst this
    exact ⟨[], by rw [findE, adjB_id]; rfl, rfl, fun x hx => by cases hx⟩
  | d + 1, xs, h, hd => by
    have hs : xs ≠ idL n := fun e => by rw [e, H.zero] at hd; omega
    obtain ⟨k, h2, hk, hlt, hno⟩ := H.least h hs
    have hb := H.back h h2 hk
    obtain ⟨l, hl, hll, hlx⟩ := H.found d (flipL xs k) h.flip (by omega)
    have e : D (flipL xs k) = d := by omega
    have := H.some h h2 hk hlt hno (by rw [e]; exact hl)
    rw [hd] at this
    exact ⟨_, this, by simp [hll], fun x hx => by
      rcases List.mem_cons.1 hx with rfl | hx
      · omega
      · exact hlx x hx⟩
theorem Dist.best (H : Dist n D) {xs l : List Int} (h : PermN n xs) (hl : findE (D xs + 1) xs = .some l) : bestL xs = l := by
  have hb := H.bd xs h
  rw [bestL, fstSome_some (k := D xs + 1) (fun j hj => H.none j xs h (by omega)) hl (by omega)]
  rfl
end

end Go.Proofs.YtggblfnajeikjaaGreat
