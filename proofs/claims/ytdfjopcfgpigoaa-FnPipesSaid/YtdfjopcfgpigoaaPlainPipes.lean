/- Plain laws: a network level by level. -/
import Derived.Test.YtdfjopcfgpigoaaRunPipe
namespace Go.Proofs.Ytdfjopcfgpigoaa
open Go.RowKit
set_option linter.unusedVariables false
set_option linter.unusedSimpArgs false

theorem swM_get (l : List Int) (a b i : Nat) (ha : a < l.length) (hb : b < l.length) (hab : a ≠ b) :
    (swM l a b).getD i 0 = if i = a then min (l.getD a 0) (l.getD b 0) else if i = b then max (l.getD a 0) (l.getD b 0) else l.getD i 0 := by
  simp only [swM, List.getD_eq_getElem?_getD, List.getElem?_set, List.length_set]
  grind
theorem ext_getD {l m : List Int} (h : l.length = m.length) (h2 : ∀ i, l.getD i 0 = m.getD i 0) : l = m := by
  apply List.ext_getElem h
  intro i h3 h4
  have := h2 i
  rwa [List.getD_eq_getElem?_getD, List.getD_eq_getElem?_getD, List.getElem?_eq_getElem h3, List.getElem?_eq_getElem h4] at this
theorem swM_comm (l : List Int) {a b c d : Nat} (ha : a < l.length) (hb : b < l.length) (hc : c < l.length) (hd : d < l.length) (hab : a ≠ b) (hcd : c ≠ d) (hac : a ≠ c) (had : a ≠ d) (hbc : b ≠ c) (hbd : b ≠ d) :
    swM (swM l a b) c d = swM (swM l c d) a b := by
  apply ext_getD (by simp [swM_length])
  intro i
  simp only [swM_get _ _ _ _ ha hb hab, swM_get _ _ _ _ hc hd hcd, swM_get (swM l a b) c d _ (by rwa [swM_length]) (by rwa [swM_length]) hcd, swM_get (swM l c d) a b _ (by rwa [swM_length]) (by rwa [swM_length]) hab]
  grind
/-- The comparators of a list, in order. -/
def runC (ps : List (List Int)) (xs : List Int) : List Int := apM ps xs ps.length
theorem apM_append (ps qs : List (List Int)) (xs : List Int) : ∀ k, k ≤ ps.length → apM (ps ++ qs) xs k = apM ps xs k
  | 0, _ => rfl
  | k + 1, hk => by
    simp only [apM, apM_append ps qs xs k (by omega), List.getElem?_append_left (show k < ps.length by omega)]
theorem runC_snoc (ps : List (List Int)) (xs : List Int) (a b : Nat) : runC (ps ++ [[(a : Int), (b : Int)]]) xs = swM (runC ps xs) a b := by
  unfold runC
  rw [List.length_append, List.length_singleton, apM, apM_append _ _ _ _ (Nat.le_refl _)]
  simp
theorem runC_length (ps : List (List Int)) (xs : List Int) : (runC ps xs).length = xs.length := apM_length _ _ _
/-- A comparator that touches no wire of the others may go ahead of them. -/
theorem runC_sw {N a b : Nat} (ha : a < N) (hb : b < N) (hab : a ≠ b) : ∀ (k : Nat) (ps : List (List Int)) (xs : List Int), xs.length = N →
    (∀ j ys, j < k → ps[j]? = some ys → ∃ c d : Nat, ys = [(c : Int), (d : Int)] ∧ c < N ∧ d < N ∧ c ≠ d ∧ a ≠ c ∧ a ≠ d ∧ b ≠ c ∧ b ≠ d) → apM ps (swM xs a b) k = swM (apM ps xs k) a b
  | 0, ps, xs, hl, h => rfl
  | k + 1, ps, xs, hl, h => by
    have ih := runC_sw ha hb hab k ps xs hl (fun j ys hj => h j ys (by omega))
    simp only [apM]
    split
    · rename_i c' d' hcd
      obtain ⟨c, d, e, hc, hd, h1, h2, h3, h4, h5⟩ := h k _ (by omega) hcd
      obtain ⟨rfl, rfl⟩ : c' = (c : Int) ∧ d' = (d : Int) := by simpa using e
      rw [ih]
      simp only [Int.toNat_natCast]
      have hlk := apM_length ps xs k
      exact swM_comm _ (by omega) (by omega) (by omega) (by omega) hab h1 h2 h3 h4 h5
    · exact ih

theorem lvM_len {N : Nat} {xss : List (List Int)} (HP : Pairs N xss) : ∀ k, k ≤ xss.length → (lvM xss k).2.length = k
  | 0, _ => rfl
  | k + 1, hk => by
    obtain ⟨a, b, e, _, _, _⟩ := HP k xss[k] (List.getElem?_eq_getElem (by omega))
    rw [lvM_succ (a := a) (b := b) (by rw [List.getElem?_eq_getElem (by omega), e])]
    simp only [List.length_append, List.length_singleton, lvM_len HP k (by omega)]
theorem lvM_pre {N : Nat} {xss : List (List Int)} (HP : Pairs N xss) {k j : Nat} (hj : j < k) : ∀ m, k ≤ m → m ≤ xss.length → (lvM xss m).2[j]? = (lvM xss k).2[j]? := by
  intro m hm
  induction hm with
  | refl => intro _; rfl
  | @step m hm ih =>
    have hm' : k ≤ m := hm
    intro hl
    obtain ⟨a, b, e, _, _, _⟩ := HP m xss[m] (List.getElem?_eq_getElem (by omega))
    rw [lvM_succ (a := a) (b := b) (by rw [List.getElem?_eq_getElem (by omega), e])]
    have := lvM_len HP m (by omega)
    dsimp only
    rw [List.getElem?_append_left (by omega)]
    exact ih (by omega)
theorem lv_at {N : Nat} {xss : List (List Int)} (HP : Pairs N xss) {k a b : Nat} (h : xss[k]? = some [(a : Int), (b : Int)]) :
    (lvM xss xss.length).2[k]? = some (1 + max ((lvM xss k).1 a) ((lvM xss k).1 b)) := by
  have hk := (List.getElem?_eq_some_iff.1 h).1
  rw [lvM_pre HP (Nat.lt_succ_self k) _ hk (Nat.le_refl _), lvM_succ h]
  have := lvM_len HP k (by omega)
  dsimp only
  rw [List.getElem?_append_right (by omega), this]
  simp
theorem lv_top {N : Nat} {xss : List (List Int)} (HP : Pairs N xss) {j c d : Nat} (h : xss[j]? = some [(c : Int), (d : Int)]) : ∀ k, j < k → k ≤ xss.length →
    (lvM xss xss.length).2.getD j 0 ≤ (lvM xss k).1 c ∧ (lvM xss xss.length).2.getD j 0 ≤ (lvM xss k).1 d := by
  intro k hk
  induction hk with
  | refl =>
    intro hl
    rw [List.getD_eq_getElem?_getD, lv_at HP h, lvM_succ h]
    simp
  | @step k hk ih =>
    have hk' : j + 1 ≤ k := hk
    intro hl
    obtain ⟨a, b, e, _, _, _⟩ := HP k xss[k] (List.getElem?_eq_getElem (by omega))
    rw [lvM_succ (k := k) (a := a) (b := b) (by rw [List.getElem?_eq_getElem (by omega), e])]
    have := ih (by omega)
    generalize (lvM xss xss.length).2.getD j 0 = q at *
    dsimp only
    constructor
    · split
      · rename_i h1
        rcases h1 with rfl | rfl <;> omega
      · omega
    · split
      · rename_i h1
        rcases h1 with rfl | rfl <;> omega
      · omega
/-- A network's first k comparators, level by level. -/
def levRun (xss : List (List Int)) (lv : List Int) (k : Nat) (xs : List Int) : Nat → List Int
  | 0 => xs
  | d + 1 => runC (lpM xss lv ((d : Int) + 1) k) (levRun xss lv k xs d)
theorem levRun_length (xss : List (List Int)) (lv : List Int) (k : Nat) (xs : List Int) : ∀ d, (levRun xss lv k xs d).length = xs.length
  | 0 => rfl
  | d + 1 => by rw [levRun, runC_length, levRun_length xss lv k xs d]
theorem lpM_mem {xss : List (List Int)} {lv : List Int} {lvl : Int} : ∀ (k j : Nat) (ys : List Int), k ≤ xss.length → (lpM xss lv lvl k)[j]? = some ys → ∃ i, i < k ∧ xss[i]? = some ys ∧ lv.getD i 0 = lvl
  | 0, j, ys, _, h => by simp [lpM] at h
  | k + 1, j, ys, hk, h => by
    simp only [lpM] at h
    split at h
    · rename_i he
      rcases Nat.lt_or_ge j (lpM xss lv lvl k).length with h1 | h1
      · rw [List.getElem?_append_left h1] at h
        obtain ⟨i, h2, h3, h4⟩ := lpM_mem k j ys (by omega) h
        exact ⟨i, by omega, h3, h4⟩
      · rw [List.getElem?_append_right h1] at h
        obtain ⟨h5, h6⟩ := List.getElem?_eq_some_iff.1 h
        simp only [List.length_singleton] at h5
        have h7 : xss.getD k [] = ys := by simpa [show j - (lpM xss lv lvl k).length = 0 by omega] using h6
        rw [List.getD_eq_getElem?_getD, List.getElem?_eq_getElem (show k < xss.length by omega)] at h7
        exact ⟨k, by omega, by rw [List.getElem?_eq_getElem (show k < xss.length by omega)]; exact congrArg some h7, he⟩
    · obtain ⟨i, h2, h3, h4⟩ := lpM_mem k j ys (by omega) h
      exact ⟨i, by omega, h3, h4⟩
theorem levRun_step {N : Nat} {xss : List (List Int)} {xs : List Int} (HP : Pairs N xss) (hx : xs.length = N) {k a b L : Nat} (h : xss[k]? = some [(a : Int), (b : Int)]) (ha : a < N) (hb : b < N) (hab : a ≠ b)
    (hL : (lvM xss xss.length).2[k]? = some ((L : Int) + 1)) : ∀ d, levRun xss (lvM xss xss.length).2 (k + 1) xs d = if d ≤ L then levRun xss (lvM xss xss.length).2 k xs d else swM (levRun xss (lvM xss xss.length).2 k xs d) a b
  | 0 => by simp [levRun]
  | d + 1 => by
    have hk := (List.getElem?_eq_some_iff.1 h).1
    have ih := levRun_step HP hx h ha hb hab hL d
    simp only [levRun, ih]
    rcases Nat.lt_trichotomy d L with h1 | h1 | h1
    · rw [if_pos (by omega), if_pos (by omega), lpM_no hL (by omega)]
    · subst h1
      rw [if_pos (Nat.le_refl _), if_neg (by omega), lpM_yes hL h rfl, runC_snoc]
    · rw [if_neg (by omega), if_neg (by omega), lpM_no hL (by omega)]
      unfold runC
      apply runC_sw ha hb hab _ _ _ (by rw [levRun_length]; exact hx)
      intro j ys hj hys
      obtain ⟨i, hi, hxi, hlv⟩ := lpM_mem k j ys (by omega) hys
      obtain ⟨c, e, rfl, hc, he, hce⟩ := HP i ys hxi
      have ht := lv_top HP hxi k hi (by omega)
      rw [hlv] at ht
      have hq := lv_at HP h
      rw [hL] at hq
      have hq2 := Option.some.inj hq
      refine ⟨c, e, rfl, hc, he, hce, ?_, ?_, ?_, ?_⟩ <;> (rintro rfl; omega)
/-- Level by level a network answers as in its own order. -/
theorem levRun_all {N : Nat} {xss : List (List Int)} {xs : List Int} (HP : Pairs N xss) (hx : xs.length = N) (D : Nat) : ∀ k, k ≤ xss.length → (∀ j, j < k → (lvM xss xss.length).2.getD j 0 ≤ D) → levRun xss (lvM xss xss.length).2 k xs D = apM xss xs k
  | 0, _, _ => by
    have h0 : ∀ d, levRun xss (lvM xss xss.length).2 0 xs d = xs := by
      intro d
      induction d with
      | zero => rfl
      | succ d ih => rw [levRun, ih]; rfl
    rw [h0]; rfl
  | k + 1, hk, hj => by
    have ih := levRun_all HP hx D k (by omega) (fun j h => hj j (by omega))
    have he := List.getElem?_eq_getElem (show k < xss.length by omega)
    obtain ⟨a, b, e, ha, hb, hab⟩ := HP k _ he
    rw [e] at he
    have hL := lv_at HP he
    have hB1 := (lvM_bound xss k a).1
    have hB2 := (lvM_bound xss k b).1
    have hd := hj k (Nat.lt_succ_self k)
    rw [List.getD_eq_getElem?_getD, hL] at hd
    simp only [Option.getD_some] at hd
    have hL2 : (lvM xss xss.length).2[k]? = some (((max ((lvM xss k).1 a) ((lvM xss k).1 b)).toNat : Int) + 1) := by rw [hL]; congr 1; omega
    rw [levRun_step HP hx he ha hb hab hL2, if_neg (by omega), ih]
    simp only [apM, he, Int.toNat_natCast]

end Go.Proofs.Ytdfjopcfgpigoaa
