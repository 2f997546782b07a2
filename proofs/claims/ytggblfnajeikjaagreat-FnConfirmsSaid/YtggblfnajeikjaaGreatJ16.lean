/- Joined texts of the proof: MergeC, PlainCm. -/
import Derived.WalkKit
import Derived.WalkSpells
import Derived.WalkLawsBesides
import Derived.Deep.Draws
import Derived.Lib.Hide
import Derived.RegionTactic
import Derived.Test.YtggblfnajeikjaaGreatRows
import Derived.BigQuiet
import Derived.Deep.QuietTactic
import Derived.Deep.DeepCutAuto
import Derived.Deep.LoopGhost
import Derived.Test.YtggblfnajeikjaaGreatJ1
import Derived.Test.YtggblfnajeikjaaGreatJ2
import Derived.Test.YtggblfnajeikjaaGreatJ4
import Derived.Test.YtggblfnajeikjaaGreatJ6
import Derived.Test.YtggblfnajeikjaaGreatJ9
namespace Go.Proofs.YtggblfnajeikjaaGreat
open Go.RowKit
set_option linter.unusedVariables false
set_option linter.unusedSimpArgs false

theorem sumL_perm {a b : List Int} (h : a.Perm b) : sumL a = sumL b := by
  induction h with
  | nil => rfl
  | cons x _ ih => simp only [sumL, ih]
  | swap x y l => simp only [sumL]; omega
  | trans _ _ h1 h2 => rw [h1, h2]
def cmL : Nat → List Int → Int
  | f + 1, a :: b :: t => (a + b) + cmL f (srt (t ++ [a + b]))
  | _, _ => 0
def cm (xs : List Int) : Int := cmL xs.length (srt xs)
/-- A list of runs on the way: sum S, each at least 1. -/
def RunsL (S : Int) (s : List Int) : Prop := sumL s = S ∧ s.length ≤ 8 ∧ ∀ x ∈ s, 1 ≤ x
theorem RunsL.srt {S : Int} {s : List Int} (h : RunsL S s) : RunsL S (srt s) :=
  ⟨(sumL_perm (srt_perm s)).trans h.1, by rw [srt_length]; exact h.2.1, fun x hx => h.2.2 x ((srt_perm s).mem_iff.1 hx)⟩
theorem sumL_nonneg : ∀ {s : List Int}, (∀ x ∈ s, 1 ≤ x) → 0 ≤ sumL s
  | [], _ => by simp [sumL]
  | x :: t, h => by
    have h1 := h x (by simp)
    have h2 := sumL_nonneg (s := t) fun y hy => h y (by simp [hy])
    simp only [sumL]
    omega
theorem RunsL.pair {S a b : Int} {t : List Int} (h : RunsL S (a :: b :: t)) : 1 ≤ a ∧ 1 ≤ b ∧ a + b ≤ S ∧ RunsL S (t ++ [a + b]) := by
  obtain ⟨h1, h2, h3⟩ := h
  have ha := h3 a (by simp)
  have hb := h3 b (by simp)
  have ht := sumL_nonneg (s := t) fun y hy => h3 y (by simp [hy])
  simp only [sumL] at h1
  refine ⟨ha, hb, by omega, ⟨?_, ?_, fun y hy => ?_⟩⟩
  · rw [sumL_append]; simp only [sumL]; omega
  · simp only [List.length_cons] at h2; simp; omega
  · rcases List.mem_append.1 hy with hy | hy
    · exact h3 y (by simp [hy])
    · rw [List.mem_singleton] at hy; omega
theorem RunsL.of {xs : List Int} (h : lensB xs = true) : RunsL (sumL xs) xs ∧ 0 ≤ sumL xs ∧ sumL xs ≤ 8000 := by
  obtain ⟨h1, h2⟩ := lensB_iff.1 h
  have := sumL_bd xs h2
  exact ⟨⟨rfl, h1, fun x hx => (h2 x hx).1⟩, by omega, by omega⟩
theorem cmL_short {f : Nat} {s : List Int} (h : s.length ≤ 1) : cmL f s = 0 := by
  match f, s, h with
  | 0, _, _ => rfl
  | f + 1, [], _ => rfl
  | f + 1, [_], _ => rfl

end Go.Proofs.YtggblfnajeikjaaGreat

namespace Go.Proofs.YtggblfnajeikjaaGreat
set_option linter.unusedVariables false
set_option linter.unusedSimpArgs false

/-- The place of the first least among the first k. -/
def bk (ws : List Int) : Nat → Nat
  | 0 => 0
  | k + 1 => if ws.getD k 0 < ws.getD (bk ws k) 0 then k else bk ws k
theorem bk_ok {ws : List Int} (h0 : 0 < ws.length) : ∀ k, k ≤ ws.length → bk ws k < ws.length ∧ ∀ j, j < k → ws.getD (bk ws k) 0 ≤ ws.getD j 0
  | 0, _ => ⟨h0, fun j hj => by omega⟩
  | k + 1, hk => by
    obtain ⟨h1, h2⟩ := bk_ok h0 k (by omega)
    rw [bk]
    split
    · rename_i hlt
      refine ⟨by omega, fun j hj => ?_⟩
      by_cases e : j = k
      · subst e; exact Int.le_refl _
      · have := h2 j (by omega); omega
    · rename_i hge
      refine ⟨h1, fun j hj => ?_⟩
      by_cases e : j = k
      · subst e; omega
      · exact h2 j (by omega)
def minI (ws : List Int) : Nat := bk ws ws.length
def minV (ws : List Int) : Int := ws.getD (minI ws) 0
theorem minI_lt {ws : List Int} (h : 0 < ws.length) : minI ws < ws.length := (bk_ok h _ (Nat.le_refl _)).1
theorem minV_get {ws : List Int} (h : 0 < ws.length) : ws[minI ws]? = some (minV ws) := by
  rw [minV, List.getD_eq_getElem?_getD, List.getElem?_eq_getElem (minI_lt h)]; rfl
theorem minV_le {ws : List Int} (h : 0 < ws.length) : ∀ x ∈ ws, minV ws ≤ x := fun x hx => by
  obtain ⟨j, hj, rfl⟩ := List.getElem_of_mem hx
  have := (bk_ok h _ (Nat.le_refl _)).2 j hj
  rw [List.getD_eq_getElem?_getD (l := ws) (i := j), List.getElem?_eq_getElem hj] at this
  exact this
theorem erase_perm {l : List Int} {i : Nat} (h : i < l.length) : (l[i] :: l.eraseIdx i).Perm l := by
  have e : l = l.take i ++ l[i] :: l.drop (i + 1) := by rw [← List.drop_eq_getElem_cons h, List.take_append_drop]
  rw [List.eraseIdx_eq_take_drop_succ]
  exact (List.perm_middle.symm).trans (List.Perm.of_eq e.symm)
def restL (ws : List Int) : List Int := ws.eraseIdx (minI ws)
theorem restL_perm {ws : List Int} (h : 0 < ws.length) : (minV ws :: restL ws).Perm ws := by
  have h1 := minI_lt h
  have h2 : ws[minI ws] = minV ws := by
    have := minV_get h
    rw [List.getElem?_eq_getElem h1] at this
    exact Option.some.inj this
  have := erase_perm h1
  rw [h2] at this
  exact this
theorem restL_len {ws : List Int} (h : 0 < ws.length) : (restL ws).length + 1 = ws.length := by
  have := (restL_perm h).length_eq
  simpa using this
theorem srt_min {ws : List Int} (h : 0 < ws.length) : srt ws = minV ws :: srt (restL ws) := by
  symm
  refine srt_unique ?_ ?_
  · exact ((srt_perm _).cons _).trans (restL_perm h)
  · refine List.pairwise_cons.2 ⟨fun y hy => ?_, srt_pair _⟩
    have h1 := (srt_perm _).mem_iff.1 hy
    exact minV_le h y ((restL_perm h).mem_iff.1 (List.mem_cons_of_mem _ h1))
def icL : Nat → List Int → Int
  | 0, _ => 0
  | f + 1, ws => if 1 < ws.length then (minV ws + minV (restL ws)) + icL f (restL (restL ws) ++ [minV ws + minV (restL ws)]) else 0
theorem icL_cmL : ∀ (f : Nat) (ws : List Int), icL f ws = cmL f (srt ws)
  | 0, ws => rfl
  | f + 1, ws => by
    rw [icL]
    split
    · rename_i h
      have h1 := restL_len (ws := ws) (by omega)
      rw [srt_min (ws := ws) (by omega), srt_min (ws := restL ws) (by omega), cmL, icL_cmL f]
      congr 2
      exact srt_congr ((srt_perm _).symm.append_right _)
    · rename_i h
      rw [cmL_short (by rw [srt_length]; omega)]
theorem icL_short {f : Nat} {ws : List Int} (h : ws.length ≤ 1) : icL f ws = 0 := by rw [icL_cmL, cmL_short (by rw [srt_length]; exact h)]

end Go.Proofs.YtggblfnajeikjaaGreat
