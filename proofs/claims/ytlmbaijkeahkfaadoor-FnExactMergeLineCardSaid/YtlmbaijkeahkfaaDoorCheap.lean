/- Walks: the cheapest merge, in the program: its words. -/
import Derived.Test.YtlmbaijkeahkfaaDoorRunTake
import Derived.Test.YtlmbaijkeahkfaaDoorMergeLineI
import Derived.Test.YtlmbaijkeahkfaaDoorCat
import Derived.Deep.AppendLies
import Derived.Deep.RegionHeld3
namespace Go.Proofs.YtlmbaijkeahkfaaDoor
open Go.RowKit
set_option linter.unusedVariables false
set_option linter.unusedSimpArgs false

theorem tot_erase : ∀ {mss : List (List Int)} {k : Nat} {ms : List Int}, mss[k]? = some ms → tot (mss.eraseIdx k) + ms.length = tot mss
  | x :: t, 0, ms, h => by simp at h; subst h; simp [tot]; omega
  | x :: t, k + 1, ms, h => by
    have := tot_erase (mss := t) (k := k) (ms := ms) (by simpa using h)
    simp only [List.eraseIdx_cons_succ, tot, List.foldr_cons] at this ⊢
    omega
/-- The members' slices: each is owned and holds numbers below N; at most N in all. -/
structure MemAt (w : World) (B N : Nat) (vs : List Value) (mss : List (List Int)) : Prop where
  len : vs.length = mss.length
  own : ∀ (k : Nat) (u : Value) (ms : List Int), vs[k]? = some u → mss[k]? = some ms → Own w 3 B u (ints ms)
  rng : ∀ ms ∈ mss, ∀ x ∈ ms, 0 ≤ x ∧ x < (N : Int)
  few : Go.Proofs.YtlmbaijkeahkfaaDoor.tot mss ≤ N
section
variable {w w' : World} {B N : Nat} {vs : List Value} {mss : List (List Int)}
theorem MemAt.nil (w : World) (B N : Nat) : MemAt w B N [] [] := ⟨rfl, fun k u ms h => by simp at h, fun ms h => by simp at h, Nat.zero_le _⟩
theorem MemAt.get (h : MemAt w B N vs mss) {k : Nat} {u : Value} (hu : vs[k]? = some u) : ∃ ms, mss[k]? = some ms ∧ Own w 3 B u (ints ms) ∧ (∀ x ∈ ms, 0 ≤ x ∧ x < (N : Int)) ∧ ms.length ≤ tot mss := by
  have hk := (List.getElem?_eq_some_iff.1 hu).1
  have hkm : k < mss.length := by rw [← h.len]; exact hk
  have hm : mss[k]? = some mss[k] := List.getElem?_eq_getElem (show k < mss.length by rw [← h.len]; exact hk)
  exact ⟨_, hm, h.own k u _ hu hm, h.rng _ (List.mem_of_getElem? hm), tot_mem (List.mem_of_getElem? hm)⟩
theorem MemAt.mem (h : MemAt w B N vs mss) {u : Value} (hu : u ∈ vs) : ∃ ms, Own w 3 B u (ints ms) := by
  obtain ⟨k, hk, rfl⟩ := List.getElem_of_mem hu
  obtain ⟨ms, _, ho, _⟩ := h.get (List.getElem?_eq_getElem hk)
  exact ⟨ms, ho⟩
theorem MemAt.keep (h : MemAt w B N vs mss) (hk : ∀ u ∈ vs, ∀ b, u.ownBlock = some b → w'.heap[b]? = w.heap[b]?) : MemAt w' B N vs mss :=
  ⟨h.len, fun k u ms hu hm => (h.own k u ms hu hm).keep fun b _ e => hk u (List.mem_of_getElem? hu) b e.symm, h.rng, h.few⟩
theorem MemAt.below (h : MemAt w B N vs mss) (hb : Below w.heap.size w w') : MemAt w' B N vs mss := h.keep fun u hu b e => by
  obtain ⟨ms, ho⟩ := h.mem hu
  exact hb.block b (ho.lt b e).2
theorem MemAt.fr {K : Nat → Prop} (h : MemAt w B N vs mss) (hf : Fr K w w') (hk : ∀ u ∈ vs, ∀ b, u.ownBlock = some b → K b) : MemAt w' B N vs mss := h.keep fun u hu b e => hf.block b (hk u hu b e)
theorem MemAt.erase (h : MemAt w B N vs mss) (k : Nat) : MemAt w B N (vs.eraseIdx k) (mss.eraseIdx k) := by
  have hl := h.len
  refine ⟨by rw [List.length_eraseIdx, List.length_eraseIdx, hl], fun j u ms hu hm => ?_, fun ms hm => h.rng ms (List.mem_of_mem_eraseIdx hm), ?_⟩
  · rw [List.getElem?_eraseIdx] at hu hm
    split at hu
    · rename_i e; rw [if_pos e] at hm; exact h.own _ _ _ hu hm
    · rename_i e; rw [if_neg e] at hm; exact h.own _ _ _ hu hm
  · by_cases e : k < mss.length
    · have := tot_erase (List.getElem?_eq_getElem e); have := h.few; omega
    · rw [List.eraseIdx_of_length_le (by omega)]; exact h.few
theorem MemAt.snoc (h : MemAt w B N vs mss) {u : Value} {ms : List Int} (ho : Own w 3 B u (ints ms)) (hr : ∀ x ∈ ms, 0 ≤ x ∧ x < (N : Int)) (ht : Go.Proofs.YtlmbaijkeahkfaaDoor.tot mss + ms.length ≤ N) : MemAt w B N (vs ++ [u]) (mss ++ [ms]) := by
  have hl := h.len
  refine ⟨by simp [hl], fun k v xs hv hx => ?_, fun xs hx => ?_, by rw [tot_append, tot_one]; exact ht⟩
  · by_cases e : k < vs.length
    · rw [List.getElem?_append_left e] at hv
      rw [List.getElem?_append_left (by omega)] at hx
      exact h.own _ _ _ hv hx
    · have hk := (List.getElem?_eq_some_iff.1 hv).1
      simp at hk
      obtain rfl : k = vs.length := by omega
      rw [List.getElem?_append_right (by omega)] at hv hx
      simp [hl] at hv hx
      subst hv; subst hx
      exact ho
  · rcases List.mem_append.1 hx with hx | hx
    · exact h.rng xs hx
    · rw [List.mem_singleton] at hx; subst hx; exact hr
end

section
variable {w w1 : World} {br g n cap : Nat} {cur : Array Value} {ws : List Int} {vs : List Value}
theorem RunsAt.owns (H : RunsAt w br g n cap cur ws vs) : w.ownsRow 0 90 2 (.slice (some ⟨g, 0, none⟩) n cap) n (cur.toList.take (n * 2)) := by
  have h1 := H.size
  have h2 := H.le
  exact ⟨by simp; omega, .inr ⟨g, cap, cur, rfl, Nat.zero_le _, H.row, H.le, by have := H.capLe; simpa only [maxLen] using this, H.size, rfl⟩⟩
/-- One run more. -/
theorem RunsAt.app {g1 cap1 : Nat} {x : Int} {ua : Option Addr} {um uc : Nat} (H : RunsAt w br g n cap cur ws vs) (hne : br ≠ g)
    (ho : w1.ownsRow 0 90 2 (.slice (some ⟨g1, 0, none⟩) (n + 1) cap1) (n + 1) (cur.toList.take (n * 2) ++ [.int .i64 x, .slice ua um uc])) (hg : w.grownBy w1 (some g)) (hat : some g = some g1 ∨ g1 = w.heap.size) :
    br ≠ g1 ∧ (∃ cur1, RunsAt (w1.setCell ⟨br, 0, none⟩ (.slice (some ⟨g1, 0, none⟩) (n + 1) cap1)) br g1 (n + 1) cap1 cur1 (ws ++ [x]) (vs ++ [.slice ua um uc])) ∧
      Fr (fun k => k < w.heap.size ∧ k ≠ br ∧ k ≠ g) w (w1.setCell ⟨br, 0, none⟩ (.slice (some ⟨g1, 0, none⟩) (n + 1) cap1)) := by
  have hbr : br < w.heap.size := (Array.getElem?_eq_some_iff.1 H.box).1
  have hne1 : br ≠ g1 := by
    rcases hat with e | e
    · injection e with e; omega
    · omega
  have hbx : w1.heap[br]? = _ := (hg.block br hbr fun e => hne (by injection e)).trans H.box
  have hs := H.size
  have hle := H.le
  have hwl := H.wl
  have hvl := H.vl
  refine ⟨hne1, ?_, hg.os, hg.tape, hg.output, by simpa using hg.size, fun k ⟨hk, h1, h2⟩ => ?_⟩
  · obtain ⟨_, h0 | ⟨g2, cap2, cur2, hv, _, hrow, hn2, hc2, hsz2, htk⟩⟩ := ho
    · exact absurd h0.2 (by omega)
    · simp only [Value.slice.injEq, Option.some.injEq, Addr.mk.injEq] at hv
      obtain ⟨⟨rfl, _⟩, _, rfl⟩ := hv
      have hlt : (cur.toList.take (n * 2)).length = n * 2 := by simp; omega
      have hget : ∀ j, j < (n + 1) * 2 → cur2[j]? = if j < n * 2 then cur[j]? else [Value.int .i64 x, .slice ua um uc][j - n * 2]? := fun j hj => by
        rw [← Array.getElem?_toList, ← List.getElem?_take_of_lt hj, htk]
        by_cases e : j < n * 2
        · rw [if_pos e, List.getElem?_append_left (by omega), List.getElem?_take_of_lt e, Array.getElem?_toList]
        · rw [if_neg e, List.getElem?_append_right (by omega), hlt]
      refine ⟨cur2, heap_setCell_same w1 br 0 _ _ _ hbx, (heap_setCell_other w1 _ g1 _ (fun e => hne1 e.symm)).trans hrow, hsz2, hn2, by simpa only [maxLen] using hc2, by simp [hwl], by simp [hvl], fun k y hk => ?_, fun k u hk => ?_, fun k u hk => ?_⟩
      · have hkl := (List.getElem?_eq_some_iff.1 hk).1
        simp [hwl] at hkl
        rw [hget _ (by omega)]
        by_cases e : k < n
        · rw [List.getElem?_append_left (by omega)] at hk
          rw [if_pos (by omega)]; exact H.wc _ _ hk
        · obtain rfl : k = n := by omega
          rw [List.getElem?_append_right (by omega)] at hk
          simp [hwl] at hk
          subst hk
          rw [if_neg (by omega)]; simp
      · have hkl := (List.getElem?_eq_some_iff.1 hk).1
        simp [hvl] at hkl
        rw [hget _ (by omega)]
        by_cases e : k < n
        · rw [List.getElem?_append_left (by omega)] at hk
          rw [if_pos (by omega)]; exact H.vc _ _ hk
        · obtain rfl : k = n := by omega
          rw [List.getElem?_append_right (by omega)] at hk
          simp [hvl] at hk
          subst hk
          rw [if_neg (by omega), show k * 2 + 1 - k * 2 = 1 by omega]; rfl
      · rcases List.mem_append.1 (List.mem_of_getElem? hk) with h | h
        · obtain ⟨j, hj, rfl⟩ := List.getElem_of_mem h
          exact H.sl j _ (List.getElem?_eq_getElem hj)
        · rw [List.mem_singleton] at h; exact ⟨_, _, _, h⟩
  · exact (heap_setCell_other w1 _ k _ h1).trans (hg.block k hk fun e => h2 (by injection e))
end

end Go.Proofs.YtlmbaijkeahkfaaDoor
