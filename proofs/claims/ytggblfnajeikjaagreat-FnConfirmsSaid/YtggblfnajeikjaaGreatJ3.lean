/- Joined texts of the proof: PlainRes. -/
import Derived.Lib.RowBridge
import Derived.Sort.OwnSortedInts
namespace Go.Proofs.YtggblfnajeikjaaGreat
set_option linter.unusedVariables false
set_option linter.unusedSimpArgs false

theorem asc_eq : ∀ {a b : List Int}, a.Pairwise (· < ·) → b.Pairwise (· < ·) → (∀ x, x ∈ a ↔ x ∈ b) → a = b
  | [], [], _, _, _ => rfl
  | [], y :: t, _, _, h => by have := (h y).2 (by simp); simp at this
  | x :: s, [], _, _, h => by have := (h x).1 (by simp); simp at this
  | x :: s, y :: t, ha, hb, h => by
    rw [List.pairwise_cons] at ha hb
    have e : x = y := by
      have h1 := (h x).1 (by simp)
      have h2 := (h y).2 (by simp)
      rcases List.mem_cons.1 h1 with e | h1
      · exact e
      · rcases List.mem_cons.1 h2 with e | h2
        · exact e.symm
        · have := hb.1 x h1
          have := ha.1 y h2
          omega
    subst e
    rw [asc_eq ha.2 hb.2 fun z => ?_]
    constructor
    · intro hz
      rcases List.mem_cons.1 ((h z).1 (List.mem_cons_of_mem _ hz)) with e | h1
      · have := ha.1 z hz; omega
      · exact h1
    · intro hz
      rcases List.mem_cons.1 ((h z).2 (List.mem_cons_of_mem _ hz)) with e | h1
      · have := hb.1 z hz; omega
      · exact h1
theorem getB (zs : List Int) {j : Nat} (h : j < zs.length) : zs.toArray[j]! = zs[j] := by
  rw [getElem!_pos zs.toArray j (by simpa using h)]
  simp
theorem compact_mem {zs : List Int} {x : Int} : x ∈ Lib.compact zs ↔ x ∈ zs := by
  unfold Lib.compact Lib.compactUpTo
  simp only [List.mem_map, List.mem_filter, List.mem_range]
  constructor
  · rintro ⟨j, ⟨hj, _⟩, rfl⟩
    rw [getB zs hj]
    exact List.getElem_mem hj
  · intro hx
    obtain ⟨j, hj, rfl⟩ := List.getElem_of_mem hx
    have go : ∀ j (hj : j < zs.length), ∃ a, (a < zs.length ∧ Lib.keeps zs.toArray a = true) ∧ zs.toArray[a]! = zs[j] := by
      intro j
      induction j with
      | zero => intro hj; exact ⟨0, ⟨hj, by simp [Lib.keeps]⟩, getB zs hj⟩
      | succ j ih =>
        intro hj
        by_cases e : zs.toArray[j + 1]! = zs.toArray[j]!
        · obtain ⟨a, h1, h2⟩ := ih (by omega)
          refine ⟨a, h1, ?_⟩
          rw [h2, ← getB zs hj, e, getB zs (by omega)]
        · exact ⟨j + 1, ⟨hj, by rw [Lib.keeps, decide_eq_true_eq]; exact .inr e⟩, getB zs hj⟩
    exact go j hj
theorem compact_asc {zs : List Int} (h : zs.Pairwise (· ≤ ·)) : (Lib.compact zs).Pairwise (· < ·) := by
  unfold Lib.compact Lib.compactUpTo
  rw [List.pairwise_map]
  refine List.Pairwise.imp_of_mem ?_ (List.Pairwise.filter _ List.pairwise_lt_range)
  intro a b ha hb hab
  simp only [List.mem_filter, List.mem_range] at ha hb
  have hk := hb.2
  rw [Lib.keeps, decide_eq_true_eq] at hk
  have h1 : zs.toArray[b]! ≠ zs.toArray[b - 1]! := hk.resolve_left (by omega)
  rw [getB zs hb.1, getB zs (show b - 1 < zs.length by omega)] at h1
  rw [getB zs ha.1, getB zs hb.1]
  rw [List.pairwise_iff_getElem] at h
  have h2 := h (b - 1) b (by omega) hb.1 (by omega)
  have h3 : zs[a] ≤ zs[b - 1]'(by omega) := by
    rcases Nat.lt_or_ge a (b - 1) with h' | h'
    · exact h a (b - 1) ha.1 (by omega) h'
    · have : a = b - 1 := by omega
      subst this
      exact Int.le_refl _
  omega
/-- The numbers of l that lie below M, each once, in order. -/
def dedL (M : Nat) (l : List Nat) : List Int := ((List.range M).filter fun r => l.contains r).map fun (r : Nat) => (r : Int)
def msort (xs : List Int) : List Int := xs.mergeSort fun x y => decide (x ≤ y)
theorem msort_len (xs : List Int) : (msort xs).length = xs.length := (List.mergeSort_perm _ _).length_eq
theorem compact_dedL {M : Nat} {l : List Nat} (h : ∀ x ∈ l, x < M) : Lib.compact (msort (l.map fun (x : Nat) => (x : Int))) = dedL M l := by
  apply asc_eq
  · apply compact_asc
    have := List.pairwise_mergeSort (le := fun (x y : Int) => decide (x ≤ y)) (fun a b c h1 h2 => by simp at *; omega) (fun a b => by simp; omega) (l.map fun (x : Nat) => (x : Int))
    exact this.imp fun h => by simpa using h
  · rw [dedL, List.pairwise_map]
    exact (List.Pairwise.filter _ List.pairwise_lt_range).imp fun h => by omega
  · intro x
    rw [compact_mem, msort, List.mem_mergeSort, dedL]
    simp only [List.mem_map, List.mem_filter, List.mem_range, List.contains_iff_mem]
    constructor
    · rintro ⟨a, ha, rfl⟩
      exact ⟨a, ⟨h a ha, ha⟩, rfl⟩
    · rintro ⟨a, ⟨_, ha⟩, rfl⟩
      exact ⟨a, ha, rfl⟩

end Go.Proofs.YtggblfnajeikjaaGreat
