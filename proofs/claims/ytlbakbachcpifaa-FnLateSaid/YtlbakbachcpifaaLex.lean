/- A region in the order of its text: the test for great regions, operation by operation. -/
import Derived.Deep.Quiet
namespace Go.Proofs.Ytlbakbachcpifaa
open Go
set_option linter.unusedVariables false
set_option linter.unusedSimpArgs false

def lexAt (md : Region.Mode) (ops : Array Oper) (k : Nat) : Bool :=
  match ops[k]? with
  | none => false
  | some o => (o.after.all fun e => !Region.binds md e || decide (e.on < k)) && ((ops.toList.drop (k + 1)).all fun oj => oj.after.any (fun e => Region.binds md e && e.on == k) || o.apart ops oj)
theorem lexFrom_of {md : Region.Mode} {ops : Array Oper} (h : ∀ k, k < ops.size → lexAt md ops k = true) : ∀ (f k : Nat) (listed : Array Bool), k + f = ops.size → listed.size = ops.size → (∀ j, j < ops.size → listed[j]? = some (decide (j < k))) → Region.lexFrom md ops f k listed = true
  | 0, k, listed, hf, hs, hl => by
    rw [Region.lexFrom, List.isEmpty_iff, Region.ready, List.filter_eq_nil_iff]
    intro i hi
    have hi' := List.mem_range.1 hi
    have : listed.getD i true = true := by
      rw [Array.getD_eq_getD_getElem?, hl i hi']
      simp
      omega
    simp [this]
  | f + 1, k, listed, hf, hs, hl => by
    have hk : k < ops.size := by omega
    have ho : ops[k]? = some ops[k] := Array.getElem?_eq_getElem hk
    have hA := h k hk
    simp only [lexAt, ho, Bool.and_eq_true] at hA
    obtain ⟨h1, h2⟩ := hA
    have hlk : ∀ j, j < ops.size → listed.getD j true = decide (j < k) := fun j hj => by
      rw [Array.getD_eq_getD_getElem?, hl j hj]; rfl
    rw [Region.lexFrom, Bool.and_eq_true, Bool.and_eq_true]
    refine ⟨⟨?_, ?_⟩, lexFrom_of h f (k + 1) _ (by omega) (by simpa using hs) fun j hj => ?_⟩
    · rw [List.contains_iff_mem, Region.ready, List.mem_filter, List.mem_range]
      refine ⟨hk, ?_⟩
      rw [hlk k hk, ho]
      simp only [Option.map_some, Option.getD_some, Nat.lt_irrefl, decide_false, Bool.not_false, Bool.true_and]
      rw [Array.all_eq_true_iff_forall_mem] at h1 ⊢
      intro e he
      have := h1 e he
      rw [Bool.or_eq_true] at this ⊢
      rcases this with h3 | h3
      · exact .inl h3
      · have h4 : e.on < k := by simpa using h3
        refine .inr ?_
        rw [Array.getD_eq_getD_getElem?, hl e.on (by omega)]
        simpa using h4
    · simp only [Region.free, ho, List.all_eq_true, List.mem_range]
      intro j hj
      rw [hlk j hj, Array.getElem?_eq_getElem hj]
      by_cases e1 : j = k
      · simp [e1]
      · by_cases e2 : j < k
        · simp [e2]
        · have hm : ops[j] ∈ ops.toList.drop (k + 1) := by
            rw [List.mem_iff_getElem?]
            refine ⟨j - (k + 1), ?_⟩
            rw [List.getElem?_drop, show k + 1 + (j - (k + 1)) = j by omega, Array.getElem?_toList, Array.getElem?_eq_getElem hj]
          have := List.all_eq_true.1 h2 _ hm
          simp only [e1, e2, decide_false, Bool.or_false]
          rw [show (j == k) = false by simpa using e1, Bool.false_or]
          exact this
    · rw [Array.getElem?_setIfInBounds]
      split
      · rename_i e
        subst e
        rw [if_pos (by omega)]
        simp
      · rename_i e
        rw [hl j hj]
        congr 1
        rw [decide_eq_decide]
        omega
/-- The test in pieces. -/
theorem lexB_of {md : Region.Mode} {ops : Array Oper} (n : Nat) (hn : ops.size = n) (hs : Region.noSelect ops = true) (h : ∀ k, 0 ≤ k → k < n → lexAt md ops k = true) : Region.lexB md ops = true := by
  rw [Region.lexB, hs, Bool.true_and]
  refine lexFrom_of (fun k hk => h k (Nat.zero_le _) (by omega)) _ _ _ (by omega) (by simp) fun j hj => ?_
  simp [hj]
theorem lex_next {md : Region.Mode} {ops : Array Oper} {n : Nat} (lo c : Nat) (h : (List.range' lo c).all (lexAt md ops) = true) (hr : ∀ k, lo + c ≤ k → k < n → lexAt md ops k = true) : ∀ k, lo ≤ k → k < n → lexAt md ops k = true := fun k h1 hk => by
  by_cases e : lo + c ≤ k
  · exact hr k e hk
  · exact List.all_eq_true.1 h k (by rw [List.mem_range'_1]; omega)
theorem lex_done {md : Region.Mode} {ops : Array Oper} {n lo : Nat} (h : n ≤ lo) : ∀ k, lo ≤ k → k < n → lexAt md ops k = true := fun k h1 hk => by omega

end Go.Proofs.Ytlbakbachcpifaa
