/- Buffers on lists: no program in sight. -/
import Derived.Test.YtlbakbachcpifaaPlainSort
namespace Go.Proofs.Ytlbakbachcpifaa
set_option linter.unusedVariables false

/-- A run of a buffer: how many numbers are read, what is in it, what is written, what was in it before each. -/
structure BS where
  next : Nat
  b : List Int
  out : List Int
  tr : List (List Int)
def busy (xs : List Int) (S : BS) : Prop := S.next < xs.length ∨ 0 < S.b.length
instance (xs : List Int) (S : BS) : Decidable (busy xs S) := inferInstanceAs (Decidable (_ ∨ _))
def bput (once : Bool) (b : List Int) (x : Int) : List Int := if once = true ∧ x ∈ b then b else srt (b ++ [x])
def bstep (xs : List Int) (k : Nat) (once : Bool) (S : BS) : BS :=
  if S.b.length < k ∧ S.next < xs.length then ⟨S.next + 1, bput once S.b (xs.getD S.next 0), S.out, S.tr⟩
  else ⟨S.next, S.b.tail, S.out ++ [S.b.headD 0], S.tr ++ [S.b]⟩
def bmu (xs : List Int) (S : BS) : Nat := 2 * (xs.length - S.next) + S.b.length
theorem bput_length (once : Bool) (b : List Int) (x : Int) : (bput once b x).length ≤ b.length + 1 := by
  unfold bput
  split
  · omega
  · rw [srt_length]; simp
theorem bmu_step {xs : List Int} {k : Nat} {once : Bool} {S : BS} (hk : 1 ≤ k) (hb : busy xs S) : bmu xs (bstep xs k once S) < bmu xs S := by
  unfold bstep bmu busy at *
  split
  · rename_i h
    have := bput_length once S.b (xs.getD S.next 0)
    dsimp only
    omega
  · rename_i h
    dsimp only
    rw [List.length_tail]
    omega
def runB (xs : List Int) (k : Nat) (once : Bool) : Nat → BS → BS
  | 0, S => S
  | f + 1, S => if busy xs S then runB xs k once f (bstep xs k once S) else S
def finB (xs : List Int) (k : Nat) (once : Bool) (S : BS) : BS := runB xs k once (bmu xs S) S
theorem runB_fuel {xs : List Int} {k : Nat} {once : Bool} (hk : 1 ≤ k) : ∀ (f : Nat) (S : BS), bmu xs S ≤ f → runB xs k once f S = finB xs k once S := by
  intro f
  induction f using Nat.strongRecOn with
  | _ f ih =>
    intro S hS
    match f, ih with
    | 0, _ => rw [finB, show bmu xs S = 0 by omega]
    | f + 1, ih =>
      by_cases hb : busy xs S
      · have h1 := bmu_step (once := once) hk hb
        obtain ⟨m, hm⟩ : ∃ m, bmu xs S = m + 1 := ⟨bmu xs S - 1, by omega⟩
        have e2 : finB xs k once S = finB xs k once (bstep xs k once S) := by rw [finB, hm, runB, if_pos hb, ih m (by omega) _ (by omega)]
        rw [runB, if_pos hb, ih f (by omega) _ (by omega), e2]
      · rw [runB, if_neg hb, finB]
        cases bmu xs S with
        | zero => rfl
        | succ m => rw [runB, if_neg hb]
theorem finB_busy {xs : List Int} {k : Nat} {once : Bool} {S : BS} (hk : 1 ≤ k) (hb : busy xs S) : finB xs k once S = finB xs k once (bstep xs k once S) := by
  have h1 := bmu_step (once := once) hk hb
  obtain ⟨m, hm⟩ : ∃ m, bmu xs S = m + 1 := ⟨bmu xs S - 1, by omega⟩
  rw [finB, hm, runB, if_pos hb, runB_fuel hk _ _ (by omega)]
theorem finB_done {xs : List Int} {k : Nat} {once : Bool} {S : BS} (hb : ¬ busy xs S) : finB xs k once S = S := by
  rw [finB]
  cases bmu xs S with
  | zero => rfl
  | succ m => rw [runB, if_neg hb]
def bS0 : BS := ⟨0, [], [], []⟩
def bOut (xs : List Int) (k : Nat) (once : Bool) : List Int := (finB xs k once bS0).out
def bTr (xs : List Int) (k : Nat) (once : Bool) : List (List Int) := (finB xs k once bS0).tr
/-- What holds on the way. -/
structure BInv (xs : List Int) (k : Nat) (S : BS) : Prop where
  desc : Desc S.b.reverse
  room : S.b.length ≤ k
  read : S.next ≤ xs.length
  all : S.out.length + S.b.length ≤ S.next
  trs : S.tr.length = S.out.length
  rows : ∀ r ∈ S.tr, r.length ≤ k
theorem bput_desc {once : Bool} {b : List Int} (h : Desc b.reverse) (x : Int) : Desc (bput once b x).reverse := by
  unfold bput
  split
  · exact h
  · exact srt_desc _
theorem BInv.step {xs : List Int} {k : Nat} {once : Bool} {S : BS} (h : BInv xs k S) (hk : 1 ≤ k) (hb : busy xs S) : BInv xs k (bstep xs k once S) := by
  unfold bstep
  by_cases hc : S.b.length < k ∧ S.next < xs.length
  · rw [if_pos hc]
    have := bput_length once S.b (xs.getD S.next 0)
    have h1 := h.all
    exact ⟨bput_desc h.desc _, by dsimp only; omega, by dsimp only; omega, by dsimp only; omega, h.trs, h.rows⟩
  · rw [if_neg hc]
    have h1 := h.all
    have h2 := h.room
    have h3 := h.trs
    unfold busy at hb
    match hS : S.b with
    | [] => rw [hS] at hc hb; simp at hc hb; omega
    | y :: t =>
      have hd := h.desc
      rw [hS] at h1 h2 hd
      simp only [List.length_cons] at h1 h2
      refine ⟨desc_tail hd, by simp only [List.tail_cons]; omega, h.read, by simp only [List.length_append, List.length_cons, List.length_nil, List.tail_cons]; omega, by simp only [List.length_append, h3]; rfl, fun r hr => ?_⟩
      rcases List.mem_append.1 hr with hr | hr
      · exact h.rows r hr
      · rw [List.mem_singleton] at hr
        subst hr
        simp only [List.length_cons]
        omega
theorem BInv.start (xs : List Int) (k : Nat) : BInv xs k bS0 := ⟨by simp [bS0, Desc], by simp [bS0], Nat.zero_le _, Nat.le_refl _, rfl, fun r hr => by simp [bS0] at hr⟩

end Go.Proofs.Ytlbakbachcpifaa
