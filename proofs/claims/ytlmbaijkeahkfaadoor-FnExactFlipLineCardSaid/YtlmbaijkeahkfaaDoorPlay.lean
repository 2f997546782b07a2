/- Walks: all matches of a tree. -/
import Derived.Test.YtlmbaijkeahkfaaDoorTree
namespace Go.Proofs.YtlmbaijkeahkfaaDoor
open Go.RowKit
set_option linter.unusedVariables false
set_option linter.unusedSimpArgs false

def Ap (a b : Value) : Prop := ∀ g, a.ownBlock = some g → b.ownBlock ≠ some g
theorem Ap.symm {a b : Value} (h : Ap a b) : Ap b a := fun g h1 h2 => h g h2 h1
theorem Ap.left {w : World} {E B : Nat} {a b a' : Value} {ys : List Value} (h : Ap a b) (hb : Own w E B b ys) (hat : a'.ownBlock = a.ownBlock ∨ ∃ k, w.heap.size ≤ k ∧ a'.ownBlock = some k) : Ap a' b := by
  intro g hg e
  rcases hat with hat | ⟨k, hk, hat⟩
  · exact h g (hat ▸ hg) e
  · rw [hat] at hg
    cases hg
    have := (hb.lt _ e).2
    omega
theorem Ap.right {w : World} {E B : Nat} {a b b' : Value} {ys : List Value} (h : Ap a b) (ha : Own w E B a ys) (hat : b'.ownBlock = b.ownBlock ∨ ∃ k, w.heap.size ≤ k ∧ b'.ownBlock = some k) : Ap a b' := (h.symm.left ha hat).symm
theorem Ap.fresh {w : World} {E B : Nat} {a : Value} {ys : List Value} (ha : Own w E B a ys) (n c : Nat) : Ap a (.slice (some ⟨w.heap.size, 0, none⟩) n c) := by
  intro g hg e
  have := (ha.lt _ hg).2
  simp [Value.ownBlock] at e
  omega
theorem Own.ap {w w' : World} {E B : Nat} {a b : Value} {ys : List Value} (ha : Own w E B a ys) (hg : w.grownBy w' b.ownBlock) (h : Ap a b) : Own w' E B a ys := ha.apart hg h

theorem twoApps {w wr w2 w3 w4 : World} {E : Nat} {vn vx vl x' l' : Value} {now ns ls xs3 ls4 : List Value} (hb : Below w.heap.size w wr) (dd : Dr wr w2) (hn : Own wr E w.heap.size vn now) (hx : Own wr E w.heap.size vx ns) (hl : Own wr E w.heap.size vl ls)
    (ap1 : Ap vn vl) (ap2 : Ap vn vx) (ap3 : Ap vx vl) (hx3 : Own w3 E w.heap.size x' xs3) (hg3 : w2.grownBy w3 vx.ownBlock) (hat3 : x'.ownBlock = vx.ownBlock ∨ ∃ k, w2.heap.size ≤ k ∧ x'.ownBlock = some k)
    (hl4 : Own w4 E w.heap.size l' ls4) (hg4 : w3.grownBy w4 vl.ownBlock) (hat4 : l'.ownBlock = vl.ownBlock ∨ ∃ k, w3.heap.size ≤ k ∧ l'.ownBlock = some k) :
    Own w4 E w.heap.size vn now ∧ Own w4 E w.heap.size l' ls4 ∧ Own w4 E w.heap.size x' xs3 ∧ Ap vn l' ∧ Ap vn x' ∧ Ap x' l' ∧ Below w.heap.size w w4 := by
  have hb2 := hb.trans (dd.below _)
  have h3 := (hn.dr dd).ap hg3 ap2
  have a3 := ap3.left (hl.dr dd) hat3
  have hb3 := hb2.grown hg3 hb2.size fun r hr => (hx.lt r hr).1
  exact ⟨h3.ap hg4 ap1, hl4, hx3.ap hg4 a3, ap1.right h3 hat4, ap2.right (hn.dr dd) hat3, a3.right hx3 hat4, hb3.grown hg4 hb3.size fun r hr => (hl.lt r hr).1⟩

set_option maxHeartbeats 400000 in
theorem i_wires (n : Nat) (w : World) (hn : n ≤ 1000000) : Calls Tryd.prog 138 #[.int .i64 0, .int .i64 (n : Int)] w (RetOwn 3 (ints (stairs n)) w) := by
  go_enter Tryd.func138, Tryd.ntmps138
  go_wp2
  go_loopw [5, 6] (fun vo i wr => ∃ j : Nat, j ≤ n ∧ i = .int .i64 j ∧ Own wr 3 w.heap.size vo (ints (stairs j)) ∧ Below w.heap.size w wr)
    (fun _ i _ => n - (intOf i).toNat)
  case atStart => exact ⟨0, Nat.zero_le _, rfl, Own.lit0 w _ (Nat.le_refl _), (Below.refl _ _).alloc (Nat.le_refl _) _⟩
  case round =>
    obtain ⟨j, hj, rfl, hs, hb⟩ := hrel
    obtain ⟨az, cs, rfl, _, hcs⟩ := hs.rd.formi
    have hL := stairs_length j
    by_cases hlt : j < n
    · go_wp2_with (at_builtin; refine wpList_app1 rfl _ _ 22 rfl elI rfl hs rfl rfl hb.size (by rw [ints_length]; omega) (by rw [ints_length]; omega) ?_; intro bn cn' w2 hs2 hgrow hat)
      have hb2 := hb.grown hgrow hb.size fun r hr => (hs.lt r hr).1
      go_roundw
      case rel => exact ⟨j + 1, by omega, by go_num, by rw [stairs_succ, ints_append]; exact hs2, hb2⟩
      case measure => simp [intOf]; omega
    · obtain rfl : n = j := by omega
      go_wp2
      go_ret
      exact ⟨_, rfl, hs, hb⟩

end Go.Proofs.YtlmbaijkeahkfaaDoor
