/- Walks: slices.Clone, IndexFunc and ContainsFunc with a function that lays blocks. -/
import Derived.Test.YtlbakbachcpifaaNumWalks
import Derived.Test.YtlbakbachcpifaaLists
import Derived.Lib.LazyBuf
namespace Go.Proofs.Ytlbakbachcpifaa
open Go.RowKit
set_option linter.unusedVariables false
set_option linter.unusedSimpArgs false

theorem oneCell_ints (xs : List Int) : ∀ u ∈ ints xs, u.oneCell' = true := by
  intro u hu
  simp only [ints, List.mem_map] at hu
  obtain ⟨x, _, rfl⟩ := hu
  rfl
set_option maxHeartbeats 400000 in
theorem f_Clone (v : Value) (xs : List Int) (w : World) (h : Rd w v (ints xs)) (hl : xs.length ≤ 2000000) :
    Calls Try.prog 86 #[v] w (RetOwn 3 (ints xs) w) := by
  obtain ⟨a, c, rfl, h2, h3⟩ := h.formi
  cases a with
  | none =>
    have hx : xs = [] := by
      cases xs with
      | nil => rfl
      | cons y t => obtain ⟨ad, x, e, _⟩ := h.int (k := 0) (by simp); cases e
    subst hx
    have q : ∀ W, (binOp .eql 22 (.slice none 0 c) (.slice none 0 0)).run Try.prog W = .ok (.bool true) W := fun W => run_eql_slice_nil W _ _ none 0 c Try.underlying22
    go_enter Try.func86, Try.ntmps86
    go_wp2
    go_ret
    exact RetOwn.nil w _
  | some ad =>
    have h' := h.alloc (.cells #[] 3)
    have HL := Lib.hid hl
    clear hl
    have q : ∀ W, (binOp .eql 22 (.slice (some ad) xs.length c) (.slice none 0 0)).run Try.prog W = .ok (.bool false) W := fun W => run_eql_slice_nil W _ _ (some ad) xs.length c Try.underlying22
    go_enter Try.func86, Try.ntmps86
    go_wp2_with (at_builtin; refine wpList_app (B := w.heap.size) rfl _ _ 22 rfl elI rfl (Own.lit0 w 3 (Nat.le_refl _)) rfl h' (oneCell_ints _) (by simp) (by simp only [ints_length, List.length_nil]; have := HL.out; omega) (by simp only [ints_length, List.length_nil]; have := HL.out; omega) ?_; intro b cc w2 ho2 hg2 hat2; have hb2 := ((Below.refl w.heap.size w).alloc (Nat.le_refl _) (.cells #[] 3)).grown hg2 (by simp) (fun r hr => ((Own.lit0 w 3 (Nat.le_refl _)).lt r hr).1))
    go_ret
    exact ⟨_, rfl, ho2, hb2⟩

end Go.Proofs.Ytlbakbachcpifaa
