/- Words for memory: several slices of numbers that are owned, each in a block of its own. -/
import Derived.Test.YtlmbaijkeahkfaaDoorApp
namespace Go.Proofs.YtlmbaijkeahkfaaDoor
open Go.RowKit
set_option linter.unusedVariables false
set_option linter.unusedSimpArgs false

structure OwnsL (w : World) (E B : Nat) (L : List (Value × List Int)) : Prop where
  own : ∀ p ∈ L, Own w E B p.1 (ints p.2)
  ap : L.Pairwise fun p q => ∀ g, p.1.ownBlock = some g → q.1.ownBlock ≠ some g
section
variable {w w' : World} {E B : Nat} {L L1 L2 : List (Value × List Int)} {v v' : Value} {xs ys : List Int} {p0 p1 p2 p3 p4 : Value × List Int}
theorem OwnsL.turn (h : OwnsL w E B (L1 ++ (v, xs) :: L2)) (hg : w.grownBy w' v.ownBlock) (ho : Own w' E B v' (ints ys)) (hat : ∀ g, v'.ownBlock = some g → v.ownBlock = some g ∨ w.heap.size ≤ g) : OwnsL w' E B (L1 ++ (v', ys) :: L2) := by
  obtain ⟨a1, a2, a3⟩ := List.pairwise_append.1 h.ap
  obtain ⟨b1, b2⟩ := List.pairwise_cons.1 a2
  have lt : ∀ p ∈ L1 ++ (v, xs) :: L2, ∀ g, p.1.ownBlock = some g → g < w.heap.size := fun p hp g hgg => ((h.own p hp).lt g hgg).2
  refine ⟨fun p hp => ?_, List.pairwise_append.2 ⟨a1, List.pairwise_cons.2 ⟨fun q hq g h1 h2 => ?_, b2⟩, fun p hp q hq g h1 h2 => ?_⟩⟩
  · rcases List.mem_append.1 hp with hp | hp
    · exact (h.own p (by simp [hp])).apart hg fun g h1 h2 => a3 p hp (v, xs) (by simp) g h1 h2
    · rcases List.mem_cons.1 hp with rfl | hp
      · exact ho
      · exact (h.own p (by simp [hp])).apart hg fun g h1 h2 => b1 p hp g h2 h1
  · rcases hat g h1 with h3 | h3
    · exact b1 q hq g h3 h2
    · have := lt q (by simp [hq]) g h2; omega
  · rcases List.mem_cons.1 hq with rfl | hq
    · rcases hat g h2 with h3 | h3
      · exact a3 p hp (v, xs) (by simp) g h1 h3
      · have := lt p (by simp [hp]) g h1; omega
    · exact a3 p hp q (by simp [hq]) g h1 h2
theorem OwnsL.below (h : OwnsL w E B L) (hb : Below w.heap.size w w') : OwnsL w' E B L := ⟨fun p hp => (h.own p hp).below hb, h.ap⟩
theorem OwnsL.dr (h : OwnsL w E B L) (hd : Dr w w') : OwnsL w' E B L := h.below (hd.below _)
theorem OwnsL.fresh (h : OwnsL w E B (L1 ++ (v, xs) :: L2)) (hb : Below w.heap.size w w') (hB : B ≤ w.heap.size) (ho : Own w' E w.heap.size v' (ints ys)) : OwnsL w' E B (L1 ++ (v', ys) :: L2) := by
  obtain ⟨a1, a2, a3⟩ := List.pairwise_append.1 h.ap
  obtain ⟨b1, b2⟩ := List.pairwise_cons.1 a2
  have lt : ∀ p ∈ L1 ++ (v, xs) :: L2, ∀ g, p.1.ownBlock = some g → g < w.heap.size := fun p hp g hgg => ((h.own p hp).lt g hgg).2
  refine ⟨fun p hp => ?_, List.pairwise_append.2 ⟨a1, List.pairwise_cons.2 ⟨fun q hq g h1 h2 => ?_, b2⟩, fun p hp q hq g h1 h2 => ?_⟩⟩
  · rcases List.mem_append.1 hp with hp | hp
    · exact (h.own p (by simp [hp])).below hb
    · rcases List.mem_cons.1 hp with rfl | hp
      · exact ho.mono hB
      · exact (h.own p (by simp [hp])).below hb
  · have := lt q (by simp [hq]) g h2
    have := (ho.lt g h1).1
    omega
  · rcases List.mem_cons.1 hq with rfl | hq
    · have := lt p (by simp [hp]) g h1
      have := (ho.lt g h2).1
      omega
    · exact a3 p hp q (by simp [hq]) g h1 h2
theorem OwnsL.snoc (h : OwnsL w E B L) (hb : Below w.heap.size w w') (hB : B ≤ w.heap.size) (ho : Own w' E w.heap.size v' (ints ys)) : OwnsL w' E B (L ++ [(v', ys)]) := by
  refine ⟨fun p hp => ?_, List.pairwise_append.2 ⟨h.ap, by simp, fun p hp q hq g h1 h2 => ?_⟩⟩
  · rcases List.mem_append.1 hp with hp | hp
    · exact (h.own p hp).below hb
    · rw [List.mem_singleton] at hp
      subst hp
      exact ho.mono hB
  · rw [List.mem_singleton] at hq
    subst hq
    have := ((h.own p hp).lt g h1).2
    have := (ho.lt g h2).1
    omega
theorem OwnsL.nil (w : World) (E B : Nat) : OwnsL w E B [] := ⟨fun p h => (by cases h), List.Pairwise.nil⟩
theorem OwnsL.left (h : OwnsL w E B (L1 ++ L2)) : OwnsL w E B L1 := ⟨fun p hp => h.own p (by simp [hp]), (List.pairwise_append.1 h.ap).1⟩
theorem OwnsL.right (h : OwnsL w E B (L1 ++ L2)) : OwnsL w E B L2 := ⟨fun p hp => h.own p (by simp [hp]), (List.pairwise_append.1 h.ap).2.1⟩
theorem OwnsL.t0 (h : OwnsL w E B ((v, xs) :: L2)) (hg : w.grownBy w' v.ownBlock) (ho : Own w' E B v' (ints ys)) (hat : ∀ g, v'.ownBlock = some g → v.ownBlock = some g ∨ w.heap.size ≤ g) : OwnsL w' E B ((v', ys) :: L2) := OwnsL.turn (L1 := []) h hg ho hat
theorem OwnsL.t1 (h : OwnsL w E B (p0 :: (v, xs) :: L2)) (hg : w.grownBy w' v.ownBlock) (ho : Own w' E B v' (ints ys)) (hat : ∀ g, v'.ownBlock = some g → v.ownBlock = some g ∨ w.heap.size ≤ g) : OwnsL w' E B (p0 :: (v', ys) :: L2) := OwnsL.turn (L1 := [p0]) h hg ho hat
theorem OwnsL.t2 (h : OwnsL w E B (p0 :: p1 :: (v, xs) :: L2)) (hg : w.grownBy w' v.ownBlock) (ho : Own w' E B v' (ints ys)) (hat : ∀ g, v'.ownBlock = some g → v.ownBlock = some g ∨ w.heap.size ≤ g) : OwnsL w' E B (p0 :: p1 :: (v', ys) :: L2) := OwnsL.turn (L1 := [p0, p1]) h hg ho hat
theorem OwnsL.t3 (h : OwnsL w E B (p0 :: p1 :: p2 :: (v, xs) :: L2)) (hg : w.grownBy w' v.ownBlock) (ho : Own w' E B v' (ints ys)) (hat : ∀ g, v'.ownBlock = some g → v.ownBlock = some g ∨ w.heap.size ≤ g) : OwnsL w' E B (p0 :: p1 :: p2 :: (v', ys) :: L2) := OwnsL.turn (L1 := [p0, p1, p2]) h hg ho hat
theorem OwnsL.t4 (h : OwnsL w E B (p0 :: p1 :: p2 :: p3 :: (v, xs) :: L2)) (hg : w.grownBy w' v.ownBlock) (ho : Own w' E B v' (ints ys)) (hat : ∀ g, v'.ownBlock = some g → v.ownBlock = some g ∨ w.heap.size ≤ g) : OwnsL w' E B (p0 :: p1 :: p2 :: p3 :: (v', ys) :: L2) := OwnsL.turn (L1 := [p0, p1, p2, p3]) h hg ho hat
theorem OwnsL.f3 (h : OwnsL w E B (p0 :: p1 :: p2 :: (v, xs) :: L2)) (hb : Below w.heap.size w w') (hB : B ≤ w.heap.size) (ho : Own w' E w.heap.size v' (ints ys)) : OwnsL w' E B (p0 :: p1 :: p2 :: (v', ys) :: L2) := OwnsL.fresh (L1 := [p0, p1, p2]) h hb hB ho
theorem OwnsL.f4 (h : OwnsL w E B (p0 :: p1 :: p2 :: p3 :: (v, xs) :: L2)) (hb : Below w.heap.size w w') (hB : B ≤ w.heap.size) (ho : Own w' E w.heap.size v' (ints ys)) : OwnsL w' E B (p0 :: p1 :: p2 :: p3 :: (v', ys) :: L2) := OwnsL.fresh (L1 := [p0, p1, p2, p3]) h hb hB ho
theorem OwnsL.o0 (h : OwnsL w E B (p0 :: L)) : Own w E B p0.1 (ints p0.2) := h.own p0 (by simp)
theorem OwnsL.o1 (h : OwnsL w E B (p0 :: p1 :: L)) : Own w E B p1.1 (ints p1.2) := h.own p1 (by simp)
theorem OwnsL.o2 (h : OwnsL w E B (p0 :: p1 :: p2 :: L)) : Own w E B p2.1 (ints p2.2) := h.own p2 (by simp)
theorem OwnsL.o3 (h : OwnsL w E B (p0 :: p1 :: p2 :: p3 :: L)) : Own w E B p3.1 (ints p3.2) := h.own p3 (by simp)
theorem OwnsL.o4 (h : OwnsL w E B (p0 :: p1 :: p2 :: p3 :: p4 :: L)) : Own w E B p4.1 (ints p4.2) := h.own p4 (by simp)
theorem hat_of {b : Option Addr} {m c : Nat} {n : Nat} {r : Option Nat} (h : (Value.slice b m c).ownBlock = r ∨ ∃ k, n ≤ k ∧ (Value.slice b m c).ownBlock = some k) : ∀ g, (Value.slice b m c).ownBlock = some g → r = some g ∨ n ≤ g := fun g hg => by
  rcases h with h | ⟨k, hk, h⟩
  · exact .inl (h ▸ hg)
  · rw [h] at hg; cases hg; exact .inr hk
theorem gb_of_below {w w' : World} {r : Option Nat} (hb : Below w.heap.size w w') : w.grownBy w' r := ⟨hb.os, hb.tape, hb.output, hb.size, fun i hi _ => hb.block i hi⟩
end

end Go.Proofs.YtlmbaijkeahkfaaDoor
