/- Walks: late records in the program. -/
import Derived.Test.YtdagkgkllgpeeaaDoorOwnsL
import Derived.Test.YtdagkgkllgpeeaaDoorSpecLate
import Derived.Test.YtdagkgkllgpeeaaDoorSortR
import Derived.Deep.QuietTactic
import Derived.BigQuiet
import Derived.Deep.DeepCutAuto
import Derived.Deep.LoopGhost
namespace Go.Proofs.YtdagkgkllgpeeaaDoor
open Go.RowKit
set_option linter.unusedVariables false
set_option linter.unusedSimpArgs false

/-- The blocks in K are as they were. -/
structure Fr (K : Nat → Prop) (w w' : World) : Prop where
  os : w'.os = w.os
  tape : w'.tape = w.tape
  output : w'.output = w.output
  size : w.heap.size ≤ w'.heap.size
  block : ∀ k, K k → w'.heap[k]? = w.heap[k]?
section
variable {K : Nat → Prop} {w w' w2 : World} {E B : Nat} {v : Value} {xs : List Value}
theorem Fr.refl (K : Nat → Prop) (w : World) : Fr K w w := ⟨rfl, rfl, rfl, Nat.le_refl _, fun _ _ => rfl⟩
theorem Fr.trans (h : Fr K w w') (k : Fr K w' w2) : Fr K w w2 := ⟨k.os.trans h.os, k.tape.trans h.tape, k.output.trans h.output, Nat.le_trans h.size k.size, fun i hi => (k.block i hi).trans (h.block i hi)⟩
theorem Fr.row {r : Option Nat} (hg : w.grownBy w' r) (hr : ∀ g, r = some g → ¬ K g) (hK : ∀ k, K k → k < w.heap.size) : Fr K w w' :=
  ⟨hg.os, hg.tape, hg.output, hg.size, fun k hk => hg.block k (hK k hk) fun e => hr k e.symm hk⟩
theorem Fr.setCell {p : Addr} (hp : ¬ K p.block) (u : Value) : Fr K w (w.setCell p u) :=
  ⟨rfl, rfl, rfl, by simp, fun k hk => heap_setCell_other w p k u fun e => hp (e ▸ hk)⟩
theorem Fr.below (h : Below w.heap.size w w') (hK : ∀ k, K k → k < w.heap.size) : Fr K w w' := ⟨h.os, h.tape, h.output, h.size, fun k hk => h.block k (hK k hk)⟩
theorem Fr.mono {K' : Nat → Prop} (h : Fr K w w') (hK : ∀ k, K' k → K k) : Fr K' w w' := ⟨h.os, h.tape, h.output, h.size, fun k hk => h.block k (hK k hk)⟩
theorem Fr.to_below (h : Fr K w w') (hK : ∀ k, k < B → K k) : Below B w w' := ⟨h.os, h.tape, h.output, h.size, fun k hk => h.block k (hK k hk)⟩
theorem own_ne_box {F g : Nat} {cur : Array Value} (h : Own w E B v xs) (hb : w.heap[g]? = some (.cells cur F (0, 0))) (hne : F ≠ E) : v.ownBlock ≠ some g := by
  intro e
  rcases h with ⟨rfl, _⟩ | ⟨g1, o1, c1, cur1, rfl, _, hh1, _⟩
  · cases e
  · simp only [Value.ownBlock, Option.some.injEq] at e
    subst e
    rw [hh1] at hb
    injection hb with hb
    injection hb with _ e
    exact hne e.symm
theorem Fr.rd (h : Fr K w w') {u : Value} {ys : List Int} (hr : Rd w u (ints ys)) (hu : 0 < ys.length → ∀ g, u.ownBlock = some g → K g) : Rd w' u (ints ys) := by
  by_cases hy : 0 < ys.length
  · exact hr.keep fun p _ e => World.cell?_of_block (h.block _ (hu hy _ e.symm))
  · obtain ⟨a, c, e, h1, h2, _⟩ := hr
    exact ⟨a, c, e, h1, h2, fun hn => absurd (by rwa [ints_length] at hn) hy⟩
theorem box_lt {g F : Nat} {cur : Array Value} (hb : w.heap[g]? = some (.cells cur F (0, 0))) : g < w.heap.size := (Array.getElem?_eq_some_iff.1 hb).1
theorem box_cell {g F : Nat} {cur : Array Value} (hb : w.heap[g]? = some (.cells cur F (0, 0))) (i : Nat) : w.cell? ⟨g, i, none⟩ = cur[i]? := cell_of_row w g i cur F (0, 0) hb
end

section
variable {w w' : World} {E B : Nat} {L L1 L2 : List (Value × List Int)}
theorem OwnsL.setBox {F g off : Nat} {cur : Array Value} (h : OwnsL w E B L) (hb : w.heap[g]? = some (.cells cur F (0, 0))) (hne : F ≠ E) (u : Value) : OwnsL (w.setCell ⟨g, off, none⟩ u) E B L :=
  ⟨fun p hp => (h.own p hp).setCell (own_ne_box (h.own p hp) hb hne) u, h.ap⟩
theorem OwnsL.o5 {p0 p1 p2 p3 p4 p5 : Value × List Int} (h : OwnsL w E B (p0 :: p1 :: p2 :: p3 :: p4 :: p5 :: L)) : Own w E B p5.1 (ints p5.2) := h.own p5 (by simp)
theorem OwnsL.sub (h : OwnsL w E B L) (hs : List.Sublist L1 L) : OwnsL w E B L1 := ⟨fun p hp => h.own p (hs.subset hp), h.ap.sublist hs⟩
end

/-- The program's state: the struct's box, the waiting ones' box, five slices that are owned (and those in X); none of their blocks is in K. -/
structure St (K : Nat → Prop) (be bw : Nat) (w : World) (vo vl vm vd vw : Value) (O Lt Mk D W : List Int) (ms : Int) (X : List (Value × List Int)) : Prop where
  eb : w.heap[be]? = some (.cells #[vo, vl, vm, vd, .int .i64 ms] 56 (0, 0))
  wb : w.heap[bw]? = some (.cells #[vw] 22 (0, 0))
  ow : OwnsL w 3 0 ((vo, O) :: (vl, Lt) :: (vm, Mk) :: (vd, D) :: (vw, W) :: X)
  nk : ∀ p ∈ (vo, O) :: (vl, Lt) :: (vm, Mk) :: (vd, D) :: (vw, W) :: X, ∀ g, p.1.ownBlock = some g → ¬ K g
section
variable {K : Nat → Prop} {be bw : Nat} {w w' : World} {vo vl vm vd vw v1 vr : Value} {O Lt Mk D W O1 R R1 : List Int} {ms : Int} {X : List (Value × List Int)}
theorem St.ebn (h : St K be bw w vo vl vm vd vw O Lt Mk D W ms X) {p : Value × List Int} (hp : p ∈ (vo, O) :: (vl, Lt) :: (vm, Mk) :: (vd, D) :: (vw, W) :: X) : p.1.ownBlock ≠ some be := own_ne_box (h.ow.own p hp) h.eb (by decide)
theorem St.wbn (h : St K be bw w vo vl vm vd vw O Lt Mk D W ms X) {p : Value × List Int} (hp : p ∈ (vo, O) :: (vl, Lt) :: (vm, Mk) :: (vd, D) :: (vw, W) :: X) : p.1.ownBlock ≠ some bw := own_ne_box (h.ow.own p hp) h.wb (by decide)
theorem St.grow (h : St K be bw w vo vl vm vd vw O Lt Mk D W ms X) {p : Value × List Int} (hp : p ∈ (vo, O) :: (vl, Lt) :: (vm, Mk) :: (vd, D) :: (vw, W) :: X) (hg : w.grownBy w' p.1.ownBlock) :
    w'.heap[be]? = some (.cells #[vo, vl, vm, vd, .int .i64 ms] 56 (0, 0)) ∧ w'.heap[bw]? = some (.cells #[vw] 22 (0, 0)) :=
  ⟨(hg.block be (box_lt h.eb) fun e => h.ebn hp e.symm).trans h.eb, (hg.block bw (box_lt h.wb) fun e => h.wbn hp e.symm).trans h.wb⟩
theorem St.below (h : St K be bw w vo vl vm vd vw O Lt Mk D W ms X) (hb : Below w.heap.size w w') : St K be bw w' vo vl vm vd vw O Lt Mk D W ms X :=
  ⟨(hb.block be (box_lt h.eb)).trans h.eb, (hb.block bw (box_lt h.wb)).trans h.wb, h.ow.below hb, h.nk⟩
theorem St.mono {K' : Nat → Prop} (h : St K be bw w vo vl vm vd vw O Lt Mk D W ms X) (hK : ∀ k, k < w.heap.size → K' k → K k) : St K' be bw w vo vl vm vd vw O Lt Mk D W ms X :=
  ⟨h.eb, h.wb, h.ow, fun p hp g hg hk => h.nk p hp g hg (hK g ((h.ow.own p hp).lt g hg).2 hk)⟩
theorem St.appO (h : St K be bw w vo vl vm vd vw O Lt Mk D W ms X) (hKe : ¬ K be) (hew : be ≠ bw) (hK : ∀ k, K k → k < w.heap.size) (hg : w.grownBy w' vo.ownBlock) (ho : Own w' 3 0 v1 (ints O1)) (hat : ∀ g, v1.ownBlock = some g → vo.ownBlock = some g ∨ w.heap.size ≤ g) :
    St K be bw (w'.setCell ⟨be, 0, none⟩ v1) v1 vl vm vd vw O1 Lt Mk D W ms X ∧ Fr K w (w'.setCell ⟨be, 0, none⟩ v1) := by
  obtain ⟨e1, e2⟩ := h.grow (p := (vo, O)) (by simp) hg
  refine ⟨⟨heap_setCell_same w' be 0 _ _ v1 e1, (heap_setCell_other w' _ bw v1 fun e => hew e.symm).trans e2, (h.ow.t0 hg ho hat).setBox e1 (by decide) _, fun p hp g hg2 => ?_⟩, (Fr.row hg (h.nk (vo, O) (by simp)) hK).trans (Fr.setCell hKe _)⟩
  simp only [List.mem_cons] at hp
  rcases hp with rfl | hp
  · rcases hat g hg2 with h3 | h3
    · exact h.nk (vo, O) (by simp) g h3
    · exact fun hk => by have := hK g hk; omega
  · exact h.nk p (by simp only [List.mem_cons]; exact .inr hp) g hg2
theorem St.appL (h : St K be bw w vo vl vm vd vw O Lt Mk D W ms X) (hKe : ¬ K be) (hew : be ≠ bw) (hK : ∀ k, K k → k < w.heap.size) (hg : w.grownBy w' vl.ownBlock) (ho : Own w' 3 0 v1 (ints O1)) (hat : ∀ g, v1.ownBlock = some g → vl.ownBlock = some g ∨ w.heap.size ≤ g) :
    St K be bw (w'.setCell ⟨be, 1, none⟩ v1) vo v1 vm vd vw O O1 Mk D W ms X ∧ Fr K w (w'.setCell ⟨be, 1, none⟩ v1) := by
  obtain ⟨e1, e2⟩ := h.grow (p := (vl, Lt)) (by simp) hg
  refine ⟨⟨heap_setCell_same w' be 1 _ _ v1 e1, (heap_setCell_other w' _ bw v1 fun e => hew e.symm).trans e2, (h.ow.t1 hg ho hat).setBox e1 (by decide) _, fun p hp g hg2 => ?_⟩, (Fr.row hg (h.nk (vl, Lt) (by simp)) hK).trans (Fr.setCell hKe _)⟩
  simp only [List.mem_cons] at hp
  rcases hp with hp | rfl | hp
  · exact h.nk p (by simp only [List.mem_cons]; exact .inl hp) g hg2
  · rcases hat g hg2 with h3 | h3
    · exact h.nk (vl, Lt) (by simp) g h3
    · exact fun hk => by have := hK g hk; omega
  · exact h.nk p (by simp only [List.mem_cons]; exact .inr (.inr hp)) g hg2
theorem St.appM (h : St K be bw w vo vl vm vd vw O Lt Mk D W ms X) (hKe : ¬ K be) (hew : be ≠ bw) (hK : ∀ k, K k → k < w.heap.size) (hg : w.grownBy w' vm.ownBlock) (ho : Own w' 3 0 v1 (ints O1)) (hat : ∀ g, v1.ownBlock = some g → vm.ownBlock = some g ∨ w.heap.size ≤ g) :
    St K be bw (w'.setCell ⟨be, 2, none⟩ v1) vo vl v1 vd vw O Lt O1 D W ms X ∧ Fr K w (w'.setCell ⟨be, 2, none⟩ v1) := by
  obtain ⟨e1, e2⟩ := h.grow (p := (vm, Mk)) (by simp) hg
  refine ⟨⟨heap_setCell_same w' be 2 _ _ v1 e1, (heap_setCell_other w' _ bw v1 fun e => hew e.symm).trans e2, (h.ow.t2 hg ho hat).setBox e1 (by decide) _, fun p hp g hg2 => ?_⟩, (Fr.row hg (h.nk (vm, Mk) (by simp)) hK).trans (Fr.setCell hKe _)⟩
  simp only [List.mem_cons] at hp
  rcases hp with hp | hp | rfl | hp
  · exact h.nk p (by simp only [List.mem_cons]; exact .inl hp) g hg2
  · exact h.nk p (by simp only [List.mem_cons]; exact .inr (.inl hp)) g hg2
  · rcases hat g hg2 with h3 | h3
    · exact h.nk (vm, Mk) (by simp) g h3
    · exact fun hk => by have := hK g hk; omega
  · exact h.nk p (by simp only [List.mem_cons]; exact .inr (.inr (.inr hp))) g hg2
theorem St.setD {ad : Addr} {n c Y : Nat} (h : St K be bw w vo vl vm (.slice (some ad) n c) vw O Lt Mk D W ms X) (hK : ∀ k, K k → k < w.heap.size) (hY : Y < D.length) (x : Int) :
    St K be bw (w.setCell (ad.add Y) (.int .i64 x)) vo vl vm (.slice (some ad) n c) vw O Lt Mk (D.set Y x) W ms X ∧ Fr K w (w.setCell (ad.add Y) (.int .i64 x)) := by
  have hs := h.ow.o3.seti rfl hY x
  obtain ⟨e1, e2⟩ := h.grow (p := (.slice (some ad) n c, D)) (by simp) hs.2
  refine ⟨⟨e1, e2, h.ow.t3 hs.2 hs.1 (fun g hg => .inl hg), fun p hp g hg2 => ?_⟩, Fr.row hs.2 (h.nk (.slice (some ad) n c, D) (by simp)) hK⟩
  simp only [List.mem_cons] at hp
  rcases hp with hp | hp | hp | rfl | hp
  · exact h.nk p (by simp only [List.mem_cons]; exact .inl hp) g hg2
  · exact h.nk p (by simp only [List.mem_cons]; exact .inr (.inl hp)) g hg2
  · exact h.nk p (by simp only [List.mem_cons]; exact .inr (.inr (.inl hp))) g hg2
  · exact h.nk (.slice (some ad) n c, D) (by simp) g hg2
  · exact h.nk p (by simp only [List.mem_cons]; exact .inr (.inr (.inr (.inr hp)))) g hg2
theorem St.sort (h : St K be bw w vo vl vm vd vw O Lt Mk D W ms X) (hK : ∀ k, K k → k < w.heap.size) (hg : w.grownBy w' vw.ownBlock) (ho : Own w' 3 0 vw (ints O1)) :
    St K be bw w' vo vl vm vd vw O Lt Mk D O1 ms X ∧ Fr K w w' := by
  obtain ⟨e1, e2⟩ := h.grow (p := (vw, W)) (by simp) hg
  refine ⟨⟨e1, e2, h.ow.t4 hg ho (fun g hg => .inl hg), fun p hp g hg2 => ?_⟩, Fr.row hg (h.nk (vw, W) (by simp)) hK⟩
  simp only [List.mem_cons] at hp
  rcases hp with hp | hp | hp | hp | rfl | hp
  · exact h.nk p (by simp only [List.mem_cons]; exact .inl hp) g hg2
  · exact h.nk p (by simp only [List.mem_cons]; exact .inr (.inl hp)) g hg2
  · exact h.nk p (by simp only [List.mem_cons]; exact .inr (.inr (.inl hp))) g hg2
  · exact h.nk p (by simp only [List.mem_cons]; exact .inr (.inr (.inr (.inl hp)))) g hg2
  · exact h.nk (vw, W) (by simp) g hg2
  · exact h.nk p (by simp only [List.mem_cons]; exact .inr (.inr (.inr (.inr (.inr hp))))) g hg2
theorem St.appW (h : St K be bw w vo vl vm vd vw O Lt Mk D W ms X) (hKw : ¬ K bw) (hew : be ≠ bw) (hK : ∀ k, K k → k < w.heap.size) (hg : w.grownBy w' vw.ownBlock) (ho : Own w' 3 0 v1 (ints O1)) (hat : ∀ g, v1.ownBlock = some g → vw.ownBlock = some g ∨ w.heap.size ≤ g) :
    St K be bw (w'.setCell ⟨bw, 0, none⟩ v1) vo vl vm vd v1 O Lt Mk D O1 ms X ∧ Fr K w (w'.setCell ⟨bw, 0, none⟩ v1) := by
  obtain ⟨e1, e2⟩ := h.grow (p := (vw, W)) (by simp) hg
  refine ⟨⟨(heap_setCell_other w' _ be v1 hew).trans e1, heap_setCell_same w' bw 0 _ _ v1 e2, (h.ow.t4 hg ho hat).setBox e2 (by decide) _, fun p hp g hg2 => ?_⟩, (Fr.row hg (h.nk (vw, W) (by simp)) hK).trans (Fr.setCell hKw _)⟩
  simp only [List.mem_cons] at hp
  rcases hp with hp | hp | hp | hp | rfl | hp
  · exact h.nk p (by simp only [List.mem_cons]; exact .inl hp) g hg2
  · exact h.nk p (by simp only [List.mem_cons]; exact .inr (.inl hp)) g hg2
  · exact h.nk p (by simp only [List.mem_cons]; exact .inr (.inr (.inl hp))) g hg2
  · exact h.nk p (by simp only [List.mem_cons]; exact .inr (.inr (.inr (.inl hp)))) g hg2
  · rcases hat g hg2 with h3 | h3
    · exact h.nk (vw, W) (by simp) g h3
    · exact fun hk => by have := hK g hk; omega
  · exact h.nk p (by simp only [List.mem_cons]; exact .inr (.inr (.inr (.inr (.inr hp))))) g hg2
/-- A sixth slice is laid beside, turned, and put into the waiting ones' box. -/
theorem St.more (h : St K be bw w vo vl vm vd vw O Lt Mk D W ms []) (hK : ∀ k, K k → k < w.heap.size) (hb : Below w.heap.size w w') (ho : Own w' 3 w.heap.size vr (ints R)) :
    St K be bw w' vo vl vm vd vw O Lt Mk D W ms [(vr, R)] := by
  refine ⟨(h.below hb).eb, (h.below hb).wb, h.ow.snoc hb (Nat.zero_le _) ho, fun p hp g hg => ?_⟩
  by_cases e : p = (vr, R)
  · subst e
    have := (ho.lt g hg).1
    exact fun hk => by have := hK g hk; omega
  · exact h.nk p (by simp only [List.mem_cons, List.not_mem_nil, or_false] at hp ⊢; rcases hp with h1 | h1 | h1 | h1 | h1 | h1 <;> simp_all) g hg
theorem St.appR (h : St K be bw w vo vl vm vd vw O Lt Mk D W ms [(vr, R)]) (hK : ∀ k, K k → k < w.heap.size) (hg : w.grownBy w' vr.ownBlock) (ho : Own w' 3 0 v1 (ints R1)) (hat : ∀ g, v1.ownBlock = some g → vr.ownBlock = some g ∨ w.heap.size ≤ g) :
    St K be bw w' vo vl vm vd vw O Lt Mk D W ms [(v1, R1)] ∧ Fr K w w' := by
  obtain ⟨e1, e2⟩ := h.grow (p := (vr, R)) (by simp) hg
  refine ⟨⟨e1, e2, OwnsL.turn (L1 := [(vo, O), (vl, Lt), (vm, Mk), (vd, D), (vw, W)]) (L2 := []) h.ow hg ho hat, fun p hp g hg2 => ?_⟩, Fr.row hg (h.nk (vr, R) (by simp)) hK⟩
  by_cases e : p = (v1, R1)
  · subst e
    rcases hat g hg2 with h3 | h3
    · exact h.nk (vr, R) (by simp) g h3
    · exact fun hk => by have := hK g hk; omega
  · exact h.nk p (by simp only [List.mem_cons, List.not_mem_nil, or_false] at hp ⊢; rcases hp with h1 | h1 | h1 | h1 | h1 | h1 <;> simp_all) g hg2
theorem St.putR (h : St K be bw w vo vl vm vd vw O Lt Mk D W ms [(vr, R)]) (hKw : ¬ K bw) (hew : be ≠ bw) :
    St K be bw (w.setCell ⟨bw, 0, none⟩ vr) vo vl vm vd vr O Lt Mk D R ms [] ∧ Fr K w (w.setCell ⟨bw, 0, none⟩ vr) := by
  refine ⟨⟨(heap_setCell_other w _ be vr hew).trans h.eb, heap_setCell_same w bw 0 _ _ vr h.wb, (h.ow.sub ?_).setBox h.wb (by decide) _, fun p hp g hg2 => ?_⟩, Fr.setCell hKw _⟩
  · exact (((((List.Sublist.refl _).cons _).cons_cons _).cons_cons _).cons_cons _).cons_cons _
  · exact h.nk p (by simp only [List.mem_cons, List.not_mem_nil, or_false] at hp ⊢; rcases hp with h1 | h1 | h1 | h1 | h1 <;> simp [h1]) g hg2
theorem St.setMs (h : St K be bw w vo vl vm vd vw O Lt Mk D W ms X) (hKe : ¬ K be) (hew : be ≠ bw) (m2 : Int) :
    St K be bw (w.setCell ⟨be, 4, none⟩ (.int .i64 m2)) vo vl vm vd vw O Lt Mk D W m2 X ∧ Fr K w (w.setCell ⟨be, 4, none⟩ (.int .i64 m2)) :=
  ⟨⟨heap_setCell_same w be 4 _ _ _ h.eb, (heap_setCell_other w _ bw _ fun e => hew e.symm).trans h.wb, h.ow.setBox h.eb (by decide) _, h.nk⟩, Fr.setCell hKe _⟩
theorem St.cells (h : St K be bw w vo vl vm vd vw O Lt Mk D W ms X) : (w.cell? ⟨be, 0, none⟩ = some vo ∧ w.cell? ⟨be, 1, none⟩ = some vl ∧ w.cell? ⟨be, 2, none⟩ = some vm ∧ w.cell? ⟨be, 3, none⟩ = some vd ∧ w.cell? ⟨be, 4, none⟩ = some (.int .i64 ms)) ∧ w.cell? ⟨bw, 0, none⟩ = some vw ∧
    (∀ i, w.frozen? ⟨be, i, none⟩ = false) ∧ (∀ i, w.frozen? ⟨bw, i, none⟩ = false) :=
  ⟨⟨box_cell h.eb 0, box_cell h.eb 1, box_cell h.eb 2, box_cell h.eb 3, box_cell h.eb 4⟩, box_cell h.wb 0, fun i => frozen_of_row w be i _ _ h.eb, fun i => frozen_of_row w bw i _ _ h.wb⟩
end

end Go.Proofs.YtdagkgkllgpeeaaDoor
