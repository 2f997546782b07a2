/- Walks: sorting with a stack, in the program. -/
import Derived.Test.YtdagkgkllgpeeaaDoorStackD
import Derived.Test.YtdagkgkllgpeeaaDoorOutLate
import Derived.Deep.RegionHeld3
namespace Go.Proofs.YtdagkgkllgpeeaaDoor
open Go.RowKit
set_option linter.unusedVariables false
set_option linter.unusedSimpArgs false

/-- The closure's three boxes: what went out, the stack (its top last), the word; two slices that are owned. -/
structure SS (B bo bs bw : Nat) (w : World) (vo vs : Value) (O R : List Int) (A : ByteArray) : Prop where
  ob : w.heap[bo]? = some (.cells #[vo] 22 (0, 0))
  sb : w.heap[bs]? = some (.cells #[vs] 22 (0, 0))
  wb : w.heap[bw]? = some (.cells #[.string A] 9 (0, 0))
  ow : OwnsL w 3 B [(vo, O), (vs, R.reverse)]
  h0 : B ≤ bo
  h1 : bo < bs
  h2 : bs < bw
section
variable {B bo bs bw : Nat} {w w' w0 : World} {vo vs v1 : Value} {O R O1 R1 : List Int} {A A1 : ByteArray}
theorem SS.below (h : SS B bo bs bw w vo vs O R A) (hb : Below w.heap.size w w') : SS B bo bs bw w' vo vs O R A :=
  ⟨(hb.block bo (box_lt h.ob)).trans h.ob, (hb.block bs (box_lt h.sb)).trans h.sb, (hb.block bw (box_lt h.wb)).trans h.wb, h.ow.below hb, h.h0, h.h1, h.h2⟩
theorem SS.grow {p : Value × List Int} (h : SS B bo bs bw w vo vs O R A) (hp : p ∈ [(vo, O), (vs, R.reverse)]) (hg : w.grownBy w' p.1.ownBlock) :
    w'.heap[bo]? = some (.cells #[vo] 22 (0, 0)) ∧ w'.heap[bs]? = some (.cells #[vs] 22 (0, 0)) ∧ w'.heap[bw]? = some (.cells #[.string A] 9 (0, 0)) :=
  ⟨(hg.block bo (box_lt h.ob) fun e => own_ne_box (h.ow.own p hp) h.ob (by decide) e.symm).trans h.ob, (hg.block bs (box_lt h.sb) fun e => own_ne_box (h.ow.own p hp) h.sb (by decide) e.symm).trans h.sb,
    (hg.block bw (box_lt h.wb) fun e => own_ne_box (h.ow.own p hp) h.wb (by decide) e.symm).trans h.wb⟩
theorem SS.outs (h : SS B bo bs bw w vo vs O R A) (hg : w.grownBy w' vo.ownBlock) (ho : Own w' 3 B v1 (ints O1)) (hat : ∀ g, v1.ownBlock = some g → vo.ownBlock = some g ∨ w.heap.size ≤ g) :
    SS B bo bs bw (w'.setCell ⟨bo, 0, none⟩ v1) v1 vs O1 R A := by
  obtain ⟨e1, e2, e3⟩ := h.grow (p := (vo, O)) (by simp) hg
  have := h.h1
  have := h.h2
  exact ⟨heap_setCell_same w' bo 0 _ _ v1 e1, (heap_setCell_other w' _ bs v1 (by show bs ≠ bo; omega)).trans e2, (heap_setCell_other w' _ bw v1 (by show bw ≠ bo; omega)).trans e3, (h.ow.t0 hg ho hat).setBox e1 (by decide) _, h.h0, h.h1, h.h2⟩
theorem SS.push (h : SS B bo bs bw w vo vs O R A) (hg : w.grownBy w' vs.ownBlock) (ho : Own w' 3 B v1 (ints R1.reverse)) (hat : ∀ g, v1.ownBlock = some g → vs.ownBlock = some g ∨ w.heap.size ≤ g) :
    SS B bo bs bw (w'.setCell ⟨bs, 0, none⟩ v1) vo v1 O R1 A := by
  obtain ⟨e1, e2, e3⟩ := h.grow (p := (vs, R.reverse)) (by simp) hg
  have := h.h1
  have := h.h2
  exact ⟨(heap_setCell_other w' _ bo v1 (by show bo ≠ bs; omega)).trans e1, heap_setCell_same w' bs 0 _ _ v1 e2, (heap_setCell_other w' _ bw v1 (by show bw ≠ bs; omega)).trans e3, (h.ow.t1 hg ho hat).setBox e2 (by decide) _, h.h0, h.h1, h.h2⟩
theorem SS.word (h : SS B bo bs bw w vo vs O R A) (A1 : ByteArray) : SS B bo bs bw (w.setCell ⟨bw, 0, none⟩ (.string A1)) vo vs O R A1 := by
  have := h.h1
  have := h.h2
  exact ⟨(heap_setCell_other w _ bo _ (by show bo ≠ bw; omega)).trans h.ob, (heap_setCell_other w _ bs _ (by show bs ≠ bw; omega)).trans h.sb, heap_setCell_same w bw 0 _ _ _ h.wb, h.ow.setBox h.wb (by decide) _, h.h0, h.h1, h.h2⟩
theorem SS.cells (h : SS B bo bs bw w vo vs O R A) : w.cell? ⟨bo, 0, none⟩ = some vo ∧ w.cell? ⟨bs, 0, none⟩ = some vs ∧ w.cell? ⟨bw, 0, none⟩ = some (.string A) ∧
    (∀ i, w.frozen? ⟨bo, i, none⟩ = false) ∧ (∀ i, w.frozen? ⟨bs, i, none⟩ = false) ∧ (∀ i, w.frozen? ⟨bw, i, none⟩ = false) :=
  ⟨box_cell h.ob 0, box_cell h.sb 0, box_cell h.wb 0, fun i => frozen_of_row w bo i _ _ h.ob, fun i => frozen_of_row w bs i _ _ h.sb, fun i => frozen_of_row w bw i _ _ h.wb⟩
end

theorem SS_init (w : World) :
    SS w.heap.size (w.heap.size + 1 + 1) (w.heap.size + 1 + 1 + 1) (w.heap.size + 1 + 1 + 1 + 1)
      (((((w.alloc (.cells #[] 3)).alloc (.cells #[] 3)).alloc (.cells #[.slice (some ⟨w.heap.size, 0, none⟩) 0 0] 22)).alloc (.cells #[.slice (some ⟨w.heap.size + 1, 0, none⟩) 0 0] 22)).alloc (.cells #[.string ⟨#[]⟩] 9))
      (.slice (some ⟨w.heap.size, 0, none⟩) 0 0) (.slice (some ⟨w.heap.size + 1, 0, none⟩) 0 0) [] [] ⟨#[]⟩ ∧
    Below w.heap.size w (((((w.alloc (.cells #[] 3)).alloc (.cells #[] 3)).alloc (.cells #[.slice (some ⟨w.heap.size, 0, none⟩) 0 0] 22)).alloc (.cells #[.slice (some ⟨w.heap.size + 1, 0, none⟩) 0 0] 22)).alloc (.cells #[.string ⟨#[]⟩] 9)) := by
  have hA1 := (OwnsL.nil w 3 w.heap.size).snoc ((Below.refl _ _).alloc (Nat.le_refl _) (.cells #[] 3)) (Nat.le_refl _) (Own.lit0 w 3 (Nat.le_refl _))
  have hA2 := hA1.snoc ((Below.refl _ _).alloc (Nat.le_refl _) (.cells #[] 3)) (by simp) (Own.lit0 _ 3 (Nat.le_refl _))
  have hb2 : Below w.heap.size w ((w.alloc (.cells #[] 3)).alloc (.cells #[] 3)) := ((Below.refl _ _).alloc (Nat.le_refl _) _).alloc (by simp) _
  have hs2 : ((w.alloc (.cells #[] 3)).alloc (.cells #[] 3)).heap.size = w.heap.size + 1 + 1 := by simp
  have hO2 : OwnsL ((w.alloc (.cells #[] 3)).alloc (.cells #[] 3)) 3 w.heap.size [(.slice (some ⟨w.heap.size, 0, none⟩) 0 0, []), (.slice (some ⟨w.heap.size + 1, 0, none⟩) 0 0, ([] : List Int).reverse)] := by simpa using hA2
  clear hA1 hA2
  generalize ((w.alloc (.cells #[] 3)).alloc (.cells #[] 3)) = w2 at *
  generalize Value.slice (some ⟨w.heap.size, 0, none⟩) 0 0 = v1 at *
  generalize Value.slice (some ⟨w.heap.size + 1, 0, none⟩) 0 0 = v2 at *
  have r2 := heap_alloc_new w2 (.cells #[v1] 22)
  have hs3 : (w2.alloc (.cells #[v1] 22)).heap.size = w.heap.size + 1 + 1 + 1 := by simp [hs2]
  rw [hs2] at r2
  have hb3 := hb2.alloc hb2.size (.cells #[v1] 22)
  have hO3 := hO2.below ((Below.refl _ _).alloc (Nat.le_refl _) (.cells #[v1] 22))
  generalize w2.alloc (.cells #[v1] 22) = w3 at *
  have r3 := heap_alloc_new w3 (.cells #[v2] 22)
  have q2 := (Below.heap_alloc w3 (.cells #[v2] 22) (w.heap.size + 1 + 1) (by omega)).trans r2
  have hs4 : (w3.alloc (.cells #[v2] 22)).heap.size = w.heap.size + 1 + 1 + 1 + 1 := by simp [hs3]
  rw [hs3] at r3
  have hb4 := hb3.alloc hb3.size (.cells #[v2] 22)
  have hO4 := hO3.below ((Below.refl _ _).alloc (Nat.le_refl _) (.cells #[v2] 22))
  generalize w3.alloc (.cells #[v2] 22) = w4 at *
  have r4 := heap_alloc_new w4 (.cells #[.string ⟨#[]⟩] 9)
  have q3 := (Below.heap_alloc w4 (.cells #[.string ⟨#[]⟩] 9) (w.heap.size + 1 + 1) (by omega)).trans q2
  have p3 := (Below.heap_alloc w4 (.cells #[.string ⟨#[]⟩] 9) (w.heap.size + 1 + 1 + 1) (by omega)).trans r3
  rw [hs4] at r4
  exact ⟨⟨q3, p3, r4, hO4.below ((Below.refl _ _).alloc (Nat.le_refl _) (.cells #[.string ⟨#[]⟩] 9)), by omega, by omega, by omega⟩, hb4.alloc hb4.size _⟩

def RetTake (B bo bs bw : Nat) (O R : List Int) (A : ByteArray) (w0 : World) (e : Ending) (w' : World) : Prop :=
  e = .returned (.tuple #[]) ∧ ∃ vo vs, SS B bo bs bw w' vo vs O R A ∧ Below B w0 w'
set_option maxRecDepth 100000 in
set_option maxHeartbeats 4000000 in
theorem i_take (w0 w : World) (B bo bs bw : Nat) (vo vs : Value) (O r : List Int) (y : Int) (A : ByteArray) (h : SS B bo bs bw w vo vs O (y :: r) A) (hb : Below B w0 w) (hB : B ≤ w0.heap.size) (hO : O.length ≤ 8) (hr : r.length ≤ 8) (hA : A.size ≤ 20) :
    Calls Tryd.prog 194 #[.pointer (some ⟨bo, 0, none⟩), .pointer (some ⟨bs, 0, none⟩), .pointer (some ⟨bw, 0, none⟩)] w (RetTake B bo bs bw (O ++ [y]) r (A ++ (⟨#[116]⟩ : ByteArray)) w0) := by
  obtain ⟨ao, mo, co, rfl, HMO, _, _⟩ := h.ow.o0.rd.formN
  obtain ⟨aS, ms, cs, rfl, HMS, hmcs, _⟩ := h.ow.o1.rd.formN
  obtain ⟨ρ, hρ⟩ : ∃ ρ, r.length = ρ := ⟨_, rfl⟩
  have hmsρ : ms = ρ + 1 := by have := HMS.out; simp at this; omega
  subst hmsρ
  have hmo : mo ≤ 8 := by have := HMO.out; dsimp only at this; omega
  have HLo : Hid ((ints O).length = mo) := by rw [Hid, ints_length]; exact HMO.out.symm
  obtain ⟨ps, y', rfl, hcy, hy⟩ := h.ow.o1.rd.int (k := ρ) (by simp; omega)
  have hya : y' = y := by have := hy.out; rw [← hρ, rev_top] at this; injection this with this; exact this.symm
  subst hya
  have d1 : (ρ : Int) < (ρ : Int) + 1 := by omega
  have d2 : (ρ : Int) ≤ (cs : Int) := by omega
  have d4 : (0 : Int) ≤ (ρ : Int) := by omega
  have d5 : IntKind.i64.wrap (ρ : Int) = (ρ : Int) := IntWalk.i64_in _ (by omega)
  have hsb : B ≤ w.heap.size := Nat.le_trans hB hb.size
  have q1 : ¬ 9223372036854775807 < A.size + 1 := by omega
  have q2 : ¬ 9223372036854775807 ≤ A.size := by omega
  obtain ⟨c0, c1, c2, f0, f1, f2⟩ := h.cells
  have hbA : Below w.heap.size w (w.alloc (.cells #[.int .i64 y'] 3)) := (Below.refl _ _).alloc (Nat.le_refl _) _
  have cA0 := (h.below hbA).cells.1
  have cA1 := (h.below hbA).cells.2.1
  have how := h.ow.o0
  dsimp only at how
  clear hbA
  go_enter Tryd.func194, Tryd.ntmps194
  go_upto_region 0 with (fail)
  go_region_law ((refine step_app1 (by rfl) _ _ _ (by rfl) elI (by rfl) how (by rfl) (by rfl) hsb (by rw [HLo.out]; omega) (by rw [HLo.out]; omega) ?_; intro b6 c6 w6 ho6 hg6 hat6; have hgr := h.grow (.head _) hg6; have hc6 := box_cell hgr.1 0; have hf6 := frozen_of_row w6 bo 0 _ _ hgr.1))
  all_goals
    have h6 := h.outs (O1 := O ++ [y']) hg6 (by rw [ints_append]; exact ho6) (hat_of hat6)
    have hb6 := (hb.grown hg6 hsb (fun r hr => (how.lt r hr).1)).setCell (p := ⟨bo, 0, none⟩) h.h0 (.slice b6 ((ints O).length + 1) c6)
    clear hgr hc6 hf6 c0 c1 c2 f0 f1 f2 cA0 cA1 h how hb hg6 ho6 hat6 hcy hsb
    obtain ⟨v6, hv6⟩ : ∃ v6, Value.slice b6 ((ints O).length + 1) c6 = v6 := ⟨_, rfl⟩
    rw [hv6] at h6 hb6 ⊢
    obtain ⟨w7, hw7⟩ : ∃ w7, w6.setCell ⟨bo, 0, none⟩ v6 = w7 := ⟨_, rfl⟩
    rw [hw7] at h6 hb6 ⊢
    clear hv6 hw7
    obtain ⟨c0, c1, c2, f0, f1, f2⟩ := h6.cells
    go_upto_region 2 with (fail)
    have hpo := h6.ow.o1
    dsimp only at hpo
    have h8 := h6.push (w' := w7) (R1 := r) (v1 := .slice (some ps) ρ cs) (World.grownBy.refl w7 _) (own_pop hpo (by omega) hρ.symm) (fun g hg => .inl hg)
    have hb8 := hb6.setCell (p := ⟨bs, 0, none⟩) (by have := h6.h0; have := h6.h1; show B ≤ bs; omega) (.slice (some ps) ρ cs)
    obtain ⟨w8, hw8⟩ : ∃ w8, w7.setCell ⟨bs, 0, none⟩ (.slice (some ps) ρ cs) = w8 := ⟨_, rfl⟩
    rw [hw8] at h8 hb8 ⊢
    clear hw8 c0 c1 c2 f0 f1 f2 h6 hb6 hpo
    obtain ⟨c0, c1, c2, f0, f1, f2⟩ := h8.cells
    go_wp2_with fail
    go_end0
    exact ⟨rfl, _, _, h8.word _, hb8.setCell (p := ⟨bw, 0, none⟩) (by have := h8.h0; have := h8.h1; have := h8.h2; show B ≤ bw; omega) _⟩

end Go.Proofs.YtdagkgkllgpeeaaDoor
