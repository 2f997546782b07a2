/- Joined texts of the proof: StackE, StackF, StackG. -/
import Derived.WalkKit
import Derived.WalkSpells
import Derived.WalkLawsBesides
import Derived.Deep.Draws
import Derived.Lib.Hide
import Derived.RegionTactic
import Derived.Lib.SmallJoins
import Derived.Test.YtggblfnajeikjaaGreatRows
import Derived.BigQuiet
import Derived.Deep.QuietTactic
import Derived.Deep.RegionHeld3
import Derived.Deep.DeepCutAuto
import Derived.Deep.LoopGhost
import Derived.IntWalk
import Derived.Lib.ItoaNum
import Derived.Deep.RegionWith
import Derived.Shelf.Strconv.Itoa0
import Derived.Shelf.Sort.Plain
import Derived.Shelf.Slices.Reverse
import Derived.Ground.Names2Prog
import Derived.Shelf.Slices.CompactI
import Derived.Test.YtggblfnajeikjaaGreatProg
import Derived.BigRegion
import Derived.Lib.Join
import Derived.Test.YtggblfnajeikjaaGreatJ1
import Derived.Test.YtggblfnajeikjaaGreatJ2
import Derived.Test.YtggblfnajeikjaaGreatJ4
import Derived.Test.YtggblfnajeikjaaGreatJ5
import Derived.Test.YtggblfnajeikjaaGreatJ6
import Derived.Test.YtggblfnajeikjaaGreatJ8
import Derived.Test.YtggblfnajeikjaaGreatJ9
import Derived.Test.YtggblfnajeikjaaGreatJ15
import Derived.Test.YtggblfnajeikjaaGreatJ18
import Derived.Test.YtggblfnajeikjaaGreatJ23
import Derived.Test.YtggblfnajeikjaaGreatJ26
import Derived.Test.YtggblfnajeikjaaGreatJ37
namespace Go.Proofs.YtggblfnajeikjaaGreat
open Go.RowKit
set_option linter.unusedVariables false
set_option linter.unusedSimpArgs false

/-- The closure's three boxes: what went out, the stack (its top last), the word; two slices that are owned. -/
structure SS (B bo bs bw : Nat) (w : World) (vo vs : Value) (O R : List Int) (A : ByteArray) : Prop where
  ob : w.heap[bo]? = some (.cells #[vo] 33 (0, 0))
  sb : w.heap[bs]? = some (.cells #[vs] 33 (0, 0))
  wb : w.heap[bw]? = some (.cells #[.string A] 9 (0, 0))
  ow : OwnsL w 3 B [(vo, O), (vs, R.reverse)]
  h0 : B ≤ bo
  h1 : bo < bs
  h2 : bs < bw
section
variable {B bo bs bw : Nat} {w w' w0 : World} {vo vs v1 : Value} {O R O1 R1 : List Int} {A A1 : ByteArray}
theorem SS.below (h : SS B bo bs bw w vo vs O R A) (hb : Below w.heap.size w w') : SS B bo bs bw w' vo vs O R A :=
  ⟨(hb.block bo (box_lt h.ob)).trans h.ob, (hb.block bs (box_lt h.sb)).trans h.sb, (hb.block bw (box_lt h.wb)).trans h.wb, h.ow.below hb, h.h0, h.h1, h.h2⟩
theorem SS.grow {p : Value × List Int} (h : SS B bo bs bw w vo vs O R A) (hp : p ∈ [(vo, O), (vs, R.reverse)]) (hg : w.grownBy w' p.1.ownBlock) :
    w'.heap[bo]? = some (.cells #[vo] 33 (0, 0)) ∧ w'.heap[bs]? = some (.cells #[vs] 33 (0, 0)) ∧ w'.heap[bw]? = some (.cells #[.string A] 9 (0, 0)) :=
  ⟨(hg.block bo (box_lt h.ob) fun e => own_ne_box (h.ow.own p hp) h.ob (by decide) e.symm).trans h.ob, (hg.block bs (box_lt h.sb) fun e => own_ne_box (h.ow.own p hp) h.sb (by decide) e.symm).trans h.sb,
    (hg.block bw (box_lt h.wb) fun e => own_ne_box (h.ow.own p hp) h.wb (by decide) e.symm).trans h.wb⟩
theorem SS.outs (h : SS B bo bs bw w vo vs O R A) (hg : w.grownBy w' vo.ownBlock) (ho : Own w' 3 B v1 (ints O1)) (hat : ∀ g, v1.ownBlock = some g → vo.ownBlock = some g ∨ w.heap.size ≤ g) :
    SS B bo bs bw (w'.setCell ⟨bo, 0, none⟩ v1) v1 vs O1 R A := by
  obtain ⟨e1, e2, e3⟩ := h.grow (p := (vo, O)) (by simp) hg
  have := h.h1
  have := h.h2
  exact ⟨heap_setCell_same w' bo 0 _ _ v1 e1, (heap_setCell_other w' _ bs v1 (by show bs ≠ bo; omega)).trans e2, (heap_setCell_other w' _ bw v1 (by show bw ≠ bo; omega)).trans e3, (h.ow.t0 hg ho hat).setBox e1 (by decide) _, h.h0, h.h1, h.h2⟩
theorem SS.push (h : SS B bo bs bw w vo vs O R A) (hg : w.grownBy w' vs.ownBlock) (ho : Own w' 3 B v1 (ints R1.reverse)) (hat : ∀ g, v1.ownBlock = some g → vs.ownBlock = some g ∨ w.heap.size ≤ g) :
    SS B bo bs bw (w'.setCell ⟨bs, 0, none⟩ v1) vo v1 O R1 A := by
  obtain ⟨e1, e2, e3⟩ := h.grow (p := (vs, R.reverse)) (by simp) hg
  have := h.h1
  have := h.h2
  exact ⟨(heap_setCell_other w' _ bo v1 (by show bo ≠ bs; omega)).trans e1, heap_setCell_same w' bs 0 _ _ v1 e2, (heap_setCell_other w' _ bw v1 (by show bw ≠ bs; omega)).trans e3, (h.ow.t1 hg ho hat).setBox e2 (by decide) _, h.h0, h.h1, h.h2⟩
theorem SS.word (h : SS B bo bs bw w vo vs O R A) (A1 : ByteArray) : SS B bo bs bw (w.setCell ⟨bw, 0, none⟩ (.string A1)) vo vs O R A1 := by
  have := h.h1
  have := h.h2
  exact ⟨(heap_setCell_other w _ bo _ (by show bo ≠ bw; omega)).trans h.ob, (heap_setCell_other w _ bs _ (by show bs ≠ bw; omega)).trans h.sb, heap_setCell_same w bw 0 _ _ _ h.wb, h.ow.setBox h.wb (by decide) _, h.h0, h.h1, h.h2⟩
theorem SS.cells (h : SS B bo bs bw w vo vs O R A) : w.cell? ⟨bo, 0, none⟩ = some vo ∧ w.cell? ⟨bs, 0, none⟩ = some vs ∧ w.cell? ⟨bw, 0, none⟩ = some (.string A) ∧
    (∀ i, w.frozen? ⟨bo, i, none⟩ = false) ∧ (∀ i, w.frozen? ⟨bs, i, none⟩ = false) ∧ (∀ i, w.frozen? ⟨bw, i, none⟩ = false) :=
  ⟨box_cell h.ob 0, box_cell h.sb 0, box_cell h.wb 0, fun i => frozen_of_row w bo i _ _ h.ob, fun i => frozen_of_row w bs i _ _ h.sb, fun i => frozen_of_row w bw i _ _ h.wb⟩
end

theorem SS_init (w : World) :
    SS w.heap.size (w.heap.size + 1 + 1) (w.heap.size + 1 + 1 + 1) (w.heap.size + 1 + 1 + 1 + 1)
      (((((w.alloc (.cells #[] 3)).alloc (.cells #[] 3)).alloc (.cells #[.slice (some ⟨w.heap.size, 0, none⟩) 0 0] 33)).alloc (.cells #[.slice (some ⟨w.heap.size + 1, 0, none⟩) 0 0] 33)).alloc (.cells #[.string ⟨#[]⟩] 9))
      (.slice (some ⟨w.heap.size, 0, none⟩) 0 0) (.slice (some ⟨w.heap.size + 1, 0, none⟩) 0 0) [] [] ⟨#[]⟩ ∧
    Below w.heap.size w (((((w.alloc (.cells #[] 3)).alloc (.cells #[] 3)).alloc (.cells #[.slice (some ⟨w.heap.size, 0, none⟩) 0 0] 33)).alloc (.cells #[.slice (some ⟨w.heap.size + 1, 0, none⟩) 0 0] 33)).alloc (.cells #[.string ⟨#[]⟩] 9)) := by
  have hA1 := (OwnsL.nil w 3 w.heap.size).snoc ((Below.refl _ _).alloc (Nat.le_refl _) (.cells #[] 3)) (Nat.le_refl _) (Own.lit0 w 3 (Nat.le_refl _))
  have hA2 := hA1.snoc ((Below.refl _ _).alloc (Nat.le_refl _) (.cells #[] 3)) (by simp) (Own.lit0 _ 3 (Nat.le_refl _))
  have hb2 : Below w.heap.size w ((w.alloc (.cells #[] 3)).alloc (.cells #[] 3)) := ((Below.refl _ _).alloc (Nat.le_refl _) _).alloc (by simp) _
  have hs2 : ((w.alloc (.cells #[] 3)).alloc (.cells #[] 3)).heap.size = w.heap.size + 1 + 1 := by simp
  have hO2 : OwnsL ((w.alloc (.cells #[] 3)).alloc (.cells #[] 3)) 3 w.heap.size [(.slice (some ⟨w.heap.size, 0, none⟩) 0 0, []), (.slice (some ⟨w.heap.size + 1, 0, none⟩) 0 0, ([] : List Int).reverse)] := by simpa using hA2
  clear hA1 hA2
  generalize ((w.alloc (.cells #[] 3)).alloc (.cells #[] 3)) = w2 at *
  generalize Value.slice (some ⟨w.heap.size, 0, none⟩) 0 0 = v1 at *
  generalize Value.slice (some ⟨w.heap.size + 1, 0, none⟩) 0 0 = v2 at *
  have r2 := heap_alloc_new w2 (.cells #[v1] 33)
  have hs3 : (w2.alloc (.cells #[v1] 33)).heap.size = w.heap.size + 1 + 1 + 1 := by simp [hs2]
  rw [hs2] at r2
  have hb3 := hb2.alloc hb2.size (.cells #[v1] 33)
  have hO3 := hO2.below ((Below.refl _ _).alloc (Nat.le_refl _) (.cells #[v1] 33))
  generalize w2.alloc (.cells #[v1] 33) = w3 at *
  have r3 := heap_alloc_new w3 (.cells #[v2] 33)
  have q2 := (Below.heap_alloc w3 (.cells #[v2] 33) (w.heap.size + 1 + 1) (by omega)).trans r2
  have hs4 : (w3.alloc (.cells #[v2] 33)).heap.size = w.heap.size + 1 + 1 + 1 + 1 := by simp [hs3]
  rw [hs3] at r3
  have hb4 := hb3.alloc hb3.size (.cells #[v2] 33)
  have hO4 := hO3.below ((Below.refl _ _).alloc (Nat.le_refl _) (.cells #[v2] 33))
  generalize w3.alloc (.cells #[v2] 33) = w4 at *
  have r4 := heap_alloc_new w4 (.cells #[.string ⟨#[]⟩] 9)
  have q3 := (Below.heap_alloc w4 (.cells #[.string ⟨#[]⟩] 9) (w.heap.size + 1 + 1) (by omega)).trans q2
  have p3 := (Below.heap_alloc w4 (.cells #[.string ⟨#[]⟩] 9) (w.heap.size + 1 + 1 + 1) (by omega)).trans r3
  rw [hs4] at r4
  exact ⟨⟨q3, p3, r4, hO4.below ((Below.refl _ _).alloc (Nat.le_refl _) (.cells #[.string ⟨#[]⟩] 9)), by omega, by omega, by omega⟩, hb4.alloc hb4.size _⟩

def RetTake (B bo bs bw : Nat) (O R : List Int) (A : ByteArray) (w0 : World) (e : Ending) (w' : World) : Prop :=
  e = .returned (.tuple #[]) ∧ ∃ vo vs, SS B bo bs bw w' vo vs O R A ∧ Below B w0 w'
set_option maxRecDepth 100000 in
set_option maxHeartbeats 4000000 in
theorem i_take (w0 w : World) (B bo bs bw : Nat) (vo vs : Value) (O r : List Int) (y : Int) (A : ByteArray) (h : SS B bo bs bw w vo vs O (y :: r) A) (hb : Below B w0 w) (hB : B ≤ w0.heap.size) (hO : O.length ≤ 8) (hr : r.length ≤ 8) (hA : A.size ≤ 20) :
    Calls Tryz.prog 99 #[.pointer (some ⟨bo, 0, none⟩), .pointer (some ⟨bs, 0, none⟩), .pointer (some ⟨bw, 0, none⟩)] w (RetTake B bo bs bw (O ++ [y]) r (A ++ (⟨#[116]⟩ : ByteArray)) w0) := by
  obtain ⟨ao, mo, co, rfl, HMO, _, _⟩ := h.ow.o0.rd.formN
  obtain ⟨aS, ms, cs, rfl, HMS, hmcs, _⟩ := h.ow.o1.rd.formN
  obtain ⟨ρ, hρ⟩ : ∃ ρ, r.length = ρ := ⟨_, rfl⟩
  have hmsρ : ms = ρ + 1 := by have := HMS.out; simp at this; omega
  subst hmsρ
  have hmo : mo ≤ 8 := by have := HMO.out; dsimp only at this; omega
  have HLo : Hid ((ints O).length = mo) := by rw [Hid, ints_length]; exact HMO.out.symm
  obtain ⟨ps, y', rfl, hcy, hy⟩ := h.ow.o1.rd.int (k := ρ) (by simp; omega)
  have hya : y' = y := by have := hy.out; rw [← hρ, rev_top] at this; injection this with this; exact this.symm
  subst hya
  have d1 : (ρ : Int) < (ρ : Int) + 1 := by omega
  have d2 : (ρ : Int) ≤ (cs : Int) := by omega
  have d4 : (0 : Int) ≤ (ρ : Int) := by omega
  have d5 : IntKind.i64.wrap (ρ : Int) = (ρ : Int) := IntWalk.i64_in _ (by omega)
  have hsb : B ≤ w.heap.size := Nat.le_trans hB hb.size
  have q1 : ¬ 9223372036854775807 < A.size + 1 := by omega
  have q2 : ¬ 9223372036854775807 ≤ A.size := by omega
  obtain ⟨c0, c1, c2, f0, f1, f2⟩ := h.cells
  have hbA : Below w.heap.size w (w.alloc (.cells #[.int .i64 y'] 3)) := (Below.refl _ _).alloc (Nat.le_refl _) _
  have cA0 := (h.below hbA).cells.1
  have cA1 := (h.below hbA).cells.2.1
  have how := h.ow.o0
  dsimp only at how
  clear hbA
  go_enter Tryz.func99, Tryz.ntmps99
  go_upto_region 0 with (fail)
  go_region_law ((refine step_app1 (by rfl) _ _ _ (by rfl) elI (by rfl) how (by rfl) (by rfl) hsb (by rw [HLo.out]; omega) (by rw [HLo.out]; omega) ?_; intro b6 c6 w6 ho6 hg6 hat6; have hgr := h.grow (.head _) hg6; have hc6 := box_cell hgr.1 0; have hf6 := frozen_of_row w6 bo 0 _ _ hgr.1))
  all_goals
    have h6 := h.outs (O1 := O ++ [y']) hg6 (by rw [ints_append]; exact ho6) (hat_of hat6)
    have hb6 := (hb.grown hg6 hsb (fun r hr => (how.lt r hr).1)).setCell (p := ⟨bo, 0, none⟩) h.h0 (.slice b6 ((ints O).length + 1) c6)
    clear hgr hc6 hf6 c0 c1 c2 f0 f1 f2 cA0 cA1 h how hb hg6 ho6 hat6 hcy hsb
    obtain ⟨v6, hv6⟩ : ∃ v6, Value.slice b6 ((ints O).length + 1) c6 = v6 := ⟨_, rfl⟩
    rw [hv6] at h6 hb6 ⊢
    obtain ⟨w7, hw7⟩ : ∃ w7, w6.setCell ⟨bo, 0, none⟩ v6 = w7 := ⟨_, rfl⟩
    rw [hw7] at h6 hb6 ⊢
    clear hv6 hw7
    obtain ⟨c0, c1, c2, f0, f1, f2⟩ := h6.cells
    go_upto_region 2 with (fail)
    have hpo := h6.ow.o1
    dsimp only at hpo
    have h8 := h6.push (w' := w7) (R1 := r) (v1 := .slice (some ps) ρ cs) (World.grownBy.refl w7 _) (own_pop hpo (by omega) hρ.symm) (fun g hg => .inl hg)
    have hb8 := hb6.setCell (p := ⟨bs, 0, none⟩) (by have := h6.h0; have := h6.h1; show B ≤ bs; omega) (.slice (some ps) ρ cs)
    obtain ⟨w8, hw8⟩ : ∃ w8, w7.setCell ⟨bs, 0, none⟩ (.slice (some ps) ρ cs) = w8 := ⟨_, rfl⟩
    rw [hw8] at h8 hb8 ⊢
    clear hw8 c0 c1 c2 f0 f1 f2 h6 hb6 hpo
    obtain ⟨c0, c1, c2, f0, f1, f2⟩ := h8.cells
    go_wp2_with fail
    go_end0
    exact ⟨rfl, _, _, h8.word _, hb8.setCell (p := ⟨bw, 0, none⟩) (by have := h8.h0; have := h8.h1; have := h8.h2; show B ≤ bw; omega) _⟩

end Go.Proofs.YtggblfnajeikjaaGreat

namespace Go.Proofs.YtggblfnajeikjaaGreat
open Go.RowKit
set_option linter.unusedVariables false
set_option linter.unusedSimpArgs false

def RetSW (ys : List Int) (u : List UInt8) (w : World) (e : Ending) (w' : World) : Prop := ∃ v, e = .returned (.tuple #[v, .string (bstr u)]) ∧ Own w' 3 w.heap.size v (ints ys) ∧ Below w.heap.size w w'
set_option maxRecDepth 100000 in
set_option maxHeartbeats 8000000 in
theorem i_stackSort (v : Value) (xs : List Int) (w : World) (h : Rd w v (ints xs)) (hl : xs.length ≤ 8) : Calls Tryz.prog 66 #[v] w (RetSW (stkS xs) (stkW xs) w) := by
  obtain ⟨aT, n, cT, rfl, HN, hnc, hc⟩ := h.formN
  have h8 : n ≤ 8 := by have := HN.out; omega
  obtain ⟨hS, hb⟩ := SS_init w
  have HSL : Hid (∀ k, k ≤ xs.length → (stkR xs k).1.length + (stkR xs k).2.1.length = k ∧ (stkR xs k).2.2.length = k + (stkR xs k).1.length) := stkR_len xs
  go_enter Tryz.func66, Tryz.ntmps66
  go_upto_region 4 with (fail)
  obtain ⟨w8, hw8⟩ : ∃ w8, (((((w.alloc (.cells #[] 3)).alloc (.cells #[] 3)).alloc (.cells #[.slice (some ⟨w.heap.size, 0, none⟩) 0 0] 33)).alloc (.cells #[.slice (some ⟨w.heap.size + 1, 0, none⟩) 0 0] 33)).alloc (.cells #[.string ⟨#[]⟩] 9)) = w8 := ⟨_, rfl⟩
  rw [hw8] at hS hb ⊢
  clear hw8
  obtain ⟨v1, hv1⟩ : ∃ v1, Value.slice (some ⟨w.heap.size, 0, none⟩) 0 0 = v1 := ⟨_, rfl⟩
  obtain ⟨v2, hv2⟩ : ∃ v2, Value.slice (some ⟨w.heap.size + 1, 0, none⟩) 0 0 = v2 := ⟨_, rfl⟩
  rw [hv1, hv2] at hS
  rw [hv1, hv2]
  clear hv1 hv2
  obtain ⟨bw, hbw⟩ : ∃ bw, w.heap.size + 1 + 1 + 1 + 1 = bw := ⟨_, rfl⟩
  obtain ⟨bs, hbs⟩ : ∃ bs, w.heap.size + 1 + 1 + 1 = bs := ⟨_, rfl⟩
  obtain ⟨bo, hbo⟩ : ∃ bo, w.heap.size + 1 + 1 = bo := ⟨_, rfl⟩
  rw [hbw, hbs, hbo] at hS
  rw [hbw, hbs, hbo]
  clear hbw hbs hbo
  have HA0 : Hid ((⟨#[]⟩ : ByteArray) = bstr []) := rfl
  go_wp2
  go_loopg [15] n (fun g iv wr => ∃ (k : Nat) (O R : List Int) (W : List UInt8) (A : ByteArray) (vo vs : Value), g = n - k ∧ k ≤ n ∧ iv = .int .i64 k ∧ Hid (A = bstr W) ∧ Hid (stkR xs k = (O, R, W)) ∧ SS w.heap.size bo bs bw wr vo vs O R A ∧ Below w.heap.size w wr)
  case atStart => exact ⟨0, _, _, _, _, _, _, rfl, Nat.zero_le _, rfl, HA0, rfl, hS, hb⟩
  case round =>
    clear hS hb HA0
    obtain ⟨k, O, R, W, A, vo, vs, hg, hk, rfl, HA, HK, hS, hb⟩ := hrel
    have HLK := Lib.hid (stkR_bd (by rw [← HN.out]; exact hk) HK.out)
    by_cases hlt : k < n
    · obtain ⟨ad, x, rfl, hcx, hx⟩ := (h.below hb).int (k := k) (by have := HN.out; omega)
      have i1 : (k : Int) < (n : Int) := by omega
      go_wp2
      clear hcx
      go_loopg [33] R.length (fun g iv wr => ∃ (O2 R2 : List Int) (W2 : List UInt8) (A : ByteArray) (vo vs : Value), g = R2.length ∧ Hid (A = bstr W2) ∧ Hid (popA x O2 R2 W2 = popA x O R W) ∧ Hid (O2.length + R2.length = k ∧ W2.length = k + O2.length) ∧ SS w.heap.size bo bs bw wr vo vs O2 R2 A ∧ Below w.heap.size w wr)
      case atStart => exact ⟨_, _, _, _, _, _, rfl, HA, rfl, HLK, hS, hb⟩
      case round =>
        clear hS hb HA
        obtain ⟨O2, R2, W2, A, vo, vs, hg2, HA, HP, HL2, hS, hb⟩ := hrel
        obtain ⟨aS, ms, cs, rfl, HMS, hmcs, _⟩ := hS.ow.o1.rd.formN
        have hsb := hb.size
        have hms : ms ≤ 8 := by have := HMS.out; have := HL2.out; simp at *; omega
        have HLs : Hid ((ints R2.reverse).length = ms) := by rw [Hid, ints_length]; exact HMS.out.symm
        have hAs : A.size ≤ 16 := by rw [HA.out, bstr_size]; have := HL2.out; omega
        have q1 : ¬ 9223372036854775807 < A.size + 1 := by omega
        have q2 : ¬ 9223372036854775807 ≤ A.size := by omega
        obtain ⟨c0, c1, c2, f0, f1, f2⟩ := hS.cells
        have hcase : R2 = [] ∨ ∃ a r, R2 = a :: r := by cases R2 with | nil => exact .inl rfl | cons a r => exact .inr ⟨a, r, rfl⟩
        by_cases hpop : ∃ a r, R2 = a :: r ∧ a < x
        · obtain ⟨y, r, rfl, hyx⟩ := hpop
          clear hcase
          obtain ⟨ρ, hρ⟩ : ∃ ρ, r.length = ρ := ⟨_, rfl⟩
          have hmsρ : ms = ρ + 1 := by have := HMS.out; simp at this; omega
          subst hmsρ
          obtain ⟨ps, y', rfl, hcy, hy⟩ := hS.ow.o1.rd.int (k := ρ) (by simp; omega)
          have hya : y' = y := by have := hy.out; rw [← hρ, rev_top] at this; injection this with this; exact this.symm
          subst hya
          have d0 : decide (((ρ + 1 : Nat) : Int) > 0) = true := by simp
          have d1 : (ρ : Int) < (ρ : Int) + 1 := by omega
          have d2 : (ρ : Int) ≤ (cs : Int) := by omega
          have d4 : (0 : Int) < (ρ : Int) + 1 := by omega
          have d3 : decide (y' < x) = true := by simpa using hyx
          have HP2 := Lib.hid ((popA_go hyx O2 r W2).symm.trans HP.out)
          have HE := Lib.hid (i_take w wr w.heap.size bo bs bw _ _ O2 r y' A hS hb (Nat.le_refl _) (by have := HL2.out; omega) (by have := HL2.out; simp at this; omega) (by omega))
          go_wp2_with (go_at_call 99; refine HE.out.mono ?_; rintro e w9 ⟨rfl, vo9, vs9, hS9, hb9⟩)
          go_roundg r.length
          case measure => simp at hg2; omega
          case rel => exact ⟨_, _, _, _, _, _, rfl, bstr_snoc HA.out 116, HP2, by have := HL2.out; rw [Hid]; simp at *; omega, hS9, hb9⟩
        · have hstop : popA x O2 R2 W2 = (O2, R2, W2) := by
            rcases hcase with rfl | ⟨a, r, rfl⟩
            · rfl
            · exact popA_stop (fun hlt => hpop ⟨a, r, rfl, hlt⟩) _ _ _
          have HNX := Lib.hid (stk_of hx.out HK.out HP.out hstop)
          have htail : ∃ d0 : Bool, decide ((ms : Int) > 0) = d0 ∧ (d0 = true → ∃ (ps : Addr) (y : Int) (ρ : Nat), aS = some ps ∧ ms = ρ + 1 ∧ wr.cell? (ps.add ρ) = some (.int .i64 y) ∧ ¬ y < x) := by
            refine ⟨_, rfl, fun hd => ?_⟩
            rcases hcase with rfl | ⟨a, r, rfl⟩
            · have := HMS.out; simp at this; subst this; simp at hd
            · have hmsρ : ms = r.length + 1 := by have := HMS.out; simp at this; omega
              obtain ⟨ps, y', hps, hcy, hy⟩ := hS.ow.o1.rd.int (k := r.length) (by simp)
              have hya : y' = a := by have := hy.out; rw [rev_top] at this; injection this with this; exact this.symm
              exact ⟨ps, y', r.length, hps, hmsρ, hcy, fun hlt => hpop ⟨a, r, rfl, by rw [← hya]; exact hlt⟩⟩
          clear hstop hcase hpop
          obtain ⟨d0, hd0, htop⟩ := htail
          cases d0
          all_goals first
            | (have d1 : ¬ (0 : Int) < (ms : Int) := by simpa using hd0
               clear htop)
            | (obtain ⟨ps, y, ρ, rfl, rfl, hcy, hyx⟩ := htop rfl
               have d1 : (ρ : Int) < (ρ : Int) + 1 := by omega
               have d4 : (0 : Int) < (ρ : Int) + 1 := by omega
               have d3 : decide (y < x) = false := by simpa using hyx
               clear htop)
          all_goals
            go_upto_region 10 with (at_builtin; refine wpList_app1m rfl _ _ 33 rfl elI rfl hS.ow.o1 (by show Value.slice (some ⟨wr.heap.size, 0, none⟩) 1 1 = _; simp) rfl hsb _ HLs.out (by omega) (by omega) ?_; intro b5 c5 w5 ho5 hg5 hat5; have hgr := hS.grow (.tail _ (.head _)) hg5; have hc5 := box_cell hgr.2.1 0; have hf5 := frozen_of_row w5 bs 0 _ _ hgr.2.1)
            have h6 := hS.push (R1 := x :: R2) hg5 (by rw [List.reverse_cons (a := x), ints_append]; exact ho5) (hat_of hat5)
            have hb6 := fun (u : Value) => (hb.grown hg5 hsb (fun r hr => (hS.ow.o1.lt r hr).1)).setCell (p := ⟨bs, 0, none⟩) (by have := hS.h0; have := hS.h1; show w.heap.size ≤ bs; omega) u
            clear hgr hc5 hf5 c0 c1 c2 f0 f1 f2 hS hb ho5 hg5 hat5
            obtain ⟨c0, c1, c2, f0, f1, f2⟩ := h6.cells
            go_wp2_with fail
            go_roundg (n - (k + 1))
            case measure => omega
            case rel => exact ⟨k + 1, _, _, _, _, _, _, rfl, by omega, by go_num, bstr_snoc HA.out 112, HNX, h6.word _, (hb6 _).setCell (p := ⟨bw, 0, none⟩) (by have := h6.h0; have := h6.h1; have := h6.h2; show w.heap.size ≤ bw; omega) _⟩
    · obtain rfl : k = n := by omega
      have HF1 : Hid (O ++ R = stkS xs) := by rw [Hid, stkS, ← HN.out, HK.out]
      have HF2 : Hid (W ++ List.replicate R.length 116 = stkW xs) := by rw [Hid, stkW, ← HN.out, HK.out]
      go_wp2
      go_loopg [45] R.length (fun g iv wr => ∃ (O2 R2 : List Int) (W2 : List UInt8) (A : ByteArray) (vo vs : Value), g = R2.length ∧ Hid (A = bstr W2) ∧ Hid (O2 ++ R2 = stkS xs) ∧ Hid (W2 ++ List.replicate R2.length 116 = stkW xs) ∧ Hid (O2.length + R2.length = k ∧ W2.length = k + O2.length) ∧ SS w.heap.size bo bs bw wr vo vs O2 R2 A ∧ Below w.heap.size w wr)
      case atStart => exact ⟨_, _, _, _, _, _, rfl, HA, HF1, HF2, HLK, hS, hb⟩
      case round =>
        clear hS hb HA HF1 HF2
        obtain ⟨O2, R2, W2, A, vo, vs, hg2, HA, HF1, HF2, HL2, hS, hb⟩ := hrel
        obtain ⟨aS, ms, cs, rfl, HMS, hmcs, _⟩ := hS.ow.o1.rd.formN
        obtain ⟨c0, c1, c2, f0, f1, f2⟩ := hS.cells
        have hAs : A.size ≤ 16 := by rw [HA.out, bstr_size]; have := HL2.out; omega
        have hcase : R2 = [] ∨ ∃ a r, R2 = a :: r := by cases R2 with | nil => exact .inl rfl | cons a r => exact .inr ⟨a, r, rfl⟩
        rcases hcase with rfl | ⟨y, r, rfl⟩
        · have hms0 : ms = 0 := by have := HMS.out; simpa using this
          subst hms0
          have HX1 : Hid (O2 = stkS xs) := by have := HF1.out; rw [List.append_nil] at this; exact this
          have HX2 : Hid (W2 = stkW xs) := by have := HF2.out; simp at this; exact this
          obtain ⟨ao, mo, co, rfl, HMO, _, _⟩ := hS.ow.o0.rd.formN
          have ho := hS.ow.o0
          dsimp only at ho
          rw [HX1.out] at ho
          clear hS
          go_wp2
          go_quiet (fail)
          go_wp2
          go_ret2
          exact ⟨.slice ao mo co, by rw [← HX2.out, ← HA.out]; rfl, ho.drewN _, ⟨hb.os, hb.tape, hb.output, hb.size, hb.block⟩⟩
        · have hmsρ : ms = r.length + 1 := by have := HMS.out; simp at this; omega
          have d0 : (0 : Int) < (ms : Int) := by omega
          have HE := Lib.hid (i_take w wr w.heap.size bo bs bw _ _ O2 r y A hS hb (Nat.le_refl _) (by have := HL2.out; omega) (by have := HL2.out; simp at this; omega) (by omega))
          clear hmsρ
          go_wp2_with (go_at_call 99; refine HE.out.mono ?_; rintro e w9 ⟨rfl, vo9, vs9, hS9, hb9⟩)
          go_roundg r.length
          case measure => simp at hg2; omega
          case rel => exact ⟨_, _, _, _, _, _, rfl, bstr_snoc HA.out 116, by have := HF1.out; rw [Hid, ← this]; simp, by have := HF2.out; rw [Hid, ← this]; simp [List.replicate_succ], by have := HL2.out; rw [Hid]; simp at *; omega, hS9, hb9⟩

end Go.Proofs.YtggblfnajeikjaaGreat

namespace Go.Proofs.YtggblfnajeikjaaGreat
open Go.RowKit
set_option linter.unusedVariables false
set_option linter.unusedSimpArgs false

set_option maxHeartbeats 1000000 in
theorem I_StackWord (v : Value) (xs : List Int) (w : World) (h : Rd w v (ints xs)) : Calls Tryz.prog 27 #[v] w (RetWord (wordOf xs) (shortB xs && canB xs) w) := by
  have HS0 := I_CanStackSort v xs w h
  obtain ⟨aT, n, cT, rfl, HN, hnc, hc⟩ := h.formN
  cases hcan : (shortB xs && canB xs)
  · rw [hcan] at HS0
    have HR : Hid (wordOf xs = []) := by rw [Hid, wordOf, hcan]; rfl
    have HS := Lib.hid HS0
    clear HS0 hcan
    go_enter Tryz.func27, Tryz.ntmps27
    go_wp2_with (go_at_call 65; refine HS.out.mono ?_; rintro e w1 ⟨rfl, hb1⟩)
    go_ret2
    exact ⟨by rw [HR.out]; rfl, hb1⟩
  · rw [hcan] at HS0
    have HR : Hid (wordOf xs = stkW xs) := by rw [Hid, wordOf, hcan]; rfl
    have h8 := (shortB_iff.1 (Bool.and_eq_true_iff.1 hcan).1).1
    have HS := Lib.hid HS0
    have HT := Lib.hid (fun (W : World) (hW : Below w.heap.size w W) => i_stackSort _ xs W (h.below hW) h8)
    clear HS0 hcan
    go_enter Tryz.func27, Tryz.ntmps27
    go_wp2_with (first
      | (go_at_call 65; refine HS.out.mono ?_; rintro e w1 ⟨rfl, hb1⟩)
      | (go_at_call 66; refine (HT.out _ hb1).mono ?_; rintro e w2 ⟨v2, rfl, ho2, hb2⟩))
    go_ret2
    exact ⟨by rw [HR.out]; rfl, hb1.trans (hb2.mono hb1.size)⟩

end Go.Proofs.YtggblfnajeikjaaGreat
