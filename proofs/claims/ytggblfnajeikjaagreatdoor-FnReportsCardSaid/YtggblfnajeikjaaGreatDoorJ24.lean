/- Joined texts of the proof: FabB. -/
import Derived.WalkKit
import Derived.WalkSpells
import Derived.WalkLawsBesides
import Derived.Deep.Draws
import Derived.Lib.Hide
import Derived.RegionTactic
import Derived.Test.YtggblfnajeikjaaGreatDoorRows
import Derived.BigQuiet
import Derived.Deep.QuietTactic
import Derived.Deep.DeepCutAuto
import Derived.Deep.LoopGhost
import Derived.Deep.RegionHeld3
import Derived.Lib.AppendZeros
import Derived.Test.YtggblfnajeikjaaGreatDoorJ1
import Derived.Test.YtggblfnajeikjaaGreatDoorJ6
import Derived.Test.YtggblfnajeikjaaGreatDoorJ7
import Derived.Test.YtggblfnajeikjaaGreatDoorJ9
import Derived.Test.YtggblfnajeikjaaGreatDoorJ10
import Derived.Test.YtggblfnajeikjaaGreatDoorJ14
import Derived.Test.YtggblfnajeikjaaGreatDoorJ16
import Derived.Test.YtggblfnajeikjaaGreatDoorJ19
namespace Go.Proofs.YtggblfnajeikjaaGreatDoor
open Go.RowKit
set_option linter.unusedVariables false
set_option linter.unusedSimpArgs false

theorem mk_ints (h : Nat) (hh : h ≤ 1000) : ∃ Z : Array Value, Z.toList = List.replicate h (.int .i64 0) ∧ ∀ W : World, (Instr.makeSlice 23 (.int .i64 (h : Int)) (.int .i64 (h : Int))).run Tryz.prog W = .ok (.slice (some ⟨W.heap.size, 0, none⟩) h h) (W.alloc (.cells Z 3)) := by
  obtain ⟨i, hu, hi, hz, hs1, hby, hzs⟩ := elI.ex
  have hb' : (i.bytes : Int) * (h : Int) ≤ 281474976710656 := by rw [hby]; omega
  refine ⟨madeCells (Value.int .i64 0).cells (h * i.size), by rw [hzs, hs1, Nat.mul_one, toList_madeCells_one], fun W => ?_⟩
  have hr := run_make (P := Tryz.prog) W 23 3 i _ hu hi hz .i64 .i64 h h (by omega) (Int.le_refl _) hb' (by omega)
  simpa only [Int.toNat_natCast] using hr
theorem OwnsL.mk2 {w : World} {E B h : Nat} {L : List (Value × List Int)} {Z : Array Value} {xs : List Int} (H : OwnsL w E B L) (hB : B ≤ w.heap.size) (hZ : Z.toList = ints xs) (hs : Z.size = h) (hh : h ≤ 1000) :
    OwnsL ((w.alloc (.cells Z E)).alloc (.cells Z E)) E B (L ++ [(.slice (some ⟨w.heap.size, 0, none⟩) h h, xs), (.slice (some ⟨w.heap.size + 1, 0, none⟩) h h, xs)]) := by
  have o1 := Own.lit w E w.heap.size Z (Nat.le_refl _) (by omega)
  rw [hZ, hs] at o1
  have h1 := H.snoc ((Below.refl _ _).alloc (Nat.le_refl _) (.cells Z E)) hB o1
  have o2 := Own.lit (w.alloc (.cells Z E)) E (w.alloc (.cells Z E)).heap.size Z (Nat.le_refl _) (by omega)
  rw [hZ, hs] at o2
  have h2 := h1.snoc ((Below.refl _ _).alloc (Nat.le_refl _) (.cells Z E)) (by simp; omega) o2
  simpa [List.append_assoc] using h2
theorem OwnsL.swap12 {w : World} {E B : Nat} {p0 p1 p2 : Value × List Int} (H : OwnsL w E B [p0, p1, p2]) : OwnsL w E B [p0, p2, p1] := by
  obtain ⟨h1, h2⟩ := H
  refine ⟨fun p hp => h1 p (by simp at hp ⊢; rcases hp with e | e | e <;> simp [e]), ?_⟩
  simp only [List.pairwise_cons, List.mem_cons, List.not_mem_nil, or_false, forall_eq_or_imp, forall_eq] at h2 ⊢
  obtain ⟨⟨a, b⟩, c, d⟩ := h2
  exact ⟨⟨b, a⟩, fun g x y => c g y x, by simp⟩
theorem OwnsL.swap34 {w : World} {E B : Nat} {p0 p1 p2 p3 p4 : Value × List Int} (H : OwnsL w E B [p0, p1, p2, p3, p4]) : OwnsL w E B [p0, p1, p2, p4, p3] := by
  obtain ⟨h1, h2⟩ := H
  refine ⟨fun p hp => h1 p (by simp at hp ⊢; rcases hp with e | e | e | e | e <;> simp [e]), ?_⟩
  simp only [List.pairwise_cons, List.mem_cons, List.not_mem_nil, or_false, forall_eq_or_imp, forall_eq] at h2 ⊢
  obtain ⟨⟨a1, a2, a3, a4⟩, ⟨b1, b2, b3⟩, ⟨c1, c2⟩, d, _⟩ := h2
  exact ⟨⟨a1, a2, a4, a3⟩, ⟨b1, b3, b2⟩, ⟨c2, c1⟩, fun g x y => d g y x, by simp⟩
theorem OwnsL.of_heap {w w' : World} {E B : Nat} {L : List (Value × List Int)} (H : OwnsL w E B L) (e : w'.heap = w.heap) : OwnsL w' E B L := ⟨fun p hp => (H.own p hp).keep fun k _ _ => by rw [e], H.ap⟩

section
variable {w w' : World} {E F B : Nat} {L : List (Value × List Int)} {b : Addr} {n c k : Nat} {xs : List Int} {p0 p1 p2 p3 : Value × List Int}
theorem OwnsL.st1 (h : OwnsL w E B (p0 :: (.slice (some b) n c, xs) :: L)) (hk : k < xs.length) (y : Int) : OwnsL (w.setCell (b.add k) (.int .i64 y)) E B (p0 :: (.slice (some b) n c, xs.set k y) :: L) :=
  h.t1 (h.o1.seti rfl hk y).2 (h.o1.seti rfl hk y).1 fun g hg => .inl hg
theorem OwnsL.st2 (h : OwnsL w E B (p0 :: p1 :: (.slice (some b) n c, xs) :: L)) (hk : k < xs.length) (y : Int) : OwnsL (w.setCell (b.add k) (.int .i64 y)) E B (p0 :: p1 :: (.slice (some b) n c, xs.set k y) :: L) :=
  h.t2 (h.o2.seti rfl hk y).2 (h.o2.seti rfl hk y).1 fun g hg => .inl hg
theorem OwnsL.st3 (h : OwnsL w E B (p0 :: p1 :: p2 :: (.slice (some b) n c, xs) :: L)) (hk : k < xs.length) (y : Int) : OwnsL (w.setCell (b.add k) (.int .i64 y)) E B (p0 :: p1 :: p2 :: (.slice (some b) n c, xs.set k y) :: L) :=
  h.t3 (h.o3.seti rfl hk y).2 (h.o3.seti rfl hk y).1 fun g hg => .inl hg
theorem OwnsL.st4 (h : OwnsL w E B (p0 :: p1 :: p2 :: p3 :: (.slice (some b) n c, xs) :: L)) (hk : k < xs.length) (y : Int) : OwnsL (w.setCell (b.add k) (.int .i64 y)) E B (p0 :: p1 :: p2 :: p3 :: (.slice (some b) n c, xs.set k y) :: L) :=
  h.t4 (h.o4.seti rfl hk y).2 (h.o4.seti rfl hk y).1 fun g hg => .inl hg
theorem OwnsL.setB {S : List Value} {m d B2 : Nat} (h : OwnsL w E B L) (hs : Own w F B2 (.slice (some b) m d) S) (hne : E ≠ F) (k : Nat) (u : Value) : OwnsL (w.setCell (b.add k) u) E B L :=
  ⟨fun p hp => (h.own p hp).setCell (fun e => (h.own p hp).elem_ne hs hne _ e (by rw [block_of_add]; rfl)) u, h.ap⟩
end
/-- The memory of a call of settings: w0 was the world at its begin. -/
structure FM (E EB B : Nat) (ba bf bl bu bw bs : Addr) (n h ca : Nat) (A F L U W : List Int) (S : List Bool) (w0 w : World) : Prop where
  own : OwnsL w E B [(.slice (some ba) n ca, A), (.slice (some bf) h h, F), (.slice (some bl) h h, L), (.slice (some bu) h h, U), (.slice (some bw) h h, W)]
  set : Own w EB B (.slice (some bs) h h) (bools S)
  bel : Below B w0 w
section
variable {E EB B n h ca k : Nat} {ba bf bl bu bw bs : Addr} {A F L U W : List Int} {S : List Bool} {w0 w : World}
theorem FM.stS (H : FM E EB B ba bf bl bu bw bs n h ca A F L U W S w0 w) (hne : E ≠ EB) (hk : k < S.length) (b : Bool) : FM E EB B ba bf bl bu bw bs n h ca A F L U W (S.set k b) w0 (w.setCell (bs.add k) (.bool b)) := by
  have hs := H.set.set rfl (show k < (bools S).length by rw [bools_len]; exact hk) (.bool b)
  rw [bools_set] at hs
  refine ⟨H.own.setB H.set hne k _, hs.1, H.bel.setCell ?_ _⟩
  rw [block_of_add]
  exact (H.set.lt _ rfl).1
theorem FM.stF (H : FM E EB B ba bf bl bu bw bs n h ca A F L U W S w0 w) (hne : E ≠ EB) (hk : k < F.length) (y : Int) : FM E EB B ba bf bl bu bw bs n h ca A (F.set k y) L U W S w0 (w.setCell (bf.add k) (.int .i64 y)) := by
  refine ⟨H.own.st1 hk y, H.set.setCell (fun e => H.set.elem_ne H.own.o1 hne.symm _ e (by rw [block_of_add]; rfl)) _, H.bel.setCell ?_ _⟩
  rw [block_of_add]
  exact (H.own.o1.lt _ rfl).1
theorem FM.stL (H : FM E EB B ba bf bl bu bw bs n h ca A F L U W S w0 w) (hne : E ≠ EB) (hk : k < L.length) (y : Int) : FM E EB B ba bf bl bu bw bs n h ca A F (L.set k y) U W S w0 (w.setCell (bl.add k) (.int .i64 y)) := by
  refine ⟨H.own.st2 hk y, H.set.setCell (fun e => H.set.elem_ne H.own.o2 hne.symm _ e (by rw [block_of_add]; rfl)) _, H.bel.setCell ?_ _⟩
  rw [block_of_add]
  exact (H.own.o2.lt _ rfl).1
theorem FM.stU (H : FM E EB B ba bf bl bu bw bs n h ca A F L U W S w0 w) (hne : E ≠ EB) (hk : k < U.length) (y : Int) : FM E EB B ba bf bl bu bw bs n h ca A F L (U.set k y) W S w0 (w.setCell (bu.add k) (.int .i64 y)) := by
  refine ⟨H.own.st3 hk y, H.set.setCell (fun e => H.set.elem_ne H.own.o3 hne.symm _ e (by rw [block_of_add]; rfl)) _, H.bel.setCell ?_ _⟩
  rw [block_of_add]
  exact (H.own.o3.lt _ rfl).1
theorem FM.stW (H : FM E EB B ba bf bl bu bw bs n h ca A F L U W S w0 w) (hne : E ≠ EB) (hk : k < W.length) (y : Int) : FM E EB B ba bf bl bu bw bs n h ca A F L U (W.set k y) S w0 (w.setCell (bw.add k) (.int .i64 y)) := by
  refine ⟨H.own.st4 hk y, H.set.setCell (fun e => H.set.elem_ne H.own.o4 hne.symm _ e (by rw [block_of_add]; rfl)) _, H.bel.setCell ?_ _⟩
  rw [block_of_add]
  exact (H.own.o4.lt _ rfl).1
end
def boolA (n : Nat) (f : Nat → Bool) : List Bool := (List.range n).map f
theorem boolA_len (n : Nat) (f : Nat → Bool) : (boolA n f).length = n := by simp [boolA]
theorem boolA_get {n i : Nat} (f : Nat → Bool) (h : i < n) : (boolA n f)[i]? = some (f i) := by simp [boolA, h]
theorem boolA_set (n k : Nat) (f : Nat → Bool) (b : Bool) : (boolA n f).set k b = boolA n (upd f k b) := by
  apply List.ext_getElem?
  intro q
  rw [List.getElem?_set]
  by_cases hq : q < n
  · rw [boolA_get _ hq, boolA_get _ hq, boolA_len]
    by_cases e : k = q
    · subst e; simp [hq, upd]
    · simp only [upd]
      rw [if_neg e, if_neg (fun h => e h.symm)]
  · have e1 : (boolA n f)[q]? = none := List.getElem?_eq_none (by rw [boolA_len]; omega)
    have e2 : (boolA n (upd f k b))[q]? = none := List.getElem?_eq_none (by rw [boolA_len]; omega)
    rw [e1, e2, boolA_len]
    by_cases e : k = q
    · subst e; simp [hq]
    · simp [e]
theorem boolA_zero (n : Nat) : List.replicate n (Value.bool false) = bools (boolA n fun _ => false) := by
  symm
  rw [List.eq_replicate_iff]
  simp [bools, boolA]
theorem xor_par : ∀ m : Nat, m < 8 → bits BinOp.xor IntKind.i64 (m : Int) 1 = ((par m : Nat) : Int) := by decide +kernel
def FMs (E EB B : Nat) (ba bf bl bu bw bs : Addr) (n h ca : Nat) (x : Nat → Nat) (s : FS) (w0 w : World) : Prop :=
  FM E EB B ba bf bl bu bw bs n h ca (natA n (invF n x)) (natA h s.first) (natA h s.last) (natA h s.up) (natA h s.low) (boolA h s.set) w0 w

theorem Rd2.of4 {W : World} {g E : Nat} {r0 r1 r2 r3 : Value} {x0 x1 x2 x3 : List Int} (h : W.heap[g]? = some (.cells #[r0, r1, r2, r3] E (0, 0))) (h0 : Rd W r0 (ints x0)) (h1 : Rd W r1 (ints x1)) (h2 : Rd W r2 (ints x2)) (h3 : Rd W r3 (ints x3)) :
    Rd2 W (.slice (some ⟨g, 0, none⟩) 4 4) [x0, x1, x2, x3] := by
  have hO : Own W E g (.slice (some ⟨g, 0, none⟩) 4 4) [r0, r1, r2, r3] := .inr ⟨g, 0, 4, _, rfl, Nat.le_refl _, h, by simp, by omega, by simp, fun j u hu => by simpa using hu⟩
  refine ⟨[r0, r1, r2, r3], hO.rd, rfl, fun i r hr => ?_⟩
  match i, hr with
  | 0, hr => cases hr; exact ⟨x0, rfl, h0⟩
  | 1, hr => cases hr; exact ⟨x1, rfl, h1⟩
  | 2, hr => cases hr; exact ⟨x2, rfl, h2⟩
  | 3, hr => cases hr; exact ⟨x3, rfl, h3⟩
  | n + 4, hr => simp at hr

end Go.Proofs.YtggblfnajeikjaaGreatDoor
