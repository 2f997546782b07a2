/- From a reading of an argument as data to what the walks ask. -/
import Derived.Test.YtggblfnajeikjaaGreatDoorMem
import Derived.ProofKit
import Derived.ChangeOld
import Derived.Deep.Matrix
import Derived.Lib.SmallJoins
namespace Go.Proofs.YtggblfnajeikjaaGreatDoor
open Go.ChangeShapes Go.WideShapes Go.RowKit
set_option linter.unusedVariables false
set_option linter.unusedSimpArgs false

/-- Bytes as cells. -/
def bytes (xs : List Int) : List Value := xs.map (Value.int .u8)

section
variable {H : Type} {enc : TypeId × Value → H} {P : Program} {w : World} {base : Nat} {spare : Nat → Bool} {held : Bool}

theorem wf_i64 {n : Int} (h : (Lit.int .i64 n).wf = true) : I64 n := by
  simp [Lit.wf, IntKind.min, IntKind.max, IntKind.signed, IntKind.bits] at h
  unfold I64
  omega

theorem open_rd_kind {k : IntKind} {t e fuel : Nat} {a : Option Addr} {len cap : Nat} {x : DataW H × List MemPlace} (ht : P.underlying t = some (.slice e)) (he : P.underlying e = some (.int k)) (hc : P.cellsOf e = 1)
    (hf : DataW.trod enc P w base (fun _ => true) held fuel t (Value.slice a len cap).cells.toList = some x) : ∃ zs : List Int, Rd w (.slice a len cap) (zs.map (Value.int k)) ∧ ∀ n ∈ zs, (Lit.int k n).wf = true := by
  rcases open_ints ht he hc hf with ⟨hcs, _⟩ | ⟨ad, l, c, zs, hcs, _, hl, hm, hz, _, hcell, hwz⟩
  · simp [Value.cells] at hcs
    obtain ⟨rfl, rfl, rfl⟩ := hcs
    exact ⟨[], by simpa using Rd.nil w, by simp⟩
  · simp [Value.cells] at hcs
    obtain ⟨rfl, rfl, rfl⟩ := hcs
    simp only [if_true] at hz
    have hlen : (zs.take len).length = len := by simp; omega
    refine ⟨zs.take len, ⟨some ad, cap, by simp; omega, by simp; omega, by simp only [maxLen] at hm; omega, fun _ => ⟨ad, rfl, fun j u hu => ?_⟩⟩, fun n hn => hwz n (List.mem_of_mem_take hn)⟩
    have hj := (List.getElem?_eq_some_iff.1 hu).1
    rw [List.length_map, hlen] at hj
    have h1 := hcell j (by omega)
    rw [h1, ← hu, List.getElem?_map, List.getElem?_take, if_pos hj, List.getElem?_eq_getElem (by omega)]
    simp [List.getD, List.getElem?_eq_getElem (show j < zs.length by omega)]

theorem open_rd_ints {t e fuel : Nat} {a : Option Addr} {len cap : Nat} {x : DataW H × List MemPlace} (ht : P.underlying t = some (.slice e)) (he : P.underlying e = some (.int .i64)) (hc : P.cellsOf e = 1)
    (hf : DataW.trod enc P w base (fun _ => true) held fuel t (Value.slice a len cap).cells.toList = some x) : ∃ zs : List Int, Rd w (.slice a len cap) (ints zs) ∧ I64s zs := by
  obtain ⟨zs, h1, h2⟩ := open_rd_kind ht he hc hf
  exact ⟨zs, h1, fun n hn => wf_i64 (h2 n hn)⟩

theorem open_rd_bytes {t e fuel : Nat} {a : Option Addr} {len cap : Nat} {x : DataW H × List MemPlace} (ht : P.underlying t = some (.slice e)) (he : P.underlying e = some (.int .u8)) (hc : P.cellsOf e = 1)
    (hf : DataW.trod enc P w base (fun _ => true) held fuel t (Value.slice a len cap).cells.toList = some x) : ∃ zs : List Int, Rd w (.slice a len cap) (bytes zs) ∧ ∀ n ∈ zs, 0 ≤ n ∧ n ≤ 255 := by
  obtain ⟨zs, h1, h2⟩ := open_rd_kind ht he hc hf
  refine ⟨zs, h1, fun n hn => ?_⟩
  have := h2 n hn
  simp [Lit.wf, IntKind.min, IntKind.max, IntKind.signed, IntKind.bits] at this
  omega

theorem open_rd2 {t e q fuel : Nat} {a : Option Addr} {len cap : Nat} {x : DataW H × List MemPlace} (ht : P.underlying t = some (.slice e)) (he : P.underlying e = some (.slice q)) (hq : P.underlying q = some (.int .i64)) (ce : P.cellsOf e = 1) (cq : P.cellsOf q = 1)
    (hf : DataW.trod enc P w base (fun _ => true) held fuel t (Value.slice a len cap).cells.toList = some x) : ∃ zs : List (List Int), Rd2 w (.slice a len cap) zs ∧ I64ss zs := by
  rcases Go.Deep.open_int_rows ht he hq ce cq hf with ⟨hcs, _⟩ | ⟨ad, l, c, A, L, C, Z, hcs, _, hl, hm, _, hrow⟩
  · simp [Value.cells] at hcs
    obtain ⟨rfl, rfl, rfl⟩ := hcs
    exact ⟨[], Rd2.nil w, fun xs h => by simp at h⟩
  · simp [Value.cells] at hcs
    obtain ⟨rfl, rfl, rfl⟩ := hcs
    simp only [maxLen] at hm
    refine ⟨(List.range len).map fun r => (Z r).take (L r), ⟨(List.range len).map fun r => .slice (A r) (L r) (C r), ⟨some ad, cap, by simp, by simpa using hl, by omega, fun _ => ⟨ad, rfl, fun j u hu => ?_⟩⟩, by simp, fun i r hr => ?_⟩, fun xs hxs n hn => ?_⟩
    · rw [List.getElem?_map] at hu
      obtain ⟨j', hj', rfl⟩ := Option.map_eq_some_iff.1 hu
      obtain ⟨h1, rfl⟩ := List.getElem?_eq_some_iff.1 hj'
      simp only [List.length_range] at h1
      rw [List.getElem_range]
      exact (hrow j (by omega)).1
    · rw [List.getElem?_map] at hr
      obtain ⟨j', hj', rfl⟩ := Option.map_eq_some_iff.1 hr
      obtain ⟨h1, rfl⟩ := List.getElem?_eq_some_iff.1 hj'
      simp only [List.length_range] at h1
      simp only [List.getElem_range]
      obtain ⟨_, h2, h3, h4, _, h6, h7⟩ := hrow i (by omega)
      simp only [maxLen] at h3
      have hlen : ((Z i).take (L i)).length = L i := by simp; omega
      refine ⟨(Z i).take (L i), by simp [h1], A i, C i, by simp [ints]; omega, by simp [ints]; omega, by omega, fun hn => ?_⟩
      rw [ints_length, hlen] at hn
      obtain ⟨a', ha'⟩ : ∃ a', A i = some a' := by
        cases hA : A i with
        | none => have := h6 hA; omega
        | some a' => exact ⟨a', rfl⟩
      refine ⟨a', ha', fun j u hu => ?_⟩
      have hj := (List.getElem?_eq_some_iff.1 hu).1
      rw [ints_length, hlen] at hj
      rw [(h7 a' ha').2 j (by omega), ← hu, ints_get _ _ (by omega)]
      simp [List.getD, List.getElem?_take, hj]
    · simp only [List.mem_map, List.mem_range] at hxs
      obtain ⟨r, hr, rfl⟩ := hxs
      exact wf_i64 ((hrow r (by omega)).2.2.2.2.1 n (List.mem_of_mem_take hn))

open Go.Joins Go.Deep in
theorem open_net {r : Reach} {b0 : Nat} {t e q : TypeId} {f0 f1 : Field} {v : Value} {d : DataW H} {p : List MemPlace} (hs : P.underlying t = some (.struct #[f0, f1])) (hone : oneCellFields P #[f0, f1] = true) (hC : P.cellsOf t = 2)
    (hi : P.underlying f0.type = some (.int .i64)) (ht : P.underlying f1.type = some (.slice e)) (he : P.underlying e = some (.slice q)) (hq : P.underlying q = some (.int .i64)) (ce : P.cellsOf e = 1) (cq : P.cellsOf q = 1)
    (hv : Value.okWide P w r b0 t v) (h : DataW.Trod enc P w base (fun _ => true) held t v d p) :
    ∃ (n : Int) (vp : Value) (zs : List (List Int)), v = .agg #[.int .i64 n, vp] ∧ I64 n ∧ Rd2 w vp zs ∧ I64ss zs := by
  obtain ⟨v0, v1, y0, y1, m, rfl, _, _, h0, h1⟩ := open_agg2 hs hone hC hv h
  obtain ⟨n, hc, _, hw⟩ := DataW.trod_int hi h0
  injection hc with hc1 _
  subst hc1
  obtain ⟨a, len, cap, hcs⟩ := slice_form ht h1
  injection hcs with hcs1 _
  subst hcs1
  obtain ⟨zs, hz1, hz2⟩ := open_rd2 ht he hq ce cq (a := a) (len := len) (cap := cap) (by simpa [Value.cells] using h1)
  exact ⟨n, _, zs, rfl, wf_i64 hw, hz1, hz2⟩
end
end Go.Proofs.YtggblfnajeikjaaGreatDoor
