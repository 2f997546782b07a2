/- Walks: places by their numbers; how far. -/
import Derived.Test.YtdagkgkllgpeeaaDoorDisR
import Derived.Test.YtdagkgkllgpeeaaDoorSpecLate
import Derived.Test.YtdagkgkllgpeeaaDoorSortR
import Derived.Test.YtdagkgkllgpeeaaDoorOutLate2
namespace Go.Proofs.YtdagkgkllgpeeaaDoor
open Go.RowKit
set_option linter.unusedVariables false
set_option linter.unusedSimpArgs false

/-- The places by their numbers, of the first k. -/
def ordK (T : List Int) (k : Nat) : List Int := srtS (ltK T) ((List.range k).map fun (i : Nat) => (i : Int))
theorem ordK_succ (T : List Int) (k : Nat) : ordK T (k + 1) = srtS (ltK T) (ordK T k ++ [(k : Int)]) := by
  unfold ordK
  rw [srtS_snoc, List.range_succ, List.map_append]; rfl
theorem ordK_len (T : List Int) (k : Nat) : (ordK T k).length = k := by rw [ordK, srtS_length]; simp
theorem ordK_asc (T : List Int) (k : Nat) : KAsc (ltK T) (ordK T k) := srtS_asc _
theorem ordK_mem {T : List Int} {k : Nat} {x : Int} (h : x ∈ ordK T k) : ∃ j : Nat, j < k ∧ x = j := by
  rw [ordK, srtS_mem] at h
  obtain ⟨j, hj, rfl⟩ := List.mem_map.1 h
  exact ⟨j, List.mem_range.1 hj, rfl⟩

set_option maxHeartbeats 400000 in
theorem i_wiresN (n : Nat) (w : World) (hn : n ≤ 1000000) : Calls Tryd.prog 204 #[.int .i64 0, .int .i64 (n : Int)] w (RetOwn 3 (ints ((List.range n).map fun (i : Nat) => (i : Int))) w) := by
  have hA : Own (w.alloc (.cells #[] 3)) 3 w.heap.size (.slice (some ⟨w.heap.size, 0, none⟩) 0 0) (ints ((List.range 0).map fun (i : Nat) => (i : Int))) := Own.lit0 w 3 (Nat.le_refl _)
  have hb0 : Below w.heap.size w (w.alloc (.cells #[] 3)) := (Below.refl _ _).alloc (Nat.le_refl _) _
  go_enter Tryd.func204, Tryd.ntmps204
  go_wp2
  go_loopg [5, 6] n (fun g vo i wr => ∃ j : Nat, g = n - j ∧ j ≤ n ∧ i = .int .i64 j ∧ Own wr 3 w.heap.size vo (ints ((List.range j).map fun (i : Nat) => (i : Int))) ∧ Below w.heap.size w wr)
  case atStart => exact ⟨0, rfl, Nat.zero_le _, rfl, hA, hb0⟩
  case round =>
    clear hA hb0
    obtain ⟨j, hg, hj, rfl, ho, hb⟩ := hrel
    obtain ⟨ao, mo, co, rfl, HMO, _, _⟩ := ho.rd.formN
    have hmo : mo = j := by have := HMO.out; simpa using this
    subst hmo
    by_cases hlt : mo < n
    · have hsb := hb.size
      have i1 : (mo : Int) < (n : Int) := by omega
      have HLo : Hid ((ints ((List.range mo).map fun (i : Nat) => (i : Int))).length = mo) := by rw [Hid, ints_length]; simp
      go_wp2_with (at_builtin; refine wpList_app1m rfl _ _ 22 rfl elI rfl ho (by show Value.slice (some ⟨wr.heap.size, 0, none⟩) 1 1 = _; simp) rfl hsb _ HLo.out (by omega) (by omega) ?_; intro b5 c5 w5 ho5 hg5 hat5)
      go_roundg (n - (mo + 1))
      case measure => omega
      case rel => exact ⟨mo + 1, rfl, by omega, by go_num, by rw [List.range_succ, List.map_append, ints_append]; exact ho5, hb.grown hg5 hsb (fun r hr => (ho.lt r hr).1)⟩
    · obtain rfl : mo = n := by omega
      go_wp2
      go_ret
      exact ⟨_, rfl, ho, hb⟩

theorem k_stable1 : Known 249 := known Tryd.func249 (by kernel_rfl) (by kernel_rfl)
set_option maxHeartbeats 1000000 in
theorem i_stable1 (T : List Int) (v : Value) (q : Addr) (w : World) (hq : w.cell? q = some v) (h : Rd w v (ints T)) (X Y : Nat) (hX : X < T.length) (hY : Y < T.length) :
    Calls Tryd.prog 249 (#[.int .i64 X, .int .i64 Y] ++ #[.pointer (some q)]) w (RetQ (.int .i64 (cmpV (ltK T) X Y)) w) := by
  obtain ⟨a, n, c, rfl, HN, hnc, hc⟩ := h.formN
  obtain ⟨ad, x, rfl, hcx, hx⟩ := h.int hX
  obtain ⟨ad2, y, had2, hcy, hy⟩ := h.int hY
  obtain rfl : ad = ad2 := by injection had2
  clear had2
  have i1 : (X : Int) < (n : Int) := by have := HN.out; omega
  have i2 : (Y : Int) < (n : Int) := by have := HN.out; omega
  have hE : cmpV (ltK T) X Y = if x < y then -1 else if y < x then 1 else 0 := by
    rw [cmpV, ltK_nat, ltK_nat, getD_of hx.out, getD_of hy.out]
  by_cases h1 : x < y
  · have HE : Hid (cmpV (ltK T) X Y = -1) := by rw [Hid, hE, if_pos h1]
    have d1 : decide (x < y) = true := by simpa using h1
    clear hE
    go_enter Tryd.func249, Tryd.ntmps249
    go_wp2
    go_quiet (fail)
    go_wp2
    go_ret
    exact ⟨ret_int HE.out.symm, (Dr.refl _).step _⟩
  · have d1 : decide (x < y) = false := by simpa using h1
    by_cases h2 : y < x
    · have HE : Hid (cmpV (ltK T) X Y = 1) := by rw [Hid, hE, if_neg h1, if_pos h2]
      have d2 : decide (x > y) = true := by simpa using h2
      clear hE
      go_enter Tryd.func249, Tryd.ntmps249
      go_wp2
      go_quiet (fail)
      go_wp2
      go_quiet (fail)
      go_wp2
      go_ret
      exact ⟨ret_int HE.out.symm, ((Dr.refl _).step _).step _⟩
    · have HE : Hid (cmpV (ltK T) X Y = 0) := by rw [Hid, hE, if_neg h1, if_neg h2]
      have d2 : decide (x > y) = false := by simpa using h2
      clear hE
      go_enter Tryd.func249, Tryd.ntmps249
      go_wp2
      go_quiet (fail)
      go_wp2
      go_quiet (fail)
      go_wp2
      go_ret
      exact ⟨ret_int HE.out.symm, ((Dr.refl _).step _).step _⟩

end Go.Proofs.YtdagkgkllgpeeaaDoor
