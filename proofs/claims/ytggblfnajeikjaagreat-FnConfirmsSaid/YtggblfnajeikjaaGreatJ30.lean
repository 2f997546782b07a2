/- Joined texts of the proof: Console. -/
import Derived.WalkKit
import Derived.WalkSpells
import Derived.WalkLawsBesides
import Derived.Deep.Draws
import Derived.Lib.Hide
import Derived.RegionTactic
import Derived.Test.YtggblfnajeikjaaGreatRows
import Derived.BigQuiet
import Derived.Deep.QuietTactic
import Derived.Deep.RegionHeld3
import Derived.Deep.DeepCutAuto
import Derived.Deep.LoopGhost
import Derived.IntWalk
import Derived.Lib.LazyBuf
import Derived.Lib.ItoaNum
import Derived.Deep.RegionWith
import Derived.Test.YtggblfnajeikjaaGreatJ1
import Derived.Test.YtggblfnajeikjaaGreatJ4
import Derived.Test.YtggblfnajeikjaaGreatJ6
import Derived.Test.YtggblfnajeikjaaGreatJ8
import Derived.Test.YtggblfnajeikjaaGreatJ10
import Derived.Test.YtggblfnajeikjaaGreatJ26
namespace Go.Proofs.YtggblfnajeikjaaGreat
open Go.RowKit
set_option linter.unusedVariables false
set_option linter.unusedSimpArgs false

def con0 : List (List Int) := [[0, 1], [2, 3], [0, 2], [1, 3], [1, 2]]
theorem own_two {W : World} {g E B : Nat} {a b : Int} (h : W.heap[g]? = some (.cells #[.int .i64 a, .int .i64 b] E (0, 0))) (hB : B ≤ g) : Own W E B (.slice (some ⟨g, 0, none⟩) 2 2) (ints [a, b]) :=
  .inr ⟨g, 0, 2, _, rfl, hB, h, by simp [ints], by omega, by simp, fun j u hu => by simpa [ints] using hu⟩
theorem own_many {W : World} {g E B n : Nat} {cs : Array Value} (h : W.heap[g]? = some (.cells cs E (0, 0))) (hB : B ≤ g) (hn : cs.size = n) (hm : n ≤ 1000) : Own W E B (.slice (some ⟨g, 0, none⟩) n n) cs.toList :=
  .inr ⟨g, 0, n, cs, by rw [Array.length_toList, hn], hB, h, by simp [hn], by omega, by omega, fun j u hu => by simpa using hu⟩
set_option maxRecDepth 100000 in
set_option maxHeartbeats 4000000 in
theorem con0_own (w : World) (o : Obj) (W : World)
    (hW : ((((((w.alloc o).alloc (.cells #[.int .i64 0, .int .i64 1] 3)).alloc (.cells #[.int .i64 2, .int .i64 3] 3)).alloc (.cells #[.int .i64 0, .int .i64 2] 3)).alloc (.cells #[.int .i64 1, .int .i64 3] 3)).alloc (.cells #[.int .i64 1, .int .i64 2] 3)).alloc
      (.cells #[.slice (some ⟨w.heap.size + 1, 0, none⟩) 2 2, .slice (some ⟨w.heap.size + 1 + 1, 0, none⟩) 2 2, .slice (some ⟨w.heap.size + 1 + 1 + 1, 0, none⟩) 2 2, .slice (some ⟨w.heap.size + 1 + 1 + 1 + 1, 0, none⟩) 2 2, .slice (some ⟨w.heap.size + 1 + 1 + 1 + 1 + 1, 0, none⟩) 2 2] 33) = W) :
    Own2 W 33 3 w.heap.size W.heap.size (.slice (some ⟨w.heap.size + 1 + 1 + 1 + 1 + 1 + 1, 0, none⟩) 5 5) con0 := by
  have hh : W.heap = w.heap ++ (#[o, (.cells #[.int .i64 0, .int .i64 1] 3), (.cells #[.int .i64 2, .int .i64 3] 3), (.cells #[.int .i64 0, .int .i64 2] 3), (.cells #[.int .i64 1, .int .i64 3] 3), (.cells #[.int .i64 1, .int .i64 2] 3), (.cells #[.slice (some ⟨w.heap.size + 1, 0, none⟩) 2 2, .slice (some ⟨w.heap.size + 1 + 1, 0, none⟩) 2 2, .slice (some ⟨w.heap.size + 1 + 1 + 1, 0, none⟩) 2 2, .slice (some ⟨w.heap.size + 1 + 1 + 1 + 1, 0, none⟩) 2 2, .slice (some ⟨w.heap.size + 1 + 1 + 1 + 1 + 1, 0, none⟩) 2 2] 33)] : Array Obj) := by
    rw [← hW]
    have e : ∀ (a : Array Obj) (o0 o1 o2 o3 o4 o5 o6 : Obj), ((((((a.push o0).push o1).push o2).push o3).push o4).push o5).push o6 = a ++ #[o0, o1, o2, o3, o4, o5, o6] := fun a _ _ _ _ _ _ _ => by
      apply Array.ext'
      simp
    exact e _ _ _ _ _ _ _ _
  have hs : W.heap.size = w.heap.size + 7 := by rw [hh]; simp
  have g1 : W.heap[w.heap.size + 1]? = some (.cells #[.int .i64 0, .int .i64 1] 3 (0, 0)) := by
    show W.heap[w.heap.size + 1]? = _
    rw [hh, Array.getElem?_append_right (by omega), Nat.add_sub_cancel_left]
    rfl
  have g2 : W.heap[w.heap.size + 1 + 1]? = some (.cells #[.int .i64 2, .int .i64 3] 3 (0, 0)) := by
    show W.heap[w.heap.size + 2]? = _
    rw [hh, Array.getElem?_append_right (by omega), Nat.add_sub_cancel_left]
    rfl
  have g3 : W.heap[w.heap.size + 1 + 1 + 1]? = some (.cells #[.int .i64 0, .int .i64 2] 3 (0, 0)) := by
    show W.heap[w.heap.size + 3]? = _
    rw [hh, Array.getElem?_append_right (by omega), Nat.add_sub_cancel_left]
    rfl
  have g4 : W.heap[w.heap.size + 1 + 1 + 1 + 1]? = some (.cells #[.int .i64 1, .int .i64 3] 3 (0, 0)) := by
    show W.heap[w.heap.size + 4]? = _
    rw [hh, Array.getElem?_append_right (by omega), Nat.add_sub_cancel_left]
    rfl
  have g5 : W.heap[w.heap.size + 1 + 1 + 1 + 1 + 1]? = some (.cells #[.int .i64 1, .int .i64 2] 3 (0, 0)) := by
    show W.heap[w.heap.size + 5]? = _
    rw [hh, Array.getElem?_append_right (by omega), Nat.add_sub_cancel_left]
    rfl
  have g6 : W.heap[w.heap.size + 1 + 1 + 1 + 1 + 1 + 1]? = some (.cells #[.slice (some ⟨w.heap.size + 1, 0, none⟩) 2 2, .slice (some ⟨w.heap.size + 1 + 1, 0, none⟩) 2 2, .slice (some ⟨w.heap.size + 1 + 1 + 1, 0, none⟩) 2 2, .slice (some ⟨w.heap.size + 1 + 1 + 1 + 1, 0, none⟩) 2 2, .slice (some ⟨w.heap.size + 1 + 1 + 1 + 1 + 1, 0, none⟩) 2 2] 33 (0, 0)) := by
    show W.heap[w.heap.size + 6]? = _
    rw [hh, Array.getElem?_append_right (by omega), Nat.add_sub_cancel_left]
    rfl
  refine ⟨_, own_many g6 (by omega) rfl (by omega), fun k hk => by simp [Value.ownBlock] at hk; omega, ?_⟩
  have r0 := RowsOwn.nil W 3 w.heap.size (w.heap.size + 1)
  have r1 := r0.snoc (T' := w.heap.size + 2) (own_two g1 (by omega)) (fun k hk => by simp [Value.ownBlock] at hk; omega) (by omega)
  have r2 := r1.snoc (T' := w.heap.size + 3) (own_two g2 (by omega)) (fun k hk => by simp [Value.ownBlock] at hk; omega) (by omega)
  have r3 := r2.snoc (T' := w.heap.size + 4) (own_two g3 (by omega)) (fun k hk => by simp [Value.ownBlock] at hk; omega) (by omega)
  have r4 := r3.snoc (T' := w.heap.size + 5) (own_two g4 (by omega)) (fun k hk => by simp [Value.ownBlock] at hk; omega) (by omega)
  have r5 := r4.snoc (T' := w.heap.size + 6) (own_two g5 (by omega)) (fun k hk => by simp [Value.ownBlock] at hk; omega) (by omega)
  exact r5.mono (Nat.le_refl _) (by omega)
set_option maxRecDepth 100000 in
set_option maxHeartbeats 4000000 in
theorem i_NewConsole (w : World) : Calls Tryz.prog 4 #[] w (RetNet 4 con0 w) := by
  go_enter Tryz.func4, Tryz.ntmps4
  go_wp2
  have hO := con0_own w (.cells #[.int .i64 4, .slice (some ⟨w.heap.size + 1 + 1 + 1 + 1 + 1 + 1, 0, none⟩) 5 5] 25) _ rfl
  refine bodyPost_ret (v := .agg #[.int .i64 4, .slice (some ⟨w.heap.size + 1 + 1 + 1 + 1 + 1 + 1, 0, none⟩) 5 5]) (by simp [results, Tryz.results4, go_sem]) rfl ⟨_, rfl, hO, ?_⟩
  exact ((((((Below.refl _ _).alloc (Nat.le_refl _) _).alloc (by simp) _).alloc (by simp; omega) _).alloc (by simp; omega) _).alloc (by simp; omega) _).alloc (by simp; omega) _ |>.alloc (by simp; omega) _

end Go.Proofs.YtggblfnajeikjaaGreat
