/- Joined texts of the proof: LawFnConfirms. -/
import Derived.WalkKit
import Derived.WalkSpells
import Derived.WalkLawsBesides
import Derived.Deep.Draws
import Derived.Lib.Hide
import Derived.RegionTactic
import Derived.Lib.SmallJoins
import Derived.Test.YtggblfnajeikjaaGreatRows
import Derived.BigQuiet
import Derived.Deep.QuietTactic
import Derived.Deep.RegionHeld3
import Derived.Deep.DeepCutAuto
import Derived.Deep.LoopGhost
import Derived.IntWalk
import Derived.Laws.BitsAllLaws
import Derived.Laws.BitsLemmas
import Derived.Deep.RegionLaw
import Derived.Lib.AppendZeros
import Derived.Lib.LazyBuf
import Derived.Lib.ItoaNum
import Derived.Deep.RegionWith
import Derived.Maps.OwnOps
import Derived.Maps.OwnSet
import Derived.Maps.Views
import Derived.Carry
import Derived.Shelf.Strconv.Itoa0
import Derived.Shelf.Sort.Plain
import Derived.Shelf.Slices.Reverse
import Derived.Ground.Names2Prog
import Derived.Shelf.Slices.CompactI
import Derived.Test.YtggblfnajeikjaaGreatProg
import Derived.Lib.RowBridge
import Derived.Sort.OwnSortedInts
import Derived.Maps.RangeWalk
import Derived.RangeFuncNested
import Derived.RangeFuncBound
import Derived.RangeFuncCalls
import Derived.RangeFuncBox
import Derived.RangeFuncLeaves
import Derived.Shelf.Abstract
import Derived.Shelf.RegionOpen
import Derived.OwnWalkIn
import Derived.TacticsInMore
import Derived.LoopNIn
import Derived.LoopIn
import Derived.Maps.AppendAt
import Derived.BigRegion
import Derived.Lib.Join
import Derived.Lib.SliceRun
import Derived.Deep.AppendLies
import Derived.Test.YtggblfnajeikjaaGreatJ1
import Derived.Test.YtggblfnajeikjaaGreatJ2
import Derived.Test.YtggblfnajeikjaaGreatJ3
import Derived.Test.YtggblfnajeikjaaGreatJ4
import Derived.Test.YtggblfnajeikjaaGreatJ5
import Derived.Test.YtggblfnajeikjaaGreatJ6
import Derived.Test.YtggblfnajeikjaaGreatJ8
import Derived.Test.YtggblfnajeikjaaGreatJ9
import Derived.Test.YtggblfnajeikjaaGreatJ10
import Derived.Test.YtggblfnajeikjaaGreatJ11
import Derived.Test.YtggblfnajeikjaaGreatJ12
import Derived.Test.YtggblfnajeikjaaGreatJ13
import Derived.Test.YtggblfnajeikjaaGreatJ14
import Derived.Test.YtggblfnajeikjaaGreatJ15
import Derived.Test.YtggblfnajeikjaaGreatJ16
import Derived.Test.YtggblfnajeikjaaGreatJ17
import Derived.Test.YtggblfnajeikjaaGreatJ18
import Derived.Test.YtggblfnajeikjaaGreatJ19
import Derived.Test.YtggblfnajeikjaaGreatJ20
import Derived.Test.YtggblfnajeikjaaGreatJ21
import Derived.Test.YtggblfnajeikjaaGreatJ22
import Derived.Test.YtggblfnajeikjaaGreatJ23
import Derived.Test.YtggblfnajeikjaaGreatJ24
import Derived.Test.YtggblfnajeikjaaGreatJ25
import Derived.Test.YtggblfnajeikjaaGreatJ26
import Derived.Test.YtggblfnajeikjaaGreatJ27
import Derived.Test.YtggblfnajeikjaaGreatJ28
import Derived.Test.YtggblfnajeikjaaGreatJ29
import Derived.Test.YtggblfnajeikjaaGreatJ30
import Derived.Test.YtggblfnajeikjaaGreatJ31
import Derived.Test.YtggblfnajeikjaaGreatJ32
import Derived.Test.YtggblfnajeikjaaGreatJ33
import Derived.Test.YtggblfnajeikjaaGreatJ34
import Derived.Test.YtggblfnajeikjaaGreatJ35
import Derived.Test.YtggblfnajeikjaaGreatJ36
import Derived.Test.YtggblfnajeikjaaGreatJ37
import Derived.Test.YtggblfnajeikjaaGreatJ38
import Derived.Test.YtggblfnajeikjaaGreatJ39
import Derived.Test.YtggblfnajeikjaaGreatJ40
import Derived.Test.YtggblfnajeikjaaGreatJ41
import Derived.Test.YtggblfnajeikjaaGreatJ42
import Derived.Test.YtggblfnajeikjaaGreatJ43
import Derived.Test.YtggblfnajeikjaaGreatJ44
import Derived.Test.YtggblfnajeikjaaGreatJ45
namespace Go.Proofs.YtggblfnajeikjaaGreat
open Go.RowKit
set_option linter.unusedVariables false
set_option linter.unusedSimpArgs false

theorem rd2_len {w : World} {a : Option Addr} {m c : Nat} {xss : List (List Int)} (h : Rd2 w (.slice a m c) xss) : m = xss.length := by
  obtain ⟨a', c', e, _, _⟩ := h.form
  injection e
theorem rd2_formK {w : World} {v : Value} {xss : List (List Int)} {k : Nat} (h : Rd2 w v xss) (hk : xss.length = k) : ∃ (a : Option Addr) (c : Nat), v = .slice a k c := by
  obtain ⟨a, c, e, _, _⟩ := h.form
  exact ⟨a, c, by rw [e, hk]⟩
/-- What a call at a literal list says. -/
def RetLit (ys : List Int) (b : Bool) (W : World) (e : Ending) (w' : World) : Prop := ∃ v, e = .returned (.tuple #[v, .bool b]) ∧ Rd w' v (ints ys) ∧ Below W.heap.size W w'
theorem lit_rd {W : World} {cs : Array Value} {n : Nat} {xs : List Int} (h : cs.toList = ints xs) (hn : cs.size = n) (hm : n ≤ 1000) : Rd (W.alloc (.cells cs 3)) (.slice (some ⟨W.heap.size, 0, none⟩) n n) (ints xs) := by
  subst hn
  have := (Own.lit W 3 W.heap.size cs (Nat.le_refl _) (by omega)).rd
  rwa [h] at this
theorem lit_below {W : World} {o : Obj} : Below W.heap.size W (W.alloc o) := (Below.refl _ _).alloc (Nat.le_refl _) _
theorem lit_ret {W w' : World} {o : Obj} {e : Ending} {ys : List Int} {b : Bool} {E : Nat} (h : RetOwnB E (ints ys) b (W.alloc o) e w') : RetLit ys b W e w' := by
  obtain ⟨v, h1, h2, h3⟩ := h
  exact ⟨v, h1, h2.rd, lit_below.trans (h3.mono lit_below.size)⟩
theorem c_Apply (ax : Option Addr) (cx : Nat) (W : World) (h : Rd2 W (.slice ax 5 cx) con0) : Calls Tryz.prog 25 #[.agg #[.int .i64 4, .slice ax 5 cx], .slice (some ⟨W.heap.size, 0, none⟩) 4 4] (W.alloc (.cells #[.int .i64 4, .int .i64 2, .int .i64 3, .int .i64 1] 3)) (RetLit [1, 2, 3, 4] true W) := by
  have := i_ApplyOk2 4 (.slice ax 5 cx) (.slice (some ⟨W.heap.size, 0, none⟩) 4 4) con0 [4, 2, 3, 1] (W.alloc (.cells #[.int .i64 4, .int .i64 2, .int .i64 3, .int .i64 1] 3)) (h.alloc _) (lit_rd rfl rfl (by omega)) con0_ok rfl
  rw [vA] at this
  exact this.mono fun e w' ⟨v, h1, h2, h3⟩ => ⟨v, h1, h2.rd, lit_below.trans (h3.mono lit_below.size)⟩
theorem c_Tokens (a : Option Addr) (c : Nat) (W : World) (h : Rd2 W (.slice a 24 c) (btL 3 0)) : Calls Tryz.prog 26 #[.agg #[.int .i64 8, .slice a 24 c], .slice (some ⟨W.heap.size, 0, none⟩) 8 8] (W.alloc (.cells #[.int .i64 9, .int .i64 0, .int .i64 0, .int .i64 0, .int .i64 0, .int .i64 0, .int .i64 0, .int .i64 0] 3)) (RetLit [2, 1, 1, 1, 1, 1, 1, 1] true W) := by
  have := i_CountTokens 8 (.slice a 24 c) (.slice (some ⟨W.heap.size, 0, none⟩) 8 8) (btL 3 0) [9, 0, 0, 0, 0, 0, 0, 0] (W.alloc (.cells #[.int .i64 9, .int .i64 0, .int .i64 0, .int .i64 0, .int .i64 0, .int .i64 0, .int .i64 0, .int .i64 0] 3)) (h.alloc _) (lit_rd rfl rfl (by omega)) bt8_ok
  rw [bt8_count.1, bt8_count.2] at this
  exact this.mono fun e w' h => lit_ret h
theorem c_Stack (W : World) : Calls Tryz.prog 27 #[.slice (some ⟨W.heap.size, 0, none⟩) 3 3] (W.alloc (.cells #[.int .i64 1, .int .i64 0, .int .i64 2] 3)) fun e w' => e = .returned (.tuple #[.string ⟨#[112, 112, 116, 116, 112, 116]⟩, .bool true]) ∧ Below W.heap.size W w' := by
  have := I_StackWord (.slice (some ⟨W.heap.size, 0, none⟩) 3 3) [1, 0, 2] (W.alloc (.cells #[.int .i64 1, .int .i64 0, .int .i64 2] 3)) (lit_rd rfl rfl (by omega))
  rw [vE1, vE2] at this
  exact this.mono fun e w' ⟨h1, h2⟩ => ⟨h1, lit_below.trans (h2.mono lit_below.size)⟩
theorem c_Settings (W : World) : Calls Tryz.prog 28 #[.slice (some ⟨W.heap.size, 0, none⟩) 2 2] (W.alloc (.cells #[.int .i64 1, .int .i64 0] 3)) (RetLit [1] true W) :=
  (i_SettingsFor10 _ _ (lit_rd (n := 2) rfl rfl (by omega))).mono fun e w' h => lit_ret h
theorem c_Flips (W : World) : Calls Tryz.prog 29 #[.slice (some ⟨W.heap.size, 0, none⟩) 2 2] (W.alloc (.cells #[.int .i64 1, .int .i64 0] 3)) (RetLit [2] true W) := by
  have := i_BestFlips (.slice (some ⟨W.heap.size, 0, none⟩) 2 2) [1, 0] (W.alloc (.cells #[.int .i64 1, .int .i64 0] 3)) (lit_rd rfl rfl (by omega)) vG1
  rw [vG2] at this
  exact this.mono fun e w' h => lit_ret h.1
theorem c_Matching (W : World) : Calls Tryz.prog 31 #[.slice (some ⟨W.heap.size, 0, none⟩) 2 2, .int .i64 3] (W.alloc (.cells #[.int .i64 3, .int .i64 1] 3)) (RetLit [1, 0] true W) :=
  (i_MatchingOf31 _ _ (lit_rd (n := 2) rfl rfl (by omega))).mono fun e w' h => lit_ret h
theorem c_Merge (W : World) : Calls Tryz.prog 30 #[.slice (some ⟨W.heap.size + 1 + 1, 0, none⟩) 2 2] (((W.alloc (.cells #[.int .i64 1, .int .i64 4] 3)).alloc (.cells #[.int .i64 2, .int .i64 3] 3)).alloc (.cells #[.slice (some ⟨W.heap.size, 0, none⟩) 2 2, .slice (some ⟨W.heap.size + 1, 0, none⟩) 2 2] 33)) (RetLit [1, 2, 3, 4] true W) := by
  obtain ⟨W1, h1⟩ : ∃ W1, W.alloc (.cells #[.int .i64 1, .int .i64 4] 3) = W1 := ⟨_, rfl⟩
  have z1 : W1.heap.size = W.heap.size + 1 := by rw [← h1]; simp
  have r1 : Rd W1 (.slice (some ⟨W.heap.size, 0, none⟩) 2 2) (ints [1, 4]) := by rw [← h1]; exact lit_rd (n := 2) rfl rfl (by omega)
  have b1 : Below W.heap.size W W1 := by rw [← h1]; exact lit_below
  rw [h1]
  obtain ⟨W2, h2⟩ : ∃ W2, W1.alloc (.cells #[.int .i64 2, .int .i64 3] 3) = W2 := ⟨_, rfl⟩
  have z2 : W2.heap.size = W.heap.size + 1 + 1 := by rw [← h2]; simp [z1]
  have r2 : Rd W2 (.slice (some ⟨W.heap.size + 1, 0, none⟩) 2 2) (ints [2, 3]) := by rw [← h2, ← z1]; exact lit_rd (n := 2) rfl rfl (by omega)
  have b2 : Below W.heap.size W W2 := by rw [← h2]; exact b1.alloc (by omega) _
  replace r1 : Rd W2 (.slice (some ⟨W.heap.size, 0, none⟩) 2 2) (ints [1, 4]) := by rw [← h2]; exact r1.alloc _
  rw [h2]
  have r3 := (Own.lit W2 33 W.heap.size #[.slice (some ⟨W.heap.size, 0, none⟩) 2 2, .slice (some ⟨W.heap.size + 1, 0, none⟩) 2 2] (by omega) (by simp)).rd
  have b3 := b2.alloc (by omega) (.cells #[.slice (some ⟨W.heap.size, 0, none⟩) 2 2, .slice (some ⟨W.heap.size + 1, 0, none⟩) 2 2] 33)
  rw [z2] at r3
  have hR : Rd2 (W2.alloc (.cells #[.slice (some ⟨W.heap.size, 0, none⟩) 2 2, .slice (some ⟨W.heap.size + 1, 0, none⟩) 2 2] 33)) (.slice (some ⟨W.heap.size + 1 + 1, 0, none⟩) 2 2) [[1, 4], [2, 3]] := by
    refine ⟨_, r3, rfl, fun i r hr => ?_⟩
    match i, hr with
    | 0, hr => cases hr; exact ⟨_, rfl, r1.alloc _⟩
    | 1, hr => cases hr; exact ⟨_, rfl, r2.alloc _⟩
    | i + 2, hr => cases hr
  have := I_MergeAll _ _ _ hR (fun xs hx y hy => by
    rcases List.mem_cons.1 hx with rfl | hx
    · simp at hy; unfold I64; omega
    · rcases List.mem_cons.1 hx with rfl | hx
      · simp at hy; unfold I64; omega
      · cases hx) ⟨by decide, by decide⟩
  rw [vH1, vH2] at this
  exact this.mono fun e w' ⟨v, q1, q2, q3⟩ => ⟨v, q1, q2.rd, b3.trans (q3.mono b3.size)⟩
theorem c_Same (v : Value) (ys : List Int) (cs : Array Value) (n : Nat) (hc : cs.toList = ints ys) (hn : cs.size = n) (hm : n ≤ 1000) (W : World) (h : Rd W v (ints ys)) : Calls Tryz.prog 32 #[v, .slice (some ⟨W.heap.size, 0, none⟩) n n] (W.alloc (.cells cs 3)) (RetB (.bool true) W) := by
  have := same_c v (.slice (some ⟨W.heap.size, 0, none⟩) n n) ys ys (W.alloc (.cells cs 3)) (h.alloc _) (lit_rd hc hn hm)
  rw [eqI_self] at this
  exact this.mono fun e w' ⟨h1, h2⟩ => ⟨h1, lit_below.trans (h2.below _)⟩
theorem c_SameA (v : Value) (W : World) (h : Rd W v (ints [1, 2, 3, 4])) : Calls Tryz.prog 32 #[v, .slice (some ⟨W.heap.size, 0, none⟩) 4 4] (W.alloc (.cells #[.int .i64 1, .int .i64 2, .int .i64 3, .int .i64 4] 3)) (RetB (.bool true) W) := c_Same v [1, 2, 3, 4] #[.int .i64 1, .int .i64 2, .int .i64 3, .int .i64 4] 4 rfl rfl (by omega) W h
theorem c_SameC (v : Value) (W : World) (h : Rd W v (ints [2, 1, 1, 1, 1, 1, 1, 1])) : Calls Tryz.prog 32 #[v, .slice (some ⟨W.heap.size, 0, none⟩) 8 8] (W.alloc (.cells #[.int .i64 2, .int .i64 1, .int .i64 1, .int .i64 1, .int .i64 1, .int .i64 1, .int .i64 1, .int .i64 1] 3)) (RetB (.bool true) W) := c_Same v [2, 1, 1, 1, 1, 1, 1, 1] #[.int .i64 2, .int .i64 1, .int .i64 1, .int .i64 1, .int .i64 1, .int .i64 1, .int .i64 1, .int .i64 1] 8 rfl rfl (by omega) W h
theorem c_SameF (v : Value) (W : World) (h : Rd W v (ints [1])) : Calls Tryz.prog 32 #[v, .slice (some ⟨W.heap.size, 0, none⟩) 1 1] (W.alloc (.cells #[.int .i64 1] 3)) (RetB (.bool true) W) := c_Same v [1] #[.int .i64 1] 1 rfl rfl (by omega) W h
theorem c_SameG (v : Value) (W : World) (h : Rd W v (ints [2])) : Calls Tryz.prog 32 #[v, .slice (some ⟨W.heap.size, 0, none⟩) 1 1] (W.alloc (.cells #[.int .i64 2] 3)) (RetB (.bool true) W) := c_Same v [2] #[.int .i64 2] 1 rfl rfl (by omega) W h
theorem c_SameK (v : Value) (W : World) (h : Rd W v (ints [1, 0])) : Calls Tryz.prog 32 #[v, .slice (some ⟨W.heap.size, 0, none⟩) 2 2] (W.alloc (.cells #[.int .i64 1, .int .i64 0] 3)) (RetB (.bool true) W) := c_Same v [1, 0] #[.int .i64 1, .int .i64 0] 2 rfl rfl (by omega) W h
theorem lit_b {W w' : World} {o : Obj} {e : Ending} {v : Value} (h : RetB v (W.alloc o) e w') : RetB v W e w' := ⟨h.1, lit_below.trans (h.2.mono lit_below.size)⟩
theorem lit_i {xs : List Int} (h : xs.all (fun y => decide (-1000 ≤ y) && decide (y ≤ 1000)) = true) : I64s xs := fun y hy => by
  have := List.all_eq_true.1 h y hy
  simp at this
  unfold I64
  omega
theorem c_Cheapest (W : World) : Calls Tryz.prog 33 #[.slice (some ⟨W.heap.size, 0, none⟩) 3 3] (W.alloc (.cells #[.int .i64 1, .int .i64 2, .int .i64 3] 3)) (RetB (.int .i64 9) W) := by
  have := i_CheapestMerge (.slice (some ⟨W.heap.size, 0, none⟩) 3 3) [1, 2, 3] (W.alloc (.cells #[.int .i64 1, .int .i64 2, .int .i64 3] 3)) (lit_rd rfl rfl (by omega)) vM1
  rw [vM2] at this
  exact this.mono fun e w' h => lit_b h
theorem c_Distance (W : World) : Calls Tryz.prog 34 #[.slice (some ⟨W.heap.size, 0, none⟩) 3 3] (W.alloc (.cells #[.int .i64 2, .int .i64 0, .int .i64 1] 3)) (RetB (.int .i64 2) W) :=
  (i_FlipDistance201 _ _ (lit_rd (n := 3) rfl rfl (by omega))).mono fun e w' h => lit_b h
theorem c_Buffer (W : World) : Calls Tryz.prog 35 #[.slice (some ⟨W.heap.size, 0, none⟩) 3 3] (W.alloc (.cells #[.int .i64 2, .int .i64 1, .int .i64 0] 3)) (RetB (.int .i64 3) W) := by
  have := I_BufferNeeded (W.alloc (.cells #[.int .i64 2, .int .i64 1, .int .i64 0] 3)) (.slice (some ⟨W.heap.size, 0, none⟩) 3 3) [2, 1, 0] (lit_rd rfl rfl (by omega)) (lit_i rfl) (by simp)
  rw [vB] at this
  exact this.mono fun e w' h => lit_b h
theorem c_Slack (W : World) : Calls Tryz.prog 36 #[.slice (some ⟨W.heap.size, 0, none⟩) 3 3] (W.alloc (.cells #[.int .i64 5, .int .i64 2, .int .i64 9] 3)) (RetB (.int .i64 3) W) := by
  have := I_SlackNeeded (W.alloc (.cells #[.int .i64 5, .int .i64 2, .int .i64 9] 3)) (.slice (some ⟨W.heap.size, 0, none⟩) 3 3) [5, 2, 9] (lit_rd rfl rfl (by omega)) (lit_i rfl) (by simp)
  rw [vS] at this
  exact this.mono fun e w' h => lit_b h
theorem c_Passes (W : World) : Calls Tryz.prog 37 #[.slice (some ⟨W.heap.size, 0, none⟩) 1 1, .int .i64 10] (W.alloc (.cells #[.int .i64 100] 3)) (RetB (.int .i64 3) W) := by
  have := I_PassesNeeded (W.alloc (.cells #[.int .i64 100] 3)) (.slice (some ⟨W.heap.size, 0, none⟩) 1 1) [100] (lit_rd rfl rfl (by omega)) (lit_i rfl) (by simp) 10 ⟨by omega, by omega⟩
  rw [vP] at this
  exact this.mono fun e w' h => lit_b h
theorem c_Medians (W : World) : Calls Tryz.prog 38 #[.slice (some ⟨W.heap.size, 0, none⟩) 3 3, .int .i64 3] (W.alloc (.cells #[.int .i64 3, .int .i64 1, .int .i64 2] 3)) fun e w' => ∃ v, e = .returned v ∧ Rd w' v (ints [2]) ∧ Below W.heap.size W w' :=
  (i_WindowMedians31 _ _ _ _ (lit_rd (n := 3) rfl rfl (by omega))).mono fun e w' ⟨v, h1, h2, h3⟩ => ⟨v, h1, h2.rd, lit_below.trans (h3.mono lit_below.size)⟩
theorem c_Cover (W : World) : Calls Tryz.prog 39 #[.slice (some ⟨W.heap.size, 0, none⟩) 3 3] (W.alloc (.cells #[.int .i64 1, .int .i64 1, .int .i64 1] 3)) (RetB (.int .i64 1) W) :=
  (i_LeastCover111 _ _ (lit_rd (n := 3) rfl rfl (by omega))).mono fun e w' ⟨h1, h2⟩ => ⟨h1, h2 ▸ lit_below⟩
set_option maxRecDepth 100000 in
set_option maxHeartbeats 16000000 in
theorem law_FnConfirms (w : World) (v : Value) (xs : List Int) (h : Rd w v (bytesV xs)) (hxb : ∀ n ∈ xs, 0 ≤ n ∧ n ≤ 255) : Calls Tryz.prog 3 #[v] w (Law w) := by
  obtain ⟨ab, nb, cb, rfl, HNB, hn1, hn2⟩ := h.formB
  clear h HNB hxb
  by_cases hl : nb ≤ 1048576
  case neg =>
    have hd : decide ((nb : Int) > 1048576) = true := by simp; omega
    go_enter Tryz.func3, Tryz.ntmps3
    go_wp2_with fail
    go_ret
    exact ⟨rfl, Below.refl _ _⟩
  have hd : decide ((nb : Int) > 1048576) = false := by simp; omega
  have HB8 : Hid (∀ W : World, Calls Tryz.prog 5 #[.int .i64 8] W (RetNetB 8 (batI 8 (wiresL 0 8)) W)) := fun W => i_BatcherNetwork 8 (by omega) (by omega) W
  have HD8 : Hid (∀ W : World, Calls Tryz.prog 6 #[.int .i64 8] W (RetNetB 8 (btL 3 0) W)) := fun W => i_BitonicNetwork 3 8 (by omega) (by rfl) W
  have HM8 : Hid (∀ W : World, Calls Tryz.prog 7 #[.int .i64 8] W (RetNetB 8 (liveL 4 (batI 8 (wiresL 0 8))) W)) := fun W => i_MedianNetwork 8 (by omega) (by omega) bat8_ok W
  have kB := Lib.hid bat8_ok
  have lB := Lib.hid bat8_len
  have lM := Lib.hid med8_len
  have HIS : Hid (∀ (v : Value) (W : World), Rd2 W v con0 → Calls Tryz.prog 8 #[.agg #[.int .i64 4, v]] W (RetB (.bool true) W)) := fun v W h => by
    have := i_IsSorting 4 v con0 W h con0_ok
    rwa [con0_sorts] at this
  have HSH : Hid (∀ (v : Value) (W : World), Rd2 W v con0 → Calls Tryz.prog 9 #[.agg #[.int .i64 4, v]] W (RetB (.bool true) W)) := fun v W h => i_IsShortest4 v W h
  have HD4 : Hid (∀ (v : Value) (W : World), Rd2 W v con0 → Calls Tryz.prog 10 #[.agg #[.int .i64 4, v]] W (RetB (.int .i64 3) W)) := fun v W h => by
    have := i_DepthOf 4 v con0 W h ⟨by omega, by omega⟩
    rwa [con0_depth] at this
  have HD6 : Hid (∀ (v : Value) (W : World), Rd2 W v (batI 8 (wiresL 0 8)) → Calls Tryz.prog 10 #[.agg #[.int .i64 8, v]] W (RetB (.int .i64 6) W)) := fun v W h => by
    have := i_DepthOf 8 v _ W h ⟨by omega, by omega⟩
    rwa [bat8_depth] at this
  have kD := Lib.hid bt8_ok
  have lD := Lib.hid bt8_len
  have cD := Lib.hid bt8_count
  generalize liveL 4 (batI 8 (wiresL 0 8)) = M8 at HM8 lM
  generalize batI 8 (wiresL 0 8) = B8 at HB8 kB lB HD6
  have HCT := Lib.hid c_Tokens
  generalize btL 3 0 = D8 at HD8 kD lD cD HCT
  go_enter Tryz.func3, Tryz.ntmps3
  go_wp2_with fail
  refine (i_NewConsole w).mono ?_
  rintro e w1 ⟨v1, rfl, o1, b1⟩
  have rx := o1.rd
  obtain ⟨ax, cx, rfl⟩ := rd2_formK rx (k := 5) rfl
  clear o1
  go_wp2_with fail
  obtain ⟨w2, b2, cx0, cx1, hw2⟩ := box_store w1 (.int .i64 4) (.slice ax 5 cx) 25
  rw [hw2]
  clear hw2
  have bt := b1.trans (b2.mono b1.size)
  replace rx := rx.below b2
  clear b1 b2
  refine (HB8.out w2).mono ?_
  rintro e w3 ⟨aB, mB, cB, rfl, oB, b3⟩
  have rB := oB.rd2
  obtain rfl : mB = 19 := (rd2_len rB).trans lB.out
  clear oB
  go_wp2_with fail
  obtain ⟨w4, b4, cB0, cB1, hw4⟩ := box_store w3 (.int .i64 8) (.slice aB 19 cB) 25
  rw [hw4]
  clear hw4
  have b4' := b3.trans (b4.mono b3.size)
  replace bt := bt.trans (b4'.mono bt.size)
  replace rx := rx.below b4'
  replace rB := rB.below b4
  replace cx0 := (b4'.cell (World.block_lt_of_cell? _ _ cx0)).trans cx0
  replace cx1 := (b4'.cell (World.block_lt_of_cell? _ _ cx1)).trans cx1
  clear b3 b4 b4'
  refine (HD8.out w4).mono ?_
  rintro e w5 ⟨aD, mD, cD_, rfl, oD, b5⟩
  have rD := oD.rd2
  obtain rfl : mD = 24 := (rd2_len rD).trans lD.out
  clear oD
  go_wp2_with fail
  obtain ⟨w6, b6, cD0, cD1, hw6⟩ := box_store w5 (.int .i64 8) (.slice aD 24 cD_) 25
  rw [hw6]
  clear hw6
  have b6' := b5.trans (b6.mono b5.size)
  replace bt := bt.trans (b6'.mono bt.size)
  replace rx := rx.below b6'
  replace rB := rB.below b6'
  replace rD := rD.below b6
  replace cx0 := (b6'.cell (World.block_lt_of_cell? _ _ cx0)).trans cx0
  replace cx1 := (b6'.cell (World.block_lt_of_cell? _ _ cx1)).trans cx1
  replace cB0 := (b6'.cell (World.block_lt_of_cell? _ _ cB0)).trans cB0
  replace cB1 := (b6'.cell (World.block_lt_of_cell? _ _ cB1)).trans cB1
  clear b5 b6 b6'
  refine (HM8.out w6).mono ?_
  rintro e w7 ⟨aM, mM, cM, rfl, oM, b7⟩
  have hmM : mM ≤ 18 := by have := rd2_len oM.rd2; have := lM.out; omega
  clear oM
  have hd19 : decide ((mM : Int) ≥ 19) = false := by simp; omega
  go_upto_region 7 with fail
  obtain ⟨w8, b8, cM0, cM1, hw8⟩ := box_store w7 (.int .i64 8) (.slice aM mM cM) 25
  rw [hw8]
  clear hw8
  have b8' := b7.trans (b8.mono b7.size)
  replace bt := bt.trans (b8'.mono bt.size)
  replace rx := rx.below b8'
  replace rB := rB.below b8'
  replace rD := rD.below b8'
  replace cx0 := (b8'.cell (World.block_lt_of_cell? _ _ cx0)).trans cx0
  replace cx1 := (b8'.cell (World.block_lt_of_cell? _ _ cx1)).trans cx1
  replace cB0 := (b8'.cell (World.block_lt_of_cell? _ _ cB0)).trans cB0
  replace cB1 := (b8'.cell (World.block_lt_of_cell? _ _ cB1)).trans cB1
  replace cD0 := (b8'.cell (World.block_lt_of_cell? _ _ cD0)).trans cD0
  replace cD1 := (b8'.cell (World.block_lt_of_cell? _ _ cD1)).trans cD1
  clear b7 b8 b8'
  obtain ⟨gX, hgX⟩ : ∃ g, w1.heap.size = g := ⟨_, rfl⟩
  obtain ⟨gB, hgB⟩ : ∃ g, w3.heap.size = g := ⟨_, rfl⟩
  obtain ⟨gD, hgD⟩ : ∃ g, w5.heap.size = g := ⟨_, rfl⟩
  obtain ⟨gM, hgM⟩ : ∃ g, w7.heap.size = g := ⟨_, rfl⟩
  rw [hgX] at cx0 cx1
  rw [hgB] at cB0 cB1
  rw [hgD] at cD0 cD1
  rw [hgM] at cM0 cM1
  rw [hgX, hgB, hgD, hgM]
  clear hgX hgB hgD hgM
  have HT : Hid (∀ W : World, Below w8.heap.size w8 W → (W.cell? ⟨gX, 0, none⟩ = some (.int .i64 4) ∧ W.cell? ⟨gX, 1, none⟩ = some (.slice ax 5 cx)) ∧ (W.cell? ⟨gB, 0, none⟩ = some (.int .i64 8) ∧ W.cell? ⟨gB, 1, none⟩ = some (.slice aB 19 cB)) ∧ (W.cell? ⟨gD, 0, none⟩ = some (.int .i64 8) ∧ W.cell? ⟨gD, 1, none⟩ = some (.slice aD 24 cD_)) ∧ (W.cell? ⟨gM, 0, none⟩ = some (.int .i64 8) ∧ W.cell? ⟨gM, 1, none⟩ = some (.slice aM mM cM))) := fun W hW =>
    ⟨⟨(hW.cell (World.block_lt_of_cell? _ _ cx0)).trans cx0, (hW.cell (World.block_lt_of_cell? _ _ cx1)).trans cx1⟩, ⟨(hW.cell (World.block_lt_of_cell? _ _ cB0)).trans cB0, (hW.cell (World.block_lt_of_cell? _ _ cB1)).trans cB1⟩, ⟨(hW.cell (World.block_lt_of_cell? _ _ cD0)).trans cD0, (hW.cell (World.block_lt_of_cell? _ _ cD1)).trans cD1⟩, ⟨(hW.cell (World.block_lt_of_cell? _ _ cM0)).trans cM0, (hW.cell (World.block_lt_of_cell? _ _ cM1)).trans cM1⟩⟩
  clear cB0 cB1 cD0 cD1 cM0 cM1
  go_upto_if 87 with (first
    | (go_at_call 8; refine (HIS.out _ _ rx).mono ?_; rintro e u1 ⟨rfl, e1⟩; obtain ⟨⟨p1, p2⟩, -⟩ := HT.out _ e1)
    | (go_at_call 9; refine (HSH.out _ _ (rx.below e1)).mono ?_; rintro e u2 ⟨rfl, e2⟩; have f2 := e1.trans (e2.mono e1.size); obtain ⟨⟨p3, p4⟩, -⟩ := HT.out _ f2)
    | (go_at_call 10; (with_reducible refine (HD4.out _ _ (rx.below f2)).mono ?_); rintro e u3 ⟨rfl, e3⟩; have f3 := f2.trans (e3.mono f2.size); obtain ⟨⟨p5, p6⟩, ⟨p7, p8⟩, ⟨p9, p10⟩, -⟩ := HT.out _ f3)
    | (go_at_call 10; (with_reducible refine (HD6.out _ _ (rB.below f3)).mono ?_); rintro e u4 ⟨rfl, e4⟩; have f4 := f3.trans (e4.mono f3.size); obtain ⟨-, -, -, ⟨p11, p12⟩⟩ := HT.out _ f4))
  have HMB : Hid (∀ W : World, Calls Tryz.prog 24 #[.int .i64 8, .int .i64 10] W (RetB (.int .i64 34) W)) := fun W => by
    have := i_MatchesBound 8 10 W
    rw [vMB] at this
    exact retB_same this
  clear HIS HSH HD4 HD6 p1 p2 p3 p4 p5 p6 p7 p8 p9 p10 p11 p12 e1 e2 e3 f2 f3
  go_upto_region 11 with (first
    | (go_at_call 11; (with_reducible refine (i_CountUnsortedMasks8 _).mono ?_); rintro e u5 ⟨rfl, e5⟩; have f5 := f4.trans (e5.mono f4.size))
    | (go_at_call 12; (with_reducible refine (i_PairBound8 _).mono ?_); rintro e u6 ⟨rfl, e6⟩; have f6 := f5.trans (e6.mono f5.size))
    | (go_at_call 12; (with_reducible refine (i_PairBound5 _).mono ?_); rintro e u7 ⟨rfl, e7⟩; have f7 := f6.trans (e7.mono f6.size))
    | (go_at_call 13; (with_reducible refine (i_MergeSize44 _).mono ?_); rintro e u8 ⟨rfl, e8⟩; have f8 := f7.trans (e8.mono f7.size))
    | (go_at_call 13; (with_reducible refine (i_MergeSize22 _).mono ?_); rintro e u9 ⟨rfl, e9⟩; have f9 := f8.trans (e9.mono f8.size))
    | (go_at_call 14; (with_reducible refine (i_CountMergeMasks44 _).mono ?_); rintro e u10 ⟨rfl, e10⟩; have f10 := f9.trans (e10.mono f9.size))
    | (go_at_call 15; (with_reducible refine (i_SwitchCount8 _).mono ?_); rintro e u11 ⟨rfl, e11⟩; have f11 := f10.trans (e11.mono f10.size))
    | (go_at_call 16; (with_reducible refine (i_CountPassing8 _).mono ?_); rintro e u12 ⟨rfl, e12⟩; have f12 := f11.trans (e12.mono f11.size))
    | (go_at_call 17; (with_reducible refine (i_CountStackSortable6 _).mono ?_); rintro e u13 ⟨rfl, e13⟩; have f13 := f12.trans (e13.mono f12.size))
    | (go_at_call 18; (with_reducible refine (i_MostFlips4 _).mono ?_); rintro e u14 ⟨rfl, e14⟩; have f14 := f13.trans (e14.mono f13.size))
    | (go_at_call 19; (with_reducible refine (i_CountAtDistance55 _).mono ?_); rintro e u15 ⟨rfl, e15⟩; have f15 := f14.trans (e15.mono f14.size))
    | (go_at_call 20; (with_reducible refine (i_ShearBound4 _).mono ?_); rintro e u16 ⟨rfl, e16⟩; have f16 := f15.trans (e16.mono f15.size))
    | (go_at_call 21; (with_reducible refine (i_GreatestUnreached49 _).mono ?_); rintro e u17 ⟨rfl, e17⟩; have f17 := f16.trans (e17.mono f16.size))
    | (go_at_call 22; (with_reducible refine (i_RoundsFor92 _).mono ?_); rintro e u18 ⟨rfl, e18⟩; have f18 := f17.trans (e18.mono f17.size))
    | (go_at_call 23; (with_reducible refine (i_CountNetworks33 _).mono ?_); rintro e u19 ⟨rfl, e19⟩; have f19 := f18.trans (e19.mono f18.size))
    | (go_at_call 24; (with_reducible refine (HMB.out _).mono ?_); rintro e u20 ⟨rfl, e20⟩; have f20 := f19.trans (e20.mono f19.size)))
  obtain ⟨⟨x0, x1⟩, -⟩ := HT.out _ f20
  go_upto_region 16 with (first
    | (go_at_call 25; refine (c_Apply _ _ _ (rx.below f20)).mono ?_; rintro e t1 ⟨va, rfl, ra, i1⟩; have j1 := f20.trans (i1.mono f20.size); obtain ⟨-, -, ⟨y0, y1⟩, -⟩ := HT.out _ j1)
    | (go_at_call 26; refine (HCT.out _ _ _ (rD.below j1)).mono ?_; rintro e t2 ⟨vc, rfl, rc, i2⟩; have j2 := j1.trans (i2.mono j1.size))
    | (go_at_call 27; refine (c_Stack _).mono ?_; rintro e t3 ⟨rfl, i3⟩; have j3 := j2.trans (i3.mono j2.size))
    | (go_at_call 28; refine (c_Settings _).mono ?_; rintro e t4 ⟨vf, rfl, rf, i4⟩; have j4 := j3.trans (i4.mono j3.size))
    | (go_at_call 29; refine (c_Flips _).mono ?_; rintro e t5 ⟨vg, rfl, rg, i5⟩; have j5 := j4.trans (i5.mono j4.size)))
  go_wp2_with (first
    | (go_at_call 30; refine (c_Merge _).mono ?_; rintro e t6 ⟨vh, rfl, rh, i6⟩; have j6 := j5.trans (i6.mono j5.size))
    | (go_at_call 31; refine (c_Matching _).mono ?_; rintro e t7 ⟨vk, rfl, rk, i7⟩; have j7 := j6.trans (i7.mono j6.size)
       have k7 := i7
       have k6 := i6.trans (k7.mono i6.size)
       have k5 := i5.trans (k6.mono i5.size)
       have k4 := i4.trans (k5.mono i4.size)
       have k3 := i3.trans (k4.mono i3.size)
       have k2 := i2.trans (k3.mono i2.size)
       have sa := ra.below k2
       have sc := rc.below k3
       have sf := rf.below k5
       have sg := rg.below k6
       have sh := rh.below k7)
    | (go_at_call 32; (with_reducible refine (c_SameA va _ sa).mono ?_); rintro e s1 ⟨rfl, m1⟩)
    | (go_at_call 32; (with_reducible refine (c_SameC vc _ (sc.below m1)).mono ?_); rintro e s2 ⟨rfl, m2⟩; have n2 := m1.trans (m2.mono m1.size))
    | (go_at_call 32; (with_reducible refine (c_SameF vf _ (sf.below n2)).mono ?_); rintro e s3 ⟨rfl, m3⟩; have n3 := n2.trans (m3.mono n2.size))
    | (go_at_call 32; (with_reducible refine (c_SameG vg _ (sg.below n3)).mono ?_); rintro e s4 ⟨rfl, m4⟩; have n4 := n3.trans (m4.mono n3.size))
    | (go_at_call 32; (with_reducible refine (c_SameA vh _ (sh.below n4)).mono ?_); rintro e s5 ⟨rfl, m5⟩; have n5 := n4.trans (m5.mono n4.size))
    | (go_at_call 32; (with_reducible refine (c_SameK vk _ (rk.below n5)).mono ?_); rintro e s6 ⟨rfl, m6⟩; have n6 := n5.trans (m6.mono n5.size))
    | (go_at_call 33; refine (c_Cheapest _).mono ?_; rintro e s7 ⟨rfl, m7⟩; have n7 := n6.trans (m7.mono n6.size))
    | (go_at_call 34; refine (c_Distance _).mono ?_; rintro e s8 ⟨rfl, m8⟩; have n8 := n7.trans (m8.mono n7.size))
    | (go_at_call 35; refine (c_Buffer _).mono ?_; rintro e s9 ⟨rfl, m9⟩; have n9 := n8.trans (m9.mono n8.size))
    | (go_at_call 36; refine (c_Slack _).mono ?_; rintro e s10 ⟨rfl, m10⟩; have n10 := n9.trans (m10.mono n9.size))
    | (go_at_call 37; refine (c_Passes _).mono ?_; rintro e s11 ⟨rfl, m11⟩; have n11 := n10.trans (m11.mono n10.size))
    | (go_at_call 38; refine (c_Medians _).mono ?_; rintro e s12 ⟨vq, rfl, rq, m12⟩; have n12 := n11.trans (m12.mono n11.size))
    | (go_at_call 32; (with_reducible refine (c_SameG vq _ rq).mono ?_); rintro e s13 ⟨rfl, m13⟩; have n13 := n12.trans (m13.mono n12.size))
    | (go_at_call 39; refine (c_Cover _).mono ?_; rintro e s14 ⟨rfl, m14⟩; have n14 := n13.trans (m14.mono n13.size)))
  go_ret
  exact ⟨rfl, bt.trans ((j7.trans (n14.mono j7.size)).mono bt.size)⟩

end Go.Proofs.YtggblfnajeikjaaGreat
