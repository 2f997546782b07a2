/- Joined texts of the proof: StackC, StackD, MergeLineI. -/
import Derived.WalkKit
import Derived.WalkSpells
import Derived.WalkLawsBesides
import Derived.Deep.Draws
import Derived.Lib.Hide
import Derived.RegionTactic
import Derived.Lib.SmallJoins
import Derived.Test.YtggblfnajeikjaaGreatRows
import Derived.BigQuiet
import Derived.Deep.QuietTactic
import Derived.Deep.RegionHeld3
import Derived.Deep.DeepCutAuto
import Derived.Deep.LoopGhost
import Derived.IntWalk
import Derived.Lib.ItoaNum
import Derived.Deep.RegionWith
import Derived.Shelf.Strconv.Itoa0
import Derived.Shelf.Sort.Plain
import Derived.Shelf.Slices.Reverse
import Derived.Ground.Names2Prog
import Derived.Shelf.Slices.CompactI
import Derived.Test.YtggblfnajeikjaaGreatProg
import Derived.Lib.Join
import Derived.Test.YtggblfnajeikjaaGreatJ1
import Derived.Test.YtggblfnajeikjaaGreatJ2
import Derived.Test.YtggblfnajeikjaaGreatJ4
import Derived.Test.YtggblfnajeikjaaGreatJ5
import Derived.Test.YtggblfnajeikjaaGreatJ6
import Derived.Test.YtggblfnajeikjaaGreatJ9
import Derived.Test.YtggblfnajeikjaaGreatJ16
import Derived.Test.YtggblfnajeikjaaGreatJ26
namespace Go.Proofs.YtggblfnajeikjaaGreat
open Go.RowKit
set_option linter.unusedVariables false
set_option linter.unusedSimpArgs false

theorem popA_stop {x a : Int} (h : ¬ a < x) (o r : List Int) (w : List UInt8) : popA x o (a :: r) w = (o, a :: r, w) := by rw [popA, if_neg h]
theorem popA_go {x a : Int} (h : a < x) (o r : List Int) (w : List UInt8) : popA x o (a :: r) w = popA x (o ++ [a]) r (w ++ [116]) := by rw [popA, if_pos h]
theorem stk_of {xs : List Int} {k : Nat} {x : Int} {O R O2 R2 : List Int} {W W2 : List UInt8} (hx : xs[k]? = some x) (h : stkR xs k = (O, R, W)) (hp : popA x O2 R2 W2 = popA x O R W) (hs : popA x O2 R2 W2 = (O2, R2, W2)) :
    stkR xs (k + 1) = (O2, x :: R2, W2 ++ [112]) := by
  rw [stkR_succ hx, h, stk1, ← hp, hs]
theorem rev_top (a : Int) (r : List Int) : (a :: r).reverse[r.length]? = some a := by
  rw [List.reverse_cons, List.getElem?_append_right (by simp)]
  simp
end Go.Proofs.YtggblfnajeikjaaGreat

namespace Go.Proofs.YtggblfnajeikjaaGreat
open Go.RowKit
set_option linter.unusedVariables false
set_option linter.unusedSimpArgs false

def RetWord (u : List UInt8) (b : Bool) (w : World) (e : Ending) (w' : World) : Prop := e = .returned (.tuple #[.string (bstr u), .bool b]) ∧ Below w.heap.size w w'
def wordOf (xs : List Int) : List UInt8 := if shortB xs && canB xs then stkW xs else []
theorem bstr_snoc {A : ByteArray} {W : List UInt8} (h : A = bstr W) (x : UInt8) : A ++ (⟨#[x]⟩ : ByteArray) = bstr (W ++ [x]) := by
  rw [h]
  exact bstr_app W [x]
theorem stkR_bd {xs : List Int} {k : Nat} {O R : List Int} {W : List UInt8} (hk : k ≤ xs.length) (h : stkR xs k = (O, R, W)) : O.length + R.length = k ∧ W.length = k + O.length := by
  have := stkR_len xs k hk
  rw [h] at this
  exact this
/-- The last is taken off a slice that is owned. -/
theorem own_pop {w : World} {E B n c ρ : Nat} {a : Option Addr} {x : Int} {r : List Int} (h : Own w E B (.slice a n c) (ints (x :: r).reverse)) (hn : ρ ≤ n) (hr : ρ = r.length) : Own w E B (.slice a ρ c) (ints r.reverse) := by
  have ho := h.take hn
  rw [ints_take, List.reverse_cons, List.take_append_of_le_length (by simp; omega), List.take_of_length_le (by simp; omega)] at ho
  exact ho

end Go.Proofs.YtggblfnajeikjaaGreat

namespace Go.Proofs.YtggblfnajeikjaaGreat
open Go.RowKit
set_option linter.unusedVariables false
set_option linter.unusedSimpArgs false

def RetCh (z : Int) (w : World) (e : Ending) (w' : World) : Prop := ∃ v, e = .returned (.tuple #[.int .i64 z, v]) ∧ Below w.heap.size w w'
set_option maxHeartbeats 1000000 in
theorem i_CheapestMergeOf (HCH : ∀ (v : Value) (xs : List Int) (w : World), Rd w v (ints xs) → lensB xs = true → Calls Tryz.prog 78 #[v] w (RetCh (cm xs) w))
    (v : Value) (xs : List Int) (w : World) (h : Rd w v (ints xs)) (hs : lensB xs = true) : Calls Tryz.prog 33 #[v] w (RetB (.int .i64 (cm xs)) w) := by
  have HL := Lib.hid (hs ▸ i_LengthsOk v xs w h)
  have HC := Lib.hid (HCH v xs w h hs)
  generalize cm xs = Z at HC ⊢
  obtain ⟨a, n, c, rfl, HN, hnc, hc⟩ := h.formN
  clear HCH hs
  go_enter Tryz.func33, Tryz.ntmps33
  go_wp2_with (first
    | (go_at_call 77; refine HL.out.mono ?_; rintro e w' ⟨rfl, rfl⟩)
    | (go_at_call 78; refine HC.out.mono ?_; rintro e w1 ⟨v1, rfl, hb1⟩))
  go_ret
  exact ⟨rfl, hb1⟩

end Go.Proofs.YtggblfnajeikjaaGreat
