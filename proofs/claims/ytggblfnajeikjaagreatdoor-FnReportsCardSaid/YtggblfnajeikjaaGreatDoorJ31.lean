/- Joined texts of the proof: Fmt, Strs. -/
import Derived.WalkKit
import Derived.WalkSpells
import Derived.WalkLawsBesides
import Derived.Deep.Draws
import Derived.Lib.Hide
import Derived.RegionTactic
import Derived.Test.YtggblfnajeikjaaGreatDoorRows
import Derived.BigQuiet
import Derived.Deep.QuietTactic
import Derived.Deep.LoopGhost
import Derived.Deep.RegionWith
import Derived.Lib.ItoaNum
import Derived.Deep.RegionHeld3
import Derived.IntWalk
import Derived.Lib.Join
import Derived.Test.YtggblfnajeikjaaGreatDoorJ1
import Derived.Test.YtggblfnajeikjaaGreatDoorJ6
import Derived.Test.YtggblfnajeikjaaGreatDoorJ7
namespace Go.Proofs.YtggblfnajeikjaaGreatDoor
open Go.RowKit
set_option linter.unusedVariables false
set_option linter.unusedSimpArgs false

theorem decDigits_len : ∀ k u, u < 10 ^ (k + 1) → (Lib.decDigits u).length ≤ k + 1
  | 0, u, h => by
    rw [Lib.decDigits, dif_pos (by simpa using h)]
    simp
  | k + 1, u, h => by
    rw [Lib.decDigits]
    split
    · simp
    · have := decDigits_len k (u / 10) (by rw [Nat.div_lt_iff_lt_mul (by omega)]; rw [Nat.pow_succ] at h; omega)
      simp
      omega
theorem decDigits_19 {n : Nat} (hn : n ≤ 9223372036854775808) : (Lib.decDigits n).length ≤ 19 := decDigits_len 18 n (by
  have : (10 : Nat) ^ (18 + 1) = 10000000000000000000 := by decide
  omega)
theorem decDigits_pos (n : Nat) : 1 ≤ (Lib.decDigits n).length := by
  rw [Lib.decDigits]
  split <;> simp
theorem decDigits_big {u : Nat} (h : 9 < u) : Lib.decDigits u = Lib.decDigits (u / 10) ++ [UInt8.ofNat (48 + u % 10)] := by
  rw [Lib.decDigits, dif_neg (by omega)]
theorem decDigits_small {u : Nat} (h : ¬ 9 < u) : Lib.decDigits u = [UInt8.ofNat (48 + u)] := by
  rw [Lib.decDigits, dif_pos (by omega)]
theorem itoa_len {n : Int} (h : I64 n) : 1 ≤ (Lib.itoa n).length ∧ (Lib.itoa n).length ≤ 20 := by
  unfold I64 at h
  unfold Lib.itoa
  have h1 := decDigits_19 (n := n.natAbs) (by omega)
  have h2 := decDigits_19 (n := n.toNat) (by omega)
  have h3 := decDigits_pos n.toNat
  split
  · simp; omega
  · omega

def bstr (l : List UInt8) : ByteArray := ⟨l.toArray⟩
theorem bstr_size (l : List UInt8) : (bstr l).size = l.length := by show l.toArray.size = _; simp
theorem bstr_app (a b : List UInt8) : bstr a ++ bstr b = bstr (a ++ b) := by
  apply ByteArray.ext
  simp [bstr]

end Go.Proofs.YtggblfnajeikjaaGreatDoor

namespace Go.Proofs.YtggblfnajeikjaaGreatDoor
open Go.RowKit
set_option linter.unusedVariables false
set_option linter.unusedSimpArgs false

/-- Texts as values. -/
def strs (ls : List (List UInt8)) : List Value := ls.map fun l => Value.string (bstr l)
theorem strs_length (ls : List (List UInt8)) : (strs ls).length = ls.length := by simp [strs]
theorem strs_append (a b : List (List UInt8)) : strs (a ++ b) = strs a ++ strs b := by simp [strs]
theorem strs_get {ls : List (List UInt8)} {k : Nat} {x : List UInt8} (h : ls[k]? = some x) : (strs ls)[k]? = some (.string (bstr x)) := by simp [strs, h]
theorem Rd.formS {w : World} {v : Value} {ls : List (List UInt8)} (h : Rd w v (strs ls)) : ∃ (a : Option Addr) (m c : Nat), v = .slice a m c ∧ Hid (m = ls.length) ∧ m ≤ c ∧ c ≤ 9223372036854775807 := by
  obtain ⟨a, c, h1, h2, h3⟩ := h.form
  exact ⟨a, _, c, h1, strs_length ls, h2, h3⟩
theorem Rd.text {w : World} {a : Option Addr} {n c k : Nat} {ls : List (List UInt8)} (h : Rd w (.slice a n c) (strs ls)) (hk : k < ls.length) : ∃ ad x, a = some ad ∧ w.cell? (ad.add k) = some (.string (bstr x)) ∧ Hid (ls[k]? = some x) := by
  obtain ⟨ad, h1, h2⟩ := h.cell (k := k) (by simpa [strs] using hk)
  refine ⟨ad, ls[k], h1, by rw [h2]; simp [strs], List.getElem?_eq_getElem hk⟩
/-- Texts put together with another one between them, the first k of them. -/
def joinK (sep : List UInt8) (ls : List (List UInt8)) : Nat → List UInt8
  | 0 => []
  | k + 1 => joinK sep ls k ++ (if 0 < k then sep else []) ++ ls.getD k []
theorem joinK_cons (sep x : List UInt8) (ls : List (List UInt8)) : ∀ k, joinK sep (x :: ls) (k + 1) = x ++ (if 0 < k then sep else []) ++ joinK sep ls k
  | 0 => by simp [joinK]
  | k + 1 => by
    have ih := joinK_cons sep x ls k
    rw [joinK, ih]
    cases k with
    | zero => simp [joinK]
    | succ k =>
      rw [show joinK sep ls (k + 1 + 1) = joinK sep ls (k + 1) ++ (if 0 < k + 1 then sep else []) ++ ls.getD (k + 1) [] from rfl]
      simp [List.append_assoc]
theorem join_joinK (sep : List UInt8) : ∀ ls : List (List UInt8), Lib.join ls sep = joinK sep ls ls.length
  | [] => rfl
  | [x] => by simp [Lib.join, List.intercalate, joinK]
  | x :: y :: r => by
    have ih := join_joinK sep (y :: r)
    rw [List.length_cons, joinK_cons, ← ih]
    simp [Lib.join, List.intercalate]

theorem elS : ElemOk Tryz.prog 50 9 16 (.string ByteArray.empty) := by
  obtain ⟨i, hi, h0, h1, h2⟩ := info_parts (show (Tryz.prog.info? 9).map (fun i => (i.zero, i.size, i.bytes)) = some (some (.string ByteArray.empty), 1, 16) by kernel_rfl)
  exact ⟨i, Tryz.underlying50, hi, h0, h1, h2, rfl⟩
/-- Numbers as a text. -/
def numsB (xs : List Int) : List UInt8 := if xs.length = 0 then [45] else joinK [44] (xs.map Lib.itoa) xs.length
def fmtNums (xs : List Int) : List UInt8 := if 60 < xs.length then [] else numsB xs
end Go.Proofs.YtggblfnajeikjaaGreatDoor
