/- Walks: slices of texts; texts joined, in the reference. -/
import Derived.Test.YtlmbaijkeahkfaaDoorFmt
import Derived.Test.YtlmbaijkeahkfaaDoorApp
import Derived.Lib.Join
import Derived.Lib.Hide
namespace Go.Proofs.YtlmbaijkeahkfaaDoor
open Go.RowKit
set_option linter.unusedVariables false
set_option linter.unusedSimpArgs false

/-- Texts as values. -/
def strs (ls : List (List UInt8)) : List Value := ls.map fun l => Value.string (bstr l)
theorem strs_length (ls : List (List UInt8)) : (strs ls).length = ls.length := by simp [strs]
theorem strs_append (a b : List (List UInt8)) : strs (a ++ b) = strs a ++ strs b := by simp [strs]
theorem strs_get {ls : List (List UInt8)} {k : Nat} {x : List UInt8} (h : ls[k]? = some x) : (strs ls)[k]? = some (.string (bstr x)) := by simp [strs, h]
theorem Rd.formS {w : World} {v : Value} {ls : List (List UInt8)} (h : Rd w v (strs ls)) : ∃ (a : Option Addr) (m c : Nat), v = .slice a m c ∧ Hid (m = ls.length) ∧ m ≤ c ∧ c ≤ 9223372036854775807 := by
  obtain ⟨a, c, h1, h2, h3⟩ := h.form
  exact ⟨a, _, c, h1, strs_length ls, h2, h3⟩
theorem Rd.text {w : World} {a : Option Addr} {n c k : Nat} {ls : List (List UInt8)} (h : Rd w (.slice a n c) (strs ls)) (hk : k < ls.length) : ∃ ad x, a = some ad ∧ w.cell? (ad.add k) = some (.string (bstr x)) ∧ Hid (ls[k]? = some x) := by
  obtain ⟨ad, h1, h2⟩ := h.cell (k := k) (by simpa [strs] using hk)
  refine ⟨ad, ls[k], h1, by rw [h2]; simp [strs], List.getElem?_eq_getElem hk⟩
/-- Texts put together with another one between them, the first k of them. -/
def joinK (sep : List UInt8) (ls : List (List UInt8)) : Nat → List UInt8
  | 0 => []
  | k + 1 => joinK sep ls k ++ (if 0 < k then sep else []) ++ ls.getD k []
theorem joinK_append (sep : List UInt8) (ls ms : List (List UInt8)) : ∀ k, k ≤ ls.length → joinK sep (ls ++ ms) k = joinK sep ls k
  | 0, _ => rfl
  | k + 1, h => by
    rw [joinK, joinK, joinK_append sep ls ms k (by omega), List.getD_eq_getElem?_getD, List.getElem?_append_left (by omega), ← List.getD_eq_getElem?_getD]
theorem joinK_cons (sep x : List UInt8) (ls : List (List UInt8)) : ∀ k, joinK sep (x :: ls) (k + 1) = x ++ (if 0 < k then sep else []) ++ joinK sep ls k
  | 0 => by simp [joinK]
  | k + 1 => by
    have ih := joinK_cons sep x ls k
    rw [joinK, ih]
    cases k with
    | zero => simp [joinK]
    | succ k =>
      rw [show joinK sep ls (k + 1 + 1) = joinK sep ls (k + 1) ++ (if 0 < k + 1 then sep else []) ++ ls.getD (k + 1) [] from rfl]
      simp [List.append_assoc]
theorem join_joinK (sep : List UInt8) : ∀ ls : List (List UInt8), Lib.join ls sep = joinK sep ls ls.length
  | [] => rfl
  | [x] => by simp [Lib.join, List.intercalate, joinK]
  | x :: y :: r => by
    have ih := join_joinK sep (y :: r)
    rw [List.length_cons, joinK_cons, ← ih]
    simp [Lib.join, List.intercalate]

theorem elS : ElemOk Tryd.prog 53 9 16 (.string ByteArray.empty) := by
  obtain ⟨i, hi, h0, h1, h2⟩ := info_parts (show (Tryd.prog.info? 9).map (fun i => (i.zero, i.size, i.bytes)) = some (some (.string ByteArray.empty), 1, 16) by kernel_rfl)
  exact ⟨i, Tryd.underlying53, hi, h0, h1, h2, rfl⟩
theorem bstr_nil_size : (bstr []).size = 0 := rfl
set_option maxHeartbeats 1000000 in
theorem s_Join (v : Value) (ls : List (List UInt8)) (sep : List UInt8) (w : World) (h : Rd w v (strs ls)) (hl : ls.length ≤ 1000000) (hx : ∀ x ∈ ls, x.length ≤ 1000) (hs : sep.length ≤ 100) :
    Calls Tryd.prog 80 #[v, .string (bstr sep)] w fun e w' => e = .returned (.string (bstr (joinK sep ls ls.length))) ∧ w = w' := by
  obtain ⟨a, n, c, rfl, HN, hnc, hc⟩ := h.formS
  have hn : n ≤ 1000000 := by have := HN.out; omega
  have HX := Lib.hid hx
  obtain ⟨SP, hSP⟩ : ∃ SP, bstr sep = SP := ⟨_, rfl⟩
  have hspz : SP.size ≤ 100 := by rw [← hSP, bstr_size]; exact hs
  have HSP := Lib.hid hSP
  rw [hSP, ← HN.out]
  clear hSP hx
  go_enter Tryd.func80, Tryd.ntmps80
  go_wp2
  go_loop [5, 6, 7, 10] (fun vs _ _ vi => ∃ (k : Nat) (S : ByteArray), k ≤ n ∧ vi = .int .i64 (k : Int) ∧ vs = .string S ∧ Hid (S = bstr (joinK sep ls k)) ∧ S.size ≤ 2000 * k) (fun _ _ _ vi => n - (intOf vi).toNat)
  case atStart => exact ⟨0, _, Nat.zero_le _, rfl, rfl, rfl, Nat.le_refl _⟩
  case round =>
    obtain ⟨k, S, hk, rfl, rfl, HS, hsz⟩ := hrel
    by_cases hlt : k < n
    · have i0 : (k : Int) < (n : Int) := by omega
      obtain ⟨ad, x, rfl, hcx, hx⟩ := h.text (k := k) (by have := HN.out; omega)
      obtain ⟨X, hX⟩ : ∃ X, bstr x = X := ⟨_, rfl⟩
      have hXs : X.size ≤ 1000 := by rw [← hX, bstr_size]; exact HX.out x (List.mem_of_getElem? hx.out)
      rw [hX] at hcx
      have HST : Hid (S ++ (if 0 < k then SP else bstr []) ++ X = bstr (joinK sep ls (k + 1))) := by
        have e : ls.getD k [] = x := by rw [List.getD_eq_getElem?_getD, hx.out]; rfl
        rw [Hid, joinK, e, HS.out, ← hX, ← HSP.out]
        split <;> simp [bstr_app]
      clear hX
      by_cases h0 : 0 < k
      · rw [if_pos h0] at HST
        have i1 : (k : Int) > 0 := by omega
        have hz1 : (S ++ SP).size = S.size + SP.size := ByteArray.size_append
        have hz2 : (S ++ SP ++ X).size = S.size + SP.size + X.size := by rw [ByteArray.size_append, hz1]
        have hb : (S ++ SP ++ X).size ≤ 2000 * (k + 1) := by omega
        have l1 : ¬ 9223372036854775807 < S.size + SP.size := by omega
        have l2 : ¬ 9223372036854775807 < S.size + SP.size + X.size := by omega
        clear hz1 hz2
        go_wp2
        go_round
        case rel => exact ⟨k + 1, _, by omega, by go_num, rfl, HST, hb⟩
        case measure => simp [intOf]; omega
      · obtain rfl : k = 0 := by omega
        rw [if_neg h0] at HST
        have HST2 : Hid (S ++ X = bstr (joinK sep ls (0 + 1))) := by
          rw [Hid, ← HST.out, HS.out, joinK, bstr_app]; rfl
        have hz2 : (S ++ X).size = S.size + X.size := ByteArray.size_append
        have hb : (S ++ X).size ≤ 2000 * (0 + 1) := by omega
        have l2 : ¬ 9223372036854775807 < S.size + X.size := by omega
        have hcx0 : w.cell? ad = some (.string X) := by simpa [Addr.add] using hcx
        clear hz2 HST h0
        go_wp2
        go_round
        case rel => exact ⟨0 + 1, _, by omega, by go_num, rfl, HST2, hb⟩
        case measure => simp [intOf]; omega
    · obtain rfl : k = n := by omega
      go_wp2
      go_ret
      exact ⟨congrArg (fun s => Ending.returned (.string s)) HS.out, rfl⟩

/-- Numbers as a text. -/
def numsB (xs : List Int) : List UInt8 := if xs.length = 0 then [45] else joinK [44] (xs.map Lib.itoa) xs.length
def fmtNums (xs : List Int) : List UInt8 := if 60 < xs.length then [] else numsB xs
set_option maxHeartbeats 1000000 in
theorem S_FormatNumbers (w : World) (v : Value) (xs : List Int) (h : Rd w v (ints xs)) (fx : I64s xs) (_ : xs.length ≤ 1048576) :
    Calls Tryd.prog 36 #[v] w (RetB (.string (bstr (fmtNums xs))) w) := by
  obtain ⟨a, n, c, rfl, HN, hnc, hc⟩ := h.formN
  by_cases h60 : n ≤ 60
  case neg =>
    have hd : decide ((n : Int) > 60) = true := by simp; omega
    have e : fmtNums xs = [] := by rw [fmtNums, if_pos (by have := HN.out; omega)]
    rw [e]
    go_enter Tryd.func36, Tryd.ntmps36
    go_wp2_with fail
    go_ret
    exact ⟨rfl, Below.refl _ _⟩
  have hd : decide ((n : Int) > 60) = false := by simp; omega
  have HF : Hid (∀ (x : Int), I64 x → ∀ W, Calls Tryd.prog 27 #[.int .i64 x] W (RetB (.string (bstr (Lib.itoa x))) W)) := fun x h1 W => S_FormatInt W x h1
  have HFX := Lib.hid fx
  have HE : Hid (fmtNums xs = if n = 0 then [45] else joinK [44] (xs.map Lib.itoa) n) := by rw [Hid, fmtNums, if_neg (by have := HN.out; omega), numsB, ← HN.out]
  clear fx
  go_enter Tryd.func36, Tryd.ntmps36
  go_wp2_with fail
  go_loopw [3, 5, 12] (fun vl _ vi wr => ∃ k : Nat, k ≤ n ∧ vi = .int .i64 (k : Int) ∧ Own wr 9 w.heap.size vl (strs ((xs.map Lib.itoa).take k)) ∧ Below w.heap.size w wr) (fun _ _ vi _ => n - (intOf vi).toNat)
  case atStart => exact ⟨0, Nat.zero_le _, rfl, by simpa [strs, ints] using Own.lit0 w 9 (Nat.le_refl _), (Below.refl _ _).alloc (Nat.le_refl _) _⟩
  case round =>
    obtain ⟨k, hk, rfl, ho, hb⟩ := hrel
    obtain ⟨al, ml, cl, rfl, HML, _, _⟩ := ho.rd.formS
    have hml : ml = k := by
      have h1 := HML.out
      have h2 := HN.out
      rw [List.length_take, List.length_map] at h1
      omega
    subst hml
    by_cases hlt : ml < n
    · have i0 : (ml : Int) < (n : Int) := by omega
      obtain ⟨ad, x, rfl, hcx, hx⟩ := (h.below hb).int (k := ml) (by have := HN.out; omega)
      have HFx := Lib.hid (HF.out x (HFX.out x (List.mem_of_getElem? hx.out)))
      have HSL : Hid ((strs ((xs.map Lib.itoa).take ml)).length = ml) := by rw [Hid, strs_length]; exact HML.out.symm
      have HNX : Hid ((xs.map Lib.itoa).take (ml + 1) = (xs.map Lib.itoa).take ml ++ [Lib.itoa x]) := take_snoc' (by rw [List.getElem?_map, hx.out]; rfl)
      have hsz := hb.size
      go_wp2_with (first
        | (go_at_call 27; refine (HFx.out _).mono ?_; rintro e w3 ⟨rfl, hb3⟩
           have ho3 := ho.below hb3
           have hbb := hb.trans (hb3.mono hsz))
        | (at_builtin; refine wpList_app1m rfl _ _ 53 rfl elS rfl ho3 (by show Value.slice (some ⟨w3.heap.size, 0, none⟩) 1 1 = _; simp) rfl hbb.size _ HSL.out (by omega) (by omega) ?_; intro b6 c6 w6 ho6 hg6 hat6))
      have hb7 := hbb.grown hg6 hbb.size (fun r hr => (ho3.lt r hr).1)
      go_roundw
      case rel => exact ⟨ml + 1, by omega, by go_num, by rw [HNX.out, strs_append]; exact ho6, hb7⟩
      case measure => simp [intOf]; omega
    · obtain rfl : ml = n := by omega
      have HTK : Hid ((xs.map Lib.itoa).take ml = xs.map Lib.itoa) := List.take_of_length_le (by have := HN.out; simp; omega)
      rw [HTK.out] at ho
      have HJ := Lib.hid (fun (W : World) (hW : Rd W (.slice al ml cl) (strs (xs.map Lib.itoa))) => s_Join _ (xs.map Lib.itoa) [44] W hW (by have := HN.out; simp; omega) (fun y hy => by
        obtain ⟨x, hx, rfl⟩ := List.mem_map.1 hy
        have := itoa_len (HFX.out x hx)
        omega) (by simp))
      rw [List.length_map, ← HN.out] at HJ
      by_cases h0 : ml = 0
      · have e0 : ((ml : Int) == 0) = true := by simp [h0]
        have HE2 : Hid (fmtNums xs = [45]) := by rw [Hid, HE.out, if_pos h0]
        clear h0
        go_wp2_with fail
        go_ret
        exact ⟨by rw [HE2.out]; rfl, hb⟩
      · have e0 : ((ml : Int) == 0) = false := by simp [h0]
        have HE2 : Hid (fmtNums xs = joinK [44] (xs.map Lib.itoa) ml) := by rw [Hid, HE.out, if_neg h0]
        clear h0
        go_wp2_with (go_at_call 80; refine (HJ.out _ ho.rd).mono ?_; rintro e w3 ⟨rfl, rfl⟩)
        go_ret
        exact ⟨by rw [HE2.out]; rfl, hb⟩

end Go.Proofs.YtlmbaijkeahkfaaDoor
