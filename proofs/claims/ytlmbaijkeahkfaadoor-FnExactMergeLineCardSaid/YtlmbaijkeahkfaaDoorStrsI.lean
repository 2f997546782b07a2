/- Walks: numbers as texts, texts joined, in the program. -/
import Derived.Test.YtlmbaijkeahkfaaDoorStrs
import Derived.Test.YtlmbaijkeahkfaaDoorShelf
import Derived.Lib.SmallJoins
namespace Go.Proofs.YtlmbaijkeahkfaaDoor
open Go.RowKit
set_option linter.unusedVariables false
set_option linter.unusedSimpArgs false

/-- The library's table of powers lies as the program's text lays it. -/
def Tab (w : World) : Prop := Lib.TabIs Tryd.prog w "internal/strconv.uint64pow10" .u64 Lib.pow10Tab
theorem tabVar : Tryd.prog.globalNamed "internal/strconv.uint64pow10" = some 1 := by kernel_rfl
theorem Tab.below {w w' : World} (h : Tab w) (hb : Below w.heap.size w w') : Tab w' := Joins.tab_stays tabVar h hb (Nat.le_refl _)
theorem below_grow (os : Array Obj) (w : World) (B : Nat) (hB : B ≤ w.heap.size) : Below B w (Sort.grow w os) :=
  ⟨rfl, rfl, rfl, by simp [Sort.grow], fun k hk => by
    show (w.heap ++ os)[k]? = w.heap[k]?
    rw [Array.getElem?_append_left (by omega)]⟩

theorem I_FormatInt (w : World) (n : Int) (h : I64 n) (ht : Tab w) : Calls Tryd.prog 32 #[.int .i64 n] w (RetB (.string (bstr (Lib.itoa n))) w) := by
  have HI := Lib.hid (Tryd.strconv_Itoa n h.1 h.2 w ht)
  go_enter Tryd.func32, Tryd.ntmps32
  go_wp2_with (go_at_call 77; refine HI.out.mono ?_; rintro e w2 ⟨rfl, k, os, rfl⟩)
  go_ret
  exact ⟨rfl, (⟨rfl, rfl, rfl, Nat.le_refl _, fun _ _ => rfl⟩ : Below w.heap.size w (w.drewN k)).trans (below_grow os _ _ (Nat.le_refl _))⟩

theorem joinK_le {sep : List UInt8} {ls : List (List UInt8)} {B : Nat} (hs : sep.length ≤ B) (h : ∀ x ∈ ls, x.length ≤ B) : ∀ k, (joinK sep ls k).length ≤ 2 * B * k
  | 0 => by simp [joinK]
  | k + 1 => by
    have ih := joinK_le hs h k
    have hx : (ls.getD k []).length ≤ B := by
      rw [List.getD_eq_getElem?_getD]
      cases e : ls[k]? with
      | none => simp
      | some x => exact h x (List.mem_of_getElem? e)
    have h1 : (if 0 < k then sep else []).length ≤ B := by split <;> simp [hs]
    have h2 : 2 * B * (k + 1) = 2 * B * k + 2 * B := by rw [Nat.mul_add, Nat.mul_one]
    rw [joinK, List.length_append, List.length_append]
    omega
theorem i_Join {E B : Nat} (v : Value) (ls : List (List UInt8)) (sep : List UInt8) (w : World) (h : Own w E B v (strs ls)) (hl : ls.length ≤ 1000000) (hx : ∀ x ∈ ls, x.length ≤ 10000) (hs : sep.length ≤ 10000) :
    Calls Tryd.prog 76 #[v, .string (bstr sep)] w (RetB (.string (bstr (joinK sep ls ls.length))) w) := by
  rcases h with ⟨rfl, h⟩ | ⟨g, o, c, cur, rfl, hB, hh, h1, h2, h3, h4⟩
  · have e : ls = [] := by simpa [strs] using h
    subst e
    exact (Tryd.strings_Join_none none 0 (bstr sep) w).mono fun e w' ⟨he, hw⟩ => ⟨he, hw ▸ Below.refl _ _⟩
  · have hm : (ls.map bstr).map (·.data.toList) = ls := by
      rw [List.map_map]
      exact (List.map_congr_left fun x _ => by simp [bstr]).trans (List.map_id _)
    have hd : (bstr sep).data.toList = sep := by simp [bstr]
    have hj := join_joinK sep ls
    have hg : g < w.heap.size := (Array.getElem?_eq_some_iff.1 hh).1
    have hk := joinK_le (B := 10000) hs hx ls.length
    have := Tryd.strings_Join g o c (ls.map bstr) (bstr sep) w (fun j x hx => by
        rw [List.getElem?_map] at hx
        cases e : ls[j]? with
        | none => rw [e] at hx; cases hx
        | some y =>
          rw [e] at hx
          obtain rfl : bstr y = x := Option.some.inj hx
          exact (cell_of_row w g (o + j) cur E (0, 0) hh).trans (h4 j _ (strs_get e)))
      hg (by rw [List.length_map]; omega) (by rw [List.length_map, ← strs_length]; omega) (by rw [hm, hd, hj]; omega)
    rw [hm, hd, hj, List.length_map] at this
    rw [strs_length]
    exact this

set_option maxHeartbeats 1000000 in
theorem i_numbers (w : World) (v : Value) (xs : List Int) (h : Rd w v (ints xs)) (fx : I64s xs) (hl : xs.length ≤ 1000) (ht : Tab w) :
    Calls Tryd.prog 40 #[v] w (RetB (.string (bstr (numsB xs))) w) := by
  obtain ⟨a, n, c, rfl, HN, hnc, hc⟩ := h.formN
  have hn : n ≤ 1000 := by have := HN.out; omega
  by_cases h0 : n = 0
  · have e0 : ((n : Int) == 0) = true := by simp [h0]
    have e : numsB xs = [45] := by rw [numsB, if_pos (by have := HN.out; omega)]
    rw [e]
    clear h0
    go_enter Tryd.func40, Tryd.ntmps40
    go_wp2_with fail
    go_ret
    exact ⟨rfl, Below.refl _ _⟩
  have e0 : ((n : Int) == 0) = false := by simp [h0]
  have HE : Hid (numsB xs = joinK [44] (xs.map Lib.itoa) n) := by rw [Hid, numsB, if_neg (by have := HN.out; omega), ← HN.out]
  have HF : Hid (∀ (x : Int), I64 x → ∀ W, Below w.heap.size w W → Calls Tryd.prog 32 #[.int .i64 x] W (RetB (.string (bstr (Lib.itoa x))) W)) := fun x h1 W hW => I_FormatInt W x h1 (ht.below hW)
  have HFX := Lib.hid fx
  clear fx h0
  go_enter Tryd.func40, Tryd.ntmps40
  go_wp2_with fail
  go_loopw [3, 5, 12] (fun vl _ vi wr => ∃ k : Nat, k ≤ n ∧ vi = .int .i64 (k : Int) ∧ Own wr 9 w.heap.size vl (strs ((xs.map Lib.itoa).take k)) ∧ Below w.heap.size w wr) (fun _ _ vi _ => n - (intOf vi).toNat)
  case atStart => exact ⟨0, Nat.zero_le _, rfl, by simpa [strs, ints] using Own.lit0 w 9 (Nat.le_refl _), (Below.refl _ _).alloc (Nat.le_refl _) _⟩
  case round =>
    obtain ⟨k, hk, rfl, ho, hb⟩ := hrel
    obtain ⟨al, ml, cl, rfl, HML, _, _⟩ := ho.rd.formS
    have hml : ml = k := by
      have h1 := HML.out
      have h2 := HN.out
      rw [List.length_take, List.length_map] at h1
      omega
    subst hml
    by_cases hlt : ml < n
    · have i0 : (ml : Int) < (n : Int) := by omega
      obtain ⟨ad, x, rfl, hcx, hx⟩ := (h.below hb).int (k := ml) (by have := HN.out; omega)
      have HFx := Lib.hid (HF.out x (HFX.out x (List.mem_of_getElem? hx.out)))
      have HSL : Hid ((strs ((xs.map Lib.itoa).take ml)).length = ml) := by rw [Hid, strs_length]; exact HML.out.symm
      have HNX : Hid ((xs.map Lib.itoa).take (ml + 1) = (xs.map Lib.itoa).take ml ++ [Lib.itoa x]) := take_snoc' (by rw [List.getElem?_map, hx.out]; rfl)
      have hsz := hb.size
      go_wp2_with (first
        | (go_at_call 32; refine (HFx.out _ hb).mono ?_; rintro e w3 ⟨rfl, hb3⟩
           have ho3 := ho.below hb3
           have hbb := hb.trans (hb3.mono hsz))
        | (at_builtin; refine wpList_app1m rfl _ _ 53 rfl elS rfl ho3 (by show Value.slice (some ⟨w3.heap.size, 0, none⟩) 1 1 = _; simp) rfl hbb.size _ HSL.out (by omega) (by omega) ?_; intro b6 c6 w6 ho6 hg6 hat6))
      have hb7 := hbb.grown hg6 hbb.size (fun r hr => (ho3.lt r hr).1)
      go_roundw
      case rel => exact ⟨ml + 1, by omega, by go_num, by rw [HNX.out, strs_append]; exact ho6, hb7⟩
      case measure => simp [intOf]; omega
    · obtain rfl : ml = n := by omega
      have HTK : Hid ((xs.map Lib.itoa).take ml = xs.map Lib.itoa) := List.take_of_length_le (by have := HN.out; simp; omega)
      rw [HTK.out] at ho
      have HJ := Lib.hid (fun (W : World) (hW : Own W 9 w.heap.size (.slice al ml cl) (strs (xs.map Lib.itoa))) => i_Join _ (xs.map Lib.itoa) [44] W hW (by have := HN.out; simp; omega) (fun y hy => by
        obtain ⟨x, hx, rfl⟩ := List.mem_map.1 hy
        have := itoa_len (HFX.out x hx)
        omega) (by simp))
      rw [List.length_map, ← HN.out] at HJ
      go_wp2_with (go_at_call 76; refine (HJ.out _ ho).mono ?_; rintro e w3 ⟨rfl, hb3⟩)
      go_ret
      exact ⟨by rw [HE.out]; rfl, hb.trans (hb3.mono hb.size)⟩

theorem I_FormatNumbers (w : World) (v : Value) (xs : List Int) (h : Rd w v (ints xs)) (fx : I64s xs) (_ : xs.length ≤ 1048576) (ht : Tab w) :
    Calls Tryd.prog 63 #[v] w (RetB (.string (bstr (fmtNums xs))) w) := by
  obtain ⟨a, n, c, rfl, HN, hnc, hc⟩ := h.formN
  by_cases h60 : n ≤ 60
  case neg =>
    have hd : decide ((n : Int) > 60) = true := by simp; omega
    have e : fmtNums xs = [] := by rw [fmtNums, if_pos (by have := HN.out; omega)]
    rw [e]
    go_enter Tryd.func63, Tryd.ntmps63
    go_wp2_with fail
    go_ret
    exact ⟨rfl, Below.refl _ _⟩
  have hd : decide ((n : Int) > 60) = false := by simp; omega
  have HE : Hid (fmtNums xs = numsB xs) := by rw [Hid, fmtNums, if_neg (by have := HN.out; omega)]
  have HNB := Lib.hid (i_numbers w _ xs h fx (by have := HN.out; omega) ht)
  go_enter Tryd.func63, Tryd.ntmps63
  go_wp2_with (go_at_call 40; refine HNB.out.mono ?_; rintro e w3 ⟨rfl, hb3⟩)
  go_ret
  exact ⟨by rw [HE.out]; rfl, hb3⟩

end Go.Proofs.YtlmbaijkeahkfaaDoor
