/- Walks: words with spaces between them, in the program. -/
import Derived.Test.YtlmbaijkeahkfaaDoorStrsI
namespace Go.Proofs.YtlmbaijkeahkfaaDoor
open Go.RowKit
set_option linter.unusedVariables false
set_option linter.unusedSimpArgs false

theorem own_strs {W : World} {g E B : Nat} (ls : List (List UInt8)) (h : W.heap[g]? = some (.cells (strs ls).toArray E (0, 0))) (hB : B ≤ g) (hm : ls.length ≤ 9223372036854775807) : Own W E B (.slice (some ⟨g, 0, none⟩) ls.length ls.length) (strs ls) :=
  .inr ⟨g, 0, ls.length, _, by rw [strs_length], hB, h, by rw [strs_length]; exact Nat.le_refl _, by omega, by simp [strs_length], fun j u hu => by simpa using hu⟩
theorem i_lineOwn {E B : Nat} (v : Value) (ls : List (List UInt8)) (w : World) (h : Own w E B v (strs ls)) (hl : ls.length ≤ 1000000) (hx : ∀ x ∈ ls, x.length ≤ 10000) :
    Calls Tryd.prog 31 #[v] w (RetB (.string (bstr (joinK [32] ls ls.length))) w) := by
  have HJ := Lib.hid (i_Join v ls [32] w h hl hx (by simp))
  obtain ⟨a, n, c, rfl, HN, _, _⟩ := h.rd.formS
  go_enter Tryd.func31, Tryd.ntmps31
  go_wp2_with (go_at_call 76; refine HJ.out.mono ?_; rintro e w3 ⟨rfl, hb3⟩)
  go_ret
  exact ⟨rfl, hb3⟩
/-- What a line's call in a new block of words says. -/
def RetLine (l : List UInt8) (W : World) (e : Ending) (w' : World) : Prop := e = .returned (.string (bstr l)) ∧ Below W.heap.size W w'
theorem i_lineLit (ls : List (List UInt8)) (n : Nat) (hn : ls.length = n) (hl : n ≤ 1000) (hx : ∀ x ∈ ls, x.length ≤ 10000) (W : World) :
    Calls Tryd.prog 31 #[.slice (some ⟨W.heap.size, 0, none⟩) n n] (W.alloc (.cells (strs ls).toArray 9)) (RetLine (joinK [32] ls n) W) := by
  subst hn
  refine (i_lineOwn _ ls _ (own_strs ls (heap_alloc_new W _) (Nat.le_refl _) (by omega)) (by omega) hx).mono ?_
  rintro e w' ⟨rfl, hb⟩
  have hA : Below W.heap.size W (W.alloc (.cells (strs ls).toArray 9)) := (Below.refl _ _).alloc (Nat.le_refl _) _
  exact ⟨rfl, hA.trans (hb.mono hA.size)⟩
theorem i_line2 (a b : List UInt8) (ha : a.length ≤ 10000) (hb : b.length ≤ 10000) (W : World) :
    Calls Tryd.prog 31 #[.slice (some ⟨W.heap.size, 0, none⟩) 2 2] (W.alloc (.cells #[.string (bstr a), .string (bstr b)] 9)) (RetLine (a ++ [32] ++ b) W) := by
  have := i_lineLit [a, b] 2 rfl (by omega) (by simp [ha, hb]) W
  simpa [joinK, strs] using this
theorem i_line3 (a b c : List UInt8) (ha : a.length ≤ 10000) (hb : b.length ≤ 10000) (hc : c.length ≤ 10000) (W : World) :
    Calls Tryd.prog 31 #[.slice (some ⟨W.heap.size, 0, none⟩) 3 3] (W.alloc (.cells #[.string (bstr a), .string (bstr b), .string (bstr c)] 9)) (RetLine (a ++ [32] ++ b ++ [32] ++ c) W) := by
  have := i_lineLit [a, b, c] 3 rfl (by omega) (by simp [ha, hb, hc]) W
  simpa [joinK, strs, List.append_assoc] using this
theorem i_line4 (a b c d : List UInt8) (ha : a.length ≤ 10000) (hb : b.length ≤ 10000) (hc : c.length ≤ 10000) (hd : d.length ≤ 10000) (W : World) :
    Calls Tryd.prog 31 #[.slice (some ⟨W.heap.size, 0, none⟩) 4 4] (W.alloc (.cells #[.string (bstr a), .string (bstr b), .string (bstr c), .string (bstr d)] 9)) (RetLine (a ++ [32] ++ b ++ [32] ++ c ++ [32] ++ d) W) := by
  have := i_lineLit [a, b, c, d] 4 rfl (by omega) (by simp [ha, hb, hc, hd]) W
  simpa [joinK, strs, List.append_assoc] using this
theorem i_line6 (a b c d x y : List UInt8) (ha : a.length ≤ 10000) (hb : b.length ≤ 10000) (hc : c.length ≤ 10000) (hd : d.length ≤ 10000) (hx : x.length ≤ 10000) (hy : y.length ≤ 10000) (W : World) :
    Calls Tryd.prog 31 #[.slice (some ⟨W.heap.size, 0, none⟩) 6 6] (W.alloc (.cells #[.string (bstr a), .string (bstr b), .string (bstr c), .string (bstr d), .string (bstr x), .string (bstr y)] 9)) (RetLine (a ++ [32] ++ b ++ [32] ++ c ++ [32] ++ d ++ [32] ++ x ++ [32] ++ y) W) := by
  have := i_lineLit [a, b, c, d, x, y] 6 rfl (by omega) (by simp [ha, hb, hc, hd, hx, hy]) W
  simpa [joinK, strs, List.append_assoc] using this
theorem numsB_le {xs : List Int} {B : Nat} (fx : I64s xs) (hl : xs.length ≤ B) : (numsB xs).length ≤ 40 * B + 1 := by
  rw [numsB]
  split
  · simp
  · have := joinK_le (sep := [44]) (ls := xs.map Lib.itoa) (B := 20) (by simp) (fun y hy => by
      obtain ⟨x, hx, rfl⟩ := List.mem_map.1 hy
      exact (itoa_len (fx x hx)).2) xs.length
    omega

end Go.Proofs.YtlmbaijkeahkfaaDoor
