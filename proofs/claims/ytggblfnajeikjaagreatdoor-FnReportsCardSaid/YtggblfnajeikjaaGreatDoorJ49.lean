/- Joined texts of the proof: PlainSorts. -/
import Derived.WalkKit
import Derived.WalkSpells
import Derived.WalkLawsBesides
import Derived.Deep.Draws
import Derived.Lib.Hide
import Derived.RegionTactic
import Derived.Lib.SmallJoins
import Derived.Test.YtggblfnajeikjaaGreatDoorRows
import Derived.BigQuiet
import Derived.Deep.QuietTactic
import Derived.Lib.SliceRun
import Derived.Deep.RegionLaw
import Derived.Deep.DeepCutAuto
import Derived.Deep.LoopGhost
import Derived.Deep.RegionWith
import Derived.Lib.ItoaNum
import Derived.Deep.RegionHeld3
import Derived.IntWalk
import Derived.Lib.Join
import Derived.Shelf.Strings.Builder1
import Derived.Shelf.Strings.Builder2
import Derived.Shelf.Strings.OnBuilder
import Derived.Shelf.Strconv.Atoi
import Derived.Shelf.Strconv.Itoa0
import Derived.Shelf.Strconv.Itoa1
import Derived.Shelf.LaysM
import Derived.Shelf.Strconv.Itoa2
import Derived.Shelf.Strconv.Itoa3
import Derived.Shelf.Strconv.AtoiErrFast
import Derived.Shelf.Strconv.ParseIntEmpty
import Derived.Shelf.Strconv.AtoiFail
import Derived.Shelf.Strconv.Clone
import Derived.Shelf.Strconv.SyntaxError
import Derived.Shelf.LaysC
import Derived.Shelf.Strconv.ToError
import Derived.Shelf.Strconv.Lower
import Derived.Shelf.Strconv.ParseUint10
import Derived.Shelf.Strconv.ParseUint10Empty
import Derived.Shelf.Strconv.ParseUint10Any
import Derived.Shelf.Strconv.ParseInt10
import Derived.Shelf.Strconv.AtoiLong
import Derived.Shelf.Strconv.AtoiInnerAll
import Derived.Shelf.Strconv.RangeError
import Derived.Shelf.Strconv.ToErrorRange
import Derived.Shelf.Strconv.AtoiAll
import Derived.Shelf.Strconv.ErrVarAll
import Derived.Shelf.Strings.Search1
import Derived.Shelf.Strings.Search2
import Derived.Shelf.Strings.Search3
import Derived.Shelf.Strings.Cut
import Derived.Shelf.Strings.Count
import Derived.Shelf.Strings.Shaped
import Derived.Shelf.Sort.Plain
import Derived.Shelf.Strings.Prefix
import Derived.Shelf.Strings.Split
import Derived.Shelf.Unicode.DecodeSlow
import Derived.Shelf.Slices.Reverse
import Derived.Ground.Names2Prog
import Derived.Shelf.Slices.CompactI
import Derived.Test.YtggblfnajeikjaaGreatDoorProg
import Derived.Laws.BitsAllLaws
import Derived.Laws.BitsLemmas
import Derived.Lib.RowBridge
import Derived.Sort.OwnSortedInts
import Derived.Test.YtggblfnajeikjaaGreatDoorJ1
import Derived.Test.YtggblfnajeikjaaGreatDoorJ2
import Derived.Test.YtggblfnajeikjaaGreatDoorJ3
import Derived.Test.YtggblfnajeikjaaGreatDoorJ6
import Derived.Test.YtggblfnajeikjaaGreatDoorJ7
import Derived.Test.YtggblfnajeikjaaGreatDoorJ9
import Derived.Test.YtggblfnajeikjaaGreatDoorJ10
import Derived.Test.YtggblfnajeikjaaGreatDoorJ15
import Derived.Test.YtggblfnajeikjaaGreatDoorJ16
import Derived.Test.YtggblfnajeikjaaGreatDoorJ19
import Derived.Test.YtggblfnajeikjaaGreatDoorJ22
import Derived.Test.YtggblfnajeikjaaGreatDoorJ23
import Derived.Test.YtggblfnajeikjaaGreatDoorJ31
import Derived.Test.YtggblfnajeikjaaGreatDoorJ32
import Derived.Test.YtggblfnajeikjaaGreatDoorJ34
import Derived.Test.YtggblfnajeikjaaGreatDoorJ35
import Derived.Test.YtggblfnajeikjaaGreatDoorJ36
import Derived.Test.YtggblfnajeikjaaGreatDoorJ37
import Derived.Test.YtggblfnajeikjaaGreatDoorJ39
import Derived.Test.YtggblfnajeikjaaGreatDoorJ40
import Derived.Test.YtggblfnajeikjaaGreatDoorJ44
namespace Go.Proofs.YtggblfnajeikjaaGreatDoor
open Go.RowKit
set_option linter.unusedVariables false
set_option linter.unusedSimpArgs false

theorem runM_left (A B : List (List Int)) (m : Nat) : ∀ k, k ≤ A.length → runM (A ++ B) m k = runM A m k
  | 0, _ => rfl
  | k + 1, h => by
    have ih := runM_left A B m k (by omega)
    simp only [runM, ih, List.getElem?_append_left (show k < A.length by omega)]
theorem runM_app (A B : List (List Int)) (m : Nat) : ∀ k, runM (A ++ B) m (A.length + k) = runM B (outM A m) k
  | 0 => by rw [Nat.add_zero, runM_left A B m _ (Nat.le_refl _)]; rfl
  | k + 1 => by
    have ih := runM_app A B m k
    rw [← Nat.add_assoc]
    simp only [runM, ih, List.getElem?_append_right (show A.length ≤ A.length + k by omega), Nat.add_sub_cancel_left]
theorem outM_app (A B : List (List Int)) (m : Nat) : outM (A ++ B) m = outM B (outM A m) := by
  rw [outM, List.length_append, runM_app]; rfl
theorem netRow_two {n : Nat} {r : List Int} (h : netRow n r = true) : ∃ a b : Nat, r = [(a : Int), (b : Int)] ∧ a < n ∧ b < n := by
  match r, h with
  | [x, y], h =>
    simp only [netRow, Bool.and_eq_true, inB_iff] at h
    exact ⟨x.toNat, y.toNat, by rw [Int.toNat_of_nonneg h.1.1.1, Int.toNat_of_nonneg h.1.2.1], by omega, by omega⟩
theorem std_keep : ∀ N : Nat, N < 5 → ∀ k : Nat, k < N + 1 → ∀ a : Nat, a < N → ∀ b : Nat, b < N → a < b → stepN (sortedN N k) a b = sortedN N k := by decide +kernel
theorem runM_std {N k : Nat} {Q : List (List Int)} (hN : N < 5) (hk : k ≤ N) (hQ : ∀ r ∈ Q, netRow N r = true ∧ upRow true r) : ∀ j, runM Q (sortedN N k) j = sortedN N k
  | 0 => rfl
  | j + 1 => by
    have ih := runM_std hN hk hQ j
    cases hx : Q[j]? with
    | none => simp only [runM, hx]; exact ih
    | some r =>
      obtain ⟨h1, h2⟩ := hQ r (List.mem_of_getElem? hx)
      obtain ⟨a, b, rfl, ha, hb⟩ := netRow_two h1
      rw [runM_succ hx, ih]
      exact std_keep N hN k (by omega) a ha b hb (by have := h2 rfl _ _ rfl; omega)
theorem bat_sorts : ∀ N : Nat, N < 5 → 1 ≤ N → ∀ m : Nat, m < 2 ^ N → outM (batS 8 (wiresL 0 N)) m = sortedN N (onesN m) := by decide +kernel
theorem ins_sorts : ∀ N : Nat, N < 5 → 1 ≤ N → ∀ m : Nat, m < 2 ^ N → outM (insNK (N - 1)) m = sortedN N (onesN m) := by decide +kernel
theorem bat_ok : ∀ N : Nat, N < 5 → 1 ≤ N → (batS 8 (wiresL 0 N)).all (netRow N) = true ∧ (batS 8 (wiresL 0 N)).length ≤ 6 := by decide +kernel
theorem ins_ok : ∀ N : Nat, N < 5 → 1 ≤ N → (insNK (N - 1)).all (netRow N) = true ∧ (insNK (N - 1)).length ≤ 6 := by decide +kernel
theorem ones_le : ∀ N : Nat, N < 5 → ∀ m : Nat, m < 2 ^ N → onesN m ≤ N := by decide +kernel
/-- What is drawn as a sorting network is valid and sorts. -/
theorem mk_sorts {N : Nat} {P Q : List (List Int)} {b : Bool} (h1 : 1 ≤ N) (h4 : N ≤ 4) (hP : P.length ≤ 4) (hQ : Q.length ≤ 3) (hr : ∀ r ∈ P ++ Q, netRow N r = true ∧ upRow true r)
    {xss : List (List Int)} (hx : xss = (if b then insNK (N - 1) else P ++ batS 8 (wiresL 0 N)) ++ Q) : netOk (N : Int) xss = true ∧ xss.length ≤ 20 ∧ ∀ m, m < 2 ^ N → okM N xss m = true := by
  obtain ⟨i1, i2⟩ := ins_ok N (by omega) h1
  obtain ⟨j1, j2⟩ := bat_ok N (by omega) h1
  have hrows : ∀ (A : List (List Int)), A.length ≤ 60 → (∀ r ∈ A, netRow (N : Int) r = true) → netOk (N : Int) A = true := fun A hA hr => by
    simp only [netOk, Bool.and_eq_true, inB_iff, decide_eq_true_eq, List.all_eq_true]
    exact ⟨⟨⟨by omega, by omega⟩, hA⟩, hr⟩
  have hlen : xss.length ≤ 20 := by
    rw [hx, List.length_append]
    cases b
    · simp only [Bool.false_eq_true, if_false, List.length_append]; omega
    · simp only [if_true]; omega
  refine ⟨hrows xss (by omega) fun r hrx => ?_, hlen, fun m hm => ?_⟩
  · rw [hx] at hrx
    rcases List.mem_append.1 hrx with h | h
    · cases b
      · simp only [Bool.false_eq_true, if_false] at h
        rcases List.mem_append.1 h with h | h
        · exact (hr r (List.mem_append_left _ h)).1
        · exact List.all_eq_true.1 j1 r h
      · simp only [if_true] at h
        exact List.all_eq_true.1 i1 r h
    · exact (hr r (List.mem_append_right _ h)).1
  · have hQ' : ∀ r ∈ Q, netRow N r = true ∧ upRow true r := fun r h => hr r (List.mem_append_right _ h)
    have hcore : outM (if b then insNK (N - 1) else P ++ batS 8 (wiresL 0 N)) m = sortedN N (onesN m) := by
      cases b
      · simp only [Bool.false_eq_true, if_false]
        have hPk : netOk (N : Int) P = true := hrows P (by omega) fun r h => (hr r (List.mem_append_left _ h)).1
        rw [outM_app, bat_sorts N (by omega) h1 (outM P m) (runM_lt hPk hm _), outM, runM_ones hPk hm]
      · simp only [if_true]
        exact ins_sorts N (by omega) h1 m hm
    rw [okM, decide_eq_true_eq, hx, outM_app, hcore]
    exact runM_std (by omega) (ones_le N (by omega) m hm) hQ' _
theorem res_len : ∀ N : Nat, N < 5 → 1 ≤ N → (dedL (2 ^ N) ((List.range (2 ^ N)).map fun m => sortedN N (onesN m))).length = N + 1 := by decide +kernel
theorem known_len : ∀ N : Nat, N < 5 → 1 ≤ N → (kL (knP (dedN (2 ^ N) ((List.range (2 ^ N)).map fun m => sortedN N (onesN m)))) N N).length = N * (N - 1) / 2 := by decide +kernel
/-- Of a sorting network all is known. -/
theorem sorts_known {N : Nat} {xss : List (List Int)} (h1 : 1 ≤ N) (h4 : N ≤ 4) (hk : netOk (N : Int) xss = true) (hs : ∀ m, m < 2 ^ N → okM N xss m = true) :
    failsB (N : Int) xss = false ∧ (knownL (N : Int) xss).length = N * (N - 1) / 2 ∧ (resL (N : Int) xss).length = N + 1 := by
  have hmap : (List.range (2 ^ N)).map (outM xss) = (List.range (2 ^ N)).map fun m => sortedN N (onesN m) := List.map_congr_left fun m hm => by
    have := hs m (List.mem_range.1 hm)
    rw [okM, decide_eq_true_eq] at this
    exact this
  refine ⟨?_, ?_, ?_⟩
  · rw [failsB, firstUns, if_pos hk, Int.toNat_natCast, firstU_none hs]; rfl
  · rw [knownL_ok hk, resN, Int.toNat_natCast, hmap]; exact known_len N (by omega) h1
  · rw [resL_ok hk, Int.toNat_natCast, hmap]; exact res_len N (by omega) h1

end Go.Proofs.YtggblfnajeikjaaGreatDoor
