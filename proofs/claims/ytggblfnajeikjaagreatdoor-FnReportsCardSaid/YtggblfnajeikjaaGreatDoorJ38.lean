/- Joined texts of the proof: FlipA, FlipE. -/
import Derived.WalkKit
import Derived.WalkSpells
import Derived.WalkLawsBesides
import Derived.Deep.Draws
import Derived.Lib.Hide
import Derived.RegionTactic
import Derived.Test.YtggblfnajeikjaaGreatDoorRows
import Derived.BigQuiet
import Derived.Deep.QuietTactic
import Derived.Deep.DeepCutAuto
import Derived.Deep.LoopGhost
import Derived.Deep.RegionHeld3
import Derived.Shelf.Strings.Builder1
import Derived.Shelf.Strings.Builder2
import Derived.Shelf.Strings.OnBuilder
import Derived.Shelf.Strconv.Atoi
import Derived.Shelf.Strconv.Itoa0
import Derived.Shelf.Strconv.Itoa1
import Derived.Shelf.LaysM
import Derived.Shelf.Strconv.Itoa2
import Derived.Shelf.Strconv.Itoa3
import Derived.Shelf.Strconv.AtoiErrFast
import Derived.Shelf.Strconv.ParseIntEmpty
import Derived.Shelf.Strconv.AtoiFail
import Derived.Shelf.Strconv.Clone
import Derived.Shelf.Strconv.SyntaxError
import Derived.Shelf.LaysC
import Derived.Shelf.Strconv.ToError
import Derived.Shelf.Strconv.Lower
import Derived.Shelf.Strconv.ParseUint10
import Derived.Shelf.Strconv.ParseUint10Empty
import Derived.Shelf.Strconv.ParseUint10Any
import Derived.Shelf.Strconv.ParseInt10
import Derived.Shelf.Strconv.AtoiLong
import Derived.Shelf.Strconv.AtoiInnerAll
import Derived.Shelf.Strconv.RangeError
import Derived.Shelf.Strconv.ToErrorRange
import Derived.Shelf.Strconv.AtoiAll
import Derived.Shelf.Strconv.ErrVarAll
import Derived.Shelf.Strings.Search1
import Derived.Shelf.Strings.Search2
import Derived.Shelf.Strings.Search3
import Derived.Shelf.Strings.Cut
import Derived.Shelf.Strings.Count
import Derived.Shelf.Strings.Shaped
import Derived.Shelf.Sort.Plain
import Derived.Shelf.Strings.Prefix
import Derived.Shelf.Strings.Split
import Derived.Shelf.Unicode.DecodeSlow
import Derived.Shelf.Slices.Reverse
import Derived.Ground.Names2Prog
import Derived.Shelf.Slices.CompactI
import Derived.Test.YtggblfnajeikjaaGreatDoorProg
import Derived.Lib.RowBridge
import Derived.Sort.OwnSortedInts
import Derived.Lib.LazyBuf
import Derived.Test.YtggblfnajeikjaaGreatDoorJ1
import Derived.Test.YtggblfnajeikjaaGreatDoorJ3
import Derived.Test.YtggblfnajeikjaaGreatDoorJ6
import Derived.Test.YtggblfnajeikjaaGreatDoorJ7
import Derived.Test.YtggblfnajeikjaaGreatDoorJ9
import Derived.Test.YtggblfnajeikjaaGreatDoorJ10
import Derived.Test.YtggblfnajeikjaaGreatDoorJ11
import Derived.Test.YtggblfnajeikjaaGreatDoorJ16
import Derived.Test.YtggblfnajeikjaaGreatDoorJ19
import Derived.Test.YtggblfnajeikjaaGreatDoorJ34
import Derived.Test.YtggblfnajeikjaaGreatDoorJ35
namespace Go.Proofs.YtggblfnajeikjaaGreatDoor
open Go.RowKit Go.Sort
set_option linter.unusedVariables false
set_option linter.unusedSimpArgs false

theorem own_pre {w : World} {E B n c g off q : Nat} {xs ys : List Int} (h : Own w E B (.slice (some ⟨g, off, none⟩) n c) (ints xs)) (hl : ys.length ≤ xs.length) :
    Own (putRow (Value.int .i64) (Sort.ahead w q) g off ys.toArray) E B (.slice (some ⟨g, off, none⟩) n c) (ints (ys ++ xs.drop ys.length)) ∧ w.grownBy (putRow (Value.int .i64) (Sort.ahead w q) g off ys.toArray) (some g) := by
  rcases h with ⟨h, _⟩ | ⟨g', off', c', cur, h1, h2, h3, h4, h5, h6, h7⟩
  · cases h
  · injection h1 with e1 e2 e3
    injection e1 with e1
    injection e1 with e4 e5
    subst e4 e5 e3
    rw [ints_length] at e2 h4
    have hg : g < w.heap.size := (Array.getElem?_eq_some_iff.1 h3).1
    have hb : (putRow (Value.int .i64) (Sort.ahead w q) g off ys.toArray).heap[g]? = some (.cells (putCells (Value.int .i64) off ys.toArray cur) E (0, 0)) := by
      simp [putRow, mapBlock, Sort.ahead, Array.getElem?_modify, h3, onCells]
    refine ⟨.inr ⟨g, off, c, _, by rw [ints_length]; simp; omega, h2, hb, by rw [ints_length]; simp; omega, h5, by simpa [putCells] using h6, fun j u hu => ?_⟩, rfl, rfl, rfl, by simp, fun k hk hne => ?_⟩
    · by_cases hj : j < ys.length
      · have hc := h7 j (.int .i64 (xs[j]'(by omega))) (by simp [ints, show j < xs.length by omega])
        simp only [putCells, Array.getElem?_mapIdx, hc, Option.map_some]
        rw [if_pos ⟨by omega, by simp; omega⟩, show off + j - off = j by omega, getElem!_pos ys.toArray j (by simpa using hj)]
        rw [ints_append, List.getElem?_append_left (by rw [ints_length]; exact hj)] at hu
        simp [ints, hj] at hu
        simp [hu]
      · rw [ints_append, List.getElem?_append_right (by rw [ints_length]; omega), ints_length, ← ints_drop, List.getElem?_drop, show ys.length + (j - ys.length) = j by omega] at hu
        have hc := h7 j u hu
        simp only [putCells, Array.getElem?_mapIdx, hc, Option.map_some]
        rw [if_neg (by simp; omega)]
    · have : g ≠ k := fun e => hne (by rw [e])
      simp [putRow, mapBlock, Sort.ahead, Array.getElem?_modify, this]

theorem f_ReversePre (a : Option Addr) (n c k : Nat) (xs : List Int) (B : Nat) (w : World) (ho : Own w 3 B (.slice a n c) (ints xs)) (h0 : 0 < xs.length) (hk : k ≤ xs.length) (hl : xs.length ≤ 1000000) :
    Calls Tryz.prog 139 #[.slice a k c] w fun e w' => e = .returned (.tuple #[]) ∧ Own w' 3 B (.slice a n c) (ints (flipL xs k)) ∧ w.grownBy w' (Value.slice a n c).ownBlock := by
  obtain ⟨⟨g, off, fr⟩, rfl⟩ := ho.some_of (by rw [ints_length]; exact h0)
  obtain rfl : fr = none := by
    rcases ho with ⟨h, _⟩ | ⟨g', off', c', cur, h1, _⟩
    · cases h
    · injection h1 with h1
      injection h1 with h1
      injection h1
  obtain ⟨e, hc, hg, hH⟩ := own_holds (own_cut ho (m := k) (by omega))
  have := Tryz.slices_Reverse_int g off c (xs.take k) w hH (by simp; omega)
  rw [List.length_take, Nat.min_eq_left hk] at this
  refine this.mono ?_
  rintro e w' ⟨rfl, q, rfl⟩
  have h2 := own_pre (q := q) ho (ys := (xs.take k).reverse) (by simp; omega)
  rw [show (xs.take k).reverse.length = k by simp; omega] at h2
  exact ⟨rfl, h2.1, h2.2⟩
theorem i_flip (v : Value) (xs : List Int) (k : Nat) (w : World) (h : Rd w v (ints xs)) (h0 : 0 < xs.length) (hk : k ≤ xs.length) (hl : xs.length ≤ 1000) : Calls Tryz.prog 87 #[v, .int .i64 (k : Int)] w (RetOwn 3 (ints (flipL xs k)) w) := by
  obtain ⟨a, c, rfl, hnc, hc⟩ := h.formi
  have HC := Lib.hid (f_Clone _ xs w h (by omega))
  have HR := Lib.hid (fun (a : Option Addr) (n c : Nat) (W : World) (ho : Own W 3 w.heap.size (.slice a n c) (ints xs)) => f_ReversePre a n c k xs w.heap.size W ho h0 hk (by omega))
  have HK := Lib.hid hk
  clear h0 hl hk
  go_enter Tryz.func87, Tryz.ntmps87
  go_upto_region 2 with (go_at_call 85; refine HC.out.mono ?_; rintro e w1 ⟨v1, rfl, ho1, hb1⟩; obtain ⟨a1, n1, c1, rfl, HN1, h1c, _⟩ := ho1.rd.formN)
  have i1 : (k : Int) ≤ (c1 : Int) := by have := HN1.out; have := HK.out; omega
  go_wp2_with (go_at_call 139; refine (HR.out _ _ _ _ ho1).mono ?_; rintro e w2 ⟨rfl, ho2, hg2⟩)
  go_ret
  exact ⟨_, rfl, ho2, hb1.grown hg2 hb1.size fun r hr => (ho1.lt r hr).1⟩

theorem or_eight {a x : Nat} (ha : a < 100000000) (hx : x < 8) : bits .or .i64 ((a : Int) * 8) (x : Int) = ((a * 8 + x : Nat) : Int) := by
  have e : ((a : Int) * 8) = ((a * 8 : Nat) : Int) := by omega
  have h1 : (a * 8) ||| x = a * 8 + x := by
    have := Nat.shiftLeft_add_eq_or_of_lt (b := x) (i := 3) (by omega) a
    rw [Nat.shiftLeft_eq] at this
    exact this.symm
  rw [e]
  show IntKind.i64.wrap ((BitVec.ofInt 64 ((a * 8 : Nat) : Int) ||| BitVec.ofInt 64 (x : Int)).toNat : Int) = _
  rw [BitVec.toNat_or, BitVec.ofInt_natCast, BitVec.ofInt_natCast, BitVec.toNat_ofNat, BitVec.toNat_ofNat, Nat.mod_eq_of_lt (by omega), Nat.mod_eq_of_lt (by omega), h1, IntKind.wrap_i64]
  omega
def keyN (xs : List Int) : Nat := xs.foldl (fun a x => a * 8 + x.toNat) 1
theorem keyN_snoc (xs : List Int) (x : Int) : keyN (xs ++ [x]) = keyN xs * 8 + x.toNat := by rw [keyN, List.foldl_append]; rfl
theorem keyN_ltR : ∀ (ys : List Int), (∀ x ∈ ys, 0 ≤ x ∧ x < 8) → keyN ys.reverse < 2 * 8 ^ ys.length ∧ 8 ^ ys.length ≤ keyN ys.reverse
  | [], _ => by simp [keyN]
  | y :: t, h => by
    have h1 := keyN_ltR t fun z hz => h z (by simp [hz])
    have h2 := h y (by simp)
    rw [List.reverse_cons, keyN_snoc, List.length_cons, Nat.pow_succ]
    omega
theorem keyN_lt (xs : List Int) (h : ∀ x ∈ xs, 0 ≤ x ∧ x < 8) : keyN xs < 2 * 8 ^ xs.length ∧ 8 ^ xs.length ≤ keyN xs := by
  have := keyN_ltR xs.reverse fun x hx => h x (List.mem_reverse.1 hx)
  rwa [List.reverse_reverse, List.length_reverse] at this
theorem keyN_injR : ∀ (xs ys : List Int), xs.length = ys.length → (∀ x ∈ xs, 0 ≤ x ∧ x < 8) → (∀ x ∈ ys, 0 ≤ x ∧ x < 8) → keyN xs.reverse = keyN ys.reverse → xs = ys
  | [], [], _, _, _, _ => rfl
  | [], y :: t, h, _, _, _ => by simp at h
  | x :: s, [], h, _, _, _ => by simp at h
  | x :: s, y :: t, hl, hx, hy, he => by
    rw [List.reverse_cons, List.reverse_cons, keyN_snoc, keyN_snoc] at he
    have h1 := hx x (by simp)
    have h2 := hy y (by simp)
    have h3 : s = t := keyN_injR s t (by simpa using hl) (fun z hz => hx z (by simp [hz])) (fun z hz => hy z (by simp [hz])) (by omega)
    subst h3
    have : x = y := by omega
    rw [this]
theorem keyN_inj (xs ys : List Int) (hl : xs.length = ys.length) (hx : ∀ x ∈ xs, 0 ≤ x ∧ x < 8) (hy : ∀ x ∈ ys, 0 ≤ x ∧ x < 8) (he : keyN xs = keyN ys) : xs = ys := by
  have := keyN_injR xs.reverse ys.reverse (by simpa using hl) (fun x h => hx x (List.mem_reverse.1 h)) (fun x h => hy x (List.mem_reverse.1 h)) (by simpa using he)
  exact List.reverse_inj.1 this
set_option maxHeartbeats 1000000 in
theorem i_key (v : Value) (xs : List Int) (w : World) (h : Rd w v (ints xs)) (hl : xs.length ≤ 6) (hx : ∀ x ∈ xs, 0 ≤ x ∧ x < 8) : Calls Tryz.prog 86 #[v] w fun e w' => e = .returned (.int .i64 ((keyN xs : Nat) : Int)) ∧ w = w' := by
  obtain ⟨a, c, rfl, hnc, hc⟩ := h.formi
  have HX := Lib.hid hx
  have HT : Hid (keyN xs = keyN (xs.take xs.length)) := by rw [Hid, List.take_length]
  obtain ⟨n, hn⟩ : ∃ n, xs.length = n := ⟨_, rfl⟩
  have HB : Hid (∀ k, k ≤ n → keyN (xs.take k) < 1000000) := fun k hk => by
    have h1 := (keyN_lt (xs.take k) fun x hx' => hx x (List.mem_of_mem_take hx')).1
    have h2 : (xs.take k).length ≤ 6 := by simp; omega
    have h3 : 8 ^ (xs.take k).length ≤ 8 ^ 6 := Nat.pow_le_pow_right (by omega) h2
    omega
  rw [hn] at h HT hl hnc ⊢
  have HN := Lib.hid hn
  clear hn hx
  go_enter Tryz.func86, Tryz.ntmps86
  go_wp2
  go_loopg [3, 8] n (fun g ov iv wr => ∃ k o : Nat, g = n - k ∧ k ≤ n ∧ iv = .int .i64 k ∧ ov = .int .i64 (o : Int) ∧ Hid (o = keyN (xs.take k)) ∧ w = wr)
  case atStart => exact ⟨0, 1, rfl, Nat.zero_le _, rfl, rfl, rfl, rfl⟩
  case round =>
    obtain ⟨k, o, hg, hk, rfl, rfl, HO, rfl⟩ := hrel
    by_cases hlt : k < n
    · obtain ⟨ad, x, hal, hcx, hxk⟩ := h.int (k := k) (by rw [HN.out]; exact hlt)
      subst hal
      obtain ⟨h1, h2⟩ := HX.out x (List.mem_of_getElem? hxk.out)
      obtain ⟨X, rfl⟩ := Int.eq_ofNat_of_zero_le h1
      have hob : o < 1000000 := by rw [HO.out]; exact HB.out k (by omega)
      have e1 := or_eight (a := o) (x := X) (by omega) (by omega)
      have HO2 : Hid (o * 8 + X = keyN (xs.take (k + 1))) := by rw [Hid, take_snoc' hxk.out, keyN_snoc, HO.out]; simp
      clear hxk h1 h2
      generalize o * 8 + X = o2 at e1 HO2
      go_wp2
      go_roundg (n - (k + 1))
      case measure => omega
      case rel => exact ⟨k + 1, o2, rfl, by omega, by go_num, rfl, HO2, rfl⟩
    · obtain rfl : k = n := Nat.le_antisymm hk (Nat.le_of_not_lt hlt)
      go_wp2
      go_ret
      exact ⟨ret_int (by rw [HT.out, HO.out]), rfl⟩

def sixB (xs : List Int) : Bool := decide (xs.length ≤ 6) && ordB xs.length xs
theorem sixB_perm {xs : List Int} (h : sixB xs = true) : xs.length ≤ 6 ∧ PermN xs.length xs := by
  simp only [sixB, Bool.and_eq_true, decide_eq_true_eq] at h
  exact ⟨h.1, rfl, ordB_iff.1 h.2⟩
theorem i_isSix (v : Value) (xs : List Int) (w : World) (h : Rd w v (ints xs)) : Calls Tryz.prog 83 #[v] w (RetB (.bool (sixB xs)) w) := by
  obtain ⟨a, n, c, rfl, HN, hnc, hc⟩ := h.formN
  by_cases h8 : n ≤ 6
  · have HK := i_isOrder _ xs w h (by have := HN.out; omega)
    rw [← HN.out] at HK
    have HR : Hid (sixB xs = ordB n xs) := by rw [Hid, sixB, ← HN.out]; simp [h8]
    have HK2 := Lib.hid HK
    clear HK
    have i1 : (n : Int) ≤ 6 := by omega
    go_enter Tryz.func83, Tryz.ntmps83
    go_wp2_with (go_at_call 136; refine HK2.out.mono ?_; rintro e w' ⟨rfl, hb⟩)
    go_ret
    exact ⟨by rw [HR.out]; rfl, hb⟩
  · have HR : Hid (sixB xs = false) := by rw [Hid, sixB, ← HN.out]; simp [h8]
    have i1 : ¬ (n : Int) ≤ 6 := by omega
    go_enter Tryz.func83, Tryz.ntmps83
    go_wp2
    go_ret
    exact ⟨ret_bool HR.out.symm, Below.refl _ _⟩

end Go.Proofs.YtggblfnajeikjaaGreatDoor

namespace Go.Proofs.YtggblfnajeikjaaGreatDoor
open Go.RowKit
set_option linter.unusedVariables false
set_option linter.unusedSimpArgs false

def atI (L : List Int) (x : Nat) : Nat := (idxOf (fun y => decide ((x : Int) = y)) L).toNat
theorem atI_ok {n x : Nat} {L : List Int} (h : PermN n L) (hx : x < n) : atI L x < n ∧ L[atI L x]? = some (x : Int) ∧ idxOf (fun y => decide ((x : Int) = y)) L = ((atI L x : Nat) : Int) := by
  obtain ⟨p, hp, hpx⟩ := h.at hx
  have e : idxOf (fun y => decide ((x : Int) = y)) L = (p : Int) := idxOf_yes hpx (by simp) fun j y hj hy => by
    rw [decide_eq_false_iff_not]
    intro e
    subst e
    have := h.inj hpx hy
    omega
  have e2 : atI L x = p := by rw [atI, e]; simp
  rw [e2]
  exact ⟨hp, hpx, e⟩
def grFlip (s : List Int × List Int) (k : Nat) : List Int × List Int := (flipL s.1 k, s.2 ++ [(k : Int)])
def grStep (s : List Int × List Int) (x : Nat) : List Int × List Int :=
  if atI s.1 x = x then s else if 0 < atI s.1 x then grFlip (grFlip s (atI s.1 x + 1)) (x + 1) else grFlip s (x + 1)
def grK (xs : List Int) (n : Nat) : Nat → List Int × List Int
  | 0 => (xs, [])
  | j + 1 => grStep (grK xs n j) (n - 1 - j)
def grL (xs : List Int) : List Int := (grK xs xs.length (xs.length - 1)).2
theorem grK_inv {n : Nat} {xs : List Int} (h : PermN n xs) : ∀ j, j ≤ n - 1 → PermN n (grK xs n j).1 ∧ (grK xs n j).2.length ≤ 2 * j ∧ ∀ y ∈ (grK xs n j).2, 0 ≤ y ∧ y ≤ (n : Int)
  | 0, _ => ⟨h, Nat.le_refl _, fun y hy => by cases hy⟩
  | j + 1, hj => by
    obtain ⟨h1, h2, h3⟩ := grK_inv h j (by omega)
    obtain ⟨h4, _, _⟩ := atI_ok h1 (x := n - 1 - j) (by omega)
    simp only [grK, grStep]
    split
    · exact ⟨h1, by omega, h3⟩
    · split
      · refine ⟨h1.flip.flip, by simp [grFlip]; omega, fun y hy => ?_⟩
        simp only [grFlip, List.mem_append, List.mem_singleton] at hy
        rcases hy with (hy | rfl) | rfl
        · exact h3 y hy
        · omega
        · omega
      · refine ⟨h1.flip, by simp [grFlip]; omega, fun y hy => ?_⟩
        simp only [grFlip, List.mem_append, List.mem_singleton] at hy
        rcases hy with hy | rfl
        · exact h3 y hy
        · omega

set_option maxRecDepth 100000 in
set_option maxHeartbeats 4000000 in
theorem i_GreedyFlips (v : Value) (xs : List Int) (w : World) (h : Rd w v (ints xs)) (hs : shortB xs = true) : Calls Tryz.prog 35 #[v] w (RetOwn 3 (ints (grL xs)) w) := by
  have HS := Lib.hid (hs ▸ i_isShortOrder v xs w h)
  obtain ⟨h8, hor⟩ := shortB_iff.1 hs
  obtain ⟨a, c, rfl, hnc, hc⟩ := h.formi
  have hp0 : PermN xs.length xs := ⟨rfl, hor⟩
  have HG : Hid (grL xs = (grK xs xs.length (xs.length - 1)).2) := rfl
  obtain ⟨n, hn⟩ : ∃ n, xs.length = n := ⟨_, rfl⟩
  rw [hn] at hp0 h8 HG hnc ⊢
  have HN := Lib.hid hn
  have HKI := Lib.hid (fun j hj => grK_inv hp0 j hj)
  have HKS : Hid (∀ j, grK xs n (j + 1) = grStep (grK xs n j) (n - 1 - j)) := fun j => rfl
  have HK0 : Hid (grK xs n 0 = (xs, [])) := rfl
  have HCL := Lib.hid (fun (W : World) (hW : Below w.heap.size w W) => f_Clone _ xs W (h.below hW) (by omega))
  rw [hn] at HCL HS
  clear hn
  go_enter Tryz.func35, Tryz.ntmps35
  go_upto_region 5 with (first
    | (go_at_call 81; refine HS.out.mono ?_; rintro e w1 ⟨rfl, hb1⟩; have hA : Below w1.heap.size w1 (w1.alloc (.cells #[] 3)) := (Below.refl _ _).alloc (Nat.le_refl _) _; have hlit := Own.lit0 w1 3 (Nat.le_refl _); have hbA := hb1.trans (hA.mono hb1.size))
    | (go_at_call 85; refine (HCL.out _ hbA).mono ?_; rintro e w2 ⟨v2, rfl, ho2, hb2⟩))
  have hO : OwnsL w2 3 w.heap.size [(.slice (some ⟨w1.heap.size, 0, none⟩) 0 0, []), (v2, xs)] := by
    have h1 := OwnsL.snoc (OwnsL.nil w1 3 w.heap.size) hA hb1.size hlit
    have h2 := h1.snoc hb2 hbA.size ho2
    simpa using h2
  have hb := hbA.trans (hb2.mono hbA.size)
  clear hA hlit hbA ho2 hb2 hb1
  go_wp2
  go_loopg [3, 4, 5] (n + 1) (fun g vo vl xv wr => ∃ j : Nat, g = n + 1 - j ∧ (j ≤ n - 1) ∧ xv = .int .i64 ((n : Int) - 1 - (j : Int)) ∧ OwnsL wr 3 w.heap.size [(vo, (grK xs n j).2), (vl, (grK xs n j).1)] ∧ Below w.heap.size w wr)
  case atStart => exact ⟨0, rfl, Nat.zero_le _, by simp, by rw [HK0.out]; exact hO, hb⟩
  case round =>
    clear hO hb
    obtain ⟨j, hg, hj, rfl, hO, hb⟩ := hrel
    obtain ⟨hp, hol, _⟩ := HKI.out j hj
    by_cases hlt : j < n - 1
    · have HSJ := Lib.hid (HKS.out j)
      obtain ⟨hpS, _, _⟩ := HKI.out (j + 1) (by omega)
      obtain ⟨L, hLe⟩ : ∃ L, (grK xs n j).1 = L := ⟨_, rfl⟩
      obtain ⟨O, hOe⟩ : ∃ O, (grK xs n j).2 = O := ⟨_, rfl⟩
      rw [hLe, hOe] at hO
      rw [hLe] at hp
      rw [hOe] at hol
      have HST : Hid (grK xs n (j + 1) = grStep (L, O) (n - 1 - j)) := by rw [Hid, HSJ.out, ← hLe, ← hOe]
      obtain ⟨x, hx⟩ : ∃ x, n - 1 - j = x := ⟨_, rfl⟩
      have ex : (n : Int) - 1 - (j : Int) = (x : Int) := by omega
      rw [hx] at HST
      rw [ex]
      obtain ⟨hat, _, hidx⟩ := atI_ok hp (x := x) (by omega)
      have HAT : Hid (grStep (L, O) x = if atI L x = x then (L, O) else if 0 < atI L x then grFlip (grFlip (L, O) (atI L x + 1)) (x + 1) else grFlip (L, O) (x + 1)) := rfl
      have hLl := hp.1
      have hp1 : PermN n (flipL L (atI L x + 1)) := hp.flip
      have HP1 := Lib.hid hp1
      obtain ⟨ao, no, co, rfl, HNO, _, _⟩ := hO.o0.rd.formN
      obtain ⟨al, nl, cl, rfl, HNL, _, _⟩ := hO.o1.rd.formN
      replace HNO : Hid (no = O.length) := HNO.out
      have hxn : x + 1 ≤ n := by omega
      have hx1 : 1 ≤ x := by omega
      have hno : no ≤ 16 := by have := HNO.out; omega
      have HLO : Hid ((ints O).length = no) := by rw [Hid, ints_length, HNO.out]
      have hsb := hb.size
      have HIX := Lib.hid (f_Index _ L (x : Int) wr hO.o1.rd)
      dsimp only at HIX
      rw [hidx] at HIX
      have HFL := Lib.hid (fun (W : World) (hW : Rd W (.slice al nl cl) (ints L)) (k : Nat) (hk : k ≤ n) => i_flip _ L k W hW (by rw [hLl]; omega) (by rw [hLl]; exact hk) (by rw [hLl]; omega))
      have HXJ := Lib.hid hx
      clear hidx hLe hOe hx ex HSJ hpS hp1
      obtain ⟨p, hpe⟩ : ∃ p, atI L x = p := ⟨_, rfl⟩
      rw [hpe] at hat HAT HIX HP1
      have HFL2 := Lib.hid (fun (v : Value) (W : World) (hW : Rd W v (ints (flipL L (p + 1)))) => i_flip v (flipL L (p + 1)) (x + 1) W hW (by rw [HP1.out.1]; omega) (by rw [HP1.out.1]; exact hxn) (by rw [HP1.out.1]; omega))
      clear hpe hp hLl
      by_cases hpx : p = x
      · have HV : Hid (grK xs n (j + 1) = (L, O)) := by rw [Hid, HST.out, HAT.out, if_pos hpx]
        have d0 : ((p : Int) == (x : Int)) = true := by simp [hpx]
        clear hpx
        go_wp2_with (go_at_call 91; refine HIX.out.mono ?_; rintro e w' ⟨rfl, rfl⟩)
        go_roundg (n + 1 - (j + 1))
        case measure => omega
        case rel => exact ⟨j + 1, rfl, by omega, by have := HXJ.out; first | go_num | (congr 1; omega), by rw [HV.out]; exact hO, hb⟩
      · have d0 : ((p : Int) == (x : Int)) = false := by rw [beq_eq_false_iff_ne]; omega
        rcases Nat.eq_zero_or_pos p with hp0 | hp0
        · have HV : Hid (grK xs n (j + 1) = (flipL L (x + 1), O ++ [((x + 1 : Nat) : Int)])) := by rw [Hid, HST.out, HAT.out, if_neg hpx, if_neg (by omega)]; rfl
          have i1 : ¬ ((p : Int) > 0) := by omega
          clear hpx hp0
          go_upto_region 14 with (first
            | (go_at_call 91; refine HIX.out.mono ?_; rintro e w' ⟨rfl, rfl⟩)
            | (at_builtin; (refine wpList_app1m rfl _ _ 23 rfl elI ?_ hO.o0 ?_ ?_ hsb no HLO.out (by omega) (by omega) ?_); (focus exact rfl); (focus (simp [Act.eval])); (focus exact rfl); intro b5 c5 w5 ho5 hg5 hat5))
          have ex1 : (x : Int) + 1 = ((x + 1 : Nat) : Int) := by omega
          have hO5 := hO.t0 hg5 (ys := O ++ [((x + 1 : Nat) : Int)]) (by rw [ints_append, ← ex1]; exact ho5) (hat_of hat5)
          have hb5 := hb.grown hg5 hsb (fun r hr => (hO.o0.lt r hr).1)
          have hs5 := hb5.size
          have HFX := Lib.hid (HFL.out w5 hO5.o1.rd (x + 1) hxn)
          rw [← ex1] at HFX
          clear hO hb hg5 hat5 ho5 ex1
          go_wp2_with (go_at_call 87; refine (HFX.out).mono ?_; rintro e w6 ⟨v6, rfl, ho6, hb6⟩)
          have hO6 := OwnsL.fresh (L1 := [(Value.slice b5 (no + 1) c5, O ++ [((x + 1 : Nat) : Int)])]) (L2 := []) hO5 hb6 hs5 ho6
          go_roundg (n + 1 - (j + 1))
          case measure => omega
          case rel => exact ⟨j + 1, rfl, by omega, by have := HXJ.out; first | go_num | (congr 1; omega), by rw [HV.out]; exact hO6, hb5.trans (hb6.mono hs5)⟩
        · have HV : Hid (grK xs n (j + 1) = (flipL (flipL L (p + 1)) (x + 1), (O ++ [((p + 1 : Nat) : Int)]) ++ [((x + 1 : Nat) : Int)])) := by rw [Hid, HST.out, HAT.out, if_neg hpx, if_pos hp0]; rfl
          have i1 : ((p : Int) > 0) := by omega
          clear hpx hp0
          go_upto_region 12 with (first
            | (go_at_call 91; refine HIX.out.mono ?_; rintro e w' ⟨rfl, rfl⟩)
            | (at_builtin; (refine wpList_app1m rfl _ _ 23 rfl elI ?_ hO.o0 ?_ ?_ hsb no HLO.out (by omega) (by omega) ?_); (focus exact rfl); (focus (simp [Act.eval])); (focus exact rfl); intro b5 c5 w5 ho5 hg5 hat5))
          have ex1 : (p : Int) + 1 = ((p + 1 : Nat) : Int) := by omega
          have hO5 := hO.t0 hg5 (ys := O ++ [((p + 1 : Nat) : Int)]) (by rw [ints_append, ← ex1]; exact ho5) (hat_of hat5)
          have hb5 := hb.grown hg5 hsb (fun r hr => (hO.o0.lt r hr).1)
          have hs5 := hb5.size
          have HFX := Lib.hid (HFL.out w5 hO5.o1.rd (p + 1) (by omega))
          rw [← ex1] at HFX
          clear hO hb hg5 hat5 ho5 ex1
          go_upto_region 13 with (go_at_call 87; refine (HFX.out).mono ?_; rintro e w6 ⟨v6, rfl, ho6, hb6⟩)
          have hO6 := OwnsL.fresh (L1 := [(Value.slice b5 (no + 1) c5, O ++ [((p + 1 : Nat) : Int)])]) (L2 := []) hO5 hb6 hs5 ho6
          have hb6' := hb5.trans (hb6.mono hs5)
          have hs6 := hb6'.size
          have HLO2 : Hid ((ints (O ++ [((p + 1 : Nat) : Int)])).length = no + 1) := by rw [Hid, ints_length, List.length_append, HNO.out]; rfl
          simp only [List.singleton_append, List.cons_append, List.nil_append] at hO6
          clear hO5 hb5 hb6 ho6 hs5
          go_upto_region 14 with (at_builtin; (refine wpList_app1m rfl _ _ 23 rfl elI ?_ hO6.o0 ?_ ?_ hs6 (no + 1) HLO2.out (by omega) (by omega) ?_); (focus exact rfl); (focus (simp [Act.eval])); (focus exact rfl); intro b7 c7 w7 ho7 hg7 hat7)
          have ex1 : (x : Int) + 1 = ((x + 1 : Nat) : Int) := by omega
          have hO7 := hO6.t0 hg7 (ys := (O ++ [((p + 1 : Nat) : Int)]) ++ [((x + 1 : Nat) : Int)]) (by rw [ints_append (O ++ _), ← ex1]; exact ho7) (hat_of hat7)
          have hb7 := hb6'.grown hg7 hs6 (fun r hr => (hO6.o0.lt r hr).1)
          have hs7 := hb7.size
          have HFX2 := Lib.hid (HFL2.out v6 w7 hO7.o1.rd)
          rw [← ex1] at HFX2
          clear hO6 hb6' hg7 hat7 ho7 ex1
          go_wp2_with (go_at_call 87; refine (HFX2.out).mono ?_; rintro e w8 ⟨v8, rfl, ho8, hb8⟩)
          have hO8 := OwnsL.fresh (L1 := [(Value.slice b7 (no + 1 + 1) c7, (O ++ [((p + 1 : Nat) : Int)]) ++ [((x + 1 : Nat) : Int)])]) (L2 := []) hO7 hb8 hs7 ho8
          go_roundg (n + 1 - (j + 1))
          case measure => omega
          case rel => exact ⟨j + 1, rfl, by omega, by have := HXJ.out; first | go_num | (congr 1; omega), by rw [HV.out]; exact hO8, hb7.trans (hb8.mono hs7)⟩
    · have HV : Hid (grL xs = (grK xs n j).2) := by rw [Hid, HG.out]; congr 2; omega
      have ho := hO.o0
      dsimp only at ho
      have i1 : ¬ ((n : Int) - 1 - (j : Int) ≥ 1) := by omega
      go_wp2
      go_ret
      exact ⟨_, rfl, by rw [HV.out]; exact ho, hb⟩

end Go.Proofs.YtggblfnajeikjaaGreatDoor
