/- Joined texts of the proof: FlipA. -/
import Derived.WalkKit
import Derived.WalkSpells
import Derived.WalkLawsBesides
import Derived.Deep.Draws
import Derived.Lib.Hide
import Derived.RegionTactic
import Derived.Test.YtggblfnajeikjaaGreatRows
import Derived.BigQuiet
import Derived.Deep.QuietTactic
import Derived.Deep.RegionHeld3
import Derived.Deep.DeepCutAuto
import Derived.Deep.LoopGhost
import Derived.Lib.LazyBuf
import Derived.Shelf.Strconv.Itoa0
import Derived.Shelf.Sort.Plain
import Derived.Shelf.Slices.Reverse
import Derived.Ground.Names2Prog
import Derived.Shelf.Slices.CompactI
import Derived.Test.YtggblfnajeikjaaGreatProg
import Derived.Lib.RowBridge
import Derived.Sort.OwnSortedInts
import Derived.Test.YtggblfnajeikjaaGreatJ1
import Derived.Test.YtggblfnajeikjaaGreatJ3
import Derived.Test.YtggblfnajeikjaaGreatJ4
import Derived.Test.YtggblfnajeikjaaGreatJ5
import Derived.Test.YtggblfnajeikjaaGreatJ6
import Derived.Test.YtggblfnajeikjaaGreatJ8
import Derived.Test.YtggblfnajeikjaaGreatJ9
import Derived.Test.YtggblfnajeikjaaGreatJ10
import Derived.Test.YtggblfnajeikjaaGreatJ12
import Derived.Test.YtggblfnajeikjaaGreatJ17
import Derived.Test.YtggblfnajeikjaaGreatJ32
namespace Go.Proofs.YtggblfnajeikjaaGreat
open Go.RowKit Go.Sort
set_option linter.unusedVariables false
set_option linter.unusedSimpArgs false

theorem own_pre {w : World} {E B n c g off q : Nat} {xs ys : List Int} (h : Own w E B (.slice (some ⟨g, off, none⟩) n c) (ints xs)) (hl : ys.length ≤ xs.length) :
    Own (putRow (Value.int .i64) (Sort.ahead w q) g off ys.toArray) E B (.slice (some ⟨g, off, none⟩) n c) (ints (ys ++ xs.drop ys.length)) ∧ w.grownBy (putRow (Value.int .i64) (Sort.ahead w q) g off ys.toArray) (some g) := by
  rcases h with ⟨h, _⟩ | ⟨g', off', c', cur, h1, h2, h3, h4, h5, h6, h7⟩
  · cases h
  · injection h1 with e1 e2 e3
    injection e1 with e1
    injection e1 with e4 e5
    subst e4 e5 e3
    rw [ints_length] at e2 h4
    have hg : g < w.heap.size := (Array.getElem?_eq_some_iff.1 h3).1
    have hb : (putRow (Value.int .i64) (Sort.ahead w q) g off ys.toArray).heap[g]? = some (.cells (putCells (Value.int .i64) off ys.toArray cur) E (0, 0)) := by
      simp [putRow, mapBlock, Sort.ahead, Array.getElem?_modify, h3, onCells]
    refine ⟨.inr ⟨g, off, c, _, by rw [ints_length]; simp; omega, h2, hb, by rw [ints_length]; simp; omega, h5, by simpa [putCells] using h6, fun j u hu => ?_⟩, rfl, rfl, rfl, by simp, fun k hk hne => ?_⟩
    · by_cases hj : j < ys.length
      · have hc := h7 j (.int .i64 (xs[j]'(by omega))) (by simp [ints, show j < xs.length by omega])
        simp only [putCells, Array.getElem?_mapIdx, hc, Option.map_some]
        rw [if_pos ⟨by omega, by simp; omega⟩, show off + j - off = j by omega, getElem!_pos ys.toArray j (by simpa using hj)]
        rw [ints_append, List.getElem?_append_left (by rw [ints_length]; exact hj)] at hu
        simp [ints, hj] at hu
        simp [hu]
      · rw [ints_append, List.getElem?_append_right (by rw [ints_length]; omega), ints_length, ← ints_drop, List.getElem?_drop, show ys.length + (j - ys.length) = j by omega] at hu
        have hc := h7 j u hu
        simp only [putCells, Array.getElem?_mapIdx, hc, Option.map_some]
        rw [if_neg (by simp; omega)]
    · have : g ≠ k := fun e => hne (by rw [e])
      simp [putRow, mapBlock, Sort.ahead, Array.getElem?_modify, this]

theorem f_ReversePre (a : Option Addr) (n c k : Nat) (xs : List Int) (B : Nat) (w : World) (ho : Own w 3 B (.slice a n c) (ints xs)) (h0 : 0 < xs.length) (hk : k ≤ xs.length) (hl : xs.length ≤ 1000000) :
    Calls Tryz.prog 102 #[.slice a k c] w fun e w' => e = .returned (.tuple #[]) ∧ Own w' 3 B (.slice a n c) (ints (flipL xs k)) ∧ w.grownBy w' (Value.slice a n c).ownBlock := by
  obtain ⟨⟨g, off, fr⟩, rfl⟩ := ho.some_of (by rw [ints_length]; exact h0)
  obtain rfl : fr = none := by
    rcases ho with ⟨h, _⟩ | ⟨g', off', c', cur, h1, _⟩
    · cases h
    · injection h1 with h1
      injection h1 with h1
      injection h1
  obtain ⟨e, hc, hg, hH⟩ := own_holds (own_cut ho (m := k) (by omega))
  have := Tryz.slices_Reverse_int g off c (xs.take k) w hH (by simp; omega)
  rw [List.length_take, Nat.min_eq_left hk] at this
  refine this.mono ?_
  rintro e w' ⟨rfl, q, rfl⟩
  have h2 := own_pre (q := q) ho (ys := (xs.take k).reverse) (by simp; omega)
  rw [show (xs.take k).reverse.length = k by simp; omega] at h2
  exact ⟨rfl, h2.1, h2.2⟩
theorem i_flip (v : Value) (xs : List Int) (k : Nat) (w : World) (h : Rd w v (ints xs)) (h0 : 0 < xs.length) (hk : k ≤ xs.length) (hl : xs.length ≤ 1000) : Calls Tryz.prog 72 #[v, .int .i64 (k : Int)] w (RetOwn 3 (ints (flipL xs k)) w) := by
  obtain ⟨a, c, rfl, hnc, hc⟩ := h.formi
  have HC := Lib.hid (f_Clone _ xs w h (by omega))
  have HR := Lib.hid (fun (a : Option Addr) (n c : Nat) (W : World) (ho : Own W 3 w.heap.size (.slice a n c) (ints xs)) => f_ReversePre a n c k xs w.heap.size W ho h0 hk (by omega))
  have HK := Lib.hid hk
  clear h0 hl hk
  go_enter Tryz.func72, Tryz.ntmps72
  go_upto_region 2 with (go_at_call 70; refine HC.out.mono ?_; rintro e w1 ⟨v1, rfl, ho1, hb1⟩; obtain ⟨a1, n1, c1, rfl, HN1, h1c, _⟩ := ho1.rd.formN)
  have i1 : (k : Int) ≤ (c1 : Int) := by have := HN1.out; have := HK.out; omega
  go_wp2_with (go_at_call 102; refine (HR.out _ _ _ _ ho1).mono ?_; rintro e w2 ⟨rfl, ho2, hg2⟩)
  go_ret
  exact ⟨_, rfl, ho2, hb1.grown hg2 hb1.size fun r hr => (ho1.lt r hr).1⟩

theorem or_eight {a x : Nat} (ha : a < 100000000) (hx : x < 8) : bits .or .i64 ((a : Int) * 8) (x : Int) = ((a * 8 + x : Nat) : Int) := by
  have e : ((a : Int) * 8) = ((a * 8 : Nat) : Int) := by omega
  have h1 : (a * 8) ||| x = a * 8 + x := by
    have := Nat.shiftLeft_add_eq_or_of_lt (b := x) (i := 3) (by omega) a
    rw [Nat.shiftLeft_eq] at this
    exact this.symm
  rw [e]
  show IntKind.i64.wrap ((BitVec.ofInt 64 ((a * 8 : Nat) : Int) ||| BitVec.ofInt 64 (x : Int)).toNat : Int) = _
  rw [BitVec.toNat_or, BitVec.ofInt_natCast, BitVec.ofInt_natCast, BitVec.toNat_ofNat, BitVec.toNat_ofNat, Nat.mod_eq_of_lt (by omega), Nat.mod_eq_of_lt (by omega), h1, IntKind.wrap_i64]
  omega
def keyN (xs : List Int) : Nat := xs.foldl (fun a x => a * 8 + x.toNat) 1
theorem keyN_snoc (xs : List Int) (x : Int) : keyN (xs ++ [x]) = keyN xs * 8 + x.toNat := by rw [keyN, List.foldl_append]; rfl
theorem keyN_ltR : ∀ (ys : List Int), (∀ x ∈ ys, 0 ≤ x ∧ x < 8) → keyN ys.reverse < 2 * 8 ^ ys.length ∧ 8 ^ ys.length ≤ keyN ys.reverse
  | [], _ => by simp [keyN]
  | y :: t, h => by
    have h1 := keyN_ltR t fun z hz => h z (by simp [hz])
    have h2 := h y (by simp)
    rw [List.reverse_cons, keyN_snoc, List.length_cons, Nat.pow_succ]
    omega
theorem keyN_lt (xs : List Int) (h : ∀ x ∈ xs, 0 ≤ x ∧ x < 8) : keyN xs < 2 * 8 ^ xs.length ∧ 8 ^ xs.length ≤ keyN xs := by
  have := keyN_ltR xs.reverse fun x hx => h x (List.mem_reverse.1 hx)
  rwa [List.reverse_reverse, List.length_reverse] at this
theorem keyN_injR : ∀ (xs ys : List Int), xs.length = ys.length → (∀ x ∈ xs, 0 ≤ x ∧ x < 8) → (∀ x ∈ ys, 0 ≤ x ∧ x < 8) → keyN xs.reverse = keyN ys.reverse → xs = ys
  | [], [], _, _, _, _ => rfl
  | [], y :: t, h, _, _, _ => by simp at h
  | x :: s, [], h, _, _, _ => by simp at h
  | x :: s, y :: t, hl, hx, hy, he => by
    rw [List.reverse_cons, List.reverse_cons, keyN_snoc, keyN_snoc] at he
    have h1 := hx x (by simp)
    have h2 := hy y (by simp)
    have h3 : s = t := keyN_injR s t (by simpa using hl) (fun z hz => hx z (by simp [hz])) (fun z hz => hy z (by simp [hz])) (by omega)
    subst h3
    have : x = y := by omega
    rw [this]
theorem keyN_inj (xs ys : List Int) (hl : xs.length = ys.length) (hx : ∀ x ∈ xs, 0 ≤ x ∧ x < 8) (hy : ∀ x ∈ ys, 0 ≤ x ∧ x < 8) (he : keyN xs = keyN ys) : xs = ys := by
  have := keyN_injR xs.reverse ys.reverse (by simpa using hl) (fun x h => hx x (List.mem_reverse.1 h)) (fun x h => hy x (List.mem_reverse.1 h)) (by simpa using he)
  exact List.reverse_inj.1 this
set_option maxHeartbeats 1000000 in
theorem i_key (v : Value) (xs : List Int) (w : World) (h : Rd w v (ints xs)) (hl : xs.length ≤ 6) (hx : ∀ x ∈ xs, 0 ≤ x ∧ x < 8) : Calls Tryz.prog 71 #[v] w fun e w' => e = .returned (.int .i64 ((keyN xs : Nat) : Int)) ∧ w = w' := by
  obtain ⟨a, c, rfl, hnc, hc⟩ := h.formi
  have HX := Lib.hid hx
  have HT : Hid (keyN xs = keyN (xs.take xs.length)) := by rw [Hid, List.take_length]
  obtain ⟨n, hn⟩ : ∃ n, xs.length = n := ⟨_, rfl⟩
  have HB : Hid (∀ k, k ≤ n → keyN (xs.take k) < 1000000) := fun k hk => by
    have h1 := (keyN_lt (xs.take k) fun x hx' => hx x (List.mem_of_mem_take hx')).1
    have h2 : (xs.take k).length ≤ 6 := by simp; omega
    have h3 : 8 ^ (xs.take k).length ≤ 8 ^ 6 := Nat.pow_le_pow_right (by omega) h2
    omega
  rw [hn] at h HT hl hnc ⊢
  have HN := Lib.hid hn
  clear hn hx
  go_enter Tryz.func71, Tryz.ntmps71
  go_wp2
  go_loopg [3, 8] n (fun g ov iv wr => ∃ k o : Nat, g = n - k ∧ k ≤ n ∧ iv = .int .i64 k ∧ ov = .int .i64 (o : Int) ∧ Hid (o = keyN (xs.take k)) ∧ w = wr)
  case atStart => exact ⟨0, 1, rfl, Nat.zero_le _, rfl, rfl, rfl, rfl⟩
  case round =>
    obtain ⟨k, o, hg, hk, rfl, rfl, HO, rfl⟩ := hrel
    by_cases hlt : k < n
    · obtain ⟨ad, x, hal, hcx, hxk⟩ := h.int (k := k) (by rw [HN.out]; exact hlt)
      subst hal
      obtain ⟨h1, h2⟩ := HX.out x (List.mem_of_getElem? hxk.out)
      obtain ⟨X, rfl⟩ := Int.eq_ofNat_of_zero_le h1
      have hob : o < 1000000 := by rw [HO.out]; exact HB.out k (by omega)
      have e1 := or_eight (a := o) (x := X) (by omega) (by omega)
      have HO2 : Hid (o * 8 + X = keyN (xs.take (k + 1))) := by rw [Hid, take_snoc' hxk.out, keyN_snoc, HO.out]; simp
      clear hxk h1 h2
      generalize o * 8 + X = o2 at e1 HO2
      go_wp2
      go_roundg (n - (k + 1))
      case measure => omega
      case rel => exact ⟨k + 1, o2, rfl, by omega, by go_num, rfl, HO2, rfl⟩
    · obtain rfl : k = n := Nat.le_antisymm hk (Nat.le_of_not_lt hlt)
      go_wp2
      go_ret
      exact ⟨ret_int (by rw [HT.out, HO.out]), rfl⟩

def sixB (xs : List Int) : Bool := decide (xs.length ≤ 6) && ordB xs.length xs
theorem sixB_perm {xs : List Int} (h : sixB xs = true) : xs.length ≤ 6 ∧ PermN xs.length xs := by
  simp only [sixB, Bool.and_eq_true, decide_eq_true_eq] at h
  exact ⟨h.1, rfl, ordB_iff.1 h.2⟩
theorem i_isSix (v : Value) (xs : List Int) (w : World) (h : Rd w v (ints xs)) : Calls Tryz.prog 69 #[v] w (RetB (.bool (sixB xs)) w) := by
  obtain ⟨a, n, c, rfl, HN, hnc, hc⟩ := h.formN
  by_cases h8 : n ≤ 6
  · have HK := i_isOrder _ xs w h (by have := HN.out; omega)
    rw [← HN.out] at HK
    have HR : Hid (sixB xs = ordB n xs) := by rw [Hid, sixB, ← HN.out]; simp [h8]
    have HK2 := Lib.hid HK
    clear HK
    have i1 : (n : Int) ≤ 6 := by omega
    go_enter Tryz.func69, Tryz.ntmps69
    go_wp2_with (go_at_call 67; refine HK2.out.mono ?_; rintro e w' ⟨rfl, hb⟩)
    go_ret
    exact ⟨by rw [HR.out]; rfl, hb⟩
  · have HR : Hid (sixB xs = false) := by rw [Hid, sixB, ← HN.out]; simp [h8]
    have i1 : ¬ (n : Int) ≤ 6 := by omega
    go_enter Tryz.func69, Tryz.ntmps69
    go_wp2
    go_ret
    exact ⟨ret_bool HR.out.symm, Below.refl _ _⟩

end Go.Proofs.YtggblfnajeikjaaGreat
