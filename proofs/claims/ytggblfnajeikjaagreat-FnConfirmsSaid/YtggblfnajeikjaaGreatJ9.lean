/- Joined texts of the proof: Bits, StackA, StackB, MergeA. -/
import Derived.WalkKit
import Derived.WalkSpells
import Derived.WalkLawsBesides
import Derived.Deep.Draws
import Derived.Lib.Hide
import Derived.RegionTactic
import Derived.Test.YtggblfnajeikjaaGreatRows
import Derived.BigQuiet
import Derived.Deep.QuietTactic
import Derived.Deep.LoopGhost
import Derived.Test.YtggblfnajeikjaaGreatJ1
import Derived.Test.YtggblfnajeikjaaGreatJ4
import Derived.Test.YtggblfnajeikjaaGreatJ6
namespace Go.Proofs.YtggblfnajeikjaaGreat
open Go.RowKit
set_option linter.unusedVariables false
set_option linter.unusedSimpArgs false

def bitsB (m : Nat) : List Bool := (List.range 8).map fun i => m.testBit i
def onesN (m : Nat) : Nat := (bitsB m).countP fun b => b

set_option maxHeartbeats 1000000 in
theorem f_OnesCount64 (m : Nat) (hm : m < 256) (w : World) : Calls Tryz.prog 153 #[.int .u64 (m : Int)] w fun e w' => e = .returned (.int .i64 (onesN m : Nat)) ∧ w = w' := by
  go_enter Tryz.func153, Tryz.ntmps153
  go_wp2
  go_ret
  refine ⟨congrArg (fun z => Ending.returned (Value.int .i64 z)) ?_, rfl⟩
  revert m
  decide +kernel

theorem f_OnesCount (m : Nat) (hm : m < 256) (w : World) : Calls Tryz.prog 146 #[.int .u64 (m : Int)] w fun e w' => e = .returned (.int .i64 (onesN m : Nat)) ∧ w = w' := by
  have HK := Lib.hid (f_OnesCount64 m hm w)
  go_enter Tryz.func146, Tryz.ntmps146
  go_wp2_with (go_at_call 153; refine HK.out.mono ?_; rintro e w' ⟨rfl, rfl⟩)
  go_ret
  exact ⟨rfl, rfl⟩

theorem i_ones (m : Nat) (hm : m < 256) (w : World) : Calls Tryz.prog 134 #[.int .i64 (m : Int)] w fun e w' => e = .returned (.int .i64 (onesN m : Nat)) ∧ w = w' := by
  have HK := Lib.hid (f_OnesCount m hm w)
  have e1 : IntKind.u64.wrap (m : Int) = (m : Int) := by
    revert m; intro m hm _
    exact (by decide +kernel : ∀ m : Nat, m < 256 → IntKind.u64.wrap (m : Int) = (m : Int)) m hm
  go_enter Tryz.func134, Tryz.ntmps134
  go_wp2_with (go_at_call 146; refine HK.out.mono ?_; rintro e w' ⟨rfl, rfl⟩)
  go_ret
  exact ⟨rfl, rfl⟩

def stepN (m i k : Nat) : Nat := if m.testBit i && !m.testBit k then (m ^^^ (1 <<< i)) ^^^ (1 <<< k) else m
theorem bit_of : ∀ m : Nat, m < 256 → ∀ i : Nat, i < 8 → bits BinOp.and IntKind.i64 ((m : Int) / 2 ^ i) 1 = (if m.testBit i then 1 else 0) := by decide +kernel
theorem xor_of : ∀ m : Nat, m < 256 → ∀ i : Nat, i < 8 → bits BinOp.xor IntKind.i64 (m : Int) (wrap64 (2 ^ i)) = ((m ^^^ (1 <<< i) : Nat) : Int) ∧ m ^^^ (1 <<< i) < 256 := by decide +kernel
set_option maxHeartbeats 1000000 in
theorem i_step (m i k : Nat) (hm : m < 256) (hi : i < 8) (hk : k < 8) (w : World) : Calls Tryz.prog 96 #[.int .i64 (m : Int), .int .i64 (i : Int), .int .i64 (k : Int)] w fun e w' => e = .returned (.int .i64 (stepN m i k : Nat)) ∧ Dr w w' := by
  have b1 := bit_of m hm i hi
  have b2 := bit_of m hm k hk
  cases h1 : m.testBit i
  · have HR : Hid (stepN m i k = m) := by rw [Hid, stepN, h1]; rfl
    rw [h1] at b1
    have c1 : bits BinOp.and IntKind.i64 ((m : Int) / 2 ^ i) 1 = 0 := b1
    clear b1 b2 h1
    go_enter Tryz.func96, Tryz.ntmps96
    go_wp2
    go_ret
    exact ⟨by rw [HR.out]; rfl, Dr.refl _⟩
  · cases h2 : m.testBit k
    · have HR : Hid (stepN m i k = (m ^^^ (1 <<< i)) ^^^ (1 <<< k)) := by rw [Hid, stepN, h1, h2]; rfl
      rw [h1] at b1
      rw [h2] at b2
      have c1 : bits BinOp.and IntKind.i64 ((m : Int) / 2 ^ i) 1 = 1 := b1
      have c2 : bits BinOp.and IntKind.i64 ((m : Int) / 2 ^ k) 1 = 0 := b2
      clear b1 b2
      go_enter Tryz.func96, Tryz.ntmps96
      go_wp2
      go_quiet (fail)
      go_wp2
      go_ret
      have x1 := xor_of m hm i hi
      have x2 := xor_of _ x1.2 k hk
      exact ⟨by rw [HR.out, ← x2.1, ← x1.1]; rfl, (Dr.refl _).step _⟩
    · have HR : Hid (stepN m i k = m) := by rw [Hid, stepN, h1, h2]; rfl
      rw [h1] at b1
      rw [h2] at b2
      have c1 : bits BinOp.and IntKind.i64 ((m : Int) / 2 ^ i) 1 = 1 := b1
      have c2 : bits BinOp.and IntKind.i64 ((m : Int) / 2 ^ k) 1 = 1 := b2
      clear b1 b2 h1 h2
      go_enter Tryz.func96, Tryz.ntmps96
      go_wp2
      go_ret
      exact ⟨by rw [HR.out]; rfl, Dr.refl _⟩

def sortedN (n k : Nat) : Nat := (2 ^ k - 1) * 2 ^ (n - k)
theorem sorted_of : ∀ k : Nat, k < 9 → ∀ d : Nat, d < 9 → k + d < 9 → wrap64 (wrap64 (wrap64 (2 ^ k) - 1) * 2 ^ (k + d - k)) = ((sortedN (k + d) k : Nat) : Int) := by decide +kernel
set_option maxHeartbeats 1000000 in
theorem i_sorted (n m : Nat) (hm : m < 256) (hn : n ≤ 8) (hk : onesN m ≤ n) (w : World) : Calls Tryz.prog 122 #[.int .i64 (n : Int), .int .i64 (m : Int)] w fun e w' => e = .returned (.int .i64 (sortedN n (onesN m) : Nat)) ∧ w = w' := by
  have HK := Lib.hid (i_ones m hm w)
  generalize onesN m = k at *
  obtain ⟨d, rfl⟩ : ∃ d, n = k + d := ⟨n - k, by omega⟩
  go_enter Tryz.func122, Tryz.ntmps122
  go_wp2_with (go_at_call 134; refine HK.out.mono ?_; rintro e w' ⟨rfl, rfl⟩)
  go_ret
  exact ⟨by rw [← sorted_of k (by omega) d (by omega) (by omega)]; rfl, rfl⟩

end Go.Proofs.YtggblfnajeikjaaGreat

namespace Go.Proofs.YtggblfnajeikjaaGreat
open Go.RowKit
set_option linter.unusedVariables false
set_option linter.unusedSimpArgs false

theorem elB : ElemOk Tryz.prog 78 4 1 (.bool false) := by
  obtain ⟨i, hi, h0, h1, h2⟩ := info_parts (show (Tryz.prog.info? 4).map (fun i => (i.zero, i.size, i.bytes)) = some (some (.bool false), 1, 1) by kernel_rfl)
  exact ⟨i, Tryz.underlying78, hi, h0, h1, h2, rfl⟩
def bools (bs : List Bool) : List Value := bs.map Value.bool
theorem bools_set (bs : List Bool) (k : Nat) (b : Bool) : (bools bs).set k (.bool b) = bools (bs.set k b) := by simp [bools, List.map_set]
theorem bools_len (bs : List Bool) : (bools bs).length = bs.length := by simp [bools]
theorem Rd.boolc {w : World} {p : Addr} {n c k : Nat} {S : List Bool} {b : Bool} (h : Rd w (.slice (some p) n c) (bools S)) (hb : S[k]? = some b) : w.cell? (p.add k) = some (.bool b) := by
  obtain ⟨hk, e⟩ := List.getElem?_eq_some_iff.1 hb
  obtain ⟨ad, had, hc⟩ := h.cell (k := k) (by rw [bools_len]; exact hk)
  injection had with had
  subst had
  rw [hc]
  simp [bools, e]

set_option maxHeartbeats 1000000 in
theorem i_isOrder (v : Value) (xs : List Int) (w : World) (h : Rd w v (ints xs)) (hl : xs.length ≤ 1000) :
    Calls Tryz.prog 67 #[v, .int .i64 (xs.length : Int)] w (RetB (.bool (ordB xs.length xs)) w) := by
  obtain ⟨a, n, c, rfl, HN, hnc, hc⟩ := h.formN
  rw [← HN.out] at hl ⊢
  have H0 : Hid (SeenP n xs 0 (List.replicate n false)) := SeenP.start n xs
  go_enter Tryz.func67, Tryz.ntmps67
  go_wp2_with (at_make; refine wpList_mk rfl _ _ 78 rfl elB rfl rfl (Nat.le_refl _) (by omega) (by omega) ?_; intro b w1 hb1 hown1 hg1)
  go_loopg [16] n (fun g i wr => ∃ (k : Nat) (S : List Bool), g = n - k ∧ k ≤ n ∧ i = .int .i64 k ∧ Hid (SeenP n xs k S) ∧ Own wr 4 w.heap.size (.slice (some b) n n) (bools S) ∧ Below w.heap.size w wr)
  case atStart => exact ⟨0, _, rfl, Nat.zero_le _, rfl, H0, by simpa [bools] using hown1, (Below.refl _ _).grown hg1 (Nat.le_refl _) (fun _ h => by cases h)⟩
  case round =>
    clear H0 hown1
    obtain ⟨k, S, hg, hk, rfl, HS, hown, hbel⟩ := hrel
    by_cases hlt : k < n
    · obtain ⟨ad, x, rfl, hcx, hx⟩ := (h.below hbel).int (k := k) (by have := HN.out; omega)
      have i1 : (k : Int) < (n : Int) := by omega
      by_cases hin : 0 ≤ x ∧ x < (n : Int)
      · obtain ⟨X, rfl⟩ := Int.eq_ofNat_of_zero_le hin.1
        have hXn : X < n := by omega
        have hXS : X < S.length := by rw [HS.out.1]; exact hXn
        obtain ⟨bq, hbq⟩ : ∃ bq, S[X]? = some bq := ⟨_, List.getElem?_eq_getElem hXS⟩
        have hcb := hown.rd.boolc hbq
        have hfz := hown.frozen rfl X
        have i2 : (X : Int) < (n : Int) := hin.2
        have i3 : ¬ (X : Int) < 0 := by omega
        have HBQ := Lib.hid hbq
        have hs := hown.set rfl (show X < (bools S).length by rw [bools_len]; exact hXS) (.bool true)
        have hb2 := hbel.grown hs.2 hbel.size (fun r hr => (hown.lt r hr).1)
        have hs1 := hs.1
        rw [bools_set] at hs1
        clear hbq hs hin
        cases bq with
        | false =>
          have HS2 : Hid (SeenP n xs (k + 1) (S.set X true)) := HS.out.next hx.out hXn HBQ.out
          go_wp2
          go_roundg (n - (k + 1))
          case measure => omega
          case rel => exact ⟨k + 1, _, rfl, by omega, by go_num, HS2, hs1, hb2⟩
        | true =>
          have HR : Hid (ordB n xs = false) := HS.out.twice hx.out HBQ.out
          clear hs1 hb2
          go_wp2
          go_ret
          exact ⟨ret_bool HR.out.symm, hbel⟩
      · have HR : Hid (ordB n xs = false) := HS.out.out hx.out hin
        by_cases h0 : x < 0
        · go_wp2
          go_ret
          exact ⟨ret_bool HR.out.symm, hbel⟩
        · have i3 : ¬ x < (n : Int) := by omega
          go_wp2
          go_ret
          exact ⟨ret_bool HR.out.symm, hbel⟩
    · obtain rfl : k = n := by omega
      have HR : Hid (ordB k xs = true) := by have := HS.out; rw [HN.out] at this; rw [Hid, HN.out]; exact this.fin
      go_wp2
      go_ret
      exact ⟨ret_bool HR.out.symm, hbel⟩

theorem i_isShortOrder (v : Value) (xs : List Int) (w : World) (h : Rd w v (ints xs)) : Calls Tryz.prog 98 #[v] w (RetB (.bool (shortB xs)) w) := by
  obtain ⟨a, n, c, rfl, HN, hnc, hc⟩ := h.formN
  by_cases h8 : n ≤ 8
  · have HK := i_isOrder _ xs w h (by have := HN.out; omega)
    rw [← HN.out] at HK
    have HR : Hid (shortB xs = ordB n xs) := by rw [Hid, shortB, ← HN.out]; simp [h8]
    have HK2 := Lib.hid HK
    clear HK
    have i1 : (n : Int) ≤ 8 := by omega
    go_enter Tryz.func98, Tryz.ntmps98
    go_wp2_with (go_at_call 67; refine HK2.out.mono ?_; rintro e w' ⟨rfl, hb⟩)
    go_ret
    exact ⟨by rw [HR.out]; rfl, hb⟩
  · have HR : Hid (shortB xs = false) := by rw [Hid, shortB, ← HN.out]; simp [h8]
    have i1 : ¬ (n : Int) ≤ 8 := by omega
    go_enter Tryz.func98, Tryz.ntmps98
    go_wp2
    go_ret
    exact ⟨ret_bool HR.out.symm, Below.refl _ _⟩

end Go.Proofs.YtggblfnajeikjaaGreat

namespace Go.Proofs.YtggblfnajeikjaaGreat
open Go.RowKit
set_option linter.unusedVariables false
set_option linter.unusedSimpArgs false

theorem getD_eq {T : List Int} {k : Nat} {t : Int} (h : T[k]? = some t) : T.getD k 0 = t := by rw [List.getD_eq_getElem?_getD, h]; rfl
theorem tri_hit {xs : List Int} {i j k : Nat} {x y z : Int} (hij : i < j) (hjk : j < k) (hx : xs[i]? = some x) (hy : xs[j]? = some y) (hz : xs[k]? = some z) (h1 : z < x) (h2 : x < y) : canB xs = false :=
  canB_no (i := i) (j := j) (k := k) ⟨hij, hjk, (List.getElem?_eq_some_iff.1 hz).1, by rw [getD_eq hx, getD_eq hz]; exact h1, by rw [getD_eq hx, getD_eq hy]; exact h2⟩
theorem tri_miss {xs : List Int} {i j k : Nat} {x y z : Int} (hx : xs[i]? = some x) (hy : xs[j]? = some y) (hz : xs[k]? = some z) (h : ¬ (z < x ∧ x < y)) : ¬ Tri xs i j k := by
  rintro ⟨_, _, _, h4, h5⟩
  rw [getD_eq hx, getD_eq hz] at h4
  rw [getD_eq hx, getD_eq hy] at h5
  exact h ⟨h4, h5⟩

set_option maxHeartbeats 1000000 in
theorem i_canStackSort (v : Value) (xs : List Int) (w : World) (hR : Rd w v (ints xs)) (hl : xs.length ≤ 1000) :
    Calls Tryz.prog 55 #[v] w (RetB (.bool (canB xs)) w) := by
  obtain ⟨a, n, c, rfl, HN, hnc, hc⟩ := hR.formN
  rw [← HN.out] at hl
  go_enter Tryz.func55, Tryz.ntmps55
  go_wp2
  go_loopg [10] n (fun g iv wr => ∃ i : Nat, g = n - i ∧ i ≤ n ∧ iv = .int .i64 i ∧ w = wr ∧ Hid (∀ i' j k, i' < i → ¬ Tri xs i' j k))
  case atStart => exact ⟨0, rfl, Nat.zero_le _, rfl, rfl, fun _ _ _ h => absurd h (Nat.not_lt_zero _)⟩
  case round =>
    obtain ⟨i, hg, hi, rfl, rfl, HI⟩ := hrel
    by_cases hlt : i < n
    · obtain ⟨ad, x, rfl, hcx, hx⟩ := hR.int (k := i) (by have := HN.out; omega)
      have i1 : (i : Int) < (n : Int) := by omega
      go_wp2
      go_loopg [5] (n - (i + 1)) (fun g jv wr => ∃ j : Nat, g = n - j ∧ i + 1 ≤ j ∧ j ≤ n ∧ jv = .int .i64 j ∧ w = wr ∧ Hid (∀ j' k, j' < j → ¬ Tri xs i j' k))
      case atStart => exact ⟨i + 1, rfl, Nat.le_refl _, by omega, by go_num, rfl, fun j' k h h2 => by have := h2.1; omega⟩
      case round =>
        obtain ⟨j, hgj, hij, hj, rfl, rfl, HJ⟩ := hrel
        by_cases hltj : j < n
        · obtain ⟨ad2, y, had2, hcy, hy⟩ := hR.int (k := j) (by have := HN.out; omega)
          obtain rfl : ad = ad2 := by injection had2
          clear had2
          have j1 : (j : Int) < (n : Int) := by omega
          have j2 : (j : Int) + 1 ≤ (n : Int) := by omega
          have j3 : (j : Int) + 1 ≤ (c : Int) := by omega
          have j5 : ((j : Int) + 1).toNat = j + 1 := by omega
          have hrC : Rd w (.slice (if c = j + 1 then some ad else some (ad.add (j + 1))) (n - (j + 1)) (c - (j + 1))) (ints (xs.drop (j + 1))) := by rw [← ints_drop]; exact hR.cut (show j + 1 ≤ n by omega)
          obtain ⟨m, hm⟩ : ∃ m, n - (j + 1) = m := ⟨_, rfl⟩
          obtain ⟨cC, hcC⟩ : ∃ cC, c - (j + 1) = cC := ⟨_, rfl⟩
          rw [hm, hcC] at hrC
          have hrC1 : c = j + 1 → Rd w (.slice (some ad) m cC) (ints (xs.drop (j + 1))) := fun e => by rw [if_pos e] at hrC; exact hrC
          have hrC2 : ¬ c = j + 1 → Rd w (.slice (some ⟨ad.block, ad.off + (j + 1), none⟩) m cC) (ints (xs.drop (j + 1))) := fun e => by rw [if_neg e, add_succ] at hrC; exact hrC
          clear hrC
          go_wp2
          all_goals first
            | (have hrC := hrC1 (by assumption); rw [← h]; clear h)
            | (have hrC := hrC2 (by assumption); clear h)
          all_goals (
          go_loopg [28] m (fun g qv wr => ∃ q : Nat, g = m - q ∧ q ≤ m ∧ qv = .int .i64 q ∧ w = wr ∧ Hid (∀ k, k < j + 1 + q → ¬ Tri xs i j k))
          case atStart => exact ⟨0, rfl, Nat.zero_le _, rfl, rfl, fun k hk h2 => by have := h2.2.1; omega⟩
          case round =>
            obtain ⟨q, hgq, hq, rfl, rfl, HQ⟩ := hrel
            by_cases hltq : q < m
            · obtain ⟨adC, z, had3, hcz, hz⟩ := hrC.int (k := q) (by rw [List.length_drop, ← HN.out]; omega)
              have hz' : xs[j + 1 + q]? = some z := by have := hz.out; rw [List.getElem?_drop] at this; exact this
              have q1 : (q : Int) < (m : Int) := by omega
              obtain rfl := Option.some.inj had3
              clear had3
              try rw [Addr.add_lit] at hcz
              by_cases h1 : z < x
              · by_cases h2 : x < y
                · have HR : Hid (canB xs = false) := tri_hit (by omega) (by omega) hx.out hy.out hz' h1 h2
                  clear hz'
                  go_wp2
                  go_ret
                  exact ⟨ret_bool HR.out.symm, Below.refl _ _⟩
                · have HM : Hid (∀ k, k < j + 1 + (q + 1) → ¬ Tri xs i j k) := fun k hk => by
                    by_cases e : k = j + 1 + q
                    · subst e; exact tri_miss hx.out hy.out hz' (fun hh => h2 hh.2)
                    · exact HQ.out k (by omega)
                  clear hz'
                  go_wp2
                  go_roundg (m - (q + 1))
                  case measure => omega
                  case rel => exact ⟨q + 1, rfl, by omega, by go_num, rfl, HM⟩
              · have HM : Hid (∀ k, k < j + 1 + (q + 1) → ¬ Tri xs i j k) := fun k hk => by
                  by_cases e : k = j + 1 + q
                  · subst e; exact tri_miss hx.out hy.out hz' (fun hh => h1 hh.1)
                  · exact HQ.out k (by omega)
                clear hz'
                go_wp2
                go_roundg (m - (q + 1))
                case measure => omega
                case rel => exact ⟨q + 1, rfl, by omega, by go_num, rfl, HM⟩
            · have HM : Hid (∀ j' k, j' < j + 1 → ¬ Tri xs i j' k) := fun j' k hj' h2 => by
                by_cases e : j' = j
                · subst e
                  have := h2.2.2.1
                  exact HQ.out k (by have := HN.out; omega) h2
                · exact HJ.out j' k (by omega) h2
              go_wp2
              go_roundg (n - (j + 1))
              case measure => omega
              case rel => exact ⟨j + 1, rfl, by omega, by omega, by go_num, rfl, HM⟩)
        · have HM : Hid (∀ i' j k, i' < i + 1 → ¬ Tri xs i' j k) := fun i' j' k hi' h2 => by
            by_cases e : i' = i
            · subst e
              have := h2.2.1
              have := h2.2.2.1
              exact HJ.out j' k (by have := HN.out; omega) h2
            · exact HI.out i' j' k (by omega) h2
          go_wp2
          go_roundg (n - (i + 1))
          case measure => omega
          case rel => exact ⟨i + 1, rfl, by omega, by go_num, rfl, HM⟩
    · have HR : Hid (canB xs = true) := canB_yes fun i' j k h2 => by
        have h3 := h2.1
        have h4 := h2.2.1
        have h5 := h2.2.2.1
        exact HI.out i' j k (by have := HN.out; omega) h2
      go_wp2
      go_ret
      exact ⟨ret_bool HR.out.symm, Below.refl _ _⟩

theorem I_CanStackSort (v : Value) (xs : List Int) (w : World) (h : Rd w v (ints xs)) : Calls Tryz.prog 65 #[v] w (RetB (.bool (shortB xs && canB xs)) w) := by
  have HS := i_isShortOrder v xs w h
  obtain ⟨a, n, c, rfl, HN, hnc, hc⟩ := h.formN
  cases hs : shortB xs
  · rw [hs] at HS
    have HK := Lib.hid HS
    clear HS hs
    go_enter Tryz.func65, Tryz.ntmps65
    go_wp2_with (go_at_call 98; refine HK.out.mono ?_; rintro e w' ⟨rfl, hb⟩)
    go_ret
    exact ⟨rfl, hb⟩
  · have h8 := (shortB_iff.1 hs).1
    rw [hs] at HS
    have HK := Lib.hid HS
    have HC := Lib.hid (fun w (h : Rd w _ (ints xs)) => i_canStackSort (.slice a n c) xs w h (by omega))
    generalize canB xs = cb at *
    clear HS hs
    go_enter Tryz.func65, Tryz.ntmps65
    go_wp2_with (first | (go_at_call 98; refine HK.out.mono ?_; rintro e w' ⟨rfl, hb⟩) | (go_at_call 55; refine (HC.out _ (h.below hb)).mono ?_; rintro e w2 ⟨rfl, hb2⟩))
    go_ret
    exact ⟨rfl, hb.trans (hb2.mono hb.size)⟩

end Go.Proofs.YtggblfnajeikjaaGreat

namespace Go.Proofs.YtggblfnajeikjaaGreat
open Go.RowKit
set_option linter.unusedVariables false
set_option linter.unusedSimpArgs false

def lenB (x : Int) : Bool := inB x 1 1000
def lensB (xs : List Int) : Bool := decide (xs.length ≤ 8) && xs.all lenB
theorem lensB_iff {xs : List Int} : lensB xs = true ↔ xs.length ≤ 8 ∧ ∀ x ∈ xs, 1 ≤ x ∧ x ≤ 1000 := by
  simp [lensB, lenB, inB_iff]
def sumL : List Int → Int
  | [] => 0
  | x :: t => x + sumL t
theorem sumL_append (a b : List Int) : sumL (a ++ b) = sumL a + sumL b := by
  induction a with
  | nil => simp [sumL]
  | cons x t ih => simp only [List.cons_append, sumL, ih]; omega
theorem sumL_bd : ∀ (xs : List Int), (∀ x ∈ xs, 1 ≤ x ∧ x ≤ 1000) → 0 ≤ sumL xs ∧ sumL xs ≤ 1000 * (xs.length : Int)
  | [], _ => by simp [sumL]
  | x :: t, h => by
    have h1 := h x (by simp)
    have h2 := sumL_bd t fun y hy => h y (by simp [hy])
    simp only [sumL, List.length_cons]
    omega
def nbS (b t : Int) : Int := if b < 0 ∨ t < b then t else b
/-- The best over the first k cuts. -/
def nbK (g : List Int → Int) (xs : List Int) : Nat → Int
  | 0 => -1
  | k + 1 => nbS (nbK g xs k) (g (xs.take (k + 1)) + g (xs.drop (k + 1)))
def nb : Nat → List Int → Int
  | 0, _ => 0
  | f + 1, xs => if xs.length < 2 then 0 else nbK (nb f) xs (xs.length - 1) + sumL xs
theorem k_LengthsOk1 : Known 108 := known Tryz.func108 (by kernel_rfl) (by kernel_rfl)
theorem i_LengthsOk1 (x : Int) (w : World) : Calls Tryz.prog 108 #[.int .i64 x] w fun e w' => e = .returned (.bool (!lenB x)) ∧ w = w' := by
  by_cases h : x < 1
  · have H : Hid ((!lenB x) = true) := by rw [Hid, lenB, inB, decide_eq_false (by omega)]; rfl
    have h1 : decide (x < 1) = true := by simpa using h
    go_enter Tryz.func108, Tryz.ntmps108
    go_wp2
    go_ret
    exact ⟨ret_bool (by rw [H.out]), rfl⟩
  · have H : Hid ((!lenB x) = decide (x > 1000)) := by
      rw [Hid, lenB, inB, decide_eq_true (p := 1 ≤ x) (by omega)]
      by_cases h2 : x ≤ 1000
      · simp [h2]
      · simp [h2] <;> omega
    have h1 : decide (x < 1) = false := by simpa using h
    go_enter Tryz.func108, Tryz.ntmps108
    go_wp2
    go_ret
    exact ⟨ret_bool H.out.symm, rfl⟩
set_option maxHeartbeats 1000000 in
theorem i_LengthsOk (v : Value) (xs : List Int) (w : World) (h : Rd w v (ints xs)) : Calls Tryz.prog 77 #[v] w fun e w' => e = .returned (.bool (lensB xs)) ∧ w = w' := by
  obtain ⟨a, c, rfl, h2, h3⟩ := h.formi
  have HF := Lib.hid (f_ContainsFunc (fun x => !lenB x) 108 #[] k_LengthsOk1 _ xs w h (fun x _ => by simpa using i_LengthsOk1 x w))
  have HR : Hid (lensB xs = (decide (xs.length ≤ 8) && !(xs.any fun x => !lenB x))) := by
    show _ = _
    rw [List.not_any_eq_all_not]
    simp [lensB]
  generalize (xs.any fun x => !lenB x) = r at HF HR
  by_cases h16 : xs.length ≤ 8
  · have HR2 : Hid (lensB xs = !r) := by rw [Hid, HR.out, decide_eq_true h16]; rfl
    go_enter Tryz.func77, Tryz.ntmps77
    go_wp2_with (go_at_call 107; refine HF.out.mono ?_; rintro e w' ⟨rfl, rfl⟩)
    go_ret
    exact ⟨ret_bool (by rw [HR2.out]), rfl⟩
  · have HR2 : Hid (lensB xs = false) := by rw [Hid, HR.out, decide_eq_false h16]; rfl
    have hd : decide ((xs.length : Int) ≤ 8) = false := by simp; omega
    go_enter Tryz.func77, Tryz.ntmps77
    go_wp2
    go_ret
    exact ⟨ret_bool (by rw [HR2.out]), rfl⟩

end Go.Proofs.YtggblfnajeikjaaGreat
