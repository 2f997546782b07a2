/- Joined texts of the proof: FabR, FabS. -/
import Derived.WalkKit
import Derived.WalkSpells
import Derived.WalkLawsBesides
import Derived.Deep.Draws
import Derived.Lib.Hide
import Derived.RegionTactic
import Derived.Test.YtggblfnajeikjaaGreatDoorRows
import Derived.BigQuiet
import Derived.Deep.QuietTactic
import Derived.Deep.RegionLaw
import Derived.Deep.DeepCutAuto
import Derived.Deep.LoopGhost
import Derived.Deep.RegionHeld3
import Derived.Lib.LazyBuf
import Derived.Test.YtggblfnajeikjaaGreatDoorJ1
import Derived.Test.YtggblfnajeikjaaGreatDoorJ6
import Derived.Test.YtggblfnajeikjaaGreatDoorJ7
import Derived.Test.YtggblfnajeikjaaGreatDoorJ9
import Derived.Test.YtggblfnajeikjaaGreatDoorJ10
import Derived.Test.YtggblfnajeikjaaGreatDoorJ11
import Derived.Test.YtggblfnajeikjaaGreatDoorJ16
import Derived.Test.YtggblfnajeikjaaGreatDoorJ19
namespace Go.Proofs.YtggblfnajeikjaaGreatDoor
open Go.RowKit
set_option linter.unusedVariables false
set_option linter.unusedSimpArgs false

def stgK (n : Nat) : Nat := if n = 2 then 1 else if n = 4 then 2 else if n = 8 then 3 else 0
theorem stgK_ok {n : Nat} (h : 0 < stgK n) : Stg n (stgK n) := by
  unfold stgK at *
  unfold Stg
  split at h
  · simp_all
  · split at h
    · simp_all
    · split at h
      · simp_all
      · omega
def stgI (n : Nat) : Int := if stgK n = 0 then -1 else (stgK n : Int)
def stagedB (xs : List Int) : Bool := decide (0 < stgK xs.length) && ordB xs.length xs
def passB (n k : Nat) (x : Nat → Nat) : Bool := (List.range n).all fun i => (List.range i).all fun j => !meetB n k (x i) i (x j) j
theorem passB_no {n k i j : Nat} {x : Nat → Nat} (hi : i < n) (hj : j < i) (h : meetB n k (x i) i (x j) j = true) : passB n k x = false := by
  cases e : passB n k x
  · rfl
  · rw [passB, List.all_eq_true] at e
    have h1 := e i (List.mem_range.2 hi)
    rw [List.all_eq_true] at h1
    have h2 := h1 j (List.mem_range.2 hj)
    rw [h] at h2
    cases h2
theorem passB_yes {n k : Nat} {x : Nat → Nat} (h : ∀ i, i < n → ∀ j, j < i → meetB n k (x i) i (x j) j = false) : passB n k x = true := by
  rw [passB, List.all_eq_true]
  intro i hi
  rw [List.all_eq_true]
  intro j hj
  rw [h i (List.mem_range.1 hi) j (List.mem_range.1 hj)]
  rfl
def frB (n k : Nat) (x : Nat → Nat) (i : Nat) (r : List Int) : Bool := !r.any fun q => meetB n k (x i) i (x q.toNat) q.toNat
def rStep (p : List Int → Bool) (i : Nat) (R : List (List Int)) : List (List Int) :=
  if idxOf2 p R < 0 then R ++ [[(i : Int)]] else R.set (idxOf2 p R).toNat (R.getD (idxOf2 p R).toNat [] ++ [(i : Int)])
def rK (n k : Nat) (x : Nat → Nat) : Nat → List (List Int)
  | 0 => []
  | i + 1 => rStep (frB n k x i) i (rK n k x i)
theorem idxOf2_cases (p : List Int → Bool) (R : List (List Int)) : (idxOf2 p R = -1 ∧ ∀ r ∈ R, p r = false) ∨ ∃ (j : Nat) (xs : List Int), idxOf2 p R = (j : Int) ∧ R[j]? = some xs ∧ p xs = true ∧ ∀ (q : Nat) y, q < j → R[q]? = some y → p y = false := by
  unfold idxOf2
  cases h : R.any p
  · left
    refine ⟨rfl, fun r hr => ?_⟩
    cases hp : p r
    · rfl
    · have : R.any p = true := List.any_eq_true.2 ⟨r, hr, hp⟩
      rw [h] at this; cases this
  · right
    obtain ⟨r, hr, hp⟩ := List.any_eq_true.1 h
    have hl : R.findIdx p < R.length := List.findIdx_lt_length_of_exists ⟨r, hr, hp⟩
    refine ⟨R.findIdx p, R[R.findIdx p], rfl, List.getElem?_eq_getElem hl, List.findIdx_getElem (w := hl), fun q y hq hy => ?_⟩
    have h2 := List.not_of_lt_findIdx hq
    obtain ⟨hq2, e⟩ := List.getElem?_eq_some_iff.1 hy
    rw [← e]
    simpa using h2
theorem rStep_new {p : List Int → Bool} {i : Nat} {R : List (List Int)} (h : idxOf2 p R = -1) : rStep p i R = R ++ [[(i : Int)]] := by rw [rStep, h, if_pos (by omega)]
theorem rStep_in {p : List Int → Bool} {i j : Nat} {R : List (List Int)} {xs : List Int} (h : idxOf2 p R = (j : Int)) (hx : R[j]? = some xs) : rStep p i R = R.set j (xs ++ [(i : Int)]) := by
  rw [rStep, h, if_neg (by omega), Int.toNat_natCast, List.getD_eq_getElem?_getD, hx]
  rfl
theorem rK_inv (n k : Nat) (x : Nat → Nat) : ∀ i, (rK n k x i).length ≤ i ∧ ∀ r ∈ rK n k x i, r.length ≤ i ∧ ∀ q ∈ r, ∃ j : Nat, q = j ∧ j < i
  | 0 => ⟨Nat.le_refl _, fun r hr => (by cases hr)⟩
  | i + 1 => by
    obtain ⟨h1, h2⟩ := rK_inv n k x i
    rw [rK]
    rcases idxOf2_cases (frB n k x i) (rK n k x i) with ⟨e, _⟩ | ⟨j, xs, e, hx, _, _⟩
    · rw [rStep_new e]
      refine ⟨by simp; omega, fun r hr => ?_⟩
      rcases List.mem_append.1 hr with hr | hr
      · obtain ⟨a, b⟩ := h2 r hr
        exact ⟨by omega, fun q hq => by obtain ⟨j, e, h⟩ := b q hq; exact ⟨j, e, by omega⟩⟩
      · rw [List.mem_singleton] at hr
        subst hr
        exact ⟨by simp, fun q hq => by rw [List.mem_singleton] at hq; exact ⟨i, hq, by omega⟩⟩
    · rw [rStep_in e hx]
      refine ⟨by simp; omega, fun r hr => ?_⟩
      rcases List.mem_or_eq_of_mem_set hr with hr | hr
      · obtain ⟨a, b⟩ := h2 r hr
        exact ⟨by omega, fun q hq => by obtain ⟨j, e, h⟩ := b q hq; exact ⟨j, e, by omega⟩⟩
      · subst hr
        obtain ⟨a, b⟩ := h2 xs (List.mem_of_getElem? hx)
        refine ⟨by simp; omega, fun q hq => ?_⟩
        rcases List.mem_append.1 hq with hq | hq
        · obtain ⟨j, e, h⟩ := b q hq; exact ⟨j, e, by omega⟩
        · rw [List.mem_singleton] at hq; exact ⟨i, hq, by omega⟩

theorem i_stages (n : Nat) (w : World) : Calls Tryz.prog 144 #[.int .i64 (n : Int)] w fun e w' => e = .returned (.int .i64 (stgI n)) ∧ w = w' := by
  by_cases h2 : n = 2
  · subst h2
    go_enter Tryz.func144, Tryz.ntmps144
    go_wp2
    go_ret
    exact ⟨rfl, rfl⟩
  · by_cases h4 : n = 4
    · subst h4
      go_enter Tryz.func144, Tryz.ntmps144
      go_wp2
      go_ret
      exact ⟨rfl, rfl⟩
    · by_cases h8 : n = 8
      · subst h8
        go_enter Tryz.func144, Tryz.ntmps144
        go_wp2
        go_ret
        exact ⟨rfl, rfl⟩
      · have HR : Hid (stgI n = -1) := by simp [Hid, stgI, stgK, h2, h4, h8]
        have d2 : ((n : Int) == 2) = false := by rw [beq_eq_false_iff_ne]; omega
        have d4 : ((n : Int) == 4) = false := by rw [beq_eq_false_iff_ne]; omega
        have d8 : ((n : Int) == 8) = false := by rw [beq_eq_false_iff_ne]; omega
        clear h2 h4 h8
        go_enter Tryz.func144, Tryz.ntmps144
        go_wp2
        go_ret
        exact ⟨ret_int HR.out.symm, rfl⟩
theorem i_isStaged (v : Value) (xs : List Int) (w : World) (h : Rd w v (ints xs)) : Calls Tryz.prog 92 #[v] w (RetB (.bool (stagedB xs)) w) := by
  obtain ⟨a, n, c, rfl, HN, hnc, hc⟩ := h.formN
  have HS := Lib.hid (fun W => i_stages n W)
  by_cases h0 : 0 < stgK n
  · have hk3 := stgK_ok h0
    have hn8 : n ≤ 8 ∧ stgK n ≤ 3 := by rcases hk3 with ⟨e, e2⟩ | ⟨e, e2⟩ | ⟨e, e2⟩ <;> omega
    have HK := i_isOrder _ xs w h (by have := HN.out; omega)
    rw [← HN.out] at HK
    have HR : Hid (stagedB xs = ordB n xs) := by rw [Hid, stagedB, ← HN.out]; simp [h0]
    have HK2 := Lib.hid HK
    rw [stgI, if_neg (by omega)] at HS
    clear HK hk3
    generalize stgK n = k at h0 hn8 HS
    have i1 : (k : Int) > 0 := by omega
    go_enter Tryz.func92, Tryz.ntmps92
    go_wp2_with (first
      | (go_at_call 144; refine (HS.out _).mono ?_; rintro e w' ⟨rfl, rfl⟩)
      | (go_at_call 136; refine HK2.out.mono ?_; rintro e w' ⟨rfl, hb⟩))
    go_ret
    exact ⟨by rw [HR.out]; rfl, hb⟩
  · have HR : Hid (stagedB xs = false) := by rw [Hid, stagedB, ← HN.out]; simp [h0]
    rw [stgI, if_pos (by omega)] at HS
    clear h0
    go_enter Tryz.func92, Tryz.ntmps92
    go_wp2_with (go_at_call 144; refine (HS.out _).mono ?_; rintro e w' ⟨rfl, rfl⟩)
    go_ret
    exact ⟨ret_bool HR.out.symm, Below.refl _ _⟩

set_option maxHeartbeats 1000000 in
theorem i_canPass (v : Value) (n k : Nat) (x : Nat → Nat) (w : World) (hs : Stg n k) (H : Ord n x) (h : Rd w v (ints (natA n x))) : Calls Tryz.prog 94 #[v] w (RetB (.bool (passB n k x)) w) := by
  obtain ⟨a, c, rfl, hnc, hc⟩ := h.formi
  rw [natA_len] at h hnc ⊢
  have hn8 : 2 ≤ n ∧ n ≤ 8 := by rcases hs with ⟨rfl, _⟩ | ⟨rfl, _⟩ | ⟨rfl, _⟩ <;> omega
  obtain ⟨ad, rfl, _⟩ := h.cell (k := 0) (by rw [ints_length, natA_len]; omega)
  have HM := Lib.hid (fun (i j : Nat) (hi : i < n) (hj : j < n) W => i_meet n k (x i) i (x j) j W hs (H.lx i hi) hi (H.lx j hj) hj)
  have HC := Lib.hid (fun (W : World) (hW : Below w.heap.size w W) (i : Nat) (hi : i < n) => (h.below hW).cell_int' (natA_get x hi))
  have HY : Hid ((∀ i, i < n → ∀ j, j < i → meetB n k (x i) i (x j) j = false) → passB n k x = true) := passB_yes
  have HN : Hid (∀ i j, i < n → j < i → meetB n k (x i) i (x j) j = true → passB n k x = false) := fun i j => passB_no
  generalize passB n k x = r at HY HN ⊢
  go_enter Tryz.func94, Tryz.ntmps94
  go_wp2
  go_loopg [8] n (fun g iv wr => ∃ i : Nat, g = n - i ∧ i ≤ n ∧ iv = .int .i64 i ∧ Hid (∀ i', i' < i → ∀ j, j < i' → meetB n k (x i') i' (x j) j = false) ∧ Below w.heap.size w wr)
  case atStart => exact ⟨0, rfl, Nat.zero_le _, rfl, fun i h => by omega, Below.refl _ _⟩
  case round =>
    obtain ⟨i, hg, hi, rfl, HI, hb⟩ := hrel
    by_cases hlt : i < n
    · have c1 := HC.out wr hb i hlt
      have HXI : Hid (x i = x i) := rfl
      go_wp2
      clear c1
      go_loopg [14] i (fun g jv wr => ∃ j : Nat, g = i - j ∧ j ≤ i ∧ jv = .int .i64 j ∧ Hid (∀ j', j' < j → meetB n k (x i) i (x j') j' = false) ∧ Below w.heap.size w wr)
      case atStart => exact ⟨0, rfl, Nat.zero_le _, rfl, fun i h => by omega, hb⟩
      case round =>
        clear hb
        obtain ⟨j, hgj, hj, rfl, HJ, hb⟩ := hrel
        by_cases hltj : j < i
        · have c2 := HC.out wr hb j (by omega)
          have hcall := Lib.hid (HM.out i j hlt (by omega))
          cases hm : meetB n k (x i) i (x j) j
          · rw [hm] at hcall
            have HJ2 : Hid (∀ j', j' < j + 1 → meetB n k (x i) i (x j') j' = false) := fun j' hj' => by
              by_cases e : j' = j
              · subst e; exact hm
              · exact HJ.out j' (by omega)
            clear hm
            go_wp2_with (go_at_call 146; refine (hcall.out _).mono ?_; rintro e w2 ⟨rfl, hb2⟩)
            go_roundg (i - (j + 1))
            case measure => omega
            case rel => exact ⟨j + 1, rfl, by omega, by go_num, HJ2, hb.trans (hb2.mono hb.size)⟩
          · rw [hm] at hcall
            have HE := Lib.hid (HN.out i j hlt hltj hm)
            clear hm
            go_wp2_with (go_at_call 146; refine (hcall.out _).mono ?_; rintro e w2 ⟨rfl, hb2⟩)
            go_ret
            exact ⟨ret_bool HE.out.symm, hb.trans (hb2.mono hb.size)⟩
        · obtain rfl : j = i := Nat.le_antisymm hj (Nat.le_of_not_lt hltj)
          have HI2 : Hid (∀ i', i' < j + 1 → ∀ q, q < i' → meetB n k (x i') i' (x q) q = false) := fun i' hi' => by
            by_cases e : i' = j
            · subst e; exact HJ.out
            · exact HI.out i' (by omega)
          go_wp2
          go_roundg (n - (j + 1))
          case measure => omega
          case rel => exact ⟨j + 1, rfl, by omega, by go_num, HI2, hb⟩
    · obtain rfl : i = n := Nat.le_antisymm hi (Nat.le_of_not_lt hlt)
      have HE := Lib.hid (HY.out HI.out)
      go_wp2
      go_ret
      exact ⟨ret_bool HE.out.symm, hb⟩

end Go.Proofs.YtggblfnajeikjaaGreatDoor

namespace Go.Proofs.YtggblfnajeikjaaGreatDoor
open Go.RowKit
set_option linter.unusedVariables false
set_option linter.unusedSimpArgs false

theorem k_RN11 : Known 149 := known Tryz.func149 (by kernel_rfl) (by kernel_rfl)
theorem k_RN1 : Known 148 := known Tryz.func148 (by kernel_rfl) (by kernel_rfl)
set_option maxHeartbeats 2000000 in
theorem i_RN11 (n k i q : Nat) (x : Nat → Nat) (ad : Addr) (c b1 b2 b3 : Nat) (w : World) (hs : Stg n k) (H : Ord n x) (hi : i < n) (hq : q < n) (c1 : w.cell? ⟨b1, 0, none⟩ = some (.slice (some ad) n c)) (c2 : w.cell? ⟨b2, 0, none⟩ = some (.int .i64 ((x i : Nat) : Int))) (c3 : w.cell? ⟨b3, 0, none⟩ = some (.int .i64 (i : Int))) (cq : w.cell? (ad.add q) = some (.int .i64 ((x q : Nat) : Int))) :
    Calls Tryz.prog 149 #[.int .i64 (q : Int), .pointer (some ⟨b1, 0, none⟩), .pointer (some ⟨b2, 0, none⟩), .pointer (some ⟨b3, 0, none⟩)] w (RetB (.bool (meetB n k (x i) i (x q) q)) w) := by
  have KM : Hid (∀ W : World, Below w.heap.size w W → Calls Tryz.prog 146 #[.int .i64 (n : Int), .int .i64 ((x i : Nat) : Int), .int .i64 (i : Int), .int .i64 ((x q : Nat) : Int), .int .i64 (q : Int)] W fun e w' => e = .returned (.bool (meetB n k (x i) i (x q) q)) ∧ Below w.heap.size w w') := fun W hW => (i_meet n k (x i) i (x q) q W hs (H.lx i hi) hi (H.lx q hq) hq).mono fun e w' h => ⟨h.1, hW.trans (h.2.mono hW.size)⟩
  have hn8 : n ≤ 8 := by rcases hs with ⟨rfl, _⟩ | ⟨rfl, _⟩ | ⟨rfl, _⟩ <;> omega
  generalize meetB n k (x i) i (x q) q = m at KM ⊢
  generalize x i = xi at KM c2
  generalize x q = xq at KM cq
  have HT : Hid (∀ wx : World, Below w.heap.size w wx → Below w.heap.size w wx ∧ wx.cell? ⟨b1, 0, none⟩ = some (.slice (some ad) n c) ∧ wx.cell? ⟨b2, 0, none⟩ = some (.int .i64 (xi : Int)) ∧ wx.cell? ⟨b3, 0, none⟩ = some (.int .i64 (i : Int)) ∧ wx.cell? (ad.add q) = some (.int .i64 (xq : Int))) := fun wx hb =>
    ⟨hb, (hb.cell (World.block_lt_of_cell? _ _ c1)).trans c1, (hb.cell (World.block_lt_of_cell? _ _ c2)).trans c2, (hb.cell (World.block_lt_of_cell? _ _ c3)).trans c3, (hb.cell (World.block_lt_of_cell? _ _ cq)).trans cq⟩
  go_enter Tryz.func149, Tryz.ntmps149
  go_wp2_with fail
  go_region_held3 (fun wx => Below w.heap.size w wx ∧ wx.cell? ⟨b1, 0, none⟩ = some (.slice (some ad) n c) ∧ wx.cell? ⟨b2, 0, none⟩ = some (.int .i64 (xi : Int)) ∧ wx.cell? ⟨b3, 0, none⟩ = some (.int .i64 (i : Int)) ∧ wx.cell? (ad.add q) = some (.int .i64 (xq : Int)))
    (first | exact HT.out _ gM | exact HT.out _ (by exact ⟨rfl, rfl, rfl, Nat.le_refl _, fun _ _ => rfl⟩) | go_keep)
    ((go_at_call 146; refine (KM.out _ (by exact (show _ ∧ _ ∧ _ from by assumption).1)).mono ?_; rintro e wM ⟨rfl, gM⟩))
  all_goals
    go_wp2_with fail
    go_ret
    exact ⟨rfl, gM⟩
theorem i_RN1 (n k i : Nat) (x : Nat → Nat) (ad : Addr) (c b1 b2 b3 : Nat) (vr : Value) (r : List Int) (w : World) (hs : Stg n k) (H : Ord n x) (hi : i < n) (c1 : w.cell? ⟨b1, 0, none⟩ = some (.slice (some ad) n c)) (c2 : w.cell? ⟨b2, 0, none⟩ = some (.int .i64 ((x i : Nat) : Int))) (c3 : w.cell? ⟨b3, 0, none⟩ = some (.int .i64 (i : Int))) (ho : Rd w (.slice (some ad) n c) (ints (natA n x)))
    (hr : Rd w vr (ints r)) (hq : ∀ q ∈ r, ∃ j : Nat, q = j ∧ j < n) :
    Calls Tryz.prog 148 #[vr, .pointer (some ⟨b1, 0, none⟩), .pointer (some ⟨b2, 0, none⟩), .pointer (some ⟨b3, 0, none⟩)] w (RetB (.bool (frB n k x i r)) w) := by
  have HC := f_ContainsFuncB (fun q => meetB n k (x i) i (x q.toNat) q.toNat) 149 #[.pointer (some ⟨b1, 0, none⟩), .pointer (some ⟨b2, 0, none⟩), .pointer (some ⟨b3, 0, none⟩)] k_RN11 vr r w hr fun wr y hw hy => by
    obtain ⟨j, rfl, hj⟩ := hq y hy
    have c := (ho.below hw).cell_int' (natA_get x hj)
    exact i_RN11 n k i j x ad _ b1 b2 b3 wr hs H hi hj ((hw.cell (World.block_lt_of_cell? _ _ c1)).trans c1) ((hw.cell (World.block_lt_of_cell? _ _ c2)).trans c2) ((hw.cell (World.block_lt_of_cell? _ _ c3)).trans c3) c
  have HR : Hid (frB n k x i r = !(r.any fun q => meetB n k (x i) i (x q.toNat) q.toNat)) := rfl
  generalize (r.any fun q => meetB n k (x i) i (x q.toNat) q.toNat) = m at HC HR
  have HCC := Lib.hid HC
  obtain ⟨ar, nr, cr, rfl, _, _, _⟩ := hr.formN
  clear HC
  go_enter Tryz.func148, Tryz.ntmps148
  go_wp2_with (go_at_call 119; refine HCC.out.mono ?_; rintro e w2 ⟨rfl, hb2⟩)
  go_ret
  exact ⟨ret_bool HR.out.symm, hb2⟩

set_option maxRecDepth 100000 in
set_option maxHeartbeats 4000000 in
theorem i_RoundsNeeded (v : Value) (n k : Nat) (x : Nat → Nat) (w : World) (hs : Stg n k) (H : Ord n x) (hst : stagedB (natA n x) = true) (h : Rd w v (ints (natA n x))) : Calls Tryz.prog 95 #[v] w (RetB (.int .i64 ((rK n k x n).length : Nat)) w) := by
  obtain ⟨a, c, rfl, hnc, hc⟩ := h.formi
  rw [natA_len] at h hnc ⊢
  have hn8 : 2 ≤ n ∧ n ≤ 8 := by rcases hs with ⟨rfl, _⟩ | ⟨rfl, _⟩ | ⟨rfl, _⟩ <;> omega
  obtain ⟨ad, rfl, _⟩ := h.cell (k := 0) (by rw [ints_length, natA_len]; omega)
  have HX := Lib.hid (fun (W : World) (hW : Below w.heap.size w W) => h.below hW)
  have HC := Lib.hid (fun (W : World) (hW : Below w.heap.size w W) (i : Nat) (hi : i < n) => (h.below hW).cell_int' (natA_get x hi))
  obtain ⟨w0, hw0⟩ : ∃ w0, w.alloc (.cells #[.slice (some ad) n c] 23) = w0 := ⟨_, rfl⟩
  have hb0 : Below w.heap.size w w0 := by rw [← hw0]; exact (Below.refl _ _).alloc (Nat.le_refl _) _
  have hz0 : w0.heap.size = w.heap.size + 1 := by rw [← hw0]; simp
  have c0 : w0.cell? ⟨w.heap.size, 0, none⟩ = some (.slice (some ad) n c) := by rw [← hw0]; exact (cell_of_row _ _ 0 _ _ (0, 0) (heap_alloc_new w _)).trans rfl
  have C0 := Lib.hid c0
  have HIS := Lib.hid (hst ▸ i_isStaged _ _ w0 (h.below hb0))
  have HR : Hid (rK n k x n = rK n k x n) := rfl
  have HRI := Lib.hid (fun i => rK_inv n k x i)
  have HRS : Hid (∀ i, rK n k x (i + 1) = rStep (frB n k x i) i (rK n k x i)) := fun i => rfl
  have HCL := Lib.hid (fun (i : Nat) (hi : i < n) (b2 b3 : Nat) (vr : Value) (r : List Int) (W : World) (hW : Below w.heap.size w W) (c1 : W.cell? ⟨w.heap.size, 0, none⟩ = some (.slice (some ad) n c)) (c2 : W.cell? ⟨b2, 0, none⟩ = some (.int .i64 ((x i : Nat) : Int))) (c3 : W.cell? ⟨b3, 0, none⟩ = some (.int .i64 (i : Int))) (hr : Rd W vr (ints r)) (hq : ∀ q ∈ r, ∃ j : Nat, q = j ∧ j < n) => i_RN1 n k i x ad c w.heap.size b2 b3 vr r W hs H hi c1 c2 c3 (h.below hW) hr hq)
  go_enter Tryz.func95, Tryz.ntmps95
  go_wp2_with (fail)
  refine HIS.out.mono ?_
  rintro e w1 ⟨rfl, hb1⟩
  have hs1 := hb1.size
  have hO1 : Own2 (w1.alloc (.cells #[] 23)) 23 3 (w.heap.size + 1) (w1.alloc (.cells #[] 23)).heap.size (.slice (some ⟨w1.heap.size, 0, none⟩) 0 0) [] := by
    refine ⟨[], by simpa [ints] using Own.lit0 w1 23 (B := w.heap.size + 1) (by omega), fun g hg => ?_, RowsOwn.nil _ _ _ _⟩
    simp [Value.ownBlock] at hg
    simp
    omega
  have hB1 : Below (w.heap.size + 1) w0 (w1.alloc (.cells #[] 23)) := (hb1.mono (by omega)).alloc (by omega) _
  have c1 := (hb1.cell (show w.heap.size < w0.heap.size by omega)).trans C0.out
  have c1a := (((Below.refl w1.heap.size w1).alloc (Nat.le_refl _) (.cells #[] 23)).cell (show w.heap.size < w1.heap.size by omega)).trans c1
  go_wp2_with (fail)
  clear c1 c1a c0
  go_loopg [3, 13] n (fun g vo iv wr => ∃ i : Nat, g = n - i ∧ i ≤ n ∧ iv = .int .i64 i ∧ Own2 wr 23 3 (w.heap.size + 1) wr.heap.size vo (rK n k x i) ∧ Below (w.heap.size + 1) w0 wr)
  case atStart => exact ⟨0, rfl, Nat.zero_le _, rfl, hO1, hB1⟩
  case round =>
    clear hO1 hB1 hb1 hs1
    obtain ⟨i, hg, hi, rfl, ho, hb⟩ := hrel
    obtain ⟨R, hRe⟩ : ∃ R, rK n k x i = R := ⟨_, rfl⟩
    have HI := Lib.hid (HRI.out i)
    have HS1 := Lib.hid (HRS.out i)
    rw [hRe] at ho HI HS1
    by_cases hlt : i < n
    · have hbw := hb0.trans (hb.mono (by omega))
      have cx := HC.out wr hbw i hlt
      clear hRe
      obtain ⟨ao, co, rfl, _, _⟩ := ho.form
      have hRl : R.length ≤ 8 := by have := HI.out.1; omega
      obtain ⟨m, hm⟩ : ∃ m, R.length = m := ⟨_, rfl⟩
      have HMR := Lib.hid hm
      rw [hm] at ho hRl ⊢
      clear hm
      go_upto_region 7 with (fail)
      clear cx
      obtain ⟨w5, hw5⟩ : ∃ w5, (wr.alloc (.cells #[.int .i64 (i : Int)] 3)).alloc (.cells #[.int .i64 ((x i : Nat) : Int)] 3) = w5 := ⟨_, rfl⟩
      have hb5 : Below wr.heap.size wr w5 := by rw [← hw5]; exact ((Below.refl _ _).alloc (Nat.le_refl _) _).alloc (by simp) _
      have hz5 : w5.heap.size = wr.heap.size + 2 := by rw [← hw5]; simp
      have d1 : w5.cell? ⟨wr.heap.size, 0, none⟩ = some (.int .i64 (i : Int)) := by
        have e1 : (wr.alloc (.cells #[.int .i64 (i : Int)] 3)).cell? ⟨wr.heap.size, 0, none⟩ = some (.int .i64 (i : Int)) := (cell_of_row _ _ 0 _ _ (0, 0) (heap_alloc_new wr _)).trans rfl
        rw [← hw5]
        exact (World.cell?_alloc_lt _ _ _ (by simp)).trans e1
      have d2 : w5.cell? ⟨wr.heap.size + 1, 0, none⟩ = some (.int .i64 ((x i : Nat) : Int)) := by
        have := (cell_of_row _ _ 0 _ _ (0, 0) (heap_alloc_new (wr.alloc (.cells #[.int .i64 (i : Int)] 3)) (.cells #[.int .i64 ((x i : Nat) : Int)] 3))).trans rfl
        rw [← hw5]
        simp
      have hsr := hb.size
      have d0 : w5.cell? ⟨w.heap.size, 0, none⟩ = some (.slice (some ad) n c) := (hb5.cell (show w.heap.size < wr.heap.size by omega)).trans ((hb.cell (Nat.lt_succ_self _)).trans C0.out)
      obtain ⟨rows, hov, hTT, hrows⟩ := ho
      have hbw5 := hbw.trans (hb5.mono hbw.size)
      have ho5 : Own2 w5 23 3 (w.heap.size + 1) wr.heap.size (.slice ao m co) R := ⟨rows, hov.below hb5, hTT, hrows.below hb5⟩
      have HIX := Lib.hid (f_IndexFunc2B (frB n k x i) 148 #[.pointer (some ⟨w.heap.size, 0, none⟩), .pointer (some ⟨wr.heap.size + 1, 0, none⟩), .pointer (some ⟨wr.heap.size, 0, none⟩)] k_RN1 (.slice ao m co) R w5 ho5.rd fun W r xs hW hxs hr =>
        HCL.out i hlt (wr.heap.size + 1) wr.heap.size r xs W (hbw5.trans (hW.mono hbw5.size)) ((hW.cell (World.block_lt_of_cell? _ _ d0)).trans d0) ((hW.cell (World.block_lt_of_cell? _ _ d2)).trans d2) ((hW.cell (World.block_lt_of_cell? _ _ d1)).trans d1) hr fun q hq => by
          obtain ⟨j, e, hj⟩ := (HI.out.2 xs hxs).2 q hq
          exact ⟨j, e, by omega⟩)
      clear d2
      rcases idxOf2_cases (frB n k x i) R with ⟨he, _⟩ | ⟨j, xs, he, hxj, _, _⟩
      · have HRN : Hid (rK n k x (i + 1) = R ++ [[(i : Int)]]) := by rw [Hid, HS1.out, rStep_new he]
        rw [he] at HIX
        clear he
        go_upto_region 9 with (go_at_call 147; refine HIX.out.mono ?_; rintro e w6 ⟨rfl, hb6⟩)
        have d6 := (hb6.cell (World.block_lt_of_cell? _ _ d1)).trans d1
        obtain ⟨rows, hov, hTT, hrows⟩ := ho5
        have hb67 : Below w6.heap.size w6 (w6.alloc (.cells #[.int .i64 (i : Int)] 3)) := (Below.refl _ _).alloc (Nat.le_refl _) _
        have hs6 := hb6.size
        have hrow : Own (w6.alloc (.cells #[.int .i64 (i : Int)] 3)) 3 w6.heap.size (.slice (some ⟨w6.heap.size, 0, none⟩) 1 1) (ints [(i : Int)]) := Own.lit w6 3 w6.heap.size #[.int .i64 (i : Int)] (Nat.le_refl _) (by simp)
        have hov7 := (hov.below hb6).below hb67
        have hrows7 := (hrows.below hb6).below hb67
        have hB7 : w.heap.size + 1 ≤ (w6.alloc (.cells #[.int .i64 (i : Int)] 3)).heap.size := by simp; omega
        have HRL : Hid (rows.length = m) := by rw [Hid, hrows.1, HMR.out]
        go_wp2_with (at_builtin; (refine wpList_app1m rfl _ _ 28 rfl elII ?_ hov7 ?_ ?_ hB7 m HRL.out (by omega) (by omega) ?_); (focus exact rfl); (focus (simp [Act.eval])); (focus exact rfl); intro bn cn' w8 ho8 hg8 hat8)
        have ho9 := Own2.app (hrows7.snoc (hrow.mono (show w.heap.size + 1 ≤ w6.heap.size by omega)) (fun k hk => by simp [Value.ownBlock] at hk; simp; omega) (show wr.heap.size ≤ (w6.alloc (.cells #[.int .i64 (i : Int)] 3)).heap.size by simp; omega)) hov7 (by decide) hg8 ho8 hg8.size
        have hb8 := ((hb.trans (hb5.mono (by omega))).trans ((hb6.mono (by omega)).trans (hb67.mono (by omega)))).grown hg8 hB7 fun r hr => (hov7.lt r hr).1
        go_roundg (n - (i + 1))
        case measure => omega
        case rel => exact ⟨i + 1, rfl, by omega, by go_num, by rw [HRN.out]; exact ho9, hb8⟩
      · have HRN : Hid (rK n k x (i + 1) = R.set j (xs ++ [(i : Int)])) := by rw [Hid, HS1.out, rStep_in he hxj]
        rw [he] at HIX
        have hjm : j < m := by have := (List.getElem?_eq_some_iff.1 hxj).1; rw [← HMR.out]; exact this
        have hxl : xs.length ≤ 8 := by have := (HI.out.2 xs (List.mem_of_getElem? hxj)).1; omega
        clear he
        have i0 : ¬ ((j : Int) < 0) := by omega
        go_upto_region 10 with (go_at_call 147; refine HIX.out.mono ?_; rintro e w6 ⟨rfl, hb6⟩)
        have d6 := (hb6.cell (World.block_lt_of_cell? _ _ d1)).trans d1
        have d7 := (((Below.refl w6.heap.size w6).alloc (Nat.le_refl _) (.cells #[.int .i64 (i : Int)] 3)).cell (World.block_lt_of_cell? _ _ d6)).trans d6
        obtain ⟨rows, hov, hTT, hrows⟩ := ho5
        have hs6 := hb6.size
        have ho := hov.below hb6
        have hR := hrows.below hb6
        have HRL : Hid (rows.length = m) := by rw [Hid, hrows.1, HMR.out]
        obtain ⟨r, hr⟩ : ∃ r, rows[j]? = some r := ⟨_, List.getElem?_eq_getElem (by rw [HRL.out]; exact hjm)⟩
        obtain ⟨xs', hx', hor, hrT⟩ := hR.2.1 j r hr
        obtain rfl : xs = xs' := by rw [hxj] at hx'; exact Option.some.inj hx'
        obtain ⟨ar, mr, cr, rfl, HNR, _, _⟩ := hor.rd.formN
        have hmr : mr ≤ 8 := by have := HNR.out; omega
        have HLR : Hid ((ints xs).length = mr) := by rw [Hid, ints_length, HNR.out]
        obtain ⟨bo, rfl⟩ := ho.some_of (by rw [HRL.out]; omega)
        have HRR := Lib.hid hr
        have HCE : Hid (∀ wx : World, Own wx 23 (w.heap.size + 1) (.slice (some bo) m co) rows → wx.cell? (bo.add j) = some (.slice ar mr cr)) := fun wx hx => by
          obtain ⟨ad2, e, hc2⟩ := hx.rd.cell (k := j) (by rw [HRL.out]; exact hjm)
          have h2 := HRR.out
          injection e with e
          rw [List.getElem?_eq_getElem (by rw [HRL.out]; exact hjm)] at h2
          injection h2 with h2
          rw [e, hc2, h2]
        have hcq := HCE.out _ ho
        have hcqA := HCE.out _ (ho.alloc (.cells #[.int .i64 (i : Int)] 3))
        have hsb : w.heap.size + 1 ≤ w6.heap.size := by omega
        have i2 : (j : Int) < (m : Int) := by omega
        clear hr hxj hx'
        go_region_law ((refine step_app1 (by rfl) _ _ _ (by rfl) elI (by rfl) hor (by rfl) (by rfl) hsb (by rw [HLR.out]; omega) (by rw [HLR.out]; omega) ?_; intro b7 c7 w7 ho7 hg7 hat7; have hoo7 := ho.apart hg7 (ho.elem_ne hor (by decide)); have hcq7 := HCE.out _ hoo7; have hfq7 := hoo7.frozen rfl j))
        all_goals
          have hj9 : j < rows.length := by rw [HRL.out]; exact hjm
          have hR7 := hR.set (ys := xs ++ [(i : Int)]) HRR.out hg7 (by rw [ints_append]; exact ho7) (Nat.le_trans (show wr.heap.size ≤ w6.heap.size by omega) hg7.size) (fun g hg => by
            rcases hat_of hat7 g hg with e | e
            · exact .inl e
            · exact .inr (by omega)) (fun g hg => (ho7.lt g hg).2)
          have hb7 := ((hb.trans (hb5.mono (by omega))).trans (hb6.mono (by omega))).grown hg7 hsb (fun r hr => (hor.lt r hr).1)
          have hst := hoo7.set rfl hj9 (.slice b7 ((ints xs).length + 1) c7)
          have hR8 := hR7.outer hst.2 hoo7 (by decide)
          rw [← HRN.out] at hR8
          have hb8 := hb7.grown hst.2 (by have := hb7.size; omega) (fun r hr => (hoo7.lt r hr).1)
          clear hor hcq hcqA hoo7 hg7 hat7 ho7 hR7 hb7
          go_wp2_with fail
          go_roundg (n - (i + 1))
          case measure => omega
          case rel => exact ⟨i + 1, rfl, by omega, by go_num, ⟨_, hst.1, fun g hg => (hst.1.lt g hg).2, hR8.mono (Nat.le_refl _) (by simp)⟩, ⟨hb8.os, hb8.tape, hb8.output, hb8.size, hb8.block⟩⟩
    · obtain rfl : i = n := Nat.le_antisymm hi (Nat.le_of_not_lt hlt)
      have HRE := Lib.hid hRe
      clear hRe
      obtain ⟨ao, co, rfl, _, _⟩ := ho.form
      go_wp2
      go_ret
      exact ⟨ret_int (by rw [HRE.out]), hb0.trans (hb.mono (by omega))⟩

end Go.Proofs.YtggblfnajeikjaaGreatDoor
