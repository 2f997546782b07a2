/- Walks: inverse orders. -/
import Derived.Test.YtlmbaijkeahkfaaDoorPlainFab
import Derived.Test.YtlmbaijkeahkfaaDoorBits5
import Derived.Test.YtlmbaijkeahkfaaDoorApp
import Derived.Deep.LoopGhost
namespace Go.Proofs.YtlmbaijkeahkfaaDoor
open Go.RowKit
set_option linter.unusedVariables false
set_option linter.unusedSimpArgs false

def natA (n : Nat) (x : Nat → Nat) : List Int := atL n fun o => (x o : Int)
theorem natA_len (n : Nat) (x : Nat → Nat) : (natA n x).length = n := atL_length _ _
theorem natA_get {n i : Nat} (x : Nat → Nat) (h : i < n) : (natA n x)[i]? = some ((x i : Nat) : Int) := atL_get _ h
theorem natA_set {n k : Nat} (x : Nat → Nat) (v : Nat) : (natA n x).set k (v : Int) = natA n (upd x k v) :=
  atL_set (fun _ => by rw [upd_at]) fun j hj => by rw [upd_off _ _ hj]
theorem natA_congr {n : Nat} {x y : Nat → Nat} (h : ∀ i, i < n → x i = y i) : natA n x = natA n y := by
  unfold natA atL
  apply List.map_congr_left
  intro i hi
  rw [h i (List.mem_range.1 hi)]
theorem natA_zero (n : Nat) : List.replicate n (Value.int .i64 0) = ints (natA n fun _ => 0) := by
  symm
  rw [List.eq_replicate_iff]
  simp [natA, atL, ints]
/-- An order, as a function. -/
theorem ord_of {n : Nat} {xs : List Int} (hl : xs.length = n) (h : OrdP n xs) : ∃ x, xs = natA n x ∧ Ord n x := by
  have hx : xs = natA n fun o => (xs.getD o 0).toNat := by
    apply List.ext_getElem?
    intro i
    by_cases hi : i < n
    · rw [natA_get _ hi, List.getD_eq_getElem?_getD, List.getElem?_eq_getElem (by omega)]
      have := h.1 xs[i] (List.getElem_mem _)
      simp
      omega
    · rw [List.getElem?_eq_none (by omega), List.getElem?_eq_none (by rw [natA_len]; omega)]
  refine ⟨_, hx, ?_⟩
  have hg : ∀ o, o < n → ∃ (ho : o < xs.length), ((xs.getD o 0).toNat : Int) = xs[o] := fun o ho => by
    refine ⟨by omega, ?_⟩
    rw [List.getD_eq_getElem?_getD, List.getElem?_eq_getElem (by omega)]
    have := h.1 xs[o] (List.getElem_mem _)
    simp
    omega
  have hlx : ∀ o, o < n → (xs.getD o 0).toNat < n := fun o ho => by
    obtain ⟨h1, h2⟩ := hg o ho
    have := h.1 xs[o] (List.getElem_mem _)
    omega
  have hinj : ∀ o p, o < n → p < n → (xs.getD o 0).toNat = (xs.getD p 0).toNat → o = p := fun o p ho hp e => by
    obtain ⟨h1, h2⟩ := hg o ho
    obtain ⟨h3, h4⟩ := hg p hp
    have h5 : xs[o] = xs[p] := by omega
    have h6 := List.pairwise_iff_getElem.1 h.2
    rcases Nat.lt_trichotomy o p with l | l | l
    · exact absurd h5 (h6 o p h1 h3 l)
    · exact l
    · exact absurd h5.symm (h6 p o h3 h1 l)
  refine ⟨hlx, hinj, fun v hv => ?_⟩
  have hn : ((List.range n).map fun o => (xs.getD o 0).toNat).Nodup := by
    rw [List.Nodup, List.pairwise_map]
    refine List.Pairwise.imp_of_mem (fun {a b} ha hb hne e => ?_) (List.nodup_range (n := n))
    exact hne (hinj a b (List.mem_range.1 ha) (List.mem_range.1 hb) e)
  have := all_mem hn (fun x hx => by
    obtain ⟨o, ho, rfl⟩ := List.mem_map.1 hx
    exact hlx o (List.mem_range.1 ho)) (by simp) hv
  obtain ⟨o, ho, e⟩ := List.mem_map.1 this
  exact ⟨o, List.mem_range.1 ho, e⟩
def invK (n : Nat) (x : Nat → Nat) (k v : Nat) : Nat := if invF n x v < k then invF n x v else 0
theorem invK_zero (n : Nat) (x : Nat → Nat) : invK n x 0 = fun _ => 0 := by funext v; simp [invK]
theorem invK_succ {n k : Nat} {x : Nat → Nat} (H : Ord n x) (hk : k < n) : (natA n (invK n x k)).set (x k) (k : Int) = natA n (invK n x (k + 1)) := by
  refine atL_set (fun _ => ?_) fun j hj => ?_
  · rw [invK, H.yx hk, if_pos (by omega)]
  · rw [invK, invK]
    by_cases e : invF n x j = k
    · have := invF_at (n := n) (x := x) (v := j) (by omega)
      rw [e] at this
      exact absurd this.symm hj
    · by_cases e2 : invF n x j < k
      · rw [if_pos e2, if_pos (by omega)]
      · rw [if_neg e2, if_neg (by omega)]
theorem invK_all {n : Nat} {x : Nat → Nat} (H : Ord n x) : natA n (invK n x n) = natA n (invF n x) := natA_congr fun v hv => by rw [invK, if_pos (H.ly hv)]

set_option maxHeartbeats 1000000 in
theorem i_inverse (v : Value) (n : Nat) (x : Nat → Nat) (w : World) (h : Rd w v (ints (natA n x))) (H : Ord n x) (hn : n ≤ 1000) : Calls Tryd.prog 104 #[v] w (RetOwn 3 (ints (natA n (invF n x))) w) := by
  obtain ⟨a, c, rfl, hnc, hc⟩ := h.formi
  rw [natA_len] at h hnc ⊢
  have HS := Lib.hid (fun k hk => invK_succ (k := k) H hk)
  have HA := Lib.hid (invK_all H)
  have HX := Lib.hid (fun k hk => H.lx k hk)
  go_enter Tryd.func104, Tryd.ntmps104
  go_wp2_with (at_make; refine wpList_mk rfl _ _ 22 rfl elI rfl rfl (Nat.le_refl _) (by omega) (by omega) ?_; intro b w1 hb1 hown1 hg1)
  rw [natA_zero, ← invK_zero n x] at hown1
  go_loopg [11] n (fun g i wr => ∃ k : Nat, g = n - k ∧ k ≤ n ∧ i = .int .i64 k ∧ Own wr 3 w.heap.size (.slice (some b) n n) (ints (natA n (invK n x k))) ∧ Below w.heap.size w wr)
  case atStart => exact ⟨0, rfl, Nat.zero_le _, rfl, hown1, (Below.refl _ _).grown hg1 (Nat.le_refl _) (fun _ h => by cases h)⟩
  case round =>
    clear hown1
    obtain ⟨k, hg, hk, rfl, ho, hb⟩ := hrel
    by_cases hlt : k < n
    · obtain ⟨ad, y, hal, hcx, hy⟩ := (h.below hb).int (k := k) (by rw [natA_len]; exact hlt)
      subst hal
      obtain rfl : y = ((x k : Nat) : Int) := by have := hy.out; rw [natA_get _ hlt] at this; cases this; rfl
      have hxk := HX.out k hlt
      have HSK := Lib.hid (HS.out k hlt)
      clear hy
      generalize x k = X at hcx hxk HSK
      have hl : X < (natA n (invK n x k)).length := by rw [natA_len]; exact hxk
      have fz := ho.frozen rfl X
      have hta := ho.rd.cell_int' (natA_get (invK n x k) hxk)
      have hs := (ho.seti rfl hl (k : Int)).1
      have hbs := ho.below_set rfl hl (.int .i64 (k : Int)) hb (Nat.le_refl _)
      rw [HSK.out] at hs
      have i1 : (X : Int) < (n : Int) := by omega
      go_wp2
      go_roundg (n - (k + 1))
      case measure => omega
      case rel => exact ⟨k + 1, rfl, by omega, by go_num, hs, hbs⟩
    · obtain rfl : k = n := by omega
      rw [HA.out] at ho
      go_wp2
      go_ret
      exact ⟨_, rfl, ho, hb⟩

set_option maxHeartbeats 1000000 in
theorem s_l14Inverse (v : Value) (n : Nat) (x : Nat → Nat) (w : World) (h : Rd w v (ints (natA n x))) (H : Ord n x) (hn : n ≤ 1000) : Calls Tryd.prog 81 #[v] w (RetOwn 3 (ints (natA n (invF n x))) w) := by
  obtain ⟨a, c, rfl, hnc, hc⟩ := h.formi
  rw [natA_len] at h hnc ⊢
  have HS := Lib.hid (fun k hk => invK_succ (k := k) H hk)
  have HA := Lib.hid (invK_all H)
  have HX := Lib.hid (fun k hk => H.lx k hk)
  go_enter Tryd.func81, Tryd.ntmps81
  go_wp2_with (at_make; refine wpList_mk rfl _ _ 22 rfl elI rfl rfl (Nat.le_refl _) (by omega) (by omega) ?_; intro b w1 hb1 hown1 hg1)
  rw [natA_zero, ← invK_zero n x] at hown1
  go_loopg [11] n (fun g i wr => ∃ k : Nat, g = n - k ∧ k ≤ n ∧ i = .int .i64 k ∧ Own wr 3 w.heap.size (.slice (some b) n n) (ints (natA n (invK n x k))) ∧ Below w.heap.size w wr)
  case atStart => exact ⟨0, rfl, Nat.zero_le _, rfl, hown1, (Below.refl _ _).grown hg1 (Nat.le_refl _) (fun _ h => by cases h)⟩
  case round =>
    clear hown1
    obtain ⟨k, hg, hk, rfl, ho, hb⟩ := hrel
    by_cases hlt : k < n
    · obtain ⟨ad, y, hal, hcx, hy⟩ := (h.below hb).int (k := k) (by rw [natA_len]; exact hlt)
      subst hal
      obtain rfl : y = ((x k : Nat) : Int) := by have := hy.out; rw [natA_get _ hlt] at this; cases this; rfl
      have hxk := HX.out k hlt
      have HSK := Lib.hid (HS.out k hlt)
      clear hy
      generalize x k = X at hcx hxk HSK
      have hl : X < (natA n (invK n x k)).length := by rw [natA_len]; exact hxk
      have fz := ho.frozen rfl X
      have hta := ho.rd.cell_int' (natA_get (invK n x k) hxk)
      have hs := (ho.seti rfl hl (k : Int)).1
      have hbs := ho.below_set rfl hl (.int .i64 (k : Int)) hb (Nat.le_refl _)
      rw [HSK.out] at hs
      have i1 : (X : Int) < (n : Int) := by omega
      go_wp2
      go_roundg (n - (k + 1))
      case measure => omega
      case rel => exact ⟨k + 1, rfl, by omega, by go_num, hs, hbs⟩
    · obtain rfl : k = n := by omega
      rw [HA.out] at ho
      go_wp2
      go_ret
      exact ⟨_, rfl, ho, hb⟩

end Go.Proofs.YtlmbaijkeahkfaaDoor
