/- Walks: short orders. -/
import Derived.Test.YtlmbaijkeahkfaaDoorPlainStack
import Derived.Test.YtlmbaijkeahkfaaDoorApp
import Derived.BigQuiet
import Derived.Deep.QuietTactic
import Derived.Deep.LoopGhost
namespace Go.Proofs.YtlmbaijkeahkfaaDoor
open Go.RowKit
set_option linter.unusedVariables false
set_option linter.unusedSimpArgs false

theorem elB : ElemOk Tryd.prog 65 4 1 (.bool false) := by
  obtain ⟨i, hi, h0, h1, h2⟩ := info_parts (show (Tryd.prog.info? 4).map (fun i => (i.zero, i.size, i.bytes)) = some (some (.bool false), 1, 1) by kernel_rfl)
  exact ⟨i, Tryd.underlying65, hi, h0, h1, h2, rfl⟩
def bools (bs : List Bool) : List Value := bs.map Value.bool
theorem bools_set (bs : List Bool) (k : Nat) (b : Bool) : (bools bs).set k (.bool b) = bools (bs.set k b) := by simp [bools, List.map_set]
theorem bools_len (bs : List Bool) : (bools bs).length = bs.length := by simp [bools]
theorem Rd.boolc {w : World} {p : Addr} {n c k : Nat} {S : List Bool} {b : Bool} (h : Rd w (.slice (some p) n c) (bools S)) (hb : S[k]? = some b) : w.cell? (p.add k) = some (.bool b) := by
  obtain ⟨hk, e⟩ := List.getElem?_eq_some_iff.1 hb
  obtain ⟨ad, had, hc⟩ := h.cell (k := k) (by rw [bools_len]; exact hk)
  injection had with had
  subst had
  rw [hc]
  simp [bools, e]

set_option maxHeartbeats 1000000 in
theorem i_isOrder (v : Value) (xs : List Int) (w : World) (h : Rd w v (ints xs)) (hl : xs.length ≤ 1000) :
    Calls Tryd.prog 85 #[v, .int .i64 (xs.length : Int)] w (RetB (.bool (ordB xs.length xs)) w) := by
  obtain ⟨a, n, c, rfl, HN, hnc, hc⟩ := h.formN
  rw [← HN.out] at hl ⊢
  have H0 : Hid (SeenP n xs 0 (List.replicate n false)) := SeenP.start n xs
  go_enter Tryd.func85, Tryd.ntmps85
  go_wp2_with (at_make; refine wpList_mk rfl _ _ 65 rfl elB rfl rfl (Nat.le_refl _) (by omega) (by omega) ?_; intro b w1 hb1 hown1 hg1)
  go_loopg [16] n (fun g i wr => ∃ (k : Nat) (S : List Bool), g = n - k ∧ k ≤ n ∧ i = .int .i64 k ∧ Hid (SeenP n xs k S) ∧ Own wr 4 w.heap.size (.slice (some b) n n) (bools S) ∧ Below w.heap.size w wr)
  case atStart => exact ⟨0, _, rfl, Nat.zero_le _, rfl, H0, by simpa [bools] using hown1, (Below.refl _ _).grown hg1 (Nat.le_refl _) (fun _ h => by cases h)⟩
  case round =>
    clear H0 hown1
    obtain ⟨k, S, hg, hk, rfl, HS, hown, hbel⟩ := hrel
    by_cases hlt : k < n
    · obtain ⟨ad, x, rfl, hcx, hx⟩ := (h.below hbel).int (k := k) (by have := HN.out; omega)
      have i1 : (k : Int) < (n : Int) := by omega
      by_cases hin : 0 ≤ x ∧ x < (n : Int)
      · obtain ⟨X, rfl⟩ := Int.eq_ofNat_of_zero_le hin.1
        have hXn : X < n := by omega
        have hXS : X < S.length := by rw [HS.out.1]; exact hXn
        obtain ⟨bq, hbq⟩ : ∃ bq, S[X]? = some bq := ⟨_, List.getElem?_eq_getElem hXS⟩
        have hcb := hown.rd.boolc hbq
        have hfz := hown.frozen rfl X
        have i2 : (X : Int) < (n : Int) := hin.2
        have i3 : ¬ (X : Int) < 0 := by omega
        have HBQ := Lib.hid hbq
        have hs := hown.set rfl (show X < (bools S).length by rw [bools_len]; exact hXS) (.bool true)
        have hb2 := hbel.grown hs.2 hbel.size (fun r hr => (hown.lt r hr).1)
        have hs1 := hs.1
        rw [bools_set] at hs1
        clear hbq hs hin
        cases bq with
        | false =>
          have HS2 : Hid (SeenP n xs (k + 1) (S.set X true)) := HS.out.next hx.out hXn HBQ.out
          go_wp2
          go_roundg (n - (k + 1))
          case measure => omega
          case rel => exact ⟨k + 1, _, rfl, by omega, by go_num, HS2, hs1, hb2⟩
        | true =>
          have HR : Hid (ordB n xs = false) := HS.out.twice hx.out HBQ.out
          clear hs1 hb2
          go_wp2
          go_ret
          exact ⟨ret_bool HR.out.symm, hbel⟩
      · have HR : Hid (ordB n xs = false) := HS.out.out hx.out hin
        by_cases h0 : x < 0
        · go_wp2
          go_ret
          exact ⟨ret_bool HR.out.symm, hbel⟩
        · have i3 : ¬ x < (n : Int) := by omega
          go_wp2
          go_ret
          exact ⟨ret_bool HR.out.symm, hbel⟩
    · obtain rfl : k = n := by omega
      have HR : Hid (ordB k xs = true) := by have := HS.out; rw [HN.out] at this; rw [Hid, HN.out]; exact this.fin
      go_wp2
      go_ret
      exact ⟨ret_bool HR.out.symm, hbel⟩

set_option maxHeartbeats 1000000 in
theorem s_l02Perm (v : Value) (xs : List Int) (w : World) (h : Rd w v (ints xs)) (hl : xs.length ≤ 1000) :
    Calls Tryd.prog 79 #[.int .i64 (xs.length : Int), v] w (RetB (.bool (ordB xs.length xs)) w) := by
  obtain ⟨a, n, c, rfl, HN, hnc, hc⟩ := h.formN
  rw [← HN.out] at hl ⊢
  have H0 : Hid (SeenP n xs 0 (List.replicate n false)) := SeenP.start n xs
  have HK := Lib.hid (fun x w => s_l01In x 0 ((n : Int) - 1) w)
  go_enter Tryd.func79, Tryd.ntmps79
  go_wp2_with (at_make; refine wpList_mk rfl _ _ 65 rfl elB rfl rfl (Nat.le_refl _) (by omega) (by omega) ?_; intro b w1 hb1 hown1 hg1)
  go_loopg [16] n (fun g i wr => ∃ (k : Nat) (S : List Bool), g = n - k ∧ k ≤ n ∧ i = .int .i64 k ∧ Hid (SeenP n xs k S) ∧ Own wr 4 w.heap.size (.slice (some b) n n) (bools S) ∧ Below w.heap.size w wr)
  case atStart => exact ⟨0, _, rfl, Nat.zero_le _, rfl, H0, by simpa [bools] using hown1, (Below.refl _ _).grown hg1 (Nat.le_refl _) (fun _ h => by cases h)⟩
  case round =>
    clear H0 hown1
    obtain ⟨k, S, hg, hk, rfl, HS, hown, hbel⟩ := hrel
    by_cases hlt : k < n
    · obtain ⟨ad, x, rfl, hcx, hx⟩ := (h.below hbel).int (k := k) (by have := HN.out; omega)
      have i1 : (k : Int) < (n : Int) := by omega
      by_cases hin : 0 ≤ x ∧ x < (n : Int)
      · obtain ⟨X, rfl⟩ := Int.eq_ofNat_of_zero_le hin.1
        have hXn : X < n := by omega
        have hXS : X < S.length := by rw [HS.out.1]; exact hXn
        obtain ⟨bq, hbq⟩ : ∃ bq, S[X]? = some bq := ⟨_, List.getElem?_eq_getElem hXS⟩
        have hcb := hown.rd.boolc hbq
        have hfz := hown.frozen rfl X
        have i2 : (X : Int) < (n : Int) := hin.2
        have HI : Hid (inB (X : Int) 0 ((n : Int) - 1) = true) := by rw [Hid]; simp [inB]; omega
        have HBQ := Lib.hid hbq
        have hs := hown.set rfl (show X < (bools S).length by rw [bools_len]; exact hXS) (.bool true)
        have hb2 := hbel.grown hs.2 hbel.size (fun r hr => (hown.lt r hr).1)
        have hs1 := hs.1
        rw [bools_set] at hs1
        clear hbq hs hin
        have HK2 := Lib.hid (HK.out (X : Int))
        rw [HI.out] at HK2
        cases bq with
        | false =>
          have HS2 : Hid (SeenP n xs (k + 1) (S.set X true)) := HS.out.next hx.out hXn HBQ.out
          go_wp2_with (go_at_call 71; refine (HK2.out _).mono ?_; rintro e w' ⟨rfl, rfl⟩)
          go_roundg (n - (k + 1))
          case measure => omega
          case rel => exact ⟨k + 1, _, rfl, by omega, by go_num, HS2, hs1, hb2⟩
        | true =>
          have HR : Hid (ordB n xs = false) := HS.out.twice hx.out HBQ.out
          clear hs1 hb2
          go_wp2_with (go_at_call 71; refine (HK2.out _).mono ?_; rintro e w' ⟨rfl, rfl⟩)
          go_ret
          exact ⟨ret_bool HR.out.symm, hbel⟩
      · have HR : Hid (ordB n xs = false) := HS.out.out hx.out hin
        have HI : Hid (inB x 0 ((n : Int) - 1) = false) := by rw [Hid]; simp [inB]; omega
        have HK2 := Lib.hid (HK.out x)
        rw [HI.out] at HK2
        clear hin
        go_wp2_with (go_at_call 71; refine (HK2.out _).mono ?_; rintro e w' ⟨rfl, rfl⟩)
        go_ret
        exact ⟨ret_bool HR.out.symm, hbel⟩
    · obtain rfl : k = n := by omega
      have HR : Hid (ordB k xs = true) := by have := HS.out; rw [HN.out] at this; rw [Hid, HN.out]; exact this.fin
      go_wp2
      go_ret
      exact ⟨ret_bool HR.out.symm, hbel⟩

theorem i_isShortOrder (v : Value) (xs : List Int) (w : World) (h : Rd w v (ints xs)) : Calls Tryd.prog 39 #[v] w (RetB (.bool (shortB xs)) w) := by
  obtain ⟨a, n, c, rfl, HN, hnc, hc⟩ := h.formN
  by_cases h8 : n ≤ 8
  · have HK := i_isOrder _ xs w h (by have := HN.out; omega)
    rw [← HN.out] at HK
    have HR : Hid (shortB xs = ordB n xs) := by rw [Hid, shortB, ← HN.out]; simp [h8]
    have HK2 := Lib.hid HK
    clear HK
    have i1 : (n : Int) ≤ 8 := by omega
    go_enter Tryd.func39, Tryd.ntmps39
    go_wp2_with (go_at_call 85; refine HK2.out.mono ?_; rintro e w' ⟨rfl, hb⟩)
    go_ret
    exact ⟨by rw [HR.out]; rfl, hb⟩
  · have HR : Hid (shortB xs = false) := by rw [Hid, shortB, ← HN.out]; simp [h8]
    have i1 : ¬ (n : Int) ≤ 8 := by omega
    go_enter Tryd.func39, Tryd.ntmps39
    go_wp2
    go_ret
    exact ⟨ret_bool HR.out.symm, Below.refl _ _⟩

theorem s_l14Small (v : Value) (xs : List Int) (w : World) (h : Rd w v (ints xs)) : Calls Tryd.prog 35 #[v] w (RetB (.bool (shortB xs)) w) := by
  obtain ⟨a, n, c, rfl, HN, hnc, hc⟩ := h.formN
  by_cases h8 : n ≤ 8
  · have HK := s_l02Perm _ xs w h (by have := HN.out; omega)
    rw [← HN.out] at HK
    have HR : Hid (shortB xs = ordB n xs) := by rw [Hid, shortB, ← HN.out]; simp [h8]
    have HK2 := Lib.hid HK
    clear HK
    have i1 : (n : Int) ≤ 8 := by omega
    go_enter Tryd.func35, Tryd.ntmps35
    go_wp2_with (go_at_call 79; refine HK2.out.mono ?_; rintro e w' ⟨rfl, hb⟩)
    go_ret
    exact ⟨by rw [HR.out]; rfl, hb⟩
  · have HR : Hid (shortB xs = false) := by rw [Hid, shortB, ← HN.out]; simp [h8]
    have i1 : ¬ (n : Int) ≤ 8 := by omega
    go_enter Tryd.func35, Tryd.ntmps35
    go_wp2
    go_ret
    exact ⟨ret_bool HR.out.symm, Below.refl _ _⟩

end Go.Proofs.YtlmbaijkeahkfaaDoor
