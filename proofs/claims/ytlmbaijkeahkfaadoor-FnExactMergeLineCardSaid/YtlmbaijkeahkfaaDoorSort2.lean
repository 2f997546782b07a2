/- Walks: the reference's sort. -/
import Derived.Test.YtlmbaijkeahkfaaDoorSort
namespace Go.Proofs.YtlmbaijkeahkfaaDoor
open Go.RowKit
set_option linter.unusedVariables false
set_option linter.unusedSimpArgs false

set_option maxHeartbeats 2000000 in
theorem s_l08Sort (v : Value) (xs : List Int) (w : World) (h : Rd w v (ints xs)) (hl : xs.length ≤ 1000) : Calls Tryd.prog 72 #[v] w (RetOwn 3 (ints (srt xs)) w) := by
  obtain ⟨a, c, rfl, h2, h3⟩ := h.formi
  go_enter Tryd.func72, Tryd.ntmps72
  go_wp2
  go_loopw [3, 11] (fun vo i wr => ∃ k : Nat, k ≤ xs.length ∧ i = .int .i64 k ∧ (∃ p m c, vo = .slice (some p) m c) ∧ Own wr 3 w.heap.size vo (ints (srt (xs.take k))) ∧ Below w.heap.size w wr) (fun _ i _ => xs.length - (intOf i).toNat)
  case atStart => exact ⟨0, Nat.zero_le _, rfl, ⟨_, _, _, rfl⟩, Own.lit0 w 3 (Nat.le_refl _), (Below.refl _ _).alloc (Nat.le_refl _) _⟩
  case round =>
    obtain ⟨wo, rfl⟩ : ∃ wo : World, wo = wr := ⟨_, rfl⟩
    obtain ⟨k, hk, rfl, ⟨ap, mp, cp, rfl⟩, ho, hb⟩ := hrel
    by_cases hlt : k < xs.length
    · obtain ⟨ad, x, rfl, hc, hx⟩ := (h.below hb).int hlt
      have hsl := srt_length (xs.take k)
      rw [List.length_take] at hsl
      have HST := Lib.hid (fun q => srt_step (q := q) hx.out)
      obtain ⟨s, hs⟩ : ∃ s, srt (xs.take k) = s := ⟨_, rfl⟩
      rw [hs] at ho hsl HST
      obtain ⟨L, hL⟩ : ∃ L, s.length = L := ⟨_, rfl⟩
      have hL1 : L ≤ 1000 := by omega
      obtain ⟨ao, co, hfo, hco, hco2⟩ := ho.rd.formi
      injection hfo with hf1 hf2 hf3
      subst hf1 hf2 hf3
      rw [hL] at ho hco ⊢
      have HL := Lib.hid hL
      clear hs hsl hL
      go_wp2
      go_loopw [6] (fun q wi => ∃ j : Nat, j ≤ L ∧ q = .int .i64 j ∧ Hid (∀ (i : Nat) y, j ≤ i → s[i]? = some y → x < y) ∧ wo = wi) (fun q _ => (intOf q).toNat)
      case atStart => exact ⟨L, Nat.le_refl _, rfl, fun i y hi hy => by have := (List.getElem?_eq_some_iff.1 hy).1; have := HL.out; omega, rfl⟩
      case round =>
        obtain ⟨j, hj, rfl, HG, rfl⟩ := hrel
        by_cases hjs : ∃ y, 0 < j ∧ s[j - 1]? = some y ∧ x < y
        · obtain ⟨y, hj0, hy, hxy⟩ := hjs
          obtain ⟨i, rfl⟩ : ∃ i, j = i + 1 := ⟨j - 1, by omega⟩
          rw [Nat.add_sub_cancel] at hy
          obtain ⟨ad2, y2, had2, hc2, hy2⟩ := ho.rd.int (k := i) (by have := HL.out; omega)
          obtain rfl : ap = ad2 := by injection had2
          clear had2
          have e : y2 = y := by have := hy2.out; rw [hy] at this; cases this; rfl
          subst e
          have d1 : decide (y2 > x) = true := by simpa using hxy
          have d0 : decide (((i + 1 : Nat) : Int) > 0) = true := by simp
          have HY := Lib.hid hy
          clear hy hxy
          go_wp2
          go_roundw
          case rel => exact ⟨i, by omega, by go_num, fun i' y' hi hy' => by
            by_cases e : i' = i
            · subst e
              rw [HY.out] at hy'
              cases hy'
              simpa using d1
            · exact HG.out i' y' (by omega) hy', trivial⟩
          case measure => simp [intOf]
        · have HST2 := Lib.hid (HST.out j (by have := HL.out; omega) HG.out (fun y h0 hy => Int.not_lt.mp (fun hxy => hjs ⟨y, h0, hy, hxy⟩)))
          have hsb := hb.size
          have hrT : Rd wo (.slice (some ap) j cp) (ints (s.take j)) := by rw [← ints_take]; exact ho.rd.take hj
          have hrC : Rd wo (.slice (if cp = j then some ap else some (ap.add j)) (L - j) (cp - j)) (ints (s.drop j)) := by rw [← ints_drop]; exact ho.rd.cut hj
          have HT1 : Hid ((ints (s.take j)).length = j) := by rw [Hid, ints_length, List.length_take]; have := HL.out; omega
          have HT2 : Hid ((ints (s.drop j)).length = L - j) := by rw [Hid, ints_length, List.length_drop]; have := HL.out; omega
          have i1 : (j : Int) ≤ (cp : Int) := by omega
          have i2 : (j : Int) ≤ (L : Int) := by omega
          have fin : ∀ (b : Option Addr) (m c' : Nat) (wx : World), Own wx 3 wo.heap.size (.slice b m c') (ints (s.take j) ++ [.int .i64 x] ++ ints (s.drop j)) → Below wo.heap.size wo wx → Own wx 3 w.heap.size (.slice b m c') (ints (srt (xs.take (k + 1)))) ∧ Below w.heap.size w wx := fun b m c' wx h1 h2 => by
            refine ⟨?_, hb.trans (h2.mono hsb)⟩
            rw [HST2.out]
            have := h1.mono (B' := w.heap.size) hsb
            simpa [ints] using this
          clear HST2 HST HG
          by_cases hj0 : j = 0
          · subst hj0
            have d0 : decide (((0 : Nat) : Int) > 0) = false := rfl
            replace hrC : Rd wo (.slice (some ap) L cp) (ints (s.drop 0)) := by rw [List.drop_zero]; exact ho.rd
            go_wp2_with (first
              | (at_builtin; (refine wpList_copy (B := w.heap.size) rfl _ _ 22 rfl elI hrT rfl rfl (oneCell_ints1 _) hsb _ HT1.out (by omega) (by omega) ?_); intro b1 c1 w1 ho1 hb1)
              | (at_builtin; refine wpList_app1m rfl _ _ 22 rfl elI rfl ho1 (by show Value.slice (some ⟨w1.heap.size, 0, none⟩) 1 1 = _; simp) rfl hb1.size _ HT1.out (by omega) (by omega) ?_; intro b2 c2 w2 ho2 hg2 hat2; have hb2 := hb1.grown hg2 hb1.size (fun r hr => (ho1.lt r hr).1))
              | (at_builtin; refine wpList_appn rfl _ _ 22 rfl elI ho2 (hrC.below hb2) rfl (by first | rfl | simp) (oneCell_ints1 _) hb2.size (L + 1) (by rw [List.length_append, HT1.out, HT2.out]; simp; omega) (by omega) (by omega) ?_; intro b3 c3 w3 ho3 hg3 hat3; have hb3 := hb2.grown hg3 hb2.size (fun r hr => (ho2.lt r hr).1)))
            obtain ⟨f1, f2⟩ := fin _ _ _ _ ho3 hb3
            go_roundw
            case rel => exact ⟨k + 1, by omega, by go_num, by obtain ⟨p, rfl⟩ := ho3.some_of (by simp; omega); exact ⟨_, _, _, rfl⟩, f1, f2⟩
            case measure => simp [intOf]; omega
          · obtain ⟨i, rfl⟩ : ∃ i, j = i + 1 := ⟨j - 1, by omega⟩
            obtain ⟨ad2, y, had2, hc2, hy⟩ := ho.rd.int (k := i) (by have := HL.out; omega)
            obtain rfl : ap = ad2 := by injection had2
            clear had2
            have d1 : decide (y > x) = false := by
              have : ¬ x < y := fun hxy => hjs ⟨y, by omega, by simpa using hy.out, hxy⟩
              simpa using this
            have d0 : decide (((i + 1 : Nat) : Int) > 0) = true := by simp
            clear hjs
            go_wp2_with (first
              | (at_builtin; (refine wpList_copy (B := w.heap.size) rfl _ _ 22 rfl elI hrT rfl rfl (oneCell_ints1 _) hsb _ HT1.out (by omega) (by omega) ?_); intro b1 c1 w1 ho1 hb1)
              | (at_builtin; refine wpList_app1m rfl _ _ 22 rfl elI rfl ho1 (by show Value.slice (some ⟨w1.heap.size, 0, none⟩) 1 1 = _; simp) rfl hb1.size _ HT1.out (by omega) (by omega) ?_; intro b2 c2 w2 ho2 hg2 hat2; have hb2 := hb1.grown hg2 hb1.size (fun r hr => (ho1.lt r hr).1))
              | (at_builtin; refine wpList_appn rfl _ _ 22 rfl elI ho2 (hrC.below hb2) rfl (by first | rfl | simp) (oneCell_ints1 _) hb2.size (L + 1) (by rw [List.length_append, HT1.out, HT2.out]; simp; omega) (by omega) (by omega) ?_; intro b3 c3 w3 ho3 hg3 hat3; have hb3 := hb2.grown hg3 hb2.size (fun r hr => (ho2.lt r hr).1)))
            obtain ⟨f1, f2⟩ := fin _ _ _ _ ho3 hb3
            go_roundw
            case rel => exact ⟨k + 1, by omega, by go_num, by obtain ⟨p, rfl⟩ := ho3.some_of (by simp; omega); exact ⟨_, _, _, rfl⟩, f1, f2⟩
            case measure => simp [intOf]; omega
    · obtain rfl : xs.length = k := by omega
      rw [List.take_length] at ho
      go_wp2
      go_ret
      exact ⟨_, rfl, ho, hb⟩

end Go.Proofs.YtlmbaijkeahkfaaDoor
