/- Walks: sorting with a stack, in the reference. -/
import Derived.Test.YtdagkgkllgpeeaaDoorStackB
import Derived.Test.YtdagkgkllgpeeaaDoorOwnsL
import Derived.Test.YtdagkgkllgpeeaaDoorStrsI
import Derived.Deep.DeepCutAuto
namespace Go.Proofs.YtdagkgkllgpeeaaDoor
open Go.RowKit
set_option linter.unusedVariables false
set_option linter.unusedSimpArgs false

theorem drop_rev {xs : List Int} {k : Nat} {x : Int} (h : xs[k]? = some x) : (xs.drop k).reverse = (xs.drop (k + 1)).reverse ++ [x] := by
  obtain ⟨hk, rfl⟩ := List.getElem?_eq_some_iff.1 h
  rw [List.drop_eq_getElem_cons hk, List.reverse_cons]
theorem popA_nil (x : Int) (o : List Int) (w : List UInt8) : popA x o [] w = (o, [], w) := rfl
theorem popA_stop {x a : Int} (h : ¬ a < x) (o r : List Int) (w : List UInt8) : popA x o (a :: r) w = (o, a :: r, w) := by rw [popA, if_neg h]
theorem popA_go {x a : Int} (h : a < x) (o r : List Int) (w : List UInt8) : popA x o (a :: r) w = popA x (o ++ [a]) r (w ++ [116]) := by rw [popA, if_pos h]
theorem stk_of {xs : List Int} {k : Nat} {x : Int} {O R O2 R2 : List Int} {W W2 : List UInt8} (hx : xs[k]? = some x) (h : stkR xs k = (O, R, W)) (hp : popA x O2 R2 W2 = popA x O R W) (hs : popA x O2 R2 W2 = (O2, R2, W2)) :
    stkR xs (k + 1) = (O2, x :: R2, W2 ++ [112]) := by
  rw [stkR_succ hx, h, stk1, ← hp, hs]
theorem rev_top (a : Int) (r : List Int) : (a :: r).reverse[r.length]? = some a := by
  rw [List.reverse_cons, List.getElem?_append_right (by simp)]
  simp
/-- The last is taken off a slice that is owned. -/
theorem OwnsL.pop1 {w : World} {E B n c ρ : Nat} {p0 : Value × List Int} {L : List (Value × List Int)} {a : Option Addr} {x : Int} {r : List Int} (h : OwnsL w E B (p0 :: (.slice a n c, (x :: r).reverse) :: L)) (hn : ρ ≤ n) (hr : ρ = r.length) :
    OwnsL w E B (p0 :: (.slice a ρ c, r.reverse) :: L) := by
  have ho := h.o1.take hn
  dsimp only at ho
  rw [ints_take, List.reverse_cons, List.take_append_of_le_length (by simp; omega), List.take_of_length_le (by simp; omega)] at ho
  exact h.t1 (World.grownBy.refl w _) ho (fun g hg => .inl (by cases a <;> exact hg))

set_option maxRecDepth 100000 in
set_option maxHeartbeats 1000000 in
theorem s_l17Turn (v : Value) (xs : List Int) (w : World) (h : Rd w v (ints xs)) (hl : xs.length ≤ 1000) : Calls Tryd.prog 192 #[v] w (RetOwn 3 (ints xs.reverse) w) := by
  obtain ⟨a, n, c, rfl, HN, hnc, hc⟩ := h.formN
  rw [← HN.out] at hl
  have hA : Own (w.alloc (.cells #[] 3)) 3 w.heap.size (.slice (some ⟨w.heap.size, 0, none⟩) 0 0) (ints (xs.drop n).reverse) := by
    rw [List.drop_eq_nil_of_le (by rw [HN.out]; exact Nat.le_refl _)]
    exact Own.lit0 w 3 (Nat.le_refl _)
  have hb0 : Below w.heap.size w (w.alloc (.cells #[] 3)) := (Below.refl _ _).alloc (Nat.le_refl _) _
  go_enter Tryd.func192, Tryd.ntmps192
  go_wp2
  go_loopg [3, 4] n (fun g vo iv wr => ∃ (k : Nat) (z : Int), g = k ∧ k ≤ n ∧ iv = .int .i64 z ∧ z = (k : Int) - 1 ∧ Own wr 3 w.heap.size vo (ints (xs.drop k).reverse) ∧ Below w.heap.size w wr)
  case atStart => exact ⟨n, _, rfl, Nat.le_refl _, rfl, rfl, hA, hb0⟩
  case round =>
    clear hA hb0
    obtain ⟨k, z, hg, hk, rfl, hz, ho, hb⟩ := hrel
    obtain ⟨ao, mo, co, rfl, HMO, _, _⟩ := ho.rd.formN
    have hmo : mo ≤ 1000 := by have := HMO.out; have := HN.out; simp at *; omega
    have HLe : Hid ((ints (xs.drop k).reverse).length = mo) := by rw [Hid, ints_length]; exact HMO.out.symm
    rcases Nat.eq_zero_or_pos k with hk0 | hk0
    · subst hk0
      have d0 : ¬ (0 ≤ z) := by omega
      have d1 : decide (z ≥ 0) = false := by simp; omega
      rw [List.drop_zero] at ho
      clear hz
      go_wp2
      go_ret
      exact ⟨_, rfl, ho, hb⟩
    · obtain ⟨K, rfl⟩ : ∃ K, k = K + 1 := ⟨k - 1, by omega⟩
      obtain rfl : z = (K : Int) := by omega
      obtain ⟨ad, x, rfl, hcx, hx⟩ := (h.below hb).int (k := K) (by have := HN.out; omega)
      have i1 : (K : Int) < (n : Int) := by omega
      have HD : Hid (ints (xs.drop K).reverse = ints (xs.drop (K + 1)).reverse ++ [.int .i64 x]) := by rw [Hid, drop_rev hx.out, ints_append]; rfl
      have hsb := hb.size
      clear hz
      go_wp2_with (at_builtin; refine wpList_app1m rfl _ _ 22 rfl elI rfl ho (by show Value.slice (some ⟨wr.heap.size, 0, none⟩) 1 1 = _; simp) rfl hsb _ HLe.out (by omega) (by omega) ?_; intro b5 c5 w5 ho5 hg5 hat5)
      go_roundg K
      case measure => omega
      case rel => exact ⟨K, _, rfl, by omega, rfl, rfl, by rw [HD.out]; exact ho5, hb.grown hg5 hsb (fun r hr => (ho.lt r hr).1)⟩

set_option maxRecDepth 100000 in
set_option maxHeartbeats 4000000 in
theorem s_StackSort (v : Value) (xs : List Int) (w : World) (h : Rd w v (ints xs)) (hs : shortB xs = true) : Calls Tryd.prog 110 #[v] w (RetOwn 3 (ints (stkS xs)) w) := by
  have HS0 := s_l14Small v xs w h
  have h8 := (shortB_iff.1 hs).1
  rw [hs] at HS0
  have HS := Lib.hid HS0
  clear HS0 hs
  obtain ⟨aT, n, cT, rfl, HN, hnc, hc⟩ := h.formN
  rw [← HN.out] at h8
  have HSL : Hid (∀ k, k ≤ xs.length → (stkR xs k).1.length + (stkR xs k).2.1.length = k ∧ (stkR xs k).2.2.length = k + (stkR xs k).1.length) := stkR_len xs
  go_enter Tryd.func110, Tryd.ntmps110
  go_upto_region 3 with (go_at_call 50; refine HS.out.mono ?_; rintro e w1 ⟨rfl, hb1⟩)
  have hsz1 := hb1.size
  have hA1 := (OwnsL.nil w1 3 w.heap.size).snoc ((Below.refl _ _).alloc (Nat.le_refl _) (.cells #[] 3)) hsz1 (Own.lit0 w1 3 (Nat.le_refl _))
  have hA2 := hA1.snoc ((Below.refl _ _).alloc (Nat.le_refl _) (.cells #[] 3)) (by simp; omega) (Own.lit0 _ 3 (Nat.le_refl _))
  have hO : OwnsL ((w1.alloc (.cells #[] 3)).alloc (.cells #[] 3)) 3 w.heap.size [(.slice (some ⟨w1.heap.size, 0, none⟩) 0 0, []), (.slice (some ⟨w1.heap.size + 1, 0, none⟩) 0 0, ([] : List Int).reverse)] := by simpa using hA2
  have hb0 : Below w.heap.size w ((w1.alloc (.cells #[] 3)).alloc (.cells #[] 3)) := (hb1.alloc hsz1 _).alloc (by simp; omega) _
  clear hA1 hA2 hb1 hsz1
  go_wp2
  go_loopg [3, 4, 14] n (fun g vo vs iv wr => ∃ (k : Nat) (O R : List Int) (W : List UInt8), g = n - k ∧ k ≤ n ∧ iv = .int .i64 k ∧ Hid (stkR xs k = (O, R, W)) ∧ OwnsL wr 3 w.heap.size [(vo, O), (vs, R.reverse)] ∧ Below w.heap.size w wr)
  case atStart => exact ⟨0, _, _, _, rfl, Nat.zero_le _, rfl, rfl, hO, hb0⟩
  case round =>
    clear hO hb0
    obtain ⟨k, O, R, W, hg, hk, rfl, HK, ho, hb⟩ := hrel
    have HLK : Hid (O.length + R.length = k) := by have := HSL.out k (by rw [← HN.out]; exact hk); rw [HK.out] at this; exact this.1
    obtain ⟨ao, mo, co, rfl, HMO, _, _⟩ := ho.o0.rd.formN
    obtain ⟨aS, ms, cs, rfl, HMS, _, _⟩ := ho.o1.rd.formN
    by_cases hlt : k < n
    · obtain ⟨ad, x, rfl, hcx, hx⟩ := (h.below hb).int (k := k) (by have := HN.out; omega)
      have i1 : (k : Int) < (n : Int) := by omega
      go_wp2
      clear hcx
      go_loopg [3, 4] R.length (fun g vo vs wr => ∃ (O2 R2 : List Int) (W2 : List UInt8), g = R2.length ∧ Hid (popA x O2 R2 W2 = popA x O R W) ∧ Hid (O2.length + R2.length = k) ∧ OwnsL wr 3 w.heap.size [(vo, O2), (vs, R2.reverse)] ∧ Below w.heap.size w wr)
      case atStart => exact ⟨_, _, _, rfl, rfl, HLK, ho, hb⟩
      case round =>
        clear ho hb HMO HMS
        obtain ⟨O2, R2, W2, hg2, HP, HL2, ho, hb⟩ := hrel
        obtain ⟨ao, mo, co, rfl, HMO, _, _⟩ := ho.o0.rd.formN
        obtain ⟨aS, ms, cs, rfl, HMS, hmcs, _⟩ := ho.o1.rd.formN
        have hsb := hb.size
        have hmo : mo ≤ 8 := by have := HMO.out; have := HL2.out; dsimp only at *; omega
        have hms : ms ≤ 8 := by have := HMS.out; have := HL2.out; simp at *; omega
        have HLo : Hid ((ints O2).length = mo) := by rw [Hid, ints_length]; exact HMO.out.symm
        have HLs : Hid ((ints R2.reverse).length = ms) := by rw [Hid, ints_length]; exact HMS.out.symm
        have hcase : R2 = [] ∨ ∃ a r, R2 = a :: r := by cases R2 with | nil => exact .inl rfl | cons a r => exact .inr ⟨a, r, rfl⟩
        rcases hcase with rfl | ⟨a, r, rfl⟩
        · have hms0 : ms = 0 := by have := HMS.out; simpa using this
          subst hms0
          have HNX := Lib.hid (stk_of hx.out HK.out HP.out (popA_nil _ _ _))
          have d0 : decide (((0 : Nat) : Int) > 0) = false := rfl
          go_wp2_with (at_builtin; refine wpList_app1m rfl _ _ 22 rfl elI rfl ho.o1 (by show Value.slice (some ⟨wr.heap.size, 0, none⟩) 1 1 = _; simp) rfl hsb _ HLs.out (by omega) (by omega) ?_; intro b5 c5 w5 ho5 hg5 hat5)
          go_roundg (n - (k + 1))
          case measure => omega
          case rel => exact ⟨k + 1, _, _, _, rfl, by omega, by go_num, HNX, ho.t1 hg5 (by rw [List.reverse_cons, ints_append]; exact ho5) (hat_of hat5), hb.grown hg5 hsb (fun r hr => (ho.o1.lt r hr).1)⟩
        · obtain ⟨ρ, hρ⟩ : ∃ ρ, r.length = ρ := ⟨_, rfl⟩
          have hmsρ : ms = ρ + 1 := by have := HMS.out; simp at this; omega
          subst hmsρ
          obtain ⟨ps, y, rfl, hcy, hy⟩ := ho.o1.rd.int (k := ρ) (by simp; omega)
          have hya : y = a := by have := hy.out; rw [← hρ, rev_top] at this; injection this with this; exact this.symm
          subst hya
          have d0 : decide (((ρ + 1 : Nat) : Int) > 0) = true := by simp
          have d1 : (ρ : Int) < (ρ : Int) + 1 := by omega
          have d2 : (ρ : Int) ≤ (cs : Int) := by omega
          have d4 : (0 : Int) < (ρ : Int) + 1 := by omega
          by_cases hyx : y < x
          · have HP2 := Lib.hid ((popA_go hyx O2 r W2).symm.trans HP.out)
            have d3 : decide (y < x) = true := by simpa using hyx
            go_wp2_with (at_builtin; refine wpList_app1m rfl _ _ 22 rfl elI rfl ho.o0 (by show Value.slice (some ⟨wr.heap.size, 0, none⟩) 1 1 = _; simp) rfl hsb _ HLo.out (by omega) (by omega) ?_; intro b5 c5 w5 ho5 hg5 hat5)
            have hO5 : OwnsL w5 3 w.heap.size [(.slice b5 (mo + 1) c5, O2 ++ [y]), (.slice (some ps) (ρ + 1) cs, (y :: r).reverse)] := ho.t0 hg5 (by rw [ints_append]; exact ho5) (hat_of hat5)
            go_roundg r.length
            case measure => simp at hg2; omega
            case rel => exact ⟨_, _, _, rfl, HP2, by have := HL2.out; rw [Hid]; simp at *; omega, hO5.pop1 (by omega) hρ.symm, hb.grown hg5 hsb (fun r hr => (ho.o0.lt r hr).1)⟩
          · have HNX := Lib.hid (stk_of hx.out HK.out HP.out (popA_stop hyx _ _ _))
            have d3 : decide (y < x) = false := by simpa using hyx
            go_wp2_with (at_builtin; refine wpList_app1m rfl _ _ 22 rfl elI rfl ho.o1 (by show Value.slice (some ⟨wr.heap.size, 0, none⟩) 1 1 = _; simp) rfl hsb _ HLs.out (by omega) (by omega) ?_; intro b5 c5 w5 ho5 hg5 hat5)
            go_roundg (n - (k + 1))
            case measure => omega
            case rel => exact ⟨k + 1, _, _, _, rfl, by omega, by go_num, HNX, ho.t1 hg5 (by rw [List.reverse_cons (a := x), ints_append]; exact ho5) (hat_of hat5), hb.grown hg5 hsb (fun r hr => (ho.o1.lt r hr).1)⟩
    · obtain rfl : k = n := by omega
      have HFIN : Hid (stkS xs = O ++ R) := by rw [Hid, stkS, ← HN.out, HK.out]
      have HT := Lib.hid (s_l17Turn _ _ wr ho.o1.rd (by have := HLK.out; simp; omega))
      have HRV : Hid (R.reverse.reverse = R) := List.reverse_reverse R
      have hmo : mo ≤ 8 := by have := HMO.out; have := HLK.out; dsimp only at *; omega
      have HLm : Hid ((ints O).length + (ints R.reverse.reverse).length = k) := by rw [Hid, HRV.out, ints_length, ints_length]; exact HLK.out
      have ho0 := ho.o0
      go_wp2_with (first
        | (go_at_call 192; refine HT.out.mono ?_; rintro e w2 ⟨v2, rfl, ho2, hb2⟩; obtain ⟨a2, m2, c2, rfl, _, _, _⟩ := ho2.rd.formN; have hq := ho0.below hb2; have hbq := hb.trans (hb2.mono hb.size))
        | (at_builtin; refine wpList_appn rfl _ _ 22 rfl elI hq ho2.rd rfl rfl (oneCell_ints1 _) hbq.size _ HLm.out (by omega) (by omega) ?_; intro b3 c3 w6 ho3 hg3 hat3))
      go_ret
      refine ⟨_, rfl, ?_, hbq.grown hg3 hbq.size (fun r hr => (hq.lt r hr).1)⟩
      rw [HFIN.out, ints_append, ← HRV.out]
      exact ho3

end Go.Proofs.YtdagkgkllgpeeaaDoor
