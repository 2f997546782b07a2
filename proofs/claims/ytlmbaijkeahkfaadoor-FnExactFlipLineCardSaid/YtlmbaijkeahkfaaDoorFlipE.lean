/- Walks: greedy flips. -/
import Derived.Test.YtlmbaijkeahkfaaDoorFlipA
import Derived.Test.YtlmbaijkeahkfaaDoorTurn
import Derived.Test.YtlmbaijkeahkfaaDoorApp
import Derived.Deep.RegionHeld3
import Derived.Test.YtlmbaijkeahkfaaDoorIndexI
import Derived.Test.YtlmbaijkeahkfaaDoorOwnsL
import Derived.Deep.DeepCutAuto
import Derived.Test.YtlmbaijkeahkfaaDoorFabA
namespace Go.Proofs.YtlmbaijkeahkfaaDoor
open Go.RowKit
set_option linter.unusedVariables false
set_option linter.unusedSimpArgs false

theorem step_appnF {P : Program} {w : World} {ops : Array Oper} {o : Oper} {a : Act} {K : Act → World → Prop} {Q : Exit → Act → World → Prop} {F : Prop} (hgd : o.guard = none) (s x : Operand) (t : TypeId)
    (ho : o.op = .call { callee := .builtin .append, args := #[s, x], argTypes := #[t, t] })
    {E B bytes : Nat} {z : Value} (ht : ElemOk P t E bytes z) {v : Value} {xs : List Value} (hs : a.eval s = v) (hown : Own w E B v xs) {vx : Value} {news : List Value} (hx : a.eval x = vx) (hr : Rd w vx news)
    (h1 : ∀ u ∈ news, u.oneCell' = true) (hB : B ≤ w.heap.size) (m : Nat) (hm : xs.length + news.length = m) (hbytes : m * bytes ≤ 140737488355328) (h63 : m ≤ 9223372036854775807)
    (h : ∀ b c w', Own w' E B (.slice b m c) (xs ++ news) → w.grownBy w' v.ownBlock →
      ((Value.slice b m c).ownBlock = v.ownBlock ∨ (Value.slice b m c).ownBlock = some w.heap.size) →
      K (a.put o.dst (.slice b m c)) w') : if Region.wanted o (yielded ops a.tmps) = true then Oper.wp P o a w K Q else F := by
  subst hm
  exact step_app hgd s x t ho ht hs hown hx hr h1 hB hbytes h63 h
set_option maxRecDepth 100000 in
set_option maxHeartbeats 2000000 in
theorem s_l22Flip (v : Value) (xs : List Int) (k : Nat) (w : World) (h : Rd w v (ints xs)) (h0 : 0 < xs.length) (hk : k ≤ xs.length) (hl : xs.length ≤ 1000) : Calls Tryd.prog 82 #[v, .int .i64 (k : Int)] w (RetOwn 3 (ints (flipL xs k)) w) := by
  obtain ⟨a, n, c, rfl, HN, hnc, hc⟩ := h.formN
  obtain ⟨ad, x, rfl, hcx, _⟩ := h.int h0
  have hkn : k ≤ n := by have := HN.out; omega
  have HT := Lib.hid (fun (W : World) (hW : Below w.heap.size w W) => s_l17Turn (.slice (some ad) k c) (xs.take k) W (by rw [← ints_take]; exact (h.take hkn).below hW) (by simp; omega))
  have hrC : Rd w (.slice (if c = k then some ad else some (ad.add k)) (n - k) (c - k)) (ints (xs.drop k)) := by rw [← ints_drop]; exact h.cut hkn
  have HBK : Hid (∀ W : World, Below w.drew.heap.size w.drew W → Below w.heap.size w W) := fun W hW => ((Below.refl w.heap.size w).drew).trans hW
  have i1 : (k : Int) ≤ (n : Int) := by omega
  have i2 : (k : Int) ≤ (c : Int) := by omega
  have hn1 : n ≤ 1000 := by have := HN.out; omega
  have HLm : Hid ((ints (xs.take k).reverse).length + (ints (xs.drop k)).length = n) := by rw [Hid, ints_length, ints_length, HN.out]; simp; omega
  have HV : Hid (flipL xs k = (xs.take k).reverse ++ xs.drop k) := rfl
  clear hl h0 hk h
  by_cases e : c = k
  · rw [if_pos e] at hrC
    subst e
    rw [show n - c = 0 by omega, show c - c = 0 by omega] at hrC
    have HRK := Lib.hid (fun (W : World) (hW : Below w.drew.heap.size w.drew W) => (hrC.below ((Below.refl w.heap.size w).drew)).below hW)
    go_enter Tryd.func82, Tryd.ntmps82
    go_upto_region 1 with (fail)
    have HCX : Hid (∀ wx : World, Below w.heap.size w wx → wx.cell? (ad.add 0) = some (.int .i64 x)) := fun wx hb => (hb.cell (World.block_lt_of_cell? w _ hcx)).trans hcx
    go_region_held3 (fun wx => wx.cell? (ad.add 0) = some (.int .i64 x))
      (first | exact HCX.out _ hb6 | exact HCX.out _ hb3 | go_keep)
      (first
      | (go_at_call 134; refine (HT.out _ ((Below.refl w.heap.size w).drew)).mono ?_; rintro e w2 ⟨v2, rfl, ho2, hb2⟩; have hr2 := HRK.out _ hb2; have hb3 := HBK.out _ hb2; have hz2 := hb3.size; have ho3 := ho2.mono (show w.heap.size ≤ w.drew.heap.size from Nat.le_refl _))
      | (refine step_appnF (by rfl) _ _ _ (by rfl) elI (by rfl) (by exact ho3) (by rfl) (by exact hr2) (oneCell_ints1 _) (by exact hz2) n HLm.out (by omega) (by omega) ?_; intro b5 c5 w5 ho5 hg5 hat5; have hb6 := hb3.grown hg5 hz2 (fun r hr => (ho3.lt r hr).1)))
    all_goals
      go_wp2
      go_ret
      exact ⟨_, rfl, by rw [HV.out, ints_append]; exact ho5, hb6⟩
  · rw [if_neg e] at hrC
    have HRK := Lib.hid (fun (W : World) (hW : Below w.drew.heap.size w.drew W) => (hrC.below ((Below.refl w.heap.size w).drew)).below hW)
    go_enter Tryd.func82, Tryd.ntmps82
    go_upto_region 1 with (fail)
    have HCX : Hid (∀ wx : World, Below w.heap.size w wx → wx.cell? (ad.add 0) = some (.int .i64 x)) := fun wx hb => (hb.cell (World.block_lt_of_cell? w _ hcx)).trans hcx
    go_region_held3 (fun wx => wx.cell? (ad.add 0) = some (.int .i64 x))
      (first | exact HCX.out _ hb6 | exact HCX.out _ hb3 | go_keep)
      (first
      | (go_at_call 134; refine (HT.out _ ((Below.refl w.heap.size w).drew)).mono ?_; rintro e w2 ⟨v2, rfl, ho2, hb2⟩; have hr2 := HRK.out _ hb2; have hb3 := HBK.out _ hb2; have hz2 := hb3.size; have ho3 := ho2.mono (show w.heap.size ≤ w.drew.heap.size from Nat.le_refl _))
      | (refine step_appnF (by rfl) _ _ _ (by rfl) elI (by rfl) (by exact ho3) (by rfl) (by exact hr2) (oneCell_ints1 _) (by exact hz2) n HLm.out (by omega) (by omega) ?_; intro b5 c5 w5 ho5 hg5 hat5; have hb6 := hb3.grown hg5 hz2 (fun r hr => (ho3.lt r hr).1)))
    all_goals
      go_wp2
      go_ret
      exact ⟨_, rfl, by rw [HV.out, ints_append]; exact ho5, hb6⟩

set_option maxRecDepth 100000 in
set_option maxHeartbeats 2000000 in
theorem s_l22Ok (v : Value) (xs : List Int) (w : World) (h : Rd w v (ints xs)) : Calls Tryd.prog 83 #[v] w (RetB (.bool (sixB xs)) w) := by
  have HS := Lib.hid (s_l14Small v xs w h)
  obtain ⟨a, n, c, rfl, HN, hnc, hc⟩ := h.formN
  by_cases h6 : n ≤ 6
  · have HB : Hid (sixB xs = shortB xs) := by have := HN.out; rw [Hid, sixB, shortB, decide_eq_true (p := xs.length ≤ 6) (by omega), decide_eq_true (p := xs.length ≤ 8) (by omega)]
    have i1 : (n : Int) ≤ 6 := by omega
    generalize shortB xs = sb at HS HB
    go_enter Tryd.func83, Tryd.ntmps83
    go_wp2_with (go_at_call 35; refine HS.out.mono ?_; rintro e w1 ⟨rfl, hb1⟩)
    go_ret
    exact ⟨by rw [HB.out]; rfl, hb1⟩
  · have HB : Hid (sixB xs = false) := by have := HN.out; rw [Hid, sixB, decide_eq_false (p := xs.length ≤ 6) (by omega)]; rfl
    have i1 : ¬ ((n : Int) ≤ 6) := by omega
    go_enter Tryd.func83, Tryd.ntmps83
    go_wp2
    go_ret
    exact ⟨by rw [HB.out]; rfl, Below.refl _ _⟩

def atI (L : List Int) (x : Nat) : Nat := (idxOf (fun y => decide ((x : Int) = y)) L).toNat
theorem atI_ok {n x : Nat} {L : List Int} (h : PermN n L) (hx : x < n) : atI L x < n ∧ L[atI L x]? = some (x : Int) ∧ idxOf (fun y => decide ((x : Int) = y)) L = ((atI L x : Nat) : Int) := by
  obtain ⟨p, hp, hpx⟩ := h.at hx
  have e : idxOf (fun y => decide ((x : Int) = y)) L = (p : Int) := idxOf_yes hpx (by simp) fun j y hj hy => by
    rw [decide_eq_false_iff_not]
    intro e
    subst e
    have := h.inj hpx hy
    omega
  have e2 : atI L x = p := by rw [atI, e]; simp
  rw [e2]
  exact ⟨hp, hpx, e⟩
def grFlip (s : List Int × List Int) (k : Nat) : List Int × List Int := (flipL s.1 k, s.2 ++ [(k : Int)])
def grStep (s : List Int × List Int) (x : Nat) : List Int × List Int :=
  if atI s.1 x = x then s else if 0 < atI s.1 x then grFlip (grFlip s (atI s.1 x + 1)) (x + 1) else grFlip s (x + 1)
def grK (xs : List Int) (n : Nat) : Nat → List Int × List Int
  | 0 => (xs, [])
  | j + 1 => grStep (grK xs n j) (n - 1 - j)
def grL (xs : List Int) : List Int := (grK xs xs.length (xs.length - 1)).2
theorem grK_inv {n : Nat} {xs : List Int} (h : PermN n xs) : ∀ j, j ≤ n - 1 → PermN n (grK xs n j).1 ∧ (grK xs n j).2.length ≤ 2 * j ∧ ∀ y ∈ (grK xs n j).2, 0 ≤ y ∧ y ≤ (n : Int)
  | 0, _ => ⟨h, Nat.le_refl _, fun y hy => by cases hy⟩
  | j + 1, hj => by
    obtain ⟨h1, h2, h3⟩ := grK_inv h j (by omega)
    obtain ⟨h4, _, _⟩ := atI_ok h1 (x := n - 1 - j) (by omega)
    simp only [grK, grStep]
    split
    · exact ⟨h1, by omega, h3⟩
    · split
      · refine ⟨h1.flip.flip, by simp [grFlip]; omega, fun y hy => ?_⟩
        simp only [grFlip, List.mem_append, List.mem_singleton] at hy
        rcases hy with (hy | rfl) | rfl
        · exact h3 y hy
        · omega
        · omega
      · refine ⟨h1.flip, by simp [grFlip]; omega, fun y hy => ?_⟩
        simp only [grFlip, List.mem_append, List.mem_singleton] at hy
        rcases hy with hy | rfl
        · exact h3 y hy
        · omega

set_option maxRecDepth 100000 in
set_option maxHeartbeats 4000000 in
theorem i_GreedyFlips (v : Value) (xs : List Int) (w : World) (h : Rd w v (ints xs)) (hs : shortB xs = true) : Calls Tryd.prog 41 #[v] w (RetOwn 3 (ints (grL xs)) w) := by
  have HS := Lib.hid (hs ▸ i_isShortOrder v xs w h)
  obtain ⟨h8, hor⟩ := shortB_iff.1 hs
  obtain ⟨a, c, rfl, hnc, hc⟩ := h.formi
  have hp0 : PermN xs.length xs := ⟨rfl, hor⟩
  have HG : Hid (grL xs = (grK xs xs.length (xs.length - 1)).2) := rfl
  obtain ⟨n, hn⟩ : ∃ n, xs.length = n := ⟨_, rfl⟩
  rw [hn] at hp0 h8 HG hnc ⊢
  have HN := Lib.hid hn
  have HKI := Lib.hid (fun j hj => grK_inv hp0 j hj)
  have HKS : Hid (∀ j, grK xs n (j + 1) = grStep (grK xs n j) (n - 1 - j)) := fun j => rfl
  have HK0 : Hid (grK xs n 0 = (xs, [])) := rfl
  have HCL := Lib.hid (fun (W : World) (hW : Below w.heap.size w W) => f_Clone _ xs W (h.below hW) (by omega))
  rw [hn] at HCL HS
  clear hn
  go_enter Tryd.func41, Tryd.ntmps41
  go_upto_region 5 with (first
    | (go_at_call 39; refine HS.out.mono ?_; rintro e w1 ⟨rfl, hb1⟩; have hA : Below w1.heap.size w1 (w1.alloc (.cells #[] 3)) := (Below.refl _ _).alloc (Nat.le_refl _) _; have hlit := Own.lit0 w1 3 (Nat.le_refl _); have hbA := hb1.trans (hA.mono hb1.size))
    | (go_at_call 86; refine (HCL.out _ hbA).mono ?_; rintro e w2 ⟨v2, rfl, ho2, hb2⟩))
  have hO : OwnsL w2 3 w.heap.size [(.slice (some ⟨w1.heap.size, 0, none⟩) 0 0, []), (v2, xs)] := by
    have h1 := OwnsL.snoc (OwnsL.nil w1 3 w.heap.size) hA hb1.size hlit
    have h2 := h1.snoc hb2 hbA.size ho2
    simpa using h2
  have hb := hbA.trans (hb2.mono hbA.size)
  clear hA hlit hbA ho2 hb2 hb1
  go_wp2
  go_loopg [3, 4, 5] (n + 1) (fun g vo vl xv wr => ∃ j : Nat, g = n + 1 - j ∧ (j ≤ n - 1) ∧ xv = .int .i64 ((n : Int) - 1 - (j : Int)) ∧ OwnsL wr 3 w.heap.size [(vo, (grK xs n j).2), (vl, (grK xs n j).1)] ∧ Below w.heap.size w wr)
  case atStart => exact ⟨0, rfl, Nat.zero_le _, by simp, by rw [HK0.out]; exact hO, hb⟩
  case round =>
    clear hO hb
    obtain ⟨j, hg, hj, rfl, hO, hb⟩ := hrel
    obtain ⟨hp, hol, _⟩ := HKI.out j hj
    by_cases hlt : j < n - 1
    · have HSJ := Lib.hid (HKS.out j)
      obtain ⟨hpS, _, _⟩ := HKI.out (j + 1) (by omega)
      obtain ⟨L, hLe⟩ : ∃ L, (grK xs n j).1 = L := ⟨_, rfl⟩
      obtain ⟨O, hOe⟩ : ∃ O, (grK xs n j).2 = O := ⟨_, rfl⟩
      rw [hLe, hOe] at hO
      rw [hLe] at hp
      rw [hOe] at hol
      have HST : Hid (grK xs n (j + 1) = grStep (L, O) (n - 1 - j)) := by rw [Hid, HSJ.out, ← hLe, ← hOe]
      obtain ⟨x, hx⟩ : ∃ x, n - 1 - j = x := ⟨_, rfl⟩
      have ex : (n : Int) - 1 - (j : Int) = (x : Int) := by omega
      rw [hx] at HST
      rw [ex]
      obtain ⟨hat, _, hidx⟩ := atI_ok hp (x := x) (by omega)
      have HAT : Hid (grStep (L, O) x = if atI L x = x then (L, O) else if 0 < atI L x then grFlip (grFlip (L, O) (atI L x + 1)) (x + 1) else grFlip (L, O) (x + 1)) := rfl
      have hLl := hp.1
      have hp1 : PermN n (flipL L (atI L x + 1)) := hp.flip
      have HP1 := Lib.hid hp1
      obtain ⟨ao, no, co, rfl, HNO, _, _⟩ := hO.o0.rd.formN
      obtain ⟨al, nl, cl, rfl, HNL, _, _⟩ := hO.o1.rd.formN
      replace HNO : Hid (no = O.length) := HNO.out
      have hxn : x + 1 ≤ n := by omega
      have hx1 : 1 ≤ x := by omega
      have hno : no ≤ 16 := by have := HNO.out; omega
      have HLO : Hid ((ints O).length = no) := by rw [Hid, ints_length, HNO.out]
      have hsb := hb.size
      have HIX := Lib.hid (f_Index _ L (x : Int) wr hO.o1.rd)
      dsimp only at HIX
      rw [hidx] at HIX
      have HFL := Lib.hid (fun (W : World) (hW : Rd W (.slice al nl cl) (ints L)) (k : Nat) (hk : k ≤ n) => i_flip _ L k W hW (by rw [hLl]; omega) (by rw [hLl]; exact hk) (by rw [hLl]; omega))
      have HXJ := Lib.hid hx
      clear hidx hLe hOe hx ex HSJ hpS hp1
      obtain ⟨p, hpe⟩ : ∃ p, atI L x = p := ⟨_, rfl⟩
      rw [hpe] at hat HAT HIX HP1
      have HFL2 := Lib.hid (fun (v : Value) (W : World) (hW : Rd W v (ints (flipL L (p + 1)))) => i_flip v (flipL L (p + 1)) (x + 1) W hW (by rw [HP1.out.1]; omega) (by rw [HP1.out.1]; exact hxn) (by rw [HP1.out.1]; omega))
      clear hpe hp hLl
      by_cases hpx : p = x
      · have HV : Hid (grK xs n (j + 1) = (L, O)) := by rw [Hid, HST.out, HAT.out, if_pos hpx]
        have d0 : ((p : Int) == (x : Int)) = true := by simp [hpx]
        clear hpx
        go_wp2_with (go_at_call 87; refine HIX.out.mono ?_; rintro e w' ⟨rfl, rfl⟩)
        go_roundg (n + 1 - (j + 1))
        case measure => omega
        case rel => exact ⟨j + 1, rfl, by omega, by have := HXJ.out; first | go_num | (congr 1; omega), by rw [HV.out]; exact hO, hb⟩
      · have d0 : ((p : Int) == (x : Int)) = false := by rw [beq_eq_false_iff_ne]; omega
        rcases Nat.eq_zero_or_pos p with hp0 | hp0
        · have HV : Hid (grK xs n (j + 1) = (flipL L (x + 1), O ++ [((x + 1 : Nat) : Int)])) := by rw [Hid, HST.out, HAT.out, if_neg hpx, if_neg (by omega)]; rfl
          have i1 : ¬ ((p : Int) > 0) := by omega
          clear hpx hp0
          go_upto_region 14 with (first
            | (go_at_call 87; refine HIX.out.mono ?_; rintro e w' ⟨rfl, rfl⟩)
            | (at_builtin; (refine wpList_app1m rfl _ _ 22 rfl elI ?_ hO.o0 ?_ ?_ hsb no HLO.out (by omega) (by omega) ?_); (focus exact rfl); (focus (simp [Act.eval])); (focus exact rfl); intro b5 c5 w5 ho5 hg5 hat5))
          have ex1 : (x : Int) + 1 = ((x + 1 : Nat) : Int) := by omega
          have hO5 := hO.t0 hg5 (ys := O ++ [((x + 1 : Nat) : Int)]) (by rw [ints_append, ← ex1]; exact ho5) (hat_of hat5)
          have hb5 := hb.grown hg5 hsb (fun r hr => (hO.o0.lt r hr).1)
          have hs5 := hb5.size
          have HFX := Lib.hid (HFL.out w5 hO5.o1.rd (x + 1) hxn)
          rw [← ex1] at HFX
          clear hO hb hg5 hat5 ho5 ex1
          go_wp2_with (go_at_call 88; refine (HFX.out).mono ?_; rintro e w6 ⟨v6, rfl, ho6, hb6⟩)
          have hO6 := OwnsL.fresh (L1 := [(Value.slice b5 (no + 1) c5, O ++ [((x + 1 : Nat) : Int)])]) (L2 := []) hO5 hb6 hs5 ho6
          go_roundg (n + 1 - (j + 1))
          case measure => omega
          case rel => exact ⟨j + 1, rfl, by omega, by have := HXJ.out; first | go_num | (congr 1; omega), by rw [HV.out]; exact hO6, hb5.trans (hb6.mono hs5)⟩
        · have HV : Hid (grK xs n (j + 1) = (flipL (flipL L (p + 1)) (x + 1), (O ++ [((p + 1 : Nat) : Int)]) ++ [((x + 1 : Nat) : Int)])) := by rw [Hid, HST.out, HAT.out, if_neg hpx, if_pos hp0]; rfl
          have i1 : ((p : Int) > 0) := by omega
          clear hpx hp0
          go_upto_region 12 with (first
            | (go_at_call 87; refine HIX.out.mono ?_; rintro e w' ⟨rfl, rfl⟩)
            | (at_builtin; (refine wpList_app1m rfl _ _ 22 rfl elI ?_ hO.o0 ?_ ?_ hsb no HLO.out (by omega) (by omega) ?_); (focus exact rfl); (focus (simp [Act.eval])); (focus exact rfl); intro b5 c5 w5 ho5 hg5 hat5))
          have ex1 : (p : Int) + 1 = ((p + 1 : Nat) : Int) := by omega
          have hO5 := hO.t0 hg5 (ys := O ++ [((p + 1 : Nat) : Int)]) (by rw [ints_append, ← ex1]; exact ho5) (hat_of hat5)
          have hb5 := hb.grown hg5 hsb (fun r hr => (hO.o0.lt r hr).1)
          have hs5 := hb5.size
          have HFX := Lib.hid (HFL.out w5 hO5.o1.rd (p + 1) (by omega))
          rw [← ex1] at HFX
          clear hO hb hg5 hat5 ho5 ex1
          go_upto_region 13 with (go_at_call 88; refine (HFX.out).mono ?_; rintro e w6 ⟨v6, rfl, ho6, hb6⟩)
          have hO6 := OwnsL.fresh (L1 := [(Value.slice b5 (no + 1) c5, O ++ [((p + 1 : Nat) : Int)])]) (L2 := []) hO5 hb6 hs5 ho6
          have hb6' := hb5.trans (hb6.mono hs5)
          have hs6 := hb6'.size
          have HLO2 : Hid ((ints (O ++ [((p + 1 : Nat) : Int)])).length = no + 1) := by rw [Hid, ints_length, List.length_append, HNO.out]; rfl
          simp only [List.singleton_append, List.cons_append, List.nil_append] at hO6
          clear hO5 hb5 hb6 ho6 hs5
          go_upto_region 14 with (at_builtin; (refine wpList_app1m rfl _ _ 22 rfl elI ?_ hO6.o0 ?_ ?_ hs6 (no + 1) HLO2.out (by omega) (by omega) ?_); (focus exact rfl); (focus (simp [Act.eval])); (focus exact rfl); intro b7 c7 w7 ho7 hg7 hat7)
          have ex1 : (x : Int) + 1 = ((x + 1 : Nat) : Int) := by omega
          have hO7 := hO6.t0 hg7 (ys := (O ++ [((p + 1 : Nat) : Int)]) ++ [((x + 1 : Nat) : Int)]) (by rw [ints_append (O ++ _), ← ex1]; exact ho7) (hat_of hat7)
          have hb7 := hb6'.grown hg7 hs6 (fun r hr => (hO6.o0.lt r hr).1)
          have hs7 := hb7.size
          have HFX2 := Lib.hid (HFL2.out v6 w7 hO7.o1.rd)
          rw [← ex1] at HFX2
          clear hO6 hb6' hg7 hat7 ho7 ex1
          go_wp2_with (go_at_call 88; refine (HFX2.out).mono ?_; rintro e w8 ⟨v8, rfl, ho8, hb8⟩)
          have hO8 := OwnsL.fresh (L1 := [(Value.slice b7 (no + 1 + 1) c7, (O ++ [((p + 1 : Nat) : Int)]) ++ [((x + 1 : Nat) : Int)])]) (L2 := []) hO7 hb8 hs7 ho8
          go_roundg (n + 1 - (j + 1))
          case measure => omega
          case rel => exact ⟨j + 1, rfl, by omega, by have := HXJ.out; first | go_num | (congr 1; omega), by rw [HV.out]; exact hO8, hb7.trans (hb8.mono hs7)⟩
    · have HV : Hid (grL xs = (grK xs n j).2) := by rw [Hid, HG.out]; congr 2; omega
      have ho := hO.o0
      dsimp only at ho
      have i1 : ¬ ((n : Int) - 1 - (j : Int) ≥ 1) := by omega
      go_wp2
      go_ret
      exact ⟨_, rfl, by rw [HV.out]; exact ho, hb⟩

theorem inv_at {n x : Nat} {L : List Int} (h : PermN n L) (hx : x < n) : ∃ f, L = natA n f ∧ Ord n f ∧ invF n f x = atI L x := by
  obtain ⟨f, hf, H⟩ := ord_of h.1 h.2
  obtain ⟨hp, hpx, _⟩ := atI_ok h hx
  refine ⟨f, hf, H, ?_⟩
  have h1 : (natA n f)[atI L x]? = some ((f (atI L x) : Nat) : Int) := natA_get f hp
  rw [← hf, hpx] at h1
  injection h1 with h1
  have h2 : f (atI L x) = x := by omega
  have := H.yx hp
  rw [h2] at this
  exact this

set_option maxRecDepth 100000 in
set_option maxHeartbeats 8000000 in
theorem s_GreedyFlips (v : Value) (xs : List Int) (w : World) (h : Rd w v (ints xs)) (hs : shortB xs = true) : Calls Tryd.prog 37 #[v] w (RetOwn 3 (ints (grL xs)) w) := by
  have HS := Lib.hid (hs ▸ s_l14Small v xs w h)
  obtain ⟨h8, hor⟩ := shortB_iff.1 hs
  obtain ⟨a, c, rfl, hnc, hc⟩ := h.formi
  have hp0 : PermN xs.length xs := ⟨rfl, hor⟩
  have HG : Hid (grL xs = (grK xs xs.length (xs.length - 1)).2) := rfl
  obtain ⟨n, hn⟩ : ∃ n, xs.length = n := ⟨_, rfl⟩
  rw [hn] at hp0 h8 HG hnc
  have HN := Lib.hid hn
  have HKI := Lib.hid (fun j hj => grK_inv hp0 j hj)
  have HKS : Hid (∀ j, grK xs n (j + 1) = grStep (grK xs n j) (n - 1 - j)) := fun j => rfl
  have HK0 : Hid (grK xs n 0 = (xs, [])) := rfl
  have HL0 : Hid ((ints xs).length = n) := by rw [Hid, ints_length, hn]
  rw [hn] at HS h ⊢
  have HRX := Lib.hid (fun (W : World) (hW : Below w.heap.size w W) => h.below hW)
  clear hn h
  go_enter Tryd.func37, Tryd.ntmps37
  go_upto_region 5 with (first
    | (go_at_call 35; refine HS.out.mono ?_; rintro e w1 ⟨rfl, hb1⟩; have hr1 := HRX.out _ hb1; have hs1 := hb1.size)
    | (at_builtin; refine wpList_copy (B := w.heap.size) rfl _ _ 22 rfl elI hr1 rfl rfl (oneCell_ints1 _) hs1 n HL0.out (by omega) (by omega) ?_; intro b2 c2 w2 ho2 hb2))
  have hb12 := hb1.trans (hb2.mono hs1)
  have hA : Below w2.heap.size w2 (w2.alloc (.cells #[] 3)) := (Below.refl _ _).alloc (Nat.le_refl _) _
  have hlit := Own.lit0 w2 3 (Nat.le_refl _)
  have hO : OwnsL (w2.alloc (.cells #[] 3)) 3 w.heap.size [(.slice b2 n c2, xs), (.slice (some ⟨w2.heap.size, 0, none⟩) 0 0, [])] := by
    have h1 := OwnsL.snoc (OwnsL.nil w1 3 w.heap.size) hb2 hs1 ho2
    have h2 := h1.snoc hA hb12.size hlit
    simpa using h2
  have hb := hb12.trans (hA.mono hb12.size)
  clear hA hlit ho2 hb2 hb1 hr1 hs1 hb12
  go_wp2
  go_loopg [3, 4, 5] (n + 1) (fun g vl vo xv wr => ∃ j : Nat, g = n + 1 - j ∧ (j ≤ n - 1) ∧ xv = .int .i64 ((n : Int) - 1 - (j : Int)) ∧ OwnsL wr 3 w.heap.size [(vl, (grK xs n j).1), (vo, (grK xs n j).2)] ∧ Below w.heap.size w wr)
  case atStart => exact ⟨0, rfl, Nat.zero_le _, by simp, by rw [HK0.out]; exact hO, hb⟩
  case round =>
    clear hO hb
    obtain ⟨j, hg, hj, rfl, hO, hb⟩ := hrel
    obtain ⟨hp, hol, _⟩ := HKI.out j hj
    by_cases hlt : j < n - 1
    · have HSJ := Lib.hid (HKS.out j)
      obtain ⟨L, hLe⟩ : ∃ L, (grK xs n j).1 = L := ⟨_, rfl⟩
      obtain ⟨O, hOe⟩ : ∃ O, (grK xs n j).2 = O := ⟨_, rfl⟩
      rw [hLe, hOe] at hO
      rw [hLe] at hp
      rw [hOe] at hol
      have HST : Hid (grK xs n (j + 1) = grStep (L, O) (n - 1 - j)) := by rw [Hid, HSJ.out, ← hLe, ← hOe]
      obtain ⟨x, hx⟩ : ∃ x, n - 1 - j = x := ⟨_, rfl⟩
      have ex : (n : Int) - 1 - (j : Int) = (x : Int) := by omega
      rw [hx] at HST
      rw [ex]
      have hxn : x + 1 ≤ n := by omega
      have hx1 : 1 ≤ x := by omega
      obtain ⟨hat, _, _⟩ := atI_ok hp (x := x) (by omega)
      obtain ⟨f, hf, HF, hfx⟩ := inv_at hp (x := x) (by omega)
      have HAT : Hid (grStep (L, O) x = if atI L x = x then (L, O) else if 0 < atI L x then grFlip (grFlip (L, O) (atI L x + 1)) (x + 1) else grFlip (L, O) (x + 1)) := rfl
      have hLl := hp.1
      have hp1 : PermN n (flipL L (atI L x + 1)) := hp.flip
      have HP1 := Lib.hid hp1
      obtain ⟨al, nl, cl, rfl, HNL, _, _⟩ := hO.o0.rd.formN
      obtain ⟨ao, no, co, rfl, HNO, _, _⟩ := hO.o1.rd.formN
      replace HNO : Hid (no = O.length) := HNO.out
      have hno : no ≤ 16 := by have := HNO.out; omega
      have HLO : Hid ((ints O).length = no) := by rw [Hid, ints_length, HNO.out]
      have hsb := hb.size
      have HIV := Lib.hid (s_l14Inverse (.slice al nl cl) n f wr (by rw [← hf]; exact hO.o0.rd) HF (by omega))
      have HFL := Lib.hid (fun (W : World) (hW : Rd W (.slice al nl cl) (ints L)) (k : Nat) (hk : k ≤ n) => s_l22Flip _ L k W hW (by rw [hLl]; omega) (by rw [hLl]; exact hk) (by rw [hLl]; omega))
      have HXJ := Lib.hid hx
      have HVX : Hid (∀ y, (ints (natA n (invF n f)))[x]? = some (.int .i64 y) → y = ((atI L x : Nat) : Int)) := fun y hy => by
        rw [ints, List.getElem?_map, natA_get _ (show x < n by omega), hfx] at hy
        simp at hy
        exact hy.symm
      clear hLe hOe hx ex HSJ hp1 hf HF hfx
      obtain ⟨p, hpe⟩ : ∃ p, atI L x = p := ⟨_, rfl⟩
      rw [hpe] at hat HAT HP1 HVX
      have HFL2 := Lib.hid (fun (v : Value) (W : World) (hW : Rd W v (ints (flipL L (p + 1)))) => s_l22Flip v (flipL L (p + 1)) (x + 1) W hW (by rw [HP1.out.1]; omega) (by rw [HP1.out.1]; exact hxn) (by rw [HP1.out.1]; omega))
      have HGI : Hid (∀ (W : World) (V : Value), Rd W V (ints (natA n (invF n f))) → ∃ ad c2, V = .slice (some ad) n c2 ∧ W.cell? (ad.add x) = some (.int .i64 (p : Int))) := fun W V hV => by
        obtain ⟨a2, n2, c2, rfl, HN2, _, _⟩ := hV.formN
        obtain ⟨ad, y, rfl, hcy, hy⟩ := hV.int (k := x) (by rw [natA_len]; omega)
        have := HVX.out y (by rw [ints, List.getElem?_map, hy.out]; rfl)
        rw [this] at hcy
        exact ⟨ad, c2, by rw [HN2.out, natA_len], hcy⟩
      clear hpe hp hLl HVX
      have ixn : (x : Int) < (n : Int) := by omega
      go_upto_region 9 with (go_at_call 81; refine HIV.out.mono ?_; rintro e w2 ⟨v2, rfl, ho2, hb2⟩; obtain ⟨ad2, c2, rfl, hcy⟩ := HGI.out _ _ ho2.rd)
      have hO2 := hO.below hb2
      have hbq := hb.trans (hb2.mono hsb)
      have hsq := hbq.size
      clear hO hb hb2 ho2 hcy HIV HGI hsb
      by_cases hpx : p = x
      · have HV : Hid (grK xs n (j + 1) = (L, O)) := by rw [Hid, HST.out, HAT.out, if_pos hpx]
        have d0 : ((p : Int) == (x : Int)) = true := by simp [hpx]
        clear hpx
        go_wp2
        go_roundg (n + 1 - (j + 1))
        case measure => omega
        case rel => exact ⟨j + 1, rfl, by omega, by have := HXJ.out; first | go_num | (congr 1; omega), by rw [HV.out]; exact hO2, hbq⟩
      · have d0 : ((p : Int) == (x : Int)) = false := by rw [beq_eq_false_iff_ne]; omega
        rcases Nat.eq_zero_or_pos p with hp0 | hp0
        · have HV : Hid (grK xs n (j + 1) = (flipL L (x + 1), O ++ [((x + 1 : Nat) : Int)])) := by rw [Hid, HST.out, HAT.out, if_neg hpx, if_neg (by omega)]; rfl
          have i1 : ¬ ((p : Int) > 0) := by omega
          clear hpx hp0
          go_upto_region 14 with (at_builtin; (refine wpList_app1m rfl _ _ 22 rfl elI ?_ hO2.o1 ?_ ?_ hsq no HLO.out (by omega) (by omega) ?_); (focus exact rfl); (focus (simp [Act.eval])); (focus exact rfl); intro b5 c5 w5 ho5 hg5 hat5)
          have ex1 : (x : Int) + 1 = ((x + 1 : Nat) : Int) := by omega
          have hO5 := hO2.t1 hg5 (ys := O ++ [((x + 1 : Nat) : Int)]) (by rw [ints_append, ← ex1]; exact ho5) (hat_of hat5)
          have hb5 := hbq.grown hg5 hsq (fun r hr => (hO2.o1.lt r hr).1)
          have hs5 := hb5.size
          have HFX := Lib.hid (HFL.out w5 hO5.o0.rd (x + 1) hxn)
          rw [← ex1] at HFX
          clear hO2 hbq hg5 hat5 ho5 ex1
          go_wp2_with (go_at_call 82; refine (HFX.out).mono ?_; rintro e w6 ⟨v6, rfl, ho6, hb6⟩)
          have hO6 := OwnsL.fresh (L1 := []) (L2 := [(Value.slice b5 (no + 1) c5, O ++ [((x + 1 : Nat) : Int)])]) hO5 hb6 hs5 ho6
          go_roundg (n + 1 - (j + 1))
          case measure => omega
          case rel => exact ⟨j + 1, rfl, by omega, by have := HXJ.out; first | go_num | (congr 1; omega), by rw [HV.out]; exact hO6, hb5.trans (hb6.mono hs5)⟩
        · have HV : Hid (grK xs n (j + 1) = (flipL (flipL L (p + 1)) (x + 1), (O ++ [((p + 1 : Nat) : Int)]) ++ [((x + 1 : Nat) : Int)])) := by rw [Hid, HST.out, HAT.out, if_neg hpx, if_pos hp0]; rfl
          have i1 : ((p : Int) > 0) := by omega
          clear hpx hp0
          go_upto_region 12 with (at_builtin; (refine wpList_app1m rfl _ _ 22 rfl elI ?_ hO2.o1 ?_ ?_ hsq no HLO.out (by omega) (by omega) ?_); (focus exact rfl); (focus (simp [Act.eval])); (focus exact rfl); intro b5 c5 w5 ho5 hg5 hat5)
          have ex1 : (p : Int) + 1 = ((p + 1 : Nat) : Int) := by omega
          have hO5 := hO2.t1 hg5 (ys := O ++ [((p + 1 : Nat) : Int)]) (by rw [ints_append, ← ex1]; exact ho5) (hat_of hat5)
          have hb5 := hbq.grown hg5 hsq (fun r hr => (hO2.o1.lt r hr).1)
          have hs5 := hb5.size
          have HFX := Lib.hid (HFL.out w5 hO5.o0.rd (p + 1) (by omega))
          rw [← ex1] at HFX
          clear hO2 hbq hg5 hat5 ho5 ex1
          go_upto_region 13 with (go_at_call 82; refine (HFX.out).mono ?_; rintro e w6 ⟨v6, rfl, ho6, hb6⟩)
          have hO6 := OwnsL.fresh (L1 := []) (L2 := [(Value.slice b5 (no + 1) c5, O ++ [((p + 1 : Nat) : Int)])]) hO5 hb6 hs5 ho6
          have hb6' := hb5.trans (hb6.mono hs5)
          have hs6 := hb6'.size
          have HLO2 : Hid ((ints (O ++ [((p + 1 : Nat) : Int)])).length = no + 1) := by rw [Hid, ints_length, List.length_append, HNO.out]; rfl
          simp only [List.singleton_append, List.cons_append, List.nil_append] at hO6
          clear hO5 hb5 hb6 ho6 hs5
          go_upto_region 14 with (at_builtin; (refine wpList_app1m rfl _ _ 22 rfl elI ?_ hO6.o1 ?_ ?_ hs6 (no + 1) HLO2.out (by omega) (by omega) ?_); (focus exact rfl); (focus (simp [Act.eval])); (focus exact rfl); intro b7 c7 w7 ho7 hg7 hat7)
          have ex1 : (x : Int) + 1 = ((x + 1 : Nat) : Int) := by omega
          have hO7 := hO6.t1 hg7 (ys := (O ++ [((p + 1 : Nat) : Int)]) ++ [((x + 1 : Nat) : Int)]) (by rw [ints_append (O ++ _), ← ex1]; exact ho7) (hat_of hat7)
          have hb7 := hb6'.grown hg7 hs6 (fun r hr => (hO6.o1.lt r hr).1)
          have hs7 := hb7.size
          have HFX2 := Lib.hid (HFL2.out v6 w7 hO7.o0.rd)
          rw [← ex1] at HFX2
          clear hO6 hb6' hg7 hat7 ho7 ex1
          go_wp2_with (go_at_call 82; refine (HFX2.out).mono ?_; rintro e w8 ⟨v8, rfl, ho8, hb8⟩)
          have hO8 := OwnsL.fresh (L1 := []) (L2 := [(Value.slice b7 (no + 1 + 1) c7, (O ++ [((p + 1 : Nat) : Int)]) ++ [((x + 1 : Nat) : Int)])]) hO7 hb8 hs7 ho8
          go_roundg (n + 1 - (j + 1))
          case measure => omega
          case rel => exact ⟨j + 1, rfl, by omega, by have := HXJ.out; first | go_num | (congr 1; omega), by rw [HV.out]; exact hO8, hb7.trans (hb8.mono hs7)⟩
    · have HV : Hid (grL xs = (grK xs n j).2) := by rw [Hid, HG.out]; congr 2; omega
      have ho := hO.o1
      dsimp only at ho
      have i1 : ¬ ((n : Int) - 1 - (j : Int) ≥ 1) := by omega
      go_wp2
      go_ret
      exact ⟨_, rfl, by rw [HV.out]; exact ho, hb⟩

end Go.Proofs.YtlmbaijkeahkfaaDoor
