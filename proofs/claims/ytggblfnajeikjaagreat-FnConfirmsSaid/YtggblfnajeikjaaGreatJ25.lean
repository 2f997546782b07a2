/- Joined texts of the proof: ConfB. -/
import Derived.WalkKit
import Derived.WalkSpells
import Derived.WalkLawsBesides
import Derived.Deep.Draws
import Derived.Lib.Hide
import Derived.RegionTactic
import Derived.Test.YtggblfnajeikjaaGreatRows
import Derived.BigQuiet
import Derived.Deep.QuietTactic
import Derived.Deep.RegionHeld3
import Derived.Deep.DeepCutAuto
import Derived.Deep.LoopGhost
import Derived.IntWalk
import Derived.Lib.AppendZeros
import Derived.Test.YtggblfnajeikjaaGreatJ1
import Derived.Test.YtggblfnajeikjaaGreatJ4
import Derived.Test.YtggblfnajeikjaaGreatJ6
import Derived.Test.YtggblfnajeikjaaGreatJ8
import Derived.Test.YtggblfnajeikjaaGreatJ9
import Derived.Test.YtggblfnajeikjaaGreatJ12
import Derived.Test.YtggblfnajeikjaaGreatJ13
import Derived.Test.YtggblfnajeikjaaGreatJ17
import Derived.Test.YtggblfnajeikjaaGreatJ21
import Derived.Test.YtggblfnajeikjaaGreatJ22
namespace Go.Proofs.YtggblfnajeikjaaGreat
open Go.RowKit
set_option linter.unusedVariables false
set_option linter.unusedSimpArgs false

theorem Rd2.of2 {W : World} {g E : Nat} {r0 r1 : Value} {x0 x1 : List Int} (h : W.heap[g]? = some (.cells #[r0, r1] E (0, 0))) (h0 : Rd W r0 (ints x0)) (h1 : Rd W r1 (ints x1)) :
    Rd2 W (.slice (some ⟨g, 0, none⟩) 2 2) [x0, x1] := by
  have hO : Own W E g (.slice (some ⟨g, 0, none⟩) 2 2) [r0, r1] := .inr ⟨g, 0, 2, _, rfl, Nat.le_refl _, h, by simp, by omega, by simp, fun j u hu => by simpa using hu⟩
  refine ⟨[r0, r1], hO.rd, rfl, fun i r hr => ?_⟩
  match i, hr with
  | 0, hr => cases hr; exact ⟨x0, rfl, h0⟩
  | 1, hr => cases hr; exact ⟨x1, rfl, h1⟩
  | n + 2, hr => simp at hr

def RetHalves (xs : List Int) (w : World) (e : Ending) (w' : World) : Prop := ∃ v1 v2, e = .returned (.tuple #[v1, v2]) ∧ Own w' 3 w.heap.size v1 (ints (halfL xs 0)) ∧ Own w' 3 w.heap.size v2 (ints (halfL xs 1)) ∧ Below w.heap.size w w'
set_option maxHeartbeats 2000000 in
theorem i_halves (v : Value) (xs : List Int) (w : World) (h : Rd w v (ints xs)) (hl : xs.length ≤ 1000) : Calls Tryz.prog 120 #[v] w (RetHalves xs w) := by
  obtain ⟨a, n, c, rfl, HN, hnc, hc⟩ := h.formN
  have hn : n ≤ 1000 := by have := HN.out; omega
  have hO : OwnsL ((w.alloc (.cells #[] 3)).alloc (.cells #[] 3)) 3 w.heap.size [(.slice (some ⟨w.heap.size, 0, none⟩) 0 0, halfK xs 0 0), (.slice (some ⟨w.heap.size + 1, 0, none⟩) 0 0, halfK xs 1 0)] := by
    have h1 := OwnsL.snoc (OwnsL.nil w 3 w.heap.size) ((Below.refl _ _).alloc (Nat.le_refl _) (.cells #[] 3)) (Nat.le_refl _) (Own.lit0 w 3 (Nat.le_refl _))
    have h2 := OwnsL.snoc h1 ((Below.refl _ _).alloc (Nat.le_refl _) (.cells #[] 3)) (by simp) (Own.lit0 _ 3 (Nat.le_refl _))
    simpa [halfK] using h2
  have hB : Below w.heap.size w ((w.alloc (.cells #[] 3)).alloc (.cells #[] 3)) := ((Below.refl _ _).alloc (Nat.le_refl _) _).alloc (by simp) _
  have HF0 : Hid (halfL xs 0 = halfK xs 0 ((n + 1) / 2)) := by rw [Hid, halfL, ← HN.out]; rfl
  have HF1 : Hid (halfL xs 1 = halfK xs 1 (n / 2)) := by rw [Hid, halfL, ← HN.out]; rfl
  go_enter Tryz.func120, Tryz.ntmps120
  go_wp2
  go_loopg [4, 5, 12] n (fun g ve vo iv wr => ∃ k : Nat, g = n - k ∧ k ≤ n ∧ iv = .int .i64 (k : Int) ∧ OwnsL wr 3 w.heap.size [(ve, halfK xs 0 ((k + 1) / 2)), (vo, halfK xs 1 (k / 2))] ∧ Below w.heap.size w wr)
  case atStart => exact ⟨0, rfl, Nat.zero_le _, rfl, hO, hB⟩
  case round =>
    clear hO hB
    obtain ⟨k, hg, hk, rfl, hO, hb⟩ := hrel
    by_cases hlt : k < n
    · obtain ⟨ad, x, rfl, hcx, hx⟩ := (h.below hb).int (k := k) (by have := HN.out; omega)
      have hsb := hb.size
      rcases Nat.mod_two_eq_zero_or_one k with h2 | h2
      · obtain ⟨q, hq⟩ : ∃ q, (k + 1) / 2 = q := ⟨_, rfl⟩
        have HS : Hid (halfK xs 0 ((k + 1 + 1) / 2) = halfK xs 0 q ++ [x]) := by
          rw [Hid, show (k + 1 + 1) / 2 = q + 1 by omega]
          exact halfK_succ (by rw [show 0 + 2 * q = k by omega]; exact hx.out)
        have HS1 : Hid (halfK xs 1 ((k + 1) / 2) = halfK xs 1 (k / 2)) := by rw [Hid, show (k + 1) / 2 = k / 2 by omega]
        rw [hq] at hO
        have d1 : ((k : Int) % 2 == 0) = true := by rw [beq_iff_eq]; omega
        obtain ⟨ae, ne, ce, rfl, HNE, _, _⟩ := hO.o0.rd.formN
        obtain ⟨ao, no, co, rfl, HNO, _, _⟩ := hO.o1.rd.formN
        have HLE : Hid ((ints (halfK xs 0 q)).length = ne) := by rw [Hid, ints_length]; exact HNE.out.symm
        have hne : ne ≤ 1000 := by have := HNE.out; rw [halfK_len] at this; omega
        clear hx hq
        go_wp2_with (at_builtin; (refine wpList_app1m rfl _ _ 33 rfl elI rfl hO.o0 (by show Value.slice (some ⟨wr.heap.size, 0, none⟩) 1 1 = _; simp) rfl hsb _ HLE.out (by omega) (by omega) ?_); intro b6 c6 w6 ho6 hg6 hat6)
        have hO6 := hO.t0 hg6 (ys := halfK xs 0 ((k + 1 + 1) / 2)) (by rw [HS.out, ints_append]; exact ho6) (hat_of hat6)
        have hb6 := hb.grown hg6 hsb (fun r hr => (hO.o0.lt r hr).1)
        go_roundg (n - (k + 1))
        case measure => omega
        case rel => exact ⟨k + 1, rfl, hlt, by go_num, by rw [HS1.out]; exact hO6, hb6⟩
      · obtain ⟨q, hq⟩ : ∃ q, k / 2 = q := ⟨_, rfl⟩
        have HS : Hid (halfK xs 1 ((k + 1) / 2) = halfK xs 1 q ++ [x]) := by
          rw [Hid, show (k + 1) / 2 = q + 1 by omega]
          exact halfK_succ (by rw [show 1 + 2 * q = k by omega]; exact hx.out)
        have HS1 : Hid (halfK xs 0 ((k + 1 + 1) / 2) = halfK xs 0 ((k + 1) / 2)) := by rw [Hid, show (k + 1 + 1) / 2 = (k + 1) / 2 by omega]
        rw [hq] at hO
        have d1 : ((k : Int) % 2 == 0) = false := by rw [beq_eq_false_iff_ne]; omega
        obtain ⟨ae, ne, ce, rfl, HNE, _, _⟩ := hO.o0.rd.formN
        obtain ⟨ao, no, co, rfl, HNO, _, _⟩ := hO.o1.rd.formN
        have HLE : Hid ((ints (halfK xs 1 q)).length = no) := by rw [Hid, ints_length]; exact HNO.out.symm
        have hne : no ≤ 1000 := by have := HNO.out; rw [halfK_len] at this; omega
        clear hx hq
        go_wp2_with (at_builtin; (refine wpList_app1m rfl _ _ 33 rfl elI rfl hO.o1 (by show Value.slice (some ⟨wr.heap.size, 0, none⟩) 1 1 = _; simp) rfl hsb _ HLE.out (by omega) (by omega) ?_); intro b6 c6 w6 ho6 hg6 hat6)
        have hO6 := hO.t1 hg6 (ys := halfK xs 1 ((k + 1) / 2)) (by rw [HS.out, ints_append]; exact ho6) (hat_of hat6)
        have hb6 := hb.grown hg6 hsb (fun r hr => (hO.o1.lt r hr).1)
        go_roundg (n - (k + 1))
        case measure => omega
        case rel => exact ⟨k + 1, rfl, hlt, by go_num, by rw [HS1.out]; exact hO6, hb6⟩
    · obtain rfl : k = n := by omega
      have o0 := hO.o0
      have o1 := hO.o1
      dsimp only at o0 o1
      rw [← HF0.out] at o0
      rw [← HF1.out] at o1
      go_wp2
      go_ret2
      exact ⟨_, _, rfl, o0, o1, hb⟩

set_option maxRecDepth 100000 in
set_option maxHeartbeats 4000000 in
theorem i_oddEven : ∀ (f : Nat) (va vb : Value) (a b : List Int) (w : World), Rd w va (ints a) → Rd w vb (ints b) → a.length + b.length ≤ f → f ≤ 16 → Calls Tryz.prog 87 #[va, vb] w (RetOwnP (mrg f a b) w) := by
  intro f
  induction f with
  | zero =>
    intro va vb a b w ha hb hl hf
    obtain ⟨aa, na, ca, rfl, HA, _, _⟩ := ha.formN
    obtain ⟨ab, nb, cb, rfl, HB, _, _⟩ := hb.formN
    obtain rfl : na = 0 := by have := HA.out; omega
    go_enter Tryz.func87, Tryz.ntmps87
    go_wp2_with fail
    go_ret
    exact ⟨_, rfl, OwnP.nil w _, Below.refl _ _⟩
  | succ f ih =>
    intro va vb a b w ha hb hl hf
    obtain ⟨aa, na, ca, rfl, HA, hna, _⟩ := ha.formN
    obtain ⟨ab, nb, cb, rfl, HB, hnb, _⟩ := hb.formN
    have hna16 : na ≤ 16 := by have := HA.out; omega
    have hnb16 : nb ≤ 16 := by have := HB.out; omega
    by_cases h0 : na = 0
    · have HR : Hid (mrg (f + 1) a b = []) := by rw [Hid, mrg, if_pos (.inl (by rw [← HA.out]; exact h0))]
      subst h0
      clear ih
      go_enter Tryz.func87, Tryz.ntmps87
      go_wp2_with fail
      go_ret
      exact ⟨_, rfl, by rw [HR.out]; exact OwnP.nil w _, Below.refl _ _⟩
    have d0 : ((na : Int) == 0) = false := by rw [beq_eq_false_iff_ne]; omega
    by_cases h1 : nb = 0
    · have HR : Hid (mrg (f + 1) a b = []) := by rw [Hid, mrg, if_pos (.inr (by rw [← HB.out]; exact h1))]
      subst h1
      clear ih
      go_enter Tryz.func87, Tryz.ntmps87
      go_wp2_with fail
      go_ret
      exact ⟨_, rfl, by rw [HR.out]; exact OwnP.nil w _, Below.refl _ _⟩
    have d1 : ((nb : Int) == 0) = false := by rw [beq_eq_false_iff_ne]; omega
    by_cases h2 : na = 1 ∧ nb = 1
    · obtain ⟨e1, e2⟩ := h2
      obtain ⟨pa, x, rfl, hcx, hx⟩ := ha.int (k := 0) (by have := HA.out; omega)
      obtain ⟨pb, y, rfl, hcy, hy⟩ := hb.int (k := 0) (by have := HB.out; omega)
      have HR : Hid (mrg (f + 1) a b = [[x, y]]) := by
        have l1 := HA.out
        have l2 := HB.out
        have g1 := hx.out
        have g2 := hy.out
        rw [Hid, mrg, if_neg (by omega), if_pos ⟨by omega, by omega⟩, List.getD_eq_getElem?_getD, g1, List.getD_eq_getElem?_getD, g2]
        rfl
      subst e1
      subst e2
      have c1 : w.cell? pa = some (.int .i64 x) := by simpa [Addr.add] using hcx
      have c2 : w.cell? pb = some (.int .i64 y) := by simpa [Addr.add] using hcy
      clear ih hx hy hcx hcy ha hb
      go_enter Tryz.func87, Tryz.ntmps87
      go_wp2_with fail
      go_region_held3 (fun wx => wx.cell? pa = some (.int .i64 x) ∧ wx.cell? pb = some (.int .i64 y)) (go_keep) (fail)
      all_goals
        go_wp2_with fail
        go_ret
        exact ⟨_, rfl, by rw [HR.out]; exact OwnP.of_heap (OwnP.lit1 (Nat.le_refl _) x y) rfl, (((Below.refl _ _).alloc (Nat.le_refl _) _).alloc (by simp) _).drew⟩
    have hd : ((na : Int) == 1) = false ∨ (((na : Int) == 1) = true ∧ ((nb : Int) == 1) = false) := by
      by_cases e1 : na = 1
      · refine .inr ⟨by rw [beq_iff_eq]; omega, ?_⟩
        rw [beq_eq_false_iff_ne]; omega
      · exact .inl (by rw [beq_eq_false_iff_ne]; omega)
    have hLA := HA.out
    have hLB := HB.out
    have e00 := halfL_len a 0
    have e01 := halfL_len b 0
    have e10 := halfL_len a 1
    have e11 := halfL_len b 1
    have HR : Hid (mrg (f + 1) a b = mrg f (halfL a 0) (halfL b 0) ++ mrg f (halfL a 1) (halfL b 1) ++ cmpL (halfL a 0 ++ halfL b 0) (halfL a 1 ++ halfL b 1)) := by
      rw [Hid, mrg, if_neg (by omega), if_neg (by omega)]
    have H0 := Lib.hid (fun (v v' : Value) (W : World) (h : Rd W v (ints (halfL a 0))) (h' : Rd W v' (ints (halfL b 0))) => ih v v' _ _ W h h' (by omega) (by omega))
    have H1 := Lib.hid (fun (v v' : Value) (W : World) (h : Rd W v (ints (halfL a 1))) (h' : Rd W v' (ints (halfL b 1))) => ih v v' _ _ W h h' (by omega) (by omega))
    have HX : Hid ((mrg f (halfL a 0) (halfL b 0)).length ≤ 1310700) := mrg_le (by omega) (by omega)
    have HY : Hid ((mrg f (halfL a 1) (halfL b 1)).length ≤ 1310700) := mrg_le (by omega) (by omega)
    have HHA := Lib.hid (i_halves _ a w ha (by omega))
    have HHB := Lib.hid (fun (W : World) (hW : Below w.heap.size w W) => i_halves _ b W (hb.below hW) (by omega))
    unfold RetHalves at HHA HHB
    have HL0 : Hid ((halfL a 0).length ≤ 16 ∧ (halfL b 0).length ≤ 16 ∧ (halfL a 1).length ≤ 16 ∧ (halfL b 1).length ≤ 16) := ⟨by omega, by omega, by omega, by omega⟩
    generalize mrg (f + 1) a b = R at HR ⊢
    generalize mrg f (halfL a 0) (halfL b 0) = X at HX HR H0
    generalize mrg f (halfL a 1) (halfL b 1) = Y at HY HR H1
    generalize halfL a 0 = a0 at *
    generalize halfL b 0 = b0 at *
    generalize halfL a 1 = a1 at *
    generalize halfL b 1 = b1 at *
    clear hLA hLB e00 e01 e10 e11 h2 ih ha hb
    go_enter Tryz.func87, Tryz.ntmps87
    rcases hd with hd | ⟨hd, hd2⟩
    all_goals
      go_wp2_with fail
      refine HHA.out.mono ?_
      rintro e w1 ⟨v1, v1', rfl, o1, o1', b1⟩
      obtain ⟨a1_, m1, c1, rfl, HM1, _, _⟩ := o1.rd.formN
      obtain ⟨a1', m1', c1', rfl, HM1', _, _⟩ := o1'.rd.formN
      have B1 := b1
      go_wp2_with fail
      refine (HHB.out _ B1).mono ?_
      rintro e w2 ⟨v2, v2', rfl, o2, o2', b2⟩
      obtain ⟨a2_, m2, c2, rfl, HM2, _, _⟩ := o2.rd.formN
      obtain ⟨a2', m2', c2', rfl, HM2', _, _⟩ := o2'.rd.formN
      have B2 := B1.trans (b2.mono B1.size)
      have ra0 := o1.rd.below b2
      have ra1 := o1'.rd.below b2
      have rb0 := o2.rd
      have rb1 := o2'.rd
      clear o1 o1' o2 o2' b1 b2 B1 HHA HHB
      go_upto_region 8 with (first
        | (go_at_call 87; (with_reducible refine (H0.out _ _ _ ra0 rb0).mono ?_); rintro e w3 ⟨v3, rfl, o3, b3⟩; obtain ⟨a3, m3, c3, rfl, HM3, _, _⟩ := o3.formN; have ra1' := ra1.below b3; have rb1' := rb1.below b3)
        | (go_at_call 87; (with_reducible refine (H1.out _ _ _ ra1' rb1').mono ?_); rintro e w6 ⟨v6, rfl, o6, b6⟩; obtain ⟨a6, m6, c6, rfl, HM6, _, _⟩ := o6.formN; have o3' := o3.below b6; obtain ⟨r3, ov3, rp3⟩ := o3'; obtain ⟨r6, ov6, rp6⟩ := o6; have b26 := b3.trans (b6.mono b3.size); have hm3 : m3 ≤ 1310700 := (by have := HM3.out; have := HX.out; omega); have hm6 : m6 ≤ 1310700 := (by have := HM6.out; have := HY.out; omega); have HL6 : Hid (r3.length + r6.length = m3 + m6) := (by have := rp3.1; have := rp6.1; have := HM3.out; have := HM6.out; rw [Hid]; omega); have hs6 := b26.size)
        | (at_builtin; refine wpList_appn rfl _ _ 23 rfl elII ov3 ov6.rd rfl rfl rp6.one hs6 _ HL6.out (by omega) (by omega) ?_; intro b7 c7 w7 o7 g7 hat7))
      have o7p := (OwnP.cat rp3 ov3 rp6 b3.size g7 o7).mono (B' := w.heap.size) B2.size
      have b27 := b26.grown g7 hs6 (fun r hr => (ov3.lt r hr).1)
      have B7 := B2.trans (b27.mono B2.size)
      have hm7 : m3 + m6 ≤ 2621400 := by omega
      have HM7 : Hid ((X ++ Y).length = m3 + m6) := by rw [Hid, List.length_append, HM3.out, HM6.out]
      obtain ⟨m7, hmm⟩ : ∃ m7, m3 + m6 = m7 := ⟨_, rfl⟩
      rw [hmm] at o7p hm7 HM7 ⊢
      replace ra0 := ra0.below b27
      replace ra1 := ra1.below b27
      replace rb0 := rb0.below b27
      replace rb1 := rb1.below b27
      have hA := (Below.refl w7.heap.size w7).alloc (Nat.le_refl _) (.cells #[.slice a1_ m1 c1, .slice a2_ m2 c2] 33)
      have HC0 := Lib.hid (f_Concat _ _ _ (Rd2.of2 (heap_alloc_new w7 _) (ra0.below hA) (rb0.below hA)) (by simp [tot]; obtain ⟨q1, q2, q3, q4⟩ := HL0.out; omega))
      clear ov3 ov6 rp3 rp6 o7 g7 hat7 hmm hm3 hm6 HM3 HM6 HL6 b26 hs6 b27 ra0 rb0 ra1' rb1' b3 b6 H0 H1 HX HY
      go_wp2_with (first
        | (go_at_call 101; (with_reducible refine HC0.out.mono ?_); clear HC0; rintro e w9 ⟨v9, rfl, o9, b9⟩; obtain ⟨b10, mv, c10, rfl, HV0, _, _⟩ := o9.rd.formN; have b79 := hA.trans (b9.mono hA.size); have hA2 := (Below.refl w9.heap.size w9).alloc (Nat.le_refl _) (.cells #[.slice a1' m1' c1', .slice a2' m2' c2'] 33))
        | (go_at_call 101; (with_reducible refine (f_Concat _ _ _ (Rd2.of2 (heap_alloc_new w9 _) ((ra1.below b79).below hA2) ((rb1.below b79).below hA2)) (by simp [tot]; obtain ⟨q1, q2, q3, q4⟩ := HL0.out; omega)).mono ?_); rintro e w10 ⟨v10, rfl, o10', b10'⟩; obtain ⟨b13, mw, c13, rfl, HU0, _, _⟩ := o10'.rd.formN; have b910 := hA2.trans (b10'.mono hA2.size)))
      have b710 := b79.trans (b910.mono b79.size)
      have B13 := B7.trans (b710.mono B7.size)
      replace o7p := o7p.below b710
      have o10 := (o9.below b910).mono (B' := 0) (Nat.zero_le _)
      have o13 := o10'.mono (B' := 0) (Nat.zero_le _)
      have e0 : [a0, b0].flatten = a0 ++ b0 := by simp
      have e1 : [a1, b1].flatten = a1 ++ b1 := by simp
      rw [e0] at o10 HV0
      rw [e1] at o13 HU0
      have hmv : mv ≤ 32 := by have := HV0.out; rw [List.length_append] at this; obtain ⟨q1, q2, q3, q4⟩ := HL0.out; omega
      have hmw : mw ≤ 32 := by have := HU0.out; rw [List.length_append] at this; obtain ⟨q1, q2, q3, q4⟩ := HL0.out; omega
      clear e0 e1 o9 o10' b9 b10' hA hA2 b79 b910 b710 B7 B2 ra1 rb1 HL0
      generalize a0 ++ b0 = V at *
      generalize a1 ++ b1 = U at *
      have HV : Hid (mv = V.length) := HV0
      have HU : Hid (mw = U.length) := HU0
      generalize X ++ Y = XY at *
      obtain ⟨K, hK⟩ : ∃ K, min mw (mv - 1) = K := ⟨_, rfl⟩
      have HR2 : Hid (R = XY ++ cmpK V U K) := by rw [Hid, HR.out, cmpL, ← HV.out, ← HU.out, hK]
      have hK1 : K ≤ mw ∧ K ≤ mv - 1 ∧ (K < mw → mv - 1 ≤ K) := by omega
      clear hK HR
      go_wp2_with fail
      go_loopg [9, 12] K (fun gk vo iv wr => ∃ i : Nat, gk = K - i ∧ i ≤ K ∧ iv = .int .i64 i ∧ OwnP wr w.heap.size vo (XY ++ cmpK V U i) ∧ Hid ((XY ++ cmpK V U i).length ≤ 2621400 + i) ∧ Own wr 3 0 (.slice b10 mv c10) (ints V) ∧ Own wr 3 0 (.slice b13 mw c13) (ints U) ∧ Below w.heap.size w wr)
      case atStart => exact ⟨0, rfl, Nat.zero_le _, rfl, by simpa [cmpK] using o7p, by (rw [Hid, List.length_append, cmpK_len]; have := HM7.out; omega), o10.mono (Nat.zero_le _), o13.mono (Nat.zero_le _), B13⟩
      case round =>
        clear o7p o10 o13 B13
        obtain ⟨i, hg, hi, rfl, ho, HLN, hV, hU, hB⟩ := hrel
        by_cases hlt : i < K
        · obtain ⟨pu, x, rfl, hcx, hx⟩ := hU.rd.int (k := i) (by have := HU.out; omega)
          obtain ⟨pv, y, rfl, hcy, hy⟩ := hV.rd.int (k := i + 1) (by have := HV.out; omega)
          have HS : Hid (cmpK V U (i + 1) = cmpK V U i ++ [[min x y, max x y]]) := cmpK_succ hx.out hy.out
          rw [add_succ] at hcy
          obtain ⟨rows, hov, hrp⟩ := ho
          obtain ⟨ao, co, rfl, _, _⟩ := hov.rd.form
          have hrl : rows.length ≤ 2621500 := by have := hrp.1; have := HLN.out; omega
          have i1 : i < mw := by omega
          have i2 : (i : Int) + 1 < (mv : Int) := by omega
          have i3 : IntKind.i64.wrap ((i : Int) + 1) = (i : Int) + 1 := IntWalk.i64_in _ (by omega)
          have i4 : (0 : Int) ≤ (i : Int) + 1 := by omega
          have i5 : ((i : Int) + 1).toNat = i + 1 := by omega
          have hsz := hB.size
          have HFIN : Hid (∀ (p q : Int) (b6 : Option Addr) (c6 : Nat) (w6 : World), p = min x y → q = max x y → Own w6 33 w.heap.size (.slice b6 (rows.length + 1) c6) (rows ++ [.slice (some ⟨wr.heap.size, 0, none⟩) 2 2]) → (wr.alloc (.cells #[.int .i64 p, .int .i64 q] 3)).grownBy w6 (Value.slice ao rows.length co).ownBlock →
              OwnP w6 w.heap.size (.slice b6 (rows.length + 1) c6) (XY ++ cmpK V U (i + 1)) ∧ Hid ((XY ++ cmpK V U (i + 1)).length ≤ 2621400 + (i + 1)) ∧ Own w6 3 0 (.slice (some pv) mv c10) (ints V) ∧ Own w6 3 0 (.slice (some pu) mw c13) (ints U) ∧ Below w.heap.size w w6 ∧ w6.cell? (pu.add i) = some (.int .i64 x) ∧ w6.cell? ⟨pv.block, pv.off + (i + 1), none⟩ = some (.int .i64 y)) := fun p q b6 c6 w6 hp hq ho6 hg6 => by
            have hb1 : Below wr.heap.size wr (wr.alloc (.cells #[.int .i64 p, .int .i64 q] 3)) := (Below.refl _ _).alloc (Nat.le_refl _) _
            have hov1 := hov.below hb1
            have hV1 := hV.below hb1
            have hU1 := hU.below hb1
            have hV6 := hV1.apart hg6 (fun k h1 h2 => hov1.elem_ne hV1 (by decide) k h2 h1)
            have hU6 := hU1.apart hg6 (fun k h1 h2 => hov1.elem_ne hU1 (by decide) k h2 h1)
            refine ⟨?_, ?_, hV6, hU6, ?_, hU6.rd.cell_i hx.out, by have := hV6.rd.cell_i hy.out; rwa [add_succ] at this⟩
            · rw [HS.out, ← List.append_assoc, ← hp, ← hq]
              exact OwnP.push (hrp.below hb1) hov1 (heap_alloc_new wr _) hg6 ho6 hsz
            · have := HLN.out
              rw [Hid, List.length_append, cmpK_len]
              rw [List.length_append, cmpK_len] at this
              omega
            · exact (hB.trans (hb1.mono hsz)).grown hg6 (by simp; omega) (fun r hr => (hov1.lt r hr).1)
          clear hrp hV hU hB HLN hx hy
          have hovA := fun o => hov.alloc o
          clear hov
          go_wp2_with fail
          go_region_held3 (fun wx => wx.cell? (pu.add i) = some (.int .i64 x) ∧ wx.cell? ⟨pv.block, pv.off + (i + 1), none⟩ = some (.int .i64 y)) (first | exact ⟨k1, k2⟩ | go_keep)
            ((first
              | (refine step_app1 (by rfl) _ _ _ (by rfl) elII (by rfl) (hovA _) (by show Value.slice (some ⟨wr.heap.size + 1, 0, none⟩) 1 1 = _; simp) (by rfl) (by simp; omega) (by omega) (by omega) ?_; intro b6 c6 w6 ho6 hg6 hat6; obtain ⟨f1, f2, f3, f4, f5, k1, k2⟩ := HFIN.out _ _ _ _ _ (min_if2 x y) (max_if2 x y) ho6 hg6)))
          all_goals go_wp2_with fail
          all_goals
            go_roundg (K - (i + 1))
            case measure => omega
            case rel => exact ⟨i + 1, rfl, hlt, by go_num, f1, f2, f3, f4, f5⟩
        · obtain rfl : i = K := by omega
          have hlast : ¬ i < mw ∨ (i < mw ∧ ¬ (i : Int) + 1 < (mv : Int)) := by omega
          rcases hlast with hl1 | ⟨hl1, hl2⟩
          all_goals
            go_wp2_with fail
            go_ret
            exact ⟨_, rfl, by rw [HR2.out]; exact ho, hB⟩

end Go.Proofs.YtggblfnajeikjaaGreat
