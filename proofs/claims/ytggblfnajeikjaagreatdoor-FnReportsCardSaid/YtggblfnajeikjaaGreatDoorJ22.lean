/- Joined texts of the proof: DrawsB, DrawsC. -/
import Derived.WalkKit
import Derived.WalkSpells
import Derived.WalkLawsBesides
import Derived.Deep.Draws
import Derived.Lib.Hide
import Derived.RegionTactic
import Derived.Test.YtggblfnajeikjaaGreatDoorRows
import Derived.BigQuiet
import Derived.Deep.QuietTactic
import Derived.Deep.DeepCutAuto
import Derived.Deep.LoopGhost
import Derived.Deep.RegionHeld3
import Derived.IntWalk
import Derived.Test.YtggblfnajeikjaaGreatDoorJ1
import Derived.Test.YtggblfnajeikjaaGreatDoorJ6
import Derived.Test.YtggblfnajeikjaaGreatDoorJ7
namespace Go.Proofs.YtggblfnajeikjaaGreatDoor
open Go.RowKit
set_option linter.unusedVariables false
set_option linter.unusedSimpArgs false

set_option maxHeartbeats 1000000 in
theorem s_l08Half (v : Value) (xs : List Int) (w : World) (h : Rd w v (ints xs)) (f : Nat) (hf : f ≤ 1) (hl : xs.length ≤ 1000) : Calls Tryz.prog 217 #[v, .int .i64 f] w (RetOwn 3 (ints (halfL xs f)) w) := by
  obtain ⟨a, n, c, rfl, HN, hnc, hc⟩ := h.formN
  have hn : n ≤ 1000 := by have := HN.out; omega
  obtain ⟨K, hK⟩ : ∃ K, (n + 1 - f) / 2 = K := ⟨_, rfl⟩
  have HR : Hid (halfL xs f = halfK xs f K) := by rw [Hid, halfL, ← HN.out, hK]
  have HK := Lib.hid hK
  have hK1 : K ≤ 1001 := by omega
  clear hK
  go_enter Tryz.func217, Tryz.ntmps217
  go_wp2_with fail
  go_loopg [5, 6] K (fun gk vo iv wr => ∃ (k i : Nat), gk = K - k ∧ k ≤ K ∧ iv = .int .i64 i ∧ Hid (i = f + 2 * k) ∧ i ≤ 3000 ∧ Own wr 3 w.heap.size vo (ints (halfK xs f k)) ∧ Below w.heap.size w wr)
  case atStart => exact ⟨0, f, rfl, Nat.zero_le _, rfl, rfl, by omega, Own.lit0 w 3 (Nat.le_refl _), (Below.refl _ _).alloc (Nat.le_refl _) _⟩
  case round =>
    obtain ⟨k, i, hg, hk, rfl, HI, hi, ho, hb⟩ := hrel
    by_cases hlt : i < n
    · obtain ⟨ad, x, rfl, hcx, hx⟩ := (h.below hb).int (k := i) (by have := HN.out; omega)
      have HS : Hid (halfK xs f (k + 1) = halfK xs f k ++ [x]) := halfK_succ (by rw [← HI.out]; exact hx.out)
      have hkK : k < K := by have := HK.out; have := HI.out; omega
      obtain ⟨ao, mo, co, rfl, HMO, _, _⟩ := ho.rd.formN
      have hmo : mo ≤ 1001 := by have := HMO.out; rw [halfK_len] at this; omega
      have HL : Hid ((ints (halfK xs f k)).length = mo) := by rw [Hid, ints_length]; exact HMO.out.symm
      have hsz := hb.size
      have HI2 : Hid (i + 2 = f + 2 * (k + 1)) := by have := HI.out; rw [Hid]; omega
      clear hx
      go_wp2_with (at_builtin; refine wpList_app1m rfl _ _ 23 rfl elI rfl ho (by show Value.slice (some ⟨wr.heap.size, 0, none⟩) 1 1 = _; simp) rfl hsz _ HL.out (by omega) (by omega) ?_; intro b6 c6 w6 ho6 hg6 hat6)
      go_roundg (K - (k + 1))
      case measure => omega
      case rel => exact ⟨k + 1, i + 2, rfl, hkK, by go_num, HI2, by omega, by rw [HS.out, ints_append]; exact ho6, hb.grown hg6 hsz fun r hr => (ho.lt r hr).1⟩
    · obtain rfl : k = K := by have := HK.out; have := HI.out; omega
      go_wp2_with fail
      go_ret
      exact ⟨_, rfl, by rw [HR.out]; exact ho, hb⟩

set_option maxHeartbeats 1000000 in
theorem s_l08Wires (f n : Nat) (hf : f ≤ 1000) (hn : n ≤ 1000) (w : World) : Calls Tryz.prog 52 #[.int .i64 f, .int .i64 n] w (RetOwn 3 (ints (wiresL f n)) w) := by
  go_enter Tryz.func52, Tryz.ntmps52
  go_wp2_with fail
  go_loopg [5, 6] n (fun gk vo iv wr => ∃ (k : Nat), gk = n - k ∧ k ≤ n ∧ iv = .int .i64 k ∧ Own wr 3 w.heap.size vo (ints (wiresL f k)) ∧ Below w.heap.size w wr)
  case atStart => exact ⟨0, rfl, Nat.zero_le _, rfl, Own.lit0 w 3 (Nat.le_refl _), (Below.refl _ _).alloc (Nat.le_refl _) _⟩
  case round =>
    obtain ⟨k, hg, hk, rfl, ho, hb⟩ := hrel
    by_cases hlt : k < n
    · obtain ⟨ao, mo, co, rfl, HMO, _, _⟩ := ho.rd.formN
      have hmo : mo ≤ 1000 := by have := HMO.out; rw [wiresL_len] at this; omega
      have HL : Hid ((ints (wiresL f k)).length = mo) := by rw [Hid, ints_length]; exact HMO.out.symm
      have hsz := hb.size
      have HS : Hid (ints (wiresL f (k + 1)) = ints (wiresL f k) ++ [.int .i64 ((f : Int) + (k : Int))]) := by rw [Hid, wiresL_succ, ints_append]; simp [ints]
      go_wp2_with (at_builtin; refine wpList_app1m rfl _ _ 23 rfl elI rfl ho (by show Value.slice (some ⟨wr.heap.size, 0, none⟩) 1 1 = _; simp) rfl hsz _ HL.out (by omega) (by omega) ?_; intro b6 c6 w6 ho6 hg6 hat6)
      go_roundg (n - (k + 1))
      case measure => omega
      case rel => exact ⟨k + 1, rfl, hlt, by go_num, by rw [HS.out]; exact ho6, hb.grown hg6 hsz fun r hr => (ho.lt r hr).1⟩
    · obtain rfl : k = n := by omega
      go_wp2_with fail
      go_ret
      exact ⟨_, rfl, ho, hb⟩

theorem min_if2 (x y : Int) : (if y < x then y else x) = min x y := by split <;> omega
theorem max_if2 (x y : Int) : (if x < y then y else x) = max x y := by split <;> omega

set_option maxRecDepth 100000 in
set_option maxHeartbeats 4000000 in
theorem s_l08Merge : ∀ (f : Nat) (va vb : Value) (a b : List Int) (w : World), Rd w va (ints a) → Rd w vb (ints b) → a.length + b.length ≤ f → f ≤ 16 → Calls Tryz.prog 174 #[va, vb] w (RetOwnP (mrg f a b) w) := by
  intro f
  induction f with
  | zero =>
    intro va vb a b w ha hb hl hf
    obtain ⟨aa, na, ca, rfl, HA, _, _⟩ := ha.formN
    obtain ⟨ab, nb, cb, rfl, HB, _, _⟩ := hb.formN
    obtain rfl : na = 0 := by have := HA.out; omega
    go_enter Tryz.func174, Tryz.ntmps174
    go_wp2_with fail
    go_ret
    exact ⟨_, rfl, OwnP.lit0 w (Nat.le_refl _), (Below.refl _ _).alloc (Nat.le_refl _) _⟩
  | succ f ih =>
    intro va vb a b w ha hb hl hf
    obtain ⟨aa, na, ca, rfl, HA, hna, _⟩ := ha.formN
    obtain ⟨ab, nb, cb, rfl, HB, hnb, _⟩ := hb.formN
    have hna16 : na ≤ 16 := by have := HA.out; omega
    have hnb16 : nb ≤ 16 := by have := HB.out; omega
    by_cases h0 : na = 0
    · have HR : Hid (mrg (f + 1) a b = []) := by rw [Hid, mrg, if_pos (.inl (by rw [← HA.out]; exact h0))]
      subst h0
      clear ih
      go_enter Tryz.func174, Tryz.ntmps174
      go_wp2_with fail
      go_ret
      exact ⟨_, rfl, by rw [HR.out]; exact OwnP.lit0 w (Nat.le_refl _), (Below.refl _ _).alloc (Nat.le_refl _) _⟩
    have d0 : ((na : Int) == 0) = false := by rw [beq_eq_false_iff_ne]; omega
    by_cases h1 : nb = 0
    · have HR : Hid (mrg (f + 1) a b = []) := by rw [Hid, mrg, if_pos (.inr (by rw [← HB.out]; exact h1))]
      subst h1
      clear ih
      go_enter Tryz.func174, Tryz.ntmps174
      go_wp2_with fail
      go_ret
      exact ⟨_, rfl, by rw [HR.out]; exact OwnP.lit0 w (Nat.le_refl _), (Below.refl _ _).alloc (Nat.le_refl _) _⟩
    have d1 : ((nb : Int) == 0) = false := by rw [beq_eq_false_iff_ne]; omega
    by_cases h2 : na = 1 ∧ nb = 1
    · obtain ⟨e1, e2⟩ := h2
      obtain ⟨pa, x, rfl, hcx, hx⟩ := ha.int (k := 0) (by have := HA.out; omega)
      obtain ⟨pb, y, rfl, hcy, hy⟩ := hb.int (k := 0) (by have := HB.out; omega)
      have HR : Hid (mrg (f + 1) a b = [[x, y]]) := by
        have l1 := HA.out
        have l2 := HB.out
        have g1 := hx.out
        have g2 := hy.out
        rw [Hid, mrg, if_neg (by omega), if_pos ⟨by omega, by omega⟩, List.getD_eq_getElem?_getD, g1, List.getD_eq_getElem?_getD, g2]
        rfl
      subst e1
      subst e2
      have c1 : w.cell? pa = some (.int .i64 x) := by simpa [Addr.add] using hcx
      have c2 : w.cell? pb = some (.int .i64 y) := by simpa [Addr.add] using hcy
      clear ih hx hy hcx hcy ha hb
      go_enter Tryz.func174, Tryz.ntmps174
      go_wp2_with fail
      go_region_held3 (fun wx => wx.cell? pa = some (.int .i64 x) ∧ wx.cell? pb = some (.int .i64 y)) (go_keep) (fail)
      all_goals
        go_wp2_with fail
        go_ret
        exact ⟨_, rfl, by rw [HR.out]; exact OwnP.of_heap (OwnP.lit1 (Nat.le_refl _) x y) rfl, (((Below.refl _ _).alloc (Nat.le_refl _) _).alloc (by simp) _).drew⟩
    have hd : ((na : Int) == 1) = false ∨ (((na : Int) == 1) = true ∧ ((nb : Int) == 1) = false) := by
      by_cases e1 : na = 1
      · refine .inr ⟨by rw [beq_iff_eq]; omega, ?_⟩
        rw [beq_eq_false_iff_ne]; omega
      · exact .inl (by rw [beq_eq_false_iff_ne]; omega)
    have hLA := HA.out
    have hLB := HB.out
    have e00 := halfL_len a 0
    have e01 := halfL_len b 0
    have e10 := halfL_len a 1
    have e11 := halfL_len b 1
    have HR : Hid (mrg (f + 1) a b = mrg f (halfL a 0) (halfL b 0) ++ mrg f (halfL a 1) (halfL b 1) ++ cmpL (halfL a 0 ++ halfL b 0) (halfL a 1 ++ halfL b 1)) := by
      rw [Hid, mrg, if_neg (by omega), if_neg (by omega)]
    have H0 := Lib.hid (fun (v v' : Value) (W : World) (h : Rd W v (ints (halfL a 0))) (h' : Rd W v' (ints (halfL b 0))) => ih v v' _ _ W h h' (by omega) (by omega))
    have H1 := Lib.hid (fun (v v' : Value) (W : World) (h : Rd W v (ints (halfL a 1))) (h' : Rd W v' (ints (halfL b 1))) => ih v v' _ _ W h h' (by omega) (by omega))
    have HX : Hid ((mrg f (halfL a 0) (halfL b 0)).length ≤ 1310700) := mrg_le (by omega) (by omega)
    have HY : Hid ((mrg f (halfL a 1) (halfL b 1)).length ≤ 1310700) := mrg_le (by omega) (by omega)
    have HA0 := Lib.hid (fun (W : World) (hW : Below w.heap.size w W) => s_l08Half _ a W (ha.below hW) 0 (by omega) (by omega))
    have HB0 := Lib.hid (fun (W : World) (hW : Below w.heap.size w W) => s_l08Half _ b W (hb.below hW) 0 (by omega) (by omega))
    have HA1 := Lib.hid (fun (W : World) (hW : Below w.heap.size w W) => s_l08Half _ a W (ha.below hW) 1 (by omega) (by omega))
    have HB1 := Lib.hid (fun (W : World) (hW : Below w.heap.size w W) => s_l08Half _ b W (hb.below hW) 1 (by omega) (by omega))
    have HL0 : Hid ((halfL a 0).length ≤ 16 ∧ (halfL b 0).length ≤ 16 ∧ (halfL a 1).length ≤ 16 ∧ (halfL b 1).length ≤ 16) := ⟨by omega, by omega, by omega, by omega⟩
    generalize mrg (f + 1) a b = R at HR ⊢
    generalize mrg f (halfL a 0) (halfL b 0) = X at HX HR H0
    generalize mrg f (halfL a 1) (halfL b 1) = Y at HY HR H1
    generalize halfL a 0 = a0 at *
    generalize halfL b 0 = b0 at *
    generalize halfL a 1 = a1 at *
    generalize halfL b 1 = b1 at *
    clear hLA hLB e00 e01 e10 e11 h2 ih ha hb
    go_enter Tryz.func174, Tryz.ntmps174
    rcases hd with hd | ⟨hd, hd2⟩
    all_goals
      go_wp2_with fail
      refine (HA0.out _ (Below.refl _ _)).mono ?_
      rintro e w1 ⟨v1, rfl, o1, b1⟩
      have B1 := b1
      go_wp2_with fail
      refine (HB0.out _ B1).mono ?_
      rintro e w2 ⟨v2, rfl, o2, b2⟩
      have B2 := B1.trans (b2.mono B1.size)
      go_wp2_with fail
      refine (H0.out _ _ _ (o1.rd.below b2) o2.rd).mono ?_
      rintro e w3 ⟨v3, rfl, o3, b3⟩
      have B3 := B2.trans (b3.mono B2.size)
      replace o3 := o3.mono (B' := w.heap.size) B2.size
      obtain ⟨a3, m3, c3, rfl, HM3, _, _⟩ := o3.formN
      clear o1 o2 b1 b2 b3 B1 B2
      go_wp2_with fail
      refine (HA1.out _ B3).mono ?_
      rintro e w4 ⟨v4, rfl, o4, b4⟩
      have B4 := B3.trans (b4.mono B3.size)
      replace o3 := o3.below b4
      go_wp2_with fail
      refine (HB1.out _ B4).mono ?_
      rintro e w5 ⟨v5, rfl, o5, b5⟩
      have B5 := B4.trans (b5.mono B4.size)
      replace o3 := o3.below b5
      go_wp2_with fail
      refine (H1.out _ _ _ (o4.rd.below b5) o5.rd).mono ?_
      rintro e w6 ⟨v6, rfl, o6, b6⟩
      have B6 := B5.trans (b6.mono B5.size)
      replace o3 := o3.below b6
      obtain ⟨a6, m6, c6, rfl, HM6, _, _⟩ := o6.formN
      obtain ⟨r3, ov3, rp3⟩ := o3
      obtain ⟨r6, ov6, rp6⟩ := o6
      have hm3 : m3 ≤ 1310700 := by have := HM3.out; have := HX.out; omega
      have hm6 : m6 ≤ 1310700 := by have := HM6.out; have := HY.out; omega
      have HL6 : Hid (r3.length + r6.length = m3 + m6) := by have := rp3.1; have := rp6.1; have := HM3.out; have := HM6.out; rw [Hid]; omega
      have hs6 := B6.size
      clear o4 o5 b4 b5 b6 B3 B4
      go_wp2_with (at_builtin; refine wpList_appn rfl _ _ 28 rfl elII ov3 ov6.rd rfl rfl rp6.one hs6 _ HL6.out (by omega) (by omega) ?_; intro b7 c7 w7 o7 g7 hat7)
      have o7p := OwnP.cat rp3 ov3 rp6 B5.size g7 o7
      have B7 := B6.grown g7 hs6 (fun r hr => (ov3.lt r hr).1)
      have hm7 : m3 + m6 ≤ 2621400 := by omega
      have HM7 : Hid ((X ++ Y).length = m3 + m6) := by rw [Hid, List.length_append, HM3.out, HM6.out]
      obtain ⟨m7, hmm⟩ : ∃ m7, m3 + m6 = m7 := ⟨_, rfl⟩
      rw [hmm] at o7p hm7 HM7 ⊢
      clear ov3 ov6 rp3 rp6 o7 g7 hat7 hmm hm3 hm6 HM3 HM6 HL6 B6 hs6
      go_wp2_with fail
      refine (HA0.out _ B7).mono ?_
      rintro e w8 ⟨v8, rfl, o8, b8⟩
      obtain ⟨a8, m8, c8, rfl, HM8, _, _⟩ := o8.rd.formN
      go_wp2_with fail
      refine (HB0.out _ (B7.trans (b8.mono B7.size))).mono ?_
      rintro e w9 ⟨v9, rfl, o9, b9⟩
      have b79 := b8.trans (b9.mono b8.size)
      replace o8 := o8.below b9
      obtain ⟨a9, m9, c9, rfl, HM9, _, _⟩ := o9.rd.formN
      have hmv : m8 + m9 ≤ 32 := by have := HM8.out; have := HM9.out; obtain ⟨q1, q2, q3, q4⟩ := HL0.out; omega
      have HLv : Hid ((ints a0).length + (ints b0).length = m8 + m9) := by rw [Hid, ints_length, ints_length, HM8.out, HM9.out]
      have hs9 := b79.size
      go_wp2_with (at_builtin; refine wpList_appn rfl _ _ 23 rfl elI o8 o9.rd rfl rfl (oneCell_ints1 _) hs9 _ HLv.out (by omega) (by omega) ?_; intro b10 c10 w10 o10 g10 hat10)
      have b710 := b79.grown g10 hs9 (fun r hr => (o8.lt r hr).1)
      have B10 := B7.trans (b710.mono B7.size)
      replace o7p := o7p.below b710
      rw [← ints_append] at o10
      clear o8 o9 b8 b9 b79 g10 hat10 hs9 B7 b710 HLv HM8 HM9
      obtain ⟨mv, hmv2⟩ : ∃ mv, m8 + m9 = mv := ⟨_, rfl⟩
      rw [hmv2] at o10 hmv ⊢
      clear hmv2
      go_wp2_with fail
      refine (HA1.out _ B10).mono ?_
      rintro e w11 ⟨v11, rfl, o11, b11⟩
      obtain ⟨a11, m11, c11, rfl, HM11, _, _⟩ := o11.rd.formN
      go_wp2_with fail
      refine (HB1.out _ (B10.trans (b11.mono B10.size))).mono ?_
      rintro e w12 ⟨v12, rfl, o12, b12⟩
      have b112 := b11.trans (b12.mono b11.size)
      replace o11 := o11.below b12
      obtain ⟨a12, m12, c12, rfl, HM12, _, _⟩ := o12.rd.formN
      have hmw : m11 + m12 ≤ 32 := by have := HM11.out; have := HM12.out; obtain ⟨q1, q2, q3, q4⟩ := HL0.out; omega
      have HLw : Hid ((ints a1).length + (ints b1).length = m11 + m12) := by rw [Hid, ints_length, ints_length, HM11.out, HM12.out]
      have hs12 := b112.size
      go_wp2_with (at_builtin; refine wpList_appn rfl _ _ 23 rfl elI o11 o12.rd rfl rfl (oneCell_ints1 _) hs12 _ HLw.out (by omega) (by omega) ?_; intro b13 c13 w13 o13 g13 hat13)
      have b1013 := b112.grown g13 hs12 (fun r hr => (o11.lt r hr).1)
      have B13 := B10.trans (b1013.mono B10.size)
      replace o7p := o7p.below b1013
      replace o10 := o10.below b1013
      rw [← ints_append] at o13
      clear o11 o12 b11 b12 b112 g13 hat13 hs12 B10 b1013 HLw HM11 HM12
      obtain ⟨mw, hmw2⟩ : ∃ mw, m11 + m12 = mw := ⟨_, rfl⟩
      rw [hmw2] at o13 hmw ⊢
      clear hmw2 HA0 HB0 HA1 HB1 H0 H1 HX HY HL0
      generalize a0 ++ b0 = V at *
      generalize a1 ++ b1 = U at *
      have HV : Hid (mv = V.length) := by
        obtain ⟨p, q, r, e, h1, _, _⟩ := o10.rd.formN
        simp only [Value.slice.injEq] at e
        rw [Hid, e.2.1]; exact h1.out
      have HU : Hid (mw = U.length) := by
        obtain ⟨p, q, r, e, h1, _, _⟩ := o13.rd.formN
        simp only [Value.slice.injEq] at e
        rw [Hid, e.2.1]; exact h1.out
      generalize X ++ Y = XY at *
      obtain ⟨K, hK⟩ : ∃ K, min mw (mv - 1) = K := ⟨_, rfl⟩
      have HR2 : Hid (R = XY ++ cmpK V U K) := by rw [Hid, HR.out, cmpL, ← HV.out, ← HU.out, hK]
      have hK1 : K ≤ mw ∧ K ≤ mv - 1 ∧ (K < mw → mv - 1 ≤ K) := by omega
      clear hK HR
      go_wp2_with fail
      go_loopg [5, 8] K (fun gk vo iv wr => ∃ i : Nat, gk = K - i ∧ i ≤ K ∧ iv = .int .i64 i ∧ OwnP wr w.heap.size vo (XY ++ cmpK V U i) ∧ Hid ((XY ++ cmpK V U i).length ≤ 2621400 + i) ∧ Own wr 3 0 (.slice b10 mv c10) (ints V) ∧ Own wr 3 0 (.slice b13 mw c13) (ints U) ∧ Below w.heap.size w wr)
      case atStart => exact ⟨0, rfl, Nat.zero_le _, rfl, by simpa [cmpK] using o7p, by (rw [Hid, List.length_append, cmpK_len]; have := HM7.out; omega), o10.mono (Nat.zero_le _), o13.mono (Nat.zero_le _), B13⟩
      case round =>
        clear o7p o10 o13 B13
        obtain ⟨i, hg, hi, rfl, ho, HLN, hV, hU, hB⟩ := hrel
        by_cases hlt : i < K
        · obtain ⟨pu, x, rfl, hcx, hx⟩ := hU.rd.int (k := i) (by have := HU.out; omega)
          obtain ⟨pv, y, rfl, hcy, hy⟩ := hV.rd.int (k := i + 1) (by have := HV.out; omega)
          have HS : Hid (cmpK V U (i + 1) = cmpK V U i ++ [[min x y, max x y]]) := cmpK_succ hx.out hy.out
          rw [add_succ] at hcy
          obtain ⟨rows, hov, hrp⟩ := ho
          obtain ⟨ao, co, rfl, _, _⟩ := hov.rd.form
          have hrl : rows.length ≤ 2621500 := by have := hrp.1; have := HLN.out; omega
          have i1 : i < mw := by omega
          have i2 : (i : Int) + 1 < (mv : Int) := by omega
          have i3 : IntKind.i64.wrap ((i : Int) + 1) = (i : Int) + 1 := IntWalk.i64_in _ (by omega)
          have i4 : (0 : Int) ≤ (i : Int) + 1 := by omega
          have i5 : ((i : Int) + 1).toNat = i + 1 := by omega
          have hsz := hB.size
          have HFIN : Hid (∀ (p q : Int) (b6 : Option Addr) (c6 : Nat) (w6 : World), p = min x y → q = max x y → Own w6 23 w.heap.size (.slice b6 (rows.length + 1) c6) (rows ++ [.slice (some ⟨wr.heap.size, 0, none⟩) 2 2]) → (wr.alloc (.cells #[.int .i64 p, .int .i64 q] 3)).grownBy w6 (Value.slice ao rows.length co).ownBlock →
              OwnP w6 w.heap.size (.slice b6 (rows.length + 1) c6) (XY ++ cmpK V U (i + 1)) ∧ Hid ((XY ++ cmpK V U (i + 1)).length ≤ 2621400 + (i + 1)) ∧ Own w6 3 0 (.slice (some pv) mv c10) (ints V) ∧ Own w6 3 0 (.slice (some pu) mw c13) (ints U) ∧ Below w.heap.size w w6 ∧ w6.cell? (pu.add i) = some (.int .i64 x) ∧ w6.cell? ⟨pv.block, pv.off + (i + 1), none⟩ = some (.int .i64 y)) := fun p q b6 c6 w6 hp hq ho6 hg6 => by
            have hb1 : Below wr.heap.size wr (wr.alloc (.cells #[.int .i64 p, .int .i64 q] 3)) := (Below.refl _ _).alloc (Nat.le_refl _) _
            have hov1 := hov.below hb1
            have hV1 := hV.below hb1
            have hU1 := hU.below hb1
            have hV6 := hV1.apart hg6 (fun k h1 h2 => hov1.elem_ne hV1 (by decide) k h2 h1)
            have hU6 := hU1.apart hg6 (fun k h1 h2 => hov1.elem_ne hU1 (by decide) k h2 h1)
            refine ⟨?_, ?_, hV6, hU6, ?_, hU6.rd.cell_i hx.out, by have := hV6.rd.cell_i hy.out; rwa [add_succ] at this⟩
            · rw [HS.out, ← List.append_assoc, ← hp, ← hq]
              exact OwnP.push (hrp.below hb1) hov1 (heap_alloc_new wr _) hg6 ho6 hsz
            · have := HLN.out
              rw [Hid, List.length_append, cmpK_len]
              rw [List.length_append, cmpK_len] at this
              omega
            · exact (hB.trans (hb1.mono hsz)).grown hg6 (by simp; omega) (fun r hr => (hov1.lt r hr).1)
          clear hrp hV hU hB HLN hx hy
          have hovA := fun o => hov.alloc o
          clear hov
          go_wp2_with fail
          go_region_held3 (fun wx => wx.cell? (pu.add i) = some (.int .i64 x) ∧ wx.cell? ⟨pv.block, pv.off + (i + 1), none⟩ = some (.int .i64 y)) (first | exact ⟨k1, k2⟩ | go_keep)
            ((first
              | (refine step_app1 (by rfl) _ _ _ (by rfl) elII (by rfl) (hovA _) (by show Value.slice (some ⟨wr.heap.size + 1, 0, none⟩) 1 1 = _; simp) (by rfl) (by simp; omega) (by omega) (by omega) ?_; intro b6 c6 w6 ho6 hg6 hat6; obtain ⟨f1, f2, f3, f4, f5, k1, k2⟩ := HFIN.out _ _ _ _ _ (min_if2 x y) (max_if2 x y) ho6 hg6)))
          all_goals go_wp2_with fail
          all_goals
            go_roundg (K - (i + 1))
            case measure => omega
            case rel => exact ⟨i + 1, rfl, hlt, by go_num, f1, f2, f3, f4, f5⟩
        · obtain rfl : i = K := by omega
          have hlast : ¬ i < mw ∨ (i < mw ∧ ¬ (i : Int) + 1 < (mv : Int)) := by omega
          rcases hlast with hl1 | ⟨hl1, hl2⟩
          all_goals
            go_wp2_with fail
            go_ret
            exact ⟨_, rfl, by rw [HR2.out]; exact ho, hB⟩

end Go.Proofs.YtggblfnajeikjaaGreatDoor

namespace Go.Proofs.YtggblfnajeikjaaGreatDoor
open Go.RowKit
set_option linter.unusedVariables false
set_option linter.unusedSimpArgs false

theorem wiresL_mem {f n : Nat} {x : Int} (h : x ∈ wiresL f n) : ∃ j : Nat, x = (j : Int) ∧ j < f + n := by
  simp only [wiresL, List.mem_map, List.mem_range] at h
  obtain ⟨i, hi, rfl⟩ := h
  exact ⟨f + i, rfl, by omega⟩
theorem mrgS_row {a b : List Int} {r : List Int} (h : r ∈ mrg (a.length + b.length) (wiresL 0 a.length) (wiresL a.length b.length)) : ∃ i j : Nat, r = [(i : Int), (j : Int)] ∧ i < (a ++ b).length ∧ j < (a ++ b).length := by
  obtain ⟨x, y, rfl, hx, hy⟩ := mrg_row _ _ _ _ h
  have hw : ∀ z, z ∈ wiresL 0 a.length ++ wiresL a.length b.length → ∃ j : Nat, z = (j : Int) ∧ j < (a ++ b).length := fun z hz => by
    rw [List.length_append]
    rcases List.mem_append.1 hz with hz | hz
    · obtain ⟨j, e, hj⟩ := wiresL_mem hz
      exact ⟨j, e, by omega⟩
    · obtain ⟨j, e, hj⟩ := wiresL_mem hz
      exact ⟨j, e, by omega⟩
  obtain ⟨i, rfl, hi⟩ := hw x hx
  obtain ⟨j, rfl, hj⟩ := hw y hy
  exact ⟨i, j, rfl, hi, hj⟩
/-- Places read as wires. -/
def atW (l : List Int) (p : List Int) : List Int := [l.getD (p.getD 0 0).toNat 0, l.getD (p.getD 1 0).toNat 0]

set_option maxRecDepth 100000 in
set_option maxHeartbeats 4000000 in
theorem s_l09Merge (va vb : Value) (a b : List Int) (w : World) (ha : Rd w va (ints a)) (hb : Rd w vb (ints b)) (hl : a.length + b.length ≤ 16) : Calls Tryz.prog 110 #[va, vb] w (RetOwnP (mrgS a b) w) := by
  obtain ⟨aa, na, ca, rfl, HA, _, _⟩ := ha.formN
  obtain ⟨ab, nb, cb, rfl, HB, _, _⟩ := hb.formN
  have hn : na + nb ≤ 16 := by have := HA.out; have := HB.out; omega
  have HLa : Hid ((ints a).length = na) := by rw [Hid, ints_length]; exact HA.out.symm
  have HLab : Hid ((ints a).length + (ints b).length = na + nb) := by rw [Hid, ints_length, ints_length]; have := HA.out; have := HB.out; omega
  have HM := Lib.hid (fun (v v' : Value) (W : World) (h : Rd W v (ints (wiresL 0 na))) (h' : Rd W v' (ints (wiresL na nb))) => s_l08Merge (na + nb) v v' _ _ W h h' (by rw [wiresL_len, wiresL_len]; omega) hn)
  have HML : Hid ((mrg (na + nb) (wiresL 0 na) (wiresL na nb)).length ≤ 1310700) := mrg_le (by rw [wiresL_len, wiresL_len]; exact hn) hn
  have HRW : Hid (∀ r ∈ mrg (na + nb) (wiresL 0 na) (wiresL na nb), ∃ i j : Nat, r = [(i : Int), (j : Int)] ∧ i < (a ++ b).length ∧ j < (a ++ b).length) := fun r hr => by
    rw [HA.out, HB.out] at hr
    exact mrgS_row hr
  have HR : Hid (mrgS a b = (mrg (na + nb) (wiresL 0 na) (wiresL na nb)).map (atW (a ++ b))) := by rw [Hid, mrgS, HA.out, HB.out]; rfl
  generalize mrgS a b = R at HR ⊢
  generalize mrg (na + nb) (wiresL 0 na) (wiresL na nb) = M at HM HML HRW HR
  go_enter Tryz.func110, Tryz.ntmps110
  go_wp2_with (first
    | (at_builtin; (refine wpList_copy (B := w.heap.size) rfl _ _ 23 rfl elI ha rfl rfl (oneCell_ints1 _) (Nat.le_refl _) _ HLa.out (by omega) (by omega) ?_); intro b1 c1 w1 ho1 hb1)
    | (at_builtin; refine wpList_appn rfl _ _ 23 rfl elI ho1 (hb.below hb1) rfl rfl (oneCell_ints1 _) hb1.size _ HLab.out (by omega) (by omega) ?_; intro b2 c2 w2 ho2 hg2 hat2; have hb2 := hb1.grown hg2 hb1.size (fun r hr => (ho1.lt r hr).1)))
  rw [← ints_append] at ho2
  have hL2 : Hid ((a ++ b).length = na + nb) := by rw [Hid, List.length_append]; have := HLab.out; rw [ints_length, ints_length] at this; exact this
  obtain ⟨nn, hnn⟩ : ∃ nn, na + nb = nn := ⟨_, rfl⟩
  rw [hnn] at ho2 hn hL2
  have HNN := Lib.hid hnn
  have hna : na ≤ 16 ∧ nb ≤ 16 := by omega
  clear hnn
  have hs2 := hb2.size
  have oL := OwnP.lit0 (B := w.heap.size) w2 hs2
  have oA := ho2.alloc (.cells #[] 23)
  have B2 := hb2.alloc hs2 (.cells #[] 23)
  obtain ⟨g0, hg0⟩ : ∃ g0, w2.heap.size = g0 := ⟨_, rfl⟩
  obtain ⟨w3, hw3⟩ : ∃ w3, w2.alloc (.cells #[] 23) = w3 := ⟨_, rfl⟩
  have hz3 : g0 < w3.heap.size := by rw [← hw3, ← hg0]; simp
  have HW3 := Lib.hid hw3
  have HG0 := Lib.hid hg0
  rw [hw3, hg0] at oL
  rw [hw3] at oA B2
  clear hw3 hg0 ho1 hb1 ho2 hg2 hat2 hb2 hs2 ha hb HLa HLab HA HB
  rw [HW3.out, HG0.out, HNN.out]
  refine (s_l08Wires 0 na (by omega) (by omega) w3).mono ?_
  rintro e w4 ⟨v4, rfl, o4, b4⟩
  go_wp2_with fail
  refine (s_l08Wires na nb (by omega) (by omega) w4).mono ?_
  rintro e w5 ⟨v5, rfl, o5, b5⟩
  go_wp2_with fail
  refine (HM.out _ _ _ (o4.rd.below b5) o5.rd).mono ?_
  rintro e w6 ⟨v6, rfl, o6, b6⟩
  have b36 : Below w3.heap.size w3 w6 := (b4.trans (b5.mono b4.size)).trans (b6.mono (Nat.le_trans b4.size b5.size))
  replace oL := oL.below b36
  replace oA := oA.below b36
  have B6 := B2.trans (b36.mono B2.size)
  have hz6 : g0 < w5.heap.size := Nat.lt_of_lt_of_le hz3 (Nat.le_trans b4.size b5.size)
  obtain ⟨am, mm, cm, rfl, HMM, _, _⟩ := o6.formN
  have hmm : mm ≤ 1310700 := by have := HML.out; have := HMM.out; omega
  have hne : ∀ k, (Value.slice am mm cm).ownBlock = some k → (Value.slice (some ⟨g0, 0, none⟩) 0 0).ownBlock ≠ some k := fun k hk e => by
    obtain ⟨rows, h1, _⟩ := o6
    have := (h1.lt k hk).1
    simp only [Value.ownBlock, Option.some.injEq] at e
    omega
  replace o6 := o6.mono (B' := 0) (Nat.zero_le _)
  replace oA := oA.mono (B' := 0) (Nat.zero_le _)
  clear o4 o5 b4 b5 b6 b36 B2 hz3 hz6 HM HML HW3 HG0
  go_wp2_with fail
  go_loopg [6, 25] mm (fun gk vo iv wr => ∃ q : Nat, gk = mm - q ∧ q ≤ mm ∧ iv = .int .i64 q ∧ OwnP wr w.heap.size vo ((M.take q).map (atW (a ++ b))) ∧ OwnP wr 0 (.slice am mm cm) M ∧ Own wr 3 0 (.slice b2 nn c2) (ints (a ++ b)) ∧ (∀ k, (Value.slice am mm cm).ownBlock = some k → vo.ownBlock ≠ some k) ∧ Below w.heap.size w wr)
  case atStart => exact ⟨0, rfl, Nat.zero_le _, rfl, by simpa using oL, o6, oA, hne, B6⟩
  case round =>
    clear oL o6 oA hne B6
    obtain ⟨q, hg, hq, rfl, ho, hM, hA, hne, hB⟩ := hrel
    have HNE := Lib.hid hne
    clear hne
    by_cases hlt : q < mm
    · obtain ⟨i, j, hij, hi, hj⟩ := HRW.out (M[q]'(by have := HMM.out; omega)) (List.getElem_mem _)
      have hMq : M[q]? = some [(i : Int), (j : Int)] := by rw [List.getElem?_eq_getElem (by have := HMM.out; omega), hij]
      obtain ⟨ad, z, d, rfl, e0, e1, e2⟩ := hM.rd2.two hMq
      obtain ⟨pa, x, rfl, hcx, hx⟩ := hA.rd.int (k := i) hi
      obtain ⟨pa', y, hpa, hcy, hy⟩ := hA.rd.int (k := j) hj
      obtain rfl : pa = pa' := by injection hpa
      clear hpa
      have HS : Hid ((M.take (q + 1)).map (atW (a ++ b)) = (M.take q).map (atW (a ++ b)) ++ [[x, y]]) := by
        have hx1 := hx.out
        have hy1 := hy.out
        rw [Hid, take_snoc' hMq, List.map_append]
        congr 1
        simp [atW, List.getD_eq_getElem?_getD, hx1, hy1]
      have hi3 : i < nn := by have := hL2.out; omega
      have hj3 : j < nn := by have := hL2.out; omega
      have hi2 : (i : Int) < (nn : Int) := by have := hL2.out; omega
      have hj2 : (j : Int) < (nn : Int) := by have := hL2.out; omega
      obtain ⟨rows, hov, hrp⟩ := ho
      obtain ⟨ao, co, rfl, _, _⟩ := hov.rd.form
      have hrl : rows.length ≤ 1310700 := by have := hrp.1; rw [List.length_map, List.length_take] at this; omega
      have hsz := hB.size
      have HFIN : Hid (∀ (b6 : Option Addr) (c6 : Nat) (w6 : World), Own w6 23 w.heap.size (.slice b6 (rows.length + 1) c6) (rows ++ [.slice (some ⟨wr.heap.size, 0, none⟩) 2 2]) → (wr.alloc (.cells #[.int .i64 x, .int .i64 y] 3)).grownBy w6 (Value.slice ao rows.length co).ownBlock →
          ((Value.slice b6 (rows.length + 1) c6).ownBlock = (Value.slice ao rows.length co).ownBlock ∨ ∃ k, (wr.alloc (.cells #[.int .i64 x, .int .i64 y] 3)).heap.size ≤ k ∧ (Value.slice b6 (rows.length + 1) c6).ownBlock = some k) →
          OwnP w6 w.heap.size (.slice b6 (rows.length + 1) c6) ((M.take (q + 1)).map (atW (a ++ b))) ∧ OwnP w6 0 (.slice (some ad) mm cm) M ∧ Own w6 3 0 (.slice (some pa) nn c2) (ints (a ++ b)) ∧ (∀ k, (Value.slice (some ad) mm cm).ownBlock = some k → (Value.slice b6 (rows.length + 1) c6).ownBlock ≠ some k) ∧ Below w.heap.size w w6 ∧
          (w6.cell? (ad.add q) = some (.slice (some z) 2 d) ∧ w6.cell? z = some (.int .i64 i) ∧ w6.cell? ⟨z.block, z.off + (0 + 1), none⟩ = some (.int .i64 j) ∧ w6.cell? (pa.add i) = some (.int .i64 x) ∧ w6.cell? (pa.add j) = some (.int .i64 y))) := fun b6 c6 w6 ho6 hg6 hat6 => by
        have hb1 : Below wr.heap.size wr (wr.alloc (.cells #[.int .i64 x, .int .i64 y] 3)) := (Below.refl _ _).alloc (Nat.le_refl _) _
        have hov1 := hov.below hb1
        have hA1 := hA.below hb1
        have hM1 := hM.below hb1
        have hA6 := hA1.apart hg6 (fun k h1 h2 => hov1.elem_ne hA1 (by decide) k h2 h1)
        have hM6 := hM1.apart hg6 hov1 HNE.out
        obtain ⟨ad', z', d', had, k0, k1, k2⟩ := hM6.rd2.two hMq
        obtain rfl : ad = ad' := by injection had
        have c0 : w6.cell? (ad.add q) = some (.slice (some z) 2 d) := hg6.cell ((hb1.cell (World.block_lt_of_cell? _ _ e0)).trans e0) (by rw [block_of_add]; exact fun e => HNE.out ad.block rfl e.symm)
        rw [k0] at c0
        simp only [Option.some.injEq, Value.slice.injEq] at c0
        obtain ⟨rfl, _, rfl⟩ := c0
        refine ⟨by rw [HS.out]; exact OwnP.push (hrp.below hb1) hov1 (heap_alloc_new wr _) hg6 ho6 hsz, hM6, hA6, fun k hk e => ?_, (hB.trans (hb1.mono hsz)).grown hg6 (by simp; omega) (fun r hr => (hov1.lt r hr).1), k0, k1, k2, hA6.rd.cell_i hx.out, hA6.rd.cell_i hy.out⟩
        rcases hat6 with e2 | ⟨k2, h2, e2⟩
        · exact HNE.out k hk (e2 ▸ e)
        · rw [e2] at e
          injection e with e
          obtain ⟨rM, hoM, _⟩ := hM1
          have := (hoM.lt k hk).2
          omega
      have hovA := fun o => hov.alloc o
      clear hov hrp hA hM hB
      go_wp2_with fail
      go_region_held3 (fun wx => wx.cell? (ad.add q) = some (.slice (some z) 2 d) ∧ wx.cell? z = some (.int .i64 i) ∧ wx.cell? ⟨z.block, z.off + (0 + 1), none⟩ = some (.int .i64 j) ∧ wx.cell? (pa.add i) = some (.int .i64 x) ∧ wx.cell? (pa.add j) = some (.int .i64 y)) (first | exact k6 | go_keep)
        ((first
          | (refine step_app1 (by rfl) _ _ _ (by rfl) elII (by rfl) (hovA _) (by show Value.slice (some ⟨wr.heap.size + 1, 0, none⟩) 1 1 = _; simp) (by rfl) (by simp; omega) (by omega) (by omega) ?_; intro b6 c6 w6 ho6 hg6 hat6; obtain ⟨f1, f2, f3, f4, f5, k6⟩ := HFIN.out _ _ _ ho6 hg6 hat6)))
      all_goals go_wp2_with fail
      all_goals
        go_roundg (mm - (q + 1))
        case measure => omega
        case rel => exact ⟨q + 1, rfl, hlt, by go_num, f1, f2, f3, f4, f5⟩
    · obtain rfl : q = mm := by omega
      go_wp2_with fail
      go_ret
      exact ⟨_, rfl, by rw [HR.out]; have := HMM.out; rw [this, List.take_length] at ho; exact ho, hB⟩

def RetBat (X : List (List Int)) (w W : World) (e : Ending) (w' : World) : Prop := ∃ (a : Option Addr) (m c : Nat), e = .returned (.slice a m c) ∧ OwnP w' w.heap.size (.slice a m c) X ∧ Below W.heap.size W w' ∧ Below w.heap.size w w'
theorem RetOwnP.bat {P : Program} {f : FuncId} {args : Array Value} {X : List (List Int)} {w W : World} (h : Calls P f args W (RetOwnP X W)) (hW : Below w.heap.size w W) : Calls P f args W (RetBat X w W) := by
  refine h.mono ?_
  rintro e w' ⟨v, rfl, ho, hb⟩
  obtain ⟨a, m, c, rfl, _, _, _⟩ := ho.formN
  exact ⟨a, m, c, rfl, ho.mono hW.size, hb, hW.trans (hb.mono hW.size)⟩

set_option maxRecDepth 100000 in
set_option maxHeartbeats 4000000 in
theorem s_l09Batcher : ∀ (f : Nat) (v : Value) (xs : List Int) (w : World), Rd w v (ints xs) → xs.length ≤ f + 1 → f ≤ 15 → Calls Tryz.prog 51 #[v] w (RetOwnP (batS f xs) w) := by
  intro f
  induction f with
  | zero =>
    intro v xs w h hl hf
    obtain ⟨a, n, c, rfl, HN, _, _⟩ := h.formN
    have hn : n ≤ 1 := by have := HN.out; omega
    go_enter Tryz.func51, Tryz.ntmps51
    go_wp2_with fail
    go_ret
    exact ⟨_, rfl, OwnP.lit0 w (Nat.le_refl _), (Below.refl _ _).alloc (Nat.le_refl _) _⟩
  | succ f ih =>
    intro v xs w h hl hf
    obtain ⟨a, n, c, rfl, HN, hnc, hc9⟩ := h.formN
    by_cases h1 : n ≤ 1
    · have HR : Hid (batS (f + 1) xs = []) := by rw [Hid, batS, if_pos (by rw [← HN.out]; exact h1)]
      clear ih
      go_enter Tryz.func51, Tryz.ntmps51
      go_wp2_with fail
      go_ret
      exact ⟨_, rfl, by rw [HR.out]; exact OwnP.lit0 w (Nat.le_refl _), (Below.refl _ _).alloc (Nat.le_refl _) _⟩
    have hn16 : n ≤ 17 := by have := HN.out; omega
    have hxl := HN.out
    have HR : Hid (batS (f + 1) xs = batS f (xs.take ((n + 1) / 2)) ++ batS f (xs.drop ((n + 1) / 2)) ++ mrgS (xs.take ((n + 1) / 2)) (xs.drop ((n + 1) / 2))) := by
      rw [Hid, batS, if_neg (by omega), hxl]
    obtain ⟨hh, hhh⟩ : ∃ hh, (n + 1) / 2 = hh := ⟨_, rfl⟩
    rw [hhh] at HR
    have hq : ((n : Int) + 1) / 2 = (hh : Int) := by omega
    obtain ⟨ad, x0, rfl, _, _⟩ := h.int (k := 0) (by omega)
    have hch : ¬ c = hh := by omega
    have hT := h.take (k := hh) (by omega)
    have hD : Rd w (.slice (some (ad.add hh)) (n - hh) (c - hh)) (ints (xs.drop hh)) := by
      have := h.cut (k := hh) (by omega)
      rw [ints_drop, if_neg hch] at this
      exact this
    rw [ints_take] at hT
    have hlt : (xs.take hh).length = hh := by rw [List.length_take]; omega
    have hld : (xs.drop hh).length = n - hh := by rw [List.length_drop]; omega
    have H0 := Lib.hid (fun (W : World) (hW : Below w.heap.size w W) => RetOwnP.bat (ih _ _ W (hT.below hW) (by omega) (by omega)) hW)
    have H1 := Lib.hid (fun (W : World) (hW : Below w.heap.size w W) => RetOwnP.bat (ih _ _ W (hD.below hW) (by omega) (by omega)) hW)
    have HM := Lib.hid (fun (W : World) (hW : Below w.heap.size w W) => RetOwnP.bat (s_l09Merge _ _ _ _ W (hT.below hW) (hD.below hW) (by omega)) hW)
    have HX : Hid ((batS f (xs.take hh)).length ≤ 100000000000) := batS_le (by omega) (by omega)
    have HY : Hid ((batS f (xs.drop hh)).length ≤ 100000000000) := batS_le (by omega) (by omega)
    have HZ : Hid ((mrgS (xs.take hh) (xs.drop hh)).length ≤ 1310700) := by
      rw [Hid, mrgS, List.length_map]
      exact mrg_le (by rw [wiresL_len, wiresL_len]; omega) (by omega)
    generalize batS (f + 1) xs = R at HR ⊢
    generalize batS f (xs.take hh) = X at HX HR H0
    generalize batS f (xs.drop hh) = Y at HY HR H1
    generalize mrgS (xs.take hh) (xs.drop hh) = Z at HZ HR HM
    have i1 : (hh : Int) ≤ (n : Int) := by omega
    have i2 : (hh : Int) ≤ (c : Int) := by omega
    have i3 : hh ≤ n := by omega
    have i4 : hh ≤ c := by omega
    have i5 : (n : Int) ≤ (c : Int) := by omega
    have i6 : (0 : Int) ≤ (hh : Int) := by omega
    have i7 : ¬ (n : Int) ≤ 1 := by omega
    clear hT hD hlt hld hxl hhh ih h
    go_enter Tryz.func51, Tryz.ntmps51
    go_upto_region 4 with (fail)
    rw [hq]
    clear hq
    go_cut [4] (fun vb wx => ∃ (a4 : Option Addr) (m4 c4 : Nat), vb = .slice a4 m4 c4 ∧ OwnP wx w.heap.size (.slice a4 m4 c4) (X ++ Y) ∧ Below w.heap.size w wx)
    case first =>
      have hB0 : Below w.heap.size w w := Below.refl _ _
      go_region_held3 (fun wx => Below w.heap.size w wx ∧ w.heap.size ≤ wx.heap.size)
        (first | exact ⟨g8, Below.size g8⟩ | exact ⟨g7, Below.size g7⟩ | exact ⟨g6, Below.size g6⟩ | exact ⟨Below.refl _ _, Nat.le_refl _⟩ | exact ⟨(Below.refl _ _).drew, Nat.le_refl _⟩)
        (first
          | (obtain ⟨r6, ov6, rp6⟩ := o6'; obtain ⟨r7, ov7, rp7⟩ := o7; have hx6 := rp6.1; have hx7 := rp7.1; have hX9 := HX.out; have hY9 := HY.out; refine step_app (by rfl) _ _ _ (by rfl) elII (by rfl) ov6 (by rfl) ov7.rd rp7.one (Below.size g7) (by omega) (by omega) ?_; clear hx6 hx7 hX9 hY9; intro b8 c8 w8 ho8 hg8 hat8; have o8 := OwnP.cat rp6 ov6 rp7 (Nat.le_refl _) hg8 ho8; have g8 := Below.grown g7 hg8 (Below.size g7) (fun r hr => (ov6.lt r hr).1))
          | (obtain ⟨r6, ov6, rp6⟩ := o6; obtain ⟨r7, ov7, rp7⟩ := o7'; have hx6 := rp6.1; have hx7 := rp7.1; have hX9 := HX.out; have hY9 := HY.out; refine step_app (by rfl) _ _ _ (by rfl) elII (by rfl) ov6 (by rfl) ov7.rd rp7.one (Below.size g6) (by omega) (by omega) ?_; clear hx6 hx7 hX9 hY9; intro b8 c8 w8 ho8 hg8 hat8; have o8 := OwnP.cat rp6 ov6 rp7 (Nat.le_refl _) hg8 ho8; have g8 := Below.grown g6 hg8 (Below.size g6) (fun r hr => (ov6.lt r hr).1))
          | (go_at_call 51; (with_reducible refine (H0.out _ (by exact (show _ ∧ _ from by assumption).1)).mono ?_); rintro e w6 ⟨a6, m6, c6, rfl, o6, b6, g6⟩; (try have o7' := o7.below b6))
          | (go_at_call 51; (with_reducible refine (H1.out _ (by exact (show _ ∧ _ from by assumption).1)).mono ?_); rintro e w7 ⟨a7, m7, c7, rfl, o7, b7, g7⟩; (try have o6' := o6.below b7)))
      all_goals go_wp2_with (fail)
      all_goals
        go_meet
        exact ⟨_, _, _, rfl, o8, g8⟩
    case rest =>
    obtain ⟨a4, m4, c4, rfl, o4, g4⟩ := hcut
    have HXY : Hid ((X ++ Y).length ≤ 200000000000) := by have := HX.out; have := HY.out; rw [Hid, List.length_append]; omega
    generalize X ++ Y = XY at *
    clear HX HY H0 H1
    go_wp2_with fail
    go_region_held3 (fun wx => Below w.heap.size w wx ∧ w.heap.size ≤ wx.heap.size)
      (first | exact ⟨g8, Below.size g8⟩ | exact ⟨g7, Below.size g7⟩ | exact ⟨Below.drew g4, Below.size g4⟩ | exact ⟨Below.drew g4, Below.size (Below.drew g4)⟩)
      (first
        | (obtain ⟨r6, ov6, rp6⟩ := o6'; obtain ⟨r7, ov7, rp7⟩ := o7; have hx6 := rp6.1; have hx7 := rp7.1; have hX9 := HXY.out; have hZ9 := HZ.out; refine step_app (by rfl) _ _ _ (by rfl) elII (by rfl) ov6 (by rfl) ov7.rd rp7.one (Below.size g7) (by omega) (by omega) ?_; clear hx6 hx7 hX9 hZ9; intro b8 c8 w8 ho8 hg8 hat8; have o8 := OwnP.cat rp6 ov6 rp7 (Nat.le_refl _) hg8 ho8; have g8 := Below.grown g7 hg8 (Below.size g7) (fun r hr => (ov6.lt r hr).1))
        | (go_at_call 110; (with_reducible refine (HM.out _ (by exact (show _ ∧ _ from by assumption).1)).mono ?_); rintro e w7 ⟨a7, m7, c7, rfl, o7, b7, g7⟩; have o6' := OwnP.below (by first | exact o4 | exact o4.below ((Below.refl _ _).drew)) b7))
    all_goals go_wp2_with (fail)
    all_goals
      go_ret
      exact ⟨_, rfl, by rw [HR.out]; exact o8, g8⟩

end Go.Proofs.YtggblfnajeikjaaGreatDoor
