/- Walks: bounds and ways in a tree of matches. -/
import Derived.Test.YtkidbnlebeaikaaNumWalks
import Derived.Test.YtkidbnlebeaikaaPlainLosers
import Derived.Deep.RegionHeld3
import Derived.Laws.BitsAllLaws
import Derived.Laws.BitsLemmas
namespace Go.Proofs.Ytkidbnlebeaikaa
open Go.RowKit
set_option linter.unusedVariables false
set_option linter.unusedSimpArgs false

def matchesBound (p n : Int) : Int := if inB p 1 8 && inB n 0 80 then p - 1 + rOf p * max 0 (n - 1) else -1

theorem rOf_1 {p : Int} (h : 1 < p) : (1 : Int) ≤ rOf p := by unfold rOf; repeat' split; all_goals omega
theorem rOf_2 {p : Int} (h : 2 < p) : (2 : Int) ≤ rOf p := by unfold rOf; repeat' split; all_goals omega
theorem rOf_3 {p : Int} (h : 4 < p) : (3 : Int) ≤ rOf p := by unfold rOf; repeat' split; all_goals omega
theorem rOf_at0 {p : Int} (h : p ≤ 1) : rOf p = 0 := by unfold rOf; repeat' split; all_goals omega
theorem rOf_at1 {p : Int} (h : p ≤ 2) (h' : (1 : Int) ≤ rOf p) : rOf p = 1 := by unfold rOf at *; repeat' split at h'; all_goals (repeat' split; all_goals omega)
theorem rOf_at2 {p : Int} (h : p ≤ 4) (h' : (2 : Int) ≤ rOf p) : rOf p = 2 := by unfold rOf at *; repeat' split at h'; all_goals (repeat' split; all_goals omega)
theorem rOf_at3 {p : Int} (h' : (3 : Int) ≤ rOf p) : rOf p = 3 := by unfold rOf at *; repeat' split at h'; all_goals (repeat' split; all_goals omega)

set_option maxHeartbeats 400000 in
theorem i_MatchesBound (p n : Int) (w : World) : Calls Try.prog 36 #[.int .i64 p, .int .i64 n] w fun e w' => e = .returned (.int .i64 (matchesBound p n)) ∧ w = w' := by
  by_cases c1 : p < 1
  · have d1 : decide (p < 1) = true := by simpa using c1
    go_enter Try.func36, Try.ntmps36
    go_wp2
    go_ret
    exact ⟨ret_int (by simp [matchesBound, inB]; omega), rfl⟩
  have d1 : decide (p < 1) = false := by simpa using c1
  by_cases c2 : 8 < p
  · have d2 : decide (p > 8) = true := by simpa using c2
    go_enter Try.func36, Try.ntmps36
    go_wp2
    go_ret
    exact ⟨ret_int (by simp [matchesBound, inB]; omega), rfl⟩
  have d2 : decide (p > 8) = false := by simpa using c2
  by_cases c3 : n < 0
  · have d3 : decide (n < 0) = true := by simpa using c3
    go_enter Try.func36, Try.ntmps36
    go_wp2
    go_ret
    exact ⟨ret_int (by simp [matchesBound, inB]; omega), rfl⟩
  have d3 : decide (n < 0) = false := by simpa using c3
  by_cases c4 : 80 < n
  · have d4 : decide (n > 80) = true := by simpa using c4
    go_enter Try.func36, Try.ntmps36
    go_wp2
    go_ret
    exact ⟨ret_int (by simp [matchesBound, inB]; omega), rfl⟩
  have d4 : decide (n > 80) = false := by simpa using c4
  have h1 : inB p 1 8 = true := inB_iff.2 (by omega)
  have h2 : inB n 0 80 = true := inB_iff.2 (by omega)
  have HR : Hid (matchesBound p n = p - 1 + rOf p * max 0 (n - 1)) := by simp [matchesBound, h1, h2, Hid]
  clear h1 h2
  go_enter Try.func36, Try.ntmps36
  go_wp2
  go_loop [5] (fun i => ∃ k : Nat, k ≤ 3 ∧ Hid ((k : Int) ≤ rOf p) ∧ i = .int .i64 k) (fun i => 3 - (intOf i).toNat)
  case atStart => exact ⟨0, by omega, by show _ ≤ _; unfold rOf; split <;> (try split) <;> (try split) <;> omega, rfl⟩
  case round =>
    obtain ⟨k, hk, hr, rfl⟩ := hrel
    rcases (show k = 0 ∨ k = 1 ∨ k = 2 ∨ k = 3 by omega) with rfl | rfl | rfl | rfl
    all_goals go_wp2
    all_goals first
      | (go_round
         case rel => first | exact ⟨1, by omega, rOf_1 (by assumption), rfl⟩ | exact ⟨2, by omega, rOf_2 (by assumption), rfl⟩ | exact ⟨3, by omega, rOf_3 (by assumption), rfl⟩
         case measure => simp [intOf])
      | (go_ret
         refine ⟨ret_int ?_, rfl⟩
         rw [HR.out]
         first | rw [rOf_at0 (by assumption)] | rw [rOf_at1 (by assumption) hr.out] | rw [rOf_at2 (by assumption) hr.out] | rw [rOf_at3 hr.out]
         try simp
         try omega)

theorem ofInt_i64 (a : Nat) (ha : a < 9223372036854775808) : (BitVec.ofInt 64 (a : Int)).toNat = a := by
  rw [BitVec.ofInt_natCast, BitVec.toNat_ofNat]; exact Nat.mod_eq_of_lt (by omega)
theorem i64_xor_one (a : Nat) (ha : a < 1000) : bits .xor .i64 (a : Int) 1 = ((a ^^^ 1 : Nat) : Int) := by
  have hx : a ^^^ 1 < 2 ^ 63 := Nat.xor_lt_two_pow (by omega) (by omega)
  show IntKind.i64.wrap ((BitVec.ofInt 64 (a : Int) ^^^ BitVec.ofInt 64 ((1 : Nat) : Int)).toNat : Int) = _
  rw [BitVec.toNat_xor, ofInt_i64 a (by omega), ofInt_i64 1 (by omega), IntKind.wrap_i64]
  omega

set_option maxHeartbeats 1000000 in
theorem i_opponents (p k : Nat) (w : World) (hp : p ≤ 8) (hk : k ≤ 8) : Calls Try.prog 53 #[.int .i64 (p : Int), .int .i64 (k : Int)] w (RetOwn 3 (ints (wayOf p k)) w) := by
  go_enter Try.func53, Try.ntmps53
  go_wp2_with (at_make; refine wpList_mk (B := w.heap.size + 1) rfl _ _ 27 rfl elI rfl rfl (by simp) (by omega) (by omega) ?_; intro b w1 hb1 hown1 hg1)
  have ho : Own w1 3 w.heap.size (.slice (some ⟨w.heap.size, 0, none⟩) 0 0) (ints []) := (Own.lit0 w _ (Nat.le_refl _)).grown hg1 (.inl (by simp [Value.ownBlock]))
  have hb : Below w.heap.size w w1 := ((Below.refl _ _).alloc (Nat.le_refl _) _).grown hg1 (by simp) (fun _ h => by cases h)
  have hs : Own w1 3 w.heap.size (.slice (some b) p p) (ints (List.replicate 0 1 ++ List.replicate (p - 0) 0)) := by simpa [ints] using hown1.mono (Nat.le_succ _)
  have hbn : b.block = w.heap.size + 1 := by simpa using hb1
  have HB := Lib.hid hbn
  clear hown1 hg1 hb1 hbn
  go_loopw [15] (fun i wr => ∃ j : Nat, j ≤ p ∧ i = .int .i64 j ∧ Own wr 3 w.heap.size (.slice (some ⟨w.heap.size, 0, none⟩) 0 0) (ints []) ∧ Own wr 3 w.heap.size (.slice (some b) p p) (ints (List.replicate j 1 ++ List.replicate (p - j) 0)) ∧ Below w.heap.size w wr)
    (fun i _ => p - (intOf i).toNat)
  case atStart => exact ⟨0, Nat.zero_le _, rfl, ho, hs, hb⟩
  case round =>
    obtain ⟨j, hj, rfl, ho, hs, hb⟩ := hrel
    by_cases hlt : j < p
    · have hl2 : j < (List.replicate j (1 : Int) ++ List.replicate (p - j) 0).length := by simp; omega
      obtain ⟨ad, y, had, hc2, _⟩ := hs.rd.int hl2
      obtain rfl : b = ad := by injection had
      clear had
      have hf2 := hs.frozen rfl j
      have hs' := (hs.seti rfl hl2 1).1
      have hb2 := hs.below_set rfl hl2 (.int .i64 1) hb (Nat.le_refl _)
      have ho' := ho.setCell (p := b.add j) (by rw [block_of_add, HB.out]; simp [Value.ownBlock]) (.int .i64 1)
      have e : (List.replicate j (1 : Int) ++ List.replicate (p - j) 0).set j 1 = List.replicate (j + 1) 1 ++ List.replicate (p - (j + 1)) 0 := by
        apply List.ext_getElem?
        intro q
        simp only [List.getElem?_set, List.getElem?_append, List.getElem?_replicate, List.length_append, List.length_replicate]
        grind
      rw [e] at hs'
      clear hs hb ho e
      go_wp2
      go_roundw
      case rel => exact ⟨j + 1, by omega, by go_num, ho', hs', hb2⟩
      case measure => simp [intOf]; omega
    · obtain rfl : p = j := by omega
      simp only [Nat.sub_self, List.replicate_zero, List.append_nil] at hs
      have HW : Hid (wayOf p k = wayF p (List.replicate p 1) k) := rfl
      go_wp2
      go_loopw [1, 5, 6] (fun kk vo vs wr => ∃ (j f : Nat) (os ss : List Int), j ≤ 8 ∧ f ≤ 8 ∧ kk = .int .i64 j ∧ ss.length ≤ f + 1 ∧ NonNeg ss ∧ sumI ss ≤ 8 ∧ os.length + f ≤ 8 ∧ Hid (os ++ wayF f ss j = wayOf p k) ∧
          Own wr 3 w.heap.size vo (ints os) ∧ Own wr 3 w.heap.size vs (ints ss) ∧ Below w.heap.size w wr)
        (fun _ _ vs _ => match vs with | .slice _ n _ => n | _ => 0)
      case atStart => exact ⟨k, p, [], _, hk, hp, rfl, by simp, by intro x hx; simp at hx; omega, by rw [sumI_ones]; omega, by simpa using hp, HW, ho, by simpa using hs, hb⟩
      case round =>
        obtain ⟨wo, rfl⟩ : ∃ wo : World, wo = wr := ⟨_, rfl⟩
        obtain ⟨j, f, os, ss, hj, hf, rfl, hlf, hnn, hsum, hof, HO, ho, hs, hb⟩ := hrel
        obtain ⟨ao, co, rfl, _, _⟩ := ho.rd.formi
        obtain ⟨az, cs, rfl, _, hcs⟩ := hs.rd.formi
        by_cases hlt : 1 < ss.length
        · obtain ⟨f', hff, hlf', HF⟩ := wayF_step f ss j hlt hlf
          have HFF := Lib.hid HF
          have Hff := Lib.hid hff
          clear HF hff
          have hf' : f' + 1 ≤ 8 := by have := Hff.out; omega
          have hof' : os.length + 1 + f' ≤ 8 := by have := Hff.out; omega
          have hd1 : decide ((ss.length : Int) > 1) = true := by simp; omega
          go_wp2
          have hpl := pairUp_length ss
          have hplen : (pairUp ss).length ≤ 9 := by omega
          have HPL := Lib.hid hpl
          have HNN := Lib.hid hnn
          have HSS := Lib.hid hsum
          clear hpl hnn hsum
          go_loopw [8, 9] (fun vn i wi => ∃ (q : Nat) (ns : List Int), q ≤ ss.length + 1 ∧ i = .int .i64 q ∧ Hid (ns ++ pairUp (ss.drop q) = pairUp ss) ∧ ns.length ≤ 9 ∧ Own wi 3 wo.heap.size vn (ints ns) ∧ Below wo.heap.size wo wi)
            (fun _ i _ => ss.length + 1 - (intOf i).toNat)
          case atStart => exact ⟨0, [], by omega, rfl, by simp [Hid], by simp, Own.lit0 _ _ (Nat.le_refl _), (Below.refl _ _).alloc (Nat.le_refl _) _⟩
          case round =>
            obtain ⟨q, ns, hq, rfl, HQ, hnl, hn, hbi⟩ := hrel
            obtain ⟨an, cn, rfl, _, hcn⟩ := hn.rd.formi
            have hs1 := hs.below hbi
            by_cases hql : q < ss.length
            · obtain ⟨ad, x, rfl, hc, hx⟩ := hs1.rd.int hql
              have hx0 := HNN.out x (List.mem_of_getElem? hx.out)
              have hx1 := Int.le_trans (sumI_le HNN.out x (List.mem_of_getElem? hx.out)) HSS.out
              by_cases hq1 : q + 1 < ss.length
              · obtain ⟨ad', y, had, hc2, hy⟩ := hs1.rd.int hq1
                obtain rfl : ad = ad' := by injection had
                clear had
                rw [add_succ] at hc2
                have hy0 := HNN.out y (List.mem_of_getElem? hy.out)
                have hy1 := Int.le_trans (sumI_le HNN.out y (List.mem_of_getElem? hy.out)) HSS.out
                go_wp2
                have hne : (Value.slice an ns.length cn).ownBlock ≠ some ad.block := fun e => by
                  have h1 := (hn.lt _ e).1
                  have h2 := (hs.lt ad.block rfl).2
                  omega
                have hlt8 : ad.block < wr.heap.size := (hs1.lt ad.block rfl).2
                have i1 : IntKind.i64.wrap ((q : Int) + 1) = (q : Int) + 1 := IntWalk.i64_in _ (by omega)
                have i2 : IntKind.i64.wrap (x + y) = x + y := IntWalk.i64_in _ (by omega)
                have i3 : (0 : Int) ≤ (q : Int) + 1 := by omega
                have i4 : (q : Int) + 1 < (ss.length : Int) := by omega
                have i5 : ((q : Int) + 1).toNat = q + 1 := by omega
                have i6 : (0 : Int) ≤ (q : Int) := by omega
                have i7 : (q : Int) < (ss.length : Int) := by omega
                go_region_held3 (fun w' => w'.cell? (ad.add q) = some (.int .i64 x) ∧ w'.cell? ⟨ad.block, ad.off + (q + 1), none⟩ = some (.int .i64 y))
                  (first | go_keep | exact ⟨hgrow.cell hc (by rw [block_of_add]; exact Ne.symm hne), hgrow.cell hc2 (Ne.symm hne)⟩)
                  ((refine step_app1 (by rfl) _ _ _ (by rfl) elI (by rfl) hn (by rfl) (by rfl) hbi.size (by simp [ints]; omega) (by simp [ints]; omega) ?_; intro bn cn' w2 hn2 hgrow hat))
                clear i1 i2 i3 i4 i5 i6 i7
                have hb2 := hbi.grown hgrow hbi.size fun r hr => (hn.lt r hr).1
                have hL : (ints ns).length = ns.length := ints_length ns
                have HQ2 : Hid ((ns ++ [x + y]) ++ pairUp (ss.drop (q + 2)) = pairUp ss) := by
                  rw [← HQ.out, drop_two hx.out hy.out]
                  simp [pairUp, Hid]
                have HL2 : (ns ++ [x + y]).length ≤ 9 := by
                  have h1 := congrArg List.length HQ2.out
                  rw [List.length_append] at h1
                  omega
                clear hgrow hat hn hbi hc hc2 hs1
                go_wp2
                go_roundw
                case rel => exact ⟨q + 2, ns ++ [x + y], by omega, by go_num, HQ2, HL2, by rw [ints_append]; exact hn2, hb2⟩
                case measure => simp [intOf]; omega
              · have hq1' : q + 1 = ss.length := by omega
                have HD := Lib.hid (drop_last hx.out hq1')
                have hq2 : ((q : Int) + 1 == (ss.length : Int)) = true := by simp; omega
                clear hq1'
                go_wp2_with (at_builtin; refine wpList_app1 rfl _ _ 27 rfl elI rfl hn rfl rfl hbi.size (by simp [ints]; omega) (by simp [ints]; omega) ?_; intro bn cn' w2 hn2 hgrow hat)
                have hb2 := hbi.grown hgrow hbi.size fun r hr => (hn.lt r hr).1
                have HQ2 : Hid ((ns ++ [x]) ++ pairUp (ss.drop (q + 2)) = pairUp ss) := by
                  rw [← HQ.out, HD.out, List.drop_eq_nil_of_le (by omega)]
                  simp [pairUp, Hid]
                have HL2 : (ns ++ [x]).length ≤ 9 := by
                  have h1 := congrArg List.length HQ2.out
                  rw [List.length_append] at h1
                  omega
                go_roundw
                case rel => exact ⟨q + 2, ns ++ [x], by omega, by go_num, HQ2, HL2, by rw [ints_append]; exact hn2, hb2⟩
                case measure => simp [intOf]; omega
            · have HQ2 : Hid (ns = pairUp ss) := by
                have := HQ.out
                rw [List.drop_eq_nil_of_le (by omega)] at this
                simpa [pairUp, Hid] using this
              have hb2 : Below w.heap.size w wr := hb.trans (hbi.mono hb.size)
              have ho1 := ho.below hbi
              have hx1 := i64_xor_one j (by omega)
              obtain ⟨o, ho2⟩ : ∃ o, j ^^^ 1 = o := ⟨_, rfl⟩
              rw [ho2] at hx1
              have HO2 := Lib.hid ho2
              clear ho2
              by_cases hol : o < ss.length
              · obtain ⟨ad, x, rfl, hc, hx⟩ := hs1.rd.int hol
                have i1 : (o : Int) < (ss.length : Int) := by omega
                go_wp2_with (at_builtin; refine wpList_app1 rfl _ _ 27 rfl elI rfl ho1 rfl rfl hb2.size (by simp [ints]; omega) (by simp [ints]; omega) ?_; intro bn cn' w2 ho3 hgrow hat)
                have hb3 := hb2.grown hgrow hb2.size fun r hr => (ho1.lt r hr).1
                have hn3 : Own w2 3 w.heap.size (.slice an ns.length cn) (ints ns) := (hn.apart hgrow fun r hr => (by
                  intro e
                  have h1 := (hn.lt r hr).1
                  have h2 := (ho.lt r e).2
                  omega)).mono hb.size
                rw [HQ2.out] at hn3
                go_roundw
                case rel => exact ⟨j / 2, f', os ++ [x], pairUp ss, by omega, by omega, by go_num, hlf', pairUp_nonneg ss HNN.out, by rw [pairUp_sum]; exact HSS.out, by simp; omega, by
                  show _ = _
                  rw [← HO.out, HFF.out, HO2.out, hx.out]
                  simp, by rw [ints_append]; exact ho3, by rw [HQ2.out]; exact hn3, hb3⟩
                case measure => have := HPL.out; have h2 := congrArg List.length HQ2.out; simp; omega
              · go_wp2
                have hn3 : Own wr 3 w.heap.size (.slice an ns.length cn) (ints ns) := hn.mono hb.size
                go_roundw
                case rel => exact ⟨j / 2, f', os, pairUp ss, by omega, by omega, by go_num, hlf', pairUp_nonneg ss HNN.out, by rw [pairUp_sum]; exact HSS.out, by omega, by
                  show _ = _
                  rw [← HO.out, HFF.out, HO2.out, List.getElem?_eq_none (by omega)]
                  simp, ho1, by rw [HQ2.out] at hn3; rw [HQ2.out]; exact hn3, hb2⟩
                case measure => have := HPL.out; have h2 := congrArg List.length HQ2.out; simp; omega
        · have HE := Lib.hid (wayF_end f ss j (by omega))
          go_wp2
          go_ret
          exact ⟨_, rfl, by have := HO.out; rw [HE.out, List.append_nil] at this; rw [← this]; exact ho, hb⟩

set_option maxHeartbeats 1000000 in
theorem s_l28Way (p k : Nat) (w : World) (hp : p ≤ 8) (hk : k ≤ 8) : Calls Try.prog 52 #[.int .i64 (p : Int), .int .i64 (k : Int)] w (RetOwn 3 (ints (wayOf p k)) w) := by
  go_enter Try.func52, Try.ntmps52
  go_wp2
  go_loopw [5, 6] (fun vs i wr => ∃ j : Nat, j ≤ p ∧ i = .int .i64 j ∧ Own wr 3 w.heap.size vs (ints (List.replicate j 1)) ∧ Below w.heap.size w wr)
    (fun _ i _ => p - (intOf i).toNat)
  case atStart => exact ⟨0, Nat.zero_le _, rfl, Own.lit0 w _ (Nat.le_refl _), (Below.refl _ _).alloc (Nat.le_refl _) _⟩
  case round =>
    obtain ⟨j, hj, rfl, hs, hb⟩ := hrel
    obtain ⟨az, cs, rfl, _, hcs⟩ := hs.rd.formi
    by_cases hlt : j < p
    · go_wp2_with (at_builtin; refine wpList_app1 rfl _ _ 27 rfl elI rfl hs rfl rfl hb.size (by simp [ints]; omega) (by simp [ints]; omega) ?_; intro bn cn' w2 hs2 hgrow hat)
      have hb2 := hb.grown hgrow hb.size fun r hr => (hs.lt r hr).1
      go_roundw
      case rel => exact ⟨j + 1, by omega, by go_num, by rw [List.replicate_succ', ints_append]; exact hs2, hb2⟩
      case measure => simp [intOf]; omega
    · obtain rfl : p = j := by omega
      have HW : Hid (wayOf p k = wayF p (List.replicate p 1) k) := rfl
      go_wp2
      have ho := Own.lit0 (B := w.heap.size) wr 3 hb.size
      have hs := hs.alloc (.cells #[] 3)
      have hb := hb.alloc hb.size (.cells #[] 3)
      go_loopw [1, 5, 7] (fun kk vs vo wr => ∃ (j f : Nat) (os ss : List Int), j ≤ 8 ∧ f ≤ 8 ∧ kk = .int .i64 j ∧ ss.length ≤ f + 1 ∧ NonNeg ss ∧ sumI ss ≤ 8 ∧ os.length + f ≤ 8 ∧ Hid (os ++ wayF f ss j = wayOf p k) ∧
          Own wr 3 w.heap.size vo (ints os) ∧ Own wr 3 w.heap.size vs (ints ss) ∧ Below w.heap.size w wr)
        (fun _ vs _ _ => match vs with | .slice _ n _ => n | _ => 0)
      case atStart => exact ⟨k, p, [], _, hk, hp, rfl, by simp, by intro x hx; simp at hx; omega, by rw [sumI_ones]; omega, by simpa using hp, HW, ho, hs, hb⟩
      case round =>
        obtain ⟨wo, rfl⟩ : ∃ wo : World, wo = wr := ⟨_, rfl⟩
        obtain ⟨j, f, os, ss, hj, hf, rfl, hlf, hnn, hsum, hof, HO, ho, hs, hb⟩ := hrel
        obtain ⟨ao, co, rfl, _, _⟩ := ho.rd.formi
        obtain ⟨az, cs, rfl, _, hcs⟩ := hs.rd.formi
        by_cases hlt : 1 < ss.length
        · obtain ⟨f', hff, hlf', HF⟩ := wayF_step f ss j hlt hlf
          have HFF := Lib.hid HF
          have Hff := Lib.hid hff
          clear HF hff
          have hf' : f' + 1 ≤ 8 := by have := Hff.out; omega
          have hof' : os.length + 1 + f' ≤ 8 := by have := Hff.out; omega
          have hd1 : decide ((ss.length : Int) > 1) = true := by simp; omega
          go_wp2
          have hpl := pairUp_length ss
          have hplen : (pairUp ss).length ≤ 9 := by omega
          have HPL := Lib.hid hpl
          have HNN := Lib.hid hnn
          have HSS := Lib.hid hsum
          clear hpl hnn hsum
          go_loopw [8, 9] (fun vn i wi => ∃ (q : Nat) (ns : List Int), q ≤ ss.length + 1 ∧ i = .int .i64 q ∧ Hid (ns ++ pairUp (ss.drop q) = pairUp ss) ∧ ns.length ≤ 9 ∧ Own wi 3 wo.heap.size vn (ints ns) ∧ Below wo.heap.size wo wi)
            (fun _ i _ => ss.length + 1 - (intOf i).toNat)
          case atStart => exact ⟨0, [], by omega, rfl, by simp [Hid], by simp, Own.lit0 _ _ (Nat.le_refl _), (Below.refl _ _).alloc (Nat.le_refl _) _⟩
          case round =>
            obtain ⟨q, ns, hq, rfl, HQ, hnl, hn, hbi⟩ := hrel
            obtain ⟨an, cn, rfl, _, hcn⟩ := hn.rd.formi
            have hs1 := hs.below hbi
            by_cases hql : q < ss.length
            · obtain ⟨ad, x, rfl, hc, hx⟩ := hs1.rd.int hql
              have hx0 := HNN.out x (List.mem_of_getElem? hx.out)
              have hx1 := Int.le_trans (sumI_le HNN.out x (List.mem_of_getElem? hx.out)) HSS.out
              by_cases hq1 : q + 1 < ss.length
              · obtain ⟨ad', y, had, hc2, hy⟩ := hs1.rd.int hq1
                obtain rfl : ad = ad' := by injection had
                clear had
                rw [add_succ] at hc2
                have hy0 := HNN.out y (List.mem_of_getElem? hy.out)
                have hy1 := Int.le_trans (sumI_le HNN.out y (List.mem_of_getElem? hy.out)) HSS.out
                go_wp2
                have hne : (Value.slice an ns.length cn).ownBlock ≠ some ad.block := fun e => by
                  have h1 := (hn.lt _ e).1
                  have h2 := (hs.lt ad.block rfl).2
                  omega
                have hlt8 : ad.block < wr.heap.size := (hs1.lt ad.block rfl).2
                have i1 : IntKind.i64.wrap ((q : Int) + 1) = (q : Int) + 1 := IntWalk.i64_in _ (by omega)
                have i2 : IntKind.i64.wrap (x + y) = x + y := IntWalk.i64_in _ (by omega)
                have i3 : (0 : Int) ≤ (q : Int) + 1 := by omega
                have i4 : (q : Int) + 1 < (ss.length : Int) := by omega
                have i5 : ((q : Int) + 1).toNat = q + 1 := by omega
                have i6 : (0 : Int) ≤ (q : Int) := by omega
                have i7 : (q : Int) < (ss.length : Int) := by omega
                go_region_held3 (fun w' => w'.cell? (ad.add q) = some (.int .i64 x) ∧ w'.cell? ⟨ad.block, ad.off + (q + 1), none⟩ = some (.int .i64 y))
                  (first | go_keep | exact ⟨hgrow.cell hc (by rw [block_of_add]; exact Ne.symm hne), hgrow.cell hc2 (Ne.symm hne)⟩)
                  ((refine step_app1 (by rfl) _ _ _ (by rfl) elI (by rfl) hn (by rfl) (by rfl) hbi.size (by simp [ints]; omega) (by simp [ints]; omega) ?_; intro bn cn' w2 hn2 hgrow hat))
                clear i1 i2 i3 i4 i5 i6 i7
                have hb2 := hbi.grown hgrow hbi.size fun r hr => (hn.lt r hr).1
                have hL : (ints ns).length = ns.length := ints_length ns
                have HQ2 : Hid ((ns ++ [x + y]) ++ pairUp (ss.drop (q + 2)) = pairUp ss) := by
                  rw [← HQ.out, drop_two hx.out hy.out]
                  simp [pairUp, Hid]
                have HL2 : (ns ++ [x + y]).length ≤ 9 := by
                  have h1 := congrArg List.length HQ2.out
                  rw [List.length_append] at h1
                  omega
                clear hgrow hat hn hbi hc hc2 hs1
                go_wp2
                go_roundw
                case rel => exact ⟨q + 2, ns ++ [x + y], by omega, by go_num, HQ2, HL2, by rw [ints_append]; exact hn2, hb2⟩
                case measure => simp [intOf]; omega
              · have hq1' : q + 1 = ss.length := by omega
                have HD := Lib.hid (drop_last hx.out hq1')
                have hq2 : ¬ ((q : Int) + 1 < (ss.length : Int)) := by omega
                clear hq1'
                go_wp2_with (at_builtin; refine wpList_app1 rfl _ _ 27 rfl elI rfl hn rfl rfl hbi.size (by simp [ints]; omega) (by simp [ints]; omega) ?_; intro bn cn' w2 hn2 hgrow hat)
                have hb2 := hbi.grown hgrow hbi.size fun r hr => (hn.lt r hr).1
                have HQ2 : Hid ((ns ++ [x]) ++ pairUp (ss.drop (q + 2)) = pairUp ss) := by
                  rw [← HQ.out, HD.out, List.drop_eq_nil_of_le (by omega)]
                  simp [pairUp, Hid]
                have HL2 : (ns ++ [x]).length ≤ 9 := by
                  have h1 := congrArg List.length HQ2.out
                  rw [List.length_append] at h1
                  omega
                go_roundw
                case rel => exact ⟨q + 2, ns ++ [x], by omega, by go_num, HQ2, HL2, by rw [ints_append]; exact hn2, hb2⟩
                case measure => simp [intOf]; omega
            · have HQ2 : Hid (ns = pairUp ss) := by
                have := HQ.out
                rw [List.drop_eq_nil_of_le (by omega)] at this
                simpa [pairUp, Hid] using this
              have hb2 : Below w.heap.size w wr := hb.trans (hbi.mono hb.size)
              have ho1 := ho.below hbi
              by_cases hpar : j % 2 = 1
              · have hj1 : ((j : Int) % 2 == 1) = true := by simp; omega
                have HO5 : Hid (j ^^^ 1 = j - 1) := by rw [xor_one j hj, if_pos hpar]; rfl
                have hjp : 1 ≤ j := by omega
                by_cases hol : j - 1 < ss.length
                · obtain ⟨ad, x, rfl, hc, hx⟩ := hs1.rd.int hol
                  have i1 : (j : Int) - 1 < (ss.length : Int) := by omega
                  go_wp2_with (at_builtin; refine wpList_app1 rfl _ _ 27 rfl elI rfl ho1 rfl rfl hb2.size (by simp [ints]; omega) (by simp [ints]; omega) ?_; intro bn cn' w2 ho3 hgrow hat)
                  have hb3 := hb2.grown hgrow hb2.size fun r hr => (ho1.lt r hr).1
                  have hn3 : Own w2 3 w.heap.size (.slice an ns.length cn) (ints ns) := (hn.apart hgrow fun r hr => (by
                    intro e
                    have h1 := (hn.lt r hr).1
                    have h2 := (ho.lt r e).2
                    omega)).mono hb.size
                  rw [HQ2.out] at hn3
                  go_roundw
                  case rel => exact ⟨j / 2, f', os ++ [x], pairUp ss, by omega, by omega, by go_num, hlf', pairUp_nonneg ss HNN.out, by rw [pairUp_sum]; exact HSS.out, by simp; omega, by
                    show _ = _
                    rw [← HO.out, HFF.out, HO5.out, hx.out]
                    simp, by rw [ints_append]; exact ho3, by rw [HQ2.out]; exact hn3, hb3⟩
                  case measure => have := HPL.out; have h2 := congrArg List.length HQ2.out; simp; omega
                · go_wp2
                  have hn3 : Own wr 3 w.heap.size (.slice an ns.length cn) (ints ns) := hn.mono hb.size
                  go_roundw
                  case rel => exact ⟨j / 2, f', os, pairUp ss, by omega, by omega, by go_num, hlf', pairUp_nonneg ss HNN.out, by rw [pairUp_sum]; exact HSS.out, by omega, by
                    show _ = _
                    rw [← HO.out, HFF.out, HO5.out, List.getElem?_eq_none (by omega)]
                    simp, ho1, by rw [HQ2.out] at hn3; rw [HQ2.out]; exact hn3, hb2⟩
                  case measure => have := HPL.out; have h2 := congrArg List.length HQ2.out; simp; omega
              · have hj1 : ((j : Int) % 2 == 1) = false := by simp; omega
                have HO5 : Hid (j ^^^ 1 = j + 1) := by rw [xor_one j hj, if_neg hpar]; rfl
                by_cases hol : j + 1 < ss.length
                · obtain ⟨ad, x, rfl, hc, hx⟩ := hs1.rd.int hol
                  have i1 : (j : Int) + 1 < (ss.length : Int) := by omega
                  rw [add_succ] at hc
                  go_wp2_with (at_builtin; refine wpList_app1 rfl _ _ 27 rfl elI rfl ho1 rfl rfl hb2.size (by simp [ints]; omega) (by simp [ints]; omega) ?_; intro bn cn' w2 ho3 hgrow hat)
                  have hb3 := hb2.grown hgrow hb2.size fun r hr => (ho1.lt r hr).1
                  have hn3 : Own w2 3 w.heap.size (.slice an ns.length cn) (ints ns) := (hn.apart hgrow fun r hr => (by
                    intro e
                    have h1 := (hn.lt r hr).1
                    have h2 := (ho.lt r e).2
                    omega)).mono hb.size
                  rw [HQ2.out] at hn3
                  go_roundw
                  case rel => exact ⟨j / 2, f', os ++ [x], pairUp ss, by omega, by omega, by go_num, hlf', pairUp_nonneg ss HNN.out, by rw [pairUp_sum]; exact HSS.out, by simp; omega, by
                    show _ = _
                    rw [← HO.out, HFF.out, HO5.out, hx.out]
                    simp, by rw [ints_append]; exact ho3, by rw [HQ2.out]; exact hn3, hb3⟩
                  case measure => have := HPL.out; have h2 := congrArg List.length HQ2.out; simp; omega
                · go_wp2
                  have hn3 : Own wr 3 w.heap.size (.slice an ns.length cn) (ints ns) := hn.mono hb.size
                  go_roundw
                  case rel => exact ⟨j / 2, f', os, pairUp ss, by omega, by omega, by go_num, hlf', pairUp_nonneg ss HNN.out, by rw [pairUp_sum]; exact HSS.out, by omega, by
                    show _ = _
                    rw [← HO.out, HFF.out, HO5.out, List.getElem?_eq_none (by omega)]
                    simp, ho1, by rw [HQ2.out] at hn3; rw [HQ2.out]; exact hn3, hb2⟩
                  case measure => have := HPL.out; have h2 := congrArg List.length HQ2.out; simp; omega
        · have HE := Lib.hid (wayF_end f ss j (by omega))
          go_wp2
          go_ret
          exact ⟨_, rfl, by have := HO.out; rw [HE.out, List.append_nil] at this; rw [← this]; exact ho, hb⟩


def oppOf (p k : Int) : List Int := if inB p 1 8 && inB k 0 (p - 1) then wayOf p.toNat k.toNat else []

set_option maxHeartbeats 400000 in
theorem I_OpponentsOf (w : World) (p : Int) (_ : I64 p) (k : Int) (_ : I64 k) : Calls Try.prog 39 #[.int .i64 p, .int .i64 k] w (RetOwn 3 (ints (oppOf p k)) w) := by
  by_cases c1 : p < 1
  · have d1 : decide (p < 1) = true := by simpa using c1
    have HR : Hid (oppOf p k = []) := by simp [oppOf, inB, Hid]; omega
    go_enter Try.func39, Try.ntmps39
    go_wp2
    go_ret
    rw [HR.out]
    exact RetOwn.nil _ _
  have d1 : decide (p < 1) = false := by simpa using c1
  by_cases c2 : 8 < p
  · have d2 : decide (p > 8) = true := by simpa using c2
    have HR : Hid (oppOf p k = []) := by simp [oppOf, inB, Hid]; omega
    go_enter Try.func39, Try.ntmps39
    go_wp2
    go_ret
    rw [HR.out]
    exact RetOwn.nil _ _
  have d2 : decide (p > 8) = false := by simpa using c2
  by_cases c3 : k < 0
  · have d3 : decide (k < 0) = true := by simpa using c3
    have HR : Hid (oppOf p k = []) := by simp [oppOf, inB, Hid]; omega
    go_enter Try.func39, Try.ntmps39
    go_wp2
    go_ret
    rw [HR.out]
    exact RetOwn.nil _ _
  have d3 : decide (k < 0) = false := by simpa using c3
  by_cases c4 : p ≤ k
  · have d4 : decide (k ≥ p) = true := by simpa using c4
    have HR : Hid (oppOf p k = []) := by simp [oppOf, inB, Hid]; omega
    go_enter Try.func39, Try.ntmps39
    go_wp2
    go_ret
    rw [HR.out]
    exact RetOwn.nil _ _
  have d4 : decide (k ≥ p) = false := by simpa using c4
  obtain ⟨p', rfl⟩ := Int.eq_ofNat_of_zero_le (show 0 ≤ p by omega)
  obtain ⟨k', rfl⟩ := Int.eq_ofNat_of_zero_le (show 0 ≤ k by omega)
  have HR : Hid (oppOf (p' : Int) (k' : Int) = wayOf p' k') := by
    have h1 : inB (p' : Int) 1 8 = true := inB_iff.2 (by omega)
    have h2 : inB (k' : Int) 0 ((p' : Int) - 1) = true := inB_iff.2 (by omega)
    simp [oppOf, h1, h2, Hid]
  go_enter Try.func39, Try.ntmps39
  go_wp2_with (go_at_call 53; refine (i_opponents _ _ _ (by omega) (by omega)).mono ?_; rintro e w' ⟨v, rfl, ho, hb⟩)
  go_ret
  exact ⟨_, rfl, by rw [HR.out]; exact ho, hb⟩

end Go.Proofs.Ytkidbnlebeaikaa
