/- Walks: slices.Sort of at most twelve numbers; slices.Contains. -/
import Derived.Test.YtlmbaijkeahkfaaDoorApp
import Derived.Test.YtlmbaijkeahkfaaDoorPlainSort
namespace Go.Proofs.YtlmbaijkeahkfaaDoor
open Go.RowKit
set_option linter.unusedVariables false
set_option linter.unusedSimpArgs false

theorem sink_go {ys : List Int} {k : Nat} {y z : Int} (hy : ys[k + 1]? = some y) (hz : ys[k]? = some z) (h : y < z) : sink ys (k + 1) = sink ((ys.set (k + 1) z).set k y) k := by
  rw [sink, List.getD_eq_getElem?_getD, List.getD_eq_getElem?_getD, hy, hz]
  exact if_pos h
theorem sink_stop {ys : List Int} {k : Nat} {y z : Int} (hy : ys[k + 1]? = some y) (hz : ys[k]? = some z) (h : ¬ y < z) : sink ys (k + 1) = ys := by
  rw [sink, List.getD_eq_getElem?_getD, List.getD_eq_getElem?_getD, hy, hz]
  exact if_neg h
set_option maxHeartbeats 4000000 in
theorem f_insertionSort (v : Value) (xs : List Int) (n B : Nat) (w : World) (ho : Own w 3 B v (ints xs)) (hn : xs.length = n) (hl : n ≤ 2000000) :
    Calls Tryd.prog 169 #[v, .int .i64 0, .int .i64 n] w fun e w' => e = .returned (.tuple #[]) ∧ Own w' 3 B v (ints (srtK xs (n - 1))) ∧ w.grownBy w' v.ownBlock := by
  have HLn : Hid (∀ k, (srtK xs k).length = n) := fun k => by rw [srtK_length]; exact hn
  obtain ⟨a, c, rfl, h2, h3⟩ := ho.rd.formi
  rw [hn] at ho ⊢
  clear hn h2
  go_enter Tryd.func169, Tryd.ntmps169
  go_wp2
  go_loopw [6] (fun i wr => ∃ k : Nat, (k + 1 ≤ n ∨ k = 0) ∧ i = .int .i64 ((k : Int) + 1) ∧ Own wr 3 B (.slice a n c) (ints (srtK xs k)) ∧ w.grownBy wr (Value.slice a n c).ownBlock) (fun i _ => n + 1 - (intOf i).toNat)
  case atStart => exact ⟨0, .inr rfl, by simp, ho, World.grownBy.refl _ _⟩
  case round =>
    clear ho
    obtain ⟨k, hkn, rfl, ho, hg⟩ := hrel
    by_cases hlt : k + 1 < n
    · have i0 : (k : Int) + 1 < (n : Int) := by omega
      have HK : Hid (sink (srtK xs k) (k + 1) = srtK xs (k + 1)) := rfl
      have HL0 := Lib.hid (HLn.out k)
      obtain ⟨ys, hys⟩ : ∃ ys, srtK xs k = ys := ⟨_, rfl⟩
      rw [hys] at ho HK HL0
      clear hys
      go_wp2
      go_loopw [7] (fun i wr => ∃ (j : Nat) (zs : List Int), j ≤ k + 1 ∧ i = .int .i64 (j : Int) ∧ Own wr 3 B (.slice a n c) (ints zs) ∧ Hid (zs.length = n) ∧ Hid (sink zs j = srtK xs (k + 1)) ∧ w.grownBy wr (Value.slice a n c).ownBlock) (fun i _ => (intOf i).toNat)
      case atStart => exact ⟨k + 1, ys, Nat.le_refl _, by simp, ho, HL0, HK, hg⟩
      case round =>
        clear ho hg HK HL0
        obtain ⟨j, zs, hj, rfl, ho, HZ, HS, hg⟩ := hrel
        cases j with
        | zero =>
          have HE : Hid (zs = srtK xs (k + 1)) := HS.out
          have d0 : decide ((0 : Int) > 0) = false := rfl
          go_wp2
          go_quiet ((go_at_call 175; exact Calls.quiet_of_same ((f_cmpLess _ _ _).mono fun _ _ hh => ⟨hh.1, hh.2.symm⟩)))
          rename_i nq
          have ho1 := ho.drewN nq
          have hg1 := grownBy_drewN hg nq
          rw [HE.out] at ho1
          go_wp2
          go_roundw
          case rel => exact ⟨k + 1, .inl (by omega), by go_num, ho1, hg1⟩
          case measure => simp [intOf]; omega
        | succ j =>
          obtain ⟨ad, y, rfl, hc1, hy⟩ := ho.rd.int (k := j + 1) (by rw [HZ.out]; omega)
          obtain ⟨ad', z, had, hc0, hz⟩ := ho.rd.int (k := j) (by rw [HZ.out]; omega)
          obtain rfl : ad = ad' := by injection had
          clear had
          rw [add_succ] at hc1
          have i1 : (j : Int) + 1 < (n : Int) := by omega
          have i2 : (j : Int) < (n : Int) := by omega
          have i3 : (0 : Int) ≤ (j : Int) := by omega
          have i4 : (0 : Int) ≤ (j : Int) + 1 := by omega
          have i5 : ((j : Int) + 1).toNat = j + 1 := by omega
          have i6 : (j : Int) + 1 - 1 = (j : Int) := by omega
          have d0 : decide ((j : Int) + 1 > 0) = true := by simp
          by_cases hyz : y < z
          · have hd : decide (y < z) = true := by simpa using hyz
            have HG := Lib.hid (sink_go hy.out hz.out hyz)
            have HS9 := HS
            go_wp2
            go_quiet ((go_at_call 175; exact Calls.quiet_of_same ((f_cmpLess _ _ _).mono fun _ _ hh => ⟨hh.1, hh.2.symm⟩)))
            rename_i nq
            obtain ⟨wv, hwv⟩ : ∃ wv, wr.drewN nq = wv := ⟨_, rfl⟩
            have ho1 := ho.drewN nq
            have hg1 := grownBy_drewN hg nq
            rw [hwv] at ho1 hg1 ⊢
            clear hwv ho hg hc0 hc1 hd d0 HS
            have hj1 : j + 1 < zs.length := by rw [HZ.out]; omega
            have hj0 : j < zs.length := by omega
            have g1 := ho1.rd.cell_i hy.out
            have g0 := ho1.rd.cell_i hz.out
            have fz1 := ho1.frozen rfl (j + 1)
            have fz0 := ho1.frozen rfl j
            have ht2 := ho1.seti rfl hj1 z
            have ht3 := ht2.1.seti rfl (show j < (zs.set (j + 1) z).length by rw [List.length_set]; exact hj0) y
            have hg3 := grownBy_trans hg1 (grownBy_trans ht2.2 ht3.2)
            have ho3 := ht3.1
            have c3 := ht2.1.rd.cell_i (show (zs.set (j + 1) z)[j]? = some z by rw [List.getElem?_set_ne (by omega)]; exact hz.out)
            have f3 := ht2.1.frozen rfl j
            rw [add_succ] at g1 fz1 ho3 hg3 c3 f3
            have HZ3 : Hid (((zs.set (j + 1) z).set j y).length = n) := by rw [Hid, List.length_set, List.length_set]; exact HZ.out
            clear ht2 ht3 ho1 hg1
            go_wp2
            go_region
            all_goals
              go_wp2
              go_roundw
              case rel => exact ⟨j, _, by omega, by go_num, ho3, HZ3, by rw [Hid, ← HG.out]; exact HS9.out, ⟨hg3.os, hg3.tape, hg3.output, hg3.size, hg3.block⟩⟩
              case measure => simp [intOf]
          · have hd : decide (y < z) = false := by simpa using hyz
            have HE : Hid (zs = srtK xs (k + 1)) := by rw [Hid, ← HS.out, sink_stop hy.out hz.out hyz]
            go_wp2
            go_quiet ((go_at_call 175; exact Calls.quiet_of_same ((f_cmpLess _ _ _).mono fun _ _ hh => ⟨hh.1, hh.2.symm⟩)))
            rename_i nq
            have ho1 := ho.drewN nq
            have hg1 := grownBy_drewN hg nq
            rw [HE.out] at ho1
            clear hc0 hc1 hd d0
            go_wp2
            go_roundw
            case rel => exact ⟨k + 1, .inl (by omega), by go_num, ho1, hg1⟩
            case measure => simp [intOf]; omega
    · have i0 : ¬ (k : Int) + 1 < (n : Int) := by omega
      obtain rfl : k = n - 1 := by omega
      go_wp2
      go_end0
      exact ⟨rfl, ho, hg⟩

set_option maxHeartbeats 1000000 in
set_option maxRecDepth 100000 in
theorem f_bitsLen64 (x : Int) (w : World) (h0 : 0 ≤ x) (h1 : x ≤ 12) : Calls Tryd.prog 179 #[.int .u64 x] w fun e w' => (∃ q : Int, e = .returned (.int .i64 q)) ∧ w = w' := by
  go_enter Tryd.func179, Tryd.ntmps179
  go_wp2
  all_goals (go_ret; exact ⟨⟨_, rfl⟩, rfl⟩)
theorem f_bitsLen (x : Int) (w : World) (h0 : 0 ≤ x) (h1 : x ≤ 12) : Calls Tryd.prog 162 #[.int .u64 x] w fun e w' => (∃ q : Int, e = .returned (.int .i64 q)) ∧ w = w' := by
  go_enter Tryd.func162, Tryd.ntmps162
  go_wp2_with (go_at_call 179; refine (f_bitsLen64 x _ h0 h1).mono ?_; rintro e w' ⟨⟨q, rfl⟩, rfl⟩)
  go_ret
  exact ⟨⟨_, rfl⟩, rfl⟩

set_option maxHeartbeats 1000000 in
theorem f_pdqsort (v : Value) (xs : List Int) (n B : Nat) (q : Int) (w : World) (ho : Own w 3 B v (ints xs)) (hn : xs.length = n) (hl : n ≤ 12) :
    Calls Tryd.prog 161 #[v, .int .i64 0, .int .i64 n, .int .i64 q] w fun e w' => e = .returned (.tuple #[]) ∧ Own w' 3 B v (ints (srt xs)) ∧ w.grownBy w' v.ownBlock := by
  have HC := f_insertionSort v xs n B w ho hn (by omega)
  rw [srtK_all hn] at HC
  have HCH := Lib.hid HC
  clear HC
  have i0 : (n : Int) ≤ 12 := by omega
  go_enter Tryd.func161, Tryd.ntmps161
  go_wp2
  go_loopw [1, 2, 3, 8, 9, 10, 11, 12, 13, 14, 15, 16, 17, 18] (fun a b l _ _ _ _ _ _ _ _ _ _ _ wr => a = .int .i64 0 ∧ b = .int .i64 n ∧ w = wr) (fun _ _ _ _ _ _ _ _ _ _ _ _ _ _ _ => 0)
  case atStart => exact ⟨rfl, rfl, rfl⟩
  case round =>
    obtain ⟨rfl, rfl, rfl⟩ := hrel
    go_wp2_with (go_at_call 169; refine HCH.out.mono ?_; rintro e w2 ⟨rfl, ho2, hg2⟩)
    refine bodyPost_ret (results_none rfl _ _ _) rfl ?_
    exact ⟨rfl, ho2, hg2⟩

set_option maxHeartbeats 1000000 in
theorem f_Sort (v : Value) (xs : List Int) (B : Nat) (w : World) (ho : Own w 3 B v (ints xs)) (hl : xs.length ≤ 12) :
    Calls Tryd.prog 151 #[v] w fun e w' => e = .returned (.tuple #[]) ∧ Own w' 3 B v (ints (srt xs)) ∧ w.grownBy w' v.ownBlock := by
  have HP := Lib.hid (fun q => f_pdqsort v xs xs.length B q w ho rfl hl)
  obtain ⟨a, c, rfl, h2, h3⟩ := ho.rd.formi
  have hb := Lib.hid (fun w0 => f_bitsLen (xs.length : Int) w0 (by omega) (by omega))
  go_enter Tryd.func151, Tryd.ntmps151
  go_wp2_with (first
    | (go_at_call 162; refine (hb.out _).mono ?_; rintro e w1 ⟨⟨q, rfl⟩, rfl⟩)
    | (go_at_call 161; refine (HP.out _).mono ?_; rintro e w2 ⟨rfl, ho2, hg2⟩))
  go_end0
  exact ⟨rfl, ho2, hg2⟩

end Go.Proofs.YtlmbaijkeahkfaaDoor
