/- Walks: slices.SortStableFunc of fewer than twenty numbers. -/
import Derived.Test.YtdagkgkllgpeeaaDoorSlicesWalks
import Derived.Test.YtdagkgkllgpeeaaDoorApp
import Derived.Test.YtdagkgkllgpeeaaDoorPlainStable
import Derived.Deep.RegionHeld3
namespace Go.Proofs.YtdagkgkllgpeeaaDoor
open Go.RowKit
set_option linter.unusedVariables false
set_option linter.unusedSimpArgs false

def cmpV (key : Int → Int) (x y : Int) : Int := if key x < key y then -1 else if key y < key x then 1 else 0
theorem sinkK_go {key : Int → Int} {ys : List Int} {k : Nat} {y z : Int} (hy : ys[k + 1]? = some y) (hz : ys[k]? = some z) (h : key y < key z) : sinkK key ys (k + 1) = sinkK key ((ys.set (k + 1) z).set k y) k := by
  rw [sinkK, List.getD_eq_getElem?_getD, List.getD_eq_getElem?_getD, hy, hz]
  exact if_pos h
theorem sinkK_stop {key : Int → Int} {ys : List Int} {k : Nat} {y z : Int} (hy : ys[k + 1]? = some y) (hz : ys[k]? = some z) (h : ¬ key y < key z) : sinkK key ys (k + 1) = ys := by
  rw [sinkK, List.getD_eq_getElem?_getD, List.getD_eq_getElem?_getD, hy, hz]
  exact if_neg h
theorem sinkK_mem' (key : Int → Int) : ∀ (j : Nat) (ys : List Int) (x : Int), j < ys.length → x ∈ sinkK key ys j → x ∈ ys
  | 0, ys, x, _, h => h
  | j + 1, ys, x, hj, h => by
    rw [sinkK] at h
    split at h
    · have := sinkK_mem' key j _ x (by simp; omega) h
      rcases List.mem_or_eq_of_mem_set this with hx | rfl
      · rcases List.mem_or_eq_of_mem_set hx with hx | rfl
        · exact hx
        · rw [List.getD_eq_getElem?_getD, List.getElem?_eq_getElem (by omega)]; exact List.getElem_mem _
      · rw [List.getD_eq_getElem?_getD, List.getElem?_eq_getElem hj]; exact List.getElem_mem _
    · exact h
theorem srtKK_mem (key : Int → Int) (xs : List Int) : ∀ (k : Nat) (x : Int), k < xs.length → x ∈ srtKK key xs k → x ∈ xs
  | 0, x, _, h => h
  | k + 1, x, hk, h => srtKK_mem key xs k x (by omega) (sinkK_mem' key _ _ x (by rw [srtKK_length]; exact hk) h)
set_option maxHeartbeats 4000000 in
theorem f_insertionSortCmp (key : Int → Int) (p : Int → Prop) (C : World → Prop) (fn : Nat) (cap : Array Value) (hknown : Known fn) (v : Value) (xs : List Int) (n B : Nat) (w : World) (ho : Own w 3 B v (ints xs)) (hn : xs.length = n) (hl : n ≤ 2000000)
    (hp : ∀ x ∈ xs, p x) (hC0 : C w) (hC : ∀ w', w.grownBy w' v.ownBlock → C w')
    (hcmp : ∀ (wx : World) (x y : Int), C wx → p x → p y → Calls Tryd.prog fn (#[.int .i64 x, .int .i64 y] ++ cap) wx (RetQ (.int .i64 (cmpV key x y)) wx)) :
    Calls Tryd.prog 242 #[v, .int .i64 0, .int .i64 n, .func (.func fn) #[] cap] w fun e w' => e = .returned (.tuple #[]) ∧ Own w' 3 B v (ints (srtKK key xs (n - 1))) ∧ w.grownBy w' v.ownBlock := by
  have HLn : Hid (∀ k, (srtKK key xs k).length = n) := fun k => by rw [srtKK_length]; exact hn
  obtain ⟨a, c, rfl, h2, h3⟩ := ho.rd.formi
  have HCM := Lib.hid hcmp
  have HCC := Lib.hid hC
  have HPP : Hid (∀ k, k < n → ∀ x ∈ srtKK key xs k, p x) := fun k hk x hx => hp x (srtKK_mem key xs k x (by omega) hx)
  clear hcmp hC hp
  rw [hn] at ho ⊢
  clear hn h2
  go_enter Tryd.func242, Tryd.ntmps242
  go_wp2
  go_loopw [8] (fun i wr => ∃ k : Nat, (k + 1 ≤ n ∨ k = 0) ∧ i = .int .i64 ((k : Int) + 1) ∧ Own wr 3 B (.slice a n c) (ints (srtKK key xs k)) ∧ w.grownBy wr (Value.slice a n c).ownBlock) (fun i _ => n + 1 - (intOf i).toNat)
  case atStart => exact ⟨0, .inr rfl, by simp, ho, World.grownBy.refl _ _⟩
  case round =>
    clear ho
    obtain ⟨k, hkn, rfl, ho, hg⟩ := hrel
    by_cases hlt : k + 1 < n
    · have i0 : (k : Int) + 1 < (n : Int) := by omega
      have HK : Hid (sinkK key (srtKK key xs k) (k + 1) = srtKK key xs (k + 1)) := rfl
      have HL0 := Lib.hid (HLn.out k)
      have HP0 := Lib.hid (HPP.out k (by omega))
      obtain ⟨ys, hys⟩ : ∃ ys, srtKK key xs k = ys := ⟨_, rfl⟩
      rw [hys] at ho HK HL0 HP0
      clear hys
      go_wp2
      go_loopw [9] (fun i wr => ∃ (j : Nat) (zs : List Int), j ≤ k + 1 ∧ i = .int .i64 (j : Int) ∧ Own wr 3 B (.slice a n c) (ints zs) ∧ Hid (zs.length = n) ∧ Hid (∀ x ∈ zs, p x) ∧ Hid (sinkK key zs j = srtKK key xs (k + 1)) ∧ w.grownBy wr (Value.slice a n c).ownBlock) (fun i _ => (intOf i).toNat)
      case atStart => exact ⟨k + 1, ys, Nat.le_refl _, by simp, ho, HL0, HP0, HK, hg⟩
      case round =>
        clear ho hg HK HL0 HP0
        obtain ⟨j, zs, hj, rfl, ho, HZ, HP, HS, hg⟩ := hrel
        cases j with
        | zero =>
          have HE : Hid (zs = srtKK key xs (k + 1)) := HS.out
          have d0 : decide ((0 : Int) > 0) = false := rfl
          go_wp2
          go_quiet ((exact quietQ (GC.out _)))
          rename_i nq
          have ho1 := ho.drewN nq
          have hg1 := grownBy_drewN hg nq
          rw [HE.out] at ho1
          go_wp2
          go_roundw
          case rel => exact ⟨k + 1, .inl (by omega), by go_num, ho1, hg1⟩
          case measure => simp [intOf]; omega
        | succ j =>
          obtain ⟨ad, y, rfl, hc1, hy⟩ := ho.rd.int (k := j + 1) (by rw [HZ.out]; omega)
          obtain ⟨ad', z, had, hc0, hz⟩ := ho.rd.int (k := j) (by rw [HZ.out]; omega)
          obtain rfl : ad = ad' := by injection had
          clear had
          rw [add_succ] at hc1
          have i1 : (j : Int) + 1 < (n : Int) := by omega
          have i2 : (j : Int) < (n : Int) := by omega
          have i3 : (0 : Int) ≤ (j : Int) := by omega
          have i4 : (0 : Int) ≤ (j : Int) + 1 := by omega
          have i5 : ((j : Int) + 1).toNat = j + 1 := by omega
          have i6 : (j : Int) + 1 - 1 = (j : Int) := by omega
          have d0 : decide ((j : Int) + 1 > 0) = true := by simp
          have hyp := HP.out y (List.mem_of_getElem? hy.out)
          have hzp := HP.out z (List.mem_of_getElem? hz.out)
          have HCW := HCC.out wr hg
          have GC : Hid (∀ nn, Calls Tryd.prog fn (#[.int .i64 y, .int .i64 z] ++ cap) (wr.drewN nn) (RetQ (.int .i64 (cmpV key y z)) (wr.drewN nn))) := fun nn => HCM.out _ y z (HCC.out _ (grownBy_drewN hg nn)) hyp hzp
          have hcall : ∀ W, (callFunc fn (#[.int .i64 y, .int .i64 z] ++ cap)).run Tryd.prog W = .ok (.enter fn (#[.int .i64 y, .int .i64 z] ++ cap)) W := fun W => hknown _ W
          by_cases hyz : key y < key z
          · have hcv : Hid (cmpV key y z = -1) := by rw [Hid, cmpV, if_pos hyz]
            rw [hcv.out] at GC
            have HG := Lib.hid (sinkK_go hy.out hz.out hyz)
            have HS9 := HS
            go_wp2
            go_quiet ((exact quietQ (GC.out _)))
            rename_i nq
            obtain ⟨wv, hwv⟩ : ∃ wv, wr.drewN nq = wv := ⟨_, rfl⟩
            have ho1 := ho.drewN nq
            have hg1 := grownBy_drewN hg nq
            rw [hwv] at ho1 hg1 ⊢
            clear hwv ho hg hc0 hc1 d0 HS HCW GC hcall hcv
            have hj1 : j + 1 < zs.length := by rw [HZ.out]; omega
            have hj0 : j < zs.length := by omega
            have g1 := ho1.rd.cell_i hy.out
            have g0 := ho1.rd.cell_i hz.out
            have fz1 := ho1.frozen rfl (j + 1)
            have fz0 := ho1.frozen rfl j
            have ht2 := ho1.seti rfl hj1 z
            have ht3 := ht2.1.seti rfl (show j < (zs.set (j + 1) z).length by rw [List.length_set]; exact hj0) y
            have hg3 := grownBy_trans hg1 (grownBy_trans ht2.2 ht3.2)
            have ho3 := ht3.1
            have c3 := ht2.1.rd.cell_i (show (zs.set (j + 1) z)[j]? = some z by rw [List.getElem?_set_ne (by omega)]; exact hz.out)
            have f3 := ht2.1.frozen rfl j
            rw [add_succ] at g1 fz1 ho3 hg3 c3 f3
            have HZ3 : Hid (((zs.set (j + 1) z).set j y).length = n) := by rw [Hid, List.length_set, List.length_set]; exact HZ.out
            have HP3 : Hid (∀ x ∈ (zs.set (j + 1) z).set j y, p x) := fun x hx => by
              rcases List.mem_or_eq_of_mem_set hx with hx | rfl
              · rcases List.mem_or_eq_of_mem_set hx with hx | rfl
                · exact HP.out x hx
                · exact hzp
              · exact hyp
            clear ht2 ht3 ho1 hg1
            go_wp2
            go_region
            all_goals
              go_wp2
              go_roundw
              case rel => exact ⟨j, _, by omega, by go_num, ho3, HZ3, HP3, by rw [Hid, ← HG.out]; exact HS9.out, ⟨hg3.os, hg3.tape, hg3.output, hg3.size, hg3.block⟩⟩
              case measure => simp [intOf]
          · have hcv : Hid (0 ≤ cmpV key y z) := by rw [Hid, cmpV, if_neg hyz]; split <;> omega
            obtain ⟨cq, hcq⟩ : ∃ cq, cmpV key y z = cq := ⟨_, rfl⟩
            rw [hcq] at GC hcv
            have hcq0 : decide (cq < 0) = false := by have := hcv.out; simp; omega
            clear hcq
            have HE : Hid (zs = srtKK key xs (k + 1)) := by rw [Hid, ← HS.out, sinkK_stop hy.out hz.out hyz]
            go_wp2
            go_quiet ((exact quietQ (GC.out _)))
            rename_i nq
            have ho1 := ho.drewN nq
            have hg1 := grownBy_drewN hg nq
            rw [HE.out] at ho1
            clear hc0 hc1 d0 GC hcall hcq0
            go_wp2
            go_roundw
            case rel => exact ⟨k + 1, .inl (by omega), by go_num, ho1, hg1⟩
            case measure => simp [intOf]; omega
    · have i0 : ¬ (k : Int) + 1 < (n : Int) := by omega
      obtain rfl : k = n - 1 := by omega
      go_wp2
      go_end0
      exact ⟨rfl, ho, hg⟩

end Go.Proofs.YtdagkgkllgpeeaaDoor
