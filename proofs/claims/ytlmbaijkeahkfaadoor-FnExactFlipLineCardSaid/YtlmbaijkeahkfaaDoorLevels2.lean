/- Walks: the program's levels. -/
import Derived.Test.YtlmbaijkeahkfaaDoorDepth
namespace Go.Proofs.YtlmbaijkeahkfaaDoor
open Go.RowKit
set_option linter.unusedVariables false
set_option linter.unusedSimpArgs false

set_option maxHeartbeats 2000000 in
theorem i_levels (N : Nat) (v : Value) (xss : List (List Int)) (w : World) (h : Rd2 w v xss) (hk : netOk (N : Int) xss = true) : Calls Tryd.prog 97 #[.agg #[.int .i64 N, v]] w (RetOwn 3 (ints (lvM xss xss.length).2) w) := by
  obtain ⟨N', e, hN1, hN8, hL60⟩ := netOk_n hk
  obtain rfl : N = N' := by omega
  clear e
  have HK := Lib.hid (fun k xs => netOk_row (k := k) (xs := xs) hk)
  clear hk
  obtain ⟨a0, c0, rfl, _, _⟩ := h.form
  have bx := box_cells w (.int .i64 N) (.slice a0 xss.length c0) 32
  go_enter Tryd.func97, Tryd.ntmps97
  go_wp2
  have bX : Below w.heap.size w (((w.alloc (.cells #[.int .i64 N, .slice a0 xss.length c0] 32)).alloc (.cells #[.int .i64 0, .int .i64 0, .int .i64 0, .int .i64 0, .int .i64 0, .int .i64 0, .int .i64 0, .int .i64 0] 97)).alloc (.cells #[] 3)) := (((Below.refl _ _).alloc (Nat.le_refl _) _).alloc (by simp) _).alloc (by simp <;> omega) _
  have htA : Own ((w.alloc (.cells #[.int .i64 N, .slice a0 xss.length c0] 32)).alloc (.cells #[.int .i64 0, .int .i64 0, .int .i64 0, .int .i64 0, .int .i64 0, .int .i64 0, .int .i64 0, .int .i64 0] 97)) 97 w.heap.size (.slice (some ⟨(w.alloc (.cells #[.int .i64 N, .slice a0 xss.length c0] 32)).heap.size, 0, none⟩) 8 8) (ints (atL 8 (lvM xss 0).1)) := Own.lit _ 97 _ #[.int .i64 0, .int .i64 0, .int .i64 0, .int .i64 0, .int .i64 0, .int .i64 0, .int .i64 0, .int .i64 0] (by simp) (by simp)
  rw [show (w.alloc (.cells #[.int .i64 N, .slice a0 xss.length c0] 32)).heap.size = w.heap.size + 1 by simp] at htA
  have hoA := Own.lit0 (B := w.heap.size) ((w.alloc (.cells #[.int .i64 N, .slice a0 xss.length c0] 32)).alloc (.cells #[.int .i64 0, .int .i64 0, .int .i64 0, .int .i64 0, .int .i64 0, .int .i64 0, .int .i64 0, .int .i64 0] 97)) 3 (by simp <;> omega)
  rw [show ((w.alloc (.cells #[.int .i64 N, .slice a0 xss.length c0] 32)).alloc (.cells #[.int .i64 0, .int .i64 0, .int .i64 0, .int .i64 0, .int .i64 0, .int .i64 0, .int .i64 0, .int .i64 0] 97)).heap.size = w.heap.size + 1 + 1 by simp] at hoA
  obtain ⟨b, hbb⟩ : ∃ b : Addr, (⟨w.heap.size + 1, 0, none⟩ : Addr) = b := ⟨_, rfl⟩
  have hbn : b.block = w.heap.size + 1 := by rw [← hbb]
  rw [hbb] at htA ⊢
  have HBN := Lib.hid hbn
  clear hbb hbn bx
  go_loopw [4, 13] (fun vo i wr => ∃ k : Nat, k ≤ xss.length ∧ i = .int .i64 k ∧ Own wr 3 w.heap.size vo (ints (lvM xss k).2) ∧ Own wr 97 w.heap.size (.slice (some b) 8 8) (ints (atL 8 (lvM xss k).1)) ∧ (∀ g, vo.ownBlock = some g → (Value.slice (some b) 8 8).ownBlock ≠ some g) ∧ Below w.heap.size w wr)
    (fun _ i _ => xss.length - (intOf i).toNat)
  case atStart => exact ⟨0, Nat.zero_le _, rfl, hoA, htA.alloc _, fun g h2 h3 => by
    have := HBN.out
    simp [Value.ownBlock] at h2 h3
    omega, bX⟩
  case round =>
    obtain ⟨k, hkl, rfl, ho, ht, hap, hb⟩ := hrel
    obtain ⟨ao, co, rfl, _, hco⟩ := ho.rd.formi
    have hLl := lvM_length xss k
    by_cases hlt : k < xss.length
    · obtain ⟨ad, bx, m, d, xs, rfl, hc0, hx, hm, hmd, hd, hr⟩ := h.row hlt
      obtain ⟨x, y, rfl, hxN, hyN, hxy⟩ := HK.out k xs hx.out
      obtain rfl : m = 2 := hm.out
      obtain ⟨z, x', rfl, hcx, hxx⟩ := hr.int (k := 0) (by simp)
      obtain ⟨z', y', hz, hcy, hyy⟩ := hr.int (k := 1) (by simp)
      obtain rfl : z = z' := by injection hz
      clear hz
      have e1 := hxx.out
      have e2 := hyy.out
      simp only [List.getElem?_cons_zero, List.getElem?_cons_succ, Option.some.injEq] at e1 e2
      subst e1 e2
      rw [add_succ] at hcy
      have hcx' : w.cell? z = some (.int .i64 x) := by simpa [Addr.add] using hcx
      clear hcx
      have HSS : Hid (∀ wx : World, Below w.heap.size w wx → wx.cell? (ad.add k) = some (.slice (some z) 2 d) ∧ wx.cell? z = some (.int .i64 x) ∧ wx.cell? ⟨z.block, z.off + (0 + 1), none⟩ = some (.int .i64 y)) := by
        intro wx hbx
        exact ⟨(hbx.cell (World.block_lt_of_cell? w _ hc0)).trans hc0, (hbx.cell (World.block_lt_of_cell? w _ hcx')).trans hcx', (hbx.cell (World.block_lt_of_cell? w _ hcy)).trans hcy⟩
      have hcW := hcx'
      clear hc0 hcx' hcy
      obtain ⟨q1, q2, q3⟩ := HSS.out _ hb
      have HS := Lib.hid (lvM_succ hx.out)
      have hbx := lvM_bound xss k x
      have hby := lvM_bound xss k y
      obtain ⟨f, hf⟩ : ∃ f, (lvM xss k).1 = f := ⟨_, rfl⟩
      obtain ⟨os, hos⟩ : ∃ os, (lvM xss k).2 = os := ⟨_, rfl⟩
      rw [hf] at ht hbx hby HS
      rw [hos] at ho HS hLl hap
      rw [hos]
      have hta := ht.rd.cell_int' (atL_get (n := 8) (i := x) f (by omega))
      have htb := ht.rd.cell_int' (atL_get (n := 8) (i := y) f (by omega))
      clear hf hos
      have i1 : (0 : Int) ≤ (x : Int) := by omega
      have i2 : (x : Int) < 8 := by omega
      have i3 : (0 : Int) ≤ (y : Int) := by omega
      have i4 : (y : Int) < 8 := by omega
      have iw : IntKind.i64.wrap (1 + if f x < f y then f y else f x) = 1 + if f x < f y then f y else f x := IntWalk.i64_in _ (by split <;> omega)
      go_wp2
      go_quiet (fail)
      clear iw q1 q2 q3 hta htb
      rename_i nq
      obtain ⟨M0, hM0⟩ : ∃ M0, (if f x < f y then f y else f x) = M0 := ⟨_, rfl⟩
      rw [hM0]
      obtain ⟨M, hM⟩ : ∃ M, 1 + M0 = M := ⟨_, rfl⟩
      rw [hM]
      have hMx : 1 + max (f x) (f y) = M := by rw [← hM, ← hM0]; split <;> omega
      rw [hMx] at HS
      clear hM hMx hM0
      have hb1 : Below w.heap.size w (wr.drewN nq) := hb.trans (Dr.below ((Dr.refl _).step _) _)
      obtain ⟨wv, hwv⟩ : ∃ wv, wr.drewN nq = wv := ⟨_, rfl⟩
      have ht1 := ht.drewN nq
      have ho1 := ho.drewN nq
      rw [hwv] at hb1 ht1 ho1 ⊢
      clear hwv ht ho hb
      obtain ⟨q1, q2, q3⟩ := HSS.out _ hb1
      have fz1 := ht1.frozen rfl x
      have fz2 := ht1.frozen rfl y
      have hta := ht1.rd.cell_int' (atL_get (n := 8) (i := x) f (by omega))
      have htb := ht1.rd.cell_int' (atL_get (n := 8) (i := y) f (by omega))
      have hzb : z.block ≠ b.block := by
        have e1 := HBN.out
        have e2 := World.block_lt_of_cell? w _ hcW
        omega
      have hL := atL_length 8 f
      have ht2 := (ht1.seti rfl (show x < (atL 8 f).length by omega) M).1
      have hb2 := ht1.below_set rfl (show x < (atL 8 f).length by omega) (.int .i64 M) hb1 (Nat.le_refl _)
      obtain ⟨r1, r2, r3⟩ := HSS.out _ hb2
      have fz3 := ht2.frozen rfl y
      have hL2 : ((atL 8 f).set x M).length = 8 := by rw [List.length_set]; exact hL
      have htb2 := ht2.rd.cell_int' (show ((atL 8 f).set x M)[y]? = some (f y) by rw [List.getElem?_set_ne (by omega)]; exact atL_get f (by omega))
      have ht3 := (ht2.seti rfl (show y < ((atL 8 f).set x M).length by omega) M).1
      have hb3 := ht2.below_set rfl (show y < ((atL 8 f).set x M).length by omega) (.int .i64 M) hb2 (Nat.le_refl _)
      obtain ⟨s1, s2, s3⟩ := HSS.out _ hb3
      have ho3 := (ho1.setCell (p := b.add x) (by rw [block_of_add]; intro e; exact hap _ e rfl) (.int .i64 M)).setCell (p := b.add y) (by rw [block_of_add]; intro e; exact hap _ e rfl) (.int .i64 M)
      rw [atL_two f M (show x < 8 by omega) (show y < 8 by omega)] at ht3
      have hlo := ints_length os
      clear hL hL2
      go_wp2
      go_region_held3 (fun wx => wx.cell? z = some (.int .i64 x) ∧ wx.cell? ⟨z.block, z.off + (0 + 1), none⟩ = some (.int .i64 y) ∧ wx.frozen? (b.add x) = false ∧ wx.frozen? (b.add y) = false)
        (first | go_keep | (refine ⟨r2, r3, ?_, ?_⟩ <;> go_keep) | (refine ⟨s2, s3, ?_, ?_⟩ <;> go_keep))
        (fail)
      have ho4 := ho3.drew
      have ht4 := ht3.drew
      have hb4 := Below.drew hb3
      clear ho3 ht3 hb3 ht1 ht2 ho1 hb2 r1 r2 r3 s1 s2 s3 q1 q2 q3 fz1 fz2 fz3 hta htb htb2
      go_wp2_with (at_builtin; refine wpList_app1 rfl _ _ 22 rfl elI rfl ho4 (by show Value.slice (some ⟨wv.heap.size, 0, none⟩) 1 1 = _; simp) rfl hb4.size (by omega) (by omega) ?_; intro bn cn' w6 ho6 hg6 hat6)
      simp only [ints_length] at ho6 hat6
      have ht6 := ht4.apart hg6 fun g h2 h3 => hap g h3 h2
      go_roundw
      case rel => exact ⟨k + 1, by omega, by go_num, by rw [HS.out, ints_append]; exact ho6, by rw [HS.out]; exact ht6, fun g h2 h3 => by
        rcases hat6 with e | ⟨q, hq, e⟩
        · exact hap g (e ▸ h2) h3
        · rw [e] at h2
          cases h2
          have := (ht4.lt _ h3).2
          omega, hb4.grown hg6 hb4.size fun r hr => (ho4.lt r hr).1⟩
      case measure => simp [intOf]; omega
    · obtain rfl : xss.length = k := by omega
      go_wp2
      go_ret
      exact ⟨_, rfl, ho, hb⟩

end Go.Proofs.YtlmbaijkeahkfaaDoor
