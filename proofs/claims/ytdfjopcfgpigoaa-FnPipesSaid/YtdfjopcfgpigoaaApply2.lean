/- Walks: a list through comparators, the program. -/
import Derived.Test.YtdfjopcfgpigoaaApply
namespace Go.Proofs.Ytdfjopcfgpigoaa
open Go.RowKit
set_option linter.unusedVariables false
set_option linter.unusedSimpArgs false

set_option maxHeartbeats 2000000 in
theorem i_apply (N : Nat) (n : Int) (v u : Value) (xss : List (List Int)) (xs : List Int) (w : World) (h : Rd2 w v xss) (hu : Rd w u (ints xs)) (hN : xs.length = N) (hl : N ≤ 2000000) (HW : Hid (Pairs N xss)) :
    Calls Try.prog 67 #[.agg #[.int .i64 n, v], u] w (RetOwn 3 (ints (apM xss xs xss.length)) w) := by
  obtain ⟨a0, c0, rfl, _, _⟩ := h.form
  obtain ⟨au, cu, rfl, hu2, hu3⟩ := hu.formi
  have HLn := Lib.hid hN
  clear hN
  have hlx : xs.length ≤ 2000000 := by have := HLn.out; omega
  have hbA : Below w.heap.size w (w.alloc (.cells #[.int .i64 n, .slice a0 xss.length c0] 32)) := (Below.refl _ _).alloc (Nat.le_refl _) _
  have hu' := hu.alloc (.cells #[.int .i64 n, .slice a0 xss.length c0] 32)
  have bx := Lib.hid (box_cells w (.int .i64 n) (.slice a0 xss.length c0) 32)
  go_enter Try.func67, Try.ntmps67
  go_wp2_with (go_at_call 59; refine (f_Clone _ xs _ hu' hlx).mono ?_; rintro e w2 ⟨vo, rfl, ho2, hb2⟩; obtain ⟨b, cc, rfl, _, _⟩ := ho2.rd.formi; have c1 : w2.cell? ⟨w.heap.size, 1, none⟩ = some (.slice a0 xss.length c0) := (hb2.cell (by simp)).trans bx.out.2)
  have hz2 : w.heap.size + 1 ≤ w2.heap.size := by have := hb2.size; simp at this; omega
  replace hb2 := hbA.trans (hb2.mono hbA.size)
  have e0 : ints xs = ints (apM xss xs 0) := rfl
  replace ho2 := ho2.mono (B' := w.heap.size) (by simp)
  rw [e0] at ho2
  clear hu' e0 bx hz2 c1
  go_loopw [15] (fun i wr => ∃ k : Nat, k ≤ xss.length ∧ i = .int .i64 k ∧ Own wr 3 w.heap.size (.slice b xs.length cc) (ints (apM xss xs k)) ∧ Below w.heap.size w wr)
    (fun i _ => xss.length - (intOf i).toNat)
  case atStart => exact ⟨0, Nat.zero_le _, rfl, ho2, hb2⟩
  case round =>
    clear ho2 hb2
    obtain ⟨k, hkl, rfl, ho, hb⟩ := hrel
    by_cases hlt : k < xss.length
    · obtain ⟨ad, bx, m, d, row, rfl, hc0, hx, hm, hmd, hd, hr⟩ := h.row hlt
      obtain ⟨x, y, rfl, hxN, hyN, hxy⟩ := HW.out k row hx.out
      obtain rfl : m = 2 := hm.out
      obtain ⟨z, x', rfl, hcx, hxx⟩ := hr.int (k := 0) (by simp)
      obtain ⟨z', y', hz, hcy, hyy⟩ := hr.int (k := 1) (by simp)
      obtain rfl : z = z' := by injection hz
      clear hz
      have e1 := hxx.out
      have e2 := hyy.out
      simp only [List.getElem?_cons_zero, List.getElem?_cons_succ, Option.some.injEq] at e1 e2
      subst e1 e2
      rw [add_succ] at hcy
      have hcx' : w.cell? z = some (.int .i64 x) := by simpa [Addr.add] using hcx
      clear hcx
      have HSS : Hid (∀ wx : World, Below w.heap.size w wx → wx.cell? (ad.add k) = some (.slice (some z) 2 d) ∧ wx.cell? z = some (.int .i64 x) ∧ wx.cell? ⟨z.block, z.off + (0 + 1), none⟩ = some (.int .i64 y)) := by
        intro wx hbx
        exact ⟨(hbx.cell (World.block_lt_of_cell? w _ hc0)).trans hc0, (hbx.cell (World.block_lt_of_cell? w _ hcx')).trans hcx', (hbx.cell (World.block_lt_of_cell? w _ hcy)).trans hcy⟩
      clear hc0 hcx' hcy
      obtain ⟨q1, q2, q3⟩ := HSS.out _ hb
      have HLk : Hid ((apM xss xs k).length = N) := by rw [Hid, apM_length]; exact HLn.out
      have HA := Lib.hid (fun (p q : Int) => apM_succ (xs := xs) (x := p) (y := q) hx.out)
      obtain ⟨l, hl0⟩ : ∃ l, apM xss xs k = l := ⟨_, rfl⟩
      rw [hl0] at ho HLk HA
      clear hl0
      obtain ⟨bo, p, rfl, hcp, hp⟩ := ho.rd.int (k := x) (by rw [HLk.out]; omega)
      obtain ⟨bo', q, hbo, hcq, hq⟩ := ho.rd.int (k := y) (by rw [HLk.out]; omega)
      obtain rfl : bo = bo' := by injection hbo
      clear hbo
      have HS := Lib.hid (HA.out p q hp.out hq.out)
      clear HA
      have hx1 : x < l.length := by rw [HLk.out]; omega
      have hy1 : y < l.length := by rw [HLk.out]; omega
      have i2 : (x : Int) < (xs.length : Int) := by have := HLn.out; omega
      have i4 : (y : Int) < (xs.length : Int) := by have := HLn.out; omega
      go_wp2
      go_quiet (fail)
      clear q1 q2 q3 hcp hcq
      rename_i nq
      have hb1 : Below w.heap.size w (wr.drewN nq) := hb.trans (Dr.below ((Dr.refl _).step _) _)
      obtain ⟨wv, hwv⟩ : ∃ wv, wr.drewN nq = wv := ⟨_, rfl⟩
      have ho1 := ho.drewN nq
      rw [hwv] at hb1 ho1 ⊢
      clear hwv ho hb
      obtain ⟨q1, q2, q3⟩ := HSS.out _ hb1
      have fz1 := ho1.frozen rfl x
      have fz0 := ho1.frozen rfl y
      have hta := ho1.rd.cell_int' hp.out
      have htb := ho1.rd.cell_int' hq.out
      have ht2 := (ho1.seti rfl hx1 (if q < p then q else p)).1
      have hb2 := ho1.below_set rfl hx1 (.int .i64 (if q < p then q else p)) hb1 (Nat.le_refl _)
      obtain ⟨r1, r2, r3⟩ := HSS.out _ hb2
      have fz3 := ht2.frozen rfl y
      have hy2 : y < (l.set x (if q < p then q else p)).length := by rw [List.length_set]; exact hy1
      have htb2 := ht2.rd.cell_int' (show (l.set x (if q < p then q else p))[y]? = some q by rw [List.getElem?_set_ne (by omega)]; exact hq.out)
      have ht3 := (ht2.seti rfl hy2 (if p < q then q else p)).1
      have hb3 := ht2.below_set rfl hy2 (.int .i64 (if p < q then q else p)) hb2 (Nat.le_refl _)
      obtain ⟨s1, s2, s3⟩ := HSS.out _ hb3
      go_wp2
      go_region_held3 (fun wx => wx.cell? z = some (.int .i64 x) ∧ wx.cell? ⟨z.block, z.off + (0 + 1), none⟩ = some (.int .i64 y) ∧ wx.frozen? (bo.add x) = false ∧ wx.frozen? (bo.add y) = false)
        (first | go_keep | (refine ⟨r2, r3, ?_, ?_⟩ <;> go_keep) | (refine ⟨s2, s3, ?_, ?_⟩ <;> go_keep))
        (fail)
      all_goals
        go_wp2
        go_roundw
        case rel => exact ⟨k + 1, by omega, by go_num, by rw [HS.out]; exact ht3, ⟨hb3.os, hb3.tape, hb3.output, hb3.size, hb3.block⟩⟩
        case measure => simp [intOf]; omega
    · obtain rfl : xss.length = k := by omega
      go_wp2
      go_ret
      exact ⟨_, rfl, ho, hb⟩

end Go.Proofs.Ytdfjopcfgpigoaa
