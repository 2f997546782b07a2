/- Walks: networks, the program's check. -/
import Derived.Test.YtlmbaijkeahkfaaDoorNets
namespace Go.Proofs.YtlmbaijkeahkfaaDoor
open Go.RowKit
set_option linter.unusedVariables false
set_option linter.unusedSimpArgs false

theorem box_cells (w : World) (x y : Value) (T : Nat) : (w.alloc (.cells #[x, y] T)).cell? ⟨w.heap.size, 0, none⟩ = some x ∧ (w.alloc (.cells #[x, y] T)).cell? ⟨w.heap.size, 1, none⟩ = some y := ⟨by go_simp, by go_simp⟩
theorem i_isWires (n : Int) (w : World) : Calls Tryd.prog 95 #[.int .i64 n] w fun e w' => e = .returned (.bool (inB n 1 8)) ∧ w = w' := by
  by_cases h1 : n ≥ 1
  · have d1 : decide (n ≥ 1) = true := by simpa using h1
    go_enter Tryd.func95, Tryd.ntmps95
    go_wp2
    go_ret
    exact ⟨ret_bool (by rw [Bool.eq_iff_iff, inB_iff]; simp; omega), rfl⟩
  · have d1 : decide (n ≥ 1) = false := by simpa using h1
    go_enter Tryd.func95, Tryd.ntmps95
    go_wp2
    go_ret
    exact ⟨ret_bool (by rw [inB_no.2 (by omega)]), rfl⟩

theorem i_isWire (n k : Int) (v : Value) (w : World) : Calls Tryd.prog 96 #[.agg #[.int .i64 n, v], .int .i64 k] w (RetB (.bool (inB k 0 (n - 1))) w) := by
  by_cases h1 : k ≥ 0
  · have d1 : decide (k ≥ 0) = true := by simpa using h1
    go_enter Tryd.func96, Tryd.ntmps96
    go_wp2
    go_ret
    exact ⟨ret_bool (by rw [Bool.eq_iff_iff, inB_iff]; simp; omega), (Below.refl _ _).alloc (Nat.le_refl _) _⟩
  · have d1 : decide (k ≥ 0) = false := by simpa using h1
    go_enter Tryd.func96, Tryd.ntmps96
    go_wp2
    go_ret
    exact ⟨ret_bool (by rw [inB_no.2 (by omega)]), (Below.refl _ _).alloc (Nat.le_refl _) _⟩

set_option maxHeartbeats 2000000 in
theorem i_NetworkOk (n : Int) (v : Value) (xss : List (List Int)) (w : World) (h : Rd2 w v xss) (hn : I64 n) : Calls Tryd.prog 48 #[.agg #[.int .i64 n, v]] w (RetB (.bool (netOk n xss)) w) := by
  obtain ⟨a, c, rfl, h2, h3⟩ := h.form
  have hbA : Below w.heap.size w (w.alloc (.cells #[.int .i64 n, .slice a xss.length c] 32)) := (Below.refl _ _).alloc (Nat.le_refl _) _
  have h' := h.alloc (.cells #[.int .i64 n, .slice a xss.length c] 32)
  cases h1 : inB n 1 8
  · have HR : Hid (netOk n xss = false) := by simp [netOk, h1, Hid]
    go_enter Tryd.func48, Tryd.ntmps48
    go_wp2_with (go_at_call 95; refine (i_isWires _ _).mono ?_; rintro e w' ⟨rfl, rfl⟩)
    go_ret
    exact ⟨ret_bool HR.out.symm, hbA⟩
  have hn8 := inB_iff.1 h1
  by_cases hl : xss.length ≤ 60
  · have hd60 : decide ((xss.length : Int) > 60) = false := by simp; omega
    have HR : Hid (netOk n xss = xss.all (netRow n)) := by simp [netOk, h1, hl, Hid]
    have HNO : Hid (∀ xs, xs ∈ xss → netRow n xs = false → netOk n xss = false) := fun xs => netOk_no
    generalize netOk n xss = r at HR HNO ⊢
    go_enter Tryd.func48, Tryd.ntmps48
    go_wp2_with (go_at_call 95; refine (i_isWires _ _).mono ?_; rintro e w' ⟨rfl, rfl⟩)
    obtain ⟨w0, hw0⟩ : ∃ w0, w.alloc (.cells #[.int .i64 n, .slice a xss.length c] 32) = w0 := ⟨_, rfl⟩
    have hz0 : w0.heap.size = w.heap.size + 1 := by rw [← hw0]; simp
    have hc0 : w0.cell? ⟨w.heap.size, 0, none⟩ = some (.int .i64 n) := by rw [← hw0]; exact (box_cells _ _ _ _).1
    have hc1 : w0.cell? ⟨w.heap.size, 1, none⟩ = some (.slice a xss.length c) := by rw [← hw0]; exact (box_cells _ _ _ _).2
    rw [hw0] at h' hbA ⊢
    have HZ0 := Lib.hid hz0
    have HC0 := Lib.hid hc0
    have HC1 := Lib.hid hc1
    clear hz0 hc0 hc1 hw0
    go_loopw [18] (fun i wr => ∃ k : Nat, k ≤ xss.length ∧ i = .int .i64 k ∧ Below w0.heap.size w0 wr ∧ Hid (∀ (j : Nat) y, j < k → xss[j]? = some y → netRow n y = true)) (fun i _ => xss.length - (intOf i).toNat)
    case atStart => exact ⟨0, Nat.zero_le _, rfl, Below.refl _ _, fun j y hj => by omega⟩
    case round =>
      obtain ⟨k, hkl, rfl, hb, HN⟩ := hrel
      by_cases hlt : k < xss.length
      · obtain ⟨ad, b, m, d, xs, rfl, hc, hx, hm, hmd, hd, hr⟩ := (h'.below hb).row hlt
        have hmem := List.mem_of_getElem? hx.out
        by_cases hm2 : m = 2
        · subst hm2
          obtain ⟨x, y, rfl⟩ : ∃ x y, xs = [x, y] := by
            have := hm.out
            match xs, this with
            | [x, y], _ => exact ⟨x, y, rfl⟩
          obtain ⟨z, x', rfl, hcx, hxx⟩ := hr.int (k := 0) (by simp)
          obtain ⟨z', y', hz, hcy, hyy⟩ := hr.int (k := 1) (by simp)
          obtain rfl : z = z' := by injection hz
          clear hz
          have e1 := hxx.out
          have e2 := hyy.out
          simp only [List.getElem?_cons_zero, List.getElem?_cons_succ, Option.some.injEq] at e1 e2
          subst e1 e2
          rw [add_succ] at hcy
          have hcx' : wr.cell? z = some (.int .i64 x) := by simpa [Addr.add] using hcx
          clear hcx
          have HRW : Hid (netRow n [x, y] = (inB x 0 (n - 1) && inB y 0 (n - 1) && !decide (x = y))) := rfl
          by_cases hxy : x = y
          · subst hxy
            have HE : Hid (r = false) := HNO.out _ hmem (by rw [HRW.out]; simp)
            go_wp2
            go_quiet (fail)
            go_wp2
            go_ret
            exact ⟨ret_bool HE.out.symm, hbA.trans ((hb.trans (Dr.below ((Dr.refl _).step _) _)).mono hbA.size)⟩
          · have hxb : (x == y) = false := by rw [beq_eq_false_iff_ne]; exact hxy
            have HX := Lib.hid (fun wq => i_isWire n x (.slice (some ad) xss.length c) wq)
            have HY := Lib.hid (fun wq => i_isWire n y (.slice (some ad) xss.length c) wq)
            have HS : Hid (∀ wx : World, Below wr.heap.size wr wx → wx.cell? ⟨w.heap.size, 0, none⟩ = some (.int .i64 n) ∧ wx.cell? ⟨w.heap.size, 1, none⟩ = some (.slice (some ad) xss.length c) ∧ wx.cell? z = some (.int .i64 x) ∧ wx.cell? ⟨z.block, z.off + (0 + 1), none⟩ = some (.int .i64 y)) := by
              intro wx hbx
              have hs := hb.size
              have hz := HZ0.out
              have g0 : wr.cell? ⟨w.heap.size, 0, none⟩ = some (.int .i64 n) := (hb.cell (show w.heap.size < w0.heap.size by omega)).trans HC0.out
              have g1 : wr.cell? ⟨w.heap.size, 1, none⟩ = some (.slice (some ad) xss.length c) := (hb.cell (show w.heap.size < w0.heap.size by omega)).trans HC1.out
              exact ⟨(hbx.cell (World.block_lt_of_cell? _ _ g0)).trans g0, (hbx.cell (World.block_lt_of_cell? _ _ g1)).trans g1, (hbx.cell (World.block_lt_of_cell? _ _ hcx')).trans hcx', (hbx.cell (World.block_lt_of_cell? _ _ hcy)).trans hcy⟩
            obtain ⟨g0, g1, _, _⟩ := HS.out wr (Below.refl _ _)
            cases hix : inB x 0 (n - 1)
            · rw [hix] at HX
              have HE : Hid (r = false) := HNO.out _ hmem (by rw [HRW.out, hix]; rfl)
              clear hix
              go_wp2
              refine wp_region_noPanic ?_
              refine wp_region_held_drew (S := (fun wx => wx.cell? ⟨w.heap.size, 0, none⟩ = some (.int .i64 n) ∧ wx.cell? ⟨w.heap.size, 1, none⟩ = some (.slice (some ad) xss.length c) ∧ wx.cell? z = some (.int .i64 x) ∧ wx.cell? ⟨z.block, z.off + (0 + 1), none⟩ = some (.int .i64 y))) (by kernel_rfl) (HS.out _ (Below.drew (Below.refl _ _))) (fun hHeld => ?_)
              refine wpAnyH_take (i := 0) (v := ?v0) rfl (by kernel_rfl) (by kernel_rfl) (by kernel_rfl) (fun _ _ _ h => h) (Or.inl ⟨by rfl, ?hy0⟩) (by assumption) ?rest0
              case hy0 => (intro wx hSw; (try dsimp only at hSw); go_simp; try (with_reducible rfl))
              simp only [List.getElem_toArray, List.getElem_cons_zero, List.getElem_cons_succ, Act.put, List.setIfInBounds_toArray, List.set_cons_zero, List.set_cons_succ]
              refine wpAnyH_take (i := 1) (v := ?v1) rfl (by kernel_rfl) (by kernel_rfl) (by kernel_rfl) (fun _ _ _ h => h) (Or.inl ⟨by rfl, ?hy1⟩) (by assumption) ?rest1
              case hy1 => (intro wx hSw; (try dsimp only at hSw); go_simp; try (with_reducible rfl))
              simp only [List.getElem_toArray, List.getElem_cons_zero, List.getElem_cons_succ, Act.put, List.setIfInBounds_toArray, List.set_cons_zero, List.set_cons_succ]
              refine wpAnyH_take (i := 2) (v := ?v2) rfl (by kernel_rfl) (by kernel_rfl) (by kernel_rfl) (fun _ _ _ h => h) (Or.inl ⟨by rfl, ?hy2⟩) (by assumption) ?rest2
              case hy2 => (intro wx hSw; (try dsimp only at hSw); go_simp; try (with_reducible rfl))
              simp only [List.getElem_toArray, List.getElem_cons_zero, List.getElem_cons_succ, Act.put, List.setIfInBounds_toArray, List.set_cons_zero, List.set_cons_succ]
              refine wpAnyH_take (i := 3) (v := ?v3) rfl (by kernel_rfl) (by kernel_rfl) (by kernel_rfl) (fun _ _ _ h => h) (Or.inl ⟨by rfl, ?hy3⟩) (by assumption) ?rest3
              case hy3 => (intro wx hSw; (try dsimp only at hSw); go_simp; try (with_reducible rfl))
              simp only [List.getElem_toArray, List.getElem_cons_zero, List.getElem_cons_succ, Act.put, List.setIfInBounds_toArray, List.set_cons_zero, List.set_cons_succ]
              refine wpAnyH_take (i := 4) (v := ?v4) rfl (by kernel_rfl) (by kernel_rfl) (by kernel_rfl) (fun _ _ _ h => h) (Or.inl ⟨by rfl, ?hy4⟩) (by assumption) ?rest4
              case hy4 => (intro wx hSw; (try dsimp only at hSw); go_simp; try (with_reducible rfl))
              simp only [List.getElem_toArray, List.getElem_cons_zero, List.getElem_cons_succ, Act.put, List.setIfInBounds_toArray, List.set_cons_zero, List.set_cons_succ]
              refine wpAnyH_take (i := 5) (v := ?v5) rfl (by kernel_rfl) (by kernel_rfl) (by kernel_rfl) (fun _ _ _ h => h) (Or.inl ⟨by rfl, ?hy5⟩) (by assumption) ?rest5
              case hy5 => (intro wx hSw; (try dsimp only at hSw); go_simp; try (with_reducible rfl))
              simp only [List.getElem_toArray, List.getElem_cons_zero, List.getElem_cons_succ, Act.put, List.setIfInBounds_toArray, List.set_cons_zero, List.set_cons_succ]
              refine wpAnyH_take (i := 6) (v := ?v6) rfl (by kernel_rfl) (by kernel_rfl) (by kernel_rfl) (fun _ _ _ h => h) (Or.inl ⟨by rfl, ?hy6⟩) (by assumption) ?rest6
              case hy6 => (intro wx hSw; (try dsimp only at hSw); go_simp; try (with_reducible rfl))
              simp only [List.getElem_toArray, List.getElem_cons_zero, List.getElem_cons_succ, Act.put, List.setIfInBounds_toArray, List.set_cons_zero, List.set_cons_succ]
              refine wpAnyH_take (i := 7) (v := ?v7) rfl (by kernel_rfl) (by kernel_rfl) (by kernel_rfl) (fun _ _ _ h => h) (Or.inl ⟨by rfl, ?hy7⟩) (by assumption) ?rest7
              case hy7 => (intro wx hSw; (try dsimp only at hSw); go_simp; try (with_reducible rfl))
              simp only [List.getElem_toArray, List.getElem_cons_zero, List.getElem_cons_succ, Act.put, List.setIfInBounds_toArray, List.set_cons_zero, List.set_cons_succ]
              refine wpAnyH_take (i := 8) (v := ?v8) rfl (by kernel_rfl) (by kernel_rfl) (by kernel_rfl) (fun _ _ _ h => h) (Or.inl ⟨by rfl, ?hy8⟩) (by assumption) ?rest8
              case hy8 => (intro wx hSw; (try dsimp only at hSw); go_simp; try (with_reducible rfl))
              simp only [List.getElem_toArray, List.getElem_cons_zero, List.getElem_cons_succ, Act.put, List.setIfInBounds_toArray, List.set_cons_zero, List.set_cons_succ]
              refine wpAnyH_take (i := 9) (v := ?v9) rfl (by kernel_rfl) (by kernel_rfl) (by kernel_rfl) (fun _ _ _ h => h) (Or.inl ⟨by rfl, ?hy9⟩) (by assumption) ?rest9
              case hy9 => (intro wx hSw; (try dsimp only at hSw); go_simp; try (with_reducible rfl))
              simp only [List.getElem_toArray, List.getElem_cons_zero, List.getElem_cons_succ, Act.put, List.setIfInBounds_toArray, List.set_cons_zero, List.set_cons_succ]
              refine wpAnyH_take (i := 10) (v := ?v10) rfl (by kernel_rfl) (by kernel_rfl) (by kernel_rfl) (fun _ _ _ h => h) (Or.inl ⟨by rfl, ?hy10⟩) (by assumption) ?rest10
              case hy10 => (intro wx hSw; (try dsimp only at hSw); go_simp; try (with_reducible rfl))
              simp only [List.getElem_toArray, List.getElem_cons_zero, List.getElem_cons_succ, Act.put, List.setIfInBounds_toArray, List.set_cons_zero, List.set_cons_succ]
              refine wpAnyH_take (i := 11) (v := ?v11) rfl (by kernel_rfl) (by kernel_rfl) (by kernel_rfl) (fun _ _ _ h => h) (Or.inl ⟨by rfl, ?hy11⟩) (by assumption) ?rest11
              case hy11 => (intro wx hSw; (try dsimp only at hSw); go_simp; try (with_reducible rfl))
              simp only [List.getElem_toArray, List.getElem_cons_zero, List.getElem_cons_succ, Act.put, List.setIfInBounds_toArray, List.set_cons_zero, List.set_cons_succ]
              refine wpAnyH_take (i := 12) (v := ?v12) rfl (by kernel_rfl) (by kernel_rfl) (by kernel_rfl) (fun _ _ _ h => h) (Or.inl ⟨by rfl, ?hy12⟩) (by assumption) ?rest12
              case hy12 => (intro wx hSw; (try dsimp only at hSw); go_simp; try (with_reducible rfl))
              simp only [List.getElem_toArray, List.getElem_cons_zero, List.getElem_cons_succ, Act.put, List.setIfInBounds_toArray, List.set_cons_zero, List.set_cons_succ]
              refine wpAnyH_take (i := 13) (v := ?v13) rfl (by kernel_rfl) (by kernel_rfl) (by kernel_rfl) (fun _ _ _ h => h) (Or.inl ⟨by rfl, ?hy13⟩) (by assumption) ?rest13
              case hy13 => (intro wx hSw; (try dsimp only at hSw); go_simp; try (with_reducible rfl))
              simp only [List.getElem_toArray, List.getElem_cons_zero, List.getElem_cons_succ, Act.put, List.setIfInBounds_toArray, List.set_cons_zero, List.set_cons_succ]
              refine wpAnyH_take (i := 14) (v := ?v14) rfl (by kernel_rfl) (by kernel_rfl) (by kernel_rfl) (fun _ _ _ h => h) (Or.inl ⟨by rfl, ?hy14⟩) (by assumption) ?rest14
              case hy14 => (intro wx hSw; (try dsimp only at hSw); go_simp; try (with_reducible rfl))
              simp only [List.getElem_toArray, List.getElem_cons_zero, List.getElem_cons_succ, Act.put, List.setIfInBounds_toArray, List.set_cons_zero, List.set_cons_succ]
              refine wpAnyH_take (i := 15) (v := ?v15) rfl (by kernel_rfl) (by kernel_rfl) (by kernel_rfl) (fun _ _ _ h => h) (Or.inl ⟨by rfl, ?hy15⟩) (by assumption) ?rest15
              case hy15 => (intro wx hSw; (try dsimp only at hSw); go_simp; try (with_reducible rfl))
              simp only [List.getElem_toArray, List.getElem_cons_zero, List.getElem_cons_succ, Act.put, List.setIfInBounds_toArray, List.set_cons_zero, List.set_cons_succ]
              refine wpAnyH_take (i := 16) (v := ?v16) rfl (by kernel_rfl) (by kernel_rfl) (by kernel_rfl) (fun _ _ _ h => h) (Or.inl ⟨by rfl, ?hy16⟩) (by assumption) ?rest16
              case hy16 => (intro wx hSw; (try dsimp only at hSw); go_simp; try (with_reducible rfl))
              simp only [List.getElem_toArray, List.getElem_cons_zero, List.getElem_cons_succ, Act.put, List.setIfInBounds_toArray, List.set_cons_zero, List.set_cons_succ]
              refine wpAnyH_ready (rs := [17]) (by kernel_rfl) (by simp) ?_
              refine AllReadyH.cons rfl (fun K hK => ?_) AllReadyH.nil
              go_simp
              go_at_call 96
              (with_reducible refine (HX.out _).mono ?_)
              rintro e w5 ⟨rfl, hb5⟩
              have hw5 : Below wr.heap.size wr w5 := (by exact ⟨hb5.os, hb5.tape, hb5.output, hb5.size, hb5.block⟩)
              go_wp2_with fail
              refine hK.out _ _ (HS.out _ hw5) (fun hHeld2 => ?_)
              clear hK K
              (try simp only [List.getElem_toArray, List.getElem_cons_zero, List.getElem_cons_succ, Act.put, List.setIfInBounds_toArray, List.set_cons_zero, List.set_cons_succ])
              refine wpAnyH_take (i := 18) (v := ?v18) rfl (by kernel_rfl) (by kernel_rfl) (by kernel_rfl) (fun _ _ _ h => h) (Or.inl ⟨by rfl, ?hy18⟩) (by assumption) ?rest18
              case hy18 => (intro wx hSw; (try dsimp only at hSw); go_simp; try (with_reducible rfl))
              simp only [List.getElem_toArray, List.getElem_cons_zero, List.getElem_cons_succ, Act.put, List.setIfInBounds_toArray, List.set_cons_zero, List.set_cons_succ]
              refine wpAnyH_take (i := 19) (v := ?v19) rfl (by kernel_rfl) (by kernel_rfl) (by kernel_rfl) (fun _ _ _ h => h) (Or.inl ⟨by rfl, ?hy19⟩) (by assumption) ?rest19
              case hy19 => (intro wx hSw; (try dsimp only at hSw); go_simp; try (with_reducible rfl))
              simp only [List.getElem_toArray, List.getElem_cons_zero, List.getElem_cons_succ, Act.put, List.setIfInBounds_toArray, List.set_cons_zero, List.set_cons_succ]
              refine wpAnyH_take (i := 20) (v := ?v20) rfl (by kernel_rfl) (by kernel_rfl) (by kernel_rfl) (fun _ _ _ h => h) (Or.inl ⟨by rfl, ?hy20⟩) (by assumption) ?rest20
              case hy20 => (intro wx hSw; (try dsimp only at hSw); go_simp; try (with_reducible rfl))
              simp only [List.getElem_toArray, List.getElem_cons_zero, List.getElem_cons_succ, Act.put, List.setIfInBounds_toArray, List.set_cons_zero, List.set_cons_succ]
              refine wpAnyH_take (i := 21) (v := undef) rfl (by kernel_rfl) (by kernel_rfl) (by kernel_rfl) (fun _ _ _ h => h) (Or.inr ⟨by rfl, rfl⟩) (by assumption) ?_
              simp only [List.getElem_toArray, List.getElem_cons_zero, List.getElem_cons_succ, Act.put, List.setIfInBounds_toArray, List.set_cons_zero, List.set_cons_succ]
              refine wpAnyH_take (i := 22) (v := undef) rfl (by kernel_rfl) (by kernel_rfl) (by kernel_rfl) (fun _ _ _ h => h) (Or.inr ⟨by rfl, rfl⟩) (by assumption) ?_
              simp only [List.getElem_toArray, List.getElem_cons_zero, List.getElem_cons_succ, Act.put, List.setIfInBounds_toArray, List.set_cons_zero, List.set_cons_succ]
              refine wpAnyH_take (i := 23) (v := undef) rfl (by kernel_rfl) (by kernel_rfl) (by kernel_rfl) (fun _ _ _ h => h) (Or.inr ⟨by rfl, rfl⟩) (by assumption) ?_
              simp only [List.getElem_toArray, List.getElem_cons_zero, List.getElem_cons_succ, Act.put, List.setIfInBounds_toArray, List.set_cons_zero, List.set_cons_succ]
              refine wpAnyH_take (i := 24) (v := undef) rfl (by kernel_rfl) (by kernel_rfl) (by kernel_rfl) (fun _ _ _ h => h) (Or.inr ⟨by rfl, rfl⟩) (by assumption) ?_
              simp only [List.getElem_toArray, List.getElem_cons_zero, List.getElem_cons_succ, Act.put, List.setIfInBounds_toArray, List.set_cons_zero, List.set_cons_succ]
              refine wpAnyH_take (i := 25) (v := undef) rfl (by kernel_rfl) (by kernel_rfl) (by kernel_rfl) (fun _ _ _ h => h) (Or.inr ⟨by rfl, rfl⟩) (by assumption) ?_
              simp only [List.getElem_toArray, List.getElem_cons_zero, List.getElem_cons_succ, Act.put, List.setIfInBounds_toArray, List.set_cons_zero, List.set_cons_succ]
              refine wpAnyH_take (i := 26) (v := undef) rfl (by kernel_rfl) (by kernel_rfl) (by kernel_rfl) (fun _ _ _ h => h) (Or.inr ⟨by rfl, rfl⟩) (by assumption) ?_
              simp only [List.getElem_toArray, List.getElem_cons_zero, List.getElem_cons_succ, Act.put, List.setIfInBounds_toArray, List.set_cons_zero, List.set_cons_succ]
              refine wpAnyH_take (i := 27) (v := ?v27) rfl (by kernel_rfl) (by kernel_rfl) (by kernel_rfl) (fun _ _ _ h => h) (Or.inl ⟨by rfl, ?hy27⟩) (by assumption) ?rest27
              case hy27 => (intro wx hSw; (try dsimp only at hSw); go_simp; try (with_reducible rfl))
              simp only [List.getElem_toArray, List.getElem_cons_zero, List.getElem_cons_succ, Act.put, List.setIfInBounds_toArray, List.set_cons_zero, List.set_cons_succ]
              refine wpAnyH_done (by kernel_rfl) ?_ _
              refine NoPanic.normal ?_
              go_wp2
              go_ret
              exact ⟨ret_bool HE.out.symm, hbA.trans ((hb.trans (hw5.mono hb.size)).mono hbA.size)⟩
            · rw [hix] at HX
              cases hiy : inB y 0 (n - 1)
              · rw [hiy] at HY
                have HE : Hid (r = false) := HNO.out _ hmem (by rw [HRW.out, hix, hiy]; rfl)
                clear hix hiy
                go_wp2
                go_region_held3 (fun wx => wx.cell? ⟨w.heap.size, 0, none⟩ = some (.int .i64 n) ∧ wx.cell? ⟨w.heap.size, 1, none⟩ = some (.slice (some ad) xss.length c) ∧ wx.cell? z = some (.int .i64 x) ∧ wx.cell? ⟨z.block, z.off + (0 + 1), none⟩ = some (.int .i64 y))
                  (first | exact HS.out _ hw6 | exact HS.out _ hw5 | go_keep)
                  (first
                    | (go_at_call 96; (with_reducible refine (HX.out _).mono ?_); rintro e w5 ⟨rfl, hb5⟩; have hw5 : Below wr.heap.size wr w5 := (by exact ⟨hb5.os, hb5.tape, hb5.output, hb5.size, hb5.block⟩))
                    | (go_at_call 96; (with_reducible refine (HY.out _).mono ?_); rintro e w6 ⟨rfl, hb6⟩; have hw6 : Below wr.heap.size wr w6 := hw5.trans (Below.mono (by exact ⟨hb6.os, hb6.tape, hb6.output, hb6.size, hb6.block⟩) hw5.size)))
                go_wp2
                go_ret
                exact ⟨ret_bool HE.out.symm, hbA.trans ((hb.trans (hw6.mono hb.size)).mono hbA.size)⟩
              · rw [hiy] at HY
                have HE : Hid (netRow n [x, y] = true) := by show _ = _; rw [HRW.out, hix, hiy]; simp [hxy]
                clear hix hiy
                go_wp2
                go_region_held3 (fun wx => wx.cell? ⟨w.heap.size, 0, none⟩ = some (.int .i64 n) ∧ wx.cell? ⟨w.heap.size, 1, none⟩ = some (.slice (some ad) xss.length c) ∧ wx.cell? z = some (.int .i64 x) ∧ wx.cell? ⟨z.block, z.off + (0 + 1), none⟩ = some (.int .i64 y))
                  (first | exact HS.out _ hw6 | exact HS.out _ hw5 | go_keep)
                  (first
                    | (go_at_call 96; (with_reducible refine (HX.out _).mono ?_); rintro e w5 ⟨rfl, hb5⟩; have hw5 : Below wr.heap.size wr w5 := (by exact ⟨hb5.os, hb5.tape, hb5.output, hb5.size, hb5.block⟩))
                    | (go_at_call 96; (with_reducible refine (HY.out _).mono ?_); rintro e w6 ⟨rfl, hb6⟩; have hw6 : Below wr.heap.size wr w6 := hw5.trans (Below.mono (by exact ⟨hb6.os, hb6.tape, hb6.output, hb6.size, hb6.block⟩) hw5.size)))
                go_wp2
                go_roundw
                case rel => exact ⟨k + 1, by omega, by go_num, hb.trans (hw6.mono hb.size), fun j y' hj hy' => by
                  by_cases e : j = k
                  · subst e
                    rw [hx.out] at hy'
                    cases hy'
                    exact HE.out
                  · exact HN.out j y' (by omega) hy'⟩
                case measure => simp [intOf]; omega
        · have hd2 : ((m : Int) == 2) = false := by rw [beq_eq_false_iff_ne]; omega
          have hd3 : ((m : Int) != 2) = true := by rw [bne_iff_ne]; omega
          have HE : Hid (r = false) := HNO.out _ hmem (by
            have := hm.out
            match xs, this with
            | [], _ => rfl
            | [x], _ => rfl
            | [x, y], h => exact absurd h (by simpa using hm2)
            | x :: y :: z :: t, _ => rfl)
          go_wp2
          go_quiet (fail)
          go_wp2
          go_ret
          exact ⟨ret_bool HE.out.symm, hbA.trans ((hb.trans (Dr.below ((Dr.refl _).step _) _)).mono hbA.size)⟩
      · obtain rfl : xss.length = k := by omega
        go_wp2
        go_ret
        refine ⟨ret_bool ?_, hbA.trans (hb.mono hbA.size)⟩
        rw [HR.out]
        symm
        rw [List.all_eq_true]
        intro x hx
        obtain ⟨j, hj, rfl⟩ := List.getElem_of_mem hx
        exact HN.out j _ hj (List.getElem?_eq_getElem hj)
  · have hd60 : decide ((xss.length : Int) > 60) = true := by simp; omega
    have HR : Hid (netOk n xss = false) := by simp [netOk, hl, Hid]
    go_enter Tryd.func48, Tryd.ntmps48
    go_wp2_with (go_at_call 95; refine (i_isWires _ _).mono ?_; rintro e w' ⟨rfl, rfl⟩)
    go_ret
    exact ⟨ret_bool HR.out.symm, hbA⟩


end Go.Proofs.YtlmbaijkeahkfaaDoor
