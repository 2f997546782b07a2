/- Joined texts of the proof: Nets2, Levels, Depth, Levels2, Depth2, CountReg, Bits2, Bits3, Bits4, Bits5, ShelfS, PlainRes, OwnSort, PlainStack, StackA, OwnsL, Res. -/
import Derived.Test.YtggblfnajeikjaaGreatDoorRows
import Derived.WalkKit
import Derived.WalkSpells
import Derived.WalkLawsBesides
import Derived.Deep.Draws
import Derived.Lib.Hide
import Derived.RegionTactic
import Derived.BigQuiet
import Derived.Deep.QuietTactic
import Derived.Lib.SliceRun
import Derived.Deep.RegionLaw
import Derived.Deep.DeepCutAuto
import Derived.Deep.LoopGhost
import Derived.Deep.RegionWith
import Derived.Lib.ItoaNum
import Derived.Deep.RegionHeld3
import Derived.IntWalk
import Derived.Lib.Join
import Derived.Shelf.Strings.Builder1
import Derived.Shelf.Strings.Builder2
import Derived.Shelf.Strings.OnBuilder
import Derived.Shelf.Strconv.Atoi
import Derived.Shelf.Strconv.Itoa0
import Derived.Shelf.Strconv.Itoa1
import Derived.Shelf.LaysM
import Derived.Shelf.Strconv.Itoa2
import Derived.Shelf.Strconv.Itoa3
import Derived.Shelf.Strconv.AtoiErrFast
import Derived.Shelf.Strconv.ParseIntEmpty
import Derived.Shelf.Strconv.AtoiFail
import Derived.Shelf.Strconv.Clone
import Derived.Shelf.Strconv.SyntaxError
import Derived.Shelf.LaysC
import Derived.Shelf.Strconv.ToError
import Derived.Shelf.Strconv.Lower
import Derived.Shelf.Strconv.ParseUint10
import Derived.Shelf.Strconv.ParseUint10Empty
import Derived.Shelf.Strconv.ParseUint10Any
import Derived.Shelf.Strconv.ParseInt10
import Derived.Shelf.Strconv.AtoiLong
import Derived.Shelf.Strconv.AtoiInnerAll
import Derived.Shelf.Strconv.RangeError
import Derived.Shelf.Strconv.ToErrorRange
import Derived.Shelf.Strconv.AtoiAll
import Derived.Shelf.Strconv.ErrVarAll
import Derived.Shelf.Strings.Search1
import Derived.Shelf.Strings.Search2
import Derived.Shelf.Strings.Search3
import Derived.Shelf.Strings.Cut
import Derived.Shelf.Strings.Count
import Derived.Shelf.Strings.Shaped
import Derived.Shelf.Sort.Plain
import Derived.Shelf.Strings.Prefix
import Derived.Shelf.Strings.Split
import Derived.Shelf.Unicode.DecodeSlow
import Derived.Shelf.Slices.Reverse
import Derived.Ground.Names2Prog
import Derived.Shelf.Slices.CompactI
import Derived.Test.YtggblfnajeikjaaGreatDoorProg
import Derived.Lib.SmallJoins
import Derived.Lib.AppendZeros
import Derived.Deep.AppendLies
import Derived.Lib.SplitLaws
import Derived.Lib.Split
import Derived.Lib.IndexBytes
import Derived.Lib.AtoiAllCases
import Derived.Lib.AtoiErrMem
import Derived.Laws.BitsAllLaws
import Derived.Laws.BitsLemmas
import Derived.Lib.RowBridge
import Derived.Sort.OwnSortedInts
import Derived.Lib.LazyBuf
import Derived.Maps.OwnOps
import Derived.Maps.OwnSet
import Derived.Maps.Views
import Derived.Carry
import Derived.Laws.Bits64b
import Derived.BigRegion
import Derived.Test.YtggblfnajeikjaaGreatDoorJ3
namespace Go.Proofs.YtggblfnajeikjaaGreatDoor
open Go.RowKit
set_option linter.unusedVariables false
set_option linter.unusedSimpArgs false

theorem box_cells (w : World) (x y : Value) (T : Nat) : (w.alloc (.cells #[x, y] T)).cell? ⟨w.heap.size, 0, none⟩ = some x ∧ (w.alloc (.cells #[x, y] T)).cell? ⟨w.heap.size, 1, none⟩ = some y := ⟨by go_simp, by go_simp⟩
theorem i_isWires (n : Int) (w : World) : Calls Tryz.prog 100 #[.int .i64 n] w fun e w' => e = .returned (.bool (inB n 1 8)) ∧ w = w' := by
  by_cases h1 : n ≥ 1
  · have d1 : decide (n ≥ 1) = true := by simpa using h1
    go_enter Tryz.func100, Tryz.ntmps100
    go_wp2
    go_ret
    exact ⟨ret_bool (by rw [Bool.eq_iff_iff, inB_iff]; simp; omega), rfl⟩
  · have d1 : decide (n ≥ 1) = false := by simpa using h1
    go_enter Tryz.func100, Tryz.ntmps100
    go_wp2
    go_ret
    exact ⟨ret_bool (by rw [inB_no.2 (by omega)]), rfl⟩

theorem i_isWire (n k : Int) (v : Value) (w : World) : Calls Tryz.prog 101 #[.agg #[.int .i64 n, v], .int .i64 k] w (RetB (.bool (inB k 0 (n - 1))) w) := by
  by_cases h1 : k ≥ 0
  · have d1 : decide (k ≥ 0) = true := by simpa using h1
    go_enter Tryz.func101, Tryz.ntmps101
    go_wp2
    go_ret
    exact ⟨ret_bool (by rw [Bool.eq_iff_iff, inB_iff]; simp; omega), (Below.refl _ _).alloc (Nat.le_refl _) _⟩
  · have d1 : decide (k ≥ 0) = false := by simpa using h1
    go_enter Tryz.func101, Tryz.ntmps101
    go_wp2
    go_ret
    exact ⟨ret_bool (by rw [inB_no.2 (by omega)]), (Below.refl _ _).alloc (Nat.le_refl _) _⟩

set_option maxHeartbeats 2000000 in
theorem i_NetworkOk (n : Int) (v : Value) (xss : List (List Int)) (w : World) (h : Rd2 w v xss) (hn : I64 n) : Calls Tryz.prog 40 #[.agg #[.int .i64 n, v]] w (RetB (.bool (netOk n xss)) w) := by
  obtain ⟨a, c, rfl, h2, h3⟩ := h.form
  have hbA : Below w.heap.size w (w.alloc (.cells #[.int .i64 n, .slice a xss.length c] 30)) := (Below.refl _ _).alloc (Nat.le_refl _) _
  have h' := h.alloc (.cells #[.int .i64 n, .slice a xss.length c] 30)
  cases h1 : inB n 1 8
  · have HR : Hid (netOk n xss = false) := by simp [netOk, h1, Hid]
    go_enter Tryz.func40, Tryz.ntmps40
    go_wp2_with (go_at_call 100; refine (i_isWires _ _).mono ?_; rintro e w' ⟨rfl, rfl⟩)
    go_ret
    exact ⟨ret_bool HR.out.symm, hbA⟩
  have hn8 := inB_iff.1 h1
  by_cases hl : xss.length ≤ 60
  · have hd60 : decide ((xss.length : Int) > 60) = false := by simp; omega
    have HR : Hid (netOk n xss = xss.all (netRow n)) := by simp [netOk, h1, hl, Hid]
    have HNO : Hid (∀ xs, xs ∈ xss → netRow n xs = false → netOk n xss = false) := fun xs => netOk_no
    generalize netOk n xss = r at HR HNO ⊢
    go_enter Tryz.func40, Tryz.ntmps40
    go_wp2_with (go_at_call 100; refine (i_isWires _ _).mono ?_; rintro e w' ⟨rfl, rfl⟩)
    obtain ⟨w0, hw0⟩ : ∃ w0, w.alloc (.cells #[.int .i64 n, .slice a xss.length c] 30) = w0 := ⟨_, rfl⟩
    have hz0 : w0.heap.size = w.heap.size + 1 := by rw [← hw0]; simp
    have hc0 : w0.cell? ⟨w.heap.size, 0, none⟩ = some (.int .i64 n) := by rw [← hw0]; exact (box_cells _ _ _ _).1
    have hc1 : w0.cell? ⟨w.heap.size, 1, none⟩ = some (.slice a xss.length c) := by rw [← hw0]; exact (box_cells _ _ _ _).2
    rw [hw0] at h' hbA ⊢
    have HZ0 := Lib.hid hz0
    have HC0 := Lib.hid hc0
    have HC1 := Lib.hid hc1
    clear hz0 hc0 hc1 hw0
    go_loopw [18] (fun i wr => ∃ k : Nat, k ≤ xss.length ∧ i = .int .i64 k ∧ Below w0.heap.size w0 wr ∧ Hid (∀ (j : Nat) y, j < k → xss[j]? = some y → netRow n y = true)) (fun i _ => xss.length - (intOf i).toNat)
    case atStart => exact ⟨0, Nat.zero_le _, rfl, Below.refl _ _, fun j y hj => by omega⟩
    case round =>
      obtain ⟨k, hkl, rfl, hb, HN⟩ := hrel
      by_cases hlt : k < xss.length
      · obtain ⟨ad, b, m, d, xs, rfl, hc, hx, hm, hmd, hd, hr⟩ := (h'.below hb).row hlt
        have hmem := List.mem_of_getElem? hx.out
        by_cases hm2 : m = 2
        · subst hm2
          obtain ⟨x, y, rfl⟩ : ∃ x y, xs = [x, y] := by
            have := hm.out
            match xs, this with
            | [x, y], _ => exact ⟨x, y, rfl⟩
          obtain ⟨z, x', rfl, hcx, hxx⟩ := hr.int (k := 0) (by simp)
          obtain ⟨z', y', hz, hcy, hyy⟩ := hr.int (k := 1) (by simp)
          obtain rfl : z = z' := by injection hz
          clear hz
          have e1 := hxx.out
          have e2 := hyy.out
          simp only [List.getElem?_cons_zero, List.getElem?_cons_succ, Option.some.injEq] at e1 e2
          subst e1 e2
          rw [add_succ] at hcy
          have hcx' : wr.cell? z = some (.int .i64 x) := by simpa [Addr.add] using hcx
          clear hcx
          have HRW : Hid (netRow n [x, y] = (inB x 0 (n - 1) && inB y 0 (n - 1) && !decide (x = y))) := rfl
          by_cases hxy : x = y
          · subst hxy
            have HE : Hid (r = false) := HNO.out _ hmem (by rw [HRW.out]; simp)
            go_wp2
            go_quiet (fail)
            go_wp2
            go_ret
            exact ⟨ret_bool HE.out.symm, hbA.trans ((hb.trans (Dr.below ((Dr.refl _).step _) _)).mono hbA.size)⟩
          · have hxb : (x == y) = false := by rw [beq_eq_false_iff_ne]; exact hxy
            have HX := Lib.hid (fun wq => i_isWire n x (.slice (some ad) xss.length c) wq)
            have HY := Lib.hid (fun wq => i_isWire n y (.slice (some ad) xss.length c) wq)
            have HS : Hid (∀ wx : World, Below wr.heap.size wr wx → wx.cell? ⟨w.heap.size, 0, none⟩ = some (.int .i64 n) ∧ wx.cell? ⟨w.heap.size, 1, none⟩ = some (.slice (some ad) xss.length c) ∧ wx.cell? z = some (.int .i64 x) ∧ wx.cell? ⟨z.block, z.off + (0 + 1), none⟩ = some (.int .i64 y)) := by
              intro wx hbx
              have hs := hb.size
              have hz := HZ0.out
              have g0 : wr.cell? ⟨w.heap.size, 0, none⟩ = some (.int .i64 n) := (hb.cell (show w.heap.size < w0.heap.size by omega)).trans HC0.out
              have g1 : wr.cell? ⟨w.heap.size, 1, none⟩ = some (.slice (some ad) xss.length c) := (hb.cell (show w.heap.size < w0.heap.size by omega)).trans HC1.out
              exact ⟨(hbx.cell (World.block_lt_of_cell? _ _ g0)).trans g0, (hbx.cell (World.block_lt_of_cell? _ _ g1)).trans g1, (hbx.cell (World.block_lt_of_cell? _ _ hcx')).trans hcx', (hbx.cell (World.block_lt_of_cell? _ _ hcy)).trans hcy⟩
            obtain ⟨g0, g1, _, _⟩ := HS.out wr (Below.refl _ _)
            cases hix : inB x 0 (n - 1)
            · rw [hix] at HX
              have HE : Hid (r = false) := HNO.out _ hmem (by rw [HRW.out, hix]; rfl)
              clear hix
              go_wp2
              refine wp_region_noPanic ?_
              refine wp_region_held_drew (S := (fun wx => wx.cell? ⟨w.heap.size, 0, none⟩ = some (.int .i64 n) ∧ wx.cell? ⟨w.heap.size, 1, none⟩ = some (.slice (some ad) xss.length c) ∧ wx.cell? z = some (.int .i64 x) ∧ wx.cell? ⟨z.block, z.off + (0 + 1), none⟩ = some (.int .i64 y))) (by kernel_rfl) (HS.out _ (Below.drew (Below.refl _ _))) (fun hHeld => ?_)
              refine wpAnyH_take (i := 0) (v := ?v0) rfl (by kernel_rfl) (by kernel_rfl) (by kernel_rfl) (fun _ _ _ h => h) (Or.inl ⟨by rfl, ?hy0⟩) (by assumption) ?rest0
              case hy0 => (intro wx hSw; (try dsimp only at hSw); go_simp; try (with_reducible rfl))
              simp only [List.getElem_toArray, List.getElem_cons_zero, List.getElem_cons_succ, Act.put, List.setIfInBounds_toArray, List.set_cons_zero, List.set_cons_succ]
              refine wpAnyH_take (i := 1) (v := ?v1) rfl (by kernel_rfl) (by kernel_rfl) (by kernel_rfl) (fun _ _ _ h => h) (Or.inl ⟨by rfl, ?hy1⟩) (by assumption) ?rest1
              case hy1 => (intro wx hSw; (try dsimp only at hSw); go_simp; try (with_reducible rfl))
              simp only [List.getElem_toArray, List.getElem_cons_zero, List.getElem_cons_succ, Act.put, List.setIfInBounds_toArray, List.set_cons_zero, List.set_cons_succ]
              refine wpAnyH_take (i := 2) (v := ?v2) rfl (by kernel_rfl) (by kernel_rfl) (by kernel_rfl) (fun _ _ _ h => h) (Or.inl ⟨by rfl, ?hy2⟩) (by assumption) ?rest2
              case hy2 => (intro wx hSw; (try dsimp only at hSw); go_simp; try (with_reducible rfl))
              simp only [List.getElem_toArray, List.getElem_cons_zero, List.getElem_cons_succ, Act.put, List.setIfInBounds_toArray, List.set_cons_zero, List.set_cons_succ]
              refine wpAnyH_take (i := 3) (v := ?v3) rfl (by kernel_rfl) (by kernel_rfl) (by kernel_rfl) (fun _ _ _ h => h) (Or.inl ⟨by rfl, ?hy3⟩) (by assumption) ?rest3
              case hy3 => (intro wx hSw; (try dsimp only at hSw); go_simp; try (with_reducible rfl))
              simp only [List.getElem_toArray, List.getElem_cons_zero, List.getElem_cons_succ, Act.put, List.setIfInBounds_toArray, List.set_cons_zero, List.set_cons_succ]
              refine wpAnyH_take (i := 4) (v := ?v4) rfl (by kernel_rfl) (by kernel_rfl) (by kernel_rfl) (fun _ _ _ h => h) (Or.inl ⟨by rfl, ?hy4⟩) (by assumption) ?rest4
              case hy4 => (intro wx hSw; (try dsimp only at hSw); go_simp; try (with_reducible rfl))
              simp only [List.getElem_toArray, List.getElem_cons_zero, List.getElem_cons_succ, Act.put, List.setIfInBounds_toArray, List.set_cons_zero, List.set_cons_succ]
              refine wpAnyH_take (i := 5) (v := ?v5) rfl (by kernel_rfl) (by kernel_rfl) (by kernel_rfl) (fun _ _ _ h => h) (Or.inl ⟨by rfl, ?hy5⟩) (by assumption) ?rest5
              case hy5 => (intro wx hSw; (try dsimp only at hSw); go_simp; try (with_reducible rfl))
              simp only [List.getElem_toArray, List.getElem_cons_zero, List.getElem_cons_succ, Act.put, List.setIfInBounds_toArray, List.set_cons_zero, List.set_cons_succ]
              refine wpAnyH_take (i := 6) (v := ?v6) rfl (by kernel_rfl) (by kernel_rfl) (by kernel_rfl) (fun _ _ _ h => h) (Or.inl ⟨by rfl, ?hy6⟩) (by assumption) ?rest6
              case hy6 => (intro wx hSw; (try dsimp only at hSw); go_simp; try (with_reducible rfl))
              simp only [List.getElem_toArray, List.getElem_cons_zero, List.getElem_cons_succ, Act.put, List.setIfInBounds_toArray, List.set_cons_zero, List.set_cons_succ]
              refine wpAnyH_take (i := 7) (v := ?v7) rfl (by kernel_rfl) (by kernel_rfl) (by kernel_rfl) (fun _ _ _ h => h) (Or.inl ⟨by rfl, ?hy7⟩) (by assumption) ?rest7
              case hy7 => (intro wx hSw; (try dsimp only at hSw); go_simp; try (with_reducible rfl))
              simp only [List.getElem_toArray, List.getElem_cons_zero, List.getElem_cons_succ, Act.put, List.setIfInBounds_toArray, List.set_cons_zero, List.set_cons_succ]
              refine wpAnyH_take (i := 8) (v := ?v8) rfl (by kernel_rfl) (by kernel_rfl) (by kernel_rfl) (fun _ _ _ h => h) (Or.inl ⟨by rfl, ?hy8⟩) (by assumption) ?rest8
              case hy8 => (intro wx hSw; (try dsimp only at hSw); go_simp; try (with_reducible rfl))
              simp only [List.getElem_toArray, List.getElem_cons_zero, List.getElem_cons_succ, Act.put, List.setIfInBounds_toArray, List.set_cons_zero, List.set_cons_succ]
              refine wpAnyH_take (i := 9) (v := ?v9) rfl (by kernel_rfl) (by kernel_rfl) (by kernel_rfl) (fun _ _ _ h => h) (Or.inl ⟨by rfl, ?hy9⟩) (by assumption) ?rest9
              case hy9 => (intro wx hSw; (try dsimp only at hSw); go_simp; try (with_reducible rfl))
              simp only [List.getElem_toArray, List.getElem_cons_zero, List.getElem_cons_succ, Act.put, List.setIfInBounds_toArray, List.set_cons_zero, List.set_cons_succ]
              refine wpAnyH_take (i := 10) (v := ?v10) rfl (by kernel_rfl) (by kernel_rfl) (by kernel_rfl) (fun _ _ _ h => h) (Or.inl ⟨by rfl, ?hy10⟩) (by assumption) ?rest10
              case hy10 => (intro wx hSw; (try dsimp only at hSw); go_simp; try (with_reducible rfl))
              simp only [List.getElem_toArray, List.getElem_cons_zero, List.getElem_cons_succ, Act.put, List.setIfInBounds_toArray, List.set_cons_zero, List.set_cons_succ]
              refine wpAnyH_take (i := 11) (v := ?v11) rfl (by kernel_rfl) (by kernel_rfl) (by kernel_rfl) (fun _ _ _ h => h) (Or.inl ⟨by rfl, ?hy11⟩) (by assumption) ?rest11
              case hy11 => (intro wx hSw; (try dsimp only at hSw); go_simp; try (with_reducible rfl))
              simp only [List.getElem_toArray, List.getElem_cons_zero, List.getElem_cons_succ, Act.put, List.setIfInBounds_toArray, List.set_cons_zero, List.set_cons_succ]
              refine wpAnyH_take (i := 12) (v := ?v12) rfl (by kernel_rfl) (by kernel_rfl) (by kernel_rfl) (fun _ _ _ h => h) (Or.inl ⟨by rfl, ?hy12⟩) (by assumption) ?rest12
              case hy12 => (intro wx hSw; (try dsimp only at hSw); go_simp; try (with_reducible rfl))
              simp only [List.getElem_toArray, List.getElem_cons_zero, List.getElem_cons_succ, Act.put, List.setIfInBounds_toArray, List.set_cons_zero, List.set_cons_succ]
              refine wpAnyH_take (i := 13) (v := ?v13) rfl (by kernel_rfl) (by kernel_rfl) (by kernel_rfl) (fun _ _ _ h => h) (Or.inl ⟨by rfl, ?hy13⟩) (by assumption) ?rest13
              case hy13 => (intro wx hSw; (try dsimp only at hSw); go_simp; try (with_reducible rfl))
              simp only [List.getElem_toArray, List.getElem_cons_zero, List.getElem_cons_succ, Act.put, List.setIfInBounds_toArray, List.set_cons_zero, List.set_cons_succ]
              refine wpAnyH_take (i := 14) (v := ?v14) rfl (by kernel_rfl) (by kernel_rfl) (by kernel_rfl) (fun _ _ _ h => h) (Or.inl ⟨by rfl, ?hy14⟩) (by assumption) ?rest14
              case hy14 => (intro wx hSw; (try dsimp only at hSw); go_simp; try (with_reducible rfl))
              simp only [List.getElem_toArray, List.getElem_cons_zero, List.getElem_cons_succ, Act.put, List.setIfInBounds_toArray, List.set_cons_zero, List.set_cons_succ]
              refine wpAnyH_take (i := 15) (v := ?v15) rfl (by kernel_rfl) (by kernel_rfl) (by kernel_rfl) (fun _ _ _ h => h) (Or.inl ⟨by rfl, ?hy15⟩) (by assumption) ?rest15
              case hy15 => (intro wx hSw; (try dsimp only at hSw); go_simp; try (with_reducible rfl))
              simp only [List.getElem_toArray, List.getElem_cons_zero, List.getElem_cons_succ, Act.put, List.setIfInBounds_toArray, List.set_cons_zero, List.set_cons_succ]
              refine wpAnyH_take (i := 16) (v := ?v16) rfl (by kernel_rfl) (by kernel_rfl) (by kernel_rfl) (fun _ _ _ h => h) (Or.inl ⟨by rfl, ?hy16⟩) (by assumption) ?rest16
              case hy16 => (intro wx hSw; (try dsimp only at hSw); go_simp; try (with_reducible rfl))
              simp only [List.getElem_toArray, List.getElem_cons_zero, List.getElem_cons_succ, Act.put, List.setIfInBounds_toArray, List.set_cons_zero, List.set_cons_succ]
              refine wpAnyH_ready (rs := [17]) (by kernel_rfl) (by simp) ?_
              refine AllReadyH.cons rfl (fun K hK => ?_) AllReadyH.nil
              go_simp
              go_at_call 101
              (with_reducible refine (HX.out _).mono ?_)
              rintro e w5 ⟨rfl, hb5⟩
              have hw5 : Below wr.heap.size wr w5 := (by exact ⟨hb5.os, hb5.tape, hb5.output, hb5.size, hb5.block⟩)
              go_wp2_with fail
              refine hK.out _ _ (HS.out _ hw5) (fun hHeld2 => ?_)
              clear hK K
              (try simp only [List.getElem_toArray, List.getElem_cons_zero, List.getElem_cons_succ, Act.put, List.setIfInBounds_toArray, List.set_cons_zero, List.set_cons_succ])
              refine wpAnyH_take (i := 18) (v := ?v18) rfl (by kernel_rfl) (by kernel_rfl) (by kernel_rfl) (fun _ _ _ h => h) (Or.inl ⟨by rfl, ?hy18⟩) (by assumption) ?rest18
              case hy18 => (intro wx hSw; (try dsimp only at hSw); go_simp; try (with_reducible rfl))
              simp only [List.getElem_toArray, List.getElem_cons_zero, List.getElem_cons_succ, Act.put, List.setIfInBounds_toArray, List.set_cons_zero, List.set_cons_succ]
              refine wpAnyH_take (i := 19) (v := ?v19) rfl (by kernel_rfl) (by kernel_rfl) (by kernel_rfl) (fun _ _ _ h => h) (Or.inl ⟨by rfl, ?hy19⟩) (by assumption) ?rest19
              case hy19 => (intro wx hSw; (try dsimp only at hSw); go_simp; try (with_reducible rfl))
              simp only [List.getElem_toArray, List.getElem_cons_zero, List.getElem_cons_succ, Act.put, List.setIfInBounds_toArray, List.set_cons_zero, List.set_cons_succ]
              refine wpAnyH_take (i := 20) (v := ?v20) rfl (by kernel_rfl) (by kernel_rfl) (by kernel_rfl) (fun _ _ _ h => h) (Or.inl ⟨by rfl, ?hy20⟩) (by assumption) ?rest20
              case hy20 => (intro wx hSw; (try dsimp only at hSw); go_simp; try (with_reducible rfl))
              simp only [List.getElem_toArray, List.getElem_cons_zero, List.getElem_cons_succ, Act.put, List.setIfInBounds_toArray, List.set_cons_zero, List.set_cons_succ]
              refine wpAnyH_take (i := 21) (v := undef) rfl (by kernel_rfl) (by kernel_rfl) (by kernel_rfl) (fun _ _ _ h => h) (Or.inr ⟨by rfl, rfl⟩) (by assumption) ?_
              simp only [List.getElem_toArray, List.getElem_cons_zero, List.getElem_cons_succ, Act.put, List.setIfInBounds_toArray, List.set_cons_zero, List.set_cons_succ]
              refine wpAnyH_take (i := 22) (v := undef) rfl (by kernel_rfl) (by kernel_rfl) (by kernel_rfl) (fun _ _ _ h => h) (Or.inr ⟨by rfl, rfl⟩) (by assumption) ?_
              simp only [List.getElem_toArray, List.getElem_cons_zero, List.getElem_cons_succ, Act.put, List.setIfInBounds_toArray, List.set_cons_zero, List.set_cons_succ]
              refine wpAnyH_take (i := 23) (v := undef) rfl (by kernel_rfl) (by kernel_rfl) (by kernel_rfl) (fun _ _ _ h => h) (Or.inr ⟨by rfl, rfl⟩) (by assumption) ?_
              simp only [List.getElem_toArray, List.getElem_cons_zero, List.getElem_cons_succ, Act.put, List.setIfInBounds_toArray, List.set_cons_zero, List.set_cons_succ]
              refine wpAnyH_take (i := 24) (v := undef) rfl (by kernel_rfl) (by kernel_rfl) (by kernel_rfl) (fun _ _ _ h => h) (Or.inr ⟨by rfl, rfl⟩) (by assumption) ?_
              simp only [List.getElem_toArray, List.getElem_cons_zero, List.getElem_cons_succ, Act.put, List.setIfInBounds_toArray, List.set_cons_zero, List.set_cons_succ]
              refine wpAnyH_take (i := 25) (v := undef) rfl (by kernel_rfl) (by kernel_rfl) (by kernel_rfl) (fun _ _ _ h => h) (Or.inr ⟨by rfl, rfl⟩) (by assumption) ?_
              simp only [List.getElem_toArray, List.getElem_cons_zero, List.getElem_cons_succ, Act.put, List.setIfInBounds_toArray, List.set_cons_zero, List.set_cons_succ]
              refine wpAnyH_take (i := 26) (v := undef) rfl (by kernel_rfl) (by kernel_rfl) (by kernel_rfl) (fun _ _ _ h => h) (Or.inr ⟨by rfl, rfl⟩) (by assumption) ?_
              simp only [List.getElem_toArray, List.getElem_cons_zero, List.getElem_cons_succ, Act.put, List.setIfInBounds_toArray, List.set_cons_zero, List.set_cons_succ]
              refine wpAnyH_take (i := 27) (v := ?v27) rfl (by kernel_rfl) (by kernel_rfl) (by kernel_rfl) (fun _ _ _ h => h) (Or.inl ⟨by rfl, ?hy27⟩) (by assumption) ?rest27
              case hy27 => (intro wx hSw; (try dsimp only at hSw); go_simp; try (with_reducible rfl))
              simp only [List.getElem_toArray, List.getElem_cons_zero, List.getElem_cons_succ, Act.put, List.setIfInBounds_toArray, List.set_cons_zero, List.set_cons_succ]
              refine wpAnyH_done (by kernel_rfl) ?_ _
              refine NoPanic.normal ?_
              go_wp2
              go_ret
              exact ⟨ret_bool HE.out.symm, hbA.trans ((hb.trans (hw5.mono hb.size)).mono hbA.size)⟩
            · rw [hix] at HX
              cases hiy : inB y 0 (n - 1)
              · rw [hiy] at HY
                have HE : Hid (r = false) := HNO.out _ hmem (by rw [HRW.out, hix, hiy]; rfl)
                clear hix hiy
                go_wp2
                go_region_held3 (fun wx => wx.cell? ⟨w.heap.size, 0, none⟩ = some (.int .i64 n) ∧ wx.cell? ⟨w.heap.size, 1, none⟩ = some (.slice (some ad) xss.length c) ∧ wx.cell? z = some (.int .i64 x) ∧ wx.cell? ⟨z.block, z.off + (0 + 1), none⟩ = some (.int .i64 y))
                  (first | exact HS.out _ hw6 | exact HS.out _ hw5 | go_keep)
                  (first
                    | (go_at_call 101; (with_reducible refine (HX.out _).mono ?_); rintro e w5 ⟨rfl, hb5⟩; have hw5 : Below wr.heap.size wr w5 := (by exact ⟨hb5.os, hb5.tape, hb5.output, hb5.size, hb5.block⟩))
                    | (go_at_call 101; (with_reducible refine (HY.out _).mono ?_); rintro e w6 ⟨rfl, hb6⟩; have hw6 : Below wr.heap.size wr w6 := hw5.trans (Below.mono (by exact ⟨hb6.os, hb6.tape, hb6.output, hb6.size, hb6.block⟩) hw5.size)))
                go_wp2
                go_ret
                exact ⟨ret_bool HE.out.symm, hbA.trans ((hb.trans (hw6.mono hb.size)).mono hbA.size)⟩
              · rw [hiy] at HY
                have HE : Hid (netRow n [x, y] = true) := by show _ = _; rw [HRW.out, hix, hiy]; simp [hxy]
                clear hix hiy
                go_wp2
                go_region_held3 (fun wx => wx.cell? ⟨w.heap.size, 0, none⟩ = some (.int .i64 n) ∧ wx.cell? ⟨w.heap.size, 1, none⟩ = some (.slice (some ad) xss.length c) ∧ wx.cell? z = some (.int .i64 x) ∧ wx.cell? ⟨z.block, z.off + (0 + 1), none⟩ = some (.int .i64 y))
                  (first | exact HS.out _ hw6 | exact HS.out _ hw5 | go_keep)
                  (first
                    | (go_at_call 101; (with_reducible refine (HX.out _).mono ?_); rintro e w5 ⟨rfl, hb5⟩; have hw5 : Below wr.heap.size wr w5 := (by exact ⟨hb5.os, hb5.tape, hb5.output, hb5.size, hb5.block⟩))
                    | (go_at_call 101; (with_reducible refine (HY.out _).mono ?_); rintro e w6 ⟨rfl, hb6⟩; have hw6 : Below wr.heap.size wr w6 := hw5.trans (Below.mono (by exact ⟨hb6.os, hb6.tape, hb6.output, hb6.size, hb6.block⟩) hw5.size)))
                go_wp2
                go_roundw
                case rel => exact ⟨k + 1, by omega, by go_num, hb.trans (hw6.mono hb.size), fun j y' hj hy' => by
                  by_cases e : j = k
                  · subst e
                    rw [hx.out] at hy'
                    cases hy'
                    exact HE.out
                  · exact HN.out j y' (by omega) hy'⟩
                case measure => simp [intOf]; omega
        · have hd2 : ((m : Int) == 2) = false := by rw [beq_eq_false_iff_ne]; omega
          have hd3 : ((m : Int) != 2) = true := by rw [bne_iff_ne]; omega
          have HE : Hid (r = false) := HNO.out _ hmem (by
            have := hm.out
            match xs, this with
            | [], _ => rfl
            | [x], _ => rfl
            | [x, y], h => exact absurd h (by simpa using hm2)
            | x :: y :: z :: t, _ => rfl)
          go_wp2
          go_quiet (fail)
          go_wp2
          go_ret
          exact ⟨ret_bool HE.out.symm, hbA.trans ((hb.trans (Dr.below ((Dr.refl _).step _) _)).mono hbA.size)⟩
      · obtain rfl : xss.length = k := by omega
        go_wp2
        go_ret
        refine ⟨ret_bool ?_, hbA.trans (hb.mono hbA.size)⟩
        rw [HR.out]
        symm
        rw [List.all_eq_true]
        intro x hx
        obtain ⟨j, hj, rfl⟩ := List.getElem_of_mem hx
        exact HN.out j _ hj (List.getElem?_eq_getElem hj)
  · have hd60 : decide ((xss.length : Int) > 60) = true := by simp; omega
    have HR : Hid (netOk n xss = false) := by simp [netOk, hl, Hid]
    go_enter Tryz.func40, Tryz.ntmps40
    go_wp2_with (go_at_call 100; refine (i_isWires _ _).mono ?_; rintro e w' ⟨rfl, rfl⟩)
    go_ret
    exact ⟨ret_bool HR.out.symm, hbA⟩

end Go.Proofs.YtggblfnajeikjaaGreatDoor

namespace Go.Proofs.YtggblfnajeikjaaGreatDoor
open Go.RowKit
set_option linter.unusedVariables false
set_option linter.unusedSimpArgs false

def lvM (xss : List (List Int)) : Nat → (Nat → Int) × List Int
  | 0 => (fun _ => 0, [])
  | k + 1 => match xss[k]? with
    | some [a, b] => (fun i => if i = a.toNat ∨ i = b.toNat then 1 + max ((lvM xss k).1 a.toNat) ((lvM xss k).1 b.toNat) else (lvM xss k).1 i, (lvM xss k).2 ++ [1 + max ((lvM xss k).1 a.toNat) ((lvM xss k).1 b.toNat)])
    | _ => lvM xss k
theorem lvM_succ {xss : List (List Int)} {k a b : Nat} (h : xss[k]? = some [(a : Int), (b : Int)]) :
    lvM xss (k + 1) = (fun i => if i = a ∨ i = b then 1 + max ((lvM xss k).1 a) ((lvM xss k).1 b) else (lvM xss k).1 i, (lvM xss k).2 ++ [1 + max ((lvM xss k).1 a) ((lvM xss k).1 b)]) := by
  simp only [lvM, h, Int.toNat_natCast]
theorem lvM_bound (xss : List (List Int)) : ∀ (k i : Nat), 0 ≤ (lvM xss k).1 i ∧ (lvM xss k).1 i ≤ k
  | 0, i => by simp [lvM]
  | k + 1, i => by
    have ih := lvM_bound xss k
    simp only [lvM]
    split
    · rename_i a b _
      have h1 := ih a.toNat
      have h2 := ih b.toNat
      have h3 := ih i
      dsimp only
      split <;> omega
    · have := ih i
      omega
theorem lvM_length (xss : List (List Int)) : ∀ k, (lvM xss k).2.length ≤ k
  | 0 => by simp [lvM]
  | k + 1 => by
    have ih := lvM_length xss k
    simp only [lvM]
    split
    · simp only [List.length_append, List.length_cons, List.length_nil]; omega
    · omega
def atL (n : Nat) (f : Nat → Int) : List Int := (List.range n).map f
theorem atL_length (n : Nat) (f : Nat → Int) : (atL n f).length = n := by simp [atL]
theorem atL_get {n i : Nat} (f : Nat → Int) (h : i < n) : (atL n f)[i]? = some (f i) := by simp [atL, h]
theorem atL_two {n a b : Nat} (f : Nat → Int) (m : Int) (ha : a < n) (hb : b < n) : ((atL n f).set a m).set b m = atL n (fun i => if i = a ∨ i = b then m else f i) := by
  apply List.ext_getElem?
  intro q
  simp only [List.getElem?_set, List.length_set, atL_length]
  by_cases hq : q < n
  · rw [atL_get _ hq, atL_get _ hq]
    grind
  · have e1 : (atL n f)[q]? = none := List.getElem?_eq_none (by rw [atL_length]; omega)
    have e2 : (atL n (fun i => if i = a ∨ i = b then m else f i))[q]? = none := List.getElem?_eq_none (by rw [atL_length]; omega)
    rw [e1, e2]
    grind
theorem netOk_n {n : Int} {xss : List (List Int)} (h : netOk n xss = true) : ∃ N : Nat, n = N ∧ 1 ≤ N ∧ N ≤ 8 ∧ xss.length ≤ 60 := by
  simp only [netOk, Bool.and_eq_true, inB_iff, decide_eq_true_eq] at h
  exact ⟨n.toNat, by omega, by omega, by omega, h.1.2⟩
theorem netOk_row {N k : Nat} {xss : List (List Int)} {xs : List Int} (h : netOk (N : Int) xss = true) (hx : xss[k]? = some xs) : ∃ a b : Nat, xs = [(a : Int), (b : Int)] ∧ a < N ∧ b < N ∧ a ≠ b := by
  simp only [netOk, Bool.and_eq_true, List.all_eq_true] at h
  have h2 := h.2 xs (List.mem_of_getElem? hx)
  match xs, h2 with
  | [x, y], h2 =>
    simp only [netRow, Bool.and_eq_true, inB_iff, Bool.not_eq_true', decide_eq_false_iff_not] at h2
    exact ⟨x.toNat, y.toNat, by simp; omega, by omega, by omega, by omega⟩
  | [], h2 => simp [netRow] at h2
  | [x], h2 => simp [netRow] at h2
  | x :: y :: z :: t, h2 => simp [netRow] at h2

theorem Rd.cell_int' {w : World} {p : Addr} {n c k : Nat} {xs : List Int} {x : Int} (h : Rd w (.slice (some p) n c) (ints xs)) (hx : xs[k]? = some x) : w.cell? (p.add k) = some (.int .i64 x) := by
  obtain ⟨_, _, e, _, _⟩ := h.formi
  injection e with e1 e2 e3
  subst e2
  obtain ⟨ad, y, had, hc, hy⟩ := h.int (List.getElem?_eq_some_iff.1 hx).1
  injection had with had
  subst had
  rw [hy.out] at hx
  cases hx
  exact hc
end Go.Proofs.YtggblfnajeikjaaGreatDoor

namespace Go.Proofs.YtggblfnajeikjaaGreatDoor
open Go.RowKit
set_option linter.unusedVariables false
set_option linter.unusedSimpArgs false

def mostL (xs : List Int) : Nat → Int
  | 0 => 0
  | k + 1 => max (mostL xs k) (xs.getD k 0)
theorem mostL_succ {xs : List Int} {k : Nat} {x : Int} (h : xs[k]? = some x) : mostL xs (k + 1) = max (mostL xs k) x := by
  rw [mostL, List.getD_eq_getElem?_getD, h]
  rfl
theorem max_if (a b : Int) : Value.int .i64 (if a < b then b else a) = .int .i64 (max a b) := by
  congr 1
  split <;> omega
def depthOf (n : Int) (xss : List (List Int)) : Int := if netOk n xss then mostL (lvM xss xss.length).2 (lvM xss xss.length).2.length else -1

end Go.Proofs.YtggblfnajeikjaaGreatDoor

namespace Go.Proofs.YtggblfnajeikjaaGreatDoor
open Go.RowKit
set_option linter.unusedVariables false
set_option linter.unusedSimpArgs false

set_option maxHeartbeats 2000000 in
theorem i_levels (N : Nat) (v : Value) (xss : List (List Int)) (w : World) (h : Rd2 w v xss) (hk : netOk (N : Int) xss = true) : Calls Tryz.prog 63 #[.agg #[.int .i64 N, v]] w (RetOwn 3 (ints (lvM xss xss.length).2) w) := by
  obtain ⟨N', e, hN1, hN8, hL60⟩ := netOk_n hk
  obtain rfl : N = N' := by omega
  clear e
  have HK := Lib.hid (fun k xs => netOk_row (k := k) (xs := xs) hk)
  clear hk
  obtain ⟨a0, c0, rfl, _, _⟩ := h.form
  have bx := box_cells w (.int .i64 N) (.slice a0 xss.length c0) 30
  go_enter Tryz.func63, Tryz.ntmps63
  go_wp2
  have bX : Below w.heap.size w (((w.alloc (.cells #[.int .i64 N, .slice a0 xss.length c0] 30)).alloc (.cells #[.int .i64 0, .int .i64 0, .int .i64 0, .int .i64 0, .int .i64 0, .int .i64 0, .int .i64 0, .int .i64 0] 109)).alloc (.cells #[] 3)) := (((Below.refl _ _).alloc (Nat.le_refl _) _).alloc (by simp) _).alloc (by simp <;> omega) _
  have htA : Own ((w.alloc (.cells #[.int .i64 N, .slice a0 xss.length c0] 30)).alloc (.cells #[.int .i64 0, .int .i64 0, .int .i64 0, .int .i64 0, .int .i64 0, .int .i64 0, .int .i64 0, .int .i64 0] 109)) 109 w.heap.size (.slice (some ⟨(w.alloc (.cells #[.int .i64 N, .slice a0 xss.length c0] 30)).heap.size, 0, none⟩) 8 8) (ints (atL 8 (lvM xss 0).1)) := Own.lit _ 109 _ #[.int .i64 0, .int .i64 0, .int .i64 0, .int .i64 0, .int .i64 0, .int .i64 0, .int .i64 0, .int .i64 0] (by simp) (by simp)
  rw [show (w.alloc (.cells #[.int .i64 N, .slice a0 xss.length c0] 30)).heap.size = w.heap.size + 1 by simp] at htA
  have hoA := Own.lit0 (B := w.heap.size) ((w.alloc (.cells #[.int .i64 N, .slice a0 xss.length c0] 30)).alloc (.cells #[.int .i64 0, .int .i64 0, .int .i64 0, .int .i64 0, .int .i64 0, .int .i64 0, .int .i64 0, .int .i64 0] 109)) 3 (by simp <;> omega)
  rw [show ((w.alloc (.cells #[.int .i64 N, .slice a0 xss.length c0] 30)).alloc (.cells #[.int .i64 0, .int .i64 0, .int .i64 0, .int .i64 0, .int .i64 0, .int .i64 0, .int .i64 0, .int .i64 0] 109)).heap.size = w.heap.size + 1 + 1 by simp] at hoA
  obtain ⟨b, hbb⟩ : ∃ b : Addr, (⟨w.heap.size + 1, 0, none⟩ : Addr) = b := ⟨_, rfl⟩
  have hbn : b.block = w.heap.size + 1 := by rw [← hbb]
  rw [hbb] at htA ⊢
  have HBN := Lib.hid hbn
  clear hbb hbn bx
  go_loopw [4, 13] (fun vo i wr => ∃ k : Nat, k ≤ xss.length ∧ i = .int .i64 k ∧ Own wr 3 w.heap.size vo (ints (lvM xss k).2) ∧ Own wr 109 w.heap.size (.slice (some b) 8 8) (ints (atL 8 (lvM xss k).1)) ∧ (∀ g, vo.ownBlock = some g → (Value.slice (some b) 8 8).ownBlock ≠ some g) ∧ Below w.heap.size w wr)
    (fun _ i _ => xss.length - (intOf i).toNat)
  case atStart => exact ⟨0, Nat.zero_le _, rfl, hoA, htA.alloc _, fun g h2 h3 => by
    have := HBN.out
    simp [Value.ownBlock] at h2 h3
    omega, bX⟩
  case round =>
    obtain ⟨k, hkl, rfl, ho, ht, hap, hb⟩ := hrel
    obtain ⟨ao, co, rfl, _, hco⟩ := ho.rd.formi
    have hLl := lvM_length xss k
    by_cases hlt : k < xss.length
    · obtain ⟨ad, bx, m, d, xs, rfl, hc0, hx, hm, hmd, hd, hr⟩ := h.row hlt
      obtain ⟨x, y, rfl, hxN, hyN, hxy⟩ := HK.out k xs hx.out
      obtain rfl : m = 2 := hm.out
      obtain ⟨z, x', rfl, hcx, hxx⟩ := hr.int (k := 0) (by simp)
      obtain ⟨z', y', hz, hcy, hyy⟩ := hr.int (k := 1) (by simp)
      obtain rfl : z = z' := by injection hz
      clear hz
      have e1 := hxx.out
      have e2 := hyy.out
      simp only [List.getElem?_cons_zero, List.getElem?_cons_succ, Option.some.injEq] at e1 e2
      subst e1 e2
      rw [add_succ] at hcy
      have hcx' : w.cell? z = some (.int .i64 x) := by simpa [Addr.add] using hcx
      clear hcx
      have HSS : Hid (∀ wx : World, Below w.heap.size w wx → wx.cell? (ad.add k) = some (.slice (some z) 2 d) ∧ wx.cell? z = some (.int .i64 x) ∧ wx.cell? ⟨z.block, z.off + (0 + 1), none⟩ = some (.int .i64 y)) := by
        intro wx hbx
        exact ⟨(hbx.cell (World.block_lt_of_cell? w _ hc0)).trans hc0, (hbx.cell (World.block_lt_of_cell? w _ hcx')).trans hcx', (hbx.cell (World.block_lt_of_cell? w _ hcy)).trans hcy⟩
      have hcW := hcx'
      clear hc0 hcx' hcy
      obtain ⟨q1, q2, q3⟩ := HSS.out _ hb
      have HS := Lib.hid (lvM_succ hx.out)
      have hbx := lvM_bound xss k x
      have hby := lvM_bound xss k y
      obtain ⟨f, hf⟩ : ∃ f, (lvM xss k).1 = f := ⟨_, rfl⟩
      obtain ⟨os, hos⟩ : ∃ os, (lvM xss k).2 = os := ⟨_, rfl⟩
      rw [hf] at ht hbx hby HS
      rw [hos] at ho HS hLl hap
      rw [hos]
      have hta := ht.rd.cell_int' (atL_get (n := 8) (i := x) f (by omega))
      have htb := ht.rd.cell_int' (atL_get (n := 8) (i := y) f (by omega))
      clear hf hos
      have i1 : (0 : Int) ≤ (x : Int) := by omega
      have i2 : (x : Int) < 8 := by omega
      have i3 : (0 : Int) ≤ (y : Int) := by omega
      have i4 : (y : Int) < 8 := by omega
      have iw : IntKind.i64.wrap (1 + if f x < f y then f y else f x) = 1 + if f x < f y then f y else f x := IntWalk.i64_in _ (by split <;> omega)
      go_wp2
      go_quiet (fail)
      clear iw q1 q2 q3 hta htb
      rename_i nq
      obtain ⟨M0, hM0⟩ : ∃ M0, (if f x < f y then f y else f x) = M0 := ⟨_, rfl⟩
      rw [hM0]
      obtain ⟨M, hM⟩ : ∃ M, 1 + M0 = M := ⟨_, rfl⟩
      rw [hM]
      have hMx : 1 + max (f x) (f y) = M := by rw [← hM, ← hM0]; split <;> omega
      rw [hMx] at HS
      clear hM hMx hM0
      have hb1 : Below w.heap.size w (wr.drewN nq) := hb.trans (Dr.below ((Dr.refl _).step _) _)
      obtain ⟨wv, hwv⟩ : ∃ wv, wr.drewN nq = wv := ⟨_, rfl⟩
      have ht1 := ht.drewN nq
      have ho1 := ho.drewN nq
      rw [hwv] at hb1 ht1 ho1 ⊢
      clear hwv ht ho hb
      obtain ⟨q1, q2, q3⟩ := HSS.out _ hb1
      have fz1 := ht1.frozen rfl x
      have fz2 := ht1.frozen rfl y
      have hta := ht1.rd.cell_int' (atL_get (n := 8) (i := x) f (by omega))
      have htb := ht1.rd.cell_int' (atL_get (n := 8) (i := y) f (by omega))
      have hzb : z.block ≠ b.block := by
        have e1 := HBN.out
        have e2 := World.block_lt_of_cell? w _ hcW
        omega
      have hL := atL_length 8 f
      have ht2 := (ht1.seti rfl (show x < (atL 8 f).length by omega) M).1
      have hb2 := ht1.below_set rfl (show x < (atL 8 f).length by omega) (.int .i64 M) hb1 (Nat.le_refl _)
      obtain ⟨r1, r2, r3⟩ := HSS.out _ hb2
      have fz3 := ht2.frozen rfl y
      have hL2 : ((atL 8 f).set x M).length = 8 := by rw [List.length_set]; exact hL
      have htb2 := ht2.rd.cell_int' (show ((atL 8 f).set x M)[y]? = some (f y) by rw [List.getElem?_set_ne (by omega)]; exact atL_get f (by omega))
      have ht3 := (ht2.seti rfl (show y < ((atL 8 f).set x M).length by omega) M).1
      have hb3 := ht2.below_set rfl (show y < ((atL 8 f).set x M).length by omega) (.int .i64 M) hb2 (Nat.le_refl _)
      obtain ⟨s1, s2, s3⟩ := HSS.out _ hb3
      have ho3 := (ho1.setCell (p := b.add x) (by rw [block_of_add]; intro e; exact hap _ e rfl) (.int .i64 M)).setCell (p := b.add y) (by rw [block_of_add]; intro e; exact hap _ e rfl) (.int .i64 M)
      rw [atL_two f M (show x < 8 by omega) (show y < 8 by omega)] at ht3
      have hlo := ints_length os
      clear hL hL2
      go_wp2
      go_region_held3 (fun wx => wx.cell? z = some (.int .i64 x) ∧ wx.cell? ⟨z.block, z.off + (0 + 1), none⟩ = some (.int .i64 y) ∧ wx.frozen? (b.add x) = false ∧ wx.frozen? (b.add y) = false)
        (first | go_keep | (refine ⟨r2, r3, ?_, ?_⟩ <;> go_keep) | (refine ⟨s2, s3, ?_, ?_⟩ <;> go_keep))
        (fail)
      have ho4 := ho3.drew
      have ht4 := ht3.drew
      have hb4 := Below.drew hb3
      clear ho3 ht3 hb3 ht1 ht2 ho1 hb2 r1 r2 r3 s1 s2 s3 q1 q2 q3 fz1 fz2 fz3 hta htb htb2
      go_wp2_with (at_builtin; refine wpList_app1 rfl _ _ 23 rfl elI rfl ho4 (by show Value.slice (some ⟨wv.heap.size, 0, none⟩) 1 1 = _; simp) rfl hb4.size (by omega) (by omega) ?_; intro bn cn' w6 ho6 hg6 hat6)
      simp only [ints_length] at ho6 hat6
      have ht6 := ht4.apart hg6 fun g h2 h3 => hap g h3 h2
      go_roundw
      case rel => exact ⟨k + 1, by omega, by go_num, by rw [HS.out, ints_append]; exact ho6, by rw [HS.out]; exact ht6, fun g h2 h3 => by
        rcases hat6 with e | ⟨q, hq, e⟩
        · exact hap g (e ▸ h2) h3
        · rw [e] at h2
          cases h2
          have := (ht4.lt _ h3).2
          omega, hb4.grown hg6 hb4.size fun r hr => (ho4.lt r hr).1⟩
      case measure => simp [intOf]; omega
    · obtain rfl : xss.length = k := by omega
      go_wp2
      go_ret
      exact ⟨_, rfl, ho, hb⟩

end Go.Proofs.YtggblfnajeikjaaGreatDoor

namespace Go.Proofs.YtggblfnajeikjaaGreatDoor
open Go.RowKit
set_option linter.unusedVariables false
set_option linter.unusedSimpArgs false

set_option maxHeartbeats 1000000 in
theorem i_DepthOf (n : Int) (v : Value) (xss : List (List Int)) (w : World) (h : Rd2 w v xss) (hn : I64 n) : Calls Tryz.prog 15 #[.agg #[.int .i64 n, v]] w (RetB (.int .i64 (depthOf n xss)) w) := by
  obtain ⟨a, c, rfl, h2, h3⟩ := h.form
  have hbA : Below w.heap.size w (w.alloc (.cells #[.int .i64 n, .slice a xss.length c] 30)) := (Below.refl _ _).alloc (Nat.le_refl _) _
  have h' := h.alloc (.cells #[.int .i64 n, .slice a xss.length c] 30)
  have HN := i_NetworkOk n _ xss _ h' hn
  cases hk : netOk n xss
  · rw [hk] at HN
    have HR : Hid (depthOf n xss = -1) := by simp [depthOf, hk, Hid]
    go_enter Tryz.func15, Tryz.ntmps15
    go_wp2_with (go_at_call 40; refine HN.mono ?_; rintro e w2 ⟨rfl, hb2⟩)
    go_ret
    exact ⟨ret_int HR.out.symm, hbA.trans (hb2.mono (by simp))⟩
  rw [hk] at HN
  obtain ⟨N, rfl, hN1, hN8, hL60⟩ := netOk_n hk
  obtain ⟨xs, hxs⟩ : ∃ xs, (lvM xss xss.length).2 = xs := ⟨_, rfl⟩
  have HR : Hid (depthOf (N : Int) xss = mostL xs xs.length) := by simp [depthOf, hk, hxs, Hid]
  have HL := Lib.hid (fun (wq : World) (hq : Below w.heap.size w wq) => i_levels N _ xss wq (h.below hq) hk)
  rw [hxs] at HL
  clear hk hxs
  have bx := box_cells w (.int .i64 N) (.slice a xss.length c) 30
  go_enter Tryz.func15, Tryz.ntmps15
  go_wp2_with (first
    | (go_at_call 40; refine HN.mono ?_; rintro e w2 ⟨rfl, hb2⟩
       have c0 : w2.cell? ⟨w.heap.size, 0, none⟩ = some (.int .i64 N) := (hb2.cell (by simp)).trans bx.1
       have c1 : w2.cell? ⟨w.heap.size, 1, none⟩ = some (.slice a xss.length c) := (hb2.cell (by simp)).trans bx.2
       have hbB : Below w.heap.size w w2 := hbA.trans (hb2.mono (by simp)))
    | (go_at_call 63; refine (HL.out _ hbB).mono ?_; rintro e w3 ⟨vo, rfl, ho3, hb3⟩; obtain ⟨ao, co, rfl, _, _⟩ := ho3.rd.formi))
  have hbC : Below w.heap.size w w3 := hbB.trans (hb3.mono hbB.size)
  clear c0 c1 hb2 bx HN
  go_loopw [3, 12] (fun m i wr => ∃ k : Nat, k ≤ xs.length ∧ i = .int .i64 k ∧ m = .int .i64 (mostL xs k) ∧ Dr w3 wr) (fun _ i _ => xs.length - (intOf i).toNat)
  case atStart => exact ⟨0, Nat.zero_le _, rfl, rfl, Dr.refl _⟩
  case round =>
    obtain ⟨k, hkl, rfl, rfl, hdr⟩ := hrel
    by_cases hlt : k < xs.length
    · obtain ⟨ad, x, rfl, hc, hx⟩ := (ho3.rd.dr hdr).int hlt
      have HM := Lib.hid (mostL_succ hx.out)
      go_wp2
      go_roundw
      case rel => exact ⟨k + 1, by omega, by go_num, by rw [HM.out]; exact max_if _ _, hdr⟩
      case measure => simp [intOf]; omega
    · obtain rfl : xs.length = k := by omega
      go_wp2
      go_ret
      exact ⟨ret_int HR.out.symm, hbC.trans (hdr.below _)⟩

end Go.Proofs.YtggblfnajeikjaaGreatDoor

namespace Go.Proofs.YtggblfnajeikjaaGreatDoor
open Go.RowKit
set_option linter.unusedVariables false
set_option linter.unusedSimpArgs false

theorem lvM_mem (xss : List (List Int)) : ∀ (k : Nat), ∀ x ∈ (lvM xss k).2, 0 ≤ x ∧ x ≤ k
  | 0, x, hx => by simp [lvM] at hx
  | k + 1, x, hx => by
    have ih := lvM_mem xss k
    simp only [lvM] at hx
    split at hx
    · rename_i a b _
      have h1 := lvM_bound xss k a.toNat
      have h2 := lvM_bound xss k b.toNat
      simp only [List.mem_append, List.mem_cons, List.not_mem_nil, or_false] at hx
      rcases hx with hx | rfl
      · have := ih x hx; omega
      · omega
    · have := ih x hx; omega
theorem mostL_bound {xs : List Int} {B : Int} (hB : 0 ≤ B) (h : ∀ x ∈ xs, 0 ≤ x ∧ x ≤ B) : ∀ k, 0 ≤ mostL xs k ∧ mostL xs k ≤ B
  | 0 => ⟨Int.le_refl _, hB⟩
  | k + 1 => by
    have ih := mostL_bound hB h k
    have hg : 0 ≤ xs.getD k 0 ∧ xs.getD k 0 ≤ B := by
      rw [List.getD_eq_getElem?_getD]
      cases hx : xs[k]? with
      | none => exact ⟨Int.le_refl _, hB⟩
      | some x => exact h x (List.mem_of_getElem? hx)
    simp only [mostL]
    omega
theorem depthOf_bound {n : Int} {xss : List (List Int)} (h : netOk n xss = true) : 0 ≤ depthOf n xss ∧ depthOf n xss ≤ 60 := by
  obtain ⟨N, rfl, _, _, h60⟩ := netOk_n h
  unfold depthOf
  rw [if_pos h]
  exact mostL_bound (by omega) (fun x hx => by have := lvM_mem xss _ x hx; omega) _
end Go.Proofs.YtggblfnajeikjaaGreatDoor

namespace Go.Proofs.YtggblfnajeikjaaGreatDoor
open Go.RowKit
set_option linter.unusedVariables false
set_option linter.unusedSimpArgs false

/-- The mask behind the first k comparators. -/
def runM (xss : List (List Int)) (m : Nat) : Nat → Nat
  | 0 => m
  | k + 1 => match xss[k]? with
    | some [a, b] => stepN (runM xss m k) a.toNat b.toNat
    | _ => runM xss m k
theorem runM_succ {xss : List (List Int)} {m k a b : Nat} (h : xss[k]? = some [(a : Int), (b : Int)]) : runM xss m (k + 1) = stepN (runM xss m k) a b := by
  simp only [runM, h, Int.toNat_natCast]
theorem stepN_lt : ∀ n : Nat, n < 9 → ∀ m : Nat, m < 2 ^ n → ∀ i : Nat, i < n → ∀ k : Nat, k < n → stepN m i k < 2 ^ n := by decide +kernel
theorem stepN_ones : ∀ m : Nat, m < 256 → ∀ i : Nat, i < 8 → ∀ k : Nat, k < 8 → onesN (stepN m i k) = onesN m := by decide +kernel
theorem onesN_le' : ∀ n : Nat, n < 9 → ∀ m : Nat, m < 2 ^ n → onesN m ≤ n := by decide +kernel
theorem pow_le8 {n : Nat} (h : n ≤ 8) : 2 ^ n ≤ 256 := Nat.pow_le_pow_right (by decide) h
theorem runM_lt {N m : Nat} {xss : List (List Int)} (hk : netOk (N : Int) xss = true) (hm : m < 2 ^ N) : ∀ k, runM xss m k < 2 ^ N
  | 0 => hm
  | k + 1 => by
    have ih := runM_lt hk hm k
    obtain ⟨N', e, hN1, hN8, _⟩ := netOk_n hk
    cases hx : xss[k]? with
    | none => simp only [runM, hx]; exact ih
    | some xs =>
      obtain ⟨a, b, rfl, ha, hb, _⟩ := netOk_row hk hx
      rw [runM_succ hx]
      exact stepN_lt N (by omega) _ ih a ha b hb
theorem runM_ones {N m : Nat} {xss : List (List Int)} (hk : netOk (N : Int) xss = true) (hm : m < 2 ^ N) : ∀ k, onesN (runM xss m k) = onesN m
  | 0 => rfl
  | k + 1 => by
    have ih := runM_ones hk hm k
    have hl := runM_lt hk hm k
    obtain ⟨N', e, hN1, hN8, _⟩ := netOk_n hk
    have hp := pow_le8 (show N ≤ 8 by omega)
    cases hx : xss[k]? with
    | none => simp only [runM, hx]; exact ih
    | some xs =>
      obtain ⟨a, b, rfl, ha, hb, _⟩ := netOk_row hk hx
      rw [runM_succ hx, stepN_ones _ (by omega) a (by omega) b (by omega), ih]
/-- The mask that comes out, and whether it is sorted. -/
def outM (xss : List (List Int)) (m : Nat) : Nat := runM xss m xss.length
def okM (n : Nat) (xss : List (List Int)) (m : Nat) : Bool := decide (outM xss m = sortedN n (onesN m))
/-- The masks below M that are not sorted. -/
def unsN (n : Nat) (xss : List (List Int)) (M : Nat) : List Int := ((List.range M).filter fun m => !okM n xss m).map fun (m : Nat) => (m : Int)
theorem unsN_yes {n : Nat} {xss : List (List Int)} {m : Nat} (h : okM n xss m = true) : unsN n xss (m + 1) = unsN n xss m := by
  simp [unsN, List.range_succ, h]
theorem unsN_no {n : Nat} {xss : List (List Int)} {m : Nat} (h : okM n xss m = false) : unsN n xss (m + 1) = unsN n xss m ++ [(m : Int)] := by
  simp [unsN, List.range_succ, h]
theorem unsN_len (n : Nat) (xss : List (List Int)) (M : Nat) : (unsN n xss M).length ≤ M := by
  rw [unsN, List.length_map]
  exact Nat.le_trans (List.length_filter_le _ _) (by simp)
/-- The least mask that is not sorted, -1 if there is none. -/
def firstU (n : Nat) (xss : List (List Int)) : Int := match unsN n xss (2 ^ n) with | [] => -1 | m :: _ => m
def firstUns (n : Int) (xss : List (List Int)) : Int := if netOk n xss then firstU n.toNat xss else -1

theorem Rd2.pair {w : World} {N k : Nat} {a : Option Addr} {n c : Nat} {xss : List (List Int)} (h : Rd2 w (.slice a n c) xss) (hk : netOk (N : Int) xss = true) (hlt : k < xss.length) :
    ∃ (ad z : Addr) (d x y : Nat), a = some ad ∧ w.cell? (ad.add k) = some (.slice (some z) 2 d) ∧ w.cell? z = some (.int .i64 (x : Int)) ∧ w.cell? ⟨z.block, z.off + (0 + 1), none⟩ = some (.int .i64 (y : Int)) ∧ x < N ∧ y < N ∧ x ≠ y ∧ Hid (xss[k]? = some [(x : Int), (y : Int)]) := by
  obtain ⟨ad, b, m, d, xs, rfl, hc, hx, hm, hmd, hd, hr⟩ := h.row hlt
  obtain ⟨x, y, rfl, hxN, hyN, hxy⟩ := netOk_row hk hx.out
  obtain rfl : m = 2 := hm.out
  obtain ⟨z, x', rfl, hcx, hxx⟩ := hr.int (k := 0) (by simp)
  obtain ⟨z', y', hz, hcy, hyy⟩ := hr.int (k := 1) (by simp)
  obtain rfl : z = z' := by injection hz
  have e1 := hxx.out
  have e2 := hyy.out
  simp only [List.getElem?_cons_zero, List.getElem?_cons_succ, Option.some.injEq] at e1 e2
  subst e1 e2
  rw [add_succ] at hcy
  exact ⟨ad, z, d, x, y, rfl, hc, by simpa [Addr.add] using hcx, hcy, hxN, hyN, hxy, hx⟩

set_option maxHeartbeats 1000000 in
theorem i_bits (N : Nat) (v : Value) (xss : List (List Int)) (m : Nat) (w : World) (h : Rd2 w v xss) (hk : netOk (N : Int) xss = true) (hm : m < 2 ^ N) :
    Calls Tryz.prog 123 #[.agg #[.int .i64 N, v], .int .i64 m] w (RetB (.int .i64 (outM xss m : Nat)) w) := by
  obtain ⟨N', e, hN1, hN8, hL60⟩ := netOk_n hk
  obtain rfl : N = N' := by omega
  clear e
  have hp := pow_le8 hN8
  obtain ⟨a, c, rfl, _, _⟩ := h.form
  have hbA : Below w.heap.size w (w.alloc (.cells #[.int .i64 N, .slice a xss.length c] 30)) := (Below.refl _ _).alloc (Nat.le_refl _) _
  have h' := h.alloc (.cells #[.int .i64 N, .slice a xss.length c] 30)
  have HL := Lib.hid (fun k => runM_lt hk hm k)
  have HP := Lib.hid (fun (W : World) (hW : Rd2 W (.slice a xss.length c) xss) (k : Nat) (hlt : k < xss.length) => hW.pair hk hlt)
  clear hk
  go_enter Tryz.func123, Tryz.ntmps123
  go_wp2
  go_loopg [1, 10] xss.length (fun g mv iv wr => ∃ (k r : Nat), g = xss.length - k ∧ k ≤ xss.length ∧ iv = .int .i64 k ∧ mv = .int .i64 (r : Int) ∧ Dr (w.alloc (.cells #[.int .i64 N, .slice a xss.length c] 30)) wr ∧ Hid (r = runM xss m k))
  case atStart => exact ⟨0, m, rfl, Nat.zero_le _, rfl, rfl, Dr.refl _, rfl⟩
  case round =>
    obtain ⟨k, r, hg, hkl, rfl, rfl, hdr, HR⟩ := hrel
    by_cases hlt : k < xss.length
    · obtain ⟨ad, z, d, x, y, rfl, hc, hcx, hcy, hxN, hyN, hxy, hx⟩ := HP.out _ (h'.dr hdr) k hlt
      have hr : r < 256 := by have := HL.out k; rw [← HR.out] at this; omega
      have HS : Hid (stepN r x y = runM xss m (k + 1)) := by rw [Hid, runM_succ hx.out, ← HR.out]
      have HK := Lib.hid (fun W => i_step r x y hr (by omega) (by omega) W)
      clear hx
      go_wp2
      go_quiet ((go_at_call 124; exact Calls.quiet_of ((HK.out _).mono fun _ _ hh => ⟨hh.1, hh.2.imp fun _ e => e.symm⟩)))
      go_wp2
      go_roundg (xss.length - (k + 1))
      case measure => omega
      case rel => exact ⟨k + 1, stepN r x y, rfl, by omega, by go_num, rfl, hdr.step _, HS⟩
    · obtain rfl : xss.length = k := by omega
      go_wp2
      go_ret
      exact ⟨by rw [HR.out]; rfl, hbA.trans (hdr.below _)⟩

end Go.Proofs.YtggblfnajeikjaaGreatDoor

namespace Go.Proofs.YtggblfnajeikjaaGreatDoor
open Go.RowKit
set_option linter.unusedVariables false
set_option linter.unusedSimpArgs false

theorem shl_of : ∀ n : Nat, n < 9 → wrap64 (2 ^ n) = ((2 ^ n : Nat) : Int) := by decide +kernel
set_option maxHeartbeats 2000000 in
theorem i_unsorted (N : Nat) (v : Value) (xss : List (List Int)) (w : World) (h : Rd2 w v xss) (hk : netOk (N : Int) xss = true) :
    Calls Tryz.prog 117 #[.agg #[.int .i64 N, v]] w (RetOwn 3 (ints (unsN N xss (2 ^ N))) w) := by
  obtain ⟨N', e, hN1, hN8, hL60⟩ := netOk_n hk
  obtain rfl : N = N' := by omega
  clear e
  have hp := pow_le8 hN8
  have e2 := shl_of N (by omega)
  obtain ⟨M, hM⟩ : ∃ M, 2 ^ N = M := ⟨_, rfl⟩
  rw [hM] at hp e2 ⊢
  obtain ⟨a, c, rfl, _, _⟩ := h.form
  have HB := Lib.hid (fun (m : Nat) (hm : m < M) (W : World) (hW : Below w.heap.size w W) => i_bits N _ xss m W (h.below hW) hk (by omega))
  have HS := Lib.hid (fun (m : Nat) (hm : m < M) (W : World) => i_sorted N m (by omega) hN8 (onesN_le' N (by omega) m (by omega)) W)
  have HLN := Lib.hid (fun M => unsN_len N xss M)
  clear hk
  obtain ⟨w0, hw0⟩ : ∃ w0, w.alloc (.cells #[.int .i64 N, .slice a xss.length c] 30) = w0 := ⟨_, rfl⟩
  have bx := box_cells w (.int .i64 N) (.slice a xss.length c) 30
  have hb0 : Below w.heap.size w w0 := by rw [← hw0]; exact (Below.refl _ _).alloc (Nat.le_refl _) _
  have hz0 : w0.heap.size = w.heap.size + 1 := by rw [← hw0]; simp
  rw [hw0] at bx
  go_enter Tryz.func117, Tryz.ntmps117
  go_wp2
  try rw [hw0]
  clear hw0
  obtain ⟨c0, c1⟩ := bx
  have C0 := Lib.hid c0
  have C1 := Lib.hid c1
  clear c0 c1
  try rw [e2]
  clear e2
  have hb1 : Below (w.heap.size + 1) w0 (w0.alloc (.cells #[] 3)) := (Below.refl _ _).alloc (by omega) _
  clear hM
  go_loopg [3, 9] M (fun g vo iv wr => ∃ k : Nat, g = M - k ∧ k ≤ M ∧ iv = .int .i64 k ∧ Own wr 3 (w.heap.size + 1) vo (ints (unsN N xss k)) ∧ Below (w.heap.size + 1) w0 wr)
  case atStart => exact ⟨0, rfl, Nat.zero_le _, rfl, by have := Own.lit0 (B := w.heap.size + 1) w0 3 (by omega); rw [hz0] at this; exact this, hb1⟩
  case round =>
    obtain ⟨k, hg, hkl, rfl, ho, hb⟩ := hrel
    obtain ⟨ao, no, co, rfl, HN, _, _⟩ := ho.rd.formN
    by_cases hlt : k < M
    · have hok : okM N xss k = decide (outM xss k = sortedN N (onesN k)) := rfl
      have HB1 := Lib.hid (fun (W : World) (hW : Below w.heap.size w W) => HB.out k hlt W hW)
      have HS1 := Lib.hid (fun (W : World) => HS.out k hlt W)
      obtain ⟨r, hr⟩ : ∃ r, outM xss k = r := ⟨_, rfl⟩
      obtain ⟨s, hs⟩ : ∃ s, sortedN N (onesN k) = s := ⟨_, rfl⟩
      rw [hr] at hok HB1
      rw [hs] at hok HS1
      have hbw : Below w.heap.size w wr := hb0.trans (hb.mono (by omega))
      have g0 : wr.cell? ⟨w.heap.size, 0, none⟩ = some (.int .i64 N) := (hb.cell (Nat.lt_succ_self _)).trans C0.out
      have g1 : wr.cell? ⟨w.heap.size, 1, none⟩ = some (.slice a xss.length c) := (hb.cell (Nat.lt_succ_self _)).trans C1.out
      have HT : Hid (∀ wx : World, Below wr.heap.size wr wx → Below wr.heap.size wr wx ∧ wx.cell? ⟨w.heap.size, 0, none⟩ = some (.int .i64 N) ∧ wx.cell? ⟨w.heap.size, 1, none⟩ = some (.slice a xss.length c)) :=
        fun wx hx => ⟨hx, (hx.cell (World.block_lt_of_cell? _ _ g0)).trans g0, (hx.cell (World.block_lt_of_cell? _ _ g1)).trans g1⟩
      have K0 : Hid (∀ W : World, Below wr.heap.size wr W → Calls Tryz.prog 123 #[.agg #[.int .i64 N, .slice a xss.length c], .int .i64 k] W fun e w' => e = .returned (.int .i64 (r : Nat)) ∧ Below wr.heap.size wr w') :=
        fun W hW => (HB1.out W (hbw.trans (hW.mono hbw.size))).mono fun e w' hh => ⟨hh.1, hW.trans (hh.2.mono hW.size)⟩
      have hsz := hb.size
      clear g0 g1 HB1 hr hs
      have key : ∀ q : Bool, ((r : Int) != (s : Int)) = q → okM N xss k = !q := fun q hq => by
        rw [hok, ← hq]
        by_cases e : r = s
        · subst e; simp
        · have : ¬ (r : Int) = (s : Int) := by omega
          simp [e, this]
      cases hq : ((r : Int) != (s : Int))
      · have HU := Lib.hid (unsN_yes (key _ hq))
        clear key hok
        go_wp2
        go_region_held3 (fun wx => Below wr.heap.size wr wx ∧ wx.cell? ⟨w.heap.size, 0, none⟩ = some (.int .i64 N) ∧ wx.cell? ⟨w.heap.size, 1, none⟩ = some (.slice a xss.length c))
          (first | exact HT.out _ g4 | exact HT.out _ (by exact ⟨rfl, rfl, rfl, Nat.le_refl _, fun _ _ => rfl⟩) | go_keep)
          (first
            | (go_at_call 123; (with_reducible refine (K0.out _ (by exact (show _ ∧ _ ∧ _ from by assumption).1)).mono ?_); rintro e w4 ⟨rfl, g4⟩)
            | (go_at_call 180; (with_reducible refine (HS1.out _).mono ?_); rintro e w5 ⟨rfl, rfl⟩))
        all_goals
          go_wp2
          go_roundg (M - (k + 1))
          case measure => omega
          case rel => exact ⟨k + 1, rfl, by omega, by go_num, by rw [HU.out]; exact ho.below g4, hb.trans (g4.mono (by omega))⟩
      · have HU := Lib.hid (unsN_no (key _ hq))
        clear key hok
        have hln := HLN.out k
        have HLo : Hid ((ints (unsN N xss k)).length = no) := by rw [Hid, ints_length, HN.out]
        have hno : no ≤ 256 := by have := HN.out; omega
        go_wp2
        go_region_held3 (fun wx => Below wr.heap.size wr wx ∧ wx.cell? ⟨w.heap.size, 0, none⟩ = some (.int .i64 N) ∧ wx.cell? ⟨w.heap.size, 1, none⟩ = some (.slice a xss.length c))
          (first | exact HT.out _ g4 | exact HT.out _ (by exact ⟨rfl, rfl, rfl, Nat.le_refl _, fun _ _ => rfl⟩) | go_keep)
          (first
            | (go_at_call 123; (with_reducible refine (K0.out _ (by exact (show _ ∧ _ ∧ _ from by assumption).1)).mono ?_); rintro e w4 ⟨rfl, g4⟩)
            | (go_at_call 180; (with_reducible refine (HS1.out _).mono ?_); rintro e w5 ⟨rfl, rfl⟩))
        all_goals
          have ho4 := ho.below g4
          have hz4 := g4.size
          have hs4 : w.heap.size + 1 ≤ w4.heap.size := by omega
          go_wp2_with (at_builtin; refine wpList_app1m rfl _ _ 23 rfl elI rfl ho4 (by show Value.slice (some ⟨w4.heap.size, 0, none⟩) 1 1 = _; simp) rfl hs4 no HLo.out (by omega) (by omega) ?_; intro bn cn' w6 ho6 hg6 hat6)
          have hb6 : Below (w.heap.size + 1) w0 w6 := (hb.trans (g4.mono (by omega))).grown hg6 hs4 fun r hr => (ho4.lt r hr).1
          go_roundg (M - (k + 1))
          case measure => omega
          case rel => exact ⟨k + 1, rfl, by omega, by go_num, by rw [HU.out, ints_append]; exact ho6, hb6⟩
    · obtain rfl : M = k := by omega
      go_wp2
      go_ret
      exact ⟨_, rfl, ho.mono (by omega), hb0.trans (hb.mono (by omega))⟩

end Go.Proofs.YtggblfnajeikjaaGreatDoor

namespace Go.Proofs.YtggblfnajeikjaaGreatDoor
open Go.RowKit
set_option linter.unusedVariables false
set_option linter.unusedSimpArgs false

theorem net_box (w : World) (x y : Value) (T : Nat) : ∃ w0, w.alloc (.cells #[x, y] T) = w0 ∧ Below w.heap.size w w0 ∧ w0.heap.size = w.heap.size + 1 ∧ w0.cell? ⟨w.heap.size, 0, none⟩ = some x ∧ w0.cell? ⟨w.heap.size, 1, none⟩ = some y :=
  ⟨_, rfl, (Below.refl _ _).alloc (Nat.le_refl _) _, by simp, (box_cells w x y T).1, (box_cells w x y T).2⟩
theorem keep_box {wr : World} {p : Nat} {x y : Value} (g0 : wr.cell? ⟨p, 0, none⟩ = some x) (g1 : wr.cell? ⟨p, 1, none⟩ = some y) :
    Hid (∀ wx : World, Below wr.heap.size wr wx → Below wr.heap.size wr wx ∧ wx.cell? ⟨p, 0, none⟩ = some x ∧ wx.cell? ⟨p, 1, none⟩ = some y) :=
  fun wx hx => ⟨hx, (hx.cell (World.block_lt_of_cell? _ _ g0)).trans g0, (hx.cell (World.block_lt_of_cell? _ _ g1)).trans g1⟩
theorem Below.cells2 {w w' : World} {B p : Nat} {x y : Value} (h : Below B w w') (hp : p < B) (g0 : w.cell? ⟨p, 0, none⟩ = some x) (g1 : w.cell? ⟨p, 1, none⟩ = some y) : w'.cell? ⟨p, 0, none⟩ = some x ∧ w'.cell? ⟨p, 1, none⟩ = some y :=
  ⟨(h.cell hp).trans g0, (h.cell hp).trans g1⟩

theorem unsN_nil {n : Nat} {xss : List (List Int)} : ∀ k : Nat, (∀ j, j < k → okM n xss j = true) → unsN n xss k = []
  | 0, _ => rfl
  | k + 1, h => by rw [unsN_yes (h k (Nat.lt_succ_self _))]; exact unsN_nil k fun j hj => h j (by omega)
theorem firstU_none {n : Nat} {xss : List (List Int)} (h : ∀ j, j < 2 ^ n → okM n xss j = true) : firstU n xss = -1 := by
  rw [firstU, unsN_nil _ h]
theorem firstU_nil {n : Nat} {xss : List (List Int)} (h : (unsN n xss (2 ^ n)).length = 0) : firstU n xss = -1 := by
  rw [firstU, List.length_eq_zero_iff.1 h]
theorem firstU_cons {n : Nat} {xss : List (List Int)} {x : Int} (h : (unsN n xss (2 ^ n))[0]? = some x) : firstU n xss = x := by
  rw [firstU]
  cases hh : unsN n xss (2 ^ n) with
  | nil => rw [hh] at h; simp at h
  | cons y t => rw [hh] at h; simp only [List.getElem?_cons_zero, Option.some.injEq] at h; exact h
theorem firstU_bound (n : Nat) (xss : List (List Int)) : firstU n xss = -1 ∨ ∃ m : Nat, firstU n xss = m ∧ m < 2 ^ n := by
  rw [firstU]
  cases hh : unsN n xss (2 ^ n) with
  | nil => exact .inl rfl
  | cons y t =>
    have hy : y ∈ unsN n xss (2 ^ n) := by rw [hh]; simp
    simp only [unsN, List.mem_map, List.mem_filter, List.mem_range] at hy
    obtain ⟨m, ⟨hm, _⟩, rfl⟩ := hy
    exact .inr ⟨m, rfl, hm⟩

set_option maxHeartbeats 1000000 in
theorem i_FirstUnsorted (n : Int) (v : Value) (xss : List (List Int)) (w : World) (h : Rd2 w v xss) (hn : I64 n) : Calls Tryz.prog 64 #[.agg #[.int .i64 n, v]] w (RetB (.int .i64 (firstUns n xss)) w) := by
  obtain ⟨a, c, rfl, h2, h3⟩ := h.form
  obtain ⟨w0, hw0, hb0, hz0, c0, c1⟩ := net_box w (.int .i64 n) (.slice a xss.length c) 30
  have h' := h.below hb0
  have HN := i_NetworkOk n _ xss _ h' hn
  cases hk : netOk n xss
  · rw [hk] at HN
    have HR : Hid (firstUns n xss = -1) := by simp [firstUns, hk, Hid]
    go_enter Tryz.func64, Tryz.ntmps64
    go_wp2_with (go_at_call 40; refine HN.mono ?_; rintro e w2 ⟨rfl, hb2⟩)
    go_ret
    exact ⟨ret_int HR.out.symm, hb0.trans (hb2.mono (by omega))⟩
  rw [hk] at HN
  obtain ⟨N, rfl, hN1, hN8, hL60⟩ := netOk_n hk
  have HR : Hid (firstUns (N : Int) xss = firstU N xss) := by simp [firstUns, hk, Hid]
  have HD := Lib.hid (fun (wq : World) (hq : Below w.heap.size w wq) => i_unsorted N _ xss wq (h.below hq) hk)
  have C0 := Lib.hid c0
  have C1 := Lib.hid c1
  have HNIL : Hid ((unsN N xss (2 ^ N)).length = 0 → firstU N xss = -1) := firstU_nil
  have HCONS : Hid (∀ x, (unsN N xss (2 ^ N))[0]? = some x → firstU N xss = x) := fun x => firstU_cons
  obtain ⟨us, hus⟩ : ∃ us, unsN N xss (2 ^ N) = us := ⟨_, rfl⟩
  rw [hus] at HD HNIL HCONS
  clear hk hus
  go_enter Tryz.func64, Tryz.ntmps64
  go_upto_region 4 with (first
    | (go_at_call 40; (refine HN.mono ?_; rintro e w2 ⟨rfl, hb2⟩; have hbw2 : Below w.heap.size w w2 := hb0.trans (hb2.mono (by omega)); obtain ⟨c0, c1⟩ := Below.cells2 hb2 (show w.heap.size < w0.heap.size by omega) C0.out C1.out))
    | (go_at_call 117; refine (HD.out _ hbw2).mono ?_; rintro e w3 ⟨vo, rfl, ho3, hb3⟩; obtain ⟨ao, no, co, rfl, HNo, _, _⟩ := ho3.rd.formN))
  rcases Nat.eq_zero_or_pos no with hz | hz
  · subst hz
    go_wp2
    go_ret
    exact ⟨ret_int (by rw [HR.out]; exact (HNIL.out HNo.out.symm).symm), hbw2.trans (hb3.mono hbw2.size)⟩
  · obtain ⟨ad, x, rfl, hc, hx⟩ := ho3.rd.int (k := 0) (by have := HNo.out; omega)
    have hc' : w3.cell? ad = some (.int .i64 x) := by simpa [Addr.add] using hc
    clear hc
    have d0 : ((no : Int) == 0) = false := by rw [beq_eq_false_iff_ne]; omega
    have d1 : (0 : Int) < (no : Int) := by omega
    go_wp2
    go_ret
    exact ⟨ret_int (by rw [HR.out]; exact (HCONS.out _ hx.out).symm), hbw2.trans (hb3.mono hbw2.size)⟩

end Go.Proofs.YtggblfnajeikjaaGreatDoor

namespace Go.Proofs.YtggblfnajeikjaaGreatDoor
open Go.RowKit
set_option linter.unusedVariables false
set_option linter.unusedSimpArgs false

def zK (m : Nat) : Nat → Nat
  | 0 => 0
  | k + 1 => if m.testBit k then zK m k else zK m k + 1
theorem zK_le (m : Nat) : ∀ k, zK m k ≤ k
  | 0 => Nat.le_refl _
  | k + 1 => by have := zK_le m k; simp only [zK]; split <;> omega
theorem zK_ones : ∀ n : Nat, n < 9 → ∀ m : Nat, m < 2 ^ n → zK m n = n - onesN m := by decide +kernel
/-- The number at a place: zeros get the least numbers. -/
def failE (n m j : Nat) : Nat := if m.testBit j then zK m n + (j - zK m j) else zK m j
def failL (n m k : Nat) : List Int := (List.range k).map fun j => ((failE n m j : Nat) : Int)
theorem failL_succ (n m k : Nat) : failL n m (k + 1) = failL n m k ++ [((failE n m k : Nat) : Int)] := by simp [failL, List.range_succ]
theorem failL_len (n m k : Nat) : (failL n m k).length = k := by simp [failL]
def failLs (n : Int) (xss : List (List Int)) : List Int := if firstUns n xss < 0 then [] else failL n.toNat (firstUns n xss).toNat n.toNat
def failsB (n : Int) (xss : List (List Int)) : Bool := decide (0 ≤ firstUns n xss)
theorem firstUns_pos {n : Int} {xss : List (List Int)} (h : 0 ≤ firstUns n xss) : netOk n xss = true ∧ ∃ m : Nat, firstUns n xss = m ∧ m < 2 ^ n.toNat := by
  unfold firstUns at h ⊢
  cases hk : netOk n xss
  · simp [hk] at h
  · simp only [hk, if_true] at h ⊢
    rcases firstU_bound n.toNat xss with e | ⟨m, e, hm⟩
    · omega
    · exact ⟨trivial, m, e, hm⟩
theorem failLs_ok {n : Int} {xss : List (List Int)} : I64s (failLs n xss) ∧ (failLs n xss).length ≤ 8 := by
  unfold failLs
  split
  · exact ⟨fun x hx => by simp at hx, by simp⟩
  · rename_i h
    obtain ⟨hk, m, e, hm⟩ := firstUns_pos (show 0 ≤ firstUns n xss by omega)
    obtain ⟨N, rfl, hN1, hN8, _⟩ := netOk_n hk
    rw [e]
    simp only [Int.toNat_natCast]
    refine ⟨fun x hx => ?_, by rw [failL_len]; omega⟩
    simp only [failL, List.mem_map, List.mem_range] at hx
    obtain ⟨j, hj, rfl⟩ := hx
    have h1 := zK_le m N
    have h2 := zK_le m j
    unfold I64 failE
    split <;> omega

set_option maxHeartbeats 2000000 in
theorem i_FailingList (n : Int) (v : Value) (xss : List (List Int)) (w : World) (h : Rd2 w v xss) (hn : I64 n) : Calls Tryz.prog 16 #[.agg #[.int .i64 n, v]] w (RetOwnB 3 (ints (failLs n xss)) (failsB n xss) w) := by
  obtain ⟨a, c, rfl, h2, h3⟩ := h.form
  obtain ⟨w0, hw0, hb0, hz0, c0, c1⟩ := net_box w (.int .i64 n) (.slice a xss.length c) 30
  have h' := h.below hb0
  have HF := i_FirstUnsorted n _ xss _ h' hn
  by_cases hf : firstUns n xss < 0
  · have HR : Hid (failLs n xss = [] ∧ failsB n xss = false) := ⟨by simp [failLs, hf], by simp [failsB]; omega⟩
    generalize firstUns n xss = z at HF hf
    have d0 : decide (z < 0) = true := by simpa using hf
    clear hf
    go_enter Tryz.func16, Tryz.ntmps16
    go_wp2_with (go_at_call 64; refine HF.mono ?_; rintro e w2 ⟨rfl, hb2⟩)
    go_ret2
    rw [HR.out.1, HR.out.2]
    exact ⟨_, rfl, Own.nil _ _ _, hb0.trans (hb2.mono (by omega))⟩
  · obtain ⟨hk, m, e, hm⟩ := firstUns_pos (show 0 ≤ firstUns n xss by omega)
    obtain ⟨N, rfl, hN1, hN8, _⟩ := netOk_n hk
    have HR : Hid (failLs (N : Int) xss = failL N m N ∧ failsB (N : Int) xss = true) := ⟨by simp [failLs, e]; omega, by simp [failsB, e]⟩
    rw [e] at HF
    simp only [Int.toNat_natCast] at hm
    have hp := pow_le8 hN8
    have HO := Lib.hid (fun W => i_ones m (by omega) W)
    have hol := onesN_le' N (by omega) m hm
    have hz := zK_ones N (by omega) m hm
    obtain ⟨o, ho⟩ : ∃ o, onesN m = o := ⟨_, rfl⟩
    rw [ho] at HO hol hz
    have HZ : Hid ((N : Int) - (o : Int) = ((zK m N : Nat) : Int)) := by rw [Hid, hz]; omega
    have iw : IntKind.i64.wrap ((N : Int) - (o : Int)) = ((zK m N : Nat) : Int) := by rw [HZ.out]; exact IntWalk.i64_in _ (by omega)
    have C0 := Lib.hid c0
    have C1 := Lib.hid c1
    have hm256 : m < 256 := by omega
    have d0 : decide ((m : Int) < 0) = false := by simp
    clear hf hk e ho hz hm
    go_enter Tryz.func16, Tryz.ntmps16
    go_wp2_with (go_at_call 64; refine HF.mono ?_; rintro e w2 ⟨rfl, hb2⟩; have hbw2 : Below w.heap.size w w2 := hb0.trans (hb2.mono (by omega)); obtain ⟨c0, c1⟩ := Below.cells2 hb2 (show w.heap.size < w0.heap.size by omega) C0.out C1.out)
    go_quiet ((go_at_call 65; exact Calls.quiet_of_same ((HO.out _).mono fun _ _ hh => ⟨hh.1, hh.2.symm⟩)))
    obtain ⟨w4, hw4⟩ : ∃ w4, (w2.drewN nq).alloc (.cells #[] 3) = w4 := ⟨_, rfl⟩
    have e0 : w4.cell? ⟨w.heap.size, 0, none⟩ = some (.int .i64 N) := by rw [← hw4]; exact (World.cell?_alloc_lt _ _ _ (World.block_lt_of_cell? _ _ c0)).trans c0
    have hb4 : Below w.heap.size w w4 := by rw [← hw4]; exact (hbw2.trans (((Dr.refl w2).step nq).below _)).alloc hbw2.size _
    have ho4 : Own w4 3 w.heap.size (.slice (some ⟨w2.heap.size, 0, none⟩) 0 0) (ints []) := by rw [← hw4]; exact Own.lit0 (w2.drewN nq) _ hbw2.size
    go_wp2
    clear hw4 e0 c0 c1 C0 C1 iw
    go_loopg [5, 6, 7, 21] N (fun g zv ov vo iv wr => ∃ k : Nat, g = N - k ∧ k ≤ N ∧ iv = .int .i64 k ∧ zv = .int .i64 (zK m k : Nat) ∧ ov = .int .i64 (zK m N + (k - zK m k) : Nat) ∧ Own wr 3 w.heap.size vo (ints (failL N m k)) ∧ Below w.heap.size w wr)
    case atStart => exact ⟨0, rfl, Nat.zero_le _, rfl, rfl, rfl, ho4, hb4⟩
    case round =>
      obtain ⟨k, hg, hkl, rfl, rfl, rfl, ho, hb⟩ := hrel
      obtain ⟨ao, no, co, rfl, HNo, _, _⟩ := ho.rd.formN
      by_cases hlt : k < N
      · have HLo : Hid ((ints (failL N m k)).length = no) := by rw [Hid, ints_length, HNo.out]
        have hno : no ≤ 8 := by have := HNo.out; rw [failL_len] at this; omega
        have hzk := zK_le m k
        have hzN := zK_le m N
        have b1 := bit_of m hm256 k (by omega)
        have hsb := hb.size
        have HE := Lib.hid (failL_succ N m k)
        cases t1 : m.testBit k
        · have HK : Hid (zK m (k + 1) = zK m k + 1 ∧ failE N m k = zK m k) := ⟨by simp [zK, t1], by simp [failE, t1]⟩
          rw [t1] at b1
          have q1 : bits BinOp.and IntKind.i64 ((m : Int) / 2 ^ k) 1 = 0 := b1
          rw [HK.out.2] at HE
          clear b1 t1
          go_wp2_with (at_builtin; refine wpList_app1m rfl _ _ 23 rfl elI rfl ho (by show Value.slice (some ⟨wr.heap.size, 0, none⟩) 1 1 = _; simp) rfl hsb no HLo.out (by omega) (by omega) ?_; intro bn cn' w6 ho6 hg6 hat6)
          have hb6 := hb.grown hg6 hsb fun r hr => (ho.lt r hr).1
          go_roundg (N - (k + 1))
          case measure => omega
          case rel => exact ⟨k + 1, rfl, by omega, by go_num, by rw [HK.out.1]; go_num, by rw [HK.out.1, show k + 1 - (zK m k + 1) = k - zK m k by omega]; simp, by rw [HE.out, ints_append]; exact ho6, hb6⟩
        · have HK : Hid (zK m (k + 1) = zK m k ∧ failE N m k = zK m N + (k - zK m k)) := ⟨by simp [zK, t1], by simp [failE, t1]⟩
          rw [t1] at b1
          have q1 : bits BinOp.and IntKind.i64 ((m : Int) / 2 ^ k) 1 = 1 := b1
          rw [HK.out.2] at HE
          clear b1 t1
          go_wp2_with (at_builtin; refine wpList_app1m rfl _ _ 23 rfl elI rfl ho (by show Value.slice (some ⟨wr.heap.size, 0, none⟩) 1 1 = _; simp) rfl hsb no HLo.out (by omega) (by omega) ?_; intro bn cn' w6 ho6 hg6 hat6)
          have hb6 := hb.grown hg6 hsb fun r hr => (ho.lt r hr).1
          go_roundg (N - (k + 1))
          case measure => omega
          case rel => exact ⟨k + 1, rfl, by omega, by go_num, by rw [HK.out.1], by rw [HK.out.1, show zK m N + (k + 1 - zK m k) = zK m N + (k - zK m k) + 1 by omega]; go_num, by rw [HE.out, ints_append]; exact ho6, hb6⟩
      · obtain rfl : N = k := by omega
        go_wp2
        go_ret2
        rw [HR.out.1, HR.out.2]
        exact ⟨_, rfl, ho, hb⟩

theorem atL_set {n k : Nat} {f g : Nat → Int} {v : Int} (hv : k < n → g k = v) (hg : ∀ j, j ≠ k → g j = f j) : (atL n f).set k v = atL n g := by
  apply List.ext_getElem?
  intro q
  rw [List.getElem?_set]
  by_cases hq : q < n
  · rw [atL_get _ hq, atL_get _ hq, atL_length]
    by_cases e : k = q
    · subst e; simp [hq, hv hq]
    · simp [e, hg q (fun h => e h.symm)]
  · have e1 : (atL n f)[q]? = none := List.getElem?_eq_none (by rw [atL_length]; omega)
    have e2 : (atL n g)[q]? = none := List.getElem?_eq_none (by rw [atL_length]; omega)
    rw [e1, e2, atL_length]
    by_cases e : k = q
    · subst e; simp [hq]
    · simp [e]
end Go.Proofs.YtggblfnajeikjaaGreatDoor

namespace Go.Proofs
open Go.Shelf
def Tryz.lays189_ren : Go.Shelf.Ren := ⟨fun | 189 => 184 | 125 => 223 | 257 => 222 | 128 => 272 | 129 => 260 | 294 => 264 | 295 => 265 | 296 => 266 | 297 => 267 | 298 => 268 | 299 => 269 | 216 => 137 | 300 => 270 | 301 => 271 | 328 => 295 | 329 => 296 | 330 => 297 | 331 => 298 | 332 => 299 | 215 => 188 | 343 => 303 | n => n, fun | 28 => 23 | 3 => 3 | 46 => 111 | 0 => 0 | 51 => 149 | 53 => 151 | 4 => 4 | 183 => 206 | 182 => 205 | 131 => 63 | 5 => 5 | 9 => 9 | 218 => 227 | 222 => 231 | 228 => 235 | 229 => 236 | n => n, fun | n => n⟩
theorem Tryz.lays189 : Go.Proofs.Lays.n189 Tryz.prog Tryz.lays189_ren := {
  mixed := by kernel_rfl
  f125 := Tryz.func223.trans (congrArg some (by kernel_rfl))
  f128 := Tryz.func272.trans (congrArg some (by kernel_rfl))
  f129 := Tryz.func260.trans (congrArg some (by kernel_rfl))
  f189 := Tryz.func184.trans (congrArg some (by kernel_rfl))
  f215 := Tryz.func188.trans (congrArg some (by kernel_rfl))
  f216 := Tryz.func137.trans (congrArg some (by kernel_rfl))
  f257 := Tryz.func222.trans (congrArg some (by kernel_rfl))
  f294 := Tryz.func264.trans (congrArg some (by kernel_rfl))
  f295 := Tryz.func265.trans (congrArg some (by kernel_rfl))
  f296 := Tryz.func266.trans (congrArg some (by kernel_rfl))
  f297 := Tryz.func267.trans (congrArg some (by kernel_rfl))
  f298 := Tryz.func268.trans (congrArg some (by kernel_rfl))
  f299 := Tryz.func269.trans (congrArg some (by kernel_rfl))
  f300 := Tryz.func270.trans (congrArg some (by kernel_rfl))
  f301 := Tryz.func271.trans (congrArg some (by kernel_rfl))
  f328 := Tryz.func295.trans (congrArg some (by kernel_rfl))
  f329 := Tryz.func296.trans (congrArg some (by kernel_rfl))
  f330 := Tryz.func297.trans (congrArg some (by kernel_rfl))
  f331 := Tryz.func298.trans (congrArg some (by kernel_rfl))
  f332 := Tryz.func299.trans (congrArg some (by kernel_rfl))
  f343 := Tryz.func303.trans (congrArg some (by kernel_rfl))
  t0 := Tryz.underlying0
  a0 := Tryz.isAgg0
  z0 := Tryz.sizeOf0
  v0 := Tryz.zeroValue0
  t3 := Tryz.underlying3
  a3 := Tryz.isAgg3
  z3 := Tryz.sizeOf3
  v3 := Tryz.zeroValue3
  t4 := Tryz.underlying4
  a4 := Tryz.isAgg4
  z4 := Tryz.sizeOf4
  v4 := Tryz.zeroValue4
  t5 := Tryz.underlying5
  a5 := Tryz.isAgg5
  z5 := Tryz.sizeOf5
  v5 := Tryz.zeroValue5
  t9 := Tryz.underlying9
  a9 := Tryz.isAgg9
  z9 := Tryz.sizeOf9
  v9 := Tryz.zeroValue9
  t28 := Tryz.underlying23
  a28 := Tryz.isAgg23
  z28 := Tryz.sizeOf23
  v28 := Tryz.zeroValue23
  t46 := Tryz.underlying111
  a46 := Tryz.isAgg111
  z46 := Tryz.sizeOf111
  v46 := Tryz.zeroValue111
  t51 := Tryz.underlying149
  a51 := Tryz.isAgg149
  z51 := Tryz.sizeOf149
  v51 := Tryz.zeroValue149
  t53 := Tryz.underlying151
  a53 := Tryz.isAgg151
  z53 := Tryz.sizeOf151
  v53 := Tryz.zeroValue151
  t131 := Tryz.underlying63
  a131 := Tryz.isAgg63
  z131 := Tryz.sizeOf63
  v131 := Tryz.zeroValue63
  t182 := Tryz.underlying205
  a182 := Tryz.isAgg205
  z182 := Tryz.sizeOf205
  v182 := Tryz.zeroValue205
  t183 := Tryz.underlying206
  a183 := Tryz.isAgg206
  z183 := Tryz.sizeOf206
  v183 := Tryz.zeroValue206
  t218 := Tryz.underlying227
  a218 := Tryz.isAgg227
  z218 := Tryz.sizeOf227
  v218 := Tryz.zeroValue227
  t222 := Tryz.underlying231
  a222 := Tryz.isAgg231
  z222 := Tryz.sizeOf231
  v222 := Tryz.zeroValue231
  t228 := Tryz.underlying235
  a228 := Tryz.isAgg235
  z228 := Tryz.sizeOf235
  v228 := Tryz.zeroValue235
  t229 := Tryz.underlying236
  a229 := Tryz.isAgg236
  z229 := Tryz.sizeOf236
  v229 := Tryz.zeroValue236 }
open Go.Sort Go.RowKit in
theorem Tryz.slices_Sort_int (blk off cap : Nat) (zs : List Int) (w : World) (hH : Holds (Value.int .i64) w blk off zs.toArray) (hblk : blk < w.heap.size) (hsz : zs.length < 4611686018427387904) :
    Calls Tryz.prog 184 #[.slice (some ⟨blk, off, none⟩) zs.length cap] w fun e w' =>
      e = .returned (.tuple #[]) ∧ ∃ n os, w' = grow (putRow (Value.int .i64) (Sort.ahead w n) blk off (zs.mergeSort fun x y => decide (x ≤ y)).toArray) os := Any.slices_Sort_int Tryz.lays189 blk off cap zs w hH hblk hsz
def Tryz.lays112_ren : Go.Shelf.Ren := ⟨fun | 112 => 139 | n => n, fun | 28 => 23 | 3 => 3 | 4 => 4 | 0 => 0 | n => n, fun | n => n⟩
theorem Tryz.lays112 : Go.Proofs.Lays.n112 Tryz.prog Tryz.lays112_ren := {
  mixed := by kernel_rfl
  f112 := Tryz.func139.trans (congrArg some (by kernel_rfl))
  t0 := Tryz.underlying0
  a0 := Tryz.isAgg0
  z0 := Tryz.sizeOf0
  v0 := Tryz.zeroValue0
  t3 := Tryz.underlying3
  a3 := Tryz.isAgg3
  z3 := Tryz.sizeOf3
  v3 := Tryz.zeroValue3
  t4 := Tryz.underlying4
  a4 := Tryz.isAgg4
  z4 := Tryz.sizeOf4
  v4 := Tryz.zeroValue4
  t28 := Tryz.underlying23
  a28 := Tryz.isAgg23
  z28 := Tryz.sizeOf23
  v28 := Tryz.zeroValue23 }
open Go.RowKit Go.Lib Go.Sort in
/-- slices.Reverse at []int: "Reverse reverses the elements of the slice in place.": THE SLICE's CELLS HOLD 'zs.reverse' BEHIND THE CALL; all else is as it was, but for the count of draws (the exchange 's[i], s[j] = s[j], s[i]' draws its order, once a round). IN THE WORDS OF slices.Sort's CONTRACT: 'Holds': the cells hold zs and none is frozen; 'putRow': the world with those cells holding another array. A slice of length 0 that is not nil is among them ('zs = []'); nil: '.._nil'. (LAID: no walk: one application.) -/
theorem Tryz.slices_Reverse_int (blk off cap : Nat) (zs : List Int) (w : World) (hH : Holds (Value.int .i64) w blk off zs.toArray) (hsz : zs.length ≤ 9223372036854775807) :
    Calls Tryz.prog 139 #[.slice (some ⟨blk, off, none⟩) zs.length cap] w fun e w' => e = .returned (.tuple #[]) ∧ ∃ n, w' = putRow (Value.int .i64) (Sort.ahead w n) blk off zs.reverse.toArray := Any.slices_Reverse_int Tryz.lays112 blk off cap zs w hH hsz
def Tryz.laysNm220_ren : Go.Shelf.Ren := ⟨fun | 20 => 185 | n => n, fun | 22 => 23 | 3 => 3 | 4 => 4 | 0 => 0 | n => n, fun | n => n⟩
theorem Tryz.laysNm220 : Go.Proofs.Lays2.n20 Tryz.prog Tryz.laysNm220_ren := {
  mixed := by kernel_rfl
  f20 := Tryz.func185.trans (congrArg some (by kernel_rfl))
  t0 := Tryz.underlying0
  a0 := Tryz.isAgg0
  z0 := Tryz.sizeOf0
  v0 := Tryz.zeroValue0
  t3 := Tryz.underlying3
  a3 := Tryz.isAgg3
  z3 := Tryz.sizeOf3
  v3 := Tryz.zeroValue3
  t4 := Tryz.underlying4
  a4 := Tryz.isAgg4
  z4 := Tryz.sizeOf4
  v4 := Tryz.zeroValue4
  t22 := Tryz.underlying23
  a22 := Tryz.isAgg23
  z22 := Tryz.sizeOf23
  v22 := Tryz.zeroValue23
  i3 := by kernel_rfl }
open Go.RowKit Go.Lib Go.Sort in
/-- slices.Compact at []int: "Compact replaces consecutive runs of equal elements with a single copy. This is like the uniq command found on Unix. Compact modifies the contents of the slice s and returns the modified slice, which may have a smaller length. Compact zeroes the elements between the new length and the original length. The result preserves the nilness of s.": IT RETURNS THE SLICE CUT TO 'Lib.compact zs'; ITS CELLS HOLD 'Lib.compact zs', THEN ZERO VALUES up to the old length; all else is as it was, but for the count of draws. IN THE WORDS OF slices.Sort's CONTRACT ('Holds', 'putRow'): so the everyday 'slices.Sort(xs); xs = slices.Compact(xs)' goes from the one contract to the other. It asks 'zs.length ≤ cap' (every slice's: the reslicing 's[:k]' looks at it). Length 0, nil: '.._empty'. (LAID: no walk: one application.) -/
theorem Tryz.slices_Compact_int (blk off cap : Nat) (zs : List Int) (w : World) (hH : Holds (Value.int .i64) w blk off zs.toArray) (hsz : zs.length ≤ 9223372036854775807) (hcap : zs.length ≤ cap) :
    Calls Tryz.prog 185 #[.slice (some ⟨blk, off, none⟩) zs.length cap] w fun e w' => e = .returned (.slice (some ⟨blk, off, none⟩) (Lib.compact zs).length cap) ∧ ∃ q, w' = putRow (Value.int .i64) (Sort.ahead w q) blk off (Lib.compact zs ++ List.replicate (zs.length - (Lib.compact zs).length) 0).toArray := Any.slices_Compact_int Tryz.laysNm220 blk off cap zs w hH hsz hcap
end Go.Proofs

namespace Go.Proofs.YtggblfnajeikjaaGreatDoor
set_option linter.unusedVariables false
set_option linter.unusedSimpArgs false

theorem asc_eq : ∀ {a b : List Int}, a.Pairwise (· < ·) → b.Pairwise (· < ·) → (∀ x, x ∈ a ↔ x ∈ b) → a = b
  | [], [], _, _, _ => rfl
  | [], y :: t, _, _, h => by have := (h y).2 (by simp); simp at this
  | x :: s, [], _, _, h => by have := (h x).1 (by simp); simp at this
  | x :: s, y :: t, ha, hb, h => by
    rw [List.pairwise_cons] at ha hb
    have e : x = y := by
      have h1 := (h x).1 (by simp)
      have h2 := (h y).2 (by simp)
      rcases List.mem_cons.1 h1 with e | h1
      · exact e
      · rcases List.mem_cons.1 h2 with e | h2
        · exact e.symm
        · have := hb.1 x h1
          have := ha.1 y h2
          omega
    subst e
    rw [asc_eq ha.2 hb.2 fun z => ?_]
    constructor
    · intro hz
      rcases List.mem_cons.1 ((h z).1 (List.mem_cons_of_mem _ hz)) with e | h1
      · have := ha.1 z hz; omega
      · exact h1
    · intro hz
      rcases List.mem_cons.1 ((h z).2 (List.mem_cons_of_mem _ hz)) with e | h1
      · have := hb.1 z hz; omega
      · exact h1
theorem getB (zs : List Int) {j : Nat} (h : j < zs.length) : zs.toArray[j]! = zs[j] := by
  rw [getElem!_pos zs.toArray j (by simpa using h)]
  simp
theorem compact_mem {zs : List Int} {x : Int} : x ∈ Lib.compact zs ↔ x ∈ zs := by
  unfold Lib.compact Lib.compactUpTo
  simp only [List.mem_map, List.mem_filter, List.mem_range]
  constructor
  · rintro ⟨j, ⟨hj, _⟩, rfl⟩
    rw [getB zs hj]
    exact List.getElem_mem hj
  · intro hx
    obtain ⟨j, hj, rfl⟩ := List.getElem_of_mem hx
    have go : ∀ j (hj : j < zs.length), ∃ a, (a < zs.length ∧ Lib.keeps zs.toArray a = true) ∧ zs.toArray[a]! = zs[j] := by
      intro j
      induction j with
      | zero => intro hj; exact ⟨0, ⟨hj, by simp [Lib.keeps]⟩, getB zs hj⟩
      | succ j ih =>
        intro hj
        by_cases e : zs.toArray[j + 1]! = zs.toArray[j]!
        · obtain ⟨a, h1, h2⟩ := ih (by omega)
          refine ⟨a, h1, ?_⟩
          rw [h2, ← getB zs hj, e, getB zs (by omega)]
        · exact ⟨j + 1, ⟨hj, by rw [Lib.keeps, decide_eq_true_eq]; exact .inr e⟩, getB zs hj⟩
    exact go j hj
theorem compact_asc {zs : List Int} (h : zs.Pairwise (· ≤ ·)) : (Lib.compact zs).Pairwise (· < ·) := by
  unfold Lib.compact Lib.compactUpTo
  rw [List.pairwise_map]
  refine List.Pairwise.imp_of_mem ?_ (List.Pairwise.filter _ List.pairwise_lt_range)
  intro a b ha hb hab
  simp only [List.mem_filter, List.mem_range] at ha hb
  have hk := hb.2
  rw [Lib.keeps, decide_eq_true_eq] at hk
  have h1 : zs.toArray[b]! ≠ zs.toArray[b - 1]! := hk.resolve_left (by omega)
  rw [getB zs hb.1, getB zs (show b - 1 < zs.length by omega)] at h1
  rw [getB zs ha.1, getB zs hb.1]
  rw [List.pairwise_iff_getElem] at h
  have h2 := h (b - 1) b (by omega) hb.1 (by omega)
  have h3 : zs[a] ≤ zs[b - 1]'(by omega) := by
    rcases Nat.lt_or_ge a (b - 1) with h' | h'
    · exact h a (b - 1) ha.1 (by omega) h'
    · have : a = b - 1 := by omega
      subst this
      exact Int.le_refl _
  omega
/-- The numbers of l that lie below M, each once, in order. -/
def dedL (M : Nat) (l : List Nat) : List Int := ((List.range M).filter fun r => l.contains r).map fun (r : Nat) => (r : Int)
def msort (xs : List Int) : List Int := xs.mergeSort fun x y => decide (x ≤ y)
theorem msort_len (xs : List Int) : (msort xs).length = xs.length := (List.mergeSort_perm _ _).length_eq
theorem compact_dedL {M : Nat} {l : List Nat} (h : ∀ x ∈ l, x < M) : Lib.compact (msort (l.map fun (x : Nat) => (x : Int))) = dedL M l := by
  apply asc_eq
  · apply compact_asc
    have := List.pairwise_mergeSort (le := fun (x y : Int) => decide (x ≤ y)) (fun a b c h1 h2 => by simp at *; omega) (fun a b => by simp; omega) (l.map fun (x : Nat) => (x : Int))
    exact this.imp fun h => by simpa using h
  · rw [dedL, List.pairwise_map]
    exact (List.Pairwise.filter _ List.pairwise_lt_range).imp fun h => by omega
  · intro x
    rw [compact_mem, msort, List.mem_mergeSort, dedL]
    simp only [List.mem_map, List.mem_filter, List.mem_range, List.contains_iff_mem]
    constructor
    · rintro ⟨a, ha, rfl⟩
      exact ⟨a, ⟨h a ha, ha⟩, rfl⟩
    · rintro ⟨a, ⟨_, ha⟩, rfl⟩
      exact ⟨a, ha, rfl⟩

end Go.Proofs.YtggblfnajeikjaaGreatDoor

namespace Go.Proofs.YtggblfnajeikjaaGreatDoor
open Go.RowKit Go.Sort
set_option linter.unusedVariables false
set_option linter.unusedSimpArgs false

theorem own_holds {w : World} {E B n c g off : Nat} {xs : List Int} (h : Own w E B (.slice (some ⟨g, off, none⟩) n c) (ints xs)) : n = xs.length ∧ n ≤ c ∧ g < w.heap.size ∧ Holds (Value.int .i64) w g off xs.toArray := by
  rcases h with ⟨h, _⟩ | ⟨g', off', c', cur, h1, h2, h3, h4, h5, h6, h7⟩
  · cases h
  · injection h1 with e1 e2 e3
    injection e1 with e1
    injection e1 with e4 e5
    subst e4 e5 e3
    rw [ints_length] at e2 h4
    refine ⟨e2, by omega, (Array.getElem?_eq_some_iff.1 h3).1, fun j hj => ?_⟩
    have hj' : j < xs.length := by simpa using hj
    refine ⟨?_, by simp [World.frozen?, h3]⟩
    have := h7 j (.int .i64 xs[j]) (by simp [ints, hj'])
    simp only [World.cell?, h3]
    rw [getElem!_pos xs.toArray j (by simpa using hj')]
    simpa using this
theorem own_put {w : World} {E B n c g off q : Nat} {os : Array Obj} {xs ys : List Int} (h : Own w E B (.slice (some ⟨g, off, none⟩) n c) (ints xs)) (hl : ys.length = xs.length) :
    Own (grow (putRow (Value.int .i64) (Sort.ahead w q) g off ys.toArray) os) E B (.slice (some ⟨g, off, none⟩) n c) (ints ys) ∧ w.grownBy (grow (putRow (Value.int .i64) (Sort.ahead w q) g off ys.toArray) os) (some g) := by
  rcases h with ⟨h, _⟩ | ⟨g', off', c', cur, h1, h2, h3, h4, h5, h6, h7⟩
  · cases h
  · injection h1 with e1 e2 e3
    injection e1 with e1
    injection e1 with e4 e5
    subst e4 e5 e3
    rw [ints_length] at e2 h4
    have hg : g < w.heap.size := (Array.getElem?_eq_some_iff.1 h3).1
    have hb : (grow (putRow (Value.int .i64) (Sort.ahead w q) g off ys.toArray) os).heap[g]? = some (.cells (putCells (Value.int .i64) off ys.toArray cur) E (0, 0)) := by
      rw [heap_grow_old _ _ (by simpa using hg)]
      simp [putRow, mapBlock, Sort.ahead, Array.getElem?_modify, h3, onCells]
    refine ⟨.inr ⟨g, off, c, _, by rw [ints_length, hl, e2], h2, hb, by rw [ints_length]; omega, h5, by simpa [putCells] using h6, fun j u hu => ?_⟩, rfl, rfl, rfl, by simp, fun k hk hne => ?_⟩
    · obtain ⟨hj, rfl⟩ := List.getElem?_eq_some_iff.1 hu
      have hj' : j < ys.length := by simpa [ints] using hj
      have hc := h7 j (.int .i64 (xs[j]'(by omega))) (by simp [ints, show j < xs.length by omega])
      simp only [putCells, Array.getElem?_mapIdx, hc, Option.map_some]
      rw [if_pos ⟨by omega, by simp; omega⟩, show off + j - off = j by omega, getElem!_pos ys.toArray j (by simpa using hj')]
      simp [ints]
    · rw [heap_grow_old _ _ (by simpa using hk)]
      have : g ≠ k := fun e => hne (by rw [e])
      simp [putRow, mapBlock, Sort.ahead, Array.getElem?_modify, this]
theorem own_cut {w : World} {E B n c m : Nat} {a : Addr} {xs : List Int} (h : Own w E B (.slice (some a) n c) (ints xs)) (hm : m ≤ xs.length) : Own w E B (.slice (some a) m c) (ints (xs.take m)) := by
  rcases h with ⟨h, _⟩ | ⟨g', off', c', cur, h1, h2, h3, h4, h5, h6, h7⟩
  · cases h
  · injection h1 with e1 e2 e3
    injection e1 with e1
    subst e1 e3
    rw [ints_length] at h4
    exact .inr ⟨g', off', c, cur, by rw [ints_length, List.length_take, Nat.min_eq_left hm], h2, h3, by rw [ints_length, List.length_take]; omega, h5, h6, fun j u hu => h7 j u (by
      rw [← ints_take, List.getElem?_take] at hu
      split at hu
      · exact hu
      · cases hu)⟩

theorem f_SortI (v : Value) (xs : List Int) (B : Nat) (w : World) (ho : Own w 3 B v (ints xs)) (h0 : 0 < xs.length) (hl : xs.length ≤ 1000000) :
    Calls Tryz.prog 184 #[v] w fun e w' => e = .returned (.tuple #[]) ∧ Own w' 3 B v (ints (msort xs)) ∧ w.grownBy w' v.ownBlock := by
  obtain ⟨a, c, rfl, h2, h3⟩ := ho.rd.formi
  obtain ⟨⟨g, off, fr⟩, rfl⟩ := ho.some_of (by rw [ints_length]; exact h0)
  obtain rfl : fr = none := by
    rcases ho with ⟨h, _⟩ | ⟨g', off', c', cur, h1, _⟩
    · cases h
    · injection h1 with h1
      injection h1 with h1
      injection h1
  obtain ⟨e, hc, hg, hH⟩ := own_holds ho
  refine (Tryz.slices_Sort_int g off c xs w hH hg (by omega)).mono ?_
  rintro e w' ⟨rfl, q, os, rfl⟩
  have := own_put (q := q) (os := os) ho (msort_len xs)
  exact ⟨rfl, this.1, this.2⟩

theorem f_CompactI (v : Value) (xs : List Int) (B : Nat) (w : World) (ho : Own w 3 B v (ints xs)) (h0 : 0 < xs.length) (hl : xs.length ≤ 1000000) :
    Calls Tryz.prog 185 #[v] w fun e w' => ∃ v', e = .returned v' ∧ Own w' 3 B v' (ints (Lib.compact xs)) ∧ w.grownBy w' v.ownBlock ∧ v'.ownBlock = v.ownBlock := by
  obtain ⟨a, c, rfl, h2, h3⟩ := ho.rd.formi
  obtain ⟨⟨g, off, fr⟩, rfl⟩ := ho.some_of (by rw [ints_length]; exact h0)
  obtain rfl : fr = none := by
    rcases ho with ⟨h, _⟩ | ⟨g', off', c', cur, h1, _⟩
    · cases h
    · injection h1 with h1
      injection h1 with h1
      injection h1
  obtain ⟨e, hc, hg, hH⟩ := own_holds ho
  have hcl := Lib.compact_length_le xs
  refine (Tryz.slices_Compact_int g off c xs w hH (by omega) hc).mono ?_
  rintro e w' ⟨rfl, q, rfl⟩
  have := own_put (q := q) (os := #[]) (ys := Lib.compact xs ++ List.replicate (xs.length - (Lib.compact xs).length) 0) ho (by simp; omega)
  have h1 := own_cut this.1 (m := (Lib.compact xs).length) (by simp)
  rw [List.take_left'] at h1
  · have e : ∀ W : World, grow W #[] = W := fun W => by simp [grow]
    rw [e] at h1 this
    exact ⟨_, rfl, h1, this.2, rfl⟩
  · rfl

end Go.Proofs.YtggblfnajeikjaaGreatDoor

namespace Go.Proofs.YtggblfnajeikjaaGreatDoor
set_option linter.unusedVariables false
set_option linter.unusedSimpArgs false

/-- Pop while the top is below x; the stack's top is its head; 't' for each. -/
def popA (x : Int) : List Int → List Int → List UInt8 → List Int × List Int × List UInt8
  | o, [], w => (o, [], w)
  | o, a :: r, w => if a < x then popA x (o ++ [a]) r (w ++ [116]) else (o, a :: r, w)
def stk1 (q : List Int × List Int × List UInt8) (x : Int) : List Int × List Int × List UInt8 :=
  ((popA x q.1 q.2.1 q.2.2).1, x :: (popA x q.1 q.2.1 q.2.2).2.1, (popA x q.1 q.2.1 q.2.2).2.2 ++ [112])
def stkR (xs : List Int) (k : Nat) : List Int × List Int × List UInt8 := (xs.take k).foldl stk1 ([], [], [])
def stkS (xs : List Int) : List Int := (stkR xs xs.length).1 ++ (stkR xs xs.length).2.1
def stkW (xs : List Int) : List UInt8 := (stkR xs xs.length).2.2 ++ List.replicate (stkR xs xs.length).2.1.length 116

theorem popA_eq (x : Int) (r : List Int) : ∀ o w, ∃ p q, r = p ++ q ∧ (popA x o r w) = (o ++ p, q, w ++ List.replicate p.length 116) ∧ (∀ y ∈ p, y < x) ∧ (∀ y q2, q = y :: q2 → ¬ y < x) := by
  induction r with
  | nil => intro o w; exact ⟨[], [], rfl, by simp [popA], by simp, by simp⟩
  | cons a r ih =>
    intro o w
    by_cases h : a < x
    · obtain ⟨p, q, h1, h2, h3, h4⟩ := ih (o ++ [a]) (w ++ [116])
      refine ⟨a :: p, q, by rw [h1]; rfl, ?_, ?_, h4⟩
      · rw [popA, if_pos h, h2]
        simp [List.replicate_succ]
      · intro y hy
        rcases List.mem_cons.1 hy with rfl | hy
        · exact h
        · exact h3 y hy
    · exact ⟨[], a :: r, rfl, by rw [popA, if_neg h]; simp, by simp, fun y q2 e => by injection e with e1 _; rw [← e1]; exact h⟩
theorem stkR_succ {xs : List Int} {k : Nat} {x : Int} (h : xs[k]? = some x) : stkR xs (k + 1) = stk1 (stkR xs k) x := by
  unfold stkR
  have : xs.take (k + 1) = xs.take k ++ [x] := by
    rw [List.take_add_one, h]; rfl
  rw [this, List.foldl_append]; rfl
/-- Lengths: out and stack hold what went in; the word is as long as what went in and what went out. -/
theorem stk1_len (q : List Int × List Int × List UInt8) (x : Int) (k : Nat) (h : q.1.length + q.2.1.length = k ∧ q.2.2.length = k + q.1.length) :
    (stk1 q x).1.length + (stk1 q x).2.1.length = k + 1 ∧ (stk1 q x).2.2.length = k + 1 + (stk1 q x).1.length := by
  obtain ⟨p, s, h1, h2, _, _⟩ := popA_eq x q.2.1 q.1 q.2.2
  unfold stk1
  rw [h2]
  rw [h1] at h
  simp at h ⊢
  omega
theorem stkR_len (xs : List Int) : ∀ k, k ≤ xs.length → (stkR xs k).1.length + (stkR xs k).2.1.length = k ∧ (stkR xs k).2.2.length = k + (stkR xs k).1.length := by
  intro k
  induction k with
  | zero => intro _; simp [stkR]
  | succ k ih =>
    intro h
    rw [stkR_succ (List.getElem?_eq_getElem (show k < xs.length by omega))]
    exact stk1_len _ _ _ (ih (by omega))
theorem stk1_perm (q : List Int × List Int × List UInt8) (x : Int) : ((stk1 q x).1 ++ (stk1 q x).2.1).Perm (x :: (q.1 ++ q.2.1)) := by
  obtain ⟨p, s, h1, h2, _, _⟩ := popA_eq x q.2.1 q.1 q.2.2
  unfold stk1
  rw [h2, h1]
  simp only [List.append_assoc]
  have := (List.perm_middle (a := x) (l₁ := q.1 ++ p) (l₂ := s))
  simpa using this
theorem fold_perm (L : List Int) : ∀ q, ((L.foldl stk1 q).1 ++ (L.foldl stk1 q).2.1).Perm (L ++ (q.1 ++ q.2.1)) := by
  induction L with
  | nil => intro q; exact List.Perm.refl _
  | cons x L ih =>
    intro q
    refine (ih (stk1 q x)).trans ?_
    refine ((stk1_perm q x).append_left L).trans ?_
    exact List.perm_middle
theorem stkR_all (xs : List Int) : stkR xs xs.length = xs.foldl stk1 ([], [], []) := by unfold stkR; rw [List.take_length]
theorem stkS_perm (xs : List Int) : (stkS xs).Perm xs := by
  unfold stkS
  rw [stkR_all]
  simpa using fold_perm xs ([], [], [])
/-- The stack's lowest is the greatest of all. -/
def StkG (q : List Int × List Int × List UInt8) : Prop := (q.1 = [] ∧ q.2.1 = []) ∨ ∃ r0 m, q.2.1 = r0 ++ [m] ∧ ∀ y ∈ q.1 ++ r0, y < m
theorem stk1_G {q : List Int × List Int × List UInt8} {x : Int} (h : StkG q) (hx : x ∉ q.1 ++ q.2.1) : ∃ r0 m, (stk1 q x).2.1 = r0 ++ [m] ∧ ∀ y ∈ (stk1 q x).1 ++ r0, y < m := by
  obtain ⟨p, s, h1, h2, h3, h4⟩ := popA_eq x q.2.1 q.1 q.2.2
  unfold stk1
  rw [h2]
  dsimp only
  rcases h with ⟨e1, e2⟩ | ⟨r0, m, e1, e2⟩
  · rw [e2] at h1
    obtain ⟨rfl, rfl⟩ := List.append_eq_nil_iff.1 h1.symm
    exact ⟨[], x, rfl, by rw [e1]; simp⟩
  · by_cases hs : s = []
    · subst hs
      rw [List.append_nil] at h1
      have hm : m < x := h3 m (by rw [← h1, e1]; simp)
      refine ⟨[], x, rfl, fun y hy => ?_⟩
      simp only [List.append_nil, List.mem_append] at hy
      rcases hy with hy | hy
      · have := e2 y (by simp [hy]); omega
      · exact h3 y hy
    · obtain ⟨s0, m', rfl⟩ : ∃ s0 m', s = s0 ++ [m'] := ⟨s.dropLast, s.getLast hs, (List.dropLast_concat_getLast hs).symm⟩
      rw [e1, ← List.append_assoc] at h1
      have hj := List.append_inj' h1 rfl
      obtain ⟨hr, hm⟩ := hj
      injection hm with hm _
      subst hm
      have hxm : x ≠ m := fun e => hx (by rw [e1, e]; simp)
      have hlt : x < m := by
        rcases s0 with _ | ⟨y, s1⟩
        · have := h4 m [] rfl; omega
        · have h5 := h4 y _ rfl
          have h6 := e2 y (by rw [hr]; simp)
          omega
      refine ⟨x :: s0, m, rfl, fun y hy => ?_⟩
      simp only [List.mem_append, List.mem_cons] at hy
      rcases hy with (hy | hy) | hy | hy
      · exact e2 y (by simp [hy])
      · exact e2 y (by rw [hr]; simp [hy])
      · rw [hy]; exact hlt
      · exact e2 y (by rw [hr]; simp [hy])
theorem fold_G (L : List Int) : ∀ q, StkG q → (L ++ (q.1 ++ q.2.1)).Nodup → StkG (L.foldl stk1 q) := by
  induction L with
  | nil => intro q h _; exact h
  | cons x L ih =>
    intro q h hn
    refine ih _ (.inr (stk1_G h ?_)) ?_
    · have := (List.nodup_cons.1 hn).1
      exact fun hx => this (List.mem_append_right L hx)
    · refine (List.Perm.nodup_iff ?_).2 hn
      exact ((stk1_perm q x).append_left L).trans List.perm_middle
theorem popA_all {x : Int} {r : List Int} (h : ∀ y ∈ r, y < x) (o : List Int) (w : List UInt8) : (popA x o r w).1 = o ++ r ∧ (popA x o r w).2.1 = [] := by
  obtain ⟨p, q, h1, h2, h3, h4⟩ := popA_eq x r o w
  rcases q with _ | ⟨y, q⟩
  · rw [h2, h1]; simp
  · exact absurd (h y (by rw [h1]; simp)) (h4 y q rfl)
theorem fold_asc (B : List Int) : ∀ q, B.Pairwise (· < ·) → (∀ y ∈ q.2.1, ∀ b ∈ B, y < b) → (B.foldl stk1 q).1 ++ (B.foldl stk1 q).2.1 = q.1 ++ q.2.1 ++ B := by
  induction B with
  | nil => intro q _ _; simp
  | cons b B ih =>
    intro q hB hq
    obtain ⟨p1, p2⟩ := popA_all (x := b) (r := q.2.1) (fun y hy => hq y hy b (by simp)) q.1 q.2.2
    obtain ⟨b1, b2⟩ := List.pairwise_cons.1 hB
    have e1 : (stk1 q b).1 = q.1 ++ q.2.1 := by unfold stk1; exact p1
    have e2 : (stk1 q b).2.1 = [b] := by unfold stk1; dsimp only; rw [p2]
    have := ih (stk1 q b) b2 (fun y hy c hc => by rw [e2, List.mem_singleton] at hy; subst hy; exact b1 c hc)
    rw [List.foldl_cons, this, e1, e2]
    simp
theorem stkS_split {A B : List Int} (hA : A ≠ []) (hn : (A ++ B).Nodup) (hB : B.Pairwise (· < ·)) (hAB : ∀ a ∈ A, ∀ b ∈ B, a < b) :
    ∃ A' m, stkS (A ++ B) = A' ++ (m :: B) ∧ A'.length + 1 = A.length ∧ (∀ a ∈ A', a < m) ∧ (∀ a ∈ A', ∀ b ∈ B, a < b) ∧ ∀ b ∈ B, m < b := by
  have hp := fold_perm A ([], [], [])
  simp only [List.append_nil] at hp
  have hg := fold_G A ([], [], []) (.inl ⟨rfl, rfl⟩) (by simpa using (List.nodup_append.1 hn).1)
  obtain ⟨o, r, w, hq⟩ : ∃ o r w, A.foldl stk1 ([], [], []) = (o, r, w) := ⟨_, _, _, rfl⟩
  rw [hq] at hp hg
  dsimp only at hp
  have hsub : ∀ y ∈ o ++ r, y ∈ A := fun y hy => hp.mem_iff.1 hy
  have hS : stkS (A ++ B) = o ++ r ++ B := by
    unfold stkS
    rw [stkR_all, List.foldl_append, hq]
    exact fold_asc B (o, r, w) hB fun y hy b hb => hAB y (hsub y (by simp [show y ∈ r from hy])) b hb
  rcases hg with ⟨e1, e2⟩ | ⟨r0, m, e1, e2⟩
  · dsimp only at e1 e2
    subst e1; subst e2
    exact absurd (List.nil_perm.1 hp) hA
  · dsimp only at e1 e2
    subst e1
    refine ⟨o ++ r0, m, by rw [hS]; simp, ?_, e2, fun a ha b hb => hAB a (hsub a (by simp at ha ⊢; rcases ha with h | h <;> simp [h])) b hb, fun b hb => hAB m (hsub m (by simp)) b hb⟩
    have := hp.length_eq
    simp at this ⊢
    omega
/-- After n rounds no more than the first 8 - n are out of place. -/
def Rnd (n : Nat) (ys : List Int) : Prop := ys.Nodup ∧ ∃ A B, ys = A ++ B ∧ A.length + n ≤ 8 ∧ B.Pairwise (· < ·) ∧ ∀ a ∈ A, ∀ b ∈ B, a < b
theorem Rnd.start {xs : List Int} (hn : xs.Nodup) (hl : xs.length ≤ 8) : Rnd 0 xs := ⟨hn, xs, [], by simp, by simpa using hl, List.Pairwise.nil, by simp⟩
theorem pairlt_adjB {ys : List Int} (h : ys.Pairwise (· < ·)) : adjB ys = true := by
  refine adjB_iff.2 fun m a b ha hb => ?_
  obtain ⟨h1, e1⟩ := List.getElem?_eq_some_iff.1 ha
  obtain ⟨h2, e2⟩ := List.getElem?_eq_some_iff.1 hb
  have := List.pairwise_iff_getElem.1 h m (m + 1) h1 h2 (by omega)
  rw [e1, e2] at this
  omega
theorem Rnd.step {n : Nat} {ys : List Int} (h : Rnd n ys) (hno : adjB ys = false) : n < 8 ∧ Rnd (n + 1) (stkS ys) := by
  obtain ⟨hn, A, B, rfl, hl, hB, hAB⟩ := h
  have hA : A ≠ [] := by
    rintro rfl
    rw [List.nil_append, pairlt_adjB hB] at hno
    cases hno
  obtain ⟨A', m, e, h1, h2, h3, h4⟩ := stkS_split hA hn hB hAB
  refine ⟨by omega, ?_, A', m :: B, e, by omega, List.pairwise_cons.2 ⟨h4, hB⟩, fun a ha b hb => ?_⟩
  · exact (stkS_perm _).nodup_iff.2 hn
  · rcases List.mem_cons.1 hb with rfl | hb
    · exact h2 a ha
    · exact h3 a ha b hb
/-- How many rounds. -/
def rndN : Nat → List Int → Nat
  | 0, _ => 0
  | f + 1, ys => if adjB ys then 0 else rndN f (stkS ys) + 1
theorem rndN_yes {f : Nat} {ys : List Int} (h : adjB ys = true) : rndN f ys = 0 := by cases f with | zero => rfl | succ f => rw [rndN, if_pos h]
theorem rndN_no {f : Nat} {ys : List Int} (h : adjB ys = false) : rndN (f + 1) ys = rndN f (stkS ys) + 1 := by rw [rndN, h]; rfl
theorem rndN_le : ∀ (f : Nat) (ys : List Int), rndN f ys ≤ f := by
  intro f
  induction f with
  | zero => intro ys; exact Nat.le_refl _
  | succ f ih =>
    intro ys
    rw [rndN]
    split
    · omega
    · have := ih (stkS ys); omega

/-- An order of at most eight numbers. -/
def OrdP (n : Nat) (xs : List Int) : Prop := (∀ x ∈ xs, 0 ≤ x ∧ x < (n : Int)) ∧ xs.Nodup
def ordB (n : Nat) (xs : List Int) : Bool := (xs.all fun x => decide (0 ≤ x) && decide (x < (n : Int))) && decide xs.Nodup
theorem ordB_iff {n : Nat} {xs : List Int} : ordB n xs = true ↔ OrdP n xs := by simp [ordB, OrdP]
theorem ordB_no {n : Nat} {xs : List Int} (h : ¬ OrdP n xs) : ordB n xs = false := by
  cases e : ordB n xs
  · rfl
  · exact absurd (ordB_iff.1 e) h
def shortB (xs : List Int) : Bool := decide (xs.length ≤ 8) && ordB xs.length xs
theorem shortB_iff {xs : List Int} : shortB xs = true ↔ xs.length ≤ 8 ∧ OrdP xs.length xs := by
  simp only [shortB, Bool.and_eq_true, decide_eq_true_eq, ordB_iff]
theorem shortB_perm {xs ys : List Int} (h : ys.Perm xs) (hx : shortB xs = true) : shortB ys = true := by
  obtain ⟨h1, h2, h3⟩ := shortB_iff.1 hx
  exact shortB_iff.2 ⟨by rw [h.length_eq]; exact h1, fun y hy => by rw [h.length_eq]; exact h2 y (h.mem_iff.1 hy), h.nodup_iff.2 h3⟩
/-- 'seen' after the first k. -/
def SeenP (n : Nat) (xs : List Int) (k : Nat) (S : List Bool) : Prop :=
  S.length = n ∧ (∀ (v : Nat) (b : Bool), S[v]? = some b → b = decide ((v : Int) ∈ xs.take k)) ∧ (∀ x ∈ xs.take k, 0 ≤ x ∧ x < (n : Int)) ∧ (xs.take k).Nodup
theorem SeenP.start (n : Nat) (xs : List Int) : SeenP n xs 0 (List.replicate n false) := ⟨by simp, fun v b h => by
  have := List.mem_of_getElem? h
  simp at this
  simp [this.2], by simp, by simp⟩
theorem take_add1 {xs : List Int} {k : Nat} {x : Int} (h : xs[k]? = some x) : xs.take (k + 1) = xs.take k ++ [x] := by rw [List.take_add_one, h]; rfl
theorem SeenP.next {n k X : Nat} {xs : List Int} {S : List Bool} (h : SeenP n xs k S) (hx : xs[k]? = some (X : Int)) (hX : X < n) (hf : S[X]? = some false) : SeenP n xs (k + 1) (S.set X true) := by
  obtain ⟨h1, h2, h3, h4⟩ := h
  have hno : (X : Int) ∉ xs.take k := by simpa using h2 X false hf
  rw [SeenP, take_add1 hx]
  refine ⟨by simpa using h1, fun v b hb => ?_, fun x hx => ?_, ?_⟩
  · by_cases e : v = X
    · subst e
      rw [List.getElem?_set_self (by omega)] at hb
      cases hb
      simp
    · rw [List.getElem?_set_ne (fun h => e h.symm)] at hb
      rw [h2 v b hb]
      have : ¬ (v : Int) = (X : Int) := by omega
      simp [this]
  · rcases List.mem_append.1 hx with hx | hx
    · exact h3 x hx
    · rw [List.mem_singleton] at hx; subst hx; omega
  · rw [List.nodup_append]
    exact ⟨h4, by simp, fun a ha b hb => by rw [List.mem_singleton] at hb; subst hb; exact fun e => hno (e ▸ ha)⟩
theorem SeenP.out {n k : Nat} {xs : List Int} {S : List Bool} {x : Int} (h : SeenP n xs k S) (hx : xs[k]? = some x) (hX : ¬ (0 ≤ x ∧ x < (n : Int))) : ordB n xs = false :=
  ordB_no fun ho => hX (ho.1 x (List.mem_of_getElem? hx))
theorem SeenP.twice {n k X : Nat} {xs : List Int} {S : List Bool} (h : SeenP n xs k S) (hx : xs[k]? = some (X : Int)) (hf : S[X]? = some true) : ordB n xs = false := by
  refine ordB_no fun ho => ?_
  have hy : (X : Int) ∈ xs.take k := by simpa using h.2.1 X true hf
  have hn := ho.2
  rw [← List.take_append_drop k xs, List.nodup_append] at hn
  refine hn.2.2 _ hy _ ?_ rfl
  obtain ⟨hk, e⟩ := List.getElem?_eq_some_iff.1 hx
  rw [List.drop_eq_getElem_cons hk, e]
  simp
theorem SeenP.fin {n : Nat} {xs : List Int} {S : List Bool} (h : SeenP n xs xs.length S) : ordB n xs = true := by
  refine ordB_iff.2 ?_
  have h3 := h.2.2
  rw [List.take_length] at h3
  exact h3

/-- A pattern that no stack can sort: places i < j < k. -/
def Tri (xs : List Int) (i j k : Nat) : Prop := i < j ∧ j < k ∧ k < xs.length ∧ xs.getD k 0 < xs.getD i 0 ∧ xs.getD i 0 < xs.getD j 0
def canB (xs : List Int) : Bool := (List.range xs.length).all fun k => (List.range xs.length).all fun i => (List.range xs.length).all fun j => !(decide (i < j ∧ j < k ∧ xs.getD k 0 < xs.getD i 0 ∧ xs.getD i 0 < xs.getD j 0))
theorem canB_yes {xs : List Int} (h : ∀ i j k, ¬ Tri xs i j k) : canB xs = true := by
  refine List.all_eq_true.2 fun k hk => List.all_eq_true.2 fun i hi => List.all_eq_true.2 fun j hj => ?_
  rw [List.mem_range] at hk
  have := h i j k
  simp only [Tri] at this
  simp only [Bool.not_eq_true', decide_eq_false_iff_not]
  exact fun hh => this ⟨hh.1, hh.2.1, hk, hh.2.2.1, hh.2.2.2⟩
theorem canB_no {xs : List Int} {i j k : Nat} (h : Tri xs i j k) : canB xs = false := by
  cases hc : canB xs
  · rfl
  · obtain ⟨h1, h2, h3, h4, h5⟩ := h
    have := List.all_eq_true.1 (List.all_eq_true.1 (List.all_eq_true.1 hc k (List.mem_range.2 h3)) i (List.mem_range.2 (by omega))) j (List.mem_range.2 (by omega))
    simp only [Bool.not_eq_true', decide_eq_false_iff_not] at this
    exact absurd ⟨h1, h2, h4, h5⟩ this
end Go.Proofs.YtggblfnajeikjaaGreatDoor

namespace Go.Proofs.YtggblfnajeikjaaGreatDoor
open Go.RowKit
set_option linter.unusedVariables false
set_option linter.unusedSimpArgs false

theorem elB : ElemOk Tryz.prog 127 4 1 (.bool false) := by
  obtain ⟨i, hi, h0, h1, h2⟩ := info_parts (show (Tryz.prog.info? 4).map (fun i => (i.zero, i.size, i.bytes)) = some (some (.bool false), 1, 1) by kernel_rfl)
  exact ⟨i, Tryz.underlying127, hi, h0, h1, h2, rfl⟩
def bools (bs : List Bool) : List Value := bs.map Value.bool
theorem bools_set (bs : List Bool) (k : Nat) (b : Bool) : (bools bs).set k (.bool b) = bools (bs.set k b) := by simp [bools, List.map_set]
theorem bools_len (bs : List Bool) : (bools bs).length = bs.length := by simp [bools]
theorem Rd.boolc {w : World} {p : Addr} {n c k : Nat} {S : List Bool} {b : Bool} (h : Rd w (.slice (some p) n c) (bools S)) (hb : S[k]? = some b) : w.cell? (p.add k) = some (.bool b) := by
  obtain ⟨hk, e⟩ := List.getElem?_eq_some_iff.1 hb
  obtain ⟨ad, had, hc⟩ := h.cell (k := k) (by rw [bools_len]; exact hk)
  injection had with had
  subst had
  rw [hc]
  simp [bools, e]

set_option maxHeartbeats 1000000 in
theorem i_isOrder (v : Value) (xs : List Int) (w : World) (h : Rd w v (ints xs)) (hl : xs.length ≤ 1000) :
    Calls Tryz.prog 136 #[v, .int .i64 (xs.length : Int)] w (RetB (.bool (ordB xs.length xs)) w) := by
  obtain ⟨a, n, c, rfl, HN, hnc, hc⟩ := h.formN
  rw [← HN.out] at hl ⊢
  have H0 : Hid (SeenP n xs 0 (List.replicate n false)) := SeenP.start n xs
  go_enter Tryz.func136, Tryz.ntmps136
  go_wp2_with (at_make; refine wpList_mk rfl _ _ 127 rfl elB rfl rfl (Nat.le_refl _) (by omega) (by omega) ?_; intro b w1 hb1 hown1 hg1)
  go_loopg [16] n (fun g i wr => ∃ (k : Nat) (S : List Bool), g = n - k ∧ k ≤ n ∧ i = .int .i64 k ∧ Hid (SeenP n xs k S) ∧ Own wr 4 w.heap.size (.slice (some b) n n) (bools S) ∧ Below w.heap.size w wr)
  case atStart => exact ⟨0, _, rfl, Nat.zero_le _, rfl, H0, by simpa [bools] using hown1, (Below.refl _ _).grown hg1 (Nat.le_refl _) (fun _ h => by cases h)⟩
  case round =>
    clear H0 hown1
    obtain ⟨k, S, hg, hk, rfl, HS, hown, hbel⟩ := hrel
    by_cases hlt : k < n
    · obtain ⟨ad, x, rfl, hcx, hx⟩ := (h.below hbel).int (k := k) (by have := HN.out; omega)
      have i1 : (k : Int) < (n : Int) := by omega
      by_cases hin : 0 ≤ x ∧ x < (n : Int)
      · obtain ⟨X, rfl⟩ := Int.eq_ofNat_of_zero_le hin.1
        have hXn : X < n := by omega
        have hXS : X < S.length := by rw [HS.out.1]; exact hXn
        obtain ⟨bq, hbq⟩ : ∃ bq, S[X]? = some bq := ⟨_, List.getElem?_eq_getElem hXS⟩
        have hcb := hown.rd.boolc hbq
        have hfz := hown.frozen rfl X
        have i2 : (X : Int) < (n : Int) := hin.2
        have i3 : ¬ (X : Int) < 0 := by omega
        have HBQ := Lib.hid hbq
        have hs := hown.set rfl (show X < (bools S).length by rw [bools_len]; exact hXS) (.bool true)
        have hb2 := hbel.grown hs.2 hbel.size (fun r hr => (hown.lt r hr).1)
        have hs1 := hs.1
        rw [bools_set] at hs1
        clear hbq hs hin
        cases bq with
        | false =>
          have HS2 : Hid (SeenP n xs (k + 1) (S.set X true)) := HS.out.next hx.out hXn HBQ.out
          go_wp2
          go_roundg (n - (k + 1))
          case measure => omega
          case rel => exact ⟨k + 1, _, rfl, by omega, by go_num, HS2, hs1, hb2⟩
        | true =>
          have HR : Hid (ordB n xs = false) := HS.out.twice hx.out HBQ.out
          clear hs1 hb2
          go_wp2
          go_ret
          exact ⟨ret_bool HR.out.symm, hbel⟩
      · have HR : Hid (ordB n xs = false) := HS.out.out hx.out hin
        by_cases h0 : x < 0
        · go_wp2
          go_ret
          exact ⟨ret_bool HR.out.symm, hbel⟩
        · have i3 : ¬ x < (n : Int) := by omega
          go_wp2
          go_ret
          exact ⟨ret_bool HR.out.symm, hbel⟩
    · obtain rfl : k = n := by omega
      have HR : Hid (ordB k xs = true) := by have := HS.out; rw [HN.out] at this; rw [Hid, HN.out]; exact this.fin
      go_wp2
      go_ret
      exact ⟨ret_bool HR.out.symm, hbel⟩

theorem i_isShortOrder (v : Value) (xs : List Int) (w : World) (h : Rd w v (ints xs)) : Calls Tryz.prog 81 #[v] w (RetB (.bool (shortB xs)) w) := by
  obtain ⟨a, n, c, rfl, HN, hnc, hc⟩ := h.formN
  by_cases h8 : n ≤ 8
  · have HK := i_isOrder _ xs w h (by have := HN.out; omega)
    rw [← HN.out] at HK
    have HR : Hid (shortB xs = ordB n xs) := by rw [Hid, shortB, ← HN.out]; simp [h8]
    have HK2 := Lib.hid HK
    clear HK
    have i1 : (n : Int) ≤ 8 := by omega
    go_enter Tryz.func81, Tryz.ntmps81
    go_wp2_with (go_at_call 136; refine HK2.out.mono ?_; rintro e w' ⟨rfl, hb⟩)
    go_ret
    exact ⟨by rw [HR.out]; rfl, hb⟩
  · have HR : Hid (shortB xs = false) := by rw [Hid, shortB, ← HN.out]; simp [h8]
    have i1 : ¬ (n : Int) ≤ 8 := by omega
    go_enter Tryz.func81, Tryz.ntmps81
    go_wp2
    go_ret
    exact ⟨ret_bool HR.out.symm, Below.refl _ _⟩

end Go.Proofs.YtggblfnajeikjaaGreatDoor

namespace Go.Proofs.YtggblfnajeikjaaGreatDoor
open Go.RowKit
set_option linter.unusedVariables false
set_option linter.unusedSimpArgs false

structure OwnsL (w : World) (E B : Nat) (L : List (Value × List Int)) : Prop where
  own : ∀ p ∈ L, Own w E B p.1 (ints p.2)
  ap : L.Pairwise fun p q => ∀ g, p.1.ownBlock = some g → q.1.ownBlock ≠ some g
section
variable {w w' : World} {E B : Nat} {L L1 L2 : List (Value × List Int)} {v v' : Value} {xs ys : List Int} {p0 p1 p2 p3 p4 : Value × List Int}
theorem OwnsL.turn (h : OwnsL w E B (L1 ++ (v, xs) :: L2)) (hg : w.grownBy w' v.ownBlock) (ho : Own w' E B v' (ints ys)) (hat : ∀ g, v'.ownBlock = some g → v.ownBlock = some g ∨ w.heap.size ≤ g) : OwnsL w' E B (L1 ++ (v', ys) :: L2) := by
  obtain ⟨a1, a2, a3⟩ := List.pairwise_append.1 h.ap
  obtain ⟨b1, b2⟩ := List.pairwise_cons.1 a2
  have lt : ∀ p ∈ L1 ++ (v, xs) :: L2, ∀ g, p.1.ownBlock = some g → g < w.heap.size := fun p hp g hgg => ((h.own p hp).lt g hgg).2
  refine ⟨fun p hp => ?_, List.pairwise_append.2 ⟨a1, List.pairwise_cons.2 ⟨fun q hq g h1 h2 => ?_, b2⟩, fun p hp q hq g h1 h2 => ?_⟩⟩
  · rcases List.mem_append.1 hp with hp | hp
    · exact (h.own p (by simp [hp])).apart hg fun g h1 h2 => a3 p hp (v, xs) (by simp) g h1 h2
    · rcases List.mem_cons.1 hp with rfl | hp
      · exact ho
      · exact (h.own p (by simp [hp])).apart hg fun g h1 h2 => b1 p hp g h2 h1
  · rcases hat g h1 with h3 | h3
    · exact b1 q hq g h3 h2
    · have := lt q (by simp [hq]) g h2; omega
  · rcases List.mem_cons.1 hq with rfl | hq
    · rcases hat g h2 with h3 | h3
      · exact a3 p hp (v, xs) (by simp) g h1 h3
      · have := lt p (by simp [hp]) g h1; omega
    · exact a3 p hp q (by simp [hq]) g h1 h2
theorem OwnsL.below (h : OwnsL w E B L) (hb : Below w.heap.size w w') : OwnsL w' E B L := ⟨fun p hp => (h.own p hp).below hb, h.ap⟩
theorem OwnsL.dr (h : OwnsL w E B L) (hd : Dr w w') : OwnsL w' E B L := h.below (hd.below _)
theorem OwnsL.fresh (h : OwnsL w E B (L1 ++ (v, xs) :: L2)) (hb : Below w.heap.size w w') (hB : B ≤ w.heap.size) (ho : Own w' E w.heap.size v' (ints ys)) : OwnsL w' E B (L1 ++ (v', ys) :: L2) := by
  obtain ⟨a1, a2, a3⟩ := List.pairwise_append.1 h.ap
  obtain ⟨b1, b2⟩ := List.pairwise_cons.1 a2
  have lt : ∀ p ∈ L1 ++ (v, xs) :: L2, ∀ g, p.1.ownBlock = some g → g < w.heap.size := fun p hp g hgg => ((h.own p hp).lt g hgg).2
  refine ⟨fun p hp => ?_, List.pairwise_append.2 ⟨a1, List.pairwise_cons.2 ⟨fun q hq g h1 h2 => ?_, b2⟩, fun p hp q hq g h1 h2 => ?_⟩⟩
  · rcases List.mem_append.1 hp with hp | hp
    · exact (h.own p (by simp [hp])).below hb
    · rcases List.mem_cons.1 hp with rfl | hp
      · exact ho.mono hB
      · exact (h.own p (by simp [hp])).below hb
  · have := lt q (by simp [hq]) g h2
    have := (ho.lt g h1).1
    omega
  · rcases List.mem_cons.1 hq with rfl | hq
    · have := lt p (by simp [hp]) g h1
      have := (ho.lt g h2).1
      omega
    · exact a3 p hp q (by simp [hq]) g h1 h2
theorem OwnsL.snoc (h : OwnsL w E B L) (hb : Below w.heap.size w w') (hB : B ≤ w.heap.size) (ho : Own w' E w.heap.size v' (ints ys)) : OwnsL w' E B (L ++ [(v', ys)]) := by
  refine ⟨fun p hp => ?_, List.pairwise_append.2 ⟨h.ap, by simp, fun p hp q hq g h1 h2 => ?_⟩⟩
  · rcases List.mem_append.1 hp with hp | hp
    · exact (h.own p hp).below hb
    · rw [List.mem_singleton] at hp
      subst hp
      exact ho.mono hB
  · rw [List.mem_singleton] at hq
    subst hq
    have := ((h.own p hp).lt g h1).2
    have := (ho.lt g h2).1
    omega
theorem OwnsL.nil (w : World) (E B : Nat) : OwnsL w E B [] := ⟨fun p h => (by cases h), List.Pairwise.nil⟩
theorem OwnsL.left (h : OwnsL w E B (L1 ++ L2)) : OwnsL w E B L1 := ⟨fun p hp => h.own p (by simp [hp]), (List.pairwise_append.1 h.ap).1⟩
theorem OwnsL.right (h : OwnsL w E B (L1 ++ L2)) : OwnsL w E B L2 := ⟨fun p hp => h.own p (by simp [hp]), (List.pairwise_append.1 h.ap).2.1⟩
theorem OwnsL.t0 (h : OwnsL w E B ((v, xs) :: L2)) (hg : w.grownBy w' v.ownBlock) (ho : Own w' E B v' (ints ys)) (hat : ∀ g, v'.ownBlock = some g → v.ownBlock = some g ∨ w.heap.size ≤ g) : OwnsL w' E B ((v', ys) :: L2) := OwnsL.turn (L1 := []) h hg ho hat
theorem OwnsL.t1 (h : OwnsL w E B (p0 :: (v, xs) :: L2)) (hg : w.grownBy w' v.ownBlock) (ho : Own w' E B v' (ints ys)) (hat : ∀ g, v'.ownBlock = some g → v.ownBlock = some g ∨ w.heap.size ≤ g) : OwnsL w' E B (p0 :: (v', ys) :: L2) := OwnsL.turn (L1 := [p0]) h hg ho hat
theorem OwnsL.t2 (h : OwnsL w E B (p0 :: p1 :: (v, xs) :: L2)) (hg : w.grownBy w' v.ownBlock) (ho : Own w' E B v' (ints ys)) (hat : ∀ g, v'.ownBlock = some g → v.ownBlock = some g ∨ w.heap.size ≤ g) : OwnsL w' E B (p0 :: p1 :: (v', ys) :: L2) := OwnsL.turn (L1 := [p0, p1]) h hg ho hat
theorem OwnsL.t3 (h : OwnsL w E B (p0 :: p1 :: p2 :: (v, xs) :: L2)) (hg : w.grownBy w' v.ownBlock) (ho : Own w' E B v' (ints ys)) (hat : ∀ g, v'.ownBlock = some g → v.ownBlock = some g ∨ w.heap.size ≤ g) : OwnsL w' E B (p0 :: p1 :: p2 :: (v', ys) :: L2) := OwnsL.turn (L1 := [p0, p1, p2]) h hg ho hat
theorem OwnsL.t4 (h : OwnsL w E B (p0 :: p1 :: p2 :: p3 :: (v, xs) :: L2)) (hg : w.grownBy w' v.ownBlock) (ho : Own w' E B v' (ints ys)) (hat : ∀ g, v'.ownBlock = some g → v.ownBlock = some g ∨ w.heap.size ≤ g) : OwnsL w' E B (p0 :: p1 :: p2 :: p3 :: (v', ys) :: L2) := OwnsL.turn (L1 := [p0, p1, p2, p3]) h hg ho hat
theorem OwnsL.f3 (h : OwnsL w E B (p0 :: p1 :: p2 :: (v, xs) :: L2)) (hb : Below w.heap.size w w') (hB : B ≤ w.heap.size) (ho : Own w' E w.heap.size v' (ints ys)) : OwnsL w' E B (p0 :: p1 :: p2 :: (v', ys) :: L2) := OwnsL.fresh (L1 := [p0, p1, p2]) h hb hB ho
theorem OwnsL.f4 (h : OwnsL w E B (p0 :: p1 :: p2 :: p3 :: (v, xs) :: L2)) (hb : Below w.heap.size w w') (hB : B ≤ w.heap.size) (ho : Own w' E w.heap.size v' (ints ys)) : OwnsL w' E B (p0 :: p1 :: p2 :: p3 :: (v', ys) :: L2) := OwnsL.fresh (L1 := [p0, p1, p2, p3]) h hb hB ho
theorem OwnsL.o0 (h : OwnsL w E B (p0 :: L)) : Own w E B p0.1 (ints p0.2) := h.own p0 (by simp)
theorem OwnsL.o1 (h : OwnsL w E B (p0 :: p1 :: L)) : Own w E B p1.1 (ints p1.2) := h.own p1 (by simp)
theorem OwnsL.o2 (h : OwnsL w E B (p0 :: p1 :: p2 :: L)) : Own w E B p2.1 (ints p2.2) := h.own p2 (by simp)
theorem OwnsL.o3 (h : OwnsL w E B (p0 :: p1 :: p2 :: p3 :: L)) : Own w E B p3.1 (ints p3.2) := h.own p3 (by simp)
theorem OwnsL.o4 (h : OwnsL w E B (p0 :: p1 :: p2 :: p3 :: p4 :: L)) : Own w E B p4.1 (ints p4.2) := h.own p4 (by simp)
theorem hat_of {b : Option Addr} {m c : Nat} {n : Nat} {r : Option Nat} (h : (Value.slice b m c).ownBlock = r ∨ ∃ k, n ≤ k ∧ (Value.slice b m c).ownBlock = some k) : ∀ g, (Value.slice b m c).ownBlock = some g → r = some g ∨ n ≤ g := fun g hg => by
  rcases h with h | ⟨k, hk, h⟩
  · exact .inl (h ▸ hg)
  · rw [h] at hg; cases hg; exact .inr hk
end

end Go.Proofs.YtggblfnajeikjaaGreatDoor

namespace Go.Proofs.YtggblfnajeikjaaGreatDoor
open Go.RowKit
set_option linter.unusedVariables false
set_option linter.unusedSimpArgs false

def natsI (l : List Nat) : List Int := l.map fun (x : Nat) => (x : Int)
theorem natsI_len (l : List Nat) : (natsI l).length = l.length := by simp [natsI]
theorem natsI_get {l : List Nat} {k x : Nat} (h : l[k]? = some x) : (natsI l)[k]? = some (x : Int) := by simp [natsI, h]
theorem natsI_app (a b : List Nat) : natsI (a ++ b) = natsI a ++ natsI b := by simp [natsI]
def resL (n : Int) (xss : List (List Int)) : List Int := if netOk n xss then dedL (2 ^ n.toNat) ((List.range (2 ^ n.toNat)).map (outM xss)) else []
theorem resL_no {n : Int} {xss : List (List Int)} (h : netOk n xss = false) : resL n xss = [] := by rw [resL, if_neg (by simp [h])]
theorem resL_ok {n : Int} {xss : List (List Int)} (h : netOk n xss = true) : resL n xss = dedL (2 ^ n.toNat) ((List.range (2 ^ n.toNat)).map (outM xss)) := by rw [resL, if_pos h]

set_option maxHeartbeats 1000000 in
theorem i_allMasks (N : Nat) (h8 : N ≤ 8) (w : World) : Calls Tryz.prog 122 #[.int .i64 N] w (RetOwn 3 (ints (natsI (List.range (2 ^ N)))) w) := by
  have hp := pow_le8 h8
  have e2 := shl_of N (by omega)
  obtain ⟨M, hM⟩ : ∃ M, 2 ^ N = M := ⟨_, rfl⟩
  rw [hM] at hp e2 ⊢
  clear hM
  have hlit := Own.lit0 (B := w.heap.size) w 3 (Nat.le_refl _)
  have hbA : Below w.heap.size w (w.alloc (.cells #[] 3)) := (Below.refl _ _).alloc (Nat.le_refl _) _
  go_enter Tryz.func122, Tryz.ntmps122
  go_wp2
  try rw [e2]
  clear e2
  go_loopg [3, 8] M (fun g vo iv wr => ∃ k : Nat, g = M - k ∧ k ≤ M ∧ iv = .int .i64 k ∧ Own wr 3 w.heap.size vo (ints (natsI (List.range k))) ∧ Below w.heap.size w wr)
  case atStart => exact ⟨0, rfl, Nat.zero_le _, rfl, hlit, hbA⟩
  case round =>
    clear hlit hbA
    obtain ⟨k, hg, hkl, rfl, ho, hb⟩ := hrel
    obtain ⟨ao, no, co, rfl, HN, _, _⟩ := ho.rd.formN
    by_cases hlt : k < M
    · have HLo : Hid ((ints (natsI (List.range k))).length = no) := by rw [Hid, ints_length, HN.out]
      have hno : no ≤ 256 := by have := HN.out; rw [natsI_len, List.length_range] at this; omega
      have HS : Hid (natsI (List.range (k + 1)) = natsI (List.range k) ++ [(k : Int)]) := by rw [Hid, List.range_succ, natsI_app]; rfl
      have hsb := hb.size
      have hn1 : (no + 1) * 8 ≤ 140737488355328 := by omega
      have hn2 : no + 1 ≤ 9223372036854775807 := by omega
      go_wp2_with (at_builtin; (refine wpList_app1m rfl _ _ 23 rfl elI ?_ ho ?_ ?_ hsb no HLo.out hn1 hn2 ?_); (focus exact rfl); (focus (simp [Act.eval])); (focus exact rfl); intro bn cn' w6 ho6 hg6 hat6)
      have hb6 := hb.grown hg6 hsb fun r hr => (ho.lt r hr).1
      go_roundg (M - (k + 1))
      case measure => omega
      case rel => exact ⟨k + 1, rfl, by omega, by go_num, by rw [HS.out, ints_append]; exact ho6, hb6⟩
    · obtain rfl : M = k := by omega
      go_wp2
      go_ret
      exact ⟨_, rfl, ho, hb⟩

set_option maxRecDepth 100000 in
set_option maxHeartbeats 2000000 in
theorem i_images (g : Nat → Nat) (M : Nat) (l : List Nat) (fn : Nat) (bnd : Array Value) (hkn : Known fn) (v : Value) (w : World) (h : Rd w v (ints (natsI l))) (h0 : 0 < l.length) (hl : l.length ≤ 256) (hM : ∀ x ∈ l, g x < M) (hM2 : M ≤ 256)
    (hf : ∀ (x : Nat) (W : World), x ∈ l → Below w.heap.size w W → Calls Tryz.prog fn (bnd.push (.int .i64 x)) W (RetB (.int .i64 (g x : Nat)) W)) :
    Calls Tryz.prog 121 #[v, .func (.func fn) bnd #[]] w (RetOwn 3 (ints (dedL M (l.map g))) w) := by
  have HSO := Lib.hid (fun (v : Value) (W : World) (ho : Own W 3 w.heap.size v (ints (natsI (l.map g)))) => f_SortI v _ w.heap.size W ho (by rw [natsI_len, List.length_map]; exact h0) (by rw [natsI_len, List.length_map]; omega))
  have HCO := Lib.hid (fun (v : Value) (W : World) (ho : Own W 3 w.heap.size v (ints (msort (natsI (l.map g))))) => f_CompactI v _ w.heap.size W ho (by rw [msort_len, natsI_len, List.length_map]; exact h0) (by rw [msort_len, natsI_len, List.length_map]; omega))
  have HD : Hid (Lib.compact (msort (natsI (l.map g))) = dedL M (l.map g)) := compact_dedL fun x hx => by
    obtain ⟨y, hy, rfl⟩ := List.mem_map.1 hx
    exact hM y hy
  rw [HD.out] at HCO
  have HF0 := Lib.hid hf
  obtain ⟨a, n, c, rfl, HN, _, _⟩ := h.formN
  have hn : n = l.length := by have := HN.out; rwa [natsI_len] at this
  have HNL : Hid (l.length = n) := hn.symm
  have hn256 : n ≤ 256 := by omega
  have hlit := Own.lit0 (B := w.heap.size) w 3 (Nat.le_refl _)
  have hbA : Below w.heap.size w (w.alloc (.cells #[] 3)) := (Below.refl _ _).alloc (Nat.le_refl _) _
  clear hf hn hM hl h0 HN
  go_enter Tryz.func121, Tryz.ntmps121
  go_wp2
  go_loopg [5, 11] n (fun gg vo iv wr => ∃ k : Nat, gg = n - k ∧ k ≤ n ∧ iv = .int .i64 k ∧ Own wr 3 w.heap.size vo (ints (natsI ((l.take k).map g))) ∧ Below w.heap.size w wr)
  case atStart => exact ⟨0, rfl, Nat.zero_le _, rfl, by simpa [natsI] using hlit, hbA⟩
  case round =>
    clear hlit hbA
    obtain ⟨k, hgk, hkl, rfl, ho, hb⟩ := hrel
    obtain ⟨ao, no, co, rfl, HNO, _, _⟩ := ho.rd.formN
    by_cases hlt : k < n
    · obtain ⟨x, hx⟩ : ∃ x, l[k]? = some x := ⟨_, List.getElem?_eq_getElem (by rw [HNL.out]; exact hlt)⟩
      obtain ⟨ad, y, rfl, hc, hy⟩ := (h.below hb).int (k := k) (by rw [natsI_len, HNL.out]; exact hlt)
      obtain rfl : y = (x : Int) := by have := hy.out; rw [natsI_get hx] at this; cases this; rfl
      have HF := Lib.hid (HF0.out x wr (List.mem_of_getElem? hx) hb)
      have hcall := hkn (bnd.push (.int .i64 x)) wr
      have HS : Hid (natsI ((l.take (k + 1)).map g) = natsI ((l.take k).map g) ++ [((g x : Nat) : Int)]) := by rw [Hid, take_snoc' hx, List.map_append, natsI_app]; rfl
      have HLo : Hid ((ints (natsI ((l.take k).map g))).length = no) := by rw [Hid, ints_length, HNO.out]
      have hno : no ≤ 256 := by have := HNO.out; rw [natsI_len, List.length_map, List.length_take] at this; omega
      have hsb := hb.size
      have hn1 : (no + 1) * 8 ≤ 140737488355328 := by omega
      have hn2 : no + 1 ≤ 9223372036854775807 := by omega
      generalize g x = z at HF HS
      clear hx hy
      go_wp2_with (first
        | ((with_reducible refine (HF.out).mono ?_); rintro e w2 ⟨rfl, hb2⟩; have ho2 := ho.below hb2; have hs2 : w.heap.size ≤ w2.heap.size := Nat.le_trans hsb hb2.size)
        | (at_builtin; (refine wpList_app1m rfl _ _ 23 rfl elI ?_ ho2 ?_ ?_ hs2 no HLo.out hn1 hn2 ?_); (focus exact rfl); (focus (simp [Act.eval])); (focus exact rfl); intro bn cn' w6 ho6 hg6 hat6))
      have hb6 := (hb.trans (hb2.mono hsb)).grown hg6 hs2 fun r hr => (ho2.lt r hr).1
      go_roundg (n - (k + 1))
      case measure => omega
      case rel => exact ⟨k + 1, rfl, by omega, by go_num, by rw [HS.out, ints_append]; exact ho6, hb6⟩
    · obtain rfl : n = k := by omega
      have hcn : l.take n = l := by rw [← HNL.out, List.take_length]
      rw [hcn] at ho
      clear hcn
      go_wp2_with (first
        | (go_at_call 184; refine (HSO.out _ _ ho).mono ?_; rintro e w2 ⟨rfl, hs2, hg2⟩)
        | (go_at_call 185; refine (HCO.out _ _ hs2).mono ?_; rintro e w3 ⟨v3, rfl, hs3, hg3, hb3⟩))
      go_ret
      exact ⟨_, rfl, hs3, (hb.grown hg2 hb.size fun r hr => (ho.lt r hr).1).grown hg3 (Nat.le_trans hb.size hg2.size) fun r hr => (hs2.lt r hr).1⟩

theorem k_bits : Known 123 := known Tryz.func123 (by kernel_rfl) (by kernel_rfl)
set_option maxHeartbeats 2000000 in
theorem i_ResultsOf (n : Int) (v : Value) (xss : List (List Int)) (w : World) (h : Rd2 w v xss) (hn : I64 n) : Calls Tryz.prog 67 #[.agg #[.int .i64 n, v]] w (RetOwn 3 (ints (resL n xss)) w) := by
  obtain ⟨a, c, rfl, h2, h3⟩ := h.form
  obtain ⟨w0, hw0, hb0, hz0, c0, c1⟩ := net_box w (.int .i64 n) (.slice a xss.length c) 30
  have h' := h.below hb0
  have HN := i_NetworkOk n _ xss _ h' hn
  cases hk : netOk n xss
  · rw [hk] at HN
    have HR := Lib.hid (resL_no hk)
    go_enter Tryz.func67, Tryz.ntmps67
    go_wp2_with (go_at_call 40; refine HN.mono ?_; rintro e w2 ⟨rfl, hb2⟩)
    go_ret
    rw [HR.out]
    exact ⟨_, rfl, Own.nil _ _ _, hb0.trans (hb2.mono (by omega))⟩
  rw [hk] at HN
  have HR := Lib.hid (resL_ok hk)
  obtain ⟨N, rfl, hN1, hN8, hL60⟩ := netOk_n hk
  rw [Int.toNat_natCast] at HR
  have hp := pow_le8 hN8
  have hp1 : 0 < 2 ^ N := Nat.two_pow_pos N
  have C0 := Lib.hid c0
  have C1 := Lib.hid c1
  have GA := Lib.hid (fun W => i_allMasks N hN8 W)
  have GI := Lib.hid (fun (u : Value) (W : World) (hW : Below w.heap.size w W) (hu : Rd W u (ints (natsI (List.range (2 ^ N))))) => i_images (outM xss) (2 ^ N) (List.range (2 ^ N)) 123 #[.agg #[.int .i64 N, .slice a xss.length c]] k_bits u W hu (by simpa using hp1) (by simpa using hp) (fun x hx => runM_lt hk (by simpa using hx) _) hp fun x W' hx hW' => i_bits N _ xss x W' (h.below (hW.trans (hW'.mono hW.size))) hk (by simpa using hx))
  obtain ⟨D, hD⟩ : ∃ D, dedL (2 ^ N) ((List.range (2 ^ N)).map (outM xss)) = D := ⟨_, rfl⟩
  rw [hD] at HR GI
  generalize natsI (List.range (2 ^ N)) = ms at GA GI
  clear hk hD hp hp1
  go_enter Tryz.func67, Tryz.ntmps67
  go_wp2_with (go_at_call 40; refine HN.mono ?_; rintro e w2 ⟨rfl, hb2⟩; have hbw2 : Below w.heap.size w w2 := hb0.trans (hb2.mono (by omega)); obtain ⟨c0, c1⟩ := Below.cells2 hb2 (show w.heap.size < w0.heap.size by omega) C0.out C1.out)
  have HT := keep_box c0 c1
  have K0 : Hid (∀ W : World, Below w2.heap.size w2 W → Calls Tryz.prog 122 #[.int .i64 N] W fun e w' => ∃ v, e = .returned v ∧ Rd w' v (ints ms) ∧ Below w2.heap.size w2 w' ∧ Below W.heap.size W w') := fun W hW => (GA.out W).mono fun e w' hh => by
    obtain ⟨vq, rfl, ho, hb⟩ := hh
    exact ⟨vq, rfl, ho.rd, hW.trans (hb.mono hW.size), hb⟩
  have K1 : Hid (∀ (u : Value) (W : World), Below w2.heap.size w2 W → Rd W u (ints ms) → Calls Tryz.prog 121 #[u, .func (.func 123) #[.agg #[.int .i64 N, .slice a xss.length c]] #[]] W fun e w' => ∃ v, e = .returned v ∧ Own w' 3 w2.heap.size v (ints D) ∧ Below w2.heap.size w2 w') := fun u W hW hu => (GI.out u W (hbw2.trans (hW.mono hbw2.size)) hu).mono fun e w' hh => by
    obtain ⟨vq, rfl, ho, hb⟩ := hh
    exact ⟨vq, rfl, ho.mono hW.size, hW.trans (hb.mono hW.size)⟩
  have BW2 := Lib.hid hbw2
  clear c0 c1 C0 C1 HN hbw2 hb2 hb0 h h' GA GI
  go_region_held3 (fun wx => Below w2.heap.size w2 wx ∧ wx.cell? ⟨w.heap.size, 0, none⟩ = some (.int .i64 N) ∧ wx.cell? ⟨w.heap.size, 1, none⟩ = some (.slice a xss.length c))
    (first | exact HT.out _ gI | exact HT.out _ gA | exact HT.out _ (by exact ⟨rfl, rfl, rfl, Nat.le_refl _, fun _ _ => rfl⟩) | go_keep)
    (first
      | (go_at_call 122; (with_reducible refine (K0.out _ (by exact (show _ ∧ _ ∧ _ from by assumption).1)).mono ?_); rintro e wA ⟨vA, rfl, rdA, gA, rA⟩)
      | (go_at_call 121; refine (K1.out _ _ (by exact (show _ ∧ _ ∧ _ from by assumption).1) (by exact rdA)).mono ?_; rintro e wI ⟨vI, rfl, oI, gI⟩))
  all_goals
    go_wp2
    go_ret
    rw [HR.out]
    exact ⟨_, rfl, oI.mono BW2.out.size, BW2.out.trans (gI.mono BW2.out.size)⟩

end Go.Proofs.YtggblfnajeikjaaGreatDoor
