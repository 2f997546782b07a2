/- Joined texts of the proof: RunMem. -/
import Derived.WalkKit
import Derived.WalkSpells
import Derived.WalkLawsBesides
import Derived.Deep.Draws
import Derived.Lib.Hide
import Derived.RegionTactic
import Derived.Test.YtggblfnajeikjaaGreatRows
import Derived.BigQuiet
import Derived.Deep.QuietTactic
import Derived.Deep.DeepCutAuto
import Derived.Deep.RegionLaw
import Derived.Lib.SliceRun
import Derived.Test.YtggblfnajeikjaaGreatJ1
import Derived.Test.YtggblfnajeikjaaGreatJ4
import Derived.Test.YtggblfnajeikjaaGreatJ6
namespace Go.Proofs.YtggblfnajeikjaaGreat
open Go.RowKit
set_option linter.unusedVariables false
set_option linter.unusedSimpArgs false

/-- 'clear' of one element of two cells. -/
theorem run_clear_two {P : Program} (w : World) (t e ty : TypeId) (z a b : Value) (ht : P.underlying t = some (.slice e)) (hv : ∀ w, (zeroValue e).run P w = .ok z w) (hz : z.cells = #[a, b]) (h1 : a.oneCell' = true) (h2 : b.oneCell' = true) (g o c : Nat)
    (hc : ∀ j, j < 2 → (w.cell? ⟨g, o + j, none⟩).isSome = true) (hf : ∀ j, j < 2 → w.frozen? ⟨g, o + j, none⟩ = false) :
    (Builtin.clear_ #[t] ty #[.slice (some ⟨g, o, none⟩) 1 c]).run P w = .ok (.tuple #[]) (w.setCells g o [a, b]) := by
  have hzc : (Builtin.zeroCells z.cells 1).toList = [a, b] := by
    rw [hz]
    apply List.ext_getElem
    · simp [Builtin.zeroCells]
    · intro i h1 h2
      match i, h2 with
      | 0, _ => simp [Builtin.zeroCells]
      | 1, _ => simp [Builtin.zeroCells]
  have hst := run_storeCells_cells (P := P) g o [a, b] 0 w (by simpa using hc) (by simpa using hf) (by intro v hv'; simp at hv'; rcases hv' with rfl | rfl <;> assumption)
  simp only [Nat.add_zero] at hst
  simp [Builtin.clear_, run_underlying ht, hv, hzc, hst]

theorem zeroRun (w : World) : (zeroValue 92).run Tryz.prog w = .ok (.agg #[.int .i64 0, .slice none 0 0]) w := by kernel_rfl
theorem elRun : ∃ i, Tryz.prog.underlying 90 = some (.slice 92) ∧ Tryz.prog.info? 92 = some i ∧ i.zero = some (.agg #[.int .i64 0, .slice none 0 0]) ∧ i.size = 2 ∧ i.bytes = 32 := by
  obtain ⟨i, hi, h0, h1, h2⟩ := info_parts (show (Tryz.prog.info? 92).map (fun i => (i.zero, i.size, i.bytes)) = some (some (.agg #[.int .i64 0, .slice none 0 0]), 2, 32) by kernel_rfl)
  exact ⟨i, Tryz.underlying90, hi, h0, h1, h2⟩

theorem step_run {P : Program} {w : World} {ops : Array Oper} {o : Oper} {a : Act} {K : Act → World → Prop} {Q : Exit → Act → World → Prop} {E : Prop} (hgd : o.guard = none) (s x : Operand) (t : TypeId)
    (ho : o.op = .call { callee := .builtin .append, args := #[s, x], argTypes := #[t, t] }) {vs vx v' : Value} {w' : World} (hs : a.eval s = vs) (hx : a.eval x = vx)
    (hr : ∀ ty, (Builtin.append_ #[t, t] ty #[vs, vx]).run P w = .ok v' w') (h : K (a.put o.dst v') w') : if Region.wanted o (yielded ops a.tmps) = true then Oper.wp P o a w K Q else E := by
  have hw : Region.wanted o (yielded ops a.tmps) = true := by simp [Region.wanted, hgd]
  rw [if_pos hw]
  unfold Oper.wp
  simp [execOp, ho, resolve, invoke, builtin, hs, hx, hr, Result.andThen]
  exact h
theorem row_two {w : World} {g o : Nat} {cur : Array Value} {t : TypeId} {a b : Value} (hg : w.heap[g]? = some (.cells cur t (0, 0))) :
    (w.setCells g o [a, b]).heap[g]? = some (.cells ((cur.setIfInBounds o a).setIfInBounds (o + 1) b) t (0, 0)) ∧ w.grownBy (w.setCells g o [a, b]) (some g) := by
  have e1 := setCell_eq_setRow w g o cur t (0, 0) a hg
  have h1 : (w.setCell ⟨g, o, none⟩ a).heap[g]? = some (.cells (cur.setIfInBounds o a) t (0, 0)) := by rw [e1]; exact setRow_heap w g cur _ t _ hg
  have e2 := setCell_eq_setRow (w.setCell ⟨g, o, none⟩ a) g (o + 1) _ t (0, 0) b h1
  have h2 : (w.setCells g o [a, b]) = (w.setCell ⟨g, o, none⟩ a).setCell ⟨g, o + 1, none⟩ b := rfl
  refine ⟨by rw [h2, e2]; exact setRow_heap _ g _ _ t _ h1, ?_⟩
  rw [h2, e2, e1]
  exact ⟨rfl, rfl, rfl, by simp, fun k _ hk => by rw [setRow_other _ g k _ (fun e => hk (by rw [e])), setRow_other _ g k _ (fun e => hk (by rw [e]))]⟩
set_option maxRecDepth 100000 in
set_option maxHeartbeats 2000000 in
theorem f_DeleteRun (g n cap i : Nat) (cur : Array Value) (w : World) (hg : w.heap[g]? = some (.cells cur 92 (0, 0))) (hsz : cur.size = cap * 2) (hn : n ≤ cap) (hi : i < n) (hcap : cap ≤ 9223372036854775807) (h1 : ∀ u ∈ cur.toList.take (n * 2), u.oneCell' = true) :
    Calls Tryz.prog 110 #[.slice (some ⟨g, 0, none⟩) n cap, .int .i64 (i : Int), .int .i64 ((i : Int) + 1)] w fun e w' => e = .returned (.slice (some ⟨g, 0, none⟩) (n - 1) cap) ∧
      ∃ cur', w'.heap[g]? = some (.cells cur' 92 (0, 0)) ∧ cur'.size = cap * 2 ∧ cur'.toList.take ((n - 1) * 2) = cur.toList.take (i * 2) ++ (cur.toList.take (n * 2)).drop ((i + 1) * 2) ∧ w.grownBy w' (some g) := by
  obtain ⟨inf, hu, hinf, hz, hs2, _⟩ := elRun
  obtain ⟨m, hm⟩ : ∃ m, n - 1 = m := ⟨_, rfl⟩
  obtain ⟨news, hnews⟩ : ∃ news, (cur.toList.take (n * 2)).drop ((i + 1) * 2) = news := ⟨_, rfl⟩
  have hnl : news.length = (n - (i + 1)) * 2 := by rw [← hnews]; simp [hsz]; omega
  have hg1 : w.drew.heap[g]? = some (.cells cur 92 (0, 0)) := hg
  obtain ⟨A, hA0, hA1⟩ : ∃ A : Addr, (cap = i + 1 → A = ⟨g, 0, none⟩) ∧ (¬ cap = i + 1 → A = ⟨g, (i + 1) * 2, none⟩) := ⟨if cap = i + 1 then ⟨g, 0, none⟩ else ⟨g, (i + 1) * 2, none⟩, fun e => if_pos e, fun e => if_neg e⟩
  have hsrc : ∀ j u, news[j]? = some u → w.drew.cell? (A.add j) = some u := fun j u hu => by
    have hj := (List.getElem?_eq_some_iff.1 hu).1
    rw [← hnews, List.getElem?_drop, List.getElem?_take, if_pos (by omega)] at hu
    rw [hA1 (by omega), Addr.add_lit, cell_of_row w.drew g _ cur 92 (0, 0) hg1]
    simpa using hu
  obtain ⟨row, hrow⟩ : ∃ row, (cur.toList.take (i * inf.size) ++ news ++ cur.toList.drop (i * inf.size + news.length)).toArray = row := ⟨_, rfl⟩
  have HA : Hid (∀ ty, (Builtin.append_ #[90, 90] ty #[.slice (some ⟨g, 0, none⟩) i cap, .slice (some A) (n - (i + 1)) (cap - (i + 1))]).run Tryz.prog w.drew = .ok (.slice (some ⟨g, 0, none⟩) m cap) (w.drew.setRow g row)) := fun ty => by
    have := run_append_room (P := Tryz.prog) (w := w.drew) 90 ty 92 inf hu hinf g i cap cur hg1 A (n - (i + 1)) (cap - (i + 1)) news (by rw [hs2]; exact hnl) hsrc (fun u hu => h1 u (by
      rw [← hnews] at hu
      exact List.mem_of_mem_drop hu)) (by omega) (by rw [hs2]; omega)
    rw [this, hrow, show i + (n - (i + 1)) = m by omega]
  have HW : Hid ((w.drew.setRow g row).heap[g]? = some (.cells row 92 (0, 0))) := setRow_heap _ g cur _ _ _ hg1
  have hrs : row.size = cap * 2 := by rw [← hrow]; simp [hs2]; omega
  have HG1 : Hid (w.grownBy (w.drew.setRow g row) (some g)) := ⟨rfl, rfl, rfl, by simp, fun k _ hk => setRow_other w.drew g k _ (fun e => hk (by rw [e]))⟩
  obtain ⟨W1, hW1⟩ : ∃ W1, w.drew.setRow g row = W1 := ⟨_, rfl⟩
  rw [hW1] at HA HW HG1
  have HCL : Hid (∀ ty, (Builtin.clear_ #[90] ty #[.slice (some ⟨g, m * 2, none⟩) (n - m) (cap - m)]).run Tryz.prog W1 = .ok (.tuple #[]) (W1.setCells g (m * 2) [.int .i64 0, .slice none 0 0])) := fun ty => by
    rw [show n - m = 1 by omega]
    exact run_clear_two W1 90 92 ty _ _ _ hu zeroRun rfl rfl rfl g (m * 2) _ (fun j hj => by
      rw [cell_of_row W1 g _ row 92 (0, 0) HW.out]
      rw [Array.getElem?_eq_getElem (by omega)]; rfl) (fun j hj => by
      simp [World.frozen?, HW.out])
  obtain ⟨h5, h6⟩ := row_two (o := m * 2) (a := .int .i64 0) (b := .slice none 0 0) HW.out
  have HFIN : Hid (∃ cur', (W1.setCells g (m * 2) [.int .i64 0, .slice none 0 0]).heap[g]? = some (.cells cur' 92 (0, 0)) ∧ cur'.size = cap * 2 ∧ cur'.toList.take (m * 2) = cur.toList.take (i * 2) ++ news ∧ w.grownBy (W1.setCells g (m * 2) [.int .i64 0, .slice none 0 0]) (some g)) := by
    refine ⟨_, h5, by simp [hrs], ?_, HG1.out.trans h6⟩
    rw [Array.toList_setIfInBounds, Array.toList_setIfInBounds, List.take_set_of_le (by omega), List.take_set_of_le (by omega), ← hrow]
    have hl1 : (cur.toList.take (i * inf.size)).length = i * 2 := by simp [hs2, hsz]; omega
    rw [hs2] at hl1 ⊢
    show List.take (m * 2) (cur.toList.take (i * 2) ++ news ++ cur.toList.drop (i * 2 + news.length)) = _
    exact List.take_left' (by rw [List.length_append, hl1, hnl]; omega)
  have i1 : (i : Int) + 1 ≤ (n : Int) := by omega
  have i2 : (i : Int) ≤ (n : Int) := by omega
  have i3 : (n : Int) ≤ (cap : Int) := by omega
  have i4 : ((i : Int) == (i : Int) + 1) = false := by rw [beq_eq_false_iff_ne]; omega
  have i5 : i ≤ cap := by omega
  have i6 : i + 1 ≤ n := by omega
  have i7 : ((i : Int) + 1).toNat = i + 1 := by omega
  have i8 : m ≤ n := by omega
  have i9 : ¬ cap = m := by omega
  have i10 : n ≤ cap := hn
  rw [hm, hnews]
  clear hg hg1 h1 hnews hnl hsrc hrow hrs hW1 hm h5 h6 hs2 hz hinf hu hsz
  go_enter Tryz.func110, Tryz.ntmps110
  have i11 : (0 : Int) ≤ (i : Int) + 1 := by omega
  by_cases e : cap = i + 1
  · have hAe := hA0 e
    clear hA0 hA1
    subst hAe
    obtain rfl : n = i + 1 := by omega
    subst e
    rw [Nat.sub_self] at HA
    have j1 : (i : Int) ≤ (i : Int) + 1 := by omega
    have j2 : i ≤ i + 1 := by omega
    go_upto_region 5 with (fail)
    go_region_law (refine step_run (by rfl) _ _ _ (by rfl) (by rfl) (by rfl) HA.out ?_)
    have hcl := HCL.out
    go_wp2
    go_ret
    exact ⟨rfl, HFIN.out⟩
  · have hAe := hA1 e
    clear hA0 hA1
    subst hAe
    go_upto_region 5 with (fail)
    go_region_law (refine step_run (by rfl) _ _ _ (by rfl) (by rfl) (by rfl) HA.out ?_)
    have hcl := HCL.out
    go_wp2
    go_ret
    exact ⟨rfl, HFIN.out⟩

end Go.Proofs.YtggblfnajeikjaaGreat
