/- Walks: the comparators of a level, the reference. -/
import Derived.Test.YtdfjopcfgpigoaaLevelPairs
namespace Go.Proofs.Ytdfjopcfgpigoaa
open Go.RowKit
set_option linter.unusedVariables false
set_option linter.unusedSimpArgs false

set_option maxHeartbeats 1000000 in
theorem S_LevelPairs (w : World) (n : Int) (hn : I64 n) (v : Value) (xss : List (List Int)) (h : Rd2 w v xss) (fx : I64ss xss) (lx : SzOk xss) (lvl : Int) (hlv : I64 lvl) : Calls Try.prog 32 #[.agg #[.int .i64 n, v], .int .i64 lvl] w (RetOwn2 (levelPairs n xss lvl) w) := by
  obtain ⟨a, c, rfl, h2, h3⟩ := h.form
  have hbA : Below w.heap.size w (w.alloc (.cells #[.int .i64 n, .slice a xss.length c] 32)) := (Below.refl _ _).alloc (Nat.le_refl _) _
  have h' := h.alloc (.cells #[.int .i64 n, .slice a xss.length c] 32)
  have HN := s_NetworkOk n _ xss _ h' hn
  cases hk : netOk n xss
  · rw [hk] at HN
    have HR : Hid (levelPairs n xss lvl = []) := by simp [levelPairs, hk, Hid]
    go_enter Try.func32, Try.ntmps32
    go_wp2_with (go_at_call 51; refine HN.mono ?_; rintro e w2 ⟨rfl, hb2⟩)
    go_ret
    rw [HR.out]
    exact ⟨_, rfl, Own2.nil _ _ _ _ _, hbA.trans (hb2.mono (by simp))⟩
  rw [hk] at HN
  obtain ⟨N, rfl, hN1, hN8, hL60⟩ := netOk_n hk
  have hll := lvM_length xss xss.length
  have HR : Hid (levelPairs (N : Int) xss lvl = lpM xss (lvM xss xss.length).2 lvl (lvM xss xss.length).2.length) := by simp [levelPairs, hk, Hid]
  have HD := Lib.hid (fun (wq : World) (hq : Below w.heap.size w wq) => s_l02Levels N _ xss wq (h.below hq) hk)
  have HW := Lib.hid (fun k xs => netOk_row (k := k) (xs := xs) hk)
  obtain ⟨lv, hlve⟩ : ∃ lv, (lvM xss xss.length).2 = lv := ⟨_, rfl⟩
  rw [hlve] at HD HR hll
  clear hk hlve
  have bx := box_cells w (.int .i64 N) (.slice a xss.length c) 32
  have HC : Hid (∀ wx : World, Below (w.heap.size + 1) (w.alloc (.cells #[.int .i64 N, .slice a xss.length c] 32)) wx → wx.cell? ⟨w.heap.size, 0, none⟩ = some (.int .i64 N) ∧ wx.cell? ⟨w.heap.size, 1, none⟩ = some (.slice a xss.length c)) :=
    fun wx hb => ⟨(hb.cell (by simp)).trans bx.1, (hb.cell (by simp)).trans bx.2⟩
  clear bx
  go_enter Try.func32, Try.ntmps32
  go_wp2_with (first
    | (go_at_call 51; refine HN.mono ?_; rintro e w2 ⟨rfl, hb2⟩
       have hb2' : Below (w.heap.size + 1) (w.alloc (.cells #[.int .i64 N, .slice a xss.length c] 32)) w2 := hb2.mono (by simp)
       have hbB : Below w.heap.size w w2 := hbA.trans (hb2.mono (by simp))
       have hz2 : w.heap.size + 1 ≤ w2.heap.size := by have := hb2.size; simp at this; omega
       have hbL : Below w.heap.size w (w2.alloc (.cells #[] 42)) := hbB.alloc hbB.size _
       have hbL' : Below (w.heap.size + 1) (w.alloc (.cells #[.int .i64 N, .slice a xss.length c] 32)) (w2.alloc (.cells #[] 42)) := hb2'.alloc hz2 _
       obtain ⟨c0, c1⟩ := HC.out _ hbL')
    | (go_at_call 57; refine (HD.out _ hbL).mono ?_; rintro e w3 ⟨vl, rfl, hl3, hb3⟩; obtain ⟨al, cl, rfl, _, _⟩ := hl3.rd.formi))
  have hz3 := hb3.size
  have hzL : (w2.alloc (.cells #[] 42)).heap.size = w2.heap.size + 1 := by simp
  have hbC : Below w.heap.size w w3 := hbL.trans (hb3.mono (by omega))
  have hbC' := hbL'.trans (hb3.mono (by omega))
  have hl4 : Own w3 3 w.heap.size (.slice al lv.length cl) (ints lv) := hl3.mono (by have := hbB.size; omega)
  have ho3 : Own2 w3 42 3 (w.heap.size + 1) w3.heap.size (.slice (some ⟨w2.heap.size, 0, none⟩) 0 0) [] := by
    refine ⟨[], ?_, fun k hk => ?_, RowsOwn.nil _ _ _ _⟩
    · have := (Own.lit0 w2 42 hz2).below hb3
      exact this
    · simp [Value.ownBlock] at hk
      omega
  have hap3 : ∀ g, (Value.slice (some ⟨w2.heap.size, 0, none⟩) 0 0).ownBlock = some g → (Value.slice al lv.length cl).ownBlock ≠ some g := fun g h2 h3 => by
    have := (hl3.lt g h3).1
    simp [Value.ownBlock] at h2
    omega
  clear hl3 hzL hz3 hb3 hbL hbL' hb2 hb2' hbB hz2 c0 c1 HN HD
  go_loopw [5, 15] (fun vo i wr => ∃ k : Nat, k ≤ lv.length ∧ i = .int .i64 k ∧ Own2 wr 42 3 (w.heap.size + 1) wr.heap.size vo (lpM xss lv lvl k) ∧ Own wr 3 w.heap.size (.slice al lv.length cl) (ints lv) ∧ (∀ g, vo.ownBlock = some g → (Value.slice al lv.length cl).ownBlock ≠ some g) ∧ Below w.heap.size w wr ∧ Below (w.heap.size + 1) (w.alloc (.cells #[.int .i64 N, .slice a xss.length c] 32)) wr)
    (fun _ i _ => lv.length - (intOf i).toNat)
  case atStart => exact ⟨0, Nat.zero_le _, rfl, ho3, hl4, hap3, hbC, hbC'⟩
  case round =>
    clear ho3 hl4 hap3 hbC hbC'
    obtain ⟨k, hkl, rfl, ho, hl, hap, hb, hb'⟩ := hrel
    by_cases hlt : k < lv.length
    · obtain ⟨adl, x, hadl, hcl, hx⟩ := hl.rd.int hlt
      subst hadl
      obtain ⟨ad, b, m, d, xs, rfl, hc0, hxx, hm, hmd, hd, hr⟩ := h.row (show k < xss.length by omega)
      have hsz := lpM_size xss lv lvl k (by omega)
      have hsb := hb.size
      have hsb1 : w.heap.size + 1 ≤ wr.heap.size := by have := hb'.size; simp at this; omega
      obtain ⟨c0, c1⟩ := HC.out _ hb'
      by_cases e : x = lvl
      · have d0 : (x == lvl) = true := by simpa using e
        have HL := Lib.hid (lpM_yes (lvl := lvl) hx.out hxx.out e)
        clear e
        obtain ⟨rows, hov, hT, hrows⟩ := ho
        have hrl : rows.length ≤ 60 := by have := hrows.1; omega
        obtain ⟨ao, co, rfl, _, _⟩ := hov.rd.form
        obtain ⟨p, q, rfl, hpN, hqN, hpq⟩ := HW.out k xs hxx.out
        obtain rfl : m = 2 := hm.out
        obtain ⟨z, x', rfl, hcx, hxx1⟩ := hr.int (k := 0) (by simp)
        obtain ⟨z', y', hz, hcy, hyy1⟩ := hr.int (k := 1) (by simp)
        obtain rfl : z = z' := by injection hz
        clear hz
        have e1 := hxx1.out
        have e2 := hyy1.out
        simp only [List.getElem?_cons_zero, List.getElem?_cons_succ, Option.some.injEq] at e1 e2
        subst e1 e2
        rw [add_succ] at hcy
        have hcx' : w.cell? z = some (.int .i64 p) := by simpa [Addr.add] using hcx
        clear hcx
        have HSS : Hid (∀ wx : World, Below w.heap.size w wx → Below (w.heap.size + 1) (w.alloc (.cells #[.int .i64 N, .slice (some ad) xss.length c] 32)) wx → wx.cell? ⟨w.heap.size, 1, none⟩ = some (.slice (some ad) xss.length c) ∧ wx.cell? (ad.add k) = some (.slice (some z) 2 d) ∧ wx.cell? z = some (.int .i64 p) ∧ wx.cell? ⟨z.block, z.off + (0 + 1), none⟩ = some (.int .i64 q)) := by
          intro wx hbx hbx'
          exact ⟨(HC.out _ hbx').2, (hbx.cell (World.block_lt_of_cell? w _ hc0)).trans hc0, (hbx.cell (World.block_lt_of_cell? w _ hcx')).trans hcx', (hbx.cell (World.block_lt_of_cell? w _ hcy)).trans hcy⟩
        clear hc0 hcx' hcy c1 c0
        obtain ⟨c1, q1, q2, q3⟩ := HSS.out _ hb hb'
        have hlit : Own (wr.alloc (.cells #[.int .i64 p, .int .i64 q] 3)) 3 (w.heap.size + 1) (.slice (some ⟨wr.heap.size, 0, none⟩) 2 2) (ints [(p : Int), (q : Int)]) := by
          have := Own.lit wr 3 (w.heap.size + 1) #[.int .i64 p, .int .i64 q] hsb1 (by simp)
          simpa [ints] using this
        have hrA0 := hrows.alloc (.cells #[.int .i64 p, .int .i64 q] 3)
        have hlt2 : ∀ k, (Value.slice (some ⟨wr.heap.size, 0, none⟩) 2 2).ownBlock = some k → wr.heap.size ≤ k ∧ k < wr.heap.size + 1 := fun k hk => by simp [Value.ownBlock] at hk; omega
        have hrA := hrA0.snoc hlit hlt2 (Nat.le_succ _)
        have hoA := hov.alloc (.cells #[.int .i64 p, .int .i64 q] 3)
        have hlA := hl.alloc (.cells #[.int .i64 p, .int .i64 q] 3)
        have hbXA : Below wr.heap.size wr (wr.alloc (.cells #[.int .i64 p, .int .i64 q] 3)) := (Below.refl _ _).alloc (Nat.le_refl _) _
        have hzA : w.heap.size + 1 ≤ (wr.alloc (.cells #[.int .i64 p, .int .i64 q] 3)).heap.size := by simp; omega
        have hbYA := hb.trans (hbXA.mono hsb)
        have hbYA' := hb'.trans (hbXA.mono hsb1)
        have hzA' := hbYA.size
        have i1 : (k : Int) < (xss.length : Int) := by omega
        go_wp2
        go_region_held3 (fun wx => wx.cell? ⟨w.heap.size, 1, none⟩ = some (.slice (some ad) xss.length c) ∧ wx.cell? (ad.add k) = some (.slice (some z) 2 d) ∧ wx.cell? z = some (.int .i64 p) ∧ wx.cell? ⟨z.block, z.off + (0 + 1), none⟩ = some (.int .i64 q))
          (first | exact HSS.out _ hb7 hb7' | go_keep)
          ((refine step_app1 (by rfl) _ _ _ (by rfl) elII (by rfl) (by exact hoA) (by show Value.slice (some ⟨wr.heap.size + 1, 0, none⟩) 1 1 = _; simp) (by rfl) (by exact hzA) (by omega) (by omega) ?_; intro bn cn' w6 ho6 hg6 hat6; have hb7 := (hbYA).grown hg6 (by exact hzA') (fun r hr => by have := (hov.lt r hr).1; omega); have hb7' := (hbYA').grown hg6 (by exact hzA) (fun r hr => (hov.lt r hr).1)))
        have ho7 := Own2.app hrA hoA (by decide) hg6 ho6 (by have := hg6.size; simp at this; omega)
        have hl7 := hlA.apart hg6 fun g h2 h3 => hap g h3 h2
        have hap7 : ∀ g, (Value.slice bn (rows.length + 1) cn').ownBlock = some g → (Value.slice (some adl) lv.length cl).ownBlock ≠ some g := fun g h2 h3 => by
          rcases hat6 with e | ⟨q, hq, e⟩
          · exact hap g (e ▸ h2) h3
          · rw [e] at h2
            cases h2
            have := (hlA.lt _ h3).2
            omega
        go_wp2
        go_roundw
        case rel => exact ⟨k + 1, by omega, by go_num, by rw [HL.out]; exact ho7, hl7, hap7, hb7, hb7'⟩
        case measure => simp [intOf]; omega
      · have d0 : (x == lvl) = false := by rw [beq_eq_false_iff_ne]; exact e
        have HL := Lib.hid (lpM_no (xss := xss) (lvl := lvl) hx.out e)
        clear e
        go_wp2
        go_roundw
        case rel => exact ⟨k + 1, by omega, by go_num, by rw [HL.out]; exact ho, hl, hap, hb, hb'⟩
        case measure => simp [intOf]; omega
    · obtain rfl : lv.length = k := by omega
      go_wp2
      go_ret
      rw [HR.out]
      exact ⟨_, rfl, ho.mono (by omega) (Nat.le_refl _), hb⟩

end Go.Proofs.Ytdfjopcfgpigoaa
