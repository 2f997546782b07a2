/- Walks: the comparators of a level. -/
import Derived.Test.YtdfjopcfgpigoaaPipeOk
namespace Go.Proofs.Ytdfjopcfgpigoaa
open Go.RowKit
set_option linter.unusedVariables false
set_option linter.unusedSimpArgs false

def lpM (xss : List (List Int)) (lv : List Int) (lvl : Int) : Nat → List (List Int)
  | 0 => []
  | k + 1 => if lv.getD k 0 = lvl then lpM xss lv lvl k ++ [xss.getD k []] else lpM xss lv lvl k
def levelPairs (n : Int) (xss : List (List Int)) (lvl : Int) : List (List Int) := if netOk n xss then lpM xss (lvM xss xss.length).2 lvl (lvM xss xss.length).2.length else []
theorem lpM_yes {xss : List (List Int)} {lv : List Int} {lvl : Int} {k : Nat} {x : Int} {xs : List Int} (hx : lv[k]? = some x) (hs : xss[k]? = some xs) (h : x = lvl) : lpM xss lv lvl (k + 1) = lpM xss lv lvl k ++ [xs] := by
  simp [lpM, List.getD_eq_getElem?_getD, hx, hs, h]
theorem lpM_no {xss : List (List Int)} {lv : List Int} {lvl : Int} {k : Nat} {x : Int} (hx : lv[k]? = some x) (h : x ≠ lvl) : lpM xss lv lvl (k + 1) = lpM xss lv lvl k := by
  simp [lpM, List.getD_eq_getElem?_getD, hx, h]
theorem lpM_size (xss : List (List Int)) (lv : List Int) (lvl : Int) : ∀ k, k ≤ xss.length → (lpM xss lv lvl k).length ≤ k ∧ tot (lpM xss lv lvl k) ≤ tot (xss.take k)
  | 0, _ => ⟨Nat.le_refl _, Nat.le_refl _⟩
  | k + 1, hk => by
    have ih := lpM_size xss lv lvl k (by omega)
    have hx : xss[k]? = some xss[k] := List.getElem?_eq_getElem (by omega)
    have ht : tot (xss.take (k + 1)) = tot (xss.take k) + (xss[k]).length := by rw [take_snoc' hx, tot_append, tot_one]
    simp only [lpM]
    split
    · rw [tot_append, tot_one, List.length_append, List.getD_eq_getElem?_getD, hx]
      simp only [List.length_cons, List.length_nil, Option.getD_some]
      omega
    · omega
theorem N_LevelPairs (n : Int) (xss : List (List Int)) (l : SzOk xss) (lvl : Int) : SzOk (levelPairs n xss lvl) := by
  unfold levelPairs
  split
  · have h1 := lvM_length xss xss.length
    have h2 := lpM_size xss (lvM xss xss.length).2 lvl _ h1
    have h3 := tot_take_le xss (lvM xss xss.length).2.length
    exact ⟨by have := l.1; omega, by have := l.2; omega⟩
  · exact ⟨by simp, by simp [tot]⟩
/-- A row goes onto a slice of slices. -/
theorem Own2.app {w w' : World} {EO E B T : Nat} {v v' : Value} {rows rows' : List Value} {xss' : List (List Int)} (hr : RowsOwn w E B T rows' xss') (ho : Own w EO B v rows) (hne : EO ≠ E) (hg : w.grownBy w' v.ownBlock) (ho' : Own w' EO B v' rows') (hT : T ≤ w'.heap.size) : Own2 w' EO E B w'.heap.size v' xss' :=
  ⟨rows', ho', fun k hk => (ho'.lt k hk).2, (hr.outer hg ho hne).mono (Nat.le_refl _) hT⟩

set_option maxHeartbeats 1000000 in
theorem I_LevelPairs (w : World) (n : Int) (hn : I64 n) (v : Value) (xss : List (List Int)) (h : Rd2 w v xss) (fx : I64ss xss) (lx : SzOk xss) (lvl : Int) (hlv : I64 lvl) : Calls Try.prog 33 #[.agg #[.int .i64 n, v], .int .i64 lvl] w (RetOwn2 (levelPairs n xss lvl) w) := by
  obtain ⟨a, c, rfl, h2, h3⟩ := h.form
  have hbA : Below w.heap.size w (w.alloc (.cells #[.int .i64 n, .slice a xss.length c] 32)) := (Below.refl _ _).alloc (Nat.le_refl _) _
  have h' := h.alloc (.cells #[.int .i64 n, .slice a xss.length c] 32)
  have HN := i_NetworkOk n _ xss _ h' hn
  cases hk : netOk n xss
  · rw [hk] at HN
    have HR : Hid (levelPairs n xss lvl = []) := by simp [levelPairs, hk, Hid]
    go_enter Try.func33, Try.ntmps33
    go_wp2_with (go_at_call 53; refine HN.mono ?_; rintro e w2 ⟨rfl, hb2⟩)
    go_ret
    rw [HR.out]
    exact ⟨_, rfl, Own2.nil _ _ _ _ _, hbA.trans (hb2.mono (by simp))⟩
  rw [hk] at HN
  obtain ⟨N, rfl, hN1, hN8, hL60⟩ := netOk_n hk
  have hll := lvM_length xss xss.length
  have HR : Hid (levelPairs (N : Int) xss lvl = lpM xss (lvM xss xss.length).2 lvl (lvM xss xss.length).2.length) := by simp [levelPairs, hk, Hid]
  have HD := Lib.hid (fun (wq : World) (hq : Below w.heap.size w wq) => i_levels N _ xss wq (h.below hq) hk)
  have HW := Lib.hid (fun k xs => netOk_row (k := k) (xs := xs) hk)
  obtain ⟨lv, hlve⟩ : ∃ lv, (lvM xss xss.length).2 = lv := ⟨_, rfl⟩
  rw [hlve] at HD HR hll
  clear hk hlve
  have bx := box_cells w (.int .i64 N) (.slice a xss.length c) 32
  have HC : Hid (∀ wx : World, Below (w.heap.size + 1) (w.alloc (.cells #[.int .i64 N, .slice a xss.length c] 32)) wx → wx.cell? ⟨w.heap.size, 0, none⟩ = some (.int .i64 N) ∧ wx.cell? ⟨w.heap.size, 1, none⟩ = some (.slice a xss.length c)) :=
    fun wx hb => ⟨(hb.cell (by simp)).trans bx.1, (hb.cell (by simp)).trans bx.2⟩
  clear bx
  go_enter Try.func33, Try.ntmps33
  go_wp2_with (first
    | (go_at_call 53; refine HN.mono ?_; rintro e w2 ⟨rfl, hb2⟩
       have hb2' : Below (w.heap.size + 1) (w.alloc (.cells #[.int .i64 N, .slice a xss.length c] 32)) w2 := hb2.mono (by simp)
       have hbB : Below w.heap.size w w2 := hbA.trans (hb2.mono (by simp))
       have hz2 : w.heap.size + 1 ≤ w2.heap.size := by have := hb2.size; simp at this; omega
       have hbL : Below w.heap.size w (w2.alloc (.cells #[] 42)) := hbB.alloc hbB.size _
       have hbL' : Below (w.heap.size + 1) (w.alloc (.cells #[.int .i64 N, .slice a xss.length c] 32)) (w2.alloc (.cells #[] 42)) := hb2'.alloc hz2 _
       obtain ⟨c0, c1⟩ := HC.out _ hbL')
    | (go_at_call 58; refine (HD.out _ hbL).mono ?_; rintro e w3 ⟨vl, rfl, hl3, hb3⟩; obtain ⟨al, cl, rfl, _, _⟩ := hl3.rd.formi))
  have hz3 := hb3.size
  have hzL : (w2.alloc (.cells #[] 42)).heap.size = w2.heap.size + 1 := by simp
  have hbC : Below w.heap.size w w3 := hbL.trans (hb3.mono (by omega))
  have hbC' := hbL'.trans (hb3.mono (by omega))
  have hl4 : Own w3 3 w.heap.size (.slice al lv.length cl) (ints lv) := hl3.mono (by have := hbB.size; omega)
  have ho3 : Own2 w3 42 3 (w.heap.size + 1) w3.heap.size (.slice (some ⟨w2.heap.size, 0, none⟩) 0 0) [] := by
    refine ⟨[], ?_, fun k hk => ?_, RowsOwn.nil _ _ _ _⟩
    · have := (Own.lit0 w2 42 hz2).below hb3
      exact this
    · simp [Value.ownBlock] at hk
      omega
  have hap3 : ∀ g, (Value.slice (some ⟨w2.heap.size, 0, none⟩) 0 0).ownBlock = some g → (Value.slice al lv.length cl).ownBlock ≠ some g := fun g h2 h3 => by
    have := (hl3.lt g h3).1
    simp [Value.ownBlock] at h2
    omega
  clear hl3 hzL hz3 hb3 hbL hbL' hb2 hb2' hbB hz2 c0 c1 HN HD
  go_loopw [5, 15] (fun vo i wr => ∃ k : Nat, k ≤ lv.length ∧ i = .int .i64 k ∧ Own2 wr 42 3 (w.heap.size + 1) wr.heap.size vo (lpM xss lv lvl k) ∧ Own wr 3 w.heap.size (.slice al lv.length cl) (ints lv) ∧ (∀ g, vo.ownBlock = some g → (Value.slice al lv.length cl).ownBlock ≠ some g) ∧ Below w.heap.size w wr ∧ Below (w.heap.size + 1) (w.alloc (.cells #[.int .i64 N, .slice a xss.length c] 32)) wr)
    (fun _ i _ => lv.length - (intOf i).toNat)
  case atStart => exact ⟨0, Nat.zero_le _, rfl, ho3, hl4, hap3, hbC, hbC'⟩
  case round =>
    clear ho3 hl4 hap3 hbC hbC'
    obtain ⟨k, hkl, rfl, ho, hl, hap, hb, hb'⟩ := hrel
    by_cases hlt : k < lv.length
    · obtain ⟨adl, x, hadl, hcl, hx⟩ := hl.rd.int hlt
      subst hadl
      obtain ⟨ad, b, m, d, xs, rfl, hc0, hxx, hm, hmd, hd, hr⟩ := (h.below hb).row (show k < xss.length by omega)
      have hsz := lpM_size xss lv lvl k (by omega)
      have hsb := hb.size
      have hsb1 : w.heap.size + 1 ≤ wr.heap.size := by have := hb'.size; simp at this; omega
      obtain ⟨c0, c1⟩ := HC.out _ hb'
      by_cases e : x = lvl
      · have d0 : (x == lvl) = true := by simpa using e
        have HL := Lib.hid (lpM_yes (lvl := lvl) hx.out hxx.out e)
        clear e
        obtain ⟨rows, hov, hT, hrows⟩ := ho
        have hrl : rows.length ≤ 60 := by have := hrows.1; omega
        obtain ⟨ao, co, rfl, _, _⟩ := hov.rd.form
        have hxl : xs.length ≤ 2000000 := by obtain ⟨p, q, rfl, _⟩ := HW.out k xs hxx.out; simp
        go_wp2_with (first
          | (go_at_call 59; refine (f_Clone _ xs _ hr hxl).mono ?_; rintro e w5 ⟨vr, rfl, hr5, hb5⟩; obtain ⟨ar, cr, rfl, _, _⟩ := hr5.rd.formi; have hz5 := hb5.size)
          | (at_builtin; refine wpList_app1 rfl _ _ 22 rfl elII rfl (hov.below hb5) (by show Value.slice (some ⟨w5.heap.size, 0, none⟩) 1 1 = _; simp) rfl (by omega) (by omega) (by omega) ?_; intro bn cn' w6 ho6 hg6 hat6))
        have ho7 := Own2.app ((hrows.below hb5).snoc (hr5.mono hsb1) (fun k hk => hr5.lt k hk) hz5) (hov.below hb5) (by decide) hg6 ho6 hg6.size
        have hl7 := (hl.below hb5).apart hg6 fun g h2 h3 => hap g h3 h2
        have hb7 := (hb.trans (hb5.mono hsb)).grown hg6 (by omega) fun r hr => by have := (hov.lt r hr).1; omega
        have hb7' := (hb'.trans (hb5.mono hsb1)).grown hg6 (by omega) fun r hr => (hov.lt r hr).1
        have hap7 : ∀ g, (Value.slice bn (rows.length + 1) cn').ownBlock = some g → (Value.slice (some adl) lv.length cl).ownBlock ≠ some g := fun g h2 h3 => by
          rcases hat6 with e | ⟨q, hq, e⟩
          · exact hap g (e ▸ h2) h3
          · rw [e] at h2
            cases h2
            have := (hl.lt _ h3).2
            omega
        go_roundw
        case rel => exact ⟨k + 1, by omega, by go_num, by rw [HL.out]; exact ho7, hl7, hap7, hb7, hb7'⟩
        case measure => simp [intOf]; omega
      · have d0 : (x == lvl) = false := by rw [beq_eq_false_iff_ne]; exact e
        have HL := Lib.hid (lpM_no (xss := xss) (lvl := lvl) hx.out e)
        clear e
        go_wp2
        go_roundw
        case rel => exact ⟨k + 1, by omega, by go_num, by rw [HL.out]; exact ho, hl, hap, hb, hb'⟩
        case measure => simp [intOf]; omega
    · obtain rfl : lv.length = k := by omega
      go_wp2
      go_ret
      rw [HR.out]
      exact ⟨_, rfl, ho.mono (by omega) (Nat.le_refl _), hb⟩

end Go.Proofs.Ytdfjopcfgpigoaa
