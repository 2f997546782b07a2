/- Walks: one clock of a pipe, the program. -/
import Derived.Test.YtdfjopcfgpigoaaStep
namespace Go.Proofs.Ytdfjopcfgpigoaa
open Go.RowKit
set_option linter.unusedVariables false
set_option linter.unusedSimpArgs false

set_option maxHeartbeats 4000000 in
theorem i_clock (n : Int) (hn : I64 n) (v vs vi : Value) (xss st : List (List Int)) (xin : List Int) (w : World) (h : Rd2 w v xss) (fx : I64ss xss) (lx : SzOk xss) (hs : Rd2 w vs st) (hi : Rd w vi (ints xin)) (hk : netOk n xss = true) (hL : st.length ≤ 60)
    (HP : Hid (∀ k, k ≤ st.length → pipeRow n (nowM st xin k) = true)) : Calls Try.prog 61 #[.agg #[.int .i64 n, v], vs, vi] w (RetStep (nextM n xss st xin st.length) (nowM st xin st.length) w) := by
  obtain ⟨a, c, rfl, h2, h3⟩ := h.form
  obtain ⟨N, rfl, hN1, hN8, hL60⟩ := netOk_n hk
  have HPL : Hid (∀ k, k ≤ st.length → (nowM st xin k).length = 0 ∨ (nowM st xin k).length = N) := fun k hkl => by
    have := HP.out k hkl
    simp only [pipeRow, Bool.or_eq_true, decide_eq_true_eq] at this
    omega
  clear HP
  have HLP := Lib.hid (fun lvl => pairs_lp hk lvl)
  clear hk
  have hbA : Below w.heap.size w (w.alloc (.cells #[.int .i64 N, .slice a xss.length c] 32)) := (Below.refl _ _).alloc (Nat.le_refl _) _
  have bx := box_cells w (.int .i64 N) (.slice a xss.length c) 32
  have HC : Hid (∀ wx : World, Below (w.heap.size + 1) (w.alloc (.cells #[.int .i64 N, .slice a xss.length c] 32)) wx → wx.cell? ⟨w.heap.size, 0, none⟩ = some (.int .i64 N) ∧ wx.cell? ⟨w.heap.size, 1, none⟩ = some (.slice a xss.length c)) :=
    fun wx hb => ⟨(hb.cell (by simp)).trans bx.1, (hb.cell (by simp)).trans bx.2⟩
  clear bx
  obtain ⟨sz, m, cs, rfl, HM, hm2, hm3⟩ := hs.formH
  have hm60 : m ≤ 60 := by have := HM.out; omega
  have hxl : xin.length ≤ 8 := by have := HPL.out 0 (Nat.zero_le _); simp only [nowM] at this; omega
  have hoA := Own2.nil0 (E := 3) w 42 (.cells #[.int .i64 N, .slice a xss.length c] 32)
  have hbL := hbA.alloc (by simp) (.cells #[] 42)
  have hbL' : Below (w.heap.size + 1) (w.alloc (.cells #[.int .i64 N, .slice a xss.length c] 32)) ((w.alloc (.cells #[.int .i64 N, .slice a xss.length c] 32)).alloc (.cells #[] 42)) := (Below.refl _ _).alloc (by simp) _
  have hzL : w.heap.size + 1 ≤ ((w.alloc (.cells #[.int .i64 N, .slice a xss.length c] 32)).alloc (.cells #[] 42)).heap.size := by simp
  have hzL0 := hbL.size
  have hiL := hi.below hbL
  go_enter Try.func61, Try.ntmps61
  go_wp2_with (go_at_call 59; refine (f_Clone _ xin _ hiL (by omega)).mono ?_; rintro e w3 ⟨vl, rfl, hl3, hb3⟩)
  replace hbL := hbL.trans (hb3.mono hzL0)
  replace hbL' := hbL'.trans (hb3.mono hzL)
  replace hoA := hoA.below hb3
  have hz3 := hb3.size
  clear hb3 hiL hzL0
  go_loopw [8, 9, 17] (fun vo vn i wr => ∃ k M : Nat, k ≤ m ∧ i = .int .i64 k ∧ Own2 wr 42 3 (w.heap.size + 1) M vo (nextM N xss st xin k) ∧ Own wr 3 M vn (ints (nowM st xin k)) ∧ w.heap.size + 1 ≤ M ∧ M ≤ wr.heap.size ∧ Below w.heap.size w wr ∧ Below (w.heap.size + 1) (w.alloc (.cells #[.int .i64 N, .slice a xss.length c] 32)) wr)
    (fun _ _ i _ => m - (intOf i).toNat)
  case atStart => exact ⟨0, _, Nat.zero_le _, rfl, hoA, hl3, hzL, hz3, hbL, hbL'⟩
  case round =>
    clear hoA hbL hbL' hl3 hz3 hzL
    obtain ⟨k, M, hkl, rfl, ho, hn', hM1, hM2, hb, hb'⟩ := hrel
    obtain ⟨an, q, cn, rfl, HQ, hq1, hq2⟩ := hn'.rd.formH
    have hNl := HPL.out k (by have := HM.out; omega)
    have hq8 : q ≤ 8 := by have := HQ.out; omega
    have hsb := hb.size
    have hsb1 : w.heap.size + 1 ≤ wr.heap.size := by omega
    obtain ⟨rows, hov, hT, hrows⟩ := ho
    have hrl : rows.length ≤ 60 := by have := hrows.1; rw [nextM_length] at this; omega
    by_cases hlt : k < m
    · obtain ⟨ad, b, mr, d, xs, rfl, hc0, hxx, hm, hmd, hd, hr⟩ := hs.row (show k < st.length by have := HM.out; omega)
      have hc1 := (hb.cell (World.block_lt_of_cell? w _ hc0)).trans hc0
      have HNw := Lib.hid (nowM_succ (xin := xin) hxx.out)
      have hxs8 : xs.length ≤ 8 := by have := HPL.out (k + 1) (by have := HM.out; omega); rw [HNw.out] at this; omega
      clear hc0
      have hl63 := hov.rd.form
      obtain ⟨ao, co, rfl, _, _⟩ := hl63
      by_cases hp : 0 < q
      case neg =>
        have hq0 : q = 0 := by omega
        have HNx : Hid (nextM N xss st xin (k + 1) = nextM N xss st xin k ++ [nowM st xin k]) := by
          have e : nowM st xin k = [] := List.eq_nil_of_length_eq_zero (by rw [← HQ.out]; exact hq0)
          rw [Hid, nextM, nextRow, if_pos (by rw [← HQ.out]; exact hq0), e]
        clear hq0
        have hrA := (hrows.snoc (T' := wr.heap.size) (hn'.mono hM1) (fun k hk => hn'.lt k hk) hM2)
        go_wp2_with (first
          | (at_builtin; refine wpList_app1 rfl _ _ 22 rfl elII rfl hov (by show Value.slice (some ⟨wr.heap.size, 0, none⟩) 1 1 = _; simp) rfl (by omega) (by omega) (by omega) ?_; intro bn cn' w6 ho6 hg6 hat6
             have hs6 := hg6.size
             have ho7 := Own2.app hrA hov (by decide) hg6 ho6 (by omega)
             have hb7 := hb.grown hg6 hsb fun r hr => by have := (hov.lt r hr).1; omega
             have hb7' := hb'.grown hg6 hsb1 fun r hr => (hov.lt r hr).1)
          | (go_at_call 59; refine (f_Clone _ xs _ (hr.below hb7) (by omega)).mono ?_; rintro e w8 ⟨v8, rfl, hl8, hb8⟩))
        have hs7 := hb7.size
        have hs8 := hb8.size
        go_roundw
        case rel => exact ⟨k + 1, w6.heap.size, by omega, by go_num, by rw [HNx.out]; exact ho7.below hb8, by rw [HNw.out]; exact hl8, by omega, hs8, hb7.trans (hb8.mono hs7), hb7'.trans (hb8.mono (by omega))⟩
        case measure => simp [intOf]; omega
      case pos =>
        have hq0 : ¬ q = 0 := by omega
        have hnl : (nowM st xin k).length = N := by have := HQ.out; omega
        have HNx : Hid (nextM N xss st xin (k + 1) = nextM N xss st xin k ++ [apM (levelPairs N xss ((k : Int) + 1)) (nowM st xin k) (levelPairs N xss ((k : Int) + 1)).length]) := by
          rw [Hid, nextM, nextRow, if_neg (by rw [← HQ.out]; exact hq0)]
        have HNL := Lib.hid hnl
        clear hq0 hnl
        have HLk := Lib.hid (HLP.out ((k : Int) + 1))
        have HCL := Lib.hid (fun (wx : World) (hbx : Below w.heap.size w wx) => I_LevelPairs wx (N : Int) hn _ xss (h.below hbx) fx lx ((k : Int) + 1) ⟨by omega, by omega⟩)
        obtain ⟨lp, hlp⟩ : ∃ lp, levelPairs (N : Int) xss ((k : Int) + 1) = lp := ⟨_, rfl⟩
        rw [hlp] at HCL HLk HNx
        obtain ⟨now, hnow⟩ : ∃ now, nowM st xin k = now := ⟨_, rfl⟩
        rw [hnow] at hn' HNL HNx HQ
        clear hlp hnow hNl
        obtain ⟨res, hres⟩ : ∃ res, apM lp now lp.length = res := ⟨_, rfl⟩
        have HAP := Lib.hid (fun (v2 u2 : Value) (wx : World) (hv2 : Rd2 wx v2 lp) (hu2 : Rd wx u2 (ints now)) => i_apply N (N : Int) v2 u2 lp now wx hv2 hu2 HNL.out (by omega) HLk)
        rw [hres] at HNx HAP
        clear hres
        have iw : IntKind.i64.wrap ((k : Int) + 1) = (k : Int) + 1 := IntWalk.i64_in _ (by omega)
        obtain ⟨c0, c1⟩ := HC.out _ hb'
        go_wp2
        go_region_held3 (fun wx => wx.cell? ⟨w.heap.size, 0, none⟩ = some (.int .i64 N) ∧ wx.cell? ⟨w.heap.size, 1, none⟩ = some (.slice a xss.length c))
          (first | exact HC.out _ hb5' | exact HC.out _ hb4' | go_keep)
          (first
            | (go_at_call 33; refine (HCL.out _ (by exact ⟨hb.os, hb.tape, hb.output, hb.size, hb.block⟩)).mono ?_; rintro e w4 ⟨v4, rfl, ho4, hb4⟩; obtain ⟨a4, c4, rfl, _, _⟩ := ho4.form; have hb4w : Below wr.heap.size wr w4 := (by exact ⟨hb4.os, hb4.tape, hb4.output, hb4.size, hb4.block⟩); have hb4' := hb'.trans (hb4w.mono hsb1); have hz4 := hb4w.size)
            | (go_at_call 67; refine (HAP.out _ _ _ (by exact ho4.rd) (by exact hn'.rd.below (hb4w))).mono ?_; rintro e w5 ⟨v5, rfl, ho5, hb5⟩; obtain ⟨a5, m5, c5, rfl, hm5, _, _⟩ := ho5.rd.formH; have hb5w : Below w4.heap.size w4 w5 := (by exact ⟨hb5.os, hb5.tape, hb5.output, hb5.size, hb5.block⟩); have hz5 := hb5w.size; have hb45 := hb4w.trans (hb5w.mono hz4); have hb5' := hb'.trans (hb45.mono hsb1); have ho5w : Own w5 3 w4.heap.size (.slice a5 m5 c5) (ints res) := (by exact ho5)))
        have hrA := ((hrows.below hb45).snoc (T' := w5.heap.size) (ho5w.mono (by omega)) (fun k hk => by have := ho5w.lt k hk; omega) (by omega))
        have hovA := hov.below hb45
        have hb45a := hb.trans (hb45.mono hsb)
        clear hb4 hb5 hb4' ho4 ho5 hb4w hb5w
        go_wp2_with (first
          | (at_builtin; refine wpList_app1 rfl _ _ 22 rfl elII rfl hovA (by show Value.slice (some ⟨w5.heap.size, 0, none⟩) 1 1 = _; simp) rfl (by omega) (by omega) (by omega) ?_; intro bn cn' w6 ho6 hg6 hat6
             have hs6 := hg6.size
             have ho7 := Own2.app hrA hovA (by decide) hg6 ho6 (by omega)
             have hb7 := hb45a.grown hg6 (by omega) fun r hr => by have := (hovA.lt r hr).1; omega
             have hb7' := hb5'.grown hg6 (by omega) fun r hr => (hovA.lt r hr).1)
          | (go_at_call 59; refine (f_Clone _ xs _ (hr.below hb7) (by omega)).mono ?_; rintro e w8 ⟨v8, rfl, hl8, hb8⟩))
        have hs7 := hb7.size
        have hs8 := hb8.size
        go_roundw
        case rel => exact ⟨k + 1, w6.heap.size, by omega, by go_num, by rw [HNx.out]; exact ho7.below hb8, by rw [HNw.out]; exact hl8, by omega, hs8, hb7.trans (hb8.mono hs7), hb7'.trans (hb8.mono (by omega))⟩
        case measure => simp [intOf]; omega
    · obtain rfl : m = k := by omega
      have HE1 : Hid (nextM (N : Int) xss st xin st.length = nextM (N : Int) xss st xin m) := by rw [Hid, HM.out]
      have HE2 : Hid (nowM st xin st.length = nowM st xin m) := by rw [Hid, HM.out]
      go_wp2
      go_ret2
      rw [HE1.out, HE2.out]
      have ho : Own2 wr 42 3 (w.heap.size + 1) M _ _ := ⟨rows, hov, hT, hrows⟩
      exact ⟨_, _, M, rfl, ho.mono (by omega) (Nat.le_refl _), hn', by omega, hM2, hb⟩

end Go.Proofs.Ytdfjopcfgpigoaa
