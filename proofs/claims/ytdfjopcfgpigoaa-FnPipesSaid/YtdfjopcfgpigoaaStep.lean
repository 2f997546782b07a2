/- Walks: one clock of a pipe, the reference. -/
import Derived.Test.YtdfjopcfgpigoaaApply2
namespace Go.Proofs.Ytdfjopcfgpigoaa
open Go.RowKit
set_option linter.unusedVariables false
set_option linter.unusedSimpArgs false

def nowM (st : List (List Int)) (xin : List Int) : Nat → List Int
  | 0 => xin
  | k + 1 => st.getD k []
def nextRow (n : Int) (xss : List (List Int)) (lvl : Int) (now : List Int) : List Int := if now.length = 0 then [] else apM (levelPairs n xss lvl) now (levelPairs n xss lvl).length
def nextM (n : Int) (xss st : List (List Int)) (xin : List Int) : Nat → List (List Int)
  | 0 => []
  | k + 1 => nextM n xss st xin k ++ [nextRow n xss ((k : Int) + 1) (nowM st xin k)]
theorem nextM_length (n : Int) (xss st : List (List Int)) (xin : List Int) : ∀ k, (nextM n xss st xin k).length = k
  | 0 => rfl
  | k + 1 => by rw [nextM, List.length_append, nextM_length n xss st xin k]; rfl
theorem nowM_succ {st : List (List Int)} {xin : List Int} {k : Nat} {xs : List Int} (h : st[k]? = some xs) : nowM st xin (k + 1) = xs := by
  rw [nowM, List.getD_eq_getElem?_getD, h]; rfl
theorem nextRow_length (n : Int) (xss : List (List Int)) (lvl : Int) (now : List Int) : (nextRow n xss lvl now).length = now.length := by
  unfold nextRow
  split
  · rename_i h; rw [h]; rfl
  · exact apM_length _ _ _
theorem pairs_of {N : Nat} {xss : List (List Int)} (h : netOk (N : Int) xss = true) : Pairs N xss := fun k xs => netOk_row h
theorem pairs_lp {N : Nat} {xss : List (List Int)} (h : netOk (N : Int) xss = true) (lvl : Int) : Pairs N (levelPairs (N : Int) xss lvl) := by
  intro k xs hx
  have hm : ∀ j, j ≤ xss.length → ∀ ys ∈ lpM xss (lvM xss xss.length).2 lvl j, ys ∈ xss := by
    intro j
    induction j with
    | zero => intro _ ys hy; simp [lpM] at hy
    | succ j ih =>
      intro hj ys hy
      simp only [lpM] at hy
      have hx : xss[j]? = some xss[j] := List.getElem?_eq_getElem (by omega)
      split at hy
      · rw [List.mem_append] at hy
        rcases hy with hy | hy
        · exact ih (by omega) ys hy
        · simp only [List.getD_eq_getElem?_getD, hx, Option.getD_some, List.mem_singleton] at hy
          exact hy ▸ List.getElem_mem _
      · exact ih (by omega) ys hy
  unfold levelPairs at hx
  rw [if_pos h] at hx
  have := hm _ (lvM_length xss xss.length) xs (List.mem_of_getElem? hx)
  obtain ⟨i, hi, rfl⟩ := List.getElem_of_mem this
  exact netOk_row h (List.getElem?_eq_getElem hi)
theorem Rd.formH {w : World} {v : Value} {xs : List Int} (h : Rd w v (ints xs)) : ∃ (a : Option Addr) (m c : Nat), v = .slice a m c ∧ Hid (m = xs.length) ∧ m ≤ c ∧ c ≤ 9223372036854775807 := by
  obtain ⟨a, c, h1, h2, h3⟩ := h.formi
  exact ⟨a, _, c, h1, rfl, h2, h3⟩
theorem Rd2.formH {w : World} {v : Value} {xss : List (List Int)} (h : Rd2 w v xss) : ∃ (a : Option Addr) (m c : Nat), v = .slice a m c ∧ Hid (m = xss.length) ∧ m ≤ c ∧ c ≤ 9223372036854775807 := by
  obtain ⟨a, c, h1, h2, h3⟩ := h.form
  exact ⟨a, _, c, h1, rfl, h2, h3⟩
/-- A new slice of slices and a new slice, in later blocks, are returned. -/
def RetStep (xss : List (List Int)) (xs : List Int) (w : World) (e : Ending) (w' : World) : Prop :=
  ∃ v u M, e = .returned (.tuple #[v, u]) ∧ Own2 w' 42 3 w.heap.size M v xss ∧ Own w' 3 M u (ints xs) ∧ w.heap.size ≤ M ∧ M ≤ w'.heap.size ∧ Below w.heap.size w w'

theorem Own2.nil0 {E : Nat} (w : World) (EO : Nat) (o : Obj) : Own2 ((w.alloc o).alloc (.cells #[] EO)) EO E (w.heap.size + 1) ((w.alloc o).alloc (.cells #[] EO)).heap.size (.slice (some ⟨w.heap.size + 1, 0, none⟩) 0 0) [] := by
  refine ⟨[], ?_, fun k hk => ?_, RowsOwn.nil _ _ _ _⟩
  · have := Own.lit0 (w.alloc o) EO (B := w.heap.size + 1) (by simp)
    simpa [ints] using this
  · simp [Value.ownBlock] at hk
    simp
    omega

set_option maxHeartbeats 2000000 in
theorem s_l26Step (n : Int) (hn : I64 n) (v vs vi : Value) (xss st : List (List Int)) (xin : List Int) (w : World) (h : Rd2 w v xss) (fx : I64ss xss) (lx : SzOk xss) (hs : Rd2 w vs st) (hi : Rd w vi (ints xin)) (hk : netOk n xss = true) (hL : st.length ≤ 60)
    (HP : Hid (∀ k, k ≤ st.length → pipeRow n (nowM st xin k) = true)) : Calls Try.prog 60 #[.agg #[.int .i64 n, v], vs, vi] w (RetStep (nextM n xss st xin st.length) (nowM st xin st.length) w) := by
  obtain ⟨a, c, rfl, h2, h3⟩ := h.form
  obtain ⟨N, rfl, hN1, hN8, hL60⟩ := netOk_n hk
  have HPL : Hid (∀ k, k ≤ st.length → (nowM st xin k).length = 0 ∨ (nowM st xin k).length = N) := fun k hkl => by
    have := HP.out k hkl
    simp only [pipeRow, Bool.or_eq_true, decide_eq_true_eq] at this
    omega
  clear HP
  have HLP := Lib.hid (fun lvl => pairs_lp hk lvl)
  clear hk
  have hbA : Below w.heap.size w (w.alloc (.cells #[.int .i64 N, .slice a xss.length c] 32)) := (Below.refl _ _).alloc (Nat.le_refl _) _
  have bx := box_cells w (.int .i64 N) (.slice a xss.length c) 32
  have HC : Hid (∀ wx : World, Below (w.heap.size + 1) (w.alloc (.cells #[.int .i64 N, .slice a xss.length c] 32)) wx → wx.cell? ⟨w.heap.size, 0, none⟩ = some (.int .i64 N) ∧ wx.cell? ⟨w.heap.size, 1, none⟩ = some (.slice a xss.length c)) :=
    fun wx hb => ⟨(hb.cell (by simp)).trans bx.1, (hb.cell (by simp)).trans bx.2⟩
  clear bx
  obtain ⟨sz, m, cs, rfl, HM, hm2, hm3⟩ := hs.formH
  have hm60 : m ≤ 60 := by have := HM.out; omega
  by_cases hst : m = 0
  · subst hst
    have hst' : st = [] := List.eq_nil_of_length_eq_zero HM.out.symm
    subst hst'
    have hxl : xin.length ≤ 8 := by have := HPL.out 0 (Nat.le_refl _); simp only [nowM] at this; omega
    have hiX := ((hi.alloc (.cells #[.int .i64 N, .slice a xss.length c] 32)).alloc (.cells #[] 42)).alloc (.cells #[] 3)
    have hX : ((w.alloc (.cells #[.int .i64 N, .slice a xss.length c] 32)).alloc (.cells #[] 42)).heap.size = w.heap.size + 2 := by simp
    have hoX := Own.lit0 ((w.alloc (.cells #[.int .i64 N, .slice a xss.length c] 32)).alloc (.cells #[] 42)) 3 (Nat.le_of_eq hX.symm)
    have hoL := (Own.lit0 (w.alloc (.cells #[.int .i64 N, .slice a xss.length c] 32)) 42 (B := w.heap.size) (by simp)).alloc (.cells #[] 3)
    rw [show ((w.alloc (.cells #[.int .i64 N, .slice a xss.length c] 32)).alloc (.cells #[] 42)).heap.size = w.heap.size + 1 + 1 by simp] at hoX
    rw [show (w.alloc (.cells #[.int .i64 N, .slice a xss.length c] 32)).heap.size = w.heap.size + 1 by simp] at hoL
    have hbX : Below w.heap.size w (((w.alloc (.cells #[.int .i64 N, .slice a xss.length c] 32)).alloc (.cells #[] 42)).alloc (.cells #[] 3)) := (hbA.alloc (by simp) _).alloc (by simp; omega) _
    clear hX
    go_enter Try.func60, Try.ntmps60
    go_wp2_with (at_builtin; refine wpList_app (B := w.heap.size + 2) rfl _ _ 42 rfl elI rfl hoX rfl hiX (oneCell_ints _) (by simp) (by simp only [ints_length, List.length_nil]; omega) (by simp only [ints_length, List.length_nil]; omega) ?_; intro b cc w2 ho2 hg2 hat2)
    go_ret2
    have hb2 := hbX.grown hg2 (by simp; omega) (fun r hr => by have := (hoX.lt r hr).1; omega)
    have hsz := hg2.size
    refine ⟨_, _, w.heap.size + 2, rfl, ⟨[], hoL.apart hg2 (fun g h2 h3 => by have e2 : w.heap.size + 1 = g := Option.some.inj h2; have e3 : w.heap.size + 1 + 1 = g := Option.some.inj h3; omega), fun k hk => ?_, RowsOwn.nil _ _ _ _⟩, ho2, by omega, ?_, hb2⟩
    · simp [Value.ownBlock] at hk; omega
    · simp at hsz; omega
  · have d0 : ((m : Int) == 0) = false := by rw [beq_eq_false_iff_ne]; omega
    go_enter Try.func60, Try.ntmps60
    go_wp2
    clear d0
    have hoA := Own2.nil0 (E := 3) w 42 (.cells #[.int .i64 N, .slice a xss.length c] 32)
    have hbL := hbA.alloc (by simp) (.cells #[] 42)
    have hbL' : Below (w.heap.size + 1) (w.alloc (.cells #[.int .i64 N, .slice a xss.length c] 32)) ((w.alloc (.cells #[.int .i64 N, .slice a xss.length c] 32)).alloc (.cells #[] 42)) := (Below.refl _ _).alloc (by simp) _
    go_loopw [8, 9, 23] (fun vo vn i wr => ∃ k : Nat, k ≤ m ∧ i = .int .i64 k ∧ Own2 wr 42 3 (w.heap.size + 1) wr.heap.size vo (nextM N xss st xin k) ∧ Rd w vn (ints (nowM st xin k)) ∧ Below w.heap.size w wr ∧ Below (w.heap.size + 1) (w.alloc (.cells #[.int .i64 N, .slice a xss.length c] 32)) wr)
      (fun _ _ i _ => m - (intOf i).toNat)
    case atStart => exact ⟨0, Nat.zero_le _, rfl, hoA, hi, hbL, hbL'⟩
    case round =>
      clear hoA hbL hbL'
      obtain ⟨k, hkl, rfl, ho, hn', hb, hb'⟩ := hrel
      obtain ⟨an, q, cn, rfl, HQ, hq1, hq2⟩ := hn'.formH
      have hNl := HPL.out k (by have := HM.out; omega)
      have hq8 : q ≤ 8 := by have := HQ.out; omega
      have hsb := hb.size
      have hsb1 : w.heap.size + 1 ≤ wr.heap.size := by have := hb'.size; simp at this; omega
      obtain ⟨rows, hov, hT, hrows⟩ := ho
      have hrl : rows.length ≤ 60 := by have := hrows.1; rw [nextM_length] at this; omega
      by_cases hlt : k < m
      · obtain ⟨ad, b, mr, d, xs, rfl, hc0, hxx, hm, hmd, hd, hr⟩ := hs.row (show k < st.length by have := HM.out; omega)
        have hc1 := (hb.cell (World.block_lt_of_cell? w _ hc0)).trans hc0
        have HNw := Lib.hid (nowM_succ (xin := xin) hxx.out)
        clear hc0
        have hl63 := hov.rd.form
        obtain ⟨ao, co, rfl, _, _⟩ := hl63
        by_cases hq0 : q = 0
        · have d0 : ((q : Int) == 0) = true := by simp [hq0]
          have HNx : Hid (nextM N xss st xin (k + 1) = nextM N xss st xin k ++ [[]]) := by
            rw [Hid, nextM, nextRow, if_pos (by rw [← HQ.out]; exact hq0)]
          clear hq0
          have hrA := ((hrows.alloc (.cells #[] 3)).snoc (T' := wr.heap.size + 1) (Own.lit0 wr 3 hsb1) (fun k hk => by simp [Value.ownBlock] at hk; omega) (Nat.le_succ _))
          have hoA := hov.alloc (.cells #[] 3)
          go_wp2_with (at_builtin; refine wpList_app1 rfl _ _ 22 rfl elII rfl hoA (by show Value.slice (some ⟨wr.heap.size + 1, 0, none⟩) 1 1 = _; simp) rfl (by simp; omega) (by omega) (by omega) ?_; intro bn cn' w6 ho6 hg6 hat6)
          have hs6 := hg6.size
          have ho7 := Own2.app hrA hoA (by decide) hg6 ho6 (by simp at hs6; omega)
          have hb7 := ((hb.alloc hsb (.cells #[] 3))).grown hg6 (by simp; omega) fun r hr => by have := (hov.lt r hr).1; omega
          have hb7' := ((hb'.alloc hsb1 (.cells #[] 3))).grown hg6 (by simp; omega) fun r hr => (hov.lt r hr).1
          go_roundw
          case rel => exact ⟨k + 1, by omega, by go_num, by rw [HNx.out]; exact ho7, by rw [HNw.out]; exact hr, hb7, hb7'⟩
          case measure => simp [intOf]; omega
        · have d0 : ((q : Int) == 0) = false := by rw [beq_eq_false_iff_ne]; omega
          have hnl : (nowM st xin k).length = N := by have := HQ.out; omega
          have HNx : Hid (nextM N xss st xin (k + 1) = nextM N xss st xin k ++ [apM (levelPairs N xss ((k : Int) + 1)) (nowM st xin k) (levelPairs N xss ((k : Int) + 1)).length]) := by
            rw [Hid, nextM, nextRow, if_neg (by rw [← HQ.out]; exact hq0)]
          have HAl : Hid ((apM (levelPairs N xss ((k : Int) + 1)) (nowM st xin k) (levelPairs N xss ((k : Int) + 1)).length).length = N) := by rw [Hid, apM_length]; exact hnl
          have HNL := Lib.hid hnl
          clear hq0 hnl
          have HLk := Lib.hid (HLP.out ((k : Int) + 1))
          have HCL := Lib.hid (S_LevelPairs wr (N : Int) hn _ xss (h.below hb) fx lx ((k : Int) + 1) ⟨by omega, by omega⟩)
          obtain ⟨lp, hlp⟩ : ∃ lp, levelPairs (N : Int) xss ((k : Int) + 1) = lp := ⟨_, rfl⟩
          rw [hlp] at HCL HLk HAl HNx
          obtain ⟨now, hnow⟩ : ∃ now, nowM st xin k = now := ⟨_, rfl⟩
          rw [hnow] at hn' HNL HAl HNx HQ
          clear hlp hnow hNl
          obtain ⟨res, hres⟩ : ∃ res, apM lp now lp.length = res := ⟨_, rfl⟩
          have HAP := Lib.hid (fun (v2 u2 : Value) (wx : World) (hv2 : Rd2 wx v2 lp) (hu2 : Rd wx u2 (ints now)) => s_l02Apply N v2 u2 lp now wx hv2 hu2 HNL.out (by omega) HLk)
          rw [hres] at HNx HAl HAP
          clear hres
          have iw : IntKind.i64.wrap ((k : Int) + 1) = (k : Int) + 1 := IntWalk.i64_in _ (by omega)
          obtain ⟨c0, c1⟩ := HC.out _ hb'
          go_wp2_with (first
            | (go_at_call 32; refine HCL.out.mono ?_; rintro e w4 ⟨v4, rfl, ho4, hb4⟩; obtain ⟨a4, c4, rfl, _, _⟩ := ho4.form)
            | (go_at_call 73; refine (HAP.out _ _ _ ho4.rd ((hn'.below hb).below (hb4))).mono ?_; rintro e w5 ⟨v5, rfl, ho5, hb5⟩; obtain ⟨a5, m5, c5, rfl, hm5, _, _⟩ := ho5.rd.formH; have hz4 := hb4.size; have hz5 := hb5.size; have hb45 := hb4.trans (hb5.mono hz4))
            | (at_builtin; refine wpList_app1 rfl _ _ 22 rfl elII rfl (hov.below hb45) (by show Value.slice (some ⟨w5.heap.size, 0, none⟩) 1 1 = _; simp) rfl (by omega) (by omega) (by omega) ?_; intro bn cn' w6 ho6 hg6 hat6))
          have ho7 := Own2.app ((hrows.below hb45).snoc (T' := w5.heap.size) (ho5.mono (by omega)) (fun k hk => by have := ho5.lt k hk; omega) (by omega)) (hov.below hb45) (by decide) hg6 ho6 hg6.size
          have hb7 := (hb.trans (hb45.mono hsb)).grown hg6 (by omega) fun r hr => by have := (hov.lt r hr).1; omega
          have hb7' := (hb'.trans (hb45.mono hsb1)).grown hg6 (by omega) fun r hr => (hov.lt r hr).1
          go_roundw
          case rel => exact ⟨k + 1, by omega, by go_num, by rw [HNx.out]; exact ho7, by rw [HNw.out]; exact hr, hb7, hb7'⟩
          case measure => simp [intOf]; omega
      · obtain rfl : m = k := by omega
        have hnl : (nowM st xin m).length ≤ 8 := by omega
        have HE1 : Hid (nextM (N : Int) xss st xin st.length = nextM (N : Int) xss st xin m) := by rw [Hid, HM.out]
        have HE2 : Hid (nowM st xin st.length = nowM st xin m) := by rw [Hid, HM.out]
        have hrX := (hn'.below hb).alloc (.cells #[] 3)
        have hoX := Own.lit0 wr 3 (Nat.le_refl _)
        go_wp2_with (at_builtin; refine wpList_app (B := wr.heap.size) rfl _ _ 42 rfl elI rfl hoX rfl hrX (oneCell_ints _) (by simp) (by simp only [ints_length, List.length_nil]; omega) (by simp only [ints_length, List.length_nil]; omega) ?_; intro b cc w2 ho2 hg2 hat2; have hb2 := ((Below.refl wr.heap.size wr).alloc (Nat.le_refl _) (.cells #[] 3)).grown hg2 (by simp) (fun r hr => (hoX.lt r hr).1))
        go_ret2
        rw [HE1.out, HE2.out]
        have ho : Own2 wr 42 3 (w.heap.size + 1) wr.heap.size _ _ := ⟨rows, hov, hT, hrows⟩
        exact ⟨_, _, wr.heap.size, rfl, (ho.below hb2).mono (by omega) (Nat.le_refl _), ho2, hsb, hb2.size, hb.trans (hb2.mono hsb)⟩

end Go.Proofs.Ytdfjopcfgpigoaa
