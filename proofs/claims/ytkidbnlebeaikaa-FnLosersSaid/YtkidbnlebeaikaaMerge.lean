/- Walks: all numbers of a tree. -/
import Derived.Test.YtkidbnlebeaikaaLosersOf
import Derived.Test.YtkidbnlebeaikaaPlainSeq
namespace Go.Proofs.Ytkidbnlebeaikaa
open Go.RowKit
set_option linter.unusedVariables false
set_option linter.unusedSimpArgs false

theorem Rd.cell_int {w : World} {p : Addr} {n c k : Nat} {xs : List Int} {x : Int} (h : Rd w (.slice (some p) n c) (ints xs)) (hx : xs[k]? = some x) : w.cell? (p.add k) = some (.int .i64 x) := by
  obtain ⟨ad, y, had, hc, hy⟩ := h.int (List.getElem?_eq_some_iff.1 hx).1
  injection had with had
  subst had
  rw [hy.out] at hx
  cases hx
  exact hc
theorem TK.bump {xss : List (List Int)} {t xs : List Int} {a n : Nat} (h : TK xss t) (hx : xss[a]? = some xs) (ht : t[a]? = some (n : Int)) (hn : n < xs.length) : TK xss (bump t a) := by
  rw [bump_eq ht]
  refine ⟨by rw [List.length_set]; exact h.1, fun k m ys hm hy => ?_⟩
  by_cases e : k = a
  · subst e
    have hl := (List.getElem?_eq_some_iff.1 ht).1
    rw [List.getElem?_set_self hl] at hm
    rw [hx] at hy
    cases hm
    cases hy
    omega
  · rw [List.getElem?_set_ne (by omega)] at hm
    exact h.2 k m ys hm hy
theorem TK.zeros (xss : List (List Int)) : TK xss (zeros xss.length) := by
  refine ⟨by unfold Go.Proofs.Ytkidbnlebeaikaa.zeros; simp, fun k n xs hn hx => ?_⟩
  have := List.mem_of_getElem? hn
  unfold Go.Proofs.Ytkidbnlebeaikaa.zeros at this
  simp only [List.mem_replicate] at this
  omega

theorem step_app1n {P : Program} {w : World} {ops : Array Oper} {o : Oper} {a : Act} {K : Act → World → Prop} {Q : Exit → Act → World → Prop} {F : Prop} (hgd : o.guard = none) (s x : Operand) (t : TypeId)
    (ho : o.op = .call { callee := .builtin .append, args := #[s, x], argTypes := #[t, t] })
    {E B bytes : Nat} {z : Value} (ht : ElemOk P t E bytes z) {v u : Value} {xs : List Value} (hs : a.eval s = v) (hown : Own w E B v xs) (hx : a.eval x = .slice (some ⟨w.heap.size, 0, none⟩) 1 1)
    (h1 : u.oneCell' = true) (hB : B ≤ w.heap.size) (hbytes : (xs.length + 1) * bytes ≤ 140737488355328) (h63 : xs.length + 1 ≤ 9223372036854775807)
    (h : ∀ b c w', Own w' E B (.slice b (xs.length + 1) c) (xs ++ [u]) → w.grownBy w' v.ownBlock →
      ((Value.slice b (xs.length + 1) c).ownBlock = v.ownBlock ∨ ∃ k, w.heap.size ≤ k ∧ (Value.slice b (xs.length + 1) c).ownBlock = some k) →
      K (a.put o.dst (.slice b (xs.length + 1) c)) w') : if Region.wanted o (yielded ops a.tmps) = true then Oper.wp P o a (w.alloc (.cells #[u] E)) K Q else F := by
  refine step_app hgd s x t ho ht hs (hown.alloc _) hx (rd_one w E u) (by simpa using h1) (by simp; omega) (by simpa using hbytes) (by simpa using h63) fun b c w' h2 h3 h4 => ?_
  simp only [List.length_cons, List.length_nil, Nat.zero_add] at h2 h3 h4 ⊢
  refine h b c w' h2 ⟨h3.os, h3.tape, h3.output, by have := h3.size; simp at this; omega, fun k hk hne => (h3.block k (by simp; omega) hne).trans (Below.heap_alloc w _ k hk)⟩ ?_
  rcases h4 with h4 | h4
  · exact .inl h4
  · exact .inr ⟨_, by simp, h4⟩

theorem hat_imp {x y : Option Nat} {n : Nat} (h : x = y ∨ x = some n) : x = y ∨ ∃ k, n ≤ k ∧ x = some k := h.imp id fun e => ⟨n, Nat.le_refl _, e⟩
theorem Own.of_heap {w w' : World} {E B : Nat} {v : Value} {xs : List Value} (h : Own w E B v xs) (e : w'.heap = w.heap) : Own w' E B v xs := h.keep fun k _ _ => by rw [e]
theorem Rd.of_heap {w w' : World} {v : Value} {xs : List Value} (h : Rd w v xs) (e : w'.heap = w.heap) : Rd w' v xs := h.keep fun p _ _ => World.cell?_of_block (w := w) (by rw [e])

set_option maxHeartbeats 2000000 in
theorem i_mergeAll (v : Value) (xss : List (List Int)) (w : World) (h : Rd2 w v xss) (hf : I64ss xss) (hr : rest xss (zeros xss.length) ≤ 80) (h1 : 1 ≤ xss.length) (h8 : xss.length ≤ 8) :
    Calls Try.prog 49 #[v] w (fun e w' => ∃ va vb, e = .returned (.tuple #[va, vb]) ∧ Own w' 3 w.heap.size va (ints (allNums xss)) ∧ Own w' 3 w.heap.size vb (ints (allFrom xss)) ∧ Below w.heap.size w w') := by
  obtain ⟨a0, c0, rfl, _, _⟩ := h.form
  go_enter Try.func49, Try.ntmps49
  go_wp2_with (first
    | (at_make; refine wpList_mk (B := w.heap.size + 2) rfl _ _ 27 rfl elI rfl rfl (by simp) (by omega) (by omega) ?_; intro b w1 hb1 hown1 hg1)
    | (go_at_call 48; refine (i_winner _ xss _ (zeros xss.length) _ (h.below (((Below.refl _ _).alloc (Nat.le_refl _) _).alloc (by simp) _ |>.grown hg1 (by simp; omega) (fun _ h => by cases h))) (by simpa [ints, zeros] using hown1.rd) (TK.zeros xss) hf h1 h8).mono ?_; rintro e w2 ⟨rfl, hd2⟩))
  have hbn : b.block = w.heap.size + 2 := by simpa using hb1
  have hbA : Below w.heap.size w w1 := ((Below.refl _ _).alloc (Nat.le_refl _) _).alloc (by simp) _ |>.grown hg1 (by simp; omega) (fun _ h => by cases h)
  have hoA : Own w1 3 w.heap.size (.slice (some ⟨w.heap.size, 0, none⟩) 0 0) (ints []) := ((Own.lit0 w _ (Nat.le_refl _)).alloc _).grown hg1 (.inl (by simp [Value.ownBlock]))
  have hpA : Own w1 3 w.heap.size (.slice (some ⟨w.heap.size + 1, 0, none⟩) 0 0) (ints []) := by
    have := (Own.lit0 (B := w.heap.size) (w.alloc (.cells #[] 3)) 3 (by simp)).grown hg1 (.inl (by simp [Value.ownBlock]))
    simpa using this
  have htA : Own w1 3 w.heap.size (.slice (some b) xss.length xss.length) (ints (zeros xss.length)) := by
    simpa [ints, zeros] using hown1.mono (by omega)
  have ap1 : Ap (.slice (some ⟨w.heap.size, 0, none⟩) 0 0) (.slice (some ⟨w.heap.size + 1, 0, none⟩) 0 0) := by intro g h2 h3; simp [Value.ownBlock] at h2 h3; omega
  have ap2 : Ap (.slice (some ⟨w.heap.size, 0, none⟩) 0 0) (.slice (some b) xss.length xss.length) := by intro g h2 h3; simp [Value.ownBlock] at h2 h3; omega
  have ap3 : Ap (.slice (some ⟨w.heap.size + 1, 0, none⟩) 0 0) (.slice (some b) xss.length xss.length) := by intro g h2 h3; simp [Value.ownBlock] at h2 h3; omega
  have HF : Hid (∀ xs : List Int, ints xs = ints xs) := fun _ => rfl
  clear hown1 hg1 hb1 hbn
  go_loopw [4, 5, 7] (fun vo vp k wr => ∃ (f : Nat) (t os ps : List Int), Hid (TK xss t) ∧ Hid (rest xss t ≤ f) ∧ k = .int .i64 (winnerOf xss t) ∧ os.length + f ≤ 80 ∧ ps.length + f ≤ 80 ∧ Hid (ps ++ seqFrom xss f t = allFrom xss) ∧ Hid (os ++ numsAlong xss t (seqFrom xss f t) = allNums xss) ∧
      Own wr 3 w.heap.size vo (ints os) ∧ Own wr 3 w.heap.size vp (ints ps) ∧ Own wr 3 w.heap.size (.slice (some b) xss.length xss.length) (ints t) ∧ Ap vo vp ∧ Ap vo (.slice (some b) xss.length xss.length) ∧ Ap vp (.slice (some b) xss.length xss.length) ∧ Below w.heap.size w wr)
    (fun vo _ _ _ => match vo with | .slice _ n _ => 100 - n | _ => 0)
  case atStart => exact ⟨80, zeros xss.length, [], [], TK.zeros xss, hr, rfl, by simp, by simp, rfl, rfl, hoA.dr hd2, hpA.dr hd2, htA.dr hd2, ap1, ap2, ap3, hbA.trans (hd2.below _)⟩
  case round =>
    obtain ⟨f, t, os, ps, HT, HRr, rfl, hof, hpf, HQ1, HQ2, ho, hp, ht, ap1, ap2, ap3, hb⟩ := hrel
    obtain ⟨ao, co, rfl, _, hco⟩ := ho.rd.formi
    obtain ⟨ap, cp, rfl, _, hcp⟩ := hp.rd.formi
    have hl := Lib.hid HT.out.1
    have hW := Lib.hid (winOf_min (xss := xss) (t := t) h1)
    obtain ⟨a, hae⟩ : ∃ a, winOf xss t = a := ⟨_, rfl⟩
    have ha : a < xss.length := by have := hW.out.2.1; omega
    have HA := Lib.hid hae
    clear hae
    obtain ⟨ad, na, had, hca, hna⟩ := ht.rd.int (show a < t.length by have := hl.out; omega)
    obtain rfl : b = ad := by injection had
    clear had
    obtain ⟨q, bx, mx, dx, xs, rfl, hqa0, hxa, hmx, hmdx, hdx, hrx⟩ := h.row ha
    obtain ⟨n, rfl, hkn⟩ := HT.out.at hna.out hxa.out
    obtain rfl : mx = xs.length := hmx.out
    by_cases hlt : n < xs.length
    · have HWN : Hid (winnerOf xss t = a) := by
        show _ = _
        rw [winnerOf_no (by rw [HA.out]; exact exh_no hxa.out hna.out hlt), HA.out]
      rw [HWN.out]
      obtain ⟨z, y, rfl, hcy0, hy⟩ := hrx.int hlt
      have i1 : (0 : Int) ≤ (a : Int) := by omega
      have i2 : (a : Int) < (xss.length : Int) := by omega
      have i3 : (0 : Int) ≤ (n : Int) := by omega
      have i4 : (n : Int) < (xs.length : Int) := by omega
      have HSS : Hid (∀ wx : World, Below w.heap.size w wx → Own wx 3 w.heap.size (.slice (some b) xss.length xss.length) (ints t) → wx.cell? (q.add a) = some (.slice (some z) xs.length dx) ∧ wx.cell? (b.add a) = some (.int .i64 n) ∧ wx.cell? (z.add n) = some (.int .i64 y)) := by
        intro wx hbx htx
        exact ⟨(hbx.cell (World.block_lt_of_cell? w _ hqa0)).trans hqa0, htx.rd.cell_int hna.out, (hbx.cell (World.block_lt_of_cell? w _ hcy0)).trans hcy0⟩
      obtain ⟨hqa, hca, hcy⟩ := HSS.out _ hb ht
      have HQA := Lib.hid hqa0
      have HCY := Lib.hid hcy0
      clear hqa0 hcy0
      have hLo := ints_length os
      have hLp := ints_length ps
      have hsz := hb.size
      have hoA := ho.alloc (.cells #[.int .i64 (a : Int)] 3)
      have hpA := hp.alloc (.cells #[.int .i64 (a : Int)] 3)
      have htA := ht.alloc (.cells #[.int .i64 (a : Int)] 3)
      have hbA := hb.alloc hb.size (.cells #[.int .i64 (a : Int)] 3)
      have hoY := (ho.alloc (.cells #[.int .i64 y] 3)).alloc (.cells #[.int .i64 (a : Int)] 3)
      have hpY := (hp.alloc (.cells #[.int .i64 y] 3)).alloc (.cells #[.int .i64 (a : Int)] 3)
      have htY := (ht.alloc (.cells #[.int .i64 y] 3)).alloc (.cells #[.int .i64 (a : Int)] 3)
      have hbY := (hb.alloc hb.size (.cells #[.int .i64 y] 3)).alloc (by simp; omega) (.cells #[.int .i64 (a : Int)] 3)
      have hsA := rd_one wr 3 (.int .i64 (a : Int))
      have hsY := (rd_one wr 3 (.int .i64 y)).alloc (.cells #[.int .i64 (a : Int)] 3)
      have hsYA := rd_one (wr.alloc (.cells #[.int .i64 y] 3)) 3 (.int .i64 (a : Int))
      have hoZ := (ho.alloc (.cells #[.int .i64 (a : Int)] 3)).alloc (.cells #[.int .i64 y] 3)
      have hpZ := (hp.alloc (.cells #[.int .i64 (a : Int)] 3)).alloc (.cells #[.int .i64 y] 3)
      have htZ := (ht.alloc (.cells #[.int .i64 (a : Int)] 3)).alloc (.cells #[.int .i64 y] 3)
      have hbZ := (hb.alloc hb.size (.cells #[.int .i64 (a : Int)] 3)).alloc (by simp; omega) (.cells #[.int .i64 y] 3)
      have hzZ := hbZ.size
      have hsA := hsA.alloc (.cells #[.int .i64 y] 3)
      have hsZ := rd_one (wr.alloc (.cells #[.int .i64 (a : Int)] 3)) 3 (.int .i64 y)
      rw [show (wr.alloc (.cells #[.int .i64 (a : Int)] 3)).heap.size = wr.heap.size + 1 by simp] at hsZ
      have hzA := hbA.size
      have hzY := hbY.size
      go_wp2
      go_region_held3 (fun w' => w'.cell? (q.add a) = some (.slice (some z) xs.length dx) ∧ w'.cell? (b.add a) = some (.int .i64 n) ∧ w'.cell? (z.add n) = some (.int .i64 y))
        (first | exact HSS.out _ hb6 ht6 | exact HSS.out _ hb5 ht5 | go_keep)
        (first
          | (refine step_app1n (by rfl) _ _ _ (by rfl) elI (by rfl) hp5 (by rfl) (by rfl) hb5.size (by omega) (by omega) ?_; intro bm cm w6 hp6 hg6 hat6; have b12 := a12.right ho5 hat6; have b23 := ap3.left ht5 hat6; have ht6 := ht5.ap hg6 ap3.symm; have ho6 := ho5.ap hg6 a12; have hb6 := hb5.grown hg6 hb5.size (fun r hr => (hp5.lt r hr).1))
          | (refine step_app (by rfl) _ _ _ (by rfl) elI (by rfl) hp5 (by rfl) hs2 (by simp [Value.oneCell']) hb5.size (by simp; omega) (by simp; omega) ?_; simp only [List.length_cons, List.length_nil, Nat.zero_add]; intro bm cm w6 hp6 hg6 hat6; have hat6' := hat_imp hat6; have b12 := a12.right ho5 hat6'; have b23 := ap3.left ht5 hat6'; have ht6 := ht5.ap hg6 ap3.symm; have ho6 := ho5.ap hg6 a12; have hb6 := hb5.grown hg6 hb5.size (fun r hr => (hp5.lt r hr).1))
          | (refine step_app1 (by rfl) _ _ _ (by rfl) elI (by rfl) ho (by rfl) (by rfl) hsz (by omega) (by omega) ?_; intro bn cn' w5 ho5 hg5 hat5; have ht5 := ht.ap hg5 ap2.symm; have hp5 := hp.ap hg5 ap1.symm; have a12 := ap1.left hp hat5; have a13 := ap2.left ht hat5; have hb5 := hb.grown hg5 hb.size fun r hr => (ho.lt r hr).1)
          | (refine step_app (by rfl) _ _ _ (by rfl) elI (by rfl) (by exact Own.of_heap hoY rfl) (by rfl) (by exact Rd.of_heap hsY rfl) (by simp [Value.oneCell']) (by exact hzY) (by simp; omega) (by simp; omega) ?_; simp only [List.length_cons, List.length_nil, Nat.zero_add]; intro bn cn' w5 ho5 hg5 hat5; have hat5' := hat_imp hat5; have ht5 := Own.ap (by exact Own.of_heap htY rfl) hg5 ap2.symm; have hp5 := Own.ap (by exact Own.of_heap hpY rfl) hg5 ap1.symm; have a12 := Ap.left ap1 (by exact Own.of_heap hpY rfl) hat5'; have a13 := Ap.left ap2 (by exact Own.of_heap htY rfl) hat5'; have hb5 := Below.grown (by exact ⟨hbY.os, hbY.tape, hbY.output, hbY.size, hbY.block⟩) hg5 (by exact hzY) (fun r hr => (ho.lt r hr).1); have hs2 := Rd.grown (by exact Rd.of_heap hsYA rfl) hg5 (.inl (fun e => by have := (ho.lt _ e.symm).2; simp at this; omega)); simp at hs2)
          | (refine step_app (by rfl) _ _ _ (by rfl) elI (by rfl) (by exact Own.of_heap hoZ rfl) (by rfl) (by exact Rd.of_heap hsZ rfl) (by simp [Value.oneCell']) (by exact hzZ) (by simp; omega) (by simp; omega) ?_; simp only [List.length_cons, List.length_nil, Nat.zero_add]; intro bn cn' w5 ho5 hg5 hat5; have hat5' := hat_imp hat5; have ht5 := Own.ap (by exact Own.of_heap htZ rfl) hg5 ap2.symm; have hp5 := Own.ap (by exact Own.of_heap hpZ rfl) hg5 ap1.symm; have a12 := Ap.left ap1 (by exact Own.of_heap hpZ rfl) hat5'; have a13 := Ap.left ap2 (by exact Own.of_heap htZ rfl) hat5'; have hb5 := Below.grown (by exact ⟨hbZ.os, hbZ.tape, hbZ.output, hbZ.size, hbZ.block⟩) hg5 (by exact hzZ) (fun r hr => (ho.lt r hr).1); have hs2 := Rd.grown (by exact Rd.of_heap hsA rfl) hg5 (.inl (fun e => by have := (ho.lt _ e.symm).2; exact absurd this (Nat.lt_irrefl _)))))
      all_goals
        clear hoA hpA htA hbA hoY hpY htY hbY hoZ hpZ htZ hbZ hsA hsY hsYA hsZ hzA hzY hzZ hqa hca hcy i3 i4
        simp only [ints_length] at ho6 hp6 a13 b12 b23
        have hla : a < t.length := by have := hl.out; omega
        have hca6 := ht6.rd.cell_int hna.out
        have hfz := ht6.frozen rfl a
        have ht7 := (ht6.seti rfl hla ((n : Int) + 1)).1
        rw [← bump_eq hna.out] at ht7
        have hb7 := ht6.below_set rfl hla (.int .i64 ((n : Int) + 1)) hb6 (Nat.le_refl _)
        have ho7 := ho6.setCell (p := b.add a) (by rw [block_of_add]; exact a13.symm _ rfl) (.int .i64 ((n : Int) + 1))
        have hp7 := hp6.setCell (p := b.add a) (by rw [block_of_add]; exact b23.symm _ rfl) (.int .i64 ((n : Int) + 1))
        have hW8 := Lib.hid (i_winner _ xss _ (bump t a) _ (h.below hb7) ht7.rd (HT.out.bump hxa.out hna.out hlt) hf h1 h8)
        have HSQ := Lib.hid (seq_step (xss := xss) (t := t) (f := f) (by rw [HA.out]; exact hxa.out) (by rw [HA.out]; exact hna.out) hlt HRr.out)
        clear hp6 hp5 ho5 ho6 ht5 hb5 hla hg5 hg6 hat5 hat6 HSS HQA HCY ho hp ht hb
        go_wp2_with (go_at_call 48; refine hW8.out.mono ?_; rintro e w8 ⟨rfl, hd8⟩)
        obtain ⟨f', hff, hr', hseq⟩ := HSQ.out
        rw [HA.out] at hr' hseq
        go_roundw
        case rel => exact ⟨f', bump t a, os ++ [y], ps ++ [(a : Int)], HT.out.bump hxa.out hna.out hlt, hr', rfl, by simp; omega, by simp; omega, by
          show _ = _
          rw [← HQ1.out, hseq]
          simp, by
          show _ = _
          rw [← HQ2.out, hseq, nums_step hxa.out hna.out hy.out]
          simp, by rw [ints_append]; exact ho7.dr hd8, by rw [ints_append]; exact hp7.dr hd8, ht7.dr hd8, b12, a13, b23, hb7.trans (hd8.below _)⟩
        case measure => simp; omega
    · have HWN : Hid (winnerOf xss t = -1) := winnerOf_yes (by rw [HA.out]; exact exh_yes hxa.out hna.out (by omega))
      rw [HWN.out]
      have HQ3 := Lib.hid (seq_done (xss := xss) (t := t) f (by rw [HA.out]; exact exh_yes hxa.out hna.out (by omega)))
      go_wp2
      go_ret2
      exact ⟨_, _, rfl, by rw [← HQ2.out, HQ3.out, numsAlong, List.append_nil]; exact ho, by rw [← HQ1.out, HQ3.out, List.append_nil]; exact hp, hb⟩

end Go.Proofs.Ytkidbnlebeaikaa
