/- Walks: late records in the reference. -/
import Derived.Test.YtdagkgkllgpeeaaDoorOwnsL
import Derived.Test.YtdagkgkllgpeeaaDoorPlainLate
import Derived.Test.YtdagkgkllgpeeaaDoorLists
import Derived.BigRegion
import Derived.Deep.DeepCutAuto
import Derived.Deep.LoopGhost
namespace Go.Proofs.YtdagkgkllgpeeaaDoor
open Go.RowKit
set_option linter.unusedVariables false
set_option linter.unusedSimpArgs false

def RetLate (T : List Int) (s : Int) (w : World) (e : Ending) (w' : World) : Prop :=
  ∃ vo vl vd, e = .returned (.tuple #[vo, vl, vd, .int .i64 (lateMost T s)]) ∧ OwnsL w' 3 w.heap.size [(vo, lateOut T s), (vl, lateLate T s), (vd, lateDel T s)] ∧ Below w.heap.size w w'
theorem ltK_nat (T : List Int) (y : Nat) : ltK T (y : Int) = T.getD y 0 := by simp [ltK]
theorem getD_of {T : List Int} {k : Nat} {t : Int} (h : T[k]? = some t) : T.getD k 0 = t := by rw [List.getD_eq_getElem?_getD, h]; rfl
theorem results_tmp4 {fn : Func} {t u v x : Tmp} (h : fn.results = #[.tmp t, .tmp u, .tmp v, .tmp x]) (tmps : Array Value) (P : Program) (w : World) :
    (results fn tmps).run P w = .ok (.tuple #[tmps.getD t undef, tmps.getD u undef, tmps.getD v undef, tmps.getD x undef]) w := by
  simp [results, h]
/-- 'append([]T{}, xs...)': a copy that is not nil. -/
theorem wpList_copyS {P : Program} {w : World} {ops : Array Oper} {rest : List Oper} {o : Oper} {a : Act} {Q : Exit → Act → World → Prop} (hgd : o.guard = none) (s x : Operand) (t : TypeId)
    (ho : o.op = .call { callee := .builtin .append, args := #[s, x], argTypes := #[t, t] })
    {E B bytes : Nat} {z : Value} (ht : ElemOk P t E bytes z) {vx : Value} {news : List Value} (hr : Rd w vx news) (hs : a.eval s = .slice (some ⟨w.heap.size, 0, none⟩) 0 0) (hx : a.eval x = vx)
    (h1 : ∀ u ∈ news, u.oneCell' = true) (hB : B ≤ w.heap.size) (n : Nat) (hn : news.length = n) (hbytes : n * bytes ≤ 140737488355328) (h63 : n ≤ 9223372036854775807)
    (h : ∀ b c w', Own w' E w.heap.size (.slice (some b) n c) news → Below w.heap.size w w' → wpList P ops Q rest (a.put o.dst (.slice (some b) n c)) w') : wpList P ops Q (o :: rest) a (w.alloc (.cells #[] E)) := by
  subst hn
  have hlit : Own (w.alloc (.cells #[] E)) E w.heap.size (.slice (some ⟨w.heap.size, 0, none⟩) 0 0) [] := by simpa [ints] using Own.lit0 w E (Nat.le_refl _)
  refine wpList_app hgd s x t ho ht hs hlit hx (hr.alloc _) h1 (by simp) (by simpa using hbytes) (by simpa using h63) fun b c w' h2 h3 h4 => ?_
  simp only [List.length_nil, Nat.zero_add, List.nil_append] at h2 h4 ⊢
  cases b with
  | none => rcases h4 with h4 | h4 <;> cases h4
  | some b => exact h b c w' h2 (((Below.refl _ _).alloc (Nat.le_refl _) _).grown h3 (by simp) fun r hr => (hlit.lt r hr).1)
set_option maxRecDepth 100000 in
set_option maxHeartbeats 16000000 in
theorem s_l24Run (v : Value) (T : List Int) (s : Int) (w : World) (h : Rd w v (ints T)) (hn30 : T.length ≤ 30) (hT : ∀ t ∈ T, 0 ≤ t ∧ t ≤ 1000) (hs : 0 ≤ s ∧ s ≤ 1000) :
    Calls Tryd.prog 133 #[v, .int .i64 s] w (RetLate T s w) := by
  obtain ⟨aT, n, cT, rfl, HN, hnc, hc⟩ := h.formN
  have hn : n ≤ 30 := by have := HN.out; omega
  have HINV := Lib.hid (fun k (hk : k ≤ T.length) => lrun_inv hT hs k hk)
  have HTR := Lib.hid hT
  clear hT hn30
  have hA1 := (OwnsL.nil w 3 w.heap.size).snoc ((Below.refl _ _).alloc (Nat.le_refl _) (.cells #[] 3)) (Nat.le_refl _) (Own.lit0 w 3 (Nat.le_refl _))
  have hA2 := hA1.snoc ((Below.refl _ _).alloc (Nat.le_refl _) (.cells #[] 3)) (by simp) (Own.lit0 _ 3 (Nat.le_refl _))
  go_enter Tryd.func133, Tryd.ntmps133
  go_wp2_with (at_make; refine wpList_mk (B := w.heap.size + 2) rfl _ _ 22 rfl elI rfl rfl (by simp) (by omega) (by omega) ?_; intro bd wd hbd hown hgd)
  have hown' : Own wd 3 ((w.alloc (.cells #[] 3)).alloc (.cells #[] 3)).heap.size (.slice (some bd) n n) (ints (List.replicate n 0)) := by
    have e : ((w.alloc (.cells #[] 3)).alloc (.cells #[] 3)).heap.size = w.heap.size + 2 := by simp
    rw [e]
    simpa [ints] using hown
  have hbd2 : Below ((w.alloc (.cells #[] 3)).alloc (.cells #[] 3)).heap.size ((w.alloc (.cells #[] 3)).alloc (.cells #[] 3)) wd := (Below.refl _ _).grown hgd (Nat.le_refl _) (fun _ h => by cases h)
  have hA3 := hA2.snoc hbd2 (by simp; omega) hown'
  have hA4 := hA3.snoc ((Below.refl _ _).alloc (Nat.le_refl _) (.cells #[] 3)) (by have := hgd.size; simp at this; omega) (Own.lit0 wd 3 (Nat.le_refl _))
  have hO : OwnsL (wd.alloc (.cells #[] 3)) 3 w.heap.size [(.slice (some ⟨w.heap.size, 0, none⟩) 0 0, []), (.slice (some ⟨w.heap.size + 1, 0, none⟩) 0 0, []), (.slice (some bd) n n, List.replicate n 0), (.slice (some ⟨wd.heap.size, 0, none⟩) 0 0, [])] := by simpa using hA4
  have hb0 : Below w.heap.size w (wd.alloc (.cells #[] 3)) := by
    have h1 : Below w.heap.size w ((w.alloc (.cells #[] 3)).alloc (.cells #[] 3)) := ((Below.refl _ _).alloc (Nat.le_refl _) _).alloc (by simp) _
    have h2 := h1.trans (hbd2.mono (by simp; omega))
    exact h2.alloc h2.size _
  have HL0 : Hid (lrun T s 0 = ⟨[], [], [], List.replicate n 0, [], 0, -1001⟩) := by rw [Hid, lrun, lS0, HN.out]
  clear hA1 hA2 hA3 hA4 hown' hown hgd hbd2
  go_wp2_with fail
  go_loopg [8, 9, 11, 12, 13, 29] n (fun gq vo vl vw vm vk iv wr => ∃ (k : Nat) (L : LS) (p : Addr) (m c : Nat), gq = n - k ∧ k ≤ n ∧ iv = .int .i64 (k : Int) ∧ Hid (lrun T s k = L) ∧ vw = .slice (some p) m c ∧ vm = .int .i64 L.most ∧ vk = .int .i64 L.mark ∧ OwnsL wr 3 w.heap.size [(vo, L.out), (vl, L.late), (.slice (some bd) n n, L.del), (vw, L.w)] ∧ Below w.heap.size w wr)
  case atStart => exact ⟨0, _, _, _, _, rfl, Nat.zero_le _, rfl, HL0, rfl, rfl, rfl, hO, hb0⟩
  case round =>
    clear hO hb0 HL0
    obtain ⟨k, ⟨W, O, Lt, D, Mk, ms, mk⟩, p, m, c, hgk, hk, rfl, HL, rfl, rfl, rfl, ho, hb⟩ := hrel
    dsimp only at ho HL
    have HI : Hid (LInv T s k ⟨W, O, Lt, D, Mk, ms, mk⟩) := by have := HINV.out k (by have := HN.out; omega); rw [HL.out] at this; exact this
    have hmk := HI.out.mkb
    have hms := HI.out.most0
    dsimp only at hmk hms
    have HLEN : Hid (W.length + O.length + Lt.length = k) := HI.out.len
    obtain ⟨aO, mO, cO, rfl, HMO, _, _⟩ := ho.o0.rd.formN
    obtain ⟨aLt, mLt, cLt, rfl, HMLt, _, _⟩ := ho.o1.rd.formN
    have hmW : Hid (m = W.length) := by
      obtain ⟨_, m', _, e, hm', _, _⟩ := ho.o3.rd.formN
      injection e with e1 e2 e3
      rw [Hid, e2]; exact hm'.out
    have hmO : mO ≤ k := by have := HLEN.out; have := HMO.out; dsimp only at this; omega
    have hmLt : mLt ≤ k := by have := HLEN.out; have := HMLt.out; dsimp only at this; omega
    have hm : m ≤ k := by have := HLEN.out; have := hmW.out; omega
    have hsb := hb.size
    by_cases hlt : k < n
    · have i0 : (k : Int) < (n : Int) := by omega
      obtain ⟨ad, t, rfl, hct, ht⟩ := (h.below hb).int (k := k) (by have := HN.out; omega)
      have htb := HTR.out t (List.mem_of_getElem? ht.out)
      have HTK : Hid (T.getD k 0 = t) := getD_of ht.out
      have HSTEP : Hid (lrun T s (k + 1) = lstep T s ⟨W, O, Lt, D, Mk, ms, mk⟩ k) := by rw [Hid, lrun, HL.out]
      have hDl : Hid (D.length = n) := by have := HI.out.del; rw [Hid, HN.out]; exact this
      obtain ⟨mk2, hmk2⟩ : ∃ mk2, max mk (t - s) = mk2 := ⟨_, rfl⟩
      have HMK : Hid (lmk T s ⟨W, O, Lt, D, Mk, ms, mk⟩ k = mk2) := by rw [Hid, lmk, HTK.out]; exact hmk2
      have hmkb : -1001 ≤ mk2 ∧ mk2 ≤ 1000 := by omega
      clear hmk2
      have HX : Hid ((if mk < t - s then t - s else mk) = mk2) := by
        have := HMK.out
        rw [lmk, HTK.out] at this
        rw [Hid, ← this]
        show (if mk < t - s then t - s else mk) = max mk (t - s)
        split <;> omega
      go_upto_if 36 with (fail)
      go_cut [9, 11] (fun vl vw wx => ∃ (p : Addr) (m9 c : Nat) (Lt5 D5 Q : List Int), vw = .slice (some p) m9 c ∧ Hid (lq T ⟨W, O, Lt, D, Mk, ms, mk⟩ k = Q) ∧ Hid ((lstep T s ⟨W, O, Lt, D, Mk, ms, mk⟩ k).late = Lt5 ∧ (if T.getD k 0 < mk then D.set k (-1) else D) = D5) ∧ OwnsL wx 3 w.heap.size [(.slice aO mO cO, O), (vl, Lt5), (.slice (some bd) n n, D5), (vw, Q)] ∧ Below w.heap.size w wx)
      case first =>
        clear HX
        by_cases hlate : t < mk
        · have HQ : Hid (lq T ⟨W, O, Lt, D, Mk, ms, mk⟩ k = W) := by rw [Hid, lq, HTK.out]; exact if_pos hlate
          have HLA : Hid ((lstep T s ⟨W, O, Lt, D, Mk, ms, mk⟩ k).late = Lt ++ [(k : Int)] ∧ (if T.getD k 0 < mk then D.set k (-1) else D) = D.set k (-1)) := by rw [Hid, HTK.out]; exact ⟨(if_pos (by rw [HTK.out]; exact hlate)), if_pos hlate⟩
          have HLe : Hid ((ints Lt).length = mLt) := by rw [Hid, ints_length]; exact HMLt.out.symm
          obtain ⟨zD, hzD⟩ : ∃ z, D[k]? = some z := ⟨_, List.getElem?_eq_getElem (show k < D.length by have := hDl.out; omega)⟩
          go_wp2_with (at_builtin; refine wpList_app1m rfl _ _ 22 rfl elI rfl ho.o1 (by show Value.slice (some ⟨wr.heap.size, 0, none⟩) 1 1 = _; simp) rfl hsb _ HLe.out (by omega) (by omega) ?_; intro b5 c5 w5 ho5 hg5 hat5; have hO5 : OwnsL w5 3 w.heap.size [(.slice aO mO cO, O), (.slice b5 (mLt + 1) c5, Lt ++ [(k : Int)]), (.slice (some bd) n n, D), (.slice (some p) m c, W)] := ho.t1 hg5 (by rw [ints_append]; exact ho5) (hat_of hat5); have hfz5 := hO5.o2.frozen rfl k; have hcd5 := hO5.o2.rd.cell_i hzD)
          have hb5 := hb.grown hg5 hsb (fun r hr => (ho.o1.lt r hr).1)
          have hst := hO5.o2.seti rfl (show k < D.length by have := hDl.out; omega) (-1)
          have hb6 := hO5.o2.below_set rfl (show k < D.length by have := hDl.out; omega) (.int .i64 (-1)) hb5 (Nat.le_refl _)
          have hO6 := hO5.t2 hst.2 hst.1 (fun g hg => .inl hg)
          go_meet
          exact ⟨_, _, _, _, _, _, rfl, HQ, HLA, hO6, hb6⟩
        · have HLA : Hid ((lstep T s ⟨W, O, Lt, D, Mk, ms, mk⟩ k).late = Lt ∧ (if T.getD k 0 < mk then D.set k (-1) else D) = D) := by rw [Hid, HTK.out]; exact ⟨(if_neg (by rw [HTK.out]; exact hlate)), if_neg hlate⟩
          have HKW : Hid (KAsc (ltK T) W) := HI.out.asc
          have HWL : Hid (∀ x ∈ W, ∃ j : Nat, j < k ∧ x = j) := HI.out.wlt
          have how := ho.o3
          dsimp only at how
          go_wp2_with fail
          go_loopg [16] m (fun gj q wi => ∃ j : Nat, gj = j ∧ j ≤ m ∧ q = .int .i64 j ∧ Hid (j = W.length ∨ ∃ y, W[j]? = some y ∧ t < ltK T y) ∧ wr = wi)
          case atStart => exact ⟨m, rfl, Nat.le_refl _, rfl, .inl hmW.out, rfl⟩
          case round =>
            obtain ⟨j, hgj, hj, rfl, HG, rfl⟩ := hrel
            by_cases hjs : ∃ y, 0 < j ∧ W[j - 1]? = some y ∧ t < ltK T y
            · obtain ⟨y, hj0, hy, hxy⟩ := hjs
              obtain ⟨i, rfl⟩ : ∃ i, j = i + 1 := ⟨j - 1, by omega⟩
              rw [Nat.add_sub_cancel] at hy
              have hcy := how.rd.cell_i hy
              obtain ⟨Y, hYk, rfl⟩ := HWL.out y (List.mem_of_getElem? hy)
              obtain ⟨ad2, z, had2, hcz, hz⟩ := (h.below hb).int (k := Y) (by have := HN.out; omega)
              obtain rfl : ad = ad2 := by injection had2
              clear had2
              have hzz : ltK T (Y : Int) = z := by rw [ltK_nat]; exact getD_of hz.out
              have HXY := Lib.hid hxy
              rw [hzz] at hxy
              have d3 : decide (z > t) = true := by simpa using hxy
              have d3n : t < z := hxy
              have d0 : decide (((i + 1 : Nat) : Int) > 0) = true := by simp
              have i5 : (Y : Int) < (n : Int) := by omega
              have i6 : (i : Int) < (m : Int) := by omega
              have HY := Lib.hid hy
              clear hy hxy hzz
              go_wp2_with fail
              go_roundg i
              case measure => omega
              case rel => exact ⟨i, rfl, by omega, by go_num, .inr ⟨_, HY.out, HXY.out⟩, rfl⟩
            · have HST2 : Hid (lq T ⟨W, O, Lt, D, Mk, ms, mk⟩ k = W.take j ++ (k : Int) :: W.drop j) := by
                rw [Hid, lq, HTK.out]
                refine (if_neg (show ¬ t < mk by omega)).trans (last_cut (x := (k : Int)) HKW.out j (by have := hmW.out; omega) ?_ ?_)
                · by_cases hj0 : j = 0
                  · exact .inl hj0
                  · have hy := List.getElem?_eq_getElem (show j - 1 < W.length by have := hmW.out; omega)
                    refine .inr ⟨_, hy, ?_⟩
                    rw [ltK_nat, HTK.out]
                    exact Int.not_lt.mp fun hlt2 => hjs ⟨_, by omega, hy, hlt2⟩
                · rcases HG.out with hg | ⟨y, hy, hlt2⟩
                  · exact .inl hg
                  · exact .inr ⟨y, hy, by rw [ltK_nat, HTK.out]; exact hlt2⟩
              have hrT : Rd wr (.slice (some p) j c) (ints (W.take j)) := by rw [← ints_take]; exact how.rd.take hj
              have hrC : Rd wr (.slice (if c = j then some p else some (p.add j)) (m - j) (c - j)) (ints (W.drop j)) := by rw [← ints_drop]; exact how.rd.cut hj
              have HT1 : Hid ((ints (W.take j)).length = j) := by rw [Hid, ints_length, List.length_take]; have := hmW.out; omega
              have HT2 : Hid ((ints (W.drop j)).length = m - j) := by rw [Hid, ints_length, List.length_drop]; have := hmW.out; omega
              have hmc : m ≤ c := by obtain ⟨_, m', c', e, _, hmc', _⟩ := how.rd.formN; injection e with e1 e2 e3; omega
              have i1 : (j : Int) ≤ (c : Int) := by omega
              have i2 : (j : Int) ≤ (m : Int) := by omega
              obtain ⟨vC, hvC⟩ : ∃ vC, Value.slice (if c = j then some p else some (p.add j)) (m - j) (c - j) = vC := ⟨_, rfl⟩
              have HVC := Lib.hid hvC
              rw [hvC] at hrC
              clear hvC
              have hcond : (0 < j ∧ decide ((j : Int) > 0) = true) ∨ j = 0 := by
                rcases Nat.eq_zero_or_pos j with h0 | h0
                · exact .inr h0
                · exact .inl ⟨h0, by simp; omega⟩
              rcases hcond with ⟨hj0, hd0⟩ | hj0
              all_goals first
                | (have hj9 : j = 0 := hj0
                   subst hj9
                   have d0 : decide (((0 : Nat) : Int) > 0) = false := rfl
                   replace HVC : Hid (Value.slice (some p) m c = vC) := by
                     have := HVC.out
                     rw [show (if c = 0 then some p else some (p.add 0)) = some p by unfold Addr.add; simp] at this
                     exact this)
                | (obtain ⟨i, rfl⟩ : ∃ i, j = i + 1 := ⟨j - 1, by omega⟩
                   have hyl := List.getElem?_eq_getElem (show i < W.length by have := hmW.out; omega)
                   obtain ⟨y, hy⟩ : ∃ y, W[i]? = some y := ⟨_, hyl⟩
                   clear hyl
                   have hcy := how.rd.cell_i hy
                   obtain ⟨Y, hYk, rfl⟩ := HWL.out y (List.mem_of_getElem? hy)
                   obtain ⟨ad2, z, had2, hcz, hz⟩ := (h.below hb).int (k := Y) (by have := HN.out; omega)
                   obtain rfl : ad = ad2 := by injection had2
                   clear had2
                   have hzz : ltK T (Y : Int) = z := by rw [ltK_nat]; exact getD_of hz.out
                   have d3n : ¬ t < z := fun hlt2 => hjs ⟨_, by omega, hy, by rw [hzz]; exact hlt2⟩
                   have d3 : decide (z > t) = false := by simpa using d3n
                   have d0 : decide (((i + 1 : Nat) : Int) > 0) = true := by simp
                   have i5 : (Y : Int) < (n : Int) := by omega
                   have i6 : (i : Int) < (m : Int) := by omega
                   clear hy hzz)
              all_goals
                clear hjs HG
                go_wp2_with (first
                  | (at_builtin; (refine wpList_copy (B := w.heap.size) rfl _ _ 22 rfl elI hrT rfl rfl (oneCell_ints1 _) hsb _ HT1.out (by omega) (by omega) ?_); intro b1 c1 w1 ho1 hb1)
                  | (at_builtin; refine wpList_app1m rfl _ _ 22 rfl elI rfl ho1 (by show Value.slice (some ⟨w1.heap.size, 0, none⟩) 1 1 = _; simp) rfl hb1.size _ HT1.out (by omega) (by omega) ?_; intro b2 c2 w2 ho2 hg2 hat2; have hb2 := hb1.grown hg2 hb1.size (fun r hr => (ho1.lt r hr).1))
                  | (at_builtin; refine wpList_appn rfl _ _ 22 rfl elI ho2 (hrC.below hb2) rfl (by rw [← HVC.out]; first | rfl | simp | (simp [*])) (oneCell_ints1 _) hb2.size (m + 1) (by rw [List.length_append, HT1.out, HT2.out]; simp; omega) (by omega) (by omega) ?_; intro b3 c3 w6 ho3 hg3 hat3; have hb3 := hb2.grown hg3 hb2.size (fun r hr => (ho2.lt r hr).1)))
                all_goals
                  have ho3' : Own w6 3 wr.heap.size (.slice b3 (m + 1) c3) (ints (lq T ⟨W, O, Lt, D, Mk, ms, mk⟩ k)) := by rw [HST2.out]; simpa [ints] using ho3
                  obtain ⟨p, rfl⟩ := ho3'.some_of (by rw [HST2.out]; simp [ints] <;> omega)
                  have hO6 := ho.f3 hb3 hsb ho3'
                  have hb6 := hb.trans (hb3.mono hsb)
                  go_meet
                  exact ⟨_, _, _, _, _, _, rfl, rfl, HLA, hO6, hb6⟩
      case rest =>
        obtain ⟨p, m9, c, Lt5, D5, Q, rfl, HQ, HLA, hO6, hb6⟩ := hcut
        have hmW9 : Hid (m9 = Q.length) := by
          obtain ⟨_, m', _, e, hm', _, _⟩ := hO6.o3.rd.formN
          injection e with e1 e2 e3
          rw [Hid, e2]; exact hm'.out
        have hm1 : m9 ≤ k + 1 := by
          have h1 := (lq_facts HI.out).2.2
          rw [HQ.out, ← hmW9.out] at h1
          have := hmW.out
          dsimp only at h1
          split at h1 <;> omega
        have HD5 : Hid (D5.length = n) := by
          rw [Hid, ← HLA.out.2]
          split
          · rw [List.length_set]; exact hDl.out
          · exact hDl.out
        have HQF : Hid (KAsc (ltK T) Q ∧ ∀ x ∈ Q, ∃ j : Nat, j < k + 1 ∧ x = j) := by
          have := lq_facts HI.out
          rw [HQ.out] at this
          exact ⟨this.1, this.2.1⟩
        have hsb6 := hb6.size
        clear ho hb hmW hm
        go_upto_region 19 with (fail)
        go_cut [13] (fun vm wx => vm = .int .i64 mk2 ∧ wc = wx)
        case first =>
          go_wp2_with fail
          all_goals
            go_meet
            exact ⟨by rw [← HX.out]; first | rw [if_pos (by omega)] | rw [if_neg (by omega)], rfl⟩
        case rest =>
          obtain ⟨rfl, rfl⟩ := hcut
          clear HX
          go_wp2_with fail
          go_loopg [8, 18] m9 (fun gj vo iv wr => ∃ j : Nat, gj = m9 - j ∧ j ≤ m9 ∧ iv = .int .i64 (j : Int) ∧ Hid (∀ (i : Nat) y, i < j → Q[i]? = some y → ltK T y ≤ mk2) ∧ OwnsL wr 3 w.heap.size [(vo, O ++ Q.take j), (u9, Lt5), (.slice (some bd) n n, setAll D5 (Q.take j) (k : Int)), (.slice (some p) m9 c, Q)] ∧ Below w.heap.size w wr)
          case atStart => exact ⟨0, by omega, Nat.zero_le _, rfl, fun i y hi => by omega, by simpa [setAll_nil] using hO6, hb6⟩
          case round =>
            clear hO6 hb6
            obtain ⟨j, hgj, hj, rfl, HG, ho, hb⟩ := hrel
            obtain ⟨aO6, mO6, cO6, rfl, HMO6, _, _⟩ := ho.o0.rd.formN
            have hmO6 : mO6 ≤ 70 := by
              have h1 := HMO6.out
              try dsimp only at h1
              rw [List.length_append, List.length_take] at h1
              have := HMO.out
              try dsimp only at this
              omega
            have HLe6 : Hid ((ints (O ++ Q.take j)).length = mO6) := by rw [Hid, ints_length]; exact HMO6.out.symm
            have how := ho.o3
            dsimp only at how
            by_cases hjs : ∃ y, Q[j]? = some y ∧ ltK T y ≤ mk2
            · obtain ⟨y, hy, hle⟩ := hjs
              have hjl := (List.getElem?_eq_some_iff.1 hy).1
              have hcy := how.rd.cell_i hy
              obtain ⟨Y, hYk, rfl⟩ := HQF.out.2 y (List.mem_of_getElem? hy)
              obtain ⟨ad2, z, had2, hcz, hz⟩ := (h.below hb).int (k := Y) (by have := HN.out; omega)
              obtain rfl : ad = ad2 := by injection had2
              clear had2
              have HLE := Lib.hid hle
              have hzz : ltK T (Y : Int) = z := by rw [ltK_nat]; exact getD_of hz.out
              rw [hzz] at hle
              have d4 : decide (z ≤ mk2) = true := by simpa using hle
              have d4n : z ≤ mk2 := hle
              have hjm : j < m9 := by have := hmW9.out; omega
              have i3 : (j : Int) < (m9 : Int) := by omega
              have i5 : (Y : Int) < (n : Int) := by omega
              have HTS : Hid (Q.take (j + 1) = Q.take j ++ [(Y : Int)]) := take_snoc' hy
              have HY := Lib.hid hy
              have hsbj := hb.size
              clear hy hle hzz
              go_wp2_with (at_builtin; refine wpList_app1m rfl _ _ 22 rfl elI rfl ho.o0 (by show Value.slice (some ⟨wr.heap.size, 0, none⟩) 1 1 = _; simp) rfl hsbj _ HLe6.out (by omega) (by omega) ?_; intro b7 c7 w7 ho7 hg7 hat7)
              have hO7 : OwnsL w7 3 w.heap.size [(.slice b7 (mO6 + 1) c7, O ++ Q.take j ++ [(Y : Int)]), (u9, Lt5), (.slice (some bd) n n, setAll D5 (Q.take j) (k : Int)), (.slice (some p) m9 c, Q)] := ho.t0 hg7 (by rw [ints_append (O ++ Q.take j)]; exact ho7) (hat_of hat7)
              have hb7 := hb.grown hg7 hsbj (fun r hr => (ho.o0.lt r hr).1)
              have hw7 := hO7.o3.rd.cell_i HY.out
              have hfz7 := hO7.o2.frozen rfl Y
              have hDL : Y < (setAll D5 (Q.take j) (k : Int)).length := by rw [setAll_length, HD5.out]; omega
              obtain ⟨zY, hzY⟩ : ∃ z, (setAll D5 (Q.take j) (k : Int))[Y]? = some z := ⟨_, List.getElem?_eq_getElem hDL⟩
              have hcd7 := hO7.o2.rd.cell_i hzY
              have hst := hO7.o2.seti rfl hDL ((k : Int) - (Y : Int))
              have hb8 := hO7.o2.below_set rfl hDL (.int .i64 ((k : Int) - (Y : Int))) hb7 (Nat.le_refl _)
              have hO8 := hO7.t2 hst.2 hst.1 (fun g hg => .inl hg)
              have HOT : Hid (O ++ Q.take j ++ [(Y : Int)] = O ++ Q.take (j + 1)) := by rw [Hid, HTS.out, List.append_assoc]
              have HDT : Hid ((setAll D5 (Q.take j) (k : Int)).set Y ((k : Int) - (Y : Int)) = setAll D5 (Q.take (j + 1)) (k : Int)) := by rw [Hid, HTS.out, setAll_snoc]; simp
              rw [HOT.out, HDT.out] at hO8
              have HG2 : Hid (∀ (i : Nat) y, i < j + 1 → Q[i]? = some y → ltK T y ≤ mk2) := fun i y hi hy => by
                by_cases e : i = j
                · subst e
                  rw [HY.out] at hy
                  cases hy
                  exact HLE.out
                · exact HG.out i y (by omega) hy
              clear hst hO7 hb7 ho7 hg7 hat7 ho hb how hcy hcz HTS hzY hDL
              go_region
              all_goals
                go_wp2_with fail
                go_roundg (m9 - (j + 1))
                case measure => omega
                case rel => exact ⟨j + 1, rfl, by omega, by go_num, HG2, ⟨hO8.own, hO8.ap⟩, ⟨hb8.os, hb8.tape, hb8.output, hb8.size, hb8.block⟩⟩
            · have hcut := due_cut (mk := mk2) HQF.out.1 j (by have := hmW9.out; omega) HG.out (by
                by_cases hjl : j < Q.length
                · refine .inr ⟨_, List.getElem?_eq_getElem hjl, ?_⟩
                  exact Int.not_le.mp fun hle => hjs ⟨_, List.getElem?_eq_getElem hjl, hle⟩
                · exact .inl (by have := hmW9.out; omega))
              have HFIN : Hid (lrun T s (k + 1) = ⟨Q.drop j, O ++ Q.take j, Lt5, setAll D5 (Q.take j) (k : Int), Mk ++ [mk2], max ms ((m9 : Int) - (j : Int)), mk2⟩) := by
                have e1 := HSTEP.out
                have e2 := HLA.out
                rw [Hid, e1]
                have e3 : lstep T s ⟨W, O, Lt, D, Mk, ms, mk⟩ k = ⟨(lq T ⟨W, O, Lt, D, Mk, ms, mk⟩ k).filter fun x => !due T (lmk T s ⟨W, O, Lt, D, Mk, ms, mk⟩ k) x, O ++ (lq T ⟨W, O, Lt, D, Mk, ms, mk⟩ k).filter (due T (lmk T s ⟨W, O, Lt, D, Mk, ms, mk⟩ k)), (lstep T s ⟨W, O, Lt, D, Mk, ms, mk⟩ k).late, setAll (if T.getD k 0 < mk then D.set k (-1) else D) ((lq T ⟨W, O, Lt, D, Mk, ms, mk⟩ k).filter (due T (lmk T s ⟨W, O, Lt, D, Mk, ms, mk⟩ k))) (k : Int), Mk ++ [lmk T s ⟨W, O, Lt, D, Mk, ms, mk⟩ k], max ms (((lq T ⟨W, O, Lt, D, Mk, ms, mk⟩ k).filter fun x => !due T (lmk T s ⟨W, O, Lt, D, Mk, ms, mk⟩ k) x).length : Int), lmk T s ⟨W, O, Lt, D, Mk, ms, mk⟩ k⟩ := rfl
                rw [e3, e2.1, e2.2, HQ.out, HMK.out, hcut.1, hcut.2, List.length_drop, ← hmW9.out]
                congr 2
                omega
              have hrC : Rd wr (.slice (if c = j then some p else some (p.add j)) (m9 - j) (c - j)) (ints (Q.drop j)) := by rw [← ints_drop]; exact how.rd.cut hj
              have HT2 : Hid ((ints (Q.drop j)).length = m9 - j) := by rw [Hid, ints_length, List.length_drop]; have := hmW9.out; omega
              have hmc : m9 ≤ c := by obtain ⟨_, m', c', e, _, hmc', _⟩ := how.rd.formN; injection e with e1 e2 e3; omega
              have i1 : (j : Int) ≤ (c : Int) := by omega
              have i2 : (j : Int) ≤ (m9 : Int) := by omega
              have hsbj := hb.size
              have fin : ∀ (b : Addr) (c' : Nat) (wx : World), Own wx 3 wr.heap.size (.slice (some b) (m9 - j) c') (ints (Q.drop j)) → Below wr.heap.size wr wx → OwnsL wx 3 w.heap.size [(.slice aO6 mO6 cO6, O ++ Q.take j), (u9, Lt5), (.slice (some bd) n n, setAll D5 (Q.take j) (k : Int)), (.slice (some b) (m9 - j) c', Q.drop j)] ∧ Below w.heap.size w wx := fun b c' wx h1 h2 => ⟨ho.f3 h2 hsbj h1, hb.trans (h2.mono hsbj)⟩
              have HFI := Lib.hid fin
              obtain ⟨vC, hvC⟩ : ∃ vC, Value.slice (if c = j then some p else some (p.add j)) (m9 - j) (c - j) = vC := ⟨_, rfl⟩
              have HVC := Lib.hid hvC
              rw [hvC] at hrC
              have HT3 : Hid ((m9 : Int) - (j : Int) = ((m9 - j : Nat) : Int)) := by rw [Hid]; omega
              clear hvC fin hcut
              have hcond : (m9 ≤ j ∧ c = j) ∨ (m9 ≤ j ∧ ¬ c = j) ∨ (j < m9 ∧ ¬ c = j) := by omega
              rcases hcond with ⟨hj9, hcj⟩ | ⟨hj9, hcj⟩ | ⟨hj9, hcj⟩
              all_goals first
                | (have e0 : m9 - j = 0 := by omega
                   have i3 : ¬ (j : Int) < (m9 : Int) := by omega
                   rw [e0] at HVC HT2 HFI HT3
                   clear e0
                   first
                     | (subst hcj
                        rw [if_pos rfl, Nat.sub_self] at HVC)
                     | (rw [if_neg hcj] at HVC))
                | (rw [if_neg hcj] at HVC
                   have hyl := List.getElem?_eq_getElem (show j < Q.length by have := hmW9.out; omega)
                   obtain ⟨y, hy⟩ : ∃ y, Q[j]? = some y := ⟨_, hyl⟩
                   clear hyl
                   have hcy := how.rd.cell_i hy
                   obtain ⟨Y, hYk, rfl⟩ := HQF.out.2 y (List.mem_of_getElem? hy)
                   obtain ⟨ad2, z, had2, hcz, hz⟩ := (h.below hb).int (k := Y) (by have := HN.out; omega)
                   obtain rfl : ad = ad2 := by injection had2
                   clear had2
                   have hzz : ltK T (Y : Int) = z := by rw [ltK_nat]; exact getD_of hz.out
                   have d4n : ¬ z ≤ mk2 := fun hle => hjs ⟨_, hy, by rw [hzz]; exact hle⟩
                   have d4 : decide (z ≤ mk2) = false := by simpa using d4n
                   have i3 : (j : Int) < (m9 : Int) := by omega
                   have i5 : (Y : Int) < (n : Int) := by omega
                   clear hy hzz)
              all_goals
                clear hjs HG ho hb how
                go_wp2_with (at_builtin; (refine wpList_copyS (B := w.heap.size) rfl _ _ 22 rfl elI hrC rfl (by rw [← HVC.out]; first | rfl | simp | (simp [*])) (oneCell_ints1 _) hsbj _ HT2.out (by omega) (by omega) ?_); intro b8 c8 w8 ho8 hb8)
                all_goals
                  obtain ⟨hO9, hb9⟩ := HFI.out _ _ _ ho8 hb8
                  go_roundg (n - (k + 1))
                  case measure => omega
                  case rel => exact ⟨k + 1, _, _, _, _, rfl, by omega, by go_num, HFIN, rfl, by dsimp only; rw [HT3.out]; first | rfl | exact max_if _ _ | (congr 1; omega), rfl, hO9, hb9⟩
    · have HKN : Hid (k = T.length) := by rw [Hid]; have := HN.out; omega
      have hkn : k = n := by omega
      subst hkn
      clear hlt hgk hk
      have HWL : Hid (∀ x ∈ W, ∃ j : Nat, j < k ∧ x = j) := HI.out.wlt
      have HDl : Hid (D.length = k) := by have := HI.out.del; rw [Hid, HKN.out]; exact this
      obtain ⟨vLt, hvLt⟩ : ∃ v, Value.slice aLt mLt cLt = v := ⟨_, rfl⟩
      rw [hvLt] at ho ⊢
      clear hvLt
      obtain ⟨vO, hvO⟩ : ∃ v, Value.slice aO mO cO = v := ⟨_, rfl⟩
      rw [hvO] at ho ⊢
      clear hvO
      go_wp2_with fail
      go_loopg [8, 129] m (fun gj vo iv wr => ∃ j : Nat, gj = m - j ∧ j ≤ m ∧ iv = .int .i64 (j : Int) ∧ OwnsL wr 3 w.heap.size [(vo, O ++ W.take j), (vLt, Lt), (.slice (some bd) k k, setAll D (W.take j) ((k : Int) - 1)), (.slice (some p) m c, W)] ∧ Below w.heap.size w wr)
      case atStart => exact ⟨0, by omega, Nat.zero_le _, rfl, by simpa [setAll_nil] using ho, hb⟩
      case round =>
        clear ho hb hsb
        obtain ⟨j, hgj, hj, rfl, ho, hb⟩ := hrel
        obtain ⟨aO6, mO6, cO6, rfl, HMO6, _, _⟩ := ho.o0.rd.formN
        have hsb := hb.size
        by_cases hjm : j < m
        · have i3 : (j : Int) < (m : Int) := by omega
          have hmO6 : mO6 ≤ 70 := by
            have h1 := HMO6.out
            try dsimp only at h1
            rw [List.length_append, List.length_take] at h1
            have := HMO.out
            try dsimp only at this
            omega
          have HLe6 : Hid ((ints (O ++ W.take j)).length = mO6) := by rw [Hid, ints_length]; exact HMO6.out.symm
          have how := ho.o3
          dsimp only at how
          obtain ⟨y, hy⟩ : ∃ y, W[j]? = some y := ⟨_, List.getElem?_eq_getElem (show j < W.length by have := hmW.out; omega)⟩
          have hcy := how.rd.cell_i hy
          obtain ⟨Y, hYk, rfl⟩ := HWL.out y (List.mem_of_getElem? hy)
          have i5 : (Y : Int) < (k : Int) := by omega
          have HTS : Hid (W.take (j + 1) = W.take j ++ [(Y : Int)]) := take_snoc' hy
          have hDL : Y < (setAll D (W.take j) ((k : Int) - 1)).length := by rw [setAll_length, HDl.out]; omega
          have HDL := Lib.hid hDL
          obtain ⟨zY, hzY⟩ : ∃ z, (setAll D (W.take j) ((k : Int) - 1))[Y]? = some z := ⟨_, List.getElem?_eq_getElem hDL⟩
          have HZY := Lib.hid hzY
          clear hy hzY how hDL
          go_wp2_with (at_builtin; refine wpList_app1m rfl _ _ 22 rfl elI rfl ho.o0 (by show Value.slice (some ⟨wr.heap.size, 0, none⟩) 1 1 = _; simp) rfl hsb _ HLe6.out (by omega) (by omega) ?_; intro b7 c7 w7 ho7 hg7 hat7; have hO7 : OwnsL w7 3 w.heap.size [(.slice b7 (mO6 + 1) c7, O ++ W.take j ++ [(Y : Int)]), (vLt, Lt), (.slice (some bd) k k, setAll D (W.take j) ((k : Int) - 1)), (.slice (some p) m c, W)] := ho.t0 hg7 (by rw [ints_append (O ++ W.take j)]; exact ho7) (hat_of hat7); have hfz7 := hO7.o2.frozen rfl Y; have hcd7 := hO7.o2.rd.cell_i HZY.out)
          have hb7 := hb.grown hg7 hsb (fun r hr => (ho.o0.lt r hr).1)
          have hst := hO7.o2.seti rfl HDL.out ((k : Int) - 1 - (Y : Int))
          have hb8 := hO7.o2.below_set rfl HDL.out (.int .i64 ((k : Int) - 1 - (Y : Int))) hb7 (Nat.le_refl _)
          have hO8 := hO7.t2 hst.2 hst.1 (fun g hg => .inl hg)
          have HOT : Hid (O ++ W.take j ++ [(Y : Int)] = O ++ W.take (j + 1)) := by rw [Hid, HTS.out, List.append_assoc]
          have HDT : Hid ((setAll D (W.take j) ((k : Int) - 1)).set Y ((k : Int) - 1 - (Y : Int)) = setAll D (W.take (j + 1)) ((k : Int) - 1)) := by rw [Hid, HTS.out, setAll_snoc]; simp
          rw [HOT.out, HDT.out] at hO8
          go_roundg (m - (j + 1))
          case measure => omega
          case rel => exact ⟨j + 1, rfl, by omega, by go_num, hO8, hb8⟩
        · have hWt : Hid (W.take j = W) := by rw [Hid]; exact List.take_of_length_le (by have := hmW.out; omega)
          rw [hWt.out] at ho
          have HF : Hid (lateOut T s = O ++ W ∧ lateLate T s = Lt ∧ lateDel T s = setAll D W ((k : Int) - 1) ∧ lateMost T s = ms) := by
            have h1 := HL.out
            rw [HKN.out] at h1
            rw [Hid, lateOut, lateLate, lateDel, lateMost, h1, ← HKN.out]
            exact ⟨rfl, rfl, rfl, rfl⟩
          go_wp2_with fail
          refine bodyPost_ret (results_tmp4 rfl _ _ _) rfl ⟨_, _, _, by rw [HF.out.2.2.2]; rfl, ?_, hb⟩
          rw [HF.out.1, HF.out.2.1, HF.out.2.2.1]
          exact OwnsL.left (L1 := [(_, O ++ W), (vLt, Lt), (.slice (some bd) k k, setAll D W ((k : Int) - 1))]) ho

end Go.Proofs.YtdagkgkllgpeeaaDoor
