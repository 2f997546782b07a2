/- Walks: a buffer's run, the reference. -/
import Derived.Test.YtlbakbachcpifaaBuf2
namespace Go.Proofs.Ytlbakbachcpifaa
open Go.RowKit
set_option linter.unusedVariables false
set_option linter.unusedSimpArgs false

theorem BufM.fresh {E EO : Nat} {w wr w2 : World} {out st st' : List Int} {tr : List (List Int)} {rows : List Value} {vo vt vs vs' : Value} (H : BufM E EO w wr out st tr rows vo vt vs) (hne : EO ≠ E) (hb : Below wr.heap.size wr w2) (hos : Own w2 E wr.heap.size vs' (ints st')) : BufM E EO w w2 out st' tr rows vo vt vs' :=
  H.turnS hne ⟨hb.os, hb.tape, hb.output, hb.size, fun i hi _ => hb.block i hi⟩ (hos.mono H.bel.size) (fun g hg => .inr (hos.lt g hg).1)
theorem step_app1n {P : Program} {w : World} {ops : Array Oper} {o : Oper} {a : Act} {K : Act → World → Prop} {Q : Exit → Act → World → Prop} {F : Prop} (hgd : o.guard = none) (s x : Operand) (t : TypeId)
    (ho : o.op = .call { callee := .builtin .append, args := #[s, x], argTypes := #[t, t] })
    {E B bytes : Nat} {z : Value} (ht : ElemOk P t E bytes z) {v u : Value} {xs : List Value} (hs : a.eval s = v) (hown : Own w E B v xs) (hx : a.eval x = .slice (some ⟨w.heap.size, 0, none⟩) 1 1)
    (h1 : u.oneCell' = true) (hB : B ≤ w.heap.size) (hbytes : (xs.length + 1) * bytes ≤ 140737488355328) (h63 : xs.length + 1 ≤ 9223372036854775807)
    (h : ∀ b c w', Own w' E B (.slice b (xs.length + 1) c) (xs ++ [u]) → w.grownBy w' v.ownBlock →
      ((Value.slice b (xs.length + 1) c).ownBlock = v.ownBlock ∨ ∃ k, w.heap.size ≤ k ∧ (Value.slice b (xs.length + 1) c).ownBlock = some k) →
      K (a.put o.dst (.slice b (xs.length + 1) c)) w') : if Region.wanted o (yielded ops a.tmps) = true then Oper.wp P o a (w.alloc (.cells #[u] E)) K Q else F := by
  refine step_app hgd s x t ho ht hs (hown.alloc _) hx (rd_one w E u) (by simpa using h1) (by simp; omega) (by simpa using hbytes) (by simpa using h63) fun b c w' h2 h3 h4 => ?_
  simp only [List.length_cons, List.length_nil, Nat.zero_add] at h2 h3 h4 ⊢
  refine h b c w' h2 ⟨h3.os, h3.tape, h3.output, by have := h3.size; simp at this; omega, fun k hk hne => (h3.block k (by simp; omega) hne).trans (Below.heap_alloc w _ k hk)⟩ ?_
  rcases h4 with h4 | h4
  · exact .inl h4
  · exact .inr ⟨_, by simp, h4⟩
theorem step_appn {P : Program} {w : World} {ops : Array Oper} {o : Oper} {a : Act} {K : Act → World → Prop} {Q : Exit → Act → World → Prop} {F : Prop} (hgd : o.guard = none) (s x : Operand) (t : TypeId)
    (ho : o.op = .call { callee := .builtin .append, args := #[s, x], argTypes := #[t, t] })
    {E B bytes : Nat} {z : Value} (ht : ElemOk P t E bytes z) {v : Value} {xs : List Value} (hs : a.eval s = v) (hown : Own w E B v xs) {vx : Value} {news : List Value} (hx : a.eval x = vx) (hr : Rd w vx news)
    (h1 : ∀ u ∈ news, u.oneCell' = true) (hB : B ≤ w.heap.size) (m : Nat) (hm : xs.length + news.length = m) (hbytes : m * bytes ≤ 140737488355328) (h63 : m ≤ 9223372036854775807)
    (h : ∀ b c w', Own w' E B (.slice b m c) (xs ++ news) → w.grownBy w' v.ownBlock →
      ((Value.slice b m c).ownBlock = v.ownBlock ∨ (Value.slice b m c).ownBlock = some w.heap.size) →
      K (a.put o.dst (.slice b m c)) w') : if Region.wanted o (yielded ops a.tmps) = true then Oper.wp P o a w K Q else F := by
  subst hm
  exact step_app hgd s x t ho ht hs hown hx hr h1 hB hbytes h63 h
theorem step_app1m {P : Program} {w : World} {ops : Array Oper} {o : Oper} {a : Act} {K : Act → World → Prop} {Q : Exit → Act → World → Prop} {F : Prop} (hgd : o.guard = none) (s x : Operand) (t : TypeId)
    (ho : o.op = .call { callee := .builtin .append, args := #[s, x], argTypes := #[t, t] })
    {E B bytes : Nat} {z : Value} (ht : ElemOk P t E bytes z) {v u : Value} {xs : List Value} (hs : a.eval s = v) (hown : Own w E B v xs) (hx : a.eval x = .slice (some ⟨w.heap.size, 0, none⟩) 1 1)
    (h1 : u.oneCell' = true) (hB : B ≤ w.heap.size) (m : Nat) (hm : xs.length = m) (hbytes : (m + 1) * bytes ≤ 140737488355328) (h63 : m + 1 ≤ 9223372036854775807)
    (h : ∀ b c w', Own w' E B (.slice b (m + 1) c) (xs ++ [u]) → w.grownBy w' v.ownBlock →
      ((Value.slice b (m + 1) c).ownBlock = v.ownBlock ∨ ∃ k, w.heap.size ≤ k ∧ (Value.slice b (m + 1) c).ownBlock = some k) →
      K (a.put o.dst (.slice b (m + 1) c)) w') : if Region.wanted o (yielded ops a.tmps) = true then Oper.wp P o a (w.alloc (.cells #[u] E)).drew K Q else F := by
  subst hm
  exact step_app1 hgd s x t ho ht hs hown hx h1 hB hbytes h63 h
theorem step_app1nm {P : Program} {w : World} {ops : Array Oper} {o : Oper} {a : Act} {K : Act → World → Prop} {Q : Exit → Act → World → Prop} {F : Prop} (hgd : o.guard = none) (s x : Operand) (t : TypeId)
    (ho : o.op = .call { callee := .builtin .append, args := #[s, x], argTypes := #[t, t] })
    {E B bytes : Nat} {z : Value} (ht : ElemOk P t E bytes z) {v u : Value} {xs : List Value} (hs : a.eval s = v) (hown : Own w E B v xs) (hx : a.eval x = .slice (some ⟨w.heap.size, 0, none⟩) 1 1)
    (h1 : u.oneCell' = true) (hB : B ≤ w.heap.size) (m : Nat) (hm : xs.length = m) (hbytes : (m + 1) * bytes ≤ 140737488355328) (h63 : m + 1 ≤ 9223372036854775807)
    (h : ∀ b c w', Own w' E B (.slice b (m + 1) c) (xs ++ [u]) → w.grownBy w' v.ownBlock →
      ((Value.slice b (m + 1) c).ownBlock = v.ownBlock ∨ ∃ k, w.heap.size ≤ k ∧ (Value.slice b (m + 1) c).ownBlock = some k) →
      K (a.put o.dst (.slice b (m + 1) c)) w') : if Region.wanted o (yielded ops a.tmps) = true then Oper.wp P o a (w.alloc (.cells #[u] E)) K Q else F := by
  subst hm
  exact step_app1n hgd s x t ho ht hs hown hx h1 hB hbytes h63 h
theorem hat_imp' {v v' : Value} {n : Nat} (h : v'.ownBlock = v.ownBlock ∨ v'.ownBlock = some n) : v'.ownBlock = v.ownBlock ∨ ∃ k, n ≤ k ∧ v'.ownBlock = some k := by
  rcases h with h | h
  · exact .inl h
  · exact .inr ⟨n, Nat.le_refl _, h⟩

set_option maxRecDepth 100000 in
set_option maxHeartbeats 4000000 in
theorem s_l25Run (v : Value) (xs : List Int) (K : Nat) (once : Bool) (w : World) (h : Rd w v (ints xs)) (hl : xs.length ≤ 24) (hK1 : 1 ≤ K) (hK8 : K ≤ 8) :
    Calls Try.prog 67 #[v, .int .i64 K, .bool once] w (RetBuf 3 22 (bOut xs K once) (bTr xs K once) w) := by
  obtain ⟨a, n, c, rfl, HN, h2, h3⟩ := h.formN
  have hM0 : BufM 3 22 w (((w.alloc (.cells #[] 3)).alloc (.cells #[] 22)).alloc (.cells #[] 3)) [] [] [] [] (.slice (some ⟨w.heap.size, 0, none⟩) 0 0) (.slice (some ⟨w.heap.size + 1, 0, none⟩) 0 0) (.slice (some ⟨w.heap.size + 1 + 1, 0, none⟩) 0 0) := by
    have e1 := ((Own.lit0 w 3 (Nat.le_refl _)).alloc (.cells #[] 22)).alloc (.cells #[] 3)
    have e2 := (Own.lit0 (w.alloc (.cells #[] 3)) 22 (B := w.heap.size) (by simp)).alloc (.cells #[] 3)
    have e3 := Own.lit0 ((w.alloc (.cells #[] 3)).alloc (.cells #[] 22)) 3 (B := w.heap.size) (by simp; omega)
    rw [show (w.alloc (.cells #[] 3)).heap.size = w.heap.size + 1 by simp] at e2
    rw [show ((w.alloc (.cells #[] 3)).alloc (.cells #[] 22)).heap.size = w.heap.size + 1 + 1 by simp] at e3
    exact ⟨e1, e3, fun g h1 h2 => by have h1' : w.heap.size = g := Option.some.inj h1; have h2' : w.heap.size + 1 + 1 = g := Option.some.inj h2; omega, by simpa [ints] using e2, RowsOwn.nil _ _ _ _, fun r hr => by simp at hr, fun r hr => by simp at hr, (((Below.refl _ _).alloc (Nat.le_refl _) _).alloc (by simp) _).alloc (by simp; omega) _⟩
  go_enter Try.func67, Try.ntmps67
  go_wp2
  go_loopw [8, 9, 10, 11] (fun vo vt vs i wr => ∃ (nx : Nat) (b out : List Int) (tr : List (List Int)) (rows : List Value), i = .int .i64 nx ∧ BInv xs K ⟨nx, b, out, tr⟩ ∧ Hid (finB xs K once ⟨nx, b, out, tr⟩ = finB xs K once bS0) ∧ BufM 3 22 w wr out b tr rows vo vt vs)
    (fun _ _ vs i _ => 2 * (n - (intOf i).toNat) + sliceLen vs)
  case atStart => exact ⟨0, [], [], [], [], rfl, BInv.start _ _, rfl, hM0⟩
  case round =>
    clear hM0
    obtain ⟨nx, b, out, tr, rows, rfl, HI, HF, HM⟩ := hrel
    obtain ⟨wo, rfl⟩ : ∃ wo : World, wo = wr := ⟨_, rfl⟩
    obtain ⟨sl, ms, cs, rfl, HMS, hms, hms2⟩ := HM.os.rd.formN
    have hmsK : ms ≤ K := by have := HI.room; have := HMS.out; dsimp only at *; omega
    have hnx : nx ≤ n := by have := HI.read; have := HN.out; dsimp only at *; omega
    by_cases hnn : nx < n
    · by_cases hmK : ms < K
      case neg =>
        obtain ⟨sp, y, rfl, _, hy⟩ := HM.os.rd.int (k := 0) (by have := HMS.out; omega)
        clear hy
        have HWB : Hid (¬ (b.length < K ∧ nx < xs.length)) := fun hh => by have := HMS.out; have := HN.out; omega
        have hbz : busy xs ⟨nx, b, out, tr⟩ := .inr (show 0 < b.length by have := HMS.out; omega)
        have hout : out.length ≤ 24 := by have := HI.all; have := HI.read; dsimp only at *; omega
        have htr : tr.length ≤ 24 := by have := HI.trs; dsimp only at *; omega
        have hrws : rows.length ≤ 24 := by have := HM.rw.1; omega
        obtain ⟨y0, t0, rfl⟩ : ∃ y0 t0, b = y0 :: t0 := by
          cases b with
          | nil => have := HMS.out; simp only [List.length_nil] at this; omega
          | cons y t => exact ⟨y, t, rfl⟩
        have HE := bstep_write (once := once) (out := out) (tr := tr) HWB.out
        have HI' : BInv xs K ⟨nx, t0, out ++ [y0], tr ++ [y0 :: t0]⟩ := by have := HI.step (once := once) hK1 hbz; rw [HE] at this; exact this
        have HF' : Hid (finB xs K once ⟨nx, t0, out ++ [y0], tr ++ [y0 :: t0]⟩ = finB xs K once bS0) := by rw [Hid, ← HE, ← finB_busy hK1 hbz, HF.out]
        clear HE hbz HF HI HWB
        have hm8 : ms ≤ 8 := by omega
        have i4 : 0 < ms := by omega
        have i1 : (1 : Int) ≤ (ms : Int) := by omega
        have HT0 : Hid ((ints t0).length = ms - 1) := by rw [Hid, ints_length, HMS.out]; simp
        have HTB : Hid ((ints (y0 :: t0)).length = ms) := by rw [Hid, ints_length, HMS.out]
        obtain ⟨at', ct, rfl, _, _⟩ := HM.ot.rd.form
        obtain ⟨ax, nx', cx, rfl, HNO, _, _⟩ := HM.ow.rd.formN
        have hn24 : nx' ≤ 24 := by have := HNO.out; omega
        have HNL : Hid ((ints out).length = nx') := by rw [Hid, ints_length, HNO.out]
        have hsw := HM.bel.size
        go_wp2_with (first
          | (at_builtin; refine wpList_copy (B := w.heap.size) rfl _ _ 22 rfl elI HM.os.rd rfl rfl (oneCell_ints1 _) hsw _ HTB.out (by omega) (by omega) ?_; intro b5 c5 w5 h5 hb5)
          | (at_builtin; refine wpList_app1 rfl _ _ 35 rfl elII rfl (HM.ot.below hb5) (by show Value.slice (some ⟨w5.heap.size, 0, none⟩) 1 1 = _; simp) rfl (by have := hb5.size; omega) (by omega) (by omega) ?_; intro bt ct' w7 ht7 hg7 hat7
             have HM7 := HM.trace (by decide) hb5 h5 hg7 ht7
             have hcy : w7.cell? sp = some (.int .i64 y0) := by simpa [Addr.add] using HM7.os.rd.cell_i (k := 0) (x := y0) rfl)
          | (at_builtin; refine wpList_app1m rfl _ _ 22 rfl elI rfl HM7.ow (by show Value.slice (some ⟨w7.heap.size, 0, none⟩) 1 1 = _; simp) rfl HM7.bel.size _ HNL.out (by omega) (by omega) ?_; intro b8 c8 w8 ho8 hg8 hat8
             have HM8 := HM7.turnO (out' := out ++ [y0]) (by decide) hg8 (by rw [ints_append]; exact ho8) (hat_new hat8)
             have hrc : Rd w8 (.slice (if cs = 1 then some sp else some (sp.add 1)) (ms - 1) (cs - 1)) (ints t0) := (HM8.os.cut (k := 1) (by omega)).rd)
          | (at_builtin; refine wpList_copy (B := w.heap.size) rfl _ _ 22 rfl elI hrc rfl (by first | rfl | simp) (oneCell_ints1 _) HM8.bel.size _ HT0.out (by omega) (by omega) ?_; intro b9 c9 w9 h9 hb9))
        have HM9 := HM8.fresh (by decide) hb9 h9
        clear HM HM7 HM8 hat7 hat8 hg7 hg8 ht7 ho8 h5 h9 hb5 hb9 hrc hcy
        go_roundw
        case rel => exact ⟨nx, t0, out ++ [y0], tr ++ [y0 :: t0], _, rfl, HI', HF', HM9⟩
        case measure => simp [sliceLen, intOf]; omega
      case pos =>
        obtain ⟨ad, x, rfl, hcw, hx⟩ := h.int (show nx < xs.length by have := HN.out; omega)
        have hcx : wo.cell? (ad.add nx) = some (.int .i64 x) := (HM.bel.cell (World.block_lt_of_cell? w _ hcw)).trans hcw
        clear hcw
        have hbz : busy xs ⟨nx, b, out, tr⟩ := .inl (List.getElem?_eq_some_iff.1 hx.out).1
        have HE := bstep_put (once := once) (out := out) (tr := tr) (show b.length < K by have := HMS.out; omega) hx.out
        have HI' : BInv xs K ⟨nx + 1, bput once b x, out, tr⟩ := by have := HI.step (once := once) hK1 hbz; rw [HE] at this; exact this
        have HF' : Hid (finB xs K once ⟨nx + 1, bput once b x, out, tr⟩ = finB xs K once bS0) := by rw [Hid, ← HE, ← finB_busy hK1 hbz, HF.out]
        clear HE hbz HF HI
        have hm8 : ms ≤ 8 := by omega
        have i1 : (nx : Int) < (n : Int) := by omega
        cases once
        · go_wp2
          go_loopw [12, 39] (fun kn i wi => ∃ j : Nat, j ≤ ms ∧ i = .int .i64 j ∧ kn = .bool (decide (x ∈ b.take j)) ∧ wo = wi) (fun _ i _ => ms - (intOf i).toNat)
          case atStart => exact ⟨0, Nat.zero_le _, rfl, by simp, rfl⟩
          case round =>
            obtain ⟨j, hj, rfl, rfl, rfl⟩ := hrel
            by_cases hjm : j < ms
            · obtain ⟨bd, y, rfl, hcy, hy⟩ := HM.os.rd.int (k := j) (by have := HMS.out; omega)
              have HTK : Hid (b.take (j + 1) = b.take j ++ [y]) := by
                obtain ⟨hk, e⟩ := List.getElem?_eq_some_iff.1 hy.out
                rw [Hid, List.take_succ_eq_append_getElem hk, e]
              cases hkn : decide (x ∈ b.take j)
              · cases hyx : (y == x)
                · have HD : Hid (decide (x ∈ b.take (j + 1)) = false) := by
                    have h1 : ¬ x ∈ b.take j := by simpa using hkn
                    have h2 : ¬ y = x := by simpa using hyx
                    rw [Hid, HTK.out, decide_eq_false_iff_not]
                    simp only [List.mem_append, List.mem_singleton]
                    rintro (h | h)
                    · exact h1 h
                    · exact h2 h.symm
                  clear hkn
                  go_wp2
                  go_roundw
                  case rel => exact ⟨j + 1, by omega, by go_num, by rw [HD.out], trivial⟩
                  case measure => simp [intOf]; omega
                · have HD : Hid (decide (x ∈ b.take (j + 1)) = true) := by
                    have h2 : y = x := by simpa using hyx
                    rw [Hid, HTK.out, h2]
                    simp
                  clear hkn
                  go_wp2
                  go_roundw
                  case rel => exact ⟨j + 1, by omega, by go_num, by rw [HD.out], trivial⟩
                  case measure => simp [intOf]; omega
              · have HD : Hid (decide (x ∈ b.take (j + 1)) = true) := by
                  have h1 : x ∈ b.take j := by simpa using hkn
                  rw [Hid, HTK.out]
                  simp [h1]
                clear hkn
                go_wp2
                go_roundw
                case rel => exact ⟨j + 1, by omega, by go_num, by rw [HD.out], trivial⟩
                case measure => simp [intOf]; omega
            · obtain rfl : ms = j := by omega
              have HTA : Hid (b.take ms = b) := by rw [Hid, HMS.out, List.take_length]
              rw [HTA.out]
              have HB' : Hid (srt (b ++ [x]) = bput false b x) := by rw [Hid, bput, if_neg (by simp)]
              have HCS := Lib.hid (fun (wx : World) (u : Value) (hu : Rd wx u (ints (b ++ [x]))) => s_l08Sort u (b ++ [x]) wx hu (by have := HMS.out; simp; omega))
              have hrb := HM.os.rd
              have hsw := HM.bel.size
              have hoA1 : Own (wo.alloc (.cells #[] 3)) 3 wo.heap.size (.slice (some ⟨wo.heap.size, 0, none⟩) 0 0) [] := by simpa [ints] using Own.lit0 wo 3 (Nat.le_refl _)
              have hbA1 : Below wo.heap.size wo (wo.alloc (.cells #[] 3)) := (Below.refl _ _).alloc (Nat.le_refl _) _
              have hrA1 := hrb.alloc (.cells #[] 3)
              have hzA1 := hbA1.size
              have hoA2 := hoA1.alloc (.cells #[.int .i64 x] 3)
              have hbA2 := hbA1.alloc hzA1 (.cells #[.int .i64 x] 3)
              have hrA2 := hrA1.alloc (.cells #[.int .i64 x] 3)
              have hzA2 := hbA2.size
              have hrB2 : Rd ((wo.alloc (.cells #[] 3)).alloc (.cells #[.int .i64 x] 3)) (.slice (some ⟨wo.heap.size + 1, 0, none⟩) 1 1) [.int .i64 x] := by
                have := rd_one (wo.alloc (.cells #[] 3)) 3 (.int .i64 x)
                rwa [show (wo.alloc (.cells #[] 3)).heap.size = wo.heap.size + 1 by simp] at this
              have hbB : Below wo.heap.size wo (wo.alloc (.cells #[.int .i64 x] 3)) := (Below.refl _ _).alloc (Nat.le_refl _) _
              have hoA3 : Own ((wo.alloc (.cells #[.int .i64 x] 3)).alloc (.cells #[] 3)) 3 wo.heap.size (.slice (some ⟨wo.heap.size + 1, 0, none⟩) 0 0) [] := by
                have := Own.lit0 (wo.alloc (.cells #[.int .i64 x] 3)) 3 (B := wo.heap.size) hbB.size
                rw [show (wo.alloc (.cells #[.int .i64 x] 3)).heap.size = wo.heap.size + 1 by simp] at this
                simpa [ints] using this
              have hbA3 := hbB.alloc hbB.size (.cells #[] 3)
              have hrA3 := (hrb.alloc (.cells #[.int .i64 x] 3)).alloc (.cells #[] 3)
              have hzA3 := hbA3.size
              have hrB3 := (rd_one wo 3 (.int .i64 x)).alloc (.cells #[] 3)
              have HMB : Hid ((ints b).length = ms) := by rw [Hid, ints_length, HMS.out]
              have HCX : Hid (∀ wx : World, Below wo.heap.size wo wx → wx.cell? (ad.add nx) = some (.int .i64 x)) := fun wx hb => (hb.cell (World.block_lt_of_cell? wo _ hcx)).trans hcx
              go_wp2
              go_region_held3 (fun wx => wx.cell? (ad.add nx) = some (.int .i64 x))
                (first | exact HCX.out _ hb7 | exact HCX.out _ hb6 | exact HCX.out _ hb5 | go_keep)
                (first
                  | (go_at_call 80; refine (HCS.out _ _ (by exact hr6)).mono ?_; rintro e w7 ⟨v7, rfl, h7, hb67⟩; have hb67w : Below w6.heap.size w6 w7 := (by exact ⟨hb67.os, hb67.tape, hb67.output, hb67.size, hb67.block⟩); have hb7 := hb6.trans (hb67w.mono hb6.size); have h7w : Own w7 3 w6.heap.size v7 (ints (srt (b ++ [x]))) := (by exact h7); have h7' := h7w.mono hb6.size)
                  | (refine step_app1m (by rfl) _ _ _ (by rfl) elI (by rfl) (by exact ho5) (by rfl) (by rfl) (by exact hz5) ms (by exact HMB.out) (by omega) (by omega) ?_; intro b6 c6 w6 ho6 hg6 hat6; have hb6 : Below wo.heap.size wo w6 := Below.grown (by exact ⟨hb5.os, hb5.tape, hb5.output, hb5.size, hb5.block⟩) hg6 (by exact hz5) (fun r hr => (ho5.lt r hr).1); have hr6 := ho6.rd; rw [show ints b ++ [Value.int .i64 x] = ints (b ++ [x]) by simp [ints]] at hr6)
                  | (refine step_app1nm (by rfl) _ _ _ (by rfl) elI (by rfl) (by exact ho5) (by rfl) (by rfl) (by exact hz5) ms (by exact HMB.out) (by omega) (by omega) ?_; intro b6 c6 w6 ho6 hg6 hat6; have hb6 : Below wo.heap.size wo w6 := Below.grown (by exact ⟨hb5.os, hb5.tape, hb5.output, hb5.size, hb5.block⟩) hg6 (by exact hz5) (fun r hr => (ho5.lt r hr).1); have hr6 := ho6.rd; rw [show ints b ++ [Value.int .i64 x] = ints (b ++ [x]) by simp [ints]] at hr6)
                  | (refine step_appn (by rfl) _ _ _ (by rfl) elI (by rfl) (by exact ho5) (by rfl) (by exact hrB5) (by simp [Value.oneCell']) (by exact hz5) (ms + 1) (by rw [HMB.out]; rfl) (by omega) (by omega) ?_; intro b6 c6 w6 ho6 hg6 hat6; have hb6 : Below wo.heap.size wo w6 := Below.grown (by exact ⟨hb5.os, hb5.tape, hb5.output, hb5.size, hb5.block⟩) hg6 (by exact hz5) (fun r hr => (ho5.lt r hr).1); have hr6 := ho6.rd; rw [show ints b ++ [Value.int .i64 x] = ints (b ++ [x]) by simp [ints]] at hr6)
                  | (refine step_appn (by rfl) _ _ _ (by rfl) elI (by rfl) (by exact hoA1) (by rfl) (by exact hrA1) (oneCell_ints1 _) (by exact hzA1) ms (by rw [HMB.out]; simp) (by omega) (by omega) ?_; intro b5 c5 w5 ho5 hg5 hat5; rw [List.nil_append] at ho5; have hb5 : Below wo.heap.size wo w5 := Below.grown (by exact ⟨hbA1.os, hbA1.tape, hbA1.output, hbA1.size, hbA1.block⟩) hg5 (by exact hzA1) (fun r hr => (hoA1.lt r hr).1); have hz5 := hb5.size)
                  | (refine step_appn (by rfl) _ _ _ (by rfl) elI (by rfl) (by exact hoA2) (by rfl) (by exact hrA2) (oneCell_ints1 _) (by exact hzA2) ms (by rw [HMB.out]; simp) (by omega) (by omega) ?_; intro b5 c5 w5 ho5 hg5 hat5; rw [List.nil_append] at ho5; have hb5 : Below wo.heap.size wo w5 := Below.grown (by exact ⟨hbA2.os, hbA2.tape, hbA2.output, hbA2.size, hbA2.block⟩) hg5 (by exact hzA2) (fun r hr => (hoA2.lt r hr).1); have hz5 := hb5.size; have hrB5 := Rd.grown (v := .slice (some ⟨wo.heap.size + 1, 0, none⟩) 1 1) (by exact hrB2) hg5 (.inl (fun e => absurd (show some (wo.heap.size + 1) = some wo.heap.size from e) (by simp))))
                  | (refine step_appn (by rfl) _ _ _ (by rfl) elI (by rfl) (by exact hoA3) (by rfl) (by exact hrA3) (oneCell_ints1 _) (by exact hzA3) ms (by rw [HMB.out]; simp) (by omega) (by omega) ?_; intro b5 c5 w5 ho5 hg5 hat5; rw [List.nil_append] at ho5; have hb5 : Below wo.heap.size wo w5 := Below.grown (by exact ⟨hbA3.os, hbA3.tape, hbA3.output, hbA3.size, hbA3.block⟩) hg5 (by exact hzA3) (fun r hr => (hoA3.lt r hr).1); have hz5 := hb5.size; have hrB5 := Rd.grown (v := .slice (some ⟨wo.heap.size, 0, none⟩) 1 1) (by exact hrB3) hg5 (.inl (fun e => absurd (show some wo.heap.size = some (wo.heap.size + 1) from e) (by simp)))))
              all_goals
                have HM9 := HM.fresh (by decide) hb7 h7'
                obtain ⟨s7, m7, c7, rfl, HM7l, _, _⟩ := h7'.rd.formN
                have hm7 : m7 ≤ ms + 1 := by have h1 := HM7l.out; rw [srt_length] at h1; simp only [List.length_append, List.length_cons, List.length_nil] at h1; have := HMS.out; omega
                rw [HB'.out] at HM9
                go_wp2
                go_roundw
                case rel => exact ⟨nx + 1, bput false b x, out, tr, rows, by go_num, HI', HF', HM9⟩
                case measure => simp [sliceLen, intOf]; omega
        · go_wp2
          go_loopw [12, 39] (fun kn i wi => ∃ j : Nat, j ≤ ms ∧ i = .int .i64 j ∧ kn = .bool (decide (x ∈ b.take j)) ∧ wo = wi) (fun _ i _ => ms - (intOf i).toNat)
          case atStart => exact ⟨0, Nat.zero_le _, rfl, by simp, rfl⟩
          case round =>
            obtain ⟨j, hj, rfl, rfl, rfl⟩ := hrel
            by_cases hjm : j < ms
            · obtain ⟨bd, y, rfl, hcy, hy⟩ := HM.os.rd.int (k := j) (by have := HMS.out; omega)
              have HTK : Hid (b.take (j + 1) = b.take j ++ [y]) := by
                obtain ⟨hk, e⟩ := List.getElem?_eq_some_iff.1 hy.out
                rw [Hid, List.take_succ_eq_append_getElem hk, e]
              cases hkn : decide (x ∈ b.take j)
              · cases hyx : (y == x)
                · have HD : Hid (decide (x ∈ b.take (j + 1)) = false) := by
                    have h1 : ¬ x ∈ b.take j := by simpa using hkn
                    have h2 : ¬ y = x := by simpa using hyx
                    rw [Hid, HTK.out, decide_eq_false_iff_not]
                    simp only [List.mem_append, List.mem_singleton]
                    rintro (h | h)
                    · exact h1 h
                    · exact h2 h.symm
                  clear hkn
                  go_wp2
                  go_roundw
                  case rel => exact ⟨j + 1, by omega, by go_num, by rw [HD.out], trivial⟩
                  case measure => simp [intOf]; omega
                · have HD : Hid (decide (x ∈ b.take (j + 1)) = true) := by
                    have h2 : y = x := by simpa using hyx
                    rw [Hid, HTK.out, h2]
                    simp
                  clear hkn
                  go_wp2
                  go_roundw
                  case rel => exact ⟨j + 1, by omega, by go_num, by rw [HD.out], trivial⟩
                  case measure => simp [intOf]; omega
              · have HD : Hid (decide (x ∈ b.take (j + 1)) = true) := by
                  have h1 : x ∈ b.take j := by simpa using hkn
                  rw [Hid, HTK.out]
                  simp [h1]
                clear hkn
                go_wp2
                go_roundw
                case rel => exact ⟨j + 1, by omega, by go_num, by rw [HD.out], trivial⟩
                case measure => simp [intOf]; omega
            · obtain rfl : ms = j := by omega
              have HTA : Hid (b.take ms = b) := by rw [Hid, HMS.out, List.take_length]
              rw [HTA.out]
              cases hkn : decide (x ∈ b)
              · have HB' : Hid (srt (b ++ [x]) = bput true b x) := by
                  have h1 : ¬ x ∈ b := by simpa using hkn
                  rw [Hid, bput, if_neg (fun hh => h1 hh.2)]
                clear hkn
                have HCS := Lib.hid (fun (wx : World) (u : Value) (hu : Rd wx u (ints (b ++ [x]))) => s_l08Sort u (b ++ [x]) wx hu (by have := HMS.out; simp; omega))
                have hrb := HM.os.rd
                have hsw := HM.bel.size
                have hoA1 : Own (wo.alloc (.cells #[] 3)) 3 wo.heap.size (.slice (some ⟨wo.heap.size, 0, none⟩) 0 0) [] := by simpa [ints] using Own.lit0 wo 3 (Nat.le_refl _)
                have hbA1 : Below wo.heap.size wo (wo.alloc (.cells #[] 3)) := (Below.refl _ _).alloc (Nat.le_refl _) _
                have hrA1 := hrb.alloc (.cells #[] 3)
                have hzA1 := hbA1.size
                have hoA2 := hoA1.alloc (.cells #[.int .i64 x] 3)
                have hbA2 := hbA1.alloc hzA1 (.cells #[.int .i64 x] 3)
                have hrA2 := hrA1.alloc (.cells #[.int .i64 x] 3)
                have hzA2 := hbA2.size
                have hrB2 : Rd ((wo.alloc (.cells #[] 3)).alloc (.cells #[.int .i64 x] 3)) (.slice (some ⟨wo.heap.size + 1, 0, none⟩) 1 1) [.int .i64 x] := by
                  have := rd_one (wo.alloc (.cells #[] 3)) 3 (.int .i64 x)
                  rwa [show (wo.alloc (.cells #[] 3)).heap.size = wo.heap.size + 1 by simp] at this
                have hbB : Below wo.heap.size wo (wo.alloc (.cells #[.int .i64 x] 3)) := (Below.refl _ _).alloc (Nat.le_refl _) _
                have hoA3 : Own ((wo.alloc (.cells #[.int .i64 x] 3)).alloc (.cells #[] 3)) 3 wo.heap.size (.slice (some ⟨wo.heap.size + 1, 0, none⟩) 0 0) [] := by
                  have := Own.lit0 (wo.alloc (.cells #[.int .i64 x] 3)) 3 (B := wo.heap.size) hbB.size
                  rw [show (wo.alloc (.cells #[.int .i64 x] 3)).heap.size = wo.heap.size + 1 by simp] at this
                  simpa [ints] using this
                have hbA3 := hbB.alloc hbB.size (.cells #[] 3)
                have hrA3 := (hrb.alloc (.cells #[.int .i64 x] 3)).alloc (.cells #[] 3)
                have hzA3 := hbA3.size
                have hrB3 := (rd_one wo 3 (.int .i64 x)).alloc (.cells #[] 3)
                have HMB : Hid ((ints b).length = ms) := by rw [Hid, ints_length, HMS.out]
                have HCX : Hid (∀ wx : World, Below wo.heap.size wo wx → wx.cell? (ad.add nx) = some (.int .i64 x)) := fun wx hb => (hb.cell (World.block_lt_of_cell? wo _ hcx)).trans hcx
                go_wp2
                go_region_held3 (fun wx => wx.cell? (ad.add nx) = some (.int .i64 x))
                  (first | exact HCX.out _ hb7 | exact HCX.out _ hb6 | exact HCX.out _ hb5 | go_keep)
                  (first
                    | (go_at_call 80; refine (HCS.out _ _ (by exact hr6)).mono ?_; rintro e w7 ⟨v7, rfl, h7, hb67⟩; have hb67w : Below w6.heap.size w6 w7 := (by exact ⟨hb67.os, hb67.tape, hb67.output, hb67.size, hb67.block⟩); have hb7 := hb6.trans (hb67w.mono hb6.size); have h7w : Own w7 3 w6.heap.size v7 (ints (srt (b ++ [x]))) := (by exact h7); have h7' := h7w.mono hb6.size)
                    | (refine step_app1m (by rfl) _ _ _ (by rfl) elI (by rfl) (by exact ho5) (by rfl) (by rfl) (by exact hz5) ms (by exact HMB.out) (by omega) (by omega) ?_; intro b6 c6 w6 ho6 hg6 hat6; have hb6 : Below wo.heap.size wo w6 := Below.grown (by exact ⟨hb5.os, hb5.tape, hb5.output, hb5.size, hb5.block⟩) hg6 (by exact hz5) (fun r hr => (ho5.lt r hr).1); have hr6 := ho6.rd; rw [show ints b ++ [Value.int .i64 x] = ints (b ++ [x]) by simp [ints]] at hr6)
                    | (refine step_app1nm (by rfl) _ _ _ (by rfl) elI (by rfl) (by exact ho5) (by rfl) (by rfl) (by exact hz5) ms (by exact HMB.out) (by omega) (by omega) ?_; intro b6 c6 w6 ho6 hg6 hat6; have hb6 : Below wo.heap.size wo w6 := Below.grown (by exact ⟨hb5.os, hb5.tape, hb5.output, hb5.size, hb5.block⟩) hg6 (by exact hz5) (fun r hr => (ho5.lt r hr).1); have hr6 := ho6.rd; rw [show ints b ++ [Value.int .i64 x] = ints (b ++ [x]) by simp [ints]] at hr6)
                    | (refine step_appn (by rfl) _ _ _ (by rfl) elI (by rfl) (by exact ho5) (by rfl) (by exact hrB5) (by simp [Value.oneCell']) (by exact hz5) (ms + 1) (by rw [HMB.out]; rfl) (by omega) (by omega) ?_; intro b6 c6 w6 ho6 hg6 hat6; have hb6 : Below wo.heap.size wo w6 := Below.grown (by exact ⟨hb5.os, hb5.tape, hb5.output, hb5.size, hb5.block⟩) hg6 (by exact hz5) (fun r hr => (ho5.lt r hr).1); have hr6 := ho6.rd; rw [show ints b ++ [Value.int .i64 x] = ints (b ++ [x]) by simp [ints]] at hr6)
                    | (refine step_appn (by rfl) _ _ _ (by rfl) elI (by rfl) (by exact hoA1) (by rfl) (by exact hrA1) (oneCell_ints1 _) (by exact hzA1) ms (by rw [HMB.out]; simp) (by omega) (by omega) ?_; intro b5 c5 w5 ho5 hg5 hat5; rw [List.nil_append] at ho5; have hb5 : Below wo.heap.size wo w5 := Below.grown (by exact ⟨hbA1.os, hbA1.tape, hbA1.output, hbA1.size, hbA1.block⟩) hg5 (by exact hzA1) (fun r hr => (hoA1.lt r hr).1); have hz5 := hb5.size)
                    | (refine step_appn (by rfl) _ _ _ (by rfl) elI (by rfl) (by exact hoA2) (by rfl) (by exact hrA2) (oneCell_ints1 _) (by exact hzA2) ms (by rw [HMB.out]; simp) (by omega) (by omega) ?_; intro b5 c5 w5 ho5 hg5 hat5; rw [List.nil_append] at ho5; have hb5 : Below wo.heap.size wo w5 := Below.grown (by exact ⟨hbA2.os, hbA2.tape, hbA2.output, hbA2.size, hbA2.block⟩) hg5 (by exact hzA2) (fun r hr => (hoA2.lt r hr).1); have hz5 := hb5.size; have hrB5 := Rd.grown (v := .slice (some ⟨wo.heap.size + 1, 0, none⟩) 1 1) (by exact hrB2) hg5 (.inl (fun e => absurd (show some (wo.heap.size + 1) = some wo.heap.size from e) (by simp))))
                    | (refine step_appn (by rfl) _ _ _ (by rfl) elI (by rfl) (by exact hoA3) (by rfl) (by exact hrA3) (oneCell_ints1 _) (by exact hzA3) ms (by rw [HMB.out]; simp) (by omega) (by omega) ?_; intro b5 c5 w5 ho5 hg5 hat5; rw [List.nil_append] at ho5; have hb5 : Below wo.heap.size wo w5 := Below.grown (by exact ⟨hbA3.os, hbA3.tape, hbA3.output, hbA3.size, hbA3.block⟩) hg5 (by exact hzA3) (fun r hr => (hoA3.lt r hr).1); have hz5 := hb5.size; have hrB5 := Rd.grown (v := .slice (some ⟨wo.heap.size, 0, none⟩) 1 1) (by exact hrB3) hg5 (.inl (fun e => absurd (show some wo.heap.size = some (wo.heap.size + 1) from e) (by simp)))))
                all_goals
                  have HM9 := HM.fresh (by decide) hb7 h7'
                  obtain ⟨s7, m7, c7, rfl, HM7l, _, _⟩ := h7'.rd.formN
                  have hm7 : m7 ≤ ms + 1 := by have h1 := HM7l.out; rw [srt_length] at h1; simp only [List.length_append, List.length_cons, List.length_nil] at h1; have := HMS.out; omega
                  rw [HB'.out] at HM9
                  go_wp2
                  go_roundw
                  case rel => exact ⟨nx + 1, bput true b x, out, tr, rows, by go_num, HI', HF', HM9⟩
                  case measure => simp [sliceLen, intOf]; omega
              · have HB' : Hid (b = bput true b x) := by
                  have h1 : x ∈ b := by simpa using hkn
                  rw [Hid, bput, if_pos ⟨rfl, h1⟩]
                clear hkn
                rw [HB'.out] at HM
                go_wp2
                go_roundw
                case rel => exact ⟨nx + 1, bput true b x, out, tr, rows, by go_num, HI', HF', HM⟩
                case measure => simp [sliceLen, intOf]; omega
    · have hnn' : ¬ (nx : Int) < (n : Int) := by omega
      by_cases hms0 : 0 < ms
      case pos =>
        obtain ⟨sp, y, rfl, _, hy⟩ := HM.os.rd.int (k := 0) (by have := HMS.out; omega)
        clear hy
        have HWB : Hid (¬ (b.length < K ∧ nx < xs.length)) := fun hh => by have := HMS.out; have := HN.out; omega
        have hbz : busy xs ⟨nx, b, out, tr⟩ := .inr (show 0 < b.length by have := HMS.out; omega)
        have hout : out.length ≤ 24 := by have := HI.all; have := HI.read; dsimp only at *; omega
        have htr : tr.length ≤ 24 := by have := HI.trs; dsimp only at *; omega
        have hrws : rows.length ≤ 24 := by have := HM.rw.1; omega
        obtain ⟨y0, t0, rfl⟩ : ∃ y0 t0, b = y0 :: t0 := by
          cases b with
          | nil => have := HMS.out; simp only [List.length_nil] at this; omega
          | cons y t => exact ⟨y, t, rfl⟩
        have HE := bstep_write (once := once) (out := out) (tr := tr) HWB.out
        have HI' : BInv xs K ⟨nx, t0, out ++ [y0], tr ++ [y0 :: t0]⟩ := by have := HI.step (once := once) hK1 hbz; rw [HE] at this; exact this
        have HF' : Hid (finB xs K once ⟨nx, t0, out ++ [y0], tr ++ [y0 :: t0]⟩ = finB xs K once bS0) := by rw [Hid, ← HE, ← finB_busy hK1 hbz, HF.out]
        clear HE hbz HF HI HWB
        have hm8 : ms ≤ 8 := by omega
        have i4 : 0 < ms := by omega
        have i1 : (1 : Int) ≤ (ms : Int) := by omega
        have HT0 : Hid ((ints t0).length = ms - 1) := by rw [Hid, ints_length, HMS.out]; simp
        have HTB : Hid ((ints (y0 :: t0)).length = ms) := by rw [Hid, ints_length, HMS.out]
        obtain ⟨at', ct, rfl, _, _⟩ := HM.ot.rd.form
        obtain ⟨ax, nx', cx, rfl, HNO, _, _⟩ := HM.ow.rd.formN
        have hn24 : nx' ≤ 24 := by have := HNO.out; omega
        have HNL : Hid ((ints out).length = nx') := by rw [Hid, ints_length, HNO.out]
        have hsw := HM.bel.size
        go_wp2_with (first
          | (at_builtin; refine wpList_copy (B := w.heap.size) rfl _ _ 22 rfl elI HM.os.rd rfl rfl (oneCell_ints1 _) hsw _ HTB.out (by omega) (by omega) ?_; intro b5 c5 w5 h5 hb5)
          | (at_builtin; refine wpList_app1 rfl _ _ 35 rfl elII rfl (HM.ot.below hb5) (by show Value.slice (some ⟨w5.heap.size, 0, none⟩) 1 1 = _; simp) rfl (by have := hb5.size; omega) (by omega) (by omega) ?_; intro bt ct' w7 ht7 hg7 hat7
             have HM7 := HM.trace (by decide) hb5 h5 hg7 ht7
             have hcy : w7.cell? sp = some (.int .i64 y0) := by simpa [Addr.add] using HM7.os.rd.cell_i (k := 0) (x := y0) rfl)
          | (at_builtin; refine wpList_app1m rfl _ _ 22 rfl elI rfl HM7.ow (by show Value.slice (some ⟨w7.heap.size, 0, none⟩) 1 1 = _; simp) rfl HM7.bel.size _ HNL.out (by omega) (by omega) ?_; intro b8 c8 w8 ho8 hg8 hat8
             have HM8 := HM7.turnO (out' := out ++ [y0]) (by decide) hg8 (by rw [ints_append]; exact ho8) (hat_new hat8)
             have hrc : Rd w8 (.slice (if cs = 1 then some sp else some (sp.add 1)) (ms - 1) (cs - 1)) (ints t0) := (HM8.os.cut (k := 1) (by omega)).rd)
          | (at_builtin; refine wpList_copy (B := w.heap.size) rfl _ _ 22 rfl elI hrc rfl (by first | rfl | simp) (oneCell_ints1 _) HM8.bel.size _ HT0.out (by omega) (by omega) ?_; intro b9 c9 w9 h9 hb9))
        have HM9 := HM8.fresh (by decide) hb9 h9
        clear HM HM7 HM8 hat7 hat8 hg7 hg8 ht7 ho8 h5 h9 hb5 hb9 hrc hcy
        go_roundw
        case rel => exact ⟨nx, t0, out ++ [y0], tr ++ [y0 :: t0], _, rfl, HI', HF', HM9⟩
        case measure => simp [sliceLen, intOf]; omega
      case neg =>
        have hd : ¬ busy xs ⟨nx, b, out, tr⟩ := fun hh => by
          have := HMS.out
          have := HN.out
          rcases hh with hh | hh <;> dsimp only at hh <;> omega
        have HFO : Hid (bOut xs K once = out) := by rw [Hid, bOut, ← HF.out, finB_done hd]
        have HFT : Hid (bTr xs K once = tr) := by rw [Hid, bTr, ← HF.out, finB_done hd]
        clear hd HF HI
        go_wp2
        go_ret2
        rw [HFO.out, HFT.out]
        exact HM.ret

end Go.Proofs.Ytlbakbachcpifaa
