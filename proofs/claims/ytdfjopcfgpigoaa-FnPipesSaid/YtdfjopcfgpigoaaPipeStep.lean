/- Walks: a clock of a pipe. -/
import Derived.Test.YtdfjopcfgpigoaaStep2
namespace Go.Proofs.Ytdfjopcfgpigoaa
open Go.RowKit
set_option linter.unusedVariables false
set_option linter.unusedSimpArgs false

def ps2 (n : Int) (xss st : List (List Int)) (xin : List Int) : Bool := pipeOk n xss st && pipeRow n xin
def ps0 (n : Int) (xss st : List (List Int)) (xin : List Int) : List (List Int) := if ps2 n xss st xin then nextM n xss st xin st.length else []
def ps1 (n : Int) (xss st : List (List Int)) (xin : List Int) : List Int := if ps2 n xss st xin then nowM st xin st.length else []
/-- A new slice of slices, a new slice in later blocks, and a truth value are returned. -/
def RetOwn21B (xss : List (List Int)) (xs : List Int) (b : Bool) (w : World) (e : Ending) (w' : World) : Prop :=
  ∃ v u M, e = .returned (.tuple #[v, u, .bool b]) ∧ Own2 w' 42 3 w.heap.size M v xss ∧ Own w' 3 M u (ints xs) ∧ w.heap.size ≤ M ∧ M ≤ w'.heap.size ∧ Below w.heap.size w w'
theorem pipeOk_parts {n : Int} {xss st : List (List Int)} (h : pipeOk n xss st = true) : netOk n xss = true ∧ st.length ≤ 60 ∧ ∀ xs ∈ st, pipeRow n xs = true := by
  simp only [pipeOk, Bool.and_eq_true, decide_eq_true_eq, List.all_eq_true] at h
  have := depthOf_bound h.1.1
  exact ⟨h.1.1, by omega, h.2⟩
theorem nowM_row {n : Int} {st : List (List Int)} {xin : List Int} (h : ∀ xs ∈ st, pipeRow n xs = true) (hi : pipeRow n xin = true) : ∀ k, pipeRow n (nowM st xin k) = true
  | 0 => hi
  | k + 1 => by
    rw [nowM, List.getD_eq_getElem?_getD]
    cases hx : st[k]? with
    | none => rfl
    | some xs => exact h xs (List.mem_of_getElem? hx)
theorem pipeRow_len {n : Int} {xs : List Int} (h : pipeRow n xs = true) : xs.length = 0 ∨ (xs.length : Int) = n := by
  simpa [pipeRow] using h
theorem tot_bound {xss : List (List Int)} {B : Nat} (h : ∀ xs ∈ xss, xs.length ≤ B) : tot xss ≤ xss.length * B := by
  induction xss with
  | nil => simp [tot]
  | cons x t ih =>
    have h1 := ih (fun xs hx => h xs (List.mem_cons_of_mem _ hx))
    have h2 := h x (List.mem_cons_self ..)
    simp only [tot, List.foldr_cons, List.length_cons] at *
    rw [Nat.add_mul]
    omega
theorem nextM_mem {n : Int} {xss st : List (List Int)} {xin : List Int} {B : Nat} (h : ∀ k, (nowM st xin k).length ≤ B) : ∀ k, ∀ xs ∈ nextM n xss st xin k, xs.length ≤ B
  | 0, xs, hx => by simp [nextM] at hx
  | k + 1, xs, hx => by
    rw [nextM, List.mem_append] at hx
    rcases hx with hx | hx
    · exact nextM_mem h k xs hx
    · rw [List.mem_singleton] at hx
      subst hx
      rw [nextRow_length]
      exact h k
theorem now_le {n : Int} {xss st : List (List Int)} {xin : List Int} (h : ps2 n xss st xin = true) (k : Nat) : (nowM st xin k).length ≤ 8 := by
  simp only [ps2, Bool.and_eq_true] at h
  obtain ⟨h1, h2, h3⟩ := pipeOk_parts h.1
  obtain ⟨N, rfl, _, _, _⟩ := netOk_n h1
  have := pipeRow_len (nowM_row h3 h.2 k)
  omega
theorem N_PipeStep (n : Int) (xss : List (List Int)) (_ : SzOk xss) (st : List (List Int)) (_ : SzOk st) (xin : List Int) (_ : xin.length ≤ 1048576) : SzOk (ps0 n xss st xin) := by
  unfold ps0
  split
  · rename_i h
    have hl := nextM_length n xss st xin st.length
    have h2 := (pipeOk_parts (by simp only [ps2, Bool.and_eq_true] at h; exact h.1)).2.1
    have h3 := tot_bound (nextM_mem (n := n) (xss := xss) (now_le h) st.length)
    rw [hl] at h3
    exact ⟨by omega, by omega⟩
  · exact ⟨by simp, by simp [tot]⟩
theorem N1_PipeStep (n : Int) (xss : List (List Int)) (_ : SzOk xss) (st : List (List Int)) (_ : SzOk st) (xin : List Int) (_ : xin.length ≤ 1048576) : (ps1 n xss st xin).length ≤ 2000000 := by
  unfold ps1
  split
  · rename_i h
    have := now_le h st.length
    omega
  · simp

set_option maxHeartbeats 1000000 in
theorem I_PipeStep (w : World) (n : Int) (hn : I64 n) (v : Value) (xss : List (List Int)) (h : Rd2 w v xss) (fx : I64ss xss) (lx : SzOk xss) (vs : Value) (st : List (List Int)) (hst : Rd2 w vs st) (fs : I64ss st) (ls : SzOk st) (vi : Value) (xin : List Int) (hi : Rd w vi (ints xin)) (fi : I64s xin) (li : xin.length ≤ 1048576) :
    Calls Try.prog 36 #[.agg #[.int .i64 n, v], vs, vi] w (RetOwn21B (ps0 n xss st xin) (ps1 n xss st xin) (ps2 n xss st xin) w) := by
  obtain ⟨a, c, rfl, h2, h3⟩ := h.form
  have hbA : Below w.heap.size w (w.alloc (.cells #[.int .i64 n, .slice a xss.length c] 32)) := (Below.refl _ _).alloc (Nat.le_refl _) _
  have HPO := Lib.hid (I_PipeOk (w.alloc (.cells #[.int .i64 n, .slice a xss.length c] 32)) n hn _ xss (h.below hbA) fx lx vs st (hst.below hbA) fs ls)
  have bx := box_cells w (.int .i64 n) (.slice a xss.length c) 32
  have HC : Hid (∀ wx : World, Below (w.heap.size + 1) (w.alloc (.cells #[.int .i64 n, .slice a xss.length c] 32)) wx → wx.cell? ⟨w.heap.size, 0, none⟩ = some (.int .i64 n) ∧ wx.cell? ⟨w.heap.size, 1, none⟩ = some (.slice a xss.length c)) :=
    fun wx hb => ⟨(hb.cell (by simp)).trans bx.1, (hb.cell (by simp)).trans bx.2⟩
  clear bx
  cases hk : pipeOk n xss st
  · have HR0 : Hid (ps0 n xss st xin = []) := by simp [ps0, ps2, hk, Hid]
    have HR1 : Hid (ps1 n xss st xin = []) := by simp [ps1, ps2, hk, Hid]
    have HR2 : Hid (ps2 n xss st xin = false) := by simp [ps2, hk, Hid]
    rw [hk] at HPO
    go_enter Try.func36, Try.ntmps36
    go_wp2_with (go_at_call 26; refine HPO.out.mono ?_; rintro e w2 ⟨rfl, hb2⟩)
    go_ret3
    rw [HR0.out, HR1.out, HR2.out]
    have hb := hbA.trans (hb2.mono hbA.size)
    exact ⟨_, _, w2.heap.size, rfl, Own2.nil _ _ _ _ _, Own.nil _ _ _, hb.size, Nat.le_refl _, hb⟩
  rw [hk] at HPO
  have HF := Lib.hid (fun (wq : World) (hq : Below w.heap.size w wq) => i_isFill n (.slice a xss.length c) vi xin wq ⟨_, _, _, rfl⟩ (hi.below hq))
  cases hr : pipeRow n xin
  · have HR0 : Hid (ps0 n xss st xin = []) := by simp [ps0, ps2, hr, Hid]
    have HR1 : Hid (ps1 n xss st xin = []) := by simp [ps1, ps2, hr, Hid]
    have HR2 : Hid (ps2 n xss st xin = false) := by simp [ps2, hr, Hid]
    rw [hr] at HF
    go_enter Try.func36, Try.ntmps36
    go_wp2_with (first
      | (go_at_call 26; refine HPO.out.mono ?_; rintro e w2 ⟨rfl, hb2⟩
         have hb2' : Below (w.heap.size + 1) (w.alloc (.cells #[.int .i64 n, .slice a xss.length c] 32)) w2 := hb2.mono (by simp)
         have hbB := hbA.trans (hb2.mono hbA.size)
         obtain ⟨c0, c1⟩ := HC.out _ hb2')
      | (go_at_call 56; refine (HF.out _ hbB).mono ?_; rintro e w3 ⟨rfl, hb3⟩; have hbC := hbB.trans (hb3.mono hbB.size)))
    go_ret3
    rw [HR0.out, HR1.out, HR2.out]
    exact ⟨_, _, w3.heap.size, rfl, Own2.nil _ _ _ _ _, Own.nil _ _ _, hbC.size, Nat.le_refl _, hbC⟩
  rw [hr] at HF
  have HR0 : Hid (ps0 n xss st xin = nextM n xss st xin st.length) := by simp [ps0, ps2, hk, hr, Hid]
  have HR1 : Hid (ps1 n xss st xin = nowM st xin st.length) := by simp [ps1, ps2, hk, hr, Hid]
  have HR2 : Hid (ps2 n xss st xin = true) := by simp [ps2, hk, hr, Hid]
  obtain ⟨p1, p2, p3⟩ := pipeOk_parts hk
  have HCK := Lib.hid (fun (wq : World) (hq : Below w.heap.size w wq) => i_clock n hn _ vs vi xss st xin wq (h.below hq) fx lx (hst.below hq) (hi.below hq) p1 p2 (fun k _ => nowM_row p3 hr k))
  clear p1 p3 hk hr
  go_enter Try.func36, Try.ntmps36
  go_wp2_with (first
    | (go_at_call 26; refine HPO.out.mono ?_; rintro e w2 ⟨rfl, hb2⟩
       have hb2' : Below (w.heap.size + 1) (w.alloc (.cells #[.int .i64 n, .slice a xss.length c] 32)) w2 := hb2.mono (by simp)
       have hbB := hbA.trans (hb2.mono hbA.size)
       have hz2 : w.heap.size + 1 ≤ w2.heap.size := by have := hb2.size; simp at this; omega
       obtain ⟨c0, c1⟩ := HC.out _ hb2')
    | (go_at_call 56; refine (HF.out _ hbB).mono ?_; rintro e w3 ⟨rfl, hb3⟩; have hbC := hbB.trans (hb3.mono hbB.size); obtain ⟨e0, e1⟩ := HC.out _ (hb2'.trans (hb3.mono hz2)))
    | (go_at_call 61; refine (HCK.out _ hbC).mono ?_; rintro e w4 ⟨v4, u4, M, rfl, ho4, hu4, hM1, hM2, hb4⟩))
  go_ret3
  rw [HR0.out, HR1.out, HR2.out]
  have hzC := hbC.size
  exact ⟨_, _, M, rfl, ho4.mono hzC (Nat.le_refl _), hu4, by omega, hM2, hbC.trans (hb4.mono hzC)⟩

set_option maxHeartbeats 1000000 in
theorem S_PipeStep (w : World) (n : Int) (hn : I64 n) (v : Value) (xss : List (List Int)) (h : Rd2 w v xss) (fx : I64ss xss) (lx : SzOk xss) (vs : Value) (st : List (List Int)) (hst : Rd2 w vs st) (fs : I64ss st) (ls : SzOk st) (vi : Value) (xin : List Int) (hi : Rd w vi (ints xin)) (fi : I64s xin) (li : xin.length ≤ 1048576) :
    Calls Try.prog 34 #[.agg #[.int .i64 n, v], vs, vi] w (RetOwn21B (ps0 n xss st xin) (ps1 n xss st xin) (ps2 n xss st xin) w) := by
  obtain ⟨a, c, rfl, h2, h3⟩ := h.form
  have hbA : Below w.heap.size w (w.alloc (.cells #[.int .i64 n, .slice a xss.length c] 32)) := (Below.refl _ _).alloc (Nat.le_refl _) _
  have HPO := Lib.hid (S_PipeOk (w.alloc (.cells #[.int .i64 n, .slice a xss.length c] 32)) n hn _ xss (h.below hbA) fx lx vs st (hst.below hbA) fs ls)
  have bx := box_cells w (.int .i64 n) (.slice a xss.length c) 32
  have HC : Hid (∀ wx : World, Below (w.heap.size + 1) (w.alloc (.cells #[.int .i64 n, .slice a xss.length c] 32)) wx → wx.cell? ⟨w.heap.size, 0, none⟩ = some (.int .i64 n) ∧ wx.cell? ⟨w.heap.size, 1, none⟩ = some (.slice a xss.length c)) :=
    fun wx hb => ⟨(hb.cell (by simp)).trans bx.1, (hb.cell (by simp)).trans bx.2⟩
  clear bx
  cases hk : pipeOk n xss st
  · have HR0 : Hid (ps0 n xss st xin = []) := by simp [ps0, ps2, hk, Hid]
    have HR1 : Hid (ps1 n xss st xin = []) := by simp [ps1, ps2, hk, Hid]
    have HR2 : Hid (ps2 n xss st xin = false) := by simp [ps2, hk, Hid]
    rw [hk] at HPO
    go_enter Try.func34, Try.ntmps34
    go_wp2_with (go_at_call 25; refine HPO.out.mono ?_; rintro e w2 ⟨rfl, hb2⟩)
    go_ret3
    rw [HR0.out, HR1.out, HR2.out]
    have hb := hbA.trans (hb2.mono hbA.size)
    exact ⟨_, _, w2.heap.size, rfl, Own2.nil _ _ _ _ _, Own.nil _ _ _, hb.size, Nat.le_refl _, hb⟩
  rw [hk] at HPO
  obtain ⟨ai, m, ci, rfl, HM, hm2, hm3⟩ := hi.formH
  have HB : Hid (pipeRow n xin = (!((m : Int) != 0) || !((m : Int) != n))) := by
    rw [Hid, ← pipeRow_beq, ← HM.out]
    simp [bne]
  cases hr : pipeRow n xin
  · have HR0 : Hid (ps0 n xss st xin = []) := by simp [ps0, ps2, hr, Hid]
    have HR1 : Hid (ps1 n xss st xin = []) := by simp [ps1, ps2, hr, Hid]
    have HR2 : Hid (ps2 n xss st xin = false) := by simp [ps2, hr, Hid]
    have hb := HB.out
    rw [hr] at hb
    have d1 : ((m : Int) != 0) = true := by cases e : ((m : Int) != 0) <;> simp [e] at hb ⊢
    have d2 : ((m : Int) != n) = true := by cases e : ((m : Int) != n) <;> simp [e] at hb ⊢
    clear hb HB
    go_enter Try.func34, Try.ntmps34
    go_wp2_with (first
      | (go_at_call 25; refine HPO.out.mono ?_; rintro e w2 ⟨rfl, hb2⟩
         have hb2' : Below (w.heap.size + 1) (w.alloc (.cells #[.int .i64 n, .slice a xss.length c] 32)) w2 := hb2.mono (by simp)
         have hbB := hbA.trans (hb2.mono hbA.size)
         obtain ⟨c0, c1⟩ := HC.out _ hb2'))
    go_ret3
    rw [HR0.out, HR1.out, HR2.out]
    exact ⟨_, _, w2.heap.size, rfl, Own2.nil _ _ _ _ _, Own.nil _ _ _, hbB.size, Nat.le_refl _, hbB⟩
  have HR0 : Hid (ps0 n xss st xin = nextM n xss st xin st.length) := by simp [ps0, ps2, hk, hr, Hid]
  have HR1 : Hid (ps1 n xss st xin = nowM st xin st.length) := by simp [ps1, ps2, hk, hr, Hid]
  have HR2 : Hid (ps2 n xss st xin = true) := by simp [ps2, hk, hr, Hid]
  obtain ⟨p1, p2, p3⟩ := pipeOk_parts hk
  have HCK := Lib.hid (fun (wq : World) (hq : Below w.heap.size w wq) => s_l26Step n hn _ vs _ xss st xin wq (h.below hq) fx lx (hst.below hq) (hi.below hq) p1 p2 (fun k _ => nowM_row p3 hr k))
  have HR9 := Lib.hid hr
  clear p1 p3 hk hr
  cases d1 : ((m : Int) != 0)
  · clear HB
    go_enter Try.func34, Try.ntmps34
    go_wp2_with (first
      | (go_at_call 25; refine HPO.out.mono ?_; rintro e w2 ⟨rfl, hb2⟩
         have hb2' : Below (w.heap.size + 1) (w.alloc (.cells #[.int .i64 n, .slice a xss.length c] 32)) w2 := hb2.mono (by simp)
         have hbB := hbA.trans (hb2.mono hbA.size)
         obtain ⟨c0, c1⟩ := HC.out _ hb2')
      | (go_at_call 60; refine (HCK.out _ hbB).mono ?_; rintro e w4 ⟨v4, u4, M, rfl, ho4, hu4, hM1, hM2, hb4⟩))
    go_ret3
    rw [HR0.out, HR1.out, HR2.out]
    have hzC := hbB.size
    exact ⟨_, _, M, rfl, ho4.mono hzC (Nat.le_refl _), hu4, by omega, hM2, hbB.trans (hb4.mono hzC)⟩
  cases d2 : ((m : Int) != n)
  · clear HB
    go_enter Try.func34, Try.ntmps34
    go_wp2_with (first
      | (go_at_call 25; refine HPO.out.mono ?_; rintro e w2 ⟨rfl, hb2⟩
         have hb2' : Below (w.heap.size + 1) (w.alloc (.cells #[.int .i64 n, .slice a xss.length c] 32)) w2 := hb2.mono (by simp)
         have hbB := hbA.trans (hb2.mono hbA.size)
         obtain ⟨c0, c1⟩ := HC.out _ hb2')
      | (go_at_call 60; refine (HCK.out _ hbB).mono ?_; rintro e w4 ⟨v4, u4, M, rfl, ho4, hu4, hM1, hM2, hb4⟩))
    go_ret3
    rw [HR0.out, HR1.out, HR2.out]
    have hzC := hbB.size
    exact ⟨_, _, M, rfl, ho4.mono hzC (Nat.le_refl _), hu4, by omega, hM2, hbB.trans (hb4.mono hzC)⟩
  · have := HB.out
    rw [HR9.out, d1, d2] at this
    cases this

end Go.Proofs.Ytdfjopcfgpigoaa
