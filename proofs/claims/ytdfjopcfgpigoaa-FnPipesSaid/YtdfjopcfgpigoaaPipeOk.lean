/- Walks: is there a pipe. -/
import Derived.Test.YtdfjopcfgpigoaaPipeStart
import Derived.Test.YtdfjopcfgpigoaaClone
namespace Go.Proofs.Ytdfjopcfgpigoaa
open Go.RowKit
set_option linter.unusedVariables false
set_option linter.unusedSimpArgs false

def pipeRow (n : Int) (xs : List Int) : Bool := decide (xs.length = 0) || decide ((xs.length : Int) = n)
def pipeOk (n : Int) (xss st : List (List Int)) : Bool := netOk n xss && decide ((st.length : Int) = depthOf n xss) && st.all (pipeRow n)
theorem all_no {α : Type} {p : α → Bool} {xs : List α} {k : Nat} {x : α} (hx : xs[k]? = some x) (h : p x = false) : xs.all p = false := by
  rw [← Bool.not_eq_true, List.all_eq_true]
  intro ha
  rw [ha x (List.mem_of_getElem? hx)] at h
  cases h
theorem all_yes {α : Type} {p : α → Bool} {xs : List α} (h : ∀ (j : Nat) x, j < xs.length → xs[j]? = some x → p x = true) : xs.all p = true := by
  rw [List.all_eq_true]
  intro x hx
  obtain ⟨j, hj, rfl⟩ := List.getElem_of_mem hx
  exact h j _ hj (List.getElem?_eq_getElem hj)

theorem pipeRow_beq (n : Int) (xs : List Int) : (((xs.length : Int) == 0) || ((xs.length : Int) == n)) = pipeRow n xs := by
  unfold pipeRow
  by_cases h : (xs.length : Int) = n <;> by_cases h0 : xs.length = 0 <;> simp [h, h0]
  all_goals omega

set_option maxHeartbeats 400000 in
theorem i_isFill (n : Int) (v u : Value) (xs : List Int) (w : World) (hv : ∃ a k c, v = .slice a k c) (h : Rd w u (ints xs)) : Calls Try.prog 56 #[.agg #[.int .i64 n, v], u] w (RetB (.bool (pipeRow n xs)) w) := by
  obtain ⟨a0, k0, c0, rfl⟩ := hv
  obtain ⟨a, c, rfl, h2, h3⟩ := h.formi
  have HR := Lib.hid (pipeRow_beq n xs)
  generalize pipeRow n xs = r at *
  go_enter Try.func56, Try.ntmps56
  go_wp2
  all_goals
    go_ret
    exact ⟨ret_bool (by first | (rw [← HR.out]; done) | (rw [← HR.out]; simp [*])), (Below.refl _ _).alloc (Nat.le_refl _) _⟩

theorem k_PipeOk1 : Known 55 := known Try.func55 (by kernel_rfl) (by kernel_rfl)
theorem i_PipeOk1 (n : Int) (a : Option Addr) (k c B : Nat) (u : Value) (xs : List Int) (w : World) (h0 : w.cell? ⟨B, 0, none⟩ = some (.int .i64 n)) (h1 : w.cell? ⟨B, 1, none⟩ = some (.slice a k c)) (h : Rd w u (ints xs)) :
    Calls Try.prog 55 (#[u] ++ #[.pointer (some ⟨B, 0, none⟩)]) w (RetB (.bool (!pipeRow n xs)) w) := by
  have HF := Lib.hid (i_isFill n (.slice a k c) u xs w ⟨_, _, _, rfl⟩ h)
  generalize pipeRow n xs = r at *
  go_enter Try.func55, Try.ntmps55
  go_wp2_with (go_at_call 56; refine HF.out.mono ?_; rintro e w2 ⟨rfl, hb2⟩)
  go_ret
  exact ⟨rfl, hb2⟩

theorem any_not (n : Int) (st : List (List Int)) : (!st.any fun xs => !pipeRow n xs) = st.all (pipeRow n) := by
  rw [List.all_eq_not_any_not]
set_option maxHeartbeats 1000000 in
theorem I_PipeOk (w : World) (n : Int) (hn : I64 n) (v : Value) (xss : List (List Int)) (h : Rd2 w v xss) (fx : I64ss xss) (lx : SzOk xss) (vs : Value) (st : List (List Int)) (hst : Rd2 w vs st) (fs : I64ss st) (ls : SzOk st) : Calls Try.prog 26 #[.agg #[.int .i64 n, v], vs] w (RetB (.bool (pipeOk n xss st)) w) := by
  obtain ⟨a, c, rfl, h2, h3⟩ := h.form
  obtain ⟨az, cs, rfl, hs2, hs3⟩ := hst.form
  have hbA : Below w.heap.size w (w.alloc (.cells #[.int .i64 n, .slice a xss.length c] 32)) := (Below.refl _ _).alloc (Nat.le_refl _) _
  have h' := h.alloc (.cells #[.int .i64 n, .slice a xss.length c] 32)
  have HN := i_NetworkOk n _ xss _ h' hn
  cases hk : netOk n xss
  · rw [hk] at HN
    have HR : Hid (pipeOk n xss st = false) := by simp [pipeOk, hk, Hid]
    go_enter Try.func26, Try.ntmps26
    go_wp2_with (go_at_call 53; refine HN.mono ?_; rintro e w2 ⟨rfl, hb2⟩)
    go_ret
    exact ⟨ret_bool HR.out.symm, hbA.trans (hb2.mono (by simp))⟩
  rw [hk] at HN
  have HR : Hid (pipeOk n xss st = (((st.length : Int) == depthOf n xss) && st.all (pipeRow n))) := by
    rw [Hid, pipeOk, hk]
    by_cases e : (st.length : Int) = depthOf n xss <;> simp [e]
  have HD := Lib.hid (fun (wq : World) (hq : Below w.heap.size w wq) => i_DepthOf n _ xss wq (h.below hq) hn)
  generalize depthOf n xss = D at *
  clear hk
  have bx := box_cells w (.int .i64 n) (.slice a xss.length c) 32
  have HC : Hid (∀ wx : World, Below (w.heap.size + 1) (w.alloc (.cells #[.int .i64 n, .slice a xss.length c] 32)) wx → wx.cell? ⟨w.heap.size, 0, none⟩ = some (.int .i64 n) ∧ wx.cell? ⟨w.heap.size, 1, none⟩ = some (.slice a xss.length c)) :=
    fun wx hb => ⟨(hb.cell (by simp)).trans bx.1, (hb.cell (by simp)).trans bx.2⟩
  clear bx
  have HCF : Hid (∀ wx : World, Below (w.heap.size + 1) (w.alloc (.cells #[.int .i64 n, .slice a xss.length c] 32)) wx → Calls Try.prog 54 #[.slice az st.length cs, .func (.func 55) #[] #[.pointer (some ⟨w.heap.size, 0, none⟩)]] wx (RetB (.bool (st.any fun xs => !pipeRow n xs)) wx)) := by
    intro wx hb
    have hbw : Below w.heap.size w wx := hbA.trans (hb.mono (by simp))
    have hzx : w.heap.size + 1 ≤ wx.heap.size := by have := hb.size; simp at this; omega
    refine f_ContainsFunc2B _ _ _ k_PipeOk1 _ st wx (hst.below hbw) (fun wr r xs hbr _ hr => ?_)
    obtain ⟨g0, g1⟩ := HC.out wr (hb.trans (hbr.mono hzx))
    exact i_PipeOk1 n a _ c w.heap.size r xs wr g0 g1 hr
  cases hd : ((st.length : Int) == D)
  · rw [hd] at HR
    generalize (pipeOk n xss st) = r at *
    go_enter Try.func26, Try.ntmps26
    go_wp2_with (first
      | (go_at_call 53; refine HN.mono ?_; rintro e w2 ⟨rfl, hb2⟩
         have hb2' : Below (w.heap.size + 1) (w.alloc (.cells #[.int .i64 n, .slice a xss.length c] 32)) w2 := hb2.mono (by simp)
         have hbB : Below w.heap.size w w2 := hbA.trans (hb2.mono (by simp))
         obtain ⟨c0, c1⟩ := HC.out _ hb2')
      | (go_at_call 44; refine (HD.out _ hbB).mono ?_; rintro e w3 ⟨rfl, hb3⟩; have hbC := hbB.trans (hb3.mono hbB.size)))
    go_ret
    exact ⟨ret_bool (by rw [HR.out]; rfl), hbC⟩
  rw [hd, Bool.true_and, ← any_not] at HR
  generalize (pipeOk n xss st) = r at *
  generalize (st.any fun xs => !pipeRow n xs) = q at *
  go_enter Try.func26, Try.ntmps26
  go_wp2_with (first
    | (go_at_call 53; refine HN.mono ?_; rintro e w2 ⟨rfl, hb2⟩
       have hb2' : Below (w.heap.size + 1) (w.alloc (.cells #[.int .i64 n, .slice a xss.length c] 32)) w2 := hb2.mono (by simp)
       have hbB : Below w.heap.size w w2 := hbA.trans (hb2.mono (by simp))
       have hz2 : w.heap.size + 1 ≤ w2.heap.size := by have := hb2.size; simp at this; omega
       obtain ⟨c0, c1⟩ := HC.out _ hb2')
    | (go_at_call 44; refine (HD.out _ hbB).mono ?_; rintro e w3 ⟨rfl, hb3⟩; have hbC := hbB.trans (hb3.mono hbB.size); have hb3' := hb2'.trans (hb3.mono hz2))
    | (go_at_call 54; refine (HCF.out _ hb3').mono ?_; rintro e w4 ⟨rfl, hb4⟩; have hbD := hbC.trans (hb4.mono hbC.size)))
  go_ret
  exact ⟨ret_bool (by rw [HR.out]), hbD⟩

set_option maxHeartbeats 1000000 in
theorem S_PipeOk (w : World) (n : Int) (hn : I64 n) (v : Value) (xss : List (List Int)) (h : Rd2 w v xss) (fx : I64ss xss) (lx : SzOk xss) (vs : Value) (st : List (List Int)) (hst : Rd2 w vs st) (fs : I64ss st) (ls : SzOk st) : Calls Try.prog 25 #[.agg #[.int .i64 n, v], vs] w (RetB (.bool (pipeOk n xss st)) w) := by
  obtain ⟨a, c, rfl, h2, h3⟩ := h.form
  obtain ⟨az, cs, rfl, hs2, hs3⟩ := hst.form
  have hbA : Below w.heap.size w (w.alloc (.cells #[.int .i64 n, .slice a xss.length c] 32)) := (Below.refl _ _).alloc (Nat.le_refl _) _
  have h' := h.alloc (.cells #[.int .i64 n, .slice a xss.length c] 32)
  have HN := s_NetworkOk n _ xss _ h' hn
  cases hk : netOk n xss
  · rw [hk] at HN
    have HR : Hid (pipeOk n xss st = false) := by simp [pipeOk, hk, Hid]
    go_enter Try.func25, Try.ntmps25
    go_wp2_with (go_at_call 51; refine HN.mono ?_; rintro e w2 ⟨rfl, hb2⟩)
    go_ret
    exact ⟨ret_bool HR.out.symm, hbA.trans (hb2.mono (by simp))⟩
  rw [hk] at HN
  have HR : Hid (pipeOk n xss st = (!((st.length : Int) != depthOf n xss) && st.all (pipeRow n))) := by
    rw [Hid, pipeOk, hk]
    by_cases e : (st.length : Int) = depthOf n xss <;> simp [e]
  have HD := Lib.hid (fun (wq : World) (hq : Below w.heap.size w wq) => s_DepthOf n _ xss wq (h.below hq) hn)
  generalize depthOf n xss = D at *
  clear hk
  have bx := box_cells w (.int .i64 n) (.slice a xss.length c) 32
  have HC : Hid (∀ wx : World, Below (w.heap.size + 1) (w.alloc (.cells #[.int .i64 n, .slice a xss.length c] 32)) wx → wx.cell? ⟨w.heap.size, 0, none⟩ = some (.int .i64 n) ∧ wx.cell? ⟨w.heap.size, 1, none⟩ = some (.slice a xss.length c)) :=
    fun wx hb => ⟨(hb.cell (by simp)).trans bx.1, (hb.cell (by simp)).trans bx.2⟩
  clear bx
  cases hd : ((st.length : Int) != D)
  case true =>
    rw [hd] at HR
    generalize (pipeOk n xss st) = r at *
    go_enter Try.func25, Try.ntmps25
    go_wp2_with (first
      | (go_at_call 51; refine HN.mono ?_; rintro e w2 ⟨rfl, hb2⟩
         have hb2' : Below (w.heap.size + 1) (w.alloc (.cells #[.int .i64 n, .slice a xss.length c] 32)) w2 := hb2.mono (by simp)
         have hbB : Below w.heap.size w w2 := hbA.trans (hb2.mono (by simp))
         obtain ⟨c0, c1⟩ := HC.out _ hb2')
      | (go_at_call 52; refine (HD.out _ hbB).mono ?_; rintro e w3 ⟨rfl, hb3⟩; have hbC := hbB.trans (hb3.mono hbB.size)))
    go_ret
    exact ⟨ret_bool (by rw [HR.out]; rfl), hbC⟩
  rw [hd, Bool.not_false, Bool.true_and] at HR
  have HNO : Hid (∀ (k : Nat) xs, st[k]? = some xs → pipeRow n xs = false → pipeOk n xss st = false) := fun k xs hx hp => by rw [HR.out]; exact all_no hx hp
  have HYES : Hid ((∀ (j : Nat) xs, j < st.length → st[j]? = some xs → pipeRow n xs = true) → pipeOk n xss st = true) := fun hp => by rw [HR.out]; exact all_yes hp
  clear HR
  generalize (pipeOk n xss st) = r at *
  go_enter Try.func25, Try.ntmps25
  go_wp2_with (first
    | (go_at_call 51; refine HN.mono ?_; rintro e w2 ⟨rfl, hb2⟩
       have hb2' : Below (w.heap.size + 1) (w.alloc (.cells #[.int .i64 n, .slice a xss.length c] 32)) w2 := hb2.mono (by simp)
       have hbB : Below w.heap.size w w2 := hbA.trans (hb2.mono (by simp))
       have hz2 : w.heap.size + 1 ≤ w2.heap.size := by have := hb2.size; simp at this; omega
       obtain ⟨c0, c1⟩ := HC.out _ hb2')
    | (go_at_call 52; refine (HD.out _ hbB).mono ?_; rintro e w3 ⟨rfl, hb3⟩; have hbC := hbB.trans (hb3.mono hbB.size); have hb3' := hb2'.trans (hb3.mono hz2); obtain ⟨e0, e1⟩ := HC.out _ hb3'))
  have hst3 := hst.below hbC
  clear hb2 hb2' hb3 hb3' c0 c1 hz2 hd HN HD
  go_loopw [19] (fun i wr => ∃ k : Nat, k ≤ st.length ∧ i = .int .i64 k ∧ Dr w3 wr ∧ Hid (∀ (j : Nat) y, j < k → st[j]? = some y → pipeRow n y = true)) (fun i _ => st.length - (intOf i).toNat)
  case atStart => exact ⟨0, Nat.zero_le _, rfl, Dr.refl _, fun j y hj => by omega⟩
  case round =>
    obtain ⟨k, hkl, rfl, hdr, HP⟩ := hrel
    by_cases hlt : k < st.length
    · obtain ⟨ad, b, m, d, xs, rfl, hc, hx, hm, hmd, hd, hr⟩ := (hst3.dr hdr).row hlt
      have g0 := (hdr.cell ⟨w.heap.size, 0, none⟩).trans e0
      have HB : Hid (pipeRow n xs = (!((m : Int) != 0) || !((m : Int) != n))) := by
        rw [Hid, ← pipeRow_beq, ← hm.out]
        simp [bne]
      cases hm0 : ((m : Int) != 0)
      · have HT : Hid (pipeRow n xs = true) := by rw [Hid, HB.out, hm0]; rfl
        clear HB
        go_wp2
        go_roundw
        case rel => exact ⟨k + 1, by omega, by go_num, hdr, fun j y hj hy => by
          by_cases e : j = k
          · subst e
            rw [hx.out] at hy
            cases hy
            exact HT.out
          · exact HP.out j y (by omega) hy⟩
        case measure => simp [intOf]; omega
      cases hmn : ((m : Int) != n)
      · have HT : Hid (pipeRow n xs = true) := by rw [Hid, HB.out, hmn]; simp
        clear HB
        go_wp2
        go_roundw
        case rel => exact ⟨k + 1, by omega, by go_num, hdr, fun j y hj hy => by
          by_cases e : j = k
          · subst e
            rw [hx.out] at hy
            cases hy
            exact HT.out
          · exact HP.out j y (by omega) hy⟩
        case measure => simp [intOf]; omega
      · have HE : Hid (r = false) := HNO.out k xs hx.out (by rw [HB.out, hm0, hmn]; rfl)
        clear HB
        go_wp2
        go_ret
        exact ⟨ret_bool (by rw [HE.out]), hbC.trans (hdr.below _)⟩
    · obtain rfl : st.length = k := by omega
      have HE : Hid (r = true) := HYES.out HP.out
      go_wp2
      go_ret
      exact ⟨ret_bool (by rw [HE.out]), hbC.trans (hdr.below _)⟩

end Go.Proofs.Ytdfjopcfgpigoaa
