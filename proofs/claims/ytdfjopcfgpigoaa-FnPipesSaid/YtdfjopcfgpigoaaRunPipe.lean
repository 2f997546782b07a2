/- Walks: lists through a pipe. -/
import Derived.Test.YtdfjopcfgpigoaaPipeStep
namespace Go.Proofs.Ytdfjopcfgpigoaa
open Go.RowKit
set_option linter.unusedVariables false
set_option linter.unusedSimpArgs false

def inAt (ins : List (List Int)) (k : Nat) : List Int := ins.getD k []
def stM (n : Int) (xss ins : List (List Int)) : Nat → List (List Int)
  | 0 => List.replicate (depthOf n xss).toNat []
  | k + 1 => nextM n xss (stM n xss ins k) (inAt ins k) (stM n xss ins k).length
def outM (n : Int) (xss ins : List (List Int)) : Nat → List (List Int)
  | 0 => []
  | k + 1 => outM n xss ins k ++ [nowM (stM n xss ins k) (inAt ins k) (stM n xss ins k).length]
def rp1 (n : Int) (xss ins : List (List Int)) : Bool := netOk n xss && decide (ins.length ≤ 12) && ins.all (pipeRow n)
def rp0 (n : Int) (xss ins : List (List Int)) : List (List Int) := if rp1 n xss ins then outM n xss ins (ins.length + (depthOf n xss).toNat) else []
def RetOwn2B (xss : List (List Int)) (b : Bool) (w : World) (e : Ending) (w' : World) : Prop :=
  ∃ v, e = .returned (.tuple #[v, .bool b]) ∧ Own2 w' 42 3 w.heap.size w'.heap.size v xss ∧ Below w.heap.size w w'
theorem stM_length (n : Int) (xss ins : List (List Int)) : ∀ k, (stM n xss ins k).length = (depthOf n xss).toNat
  | 0 => by rw [stM, List.length_replicate]
  | k + 1 => by rw [stM, nextM_length]; exact stM_length n xss ins k
theorem outM_length (n : Int) (xss ins : List (List Int)) : ∀ k, (outM n xss ins k).length = k
  | 0 => rfl
  | k + 1 => by rw [outM, List.length_append, outM_length n xss ins k]; rfl
theorem pipeRow_eq {n : Int} {xs ys : List Int} (h : xs.length = ys.length) : pipeRow n xs = pipeRow n ys := by simp only [pipeRow, h]
theorem nextM_rows {n : Int} {xss st : List (List Int)} {xin : List Int} (h : ∀ k, pipeRow n (nowM st xin k) = true) : ∀ k, ∀ xs ∈ nextM n xss st xin k, pipeRow n xs = true
  | 0, xs, hx => by simp [nextM] at hx
  | k + 1, xs, hx => by
    rw [nextM, List.mem_append] at hx
    rcases hx with hx | hx
    · exact nextM_rows h k xs hx
    · rw [List.mem_singleton] at hx
      subst hx
      rw [pipeRow_eq (nextRow_length _ _ _ _)]
      exact h k
theorem inAt_row {n : Int} {ins : List (List Int)} (h : ins.all (pipeRow n) = true) (k : Nat) : pipeRow n (inAt ins k) = true := by
  rw [inAt, List.getD_eq_getElem?_getD]
  cases hx : ins[k]? with
  | none => rfl
  | some xs => exact List.all_eq_true.1 h xs (List.mem_of_getElem? hx)
theorem stM_rows {n : Int} {xss ins : List (List Int)} (h : ins.all (pipeRow n) = true) : ∀ k, ∀ xs ∈ stM n xss ins k, pipeRow n xs = true
  | 0, xs, hx => by
    rw [stM, List.mem_replicate] at hx
    rw [hx.2]; rfl
  | k + 1, xs, hx => nextM_rows (nowM_row (stM_rows h k) (inAt_row h k)) _ xs hx
theorem outM_rows {n : Int} {xss ins : List (List Int)} (h : ins.all (pipeRow n) = true) : ∀ k, ∀ xs ∈ outM n xss ins k, pipeRow n xs = true
  | 0, xs, hx => by simp [outM] at hx
  | k + 1, xs, hx => by
    rw [outM, List.mem_append] at hx
    rcases hx with hx | hx
    · exact outM_rows h k xs hx
    · rw [List.mem_singleton] at hx
      subst hx
      exact nowM_row (stM_rows h k) (inAt_row h k) _
theorem N_RunPipe (n : Int) (xss : List (List Int)) (_ : SzOk xss) (ins : List (List Int)) (_ : SzOk ins) : SzOk (rp0 n xss ins) := by
  unfold rp0
  split
  · rename_i h
    simp only [rp1, Bool.and_eq_true, decide_eq_true_eq] at h
    obtain ⟨⟨h1, h2⟩, h3⟩ := h
    have hd := depthOf_bound h1
    obtain ⟨N, rfl, _, h8, _⟩ := netOk_n h1
    have hl := outM_length (N : Int) xss ins (ins.length + (depthOf N xss).toNat)
    have ht := tot_bound (B := 8) (fun xs hx => by have := pipeRow_len (outM_rows (xss := xss) h3 (ins.length + (depthOf N xss).toNat) xs hx); omega)
    rw [hl] at ht
    exact ⟨by omega, by omega⟩
  · exact ⟨by simp, by simp [tot]⟩
theorem Own2.apart2 {w w' : World} {EO E B T : Nat} {v : Value} {xss : List (List Int)} {row : Option Nat} (h : Own2 w EO E B T v xss) (hg : w.grownBy w' row) (hne : ∀ g, row = some g → g < B ∨ T ≤ g) : Own2 w' EO E B T v xss := by
  cases row with
  | none => exact h.chg (C := T) (D := T) (Chg.row hg (fun k hk => by cases hk)) (.inl (Nat.le_refl _))
  | some g => exact h.chg (C := g) (D := g + 1) (Chg.row hg (fun k hk => by cases hk; omega)) (by have := hne g rfl; omega)

theorem Own2.lit0 {E B : Nat} (w : World) (EO : Nat) (hB : B ≤ w.heap.size) : Own2 (w.alloc (.cells #[] EO)) EO E B (w.alloc (.cells #[] EO)).heap.size (.slice (some ⟨w.heap.size, 0, none⟩) 0 0) [] := by
  refine ⟨[], ?_, fun k hk => ?_, RowsOwn.nil _ _ _ _⟩
  · simpa [ints] using Own.lit0 w EO hB
  · have : w.heap.size = k := Option.some.inj hk
    simp
    omega

theorem k_RunPipe1 : Known 62 := known Try.func62 (by kernel_rfl) (by kernel_rfl)
theorem i_RunPipe1 (n : Int) (a : Option Addr) (k c B : Nat) (u : Value) (xs : List Int) (w : World) (h0 : w.cell? ⟨B, 0, none⟩ = some (.int .i64 n)) (h1 : w.cell? ⟨B, 1, none⟩ = some (.slice a k c)) (h : Rd w u (ints xs)) :
    Calls Try.prog 62 (#[u] ++ #[.pointer (some ⟨B, 0, none⟩)]) w (RetB (.bool (!pipeRow n xs)) w) := by
  have HF := Lib.hid (i_isFill n (.slice a k c) u xs w ⟨_, _, _, rfl⟩ h)
  generalize pipeRow n xs = r at *
  go_enter Try.func62, Try.ntmps62
  go_wp2_with (go_at_call 56; refine HF.out.mono ?_; rintro e w2 ⟨rfl, hb2⟩)
  go_ret
  exact ⟨rfl, hb2⟩

set_option maxHeartbeats 4000000 in
theorem I_RunPipe (w : World) (n : Int) (hn : I64 n) (v : Value) (xss : List (List Int)) (h : Rd2 w v xss) (fx : I64ss xss) (lx : SzOk xss) (vi : Value) (ins : List (List Int)) (hi : Rd2 w vi ins) (fi : I64ss ins) (li : SzOk ins) :
    Calls Try.prog 41 #[.agg #[.int .i64 n, v], vi] w (RetOwn2B (rp0 n xss ins) (rp1 n xss ins) w) := by
  obtain ⟨a, c, rfl, h2, h3⟩ := h.form
  obtain ⟨ai, m, ci, rfl, HM, hm2, hm3⟩ := hi.formH
  have hbA : Below w.heap.size w (w.alloc (.cells #[.int .i64 n, .slice a xss.length c] 32)) := (Below.refl _ _).alloc (Nat.le_refl _) _
  have h' := h.alloc (.cells #[.int .i64 n, .slice a xss.length c] 32)
  have HN := i_NetworkOk n _ xss _ h' hn
  cases hk : netOk n xss
  · rw [hk] at HN
    have HR0 : Hid (rp0 n xss ins = []) := by simp [rp0, rp1, hk, Hid]
    have HR1 : Hid (rp1 n xss ins = false) := by simp [rp1, hk, Hid]
    go_enter Try.func41, Try.ntmps41
    go_wp2_with (go_at_call 53; refine HN.mono ?_; rintro e w2 ⟨rfl, hb2⟩)
    go_ret2
    rw [HR0.out, HR1.out]
    exact ⟨_, rfl, Own2.nil _ _ _ _ _, hbA.trans (hb2.mono (by simp))⟩
  rw [hk] at HN
  by_cases hm : 12 < m
  · have d12 : decide ((m : Int) > 12) = true := by simp; omega
    have HR1 : Hid (rp1 n xss ins = false) := by
      have : ¬ ins.length ≤ 12 := by have := HM.out; omega
      simp [rp1, this, Hid]
    have HR0 : Hid (rp0 n xss ins = []) := by simp [rp0, HR1.out, Hid]
    go_enter Try.func41, Try.ntmps41
    go_wp2_with (go_at_call 53; refine HN.mono ?_; rintro e w2 ⟨rfl, hb2⟩)
    go_ret2
    rw [HR0.out, HR1.out]
    exact ⟨_, rfl, Own2.nil _ _ _ _ _, hbA.trans (hb2.mono (by simp))⟩
  have d12 : decide ((m : Int) > 12) = false := by simp; omega
  have bx := box_cells w (.int .i64 n) (.slice a xss.length c) 32
  have HC : Hid (∀ wx : World, Below (w.heap.size + 1) (w.alloc (.cells #[.int .i64 n, .slice a xss.length c] 32)) wx → wx.cell? ⟨w.heap.size, 0, none⟩ = some (.int .i64 n) ∧ wx.cell? ⟨w.heap.size, 1, none⟩ = some (.slice a xss.length c)) :=
    fun wx hb => ⟨(hb.cell (by simp)).trans bx.1, (hb.cell (by simp)).trans bx.2⟩
  clear bx
  have HCF : Hid (∀ wx : World, Below (w.heap.size + 1) (w.alloc (.cells #[.int .i64 n, .slice a xss.length c] 32)) wx → Calls Try.prog 54 #[.slice ai m ci, .func (.func 62) #[] #[.pointer (some ⟨w.heap.size, 0, none⟩)]] wx (RetB (.bool (ins.any fun xs => !pipeRow n xs)) wx)) := by
    intro wx hb
    have hbw : Below w.heap.size w wx := hbA.trans (hb.mono (by simp))
    have hzx : w.heap.size + 1 ≤ wx.heap.size := by have := hb.size; simp at this; omega
    refine f_ContainsFunc2B _ _ _ k_RunPipe1 _ ins wx (hi.below hbw) (fun wr r xs hbr _ hr => ?_)
    obtain ⟨g0, g1⟩ := HC.out wr (hb.trans (hbr.mono hzx))
    exact i_RunPipe1 n a _ c w.heap.size r xs wr g0 g1 hr
  have hle : ins.length ≤ 12 := by have := HM.out; omega
  cases hq : ins.any fun xs => !pipeRow n xs
  case true =>
    rw [hq] at HCF
    have HR1 : Hid (rp1 n xss ins = false) := by rw [Hid, rp1, ← any_not, hq]; simp
    have HR0 : Hid (rp0 n xss ins = []) := by simp [rp0, HR1.out, Hid]
    clear hk hle hq
    go_enter Try.func41, Try.ntmps41
    go_wp2_with (first
      | (go_at_call 53; refine HN.mono ?_; rintro e w2 ⟨rfl, hb2⟩
         have hb2' : Below (w.heap.size + 1) (w.alloc (.cells #[.int .i64 n, .slice a xss.length c] 32)) w2 := hb2.mono (by simp)
         have hbB := hbA.trans (hb2.mono hbA.size)
         obtain ⟨c0, c1⟩ := HC.out _ hb2')
      | (go_at_call 54; refine (HCF.out _ hb2').mono ?_; rintro e w4 ⟨rfl, hb4⟩; have hbD := hbB.trans (hb4.mono hbB.size)))
    go_ret2
    rw [HR0.out, HR1.out]
    exact ⟨_, rfl, Own2.nil _ _ _ _ _, hbD⟩
  rw [hq] at HCF
  have hall : ins.all (pipeRow n) = true := by rw [← any_not, hq]; rfl
  have HR1 : Hid (rp1 n xss ins = true) := by simp [rp1, hall, hk, hle, Hid]
  have hdb := depthOf_bound hk
  obtain ⟨D, hD⟩ : ∃ D : Nat, (depthOf n xss).toNat = D := ⟨_, rfl⟩
  have hD60 : D ≤ 60 := by omega
  have HR0 : Hid (rp0 n xss ins = outM n xss ins (m + D)) := by rw [Hid, rp0, if_pos HR1.out, hD, HM.out]
  have HPS := Lib.hid (fun (wq : World) (hq : Below w.heap.size w wq) => I_PipeStart wq n hn _ xss (h.below hq) fx lx)
  have e0 : pipeStart n xss = stM n xss ins 0 := by rw [pipeStart, if_pos hk, stM]
  rw [e0] at HPS
  have HSL : Hid (∀ k, (stM n xss ins k).length = D) := fun k => by rw [stM_length]; exact hD
  have HCK := Lib.hid (fun (k : Nat) (wq : World) (hq : Below w.heap.size w wq) (vs vn : Value) (hs : Rd2 wq vs (stM n xss ins k)) (hv : Rd wq vn (ints (inAt ins k))) =>
    i_clock n hn _ vs vn xss (stM n xss ins k) (inAt ins k) wq (h.below hq) fx lx hs hv hk (by rw [HSL.out k]; exact hD60) (fun j _ => nowM_row (stM_rows hall k) (inAt_row hall k) j))
  clear hk hle hall hdb hD e0 hq
  have iw : IntKind.i64.wrap ((m : Int) + (D : Int)) = (m : Int) + (D : Int) := IntWalk.i64_in _ (by omega)
  go_enter Try.func41, Try.ntmps41
  go_wp2_with (first
    | (go_at_call 53; refine HN.mono ?_; rintro e w2 ⟨rfl, hb2⟩
       have hb2' : Below (w.heap.size + 1) (w.alloc (.cells #[.int .i64 n, .slice a xss.length c] 32)) w2 := hb2.mono (by simp)
       have hbB := hbA.trans (hb2.mono hbA.size)
       have hz2 : w.heap.size + 1 ≤ w2.heap.size := by have := hb2.size; simp at this; omega
       obtain ⟨c0, c1⟩ := HC.out _ hb2')
    | (go_at_call 54; refine (HCF.out _ hb2').mono ?_; rintro e w4 ⟨rfl, hb4⟩; have hbD := hbB.trans (hb4.mono hbB.size); have hbD' := hb2'.trans (hb4.mono hz2); have hz4 := hb4.size; obtain ⟨e0, e1⟩ := HC.out _ hbD')
    | (go_at_call 28; refine (HPS.out _ hbD).mono ?_; rintro e w5 ⟨v5, rfl, ho5, hb5⟩; obtain ⟨a5, D', c5, rfl, HD', _, _⟩ := ho5.rd.formH; have hDD : D' = D := (by rw [HD'.out, HSL.out]); subst hDD; have hbE := hbD.trans (hb5.mono hbD.size); have hbE' := hbD'.trans (hb5.mono (by omega)); have hz5 := hb5.size))
  have hzE := hbE.size
  have hzE1 : w.heap.size + 1 ≤ w5.heap.size := by omega
  have hoL := Own2.lit0 (E := 3) (B := w.heap.size + 1) w5 42 hzE1
  have hbL0 : Below w5.heap.size w5 (w5.alloc (.cells #[] 42)) := (Below.refl _ _).alloc (Nat.le_refl _) _
  have hsL := ho5.below hbL0
  have hbL := hbE.trans (hbL0.mono hzE)
  have hbL' := hbE'.trans (hbL0.mono hzE1)
  have hapL : ∀ g, (Value.slice (some ⟨w5.heap.size, 0, none⟩) 0 0).ownBlock = some g → g < w4.heap.size ∨ w5.heap.size ≤ g := fun g hg => by
    have : w5.heap.size = g := Option.some.inj hg
    omega
  clear hb5 hb4 hb2 hb2' hbB hbD hbD' hz2 hz4 hz5 c0 c1 e0 e1 HCF HN HPS hbE hbE' ho5 hbL0 HD'
  go_loopw [6, 7, 33] (fun vs vo i wr => ∃ k Bs Ts : Nat, k ≤ m + D' ∧ i = .int .i64 k ∧ Own2 wr 42 3 (w.heap.size + 1) wr.heap.size vo (outM n xss ins k) ∧ Own2 wr 42 3 Bs Ts vs (stM n xss ins k) ∧ (∀ g, vo.ownBlock = some g → g < Bs ∨ Ts ≤ g) ∧ Below w.heap.size w wr ∧ Below (w.heap.size + 1) (w.alloc (.cells #[.int .i64 n, .slice a xss.length c] 32)) wr)
    (fun _ _ i _ => m + D' - (intOf i).toNat)
  case atStart => exact ⟨0, _, _, Nat.zero_le _, rfl, hoL, hsL, hapL, hbL, hbL'⟩
  case round =>
    clear hoL hsL hapL hbL hbL' hzE hzE1
    obtain ⟨k, Bs, Ts, hkl, rfl, ho, hs, hap, hb, hb'⟩ := hrel
    obtain ⟨a6, D2, c6, rfl, HD2, _, _⟩ := hs.rd.formH
    have hsb := hb.size
    have hsb1 : w.heap.size + 1 ≤ wr.heap.size := by have := hb'.size; simp at this; omega
    obtain ⟨rows, hov, hT, hrows⟩ := ho
    have hrl : rows.length ≤ 80 := by have := hrows.1; rw [outM_length] at this; omega
    obtain ⟨ao, co, rfl, _, _⟩ := hov.rd.form
    by_cases hlt : k < m + D'
    · have hltI : (k : Int) < (m : Int) + (D' : Int) := by omega
      have hbX : Below wr.heap.size wr (wr.alloc (.cells #[] 3)) := (Below.refl _ _).alloc (Nat.le_refl _) _
      have hbW := hb.trans (hbX.mono hsb)
      have hbW' := hb'.trans (hbX.mono hsb1)
      obtain ⟨c0, c1⟩ := HC.out _ hbW'
      have hsW := hs.rd.alloc (.cells #[] 3)
      have hovW := hov.alloc (.cells #[] 3)
      have hrowsW := hrows.alloc (.cells #[] 3)
      have hzW : (wr.alloc (.cells #[] 3)).heap.size = wr.heap.size + 1 := by simp
      have HZW := Lib.hid hzW
      clear hzW
      have HO : Hid (outM n xss ins (k + 1) = outM n xss ins k ++ [nowM (stM n xss ins k) (inAt ins k) (stM n xss ins k).length]) := rfl
      have HS : Hid (stM n xss ins (k + 1) = nextM n xss (stM n xss ins k) (inAt ins k) (stM n xss ins k).length) := rfl
      by_cases hkm : k < m
      · obtain ⟨ad, b, mr, d, xs, rfl, hc0, hxx, hm, hmd, hd, hr⟩ := hi.row (show k < ins.length by have := HM.out; omega)
        have hc1 := (hbW.cell (World.block_lt_of_cell? w _ hc0)).trans hc0
        clear hc0
        have hin : inAt ins k = xs := by rw [inAt, List.getD_eq_getElem?_getD, hxx.out]; rfl
        have hinW : Rd (wr.alloc (.cells #[] 3)) (.slice b mr d) (ints (inAt ins k)) := by rw [hin]; exact hr.below hbW
        clear hin
        go_wp2_with (first
          | (go_at_call 61; refine (HCK.out k _ hbW _ _ hsW hinW).mono ?_; rintro e w6 ⟨v6, u6, M, rfl, ho6, hu6, hM1, hM2, hb6⟩; obtain ⟨au, mu, cu, rfl, HU, _, _⟩ := hu6.rd.formH; have hz6 := hb6.size)
          | (at_builtin; refine wpList_app1 rfl _ _ 22 rfl elII rfl (hovW.below hb6) (by show Value.slice (some ⟨w6.heap.size, 0, none⟩) 1 1 = _; simp) rfl (by have := HZW.out; omega) (by omega) (by omega) ?_; intro bn cn' w8 ho8 hg8 hat8))
        have hzW := HZW.out
        have hrA := (hrowsW.below hb6).snoc (T' := w6.heap.size) (hu6.mono (by omega)) (fun k hk => by have := hu6.lt k hk; omega) (by omega)
        have ho9 := Own2.app hrA (hovW.below hb6) (by decide) hg8 ho8 hg8.size
        have hs9 := ho6.apart2 hg8 (fun g hg => .inl (by have := (hov.lt g hg).2; omega))
        have hap9 : ∀ g, (Value.slice bn (rows.length + 1) cn').ownBlock = some g → g < (wr.alloc (.cells #[] 3)).heap.size ∨ M ≤ g := fun g h2 => by
          rcases hat8 with e | ⟨q, hq, e⟩
          · have := (hov.lt g (e ▸ h2)).2
            omega
          · rw [e] at h2
            cases h2
            omega
        have hb9 := (hbW.trans (hb6.mono hbW.size)).grown hg8 (by omega) fun r hr => by have := (hov.lt r hr).1; omega
        have hb9' := (hbW'.trans (hb6.mono (by omega))).grown hg8 (by omega) fun r hr => (hov.lt r hr).1
        clear hzW
        go_roundw
        case rel => exact ⟨k + 1, (wr.alloc (.cells #[] 3)).heap.size, M, by omega, by go_num, by rw [HO.out]; exact ho9, by rw [HS.out]; exact hs9, hap9, hb9, hb9'⟩
        case measure => simp [intOf]; omega
      · have hin : inAt ins k = [] := by rw [inAt, List.getD_eq_getElem?_getD, List.getElem?_eq_none (by have := HM.out; omega)]; rfl
        have hinW : Rd (wr.alloc (.cells #[] 3)) (.slice (some ⟨wr.heap.size, 0, none⟩) 0 0) (ints (inAt ins k)) := by rw [hin]; exact (Own.lit0 wr 3 (Nat.le_refl _)).rd
        clear hin
        go_wp2_with (first
          | (go_at_call 61; refine (HCK.out k _ hbW _ _ hsW hinW).mono ?_; rintro e w6 ⟨v6, u6, M, rfl, ho6, hu6, hM1, hM2, hb6⟩; obtain ⟨au, mu, cu, rfl, HU, _, _⟩ := hu6.rd.formH; have hz6 := hb6.size)
          | (at_builtin; refine wpList_app1 rfl _ _ 22 rfl elII rfl (hovW.below hb6) (by show Value.slice (some ⟨w6.heap.size, 0, none⟩) 1 1 = _; simp) rfl (by have := HZW.out; omega) (by omega) (by omega) ?_; intro bn cn' w8 ho8 hg8 hat8))
        have hzW := HZW.out
        have hrA := (hrowsW.below hb6).snoc (T' := w6.heap.size) (hu6.mono (by omega)) (fun k hk => by have := hu6.lt k hk; omega) (by omega)
        have ho9 := Own2.app hrA (hovW.below hb6) (by decide) hg8 ho8 hg8.size
        have hs9 := ho6.apart2 hg8 (fun g hg => .inl (by have := (hov.lt g hg).2; omega))
        have hap9 : ∀ g, (Value.slice bn (rows.length + 1) cn').ownBlock = some g → g < (wr.alloc (.cells #[] 3)).heap.size ∨ M ≤ g := fun g h2 => by
          rcases hat8 with e | ⟨q, hq, e⟩
          · have := (hov.lt g (e ▸ h2)).2
            omega
          · rw [e] at h2
            cases h2
            omega
        have hb9 := (hbW.trans (hb6.mono hbW.size)).grown hg8 (by omega) fun r hr => by have := (hov.lt r hr).1; omega
        have hb9' := (hbW'.trans (hb6.mono (by omega))).grown hg8 (by omega) fun r hr => (hov.lt r hr).1
        clear hzW
        go_roundw
        case rel => exact ⟨k + 1, (wr.alloc (.cells #[] 3)).heap.size, M, by omega, by go_num, by rw [HO.out]; exact ho9, by rw [HS.out]; exact hs9, hap9, hb9, hb9'⟩
        case measure => simp [intOf]; omega
    · obtain rfl : m + D' = k := by omega
      have hltI : ¬ ((m + D' : Nat) : Int) < (m : Int) + (D' : Int) := by omega
      go_wp2
      go_ret2
      rw [HR0.out, HR1.out]
      have ho : Own2 wr 42 3 (w.heap.size + 1) wr.heap.size _ _ := ⟨rows, hov, hT, hrows⟩
      exact ⟨_, rfl, ho.mono (by omega) (Nat.le_refl _), hb⟩

end Go.Proofs.Ytdfjopcfgpigoaa
