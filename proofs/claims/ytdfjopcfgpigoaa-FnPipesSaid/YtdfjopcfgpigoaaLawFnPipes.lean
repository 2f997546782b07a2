/- The walk of the law FnPipes. -/
import Derived.Test.YtdfjopcfgpigoaaRunPipe2
import Derived.Test.YtdfjopcfgpigoaaPlainPipes2
import Derived.Test.YtdfjopcfgpigoaaDrawsP
import Derived.Test.YtdfjopcfgpigoaaLawHelp
import Derived.Test.YtdfjopcfgpigoaaNetLaw
import Derived.Test.YtdfjopcfgpigoaaSpareReg
import Derived.Deep.DeepCutAuto
import Derived.Deep.LoopGhost
import Derived.IntWalk
namespace Go.Proofs.Ytdfjopcfgpigoaa
open Go.RowKit
set_option linter.unusedVariables false
set_option linter.unusedSimpArgs false

def RetOwnT (xs : List Int) (w : World) (e : Ending) (w' : World) : Prop :=
  ∃ v, e = .returned (.tuple #[v, .bool true]) ∧ Own w' 3 w.heap.size v (ints xs) ∧ Below w.heap.size w w'
set_option maxHeartbeats 1000000 in
theorem i_ApplyOk (N : Nat) (v u : Value) (xss : List (List Int)) (xs : List Int) (w : World) (h : Rd2 w v xss) (hu : Rd w u (ints xs)) (hk : netOk (N : Int) xss = true) (hx : xs.length = N) :
    Calls Try.prog 45 #[.agg #[.int .i64 N, v], u] w (RetOwnT (apM xss xs xss.length) w) := by
  obtain ⟨N', hN', h1, h8, _⟩ := netOk_n hk
  obtain ⟨a0, c0, rfl, _, _⟩ := h.form
  obtain ⟨au, mu, cu, rfl, HU, _, _⟩ := hu.formN
  obtain rfl : mu = N := by have := HU.out; omega
  have hbA : Below w.heap.size w (w.alloc (.cells #[.int .i64 mu, .slice a0 xss.length c0] 32)) := (Below.refl _ _).alloc (Nat.le_refl _) _
  have bx := Lib.hid (box_cells w (.int .i64 mu) (.slice a0 xss.length c0) 32)
  have HOK := Lib.hid (i_NetworkOk (mu : Int) _ xss _ (h.below hbA) ⟨by omega, by omega⟩)
  rw [hk] at HOK
  have HA := Lib.hid (fun (W : World) (hW : Below w.heap.size w W) => i_apply mu (mu : Int) _ _ xss xs W (h.below hW) (hu.below hW) hx (by omega) (Lib.hid (pairs_of hk)))
  have e1 : ((mu : Int) != (mu : Int)) = false := by simp
  clear hk hx hN'
  go_enter Try.func45, Try.ntmps45
  go_wp2_with (first
    | (go_at_call 53; refine HOK.out.mono ?_; rintro e w2 ⟨rfl, hb2⟩
       have hb3 := hbA.trans (hb2.mono hbA.size)
       have c0' := (hb2.cell (p := ⟨w.heap.size, 0, none⟩) (by simp)).trans bx.out.1
       have c1' := (hb2.cell (p := ⟨w.heap.size, 1, none⟩) (by simp)).trans bx.out.2)
    | (go_at_call 67; refine (HA.out _ hb3).mono ?_; rintro e w4 ⟨vo, rfl, ho4, hb4⟩))
  go_ret2
  exact ⟨_, rfl, ho4.mono hb3.size, hb3.trans (hb4.mono hb3.size)⟩

theorem getD_row {xss : List (List Int)} {k : Nat} {row : List Int} (h : xss[k]? = some row) : xss.getD k [] = row := by rw [List.getD_eq_getElem?_getD, h]; rfl
theorem netOk_I64 {N : Nat} {xss : List (List Int)} (hk : netOk (N : Int) xss = true) : I64ss xss ∧ SzOk xss := by
  obtain ⟨N', hN', h1, h8, h60⟩ := netOk_n hk
  have hr : ∀ xs ∈ xss, ∃ a b : Nat, xs = [(a : Int), (b : Int)] ∧ a < N ∧ b < N ∧ a ≠ b := fun xs hx => by
    obtain ⟨k, hx⟩ := List.getElem?_of_mem hx
    exact netOk_row hk hx
  refine ⟨fun xs hx y hy => ?_, by omega, ?_⟩
  · obtain ⟨a, b, rfl, ha, hb, _⟩ := hr xs hx
    have : y = (a : Int) ∨ y = (b : Int) := by simpa using hy
    unfold I64
    omega
  · have := tot_bound (B := 2) (fun xs hx => by obtain ⟨a, b, rfl, _⟩ := hr xs hx; simp)
    omega
theorem apM_all {P : Int → Prop} (h0 : P 0) {xss : List (List Int)} {xs : List Int} (h : ∀ x ∈ xs, P x) : ∀ k, ∀ x ∈ apM xss xs k, P x
  | 0, x, hx => h x hx
  | k + 1, x, hx => by
    have ih := apM_all h0 (xss := xss) h k
    have hg : ∀ i, P ((apM xss xs k).getD i 0) := fun i => by
      rw [List.getD_eq_getElem?_getD]
      cases e : (apM xss xs k)[i]? with
      | none => exact h0
      | some y => exact ih y (List.mem_of_getElem? e)
    simp only [apM] at hx
    split at hx
    · rename_i a b _
      rcases List.mem_or_eq_of_mem_set hx with h1 | h1
      · rcases List.mem_or_eq_of_mem_set h1 with h2 | h2
        · exact ih x h2
        · rw [h2]
          rcases Int.le_total ((apM xss xs k).getD a.toNat 0) ((apM xss xs k).getD b.toNat 0) with h3 | h3
          · rw [Int.min_eq_left h3]; exact hg _
          · rw [Int.min_eq_right h3]; exact hg _
      · rw [h1]
        rcases Int.le_total ((apM xss xs k).getD a.toNat 0) ((apM xss xs k).getD b.toNat 0) with h3 | h3
        · rw [Int.max_eq_right h3]; exact hg _
        · rw [Int.max_eq_left h3]; exact hg _
    · exact ih x hx
theorem nextM_I64 {n : Int} {xss st : List (List Int)} {xin : List Int} (h : ∀ k, I64s (nowM st xin k)) : ∀ k, I64ss (nextM n xss st xin k)
  | 0, xs, hx => by simp [nextM] at hx
  | k + 1, xs, hx => by
    rw [nextM, List.mem_append] at hx
    rcases hx with hx | hx
    · exact nextM_I64 h k xs hx
    · rw [List.mem_singleton] at hx
      subst hx
      rw [nextRow]
      split
      · intro y hy; cases hy
      · exact fun y hy => apM_all (P := I64) ⟨by omega, by omega⟩ (h k) _ y hy
theorem sumLv_le (xss : List (List Int)) (lv : List Int) {B : Nat} (n : Nat) (hn : xss.length ≤ B) (hl : n ≤ xss.length) : ∀ d : Nat, sumLv xss lv n d ≤ B * d
  | 0 => Nat.zero_le _
  | d + 1 => by
    have ih := sumLv_le xss lv n hn hl d
    have h1 := (lpM_size xss lv ((d : Int) + 1) n hl).1
    rw [sumLv, Nat.mul_add, Nat.mul_one]
    omega
set_option maxRecDepth 100000 in
set_option maxHeartbeats 16000000 in
theorem law_FnPipes (w : World) (v : Value) (xs : List Int) (h : Rd w v (bytesV xs)) (hxb : ∀ n ∈ xs, 0 ≤ n ∧ n ≤ 255) : Calls Try.prog 11 #[v] w (Law w) := by
  obtain ⟨ab, nb, cb, rfl, HNB, hn1, hn2⟩ := h.formB
  by_cases hl : nb ≤ 1048576
  case neg =>
    have hd : decide ((nb : Int) > 1048576) = true := by simp; omega
    go_enter Try.func11, Try.ntmps11
    go_wp2_with fail
    go_ret
    exact ⟨rfl, Below.refl _ _⟩
  have hl' : xs.length ≤ 1048576 := by have := HNB.out; omega
  have hd : decide ((nb : Int) > 1048576) = false := by simp; omega
  have HMN := Lib.hid (s_MakeNetwork _ xs hxb hl' 0 (by omega) w h)
  have HMR := Lib.hid (fun (N : Nat) (hN : N ≤ 8) (W : World) (hW : Rd W (.slice ab nb cb) (bytesV xs)) => s_MakeRows _ xs hxb hl' 20 (by omega) N hN W hW)
  clear hxb
  go_enter Try.func11, Try.ntmps11
  go_wp2_with fail
  refine HMN.out.mono ?_
  rintro e w1 ⟨N, xss, vp, hN1, hN6, hx12, hok, rfl, rp, bt⟩
  clear HMN
  obtain ⟨ap, m, cp, rfl, HM, hmc, hmc2⟩ := rp.formH
  have hm12 : m ≤ 12 := by have := HM.out; omega
  go_wp2_with fail
  obtain ⟨w2, b2, c0, c1, hw2⟩ := box_store w1 (.int .i64 N) (.slice ap m cp) 32
  rw [hw2]
  clear hw2
  have lX : w1.heap.size < w2.heap.size := World.block_lt_of_cell? _ _ c0
  have lW : w.heap.size ≤ w1.heap.size := bt.size
  replace rp := rp.below b2
  replace bt := bt.trans (b2.mono bt.size)
  refine (HMR.out N (by omega) _ (h.below bt)).mono ?_
  rintro e w3 ⟨ins, vi, hi1, hi4, hir, rfl, ri, b3⟩
  clear HMR h HNB
  obtain ⟨ai, L, ci, rfl, HL, hic, hic2⟩ := ri.formH
  have hL1 : 1 ≤ L := by have := HL.out; omega
  have hL4 : L ≤ 4 := by have := HL.out; omega
  replace rp := rp.below b3
  replace bt := bt.trans (b3.mono bt.size)
  replace c0 := (b3.cell (World.block_lt_of_cell? _ _ c0)).trans c0
  replace c1 := (b3.cell (World.block_lt_of_cell? _ _ c1)).trans c1
  -- plain facts
  have hNI : I64 (N : Int) := ⟨by omega, by omega⟩
  obtain ⟨fx, lx⟩ := netOk_I64 hok
  have fi : I64ss ins := fun r hr y hy => by have := (hir r hr).2 y hy; exact ⟨by omega, by omega⟩
  have hrow8 : ∀ r ∈ ins, r.length ≤ 8 := fun r hr => by rcases (hir r hr).1 with h1 | h1 <;> omega
  have li : SzOk ins := ⟨by omega, by have := tot_bound hrow8; omega⟩
  have hia : ins.all (pipeRow N) = true := List.all_eq_true.2 fun r hr => by
    rcases (hir r hr).1 with h1 | h1 <;> simp [pipeRow, h1]
  have hdb := depthOf_bound hok
  obtain ⟨D, hD⟩ : ∃ D : Nat, depthOf N xss = D := ⟨(depthOf N xss).toNat, by omega⟩
  have hD60 : D ≤ 60 := by omega
  obtain ⟨p1, p2, p3, p4⟩ := pipe_outs hok hia (by omega) hD
  have htp := two_pairs hok
  have hlv := level_ne hok
  have HS0 := sumLv_all xss (lvM xss xss.length).2 D xss.length (fun j hj => by have := lv_range hok hj; omega)
  have HLP := levelPairs_eq hok
  have HFN := fillOf_next N xss D (inAt ins 0) D
  have HPS : pipeStart N xss = List.replicate D [] := by rw [pipeStart, if_pos hok, hD]; simp
  have hps0 : pipeOk N xss (List.replicate D []) = true := by
    rw [pipeOk, hok, hD]; simp [pipeRow]
  have hps2 : ps2 N xss (List.replicate D []) (inAt ins 0) = true := by
    rw [ps2, hps0, inAt_row hia 0]; rfl
  have hpsn : pipeOk N xss (nextM N xss (List.replicate D []) (inAt ins 0) D) = true := by
    rw [pipeOk, hok, hD, nextM_length]
    simp only [decide_true, Bool.true_and, Bool.and_true]
    exact List.all_eq_true.2 (nextM_rows (nowM_row (fun xs hx => by rw [List.mem_replicate] at hx; rw [hx.2]; rfl) (inAt_row hia 0)) D)
  have hcr : countReg N xss = N * D := by rw [countReg, if_pos hok, hD]
  have hsr : spareReg N xss = N * D - 2 * (xss.length : Int) := by rw [spareReg, if_pos hok, hD]
  rw [hD] at htp hlv
  obtain ⟨q, hq⟩ : ∃ q : Int, (N : Int) * D = q := ⟨_, rfl⟩
  rw [hq] at htp hcr hsr
  have hq0 : 0 ≤ q ∧ q ≤ 600 := by
    rw [← hq]
    have e : ((N : Int) * D) = ((N * D : Nat) : Int) := (Int.natCast_mul _ _).symm
    have := Nat.mul_le_mul (show N ≤ 6 by omega) hD60
    rw [e]
    omega
  rw [← HM.out] at htp hsr
  replace HS0 := HS0.trans HM.out.symm
  have HTP := Lib.hid htp
  have HLV := Lib.hid hlv
  have HS0' := Lib.hid HS0
  have HLP' := Lib.hid HLP
  have HFN' := Lib.hid HFN
  have HPS' := Lib.hid HPS
  have HPS0 := Lib.hid hps0
  have HPS2 := Lib.hid hps2
  have HPSN := Lib.hid hpsn
  have HCR := Lib.hid hcr
  have HSR := Lib.hid hsr
  have HP1 := Lib.hid p1
  have HP2 := Lib.hid p2
  have HP3 := Lib.hid p3
  have HP4 := Lib.hid p4
  have HOK := Lib.hid hok
  have HD := Lib.hid hD
  have HIA := Lib.hid hia
  have HR8 := Lib.hid hrow8
  have HFX := Lib.hid fx
  have HLX := Lib.hid lx
  have HFI := Lib.hid fi
  have HLI := Lib.hid li
  have HIR := Lib.hid hir
  have HQ := Lib.hid hq
  clear htp hlv HS0 HLP HFN HPS hps0 hps2 hpsn hcr hsr p1 p2 p3 p4 hok hD hdb hia hrow8 fx lx fi li hir hi1 hi4 hx12 hq hl'
  go_wp2_with fail
  refine (I_RunPipe _ (N : Int) hNI _ xss rp HFX.out HLX.out _ ins ri HFI.out HLI.out).mono ?_
  rintro e w4 ⟨vo, rfl, oo, b4⟩
  rw [HP1.out]
  have ro := oo.rd
  replace rp := rp.below b4
  replace ri := ri.below b4
  replace bt := bt.trans (b4.mono bt.size)
  replace c0 := (b4.cell (World.block_lt_of_cell? _ _ c0)).trans c0
  replace c1 := (b4.cell (World.block_lt_of_cell? _ _ c1)).trans c1
  clear oo
  obtain ⟨O, hO⟩ : ∃ O, rp0 N xss ins = O := ⟨_, rfl⟩
  rw [hO] at ro HP2 HP3 HP4
  clear hO
  obtain ⟨ao, mo, co, rfl, HMO, hoc, hoc2⟩ := ro.formH
  obtain rfl : mo = L + D := by have := HMO.out; have := HP2.out; have := HL.out; omega
  go_wp2_with fail
  refine (i_DepthOf (N : Int) _ xss _ rp hNI).mono ?_
  rintro e w5 ⟨rfl, b5⟩
  rw [HD.out]
  replace rp := rp.below b5
  replace ri := ri.below b5
  replace ro := ro.below b5
  replace bt := bt.trans (b5.mono bt.size)
  replace c0 := (b5.cell (World.block_lt_of_cell? _ _ c0)).trans c0
  replace c1 := (b5.cell (World.block_lt_of_cell? _ _ c1)).trans c1
  clear b2 b3 b4 b5
  have e1 : (((L + D : Nat) : Int) != (L : Int) + (D : Int)) = false := by simp
  go_wp2_with fail
  go_loopg [9] D (fun gq iv wx => ∃ k : Nat, gq = D - k ∧ k ≤ D ∧ iv = .int .i64 (k : Int) ∧ w5 = wx)
  case atStart => exact ⟨0, rfl, Nat.zero_le _, rfl, rfl⟩
  case round =>
    obtain ⟨k, hgq, hk, rfl, rfl⟩ := hrel
    by_cases hlt : k < D
    · have i0 : (k : Int) < (D : Int) := by omega
      obtain ⟨ad, b, mr, d, row, rfl, hcr, hrow, hmr, hmd, hd9, rr⟩ := ro.row (k := k) (by have := HP2.out; omega)
      have hmr0 : mr = 0 := by have h1 := hmr.out; have h2 := HP3.out k hlt; rw [getD_row hrow.out] at h2; rw [h1, h2]; rfl
      have e2 : ((mr : Int) != 0) = false := by simp [hmr0]
      have i1 : (k : Int) < (L : Int) + (D : Int) := by omega
      have i2 : (k : Int) < ((L + D : Nat) : Int) := by omega
      have i3 : k < L + D := by omega
      clear hmr0
      go_wp2_with fail
      go_roundg (D - (k + 1))
      case measure => omega
      case rel => exact ⟨k + 1, rfl, by omega, by go_num, rfl⟩
    · as_aux_lemma =>
      obtain rfl : k = D := by omega
      clear hgq hlt hk
      go_wp2_with fail
      go_loopg [10, 11, 12, 13, 64] L (fun gq _ _ _ _ iv wx => ∃ j : Nat, gq = L - j ∧ j ≤ L ∧ iv = .int .i64 (j : Int) ∧ Below w5.heap.size w5 wx)
      case atStart => exact ⟨0, rfl, Nat.zero_le _, rfl, Below.refl _ _⟩
      case round =>
        obtain ⟨j, hgq, hj, rfl, hbx⟩ := hrel
        have c0' := (hbx.cell (World.block_lt_of_cell? _ _ c0)).trans c0
        have c1' := (hbx.cell (World.block_lt_of_cell? _ _ c1)).trans c1
        have rp' := rp.below hbx
        have ri' := ri.below hbx
        have ro' := ro.below hbx
        by_cases hlt : j < L
        · have i0 : (j : Int) < (L : Int) := by omega
          obtain ⟨ad, b, mr, d, row, rfl, hcr, hrow, hmr, hmd, hd9, rr⟩ := ri'.row (k := j) (by have := HL.out; omega)
          obtain ⟨ad2, b2, mr2, d2, row2, rfl, hcr2, hrow2, hmr2, hmd2, hd92, rr2⟩ := ro'.row (k := j + k) (by have := HP2.out; have := HL.out; omega)
          have hr2 := HP4.out j (by have := HL.out; omega)
          rw [getD_row hrow2.out, show inAt ins j = row by exact getD_row hrow.out] at hr2
          have HR2 := Lib.hid hr2
          have i1 : (j : Int) + (k : Int) < ((L + k : Nat) : Int) := by omega
          have i2 : (j : Int) + (k : Int) < (L : Int) + (k : Int) := by omega
          have i3 : j + k < L + k := by omega
          have i4 : (0 : Int) ≤ (j : Int) + (k : Int) := by omega
          have i5 : ((j : Int) + (k : Int)).toNat = j + k := by omega
          clear hr2
          by_cases h0 : mr = 0
          · have e2 : ((mr : Int) == 0) = true := by simp [h0]
            have h20 : mr2 = 0 := by have h1 := hmr2.out; have h2 := HR2.out; rw [if_pos (by have := hmr.out; omega)] at h2; rw [h1, h2]; rfl
            have e3 : ((mr2 : Int) != 0) = false := by simp [h20]
            clear h0 h20
            go_wp2_with fail
            go_roundg (L - (j + 1))
            case measure => omega
            case rel => exact ⟨j + 1, rfl, by omega, by go_num, hbx⟩
          · have e2 : ((mr : Int) == 0) = false := by simp [h0]
            have hml : row.length = N := by
              have h1 := hmr.out
              rcases (HIR.out row (List.mem_of_getElem? hrow.out)).1 with h2 | h2 <;> omega
            have HAR : Hid (row2 = apM xss row xss.length) := by rw [Hid, HR2.out, if_neg (by omega)]
            have HAP := Lib.hid (i_ApplyOk N _ _ xss row _ rp' rr HOK.out hml)
            have hzx := hbx.size
            clear h0 hml
            go_wp2_with (first
              | (go_at_call 45; refine HAP.out.mono ?_; rintro e w6 ⟨v6, rfl, o6, b6⟩
                 rw [← HAR.out] at o6
                 have HCX := Lib.hid ((b6.cell (World.block_lt_of_cell? _ _ hcr2)).trans hcr2)
                 have hcr6 := HCX.out
                 have rr6 := rr2.below b6)
              | (go_at_call 46; refine (same_c _ _ row2 row2 _ rr6 o6.rd).mono ?_; rintro e w7 ⟨rfl, d7⟩; rw [eqI_self]; have b7 := d7.below w6.heap.size))
            have hb8 := hbx.trans ((b6.trans (b7.mono b6.size)).mono hzx)
            go_roundg (L - (j + 1))
            case measure => omega
            case rel => exact ⟨j + 1, rfl, by omega, by go_num, hb8⟩
        · as_aux_lemma =>
          obtain rfl : j = L := by omega
          clear hgq hlt hj ro ro' HP2 HP3 HP4 HMO rp ri
          replace bt := bt.trans (hbx.mono bt.size)
          clear hbx c0 c1
          have rp := rp'
          have ri := ri'
          have c0 := c0'
          have c1 := c1'
          clear rp' ri' c0' c1'
          obtain ⟨wo, rfl⟩ : ∃ wo : World, wo = wr := ⟨_, rfl⟩
          go_wp2_with fail
          go_loopg [14, 15, 16] k (fun gq vp iv _ wy => ∃ i : Nat, gq = k - i ∧ i ≤ k ∧ iv = .int .i64 ((i : Int) + 1) ∧ vp = .int .i64 ((sumLv xss (lvM xss xss.length).2 xss.length i : Nat) : Int) ∧ Below wo.heap.size wo wy)
          case atStart => exact ⟨0, rfl, Nat.zero_le _, rfl, rfl, Below.refl _ _⟩
          case round =>
            obtain ⟨i, hgq, hi, rfl, rfl, hby⟩ := hrel
            have rp' := rp.below hby
            have c0' := (hby.cell (World.block_lt_of_cell? _ _ c0)).trans c0
            have c1' := (hby.cell (World.block_lt_of_cell? _ _ c1)).trans c1
            by_cases hlt : i < k
            · have i0 : (i : Int) + 1 ≤ (k : Int) := by omega
              have HNE := HLV.out ((i : Int) + 1) (by omega) (by omega)
              have HSL : Hid (sumLv xss (lvM xss xss.length).2 xss.length (i + 1) = sumLv xss (lvM xss xss.length).2 xss.length i + (levelPairs N xss ((i : Int) + 1)).length) := by rw [Hid, sumLv, HLP'.out]
              obtain ⟨P, hP⟩ : ∃ P, levelPairs N xss ((i : Int) + 1) = P := ⟨_, rfl⟩
              have HPL : Hid (P.length ≤ 60) := by
                have h1 := (lpM_size xss (lvM xss xss.length).2 ((i : Int) + 1) xss.length (Nat.le_refl _)).1
                rw [Hid, ← hP, HLP'.out]
                have := HM.out
                omega
              have HLPC := Lib.hid (I_LevelPairs wr (N : Int) hNI _ xss rp' HFX.out HLX.out ((i : Int) + 1) ⟨by omega, by omega⟩)
              rw [hP] at HNE HSL HLPC
              obtain ⟨S, hS⟩ : ∃ S, sumLv xss (lvM xss xss.length).2 xss.length i = S := ⟨_, rfl⟩
              have hSb : S ≤ 3600 := by
                have h1 := sumLv_le xss (lvM xss xss.length).2 (B := 60) xss.length (by have := HM.out; omega) (Nat.le_refl _) i
                omega
              rw [hS] at HSL ⊢
              clear hP hS
              have hzy := hby.size
              go_wp2_with fail
              refine HLPC.out.mono ?_
              rintro e w9 ⟨v9, rfl, o9, b9⟩
              obtain ⟨a9, m9, c9, rfl, HM9, _, _⟩ := o9.rd.formH
              have hm9 : 0 < m9 := by have := HM9.out; omega
              have hm9b : m9 ≤ 60 := by have := HM9.out; have := HPL.out; omega
              have e2 : ((m9 : Int) == 0) = false := by simp; omega
              have HS2 : Hid (sumLv xss (lvM xss xss.length).2 xss.length (i + 1) = S + m9) := by rw [Hid, HSL.out, HM9.out]
              clear HNE
              go_wp2_with fail
              go_roundg (k - (i + 1))
              case measure => omega
              case rel => exact ⟨i + 1, rfl, by omega, by go_num, by rw [HS2.out]; go_num, hby.trans (b9.mono hzy)⟩
            · as_aux_lemma =>
              obtain rfl : i = k := by omega
              have i0 : ¬ (i : Int) + 1 ≤ (i : Int) := by omega
              rw [HS0'.out]
              replace ri := ri.below hby
              replace bt := bt.trans (hby.mono bt.size)
              clear hgq hlt hi hby rp c0 c1
              have rp := rp'
              have c0 := c0'
              have c1 := c1'
              clear rp' c0' c1'
              obtain ⟨wp, rfl⟩ : ∃ wp : World, wp = wr := ⟨_, rfl⟩
              go_wp2_with fail
              refine (I_PipeStart _ (N : Int) hNI _ xss rp HFX.out HLX.out).mono ?_
              rintro e w9 ⟨vs, rfl, os, b9⟩
              rw [HPS'.out] at os
              obtain ⟨as', ms, cs, rfl, HMS, _, _⟩ := os.rd.formH
              obtain rfl : ms = i := by have := HMS.out; rw [List.length_replicate] at this; exact this
              replace rp := rp.below b9
              replace ri := ri.below b9
              replace bt := bt.trans (b9.mono bt.size)
              replace c0 := (b9.cell (World.block_lt_of_cell? _ _ c0)).trans c0
              replace c1 := (b9.cell (World.block_lt_of_cell? _ _ c1)).trans c1
              clear b9
              obtain ⟨ad, b, mr, d, row, rfl, hcr, hrow, hmr, hmd, hd9, rr⟩ := ri.row (k := 0) (by have := HL.out; omega)
              have hin : inAt ins 0 = row := getD_row hrow.out
              replace hcr : w9.cell? ad = some (.slice b mr d) := by simpa [Addr.add] using hcr
              rw [hin] at HPS2 HPSN HFN'
              have hrb : row.length ≤ 8 := HR8.out row (List.mem_of_getElem? hrow.out)
              have i1 : 0 < j := hL1
              have i2 : (0 : Int) < (j : Int) := by omega
              have HPSC := Lib.hid (fun (W : World) (hb : Below w9.heap.size w9 W) => I_PipeStep W (N : Int) hNI _ xss (rp.below hb) HFX.out HLX.out _ (List.replicate ms []) (os.rd.below hb) (fun xs hx => by rw [List.mem_replicate] at hx; rw [hx.2]; intro y hy; cases hy) ⟨by rw [List.length_replicate]; omega, by rw [tot_nils]; omega⟩ _ row (rr.below hb) (HFI.out row (List.mem_of_getElem? hrow.out)) (by omega))
              have HT : Hid (∀ wx : World, Below w9.heap.size w9 wx → wx.cell? ⟨w1.heap.size, 0, none⟩ = some (.int .i64 N) ∧ wx.cell? ⟨w1.heap.size, 1, none⟩ = some (.slice ap m cp) ∧ wx.cell? ad = some (.slice b mr d)) := fun wx hb => ⟨(hb.cell (World.block_lt_of_cell? _ _ c0)).trans c0, (hb.cell (World.block_lt_of_cell? _ _ c1)).trans c1, (hb.cell (World.block_lt_of_cell? _ _ hcr)).trans hcr⟩
              go_upto_region 34 with (fail)
              go_region_held3 (fun wx => wx.cell? ⟨w1.heap.size, 0, none⟩ = some (.int .i64 N) ∧ wx.cell? ⟨w1.heap.size, 1, none⟩ = some (.slice ap m cp) ∧ wx.cell? ad = some (.slice b mr d))
                (first | exact HT.out _ bX | go_keep)
                ((go_at_call 36; refine (HPSC.out _ (by exact ⟨rfl, rfl, rfl, Nat.le_refl _, fun _ _ => rfl⟩)).mono ?_; rintro e w10 ⟨v10, u10, M10, rfl, o10, q10, hM1, hM2, b10⟩; have bX : Below w9.heap.size w9 w10 := (by exact ⟨b10.os, b10.tape, b10.output, b10.size, b10.block⟩)))
              rw [HPS2.out]
              have HNX : Hid (ps0 N xss (List.replicate ms []) row = nextM N xss (List.replicate ms []) row ms) := by rw [Hid, ps0, if_pos HPS2.out, List.length_replicate]
              rw [HNX.out] at o10
              have fF : I64ss (nextM N xss (List.replicate ms []) row ms) := nextM_I64 (fun k => by
                cases k with
                | zero => exact HFI.out row (List.mem_of_getElem? hrow.out)
                | succ k =>
                  rw [nowM, List.getD_eq_getElem?_getD, List.getElem?_replicate]
                  intro y hy
                  split at hy <;> cases hy) ms
              have lF : SzOk (nextM N xss (List.replicate ms []) row ms) := by
                rw [← HNX.out]
                exact N_PipeStep N xss HLX.out _ ⟨by rw [List.length_replicate]; omega, by rw [tot_nils]; omega⟩ row (by omega)
              obtain ⟨F, hF⟩ : ∃ F, nextM N xss (List.replicate ms []) row ms = F := ⟨_, rfl⟩
              rw [hF] at o10 HPSN HFN' fF lF
              clear hF HNX
              have rn := o10.rd
              obtain ⟨a10, m10, c10, rfl, HM10, _, _⟩ := rn.formH
              have rs := os.rd.below bX
              replace rp := rp.below bX
              have bt2 := bt.trans (bX.mono bt.size)
              have HT2 : Hid (∀ wx : World, Below w10.heap.size w10 wx → wx.cell? ⟨w1.heap.size, 0, none⟩ = some (.int .i64 N) ∧ wx.cell? ⟨w1.heap.size, 1, none⟩ = some (.slice ap m cp)) := fun wx hb => by
                obtain ⟨h1, h2, _⟩ := HT.out w10 bX
                exact ⟨(hb.cell (World.block_lt_of_cell? _ _ h1)).trans h1, (hb.cell (World.block_lt_of_cell? _ _ h2)).trans h2⟩
              obtain ⟨c0, c1, hcr⟩ := HT.out w10 bX
              have fs : I64ss (List.replicate ms []) := fun xs hx => by rw [List.mem_replicate] at hx; rw [hx.2]; intro y hy; cases hy
              have ls : SzOk (List.replicate ms []) := ⟨by rw [List.length_replicate]; omega, by rw [tot_nils]; omega⟩
              have HC1 : Hid (∀ W : World, Below w10.heap.size w10 W → Calls Try.prog 26 #[.agg #[.int .i64 N, .slice ap m cp], .slice as' ms cs] W (RetB (.bool true) W)) := fun W hb => by
                have := I_PipeOk W (N : Int) hNI _ xss (rp.below hb) HFX.out HLX.out _ _ (rs.below hb) fs ls
                rwa [HPS0.out] at this
              have HC2 : Hid (∀ W : World, Below w10.heap.size w10 W → Calls Try.prog 26 #[.agg #[.int .i64 N, .slice ap m cp], .slice a10 m10 c10] W (RetB (.bool true) W)) := fun W hb => by
                have := I_PipeOk W (N : Int) hNI _ xss (rp.below hb) HFX.out HLX.out _ _ (rn.below hb) fF lF
                rwa [HPSN.out] at this
              have HC3 : Hid (∀ W : World, Below w10.heap.size w10 W → Calls Try.prog 16 #[.slice as' ms cs] W (RetB (.int .i64 0) W)) := fun W hb => by
                have := I_FillOf W _ _ (rs.below hb) fs ls
                rwa [fillOf_nils] at this
              have HC4 : Hid (∀ W : World, Below w10.heap.size w10 W → Calls Try.prog 16 #[.slice a10 m10 c10] W (RetB (.int .i64 (if 0 < mr ∧ 0 < ms then 1 else 0)) W)) := fun W hb => by
                have := I_FillOf W _ _ (rn.below hb) fF lF
                rw [HFN'.out, ← hmr.out] at this
                by_cases hc : 0 < mr ∧ 0 < ms
                · rw [if_pos hc] at this ⊢; exact this
                · rw [if_neg hc] at this ⊢; exact this
              have HC5 : Hid (∀ W : World, Below w10.heap.size w10 W → Calls Try.prog 21 #[.agg #[.int .i64 N, .slice ap m cp]] W (RetB (.int .i64 q) W)) := fun W hb => by
                have := I_CountRegisters W (N : Int) hNI _ xss (rp.below hb) HFX.out HLX.out
                rwa [HCR.out] at this
              have HC6 : Hid (∀ W : World, Below w10.heap.size w10 W → Calls Try.prog 24 #[.agg #[.int .i64 N, .slice ap m cp]] W (RetB (.int .i64 (q - 2 * (m : Int))) W)) := fun W hb => by
                have := I_SpareRegisters W (N : Int) hNI _ xss (rp.below hb) HFX.out HLX.out
                rwa [HSR.out] at this
              have htp := HTP.out
              have g1 : decide (q - 2 * (m : Int) ≥ 0) = true := by simp; omega
              have g2 : decide (2 * (m : Int) ≤ q) = true := by simp; omega
              have hq := HQ.out
              have bY : Below w10.heap.size w10 w10 := Below.refl _ _
              have BT := Lib.hid bt2
              clear rp ri rr os rs rn fs ls fF lF o10 q10 hM1 hM2 b10 bX bt bt2 htp
              have hcase : (¬ 0 < mr) ∨ (0 < mr ∧ ¬ 0 < ms) ∨ (0 < mr ∧ 0 < ms) := by omega
              rcases hcase with e6 | ⟨e6, e7⟩ | ⟨e6, e7⟩
              all_goals
                first
                  | rw [if_neg (fun hc => e6 hc.1)] at HC4
                  | rw [if_neg (fun hc => e7 hc.2)] at HC4
                  | rw [if_pos ⟨e6, e7⟩] at HC4
                go_wp2_with fail
                refine (HC1.out _ bY).mono ?_
                rintro e wA ⟨rfl, bA⟩
                replace bY := bY.trans (bA.mono bY.size)
                replace c0 := (HT2.out _ bY).1
                replace c1 := (HT2.out _ bY).2
                clear bA
                go_wp2_with fail
                refine (HC2.out _ bY).mono ?_
                rintro e wA ⟨rfl, bA⟩
                replace bY := bY.trans (bA.mono bY.size)
                replace c0 := (HT2.out _ bY).1
                replace c1 := (HT2.out _ bY).2
                clear bA
                go_wp2_with fail
                refine (HC3.out _ bY).mono ?_
                rintro e wA ⟨rfl, bA⟩
                replace bY := bY.trans (bA.mono bY.size)
                replace c0 := (HT2.out _ bY).1
                replace c1 := (HT2.out _ bY).2
                clear bA
                go_wp2_with fail
                refine (HC4.out _ bY).mono ?_
                rintro e wA ⟨rfl, bA⟩
                replace bY := bY.trans (bA.mono bY.size)
                replace c0 := (HT2.out _ bY).1
                replace c1 := (HT2.out _ bY).2
                clear bA
                go_wp2_with fail
                refine (HC5.out _ bY).mono ?_
                rintro e wA ⟨rfl, bA⟩
                replace bY := bY.trans (bA.mono bY.size)
                replace c0 := (HT2.out _ bY).1
                replace c1 := (HT2.out _ bY).2
                clear bA
                go_wp2_with fail
                refine (HC6.out _ bY).mono ?_
                rintro e wA ⟨rfl, bA⟩
                replace bY := bY.trans (bA.mono bY.size)
                replace c0 := (HT2.out _ bY).1
                replace c1 := (HT2.out _ bY).2
                clear bA
                go_wp2_with fail
                refine (HC6.out _ bY).mono ?_
                rintro e wA ⟨rfl, bA⟩
                replace bY := bY.trans (bA.mono bY.size)
                replace c0 := (HT2.out _ bY).1
                replace c1 := (HT2.out _ bY).2
                clear bA
                go_wp2_with fail
                go_ret
                exact ⟨rfl, BT.out.trans (bY.mono BT.out.size)⟩

end Go.Proofs.Ytdfjopcfgpigoaa
