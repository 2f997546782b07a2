/- Walks: lists through a pipe, the reference. -/
import Derived.Test.YtdfjopcfgpigoaaRunPipe
namespace Go.Proofs.Ytdfjopcfgpigoaa
open Go.RowKit
set_option linter.unusedVariables false
set_option linter.unusedSimpArgs false

set_option maxHeartbeats 4000000 in
theorem S_RunPipe (w : World) (n : Int) (hn : I64 n) (v : Value) (xss : List (List Int)) (h : Rd2 w v xss) (fx : I64ss xss) (lx : SzOk xss) (vi : Value) (ins : List (List Int)) (hi : Rd2 w vi ins) (fi : I64ss ins) (li : SzOk ins) :
    Calls Try.prog 40 #[.agg #[.int .i64 n, v], vi] w (RetOwn2B (rp0 n xss ins) (rp1 n xss ins) w) := by
  obtain ⟨a, c, rfl, h2, h3⟩ := h.form
  obtain ⟨ai, m, ci, rfl, HM, hm2, hm3⟩ := hi.formH
  have hbA : Below w.heap.size w (w.alloc (.cells #[.int .i64 n, .slice a xss.length c] 32)) := (Below.refl _ _).alloc (Nat.le_refl _) _
  have h' := h.alloc (.cells #[.int .i64 n, .slice a xss.length c] 32)
  have HN := s_NetworkOk n _ xss _ h' hn
  cases hk : netOk n xss
  · rw [hk] at HN
    have HR0 : Hid (rp0 n xss ins = []) := by simp [rp0, rp1, hk, Hid]
    have HR1 : Hid (rp1 n xss ins = false) := by simp [rp1, hk, Hid]
    go_enter Try.func40, Try.ntmps40
    go_wp2_with (go_at_call 51; refine HN.mono ?_; rintro e w2 ⟨rfl, hb2⟩)
    go_ret2
    rw [HR0.out, HR1.out]
    exact ⟨_, rfl, Own2.nil _ _ _ _ _, hbA.trans (hb2.mono (by simp))⟩
  rw [hk] at HN
  by_cases hm : 12 < m
  · have d12 : decide ((m : Int) > 12) = true := by simp; omega
    have HR1 : Hid (rp1 n xss ins = false) := by
      have : ¬ ins.length ≤ 12 := by have := HM.out; omega
      simp [rp1, this, Hid]
    have HR0 : Hid (rp0 n xss ins = []) := by simp [rp0, HR1.out, Hid]
    go_enter Try.func40, Try.ntmps40
    go_wp2_with (go_at_call 51; refine HN.mono ?_; rintro e w2 ⟨rfl, hb2⟩)
    go_ret2
    rw [HR0.out, HR1.out]
    exact ⟨_, rfl, Own2.nil _ _ _ _ _, hbA.trans (hb2.mono (by simp))⟩
  have d12 : decide ((m : Int) > 12) = false := by simp; omega
  have bx := box_cells w (.int .i64 n) (.slice a xss.length c) 32
  have HC : Hid (∀ wx : World, Below (w.heap.size + 1) (w.alloc (.cells #[.int .i64 n, .slice a xss.length c] 32)) wx → wx.cell? ⟨w.heap.size, 0, none⟩ = some (.int .i64 n) ∧ wx.cell? ⟨w.heap.size, 1, none⟩ = some (.slice a xss.length c)) :=
    fun wx hb => ⟨(hb.cell (by simp)).trans bx.1, (hb.cell (by simp)).trans bx.2⟩
  clear bx
  have hle : ins.length ≤ 12 := by have := HM.out; omega
  have HNO : Hid (∀ (k : Nat) xs, ins[k]? = some xs → pipeRow n xs = false → rp1 n xss ins = false) := fun k xs hx hp => by rw [rp1, all_no hx hp]; simp
  have HYES : Hid ((∀ (j : Nat) xs, j < m → ins[j]? = some xs → pipeRow n xs = true) → ins.all (pipeRow n) = true) := fun hp => all_yes (by rw [← HM.out]; exact hp)
  have HKK := Lib.hid hk
  have HDB := Lib.hid (depthOf_bound hk)
  clear hk
  have HLE := Lib.hid hle
  clear hle
  go_enter Try.func40, Try.ntmps40
  go_wp2_with (go_at_call 51; refine HN.mono ?_; rintro e w2 ⟨rfl, hb2⟩)
  have hb2' : Below (w.heap.size + 1) (w.alloc (.cells #[.int .i64 n, .slice a xss.length c] 32)) w2 := hb2.mono (by simp)
  have hbB := hbA.trans (hb2.mono hbA.size)
  have hz2 : w.heap.size + 1 ≤ w2.heap.size := by have := hb2.size; simp at this; omega
  obtain ⟨e0, e1⟩ := HC.out _ hb2'
  clear hb2 HN
  go_loopw [25] (fun i wr => ∃ k : Nat, k ≤ m ∧ i = .int .i64 k ∧ Dr w2 wr ∧ Hid (∀ (j : Nat) y, j < k → ins[j]? = some y → pipeRow n y = true)) (fun i _ => m - (intOf i).toNat)
  case atStart => exact ⟨0, Nat.zero_le _, rfl, Dr.refl _, fun j y hj => by omega⟩
  case round =>
    obtain ⟨k, hkl, rfl, hdr, HP⟩ := hrel
    by_cases hlt : k < m
    · obtain ⟨ad, b, mr, d, xs, rfl, hc0, hx, hmr, hmd, hd, hr⟩ := hi.row (show k < ins.length by have := HM.out; omega)
      have hc := (((hbB.trans ((hdr.below _).mono hbB.size))).cell (World.block_lt_of_cell? w _ hc0)).trans hc0
      clear hc0
      have g0 := (hdr.cell ⟨w.heap.size, 0, none⟩).trans e0
      have HB : Hid (pipeRow n xs = (!((mr : Int) != 0) || !((mr : Int) != n))) := by
        rw [Hid, ← pipeRow_beq, ← hmr.out]
        simp [bne]
      cases hm0 : ((mr : Int) != 0)
      · have HT : Hid (pipeRow n xs = true) := by rw [Hid, HB.out, hm0]; rfl
        clear HB
        go_wp2
        go_roundw
        case rel => exact ⟨k + 1, by omega, by go_num, hdr, fun j y hj hy => by
          by_cases e : j = k
          · subst e
            rw [hx.out] at hy
            cases hy
            exact HT.out
          · exact HP.out j y (by omega) hy⟩
        case measure => simp [intOf]; omega
      cases hmn : ((mr : Int) != n)
      · have HT : Hid (pipeRow n xs = true) := by rw [Hid, HB.out, hmn]; simp
        clear HB
        go_wp2
        go_roundw
        case rel => exact ⟨k + 1, by omega, by go_num, hdr, fun j y hj hy => by
          by_cases e : j = k
          · subst e
            rw [hx.out] at hy
            cases hy
            exact HT.out
          · exact HP.out j y (by omega) hy⟩
        case measure => simp [intOf]; omega
      · have HR1 : Hid (rp1 n xss ins = false) := HNO.out k xs hx.out (by rw [HB.out, hm0, hmn]; rfl)
        have HR0 : Hid (rp0 n xss ins = []) := by simp [rp0, HR1.out, Hid]
        clear HB
        go_wp2
        go_ret2
        rw [HR0.out, HR1.out]
        exact ⟨_, rfl, Own2.nil _ _ _ _ _, hbB.trans ((hdr.below _).mono hbB.size)⟩
    · obtain rfl : m = k := by omega
      have HALL := Lib.hid (HYES.out HP.out)
      have hbD := hbB.trans ((hdr.below _).mono hbB.size)
      have hbD' := hb2'.trans ((hdr.below _).mono hz2)
      have hz4 := hdr.size
      obtain ⟨c0, c1⟩ := HC.out _ hbD'
      clear HNO HYES HP e0 e1 hbB hb2' hdr hlt
      have hdb := HDB.out
      have hk := HKK.out
      have hall := HALL.out
      have hle := HLE.out
      have HR1 : Hid (rp1 n xss ins = true) := by simp [rp1, hall, hk, hle, Hid]
      obtain ⟨D, hD⟩ : ∃ D : Nat, (depthOf n xss).toNat = D := ⟨_, rfl⟩
      have hD60 : D ≤ 60 := by omega
      have HR0 : Hid (rp0 n xss ins = outM n xss ins (m + D)) := by rw [Hid, rp0, if_pos HR1.out, hD, HM.out]
      have HPS := Lib.hid (fun (wq : World) (hq : Below w.heap.size w wq) => s_DepthOf n _ xss wq (h.below hq) hn)
      have hDe : depthOf n xss = (D : Int) := by omega
      rw [hDe] at HPS
      have HS0 : Hid (stM n xss ins 0 = List.replicate D []) := by rw [Hid, stM, hD]
      clear hDe
      have HSL : Hid (∀ k, (stM n xss ins k).length = D) := fun k => by rw [stM_length]; exact hD
      have HCK := Lib.hid (fun (k : Nat) (wq : World) (hq : Below w.heap.size w wq) (vs vn : Value) (hs : Rd2 wq vs (stM n xss ins k)) (hv : Rd wq vn (ints (inAt ins k))) =>
        s_l26Step n hn _ vs vn xss (stM n xss ins k) (inAt ins k) wq (h.below hq) fx lx hs hv hk (by rw [HSL.out k]; exact hD60) (fun j _ => nowM_row (stM_rows hall k) (inAt_row hall k) j))
      clear hk hle hall hdb hD HKK HDB HALL HLE
      have iw : IntKind.i64.wrap ((m : Int) + (D : Int)) = (m : Int) + (D : Int) := IntWalk.i64_in _ (by omega)
      go_wp2_with (first
        | (go_at_call 52; refine (HPS.out _ hbD).mono ?_; rintro e w5 ⟨rfl, hb5⟩; have hbE := hbD.trans (hb5.mono hbD.size); have hbE' := hbD'.trans (hb5.mono (by omega)); have hz5 := hb5.size; have hz5w := hbE.size)
        | (at_make; refine wpList_mk (B := w5.heap.size) rfl _ _ 22 rfl elII rfl rfl (Nat.le_refl _) (by omega) (by omega) ?_; intro bm w6 hbm hown6 hg6; have hb6 : Below w5.heap.size w5 w6 := (Below.refl w5.heap.size w5).grown hg6 (Nat.le_refl _) (fun _ h => by cases h); have hz6 := hb6.size))
      have ho5 : Own2 w6 42 3 w5.heap.size w6.heap.size (.slice (some bm) D D) (stM n xss ins 0) := by rw [HS0.out]; exact Own2.nils hown6
      replace hbE := hbE.trans (hb6.mono hz5w)
      replace hbE' := hbE'.trans (hb6.mono (by omega))
      have hzE := hbE.size
      have hzE1 : w.heap.size + 1 ≤ w6.heap.size := by omega
      have hoL := Own2.lit0 (E := 3) (B := w.heap.size + 1) w6 42 hzE1
      have hbL0 : Below w6.heap.size w6 (w6.alloc (.cells #[] 42)) := (Below.refl _ _).alloc (Nat.le_refl _) _
      have hsL := ho5.below hbL0
      have hbL := hbE.trans (hbL0.mono hzE)
      have hbL' := hbE'.trans (hbL0.mono hzE1)
      have hapL : ∀ g, (Value.slice (some ⟨w6.heap.size, 0, none⟩) 0 0).ownBlock = some g → g < w5.heap.size ∨ w6.heap.size ≤ g := fun g hg => by
        have : w6.heap.size = g := Option.some.inj hg
        omega
      clear hb5 hbD hbD' hz2 hz4 hz5 hz5w hz6 hb6 hg6 hown6 hbm c0 c1 HPS hbE hbE' ho5 hbL0
      go_loopw [9, 10, 11] (fun vs vo i wr => ∃ k Bs Ts : Nat, k ≤ m + D ∧ i = .int .i64 k ∧ Own2 wr 42 3 (w.heap.size + 1) wr.heap.size vo (outM n xss ins k) ∧ Own2 wr 42 3 Bs Ts vs (stM n xss ins k) ∧ (∀ g, vo.ownBlock = some g → g < Bs ∨ Ts ≤ g) ∧ Below w.heap.size w wr ∧ Below (w.heap.size + 1) (w.alloc (.cells #[.int .i64 n, .slice a xss.length c] 32)) wr)
        (fun _ _ i _ => m + D - (intOf i).toNat)
      case atStart => exact ⟨0, _, _, Nat.zero_le _, rfl, hoL, hsL, hapL, hbL, hbL'⟩
      case round =>
        clear hoL hsL hapL hbL hbL' hzE hzE1
        obtain ⟨k, Bs, Ts, hkl, rfl, ho, hs, hap, hb, hb'⟩ := hrel
        obtain ⟨a6, D2, c6, rfl, HD2, _, _⟩ := hs.rd.formH
        have hsb := hb.size
        have hsb1 : w.heap.size + 1 ≤ wr.heap.size := by have := hb'.size; simp at this; omega
        obtain ⟨rows, hov, hT, hrows⟩ := ho
        have hrl : rows.length ≤ 80 := by have := hrows.1; rw [outM_length] at this; omega
        obtain ⟨ao, co, rfl, _, _⟩ := hov.rd.form
        by_cases hlt : k < m + D
        · have hltI : (k : Int) < (m : Int) + (D : Int) := by omega
          have hbX : Below wr.heap.size wr (wr.alloc (.cells #[] 3)) := (Below.refl _ _).alloc (Nat.le_refl _) _
          have hbW := hb.trans (hbX.mono hsb)
          have hbW' := hb'.trans (hbX.mono hsb1)
          obtain ⟨c0, c1⟩ := HC.out _ hbW'
          have hsW := hs.rd.alloc (.cells #[] 3)
          have hovW := hov.alloc (.cells #[] 3)
          have hrowsW := hrows.alloc (.cells #[] 3)
          have hzW : (wr.alloc (.cells #[] 3)).heap.size = wr.heap.size + 1 := by simp
          have HZW := Lib.hid hzW
          clear hzW
          have HO : Hid (outM n xss ins (k + 1) = outM n xss ins k ++ [nowM (stM n xss ins k) (inAt ins k) (stM n xss ins k).length]) := rfl
          have HS : Hid (stM n xss ins (k + 1) = nextM n xss (stM n xss ins k) (inAt ins k) (stM n xss ins k).length) := rfl
          by_cases hkm : k < m
          · obtain ⟨ad, b, mr, d, xs, rfl, hc0, hxx, hm, hmd, hd, hr⟩ := hi.row (show k < ins.length by have := HM.out; omega)
            have hc1 := (hbW.cell (World.block_lt_of_cell? w _ hc0)).trans hc0
            clear hc0
            have hin : inAt ins k = xs := by rw [inAt, List.getD_eq_getElem?_getD, hxx.out]; rfl
            have hinW : Rd (wr.alloc (.cells #[] 3)) (.slice b mr d) (ints (inAt ins k)) := by rw [hin]; exact hr.below hbW
            clear hin
            go_wp2_with (first
              | (go_at_call 60; refine (HCK.out k _ hbW _ _ hsW hinW).mono ?_; rintro e w6 ⟨v6, u6, M, rfl, ho6, hu6, hM1, hM2, hb6⟩; obtain ⟨au, mu, cu, rfl, HU, _, _⟩ := hu6.rd.formH; have hz6 := hb6.size)
              | (at_builtin; refine wpList_app1 rfl _ _ 22 rfl elII rfl (hovW.below hb6) (by show Value.slice (some ⟨w6.heap.size, 0, none⟩) 1 1 = _; simp) rfl (by have := HZW.out; omega) (by omega) (by omega) ?_; intro bn cn' w8 ho8 hg8 hat8))
            have hzW := HZW.out
            have hrA := (hrowsW.below hb6).snoc (T' := w6.heap.size) (hu6.mono (by omega)) (fun k hk => by have := hu6.lt k hk; omega) (by omega)
            have ho9 := Own2.app hrA (hovW.below hb6) (by decide) hg8 ho8 hg8.size
            have hs9 := ho6.apart2 hg8 (fun g hg => .inl (by have := (hov.lt g hg).2; omega))
            have hap9 : ∀ g, (Value.slice bn (rows.length + 1) cn').ownBlock = some g → g < (wr.alloc (.cells #[] 3)).heap.size ∨ M ≤ g := fun g h2 => by
              rcases hat8 with e | ⟨q, hq, e⟩
              · have := (hov.lt g (e ▸ h2)).2
                omega
              · rw [e] at h2
                cases h2
                omega
            have hb9 := (hbW.trans (hb6.mono hbW.size)).grown hg8 (by omega) fun r hr => by have := (hov.lt r hr).1; omega
            have hb9' := (hbW'.trans (hb6.mono (by omega))).grown hg8 (by omega) fun r hr => (hov.lt r hr).1
            clear hzW
            go_roundw
            case rel => exact ⟨k + 1, (wr.alloc (.cells #[] 3)).heap.size, M, by omega, by go_num, by rw [HO.out]; exact ho9, by rw [HS.out]; exact hs9, hap9, hb9, hb9'⟩
            case measure => simp [intOf]; omega
          · have hin : inAt ins k = [] := by rw [inAt, List.getD_eq_getElem?_getD, List.getElem?_eq_none (by have := HM.out; omega)]; rfl
            have hinW : Rd (wr.alloc (.cells #[] 3)) (.slice (some ⟨wr.heap.size, 0, none⟩) 0 0) (ints (inAt ins k)) := by rw [hin]; exact (Own.lit0 wr 3 (Nat.le_refl _)).rd
            clear hin
            go_wp2_with (first
              | (go_at_call 60; refine (HCK.out k _ hbW _ _ hsW hinW).mono ?_; rintro e w6 ⟨v6, u6, M, rfl, ho6, hu6, hM1, hM2, hb6⟩; obtain ⟨au, mu, cu, rfl, HU, _, _⟩ := hu6.rd.formH; have hz6 := hb6.size)
              | (at_builtin; refine wpList_app1 rfl _ _ 22 rfl elII rfl (hovW.below hb6) (by show Value.slice (some ⟨w6.heap.size, 0, none⟩) 1 1 = _; simp) rfl (by have := HZW.out; omega) (by omega) (by omega) ?_; intro bn cn' w8 ho8 hg8 hat8))
            have hzW := HZW.out
            have hrA := (hrowsW.below hb6).snoc (T' := w6.heap.size) (hu6.mono (by omega)) (fun k hk => by have := hu6.lt k hk; omega) (by omega)
            have ho9 := Own2.app hrA (hovW.below hb6) (by decide) hg8 ho8 hg8.size
            have hs9 := ho6.apart2 hg8 (fun g hg => .inl (by have := (hov.lt g hg).2; omega))
            have hap9 : ∀ g, (Value.slice bn (rows.length + 1) cn').ownBlock = some g → g < (wr.alloc (.cells #[] 3)).heap.size ∨ M ≤ g := fun g h2 => by
              rcases hat8 with e | ⟨q, hq, e⟩
              · have := (hov.lt g (e ▸ h2)).2
                omega
              · rw [e] at h2
                cases h2
                omega
            have hb9 := (hbW.trans (hb6.mono hbW.size)).grown hg8 (by omega) fun r hr => by have := (hov.lt r hr).1; omega
            have hb9' := (hbW'.trans (hb6.mono (by omega))).grown hg8 (by omega) fun r hr => (hov.lt r hr).1
            clear hzW
            go_roundw
            case rel => exact ⟨k + 1, (wr.alloc (.cells #[] 3)).heap.size, M, by omega, by go_num, by rw [HO.out]; exact ho9, by rw [HS.out]; exact hs9, hap9, hb9, hb9'⟩
            case measure => simp [intOf]; omega
        · obtain rfl : m + D = k := by omega
          have hltI : ¬ ((m + D : Nat) : Int) < (m : Int) + (D : Int) := by omega
          go_wp2
          go_ret2
          rw [HR0.out, HR1.out]
          have ho : Own2 wr 42 3 (w.heap.size + 1) wr.heap.size _ _ := ⟨rows, hov, hT, hrows⟩
          exact ⟨_, rfl, ho.mono (by omega) (Nat.le_refl _), hb⟩

end Go.Proofs.Ytdfjopcfgpigoaa
