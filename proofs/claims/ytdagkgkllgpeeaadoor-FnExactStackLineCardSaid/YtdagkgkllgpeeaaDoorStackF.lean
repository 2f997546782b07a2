/- Walks: words, rounds and the line on stacks. -/
import Derived.Test.YtdagkgkllgpeeaaDoorStackE
namespace Go.Proofs.YtdagkgkllgpeeaaDoor
open Go.RowKit
set_option linter.unusedVariables false
set_option linter.unusedSimpArgs false

def RetSW (ys : List Int) (u : List UInt8) (w : World) (e : Ending) (w' : World) : Prop := ∃ v, e = .returned (.tuple #[v, .string (bstr u)]) ∧ Own w' 3 w.heap.size v (ints ys) ∧ Below w.heap.size w w'
set_option maxRecDepth 100000 in
set_option maxHeartbeats 8000000 in
theorem i_stackSort (v : Value) (xs : List Int) (w : World) (h : Rd w v (ints xs)) (hl : xs.length ≤ 8) : Calls Tryd.prog 113 #[v] w (RetSW (stkS xs) (stkW xs) w) := by
  obtain ⟨aT, n, cT, rfl, HN, hnc, hc⟩ := h.formN
  have h8 : n ≤ 8 := by have := HN.out; omega
  obtain ⟨hS, hb⟩ := SS_init w
  have HSL : Hid (∀ k, k ≤ xs.length → (stkR xs k).1.length + (stkR xs k).2.1.length = k ∧ (stkR xs k).2.2.length = k + (stkR xs k).1.length) := stkR_len xs
  go_enter Tryd.func113, Tryd.ntmps113
  go_upto_region 4 with (fail)
  obtain ⟨w8, hw8⟩ : ∃ w8, (((((w.alloc (.cells #[] 3)).alloc (.cells #[] 3)).alloc (.cells #[.slice (some ⟨w.heap.size, 0, none⟩) 0 0] 22)).alloc (.cells #[.slice (some ⟨w.heap.size + 1, 0, none⟩) 0 0] 22)).alloc (.cells #[.string ⟨#[]⟩] 9)) = w8 := ⟨_, rfl⟩
  rw [hw8] at hS hb ⊢
  clear hw8
  obtain ⟨v1, hv1⟩ : ∃ v1, Value.slice (some ⟨w.heap.size, 0, none⟩) 0 0 = v1 := ⟨_, rfl⟩
  obtain ⟨v2, hv2⟩ : ∃ v2, Value.slice (some ⟨w.heap.size + 1, 0, none⟩) 0 0 = v2 := ⟨_, rfl⟩
  rw [hv1, hv2] at hS
  rw [hv1, hv2]
  clear hv1 hv2
  obtain ⟨bw, hbw⟩ : ∃ bw, w.heap.size + 1 + 1 + 1 + 1 = bw := ⟨_, rfl⟩
  obtain ⟨bs, hbs⟩ : ∃ bs, w.heap.size + 1 + 1 + 1 = bs := ⟨_, rfl⟩
  obtain ⟨bo, hbo⟩ : ∃ bo, w.heap.size + 1 + 1 = bo := ⟨_, rfl⟩
  rw [hbw, hbs, hbo] at hS
  rw [hbw, hbs, hbo]
  clear hbw hbs hbo
  have HA0 : Hid ((⟨#[]⟩ : ByteArray) = bstr []) := rfl
  go_wp2
  go_loopg [15] n (fun g iv wr => ∃ (k : Nat) (O R : List Int) (W : List UInt8) (A : ByteArray) (vo vs : Value), g = n - k ∧ k ≤ n ∧ iv = .int .i64 k ∧ Hid (A = bstr W) ∧ Hid (stkR xs k = (O, R, W)) ∧ SS w.heap.size bo bs bw wr vo vs O R A ∧ Below w.heap.size w wr)
  case atStart => exact ⟨0, _, _, _, _, _, _, rfl, Nat.zero_le _, rfl, HA0, rfl, hS, hb⟩
  case round =>
    clear hS hb HA0
    obtain ⟨k, O, R, W, A, vo, vs, hg, hk, rfl, HA, HK, hS, hb⟩ := hrel
    have HLK := Lib.hid (stkR_bd (by rw [← HN.out]; exact hk) HK.out)
    by_cases hlt : k < n
    · obtain ⟨ad, x, rfl, hcx, hx⟩ := (h.below hb).int (k := k) (by have := HN.out; omega)
      have i1 : (k : Int) < (n : Int) := by omega
      go_wp2
      clear hcx
      go_loopg [33] R.length (fun g iv wr => ∃ (O2 R2 : List Int) (W2 : List UInt8) (A : ByteArray) (vo vs : Value), g = R2.length ∧ Hid (A = bstr W2) ∧ Hid (popA x O2 R2 W2 = popA x O R W) ∧ Hid (O2.length + R2.length = k ∧ W2.length = k + O2.length) ∧ SS w.heap.size bo bs bw wr vo vs O2 R2 A ∧ Below w.heap.size w wr)
      case atStart => exact ⟨_, _, _, _, _, _, rfl, HA, rfl, HLK, hS, hb⟩
      case round =>
        clear hS hb HA
        obtain ⟨O2, R2, W2, A, vo, vs, hg2, HA, HP, HL2, hS, hb⟩ := hrel
        obtain ⟨aS, ms, cs, rfl, HMS, hmcs, _⟩ := hS.ow.o1.rd.formN
        have hsb := hb.size
        have hms : ms ≤ 8 := by have := HMS.out; have := HL2.out; simp at *; omega
        have HLs : Hid ((ints R2.reverse).length = ms) := by rw [Hid, ints_length]; exact HMS.out.symm
        have hAs : A.size ≤ 16 := by rw [HA.out, bstr_size]; have := HL2.out; omega
        have q1 : ¬ 9223372036854775807 < A.size + 1 := by omega
        have q2 : ¬ 9223372036854775807 ≤ A.size := by omega
        obtain ⟨c0, c1, c2, f0, f1, f2⟩ := hS.cells
        have hcase : R2 = [] ∨ ∃ a r, R2 = a :: r := by cases R2 with | nil => exact .inl rfl | cons a r => exact .inr ⟨a, r, rfl⟩
        by_cases hpop : ∃ a r, R2 = a :: r ∧ a < x
        · obtain ⟨y, r, rfl, hyx⟩ := hpop
          clear hcase
          obtain ⟨ρ, hρ⟩ : ∃ ρ, r.length = ρ := ⟨_, rfl⟩
          have hmsρ : ms = ρ + 1 := by have := HMS.out; simp at this; omega
          subst hmsρ
          obtain ⟨ps, y', rfl, hcy, hy⟩ := hS.ow.o1.rd.int (k := ρ) (by simp; omega)
          have hya : y' = y := by have := hy.out; rw [← hρ, rev_top] at this; injection this with this; exact this.symm
          subst hya
          have d0 : decide (((ρ + 1 : Nat) : Int) > 0) = true := by simp
          have d1 : (ρ : Int) < (ρ : Int) + 1 := by omega
          have d2 : (ρ : Int) ≤ (cs : Int) := by omega
          have d4 : (0 : Int) < (ρ : Int) + 1 := by omega
          have d3 : decide (y' < x) = true := by simpa using hyx
          have HP2 := Lib.hid ((popA_go hyx O2 r W2).symm.trans HP.out)
          have HE := Lib.hid (i_take w wr w.heap.size bo bs bw _ _ O2 r y' A hS hb (Nat.le_refl _) (by have := HL2.out; omega) (by have := HL2.out; simp at this; omega) (by omega))
          go_wp2_with (go_at_call 194; refine HE.out.mono ?_; rintro e w9 ⟨rfl, vo9, vs9, hS9, hb9⟩)
          go_roundg r.length
          case measure => simp at hg2; omega
          case rel => exact ⟨_, _, _, _, _, _, rfl, bstr_snoc HA.out 116, HP2, by have := HL2.out; rw [Hid]; simp at *; omega, hS9, hb9⟩
        · have hstop : popA x O2 R2 W2 = (O2, R2, W2) := by
            rcases hcase with rfl | ⟨a, r, rfl⟩
            · rfl
            · exact popA_stop (fun hlt => hpop ⟨a, r, rfl, hlt⟩) _ _ _
          have HNX := Lib.hid (stk_of hx.out HK.out HP.out hstop)
          have htail : ∃ d0 : Bool, decide ((ms : Int) > 0) = d0 ∧ (d0 = true → ∃ (ps : Addr) (y : Int) (ρ : Nat), aS = some ps ∧ ms = ρ + 1 ∧ wr.cell? (ps.add ρ) = some (.int .i64 y) ∧ ¬ y < x) := by
            refine ⟨_, rfl, fun hd => ?_⟩
            rcases hcase with rfl | ⟨a, r, rfl⟩
            · have := HMS.out; simp at this; subst this; simp at hd
            · have hmsρ : ms = r.length + 1 := by have := HMS.out; simp at this; omega
              obtain ⟨ps, y', hps, hcy, hy⟩ := hS.ow.o1.rd.int (k := r.length) (by simp)
              have hya : y' = a := by have := hy.out; rw [rev_top] at this; injection this with this; exact this.symm
              exact ⟨ps, y', r.length, hps, hmsρ, hcy, fun hlt => hpop ⟨a, r, rfl, by rw [← hya]; exact hlt⟩⟩
          clear hstop hcase hpop
          obtain ⟨d0, hd0, htop⟩ := htail
          cases d0
          all_goals first
            | (have d1 : ¬ (0 : Int) < (ms : Int) := by simpa using hd0
               clear htop)
            | (obtain ⟨ps, y, ρ, rfl, rfl, hcy, hyx⟩ := htop rfl
               have d1 : (ρ : Int) < (ρ : Int) + 1 := by omega
               have d4 : (0 : Int) < (ρ : Int) + 1 := by omega
               have d3 : decide (y < x) = false := by simpa using hyx
               clear htop)
          all_goals
            go_upto_region 10 with (at_builtin; refine wpList_app1m rfl _ _ 22 rfl elI rfl hS.ow.o1 (by show Value.slice (some ⟨wr.heap.size, 0, none⟩) 1 1 = _; simp) rfl hsb _ HLs.out (by omega) (by omega) ?_; intro b5 c5 w5 ho5 hg5 hat5; have hgr := hS.grow (.tail _ (.head _)) hg5; have hc5 := box_cell hgr.2.1 0; have hf5 := frozen_of_row w5 bs 0 _ _ hgr.2.1)
            have h6 := hS.push (R1 := x :: R2) hg5 (by rw [List.reverse_cons (a := x), ints_append]; exact ho5) (hat_of hat5)
            have hb6 := fun (u : Value) => (hb.grown hg5 hsb (fun r hr => (hS.ow.o1.lt r hr).1)).setCell (p := ⟨bs, 0, none⟩) (by have := hS.h0; have := hS.h1; show w.heap.size ≤ bs; omega) u
            clear hgr hc5 hf5 c0 c1 c2 f0 f1 f2 hS hb ho5 hg5 hat5
            obtain ⟨c0, c1, c2, f0, f1, f2⟩ := h6.cells
            go_wp2_with fail
            go_roundg (n - (k + 1))
            case measure => omega
            case rel => exact ⟨k + 1, _, _, _, _, _, _, rfl, by omega, by go_num, bstr_snoc HA.out 112, HNX, h6.word _, (hb6 _).setCell (p := ⟨bw, 0, none⟩) (by have := h6.h0; have := h6.h1; have := h6.h2; show w.heap.size ≤ bw; omega) _⟩
    · obtain rfl : k = n := by omega
      have HF1 : Hid (O ++ R = stkS xs) := by rw [Hid, stkS, ← HN.out, HK.out]
      have HF2 : Hid (W ++ List.replicate R.length 116 = stkW xs) := by rw [Hid, stkW, ← HN.out, HK.out]
      go_wp2
      go_loopg [45] R.length (fun g iv wr => ∃ (O2 R2 : List Int) (W2 : List UInt8) (A : ByteArray) (vo vs : Value), g = R2.length ∧ Hid (A = bstr W2) ∧ Hid (O2 ++ R2 = stkS xs) ∧ Hid (W2 ++ List.replicate R2.length 116 = stkW xs) ∧ Hid (O2.length + R2.length = k ∧ W2.length = k + O2.length) ∧ SS w.heap.size bo bs bw wr vo vs O2 R2 A ∧ Below w.heap.size w wr)
      case atStart => exact ⟨_, _, _, _, _, _, rfl, HA, HF1, HF2, HLK, hS, hb⟩
      case round =>
        clear hS hb HA HF1 HF2
        obtain ⟨O2, R2, W2, A, vo, vs, hg2, HA, HF1, HF2, HL2, hS, hb⟩ := hrel
        obtain ⟨aS, ms, cs, rfl, HMS, hmcs, _⟩ := hS.ow.o1.rd.formN
        obtain ⟨c0, c1, c2, f0, f1, f2⟩ := hS.cells
        have hAs : A.size ≤ 16 := by rw [HA.out, bstr_size]; have := HL2.out; omega
        have hcase : R2 = [] ∨ ∃ a r, R2 = a :: r := by cases R2 with | nil => exact .inl rfl | cons a r => exact .inr ⟨a, r, rfl⟩
        rcases hcase with rfl | ⟨y, r, rfl⟩
        · have hms0 : ms = 0 := by have := HMS.out; simpa using this
          subst hms0
          have HX1 : Hid (O2 = stkS xs) := by have := HF1.out; rw [List.append_nil] at this; exact this
          have HX2 : Hid (W2 = stkW xs) := by have := HF2.out; simp at this; exact this
          obtain ⟨ao, mo, co, rfl, HMO, _, _⟩ := hS.ow.o0.rd.formN
          have ho := hS.ow.o0
          dsimp only at ho
          rw [HX1.out] at ho
          clear hS
          go_wp2
          go_quiet (fail)
          go_wp2
          go_ret2
          exact ⟨.slice ao mo co, by rw [← HX2.out, ← HA.out]; rfl, ho.drewN _, ⟨hb.os, hb.tape, hb.output, hb.size, hb.block⟩⟩
        · have hmsρ : ms = r.length + 1 := by have := HMS.out; simp at this; omega
          have d0 : (0 : Int) < (ms : Int) := by omega
          have HE := Lib.hid (i_take w wr w.heap.size bo bs bw _ _ O2 r y A hS hb (Nat.le_refl _) (by have := HL2.out; omega) (by have := HL2.out; simp at this; omega) (by omega))
          clear hmsρ
          go_wp2_with (go_at_call 194; refine HE.out.mono ?_; rintro e w9 ⟨rfl, vo9, vs9, hS9, hb9⟩)
          go_roundg r.length
          case measure => simp at hg2; omega
          case rel => exact ⟨_, _, _, _, _, _, rfl, bstr_snoc HA.out 116, by have := HF1.out; rw [Hid, ← this]; simp, by have := HF2.out; rw [Hid, ← this]; simp [List.replicate_succ], by have := HL2.out; rw [Hid]; simp at *; omega, hS9, hb9⟩

end Go.Proofs.YtdagkgkllgpeeaaDoor
