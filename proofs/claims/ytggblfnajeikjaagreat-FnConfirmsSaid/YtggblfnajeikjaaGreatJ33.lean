/- Joined texts of the proof: ConfF, ConfH, ConfS. -/
import Derived.WalkKit
import Derived.WalkSpells
import Derived.WalkLawsBesides
import Derived.Deep.Draws
import Derived.Lib.Hide
import Derived.RegionTactic
import Derived.Test.YtggblfnajeikjaaGreatRows
import Derived.BigQuiet
import Derived.Deep.QuietTactic
import Derived.Deep.RegionHeld3
import Derived.Deep.DeepCutAuto
import Derived.Deep.LoopGhost
import Derived.IntWalk
import Derived.Laws.BitsAllLaws
import Derived.Laws.BitsLemmas
import Derived.Deep.RegionLaw
import Derived.Lib.AppendZeros
import Derived.Lib.LazyBuf
import Derived.Test.YtggblfnajeikjaaGreatJ1
import Derived.Test.YtggblfnajeikjaaGreatJ2
import Derived.Test.YtggblfnajeikjaaGreatJ4
import Derived.Test.YtggblfnajeikjaaGreatJ6
import Derived.Test.YtggblfnajeikjaaGreatJ8
import Derived.Test.YtggblfnajeikjaaGreatJ9
import Derived.Test.YtggblfnajeikjaaGreatJ10
import Derived.Test.YtggblfnajeikjaaGreatJ11
import Derived.Test.YtggblfnajeikjaaGreatJ12
import Derived.Test.YtggblfnajeikjaaGreatJ13
import Derived.Test.YtggblfnajeikjaaGreatJ14
import Derived.Test.YtggblfnajeikjaaGreatJ17
import Derived.Test.YtggblfnajeikjaaGreatJ21
import Derived.Test.YtggblfnajeikjaaGreatJ22
import Derived.Test.YtggblfnajeikjaaGreatJ25
import Derived.Test.YtggblfnajeikjaaGreatJ29
import Derived.Test.YtggblfnajeikjaaGreatJ31
namespace Go.Proofs.YtggblfnajeikjaaGreat
open Go.RowKit
set_option linter.unusedVariables false
set_option linter.unusedSimpArgs false

def ctw (l : List Int) (a b : Nat) : List Int := (l.set a ((l.getD a 0 + l.getD b 0 + 1) / 2)).set b ((l.getD a 0 + l.getD b 0) / 2)
def ctM (xss : List (List Int)) (xs : List Int) : Nat → List Int
  | 0 => xs
  | k + 1 => match xss[k]? with
    | some [a, b] => ctw (ctM xss xs k) a.toNat b.toNat
    | _ => ctM xss xs k
theorem ctM_length (xss : List (List Int)) (xs : List Int) : ∀ k, (ctM xss xs k).length = xs.length
  | 0 => rfl
  | k + 1 => by
    have ih := ctM_length xss xs k
    simp only [ctM]
    split
    · simp [ctw, ih]
    · exact ih
theorem ctM_succ {xss : List (List Int)} {xs : List Int} {k a b : Nat} {x y : Int} (h : xss[k]? = some [(a : Int), (b : Int)]) (hx : (ctM xss xs k)[a]? = some x) (hy : (ctM xss xs k)[b]? = some y) :
    ctM xss xs (k + 1) = ((ctM xss xs k).set a ((x + y + 1) / 2)).set b ((x + y) / 2) := by
  simp only [ctM, h, Int.toNat_natCast, ctw, List.getD_eq_getElem?_getD, hx, hy, Option.getD_some]
theorem ctM_bd (xss : List (List Int)) {xs : List Int} (h : ∀ y ∈ xs, 0 ≤ y ∧ y ≤ 1000) : ∀ k, ∀ y ∈ ctM xss xs k, 0 ≤ y ∧ y ≤ 1000
  | 0 => h
  | k + 1 => fun y hy => by
    have ih := ctM_bd xss h k
    have g : ∀ a, 0 ≤ (ctM xss xs k).getD a 0 ∧ (ctM xss xs k).getD a 0 ≤ 1000 := fun a => by
      rw [List.getD_eq_getElem?_getD]
      cases e : (ctM xss xs k)[a]? with
      | none => simp
      | some z => exact ih z (List.mem_of_getElem? e)
    simp only [ctM] at hy
    split at hy
    · rename_i a b _
      have h1 := g a.toNat
      have h2 := g b.toNat
      rcases List.mem_or_eq_of_mem_set hy with hy | rfl
      · rcases List.mem_or_eq_of_mem_set hy with hy | rfl
        · exact ih y hy
        · omega
      · omega
    · exact ih y hy
def tokB (N : Nat) (ts : List Int) : Bool := decide (ts.length = N) && ts.all fun t => decide (0 ≤ t) && decide (t ≤ 1000)

set_option maxHeartbeats 2000000 in
theorem i_count (N : Nat) (n : Int) (v u : Value) (xss : List (List Int)) (xs : List Int) (w : World) (h : Rd2 w v xss) (hu : Rd w u (ints xs)) (hN : xs.length = N) (hl : N ≤ 2000000) (hbd : ∀ y ∈ xs, 0 ≤ y ∧ y ≤ 1000) (HW : Hid (Pairs N xss)) :
    Calls Tryz.prog 64 #[.agg #[.int .i64 n, v], u] w (RetOwn 3 (ints (ctM xss xs xss.length)) w) := by
  obtain ⟨a0, c0, rfl, _, _⟩ := h.form
  obtain ⟨au, cu, rfl, hu2, hu3⟩ := hu.formi
  have HBD := Lib.hid (fun k => ctM_bd xss hbd k)
  have HLn := Lib.hid hN
  clear hN hbd
  have hlx : xs.length ≤ 2000000 := by have := HLn.out; omega
  have hbA : Below w.heap.size w (w.alloc (.cells #[.int .i64 n, .slice a0 xss.length c0] 25)) := (Below.refl _ _).alloc (Nat.le_refl _) _
  have hu' := hu.alloc (.cells #[.int .i64 n, .slice a0 xss.length c0] 25)
  have bx := Lib.hid (box_cells w (.int .i64 n) (.slice a0 xss.length c0) 25)
  go_enter Tryz.func64, Tryz.ntmps64
  go_wp2_with (go_at_call 70; refine (f_Clone _ xs _ hu' hlx).mono ?_; rintro e w2 ⟨vo, rfl, ho2, hb2⟩; obtain ⟨b, cc, rfl, _, _⟩ := ho2.rd.formi; have c1 : w2.cell? ⟨w.heap.size, 1, none⟩ = some (.slice a0 xss.length c0) := (hb2.cell (by simp)).trans bx.out.2)
  have hz2 : w.heap.size + 1 ≤ w2.heap.size := by have := hb2.size; simp at this; omega
  replace hb2 := hbA.trans (hb2.mono hbA.size)
  have e0 : ints xs = ints (ctM xss xs 0) := rfl
  replace ho2 := ho2.mono (B' := w.heap.size) (by simp)
  rw [e0] at ho2
  clear hu' e0 bx hz2 c1
  go_loopw [14] (fun i wr => ∃ k : Nat, k ≤ xss.length ∧ i = .int .i64 k ∧ Own wr 3 w.heap.size (.slice b xs.length cc) (ints (ctM xss xs k)) ∧ Below w.heap.size w wr)
    (fun i _ => xss.length - (intOf i).toNat)
  case atStart => exact ⟨0, Nat.zero_le _, rfl, ho2, hb2⟩
  case round =>
    clear ho2 hb2
    obtain ⟨k, hkl, rfl, ho, hb⟩ := hrel
    by_cases hlt : k < xss.length
    · obtain ⟨ad, bx, m, d, row, rfl, hc0, hx, hm, hmd, hd, hr⟩ := h.row hlt
      obtain ⟨x, y, rfl, hxN, hyN, hxy⟩ := HW.out k row hx.out
      obtain rfl : m = 2 := hm.out
      obtain ⟨z, x', rfl, hcx, hxx⟩ := hr.int (k := 0) (by simp)
      obtain ⟨z', y', hz, hcy, hyy⟩ := hr.int (k := 1) (by simp)
      obtain rfl : z = z' := by injection hz
      clear hz
      have e1 := hxx.out
      have e2 := hyy.out
      simp only [List.getElem?_cons_zero, List.getElem?_cons_succ, Option.some.injEq] at e1 e2
      subst e1 e2
      rw [add_succ] at hcy
      have hcx' : w.cell? z = some (.int .i64 x) := by simpa [Addr.add] using hcx
      clear hcx
      have HSS : Hid (∀ wx : World, Below w.heap.size w wx → wx.cell? (ad.add k) = some (.slice (some z) 2 d) ∧ wx.cell? z = some (.int .i64 x) ∧ wx.cell? ⟨z.block, z.off + (0 + 1), none⟩ = some (.int .i64 y)) := by
        intro wx hbx
        exact ⟨(hbx.cell (World.block_lt_of_cell? w _ hc0)).trans hc0, (hbx.cell (World.block_lt_of_cell? w _ hcx')).trans hcx', (hbx.cell (World.block_lt_of_cell? w _ hcy)).trans hcy⟩
      clear hc0 hcx' hcy
      obtain ⟨q1, q2, q3⟩ := HSS.out _ hb
      have HLk : Hid ((ctM xss xs k).length = N) := by rw [Hid, ctM_length]; exact HLn.out
      have HA := Lib.hid (fun (p q : Int) => ctM_succ (xs := xs) (x := p) (y := q) hx.out)
      have HB := HBD.out k
      obtain ⟨l, hl0⟩ : ∃ l, ctM xss xs k = l := ⟨_, rfl⟩
      rw [hl0] at ho HLk HA HB
      clear hl0
      obtain ⟨bo, p0, rfl, hcp, hp⟩ := ho.rd.int (k := x) (by rw [HLk.out]; omega)
      obtain ⟨bo', q0, hbo, hcq, hq⟩ := ho.rd.int (k := y) (by rw [HLk.out]; omega)
      obtain rfl : bo = bo' := by injection hbo
      clear hbo
      obtain ⟨p, rfl⟩ := Int.eq_ofNat_of_zero_le (HB _ (List.mem_of_getElem? hp.out)).1
      obtain ⟨q, rfl⟩ := Int.eq_ofNat_of_zero_le (HB _ (List.mem_of_getElem? hq.out)).1
      have hp9 := (HB _ (List.mem_of_getElem? hp.out)).2
      have hq9 := (HB _ (List.mem_of_getElem? hq.out)).2
      have HS := Lib.hid (HA.out p q hp.out hq.out)
      clear HA HB
      have hx1 : x < l.length := by rw [HLk.out]; omega
      have hy1 : y < l.length := by rw [HLk.out]; omega
      have i2 : (x : Int) < (xs.length : Int) := by have := HLn.out; omega
      have i4 : (y : Int) < (xs.length : Int) := by have := HLn.out; omega
      obtain ⟨S1, hS1⟩ : ∃ S1 : Int, ((p : Int) + (q : Int) + 1) / 2 = S1 := ⟨_, rfl⟩
      obtain ⟨S2, hS2⟩ : ∃ S2 : Int, ((p : Int) + (q : Int)) / 2 = S2 := ⟨_, rfl⟩
      rw [hS1, hS2] at HS
      have u1 : IntKind.i64.wrap ((p : Int) + (q : Int)) = (p : Int) + (q : Int) := IntWalk.i64_in _ (by omega)
      have k1 : IntKind.i64.wrap ((IntKind.i64.wrap ((p : Int) + (q : Int) + 1)).tdiv 2) = S1 := by
        have g1 : IntKind.i64.wrap ((p : Int) + (q : Int) + 1) = (p : Int) + (q : Int) + 1 := IntWalk.i64_in _ (by omega)
        rw [g1, Int.tdiv_eq_ediv_of_nonneg (by omega), hS1]
        exact IntWalk.i64_in _ (by omega)
      have k2 : IntKind.i64.wrap (((p : Int) + (q : Int)).tdiv 2) = S2 := by
        rw [Int.tdiv_eq_ediv_of_nonneg (by omega), hS2]
        exact IntWalk.i64_in _ (by omega)
      clear hS1 hS2 u1
      go_wp2
      go_quiet (fail)
      clear q1 q2 q3 hcp hcq
      rename_i nq
      have hb1 : Below w.heap.size w (wr.drewN nq) := hb.trans (Dr.below ((Dr.refl _).step _) _)
      obtain ⟨wv, hwv⟩ : ∃ wv, wr.drewN nq = wv := ⟨_, rfl⟩
      have ho1 := ho.drewN nq
      rw [hwv] at hb1 ho1 ⊢
      clear hwv ho hb
      obtain ⟨q1, q2, q3⟩ := HSS.out _ hb1
      have fz1 := ho1.frozen rfl x
      have fz0 := ho1.frozen rfl y
      have hta := ho1.rd.cell_int' hp.out
      have htb := ho1.rd.cell_int' hq.out
      have ht2 := (ho1.seti rfl hx1 S1).1
      have hb2 := ho1.below_set rfl hx1 (.int .i64 S1) hb1 (Nat.le_refl _)
      obtain ⟨r1, r2, r3⟩ := HSS.out _ hb2
      have fz3 := ht2.frozen rfl y
      have hy2 : y < (l.set x S1).length := by rw [List.length_set]; exact hy1
      have htb2 := ht2.rd.cell_int' (show (l.set x S1)[y]? = some (q : Int) by rw [List.getElem?_set_ne (by omega)]; exact hq.out)
      have ht3 := (ht2.seti rfl hy2 S2).1
      have hb3 := ht2.below_set rfl hy2 (.int .i64 S2) hb2 (Nat.le_refl _)
      obtain ⟨s1, s2, s3⟩ := HSS.out _ hb3
      go_wp2
      go_region_held3 (fun wx => wx.cell? z = some (.int .i64 x) ∧ wx.cell? ⟨z.block, z.off + (0 + 1), none⟩ = some (.int .i64 y) ∧ wx.frozen? (bo.add x) = false ∧ wx.frozen? (bo.add y) = false)
        (first | go_keep | (refine ⟨r2, r3, ?_, ?_⟩ <;> go_keep) | (refine ⟨s2, s3, ?_, ?_⟩ <;> go_keep))
        (fail)
      all_goals
        go_wp2
        go_roundw
        case rel => exact ⟨k + 1, by omega, by go_num, by rw [HS.out]; exact ht3, ⟨hb3.os, hb3.tape, hb3.output, hb3.size, hb3.block⟩⟩
        case measure => simp [intOf]; omega
    · obtain rfl : xss.length = k := by omega
      go_wp2
      go_ret
      exact ⟨_, rfl, ho, hb⟩

theorem tokB_iff {N : Nat} {ts : List Int} : tokB N ts = true ↔ ts.length = N ∧ ∀ y ∈ ts, 0 ≤ y ∧ y ≤ 1000 := by simp [tokB]
theorem tokB_len {N : Nat} {ts : List Int} (h : ts.length ≠ N) : tokB N ts = false := by simp [tokB, h]
theorem tokB_no {N : Nat} {ts : List Int} {k : Nat} {x : Int} (hx : ts[k]? = some x) (h : ¬ (0 ≤ x ∧ x ≤ 1000)) : tokB N ts = false := by
  cases e : tokB N ts with
  | false => rfl
  | true => exact absurd ((tokB_iff.1 e).2 x (List.mem_of_getElem? hx)) h
set_option maxHeartbeats 2000000 in
theorem i_TokensOk (N : Nat) (v u : Value) (xss : List (List Int)) (ts : List Int) (w : World) (h : Rd2 w v xss) (hu : Rd w u (ints ts)) (hk : netOk (N : Int) xss = true) :
    Calls Tryz.prog 63 #[.agg #[.int .i64 N, v], u] w (RetB (.bool (tokB N ts)) w) := by
  obtain ⟨N', e, hN1, hN8, hL60⟩ := netOk_n hk
  obtain rfl : N = N' := by omega
  clear e
  obtain ⟨a, m, c, rfl, HM, _, _⟩ : ∃ (a : Option Addr) (m c : Nat), v = .slice a m c ∧ Hid (m = xss.length) ∧ m ≤ c ∧ c ≤ 9223372036854775807 := by
    obtain ⟨a, c, h1, h2, h3⟩ := h.form
    exact ⟨a, _, c, h1, rfl, h2, h3⟩
  obtain ⟨au, n, cu, rfl, HN, hnc, hc9⟩ := hu.formN
  obtain ⟨w0, bx, hw0, hbx, hX0, hz0, hb0⟩ := newBox w (.cells #[.int .i64 N, .slice a m c] 25)
  have HW0 := Lib.hid hw0
  have HBX := Lib.hid hbx
  have HNK := Lib.hid (hk ▸ i_NetworkOk (N : Int) _ xss w0 (h.below hb0) (by unfold I64; omega))
  have q0 := box_cell hX0 0
  have q1 := box_cell hX0 1
  clear hw0 hbx hk h
  go_enter Tryz.func63, Tryz.ntmps63
  go_upto_region 1 with (fail)
  rw [HW0.out, HBX.out]
  by_cases hl : n = N
  case neg =>
    have d1 : ((n : Int) != (N : Int)) = true := by simp; omega
    have HR : Hid (tokB N ts = false) := tokB_len (by have := HN.out; omega)
    go_wp2_with (go_at_call 48; refine HNK.out.mono ?_; rintro e w1 ⟨rfl, b1⟩; have q2 := (b1.cell (World.block_lt_of_cell? _ _ q0)).trans q0)
    go_ret
    exact ⟨ret_bool HR.out.symm, hb0.trans (b1.mono hb0.size)⟩
  case pos =>
    have d1 : ((n : Int) != (N : Int)) = false := by simp; omega
    go_wp2_with (go_at_call 48; refine HNK.out.mono ?_; rintro e w1 ⟨rfl, b1⟩; have q2 := (b1.cell (World.block_lt_of_cell? _ _ q0)).trans q0)
    have bt := hb0.trans (b1.mono hb0.size)
    clear q0 q1 q2 b1 d1
    go_loopg [19] n (fun g iv wr => ∃ k : Nat, g = n - k ∧ k ≤ n ∧ iv = .int .i64 (k : Int) ∧ Hid (∀ (j : Nat) y, j < k → ts[j]? = some y → 0 ≤ y ∧ y ≤ 1000) ∧ w1 = wr)
    case atStart => exact ⟨0, rfl, Nat.zero_le _, rfl, fun j y hj => by omega, rfl⟩
    case round =>
      obtain ⟨k, hg, hkn, rfl, HK, rfl⟩ := hrel
      by_cases hlt : k < n
      · obtain ⟨ad, x, rfl, hcx, hx⟩ := (hu.below bt).int (k := k) (by have := HN.out; omega)
        have i1 : (k : Int) < (n : Int) := by omega
        by_cases h1 : x < 0
        · have HR : Hid (tokB N ts = false) := tokB_no hx.out (by omega)
          go_wp2_with fail
          go_ret
          exact ⟨ret_bool HR.out.symm, bt⟩
        · by_cases h2 : x > 1000
          · have HR : Hid (tokB N ts = false) := tokB_no hx.out (by omega)
            have d2 : decide (x > 1000) = true := by simpa using h2
            go_wp2_with fail
            go_ret
            exact ⟨ret_bool HR.out.symm, bt⟩
          · have d2 : decide (x > 1000) = false := by simpa using h2
            have HK2 : Hid (∀ (j : Nat) y, j < k + 1 → ts[j]? = some y → 0 ≤ y ∧ y ≤ 1000) := fun j y hj hy => by
              by_cases e : j = k
              · subst e
                have := hx.out
                rw [hy] at this
                cases this
                omega
              · exact HK.out j y (by omega) hy
            go_wp2_with fail
            go_roundg (n - (k + 1))
            case measure => omega
            case rel => exact ⟨k + 1, rfl, hlt, by go_num, HK2, rfl⟩
      · obtain rfl : k = n := by omega
        have HR : Hid (tokB N ts = true) := tokB_iff.2 ⟨by have := HN.out; omega, fun y hy => by
          obtain ⟨j, hj, e⟩ := List.getElem_of_mem hy
          exact HK.out j y (by have := HN.out; omega) (by rw [List.getElem?_eq_getElem hj, e])⟩
        go_wp2_with fail
        go_ret
        exact ⟨ret_bool HR.out.symm, bt⟩

/-- The tokens at the end, if there are such tokens. -/
def ctOk (N : Nat) (xss : List (List Int)) (ts : List Int) : List Int := if tokB N ts then ctM xss ts xss.length else []
theorem netOk_pairs {N : Nat} {xss : List (List Int)} (hk : netOk (N : Int) xss = true) : Pairs N xss := fun k xs hx => netOk_row hk hx
set_option maxHeartbeats 2000000 in
theorem i_CountTokens (N : Nat) (v u : Value) (xss : List (List Int)) (ts : List Int) (w : World) (h : Rd2 w v xss) (hu : Rd w u (ints ts)) (hk : netOk (N : Int) xss = true) :
    Calls Tryz.prog 26 #[.agg #[.int .i64 N, v], u] w (RetOwnB 3 (ints (ctOk N xss ts)) (tokB N ts) w) := by
  obtain ⟨N', e, hN1, hN8, hL60⟩ := netOk_n hk
  obtain rfl : N = N' := by omega
  clear e
  obtain ⟨a, m, c, rfl, HM, _, _⟩ : ∃ (a : Option Addr) (m c : Nat), v = .slice a m c ∧ Hid (m = xss.length) ∧ m ≤ c ∧ c ≤ 9223372036854775807 := by
    obtain ⟨a, c, h1, h2, h3⟩ := h.form
    exact ⟨a, _, c, h1, rfl, h2, h3⟩
  obtain ⟨au, n, cu, rfl, HN, hnc, hc9⟩ := hu.formN
  obtain ⟨w0, bx, hw0, hbx, hX0, hz0, hb0⟩ := newBox w (.cells #[.int .i64 N, .slice a m c] 25)
  have HW0 := Lib.hid hw0
  have HBX := Lib.hid hbx
  have HT := Lib.hid (i_TokensOk N _ _ xss ts w0 (h.below hb0) (hu.below hb0) hk)
  have q0 := box_cell hX0 0
  have q1 := box_cell hX0 1
  cases ht : tokB N ts
  · rw [ht] at HT
    have HR : Hid (ctOk N xss ts = []) := by rw [Hid, ctOk, ht]; rfl
    clear ht hw0 hbx hk h
    go_enter Tryz.func26, Tryz.ntmps26
    go_upto_region 1 with (fail)
    rw [HW0.out, HBX.out]
    go_wp2_with (go_at_call 63; refine HT.out.mono ?_; rintro e w1 ⟨rfl, b1⟩)
    go_ret2
    exact ⟨_, rfl, by rw [HR.out]; exact Own.nil _ _ _, hb0.trans (b1.mono hb0.size)⟩
  · rw [ht] at HT
    have HR : Hid (ctOk N xss ts = ctM xss ts xss.length) := by rw [Hid, ctOk, ht]; rfl
    obtain ⟨hl, hbd⟩ := tokB_iff.1 ht
    have HC := Lib.hid (fun (W : World) (hW : Below w.heap.size w W) => i_count N (N : Int) _ _ xss ts W (h.below hW) (hu.below hW) hl (by omega) hbd (netOk_pairs hk))
    clear ht hw0 hbx hk h hl hbd
    go_enter Tryz.func26, Tryz.ntmps26
    go_upto_region 1 with (fail)
    rw [HW0.out, HBX.out]
    go_wp2_with (first
      | (go_at_call 63; refine HT.out.mono ?_; rintro e w1 ⟨rfl, b1⟩; have q2 := (b1.cell (World.block_lt_of_cell? _ _ q0)).trans q0; have q3 := (b1.cell (World.block_lt_of_cell? _ _ q1)).trans q1; have bt := hb0.trans (b1.mono hb0.size))
      | (go_at_call 64; refine (HC.out _ bt).mono ?_; rintro e w2 ⟨v2, rfl, o2, b2⟩))
    go_ret2
    exact ⟨_, rfl, by rw [HR.out]; exact o2.mono bt.size, bt.trans (b2.mono bt.size)⟩

set_option maxHeartbeats 2000000 in
theorem i_MedianNetwork (n : Nat) (h1 : 1 ≤ n) (h8 : n ≤ 8) (hk : netOk (n : Int) (batI 8 (wiresL 0 n)) = true) (w : World) : Calls Tryz.prog 7 #[.int .i64 (n : Int)] w (RetNetB n (liveL (n / 2) (batI 8 (wiresL 0 n))) w) := by
  have HB := Lib.hid (fun W => i_BatcherNetwork n h1 h8 W)
  have HL := Lib.hid (fun (v u : Value) (W : World) (h : Rd2 W v (batI 8 (wiresL 0 n))) (hu : Rd W u (ints [((n / 2 : Nat) : Int)])) => i_LiveNetwork n (n / 2) v u _ W h hk hu (by omega))
  obtain ⟨w0, B, hw0, hB, hA0, hz0, hb0⟩ := newBox w (.cells #[.int .i64 0, .slice none 0 0] 25)
  have HWB := Lib.hid hw0
  have HBB := Lib.hid hB
  have hq : (n : Int) / 2 = ((n / 2 : Nat) : Int) := by omega
  generalize n / 2 = h at *
  generalize batI 8 (wiresL 0 n) = X at *
  clear hw0 hB hk
  go_enter Tryz.func7, Tryz.ntmps7
  go_upto_region 4 with (go_at_call 5; rw [HWB.out, HBB.out]; refine (HB.out _).mono ?_; rintro e w1 ⟨a1, m1, c1, rfl, o1, b1⟩; obtain ⟨c0, c1'⟩ := box_cells w1 (.int .i64 n) (.slice a1 m1 c1) 25)
  have hbA : Below w1.heap.size w1 ((w1.alloc (.cells #[.int .i64 n, .slice a1 m1 c1] 25)).alloc (.cells #[.int .i64 (h : Int)] 3)) := ((Below.refl _ _).alloc (Nat.le_refl _) _).alloc (by simp) _
  have hS := Own.lit (w1.alloc (.cells #[.int .i64 n, .slice a1 m1 c1] 25)) 3 0 #[.int .i64 (h : Int)] (Nat.zero_le _) (by simp)
  have hS2 : Rd ((w1.alloc (.cells #[.int .i64 n, .slice a1 m1 c1] 25)).alloc (.cells #[.int .i64 (h : Int)] 3)) (.slice (some ⟨w1.heap.size + 1, 0, none⟩) 1 1) (ints [(h : Int)]) := by simpa [ints] using hS.rd
  have hA1 := (b1.block B hz0).trans hA0
  have zB := box_lt hA1
  have HBA := Lib.hid hbA
  have HS2 := Lib.hid hS2
  clear hbA hS hS2
  go_wp2_with (go_at_call 45; refine (HL.out _ _ _ (o1.rd2.below HBA.out) HS2.out).mono ?_; rintro e w3 ⟨a3, m3, c3, rfl, o3, b3⟩; have b13 := HBA.out.trans (b3.mono HBA.out.size); have hA3 := (b13.block B zB).trans hA1; have b03 := b1.trans (b13.mono b1.size); have z3 := HBA.out.size; obtain ⟨d0, d1, f0, f1, q0, q1, oz, bz⟩ := netRes (n := (n : Int)) hA3 (o3.mono (by omega)) (Nat.le_of_eq HBB.out) (hb0.trans (b03.mono hb0.size)))
  exact bodyPost_ret (v := .tuple #[.agg #[.int .i64 (n : Int), .slice a3 m3 c3], .bool true]) (by simp [results, Tryz.results7, go_sem, q0, q1]) rfl ⟨_, _, _, rfl, oz, bz⟩
theorem bat8_ok : netOk ((8 : Nat) : Int) (batI 8 (wiresL 0 8)) = true := by decide +kernel
theorem bat8_len : (batI 8 (wiresL 0 8)).length = 19 := by decide +kernel
theorem bat8_depth : depthOf 8 (batI 8 (wiresL 0 8)) = 6 := by decide +kernel
theorem med8_len : (liveL 4 (batI 8 (wiresL 0 8))).length ≤ 18 := by decide +kernel
theorem bt8_ok : netOk ((8 : Nat) : Int) (btL 3 0) = true := by decide +kernel
theorem bt8_len : (btL 3 0).length = 24 := by decide +kernel
theorem bt8_count : ctOk 8 (btL 3 0) [9, 0, 0, 0, 0, 0, 0, 0] = [2, 1, 1, 1, 1, 1, 1, 1] ∧ tokB 8 [9, 0, 0, 0, 0, 0, 0, 0] = true := by decide +kernel

end Go.Proofs.YtggblfnajeikjaaGreat

namespace Go.Proofs.YtggblfnajeikjaaGreat
open Go.RowKit
set_option linter.unusedVariables false
set_option linter.unusedSimpArgs false

/-- An order and one number more: the first k candidates. -/
def ordK (xs : List Int) : Nat → List (List Int)
  | 0 => []
  | k + 1 => if (k : Int) ∈ xs then ordK xs k else ordK xs k ++ [xs ++ [(k : Int)]]
def ordN (n : Nat) (L : List (List Int)) : List (List Int) := L.flatMap fun xs => ordK xs n
def ordsL (n : Nat) : Nat → List (List Int)
  | 0 => [[]]
  | i + 1 => ordN n (ordsL n i)
theorem ordK_len (xs : List Int) : ∀ k, (ordK xs k).length ≤ k
  | 0 => by simp [ordK]
  | k + 1 => by
    have := ordK_len xs k
    rw [ordK]
    split
    · omega
    · simp; omega
theorem ordN_take {n : Nat} {L : List (List Int)} {q : Nat} {xs : List Int} (h : L[q]? = some xs) : ordN n (L.take (q + 1)) = ordN n (L.take q) ++ ordK xs n := by
  rw [take_snoc' h, ordN, ordN, List.flatMap_append]
  simp
theorem ords6_len : ∀ i, i ≤ 6 → (ordsL 6 i).length ≤ 720 := by
  intro i hi
  obtain rfl | rfl | rfl | rfl | rfl | rfl | rfl : i = 0 ∨ i = 1 ∨ i = 2 ∨ i = 3 ∨ i = 4 ∨ i = 5 ∨ i = 6 := by omega
  all_goals decide +kernel
theorem ords6_row : ∀ i, i ≤ 6 → ∀ xs ∈ ordsL 6 i, xs.length ≤ 6 := by
  intro i hi
  obtain rfl | rfl | rfl | rfl | rfl | rfl | rfl : i = 0 ∨ i = 1 ∨ i = 2 ∨ i = 3 ∨ i = 4 ∨ i = 5 ∨ i = 6 := by omega
  all_goals decide +kernel
theorem ordN_le {n : Nat} : ∀ {L : List (List Int)}, (ordN n L).length ≤ n * L.length
  | [] => by simp [ordN]
  | xs :: t => by
    have h1 := ordK_len xs n
    have h2 := ordN_le (n := n) (L := t)
    simp only [ordN, List.flatMap_cons, List.length_append, List.length_cons] at *
    rw [Nat.mul_add]
    omega
theorem ords6_can : ((ordsL 6 6).filter canB).length = 132 := by decide +kernel
section
variable {w wr w6 : World} {rows : List Value} {vo u : Value} {xss : List (List Int)} {xs : List Int} {b6 : Option Addr} {m c6 : Nat}
theorem pushR (hov : Own wr 33 w.heap.size vo rows) (hrp : RowsP wr w.heap.size rows xss) (hb : Below w.heap.size w wr) (hr : Own wr 3 w.heap.size u (ints xs)) (ho6 : Own w6 33 w.heap.size (.slice b6 (m + 1) c6) (rows ++ [u]))
    (hg6 : wr.grownBy w6 vo.ownBlock) : OwnP w6 w.heap.size (.slice b6 (m + 1) c6) (xss ++ [xs]) ∧ Below w.heap.size w w6 :=
  ⟨⟨_, ho6, (hrp.app (RowsP.single hr)).outer hg6 hov⟩, hb.grown hg6 hb.size (fun r hr => (hov.lt r hr).1)⟩
end

set_option maxRecDepth 100000 in
set_option maxHeartbeats 4000000 in
theorem i_orders6 (w : World) : Calls Tryz.prog 54 #[.int .i64 6] w (RetOwnP (ordsL 6 6) w) := by
  have h00 : OwnP ((w.alloc (.cells #[] 3)).alloc (.cells #[.slice (some ⟨w.heap.size, 0, none⟩) 0 0] 33)) w.heap.size (.slice (some ⟨w.heap.size + 1, 0, none⟩) 1 1) (ordsL 6 0) := by
    have h1 := Own.lit0 (B := w.heap.size) w 3 (Nat.le_refl _)
    have h2 := Own.lit (w.alloc (.cells #[] 3)) 33 w.heap.size #[.slice (some ⟨w.heap.size, 0, none⟩) 0 0] (by simp) (by simp)
    exact ⟨[.slice (some ⟨w.heap.size, 0, none⟩) 0 0], by simpa using h2, RowsP.single (xs := []) ((h1.alloc _))⟩
  have hb00 : Below w.heap.size w ((w.alloc (.cells #[] 3)).alloc (.cells #[.slice (some ⟨w.heap.size, 0, none⟩) 0 0] 33)) := ((Below.refl _ _).alloc (Nat.le_refl _) _).alloc (by simp) _
  go_enter Tryz.func54, Tryz.ntmps54
  go_wp2_with fail
  go_loopg [3, 11] 6 (fun gk vo iv wr => ∃ i : Nat, gk = 6 - i ∧ i ≤ 6 ∧ iv = .int .i64 (i : Int) ∧ OwnP wr w.heap.size vo (ordsL 6 i) ∧ Below w.heap.size w wr)
  case atStart => exact ⟨0, rfl, Nat.zero_le _, rfl, h00, hb00⟩
  case round =>
    clear h00 hb00
    obtain ⟨w1, rfl⟩ : ∃ w1 : World, w1 = wr := ⟨_, rfl⟩
    obtain ⟨i, hg, hi, rfl, ho, hb⟩ := hrel
    by_cases hlt : i < 6
    · have HL0 := Lib.hid (ords6_len i hi)
      have HRW := Lib.hid (ords6_row i hi)
      have HNX : Hid (ordsL 6 (i + 1) = ordN 6 (ordsL 6 i)) := rfl
      have HSQ := Lib.hid (fun (q : Nat) (xs : List Int) (h : (ordsL 6 i)[q]? = some xs) => ordN_take (n := 6) h)
      have HLN := Lib.hid (fun (q : Nat) => ordN_le (n := 6) (L := (ordsL 6 i).take q))
      obtain ⟨L, hL⟩ : ∃ L, ordsL 6 i = L := ⟨_, rfl⟩
      rw [hL] at ho HL0 HRW HNX HSQ HLN
      clear hL
      obtain ⟨ao, n, co, rfl, HN, hnc, hc9⟩ := ho.formN
      have hn7 : n ≤ 720 := by have := HN.out; have := HL0.out; omega
      have i6 : (i : Int) < 6 := by omega
      go_wp2_with fail
      go_loopg [4, 16] n (fun gk vl iv wr => ∃ q : Nat, gk = n - q ∧ q ≤ n ∧ iv = .int .i64 (q : Int) ∧ OwnP wr w1.heap.size vl (ordN 6 (L.take q)) ∧ Below w1.heap.size w1 wr)
      case atStart => exact ⟨0, rfl, Nat.zero_le _, rfl, OwnP.lit0 w1 (Nat.le_refl _), (Below.refl _ _).alloc (Nat.le_refl _) _⟩
      case round =>
        obtain ⟨q, hgq, hqn, rfl, hl, hb1⟩ := hrel
        by_cases hq : q < n
        · obtain ⟨ad, br, mr, cr, xs, rfl, hcr0, HXS, HMX, hmcr, hcr9, hrr⟩ := ho.rd2.row (k := q) (by have := HN.out; omega)
          have hxl : xs.length ≤ 6 := HRW.out xs (List.mem_of_getElem? HXS.out)
          have hcr := (hb1.cell (World.block_lt_of_cell? _ _ hcr0)).trans hcr0
          have HSQ1 := Lib.hid (HSQ.out q xs HXS.out)
          have hbd : (ordN 6 (L.take q)).length ≤ 4320 := by have := HLN.out q; rw [List.length_take] at this; omega
          have HBD := Lib.hid hbd
          have iq : (q : Int) < (n : Int) := by omega
          obtain ⟨w2, rfl⟩ : ∃ w2 : World, w2 = wr := ⟨_, rfl⟩
          have hl0 := hl
          rw [show ordN 6 (L.take q) = ordN 6 (L.take q) ++ ordK xs 0 by simp [ordK]] at hl0
          obtain ⟨nr, hnr⟩ : ∃ nr, xs.length = nr := ⟨_, rfl⟩
          clear hl hbd
          go_wp2_with fail
          go_loopg [4, 21] 6 (fun gk vl kv wr => ∃ k : Nat, gk = 6 - k ∧ k ≤ 6 ∧ kv = .int .i64 (k : Int) ∧ OwnP wr w1.heap.size vl (ordN 6 (L.take q) ++ ordK xs k) ∧ Below w1.heap.size w1 wr)
          case atStart => exact ⟨0, rfl, Nat.zero_le _, rfl, hl0, hb1⟩
          case round =>
            clear hl0 hb1 hcr hcr0
            obtain ⟨w2, rfl⟩ : ∃ w2 : World, w2 = wr := ⟨_, rfl⟩
            obtain ⟨k, hgk, hk6, rfl, hl, hb1⟩ := hrel
            by_cases hk : k < 6
            · have k6 : (k : Int) < 6 := by omega
              have HC := Lib.hid (f_Contains _ xs (k : Int) w2 (hrr.below hb1))
              by_cases hm : (k : Int) ∈ xs
              · have HS : Hid (ordK xs (k + 1) = ordK xs k) := by rw [Hid, ordK, if_pos hm]
                rw [decide_eq_true hm] at HC
                clear hm
                go_wp2_with (go_at_call 92; refine HC.out.mono ?_; rintro e w' ⟨rfl, rfl⟩)
                go_roundg (6 - (k + 1))
                case measure => omega
                case rel => exact ⟨k + 1, rfl, hk, by go_num, by rw [HS.out]; exact hl, hb1⟩
              · have HS : Hid (ordN 6 (L.take q) ++ ordK xs (k + 1) = ordN 6 (L.take q) ++ ordK xs k ++ [xs ++ [(k : Int)]]) := by rw [Hid, ordK, if_neg hm, List.append_assoc]
                rw [decide_eq_false hm] at HC
                obtain ⟨al, ml, cl, rows, rfl, hov, hrp, HLR, HML⟩ := OwnP.parts (w := w2) hl
                have hml : ml ≤ 4400 := by have h1 := HML.out; have h2 := ordK_len xs k; have h3 := HBD.out; rw [List.length_append] at h1; omega
                have HCL := Lib.hid (f_Clone _ xs w2 (hrr.below hb1) (by omega))
                have hs1 := hb1.size
                clear hm hl
                go_wp2_with (first
                  | (go_at_call 92; refine HC.out.mono ?_; rintro e w' ⟨rfl, rfl⟩)
                  | (go_at_call 70; refine HCL.out.mono ?_; rintro e w3 ⟨v3, rfl, o3, b3⟩; obtain ⟨a3, m3, c3, rfl, HM3, _, _⟩ := o3.rd.formN; have hm3 : m3 ≤ 6 := (by have := HM3.out; omega); have HL3 : Hid ((ints xs).length = m3) := (by rw [Hid, ints_length]; exact HM3.out.symm); have hs3 := b3.size)
                  | (at_builtin; refine wpList_app1m rfl _ _ 33 rfl elI rfl o3 (by show Value.slice (some ⟨w3.heap.size, 0, none⟩) 1 1 = _; simp) rfl hs3 _ HL3.out (by omega) (by omega) ?_; clear hs3; intro b4 c4 w4 ho4 hg4 hat4; have b24 := b3.grown hg4 b3.size (fun r hr => (o3.lt r hr).1); have hov4 := hov.below b24; have hrp4 := hrp.below b24; have hb4 := hb1.trans (b24.mono hs1); have hs4 := hb4.size; have ho4' := ho4.mono (B' := w1.heap.size) hs1; clear HL3)
                  | (at_builtin; refine wpList_app1m rfl _ _ 23 rfl elII rfl hov4 (by show Value.slice (some ⟨w4.heap.size, 0, none⟩) 1 1 = _; simp) rfl hs4 _ HLR.out (by omega) (by omega) ?_; intro b5 c5 w5 ho5 hg5 hat5; obtain ⟨q1, q2⟩ := pushR (xs := xs ++ [(k : Int)]) hov4 hrp4 hb4 (by rw [ints_append]; exact ho4') ho5 hg5)
                  )
                go_roundg (6 - (k + 1))
                case measure => omega
                case rel => exact ⟨k + 1, rfl, hk, by go_num, by rw [HS.out]; exact q1, q2⟩
            · obtain rfl : k = 6 := by omega
              rw [← HSQ1.out] at hl
              go_wp2_with fail
              go_roundg (n - (q + 1))
              case measure => omega
              case rel => exact ⟨q + 1, rfl, hq, by go_num, hl, hb1⟩
        · obtain rfl : q = n := by omega
          rw [List.take_of_length_le (by have := HN.out; omega), ← HNX.out] at hl
          go_wp2_with fail
          go_roundg (6 - (i + 1))
          case measure => omega
          case rel => exact ⟨i + 1, rfl, hlt, by go_num, hl.mono hb.size, hb.trans (hb1.mono hb.size)⟩
    · obtain rfl : i = 6 := by omega
      go_wp2_with fail
      go_ret
      exact ⟨_, rfl, ho, hb⟩

set_option maxHeartbeats 2000000 in
theorem i_CountStackSortable6 (w : World) : Calls Tryz.prog 17 #[.int .i64 6] w (RetB (.int .i64 132) w) := by
  have HO := Lib.hid (i_orders6 w)
  have HLL := Lib.hid (ords6_len 6 (by omega))
  have HRW := Lib.hid (ords6_row 6 (by omega))
  have HCN := Lib.hid ords6_can
  generalize ordsL 6 6 = L at *
  go_enter Tryz.func17, Tryz.ntmps17
  go_wp2_with (go_at_call 54; refine HO.out.mono ?_; rintro e w1 ⟨v1, rfl, o1, b1⟩; obtain ⟨a1, n, c1, rfl, HN, _, _⟩ := o1.formN)
  have hn : n ≤ 720 := by have := HN.out; have := HLL.out; omega
  go_loopg [3, 15] n (fun gk mv iv wr => ∃ (q m : Nat), gk = n - q ∧ q ≤ n ∧ iv = .int .i64 (q : Int) ∧ mv = .int .i64 (m : Int) ∧ Hid (((L.take q).filter canB).length = m) ∧ m ≤ q ∧ Below w1.heap.size w1 wr)
  case atStart => exact ⟨0, 0, rfl, Nat.zero_le _, rfl, rfl, rfl, Nat.le_refl _, Below.refl _ _⟩
  case round =>
    obtain ⟨q, m, hg, hq, rfl, rfl, HM, hmq, hb⟩ := hrel
    by_cases hlt : q < n
    · obtain ⟨ad, br, mr, cr, xs, rfl, hcr, HXS, HMX, hmcr, hcr9, hrr⟩ := (o1.rd2.below hb).row (k := q) (by have := HN.out; omega)
      have hxl : xs.length ≤ 6 := HRW.out xs (List.mem_of_getElem? HXS.out)
      have HC := Lib.hid (i_canStackSort _ xs wr hrr (by omega))
      have HT := Lib.hid (take_snoc' HXS.out)
      have iq : (q : Int) < (n : Int) := by omega
      cases hc : canB xs
      · rw [hc] at HC
        have HM2 : Hid (((L.take (q + 1)).filter canB).length = m) := by rw [Hid, HT.out, List.filter_append, List.length_append, HM.out]; simp [hc]
        clear hc
        go_wp2_with (go_at_call 55; refine HC.out.mono ?_; rintro e w2 ⟨rfl, b2⟩)
        go_roundg (n - (q + 1))
        case measure => omega
        case rel => exact ⟨q + 1, m, rfl, hlt, by go_num, rfl, HM2, by omega, hb.trans (b2.mono hb.size)⟩
      · rw [hc] at HC
        have HM2 : Hid (((L.take (q + 1)).filter canB).length = m + 1) := by rw [Hid, HT.out, List.filter_append, List.length_append, HM.out]; simp [hc]
        clear hc
        go_wp2_with (go_at_call 55; refine HC.out.mono ?_; rintro e w2 ⟨rfl, b2⟩)
        go_roundg (n - (q + 1))
        case measure => omega
        case rel => exact ⟨q + 1, m + 1, rfl, hlt, by go_num, by go_num, HM2, by omega, hb.trans (b2.mono hb.size)⟩
    · obtain rfl : q = n := by omega
      obtain rfl : m = 132 := by
        have h1 := HM.out
        have h2 := HCN.out
        rw [List.take_of_length_le (by have := HN.out; omega)] at h1
        omega
      go_wp2
      go_ret
      exact ⟨rfl, b1.trans (hb.mono b1.size)⟩

end Go.Proofs.YtggblfnajeikjaaGreat

namespace Go.Proofs.YtggblfnajeikjaaGreat
open Go.RowKit
set_option linter.unusedVariables false
set_option linter.unusedSimpArgs false

def RetOwnT2 (xs : List Int) (w : World) (e : Ending) (w' : World) : Prop :=
  ∃ v, e = .returned (.tuple #[v, .bool true]) ∧ Own w' 3 w.heap.size v (ints xs) ∧ Below w.heap.size w w'
set_option maxHeartbeats 1000000 in
theorem i_ApplyOk2 (N : Nat) (v u : Value) (xss : List (List Int)) (xs : List Int) (w : World) (h : Rd2 w v xss) (hu : Rd w u (ints xs)) (hk : netOk (N : Int) xss = true) (hx : xs.length = N) :
    Calls Tryz.prog 25 #[.agg #[.int .i64 N, v], u] w (RetOwnT2 (apM xss xs xss.length) w) := by
  obtain ⟨N', hN', h1, h8, _⟩ := netOk_n hk
  obtain ⟨a0, c0, rfl, _, _⟩ := h.form
  obtain ⟨au, mu, cu, rfl, HU, _, _⟩ := hu.formN
  obtain rfl : mu = N := by have := HU.out; omega
  have hbA : Below w.heap.size w (w.alloc (.cells #[.int .i64 mu, .slice a0 xss.length c0] 25)) := (Below.refl _ _).alloc (Nat.le_refl _) _
  have bx := Lib.hid (box_cells w (.int .i64 mu) (.slice a0 xss.length c0) 25)
  have HOK := Lib.hid (i_NetworkOk (mu : Int) _ xss _ (h.below hbA) ⟨by omega, by omega⟩)
  rw [hk] at HOK
  have HA := Lib.hid (fun (W : World) (hW : Below w.heap.size w W) => i_apply mu (mu : Int) _ _ xss xs W (h.below hW) (hu.below hW) hx (by omega) (Lib.hid (fun k xs => netOk_row hk)))
  have e1 : ((mu : Int) != (mu : Int)) = false := by simp
  clear hk hx hN'
  go_enter Tryz.func25, Tryz.ntmps25
  go_wp2_with (first
    | (go_at_call 48; refine HOK.out.mono ?_; rintro e w2 ⟨rfl, hb2⟩
       have hb3 := hbA.trans (hb2.mono hbA.size)
       have c0' := (hb2.cell (p := ⟨w.heap.size, 0, none⟩) (by simp)).trans bx.out.1
       have c1' := (hb2.cell (p := ⟨w.heap.size, 1, none⟩) (by simp)).trans bx.out.2)
    | (go_at_call 62; refine (HA.out _ hb3).mono ?_; rintro e w4 ⟨vo, rfl, ho4, hb4⟩))
  go_ret2
  exact ⟨_, rfl, ho4.mono hb3.size, hb3.trans (hb4.mono hb3.size)⟩

end Go.Proofs.YtggblfnajeikjaaGreat
