/- Walks: lists of faults. -/
import Derived.Test.YtlmbaijkeahkfaaDoorFlt2
import Derived.Test.YtlmbaijkeahkfaaDoorLevelP0
import Derived.Deep.DeepCutAuto
namespace Go.Proofs.YtlmbaijkeahkfaaDoor
open Go.RowKit
set_option linter.unusedVariables false
set_option linter.unusedSimpArgs false

def fltAt (p : Nat → Nat → Bool) (i k : Nat) : List (List Int) := ((List.range k).filter (p i)).map fun (kd : Nat) => [(i : Int), (kd : Int)]
def faultsL (p : Nat → Nat → Bool) : Nat → List (List Int)
  | 0 => []
  | i + 1 => faultsL p i ++ fltAt p i 3
theorem fltAt_yes {p : Nat → Nat → Bool} {i k : Nat} (h : p i k = true) : fltAt p i (k + 1) = fltAt p i k ++ [[(i : Int), (k : Int)]] := by simp [fltAt, List.range_succ, h]
theorem fltAt_no {p : Nat → Nat → Bool} {i k : Nat} (h : p i k = false) : fltAt p i (k + 1) = fltAt p i k := by simp [fltAt, List.range_succ, h]
theorem fltAt_len (p : Nat → Nat → Bool) (i k : Nat) : (fltAt p i k).length ≤ k := by
  rw [fltAt, List.length_map]
  exact Nat.le_trans (List.length_filter_le _ _) (by simp)
theorem faultsL_len (p : Nat → Nat → Bool) : ∀ i, (faultsL p i).length ≤ 3 * i
  | 0 => Nat.le_refl _
  | i + 1 => by
    have := faultsL_len p i
    have := fltAt_len p i 3
    simp only [faultsL, List.length_append]
    omega
def hidB (N : Nat) (xss : List (List Int)) (i kd : Nat) : Bool := decide ((testsL xss i kd (2 ^ N)).length = 0)
def hiddenL (n : Int) (xss : List (List Int)) : List (List Int) := if netOk n xss then faultsL (hidB n.toNat xss) xss.length else []
/-- A literal row of two numbers goes onto a slice of rows. -/
theorem row2_own (w : World) (x y : Int) (B : Nat) (hB : B ≤ w.heap.size) (E : Nat) : Own (w.alloc (.cells #[.int .i64 x, .int .i64 y] E)) E B (.slice (some ⟨w.heap.size, 0, none⟩) 2 2) (ints [x, y]) := Own.lit w E B #[.int .i64 x, .int .i64 y] hB (by simp)

set_option maxHeartbeats 2000000 in
theorem i_faults (p : Nat → Nat → Bool) (fn : Nat) (cap : Array Value) (hkn : Known fn) (n : Int) (v : Value) (xss : List (List Int)) (w : World) (h : Rd2 w v xss) (hl : xss.length ≤ 60)
    (hf : ∀ (i kd : Nat) (W : World), i < xss.length → kd < 3 → Below w.heap.size w W → Calls Tryd.prog fn (#[.int .i64 i, .int .i64 kd] ++ cap) W (RetB (.bool (p i kd)) W)) :
    Calls Tryd.prog 113 #[.agg #[.int .i64 n, v], .func (.func fn) #[] cap] w (RetOwn2 (faultsL p xss.length) w) := by
  obtain ⟨a, c, rfl, _, _⟩ := h.form
  obtain ⟨w0, hw0, hb0, hz0, c0, c1⟩ := net_box w (.int .i64 n) (.slice a xss.length c) 32
  have HF0 := Lib.hid hf
  have C1 := Lib.hid c1
  obtain ⟨L, hL⟩ : ∃ L, xss.length = L := ⟨_, rfl⟩
  rw [hL] at hl HF0 c1 C1 hw0 h ⊢
  clear hf hL
  go_enter Tryd.func113, Tryd.ntmps113
  have e1 : (w0.alloc (.cells #[] 22)).cell? ⟨w.heap.size, 1, none⟩ = some (.slice a L c) := (World.cell?_alloc_lt _ _ _ (World.block_lt_of_cell? _ _ c1)).trans c1
  have hb1 : Below (w.heap.size + 1) w0 (w0.alloc (.cells #[] 22)) := (Below.refl _ _).alloc (by omega) _
  go_wp2
  clear c0 c1 hw0 e1
  go_loopg [5, 12] L (fun g vo iv wr => ∃ i : Nat, g = L - i ∧ i ≤ L ∧ iv = .int .i64 i ∧ Own2 wr 22 3 (w.heap.size + 1) wr.heap.size vo (faultsL p i) ∧ Below (w.heap.size + 1) w0 wr)
  case atStart => exact ⟨0, rfl, Nat.zero_le _, rfl, by
    refine ⟨[], ?_, fun k hk => ?_, RowsOwn.nil _ _ _ _⟩
    · have := Own.lit0 (B := w.heap.size + 1) w0 22 (by omega)
      rw [hz0] at this
      exact this
    · simp [Value.ownBlock] at hk
      simp
      omega, hb1⟩
  case round =>
    clear hb1
    obtain ⟨i, hg, hil, rfl, ho, hb⟩ := hrel
    obtain ⟨ao, co, rfl, _, _⟩ := ho.form
    by_cases hlt : i < L
    · go_wp2
      rename_i wo
      obtain ⟨no, hno⟩ : ∃ no, (faultsL p i).length = no := ⟨_, rfl⟩
      rw [hno] at ho ⊢
      clear hno
      go_loopg [5, 7] 3 (fun g vo kv wr => ∃ kd : Nat, g = 3 - kd ∧ kd ≤ 3 ∧ kv = .int .i64 kd ∧ Own2 wr 22 3 (w.heap.size + 1) wr.heap.size vo (faultsL p i ++ fltAt p i kd) ∧ Below (w.heap.size + 1) w0 wr)
      case atStart => exact ⟨0, rfl, Nat.zero_le _, rfl, by simpa [fltAt] using ho, hb⟩
      case round =>
        clear ho hb
        obtain ⟨kd, hgk, hkl, rfl, ho, hb⟩ := hrel
        by_cases hltk : kd < 3
        · have d0 : decide ((kd : Int) ≤ 2) = true := by simp; omega
          have hbw : Below w.heap.size w wr := hb0.trans (hb.mono (by omega))
          have HF := Lib.hid (HF0.out i kd wr hlt hltk hbw)
          have hcall := hkn (#[.int .i64 i, .int .i64 kd] ++ cap) wr
          cases hp : p i kd
          · rw [hp] at HF
            have HA := Lib.hid (fltAt_no hp)
            clear hp
            go_wp2_with ((with_reducible refine (HF.out).mono ?_); rintro e w2 ⟨rfl, hb2⟩)
            go_roundg (3 - (kd + 1))
            case measure => omega
            case rel => exact ⟨kd + 1, rfl, by omega, by go_num, by rw [HA.out]; exact (ho.below hb2).mono (Nat.le_refl _) hb2.size, hb.trans (hb2.mono hb.size |>.mono (by have := hb.size; omega))⟩
          · rw [hp] at HF
            have HA := Lib.hid (fltAt_yes hp)
            clear hp
            obtain ⟨rows, hov, hT, hrows⟩ := ho
            have hrl : rows.length ≤ 200 := by
              have e1 := hrows.1
              have e2 := faultsL_len p i
              have e3 := fltAt_len p i kd
              rw [List.length_append] at e1
              omega
            obtain ⟨aq, cq, rfl, _, _⟩ := hov.rd.form
            obtain ⟨nr, hnr⟩ : ∃ nr, rows.length = nr := ⟨_, rfl⟩
            have HNR := Lib.hid hnr
            rw [hnr] at hov hrl ⊢
            clear hnr
            have hsb := hb.size
            go_upto_region 9 with ((with_reducible refine (HF.out).mono ?_); rintro e w2 ⟨rfl, hb2⟩)
            obtain ⟨w3, hw3⟩ : ∃ w3, w2.alloc (.cells #[.int .i64 i, .int .i64 kd] 3) = w3 := ⟨_, rfl⟩
            have hs2 := hb2.size
            have hs3 : w3.heap.size = w2.heap.size + 1 := by rw [← hw3]; simp
            have hb3 : Below wr.heap.size wr w3 := by rw [← hw3]; exact hb2.alloc hb2.size _
            have hrow : Own w3 3 w2.heap.size (.slice (some ⟨w2.heap.size, 0, none⟩) 2 2) (ints [(i : Int), (kd : Int)]) := by rw [← hw3]; exact row2_own w2 _ _ _ (Nat.le_refl _) _
            have hov3 := hov.below hb3
            have hB3 : w.heap.size + 1 ≤ w3.heap.size := by omega
            have hn1 : (nr + 1) * 24 ≤ 140737488355328 := by omega
            have hn2 : nr + 1 ≤ 9223372036854775807 := by omega
            go_wp2_with (at_builtin; (refine wpList_app1m rfl _ _ 27 rfl elII ?_ hov3 ?_ ?_ hB3 nr HNR.out hn1 hn2 ?_); (focus exact rfl); (focus (simp [Act.eval])); (focus exact rfl); intro bn cn' w6 ho6 hg6 hat6)
            have ho7 := Own2.app ((hrows.below hb3).snoc (hrow.mono (show w.heap.size + 1 ≤ w2.heap.size by omega)) (fun k hk => by simp [Value.ownBlock] at hk; omega) (show wr.heap.size ≤ w3.heap.size by omega)) hov3 (by decide) hg6 ho6 hg6.size
            have hb7 := (hb.trans (hb3.mono (by omega))).grown hg6 hB3 fun r hr => (hov3.lt r hr).1
            go_roundg (3 - (kd + 1))
            case measure => omega
            case rel => exact ⟨kd + 1, rfl, by omega, by go_num, by rw [HA.out, ← List.append_assoc]; exact ho7, hb7⟩
        · obtain rfl : kd = 3 := by omega
          go_wp2
          go_roundg (L - (i + 1))
          case measure => omega
          case rel => exact ⟨i + 1, rfl, by omega, by go_num, ho, hb⟩
    · obtain rfl : L = i := by omega
      go_wp2
      go_ret
      exact ⟨_, rfl, ho.mono (by omega) (Nat.le_refl _), hb0.trans (hb.mono (by omega))⟩

theorem k_Hid1 : Known 114 := known Tryd.func114 (by kernel_rfl) (by kernel_rfl)
set_option maxHeartbeats 1000000 in
theorem i_Hid1 (N : Nat) (a : Option Addr) (c b : Nat) (xss : List (List Int)) (idx kind : Nat) (w : World) (h : Rd2 w (.slice a xss.length c) xss) (hk : netOk (N : Int) xss = true) (hkd : kind ≤ 2)
    (c0 : w.cell? ⟨b, 0, none⟩ = some (.int .i64 N)) (c1 : w.cell? ⟨b, 1, none⟩ = some (.slice a xss.length c)) :
    Calls Tryd.prog 114 #[.int .i64 idx, .int .i64 kind, .pointer (some ⟨b, 0, none⟩)] w (RetB (.bool (hidB N xss idx kind)) w) := by
  have HT := i_tests N _ xss idx kind w h hk hkd
  have HR : Hid (hidB N xss idx kind = decide ((testsL xss idx kind (2 ^ N)).length = 0)) := rfl
  obtain ⟨ts, hts⟩ : ∃ ts, testsL xss idx kind (2 ^ N) = ts := ⟨_, rfl⟩
  rw [hts] at HT HR
  clear hts hk
  go_enter Tryd.func114, Tryd.ntmps114
  go_wp2_with (go_at_call 115; refine HT.mono ?_; rintro e w2 ⟨vo, rfl, ho, hb⟩; obtain ⟨ao, no, co, rfl, HN, _, _⟩ := ho.rd.formN)
  go_ret
  exact ⟨ret_bool (by
    rw [HR.out, ← HN.out]
    by_cases e : no = 0
    · simp [e]
    · have : ¬ (no : Int) = 0 := by omega
      simp [e, this]), hb⟩
theorem hiddenL_ok {n : Int} {xss : List (List Int)} (h : netOk n xss = true) : hiddenL n xss = faultsL (hidB n.toNat xss) xss.length := by rw [hiddenL, if_pos h]
theorem hiddenL_no {n : Int} {xss : List (List Int)} (h : netOk n xss = false) : hiddenL n xss = [] := by rw [hiddenL, if_neg (by simp [h])]
theorem hiddenL_len (n : Int) (xss : List (List Int)) : (hiddenL n xss).length ≤ 180 := by
  cases hk : netOk n xss
  · rw [hiddenL_no hk]; simp
  · rw [hiddenL_ok hk]
    obtain ⟨N, rfl, _, _, h60⟩ := netOk_n hk
    have := faultsL_len (hidB (N : Int).toNat xss) xss.length
    omega
set_option maxHeartbeats 1000000 in
theorem i_HiddenFaults (n : Int) (v : Value) (xss : List (List Int)) (w : World) (h : Rd2 w v xss) (hn : I64 n) : Calls Tryd.prog 62 #[.agg #[.int .i64 n, v]] w (RetOwn2 (hiddenL n xss) w) := by
  obtain ⟨a, c, rfl, h2, h3⟩ := h.form
  obtain ⟨w0, hw0, hb0, hz0, c0, c1⟩ := net_box w (.int .i64 n) (.slice a xss.length c) 32
  have h' := h.below hb0
  have HN := i_NetworkOk n _ xss _ h' hn
  cases hk : netOk n xss
  · rw [hk] at HN
    have HR := Lib.hid (hiddenL_no hk)
    go_enter Tryd.func62, Tryd.ntmps62
    go_wp2_with (go_at_call 48; refine HN.mono ?_; rintro e w2 ⟨rfl, hb2⟩)
    go_ret
    rw [HR.out]
    exact ⟨_, rfl, Own2.nil _ _ _ _ _, hb0.trans (hb2.mono (by omega))⟩
  rw [hk] at HN
  have HR := Lib.hid (hiddenL_ok hk)
  obtain ⟨N, rfl, hN1, hN8, hL60⟩ := netOk_n hk
  have C0 := Lib.hid c0
  have C1 := Lib.hid c1
  have HF : Hid (∀ w2 : World, Below w.heap.size w w2 → w2.cell? ⟨w.heap.size, 0, none⟩ = some (.int .i64 N) → w2.cell? ⟨w.heap.size, 1, none⟩ = some (.slice a xss.length c) → Calls Tryd.prog 113 #[.agg #[.int .i64 N, .slice a xss.length c], .func (.func 114) #[] #[.pointer (some ⟨w.heap.size, 0, none⟩)]] w2 (RetOwn2 (faultsL (hidB N xss) xss.length) w2)) := fun w2 hb d0 d1 =>
    i_faults (hidB N xss) 114 #[.pointer (some ⟨w.heap.size, 0, none⟩)] k_Hid1 N _ xss w2 (h.below hb) hL60 fun i kd W hi hkd hW =>
      i_Hid1 N a c w.heap.size xss i kd W (h.below (hb.trans (hW.mono hb.size))) hk (by omega) ((hW.cell (World.block_lt_of_cell? _ _ d0)).trans d0) ((hW.cell (World.block_lt_of_cell? _ _ d1)).trans d1)
  clear hk
  go_enter Tryd.func62, Tryd.ntmps62
  go_wp2_with (first
    | (go_at_call 48; refine HN.mono ?_; rintro e w2 ⟨rfl, hb2⟩; have hbw2 : Below w.heap.size w w2 := hb0.trans (hb2.mono (by omega)); obtain ⟨c0, c1⟩ := Below.cells2 hb2 (show w.heap.size < w0.heap.size by omega) C0.out C1.out)
    | (go_at_call 113; refine (HF.out _ hbw2 c0 c1).mono ?_; rintro e w3 ⟨vo, rfl, ho, hb3⟩; obtain ⟨ao, co, rfl, _, _⟩ := ho.form))
  go_ret
  rw [HR.out]
  exact ⟨_, rfl, ho.mono hbw2.size (Nat.le_refl _), hbw2.trans (hb3.mono hbw2.size)⟩

set_option maxHeartbeats 2000000 in
theorem s_HiddenFaults (n : Int) (v : Value) (xss : List (List Int)) (w : World) (h : Rd2 w v xss) (hn : I64 n) : Calls Tryd.prog 60 #[.agg #[.int .i64 n, v]] w (RetOwn2 (hiddenL n xss) w) := by
  obtain ⟨a, c, rfl, h2, h3⟩ := h.form
  obtain ⟨w0, hw0, hb0, hz0, c0, c1⟩ := net_box w (.int .i64 n) (.slice a xss.length c) 32
  have h' := h.below hb0
  have HN := s_NetworkOk n _ xss _ h' hn
  cases hk : netOk n xss
  · rw [hk] at HN
    have HR := Lib.hid (hiddenL_no hk)
    go_enter Tryd.func60, Tryd.ntmps60
    go_wp2_with (go_at_call 44; refine HN.mono ?_; rintro e w2 ⟨rfl, hb2⟩)
    go_ret
    rw [HR.out]
    exact ⟨_, rfl, Own2.nil _ _ _ _ _, hb0.trans (hb2.mono (by omega))⟩
  rw [hk] at HN
  have HR := Lib.hid (hiddenL_ok hk)
  obtain ⟨N, rfl, hN1, hN8, hL60⟩ := netOk_n hk
  rw [Int.toNat_natCast] at HR
  have C0 := Lib.hid c0
  have C1 := Lib.hid c1
  have HF0 := Lib.hid (fun (i kd : Nat) (W : World) (hi : i < xss.length) (hkd : kd < 3) (hW : Below w.heap.size w W) => s_TestsFor N _ xss i kd W (h.below hW) hk hi (by omega))
  have HP : Hid (∀ i kd, hidB N xss i kd = decide ((testsL xss i kd (2 ^ N)).length = 0)) := fun i kd => rfl
  obtain ⟨p, hp0⟩ : ∃ p, hidB N xss = p := ⟨_, rfl⟩
  rw [hp0] at HP HR
  obtain ⟨L, hL⟩ : ∃ L, xss.length = L := ⟨_, rfl⟩
  rw [hL] at hL60 HF0 HR c1 C1 hw0 h HN
  clear hk hp0
  go_enter Tryd.func60, Tryd.ntmps60
  rw [hL]
  go_upto_region 4 with (go_at_call 44; refine HN.mono ?_; rintro e w2 ⟨rfl, hb2⟩; have hbw2 : Below w.heap.size w w2 := hb0.trans (hb2.mono (by omega)); obtain ⟨c0, c1⟩ := Below.cells2 hb2 (show w.heap.size < w0.heap.size by omega) C0.out C1.out)
  have hb2' : Below (w.heap.size + 1) w0 w2 := hb2.mono (by omega)
  have hs2 : w.heap.size + 1 ≤ w2.heap.size := by have := hb2.size; omega
  have e1 : (w2.alloc (.cells #[] 22)).cell? ⟨w.heap.size, 1, none⟩ = some (.slice a L c) := (World.cell?_alloc_lt _ _ _ (World.block_lt_of_cell? _ _ c1)).trans c1
  have hb1 : Below (w.heap.size + 1) w0 (w2.alloc (.cells #[] 22)) := Below.alloc' hb2' (by omega) _
  go_wp2
  clear c0 c1 hw0 e1 HN hL
  go_loopg [3, 13] L (fun g vo iv wr => ∃ i : Nat, g = L - i ∧ i ≤ L ∧ iv = .int .i64 i ∧ Own2 wr 22 3 (w.heap.size + 1) wr.heap.size vo (faultsL p i) ∧ Below (w.heap.size + 1) w0 wr)
  case atStart => exact ⟨0, rfl, Nat.zero_le _, rfl, by
    refine ⟨[], ?_, fun k hk => ?_, RowsOwn.nil _ _ _ _⟩
    · exact Own.lit0 (B := w.heap.size + 1) w2 22 hs2
    · simp [Value.ownBlock] at hk
      simp
      omega, hb1⟩
  case round =>
    clear hb1 hb2 hbw2 hb2' hs2
    obtain ⟨i, hg, hil, rfl, ho, hb⟩ := hrel
    obtain ⟨ao, co, rfl, _, _⟩ := ho.form
    by_cases hlt : i < L
    · go_wp2
      rename_i wo
      obtain ⟨no, hno⟩ : ∃ no, (faultsL p i).length = no := ⟨_, rfl⟩
      rw [hno] at ho ⊢
      clear hno
      go_loopg [3, 5] 3 (fun g vo kv wr => ∃ kd : Nat, g = 3 - kd ∧ kd ≤ 3 ∧ kv = .int .i64 kd ∧ Own2 wr 22 3 (w.heap.size + 1) wr.heap.size vo (faultsL p i ++ fltAt p i kd) ∧ Below (w.heap.size + 1) w0 wr)
      case atStart => exact ⟨0, rfl, Nat.zero_le _, rfl, by simpa [fltAt] using ho, hb⟩
      case round =>
        clear ho hb
        obtain ⟨kd, hgk, hkl, rfl, ho, hb⟩ := hrel
        by_cases hltk : kd < 3
        · have d0 : decide ((kd : Int) < 3) = true := by simp; omega
          have hbw : Below w.heap.size w wr := hb0.trans (hb.mono (by omega))
          have HF := Lib.hid (HF0.out i kd wr hlt hltk hbw)
          have hpk := HP.out i kd
          have g0 : wr.cell? ⟨w.heap.size, 0, none⟩ = some (.int .i64 N) := (hb.cell (Nat.lt_succ_self _)).trans C0.out
          have g1 : wr.cell? ⟨w.heap.size, 1, none⟩ = some (.slice a L c) := (hb.cell (Nat.lt_succ_self _)).trans C1.out
          have hzl : ∀ (q : Bool) (n : Nat), n = (testsL xss i kd (2 ^ N)).length → p i kd = q → ((n : Int) == 0) = q := fun q n hn hq => by
            rw [← hq, hpk, ← hn]
            by_cases e : n = 0
            · simp [e]
            · have : ¬ (n : Int) = 0 := by omega
              simp [e, this]
          have HZL := Lib.hid hzl
          clear hzl hpk
          cases hp : p i kd
          · have HA := Lib.hid (fltAt_no hp)
            have HPK := Lib.hid hp
            clear hp
            go_wp2_with (go_at_call 110; refine (HF.out).mono ?_; rintro e w2 ⟨vt, rfl, hot, hb2⟩; obtain ⟨at_, nt, ct, rfl, HNT, _, _⟩ := hot.rd.formN; have d1 := HZL.out _ nt HNT.out HPK.out)
            go_roundg (3 - (kd + 1))
            case measure => omega
            case rel => exact ⟨kd + 1, rfl, by omega, by go_num, by rw [HA.out]; exact (ho.below hb2).mono (Nat.le_refl _) hb2.size, hb.trans (hb2.mono (by have := hb.size; omega))⟩
          · have HA := Lib.hid (fltAt_yes hp)
            have HPK := Lib.hid hp
            clear hp
            obtain ⟨rows, hov, hT, hrows⟩ := ho
            have hrl : rows.length ≤ 200 := by
              have e1 := hrows.1
              have e2 := faultsL_len p i
              have e3 := fltAt_len p i kd
              rw [List.length_append] at e1
              omega
            obtain ⟨aq, cq, rfl, _, _⟩ := hov.rd.form
            obtain ⟨nr, hnr⟩ : ∃ nr, rows.length = nr := ⟨_, rfl⟩
            have HNR := Lib.hid hnr
            rw [hnr] at hov hrl ⊢
            clear hnr
            have hsb := hb.size
            go_upto_region 11 with (go_at_call 110; refine (HF.out).mono ?_; rintro e w2 ⟨vt, rfl, hot, hb2⟩; obtain ⟨at_, nt, ct, rfl, HNT, _, _⟩ := hot.rd.formN; have d1 := HZL.out _ nt HNT.out HPK.out)
            clear d1
            obtain ⟨w3, hw3⟩ : ∃ w3, w2.alloc (.cells #[.int .i64 i, .int .i64 kd] 3) = w3 := ⟨_, rfl⟩
            have hs2 := hb2.size
            have hs3 : w3.heap.size = w2.heap.size + 1 := by rw [← hw3]; simp
            have hb3 : Below wr.heap.size wr w3 := by rw [← hw3]; exact hb2.alloc hb2.size _
            have hrow : Own w3 3 w2.heap.size (.slice (some ⟨w2.heap.size, 0, none⟩) 2 2) (ints [(i : Int), (kd : Int)]) := by rw [← hw3]; exact row2_own w2 _ _ _ (Nat.le_refl _) _
            have hov3 := hov.below hb3
            have hB3 : w.heap.size + 1 ≤ w3.heap.size := by omega
            have hn1 : (nr + 1) * 24 ≤ 140737488355328 := by omega
            have hn2 : nr + 1 ≤ 9223372036854775807 := by omega
            go_wp2_with (at_builtin; (refine wpList_app1m rfl _ _ 27 rfl elII ?_ hov3 ?_ ?_ hB3 nr HNR.out hn1 hn2 ?_); (focus exact rfl); (focus (simp [Act.eval])); (focus exact rfl); intro bn cn' w6 ho6 hg6 hat6)
            have ho7 := Own2.app ((hrows.below hb3).snoc (hrow.mono (show w.heap.size + 1 ≤ w2.heap.size by omega)) (fun k hk => by simp [Value.ownBlock] at hk; omega) (show wr.heap.size ≤ w3.heap.size by omega)) hov3 (by decide) hg6 ho6 hg6.size
            have hb7 := (hb.trans (hb3.mono (by omega))).grown hg6 hB3 fun r hr => (hov3.lt r hr).1
            go_roundg (3 - (kd + 1))
            case measure => omega
            case rel => exact ⟨kd + 1, rfl, by omega, by go_num, by rw [HA.out, ← List.append_assoc]; exact ho7, hb7⟩
        · obtain rfl : kd = 3 := by omega
          go_wp2
          go_roundg (L - (i + 1))
          case measure => omega
          case rel => exact ⟨i + 1, rfl, by omega, by go_num, ho, hb⟩
    · obtain rfl : L = i := by omega
      go_wp2
      go_ret
      rw [HR.out]
      exact ⟨_, rfl, ho.mono (by omega) (Nat.le_refl _), hb0.trans (hb.mono (by omega))⟩

end Go.Proofs.YtlmbaijkeahkfaaDoor
