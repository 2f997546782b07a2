/- Walks: the list that a network does not sort. -/
import Derived.Test.YtlmbaijkeahkfaaDoorBits4
import Derived.Test.YtlmbaijkeahkfaaDoorRetO
namespace Go.Proofs.YtlmbaijkeahkfaaDoor
open Go.RowKit
set_option linter.unusedVariables false
set_option linter.unusedSimpArgs false

def zK (m : Nat) : Nat → Nat
  | 0 => 0
  | k + 1 => if m.testBit k then zK m k else zK m k + 1
theorem zK_le (m : Nat) : ∀ k, zK m k ≤ k
  | 0 => Nat.le_refl _
  | k + 1 => by have := zK_le m k; simp only [zK]; split <;> omega
theorem zK_ones : ∀ n : Nat, n < 9 → ∀ m : Nat, m < 2 ^ n → zK m n = n - onesN m := by decide +kernel
/-- The number at a place: zeros get the least numbers. -/
def failE (n m j : Nat) : Nat := if m.testBit j then zK m n + (j - zK m j) else zK m j
def failL (n m k : Nat) : List Int := (List.range k).map fun j => ((failE n m j : Nat) : Int)
theorem failL_succ (n m k : Nat) : failL n m (k + 1) = failL n m k ++ [((failE n m k : Nat) : Int)] := by simp [failL, List.range_succ]
theorem failL_len (n m k : Nat) : (failL n m k).length = k := by simp [failL]
def failLs (n : Int) (xss : List (List Int)) : List Int := if firstUns n xss < 0 then [] else failL n.toNat (firstUns n xss).toNat n.toNat
def failsB (n : Int) (xss : List (List Int)) : Bool := decide (0 ≤ firstUns n xss)
theorem firstUns_pos {n : Int} {xss : List (List Int)} (h : 0 ≤ firstUns n xss) : netOk n xss = true ∧ ∃ m : Nat, firstUns n xss = m ∧ m < 2 ^ n.toNat := by
  unfold firstUns at h ⊢
  cases hk : netOk n xss
  · simp [hk] at h
  · simp only [hk, if_true] at h ⊢
    rcases firstU_bound n.toNat xss with e | ⟨m, e, hm⟩
    · omega
    · exact ⟨trivial, m, e, hm⟩
theorem failLs_ok {n : Int} {xss : List (List Int)} : I64s (failLs n xss) ∧ (failLs n xss).length ≤ 8 := by
  unfold failLs
  split
  · exact ⟨fun x hx => by simp at hx, by simp⟩
  · rename_i h
    obtain ⟨hk, m, e, hm⟩ := firstUns_pos (show 0 ≤ firstUns n xss by omega)
    obtain ⟨N, rfl, hN1, hN8, _⟩ := netOk_n hk
    rw [e]
    simp only [Int.toNat_natCast]
    refine ⟨fun x hx => ?_, by rw [failL_len]; omega⟩
    simp only [failL, List.mem_map, List.mem_range] at hx
    obtain ⟨j, hj, rfl⟩ := hx
    have h1 := zK_le m N
    have h2 := zK_le m j
    unfold I64 failE
    split <;> omega

set_option maxHeartbeats 2000000 in
theorem i_FailingList (n : Int) (v : Value) (xss : List (List Int)) (w : World) (h : Rd2 w v xss) (hn : I64 n) : Calls Tryd.prog 50 #[.agg #[.int .i64 n, v]] w (RetOwnB 3 (ints (failLs n xss)) (failsB n xss) w) := by
  obtain ⟨a, c, rfl, h2, h3⟩ := h.form
  obtain ⟨w0, hw0, hb0, hz0, c0, c1⟩ := net_box w (.int .i64 n) (.slice a xss.length c) 32
  have h' := h.below hb0
  have HF := i_FirstUnsorted n _ xss _ h' hn
  by_cases hf : firstUns n xss < 0
  · have HR : Hid (failLs n xss = [] ∧ failsB n xss = false) := ⟨by simp [failLs, hf], by simp [failsB]; omega⟩
    generalize firstUns n xss = z at HF hf
    have d0 : decide (z < 0) = true := by simpa using hf
    clear hf
    go_enter Tryd.func50, Tryd.ntmps50
    go_wp2_with (go_at_call 98; refine HF.mono ?_; rintro e w2 ⟨rfl, hb2⟩)
    go_ret2
    rw [HR.out.1, HR.out.2]
    exact ⟨_, rfl, Own.nil _ _ _, hb0.trans (hb2.mono (by omega))⟩
  · obtain ⟨hk, m, e, hm⟩ := firstUns_pos (show 0 ≤ firstUns n xss by omega)
    obtain ⟨N, rfl, hN1, hN8, _⟩ := netOk_n hk
    have HR : Hid (failLs (N : Int) xss = failL N m N ∧ failsB (N : Int) xss = true) := ⟨by simp [failLs, e]; omega, by simp [failsB, e]⟩
    rw [e] at HF
    simp only [Int.toNat_natCast] at hm
    have hp := pow_le8 hN8
    have HO := Lib.hid (fun W => i_ones m (by omega) W)
    have hol := onesN_le' N (by omega) m hm
    have hz := zK_ones N (by omega) m hm
    obtain ⟨o, ho⟩ : ∃ o, onesN m = o := ⟨_, rfl⟩
    rw [ho] at HO hol hz
    have HZ : Hid ((N : Int) - (o : Int) = ((zK m N : Nat) : Int)) := by rw [Hid, hz]; omega
    have iw : IntKind.i64.wrap ((N : Int) - (o : Int)) = ((zK m N : Nat) : Int) := by rw [HZ.out]; exact IntWalk.i64_in _ (by omega)
    have C0 := Lib.hid c0
    have C1 := Lib.hid c1
    have hm256 : m < 256 := by omega
    have d0 : decide ((m : Int) < 0) = false := by simp
    clear hf hk e ho hz hm
    go_enter Tryd.func50, Tryd.ntmps50
    go_wp2_with (go_at_call 98; refine HF.mono ?_; rintro e w2 ⟨rfl, hb2⟩; have hbw2 : Below w.heap.size w w2 := hb0.trans (hb2.mono (by omega)); obtain ⟨c0, c1⟩ := Below.cells2 hb2 (show w.heap.size < w0.heap.size by omega) C0.out C1.out)
    go_quiet ((go_at_call 99; exact Calls.quiet_of_same ((HO.out _).mono fun _ _ hh => ⟨hh.1, hh.2.symm⟩)))
    obtain ⟨w4, hw4⟩ : ∃ w4, (w2.drewN nq).alloc (.cells #[] 3) = w4 := ⟨_, rfl⟩
    have e0 : w4.cell? ⟨w.heap.size, 0, none⟩ = some (.int .i64 N) := by rw [← hw4]; exact (World.cell?_alloc_lt _ _ _ (World.block_lt_of_cell? _ _ c0)).trans c0
    have hb4 : Below w.heap.size w w4 := by rw [← hw4]; exact (hbw2.trans (((Dr.refl w2).step nq).below _)).alloc hbw2.size _
    have ho4 : Own w4 3 w.heap.size (.slice (some ⟨w2.heap.size, 0, none⟩) 0 0) (ints []) := by rw [← hw4]; exact Own.lit0 (w2.drewN nq) _ hbw2.size
    go_wp2
    clear hw4 e0 c0 c1 C0 C1 iw
    go_loopg [5, 6, 7, 21] N (fun g zv ov vo iv wr => ∃ k : Nat, g = N - k ∧ k ≤ N ∧ iv = .int .i64 k ∧ zv = .int .i64 (zK m k : Nat) ∧ ov = .int .i64 (zK m N + (k - zK m k) : Nat) ∧ Own wr 3 w.heap.size vo (ints (failL N m k)) ∧ Below w.heap.size w wr)
    case atStart => exact ⟨0, rfl, Nat.zero_le _, rfl, rfl, rfl, ho4, hb4⟩
    case round =>
      obtain ⟨k, hg, hkl, rfl, rfl, rfl, ho, hb⟩ := hrel
      obtain ⟨ao, no, co, rfl, HNo, _, _⟩ := ho.rd.formN
      by_cases hlt : k < N
      · have HLo : Hid ((ints (failL N m k)).length = no) := by rw [Hid, ints_length, HNo.out]
        have hno : no ≤ 8 := by have := HNo.out; rw [failL_len] at this; omega
        have hzk := zK_le m k
        have hzN := zK_le m N
        have b1 := bit_of m hm256 k (by omega)
        have hsb := hb.size
        have HE := Lib.hid (failL_succ N m k)
        cases t1 : m.testBit k
        · have HK : Hid (zK m (k + 1) = zK m k + 1 ∧ failE N m k = zK m k) := ⟨by simp [zK, t1], by simp [failE, t1]⟩
          rw [t1] at b1
          have q1 : bits BinOp.and IntKind.i64 ((m : Int) / 2 ^ k) 1 = 0 := b1
          rw [HK.out.2] at HE
          clear b1 t1
          go_wp2_with (at_builtin; refine wpList_app1m rfl _ _ 22 rfl elI rfl ho (by show Value.slice (some ⟨wr.heap.size, 0, none⟩) 1 1 = _; simp) rfl hsb no HLo.out (by omega) (by omega) ?_; intro bn cn' w6 ho6 hg6 hat6)
          have hb6 := hb.grown hg6 hsb fun r hr => (ho.lt r hr).1
          go_roundg (N - (k + 1))
          case measure => omega
          case rel => exact ⟨k + 1, rfl, by omega, by go_num, by rw [HK.out.1]; go_num, by rw [HK.out.1, show k + 1 - (zK m k + 1) = k - zK m k by omega]; simp, by rw [HE.out, ints_append]; exact ho6, hb6⟩
        · have HK : Hid (zK m (k + 1) = zK m k ∧ failE N m k = zK m N + (k - zK m k)) := ⟨by simp [zK, t1], by simp [failE, t1]⟩
          rw [t1] at b1
          have q1 : bits BinOp.and IntKind.i64 ((m : Int) / 2 ^ k) 1 = 1 := b1
          rw [HK.out.2] at HE
          clear b1 t1
          go_wp2_with (at_builtin; refine wpList_app1m rfl _ _ 22 rfl elI rfl ho (by show Value.slice (some ⟨wr.heap.size, 0, none⟩) 1 1 = _; simp) rfl hsb no HLo.out (by omega) (by omega) ?_; intro bn cn' w6 ho6 hg6 hat6)
          have hb6 := hb.grown hg6 hsb fun r hr => (ho.lt r hr).1
          go_roundg (N - (k + 1))
          case measure => omega
          case rel => exact ⟨k + 1, rfl, by omega, by go_num, by rw [HK.out.1], by rw [HK.out.1, show zK m N + (k + 1 - zK m k) = zK m N + (k - zK m k) + 1 by omega]; go_num, by rw [HE.out, ints_append]; exact ho6, hb6⟩
      · obtain rfl : N = k := by omega
        go_wp2
        go_ret2
        rw [HR.out.1, HR.out.2]
        exact ⟨_, rfl, ho, hb⟩

def outF (n m b k j : Nat) : Int := if (if m.testBit j then decide (2 ≤ b) || (decide (b = 1) && decide (j < k)) else decide (1 ≤ b) || decide (j < k)) then (failE n m j : Nat) else 0
def cntF (n m b k : Nat) : Nat := if b = 0 then zK m k else zK m n + (k - zK m k)
theorem outF_0 (n m : Nat) : outF n m 0 0 = fun _ => 0 := by
  funext j; simp only [outF]; cases m.testBit j <;> simp
theorem outF_next (n m b : Nat) (hb : b < 2) : atL n (outF n m b n) = atL n (outF n m (b + 1) 0) := by
  unfold atL
  apply List.map_congr_left
  intro j hj
  simp only [List.mem_range] at hj
  rcases (show b = 0 ∨ b = 1 by omega) with rfl | rfl <;> simp only [outF] <;> cases m.testBit j <;> simp [hj]
theorem outF_2 (n m : Nat) : atL n (outF n m 2 0) = failL n m n := by
  unfold atL failL
  apply List.map_congr_left
  intro j hj
  simp only [outF]
  cases m.testBit j <;> simp
theorem atL_set {n k : Nat} {f g : Nat → Int} {v : Int} (hv : k < n → g k = v) (hg : ∀ j, j ≠ k → g j = f j) : (atL n f).set k v = atL n g := by
  apply List.ext_getElem?
  intro q
  rw [List.getElem?_set]
  by_cases hq : q < n
  · rw [atL_get _ hq, atL_get _ hq, atL_length]
    by_cases e : k = q
    · subst e; simp [hq, hv hq]
    · simp [e, hg q (fun h => e h.symm)]
  · have e1 : (atL n f)[q]? = none := List.getElem?_eq_none (by rw [atL_length]; omega)
    have e2 : (atL n g)[q]? = none := List.getElem?_eq_none (by rw [atL_length]; omega)
    rw [e1, e2, atL_length]
    by_cases e : k = q
    · subst e; simp [hq]
    · simp [e]
/-- The place k holds the bit that is asked: it gets the next number. -/
theorem outF_yes {n m b k : Nat} (hb : b < 2) (h : m.testBit k = decide (b = 1)) : (atL n (outF n m b k)).set k ((cntF n m b k : Nat) : Int) = atL n (outF n m b (k + 1)) ∧ cntF n m b (k + 1) = cntF n m b k + 1 := by
  have hz := zK_le m k
  rcases (show b = 0 ∨ b = 1 by omega) with rfl | rfl
  · have h1 : m.testBit k = false := by simpa using h
    refine ⟨atL_set (fun _ => by simp [outF, h1, cntF, failE]) (fun j hj => ?_), by simp [cntF, zK, h1]⟩
    simp only [outF]
    have : decide (j < k + 1) = decide (j < k) := by rw [decide_eq_decide]; omega
    rw [this]
  · have h1 : m.testBit k = true := by simpa using h
    refine ⟨atL_set (fun _ => by simp [outF, h1, cntF, failE]) (fun j hj => ?_), by simp [cntF, zK, h1]; omega⟩
    simp only [outF]
    have : decide (j < k + 1) = decide (j < k) := by rw [decide_eq_decide]; omega
    rw [this]
theorem outF_no {n m b k : Nat} (hb : b < 2) (h : m.testBit k = !decide (b = 1)) : atL n (outF n m b k) = atL n (outF n m b (k + 1)) ∧ cntF n m b (k + 1) = cntF n m b k := by
  have hz := zK_le m k
  rcases (show b = 0 ∨ b = 1 by omega) with rfl | rfl
  · have h1 : m.testBit k = true := by simpa using h
    refine ⟨?_, by simp [cntF, zK, h1]⟩
    unfold atL
    apply List.map_congr_left
    intro j hj
    simp only [outF]
    by_cases e : j = k
    · subst e; simp [h1]
    · have : decide (j < k + 1) = decide (j < k) := by rw [decide_eq_decide]; omega
      rw [this]
  · have h1 : m.testBit k = false := by simpa using h
    refine ⟨?_, by simp [cntF, zK, h1]⟩
    unfold atL
    apply List.map_congr_left
    intro j hj
    simp only [outF]
    by_cases e : j = k
    · subst e; simp [h1]
    · have : decide (j < k + 1) = decide (j < k) := by rw [decide_eq_decide]; omega
      rw [this]
theorem ints_zero (n : Nat) : ints (atL n fun _ => 0) = List.replicate n (Value.int .i64 0) := by
  rw [List.eq_replicate_iff]
  simp [ints, atL]
set_option maxHeartbeats 2000000 in
theorem s_FailingList (n : Int) (v : Value) (xss : List (List Int)) (w : World) (h : Rd2 w v xss) (hn : I64 n) : Calls Tryd.prog 46 #[.agg #[.int .i64 n, v]] w (RetOwnB 3 (ints (failLs n xss)) (failsB n xss) w) := by
  obtain ⟨a, c, rfl, h2, h3⟩ := h.form
  obtain ⟨w0, hw0, hb0, hz0, c0, c1⟩ := net_box w (.int .i64 n) (.slice a xss.length c) 32
  have h' := h.below hb0
  have HF := s_FirstUnsorted n _ xss _ h' hn
  by_cases hf : firstUns n xss < 0
  · have HR : Hid (failLs n xss = [] ∧ failsB n xss = false) := ⟨by simp [failLs, hf], by simp [failsB]; omega⟩
    have d0 : (firstUns n xss == (-1)) = true := by
      rw [beq_iff_eq]
      unfold firstUns at hf ⊢
      split
      · rename_i hk
        rw [if_pos hk] at hf
        rcases firstU_bound n.toNat xss with e | ⟨m, e, hm⟩
        · exact e
        · omega
      · rfl
    generalize firstUns n xss = z at HF d0
    clear hf
    go_enter Tryd.func46, Tryd.ntmps46
    go_wp2_with (go_at_call 94; refine HF.mono ?_; rintro e w2 ⟨rfl, hb2⟩)
    go_ret2
    rw [HR.out.1, HR.out.2]
    exact ⟨_, rfl, Own.nil _ _ _, hb0.trans (hb2.mono (by omega))⟩
  · obtain ⟨hk, m, e, hm⟩ := firstUns_pos (show 0 ≤ firstUns n xss by omega)
    obtain ⟨N, rfl, hN1, hN8, _⟩ := netOk_n hk
    have HR : Hid (failLs (N : Int) xss = failL N m N ∧ failsB (N : Int) xss = true) := ⟨by simp [failLs, e]; omega, by simp [failsB, e]⟩
    rw [e] at HF
    simp only [Int.toNat_natCast] at hm
    have hp := pow_le8 hN8
    have C0 := Lib.hid c0
    have C1 := Lib.hid c1
    have hm256 : m < 256 := by omega
    have d0 : ((m : Int) == (-1)) = false := by rw [beq_eq_false_iff_ne]; omega
    clear hf hk e hm
    go_enter Tryd.func46, Tryd.ntmps46
    go_wp2_with (first
      | (go_at_call 94; refine HF.mono ?_; rintro e w2 ⟨rfl, hb2⟩; have hbw2 : Below w.heap.size w w2 := hb0.trans (hb2.mono (by omega)); obtain ⟨c0, c1⟩ := Below.cells2 hb2 (show w.heap.size < w0.heap.size by omega) C0.out C1.out)
      | (at_make; refine wpList_mk (B := w.heap.size) rfl _ _ 22 rfl elI rfl rfl hbw2.size (by omega) (by omega) ?_; intro b w4 hb4 ho4 hg4))
    have hbw4 : Below w.heap.size w w4 := hbw2.grown hg4 hbw2.size (fun _ h => by cases h)
    rw [← ints_zero, ← outF_0 N m] at ho4
    clear c0 c1 C0 C1 hg4 hb4
    go_loopg [6, 7] 2 (fun g nv bv wr => ∃ b' : Nat, g = 2 - b' ∧ b' ≤ 2 ∧ bv = .int .i64 b' ∧ nv = .int .i64 (if b' < 2 then cntF N m b' 0 else cntF N m 1 N : Nat) ∧ Own wr 3 w.heap.size (.slice (some b) N N) (ints (atL N (outF N m b' 0))) ∧ Below w.heap.size w wr)
    case atStart => exact ⟨0, rfl, by omega, rfl, by simp [cntF, zK], ho4, hbw4⟩
    case round =>
      clear ho4 hbw4
      obtain ⟨b', hg, hb2', rfl, rfl, ho, hb⟩ := hrel
      by_cases hlt : b' < 2
      · have d1 : decide ((b' : Int) < 2) = true := by simp; omega
        rw [if_pos hlt]
        go_wp2
        rename_i wo
        go_loopg [6, 22] N (fun g nv iv wr => ∃ k : Nat, g = N - k ∧ k ≤ N ∧ iv = .int .i64 k ∧ nv = .int .i64 (cntF N m b' k : Nat) ∧ Own wr 3 w.heap.size (.slice (some b) N N) (ints (atL N (outF N m b' k))) ∧ Below w.heap.size w wr)
        case atStart => exact ⟨0, rfl, Nat.zero_le _, rfl, rfl, ho, hb⟩
        case round =>
          clear ho hb
          obtain ⟨k, hgk, hkl, rfl, rfl, ho, hb⟩ := hrel
          by_cases hltk : k < N
          · have b1 := bit_of m hm256 k (by omega)
            have hcb : cntF N m b' k ≤ 16 := by have := zK_le m k; have := zK_le m N; unfold cntF; split <;> omega
            by_cases hy : m.testBit k = decide (b' = 1)
            · have HY := Lib.hid (outF_yes (n := N) hlt hy)
              have q1 : (bits BinOp.and IntKind.i64 ((m : Int) / 2 ^ k) 1 == (b' : Int)) = true := by
                rw [b1, hy, beq_iff_eq]
                rcases (show b' = 0 ∨ b' = 1 by omega) with rfl | rfl <;> rfl
              clear b1 hy
              have fz := ho.frozen rfl k
              have hL := atL_length N (outF N m b' k)
              have hs := (ho.seti rfl (show k < (atL N (outF N m b' k)).length by omega) ((cntF N m b' k : Nat) : Int)).1
              have hbs := ho.below_set rfl (show k < (atL N (outF N m b' k)).length by omega) (.int .i64 ((cntF N m b' k : Nat) : Int)) hb (Nat.le_refl _)
              rw [HY.out.1] at hs
              have hta := ho.rd.cell_int' (atL_get (outF N m b' k) hltk)
              generalize outF N m b' k k = x0 at hta
              clear hL ho hb
              go_wp2
              go_roundg (N - (k + 1))
              case measure => omega
              case rel => exact ⟨k + 1, rfl, by omega, by go_num, by rw [HY.out.2]; go_num, hs, hbs⟩
            · have hy' : m.testBit k = !decide (b' = 1) := by cases h1 : m.testBit k <;> cases h2 : decide (b' = 1) <;> simp_all
              have HY := Lib.hid (outF_no (n := N) hlt hy')
              have q1 : (bits BinOp.and IntKind.i64 ((m : Int) / 2 ^ k) 1 == (b' : Int)) = false := by
                rw [b1, hy', beq_eq_false_iff_ne]
                rcases (show b' = 0 ∨ b' = 1 by omega) with rfl | rfl <;> simp
              clear b1 hy hy'
              go_wp2
              go_roundg (N - (k + 1))
              case measure => omega
              case rel => exact ⟨k + 1, rfl, by omega, by go_num, by rw [HY.out.2], by rw [← HY.out.1]; exact ho, hb⟩
          · obtain rfl : N = k := by omega
            go_wp2
            go_roundg (2 - (b' + 1))
            case measure => omega
            case rel => exact ⟨b' + 1, rfl, by omega, by go_num, by
              rcases (show b' = 0 ∨ b' = 1 by omega) with rfl | rfl <;> simp [cntF, zK], by rw [← outF_next N m b' hlt]; exact ho, hb⟩
      · obtain rfl : b' = 2 := by omega
        rw [outF_2] at ho
        go_wp2
        go_ret2
        rw [HR.out.1, HR.out.2]
        exact ⟨_, rfl, ho, hb⟩

end Go.Proofs.YtlmbaijkeahkfaaDoor
