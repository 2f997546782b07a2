/- Walks: passes over digits. -/
import Derived.Test.YtnjdihbaofclbaaPass
import Derived.Test.YtnjdihbaofclbaaDigits2
namespace Go.Proofs.Ytnjdihbaofclbaa
open Go.RowKit
set_option linter.unusedVariables false
set_option linter.unusedSimpArgs false

theorem insK_mem (key : Int → Int) (s : List Int) (x y : Int) : y ∈ insK key s x ↔ y = x ∨ y ∈ s := by
  induction s with
  | nil => simp [insK]
  | cons z t ih =>
    simp only [insK]
    split
    · simp only [List.mem_cons, ih]
      constructor
      · rintro (h | h | h) <;> simp [h]
      · rintro (h | h | h) <;> simp [h]
    · simp only [List.mem_cons]
theorem foldlK_mem (key : Int → Int) (xs : List Int) (y : Int) : ∀ s : List Int, y ∈ xs.foldl (insK key) s ↔ y ∈ s ∨ y ∈ xs := by
  induction xs with
  | nil => intro s; simp
  | cons x t ih =>
    intro s
    rw [List.foldl_cons, ih, insK_mem, List.mem_cons]
    constructor
    · rintro ((h | h) | h) <;> simp [h]
    · rintro (h | h | h) <;> simp [h]
theorem srtS_mem (key : Int → Int) (xs : List Int) (y : Int) : y ∈ srtS key xs ↔ y ∈ xs := by
  simp only [srtS, sortK, List.mem_reverse, foldlK_mem, List.not_mem_nil, false_or]
def keyB (b : Int) (d : Nat) (x : Int) : Int := dig x b d
theorem byKey_len (key : Int → Int) (xs : List Int) : ∀ v, (byKey key xs v).length ≤ v * xs.length
  | 0 => by simp [byKey]
  | v + 1 => by
    have h1 := byKey_len key xs v
    have h2 := List.length_filter_le (fun x => decide (key x = (v : Int))) xs
    rw [byKey, List.length_append, Nat.add_mul]
    omega
theorem pass_eq {xs : List Int} {b : Int} {B d : Nat} (hb : b = (B : Int)) (h2 : 2 ≤ b) : srtS (keyB b d) xs = byKey (keyB b d) xs B :=
  srtS_byKey (keyB b d) (fun x _ => by have := dig_bd x b d h2; rw [hb] at this ⊢; exact this)
def digitPass (xs : List Int) (b d : Int) : List Int := if digitsOk xs b && inB d 0 20 then srtS (keyB b d.toNat) xs else []
theorem N_DigitPass (xs : List Int) (_ : xs.length ≤ 1048576) (b d : Int) : (digitPass xs b d).length ≤ 2000000 := by
  unfold digitPass
  split
  · rw [srtS_length]; omega
  · simp
def passM (xs : List Int) (b : Int) : Nat → List Int
  | 0 => xs
  | k + 1 => srtS (keyB b k) (passM xs b k)
theorem passM_length (xs : List Int) (b : Int) : ∀ k, (passM xs b k).length = xs.length
  | 0 => rfl
  | k + 1 => by rw [passM, srtS_length]; exact passM_length xs b k
theorem passM_mem (xs : List Int) (b : Int) (y : Int) : ∀ k, y ∈ passM xs b k → y ∈ xs
  | 0, h => h
  | k + 1, h => passM_mem xs b y k ((srtS_mem _ _ _).1 h)
def digitSort (xs : List Int) (b : Int) : List Int := if digitsOk xs b then passM xs b (passesNeeded xs b).toNat else []
theorem N_DigitSort (xs : List Int) (_ : xs.length ≤ 1048576) (b : Int) : (digitSort xs b).length ≤ 2000000 := by
  unfold digitSort
  split
  · rw [passM_length]; omega
  · simp
theorem passes_bd {xs : List Int} {b : Int} (h : digitsOk xs b = true) : ∃ K : Nat, passesNeeded xs b = (K : Int) ∧ K ≤ 20 := by
  obtain ⟨h1, h2, h3⟩ := digitsOk_iff.1 h
  have hm := maxOf_bd xs h3
  exact ⟨ndig b.toNat (maxOf xs).toNat, by rw [passesNeeded, if_pos h], ndig_20 h2.1 hm.2⟩

set_option maxHeartbeats 1000000 in
theorem s_l27Pass (v : Value) (xs : List Int) (b : Int) (d : Int) (w : World) (h : Rd w v (ints xs)) (hl : xs.length ≤ 16) (hp : ∀ x ∈ xs, 0 ≤ x ∧ x ≤ 999999) (hb : 2 ≤ b ∧ b ≤ 16) (hd : 0 ≤ d ∧ d ≤ 20) :
    Calls Try.prog 55 #[v, .int .i64 b, .int .i64 d] w (RetOwn 3 (ints (srtS (keyB b d.toNat) xs)) w) := by
  obtain ⟨B, rfl⟩ := Int.eq_ofNat_of_zero_le (show 0 ≤ b by omega)
  have HR := Lib.hid (pass_eq (xs := xs) (d := d.toNat) (rfl : (B : Int) = (B : Int)) hb.1)
  have HPP := Lib.hid hp
  clear hp
  obtain ⟨a, n, c, rfl, HN, h2, h3⟩ := h.formN
  have hn : n ≤ 16 := by have := HN.out; omega
  go_enter Try.func55, Try.ntmps55
  go_wp2
  go_loopw [7, 8] (fun vo i wr => ∃ k : Nat, k ≤ B ∧ i = .int .i64 k ∧ Own wr 3 w.heap.size vo (ints (byKey (keyB B d.toNat) xs k)) ∧ Below w.heap.size w wr) (fun _ i _ => B - (intOf i).toNat)
  case atStart => exact ⟨0, Nat.zero_le _, rfl, Own.lit0 w 3 (Nat.le_refl _), (Below.refl _ _).alloc (Nat.le_refl _) _⟩
  case round =>
    obtain ⟨k, hk, rfl, ho, hb1⟩ := hrel
    by_cases hkB : k < B
    · have i1 : (k : Int) < (B : Int) := by omega
      have hlen := byKey_len (keyB B d.toNat) xs k
      have hlen2 : k * xs.length ≤ 16 * 16 := Nat.mul_le_mul (by omega) hl
      go_wp2
      go_loopw [7, 19] (fun vo i wr => ∃ j : Nat, j ≤ n ∧ i = .int .i64 j ∧ Own wr 3 w.heap.size vo (ints (byKey (keyB B d.toNat) xs k ++ (xs.take j).filter (fun x => decide (keyB B d.toNat x = (k : Int))))) ∧ Below w.heap.size w wr) (fun _ i _ => n - (intOf i).toNat)
      case atStart => exact ⟨0, Nat.zero_le _, rfl, by simpa using ho, hb1⟩
      case round =>
        clear ho hb1
        obtain ⟨j, hj, rfl, ho, hb1⟩ := hrel
        obtain ⟨ao, co, m, rfl, HM, _, _⟩ := ho.rd.formN
        by_cases hjn : j < n
        · obtain ⟨ad, x, rfl, hcw, hx⟩ := h.int (show j < xs.length by have := HN.out; omega)
          have hcx := (hb1.cell (World.block_lt_of_cell? w _ hcw)).trans hcw
          clear hcw
          have hxp := HPP.out x (List.mem_of_getElem? hx.out)
          have HX := s_l27Digit x B d wr hxp.1 hxp.2 hb.1 hb.2 hd.1 hd.2
          have HT : Hid (xs.take (j + 1) = xs.take j ++ [x]) := by
            obtain ⟨hk, e⟩ := List.getElem?_eq_some_iff.1 hx.out
            rw [Hid, List.take_succ_eq_append_getElem hk, e]
          have hfl := List.length_filter_le (fun x => decide (keyB B d.toNat x = (k : Int))) (xs.take j)
          have hfl2 : (xs.take j).length ≤ 16 := by rw [List.length_take]; omega
          have hco : co ≤ 300 := by have := HM.out; rw [List.length_append] at this; omega
          have HML : Hid ((ints (byKey (keyB B d.toNat) xs k ++ (xs.take j).filter (fun x => decide (keyB B d.toNat x = (k : Int))))).length = co) := by rw [Hid, ints_length, HM.out]
          cases hq : (dig x B d.toNat == (k : Int))
          · have HF : Hid ((xs.take (j + 1)).filter (fun x => decide (keyB B d.toNat x = (k : Int))) = (xs.take j).filter (fun x => decide (keyB B d.toNat x = (k : Int)))) := by
              have h1 : ¬ keyB B d.toNat x = (k : Int) := by simpa [keyB] using hq
              rw [Hid, HT.out, List.filter_append]
              simp [h1]
            clear hfl hfl2
            go_wp2_with (go_at_call 47; refine HX.mono ?_; rintro e w' ⟨rfl, rfl⟩)
            go_roundw
            case rel => exact ⟨j + 1, by omega, by go_num, by rw [HF.out]; exact ho, hb1⟩
            case measure => simp [intOf]; omega
          · have HF : Hid ((xs.take (j + 1)).filter (fun x => decide (keyB B d.toNat x = (k : Int))) = (xs.take j).filter (fun x => decide (keyB B d.toNat x = (k : Int))) ++ [x]) := by
              have h1 : keyB B d.toNat x = (k : Int) := by simpa [keyB] using hq
              rw [Hid, HT.out, List.filter_append]
              simp [h1]
            clear hfl hfl2
            have hz := hb1.size
            go_wp2_with (first
              | (go_at_call 47; refine HX.mono ?_; rintro e w' ⟨rfl, rfl⟩)
              | (at_builtin; refine wpList_app1m rfl _ _ 26 rfl elI rfl ho (by show Value.slice (some ⟨wr.heap.size, 0, none⟩) 1 1 = _; simp) rfl hz _ HML.out (by omega) (by omega) ?_; intro b6 c6 w6 ho6 hg6 hat6))
            go_roundw
            case rel => exact ⟨j + 1, by omega, by go_num, by rw [HF.out, ← List.append_assoc, ints_append]; exact ho6, hb1.grown hg6 hz (fun r hr => (ho.lt r hr).1)⟩
            case measure => simp [intOf]; omega
        · obtain rfl : n = j := by omega
          have HA : Hid (byKey (keyB B d.toNat) xs k ++ (xs.take n).filter (fun x => decide (keyB B d.toNat x = (k : Int))) = byKey (keyB B d.toNat) xs (k + 1)) := by
            rw [Hid, HN.out, List.take_length]; rfl
          rw [HA.out] at ho
          go_wp2
          go_roundw
          case rel => exact ⟨k + 1, by omega, by go_num, ho, hb1⟩
          case measure => simp [intOf]; omega
    · obtain rfl : B = k := by omega
      go_wp2
      go_ret
      rw [HR.out]
      exact ⟨_, rfl, ho, hb1⟩

set_option maxHeartbeats 400000 in
theorem S_DigitPass (w : World) (v : Value) (xs : List Int) (h : Rd w v (ints xs)) (_ : I64s xs) (_ : xs.length ≤ 1048576) (b : Int) (_ : I64 b) (d : Int) (_ : I64 d) :
    Calls Try.prog 30 #[v, .int .i64 b, .int .i64 d] w (RetOwn 3 (ints (digitPass xs b d)) w) := by
  have HO := s_l27Ok v xs b d w h
  cases hk : (digitsOk xs b && inB d 0 20)
  · rw [hk] at HO
    have HR : Hid (digitPass xs b d = []) := by rw [Hid, digitPass, if_neg (by rw [hk]; simp)]
    go_enter Try.func30, Try.ntmps30
    go_wp2_with (go_at_call 54; refine HO.mono ?_; rintro e w' ⟨rfl, rfl⟩)
    go_ret
    rw [HR.out]
    exact RetOwn.nil w _
  · rw [hk] at HO
    have HR : Hid (digitPass xs b d = srtS (keyB b d.toNat) xs) := by rw [Hid, digitPass, if_pos hk]
    rw [Bool.and_eq_true, digitsOk_iff, inB_iff] at hk
    have HU := s_l27Pass v xs b d w h hk.1.1 hk.1.2.2 hk.1.2.1 hk.2
    clear hk
    go_enter Try.func30, Try.ntmps30
    go_wp2_with (first
      | (go_at_call 54; refine HO.mono ?_; rintro e w' ⟨rfl, rfl⟩)
      | (go_at_call 55; refine HU.mono ?_; rintro e w2 ⟨vo, rfl, ho2, hb2⟩))
    go_ret
    rw [HR.out]
    exact ⟨_, rfl, ho2, hb2⟩

set_option maxHeartbeats 400000 in
theorem I_DigitPass (w : World) (v : Value) (xs : List Int) (h : Rd w v (ints xs)) (_ : I64s xs) (_ : xs.length ≤ 1048576) (b : Int) (_ : I64 b) (d : Int) (_ : I64 d) :
    Calls Try.prog 31 #[v, .int .i64 b, .int .i64 d] w (RetOwn 3 (ints (digitPass xs b d)) w) := by
  have HO := i_DigitsOk v xs b w h
  have HP := i_isPlace d w
  cases hk : digitsOk xs b
  · rw [hk] at HO
    have HR : Hid (digitPass xs b d = []) := by rw [Hid, digitPass, if_neg (by rw [hk]; simp)]
    go_enter Try.func31, Try.ntmps31
    go_wp2_with (go_at_call 20; refine HO.mono ?_; rintro e w' ⟨rfl, rfl⟩)
    go_ret
    rw [HR.out]
    exact RetOwn.nil w _
  · rw [hk] at HO
    cases hd : inB d 0 20
    · rw [hd] at HP
      have HR : Hid (digitPass xs b d = []) := by rw [Hid, digitPass, if_neg (by rw [hd]; simp)]
      go_enter Try.func31, Try.ntmps31
      go_wp2_with (first
        | (go_at_call 20; refine HO.mono ?_; rintro e w' ⟨rfl, rfl⟩)
        | (go_at_call 50; refine HP.mono ?_; rintro e w' ⟨rfl, rfl⟩))
      go_ret
      rw [HR.out]
      exact RetOwn.nil w _
    · rw [hd] at HP
      have HR : Hid (digitPass xs b d = srtS (keyB b d.toNat) xs) := by rw [Hid, digitPass, if_pos (by rw [hk, hd]; rfl)]
      rw [digitsOk_iff] at hk
      rw [inB_iff] at hd
      have HU := i_pass v xs b d w h hk.1 hk.2.2 hk.2.1 hd
      clear hk hd
      go_enter Try.func31, Try.ntmps31
      go_wp2_with (first
        | (go_at_call 20; refine HO.mono ?_; rintro e w' ⟨rfl, rfl⟩)
        | (go_at_call 50; refine HP.mono ?_; rintro e w' ⟨rfl, rfl⟩)
        | (go_at_call 56; refine HU.mono ?_; rintro e w2 ⟨vo, rfl, ho2, hb2⟩))
      go_ret
      rw [HR.out]
      exact ⟨_, rfl, ho2, hb2⟩

end Go.Proofs.Ytnjdihbaofclbaa
