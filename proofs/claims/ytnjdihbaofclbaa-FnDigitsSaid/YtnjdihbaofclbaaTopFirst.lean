/- Walks: the numbers by a digit. -/
import Derived.Test.YtnjdihbaofclbaaPass2
namespace Go.Proofs.Ytnjdihbaofclbaa
open Go.RowKit
set_option linter.unusedVariables false
set_option linter.unusedSimpArgs false

/-- The rows key by key, the empty ones left out. -/
def topM (key : Int → Int) (xs : List Int) : Nat → List (List Int)
  | 0 => []
  | v + 1 => if xs.filter (fun x => decide (key x = (v : Int))) = [] then topM key xs v else topM key xs v ++ [xs.filter (fun x => decide (key x = (v : Int)))]
def topFirst (xs : List Int) (b d : Int) : List (List Int) := if digitsOk xs b && inB d 0 20 then topM (keyB b d.toNat) xs b.toNat else []
/-- Rows that grow as keys change. -/
def grpS (key : Int → Int) (S : List (List Int) × Int) (x : Int) : List (List Int) × Int :=
  if key x = S.2 then (S.1.dropLast ++ [S.1.getLast?.getD [] ++ [x]], S.2) else (S.1 ++ [[x]], key x)
def grp (key : Int → Int) (xs : List Int) : List (List Int) × Int := xs.foldl (grpS key) ([], -1)
theorem grp_same (key : Int → Int) (v : Int) : ∀ (ys : List Int) (R : List (List Int)) (r : List Int), (∀ y ∈ ys, key y = v) → ys.foldl (grpS key) (R ++ [r], v) = (R ++ [r ++ ys], v)
  | [], R, r, _ => by simp
  | y :: t, R, r, h => by
    have h1 : key y = v := h y (List.mem_cons_self ..)
    rw [List.foldl_cons, grpS, if_pos h1]
    simp only [List.dropLast_concat, List.getLast?_concat, Option.getD_some]
    rw [grp_same key v t R (r ++ [y]) (fun z hz => h z (List.mem_cons_of_mem _ hz)), List.append_assoc]
    rfl
theorem grp_byKey (key : Int → Int) (xs : List Int) : ∀ v : Nat, ∃ l : Int, grp key (byKey key xs v) = (topM key xs v, l) ∧ l < (v : Int)
  | 0 => ⟨-1, rfl, by omega⟩
  | v + 1 => by
    obtain ⟨l, h1, h2⟩ := grp_byKey key xs v
    have hf : ∀ y ∈ xs.filter (fun x => decide (key x = (v : Int))), key y = (v : Int) := fun y hy => of_decide_eq_true (List.mem_filter.1 hy).2
    rw [byKey, topM, grp, List.foldl_append, ← grp, h1]
    generalize xs.filter (fun x => decide (key x = (v : Int))) = f at hf ⊢
    cases f with
    | nil => exact ⟨l, by simp, by omega⟩
    | cons y t =>
      have hy : key y = (v : Int) := hf y (List.mem_cons_self ..)
      rw [List.foldl_cons, grpS, if_neg (show ¬ key y = (topM key xs v, l).2 by rw [hy]; show ¬ (v : Int) = l; omega), hy]
      refine ⟨v, ?_, by omega⟩
      rw [if_neg (by simp)]
      exact grp_same key v t (topM key xs v) [y] (fun z hz => hf z (List.mem_cons_of_mem _ hz))
theorem topM_size (key : Int → Int) (xs : List Int) : ∀ v, (topM key xs v).length ≤ v ∧ tot (topM key xs v) ≤ v * xs.length
  | 0 => by simp [topM, tot]
  | v + 1 => by
    have ih := topM_size key xs v
    have hf := List.length_filter_le (fun x => decide (key x = (v : Int))) xs
    rw [topM]
    split
    · rw [Nat.add_mul]; omega
    · rw [tot_append, tot_one, List.length_append, Nat.add_mul]
      simp only [List.length_cons, List.length_nil]
      omega
theorem N_TopFirst (xs : List Int) (_ : xs.length ≤ 1048576) (b d : Int) : SzOk (topFirst xs b d) := by
  unfold topFirst
  split
  · rename_i h
    rw [Bool.and_eq_true, digitsOk_iff] at h
    have h1 := topM_size (keyB b d.toNat) xs b.toNat
    have h2 : b.toNat * xs.length ≤ 16 * 16 := Nat.mul_le_mul (by omega) h.1.1
    exact ⟨by omega, by omega⟩
  · exact ⟨by simp, by simp [tot]⟩

theorem Own2.app' {w w' : World} {EO E B T : Nat} {v v' : Value} {rows rows' : List Value} {xss' : List (List Int)} (hr : RowsOwn w E B T rows' xss') (ho : Own w EO B v rows) (hne : EO ≠ E) (hg : w.grownBy w' v.ownBlock) (ho' : Own w' EO B v' rows') (hT : T ≤ w'.heap.size) : Own2 w' EO E B w'.heap.size v' xss' :=
  ⟨rows', ho', fun k hk => (ho'.lt k hk).2, (hr.outer hg ho hne).mono (Nat.le_refl _) hT⟩
set_option maxHeartbeats 2000000 in
theorem s_topFirst (v : Value) (xs : List Int) (b : Int) (d : Int) (w : World) (h : Rd w v (ints xs)) (hk : (digitsOk xs b && inB d 0 20) = true) :
    Calls Try.prog 34 #[v, .int .i64 b, .int .i64 d] w (RetOwn2 (topM (keyB b d.toNat) xs b.toNat) w) := by
  have HO := s_l27Ok v xs b d w h
  rw [hk] at HO
  rw [Bool.and_eq_true, digitsOk_iff, inB_iff] at hk
  obtain ⟨⟨hl, hb, hp⟩, hd⟩ := hk
  obtain ⟨B, rfl⟩ := Int.eq_ofNat_of_zero_le (show 0 ≤ b by omega)
  rw [Int.toNat_natCast]
  have HPP := Lib.hid hp
  clear hp
  obtain ⟨a, n, c, rfl, HN, h2, h3⟩ := h.formN
  have hn : n ≤ 16 := by have := HN.out; omega
  have hoL : Own2 (w.alloc (.cells #[] 26)) 26 3 w.heap.size (w.alloc (.cells #[] 26)).heap.size (.slice (some ⟨w.heap.size, 0, none⟩) 0 0) [] := by
    refine ⟨[], by simpa [ints] using Own.lit0 w 26 (Nat.le_refl _), fun k hk => ?_, RowsOwn.nil _ _ _ _⟩
    have : w.heap.size = k := Option.some.inj hk
    simp
    omega
  go_enter Try.func34, Try.ntmps34
  go_wp2_with (go_at_call 54; refine HO.mono ?_; rintro e w' ⟨rfl, rfl⟩)
  go_loopw [7, 8] (fun vo i wr => ∃ k : Nat, k ≤ B ∧ i = .int .i64 k ∧ Own2 wr 26 3 w.heap.size wr.heap.size vo (topM (keyB B d.toNat) xs k) ∧ Below w.heap.size w wr) (fun _ i _ => B - (intOf i).toNat)
  case atStart => exact ⟨0, Nat.zero_le _, rfl, hoL, (Below.refl _ _).alloc (Nat.le_refl _) _⟩
  case round =>
    clear hoL
    obtain ⟨wo, rfl⟩ : ∃ wo : World, wo = wr := ⟨_, rfl⟩
    obtain ⟨k, hk, rfl, ho, hb0⟩ := hrel
    by_cases hkB : k < B
    · have i1 : (k : Int) < (B : Int) := by omega
      have hz0 := hb0.size
      have hrl1 := (topM_size (keyB B d.toNat) xs k).1
      obtain ⟨rows, hov, hT, hrows⟩ := ho
      have hrl : rows.length ≤ 16 := by have := hrows.1; omega
      obtain ⟨ao, co, rfl, _, _⟩ := hov.rd.form
      have hbL : Below wo.heap.size wo (wo.alloc (.cells #[] 3)) := (Below.refl _ _).alloc (Nat.le_refl _) _
      go_wp2
      go_loopw [9, 26] (fun vr i wr => ∃ j : Nat, j ≤ n ∧ i = .int .i64 j ∧ Own wr 3 wo.heap.size vr (ints ((xs.take j).filter (fun x => decide (keyB B d.toNat x = (k : Int))))) ∧ Below wo.heap.size wo wr) (fun _ i _ => n - (intOf i).toNat)
      case atStart => exact ⟨0, Nat.zero_le _, rfl, by simpa using Own.lit0 wo 3 (Nat.le_refl _), hbL⟩
      case round =>
        clear hbL
        obtain ⟨j, hj, rfl, hr, hb1⟩ := hrel
        obtain ⟨ar, cr, mr, rfl, HM, _, _⟩ := hr.rd.formN
        have hcr : cr ≤ 16 := by
          have h1 := HM.out
          have h2 := List.length_filter_le (fun x => decide (keyB B d.toNat x = (k : Int))) (xs.take j)
          rw [List.length_take] at h2
          omega
        have HML : Hid ((ints ((xs.take j).filter (fun x => decide (keyB B d.toNat x = (k : Int))))).length = cr) := by rw [Hid, ints_length, HM.out]
        by_cases hjn : j < n
        · obtain ⟨ad, x, rfl, hcw, hx⟩ := h.int (show j < xs.length by have := HN.out; omega)
          have hcx := ((hb0.trans (hb1.mono hz0)).cell (World.block_lt_of_cell? w _ hcw)).trans hcw
          clear hcw
          have hxp := HPP.out x (List.mem_of_getElem? hx.out)
          have HX := s_l27Digit x B d wr hxp.1 hxp.2 hb.1 hb.2 hd.1 hd.2
          have HT : Hid (xs.take (j + 1) = xs.take j ++ [x]) := by
            obtain ⟨hk, e⟩ := List.getElem?_eq_some_iff.1 hx.out
            rw [Hid, List.take_succ_eq_append_getElem hk, e]
          have hz1 := hb1.size
          cases hq : (dig x B d.toNat == (k : Int))
          · have HF : Hid ((xs.take (j + 1)).filter (fun x => decide (keyB B d.toNat x = (k : Int))) = (xs.take j).filter (fun x => decide (keyB B d.toNat x = (k : Int)))) := by
              have h1 : ¬ keyB B d.toNat x = (k : Int) := by simpa [keyB] using hq
              rw [Hid, HT.out, List.filter_append]
              simp [h1]
            go_wp2_with (go_at_call 47; refine HX.mono ?_; rintro e w' ⟨rfl, rfl⟩)
            go_roundw
            case rel => exact ⟨j + 1, by omega, by go_num, by rw [HF.out]; exact hr, hb1⟩
            case measure => simp [intOf]; omega
          · have HF : Hid ((xs.take (j + 1)).filter (fun x => decide (keyB B d.toNat x = (k : Int))) = (xs.take j).filter (fun x => decide (keyB B d.toNat x = (k : Int))) ++ [x]) := by
              have h1 : keyB B d.toNat x = (k : Int) := by simpa [keyB] using hq
              rw [Hid, HT.out, List.filter_append]
              simp [h1]
            go_wp2_with (first
              | (go_at_call 47; refine HX.mono ?_; rintro e w' ⟨rfl, rfl⟩)
              | (at_builtin; refine wpList_app1m rfl _ _ 26 rfl elI rfl hr (by show Value.slice (some ⟨wr.heap.size, 0, none⟩) 1 1 = _; simp) rfl hz1 _ HML.out (by omega) (by omega) ?_; intro b6 c6 w6 ho6 hg6 hat6))
            go_roundw
            case rel => exact ⟨j + 1, by omega, by go_num, by rw [HF.out, ints_append]; exact ho6, hb1.grown hg6 hz1 (fun r hh => (hr.lt r hh).1)⟩
            case measure => simp [intOf]; omega
        · obtain rfl : n = j := by omega
          have HTA : Hid (xs.take n = xs) := by rw [Hid, HN.out, List.take_length]
          rw [HTA.out] at hr HM
          clear HML HTA
          have hz1 := hb1.size
          by_cases hc0 : 0 < cr
          · have HTM : Hid (topM (keyB B d.toNat) xs (k + 1) = topM (keyB B d.toNat) xs k ++ [xs.filter (fun x => decide (keyB B d.toNat x = (k : Int)))]) := by
              rw [Hid, topM, if_neg (fun e => by have := HM.out; rw [e] at this; simp at this; omega)]
            have hrA := ((hrows.below hb1).snoc (T' := wr.heap.size) (hr.mono hz0) (fun q hq => hr.lt q hq) hz1)
            have hovA := hov.below hb1
            go_wp2_with (at_builtin; refine wpList_app1 rfl _ _ 34 rfl elII rfl hovA (by show Value.slice (some ⟨wr.heap.size, 0, none⟩) 1 1 = _; simp) rfl (by omega) (by omega) (by omega) ?_; intro bn cn' w6 ho6 hg6 hat6)
            have ho7 := Own2.app' hrA hovA (by decide) hg6 ho6 hg6.size
            go_roundw
            case rel => exact ⟨k + 1, by omega, by go_num, by rw [HTM.out]; exact ho7, (hb0.trans (hb1.mono hz0)).grown hg6 (by omega) (fun r hh => (hovA.lt r hh).1)⟩
            case measure => simp [intOf]; omega
          · have HTM : Hid (topM (keyB B d.toNat) xs (k + 1) = topM (keyB B d.toNat) xs k) := by
              rw [Hid, topM, if_pos (List.eq_nil_of_length_eq_zero (by have := HM.out; omega))]
            have ho2 : Own2 wo 26 3 w.heap.size wo.heap.size _ _ := ⟨rows, hov, hT, hrows⟩
            go_wp2
            go_roundw
            case rel => exact ⟨k + 1, by omega, by go_num, by rw [HTM.out]; exact (ho2.below hb1).mono (Nat.le_refl _) hz1, hb0.trans (hb1.mono hz0)⟩
            case measure => simp [intOf]; omega
    · obtain rfl : B = k := by omega
      go_wp2
      go_ret
      exact ⟨_, rfl, ho, hb0⟩

theorem S_TopFirst (w : World) (v : Value) (xs : List Int) (h : Rd w v (ints xs)) (_ : I64s xs) (_ : xs.length ≤ 1048576) (b : Int) (_ : I64 b) (d : Int) (_ : I64 d) :
    Calls Try.prog 34 #[v, .int .i64 b, .int .i64 d] w (RetOwn2 (topFirst xs b d) w) := by
  cases hk : (digitsOk xs b && inB d 0 20)
  · have HO := s_l27Ok v xs b d w h
    rw [hk] at HO
    have HR : Hid (topFirst xs b d = []) := by rw [Hid, topFirst, if_neg (by rw [hk]; simp)]
    go_enter Try.func34, Try.ntmps34
    go_wp2_with (go_at_call 54; refine HO.mono ?_; rintro e w' ⟨rfl, rfl⟩)
    go_ret
    rw [HR.out]
    exact RetOwn2.nil w
  · rw [topFirst, if_pos hk]
    exact s_topFirst v xs b d w h hk

end Go.Proofs.Ytnjdihbaofclbaa
