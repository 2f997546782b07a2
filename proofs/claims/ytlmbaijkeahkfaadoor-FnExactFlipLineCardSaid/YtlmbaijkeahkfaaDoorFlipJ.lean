/- Walks: the fewest flips, in the reference. -/
import Derived.Test.YtlmbaijkeahkfaaDoorPlainBfs
import Derived.Test.YtlmbaijkeahkfaaDoorPlainFlip
import Derived.Deep.LoopGhost
import Derived.Test.YtlmbaijkeahkfaaDoorFlipF
import Derived.Test.YtlmbaijkeahkfaaDoorFlipE
import Derived.Test.YtlmbaijkeahkfaaDoorLists
namespace Go.Proofs.YtlmbaijkeahkfaaDoor
open Go.RowKit
set_option linter.unusedVariables false
set_option linter.unusedSimpArgs false

theorem Bfs.row {n at_ k : Nat} {T : List (List Int × Nat)} {f : Int → Option Int} (H : Bfs n at_ k T f) (hn : n ≤ 6) (h2 : 2 ≤ k) (hat : at_ < T.length) : ∀ m, m = n + 1 - k → ∃ T' f', Bfs n at_ (n + 1 + (k - (n + 1))) T' f' ∧ at_ < T'.length := by
  intro m
  induction m generalizing k T f with
  | zero => 
    intro hm
    exact ⟨T, f, by rw [show n + 1 + (k - (n + 1)) = k by omega]; exact H, hat⟩
  | succ m ih =>
    intro hm
    obtain ⟨x, d, hxd⟩ : ∃ x d, T[at_]? = some (x, d) := ⟨_, _, List.getElem?_eq_getElem hat⟩
    cases hf : f (keyN (flipL x k)) with
    | some v =>
      obtain ⟨T', f', h1, h3⟩ := ih (H.old hn hxd hf) (by omega) hat (by omega)
      exact ⟨T', f', by rw [show n + 1 + (k - (n + 1)) = n + 1 + (k + 1 - (n + 1)) by omega]; exact h1, h3⟩
    | none =>
      obtain ⟨T', f', h1, h3⟩ := ih (H.new hxd h2 (by omega) hf) (by omega) (by rw [List.length_append]; omega) (by omega)
      exact ⟨T', f', by rw [show n + 1 + (k - (n + 1)) = n + 1 + (k + 1 - (n + 1)) by omega]; exact h1, h3⟩
theorem dist_ex (n : Nat) (hn : n ≤ 6) : ∃ D, Dist n D := by
  have go : ∀ m at_ T f, Bfs n at_ 2 T f → m = 600000 - at_ → at_ ≤ T.length → ∃ D, Dist n D := by
    intro m
    induction m with
    | zero =>
      intro at_ T f H hm hat
      have := H.len hn
      omega
    | succ m ih =>
      intro at_ T f H hm hat
      by_cases h : at_ < T.length
      · obtain ⟨T', f', h1, h3⟩ := H.row hn (Nat.le_refl 2) h _ rfl
        exact ih (at_ + 1) T' f' (h1.step (by omega) h3) (by omega) h3
      · obtain ⟨D, hD, _⟩ := H.dist (by omega) hn
        exact ⟨D, hD⟩
  exact go _ 0 _ _ (Bfs.start n) rfl (Nat.zero_le _)

def gpK (xs : List Int) (i : Nat) : Nat := adjG ((xs ++ [(xs.length : Int)]).take (i + 1))
theorem gpK_zero (xs : List Int) : gpK xs 0 = 0 := by
  cases xs <;> simp [gpK, adjG]
theorem gpK_end (xs : List Int) : gpK xs xs.length = gapsN xs := by
  rw [gpK, List.take_of_length_le (by simp), gapsN]
theorem gpK_step {xs : List Int} {i : Nat} {x y : Int} (hx : xs[i]? = some x) (hy : (xs ++ [(xs.length : Int)])[i + 1]? = some y) : gpK xs (i + 1) = gpK xs i + gp x y := by
  have hi := (List.getElem?_eq_some_iff.1 hx).1
  have hx' : (xs ++ [(xs.length : Int)])[i]? = some x := by rw [List.getElem?_append_left hi]; exact hx
  have e1 : (xs ++ [(xs.length : Int)]).take (i + 1) = (xs ++ [(xs.length : Int)]).take i ++ [x] := by rw [List.take_add_one, hx']; rfl
  have e2 : (xs ++ [(xs.length : Int)]).take (i + 1 + 1) = (xs ++ [(xs.length : Int)]).take i ++ [x, y] := by rw [List.take_add_one, hy, e1]; simp
  rw [gpK, gpK, e1, e2, adjG_snoc]
theorem gpK_le (xs : List Int) : ∀ i, i ≤ xs.length → gpK xs i ≤ i
  | 0, _ => by rw [gpK_zero]; exact Nat.le_refl _
  | i + 1, h => by
    have h1 := gpK_le xs i (by omega)
    have hx : xs[i]? = some xs[i] := List.getElem?_eq_getElem (by omega)
    obtain ⟨y, hy⟩ : ∃ y, (xs ++ [(xs.length : Int)])[i + 1]? = some y := ⟨_, List.getElem?_eq_getElem (by simp only [List.length_append, List.length_singleton]; omega)⟩
    rw [gpK_step hx hy]
    have := gp_le xs[i] y
    omega

set_option maxHeartbeats 4000000 in
theorem s_l22Gaps (v : Value) (xs : List Int) (w : World) (h : Rd w v (ints xs)) (hl : xs.length ≤ 1000) (hb : ∀ x ∈ xs, 0 ≤ x ∧ x ≤ 1000) : Calls Tryd.prog 135 #[v] w (RetQ (.int .i64 (gapsN xs : Nat)) w) := by
  obtain ⟨a, n, c, rfl, HN, hnc, hc⟩ := h.formN
  have HB := Lib.hid hb
  have HE := Lib.hid (gpK_end xs)
  have HZ := Lib.hid (gpK_zero xs)
  have HLE := Lib.hid (gpK_le xs)
  have hn : n ≤ 1000 := by have := HN.out; omega
  rw [← HN.out] at HE HLE
  clear hb hl
  go_enter Tryd.func135, Tryd.ntmps135
  go_wp2
  go_loopg [3, 9] (n + 1) (fun g gv iv wr => ∃ i q : Nat, g = n + 1 - i ∧ i ≤ n ∧ gv = .int .i64 q ∧ iv = .int .i64 i ∧ Hid (gpK xs i = q) ∧ Dr w wr)
  case atStart => exact ⟨0, 0, rfl, Nat.zero_le _, rfl, rfl, HZ, Dr.refl _⟩
  case round =>
    obtain ⟨i, q, hg, hi, rfl, rfl, HQ, hdr⟩ := hrel
    by_cases hlt : i < n
    · obtain ⟨ad, x, rfl, hcx, hx⟩ := (h.dr hdr).int (k := i) (by have := HN.out; omega)
      obtain ⟨hx0, hx1⟩ := HB.out x (List.mem_of_getElem? hx.out)
      have hq : q ≤ 1000 := by have := HLE.out i hi; have := HQ.out; omega
      have i1 : (i : Int) < (n : Int) := by omega
      by_cases h2 : i + 1 < n
      · obtain ⟨ad2, y, had, hcy, hy⟩ := (h.dr hdr).int (k := i + 1) (by have := HN.out; omega)
        obtain rfl : ad = ad2 := by injection had
        clear had
        rw [add_succ] at hcy
        obtain ⟨hy0, hy1⟩ := HB.out y (List.mem_of_getElem? hy.out)
        have HS : Hid (gpK xs (i + 1) = q + gp x y) := by
          have hi2 := (List.getElem?_eq_some_iff.1 hy.out).1
          rw [Hid, gpK_step hx.out (y := y) (by rw [List.getElem?_append_left hi2]; exact hy.out), HQ.out]
        have i2 : (i : Int) + 1 < (n : Int) := by omega
        have i3 : ((i : Int) + 1).toNat = i + 1 := by omega
        by_cases hd1 : x - y = 1
        · have HS2 : Hid (gpK xs (i + 1) = q) := by rw [Hid, HS.out, gp, if_neg (by omega)]; rfl
          have z1 : (x - y != 1) = false := by simp [hd1]
          go_wp2
          go_roundg (n + 1 - (i + 1))
          case measure => omega
          case rel => exact ⟨i + 1, q, rfl, by omega, rfl, by go_num, HS2, hdr⟩
        · have z1 : (x - y != 1) = true := by simp [hd1]
          by_cases hd2 : y - x = 1
          · have HS2 : Hid (gpK xs (i + 1) = q) := by rw [Hid, HS.out, gp, if_neg (by omega)]; rfl
            have z2 : (y - x != 1) = false := by simp [hd2]
            go_wp2
            go_roundg (n + 1 - (i + 1))
            case measure => omega
            case rel => exact ⟨i + 1, q, rfl, by omega, rfl, by go_num, HS2, hdr⟩
          · have HS2 : Hid (gpK xs (i + 1) = q + 1) := by rw [Hid, HS.out, gp, if_pos (by omega)]
            have z2 : (y - x != 1) = true := by simp [hd2]
            go_wp2
            go_roundg (n + 1 - (i + 1))
            case measure => omega
            case rel => exact ⟨i + 1, q + 1, rfl, by omega, by go_num, by go_num, HS2, hdr⟩
      · have HS : Hid (gpK xs (i + 1) = q + gp x (n : Int)) := by
          have e : xs.length = i + 1 := by have := HN.out; omega
          rw [Hid, gpK_step hx.out (y := (n : Int)) (by rw [List.getElem?_append_right (by omega), e, HN.out, e]; simp), HQ.out]
        have i2 : ¬ ((i : Int) + 1 < (n : Int)) := by omega
        by_cases hd1 : x - (n : Int) = 1
        · have HS2 : Hid (gpK xs (i + 1) = q) := by rw [Hid, HS.out, gp, if_neg (by omega)]; rfl
          have z1 : (x - (n : Int) != 1) = false := by simp [hd1]
          go_wp2
          go_roundg (n + 1 - (i + 1))
          case measure => omega
          case rel => exact ⟨i + 1, q, rfl, by omega, rfl, by go_num, HS2, hdr⟩
        · have z1 : (x - (n : Int) != 1) = true := by simp [hd1]
          by_cases hd2 : (n : Int) - x = 1
          · have HS2 : Hid (gpK xs (i + 1) = q) := by rw [Hid, HS.out, gp, if_neg (by omega)]; rfl
            have z2 : ((n : Int) - x != 1) = false := by simp [hd2]
            go_wp2
            go_roundg (n + 1 - (i + 1))
            case measure => omega
            case rel => exact ⟨i + 1, q, rfl, by omega, rfl, by go_num, HS2, hdr⟩
          · have HS2 : Hid (gpK xs (i + 1) = q + 1) := by rw [Hid, HS.out, gp, if_pos (by omega)]
            have z2 : ((n : Int) - x != 1) = true := by simp [hd2]
            go_wp2
            go_roundg (n + 1 - (i + 1))
            case measure => omega
            case rel => exact ⟨i + 1, q + 1, rfl, by omega, by go_num, by go_num, HS2, hdr⟩
    · obtain rfl : i = n := by omega
      have HQ2 : Hid (gapsN xs = q) := by rw [Hid, ← HE.out]; exact HQ.out
      go_wp2
      go_ret
      exact ⟨ret_int (by rw [HQ2.out]), hdr⟩

theorem fstSome_ex {α : Type} {p : Nat → Option α} {y : α} : ∀ {m : Nat}, fstSome p m = some y → ∃ j, p j = some y
  | m + 1, h => by
    rw [fstSome] at h
    cases hf : fstSome p m with
    | some z => rw [hf] at h; simp at h; subst h; exact fstSome_ex hf
    | none => rw [hf] at h; simp at h; exact ⟨m, h⟩
theorem findE_len : ∀ {e : Nat} {xs l : List Int}, findE e xs = some l → l.length + 1 = e
  | e + 1, xs, l, h => by
    rw [findE] at h
    split at h
    · split at h
      · injection h with h; subst h; simp; omega
      · cases h
    · split at h
      · cases h
      · obtain ⟨j, hj⟩ := fstSome_ex h
        split at hj
        · cases hj
        · cases hf : findE e (flipL xs j) with
          | none => rw [hf] at hj; cases hj
          | some r =>
            rw [hf] at hj
            simp at hj
            subst hj
            have := findE_len hf
            simp
            omega
theorem findE_yes {e : Nat} {xs : List Int} (h : adjB xs = true) : (findE (e + 1) xs).isSome = decide (e = 0) ∧ ∀ l, findE (e + 1) xs = some l → l = [] := by
  rw [findE, if_pos h]
  by_cases he : e = 0
  · rw [if_pos he]
    exact ⟨by simp [he], fun l hl => by injection hl with hl; exact hl.symm⟩
  · rw [if_neg he]
    exact ⟨by simp [he], fun l hl => by cases hl⟩
theorem findE_gap {e : Nat} {xs : List Int} (h : adjB xs = false) (hg : e < gapsN xs) : findE (e + 1) xs = none := by
  rw [findE, if_neg (by rw [h]; simp), if_pos hg]
theorem findE_k {e k : Nat} {xs l : List Int} (h : adjB xs = false) (hg : ¬ e < gapsN xs) (h2 : 2 ≤ k) (hk : k ≤ xs.length) (hno : ∀ j, 2 ≤ j → j < k → findE e (flipL xs j) = none) (hl : findE e (flipL xs k) = some l) : findE (e + 1) xs = some ((k : Int) :: l) := by
  rw [findE, if_neg (by rw [h]; simp), if_neg hg]
  refine fstSome_some (k := k) (fun j hj => ?_) ?_ (by omega)
  · by_cases h3 : j < 2
    · rw [if_pos h3]
    · rw [if_neg h3, hno j (by omega) hj]; rfl
  · rw [if_neg (by omega), hl]; rfl
theorem findE_no {e : Nat} {xs : List Int} (h : adjB xs = false) (hno : ∀ j, 2 ≤ j → j ≤ xs.length → findE e (flipL xs j) = none) : findE (e + 1) xs = none := by
  rw [findE, if_neg (by rw [h]; simp)]
  split
  · rfl
  · refine fstSome_none fun j hj => ?_
    by_cases h3 : j < 2
    · rw [if_pos h3]
    · rw [if_neg h3, hno j (by omega) (by omega)]; rfl
theorem gapsN_le (xs : List Int) : gapsN xs ≤ xs.length := by
  rw [← gpK_end]; exact gpK_le xs _ (Nat.le_refl _)
def RetFind (E : Nat) (r : Option (List Int)) (w : World) (e : Ending) (w' : World) : Prop :=
  ∃ v, e = .returned (.tuple #[v, .bool r.isSome]) ∧ Below w.heap.size w w' ∧ ∀ l, r = some l → Own w' E w.heap.size v (ints l)

set_option maxRecDepth 100000 in
set_option maxHeartbeats 8000000 in
theorem s_l22Find (n : Nat) (hn : n ≤ 6) : ∀ (e : Nat) (v : Value) (xs : List Int) (w : World) (z : Int), e ≤ 20 → z = (e : Int) - 1 → Rd w v (ints xs) → PermN n xs → Calls Tryd.prog 136 #[v, .int .i64 z] w (RetFind 3 (findE e xs) w) := by
  intro e
  induction e with
  | zero =>
    intro v xs w z hz0 hz h hp
    clear hz0
    obtain rfl : z = -1 := by omega
    clear hz
    have HS := Lib.hid (s_l03Rises v xs w h)
    have HG := Lib.hid (fun W (hW : Dr w W) => s_l22Gaps v xs W (h.dr hW) (by rw [hp.1]; omega) (fun x hx => by have := hp.2.1 x hx; omega))
    have HL := Lib.hid (gapsN_le xs)
    have hgl : gapsN xs ≤ 6 := by have := gapsN_le xs; rw [hp.1] at this; omega
    obtain ⟨g, hg⟩ : ∃ g, gapsN xs = g := ⟨_, rfl⟩
    rw [hg] at HG hgl
    have HV : Hid (findE 0 xs = none) := rfl
    generalize findE 0 xs = R at HV ⊢
    obtain ⟨a, m, c, rfl, HN, hnc, hc⟩ := h.formN
    clear hg hp h HL
    cases hr : adjB xs
    · rw [hr] at HS
      clear hr
      have i1 : ((g : Int) > -1) := by omega
      go_enter Tryd.func136, Tryd.ntmps136
      go_wp2_with (first
        | (go_at_call 157; refine HS.out.mono ?_; rintro e w1 ⟨rfl, hd1⟩)
        | (go_at_call 135; refine (HG.out _ hd1).mono ?_; rintro e w2 ⟨rfl, hd2⟩))
      go_ret2
      exact ⟨_, by rw [HV.out]; rfl, (hd1.below _).trans (hd2.below _), fun l hl => by rw [HV.out] at hl; cases hl⟩
    · rw [hr] at HS
      clear hr
      go_enter Tryd.func136, Tryd.ntmps136
      go_wp2_with (first
        | (go_at_call 157; refine HS.out.mono ?_; rintro e w1 ⟨rfl, hd1⟩))
      go_ret2
      exact ⟨_, by rw [HV.out]; rfl, (hd1.below w.heap.size).alloc (hd1.below w.heap.size).size _, fun l hl => by rw [HV.out] at hl; cases hl⟩
  | succ e ih =>
    intro v xs w z he hz h hp
    obtain rfl : z = (e : Int) := by omega
    clear hz
    have HS := Lib.hid (s_l03Rises v xs w h)
    have HG := Lib.hid (fun W (hW : Dr w W) => s_l22Gaps v xs W (h.dr hW) (by rw [hp.1]; omega) (fun x hx => by have := hp.2.1 x hx; omega))
    have hgl : gapsN xs ≤ 6 := by have := gapsN_le xs; rw [hp.1] at this; omega
    have HIH := Lib.hid (fun (k : Nat) (v : Value) (W : World) (hW : Rd W v (ints (flipL xs k))) => ih v (flipL xs k) W ((e : Int) - 1) (by omega) rfl hW hp.flip)
    have HYES := Lib.hid (fun h => @findE_yes e xs h)
    have HGAP := Lib.hid (fun h => @findE_gap e xs h)
    have HK := Lib.hid (fun k l h => @findE_k e k xs l h)
    have HNO := Lib.hid (fun h => @findE_no e xs h)
    have HLEN := Lib.hid (fun k l => @findE_len e (flipL xs k) l)
    have HXN := Lib.hid hp.1
    have HFL := Lib.hid (fun (k : Nat) (W : World) (hW : Below w.heap.size w W) (h2 : 2 ≤ k) (hk : k ≤ n) => s_l22Flip v xs k W (h.below hW) (by rw [hp.1]; omega) (by rw [hp.1]; exact hk) (by rw [hp.1]; omega))
    obtain ⟨g, hg⟩ : ∃ g, gapsN xs = g := ⟨_, rfl⟩
    rw [hg] at HG hgl HGAP HK
    obtain ⟨a, m, c, rfl, HN, hnc, hc⟩ := h.formN
    obtain rfl : m = n := by rw [HN.out, HXN.out]
    clear hg hp h ih
    generalize findE (e + 1) xs = R at HYES HGAP HK HNO ⊢
    generalize findE e = F at HIH HK HNO HLEN
    cases hr : adjB xs
    · rw [hr] at HS HGAP HK HNO
      clear hr HYES
      by_cases i1 : e < g
      · have HV := Lib.hid (HGAP.out rfl i1)
        go_enter Tryd.func136, Tryd.ntmps136
        go_wp2_with (first
          | (go_at_call 157; refine HS.out.mono ?_; rintro e w1 ⟨rfl, hd1⟩)
          | (go_at_call 135; refine (HG.out _ hd1).mono ?_; rintro e w2 ⟨rfl, hd2⟩))
        go_ret2
        exact ⟨_, by rw [HV.out]; rfl, (hd1.below _).trans (hd2.below _), fun l hl => by rw [HV.out] at hl; cases hl⟩
      · have HK2 := Lib.hid (fun k l => HK.out k l rfl i1)
        have HNO2 := Lib.hid (HNO.out rfl)
        clear HK HNO HGAP
        go_enter Tryd.func136, Tryd.ntmps136
        go_upto_region 5 with (first
          | (go_at_call 157; refine HS.out.mono ?_; rintro e w1 ⟨rfl, hd1⟩)
          | (go_at_call 135; refine (HG.out _ hd1).mono ?_; rintro e w2 ⟨rfl, hd2⟩))
        have hb2 : Below w.heap.size w w2 := (hd1.below _).trans (hd2.below _)
        clear hd1 hd2 HS HG
        go_wp2
        go_loopg [6] (m + 1) (fun gk kv wr => ∃ k : Nat, gk = m + 3 - k ∧ 2 ≤ k ∧ (k ≤ m + 1 ∨ k = 2) ∧ kv = .int .i64 k ∧ Hid (∀ j, 2 ≤ j → j < k → F (flipL xs j) = none) ∧ Below w.heap.size w wr)
        case atStart => exact ⟨2, by omega, Nat.le_refl _, .inr rfl, rfl, fun j h2 hj => by omega, hb2⟩
        case round =>
          clear hb2
          obtain ⟨k, hgk, hk2, hkn, rfl, HJ, hb⟩ := hrel
          have hsb := hb.size
          by_cases hk : k ≤ m
          · have i2 : (k : Int) ≤ (m : Int) := by omega
            have HF1 := Lib.hid (HFL.out k wr hb hk2 hk)
            have HI1 := Lib.hid (HIH.out k)
            have HL1 := Lib.hid (HLEN.out k)
            have HK3 := Lib.hid (fun l => HK2.out k l hk2 (by rw [HXN.out]; exact hk) HJ.out)
            have HJ1 : Hid (F (flipL xs k) = none → ∀ j, 2 ≤ j → j < k + 1 → F (flipL xs j) = none) := fun h0 j h2 hj => by
              by_cases ee : j = k
              · subst ee; exact h0
              · exact HJ.out j h2 (by omega)
            cases hf : F (flipL xs k) with
            | none =>
              rw [hf] at HI1
              have HJ2 := Lib.hid (HJ1.out hf)
              clear HJ1 HK3 HL1 hf
              go_wp2_with (first
                | (go_at_call 82; refine HF1.out.mono ?_; rintro e w3 ⟨v3, rfl, ho3, hb3⟩)
                | (go_at_call 136; refine (HI1.out _ _ ho3.rd).mono ?_; rintro e w4 ⟨v4, rfl, hb4, _⟩))
              go_roundg (m + 3 - (k + 1))
              case measure => omega
              case rel => exact ⟨k + 1, rfl, by omega, .inl (by omega), by go_num, HJ2, (hb.trans (hb3.mono hsb)).trans (hb4.mono (Nat.le_trans hsb hb3.size))⟩
            | some l =>
              rw [hf] at HI1
              have HV := Lib.hid (HK3.out l hf)
              have hll := HL1.out l hf
              obtain ⟨q, hq⟩ : ∃ q, l.length = q := ⟨_, rfl⟩
              have HQ : Hid (1 + (ints l).length = q + 1) := by rw [Hid, ints_length]; omega
              have hq1 : q ≤ 20 := by omega
              have HCO : Hid (ints ((k : Int) :: l) = [.int .i64 (k : Int)] ++ ints l) := rfl
              clear HJ1 HK3 HL1 hf hll hq
              go_wp2_with (first
                | (go_at_call 82; refine HF1.out.mono ?_; rintro e w3 ⟨v3, rfl, ho3, hb3⟩; have hb3' := hb.trans (hb3.mono hsb))
                | (go_at_call 136; refine (HI1.out _ _ ho3.rd).mono ?_; rintro e w4 ⟨v4, rfl, hb4, ho4'⟩; have ho4 := ho4' l rfl; clear ho4'; have hb4' := hb3'.trans (hb4.mono hb3'.size); have hs4 := hb4'.size; have hA : Below w4.heap.size w4 (w4.alloc (.cells #[.int .i64 (k : Int)] 3)) := (Below.refl _ _).alloc (Nat.le_refl _) _; have hr4 := (ho4.below hA).rd; have hlit := Own.lit w4 3 w.heap.size #[.int .i64 (k : Int)] hs4 (by simp); have hbA := hb4'.trans (hA.mono hs4); have hsA := hbA.size)
                | (at_builtin; refine wpList_appn rfl _ _ 22 rfl elI hlit hr4 rfl rfl (oneCell_ints1 _) hsA (q + 1) HQ.out (by omega) (by omega) ?_; intro b5 c5 w5 ho5 hg5 hat5))
              go_ret2
              exact ⟨_, by rw [HV.out]; rfl, hbA.grown hg5 hsA (fun r hr => (hlit.lt r hr).1), fun l' hl' => by
                rw [HV.out] at hl'
                injection hl' with hl'
                rw [← hl', HCO.out]
                exact ho5⟩
          · have HV := Lib.hid (HNO2.out (fun j h2 hj => HJ.out j h2 (by rw [HXN.out] at hj; omega)))
            have i2 : ¬ ((k : Int) ≤ (m : Int)) := by omega
            go_wp2
            go_ret2
            exact ⟨_, by rw [HV.out]; rfl, hb, fun l hl => by rw [HV.out] at hl; cases hl⟩
    · rw [hr] at HS HYES
      have HY1 := Lib.hid (HYES.out rfl).1
      have HY2 := Lib.hid (HYES.out rfl).2
      clear hr HYES HK HNO HGAP
      have HD : Hid (decide (e = 0) = ((e : Int) == 0)) := by
        rw [Hid]
        by_cases h0 : e = 0
        · subst h0; rfl
        · rw [decide_eq_false h0]; symm; rw [beq_eq_false_iff_ne]; omega
      go_enter Tryd.func136, Tryd.ntmps136
      go_wp2_with (go_at_call 157; refine HS.out.mono ?_; rintro e w1 ⟨rfl, hd1⟩)
      all_goals
        go_ret2
        refine ⟨_, by rw [HY1.out, HD.out]; first | rfl | simp [*], (hd1.below w.heap.size).alloc (hd1.below w.heap.size).size _, fun l hl => by
          rw [HY2.out l hl]
          have := Own.lit0 w1 3 (B := w.heap.size) (hd1.below w.heap.size).size
          simpa [ints] using this⟩

set_option maxRecDepth 100000 in
set_option maxHeartbeats 4000000 in
theorem s_l22Best (v : Value) (xs : List Int) (w : World) (h : Rd w v (ints xs)) (hs : sixB xs = true) : Calls Tryd.prog 84 #[v] w (RetOwn 3 (ints (bestL xs)) w) := by
  obtain ⟨h6, hp⟩ := sixB_perm hs
  obtain ⟨D, hD⟩ := dist_ex xs.length h6
  obtain ⟨l, hl, _, _⟩ := hD.found _ xs hp rfl
  have hBL := hD.best hp hl
  have hlen := hD.len hp
  have hgap := hD.gaps _ xs hp (Nat.le_refl _)
  have HNO := Lib.hid (fun e he => hD.none e xs hp he)
  have HG := Lib.hid (s_l22Gaps v xs w h (by omega) (fun x hx => by have := hp.2.1 x hx; omega))
  have HF := Lib.hid (fun (d : Nat) (W : World) (hW : Below w.heap.size w W) (hd : d ≤ 15) => s_l22Find xs.length h6 (d + 1) v xs W (d : Int) (by omega) (by omega) (h.below hW) hp)
  have HL := Lib.hid hl
  rw [hBL]
  obtain ⟨m, hm⟩ : ∃ m, D xs = m := ⟨_, rfl⟩
  obtain ⟨g, hg⟩ : ∃ g, gapsN xs = g := ⟨_, rfl⟩
  rw [hm] at hlen hgap HNO HL
  rw [hg] at HG hgap
  have hm2 : m ≤ 12 := by omega
  have HFN : Hid (∀ (d : Nat) (W : World), Below w.heap.size w W → d < m → Calls Tryd.prog 136 #[v, .int .i64 (d : Int)] W (RetFind 3 none W)) := fun d W hW hd => by
    have := HF.out d W hW (by omega)
    rwa [HNO.out (d + 1) (by omega)] at this
  have HFY : Hid (∀ (W : World), Below w.heap.size w W → Calls Tryd.prog 136 #[v, .int .i64 (m : Int)] W (RetFind 3 (some l) W)) := fun W hW => by
    have := HF.out m W hW (by omega)
    rwa [HL.out] at this
  obtain ⟨a, n, c, rfl, HN, hnc, hc⟩ := h.formN
  clear hBL hlen HNO HF HL hm hg hl hD hp h6 hs h
  go_enter Tryd.func84, Tryd.ntmps84
  go_upto_region 2 with (go_at_call 135; refine HG.out.mono ?_; rintro e w1 ⟨rfl, hd1⟩; have hb1 := hd1.below w.heap.size)
  go_loopg [3] (m - g) (fun gk dv wr => ∃ d : Nat, gk = m - d ∧ d ≤ m ∧ dv = .int .i64 d ∧ Below w.heap.size w wr)
  case atStart => exact ⟨g, rfl, hgap, rfl, hb1⟩
  case round =>
    clear hb1 hd1
    obtain ⟨d, hgk, hdm, rfl, hb⟩ := hrel
    by_cases hlt : d < m
    · have HX := Lib.hid (HFN.out d wr hb hlt)
      go_wp2_with (go_at_call 136; refine HX.out.mono ?_; rintro e w4 ⟨v4, rfl, hb4, _⟩)
      go_roundg (m - (d + 1))
      case measure => omega
      case rel => exact ⟨d + 1, rfl, by omega, by go_num, hb.trans (hb4.mono hb.size)⟩
    · obtain rfl : d = m := by omega
      have HX := Lib.hid (HFY.out wr hb)
      go_wp2_with (go_at_call 136; refine HX.out.mono ?_; rintro e w4 ⟨v4, rfl, hb4, ho4⟩)
      go_ret
      exact ⟨_, rfl, (ho4 l rfl).mono hb.size, hb.trans (hb4.mono hb.size)⟩

set_option maxRecDepth 100000 in
set_option maxHeartbeats 4000000 in
theorem s_BestFlips (v : Value) (xs : List Int) (w : World) (h : Rd w v (ints xs)) (hs : sixB xs = true) : Calls Tryd.prog 38 #[v] w (RetOwnB 3 (ints (bestL xs)) true w) := by
  have HS := Lib.hid (hs ▸ s_l22Ok v xs w h)
  have HB := Lib.hid (fun (W : World) (hW : Below w.heap.size w W) => s_l22Best v xs W (h.below hW) hs)
  generalize bestL xs = BL at HB ⊢
  obtain ⟨a, n, c, rfl, HN, hnc, hc⟩ := h.formN
  clear hs
  go_enter Tryd.func38, Tryd.ntmps38
  go_wp2_with (first
    | (go_at_call 83; refine HS.out.mono ?_; rintro e w1 ⟨rfl, hb1⟩)
    | (go_at_call 84; refine (HB.out _ hb1).mono ?_; rintro e w2 ⟨v2, rfl, ho2, hb2⟩))
  go_ret2
  exact ⟨_, rfl, ho2.mono hb1.size, hb1.trans (hb2.mono hb1.size)⟩
def RetNo (w : World) (e : Ending) (w' : World) : Prop := ∃ v, e = .returned (.tuple #[v, .bool false]) ∧ Below w.heap.size w w'
set_option maxHeartbeats 4000000 in
theorem s_BestFlipsNo (v : Value) (xs : List Int) (w : World) (h : Rd w v (ints xs)) (hs : sixB xs = false) : Calls Tryd.prog 38 #[v] w (RetNo w) := by
  have HS := Lib.hid (hs ▸ s_l22Ok v xs w h)
  obtain ⟨a, n, c, rfl, HN, hnc, hc⟩ := h.formN
  clear hs
  go_enter Tryd.func38, Tryd.ntmps38
  go_wp2_with (go_at_call 83; refine HS.out.mono ?_; rintro e w1 ⟨rfl, hb1⟩)
  go_ret2
  exact ⟨_, rfl, hb1⟩

set_option maxHeartbeats 4000000 in
theorem i_BestFlipsNo (v : Value) (xs : List Int) (w : World) (h : Rd w v (ints xs)) (hs : sixB xs = false) : Calls Tryd.prog 42 #[v] w (RetNo w) := by
  have HS := Lib.hid (hs ▸ i_isSix v xs w h)
  obtain ⟨a, n, c, rfl, HN, hnc, hc⟩ := h.formN
  clear hs
  go_enter Tryd.func42, Tryd.ntmps42
  go_wp2_with (go_at_call 89; refine HS.out.mono ?_; rintro e w1 ⟨rfl, hb1⟩)
  go_ret2
  exact ⟨_, rfl, hb1⟩

end Go.Proofs.YtlmbaijkeahkfaaDoor
