/- Walks: two sorted blocks are merged in place, by symmetric comparisons. -/
import Derived.Test.YtdagkgkllgpeeaaDoorSym
namespace Go.Proofs.YtdagkgkllgpeeaaDoor
open Go.RowKit
set_option linter.unusedVariables false
set_option linter.unusedSimpArgs false

/-- What the walk knows of a function that compares: where the world may have turned in one block alone, it answers by the keys. -/
def CmpOk (key : Int → Int) (p : Int → Prop) (fn : Nat) (cap : Array Value) (row : Option Nat) (w : World) : Prop :=
  ∀ (wx : World) (x y : Int), w.grownBy wx row → p x → p y → Calls Tryd.prog fn (#[.int .i64 x, .int .i64 y] ++ cap) wx (RetQ (.int .i64 (cmpV key x y)) wx)
theorem CmpOk.up {key : Int → Int} {p : Int → Prop} {fn : Nat} {cap : Array Value} {row : Option Nat} {w w' : World} (h : CmpOk key p fn cap row w) (hg : w.grownBy w' row) : CmpOk key p fn cap row w' :=
  fun wx x y h1 => h wx x y (grownBy_trans hg h1)
theorem cmpV_lt {key : Int → Int} {x y : Int} (h : key x < key y) : decide (cmpV key x y < 0) = true := by rw [cmpV, if_pos h]; rfl
theorem cmpV_ge {key : Int → Int} {x y : Int} (h : ¬ key x < key y) : decide (cmpV key x y < 0) = false := by rw [cmpV, if_neg h]; split <;> rfl

set_option maxRecDepth 100000 in
set_option maxHeartbeats 8000000 in
theorem f_sym_first (key : Int → Int) (p : Int → Prop) (fn : Nat) (cap : Array Value) (hknown : Known fn) (v : Value) (Bk n : Nat) (hl : n ≤ 1000) (P B S : List Int) (x : Int) (a m b : Nat) (w : World)
    (ho : Own w 3 Bk v (ints (P ++ ([x] ++ (B ++ S))))) (hn : (P ++ ([x] ++ (B ++ S))).length = n) (ha : a = P.length) (hm : m = a + 1) (hb : b = m + B.length) (hB1 : 1 ≤ B.length) (hB : KAsc key B)
    (hpx : p x) (hpB : ∀ y ∈ B, p y) (hc : CmpOk key p fn cap v.ownBlock w) :
    Calls Tryd.prog 243 #[v, .int .i64 a, .int .i64 m, .int .i64 b, .func (.func fn) #[] cap] w (RetS Bk v (P ++ (srtS key ([x] ++ B) ++ S)) w) := by
  obtain ⟨al, c, rfl, h2, h3⟩ := ho.rd.formi
  obtain ⟨xs, hxs⟩ : ∃ xs, P ++ ([x] ++ (B ++ S)) = xs := ⟨_, rfl⟩
  rw [hxs] at ho hn ⊢
  rw [hn] at ho ⊢
  obtain ⟨T, hT⟩ : ∃ T, P ++ (srtS key ([x] ++ B) ++ S) = T := ⟨_, rfl⟩
  rw [hT]
  have HTT := Lib.hid hT
  clear hT
  have hnn : n = P.length + 1 + B.length + S.length := by rw [← hn, ← hxs]; simp; omega
  have HX := Lib.hid hxs
  have HN := Lib.hid hn
  have HCM := Lib.hid hc
  have HPB := Lib.hid hpB
  have HKB := Lib.hid hB
  have hbn : b ≤ n := by omega
  have hab : a + 2 ≤ b := by omega
  have ham : a < n := by omega
  have HA0 := Lib.hid ha
  have HMM := Lib.hid hm
  have HBB := Lib.hid hb
  have e1 : ((m : Int) - (a : Int) == 1) = true := by simp; omega
  have hmb : m ≤ b := by omega
  have hm1 : 1 ≤ m := by omega
  have hxa : Hid (xs[a]? = some x) := by rw [Hid, ← hxs, ha]; simp
  have HxB : Hid (∀ q, m ≤ q → q < b → xs[q]? = B[q - m]?) := fun q h1 h2 => by
    have := get_B (P := P) (A := [x]) (B := B) (S := S) (c := q) (by simp; omega) (by simp; omega)
    rw [← hxs, this]
    congr 1
    simp
    omega
  clear hxs hn h2 hc hpB hB ha hm hb hnn
  go_enter Tryd.func243, Tryd.ntmps243
  go_wp2_with fail
  go_loopw [10, 11, 12] (fun iv jv hv wr => ∃ (i j : Nat), m ≤ i ∧ i ≤ j ∧ j ≤ b ∧ iv = .int .i64 (i : Int) ∧ jv = .int .i64 (j : Int) ∧ Hid (i = m ∨ ∃ y, B[i - 1 - m]? = some y ∧ key y < key x) ∧ Hid (j = b ∨ ∃ y, B[j - m]? = some y ∧ key x ≤ key y) ∧ Own wr 3 Bk (.slice al n c) (ints xs) ∧ w.grownBy wr (Value.slice al n c).ownBlock) (fun iv jv _ _ => (intOf jv).toNat - (intOf iv).toNat)
  case atStart => exact ⟨m, b, Nat.le_refl _, hmb, Nat.le_refl _, rfl, rfl, .inl rfl, .inl rfl, ho, World.grownBy.refl _ _⟩
  case round =>
    clear ho
    obtain ⟨i, j, him, hij, hjb, rfl, rfl, HI, HJ, ho, hg⟩ := hrel
    by_cases hlt : i < j
    · have i1 : (i : Int) < (j : Int) := by omega
      obtain ⟨q, hq⟩ : ∃ q : Nat, ((i : Int) + (j : Int)) / 2 = (q : Int) := ⟨(i + j) / 2, by omega⟩
      have hqi : i ≤ q := by omega
      have hqj : q < j := by omega
      have HQ := Lib.hid hq
      clear hq
      go_wp2_with fail
      rw [HQ.out]
      have hyB := HxB.out q (by omega) (by omega)
      obtain ⟨y, hy0⟩ : ∃ y, B[q - m]? = some y := ⟨_, List.getElem?_eq_getElem (by have := HBB.out; omega)⟩
      rw [hy0] at hyB
      have HY := Lib.hid hy0
      have hyp := HPB.out y (List.mem_of_getElem? hy0)
      obtain ⟨ad, y2, rfl, hcy, hy2⟩ := ho.rd.int (k := q) (by have := HN.out; omega)
      have hcx := ho.rd.cell_i hxa.out
      have hcyy := ho.rd.cell_i hyB
      have i2 : (q : Int) < (n : Int) := by omega
      have i3 : (a : Int) < (n : Int) := by omega
      have GC : Hid (∀ nn, Calls Tryd.prog fn (#[.int .i64 y, .int .i64 x] ++ cap) (wr.drewN nn) (RetQ (.int .i64 (cmpV key y x)) (wr.drewN nn))) := fun nn => HCM.out _ y x (grownBy_drewN hg nn) hyp hpx
      have hcall : ∀ W, (callFunc fn (#[.int .i64 y, .int .i64 x] ++ cap)).run Tryd.prog W = .ok (.enter fn (#[.int .i64 y, .int .i64 x] ++ cap)) W := fun W => hknown _ W
      clear hcy hy2 hy0 hyB
      by_cases hk : key y < key x
      · have hcv := cmpV_lt hk
        have HK := Lib.hid hk
        obtain ⟨cq, hcq⟩ : ∃ cq, cmpV key y x = cq := ⟨_, rfl⟩
        rw [hcq] at GC hcv
        clear hcq hk
        go_quiet ((exact quietQ (GC.out _)))
        rename_i nq
        have ho1 := ho.drewN nq
        have hg1 := grownBy_drewN hg nq
        clear hcx hcyy GC hcall ho hg
        go_wp2_with fail
        go_roundw
        case rel => exact ⟨q + 1, j, by omega, by omega, hjb, by go_num, rfl, .inr ⟨y, by rw [show q + 1 - 1 - m = q - m by omega]; exact HY.out, HK.out⟩, HJ, ho1, hg1⟩
        case measure => simp [intOf]; omega
      · have hcv := cmpV_ge hk
        have HK := Lib.hid hk
        obtain ⟨cq, hcq⟩ : ∃ cq, cmpV key y x = cq := ⟨_, rfl⟩
        rw [hcq] at GC hcv
        clear hcq hk
        go_quiet ((exact quietQ (GC.out _)))
        rename_i nq
        have ho1 := ho.drewN nq
        have hg1 := grownBy_drewN hg nq
        clear hcx hcyy GC hcall ho hg
        go_wp2_with fail
        go_roundw
        case rel => exact ⟨i, q, him, hqi, by omega, rfl, rfl, HI, .inr ⟨y, HY.out, by have := HK.out; omega⟩, ho1, hg1⟩
        case measure => simp [intOf]; omega
    · obtain rfl : i = j := by omega
      have HS : Hid (upN xs a (i - 1 - a) = P ++ (srtS key ([x] ++ B) ++ S)) := by
        have e := first_cut HKB.out (i - m) (by have := HBB.out; omega) (by
          rcases HI.out with h | ⟨y, hy, hk⟩
          · exact .inl (by omega)
          · exact .inr ⟨y, by rw [show i - m - 1 = i - 1 - m by omega]; exact hy, hk⟩) (by
          rcases HJ.out with h | ⟨y, hy, hk⟩
          · exact .inl (by have := HBB.out; omega)
          · exact .inr ⟨y, hy, hk⟩)
        have u := upN_blocks (B.take (i - m)) P (B.drop (i - m) ++ S) x
        rw [List.length_take, show min (i - m) B.length = i - 1 - a by have := HBB.out; have := HMM.out; omega, ← HA0.out] at u
        rw [Hid, e, ← HX.out]
        have e2 : P ++ ([x] ++ (B ++ S)) = P ++ (x :: (B.take (i - m) ++ (B.drop (i - m) ++ S))) := by
          rw [← List.append_assoc (B.take (i - m)), List.take_append_drop]; rfl
        rw [e2, u]
        simp
      rw [HTT.out] at HS
      obtain ⟨r, hr⟩ : ∃ r, i = r + 1 := ⟨i - 1, by omega⟩
      have har : a ≤ r := by have := HMM.out; omega
      have hrn : r + 1 ≤ n := by omega
      subst hr
      clear HI HJ him hij hjb hlt
      have HS' : Hid (upN xs a (r - a) = T) := by have := HS.out; rwa [show r + 1 - 1 - a = r - a by omega] at this
      clear HS
      have e9 : ((r + 1 : Nat) : Int) - 1 = (r : Int) := by omega
      have e10 : (r : Int) + 1 - 1 = (r : Int) := by omega
      go_wp2_with fail
      go_loopw [13] (fun kv wz => ∃ (k : Nat) (zs : List Int), k ≤ r ∧ kv = .int .i64 (k : Int) ∧ Own wz 3 Bk (.slice al n c) (ints zs) ∧ Hid (zs.length = n) ∧ Hid (upN zs k (r - k) = T) ∧ w.grownBy wz (Value.slice al n c).ownBlock) (fun kv _ => r - (intOf kv).toNat)
      case atStart => exact ⟨a, xs, har, rfl, ho, HN, HS', hg⟩
      case round =>
        clear ho hg HS' HX
        obtain ⟨k, zs, hkr, rfl, ho, HZ, HT, hg⟩ := hrel
        by_cases hk : k < r
        · have i0 : (k : Int) < (r : Int) := by omega
          obtain ⟨ad, y, rfl, _, hy⟩ := ho.rd.int (k := k) (by rw [HZ.out]; omega)
          obtain ⟨_, z, had, _, hz⟩ := ho.rd.int (k := k + 1) (by rw [HZ.out]; omega)
          clear had
          obtain ⟨c1, c2, f1, f2, c3, f3, ho3, hg3⟩ := swp_w ho hy.out hz.out (by omega)
          have HT3 : Hid (upN (swp zs k (k + 1)) (k + 1) (r - (k + 1)) = T) := by
            have := HT.out
            rw [show r - k = (r - (k + 1)) + 1 by omega, upN] at this
            exact this
          have HZ3 : Hid ((swp zs k (k + 1)).length = n) := by rw [Hid, swp_length]; exact HZ.out
          replace hg3 := grownBy_trans hg hg3
          have i1 : (k : Int) < (n : Int) := by omega
          have i2 : (k : Int) + 1 < (n : Int) := by omega
          have i4 : (0 : Int) ≤ (k : Int) + 1 := by omega
          have i5 : ((k : Int) + 1).toNat = k + 1 := by omega
          rw [add_succ] at c2 f2 c3 f3 ho3 hg3
          clear ho hg hy hz
          go_wp2_with fail
          go_region
          all_goals
            go_wp2_with fail
            go_roundw
            case rel => exact ⟨k + 1, _, by omega, by go_num, ho3, HZ3, HT3, ⟨hg3.os, hg3.tape, hg3.output, hg3.size, hg3.block⟩⟩
            case measure => simp [intOf]; omega
        · obtain rfl : k = r := by omega
          have HE : Hid (zs = T) := by have := HT.out; rw [Nat.sub_self] at this; exact this
          rw [HE.out] at ho
          go_wp2_with fail
          refine bodyPost_ret (results_none rfl _ _ _) rfl ?_
          exact ⟨rfl, ho, hg⟩

set_option maxRecDepth 100000 in
set_option maxHeartbeats 8000000 in
theorem f_sym_last (key : Int → Int) (p : Int → Prop) (fn : Nat) (cap : Array Value) (hknown : Known fn) (v : Value) (Bk n : Nat) (hl : n ≤ 1000) (P A S : List Int) (x : Int) (a m b : Nat) (w : World)
    (ho : Own w 3 Bk v (ints (P ++ (A ++ ([x] ++ S))))) (hn : (P ++ (A ++ ([x] ++ S))).length = n) (ha : a = P.length) (hm : m = a + A.length) (hb : b = m + 1) (hA1 : 2 ≤ A.length) (hA : KAsc key A)
    (hpx : p x) (hpA : ∀ y ∈ A, p y) (hc : CmpOk key p fn cap v.ownBlock w) :
    Calls Tryd.prog 243 #[v, .int .i64 a, .int .i64 m, .int .i64 b, .func (.func fn) #[] cap] w (RetS Bk v (P ++ (srtS key (A ++ [x]) ++ S)) w) := by
  obtain ⟨al, c, rfl, h2, h3⟩ := ho.rd.formi
  obtain ⟨xs, hxs⟩ : ∃ xs, P ++ (A ++ ([x] ++ S)) = xs := ⟨_, rfl⟩
  rw [hxs] at ho hn ⊢
  rw [hn] at ho ⊢
  obtain ⟨T, hT⟩ : ∃ T, P ++ (srtS key (A ++ [x]) ++ S) = T := ⟨_, rfl⟩
  rw [hT]
  have HTT := Lib.hid hT
  clear hT
  have hnn : n = P.length + A.length + 1 + S.length := by rw [← hn, ← hxs]; simp; omega
  have HX := Lib.hid hxs
  have HN := Lib.hid hn
  have HCM := Lib.hid hc
  have HPA := Lib.hid hpA
  have HKA := Lib.hid hA
  have hmn : m < n := by omega
  have ham : a + 2 ≤ m := by omega
  have HA0 := Lib.hid ha
  have HMM := Lib.hid hm
  have e1 : ((m : Int) - (a : Int) == 1) = false := by simp; omega
  have e2 : ((b : Int) - (m : Int) == 1) = true := by simp; omega
  have e2i : (b : Int) - (m : Int) = 1 := by omega
  have hxm : Hid (xs[m]? = some x) := by
    have := get_B (P := P) (A := A) (B := [x]) (S := S) (c := m) (by omega) (by simp; omega)
    rw [Hid, ← hxs, this, hm, ha]
    simp
  have HxA : Hid (∀ q, a ≤ q → q < m → xs[q]? = A[q - a]?) := fun q h1 h2 => by
    have := get_A (P := P) (A := A) (B := [x]) (S := S) (c := q) (by omega) (by omega)
    rw [← hxs, this, ha]
  clear hxs hn h2 hc hpA hA ha hm hb hnn hA1
  go_enter Tryd.func243, Tryd.ntmps243
  go_wp2_with fail
  go_loopw [14, 15, 16] (fun iv jv hv wr => ∃ (i j : Nat), a ≤ i ∧ i ≤ j ∧ j ≤ m ∧ iv = .int .i64 (i : Int) ∧ jv = .int .i64 (j : Int) ∧ Hid (i = a ∨ ∃ y, A[i - 1 - a]? = some y ∧ key y ≤ key x) ∧ Hid (j = m ∨ ∃ y, A[j - a]? = some y ∧ key x < key y) ∧ Own wr 3 Bk (.slice al n c) (ints xs) ∧ w.grownBy wr (Value.slice al n c).ownBlock) (fun iv jv _ _ => (intOf jv).toNat - (intOf iv).toNat)
  case atStart => exact ⟨a, m, Nat.le_refl _, by omega, Nat.le_refl _, rfl, rfl, .inl rfl, .inl rfl, ho, World.grownBy.refl _ _⟩
  case round =>
    clear ho
    obtain ⟨i, j, him, hij, hjb, rfl, rfl, HI, HJ, ho, hg⟩ := hrel
    by_cases hlt : i < j
    · have i1 : (i : Int) < (j : Int) := by omega
      obtain ⟨q, hq⟩ : ∃ q : Nat, ((i : Int) + (j : Int)) / 2 = (q : Int) := ⟨(i + j) / 2, by omega⟩
      have hqi : i ≤ q := by omega
      have hqj : q < j := by omega
      have HQ := Lib.hid hq
      clear hq
      go_wp2_with fail
      rw [HQ.out]
      have hyA := HxA.out q (by omega) (by omega)
      obtain ⟨y, hy0⟩ : ∃ y, A[q - a]? = some y := ⟨_, List.getElem?_eq_getElem (by have := HMM.out; omega)⟩
      rw [hy0] at hyA
      have HY := Lib.hid hy0
      have hyp := HPA.out y (List.mem_of_getElem? hy0)
      obtain ⟨ad, y2, rfl, hcy, hy2⟩ := ho.rd.int (k := q) (by have := HN.out; omega)
      have hcx := ho.rd.cell_i hxm.out
      have hcyy := ho.rd.cell_i hyA
      have i2 : (q : Int) < (n : Int) := by omega
      have i3 : (m : Int) < (n : Int) := by omega
      have GC : Hid (∀ nn, Calls Tryd.prog fn (#[.int .i64 x, .int .i64 y] ++ cap) (wr.drewN nn) (RetQ (.int .i64 (cmpV key x y)) (wr.drewN nn))) := fun nn => HCM.out _ x y (grownBy_drewN hg nn) hpx hyp
      have hcall : ∀ W, (callFunc fn (#[.int .i64 x, .int .i64 y] ++ cap)).run Tryd.prog W = .ok (.enter fn (#[.int .i64 x, .int .i64 y] ++ cap)) W := fun W => hknown _ W
      clear hcy hy2 hy0 hyA
      by_cases hk : key x < key y
      · have hcv := cmpV_lt hk
        have HK := Lib.hid hk
        obtain ⟨cq, hcq⟩ : ∃ cq, cmpV key x y = cq := ⟨_, rfl⟩
        rw [hcq] at GC hcv
        clear hcq hk
        go_quiet ((exact quietQ (GC.out _)))
        rename_i nq
        have ho1 := ho.drewN nq
        have hg1 := grownBy_drewN hg nq
        clear hcx hcyy GC hcall ho hg
        go_wp2_with fail
        go_roundw
        case rel => exact ⟨i, q, him, hqi, by omega, rfl, rfl, HI, .inr ⟨y, HY.out, HK.out⟩, ho1, hg1⟩
        case measure => simp [intOf]; omega
      · have hcv := cmpV_ge hk
        have HK := Lib.hid hk
        obtain ⟨cq, hcq⟩ : ∃ cq, cmpV key x y = cq := ⟨_, rfl⟩
        rw [hcq] at GC hcv
        clear hcq hk
        go_quiet ((exact quietQ (GC.out _)))
        rename_i nq
        have ho1 := ho.drewN nq
        have hg1 := grownBy_drewN hg nq
        clear hcx hcyy GC hcall ho hg
        go_wp2_with fail
        go_roundw
        case rel => exact ⟨q + 1, j, by omega, by omega, hjb, by go_num, rfl, .inr ⟨y, by rw [show q + 1 - 1 - a = q - a by omega]; exact HY.out, by have := HK.out; omega⟩, HJ, ho1, hg1⟩
        case measure => simp [intOf]; omega
    · obtain rfl : i = j := by omega
      have HS : Hid (downN xs m (m - i) = T) := by
        have e := last_cut HKA.out (i - a) (by have := HMM.out; omega) (by
          rcases HI.out with h | ⟨y, hy, hk⟩
          · exact .inl (by omega)
          · exact .inr ⟨y, by rw [show i - a - 1 = i - 1 - a by omega]; exact hy, hk⟩) (by
          rcases HJ.out with h | ⟨y, hy, hk⟩
          · exact .inl (by have := HMM.out; omega)
          · exact .inr ⟨y, hy, hk⟩)
        have u := downN_blocks (m - i) (A.drop (i - a)) (P ++ A.take (i - a)) S x (by rw [List.length_drop]; have := HMM.out; omega)
        rw [List.length_append, List.length_take, show P.length + min (i - a) A.length + (m - i) = m by have := HMM.out; have := HA0.out; omega] at u
        rw [Hid, ← HTT.out, e, ← HX.out]
        have e2 : P ++ (A ++ ([x] ++ S)) = P ++ A.take (i - a) ++ (A.drop (i - a) ++ (x :: S)) := by
          rw [List.append_assoc, ← List.append_assoc (A.take (i - a)), List.take_append_drop]; rfl
        rw [e2, u]
        simp
      have him9 : i ≤ m := hjb
      clear HI HJ hlt hjb
      go_wp2_with fail
      go_loopw [17] (fun kv wz => ∃ (k : Nat) (zs : List Int), i ≤ k ∧ k ≤ m ∧ kv = .int .i64 (k : Int) ∧ Own wz 3 Bk (.slice al n c) (ints zs) ∧ Hid (zs.length = n) ∧ Hid (downN zs k (k - i) = T) ∧ w.grownBy wz (Value.slice al n c).ownBlock) (fun kv _ => (intOf kv).toNat - i)
      case atStart => exact ⟨m, xs, him9, Nat.le_refl _, rfl, ho, HN, HS, hg⟩
      case round =>
        clear ho hg HS HX
        obtain ⟨k, zs, hik, hkm, rfl, ho, HZ, HT, hg⟩ := hrel
        by_cases hk : i < k
        · obtain ⟨r, rfl⟩ : ∃ r, k = r + 1 := ⟨k - 1, by omega⟩
          have i0 : (i : Int) < (r : Int) + 1 := by omega
          obtain ⟨ad, y, rfl, _, hy⟩ := ho.rd.int (k := r + 1) (by rw [HZ.out]; omega)
          obtain ⟨_, z, had, _, hz⟩ := ho.rd.int (k := r) (by rw [HZ.out]; omega)
          clear had
          obtain ⟨c1, c2, f1, f2, c3, f3, ho3, hg3⟩ := swp_w ho hy.out hz.out (by omega)
          have HT3 : Hid (downN (swp zs (r + 1) r) r (r - i) = T) := by
            have := HT.out
            rw [show r + 1 - i = (r - i) + 1 by omega, downN, Nat.add_sub_cancel] at this
            exact this
          have HZ3 : Hid ((swp zs (r + 1) r).length = n) := by rw [Hid, swp_length]; exact HZ.out
          replace hg3 := grownBy_trans hg hg3
          have i1 : (r : Int) < (n : Int) := by omega
          have i2 : (r : Int) + 1 < (n : Int) := by omega
          have i4 : (0 : Int) ≤ (r : Int) + 1 := by omega
          have i5 : ((r : Int) + 1).toNat = r + 1 := by omega
          have i6 : (r : Int) + 1 - 1 = (r : Int) := by omega
          rw [add_succ] at c1 f1 c3 f3 ho3 hg3
          clear ho hg hy hz
          go_wp2_with fail
          go_region
          all_goals
            go_wp2_with fail
            go_roundw
            case rel => exact ⟨r, _, by omega, by omega, by go_num, ho3, HZ3, HT3, ⟨hg3.os, hg3.tape, hg3.output, hg3.size, hg3.block⟩⟩
            case measure => simp [intOf]; omega
        · obtain rfl : i = k := by omega
          have HE : Hid (zs = T) := by have := HT.out; rw [Nat.sub_self] at this; exact this
          rw [HE.out] at ho
          go_wp2_with fail
          refine bodyPost_ret (results_none rfl _ _ _) rfl ?_
          exact ⟨rfl, ho, hg⟩

theorem asc_nil_app {key : Int → Int} {A V : List Int} (hA : KAsc key A) (hV : KAsc key V) (h : A = [] ∨ V = []) : srtS key (A ++ V) = A ++ V := by
  rcases h with rfl | rfl
  · simpa using srtS_self hV
  · simpa using srtS_self hA
set_option maxRecDepth 100000 in
set_option maxHeartbeats 16000000 in
theorem f_symMerge (key : Int → Int) (p : Int → Prop) (fn : Nat) (cap : Array Value) (hknown : Known fn) (v : Value) (Bk n : Nat) (hl : n ≤ 1000) : ∀ (N : Nat) (P A B S : List Int) (a m b : Nat) (w : World),
    A.length + B.length ≤ N → Own w 3 Bk v (ints (P ++ (A ++ (B ++ S)))) → (P ++ (A ++ (B ++ S))).length = n → a = P.length → m = a + A.length → b = m + B.length → 1 ≤ A.length → 1 ≤ B.length → KAsc key A → KAsc key B →
    (∀ y ∈ A, p y) → (∀ y ∈ B, p y) → CmpOk key p fn cap v.ownBlock w →
    Calls Tryd.prog 243 #[v, .int .i64 a, .int .i64 m, .int .i64 b, .func (.func fn) #[] cap] w (RetS Bk v (P ++ (srtS key (A ++ B) ++ S)) w) := by
  intro N
  induction N with
  | zero => intro P A B S a m b w h0 _ _ _ _ _ h1; omega
  | succ N ih =>
    intro P A B S a m b w hN ho hn ha hm hb hA1 hB1 hA hB hpA hpB hc
    by_cases hA2 : A.length = 1
    · obtain ⟨x, rfl⟩ := List.length_eq_one_iff.1 hA2
      exact f_sym_first key p fn cap hknown v Bk n hl P B S x a m b w ho hn ha (by simpa using hm) hb hB1 hB (hpA x (by simp)) hpB hc
    by_cases hB2 : B.length = 1
    · obtain ⟨x, rfl⟩ := List.length_eq_one_iff.1 hB2
      exact f_sym_last key p fn cap hknown v Bk n hl P A S x a m b w ho hn ha hm (by simpa using hb) (by omega) hA (hpB x (by simp)) hpA hc
    obtain ⟨al, c, rfl, h2, h3⟩ := ho.rd.formi
    obtain ⟨xs, hxs⟩ : ∃ xs, P ++ (A ++ (B ++ S)) = xs := ⟨_, rfl⟩
    rw [hxs] at ho hn hc ih ⊢
    rw [hn] at ho hc ih ⊢
    have IH := Lib.hid ih
    clear ih
    obtain ⟨T, hT⟩ : ∃ T, P ++ (srtS key (A ++ B) ++ S) = T := ⟨_, rfl⟩
    rw [hT]
    have HTT := Lib.hid hT
    clear hT
    have hnn : n = P.length + A.length + B.length + S.length := by rw [← hn, ← hxs]; simp only [List.length_append]; omega
    have HX := Lib.hid hxs
    have HN := Lib.hid hn
    have HCM := Lib.hid hc
    have HPA := Lib.hid hpA
    have HPB := Lib.hid hpB
    have HKA := Lib.hid hA
    have HKB := Lib.hid hB
    have hbn : b ≤ n := by omega
    have ham : a + 2 ≤ m := by omega
    have hmb : m + 2 ≤ b := by omega
    have HNN : Hid (b - a ≤ N + 1) := by rw [Hid]; omega
    have HA0 := Lib.hid ha
    have HMM := Lib.hid hm
    have HBB := Lib.hid hb
    have e1 : ((m : Int) - (a : Int) == 1) = false := by simp; omega
    have e2 : ((b : Int) - (m : Int) == 1) = false := by simp; omega
    have HxA : Hid (∀ q, a ≤ q → q < m → xs[q]? = A[q - a]?) := fun q h1 h2 => by
      have := get_A (P := P) (A := A) (B := B) (S := S) (c := q) (by omega) (by omega)
      rw [← hxs, this, ha]
    have HxB : Hid (∀ q, m ≤ q → q < b → xs[q]? = B[q - m]?) := fun q h1 h2 => by
      have := get_B (P := P) (A := A) (B := B) (S := S) (c := q) (by omega) (by omega)
      rw [← hxs, this, hm, ha]
    obtain ⟨M, hM⟩ : ∃ M : Nat, ((a : Int) + (b : Int)) / 2 = (M : Int) := ⟨(a + b) / 2, by omega⟩
    have hM1 : 2 * M ≤ a + b := by omega
    have hM2 : a + b ≤ 2 * M + 1 := by omega
    have HQM := Lib.hid hM
    have HSW := Lib.hid (fun (s : Nat) (h1 : a ≤ s) (h2 : s ≤ m) (h3 : s ≤ M) (h4 : M + m ≤ s + b)
        (c1 : s = a ∨ M + m - s = b ∨ ∃ x y, A[s - 1 - a]? = some x ∧ B[M + m - s - m]? = some y ∧ key x ≤ key y)
        (c2 : s = m ∨ s = M ∨ ∃ x y, A[s - a]? = some x ∧ B[M + m - s - 1 - m]? = some y ∧ key y < key x) =>
        sym_cut (key := key) (A := A) (B := B) hA hB (s - a) (M - s) (by omega) (by omega)
          (by
            rcases c1 with h | h | ⟨x, y, hx, hy, hk⟩
            · exact .inl (by omega)
            · exact .inr (.inl (by omega))
            · exact .inr (.inr ⟨x, y, by rw [show s - a - 1 = s - 1 - a by omega]; exact hx, by rw [show M - s = M + m - s - m by omega]; exact hy, hk⟩))
          (by
            rcases c2 with h | h | ⟨x, y, hx, hy, hk⟩
            · exact .inl (by omega)
            · exact .inr (.inl (by omega))
            · exact .inr (.inr ⟨x, y, hx, by rw [show M - s - 1 = M + m - s - 1 - m by omega]; exact hy, hk⟩)))
    clear hxs hn h2 hc hpA hpB hA hB ha hm hb hnn hA1 hB1 hA2 hB2 hM hN
    by_cases hMm : M < m
    · have d1 : (m : Int) > (M : Int) := by omega
      obtain ⟨s0, hs0⟩ : ∃ s0, M + m = s0 + b := ⟨M + m - b, by omega⟩
      have e3 : (M : Int) + (m : Int) - (b : Int) = (s0 : Int) := by omega
      obtain ⟨P1, hP1⟩ : ∃ P1, M + m = P1 + 1 := ⟨M + m - 1, by omega⟩
      have e4 : (M : Int) + (m : Int) - 1 = (P1 : Int) := by omega
      have hsa : a ≤ s0 := by omega
      have hsr : s0 ≤ M := by omega
      have hrm : M ≤ m := by omega
      have HS0 : Hid (s0 = a ∨ M + m - s0 = b) := by rw [Hid]; omega
      have HR0 : Hid (M = m ∨ M = M) := .inr rfl
      have HCB : Hid (∀ q, s0 ≤ q → q < M → m ≤ P1 - q ∧ P1 - q < b ∧ q ≤ P1) := fun q h1 h2 => by omega
      have HP1 := Lib.hid hP1
      clear hs0 hP1
      go_enter Tryd.func243, Tryd.ntmps243
      go_wp2_with fail
      rw [HQM.out, e3, e4]
      go_loopw [20, 21, 23] (fun iv jv hv wr => ∃ (i j : Nat), s0 ≤ i ∧ i ≤ j ∧ j ≤ M ∧ iv = .int .i64 (i : Int) ∧ jv = .int .i64 (j : Int) ∧ Hid (i = s0 ∨ ∃ x y, A[i - 1 - a]? = some x ∧ B[M + m - i - m]? = some y ∧ key x ≤ key y) ∧ Hid (j = M ∨ ∃ x y, A[j - a]? = some x ∧ B[M + m - j - 1 - m]? = some y ∧ key y < key x) ∧ Own wr 3 Bk (.slice al n c) (ints xs) ∧ w.grownBy wr (Value.slice al n c).ownBlock) (fun iv jv _ _ => (intOf jv).toNat - (intOf iv).toNat)
      case atStart => exact ⟨s0, M, Nat.le_refl _, hsr, Nat.le_refl _, rfl, rfl, .inl rfl, .inl rfl, ho, World.grownBy.refl _ _⟩
      case round =>
        clear ho
        obtain ⟨i, j, him, hij, hjb, rfl, rfl, HI, HJ, ho, hg⟩ := hrel
        by_cases hlt : i < j
        · have i1 : (i : Int) < (j : Int) := by omega
          obtain ⟨q, hq⟩ : ∃ q : Nat, ((i : Int) + (j : Int)) / 2 = (q : Int) := ⟨(i + j) / 2, by omega⟩
          have hqi : i ≤ q := by omega
          have hqj : q < j := by omega
          have HQ := Lib.hid hq
          clear hq
          go_wp2_with fail
          rw [HQ.out]
          obtain ⟨hz1, hz2, hz3⟩ := HCB.out q (by omega) (by omega)
          obtain ⟨z, hz⟩ : ∃ z, P1 = z + q := ⟨P1 - q, by omega⟩
          have e5 : (P1 : Int) - (q : Int) = (z : Int) := by omega
          rw [hz, Nat.add_sub_cancel] at hz1 hz2
          have hxA := HxA.out q (by omega) (by omega)
          have hyB := HxB.out z hz1 hz2
          obtain ⟨x, hx0⟩ : ∃ x, A[q - a]? = some x := ⟨_, List.getElem?_eq_getElem (by have := HMM.out; omega)⟩
          obtain ⟨y, hy0⟩ : ∃ y, B[z - m]? = some y := ⟨_, List.getElem?_eq_getElem (by have := HBB.out; omega)⟩
          rw [hx0] at hxA
          rw [hy0] at hyB
          have hxp := HPA.out x (List.mem_of_getElem? hx0)
          have hyp := HPB.out y (List.mem_of_getElem? hy0)
          have HXX : Hid (A[q - a]? = some x) := hx0
          have HYY : Hid (B[M + m - q - 1 - m]? = some y) := by rw [Hid, show M + m - q - 1 - m = z - m by have := HP1.out; omega]; exact hy0
          obtain ⟨ad, y2, rfl, hcy, hy2⟩ := ho.rd.int (k := q) (by have := HN.out; omega)
          have hcx := ho.rd.cell_i hxA
          have hcyy := ho.rd.cell_i hyB
          have i2 : (q : Int) < (n : Int) := by omega
          have i3 : (z : Int) < (n : Int) := by omega
          have GC : Hid (∀ nn, Calls Tryd.prog fn (#[.int .i64 y, .int .i64 x] ++ cap) (wr.drewN nn) (RetQ (.int .i64 (cmpV key y x)) (wr.drewN nn))) := fun nn => HCM.out _ y x (grownBy_drewN hg nn) hyp hxp
          have hcall : ∀ W, (callFunc fn (#[.int .i64 y, .int .i64 x] ++ cap)).run Tryd.prog W = .ok (.enter fn (#[.int .i64 y, .int .i64 x] ++ cap)) W := fun W => hknown _ W
          clear hcy hy2 hx0 hy0 hxA hyB hz
          by_cases hk : key y < key x
          · have hcv := cmpV_lt hk
            have HK := Lib.hid hk
            obtain ⟨cq, hcq⟩ : ∃ cq, cmpV key y x = cq := ⟨_, rfl⟩
            rw [hcq] at GC hcv
            clear hcq hk
            go_quiet ((exact quietQ (GC.out _)))
            rename_i nq
            have ho1 := ho.drewN nq
            have hg1 := grownBy_drewN hg nq
            clear hcx hcyy GC hcall ho hg
            go_wp2_with fail
            go_roundw
            case rel => exact ⟨i, q, him, hqi, by omega, rfl, rfl, HI, .inr ⟨x, y, HXX.out, HYY.out, HK.out⟩, ho1, hg1⟩
            case measure => simp [intOf]; omega
          · have hcv := cmpV_ge hk
            have HK := Lib.hid hk
            obtain ⟨cq, hcq⟩ : ∃ cq, cmpV key y x = cq := ⟨_, rfl⟩
            rw [hcq] at GC hcv
            clear hcq hk
            go_quiet ((exact quietQ (GC.out _)))
            rename_i nq
            have ho1 := ho.drewN nq
            have hg1 := grownBy_drewN hg nq
            clear hcx hcyy GC hcall ho hg
            go_wp2_with fail
            go_roundw
            case rel => exact ⟨q + 1, j, by omega, by omega, hjb, by go_num, rfl, .inr ⟨x, y, by rw [show q + 1 - 1 - a = q - a by omega]; exact HXX.out, by rw [show M + m - (q + 1) - m = M + m - q - 1 - m by omega]; exact HYY.out, by have := HK.out; omega⟩, HJ, ho1, hg1⟩
            case measure => simp [intOf]; omega
        · obtain rfl : i = j := by omega
          have hiM : i ≤ M := by omega
          have him2 : i ≤ m := by omega
          have hMb : M + m ≤ i + b := by
            rcases HS0.out with h | h <;> omega
          have HCUT := Lib.hid (HSW.out i (by omega) him2 hiM hMb (by
            rcases HI.out with h | h
            · rcases HS0.out with h2 | h2
              · exact .inl (by omega)
              · exact .inr (.inl (by omega))
            · exact .inr (.inr h)) (by
            rcases HJ.out with h | h
            · rcases HR0.out with h2 | h2
              · exact .inl (by omega)
              · exact .inr (.inl (by omega))
            · exact .inr (.inr h)))
          obtain ⟨E, hE⟩ : ∃ E, M + m = E + i := ⟨M + m - i, by omega⟩
          have e6 : (M : Int) + (m : Int) - (i : Int) = (E : Int) := by omega
          have HE1 := Lib.hid hE
          have hmE : m ≤ E := by omega
          have hEb : E ≤ b := by omega
          clear HI HJ hlt HSW hE
          obtain ⟨A1, hA1⟩ : ∃ A1, A.take (i - a) = A1 := ⟨_, rfl⟩
          obtain ⟨U, hU⟩ : ∃ U, A.drop (i - a) = U := ⟨_, rfl⟩
          obtain ⟨V, hV⟩ : ∃ V, B.take (M - i) = V := ⟨_, rfl⟩
          obtain ⟨B2, hB2⟩ : ∃ B2, B.drop (M - i) = B2 := ⟨_, rfl⟩
          have HAE : Hid (A = A1 ++ U) := by rw [Hid, ← hA1, ← hU, List.take_append_drop]
          have HBE : Hid (B = V ++ B2) := by rw [Hid, ← hV, ← hB2, List.take_append_drop]
          have HL1 : Hid (A1.length = i - a ∧ U.length = m - i ∧ V.length = M - i ∧ B2.length = b - E) := by
            have h1 := HMM.out
            have h2 := HBB.out
            have h3 := HE1.out
            refine ⟨by rw [← hA1, List.length_take]; omega, by rw [← hU, List.length_drop]; omega, by rw [← hV, List.length_take]; omega, by rw [← hB2, List.length_drop]; omega⟩
          have HKA2 : Hid (KAsc key A1 ∧ KAsc key U) := by
            have := HKA.out
            rw [HAE.out] at this
            obtain ⟨k1, k2, _⟩ := List.pairwise_append.1 this
            exact ⟨k1, k2⟩
          have HKB2 : Hid (KAsc key V ∧ KAsc key B2) := by
            have := HKB.out
            rw [HBE.out] at this
            obtain ⟨k1, k2, _⟩ := List.pairwise_append.1 this
            exact ⟨k1, k2⟩
          have HPA2 : Hid ((∀ y ∈ A1, p y) ∧ (∀ y ∈ U, p y)) := by
            have := HPA.out
            rw [HAE.out] at this
            exact ⟨fun y hy => this y (List.mem_append_left _ hy), fun y hy => this y (List.mem_append_right _ hy)⟩
          have HPB2 : Hid ((∀ y ∈ V, p y) ∧ (∀ y ∈ B2, p y)) := by
            have := HPB.out
            rw [HBE.out] at this
            exact ⟨fun y hy => this y (List.mem_append_left _ hy), fun y hy => this y (List.mem_append_right _ hy)⟩
          have HXU : Hid (xs = (P ++ A1) ++ (U ++ (V ++ (B2 ++ S)))) := by rw [Hid, ← HX.out, HAE.out, HBE.out]; simp
          rw [hA1, hU, hV, hB2] at HCUT
          have HLZ : Hid ((P ++ (A1 ++ (V ++ (U ++ (B2 ++ S))))).length = n) := by
            have := HN.out
            rw [HXU.out] at this
            rw [Hid]
            simp only [List.length_append] at this ⊢
            omega
          obtain ⟨D, hD⟩ : ∃ D, srtS key (A1 ++ V) = D := ⟨_, rfl⟩
          have HD := Lib.hid hD
          have HDL : Hid (D.length = M - a) := by
            have := HL1.out
            rw [Hid, ← hD, srtS_length, List.length_append]
            omega
          have HFIN : Hid ((P ++ D) ++ (srtS key (U ++ B2) ++ S) = T) := by
            rw [Hid, ← HTT.out, HCUT.out, hD]
            simp
          have HNa : Hid (M - a ≤ N ∧ b - M ≤ N) := by have := HNN.out; rw [Hid]; omega
          clear hA1 hU hV hB2 hD HCUT HKA HKB HPA HPB HX HxA HxB HCB HAE HBE HTT
          rcases (show (i < m ∧ m < E) ∨ (i < m ∧ ¬ m < E) ∨ ¬ i < m by omega) with h1 | h1 | h1
          all_goals first
            | (have r1 : (i : Int) < (m : Int) := by omega
               have r2 : (m : Int) < (E : Int) := by omega
               go_wp2_with fail
               refine (f_rotate (.func (.func fn) #[] cap) _ (P ++ A1) U V (B2 ++ S) xs Bk _ HXU.out ho (by have := HN.out; omega) (by have := HL1.out; omega) (by have := HL1.out; have := HE1.out; omega) i m E (by rw [List.length_append]; have := HL1.out; have := HA0.out; omega) (by have := HL1.out; omega) (by have := HL1.out; have := HE1.out; omega)).mono ?_
               rintro e w2 ⟨rfl, ho2, hg2⟩
               have ho3 : Own w2 3 Bk (.slice al n c) (ints (P ++ (A1 ++ (V ++ (U ++ (B2 ++ S)))))) := by rw [← List.append_assoc P]; exact ho2
               have hg3 := grownBy_trans hg hg2
               clear ho hg ho2 hg2)
            | (have r1 : (i : Int) < (m : Int) := by omega
               have r2 : ¬ (m : Int) < (E : Int) := by omega
               have hV0 : V = [] := List.eq_nil_of_length_eq_zero (by have := HL1.out; have := HE1.out; omega)
               have ho3 : Own wr 3 Bk (.slice al n c) (ints (P ++ (A1 ++ (V ++ (U ++ (B2 ++ S)))))) := by
                 have e := HXU.out
                 have e2 : (P ++ A1) ++ (U ++ (V ++ (B2 ++ S))) = P ++ (A1 ++ (V ++ (U ++ (B2 ++ S)))) := by rw [hV0]; simp
                 rw [← e2, ← e]
                 exact ho
               have hg3 := hg
               clear ho hg hV0)
            | (have r1 : ¬ (i : Int) < (m : Int) := by omega
               have hU0 : U = [] := List.eq_nil_of_length_eq_zero (by have := HL1.out; omega)
               have ho3 : Own wr 3 Bk (.slice al n c) (ints (P ++ (A1 ++ (V ++ (U ++ (B2 ++ S)))))) := by
                 have e := HXU.out
                 have e2 : (P ++ A1) ++ (U ++ (V ++ (B2 ++ S))) = P ++ (A1 ++ (V ++ (U ++ (B2 ++ S)))) := by rw [hU0]; simp
                 rw [← e2, ← e]
                 exact ho
               have hg3 := hg
               clear ho hg hU0)
          all_goals
            clear HXU h1
            rcases (show (a < i ∧ i < M) ∨ (a < i ∧ ¬ i < M) ∨ ¬ a < i by omega) with h1 | h1 | h1
          all_goals first
            | (have r3 : (a : Int) < (i : Int) := by omega
               have r4 : (i : Int) < (M : Int) := by omega
               go_wp2_with fail
               refine (IH.out P A1 V (U ++ (B2 ++ S)) a i M _ (by have := HL1.out; have := HNa.out; omega) ho3 HLZ.out HA0.out (by have := HL1.out; omega) (by have := HL1.out; omega) (by have := HL1.out; omega) (by have := HL1.out; omega) HKA2.out.1 HKB2.out.1 HPA2.out.1 HPB2.out.1 (HCM.out.up hg3)).mono ?_
               rintro e w4 ⟨rfl, ho4, hg4⟩
               have ho5 : Own w4 3 Bk (.slice al n c) (ints ((P ++ D) ++ (U ++ (B2 ++ S)))) := by rw [← HD.out, List.append_assoc]; exact ho4
               have hg5 := grownBy_trans hg3 hg4
               clear ho3 hg3 ho4 hg4)
            | (have r3 : (a : Int) < (i : Int) := by omega
               have r4 : ¬ (i : Int) < (M : Int) := by omega
               have hV0 : V = [] := List.eq_nil_of_length_eq_zero (by have := HL1.out; omega)
               have hDD : D = A1 ++ V := by rw [← HD.out]; exact asc_nil_app HKA2.out.1 HKB2.out.1 (.inr hV0)
               have e9 : P ++ (A1 ++ (V ++ (U ++ (B2 ++ S)))) = (P ++ D) ++ (U ++ (B2 ++ S)) := by rw [hDD]; simp
               have ho5 := ho3
               rw [e9] at ho5
               have hg5 := hg3
               clear ho3 hg3 hV0 hDD e9)
            | (have r3 : ¬ (a : Int) < (i : Int) := by omega
               have hV0 : A1 = [] := List.eq_nil_of_length_eq_zero (by have := HL1.out; omega)
               have hDD : D = A1 ++ V := by rw [← HD.out]; exact asc_nil_app HKA2.out.1 HKB2.out.1 (.inl hV0)
               have e9 : P ++ (A1 ++ (V ++ (U ++ (B2 ++ S)))) = (P ++ D) ++ (U ++ (B2 ++ S)) := by rw [hDD]; simp
               have ho5 := ho3
               rw [e9] at ho5
               have hg5 := hg3
               clear ho3 hg3 hV0 hDD e9)
          all_goals
            have HLZ2 : Hid (((P ++ D) ++ (U ++ (B2 ++ S))).length = n) := by
              have := HLZ.out
              have := HDL.out
              have := HL1.out
              rw [Hid]
              simp only [List.length_append] at *
              omega
            clear HLZ h1
            rcases (show (M < E ∧ E < b) ∨ (M < E ∧ ¬ E < b) ∨ ¬ M < E by omega) with h1 | h1 | h1
          all_goals first
            | (have r5 : (M : Int) < (E : Int) := by omega
               have r6 : (E : Int) < (b : Int) := by omega
               go_wp2_with fail
               refine (IH.out (P ++ D) U B2 S M E b _ (by have := HL1.out; have := HNa.out; have := HE1.out; omega) ho5 HLZ2.out (by rw [List.length_append]; have := HDL.out; have := HA0.out; omega) (by have := HL1.out; have := HE1.out; omega) (by have := HL1.out; omega) (by have := HL1.out; have := HE1.out; omega) (by have := HL1.out; omega) HKA2.out.2 HKB2.out.2 HPA2.out.2 HPB2.out.2 (HCM.out.up hg5)).mono ?_
               rintro e w6 ⟨rfl, ho6, hg6⟩
               rw [HFIN.out] at ho6
               go_wp2_with fail
               all_goals (go_end0; exact ⟨rfl, ho6, grownBy_trans hg5 hg6⟩))
            | (have r5 : (M : Int) < (E : Int) := by omega
               have r6 : ¬ (E : Int) < (b : Int) := by omega
               have hV0 : B2 = [] := List.eq_nil_of_length_eq_zero (by have := HL1.out; omega)
               have e9 : (P ++ D) ++ (U ++ (B2 ++ S)) = T := by
                 have := HFIN.out
                 rw [asc_nil_app HKA2.out.2 HKB2.out.2 (.inr hV0), List.append_assoc U] at this
                 exact this
               rw [e9] at ho5
               go_wp2_with fail
               all_goals (go_end0; exact ⟨rfl, ho5, hg5⟩))
            | (have r5 : ¬ (M : Int) < (E : Int) := by omega
               have hV0 : U = [] := List.eq_nil_of_length_eq_zero (by have := HL1.out; have := HE1.out; omega)
               have e9 : (P ++ D) ++ (U ++ (B2 ++ S)) = T := by
                 have := HFIN.out
                 rw [asc_nil_app HKA2.out.2 HKB2.out.2 (.inl hV0), List.append_assoc U] at this
                 exact this
               rw [e9] at ho5
               go_wp2_with fail
               all_goals (go_end0; exact ⟨rfl, ho5, hg5⟩))
    · have d1 : ¬ (m : Int) > (M : Int) := by omega
      obtain ⟨P1, hP1⟩ : ∃ P1, M + m = P1 + 1 := ⟨M + m - 1, by omega⟩
      have e4 : (M : Int) + (m : Int) - 1 = (P1 : Int) := by omega
      have hsa : a ≤ a := Nat.le_refl _
      have hsr : a ≤ m := by omega
      have hrm : m ≤ m := Nat.le_refl _
      have HS0 : Hid (a = a ∨ M + m - a = b) := .inl rfl
      have HR0 : Hid (m = m ∨ m = M) := .inl rfl
      have HCB : Hid (∀ q, a ≤ q → q < m → m ≤ P1 - q ∧ P1 - q < b ∧ q ≤ P1) := fun q h1 h2 => by omega
      have HP1 := Lib.hid hP1
      clear hP1
      go_enter Tryd.func243, Tryd.ntmps243
      go_wp2_with fail
      rw [HQM.out, e4]
      go_loopw [20, 21, 23] (fun iv jv hv wr => ∃ (i j : Nat), a ≤ i ∧ i ≤ j ∧ j ≤ m ∧ iv = .int .i64 (i : Int) ∧ jv = .int .i64 (j : Int) ∧ Hid (i = a ∨ ∃ x y, A[i - 1 - a]? = some x ∧ B[M + m - i - m]? = some y ∧ key x ≤ key y) ∧ Hid (j = m ∨ ∃ x y, A[j - a]? = some x ∧ B[M + m - j - 1 - m]? = some y ∧ key y < key x) ∧ Own wr 3 Bk (.slice al n c) (ints xs) ∧ w.grownBy wr (Value.slice al n c).ownBlock) (fun iv jv _ _ => (intOf jv).toNat - (intOf iv).toNat)
      case atStart => exact ⟨a, m, Nat.le_refl _, hsr, Nat.le_refl _, rfl, rfl, .inl rfl, .inl rfl, ho, World.grownBy.refl _ _⟩
      case round =>
        clear ho
        obtain ⟨i, j, him, hij, hjb, rfl, rfl, HI, HJ, ho, hg⟩ := hrel
        by_cases hlt : i < j
        · have i1 : (i : Int) < (j : Int) := by omega
          obtain ⟨q, hq⟩ : ∃ q : Nat, ((i : Int) + (j : Int)) / 2 = (q : Int) := ⟨(i + j) / 2, by omega⟩
          have hqi : i ≤ q := by omega
          have hqj : q < j := by omega
          have HQ := Lib.hid hq
          clear hq
          go_wp2_with fail
          rw [HQ.out]
          obtain ⟨hz1, hz2, hz3⟩ := HCB.out q (by omega) (by omega)
          obtain ⟨z, hz⟩ : ∃ z, P1 = z + q := ⟨P1 - q, by omega⟩
          have e5 : (P1 : Int) - (q : Int) = (z : Int) := by omega
          rw [hz, Nat.add_sub_cancel] at hz1 hz2
          have hxA := HxA.out q (by omega) (by omega)
          have hyB := HxB.out z hz1 hz2
          obtain ⟨x, hx0⟩ : ∃ x, A[q - a]? = some x := ⟨_, List.getElem?_eq_getElem (by have := HMM.out; omega)⟩
          obtain ⟨y, hy0⟩ : ∃ y, B[z - m]? = some y := ⟨_, List.getElem?_eq_getElem (by have := HBB.out; omega)⟩
          rw [hx0] at hxA
          rw [hy0] at hyB
          have hxp := HPA.out x (List.mem_of_getElem? hx0)
          have hyp := HPB.out y (List.mem_of_getElem? hy0)
          have HXX : Hid (A[q - a]? = some x) := hx0
          have HYY : Hid (B[M + m - q - 1 - m]? = some y) := by rw [Hid, show M + m - q - 1 - m = z - m by have := HP1.out; omega]; exact hy0
          obtain ⟨ad, y2, rfl, hcy, hy2⟩ := ho.rd.int (k := q) (by have := HN.out; omega)
          have hcx := ho.rd.cell_i hxA
          have hcyy := ho.rd.cell_i hyB
          have i2 : (q : Int) < (n : Int) := by omega
          have i3 : (z : Int) < (n : Int) := by omega
          have GC : Hid (∀ nn, Calls Tryd.prog fn (#[.int .i64 y, .int .i64 x] ++ cap) (wr.drewN nn) (RetQ (.int .i64 (cmpV key y x)) (wr.drewN nn))) := fun nn => HCM.out _ y x (grownBy_drewN hg nn) hyp hxp
          have hcall : ∀ W, (callFunc fn (#[.int .i64 y, .int .i64 x] ++ cap)).run Tryd.prog W = .ok (.enter fn (#[.int .i64 y, .int .i64 x] ++ cap)) W := fun W => hknown _ W
          clear hcy hy2 hx0 hy0 hxA hyB hz
          by_cases hk : key y < key x
          · have hcv := cmpV_lt hk
            have HK := Lib.hid hk
            obtain ⟨cq, hcq⟩ : ∃ cq, cmpV key y x = cq := ⟨_, rfl⟩
            rw [hcq] at GC hcv
            clear hcq hk
            go_quiet ((exact quietQ (GC.out _)))
            rename_i nq
            have ho1 := ho.drewN nq
            have hg1 := grownBy_drewN hg nq
            clear hcx hcyy GC hcall ho hg
            go_wp2_with fail
            go_roundw
            case rel => exact ⟨i, q, him, hqi, by omega, rfl, rfl, HI, .inr ⟨x, y, HXX.out, HYY.out, HK.out⟩, ho1, hg1⟩
            case measure => simp [intOf]; omega
          · have hcv := cmpV_ge hk
            have HK := Lib.hid hk
            obtain ⟨cq, hcq⟩ : ∃ cq, cmpV key y x = cq := ⟨_, rfl⟩
            rw [hcq] at GC hcv
            clear hcq hk
            go_quiet ((exact quietQ (GC.out _)))
            rename_i nq
            have ho1 := ho.drewN nq
            have hg1 := grownBy_drewN hg nq
            clear hcx hcyy GC hcall ho hg
            go_wp2_with fail
            go_roundw
            case rel => exact ⟨q + 1, j, by omega, by omega, hjb, by go_num, rfl, .inr ⟨x, y, by rw [show q + 1 - 1 - a = q - a by omega]; exact HXX.out, by rw [show M + m - (q + 1) - m = M + m - q - 1 - m by omega]; exact HYY.out, by have := HK.out; omega⟩, HJ, ho1, hg1⟩
            case measure => simp [intOf]; omega
        · obtain rfl : i = j := by omega
          have hiM : i ≤ M := by omega
          have him2 : i ≤ m := by omega
          have hMb : M + m ≤ i + b := by
            rcases HS0.out with h | h <;> omega
          have HCUT := Lib.hid (HSW.out i (by omega) him2 hiM hMb (by
            rcases HI.out with h | h
            · rcases HS0.out with h2 | h2
              · exact .inl (by omega)
              · exact .inr (.inl (by omega))
            · exact .inr (.inr h)) (by
            rcases HJ.out with h | h
            · rcases HR0.out with h2 | h2
              · exact .inl (by omega)
              · exact .inr (.inl (by omega))
            · exact .inr (.inr h)))
          obtain ⟨E, hE⟩ : ∃ E, M + m = E + i := ⟨M + m - i, by omega⟩
          have e6 : (M : Int) + (m : Int) - (i : Int) = (E : Int) := by omega
          have HE1 := Lib.hid hE
          have hmE : m ≤ E := by omega
          have hEb : E ≤ b := by omega
          clear HI HJ hlt HSW hE
          obtain ⟨A1, hA1⟩ : ∃ A1, A.take (i - a) = A1 := ⟨_, rfl⟩
          obtain ⟨U, hU⟩ : ∃ U, A.drop (i - a) = U := ⟨_, rfl⟩
          obtain ⟨V, hV⟩ : ∃ V, B.take (M - i) = V := ⟨_, rfl⟩
          obtain ⟨B2, hB2⟩ : ∃ B2, B.drop (M - i) = B2 := ⟨_, rfl⟩
          have HAE : Hid (A = A1 ++ U) := by rw [Hid, ← hA1, ← hU, List.take_append_drop]
          have HBE : Hid (B = V ++ B2) := by rw [Hid, ← hV, ← hB2, List.take_append_drop]
          have HL1 : Hid (A1.length = i - a ∧ U.length = m - i ∧ V.length = M - i ∧ B2.length = b - E) := by
            have h1 := HMM.out
            have h2 := HBB.out
            have h3 := HE1.out
            refine ⟨by rw [← hA1, List.length_take]; omega, by rw [← hU, List.length_drop]; omega, by rw [← hV, List.length_take]; omega, by rw [← hB2, List.length_drop]; omega⟩
          have HKA2 : Hid (KAsc key A1 ∧ KAsc key U) := by
            have := HKA.out
            rw [HAE.out] at this
            obtain ⟨k1, k2, _⟩ := List.pairwise_append.1 this
            exact ⟨k1, k2⟩
          have HKB2 : Hid (KAsc key V ∧ KAsc key B2) := by
            have := HKB.out
            rw [HBE.out] at this
            obtain ⟨k1, k2, _⟩ := List.pairwise_append.1 this
            exact ⟨k1, k2⟩
          have HPA2 : Hid ((∀ y ∈ A1, p y) ∧ (∀ y ∈ U, p y)) := by
            have := HPA.out
            rw [HAE.out] at this
            exact ⟨fun y hy => this y (List.mem_append_left _ hy), fun y hy => this y (List.mem_append_right _ hy)⟩
          have HPB2 : Hid ((∀ y ∈ V, p y) ∧ (∀ y ∈ B2, p y)) := by
            have := HPB.out
            rw [HBE.out] at this
            exact ⟨fun y hy => this y (List.mem_append_left _ hy), fun y hy => this y (List.mem_append_right _ hy)⟩
          have HXU : Hid (xs = (P ++ A1) ++ (U ++ (V ++ (B2 ++ S)))) := by rw [Hid, ← HX.out, HAE.out, HBE.out]; simp
          rw [hA1, hU, hV, hB2] at HCUT
          have HLZ : Hid ((P ++ (A1 ++ (V ++ (U ++ (B2 ++ S))))).length = n) := by
            have := HN.out
            rw [HXU.out] at this
            rw [Hid]
            simp only [List.length_append] at this ⊢
            omega
          obtain ⟨D, hD⟩ : ∃ D, srtS key (A1 ++ V) = D := ⟨_, rfl⟩
          have HD := Lib.hid hD
          have HDL : Hid (D.length = M - a) := by
            have := HL1.out
            rw [Hid, ← hD, srtS_length, List.length_append]
            omega
          have HFIN : Hid ((P ++ D) ++ (srtS key (U ++ B2) ++ S) = T) := by
            rw [Hid, ← HTT.out, HCUT.out, hD]
            simp
          have HNa : Hid (M - a ≤ N ∧ b - M ≤ N) := by have := HNN.out; rw [Hid]; omega
          clear hA1 hU hV hB2 hD HCUT HKA HKB HPA HPB HX HxA HxB HCB HAE HBE HTT
          rcases (show (i < m ∧ m < E) ∨ (i < m ∧ ¬ m < E) ∨ ¬ i < m by omega) with h1 | h1 | h1
          all_goals first
            | (have r1 : (i : Int) < (m : Int) := by omega
               have r2 : (m : Int) < (E : Int) := by omega
               go_wp2_with fail
               refine (f_rotate (.func (.func fn) #[] cap) _ (P ++ A1) U V (B2 ++ S) xs Bk _ HXU.out ho (by have := HN.out; omega) (by have := HL1.out; omega) (by have := HL1.out; have := HE1.out; omega) i m E (by rw [List.length_append]; have := HL1.out; have := HA0.out; omega) (by have := HL1.out; omega) (by have := HL1.out; have := HE1.out; omega)).mono ?_
               rintro e w2 ⟨rfl, ho2, hg2⟩
               have ho3 : Own w2 3 Bk (.slice al n c) (ints (P ++ (A1 ++ (V ++ (U ++ (B2 ++ S)))))) := by rw [← List.append_assoc P]; exact ho2
               have hg3 := grownBy_trans hg hg2
               clear ho hg ho2 hg2)
            | (have r1 : (i : Int) < (m : Int) := by omega
               have r2 : ¬ (m : Int) < (E : Int) := by omega
               have hV0 : V = [] := List.eq_nil_of_length_eq_zero (by have := HL1.out; have := HE1.out; omega)
               have ho3 : Own wr 3 Bk (.slice al n c) (ints (P ++ (A1 ++ (V ++ (U ++ (B2 ++ S)))))) := by
                 have e := HXU.out
                 have e2 : (P ++ A1) ++ (U ++ (V ++ (B2 ++ S))) = P ++ (A1 ++ (V ++ (U ++ (B2 ++ S)))) := by rw [hV0]; simp
                 rw [← e2, ← e]
                 exact ho
               have hg3 := hg
               clear ho hg hV0)
            | (have r1 : ¬ (i : Int) < (m : Int) := by omega
               have hU0 : U = [] := List.eq_nil_of_length_eq_zero (by have := HL1.out; omega)
               have ho3 : Own wr 3 Bk (.slice al n c) (ints (P ++ (A1 ++ (V ++ (U ++ (B2 ++ S)))))) := by
                 have e := HXU.out
                 have e2 : (P ++ A1) ++ (U ++ (V ++ (B2 ++ S))) = P ++ (A1 ++ (V ++ (U ++ (B2 ++ S)))) := by rw [hU0]; simp
                 rw [← e2, ← e]
                 exact ho
               have hg3 := hg
               clear ho hg hU0)
          all_goals
            clear HXU h1
            rcases (show (a < i ∧ i < M) ∨ (a < i ∧ ¬ i < M) ∨ ¬ a < i by omega) with h1 | h1 | h1
          all_goals first
            | (have r3 : (a : Int) < (i : Int) := by omega
               have r4 : (i : Int) < (M : Int) := by omega
               go_wp2_with fail
               refine (IH.out P A1 V (U ++ (B2 ++ S)) a i M _ (by have := HL1.out; have := HNa.out; omega) ho3 HLZ.out HA0.out (by have := HL1.out; omega) (by have := HL1.out; omega) (by have := HL1.out; omega) (by have := HL1.out; omega) HKA2.out.1 HKB2.out.1 HPA2.out.1 HPB2.out.1 (HCM.out.up hg3)).mono ?_
               rintro e w4 ⟨rfl, ho4, hg4⟩
               have ho5 : Own w4 3 Bk (.slice al n c) (ints ((P ++ D) ++ (U ++ (B2 ++ S)))) := by rw [← HD.out, List.append_assoc]; exact ho4
               have hg5 := grownBy_trans hg3 hg4
               clear ho3 hg3 ho4 hg4)
            | (have r3 : (a : Int) < (i : Int) := by omega
               have r4 : ¬ (i : Int) < (M : Int) := by omega
               have hV0 : V = [] := List.eq_nil_of_length_eq_zero (by have := HL1.out; omega)
               have hDD : D = A1 ++ V := by rw [← HD.out]; exact asc_nil_app HKA2.out.1 HKB2.out.1 (.inr hV0)
               have e9 : P ++ (A1 ++ (V ++ (U ++ (B2 ++ S)))) = (P ++ D) ++ (U ++ (B2 ++ S)) := by rw [hDD]; simp
               have ho5 := ho3
               rw [e9] at ho5
               have hg5 := hg3
               clear ho3 hg3 hV0 hDD e9)
            | (have r3 : ¬ (a : Int) < (i : Int) := by omega
               have hV0 : A1 = [] := List.eq_nil_of_length_eq_zero (by have := HL1.out; omega)
               have hDD : D = A1 ++ V := by rw [← HD.out]; exact asc_nil_app HKA2.out.1 HKB2.out.1 (.inl hV0)
               have e9 : P ++ (A1 ++ (V ++ (U ++ (B2 ++ S)))) = (P ++ D) ++ (U ++ (B2 ++ S)) := by rw [hDD]; simp
               have ho5 := ho3
               rw [e9] at ho5
               have hg5 := hg3
               clear ho3 hg3 hV0 hDD e9)
          all_goals
            have HLZ2 : Hid (((P ++ D) ++ (U ++ (B2 ++ S))).length = n) := by
              have := HLZ.out
              have := HDL.out
              have := HL1.out
              rw [Hid]
              simp only [List.length_append] at *
              omega
            clear HLZ h1
            rcases (show (M < E ∧ E < b) ∨ (M < E ∧ ¬ E < b) ∨ ¬ M < E by omega) with h1 | h1 | h1
          all_goals first
            | (have r5 : (M : Int) < (E : Int) := by omega
               have r6 : (E : Int) < (b : Int) := by omega
               go_wp2_with fail
               refine (IH.out (P ++ D) U B2 S M E b _ (by have := HL1.out; have := HNa.out; have := HE1.out; omega) ho5 HLZ2.out (by rw [List.length_append]; have := HDL.out; have := HA0.out; omega) (by have := HL1.out; have := HE1.out; omega) (by have := HL1.out; omega) (by have := HL1.out; have := HE1.out; omega) (by have := HL1.out; omega) HKA2.out.2 HKB2.out.2 HPA2.out.2 HPB2.out.2 (HCM.out.up hg5)).mono ?_
               rintro e w6 ⟨rfl, ho6, hg6⟩
               rw [HFIN.out] at ho6
               go_wp2_with fail
               all_goals (go_end0; exact ⟨rfl, ho6, grownBy_trans hg5 hg6⟩))
            | (have r5 : (M : Int) < (E : Int) := by omega
               have r6 : ¬ (E : Int) < (b : Int) := by omega
               have hV0 : B2 = [] := List.eq_nil_of_length_eq_zero (by have := HL1.out; omega)
               have e9 : (P ++ D) ++ (U ++ (B2 ++ S)) = T := by
                 have := HFIN.out
                 rw [asc_nil_app HKA2.out.2 HKB2.out.2 (.inr hV0), List.append_assoc U] at this
                 exact this
               rw [e9] at ho5
               go_wp2_with fail
               all_goals (go_end0; exact ⟨rfl, ho5, hg5⟩))
            | (have r5 : ¬ (M : Int) < (E : Int) := by omega
               have hV0 : U = [] := List.eq_nil_of_length_eq_zero (by have := HL1.out; have := HE1.out; omega)
               have e9 : (P ++ D) ++ (U ++ (B2 ++ S)) = T := by
                 have := HFIN.out
                 rw [asc_nil_app HKA2.out.2 HKB2.out.2 (.inl hV0), List.append_assoc U] at this
                 exact this
               rw [e9] at ho5
               go_wp2_with fail
               all_goals (go_end0; exact ⟨rfl, ho5, hg5⟩))

end Go.Proofs.YtdagkgkllgpeeaaDoor
