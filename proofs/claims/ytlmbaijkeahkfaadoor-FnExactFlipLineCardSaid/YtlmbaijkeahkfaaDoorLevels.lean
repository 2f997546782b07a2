/- Walks: the levels of networks. -/
import Derived.Test.YtlmbaijkeahkfaaDoorNets2
namespace Go.Proofs.YtlmbaijkeahkfaaDoor
open Go.RowKit
set_option linter.unusedVariables false
set_option linter.unusedSimpArgs false

def lvM (xss : List (List Int)) : Nat → (Nat → Int) × List Int
  | 0 => (fun _ => 0, [])
  | k + 1 => match xss[k]? with
    | some [a, b] => (fun i => if i = a.toNat ∨ i = b.toNat then 1 + max ((lvM xss k).1 a.toNat) ((lvM xss k).1 b.toNat) else (lvM xss k).1 i, (lvM xss k).2 ++ [1 + max ((lvM xss k).1 a.toNat) ((lvM xss k).1 b.toNat)])
    | _ => lvM xss k
theorem lvM_succ {xss : List (List Int)} {k a b : Nat} (h : xss[k]? = some [(a : Int), (b : Int)]) :
    lvM xss (k + 1) = (fun i => if i = a ∨ i = b then 1 + max ((lvM xss k).1 a) ((lvM xss k).1 b) else (lvM xss k).1 i, (lvM xss k).2 ++ [1 + max ((lvM xss k).1 a) ((lvM xss k).1 b)]) := by
  simp only [lvM, h, Int.toNat_natCast]
theorem lvM_bound (xss : List (List Int)) : ∀ (k i : Nat), 0 ≤ (lvM xss k).1 i ∧ (lvM xss k).1 i ≤ k
  | 0, i => by simp [lvM]
  | k + 1, i => by
    have ih := lvM_bound xss k
    simp only [lvM]
    split
    · rename_i a b _
      have h1 := ih a.toNat
      have h2 := ih b.toNat
      have h3 := ih i
      dsimp only
      split <;> omega
    · have := ih i
      omega
theorem lvM_length (xss : List (List Int)) : ∀ k, (lvM xss k).2.length ≤ k
  | 0 => by simp [lvM]
  | k + 1 => by
    have ih := lvM_length xss k
    simp only [lvM]
    split
    · simp only [List.length_append, List.length_cons, List.length_nil]; omega
    · omega
def atL (n : Nat) (f : Nat → Int) : List Int := (List.range n).map f
theorem atL_length (n : Nat) (f : Nat → Int) : (atL n f).length = n := by simp [atL]
theorem atL_get {n i : Nat} (f : Nat → Int) (h : i < n) : (atL n f)[i]? = some (f i) := by simp [atL, h]
theorem atL_two {n a b : Nat} (f : Nat → Int) (m : Int) (ha : a < n) (hb : b < n) : ((atL n f).set a m).set b m = atL n (fun i => if i = a ∨ i = b then m else f i) := by
  apply List.ext_getElem?
  intro q
  simp only [List.getElem?_set, List.length_set, atL_length]
  by_cases hq : q < n
  · rw [atL_get _ hq, atL_get _ hq]
    grind
  · have e1 : (atL n f)[q]? = none := List.getElem?_eq_none (by rw [atL_length]; omega)
    have e2 : (atL n (fun i => if i = a ∨ i = b then m else f i))[q]? = none := List.getElem?_eq_none (by rw [atL_length]; omega)
    rw [e1, e2]
    grind
theorem netOk_n {n : Int} {xss : List (List Int)} (h : netOk n xss = true) : ∃ N : Nat, n = N ∧ 1 ≤ N ∧ N ≤ 8 ∧ xss.length ≤ 60 := by
  simp only [netOk, Bool.and_eq_true, inB_iff, decide_eq_true_eq] at h
  exact ⟨n.toNat, by omega, by omega, by omega, h.1.2⟩
theorem netOk_row {N k : Nat} {xss : List (List Int)} {xs : List Int} (h : netOk (N : Int) xss = true) (hx : xss[k]? = some xs) : ∃ a b : Nat, xs = [(a : Int), (b : Int)] ∧ a < N ∧ b < N ∧ a ≠ b := by
  simp only [netOk, Bool.and_eq_true, List.all_eq_true] at h
  have h2 := h.2 xs (List.mem_of_getElem? hx)
  match xs, h2 with
  | [x, y], h2 =>
    simp only [netRow, Bool.and_eq_true, inB_iff, Bool.not_eq_true', decide_eq_false_iff_not] at h2
    exact ⟨x.toNat, y.toNat, by simp; omega, by omega, by omega, by omega⟩
  | [], h2 => simp [netRow] at h2
  | [x], h2 => simp [netRow] at h2
  | x :: y :: z :: t, h2 => simp [netRow] at h2

theorem Rd.cell_int' {w : World} {p : Addr} {n c k : Nat} {xs : List Int} {x : Int} (h : Rd w (.slice (some p) n c) (ints xs)) (hx : xs[k]? = some x) : w.cell? (p.add k) = some (.int .i64 x) := by
  obtain ⟨_, _, e, _, _⟩ := h.formi
  injection e with e1 e2 e3
  subst e2
  obtain ⟨ad, y, had, hc, hy⟩ := h.int (List.getElem?_eq_some_iff.1 hx).1
  injection had with had
  subst had
  rw [hy.out] at hx
  cases hx
  exact hc
theorem Own.ap_of {w : World} {E B : Nat} {v u : Value} {xs ys : List Value} (h : Own w E B v xs) (hu : ∀ g, u.ownBlock = some g → g < B ∨ w.heap.size ≤ g) : ∀ g, v.ownBlock = some g → u.ownBlock ≠ some g := by
  intro g h1 h2
  have := h.lt g h1
  have := hu g h2
  omega

set_option maxHeartbeats 2000000 in
theorem s_l02Levels (N : Nat) (v : Value) (xss : List (List Int)) (w : World) (h : Rd2 w v xss) (hk : netOk (N : Int) xss = true) : Calls Tryd.prog 93 #[.agg #[.int .i64 N, v]] w (RetOwn 3 (ints (lvM xss xss.length).2) w) := by
  obtain ⟨N', e, hN1, hN8, hL60⟩ := netOk_n hk
  obtain rfl : N = N' := by omega
  clear e
  have HK := Lib.hid (fun k xs => netOk_row (k := k) (xs := xs) hk)
  clear hk
  obtain ⟨a0, c0, rfl, _, _⟩ := h.form
  have hbX := (Below.refl w.heap.size w).alloc (Nat.le_refl _) (.cells #[.int .i64 N, .slice a0 xss.length c0] 32)
  go_enter Tryd.func93, Tryd.ntmps93
  go_wp2_with (at_make; refine wpList_mk (B := w.heap.size + 1) rfl _ _ 22 rfl elI rfl rfl (by simp) (by omega) (by omega) ?_; intro b w1 hb1 hown1 hg1; have g0 : w1.cell? ⟨w.heap.size, 1, none⟩ = some (.slice a0 xss.length c0) := hg1.cell (box_cells _ _ _ _).2 (by simp); have g1 : (w1.alloc (.cells #[] 3)).cell? ⟨w.heap.size, 1, none⟩ = some (.slice a0 xss.length c0) := (World.cell?_alloc_lt _ _ _ (World.block_lt_of_cell? _ _ g0)).trans g0)
  have hbn : b.block = w.heap.size + 1 := by simpa using hb1
  have hbA : Below w.heap.size w w1 := hbX.grown hg1 (by simp) (fun _ h => by cases h)
  have htA : Own w1 3 w.heap.size (.slice (some b) N N) (ints (atL N (lvM xss 0).1)) := by
    have := hown1.mono (B' := w.heap.size) (by omega)
    have e : ints (atL N (lvM xss 0).1) = List.replicate N (Value.int .i64 0) := by
      simp only [lvM, ints, atL, List.map_map]
      rw [List.eq_replicate_iff]
      simp
    rw [e]
    simpa using this
  have hsz := hg1.size
  have apA : ∀ n c, ∀ g, (Value.slice (some ⟨w1.heap.size, 0, none⟩) n c).ownBlock = some g → (Value.slice (some b) N N).ownBlock ≠ some g := fun n c g h2 h3 => by
    have := (htA.lt g h3).2
    simp [Value.ownBlock] at h2
    omega
  have hsA := hbA.size
  clear hown1 hg1 hb1 hsz g0 g1
  go_loopw [4, 15] (fun vo i wr => ∃ k : Nat, k ≤ xss.length ∧ i = .int .i64 k ∧ Own wr 3 w.heap.size vo (ints (lvM xss k).2) ∧ Own wr 3 w.heap.size (.slice (some b) N N) (ints (atL N (lvM xss k).1)) ∧ (∀ g, vo.ownBlock = some g → (Value.slice (some b) N N).ownBlock ≠ some g) ∧ Below w.heap.size w wr)
    (fun _ i _ => xss.length - (intOf i).toNat)
  case atStart => exact ⟨0, Nat.zero_le _, rfl, Own.lit0 w1 _ hsA, htA.alloc _, apA 0 0, hbA.alloc hsA _⟩
  case round =>
    obtain ⟨k, hkl, rfl, ho, ht, hap, hb⟩ := hrel
    obtain ⟨ao, co, rfl, _, hco⟩ := ho.rd.formi
    have hLl := lvM_length xss k
    by_cases hlt : k < xss.length
    · obtain ⟨ad, bx, m, d, xs, rfl, hc0, hx, hm, hmd, hd, hr⟩ := h.row hlt
      obtain ⟨x, y, rfl, hxN, hyN, hxy⟩ := HK.out k xs hx.out
      obtain rfl : m = 2 := hm.out
      obtain ⟨z, x', rfl, hcx, hxx⟩ := hr.int (k := 0) (by simp)
      obtain ⟨z', y', hz, hcy, hyy⟩ := hr.int (k := 1) (by simp)
      obtain rfl : z = z' := by injection hz
      clear hz
      have e1 := hxx.out
      have e2 := hyy.out
      simp only [List.getElem?_cons_zero, List.getElem?_cons_succ, Option.some.injEq] at e1 e2
      subst e1 e2
      rw [add_succ] at hcy
      have hcx' : w.cell? z = some (.int .i64 x) := by simpa [Addr.add] using hcx
      clear hcx
      have HSS : Hid (∀ wx : World, Below w.heap.size w wx → wx.cell? (ad.add k) = some (.slice (some z) 2 d) ∧ wx.cell? z = some (.int .i64 x) ∧ wx.cell? ⟨z.block, z.off + (0 + 1), none⟩ = some (.int .i64 y)) := by
        intro wx hbx
        exact ⟨(hbx.cell (World.block_lt_of_cell? w _ hc0)).trans hc0, (hbx.cell (World.block_lt_of_cell? w _ hcx')).trans hcx', (hbx.cell (World.block_lt_of_cell? w _ hcy)).trans hcy⟩
      clear hc0 hcx' hcy
      obtain ⟨q1, q2, q3⟩ := HSS.out _ hb
      have HS := Lib.hid (lvM_succ hx.out)
      have hbx := lvM_bound xss k x
      have hby := lvM_bound xss k y
      obtain ⟨f, hf⟩ : ∃ f, (lvM xss k).1 = f := ⟨_, rfl⟩
      obtain ⟨os, hos⟩ : ∃ os, (lvM xss k).2 = os := ⟨_, rfl⟩
      rw [hf] at ht hbx hby HS
      rw [hos] at ho HS hLl hap
      rw [hos]
      have hta := ht.rd.cell_int' (atL_get f hxN)
      have htb := ht.rd.cell_int' (atL_get f hyN)
      clear hf hos
      have i1 : (0 : Int) ≤ (x : Int) := by omega
      have i2 : (x : Int) < (N : Int) := by omega
      have i3 : (0 : Int) ≤ (y : Int) := by omega
      have i4 : (y : Int) < (N : Int) := by omega
      have iw : IntKind.i64.wrap (1 + if f x < f y then f y else f x) = 1 + if f x < f y then f y else f x := IntWalk.i64_in _ (by split <;> omega)
      go_wp2
      go_quiet (fail)
      clear iw q1 q2 q3 hta htb
      rename_i nq
      obtain ⟨M, hM⟩ : ∃ M, (1 + if f x < f y then f y else f x) = M := ⟨_, rfl⟩
      rw [hM]
      have hMx : 1 + max (f x) (f y) = M := by rw [← hM]; split <;> omega
      rw [hMx] at HS
      clear hM hMx
      have hb1 : Below w.heap.size w (wr.drewN nq) := hb.trans (Dr.below ((Dr.refl _).step _) _)
      obtain ⟨q1, q2, q3⟩ := HSS.out _ hb1
      have ht1 := ht.drewN nq
      have fz1 := ht1.frozen rfl x
      have ho1 := ho.drewN nq
      have hL := atL_length N f
      have hta := ht1.rd.cell_int' (atL_get f hxN)
      have ht2 := (ht1.seti rfl (show x < (atL N f).length by omega) M).1
      have hb2 := ht1.below_set rfl (show x < (atL N f).length by omega) (.int .i64 M) hb1 (Nat.le_refl _)
      obtain ⟨r1, r2, r3⟩ := HSS.out _ hb2
      have fz2 := ht2.frozen rfl y
      have hL2 : ((atL N f).set x M).length = N := by rw [List.length_set]; exact hL
      have htb := ht2.rd.cell_int' (show ((atL N f).set x M)[y]? = some (f y) by rw [List.getElem?_set_ne (by omega)]; exact atL_get f hyN)
      have ht3 := (ht2.seti rfl (show y < ((atL N f).set x M).length by omega) M).1
      have hb3 := ht2.below_set rfl (show y < ((atL N f).set x M).length by omega) (.int .i64 M) hb2 (Nat.le_refl _)
      have ho3 := (ho1.setCell (p := b.add x) (by rw [block_of_add]; intro e; exact hap _ e rfl) (.int .i64 M)).setCell (p := b.add y) (by rw [block_of_add]; intro e; exact hap _ e rfl) (.int .i64 M)
      rw [atL_two f M hxN hyN] at ht3
      have hlo := ints_length os
      clear hL hL2 ht1 ht2 ho1
      go_wp2_with (at_builtin; refine wpList_app1 rfl _ _ 22 rfl elI rfl ho3 (by show Value.slice (some ⟨wr.heap.size, 0, none⟩) 1 1 = _; simp) rfl hb3.size (by omega) (by omega) ?_; intro bn cn' w6 ho6 hg6 hat6)
      simp only [ints_length] at ho6 hat6
      have ht6 := ht3.apart hg6 fun g h2 h3 => hap g h3 h2
      go_roundw
      case rel => exact ⟨k + 1, by omega, by go_num, by rw [HS.out, ints_append]; exact ho6, by rw [HS.out]; exact ht6, fun g h2 h3 => by
        rcases hat6 with e | ⟨q, hq, e⟩
        · exact hap g (e ▸ h2) h3
        · rw [e] at h2
          cases h2
          have := (ht3.lt _ h3).2
          omega, hb3.grown hg6 hb3.size fun r hr => (ho3.lt r hr).1⟩
      case measure => simp [intOf]; omega
    · obtain rfl : xss.length = k := by omega
      go_wp2
      go_ret
      exact ⟨_, rfl, ho, hb⟩

end Go.Proofs.YtlmbaijkeahkfaaDoor
