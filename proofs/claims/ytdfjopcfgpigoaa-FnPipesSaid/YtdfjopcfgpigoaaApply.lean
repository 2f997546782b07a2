/- Walks: a list through comparators. -/
import Derived.Test.YtdfjopcfgpigoaaLevelPairs2
namespace Go.Proofs.Ytdfjopcfgpigoaa
open Go.RowKit
set_option linter.unusedVariables false
set_option linter.unusedSimpArgs false

def swM (l : List Int) (a b : Nat) : List Int := (l.set a (min (l.getD a 0) (l.getD b 0))).set b (max (l.getD a 0) (l.getD b 0))
def apM (xss : List (List Int)) (xs : List Int) : Nat → List Int
  | 0 => xs
  | k + 1 => match xss[k]? with
    | some [a, b] => swM (apM xss xs k) a.toNat b.toNat
    | _ => apM xss xs k
theorem swM_length (l : List Int) (a b : Nat) : (swM l a b).length = l.length := by simp [swM]
theorem apM_length (xss : List (List Int)) (xs : List Int) : ∀ k, (apM xss xs k).length = xs.length
  | 0 => rfl
  | k + 1 => by
    have ih := apM_length xss xs k
    simp only [apM]
    split
    · rw [swM_length]; exact ih
    · exact ih
theorem apM_succ {xss : List (List Int)} {xs : List Int} {k a b : Nat} {x y : Int} (h : xss[k]? = some [(a : Int), (b : Int)]) (hx : (apM xss xs k)[a]? = some x) (hy : (apM xss xs k)[b]? = some y) :
    apM xss xs (k + 1) = ((apM xss xs k).set a (if y < x then y else x)).set b (if x < y then y else x) := by
  simp only [apM, h, Int.toNat_natCast, swM, List.getD_eq_getElem?_getD, hx, hy, Option.getD_some]
  congr 1
  · congr 1
    split <;> omega
  · split <;> omega
def Pairs (N : Nat) (xss : List (List Int)) : Prop := ∀ (k : Nat) (xs : List Int), xss[k]? = some xs → ∃ a b : Nat, xs = [(a : Int), (b : Int)] ∧ a < N ∧ b < N ∧ a ≠ b

set_option maxHeartbeats 2000000 in
theorem s_l02Apply (N : Nat) (v u : Value) (xss : List (List Int)) (xs : List Int) (w : World) (h : Rd2 w v xss) (hu : Rd w u (ints xs)) (hN : xs.length = N) (hl : N ≤ 2000000) (HW : Hid (Pairs N xss)) :
    Calls Try.prog 73 #[v, u] w (RetOwn 3 (ints (apM xss xs xss.length)) w) := by
  obtain ⟨a0, c0, rfl, _, _⟩ := h.form
  obtain ⟨au, cu, rfl, hu2, hu3⟩ := hu.formi
  have HLn := Lib.hid hN
  clear hN
  have hu' := hu.alloc (.cells #[] 3)
  have hlx : xs.length ≤ 2000000 := by have := HLn.out; omega
  have hli := ints_length xs
  go_enter Try.func73, Try.ntmps73
  go_wp2_with (at_builtin; refine wpList_app (B := w.heap.size) rfl _ _ 42 rfl elI rfl (Own.lit0 w 3 (Nat.le_refl _)) rfl hu' (oneCell_ints _) (by simp) (by simp only [ints_length, List.length_nil]; omega) (by simp only [ints_length, List.length_nil]; omega) ?_; intro b cc w2 ho2 hg2 hat2; have hb2 := ((Below.refl w.heap.size w).alloc (Nat.le_refl _) (.cells #[] 3)).grown hg2 (by simp) (fun r hr => ((Own.lit0 w 3 (Nat.le_refl _)).lt r hr).1))
  have e0 : ints ([] : List Int) ++ ints xs = ints (apM xss xs 0) := rfl
  rw [e0] at ho2
  clear hg2 hat2 hu' hli e0
  simp only [ints_length, List.length_nil, Nat.zero_add] at ho2 ⊢
  go_loopw [15] (fun i wr => ∃ k : Nat, k ≤ xss.length ∧ i = .int .i64 k ∧ Own wr 3 w.heap.size (.slice b xs.length cc) (ints (apM xss xs k)) ∧ Below w.heap.size w wr)
    (fun i _ => xss.length - (intOf i).toNat)
  case atStart => exact ⟨0, Nat.zero_le _, rfl, ho2, hb2⟩
  case round =>
    clear ho2 hb2
    obtain ⟨k, hkl, rfl, ho, hb⟩ := hrel
    by_cases hlt : k < xss.length
    · obtain ⟨ad, bx, m, d, row, rfl, hc0, hx, hm, hmd, hd, hr⟩ := h.row hlt
      obtain ⟨x, y, rfl, hxN, hyN, hxy⟩ := HW.out k row hx.out
      obtain rfl : m = 2 := hm.out
      obtain ⟨z, x', rfl, hcx, hxx⟩ := hr.int (k := 0) (by simp)
      obtain ⟨z', y', hz, hcy, hyy⟩ := hr.int (k := 1) (by simp)
      obtain rfl : z = z' := by injection hz
      clear hz
      have e1 := hxx.out
      have e2 := hyy.out
      simp only [List.getElem?_cons_zero, List.getElem?_cons_succ, Option.some.injEq] at e1 e2
      subst e1 e2
      rw [add_succ] at hcy
      have hcx' : w.cell? z = some (.int .i64 x) := by simpa [Addr.add] using hcx
      clear hcx
      have HSS : Hid (∀ wx : World, Below w.heap.size w wx → wx.cell? (ad.add k) = some (.slice (some z) 2 d) ∧ wx.cell? z = some (.int .i64 x) ∧ wx.cell? ⟨z.block, z.off + (0 + 1), none⟩ = some (.int .i64 y)) := by
        intro wx hbx
        exact ⟨(hbx.cell (World.block_lt_of_cell? w _ hc0)).trans hc0, (hbx.cell (World.block_lt_of_cell? w _ hcx')).trans hcx', (hbx.cell (World.block_lt_of_cell? w _ hcy)).trans hcy⟩
      clear hc0 hcx' hcy
      obtain ⟨q1, q2, q3⟩ := HSS.out _ hb
      have HLk : Hid ((apM xss xs k).length = N) := by rw [Hid, apM_length]; exact HLn.out
      have HA := Lib.hid (fun (p q : Int) => apM_succ (xs := xs) (x := p) (y := q) hx.out)
      obtain ⟨l, hl0⟩ : ∃ l, apM xss xs k = l := ⟨_, rfl⟩
      rw [hl0] at ho HLk HA
      clear hl0
      obtain ⟨bo, p, rfl, hcp, hp⟩ := ho.rd.int (k := x) (by rw [HLk.out]; omega)
      obtain ⟨bo', q, hbo, hcq, hq⟩ := ho.rd.int (k := y) (by rw [HLk.out]; omega)
      obtain rfl : bo = bo' := by injection hbo
      clear hbo
      have HS := Lib.hid (HA.out p q hp.out hq.out)
      clear HA
      have hx1 : x < l.length := by rw [HLk.out]; omega
      have hy1 : y < l.length := by rw [HLk.out]; omega
      have i2 : (x : Int) < (xs.length : Int) := by have := HLn.out; omega
      have i4 : (y : Int) < (xs.length : Int) := by have := HLn.out; omega
      have fz1 := ho.frozen rfl x
      have ht2 := (ho.seti rfl hx1 (if q < p then q else p)).1
      have hb2 := ho.below_set rfl hx1 (.int .i64 (if q < p then q else p)) hb (Nat.le_refl _)
      obtain ⟨r1, r2, r3⟩ := HSS.out _ hb2
      have fz2 := ht2.frozen rfl y
      have hy2 : y < (l.set x (if q < p then q else p)).length := by rw [List.length_set]; exact hy1
      have htb2 := ht2.rd.cell_int' (show (l.set x (if q < p then q else p))[y]? = some q by rw [List.getElem?_set_ne (by omega)]; exact hq.out)
      have ht3 := (ht2.seti rfl hy2 (if p < q then q else p)).1
      have hb3 := ht2.below_set rfl hy2 (.int .i64 (if p < q then q else p)) hb2 (Nat.le_refl _)
      clear ho hb
      go_wp2
      go_roundw
      case rel => exact ⟨k + 1, by omega, by go_num, by rw [HS.out]; exact ht3, hb3⟩
      case measure => simp [intOf]; omega
    · obtain rfl : xss.length = k := by omega
      go_wp2
      go_ret
      exact ⟨_, rfl, ho, hb⟩

end Go.Proofs.Ytdfjopcfgpigoaa
