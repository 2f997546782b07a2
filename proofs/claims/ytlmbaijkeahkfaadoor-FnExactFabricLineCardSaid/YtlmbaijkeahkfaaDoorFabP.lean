/- Walks: paths through stages. -/
import Derived.Test.YtlmbaijkeahkfaaDoorFabA
import Derived.Test.YtlmbaijkeahkfaaDoorOwnsL
import Derived.Deep.LoopGhost
import Derived.BigQuiet
import Derived.Deep.QuietTactic
namespace Go.Proofs.YtlmbaijkeahkfaaDoor
open Go.RowKit
set_option linter.unusedVariables false
set_option linter.unusedSimpArgs false

def Stg (n k : Nat) : Prop := (n = 2 ∧ k = 1) ∨ (n = 4 ∧ k = 2) ∨ (n = 8 ∧ k = 3)
def shf (n p : Nat) : Nat := if p < n / 2 then 2 * p else 2 * p + 1 - n
def bitK (k tg s : Nat) : Nat := tg / 2 ^ (k - 1 - s) % 2
def pos (n k fr tg : Nat) : Nat → Nat
  | 0 => fr
  | s + 1 => shf n (pos n k fr tg s) - shf n (pos n k fr tg s) % 2 + bitK k tg s
def pathL (n k fr tg s : Nat) : List Int := (List.range s).map fun j => ((pos n k fr tg (j + 1) : Nat) : Int)
theorem pathL_succ (n k fr tg s : Nat) : pathL n k fr tg (s + 1) = pathL n k fr tg s ++ [((pos n k fr tg (s + 1) : Nat) : Int)] := by simp [pathL, List.range_succ]
theorem pathL_len (n k fr tg s : Nat) : (pathL n k fr tg s).length = s := by simp [pathL]
theorem pathL_get {n k fr tg s j : Nat} (h : j < s) : (pathL n k fr tg s)[j]? = some ((pos n k fr tg (j + 1) : Nat) : Int) := by simp [pathL, h]
theorem shf_lt {n k p : Nat} (hs : Stg n k) (hp : p < n) : shf n p < n := by
  rcases hs with ⟨rfl, _⟩ | ⟨rfl, _⟩ | ⟨rfl, _⟩ <;> unfold shf <;> split <;> omega
theorem pos_lt {n k fr tg : Nat} (hs : Stg n k) (hf : fr < n) : ∀ s, pos n k fr tg s < n
  | 0 => hf
  | s + 1 => by
    have h1 := shf_lt hs (pos_lt (tg := tg) hs hf s)
    have h2 : bitK k tg s < 2 := Nat.mod_lt _ (by omega)
    rw [pos]
    generalize shf n (pos n k fr tg s) = q at h1 ⊢
    generalize bitK k tg s = b at h2 ⊢
    rcases hs with ⟨rfl, _⟩ | ⟨rfl, _⟩ | ⟨rfl, _⟩ <;> omega

theorem fab1 {n k p : Nat} (hs : Stg n k) (hp : p < n) : bits BinOp.or IntKind.i64 (bits BinOp.and IntKind.i64 ((p : Int) * 2) ((n : Int) - 1)) ((p : Int) / 2 ^ (k - 1)) = ((shf n p : Nat) : Int) := by
  rcases hs with ⟨rfl, rfl⟩ | ⟨rfl, rfl⟩ | ⟨rfl, rfl⟩
  · exact (show ∀ p : Nat, p < 2 → bits BinOp.or IntKind.i64 (bits BinOp.and IntKind.i64 ((p : Int) * 2) (((2 : Nat) : Int) - 1)) ((p : Int) / 2 ^ (1 - 1)) = ((shf 2 p : Nat) : Int) by decide +kernel) p hp
  · exact (show ∀ p : Nat, p < 4 → bits BinOp.or IntKind.i64 (bits BinOp.and IntKind.i64 ((p : Int) * 2) (((4 : Nat) : Int) - 1)) ((p : Int) / 2 ^ (2 - 1)) = ((shf 4 p : Nat) : Int) by decide +kernel) p hp
  · exact (show ∀ p : Nat, p < 8 → bits BinOp.or IntKind.i64 (bits BinOp.and IntKind.i64 ((p : Int) * 2) (((8 : Nat) : Int) - 1)) ((p : Int) / 2 ^ (3 - 1)) = ((shf 8 p : Nat) : Int) by decide +kernel) p hp
theorem fab2 {t e : Nat} (ht : t < 8) (he : e < 3) : bits BinOp.and IntKind.i64 ((t : Int) / 2 ^ e) 1 = ((t / 2 ^ e % 2 : Nat) : Int) :=
  (show ∀ t : Nat, t < 8 → ∀ e : Nat, e < 3 → bits BinOp.and IntKind.i64 ((t : Int) / 2 ^ e) 1 = ((t / 2 ^ e % 2 : Nat) : Int) by decide +kernel) t ht e he
theorem fab3 {q b : Nat} (hq : q < 8) (hb : b < 2) : bits BinOp.or IntKind.i64 (bits BinOp.andNot IntKind.i64 (q : Int) 1) (b : Int) = ((q - q % 2 + b : Nat) : Int) :=
  (show ∀ q : Nat, q < 8 → ∀ b : Nat, b < 2 → bits BinOp.or IntKind.i64 (bits BinOp.andNot IntKind.i64 (q : Int) 1) (b : Int) = ((q - q % 2 + b : Nat) : Int) by decide +kernel) q hq b hb

set_option maxHeartbeats 2000000 in
theorem i_path (n k fr tg : Nat) (w : World) (hs : Stg n k) (hf : fr < n) (ht : tg < n) : Calls Tryd.prog 146 #[.int .i64 (n : Int), .int .i64 (fr : Int), .int .i64 (tg : Int)] w
    fun e w' => ∃ v1 v2, e = .returned (.tuple #[v1, v2]) ∧ Own w' 3 w.heap.size v1 (ints (pathL n k fr tg k)) ∧ Below w.heap.size w w' := by
  have hk : 1 ≤ k ∧ k ≤ 3 := by rcases hs with ⟨_, rfl⟩ | ⟨_, rfl⟩ | ⟨_, rfl⟩ <;> omega
  have hST : Calls Tryd.prog 103 #[.int .i64 (n : Int)] w fun e w' => e = .returned (.int .i64 (k : Int)) ∧ w = w' := by
    rcases hs with ⟨rfl, rfl⟩ | ⟨rfl, rfl⟩ | ⟨rfl, rfl⟩ <;>
    · go_enter Tryd.func103, Tryd.ntmps103
      go_wp2
      go_ret
      exact ⟨rfl, rfl⟩
  have HST := Lib.hid hST
  have HPL := Lib.hid (fun s => pos_lt (tg := tg) hs hf s)
  have HSG := Lib.hid hs
  have hn8 : 2 ≤ n ∧ n ≤ 8 := by rcases hs with ⟨rfl, _⟩ | ⟨rfl, _⟩ | ⟨rfl, _⟩ <;> omega
  have hO : OwnsL ((w.alloc (.cells #[] 3)).alloc (.cells #[] 3)) 3 w.heap.size [(.slice (some ⟨w.heap.size, 0, none⟩) 0 0, []), (.slice (some ⟨w.heap.size + 1, 0, none⟩) 0 0, [])] := by
    have h1 := OwnsL.snoc (OwnsL.nil w 3 w.heap.size) ((Below.refl _ _).alloc (Nat.le_refl _) (.cells #[] 3)) (Nat.le_refl _) (Own.lit0 w 3 (Nat.le_refl _))
    have h2 := OwnsL.snoc h1 ((Below.refl _ _).alloc (Nat.le_refl _) (.cells #[] 3)) (by simp) (Own.lit0 _ 3 (Nat.le_refl _))
    simpa using h2
  have hB : Below w.heap.size w ((w.alloc (.cells #[] 3)).alloc (.cells #[] 3)) := ((Below.refl _ _).alloc (Nat.le_refl _) _).alloc (by simp) _
  clear hST hs
  go_enter Tryd.func146, Tryd.ntmps146
  go_wp2_with (go_at_call 103; refine HST.out.mono ?_; rintro e w1 ⟨rfl, rfl⟩)
  go_loopg [1, 9, 10, 19] k (fun g fv vp vc iv wr => ∃ (s : Nat) (ys : List Int), g = k - s ∧ s ≤ k ∧ iv = .int .i64 s ∧ fv = .int .i64 ((pos n k fr tg s : Nat) : Int) ∧ Hid (ys.length = s) ∧ OwnsL wr 3 w.heap.size [(vp, pathL n k fr tg s), (vc, ys)] ∧ Below w.heap.size w wr)
  case atStart => exact ⟨0, [], rfl, Nat.zero_le _, rfl, rfl, rfl, hO, hB⟩
  case round =>
    clear hO hB
    obtain ⟨s, ys, hg, hsk, rfl, rfl, HYL, hO, hb⟩ := hrel
    by_cases hlt : s < k
    · have hp := HPL.out s
      obtain ⟨p, hpe⟩ : ∃ p, pos n k fr tg s = p := ⟨_, rfl⟩
      rw [hpe] at hp ⊢
      have i1 : (k : Int) - 1 ≥ 0 := by omega
      have i2 : (k : Int) - 1 - (s : Int) ≥ 0 := by omega
      have f1 := fab1 HSG.out hp
      have hq8 : shf n p < 8 := by have := shf_lt HSG.out hp; omega
      have f2 := fab2 (t := tg) (e := k - 1 - s) (by omega) (by omega)
      have f3 := fab3 hq8 (b := tg / 2 ^ (k - 1 - s) % 2) (Nat.mod_lt _ (by omega))
      have HPS : Hid (pos n k fr tg (s + 1) = shf n p - shf n p % 2 + tg / 2 ^ (k - 1 - s) % 2) := by rw [Hid, pos, hpe]; rfl
      have HPP := Lib.hid (pathL_succ n k fr tg s)
      rw [HPS.out] at HPP
      generalize hbe : tg / 2 ^ (k - 1 - s) % 2 = b at f2 f3 HPS HPP
      generalize shf n p = q at f1 f3 HPS HPP
      generalize q - q % 2 + b = r at f3 HPS HPP
      obtain ⟨ap, np, cp, rfl, HNP, _, _⟩ := hO.o0.rd.formN
      obtain ⟨ac, nc, cc, rfl, HNC, _, _⟩ := hO.o1.rd.formN
      have hnp : np = s := by have := HNP.out; rw [pathL_len] at this; exact this
      have hnc : nc = s := by have := HNC.out; rw [HYL.out] at this; exact this
      subst hnp
      subst hnc
      have HLC : Hid ((ints ys).length = nc) := by rw [Hid, ints_length, HYL.out]
      have HLP : Hid ((ints (pathL n k fr tg nc)).length = nc) := by rw [Hid, ints_length, pathL_len]
      have hsb := hb.size
      have hs3 : nc ≤ 3 := by omega
      clear hpe
      go_upto_region 10 with (at_builtin; (refine wpList_app1m rfl _ _ 22 rfl elI ?_ hO.o1 ?_ ?_ hsb nc HLC.out (by omega) (by omega) ?_); (focus exact rfl); (focus (simp [Act.eval])); (focus exact rfl); intro b5 c5 w5 ho5 hg5 hat5)
      obtain ⟨yn, hyn⟩ : ∃ yn, bits BinOp.xor IntKind.i64 (bits BinOp.and IntKind.i64 (q : Int) 1) (b : Int) = yn := ⟨_, rfl⟩
      rw [hyn] at ho5
      have hO5 := hO.t1 hg5 (ys := ys ++ [yn]) (by rw [ints_append]; exact ho5) (hat_of hat5)
      have hb5 := hb.grown hg5 hsb (fun r hr => (hO.o1.lt r hr).1)
      have hs5 := hb5.size
      have hYL : Hid ((ys ++ [yn]).length = nc + 1) := by rw [Hid, List.length_append, HYL.out]; rfl
      clear hO hb hg5 hat5 ho5 hyn
      go_wp2_with (at_builtin; (refine wpList_app1m rfl _ _ 22 rfl elI ?_ hO5.o0 ?_ ?_ hs5 nc HLP.out (by omega) (by omega) ?_); (focus exact rfl); (focus (simp [Act.eval])); (focus exact rfl); intro b6 c6 w6 ho6 hg6 hat6)
      have hO6 := hO5.t0 hg6 (ys := pathL n k fr tg (nc + 1)) (by rw [HPP.out, ints_append]; exact ho6) (hat_of hat6)
      have hb6 := hb5.grown hg6 hs5 (fun r hr => (hO5.o0.lt r hr).1)
      go_roundg (k - (nc + 1))
      case measure => omega
      case rel => exact ⟨nc + 1, ys ++ [yn], rfl, by omega, by go_num, by rw [HPS.out], hYL, hO6, hb6⟩
    · obtain rfl : s = k := Nat.le_antisymm hsk (Nat.le_of_not_lt hlt)
      have ho := hO.o0
      dsimp only at ho
      go_wp2
      go_ret2
      exact ⟨_, _, rfl, ho, hb⟩

/-- Two paths have one position behind some stage. -/
def meetB (n k a b c d : Nat) : Bool := (List.range k).any fun j => decide (pos n k a b (j + 1) = pos n k c d (j + 1))
theorem meetB_yes {n k a b c d j : Nat} (hj : j < k) (h : pos n k a b (j + 1) = pos n k c d (j + 1)) : meetB n k a b c d = true := by
  rw [meetB, List.any_eq_true]
  exact ⟨j, List.mem_range.2 hj, by simpa using h⟩
theorem meetB_no {n k a b c d : Nat} (h : ∀ j, j < k → pos n k a b (j + 1) ≠ pos n k c d (j + 1)) : meetB n k a b c d = false := by
  cases e : meetB n k a b c d
  · rfl
  · rw [meetB, List.any_eq_true] at e
    obtain ⟨j, hj, he⟩ := e
    exact absurd (by simpa using he) (h j (List.mem_range.1 hj))

set_option maxHeartbeats 2000000 in
theorem i_meet (n k a b c d : Nat) (w : World) (hs : Stg n k) (ha : a < n) (hb : b < n) (hc : c < n) (hd : d < n) : Calls Tryd.prog 106 #[.int .i64 (n : Int), .int .i64 (a : Int), .int .i64 (b : Int), .int .i64 (c : Int), .int .i64 (d : Int)] w (RetB (.bool (meetB n k a b c d)) w) := by
  have hk : 1 ≤ k ∧ k ≤ 3 := by rcases hs with ⟨_, rfl⟩ | ⟨_, rfl⟩ | ⟨_, rfl⟩ <;> omega
  have HP1 := Lib.hid (fun W => i_path n k a b W hs ha hb)
  have HP2 := Lib.hid (fun W => i_path n k c d W hs hc hd)
  have HY : Hid (∀ j, j < k → pos n k a b (j + 1) = pos n k c d (j + 1) → meetB n k a b c d = true) := fun j => meetB_yes
  have HN : Hid ((∀ j, j < k → pos n k a b (j + 1) ≠ pos n k c d (j + 1)) → meetB n k a b c d = false) := meetB_no
  have HG1 : Hid (∀ j, j < k → (pathL n k a b k)[j]? = some ((pos n k a b (j + 1) : Nat) : Int)) := fun j hj => pathL_get hj
  have HG2 : Hid (∀ j, j < k → (pathL n k c d k)[j]? = some ((pos n k c d (j + 1) : Nat) : Int)) := fun j hj => pathL_get hj
  have HL1 : Hid ((pathL n k a b k).length = k) := pathL_len _ _ _ _ _
  have HL2 : Hid ((pathL n k c d k).length = k) := pathL_len _ _ _ _ _
  generalize pathL n k a b k = P1 at HP1 HG1 HL1
  generalize pathL n k c d k = P2 at HP2 HG2 HL2
  generalize pos n k a b = p1 at HY HN HG1
  generalize pos n k c d = p2 at HY HN HG2
  generalize meetB n k a b c d = m at HY HN ⊢
  go_enter Tryd.func106, Tryd.ntmps106
  go_wp2_with (first
    | (go_at_call 146; (with_reducible refine (HP1.out _).mono ?_); rintro e w1 ⟨v1, v2, rfl, ho1, hb1⟩)
    | (go_at_call 146; (with_reducible refine (HP2.out _).mono ?_); rintro e w2 ⟨v3, v4, rfl, ho2, hb2⟩; have h12 := ho1.below hb2; obtain ⟨a1, n1, c1, rfl, HN1, _, _⟩ := h12.rd.formN; obtain ⟨a2, n2, c2, rfl, HN2, _, _⟩ := ho2.rd.formN))
  have hn1 : n1 = k := by have := HN1.out; rw [HL1.out] at this; exact this
  have hn2 : n2 = k := by have := HN2.out; rw [HL2.out] at this; exact this
  subst hn1
  subst hn2
  have hbw := hb1.trans (hb2.mono hb1.size)
  have hr1 := h12.rd
  have hr2 := ho2.rd
  clear h12 ho1 ho2 hb1 hb2
  go_loopg [32] n2 (fun g iv wr => ∃ j : Nat, g = n2 - j ∧ j ≤ n2 ∧ iv = .int .i64 j ∧ Hid (∀ i, i < j → p1 (i + 1) ≠ p2 (i + 1)) ∧ Dr w2 wr)
  case atStart => exact ⟨0, rfl, Nat.zero_le _, rfl, fun i h => by omega, Dr.refl _⟩
  case round =>
    obtain ⟨j, hg, hj, rfl, HNO, hdr⟩ := hrel
    by_cases hlt : j < n2
    · obtain ⟨ad1, y1, hal1, hc1, hy1⟩ := (hr1.dr hdr).int (k := j) (by rw [HL1.out]; exact hlt)
      obtain ⟨ad2, y2, hal2, hc2, hy2⟩ := (hr2.dr hdr).int (k := j) (by rw [HL2.out]; exact hlt)
      subst hal1
      subst hal2
      obtain rfl : y1 = ((p1 (j + 1) : Nat) : Int) := by have := hy1.out; rw [HG1.out j hlt] at this; cases this; rfl
      obtain rfl : y2 = ((p2 (j + 1) : Nat) : Int) := by have := hy2.out; rw [HG2.out j hlt] at this; cases this; rfl
      clear hy1 hy2
      by_cases he : p1 (j + 1) = p2 (j + 1)
      · have hm := Lib.hid (HY.out j hlt he)
        rw [he] at hc1
        clear he
        generalize p2 (j + 1) = q2 at hc1 hc2
        go_wp2
        go_quiet (fail)
        go_wp2
        go_ret
        exact ⟨ret_bool hm.out.symm, hbw.trans ((hdr.step _).below _)⟩
      · have HNO2 : Hid (∀ i, i < j + 1 → p1 (i + 1) ≠ p2 (i + 1)) := fun i hi => by
          by_cases e : i = j
          · subst e; exact he
          · exact HNO.out i (by omega)
        have d0 : (((p1 (j + 1) : Nat) : Int) == ((p2 (j + 1) : Nat) : Int)) = false := by rw [beq_eq_false_iff_ne]; omega
        clear he
        generalize p1 (j + 1) = q1 at hc1 d0
        generalize p2 (j + 1) = q2 at hc2 d0
        go_wp2
        go_quiet (fail)
        go_wp2
        go_roundg (n2 - (j + 1))
        case measure => omega
        case rel => exact ⟨j + 1, rfl, by omega, by go_num, HNO2, hdr.step _⟩
    · obtain rfl : j = n2 := Nat.le_antisymm hj (Nat.le_of_not_lt hlt)
      have hm := Lib.hid (HN.out HNO.out)
      go_wp2
      go_ret
      exact ⟨ret_bool hm.out.symm, hbw.trans (hdr.below _)⟩

end Go.Proofs.YtlmbaijkeahkfaaDoor
