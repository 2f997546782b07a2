/- Walks: the cheapest merge, in the reference. -/
import Derived.Test.YtlmbaijkeahkfaaDoorMergeA
import Derived.Test.YtlmbaijkeahkfaaDoorSort2
import Derived.Test.YtlmbaijkeahkfaaDoorPlainPerm
import Derived.Deep.LoopGhost
import Derived.Deep.DeepCutAuto
namespace Go.Proofs.YtlmbaijkeahkfaaDoor
open Go.RowKit
set_option linter.unusedVariables false
set_option linter.unusedSimpArgs false

theorem sumL_perm {a b : List Int} (h : a.Perm b) : sumL a = sumL b := by
  induction h with
  | nil => rfl
  | cons x _ ih => simp only [sumL, ih]
  | swap x y l => simp only [sumL]; omega
  | trans _ _ h1 h2 => rw [h1, h2]
def cmL : Nat → List Int → Int
  | f + 1, a :: b :: t => (a + b) + cmL f (srt (t ++ [a + b]))
  | _, _ => 0
def cm (xs : List Int) : Int := cmL xs.length (srt xs)
/-- A list of runs on the way: sum S, each at least 1. -/
def RunsL (S : Int) (s : List Int) : Prop := sumL s = S ∧ s.length ≤ 8 ∧ ∀ x ∈ s, 1 ≤ x
theorem RunsL.srt {S : Int} {s : List Int} (h : RunsL S s) : RunsL S (srt s) :=
  ⟨(sumL_perm (srt_perm s)).trans h.1, by rw [srt_length]; exact h.2.1, fun x hx => h.2.2 x ((srt_perm s).mem_iff.1 hx)⟩
theorem sumL_nonneg : ∀ {s : List Int}, (∀ x ∈ s, 1 ≤ x) → 0 ≤ sumL s
  | [], _ => by simp [sumL]
  | x :: t, h => by
    have h1 := h x (by simp)
    have h2 := sumL_nonneg (s := t) fun y hy => h y (by simp [hy])
    simp only [sumL]
    omega
theorem RunsL.pair {S a b : Int} {t : List Int} (h : RunsL S (a :: b :: t)) : 1 ≤ a ∧ 1 ≤ b ∧ a + b ≤ S ∧ RunsL S (t ++ [a + b]) := by
  obtain ⟨h1, h2, h3⟩ := h
  have ha := h3 a (by simp)
  have hb := h3 b (by simp)
  have ht := sumL_nonneg (s := t) fun y hy => h3 y (by simp [hy])
  simp only [sumL] at h1
  refine ⟨ha, hb, by omega, ⟨?_, ?_, fun y hy => ?_⟩⟩
  · rw [sumL_append]; simp only [sumL]; omega
  · simp only [List.length_cons] at h2; simp; omega
  · rcases List.mem_append.1 hy with hy | hy
    · exact h3 y (by simp [hy])
    · rw [List.mem_singleton] at hy; omega
theorem RunsL.of {xs : List Int} (h : lensB xs = true) : RunsL (sumL xs) xs ∧ 0 ≤ sumL xs ∧ sumL xs ≤ 8000 := by
  obtain ⟨h1, h2⟩ := lensB_iff.1 h
  have := sumL_bd xs h2
  exact ⟨⟨rfl, h1, fun x hx => (h2 x hx).1⟩, by omega, by omega⟩
theorem cmL_short {f : Nat} {s : List Int} (h : s.length ≤ 1) : cmL f s = 0 := by
  match f, s, h with
  | 0, _, _ => rfl
  | f + 1, [], _ => rfl
  | f + 1, [_], _ => rfl

set_option maxRecDepth 100000 in
set_option maxHeartbeats 2000000 in
theorem s_CheapestMerge (v : Value) (xs : List Int) (w : World) (h : Rd w v (ints xs)) (hs : lensB xs = true) : Calls Tryd.prog 28 #[v] w (RetB (.int .i64 (cm xs)) w) := by
  have HL := Lib.hid (hs ▸ s_LengthsOk v xs w h)
  obtain ⟨hR, hS0, hS1⟩ := RunsL.of hs
  have HS := Lib.hid (s_l08Sort v xs w h (by have := hR.2.1; omega))
  have HR := Lib.hid hR.srt
  have HC : Hid (cmL (srt xs).length (srt xs) = cm xs) := by rw [Hid, cm, srt_length]
  have h8 := hR.srt.2.1
  generalize cm xs = Z at HC ⊢
  generalize srt xs = s0 at HS HR HC h8
  generalize sumL xs = S at hS0 hS1 HR
  obtain ⟨a, n, c, rfl, HN, hnc, hc⟩ := h.formN
  clear hR hs
  go_enter Tryd.func28, Tryd.ntmps28
  go_upto_region 5 with (first
    | (go_at_call 26; refine HL.out.mono ?_; rintro e w' ⟨rfl, rfl⟩)
    | (go_at_call 72; refine HS.out.mono ?_; rintro e w1 ⟨v1, rfl, ho1, hb1⟩))
  go_loopg [3, 4] s0.length (fun gk sv zv wr => ∃ (s : List Int) (z : Int), gk = s.length ∧ zv = .int .i64 z ∧ 0 ≤ z ∧ z ≤ 8000 * (8 - (s.length : Int)) ∧ Hid (RunsL S s) ∧ Hid (z + cmL s.length s = Z) ∧ Own wr 3 w.heap.size sv (ints s) ∧ Below w.heap.size w wr)
  case atStart => exact ⟨s0, 0, rfl, rfl, by omega, by omega, HR, by rw [Hid, HC.out]; omega, ho1, hb1⟩
  case round =>
    clear ho1 hb1 HC HR HS HL h
    obtain ⟨s, z, hg, rfl, hz0, hz1, HR, HZ, ho, hb⟩ := hrel
    obtain ⟨p, m, cs, rfl, HM, hmc, hcs⟩ := ho.rd.formN
    have hm8 : m ≤ 8 := by have := HM.out; have := HR.out.2.1; omega
    rw [← HM.out] at hg hz1
    by_cases hlt : 1 < m
    · obtain ⟨x, y, t, rfl⟩ : ∃ x y t, s = x :: y :: t := by
        match s, HM.out with
        | [], e => simp at e; omega
        | [_], e => simp at e; omega
        | x :: y :: t, _ => exact ⟨x, y, t, rfl⟩
      obtain ⟨hx1, hy1, hxy, hR2⟩ := HR.out.pair
      obtain ⟨ad, x', rfl, hcx, hxx⟩ := ho.rd.int (k := 0) (by simp)
      obtain ⟨ad2, y', had, hcy, hyy⟩ := ho.rd.int (k := 1) (by simp)
      obtain rfl : ad = ad2 := by injection had
      obtain rfl : x' = x := by have := hxx.out; simp at this; exact this.symm
      obtain rfl : y' = y := by have := hyy.out; simp at this; exact this.symm
      clear had hxx hyy
      have HTM : Hid (m = t.length + 2) := by rw [Hid, HM.out]; rfl
      have hS := Lib.hid (fun (v : Value) (W : World) (hW : Rd W v (ints (t ++ [x' + y']))) => s_l08Sort v _ W hW (by have := HTM.out; simp; omega))
      have HR3 := Lib.hid hR2.srt
      have HLN : Hid ((srt (t ++ [x' + y'])).length = m - 1) := by rw [Hid, srt_length, HTM.out]; simp
      have HZ2 : Hid ((z + (x' + y')) + cmL (srt (t ++ [x' + y'])).length (srt (t ++ [x' + y'])) = Z) := by
        have h1 := HZ.out
        rw [HLN.out, HTM.out]
        simp only [List.length_cons, cmL] at h1
        rw [Hid, show t.length + 2 - 1 = t.length + 1 by omega]
        omega
      have HT0 : Hid ((ints t).length = m - 2) := by rw [Hid, ints_length, HTM.out]; rfl
      have hrC : Rd wr (.slice (if cs = 2 then some ad else some (ad.add 2)) (m - 2) (cs - 2)) (ints t) := ho.rd.cut (k := 2) (by omega)
      have hsb := hb.size
      have HAP : Hid (ints (t ++ [x' + y']) = ints t ++ [.int .i64 (x' + y')]) := by rw [Hid, ints_append]; rfl
      generalize srt (t ++ [x' + y']) = s2 at hS HR3 HLN HZ2
      have i1 : (m : Int) > 1 := by omega
      have i2 : (2 : Int) ≤ (m : Int) := by omega
      have i3 : (2 : Int) ≤ (cs : Int) := by omega
      have i4 : (0 : Int) < (m : Int) := by omega
      have i5 : (1 : Int) < (m : Int) := by omega
      have i6 : 0 < m := by omega
      have i7 : (1 : Int).toNat = 1 := rfl
      have i8 : (0 : Int).toNat = 0 := rfl
      have c0 : wr.cell? ad = some (.int .i64 x') := by simpa [Addr.add] using hcx
      have c1 : wr.cell? ⟨ad.block, ad.off + 1, none⟩ = some (.int .i64 y') := by rw [← hcy, show (1 : Nat) = 0 + 1 from rfl, add_succ]
      have HB6 : Hid (∀ (k : Nat) (W : World), Below w.heap.size (wr.drewN k) W → Below w.heap.size w W) := fun k W hW => (hb.trans (Dr.below (w := wr) (w' := wr.drewN k) ⟨k, rfl⟩ _)).trans hW
      have hrC6 : Rd wr.drew (.slice (if cs = 2 then some ad else some (ad.add 2)) (m - 2) (cs - 2)) (ints t) := hrC
      have hs6 : w.heap.size ≤ wr.drew.heap.size := hsb
      clear ho hb hrC HZ HR hR2
      go_wp2
      go_quiet (fail)
      by_cases e : cs = 2
      · rw [if_pos e] at hrC6
        subst e
        rw [show m - 2 = 0 by omega, show (2 : Nat) - 2 = 0 from rfl] at hrC6
        rw [show m - 2 = 0 by omega] at HT0
        go_wp2_with (first
          | (at_builtin; (refine wpList_copy (B := w.heap.size) rfl _ _ 22 rfl elI hrC6 rfl rfl (oneCell_ints1 _) hs6 0 HT0.out (by omega) (by omega) ?_); intro b1 c1 w1 ho1 hb1)
          | (at_builtin; refine wpList_app1m rfl _ _ 22 rfl elI rfl ho1 (by show Value.slice (some ⟨w1.heap.size, 0, none⟩) 1 1 = _; simp) rfl hb1.size _ HT0.out (by omega) (by omega) ?_; intro b2 c2 w2 ho2 hg2 hat2; have hb2 := hb1.grown hg2 hb1.size (fun r hr => (ho1.lt r hr).1); rw [← HAP.out] at ho2)
          | (go_at_call 72; refine (hS.out _ _ ho2.rd).mono ?_; rintro e w3 ⟨v3, rfl, ho3, hb3⟩))
        have hb7 := HB6.out _ _ (hb2.mono hs6)
        have hb8 : Below w.heap.size w w3 := hb7.trans (hb3.mono hb7.size)
        go_roundg s2.length
        case measure => have := HLN.out; omega
        case rel => exact ⟨s2, z + (x' + y'), rfl, rfl, by omega, by have := HLN.out; omega, HR3, HZ2, ho3.mono hb7.size, hb8⟩
      · rw [if_neg e] at hrC6
        go_wp2_with (first
          | (at_builtin; (refine wpList_copy (B := w.heap.size) rfl _ _ 22 rfl elI hrC6 rfl rfl (oneCell_ints1 _) hs6 (m - 2) HT0.out (by omega) (by omega) ?_); intro b1 c1 w1 ho1 hb1)
          | (at_builtin; refine wpList_app1m rfl _ _ 22 rfl elI rfl ho1 (by show Value.slice (some ⟨w1.heap.size, 0, none⟩) 1 1 = _; simp) rfl hb1.size _ HT0.out (by omega) (by omega) ?_; intro b2 c2 w2 ho2 hg2 hat2; have hb2 := hb1.grown hg2 hb1.size (fun r hr => (ho1.lt r hr).1); rw [← HAP.out] at ho2)
          | (go_at_call 72; refine (hS.out _ _ ho2.rd).mono ?_; rintro e w3 ⟨v3, rfl, ho3, hb3⟩))
        have hb7 := HB6.out _ _ (hb2.mono hs6)
        have hb8 : Below w.heap.size w w3 := hb7.trans (hb3.mono hb7.size)
        go_roundg s2.length
        case measure => have := HLN.out; omega
        case rel => exact ⟨s2, z + (x' + y'), rfl, rfl, by omega, by have := HLN.out; omega, HR3, HZ2, ho3.mono hb7.size, hb8⟩
    · have HV : Hid (Z = z) := by rw [Hid, ← HZ.out, cmL_short (by have := HM.out; omega)]; omega
      have i1 : ¬ ((m : Int) > 1) := by omega
      go_wp2
      go_ret
      exact ⟨by rw [HV.out]; rfl, hb⟩

end Go.Proofs.YtlmbaijkeahkfaaDoor
