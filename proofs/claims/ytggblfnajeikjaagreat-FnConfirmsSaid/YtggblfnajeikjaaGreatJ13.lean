/- Joined texts of the proof: Cat. -/
import Derived.WalkKit
import Derived.WalkSpells
import Derived.WalkLawsBesides
import Derived.Deep.Draws
import Derived.Lib.Hide
import Derived.RegionTactic
import Derived.Test.YtggblfnajeikjaaGreatRows
import Derived.BigQuiet
import Derived.Deep.QuietTactic
import Derived.Deep.LoopGhost
import Derived.Lib.AppendZeros
import Derived.Test.YtggblfnajeikjaaGreatJ1
import Derived.Test.YtggblfnajeikjaaGreatJ4
import Derived.Test.YtggblfnajeikjaaGreatJ6
namespace Go.Proofs.YtggblfnajeikjaaGreat
open Go.RowKit
set_option linter.unusedVariables false
set_option linter.unusedSimpArgs false

set_option maxHeartbeats 1000000 in
theorem f_GrowNil (n : Nat) (w : World) (hn : n ≤ 1000000) : Calls Tryz.prog 125 #[.slice none 0 0, .int .i64 (n : Int)] w (RetOwn 3 (ints []) w) := by
  have i0 : ¬ (n : Int) < 0 := by omega
  rcases Nat.eq_zero_or_pos n with h0 | h0
  · subst h0
    go_enter Tryz.func125, Tryz.ntmps125
    go_wp2
    go_ret
    exact ⟨_, rfl, Own.nil _ _ _, Below.refl _ _⟩
  · obtain ⟨i, hu, hi, hz, hs1, hby, hzc⟩ := elI.ex
    have hr := fun ty => Lib.run_append_nil_zeros (P := Tryz.prog) w 33 3 ty 3 i _ .i64 .i64 hu Tryz.underlying3 hi hz n h0 (by omega) (by omega) (by rw [hby]; omega)
    have hge := grownCap_ge w n 0 3
    have hcm : grownCap w n 0 3 ≤ maxLen := grownCap_le_maxLen w _ _ 3 (by simp only [maxLen]; omega)
    generalize grownCap w n 0 3 = c at hr hge hcm
    simp only [maxLen] at hcm
    have ho : Own (w.drew.alloc (.cells (Builtin.zeroCells (Value.int .i64 0).cells n ++ Builtin.zeroCells (Value.int .i64 0).cells (c - n)) 3)) 3 w.heap.size (.slice (some ⟨w.heap.size, 0, none⟩) 0 c) (ints []) := by
      refine .inr ⟨w.heap.size, 0, c, _, by simp [ints], Nat.le_refl _, heap_alloc_new w.drew _, by simp [ints], by omega, ?_, fun j u hu => by simp [ints] at hu⟩
      simp only [Array.size_append, size_zeroCells, hzc]
      simp
      omega
    have hb : Below w.heap.size w (w.drew.alloc (.cells (Builtin.zeroCells (Value.int .i64 0).cells n ++ Builtin.zeroCells (Value.int .i64 0).cells (c - n)) 3)) := ((Below.refl _ _).drew).alloc (Nat.le_refl _) _
    obtain ⟨w2, hw2⟩ : ∃ w2, w.drew.alloc (.cells (Builtin.zeroCells (Value.int .i64 0).cells n ++ Builtin.zeroCells (Value.int .i64 0).cells (c - n)) 3) = w2 := ⟨_, rfl⟩
    rw [hw2] at hr ho hb
    have i1 : (n : Int) > 0 := by omega
    go_enter Tryz.func125, Tryz.ntmps125
    go_wp2_with (at_builtin; refine Lib.wpList_append_run _ rfl _ _ _ _ rfl _ _ rfl rfl _ _ (hr _) ?_)
    go_ret
    exact ⟨_, rfl, ho, hb⟩

theorem flat_len (xss : List (List Int)) : xss.flatten.length = tot xss := by
  induction xss with
  | nil => rfl
  | cons x t ih => simp [tot] at ih ⊢; omega
theorem flat_take {xss : List (List Int)} {xs : List Int} {k : Nat} (h : xss[k]? = some xs) : (xss.take (k + 1)).flatten = (xss.take k).flatten ++ xs := by
  rw [take_snoc' h]; simp
theorem tot_take {xss : List (List Int)} {xs : List Int} {k : Nat} (h : xss[k]? = some xs) : tot (xss.take (k + 1)) = tot (xss.take k) + xs.length := by
  rw [take_snoc' h, tot_append, tot_one]
set_option maxHeartbeats 2000000 in
theorem f_Concat (v : Value) (xss : List (List Int)) (w : World) (h : Rd2 w v xss) (ht : tot xss ≤ 1000000) : Calls Tryz.prog 101 #[v] w (RetOwn 3 (ints xss.flatten) w) := by
  obtain ⟨a, c, rfl, hnc, hc9⟩ := h.form
  obtain ⟨n, hn⟩ : ∃ n, xss.length = n := ⟨_, rfl⟩
  rw [hn] at h hnc ⊢
  have HN := Lib.hid hn
  have HTT := Lib.hid (fun k => tot_take_le xss k)
  have HFI : Hid (xss.flatten = (xss.take n).flatten) := by rw [Hid, ← hn, List.take_length]
  clear hn
  go_enter Tryz.func101, Tryz.ntmps101
  go_wp2
  go_loopg [3, 11] n (fun g sv iv wr => ∃ k s : Nat, g = n - k ∧ k ≤ n ∧ iv = .int .i64 k ∧ sv = .int .i64 (s : Int) ∧ Hid (s = tot (xss.take k)) ∧ w = wr)
  case atStart => exact ⟨0, 0, rfl, Nat.zero_le _, rfl, rfl, rfl, rfl⟩
  case round =>
    obtain ⟨k, s, hg, hk, rfl, rfl, HS, rfl⟩ := hrel
    have hs1 : s ≤ 1000000 := by have := HTT.out k; have := HS.out; omega
    by_cases hlt : k < n
    · obtain ⟨ad, b, m, d, xs, rfl, hcr, HX, HM, hmd, hd, hrr⟩ := h.row (k := k) (by rw [HN.out]; exact hlt)
      have HS2 : Hid (s + m = tot (xss.take (k + 1))) := by rw [Hid, tot_take HX.out, HS.out, HM.out]
      have hs2 : s + m ≤ 1000000 := by have := HTT.out (k + 1); have := HS2.out; omega
      have i1 : ¬ (s : Int) + (m : Int) < 0 := by omega
      go_wp2
      go_roundg (n - (k + 1))
      case measure => omega
      case rel => exact ⟨k + 1, s + m, rfl, by omega, by go_num, by go_num, HS2, rfl⟩
    · obtain rfl : k = n := by omega
      go_wp2_with (go_at_call 125; refine (f_GrowNil s _ hs1).mono ?_; rintro e w3 ⟨v3, rfl, ho3, hb3⟩)
      go_loopg [6, 27] k (fun g vo iv wr => ∃ q : Nat, g = k - q ∧ q ≤ k ∧ iv = .int .i64 q ∧ Own wr 3 w.heap.size vo (ints (xss.take q).flatten) ∧ Below w.heap.size w wr)
      case atStart => exact ⟨0, rfl, Nat.zero_le _, rfl, by simpa using ho3, hb3⟩
      case round =>
        clear ho3 hb3
        obtain ⟨q, hg, hq, rfl, ho, hb⟩ := hrel
        obtain ⟨ao, no, co, rfl, HNO, _, _⟩ := ho.rd.formN
        by_cases hlt : q < k
        · obtain ⟨ad, b, m, d, xs, rfl, hcr, HX, HM, hmd, hd, hrr⟩ := (h.below hb).row (k := q) (by rw [HN.out]; exact hlt)
          have HLN : Hid ((ints (xss.take q).flatten).length + (ints xs).length = no + m) := by rw [Hid, ints_length, ints_length, HNO.out, HM.out]
          have HVV : Hid (ints (xss.take q).flatten ++ ints xs = ints (xss.take (q + 1)).flatten) := by rw [Hid, flat_take HX.out, ints_append]
          have hs2 : no + m ≤ 1000000 := by
            have h1 := tot_take HX.out
            have h2 := HTT.out (q + 1)
            have h3 := HNO.out
            rw [flat_len] at h3
            have h4 := HM.out
            omega
          have hsb := hb.size
          have hn1 : (no + m) * 8 ≤ 140737488355328 := by omega
          have hn2 : no + m ≤ 9223372036854775807 := by omega
          go_wp2_with (at_builtin; (refine wpList_appn rfl _ _ 33 rfl elI ho hrr ?_ ?_ (oneCell_ints1 xs) hsb (no + m) HLN.out hn1 hn2 ?_); (focus (simp [Act.eval])); (focus (simp [Act.eval])); intro bn cn' w6 ho6 hg6 hat6)
          go_roundg (k - (q + 1))
          case measure => omega
          case rel => exact ⟨q + 1, rfl, by omega, by go_num, by rw [← HVV.out]; exact ho6, hb.grown hg6 hsb fun r hr => (ho.lt r hr).1⟩
        · obtain rfl : q = k := by omega
          go_wp2
          go_ret
          exact ⟨_, rfl, by rw [HFI.out]; exact ho, hb⟩

end Go.Proofs.YtggblfnajeikjaaGreat
