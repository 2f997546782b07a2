/- Joined texts of the proof: MergeB. -/
import Derived.WalkKit
import Derived.WalkSpells
import Derived.WalkLawsBesides
import Derived.Deep.Draws
import Derived.Lib.Hide
import Derived.RegionTactic
import Derived.Test.YtggblfnajeikjaaGreatDoorRows
import Derived.BigQuiet
import Derived.Deep.QuietTactic
import Derived.Deep.LoopGhost
import Derived.Deep.RegionWith
import Derived.Test.YtggblfnajeikjaaGreatDoorJ1
import Derived.Test.YtggblfnajeikjaaGreatDoorJ6
import Derived.Test.YtggblfnajeikjaaGreatDoorJ7
import Derived.Test.YtggblfnajeikjaaGreatDoorJ9
namespace Go.Proofs.YtggblfnajeikjaaGreatDoor
open Go.RowKit
set_option linter.unusedVariables false
set_option linter.unusedSimpArgs false

theorem nb_small {f : Nat} {xs : List Int} (h : xs.length < 2) : nb f xs = 0 := by
  cases f with
  | zero => rfl
  | succ f => rw [nb, if_pos h]
theorem nbK_step {g : List Int → Int} {xs : List Int} {i : Nat} (h : 1 ≤ i) : nbK g xs i = nbS (nbK g xs (i - 1)) (g (xs.take i) + g (xs.drop i)) := by
  obtain ⟨k, rfl⟩ : ∃ k, i = k + 1 := ⟨i - 1, by omega⟩
  rfl

set_option maxRecDepth 100000 in
set_option maxHeartbeats 800000 in
theorem i_nb : ∀ (f : Nat) (v : Value) (xs : List Int) (w : World), Rd w v (ints xs) → xs.length ≤ f → f ≤ 8 → (∀ x ∈ xs, 1 ≤ x ∧ x ≤ 1000) → Calls Tryz.prog 89 #[v] w (RetQ (.int .i64 (nb f xs)) w) := by
  intro f
  induction f with
  | zero =>
    intro v xs w h hl hf hb
    have HV : Hid (nb 0 xs = 0) := rfl
    obtain ⟨a, n, c, rfl, HN, hnc, hc⟩ := h.formN
    have hn : n < 2 := by have := HN.out; omega
    generalize nb 0 xs = R at HV ⊢
    clear hb hl
    go_enter Tryz.func89, Tryz.ntmps89
    go_wp2
    go_ret
    exact ⟨ret_int (by rw [HV.out]), Dr.refl _⟩
  | succ f ih =>
    intro v xs w h hl hf hb
    by_cases h2 : xs.length < 2
    · have HV := Lib.hid (nb_small (f := f + 1) h2)
      obtain ⟨a, n, c, rfl, HN, hnc, hc⟩ := h.formN
      have hn : n < 2 := by have := HN.out; omega
      generalize nb (f + 1) xs = R at HV ⊢
      clear hb hl h2 ih
      go_enter Tryz.func89, Tryz.ntmps89
      go_wp2
      go_ret
      exact ⟨ret_int (by rw [HV.out]), Dr.refl _⟩
    · have hnt := nbTop_le f (by omega)
      have HG := Lib.hid (fun (ys : List Int) (hy : ∀ y ∈ ys, y ∈ xs) (hyl : ys.length ≤ xs.length) => nb_bd f ys (by omega) (fun y hm => hb y (hy y hm)) (by omega))
      have HKB := Lib.hid (fun k => nbK_bd (xs := xs) hnt.1 HG.out k)
      have HKS := Lib.hid (fun i (h1 : 1 ≤ i) => nbK_step (g := nb f) (xs := xs) h1)
      have HV : Hid (nb (f + 1) xs = nbK (nb f) xs (xs.length - 1) + sumL xs) := by rw [Hid, nb, if_neg h2]
      have HIT := Lib.hid (fun (v : Value) (i : Nat) (W : World) (hW : Rd W v (ints (xs.take i))) (hi : i < xs.length) => ih v (xs.take i) W hW (by simp; omega) (by omega) (fun x hx => hb x (List.mem_of_mem_take hx)))
      have HID := Lib.hid (fun (v : Value) (i : Nat) (W : World) (hW : Rd W v (ints (xs.drop i))) (hi : 1 ≤ i) => ih v (xs.drop i) W hW (by simp; omega) (by omega) (fun x hx => hb x (List.mem_of_mem_drop hx)))
      have HBT := Lib.hid (fun i => HG.out (xs.take i) (fun y hy => List.mem_of_mem_take hy) (by simp; omega))
      have HBD := Lib.hid (fun i => HG.out (xs.drop i) (fun y hy => List.mem_of_mem_drop hy) (by simp))
      have HZ0 : Hid (nbK (nb f) xs (1 - 1) = -1) := rfl
      have hsum := sumL_bd xs hb
      have HB := Lib.hid hb
      have HSB := Lib.hid (fun k => sumL_bd (xs.take k) fun x hx => hb x (List.mem_of_mem_take hx))
      generalize nb (f + 1) xs = R at HV ⊢
      generalize nb f = g at HKB HKS HV HIT HID HBT HBD HZ0
      obtain ⟨T, hT⟩ : ∃ T, nbTop f = T := ⟨_, rfl⟩
      rw [hT] at hnt HBT HBD HKB
      obtain ⟨hT0, hT1⟩ := hnt
      obtain ⟨a, n, c, rfl, HN, hnc, hc⟩ := h.formN
      have hn : ¬ n < 2 := by have := HN.out; omega
      have hn8 : n ≤ 8 := by have := HN.out; omega
      rw [← HN.out] at HV HIT hsum
      have HALL : Hid (sumL (xs.take n) = sumL xs) := by rw [Hid, HN.out, List.take_length]
      obtain ⟨hs0, hs1⟩ := hsum
      clear HG hT hl hf hb h2 ih
      go_enter Tryz.func89, Tryz.ntmps89
      go_wp2
      go_loopg [3, 4] (n - 1) (fun gk bv iv wr => ∃ (i : Nat) (z : Int), gk = n - i ∧ 1 ≤ i ∧ i ≤ n ∧ bv = .int .i64 z ∧ iv = .int .i64 i ∧ Hid (nbK g xs (i - 1) = z) ∧ Dr w wr)
      case atStart => exact ⟨1, -1, rfl, Nat.le_refl _, by omega, rfl, rfl, HZ0, Dr.refl _⟩
      case round =>
        obtain ⟨i, z, hg, hi1, hi, rfl, rfl, HZ, hdr⟩ := hrel
        have hz := HKB.out (i - 1)
        rw [HZ.out] at hz
        obtain ⟨hz0, hz1⟩ := hz
        have hr := h.dr hdr
        by_cases hlt : i < n
        · obtain ⟨ad, x0, rfl, _, _⟩ := hr.int (k := 0) (by have := HN.out; omega)
          have hrT : Rd wr (.slice (some ad) i c) (ints (xs.take i)) := by rw [← ints_take]; exact hr.take (by omega)
          have hrD : Rd wr (.slice (if c = i then some ad else some (ad.add i)) (n - i) (c - i)) (ints (xs.drop i)) := by rw [← ints_drop]; exact hr.cut (by omega)
          have hci : ¬ c = i := by omega
          rw [if_neg hci] at hrD
          have HIT1 := Lib.hid (fun (W : World) hW => HIT.out (.slice (some ad) i c) i W hW hlt)
          have HID1 := Lib.hid (fun (W : World) hW => HID.out (.slice (some (ad.add i)) (n - i) (c - i)) i W hW hi1)
          have HST := Lib.hid (HKS.out i hi1)
          have hbT := HBT.out i
          have hbD := HBD.out i
          obtain ⟨p, hp⟩ : ∃ p, g (xs.take i) = p := ⟨_, rfl⟩
          obtain ⟨q, hq⟩ : ∃ q, g (xs.drop i) = q := ⟨_, rfl⟩
          rw [hp] at HIT1 HST hbT
          rw [hq] at HID1 HST hbD
          obtain ⟨hp0, hp1⟩ := hbT
          obtain ⟨hq0, hq1⟩ := hbD
          have HST2 : Hid (nbK g xs i = nbS z (p + q)) := by rw [Hid, HST.out, HZ.out]
          have i1 : (i : Int) < (n : Int) := by omega
          have i2 : (i : Int) ≤ (n : Int) := by omega
          have i3 : (i : Int) ≤ (c : Int) := by omega
          clear hp hq HST
          go_wp2_with fail
          go_quiet ((first
            | (go_at_call_of 89 (Value.slice (some ad) i c); exact quietQ (HIT1.out _ (hrT.drewN _)))
            | (go_at_call_of 89 (Value.slice (some (ad.add i)) (n - i) (c - i)); exact quietQ (HID1.out _ (hrD.drewN _)))))
          have hdr2 : Dr w wr.drew := hdr.step _
          by_cases hz2 : z < 0
          · have HST3 : Hid (nbK g xs (i + 1 - 1) = p + q) := by rw [Hid, Nat.add_sub_cancel, HST2.out, nbS, if_pos (.inl hz2)]
            go_wp2_with fail
            go_roundg (n - (i + 1))
            case measure => omega
            case rel => exact ⟨i + 1, p + q, rfl, by omega, by omega, rfl, by go_num, HST3, by first | exact hdr.step _ | exact hdr.trans ⟨_, rfl⟩⟩
          · by_cases hz3 : p + q < z
            · have HST3 : Hid (nbK g xs (i + 1 - 1) = p + q) := by rw [Hid, Nat.add_sub_cancel, HST2.out, nbS, if_pos (.inr hz3)]
              go_wp2_with fail
              go_roundg (n - (i + 1))
              case measure => omega
              case rel => exact ⟨i + 1, p + q, rfl, by omega, by omega, rfl, by go_num, HST3, by first | exact hdr.step _ | exact hdr.trans ⟨_, rfl⟩⟩
            · have HST3 : Hid (nbK g xs (i + 1 - 1) = z) := by rw [Hid, Nat.add_sub_cancel, HST2.out, nbS, if_neg (by omega)]
              go_wp2_with fail
              go_roundg (n - (i + 1))
              case measure => omega
              case rel => exact ⟨i + 1, z, rfl, by omega, by omega, rfl, by go_num, HST3, by first | exact hdr.step _ | exact hdr.trans ⟨_, rfl⟩⟩
        · obtain rfl : i = n := by omega
          have HV2 : Hid (R = z + sumL xs) := by rw [Hid, HV.out, HZ.out]
          obtain ⟨wo, rfl⟩ : ∃ wo : World, wo = wr := ⟨_, rfl⟩
          rw [← HALL.out] at HV2
          go_wp2
          go_loopg [3, 36] (i + 1) (fun gk sv jv wr => ∃ (j : Nat) (y : Int), gk = i + 1 - j ∧ j ≤ i ∧ sv = .int .i64 y ∧ jv = .int .i64 j ∧ Hid (z + sumL (xs.take j) = y) ∧ wo = wr)
          case atStart => exact ⟨0, z, rfl, Nat.zero_le _, rfl, rfl, by simp [Hid, sumL], rfl⟩
          case round =>
            obtain ⟨j, y, hg, hj, rfl, rfl, HY, rfl⟩ := hrel
            have hy : -1 ≤ y ∧ y ≤ 4088000 := by have h1 := HSB.out j; have h2 := HY.out; simp at h1; omega
            obtain ⟨hy0, hy1⟩ := hy
            by_cases hlt2 : j < i
            · obtain ⟨ad, x, rfl, hcx, hx⟩ := hr.int (k := j) (by have := HN.out; omega)
              obtain ⟨hx0, hx1⟩ := HB.out x (List.mem_of_getElem? hx.out)
              have HS : Hid (z + sumL (xs.take (j + 1)) = y + x) := by rw [Hid, sumL_take hx.out, ← HY.out]; omega
              go_wp2
              go_roundg (i + 1 - (j + 1))
              case measure => omega
              case rel => exact ⟨j + 1, y + x, rfl, by omega, rfl, by go_num, HS, rfl⟩
            · obtain rfl : j = i := by omega
              have HV3 : Hid (R = y) := by rw [Hid, HV2.out]; exact HY.out
              go_wp2
              go_ret
              exact ⟨ret_int (by rw [HV3.out]), hdr⟩

end Go.Proofs.YtggblfnajeikjaaGreatDoor
