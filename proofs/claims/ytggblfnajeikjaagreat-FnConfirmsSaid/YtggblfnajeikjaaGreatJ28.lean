/- Joined texts of the proof: ConfT. -/
import Derived.WalkKit
import Derived.WalkSpells
import Derived.WalkLawsBesides
import Derived.Deep.Draws
import Derived.Lib.Hide
import Derived.RegionTactic
import Derived.Test.YtggblfnajeikjaaGreatRows
import Derived.BigQuiet
import Derived.Deep.QuietTactic
import Derived.Deep.RegionHeld3
import Derived.Deep.DeepCutAuto
import Derived.Deep.LoopGhost
import Derived.IntWalk
import Derived.Deep.RegionLaw
import Derived.BigRegion
import Derived.Test.YtggblfnajeikjaaGreatJ1
import Derived.Test.YtggblfnajeikjaaGreatJ2
import Derived.Test.YtggblfnajeikjaaGreatJ4
import Derived.Test.YtggblfnajeikjaaGreatJ6
import Derived.Test.YtggblfnajeikjaaGreatJ18
namespace Go.Proofs.YtggblfnajeikjaaGreat
open Go.RowKit
set_option linter.unusedVariables false
set_option linter.unusedSimpArgs false

def tB (t : Int) : Bool := decide (0 ≤ t) && decide (t ≤ 1000)
theorem timesOk_eq (T : List Int) : timesOk T = (decide (T.length ≤ 30) && T.all tB) := rfl
theorem k_TimesOk1 : Known 113 := known Tryz.func113 (by kernel_rfl) (by kernel_rfl)
theorem i_TimesOk1 (x : Int) (w : World) : Calls Tryz.prog 113 #[.int .i64 x] w fun e w' => e = .returned (.bool (!tB x)) ∧ w = w' := by
  by_cases h1 : x < 0
  · have H : Hid (tB x = false) := by rw [Hid, tB]; simp; omega
    go_enter Tryz.func113, Tryz.ntmps113
    go_wp2
    go_ret
    exact ⟨ret_bool (by rw [H.out]; rfl), rfl⟩
  · by_cases h2 : x > 1000
    · have H : Hid (tB x = false) := by rw [Hid, tB]; simp; omega
      go_enter Tryz.func113, Tryz.ntmps113
      go_wp2
      go_ret
      exact ⟨ret_bool (by rw [H.out]; simp <;> omega), rfl⟩
    · have H : Hid (tB x = true) := by rw [Hid, tB]; simp; omega
      go_enter Tryz.func113, Tryz.ntmps113
      go_wp2
      go_ret
      exact ⟨ret_bool (by rw [H.out]; simp <;> omega), rfl⟩
set_option maxHeartbeats 400000 in
theorem i_TimesOk (v : Value) (xs : List Int) (w : World) (h : Rd w v (ints xs)) :
    Calls Tryz.prog 81 #[v] w fun e w' => e = .returned (.bool (timesOk xs)) ∧ w = w' := by
  obtain ⟨a, c, rfl, h2, h3⟩ := h.formi
  have HF := f_ContainsFunc (fun x => !tB x) 113 #[] k_TimesOk1 _ xs w h (fun x _ => by simpa using i_TimesOk1 x w)
  have HR : Hid (timesOk xs = (decide (xs.length ≤ 30) && !(xs.any fun x => !tB x))) := by
    show _ = _
    rw [List.not_any_eq_all_not, timesOk_eq]
    simp
  generalize (xs.any fun x => !tB x) = r at *
  by_cases h16 : xs.length ≤ 30
  · have hd : decide ((xs.length : Int) ≤ 30) = true := by simp; omega
    go_enter Tryz.func81, Tryz.ntmps81
    go_wp2_with (go_at_call 107; refine HF.mono ?_; rintro e w' ⟨rfl, rfl⟩)
    go_ret
    exact ⟨ret_bool (by rw [HR.out]; simp [h16]), rfl⟩
  · have hd : decide ((xs.length : Int) ≤ 30) = false := by simp; omega
    go_enter Tryz.func81, Tryz.ntmps81
    go_wp2
    go_ret
    exact ⟨ret_bool (by rw [HR.out]; simp [h16]), rfl⟩
theorem hi_bd {T : List Int} (hT : ∀ t ∈ T, 0 ≤ t ∧ t ≤ 1000) : ∀ k, k ≤ T.length → 0 ≤ hiK T k ∧ hiK T k ≤ 1000
  | 0, _ => ⟨Int.le_refl _, by rw [hiK]; omega⟩
  | k + 1, h => by
    have h1 := hi_bd hT k (by omega)
    have h2 : T.getD k 0 ≤ 1000 := by rw [List.getD_eq_getElem?_getD, List.getElem?_eq_getElem (by omega)]; exact (hT _ (List.getElem_mem _)).2
    rw [hiK]; omega
theorem slack_bd {T : List Int} (hT : ∀ t ∈ T, 0 ≤ t ∧ t ≤ 1000) : ∀ k, k ≤ T.length → 0 ≤ slackK T k ∧ slackK T k ≤ 1000
  | 0, _ => ⟨Int.le_refl _, by rw [slackK]; omega⟩
  | k + 1, h => by
    have h1 := slack_bd hT k (by omega)
    have h3 := hi_bd hT (k + 1) h
    have h2 : 0 ≤ T.getD k 0 := by rw [List.getD_eq_getElem?_getD, List.getElem?_eq_getElem (by omega)]; exact (hT _ (List.getElem_mem _)).1
    rw [slackK]; omega

set_option maxRecDepth 100000 in
set_option maxHeartbeats 1000000 in
theorem I_SlackNeeded (w : World) (v : Value) (xs : List Int) (h : Rd w v (ints xs)) (_ : I64s xs) (_ : xs.length ≤ 1048576) : Calls Tryz.prog 36 #[v] w (RetB (.int .i64 (slackNeed xs)) w) := by
  have HO := i_TimesOk v xs w h
  cases hok : timesOk xs
  · rw [hok] at HO
    have HR : Hid (slackNeed xs = -1) := by rw [Hid, slackNeed, hok]; rfl
    have HOK := Lib.hid HO
    clear HO hok
    obtain ⟨a, c, rfl, h2, h3⟩ := h.formi
    go_enter Tryz.func36, Tryz.ntmps36
    go_wp2_with (go_at_call 81; refine HOK.out.mono ?_; rintro e w' ⟨rfl, rfl⟩)
    go_ret
    exact ⟨ret_int HR.out.symm, Below.refl _ _⟩
  · rw [hok] at HO
    have HR : Hid (slackNeed xs = slackK xs xs.length) := by rw [Hid, slackNeed, hok]; rfl
    obtain ⟨hl, hT⟩ := timesOk_iff.1 hok
    have HOK := Lib.hid HO
    have HHB := Lib.hid (fun k hk => hi_bd hT k hk)
    have HSB := Lib.hid (fun k hk => slack_bd hT k hk)
    have HT := Lib.hid hT
    clear HO hok hT
    obtain ⟨a, n, c, rfl, HN, hnc, hc⟩ := h.formN
    have hn : n ≤ 30 := by have := HN.out; omega
    go_enter Tryz.func36, Tryz.ntmps36
    go_wp2_with (go_at_call 81; refine HOK.out.mono ?_; rintro e w' ⟨rfl, rfl⟩)
    go_loopg [3, 4, 12] n (fun gq vn vg iv wr => ∃ (k : Nat) (nd g : Int), gq = n - k ∧ k ≤ n ∧ iv = .int .i64 (k : Int) ∧ vn = .int .i64 nd ∧ vg = .int .i64 g ∧ 0 ≤ nd ∧ nd ≤ 1000 ∧ 0 ≤ g ∧ g ≤ 1000 ∧ Hid (slackK xs k = nd) ∧ Hid (hiK xs k = g) ∧ w = wr)
    case atStart => exact ⟨0, 0, 0, rfl, Nat.zero_le _, rfl, rfl, rfl, by omega, by omega, by omega, by omega, rfl, rfl, rfl⟩
    case round =>
      obtain ⟨k, nd, g, hgq, hk, rfl, rfl, rfl, n0, n1, g0, g1, HND, HG, rfl⟩ := hrel
      by_cases hlt : k < n
      · have i0 : (k : Int) < (n : Int) := by omega
        obtain ⟨ad, t, rfl, hct, ht⟩ := h.int (k := k) (by have := HN.out; omega)
        have htb := HT.out t (List.mem_of_getElem? ht.out)
        have HTK : Hid (xs.getD k 0 = t) := getD_of ht.out
        have HG2 : Hid (hiK xs (k + 1) = max g t) := by rw [Hid, hiK, HG.out, HTK.out]
        have HND2 : Hid (slackK xs (k + 1) = max nd (max g t - t)) := by rw [Hid, slackK, HG2.out, HND.out, HTK.out]
        go_upto_region 7 with (fail)
        go_cut [4] (fun vg wx => w = wx ∧ ∃ g2, vg = .int .i64 g2 ∧ Hid (max g t = g2) ∧ 0 ≤ g2 ∧ g2 ≤ 1000)
        case first =>
          go_wp2_with fail
          all_goals
            go_meet
            exact ⟨rfl, _, rfl, by rw [Hid]; omega, by omega, by omega⟩
        case rest =>
          obtain ⟨rfl, g2, rfl, HGG, g20, g21⟩ := hcut
          go_wp2_with fail
          all_goals
            go_roundg (n - (k + 1))
            case measure => omega
            case rel => exact ⟨k + 1, _, g2, rfl, by omega, by go_num, rfl, rfl, by omega, by omega, g20, g21, by rw [HND2.out, HGG.out, Hid]; omega, HG2.out.trans HGG.out, rfl⟩
      · obtain rfl : k = n := by omega
        have HE : Hid (slackNeed xs = nd) := by rw [Hid, HR.out, ← HN.out]; exact HND.out
        go_wp2_with fail
        go_ret
        exact ⟨ret_int HE.out.symm, Below.refl _ _⟩

end Go.Proofs.YtggblfnajeikjaaGreat
