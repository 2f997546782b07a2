/- Joined texts of the proof: FabLine. -/
import Derived.WalkKit
import Derived.WalkSpells
import Derived.WalkLawsBesides
import Derived.Deep.Draws
import Derived.Lib.Hide
import Derived.RegionTactic
import Derived.Lib.SmallJoins
import Derived.Test.YtggblfnajeikjaaGreatDoorRows
import Derived.BigQuiet
import Derived.Deep.QuietTactic
import Derived.Deep.RegionLaw
import Derived.Deep.DeepCutAuto
import Derived.Deep.LoopGhost
import Derived.Deep.RegionWith
import Derived.Lib.ItoaNum
import Derived.Deep.RegionHeld3
import Derived.IntWalk
import Derived.Lib.Join
import Derived.Shelf.Strings.Builder1
import Derived.Shelf.Strings.Builder2
import Derived.Shelf.Strings.OnBuilder
import Derived.Shelf.Strconv.Atoi
import Derived.Shelf.Strconv.Itoa0
import Derived.Shelf.Strconv.Itoa1
import Derived.Shelf.LaysM
import Derived.Shelf.Strconv.Itoa2
import Derived.Shelf.Strconv.Itoa3
import Derived.Shelf.Strconv.AtoiErrFast
import Derived.Shelf.Strconv.ParseIntEmpty
import Derived.Shelf.Strconv.AtoiFail
import Derived.Shelf.Strconv.Clone
import Derived.Shelf.Strconv.SyntaxError
import Derived.Shelf.LaysC
import Derived.Shelf.Strconv.ToError
import Derived.Shelf.Strconv.Lower
import Derived.Shelf.Strconv.ParseUint10
import Derived.Shelf.Strconv.ParseUint10Empty
import Derived.Shelf.Strconv.ParseUint10Any
import Derived.Shelf.Strconv.ParseInt10
import Derived.Shelf.Strconv.AtoiLong
import Derived.Shelf.Strconv.AtoiInnerAll
import Derived.Shelf.Strconv.RangeError
import Derived.Shelf.Strconv.ToErrorRange
import Derived.Shelf.Strconv.AtoiAll
import Derived.Shelf.Strconv.ErrVarAll
import Derived.Shelf.Strings.Search1
import Derived.Shelf.Strings.Search2
import Derived.Shelf.Strings.Search3
import Derived.Shelf.Strings.Cut
import Derived.Shelf.Strings.Count
import Derived.Shelf.Strings.Shaped
import Derived.Shelf.Sort.Plain
import Derived.Shelf.Strings.Prefix
import Derived.Shelf.Strings.Split
import Derived.Shelf.Unicode.DecodeSlow
import Derived.Shelf.Slices.Reverse
import Derived.Ground.Names2Prog
import Derived.Shelf.Slices.CompactI
import Derived.Test.YtggblfnajeikjaaGreatDoorProg
import Derived.Lib.AppendZeros
import Derived.Lib.LazyBuf
import Derived.Test.YtggblfnajeikjaaGreatDoorJ1
import Derived.Test.YtggblfnajeikjaaGreatDoorJ6
import Derived.Test.YtggblfnajeikjaaGreatDoorJ7
import Derived.Test.YtggblfnajeikjaaGreatDoorJ9
import Derived.Test.YtggblfnajeikjaaGreatDoorJ10
import Derived.Test.YtggblfnajeikjaaGreatDoorJ11
import Derived.Test.YtggblfnajeikjaaGreatDoorJ14
import Derived.Test.YtggblfnajeikjaaGreatDoorJ16
import Derived.Test.YtggblfnajeikjaaGreatDoorJ19
import Derived.Test.YtggblfnajeikjaaGreatDoorJ24
import Derived.Test.YtggblfnajeikjaaGreatDoorJ27
import Derived.Test.YtggblfnajeikjaaGreatDoorJ28
import Derived.Test.YtggblfnajeikjaaGreatDoorJ31
import Derived.Test.YtggblfnajeikjaaGreatDoorJ34
import Derived.Test.YtggblfnajeikjaaGreatDoorJ39
namespace Go.Proofs.YtggblfnajeikjaaGreatDoor
open Go.RowKit
set_option linter.unusedVariables false
set_option linter.unusedSimpArgs false

def fabX (xs : List Int) : Nat → Nat := fun o => (xs.getD o 0).toNat
theorem fabX_ok {xs : List Int} (h : stagedB xs = true) : Stg xs.length (stgK xs.length) ∧ Ord xs.length (fabX xs) ∧ natA xs.length (fabX xs) = xs := by
  simp only [stagedB, Bool.and_eq_true, decide_eq_true_eq] at h
  obtain ⟨x, hx, H⟩ := ord_of rfl (ordB_iff.1 h.2)
  have e : ∀ o, o < xs.length → fabX xs o = x o := fun o ho => by
    have h1 : xs[o]? = some ((x o : Nat) : Int) := by
      have := natA_get (n := xs.length) x ho
      rw [← hx] at this
      exact this
    rw [fabX, List.getD_eq_getElem?_getD, h1]
    simp
  refine ⟨stgK_ok h.1, ⟨fun o ho => by rw [e o ho]; exact H.lx o ho, fun o p ho hp h2 => H.inj o p ho hp (by rw [← e o ho, ← e p hp]; exact h2), fun v hv => ?_⟩, (natA_congr e).trans hx.symm⟩
  obtain ⟨o, ho, h2⟩ := H.sur v hv
  exact ⟨o, ho, by rw [e o ho]; exact h2⟩
theorem cyc_two (n : Nat) (x : Nat → Nat) : ∀ (f o : Nat) (s : FS), (∀ k, s.first k < 2 ∧ s.last k < 2) → ∀ k, (cyc n x f o s).first k < 2 ∧ (cyc n x f o s).last k < 2
  | 0, _, _, h => h
  | f + 1, o, s, h => by
    rw [cyc]
    split
    · exact h
    · refine cyc_two n x f _ _ fun k => ?_
      simp only [fput, upd]
      have := h k
      constructor
      · split <;> omega
      · split <;> omega
theorem cycs_two (h : Nat) (x : Nat → Nat) : ∀ j k, (cycs h x j).first k < 2 ∧ (cycs h x j).last k < 2
  | 0, k => ⟨Nat.zero_lt_two, Nat.zero_lt_two⟩
  | j + 1, k => cyc_two _ _ _ _ _ (cycs_two h x j) k
theorem setL_bd : ∀ (d : Nat) (x : Nat → Nat), Ord (2 ^ (d + 1)) x → ∀ v ∈ setL d x, 0 ≤ v ∧ v < 2
  | 0, x, H, v, hv => by
    have h1 := H.lx 0 (by decide)
    simp only [setL, List.mem_singleton] at hv
    subst hv
    have : x 0 < 2 := h1
    omega
  | d + 1, x, H, v, hv => by
    have e : 2 ^ (d + 1 + 1) = 2 * 2 ^ (d + 1) := by rw [Nat.pow_succ]; omega
    rw [e] at H
    have hF := fin_up H (cycs_FD H _ (Nat.le_refl _)).1 (cycs_FD H _ (Nat.le_refl _)).2
    have h2 := cycs_two (2 ^ (d + 1)) x (2 ^ (d + 1))
    simp only [setL, List.mem_append] at hv
    rcases hv with ((hv | hv) | hv) | hv
    · simp only [atL, List.mem_map, List.mem_range] at hv
      obtain ⟨k, _, rfl⟩ := hv
      have := (h2 k).1
      simp only [finS]
      omega
    · exact setL_bd d _ hF.1 v hv
    · exact setL_bd d _ hF.2 v hv
    · simp only [atL, List.mem_map, List.mem_range] at hv
      obtain ⟨k, _, rfl⟩ := hv
      have := (h2 k).2
      simp only [finS]
      omega
def fabSet (xs : List Int) : List Int := setL (stgK xs.length - 1) (fabX xs)
def fabLine (xs : List Int) : List UInt8 :=
  if stagedB xs then (if passB xs.length (stgK xs.length) (fabX xs) then [115, 101, 116, 32] ++ numsB (fabSet xs) ++ [32, 112, 97, 115, 115, 101, 115]
    else [115, 101, 116, 32] ++ numsB (fabSet xs) ++ [32, 114, 111, 117, 110, 100, 115, 32] ++ Lib.itoa ((rK xs.length (stgK xs.length) (fabX xs) xs.length).length : Nat)) else [110, 111, 110, 101]
theorem fabSet_bd {xs : List Int} (h : stagedB xs = true) : I64s (fabSet xs) ∧ (fabSet xs).length ≤ 20 := by
  obtain ⟨hs, H, _⟩ := fabX_ok h
  have hd : xs.length = 2 ^ (stgK xs.length - 1 + 1) ∧ stgK xs.length - 1 ≤ 2 := by
    rcases hs with ⟨a, b⟩ | ⟨a, b⟩ | ⟨a, b⟩ <;> rw [b] <;> exact ⟨a, by omega⟩
  rw [hd.1] at H
  refine ⟨fun v hv => ?_, ?_⟩
  · have := setL_bd _ _ H v hv
    unfold I64
    omega
  · have : ∀ (d : Nat) (x : Nat → Nat), d ≤ 2 → (setL d x).length ≤ 20 := fun d x h => by
      match d, h with
      | 0, _ => simp [setL]
      | 1, _ => simp [setL, atL_length]
      | 2, _ => simp [setL, atL_length]
      | d + 3, h => omega
    exact this _ _ hd.2

set_option maxHeartbeats 2000000 in
theorem I_FabricLine (w : World) (v : Value) (xs : List Int) (h : Rd w v (ints xs)) (_ : I64s xs) (_ : xs.length ≤ 1048576) (ht : Tab w) : Calls Tryz.prog 36 #[v] w (RetB (.string (bstr (fabLine xs))) w) := by
  have HO := i_isStaged v xs w h
  obtain ⟨a, n, c, rfl, HN, hnc, hc⟩ := h.formN
  cases hs : stagedB xs
  · rw [hs] at HO
    have HR : Hid (fabLine xs = [110, 111, 110, 101]) := by rw [Hid, fabLine, hs]; rfl
    have HOK := Lib.hid HO
    clear HO hs
    go_enter Tryz.func36, Tryz.ntmps36
    go_wp2_with (go_at_call 92; refine HOK.out.mono ?_; rintro e w' ⟨rfl, hb1⟩)
    go_ret
    exact ⟨by rw [HR.out]; rfl, hb1⟩
  rw [hs] at HO
  have HOK := Lib.hid HO
  obtain ⟨hst, H, hx⟩ := fabX_ok hs
  obtain ⟨hfi, hfl⟩ := fabSet_bd hs
  have hd : xs.length = 2 ^ (stgK xs.length - 1 + 1) ∧ stgK xs.length - 1 ≤ 2 := by
    rcases hst with ⟨a, b⟩ | ⟨a, b⟩ | ⟨a, b⟩ <;> rw [b] <;> exact ⟨a, by omega⟩
  have hxN : ∀ W, Below w.heap.size w W → Rd W (.slice a n c) (ints (natA xs.length (fabX xs))) := fun W hW => by rw [hx]; exact h.below hW
  have HSET := Lib.hid (fun (W : World) (hW : Below w.heap.size w W) => i_settingsFor (stgK xs.length - 1) hd.2 (.slice a n c) (fabX xs) W (by rw [← hd.1]; exact hxN W hW) (by rw [← hd.1]; exact H))
  have hst2 : stagedB (natA xs.length (fabX xs)) = true := by rw [hx]; exact hs
  have HCP := Lib.hid (fun (W : World) (hW : Below w.heap.size w W) => i_canPass (.slice a n c) xs.length (stgK xs.length) (fabX xs) W hst H (hxN W hW))
  have HRN := Lib.hid (fun (W : World) (hW : Below w.heap.size w W) => i_RoundsNeeded (.slice a n c) xs.length (stgK xs.length) (fabX xs) W hst H hst2 (hxN W hW))
  have hrk := (rK_inv xs.length (stgK xs.length) (fabX xs) xs.length).1
  have hn8 : xs.length ≤ 8 := by rcases hst with ⟨e, _⟩ | ⟨e, _⟩ | ⟨e, _⟩ <;> omega
  have HRX : Hid (fabLine xs = if passB xs.length (stgK xs.length) (fabX xs) then [115, 101, 116, 32] ++ numsB (fabSet xs) ++ [32, 112, 97, 115, 115, 101, 115] else [115, 101, 116, 32] ++ numsB (fabSet xs) ++ [32, 114, 111, 117, 110, 100, 115, 32] ++ Lib.itoa ((rK xs.length (stgK xs.length) (fabX xs) xs.length).length : Nat)) := by rw [Hid, fabLine, if_pos hs]
  have HFS : Hid (setL (stgK xs.length - 1) (fabX xs) = fabSet xs) := rfl
  rw [HFS.out] at HSET
  generalize fabSet xs = fs at HSET HRX hfi hfl
  generalize (rK xs.length (stgK xs.length) (fabX xs) xs.length).length = rl at HRN HRX hrk
  generalize passB xs.length (stgK xs.length) (fabX xs) = pb at HCP HRX
  have hzn := numsB_le hfi hfl
  have HF0 := fun (W : World) (u : Value) (hu : Rd W u (ints fs)) (hW : Tab W) => i_numbers W u _ hu hfi (by omega) hW
  have KI0 := Lib.hid (fun (W : World) (hW : Below w.heap.size w W) => I_FormatInt W (rl : Int) (by unfold I64; omega) (ht.below hW))
  have zA := (itoa_len (n := (rl : Int)) (by unfold I64; omega)).2
  have HFN := Lib.hid HF0
  obtain ⟨F, hF⟩ : ∃ F, numsB fs = F := ⟨_, rfl⟩
  obtain ⟨A, hA⟩ : ∃ A, Lib.itoa (rl : Int) = A := ⟨_, rfl⟩
  rw [hF] at HFN hzn HRX
  rw [hA] at KI0 zA HRX
  have GL1 := Lib.hid (fun W => i_line2 [115, 101, 116] F (by simp) (by omega) W)
  have GL2 := Lib.hid (fun W => i_line2 ([115, 101, 116] ++ [32] ++ F) [112, 97, 115, 115, 101, 115] (by simp; omega) (by simp) W)
  have GL3 := Lib.hid (fun W => i_line3 ([115, 101, 116] ++ [32] ++ F) [114, 111, 117, 110, 100, 115] A (by simp; omega) (by simp) (by omega) W)
  have HR1 : Hid (fabLine xs = if pb then [115, 101, 116] ++ [32] ++ F ++ [32] ++ [112, 97, 115, 115, 101, 115] else [115, 101, 116] ++ [32] ++ F ++ [32] ++ [114, 111, 117, 110, 100, 115] ++ [32] ++ A) := by
    rw [Hid, HRX.out]
    cases pb <;> simp
  generalize hL1 : [115, 101, 116] ++ [32] ++ F = L1 at GL1 GL2 GL3 HR1
  have K1 : Hid (∀ W : World, Calls Tryz.prog 61 #[.slice (some ⟨W.heap.size, 0, none⟩) 2 2] (W.alloc (.cells #[.string ⟨#[115, 101, 116]⟩, .string (bstr F)] 9)) fun e w' => e = .returned (.string (bstr L1)) ∧ Below W.heap.size W w') := fun W => GL1.out W
  have K2 : Hid (∀ W : World, Calls Tryz.prog 61 #[.slice (some ⟨W.heap.size, 0, none⟩) 2 2] (W.alloc (.cells #[.string (bstr L1), .string ⟨#[112, 97, 115, 115, 101, 115]⟩] 9)) fun e w' => e = .returned (.string (bstr (L1 ++ [32] ++ [112, 97, 115, 115, 101, 115]))) ∧ Below W.heap.size W w') := fun W => GL2.out W
  have K3 : Hid (∀ W : World, Calls Tryz.prog 61 #[.slice (some ⟨W.heap.size, 0, none⟩) 3 3] (W.alloc (.cells #[.string (bstr L1), .string ⟨#[114, 111, 117, 110, 100, 115]⟩, .string (bstr A)] 9)) fun e w' => e = .returned (.string (bstr (L1 ++ [32] ++ [114, 111, 117, 110, 100, 115] ++ [32] ++ A))) ∧ Below W.heap.size W w') := fun W => GL3.out W
  clear HO hs hst H hx hd hxN hst2 HFS HF0 hzn hfi hfl zA hA hF HRX hrk hn8 GL1 GL2 GL3 hL1
  generalize L1 ++ [32] ++ [112, 97, 115, 115, 101, 115] = R2 at K2 HR1
  generalize L1 ++ [32] ++ [114, 111, 117, 110, 100, 115] ++ [32] ++ A = R3 at K3 HR1
  go_enter Tryz.func36, Tryz.ntmps36
  cases pb
  · go_wp2_with (first
      | (go_at_call 92; refine HOK.out.mono ?_; rintro e w' ⟨rfl, hb1⟩)
      | (go_at_call 93; refine (HSET.out _ hb1).mono ?_; rintro e w2 ⟨v2, rfl, ho2, hb2⟩; have hb2' := hb1.trans (hb2.mono hb1.size))
      | (go_at_call 46; refine (HFN.out _ _ ho2.rd (ht.below hb2')).mono ?_; rintro e w3 ⟨rfl, hb3⟩; have hb3' := hb2'.trans (hb3.mono hb2'.size))
      | (go_at_call 61; (with_reducible refine (K1.out w3).mono ?_); rintro e w4 ⟨rfl, hb4⟩; have hb4' := hb3'.trans (hb4.mono hb3'.size))
      | (go_at_call 94; refine (HCP.out _ hb4').mono ?_; rintro e w5 ⟨rfl, hb5⟩; have hb5' := hb4'.trans (hb5.mono hb4'.size))
      | (go_at_call 95; refine (HRN.out _ hb5').mono ?_; rintro e w6 ⟨rfl, hb6⟩; have hb6' := hb5'.trans (hb6.mono hb5'.size))
      | (go_at_call 14; refine (KI0.out _ hb6').mono ?_; rintro e w7 ⟨rfl, hb7⟩; have hb7' := hb6'.trans (hb7.mono hb6'.size))
      | (go_at_call 61; (with_reducible refine (K3.out w7).mono ?_); rintro e w8 ⟨rfl, hb8⟩))
    go_ret
    exact ⟨by rw [HR1.out]; rfl, hb7'.trans (hb8.mono hb7'.size)⟩
  · go_wp2_with (first
      | (go_at_call 92; refine HOK.out.mono ?_; rintro e w' ⟨rfl, hb1⟩)
      | (go_at_call 93; refine (HSET.out _ hb1).mono ?_; rintro e w2 ⟨v2, rfl, ho2, hb2⟩; have hb2' := hb1.trans (hb2.mono hb1.size))
      | (go_at_call 46; refine (HFN.out _ _ ho2.rd (ht.below hb2')).mono ?_; rintro e w3 ⟨rfl, hb3⟩; have hb3' := hb2'.trans (hb3.mono hb2'.size))
      | (go_at_call 61; (with_reducible refine (K1.out w3).mono ?_); rintro e w4 ⟨rfl, hb4⟩; have hb4' := hb3'.trans (hb4.mono hb3'.size))
      | (go_at_call 94; refine (HCP.out _ hb4').mono ?_; rintro e w5 ⟨rfl, hb5⟩; have hb5' := hb4'.trans (hb5.mono hb4'.size))
      | (go_at_call 61; (with_reducible refine (K2.out w5).mono ?_); rintro e w8 ⟨rfl, hb8⟩))
    go_ret
    exact ⟨by rw [HR1.out]; rfl, hb5'.trans (hb8.mono hb5'.size)⟩

end Go.Proofs.YtggblfnajeikjaaGreatDoor
