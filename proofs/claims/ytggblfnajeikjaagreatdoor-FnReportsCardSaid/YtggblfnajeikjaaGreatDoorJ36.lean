/- Joined texts of the proof: Res. -/
import Derived.WalkKit
import Derived.WalkSpells
import Derived.WalkLawsBesides
import Derived.Deep.Draws
import Derived.Lib.Hide
import Derived.RegionTactic
import Derived.Test.YtggblfnajeikjaaGreatDoorRows
import Derived.BigQuiet
import Derived.Deep.QuietTactic
import Derived.Deep.DeepCutAuto
import Derived.Deep.LoopGhost
import Derived.Deep.RegionHeld3
import Derived.Shelf.Strings.Builder1
import Derived.Shelf.Strings.Builder2
import Derived.Shelf.Strings.OnBuilder
import Derived.Shelf.Strconv.Atoi
import Derived.Shelf.Strconv.Itoa0
import Derived.Shelf.Strconv.Itoa1
import Derived.Shelf.LaysM
import Derived.Shelf.Strconv.Itoa2
import Derived.Shelf.Strconv.Itoa3
import Derived.Shelf.Strconv.AtoiErrFast
import Derived.Shelf.Strconv.ParseIntEmpty
import Derived.Shelf.Strconv.AtoiFail
import Derived.Shelf.Strconv.Clone
import Derived.Shelf.Strconv.SyntaxError
import Derived.Shelf.LaysC
import Derived.Shelf.Strconv.ToError
import Derived.Shelf.Strconv.Lower
import Derived.Shelf.Strconv.ParseUint10
import Derived.Shelf.Strconv.ParseUint10Empty
import Derived.Shelf.Strconv.ParseUint10Any
import Derived.Shelf.Strconv.ParseInt10
import Derived.Shelf.Strconv.AtoiLong
import Derived.Shelf.Strconv.AtoiInnerAll
import Derived.Shelf.Strconv.RangeError
import Derived.Shelf.Strconv.ToErrorRange
import Derived.Shelf.Strconv.AtoiAll
import Derived.Shelf.Strconv.ErrVarAll
import Derived.Shelf.Strings.Search1
import Derived.Shelf.Strings.Search2
import Derived.Shelf.Strings.Search3
import Derived.Shelf.Strings.Cut
import Derived.Shelf.Strings.Count
import Derived.Shelf.Strings.Shaped
import Derived.Shelf.Sort.Plain
import Derived.Shelf.Strings.Prefix
import Derived.Shelf.Strings.Split
import Derived.Shelf.Unicode.DecodeSlow
import Derived.Shelf.Slices.Reverse
import Derived.Ground.Names2Prog
import Derived.Shelf.Slices.CompactI
import Derived.Test.YtggblfnajeikjaaGreatDoorProg
import Derived.Lib.RowBridge
import Derived.Sort.OwnSortedInts
import Derived.Test.YtggblfnajeikjaaGreatDoorJ1
import Derived.Test.YtggblfnajeikjaaGreatDoorJ3
import Derived.Test.YtggblfnajeikjaaGreatDoorJ6
import Derived.Test.YtggblfnajeikjaaGreatDoorJ7
import Derived.Test.YtggblfnajeikjaaGreatDoorJ9
import Derived.Test.YtggblfnajeikjaaGreatDoorJ10
import Derived.Test.YtggblfnajeikjaaGreatDoorJ16
import Derived.Test.YtggblfnajeikjaaGreatDoorJ19
import Derived.Test.YtggblfnajeikjaaGreatDoorJ34
import Derived.Test.YtggblfnajeikjaaGreatDoorJ35
namespace Go.Proofs.YtggblfnajeikjaaGreatDoor
open Go.RowKit
set_option linter.unusedVariables false
set_option linter.unusedSimpArgs false

def natsI (l : List Nat) : List Int := l.map fun (x : Nat) => (x : Int)
theorem natsI_len (l : List Nat) : (natsI l).length = l.length := by simp [natsI]
theorem natsI_get {l : List Nat} {k x : Nat} (h : l[k]? = some x) : (natsI l)[k]? = some (x : Int) := by simp [natsI, h]
theorem natsI_app (a b : List Nat) : natsI (a ++ b) = natsI a ++ natsI b := by simp [natsI]
def resL (n : Int) (xss : List (List Int)) : List Int := if netOk n xss then dedL (2 ^ n.toNat) ((List.range (2 ^ n.toNat)).map (outM xss)) else []
theorem resL_no {n : Int} {xss : List (List Int)} (h : netOk n xss = false) : resL n xss = [] := by rw [resL, if_neg (by simp [h])]
theorem resL_ok {n : Int} {xss : List (List Int)} (h : netOk n xss = true) : resL n xss = dedL (2 ^ n.toNat) ((List.range (2 ^ n.toNat)).map (outM xss)) := by rw [resL, if_pos h]

set_option maxHeartbeats 1000000 in
theorem i_allMasks (N : Nat) (h8 : N ≤ 8) (w : World) : Calls Tryz.prog 122 #[.int .i64 N] w (RetOwn 3 (ints (natsI (List.range (2 ^ N)))) w) := by
  have hp := pow_le8 h8
  have e2 := shl_of N (by omega)
  obtain ⟨M, hM⟩ : ∃ M, 2 ^ N = M := ⟨_, rfl⟩
  rw [hM] at hp e2 ⊢
  clear hM
  have hlit := Own.lit0 (B := w.heap.size) w 3 (Nat.le_refl _)
  have hbA : Below w.heap.size w (w.alloc (.cells #[] 3)) := (Below.refl _ _).alloc (Nat.le_refl _) _
  go_enter Tryz.func122, Tryz.ntmps122
  go_wp2
  try rw [e2]
  clear e2
  go_loopg [3, 8] M (fun g vo iv wr => ∃ k : Nat, g = M - k ∧ k ≤ M ∧ iv = .int .i64 k ∧ Own wr 3 w.heap.size vo (ints (natsI (List.range k))) ∧ Below w.heap.size w wr)
  case atStart => exact ⟨0, rfl, Nat.zero_le _, rfl, hlit, hbA⟩
  case round =>
    clear hlit hbA
    obtain ⟨k, hg, hkl, rfl, ho, hb⟩ := hrel
    obtain ⟨ao, no, co, rfl, HN, _, _⟩ := ho.rd.formN
    by_cases hlt : k < M
    · have HLo : Hid ((ints (natsI (List.range k))).length = no) := by rw [Hid, ints_length, HN.out]
      have hno : no ≤ 256 := by have := HN.out; rw [natsI_len, List.length_range] at this; omega
      have HS : Hid (natsI (List.range (k + 1)) = natsI (List.range k) ++ [(k : Int)]) := by rw [Hid, List.range_succ, natsI_app]; rfl
      have hsb := hb.size
      have hn1 : (no + 1) * 8 ≤ 140737488355328 := by omega
      have hn2 : no + 1 ≤ 9223372036854775807 := by omega
      go_wp2_with (at_builtin; (refine wpList_app1m rfl _ _ 23 rfl elI ?_ ho ?_ ?_ hsb no HLo.out hn1 hn2 ?_); (focus exact rfl); (focus (simp [Act.eval])); (focus exact rfl); intro bn cn' w6 ho6 hg6 hat6)
      have hb6 := hb.grown hg6 hsb fun r hr => (ho.lt r hr).1
      go_roundg (M - (k + 1))
      case measure => omega
      case rel => exact ⟨k + 1, rfl, by omega, by go_num, by rw [HS.out, ints_append]; exact ho6, hb6⟩
    · obtain rfl : M = k := by omega
      go_wp2
      go_ret
      exact ⟨_, rfl, ho, hb⟩

set_option maxRecDepth 100000 in
set_option maxHeartbeats 2000000 in
theorem i_images (g : Nat → Nat) (M : Nat) (l : List Nat) (fn : Nat) (bnd : Array Value) (hkn : Known fn) (v : Value) (w : World) (h : Rd w v (ints (natsI l))) (h0 : 0 < l.length) (hl : l.length ≤ 256) (hM : ∀ x ∈ l, g x < M) (hM2 : M ≤ 256)
    (hf : ∀ (x : Nat) (W : World), x ∈ l → Below w.heap.size w W → Calls Tryz.prog fn (bnd.push (.int .i64 x)) W (RetB (.int .i64 (g x : Nat)) W)) :
    Calls Tryz.prog 121 #[v, .func (.func fn) bnd #[]] w (RetOwn 3 (ints (dedL M (l.map g))) w) := by
  have HSO := Lib.hid (fun (v : Value) (W : World) (ho : Own W 3 w.heap.size v (ints (natsI (l.map g)))) => f_SortI v _ w.heap.size W ho (by rw [natsI_len, List.length_map]; exact h0) (by rw [natsI_len, List.length_map]; omega))
  have HCO := Lib.hid (fun (v : Value) (W : World) (ho : Own W 3 w.heap.size v (ints (msort (natsI (l.map g))))) => f_CompactI v _ w.heap.size W ho (by rw [msort_len, natsI_len, List.length_map]; exact h0) (by rw [msort_len, natsI_len, List.length_map]; omega))
  have HD : Hid (Lib.compact (msort (natsI (l.map g))) = dedL M (l.map g)) := compact_dedL fun x hx => by
    obtain ⟨y, hy, rfl⟩ := List.mem_map.1 hx
    exact hM y hy
  rw [HD.out] at HCO
  have HF0 := Lib.hid hf
  obtain ⟨a, n, c, rfl, HN, _, _⟩ := h.formN
  have hn : n = l.length := by have := HN.out; rwa [natsI_len] at this
  have HNL : Hid (l.length = n) := hn.symm
  have hn256 : n ≤ 256 := by omega
  have hlit := Own.lit0 (B := w.heap.size) w 3 (Nat.le_refl _)
  have hbA : Below w.heap.size w (w.alloc (.cells #[] 3)) := (Below.refl _ _).alloc (Nat.le_refl _) _
  clear hf hn hM hl h0 HN
  go_enter Tryz.func121, Tryz.ntmps121
  go_wp2
  go_loopg [5, 11] n (fun gg vo iv wr => ∃ k : Nat, gg = n - k ∧ k ≤ n ∧ iv = .int .i64 k ∧ Own wr 3 w.heap.size vo (ints (natsI ((l.take k).map g))) ∧ Below w.heap.size w wr)
  case atStart => exact ⟨0, rfl, Nat.zero_le _, rfl, by simpa [natsI] using hlit, hbA⟩
  case round =>
    clear hlit hbA
    obtain ⟨k, hgk, hkl, rfl, ho, hb⟩ := hrel
    obtain ⟨ao, no, co, rfl, HNO, _, _⟩ := ho.rd.formN
    by_cases hlt : k < n
    · obtain ⟨x, hx⟩ : ∃ x, l[k]? = some x := ⟨_, List.getElem?_eq_getElem (by rw [HNL.out]; exact hlt)⟩
      obtain ⟨ad, y, rfl, hc, hy⟩ := (h.below hb).int (k := k) (by rw [natsI_len, HNL.out]; exact hlt)
      obtain rfl : y = (x : Int) := by have := hy.out; rw [natsI_get hx] at this; cases this; rfl
      have HF := Lib.hid (HF0.out x wr (List.mem_of_getElem? hx) hb)
      have hcall := hkn (bnd.push (.int .i64 x)) wr
      have HS : Hid (natsI ((l.take (k + 1)).map g) = natsI ((l.take k).map g) ++ [((g x : Nat) : Int)]) := by rw [Hid, take_snoc' hx, List.map_append, natsI_app]; rfl
      have HLo : Hid ((ints (natsI ((l.take k).map g))).length = no) := by rw [Hid, ints_length, HNO.out]
      have hno : no ≤ 256 := by have := HNO.out; rw [natsI_len, List.length_map, List.length_take] at this; omega
      have hsb := hb.size
      have hn1 : (no + 1) * 8 ≤ 140737488355328 := by omega
      have hn2 : no + 1 ≤ 9223372036854775807 := by omega
      generalize g x = z at HF HS
      clear hx hy
      go_wp2_with (first
        | ((with_reducible refine (HF.out).mono ?_); rintro e w2 ⟨rfl, hb2⟩; have ho2 := ho.below hb2; have hs2 : w.heap.size ≤ w2.heap.size := Nat.le_trans hsb hb2.size)
        | (at_builtin; (refine wpList_app1m rfl _ _ 23 rfl elI ?_ ho2 ?_ ?_ hs2 no HLo.out hn1 hn2 ?_); (focus exact rfl); (focus (simp [Act.eval])); (focus exact rfl); intro bn cn' w6 ho6 hg6 hat6))
      have hb6 := (hb.trans (hb2.mono hsb)).grown hg6 hs2 fun r hr => (ho2.lt r hr).1
      go_roundg (n - (k + 1))
      case measure => omega
      case rel => exact ⟨k + 1, rfl, by omega, by go_num, by rw [HS.out, ints_append]; exact ho6, hb6⟩
    · obtain rfl : n = k := by omega
      have hcn : l.take n = l := by rw [← HNL.out, List.take_length]
      rw [hcn] at ho
      clear hcn
      go_wp2_with (first
        | (go_at_call 184; refine (HSO.out _ _ ho).mono ?_; rintro e w2 ⟨rfl, hs2, hg2⟩)
        | (go_at_call 185; refine (HCO.out _ _ hs2).mono ?_; rintro e w3 ⟨v3, rfl, hs3, hg3, hb3⟩))
      go_ret
      exact ⟨_, rfl, hs3, (hb.grown hg2 hb.size fun r hr => (ho.lt r hr).1).grown hg3 (Nat.le_trans hb.size hg2.size) fun r hr => (hs2.lt r hr).1⟩

theorem k_bits : Known 123 := known Tryz.func123 (by kernel_rfl) (by kernel_rfl)
set_option maxHeartbeats 2000000 in
theorem i_ResultsOf (n : Int) (v : Value) (xss : List (List Int)) (w : World) (h : Rd2 w v xss) (hn : I64 n) : Calls Tryz.prog 67 #[.agg #[.int .i64 n, v]] w (RetOwn 3 (ints (resL n xss)) w) := by
  obtain ⟨a, c, rfl, h2, h3⟩ := h.form
  obtain ⟨w0, hw0, hb0, hz0, c0, c1⟩ := net_box w (.int .i64 n) (.slice a xss.length c) 30
  have h' := h.below hb0
  have HN := i_NetworkOk n _ xss _ h' hn
  cases hk : netOk n xss
  · rw [hk] at HN
    have HR := Lib.hid (resL_no hk)
    go_enter Tryz.func67, Tryz.ntmps67
    go_wp2_with (go_at_call 40; refine HN.mono ?_; rintro e w2 ⟨rfl, hb2⟩)
    go_ret
    rw [HR.out]
    exact ⟨_, rfl, Own.nil _ _ _, hb0.trans (hb2.mono (by omega))⟩
  rw [hk] at HN
  have HR := Lib.hid (resL_ok hk)
  obtain ⟨N, rfl, hN1, hN8, hL60⟩ := netOk_n hk
  rw [Int.toNat_natCast] at HR
  have hp := pow_le8 hN8
  have hp1 : 0 < 2 ^ N := Nat.two_pow_pos N
  have C0 := Lib.hid c0
  have C1 := Lib.hid c1
  have GA := Lib.hid (fun W => i_allMasks N hN8 W)
  have GI := Lib.hid (fun (u : Value) (W : World) (hW : Below w.heap.size w W) (hu : Rd W u (ints (natsI (List.range (2 ^ N))))) => i_images (outM xss) (2 ^ N) (List.range (2 ^ N)) 123 #[.agg #[.int .i64 N, .slice a xss.length c]] k_bits u W hu (by simpa using hp1) (by simpa using hp) (fun x hx => runM_lt hk (by simpa using hx) _) hp fun x W' hx hW' => i_bits N _ xss x W' (h.below (hW.trans (hW'.mono hW.size))) hk (by simpa using hx))
  obtain ⟨D, hD⟩ : ∃ D, dedL (2 ^ N) ((List.range (2 ^ N)).map (outM xss)) = D := ⟨_, rfl⟩
  rw [hD] at HR GI
  generalize natsI (List.range (2 ^ N)) = ms at GA GI
  clear hk hD hp hp1
  go_enter Tryz.func67, Tryz.ntmps67
  go_wp2_with (go_at_call 40; refine HN.mono ?_; rintro e w2 ⟨rfl, hb2⟩; have hbw2 : Below w.heap.size w w2 := hb0.trans (hb2.mono (by omega)); obtain ⟨c0, c1⟩ := Below.cells2 hb2 (show w.heap.size < w0.heap.size by omega) C0.out C1.out)
  have HT := keep_box c0 c1
  have K0 : Hid (∀ W : World, Below w2.heap.size w2 W → Calls Tryz.prog 122 #[.int .i64 N] W fun e w' => ∃ v, e = .returned v ∧ Rd w' v (ints ms) ∧ Below w2.heap.size w2 w' ∧ Below W.heap.size W w') := fun W hW => (GA.out W).mono fun e w' hh => by
    obtain ⟨vq, rfl, ho, hb⟩ := hh
    exact ⟨vq, rfl, ho.rd, hW.trans (hb.mono hW.size), hb⟩
  have K1 : Hid (∀ (u : Value) (W : World), Below w2.heap.size w2 W → Rd W u (ints ms) → Calls Tryz.prog 121 #[u, .func (.func 123) #[.agg #[.int .i64 N, .slice a xss.length c]] #[]] W fun e w' => ∃ v, e = .returned v ∧ Own w' 3 w2.heap.size v (ints D) ∧ Below w2.heap.size w2 w') := fun u W hW hu => (GI.out u W (hbw2.trans (hW.mono hbw2.size)) hu).mono fun e w' hh => by
    obtain ⟨vq, rfl, ho, hb⟩ := hh
    exact ⟨vq, rfl, ho.mono hW.size, hW.trans (hb.mono hW.size)⟩
  have BW2 := Lib.hid hbw2
  clear c0 c1 C0 C1 HN hbw2 hb2 hb0 h h' GA GI
  go_region_held3 (fun wx => Below w2.heap.size w2 wx ∧ wx.cell? ⟨w.heap.size, 0, none⟩ = some (.int .i64 N) ∧ wx.cell? ⟨w.heap.size, 1, none⟩ = some (.slice a xss.length c))
    (first | exact HT.out _ gI | exact HT.out _ gA | exact HT.out _ (by exact ⟨rfl, rfl, rfl, Nat.le_refl _, fun _ _ => rfl⟩) | go_keep)
    (first
      | (go_at_call 122; (with_reducible refine (K0.out _ (by exact (show _ ∧ _ ∧ _ from by assumption).1)).mono ?_); rintro e wA ⟨vA, rfl, rdA, gA, rA⟩)
      | (go_at_call 121; refine (K1.out _ _ (by exact (show _ ∧ _ ∧ _ from by assumption).1) (by exact rdA)).mono ?_; rintro e wI ⟨vI, rfl, oI, gI⟩))
  all_goals
    go_wp2
    go_ret
    rw [HR.out]
    exact ⟨_, rfl, oI.mono BW2.out.size, BW2.out.trans (gI.mono BW2.out.size)⟩

end Go.Proofs.YtggblfnajeikjaaGreatDoor
