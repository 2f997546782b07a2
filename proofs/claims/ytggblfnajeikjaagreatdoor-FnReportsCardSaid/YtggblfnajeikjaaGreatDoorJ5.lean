/- Joined texts of the proof: Flt, LevelP0, Flt3, Known, Idle, OrderLine, NetLine, PlainSorts, PlainFab, FabA, FabB. -/
import Derived.Test.YtggblfnajeikjaaGreatDoorRows
import Derived.WalkKit
import Derived.WalkSpells
import Derived.WalkLawsBesides
import Derived.Deep.Draws
import Derived.Lib.Hide
import Derived.RegionTactic
import Derived.BigQuiet
import Derived.Deep.QuietTactic
import Derived.Lib.SliceRun
import Derived.Deep.RegionLaw
import Derived.Deep.DeepCutAuto
import Derived.Deep.LoopGhost
import Derived.Deep.RegionWith
import Derived.Lib.ItoaNum
import Derived.Deep.RegionHeld3
import Derived.IntWalk
import Derived.Lib.Join
import Derived.Shelf.Strings.Builder1
import Derived.Shelf.Strings.Builder2
import Derived.Shelf.Strings.OnBuilder
import Derived.Shelf.Strconv.Atoi
import Derived.Shelf.Strconv.Itoa0
import Derived.Shelf.Strconv.Itoa1
import Derived.Shelf.LaysM
import Derived.Shelf.Strconv.Itoa2
import Derived.Shelf.Strconv.Itoa3
import Derived.Shelf.Strconv.AtoiErrFast
import Derived.Shelf.Strconv.ParseIntEmpty
import Derived.Shelf.Strconv.AtoiFail
import Derived.Shelf.Strconv.Clone
import Derived.Shelf.Strconv.SyntaxError
import Derived.Shelf.LaysC
import Derived.Shelf.Strconv.ToError
import Derived.Shelf.Strconv.Lower
import Derived.Shelf.Strconv.ParseUint10
import Derived.Shelf.Strconv.ParseUint10Empty
import Derived.Shelf.Strconv.ParseUint10Any
import Derived.Shelf.Strconv.ParseInt10
import Derived.Shelf.Strconv.AtoiLong
import Derived.Shelf.Strconv.AtoiInnerAll
import Derived.Shelf.Strconv.RangeError
import Derived.Shelf.Strconv.ToErrorRange
import Derived.Shelf.Strconv.AtoiAll
import Derived.Shelf.Strconv.ErrVarAll
import Derived.Shelf.Strings.Search1
import Derived.Shelf.Strings.Search2
import Derived.Shelf.Strings.Search3
import Derived.Shelf.Strings.Cut
import Derived.Shelf.Strings.Count
import Derived.Shelf.Strings.Shaped
import Derived.Shelf.Sort.Plain
import Derived.Shelf.Strings.Prefix
import Derived.Shelf.Strings.Split
import Derived.Shelf.Unicode.DecodeSlow
import Derived.Shelf.Slices.Reverse
import Derived.Ground.Names2Prog
import Derived.Shelf.Slices.CompactI
import Derived.Test.YtggblfnajeikjaaGreatDoorProg
import Derived.Lib.SmallJoins
import Derived.Lib.AppendZeros
import Derived.Deep.AppendLies
import Derived.Lib.SplitLaws
import Derived.Lib.Split
import Derived.Lib.IndexBytes
import Derived.Lib.AtoiAllCases
import Derived.Lib.AtoiErrMem
import Derived.Laws.BitsAllLaws
import Derived.Laws.BitsLemmas
import Derived.Lib.RowBridge
import Derived.Sort.OwnSortedInts
import Derived.Lib.LazyBuf
import Derived.Maps.OwnOps
import Derived.Maps.OwnSet
import Derived.Maps.Views
import Derived.Carry
import Derived.Laws.Bits64b
import Derived.BigRegion
import Derived.Test.YtggblfnajeikjaaGreatDoorJ4
namespace Go.Proofs.YtggblfnajeikjaaGreatDoor
open Go.RowKit
set_option linter.unusedVariables false
set_option linter.unusedSimpArgs false

def swpBt (m i k : Nat) : Nat := if m.testBit i != m.testBit k then (m ^^^ (1 <<< i)) ^^^ (1 <<< k) else m
def fltN (r a b kind : Nat) : Nat := if kind = 2 then stepN r b a else if kind = 1 then swpBt r a b else r
/-- The mask behind the first k comparators, one of which has a fault. -/
def fltM (xss : List (List Int)) (idx kind m : Nat) : Nat → Nat
  | 0 => m
  | k + 1 => match xss[k]? with
    | some [a, b] => if k = idx then fltN (fltM xss idx kind m k) a.toNat b.toNat kind else stepN (fltM xss idx kind m k) a.toNat b.toNat
    | _ => fltM xss idx kind m k
theorem fltM_at {xss : List (List Int)} {idx kind m k a b : Nat} (h : xss[k]? = some [(a : Int), (b : Int)]) (e : k = idx) : fltM xss idx kind m (k + 1) = fltN (fltM xss idx kind m k) a b kind := by
  simp only [fltM, h, Int.toNat_natCast, if_pos e]
theorem fltM_off {xss : List (List Int)} {idx kind m k a b : Nat} (h : xss[k]? = some [(a : Int), (b : Int)]) (e : k ≠ idx) : fltM xss idx kind m (k + 1) = stepN (fltM xss idx kind m k) a b := by
  simp only [fltM, h, Int.toNat_natCast, if_neg e]
theorem swpBt_lt : ∀ n : Nat, n < 9 → ∀ m : Nat, m < 2 ^ n → ∀ i : Nat, i < n → ∀ k : Nat, k < n → swpBt m i k < 2 ^ n := by decide +kernel
theorem fltM_lt {N idx kind m : Nat} {xss : List (List Int)} (hk : netOk (N : Int) xss = true) (hm : m < 2 ^ N) : ∀ k, fltM xss idx kind m k < 2 ^ N
  | 0 => hm
  | k + 1 => by
    have ih := fltM_lt (idx := idx) (kind := kind) hk hm k
    obtain ⟨N', e, hN1, hN8, _⟩ := netOk_n hk
    cases hx : xss[k]? with
    | none => simp only [fltM, hx]; exact ih
    | some xs =>
      obtain ⟨a, b, rfl, ha, hb, _⟩ := netOk_row hk hx
      by_cases e : k = idx
      · rw [fltM_at hx e, fltN]
        split
        · exact stepN_lt N (by omega) _ ih b hb a ha
        · split
          · exact swpBt_lt N (by omega) _ ih a ha b hb
          · exact ih
      · rw [fltM_off hx e]
        exact stepN_lt N (by omega) _ ih a ha b hb
def outF11 (xss : List (List Int)) (idx kind m : Nat) : Nat := fltM xss idx kind m xss.length
def findsB (xss : List (List Int)) (idx kind m : Nat) : Bool := decide (outF11 xss idx kind m ≠ outM xss m)
/-- The masks below M that find a fault. -/
def testsL (xss : List (List Int)) (idx kind M : Nat) : List Int := ((List.range M).filter fun m => findsB xss idx kind m).map fun (m : Nat) => (m : Int)
theorem testsL_yes {xss : List (List Int)} {idx kind m : Nat} (h : findsB xss idx kind m = true) : testsL xss idx kind (m + 1) = testsL xss idx kind m ++ [(m : Int)] := by
  simp [testsL, List.range_succ, h]
theorem testsL_no {xss : List (List Int)} {idx kind m : Nat} (h : findsB xss idx kind m = false) : testsL xss idx kind (m + 1) = testsL xss idx kind m := by
  simp [testsL, List.range_succ, h]
theorem testsL_len (xss : List (List Int)) (idx kind M : Nat) : (testsL xss idx kind M).length ≤ M := by
  rw [testsL, List.length_map]
  exact Nat.le_trans (List.length_filter_le _ _) (by simp)

theorem xorr_of' : ∀ m : Nat, m < 256 → ∀ i : Nat, i < 8 → ∀ k : Nat, k < 8 → (i == k || decide (bits BinOp.xor IntKind.i64 (m : Int) (bits BinOp.or IntKind.i64 (wrap64 (2 ^ i)) (wrap64 (2 ^ k))) = (((m ^^^ (1 <<< i)) ^^^ (1 <<< k) : Nat) : Int))) = true := by decide +kernel
theorem xorr_of {m i k : Nat} (hm : m < 256) (hi : i < 8) (hk : k < 8) (hik : i ≠ k) : bits BinOp.xor IntKind.i64 (m : Int) (bits BinOp.or IntKind.i64 (wrap64 (2 ^ i)) (wrap64 (2 ^ k))) = (((m ^^^ (1 <<< i)) ^^^ (1 <<< k) : Nat) : Int) := by
  have := xorr_of' m hm i hi k hk
  simpa [hik] using this
set_option maxHeartbeats 2000000 in
theorem i_faulty (N : Nat) (v : Value) (xss : List (List Int)) (idx kind m : Nat) (w : World) (h : Rd2 w v xss) (hk : netOk (N : Int) xss = true) (hm : m < 2 ^ N) (hkd : kind ≤ 2) :
    Calls Tryz.prog 125 #[.agg #[.int .i64 N, v], .int .i64 idx, .int .i64 kind, .int .i64 m] w (RetB (.int .i64 (outF11 xss idx kind m : Nat)) w) := by
  obtain ⟨N', e, hN1, hN8, hL60⟩ := netOk_n hk
  obtain rfl : N = N' := by omega
  clear e
  have hp := pow_le8 hN8
  obtain ⟨a, c, rfl, _, _⟩ := h.form
  obtain ⟨w0, hw0, hb0, hz0, c0, c1⟩ := net_box w (.int .i64 N) (.slice a xss.length c) 30
  have h' := h.below hb0
  have HL := Lib.hid (fun k => fltM_lt (idx := idx) (kind := kind) hk hm k)
  have HP := Lib.hid (fun (W : World) (hW : Rd2 W (.slice a xss.length c) xss) (k : Nat) (hlt : k < xss.length) => hW.pair hk hlt)
  clear hk
  go_enter Tryz.func125, Tryz.ntmps125
  go_wp2
  clear c0 c1 hw0
  go_loopg [3, 14] xss.length (fun g mv iv wr => ∃ (k r : Nat), g = xss.length - k ∧ k ≤ xss.length ∧ iv = .int .i64 k ∧ mv = .int .i64 (r : Int) ∧ Dr w0 wr ∧ Hid (r = fltM xss idx kind m k))
  case atStart => exact ⟨0, m, rfl, Nat.zero_le _, rfl, rfl, Dr.refl _, rfl⟩
  case round =>
    obtain ⟨k, r, hg, hkl, rfl, rfl, hdr, HR⟩ := hrel
    by_cases hlt : k < xss.length
    · obtain ⟨ad, z, d, x, y, rfl, hc, hcx, hcy, hxN, hyN, hxy, hx⟩ := HP.out _ (h'.dr hdr) k hlt
      have hr : r < 256 := by have := HL.out k; rw [← HR.out] at this; omega
      by_cases hki : k = idx
      · have q0 : ((k : Int) != (idx : Int)) = false := by simp [hki]
        have HS : Hid (fltN r x y kind = fltM xss idx kind m (k + 1)) := by rw [Hid, fltM_at hx.out hki, ← HR.out]
        have HK := Lib.hid (fun W => i_step r y x hr (by omega) (by omega) W)
        have b1 := bit_of r hr x (by omega)
        have b2 := bit_of r hr y (by omega)
        have hx3 := xorr_of (m := r) (i := x) (k := y) hr (by omega) (by omega) hxy
        clear hx hki
        rcases (show kind = 0 ∨ kind = 1 ∨ kind = 2 by omega) with rfl | rfl | rfl
        · have HE : Hid (fltN r x y 0 = r) := rfl
          clear b1 b2 hx3
          go_wp2
          go_quiet (fail)
          go_wp2
          go_roundg (xss.length - (k + 1))
          case measure => omega
          case rel => exact ⟨k + 1, r, rfl, by omega, by go_num, rfl, hdr.step _, by rw [Hid, ← HS.out, HE.out]⟩
        · by_cases hq : r.testBit x = r.testBit y
          · have HE : Hid (fltN r x y 1 = r) := by simp [Hid, fltN, swpBt, hq]
            have q1 : (bits BinOp.and IntKind.i64 ((r : Int) / 2 ^ x) 1 != bits BinOp.and IntKind.i64 ((r : Int) / 2 ^ y) 1) = false := by rw [b1, b2, hq]; simp
            clear b1 b2 hx3 hq
            go_wp2
            go_quiet (fail)
            go_wp2
            go_roundg (xss.length - (k + 1))
            case measure => omega
            case rel => exact ⟨k + 1, r, rfl, by omega, by go_num, rfl, hdr.step _, by rw [Hid, ← HS.out, HE.out]⟩
          · have HE : Hid (fltN r x y 1 = (r ^^^ (1 <<< x)) ^^^ (1 <<< y)) := by simp [Hid, fltN, swpBt, hq]
            have q1 : (bits BinOp.and IntKind.i64 ((r : Int) / 2 ^ x) 1 != bits BinOp.and IntKind.i64 ((r : Int) / 2 ^ y) 1) = true := by
              rw [b1, b2]
              exact (by decide : ∀ p q : Bool, p ≠ q → ((if p = true then (1 : Int) else 0) != (if q = true then 1 else 0)) = true) _ _ hq
            clear b1 b2 hq
            go_wp2
            go_quiet (fail)
            go_wp2
            go_quiet (fail)
            go_wp2
            go_roundg (xss.length - (k + 1))
            case measure => omega
            case rel => exact ⟨k + 1, _, rfl, by omega, by go_num, rfl, hdr.step _, by rw [Hid, ← HS.out, HE.out]⟩
        · have HE : Hid (fltN r x y 2 = stepN r y x) := rfl
          clear b1 b2 hx3
          go_wp2
          go_quiet ((go_at_call 124; exact Calls.quiet_of ((HK.out _).mono fun _ _ hh => ⟨hh.1, hh.2.imp fun _ e => e.symm⟩)))
          go_wp2
          go_roundg (xss.length - (k + 1))
          case measure => omega
          case rel => exact ⟨k + 1, _, rfl, by omega, by go_num, rfl, hdr.step _, by rw [Hid, ← HS.out, HE.out]⟩
      · have q0 : ((k : Int) != (idx : Int)) = true := by rw [bne_iff_ne]; omega
        have HS : Hid (stepN r x y = fltM xss idx kind m (k + 1)) := by rw [Hid, fltM_off hx.out hki, ← HR.out]
        have HK := Lib.hid (fun W => i_step r x y hr (by omega) (by omega) W)
        clear hx hki
        go_wp2
        go_quiet ((go_at_call 124; exact Calls.quiet_of ((HK.out _).mono fun _ _ hh => ⟨hh.1, hh.2.imp fun _ e => e.symm⟩)))
        go_wp2
        go_roundg (xss.length - (k + 1))
        case measure => omega
        case rel => exact ⟨k + 1, _, rfl, by omega, by go_num, rfl, hdr.step _, HS⟩
    · obtain rfl : xss.length = k := by omega
      go_wp2
      go_ret
      exact ⟨by rw [HR.out]; rfl, hb0.trans (hdr.below _)⟩

set_option maxHeartbeats 1000000 in
theorem i_finds (N : Nat) (v : Value) (xss : List (List Int)) (idx kind m : Nat) (w : World) (h : Rd2 w v xss) (hk : netOk (N : Int) xss = true) (hm : m < 2 ^ N) (hkd : kind ≤ 2) :
    Calls Tryz.prog 73 #[.agg #[.int .i64 N, v], .int .i64 idx, .int .i64 kind, .int .i64 m] w (RetB (.bool (findsB xss idx kind m)) w) := by
  obtain ⟨a, c, rfl, _, _⟩ := h.form
  obtain ⟨w0, hw0, hb0, hz0, c0, c1⟩ := net_box w (.int .i64 N) (.slice a xss.length c) 30
  have K0 : Hid (∀ W : World, Below w0.heap.size w0 W → Calls Tryz.prog 125 #[.agg #[.int .i64 N, .slice a xss.length c], .int .i64 idx, .int .i64 kind, .int .i64 m] W fun e w' => e = .returned (.int .i64 (outF11 xss idx kind m : Nat)) ∧ Below w0.heap.size w0 w') :=
    fun W hW => (i_faulty N _ xss idx kind m W (h.below (hb0.trans (hW.mono hb0.size))) hk hm hkd).mono fun e w' hh => ⟨hh.1, hW.trans (hh.2.mono hW.size)⟩
  have K1 : Hid (∀ W : World, Below w0.heap.size w0 W → Calls Tryz.prog 123 #[.agg #[.int .i64 N, .slice a xss.length c], .int .i64 m] W fun e w' => e = .returned (.int .i64 (outM xss m : Nat)) ∧ Below w0.heap.size w0 w') :=
    fun W hW => (i_bits N _ xss m W (h.below (hb0.trans (hW.mono hb0.size))) hk hm).mono fun e w' hh => ⟨hh.1, hW.trans (hh.2.mono hW.size)⟩
  have HR : Hid (findsB xss idx kind m = ((outF11 xss idx kind m : Int) != (outM xss m : Int))) := by
    rw [Hid, findsB]
    by_cases e : outF11 xss idx kind m = outM xss m
    · simp [e]
    · have : ¬ (outF11 xss idx kind m : Int) = (outM xss m : Int) := by omega
      simp [e, this]
  have HT := keep_box c0 c1
  clear hk hm hkd
  generalize outF11 xss idx kind m = r1 at *
  generalize outM xss m = r2 at *
  go_enter Tryz.func73, Tryz.ntmps73
  go_wp2
  go_region_held3 (fun wx => Below w0.heap.size w0 wx ∧ wx.cell? ⟨w.heap.size, 0, none⟩ = some (.int .i64 N) ∧ wx.cell? ⟨w.heap.size, 1, none⟩ = some (.slice a xss.length c))
    (first | exact HT.out _ g3 | exact HT.out _ (by exact ⟨rfl, rfl, rfl, Nat.le_refl _, fun _ _ => rfl⟩) | go_keep)
    (first
      | (go_at_call 125; (with_reducible refine (K0.out _ (by exact (show _ ∧ _ ∧ _ from by assumption).1)).mono ?_); rintro e w3 ⟨rfl, g3⟩)
      | (go_at_call 123; (with_reducible refine (K1.out _ (by exact (show _ ∧ _ ∧ _ from by assumption).1)).mono ?_); rintro e w3 ⟨rfl, g3⟩))
  all_goals
    go_wp2
    go_ret
    exact ⟨ret_bool HR.out.symm, hb0.trans (g3.mono hb0.size)⟩

set_option maxHeartbeats 2000000 in
theorem i_tests (N : Nat) (v : Value) (xss : List (List Int)) (idx kind : Nat) (w : World) (h : Rd2 w v xss) (hk : netOk (N : Int) xss = true) (hkd : kind ≤ 2) :
    Calls Tryz.prog 71 #[.agg #[.int .i64 N, v], .int .i64 idx, .int .i64 kind] w (RetOwn 3 (ints (testsL xss idx kind (2 ^ N))) w) := by
  obtain ⟨N', e, hN1, hN8, hL60⟩ := netOk_n hk
  obtain rfl : N = N' := by omega
  clear e
  have hp := pow_le8 hN8
  have e2 := shl_of N (by omega)
  obtain ⟨M, hM⟩ : ∃ M, 2 ^ N = M := ⟨_, rfl⟩
  rw [hM] at hp e2 ⊢
  obtain ⟨a, c, rfl, _, _⟩ := h.form
  have HB := Lib.hid (fun (m : Nat) (hm : m < M) (W : World) (hW : Below w.heap.size w W) => i_finds N _ xss idx kind m W (h.below hW) hk (by omega) hkd)
  have HLN := Lib.hid (fun M => testsL_len xss idx kind M)
  obtain ⟨w0, hw0, hb0, hz0, c0, c1⟩ := net_box w (.int .i64 N) (.slice a xss.length c) 30
  have C0 := Lib.hid c0
  have C1 := Lib.hid c1
  clear hk
  go_enter Tryz.func71, Tryz.ntmps71
  have hb1 : Below (w.heap.size + 1) w0 (w0.alloc (.cells #[] 3)) := (Below.refl _ _).alloc (by omega) _
  have e0 : (w0.alloc (.cells #[] 3)).cell? ⟨w.heap.size, 0, none⟩ = some (.int .i64 N) := (World.cell?_alloc_lt _ _ _ (World.block_lt_of_cell? _ _ c0)).trans c0
  go_wp2
  clear c0 c1 hM hw0 e0
  try rw [e2]
  clear e2
  go_loopg [7, 13] M (fun g vo iv wr => ∃ k : Nat, g = M - k ∧ k ≤ M ∧ iv = .int .i64 k ∧ Own wr 3 (w.heap.size + 1) vo (ints (testsL xss idx kind k)) ∧ Below (w.heap.size + 1) w0 wr)
  case atStart => exact ⟨0, rfl, Nat.zero_le _, rfl, by have := Own.lit0 (B := w.heap.size + 1) w0 3 (by omega); rw [hz0] at this; exact this, hb1⟩
  case round =>
    obtain ⟨k, hg, hkl, rfl, ho, hb⟩ := hrel
    obtain ⟨ao, no, co, rfl, HN, _, _⟩ := ho.rd.formN
    by_cases hlt : k < M
    · have hbw : Below w.heap.size w wr := hb0.trans (hb.mono (by omega))
      have HB1 := HB.out k hlt wr hbw
      have g0 : wr.cell? ⟨w.heap.size, 0, none⟩ = some (.int .i64 N) := (hb.cell (Nat.lt_succ_self _)).trans C0.out
      have g1 : wr.cell? ⟨w.heap.size, 1, none⟩ = some (.slice a xss.length c) := (hb.cell (Nat.lt_succ_self _)).trans C1.out
      have hsz := hb.size
      cases hq : findsB xss idx kind k
      · have HU := Lib.hid (testsL_no hq)
        rw [hq] at HB1
        clear hq
        go_wp2_with (go_at_call 73; refine HB1.mono ?_; rintro e w4 ⟨rfl, g4⟩)
        go_roundg (M - (k + 1))
        case measure => omega
        case rel => exact ⟨k + 1, rfl, by omega, by go_num, by rw [HU.out]; exact ho.below g4, hb.trans (g4.mono (by omega))⟩
      · have HU := Lib.hid (testsL_yes hq)
        rw [hq] at HB1
        clear hq
        have hln := HLN.out k
        have HLo : Hid ((ints (testsL xss idx kind k)).length = no) := by rw [Hid, ints_length, HN.out]
        have hno : no ≤ 256 := by have := HN.out; omega
        go_wp2_with (first
          | (go_at_call 73; refine HB1.mono ?_; rintro e w4 ⟨rfl, g4⟩; have ho4 := ho.below g4; have hz4 := g4.size; have hs4 : w.heap.size + 1 ≤ w4.heap.size := by omega)
          | (at_builtin; refine wpList_app1m rfl _ _ 23 rfl elI rfl ho4 (by show Value.slice (some ⟨w4.heap.size, 0, none⟩) 1 1 = _; simp) rfl hs4 no HLo.out (by omega) (by omega) ?_; intro bn cn' w6 ho6 hg6 hat6))
        have hb6 : Below (w.heap.size + 1) w0 w6 := (hb.trans (g4.mono (by omega))).grown hg6 hs4 fun r hr => (ho4.lt r hr).1
        go_roundg (M - (k + 1))
        case measure => omega
        case rel => exact ⟨k + 1, rfl, by omega, by go_num, by rw [HU.out, ints_append]; exact ho6, hb6⟩
    · obtain rfl : M = k := by omega
      go_wp2
      go_ret
      exact ⟨_, rfl, ho.mono (by omega), hb0.trans (hb.mono (by omega))⟩

end Go.Proofs.YtggblfnajeikjaaGreatDoor

namespace Go.Proofs.YtggblfnajeikjaaGreatDoor
open Go.RowKit

theorem Own2.app {w w' : World} {EO E B T : Nat} {v v' : Value} {rows rows' : List Value} {xss' : List (List Int)} (hr : RowsOwn w E B T rows' xss') (ho : Own w EO B v rows) (hne : EO ≠ E) (hg : w.grownBy w' v.ownBlock) (ho' : Own w' EO B v' rows') (hT : T ≤ w'.heap.size) : Own2 w' EO E B w'.heap.size v' xss' :=
  ⟨rows', ho', fun k hk => (ho'.lt k hk).2, (hr.outer hg ho hne).mono (Nat.le_refl _) hT⟩

end Go.Proofs.YtggblfnajeikjaaGreatDoor

namespace Go.Proofs.YtggblfnajeikjaaGreatDoor
open Go.RowKit
set_option linter.unusedVariables false
set_option linter.unusedSimpArgs false

def fltAt (p : Nat → Nat → Bool) (i k : Nat) : List (List Int) := ((List.range k).filter (p i)).map fun (kd : Nat) => [(i : Int), (kd : Int)]
def faultsL (p : Nat → Nat → Bool) : Nat → List (List Int)
  | 0 => []
  | i + 1 => faultsL p i ++ fltAt p i 3
theorem fltAt_yes {p : Nat → Nat → Bool} {i k : Nat} (h : p i k = true) : fltAt p i (k + 1) = fltAt p i k ++ [[(i : Int), (k : Int)]] := by simp [fltAt, List.range_succ, h]
theorem fltAt_no {p : Nat → Nat → Bool} {i k : Nat} (h : p i k = false) : fltAt p i (k + 1) = fltAt p i k := by simp [fltAt, List.range_succ, h]
theorem fltAt_len (p : Nat → Nat → Bool) (i k : Nat) : (fltAt p i k).length ≤ k := by
  rw [fltAt, List.length_map]
  exact Nat.le_trans (List.length_filter_le _ _) (by simp)
theorem faultsL_len (p : Nat → Nat → Bool) : ∀ i, (faultsL p i).length ≤ 3 * i
  | 0 => Nat.le_refl _
  | i + 1 => by
    have := faultsL_len p i
    have := fltAt_len p i 3
    simp only [faultsL, List.length_append]
    omega
def hidB (N : Nat) (xss : List (List Int)) (i kd : Nat) : Bool := decide ((testsL xss i kd (2 ^ N)).length = 0)
def hiddenL (n : Int) (xss : List (List Int)) : List (List Int) := if netOk n xss then faultsL (hidB n.toNat xss) xss.length else []
/-- A literal row of two numbers goes onto a slice of rows. -/
theorem row2_own (w : World) (x y : Int) (B : Nat) (hB : B ≤ w.heap.size) (E : Nat) : Own (w.alloc (.cells #[.int .i64 x, .int .i64 y] E)) E B (.slice (some ⟨w.heap.size, 0, none⟩) 2 2) (ints [x, y]) := Own.lit w E B #[.int .i64 x, .int .i64 y] hB (by simp)

set_option maxHeartbeats 2000000 in
theorem i_faults (p : Nat → Nat → Bool) (fn : Nat) (cap : Array Value) (hkn : Known fn) (n : Int) (v : Value) (xss : List (List Int)) (w : World) (h : Rd2 w v xss) (hl : xss.length ≤ 60)
    (hf : ∀ (i kd : Nat) (W : World), i < xss.length → kd < 3 → Below w.heap.size w W → Calls Tryz.prog fn (#[.int .i64 i, .int .i64 kd] ++ cap) W (RetB (.bool (p i kd)) W)) :
    Calls Tryz.prog 69 #[.agg #[.int .i64 n, v], .func (.func fn) #[] cap] w (RetOwn2 (faultsL p xss.length) w) := by
  obtain ⟨a, c, rfl, _, _⟩ := h.form
  obtain ⟨w0, hw0, hb0, hz0, c0, c1⟩ := net_box w (.int .i64 n) (.slice a xss.length c) 30
  have HF0 := Lib.hid hf
  have C1 := Lib.hid c1
  obtain ⟨L, hL⟩ : ∃ L, xss.length = L := ⟨_, rfl⟩
  rw [hL] at hl HF0 c1 C1 hw0 h ⊢
  clear hf hL
  go_enter Tryz.func69, Tryz.ntmps69
  have e1 : (w0.alloc (.cells #[] 23)).cell? ⟨w.heap.size, 1, none⟩ = some (.slice a L c) := (World.cell?_alloc_lt _ _ _ (World.block_lt_of_cell? _ _ c1)).trans c1
  have hb1 : Below (w.heap.size + 1) w0 (w0.alloc (.cells #[] 23)) := (Below.refl _ _).alloc (by omega) _
  go_wp2
  clear c0 c1 hw0 e1
  go_loopg [5, 12] L (fun g vo iv wr => ∃ i : Nat, g = L - i ∧ i ≤ L ∧ iv = .int .i64 i ∧ Own2 wr 23 3 (w.heap.size + 1) wr.heap.size vo (faultsL p i) ∧ Below (w.heap.size + 1) w0 wr)
  case atStart => exact ⟨0, rfl, Nat.zero_le _, rfl, by
    refine ⟨[], ?_, fun k hk => ?_, RowsOwn.nil _ _ _ _⟩
    · have := Own.lit0 (B := w.heap.size + 1) w0 23 (by omega)
      rw [hz0] at this
      exact this
    · simp [Value.ownBlock] at hk
      simp
      omega, hb1⟩
  case round =>
    clear hb1
    obtain ⟨i, hg, hil, rfl, ho, hb⟩ := hrel
    obtain ⟨ao, co, rfl, _, _⟩ := ho.form
    by_cases hlt : i < L
    · go_wp2
      rename_i wo
      obtain ⟨no, hno⟩ : ∃ no, (faultsL p i).length = no := ⟨_, rfl⟩
      rw [hno] at ho ⊢
      clear hno
      go_loopg [5, 7] 3 (fun g vo kv wr => ∃ kd : Nat, g = 3 - kd ∧ kd ≤ 3 ∧ kv = .int .i64 kd ∧ Own2 wr 23 3 (w.heap.size + 1) wr.heap.size vo (faultsL p i ++ fltAt p i kd) ∧ Below (w.heap.size + 1) w0 wr)
      case atStart => exact ⟨0, rfl, Nat.zero_le _, rfl, by simpa [fltAt] using ho, hb⟩
      case round =>
        clear ho hb
        obtain ⟨kd, hgk, hkl, rfl, ho, hb⟩ := hrel
        by_cases hltk : kd < 3
        · have d0 : decide ((kd : Int) ≤ 2) = true := by simp; omega
          have hbw : Below w.heap.size w wr := hb0.trans (hb.mono (by omega))
          have HF := Lib.hid (HF0.out i kd wr hlt hltk hbw)
          have hcall := hkn (#[.int .i64 i, .int .i64 kd] ++ cap) wr
          cases hp : p i kd
          · rw [hp] at HF
            have HA := Lib.hid (fltAt_no hp)
            clear hp
            go_wp2_with ((with_reducible refine (HF.out).mono ?_); rintro e w2 ⟨rfl, hb2⟩)
            go_roundg (3 - (kd + 1))
            case measure => omega
            case rel => exact ⟨kd + 1, rfl, by omega, by go_num, by rw [HA.out]; exact (ho.below hb2).mono (Nat.le_refl _) hb2.size, hb.trans (hb2.mono hb.size |>.mono (by have := hb.size; omega))⟩
          · rw [hp] at HF
            have HA := Lib.hid (fltAt_yes hp)
            clear hp
            obtain ⟨rows, hov, hT, hrows⟩ := ho
            have hrl : rows.length ≤ 200 := by
              have e1 := hrows.1
              have e2 := faultsL_len p i
              have e3 := fltAt_len p i kd
              rw [List.length_append] at e1
              omega
            obtain ⟨aq, cq, rfl, _, _⟩ := hov.rd.form
            obtain ⟨nr, hnr⟩ : ∃ nr, rows.length = nr := ⟨_, rfl⟩
            have HNR := Lib.hid hnr
            rw [hnr] at hov hrl ⊢
            clear hnr
            have hsb := hb.size
            go_upto_region 9 with ((with_reducible refine (HF.out).mono ?_); rintro e w2 ⟨rfl, hb2⟩)
            obtain ⟨w3, hw3⟩ : ∃ w3, w2.alloc (.cells #[.int .i64 i, .int .i64 kd] 3) = w3 := ⟨_, rfl⟩
            have hs2 := hb2.size
            have hs3 : w3.heap.size = w2.heap.size + 1 := by rw [← hw3]; simp
            have hb3 : Below wr.heap.size wr w3 := by rw [← hw3]; exact hb2.alloc hb2.size _
            have hrow : Own w3 3 w2.heap.size (.slice (some ⟨w2.heap.size, 0, none⟩) 2 2) (ints [(i : Int), (kd : Int)]) := by rw [← hw3]; exact row2_own w2 _ _ _ (Nat.le_refl _) _
            have hov3 := hov.below hb3
            have hB3 : w.heap.size + 1 ≤ w3.heap.size := by omega
            have hn1 : (nr + 1) * 24 ≤ 140737488355328 := by omega
            have hn2 : nr + 1 ≤ 9223372036854775807 := by omega
            go_wp2_with (at_builtin; (refine wpList_app1m rfl _ _ 28 rfl elII ?_ hov3 ?_ ?_ hB3 nr HNR.out hn1 hn2 ?_); (focus exact rfl); (focus (simp [Act.eval])); (focus exact rfl); intro bn cn' w6 ho6 hg6 hat6)
            have ho7 := Own2.app ((hrows.below hb3).snoc (hrow.mono (show w.heap.size + 1 ≤ w2.heap.size by omega)) (fun k hk => by simp [Value.ownBlock] at hk; omega) (show wr.heap.size ≤ w3.heap.size by omega)) hov3 (by decide) hg6 ho6 hg6.size
            have hb7 := (hb.trans (hb3.mono (by omega))).grown hg6 hB3 fun r hr => (hov3.lt r hr).1
            go_roundg (3 - (kd + 1))
            case measure => omega
            case rel => exact ⟨kd + 1, rfl, by omega, by go_num, by rw [HA.out, ← List.append_assoc]; exact ho7, hb7⟩
        · obtain rfl : kd = 3 := by omega
          go_wp2
          go_roundg (L - (i + 1))
          case measure => omega
          case rel => exact ⟨i + 1, rfl, by omega, by go_num, ho, hb⟩
    · obtain rfl : L = i := by omega
      go_wp2
      go_ret
      exact ⟨_, rfl, ho.mono (by omega) (Nat.le_refl _), hb0.trans (hb.mono (by omega))⟩

theorem k_Hid1 : Known 70 := known Tryz.func70 (by kernel_rfl) (by kernel_rfl)
set_option maxHeartbeats 1000000 in
theorem i_Hid1 (N : Nat) (a : Option Addr) (c b : Nat) (xss : List (List Int)) (idx kind : Nat) (w : World) (h : Rd2 w (.slice a xss.length c) xss) (hk : netOk (N : Int) xss = true) (hkd : kind ≤ 2)
    (c0 : w.cell? ⟨b, 0, none⟩ = some (.int .i64 N)) (c1 : w.cell? ⟨b, 1, none⟩ = some (.slice a xss.length c)) :
    Calls Tryz.prog 70 #[.int .i64 idx, .int .i64 kind, .pointer (some ⟨b, 0, none⟩)] w (RetB (.bool (hidB N xss idx kind)) w) := by
  have HT := i_tests N _ xss idx kind w h hk hkd
  have HR : Hid (hidB N xss idx kind = decide ((testsL xss idx kind (2 ^ N)).length = 0)) := rfl
  obtain ⟨ts, hts⟩ : ∃ ts, testsL xss idx kind (2 ^ N) = ts := ⟨_, rfl⟩
  rw [hts] at HT HR
  clear hts hk
  go_enter Tryz.func70, Tryz.ntmps70
  go_wp2_with (go_at_call 71; refine HT.mono ?_; rintro e w2 ⟨vo, rfl, ho, hb⟩; obtain ⟨ao, no, co, rfl, HN, _, _⟩ := ho.rd.formN)
  go_ret
  exact ⟨ret_bool (by
    rw [HR.out, ← HN.out]
    by_cases e : no = 0
    · simp [e]
    · have : ¬ (no : Int) = 0 := by omega
      simp [e, this]), hb⟩
theorem hiddenL_ok {n : Int} {xss : List (List Int)} (h : netOk n xss = true) : hiddenL n xss = faultsL (hidB n.toNat xss) xss.length := by rw [hiddenL, if_pos h]
theorem hiddenL_no {n : Int} {xss : List (List Int)} (h : netOk n xss = false) : hiddenL n xss = [] := by rw [hiddenL, if_neg (by simp [h])]
theorem hiddenL_len (n : Int) (xss : List (List Int)) : (hiddenL n xss).length ≤ 180 := by
  cases hk : netOk n xss
  · rw [hiddenL_no hk]; simp
  · rw [hiddenL_ok hk]
    obtain ⟨N, rfl, _, _, h60⟩ := netOk_n hk
    have := faultsL_len (hidB (N : Int).toNat xss) xss.length
    omega
set_option maxHeartbeats 1000000 in
theorem i_HiddenFaults (n : Int) (v : Value) (xss : List (List Int)) (w : World) (h : Rd2 w v xss) (hn : I64 n) : Calls Tryz.prog 20 #[.agg #[.int .i64 n, v]] w (RetOwn2 (hiddenL n xss) w) := by
  obtain ⟨a, c, rfl, h2, h3⟩ := h.form
  obtain ⟨w0, hw0, hb0, hz0, c0, c1⟩ := net_box w (.int .i64 n) (.slice a xss.length c) 30
  have h' := h.below hb0
  have HN := i_NetworkOk n _ xss _ h' hn
  cases hk : netOk n xss
  · rw [hk] at HN
    have HR := Lib.hid (hiddenL_no hk)
    go_enter Tryz.func20, Tryz.ntmps20
    go_wp2_with (go_at_call 40; refine HN.mono ?_; rintro e w2 ⟨rfl, hb2⟩)
    go_ret
    rw [HR.out]
    exact ⟨_, rfl, Own2.nil _ _ _ _ _, hb0.trans (hb2.mono (by omega))⟩
  rw [hk] at HN
  have HR := Lib.hid (hiddenL_ok hk)
  obtain ⟨N, rfl, hN1, hN8, hL60⟩ := netOk_n hk
  have C0 := Lib.hid c0
  have C1 := Lib.hid c1
  have HF : Hid (∀ w2 : World, Below w.heap.size w w2 → w2.cell? ⟨w.heap.size, 0, none⟩ = some (.int .i64 N) → w2.cell? ⟨w.heap.size, 1, none⟩ = some (.slice a xss.length c) → Calls Tryz.prog 69 #[.agg #[.int .i64 N, .slice a xss.length c], .func (.func 70) #[] #[.pointer (some ⟨w.heap.size, 0, none⟩)]] w2 (RetOwn2 (faultsL (hidB N xss) xss.length) w2)) := fun w2 hb d0 d1 =>
    i_faults (hidB N xss) 70 #[.pointer (some ⟨w.heap.size, 0, none⟩)] k_Hid1 N _ xss w2 (h.below hb) hL60 fun i kd W hi hkd hW =>
      i_Hid1 N a c w.heap.size xss i kd W (h.below (hb.trans (hW.mono hb.size))) hk (by omega) ((hW.cell (World.block_lt_of_cell? _ _ d0)).trans d0) ((hW.cell (World.block_lt_of_cell? _ _ d1)).trans d1)
  clear hk
  go_enter Tryz.func20, Tryz.ntmps20
  go_wp2_with (first
    | (go_at_call 40; refine HN.mono ?_; rintro e w2 ⟨rfl, hb2⟩; have hbw2 : Below w.heap.size w w2 := hb0.trans (hb2.mono (by omega)); obtain ⟨c0, c1⟩ := Below.cells2 hb2 (show w.heap.size < w0.heap.size by omega) C0.out C1.out)
    | (go_at_call 69; refine (HF.out _ hbw2 c0 c1).mono ?_; rintro e w3 ⟨vo, rfl, ho, hb3⟩; obtain ⟨ao, co, rfl, _, _⟩ := ho.form))
  go_ret
  rw [HR.out]
  exact ⟨_, rfl, ho.mono hbw2.size (Nat.le_refl _), hbw2.trans (hb3.mono hbw2.size)⟩

end Go.Proofs.YtggblfnajeikjaaGreatDoor

namespace Go.Proofs.YtggblfnajeikjaaGreatDoor
open Go.RowKit
set_option linter.unusedVariables false
set_option linter.unusedSimpArgs false

def dedN (M : Nat) (l : List Nat) : List Nat := (List.range M).filter fun r => l.contains r
theorem dedL_natsI (M : Nat) (l : List Nat) : dedL M l = natsI (dedN M l) := rfl
def badB (i k r : Nat) : Bool := r.testBit i && !r.testBit k
def knP (res : List Nat) (i k : Nat) : Bool := decide (i ≠ k) && !res.any (badB i k)
def kL (p : Nat → Nat → Bool) (n : Nat) : Nat → List (List Int)
  | 0 => []
  | i + 1 => kL p n i ++ fltAt p i n
theorem kL_len (p : Nat → Nat → Bool) (n : Nat) : ∀ i, (kL p n i).length ≤ n * i
  | 0 => Nat.zero_le _
  | i + 1 => by
    have := kL_len p n i
    have := fltAt_len p i n
    simp only [kL, List.length_append, Nat.mul_succ]
    omega
def resN (n : Int) (xss : List (List Int)) : List Nat := dedN (2 ^ n.toNat) ((List.range (2 ^ n.toNat)).map (outM xss))
def knownL (n : Int) (xss : List (List Int)) : List (List Int) := if netOk n xss then kL (knP (resN n xss)) n.toNat n.toNat else []
theorem knownL_no {n : Int} {xss : List (List Int)} (h : netOk n xss = false) : knownL n xss = [] := by rw [knownL, if_neg (by simp [h])]
theorem knownL_ok {n : Int} {xss : List (List Int)} (h : netOk n xss = true) : knownL n xss = kL (knP (resN n xss)) n.toNat n.toNat := by rw [knownL, if_pos h]
theorem knownL_len (n : Int) (xss : List (List Int)) : (knownL n xss).length ≤ 64 := by
  cases hk : netOk n xss
  · rw [knownL_no hk]; simp
  · rw [knownL_ok hk]
    obtain ⟨N, rfl, _, h8, _⟩ := netOk_n hk
    have := kL_len (knP (resN (N : Int) xss)) N N
    simp only [Int.toNat_natCast]
    have : N * N ≤ 8 * 8 := Nat.mul_le_mul h8 h8
    omega
theorem resN_nats {n : Int} {xss : List (List Int)} (h : netOk n xss = true) : resL n xss = natsI (resN n xss) := by rw [resL_ok h, dedL_natsI]; rfl
theorem resN_lt {n : Int} {xss : List (List Int)} : ∀ r ∈ resN n xss, r < 2 ^ n.toNat := fun r hr => by
  simp only [resN, dedN, List.mem_filter, List.mem_range] at hr
  exact hr.1
theorem resN_pos {N : Nat} {xss : List (List Int)} (h : netOk (N : Int) xss = true) : 0 < (resN (N : Int) xss).length := by
  have h0 : 0 < 2 ^ N := Nat.two_pow_pos N
  have h1 := runM_lt h h0 xss.length
  have : outM xss 0 ∈ resN (N : Int) xss := by
    simp only [resN, dedN, List.mem_filter, List.mem_range, Int.toNat_natCast, List.contains_iff_mem, List.mem_map]
    exact ⟨h1, 0, h0, rfl⟩
  exact List.length_pos_of_mem this
theorem resN_len (n : Int) (xss : List (List Int)) : (resN n xss).length ≤ 2 ^ n.toNat := Nat.le_trans (List.length_filter_le _ _) (by simp)
theorem any_natsI (res : List Nat) (i k : Nat) : ((natsI res).any fun x => badB i k x.toNat) = res.any (badB i k) := by
  rw [natsI, List.any_map]
  rfl

theorem grown_cell {w w' : World} {row : Option Nat} (hg : w.grownBy w' row) (p : Addr) (hp : p.block < w.heap.size) (hne : some p.block ≠ row) : w'.cell? p = w.cell? p := by
  simp only [World.cell?, hg.block _ hp hne]

theorem k_Kno : Known 120 := known Tryz.func120 (by kernel_rfl) (by kernel_rfl)
set_option maxHeartbeats 1000000 in
theorem i_Kno1 (m i k b1 b2 : Nat) (hm : m < 256) (hi : i < 8) (hk : k < 8) (w : World) (c0 : w.cell? ⟨b1, 0, none⟩ = some (.int .i64 i)) (c1 : w.cell? ⟨b2, 0, none⟩ = some (.int .i64 k)) :
    Calls Tryz.prog 120 #[.int .i64 m, .pointer (some ⟨b1, 0, none⟩), .pointer (some ⟨b2, 0, none⟩)] w fun e w' => e = .returned (.bool (badB i k m)) ∧ w = w' := by
  have e1 := bit_of m hm i hi
  have e2 := bit_of m hm k hk
  cases h1 : m.testBit i
  · have HR : Hid (badB i k m = false) := by rw [Hid, badB, h1]; rfl
    rw [h1] at e1
    have q1 : bits BinOp.and IntKind.i64 ((m : Int) / 2 ^ i) 1 = 0 := e1
    clear e1 e2 h1
    go_enter Tryz.func120, Tryz.ntmps120
    go_wp2
    go_ret
    exact ⟨ret_bool HR.out.symm, rfl⟩
  · rw [h1] at e1
    have q1 : bits BinOp.and IntKind.i64 ((m : Int) / 2 ^ i) 1 = 1 := e1
    clear e1
    cases h2 : m.testBit k
    · have HR : Hid (badB i k m = true) := by rw [Hid, badB, h1, h2]; rfl
      rw [h2] at e2
      have q2 : bits BinOp.and IntKind.i64 ((m : Int) / 2 ^ k) 1 = 0 := e2
      clear e2 h1 h2
      go_enter Tryz.func120, Tryz.ntmps120
      go_wp2
      go_ret
      exact ⟨ret_bool HR.out.symm, rfl⟩
    · have HR : Hid (badB i k m = false) := by rw [Hid, badB, h1, h2]; rfl
      rw [h2] at e2
      have q2 : bits BinOp.and IntKind.i64 ((m : Int) / 2 ^ k) 1 = 1 := e2
      clear e2 h1 h2
      go_enter Tryz.func120, Tryz.ntmps120
      go_wp2
      go_ret
      exact ⟨ret_bool HR.out.symm, rfl⟩
set_option maxRecDepth 100000 in
set_option maxHeartbeats 4000000 in
theorem i_KnownOrder (n : Int) (v : Value) (xss : List (List Int)) (w : World) (h : Rd2 w v xss) (hn : I64 n) (hk : netOk n xss = true) : Calls Tryz.prog 66 #[.agg #[.int .i64 n, v]] w (RetOwn2 (knownL n xss) w) := by
  obtain ⟨a, c, rfl, h2, h3⟩ := h.form
  obtain ⟨w0, hw0, hb0, hz0, c0, c1⟩ := net_box w (.int .i64 n) (.slice a xss.length c) 30
  have hb1 : Below (w.heap.size + 1) w0 (w0.alloc (.cells #[] 23)) := (Below.refl _ _).alloc (by omega) _
  have HS := i_ResultsOf n _ xss (w0.alloc (.cells #[] 23)) (h.below (hb0.trans (hb1.mono (by omega)))) hn
  have HR := Lib.hid (knownL_ok hk)
  rw [resN_nats hk] at HS
  obtain ⟨N, rfl, hN1, hN8, hL60⟩ := netOk_n hk
  rw [Int.toNat_natCast] at HR
  have hp := pow_le8 hN8
  have hrl := resN_len (N : Int) xss
  have hr0 := resN_pos hk
  have hrb := resN_lt (n := (N : Int)) (xss := xss)
  rw [Int.toNat_natCast] at hrl hrb
  have C0 := Lib.hid c0
  have C1 := Lib.hid c1
  obtain ⟨res, hres⟩ : ∃ res, resN (N : Int) xss = res := ⟨_, rfl⟩
  rw [hres] at HS hrl hr0 hrb HR
  have HP : Hid (∀ i k, knP res i k = (decide (i ≠ k) && !res.any (badB i k))) := fun i k => rfl
  have HCF : Hid (∀ (u : Value) (W : World) (i k b1 b2 : Nat), i < 8 → k < 8 → Rd W u (ints (natsI res)) → W.cell? ⟨b1, 0, none⟩ = some (.int .i64 i) → W.cell? ⟨b2, 0, none⟩ = some (.int .i64 k) → Calls Tryz.prog 119 #[u, .func (.func 120) #[] #[.pointer (some ⟨b1, 0, none⟩), .pointer (some ⟨b2, 0, none⟩)]] W fun e w' => e = .returned (.bool (res.any (badB i k))) ∧ W = w') := fun u W i k b1 b2 hi hk8 hu d1 d2 => by
    have := f_ContainsFunc (fun x => badB i k x.toNat) 120 #[.pointer (some ⟨b1, 0, none⟩), .pointer (some ⟨b2, 0, none⟩)] k_Kno u (natsI res) W hu fun x hx => by
      simp only [natsI, List.mem_map] at hx
      obtain ⟨r, hr, rfl⟩ := hx
      have := hrb r hr
      exact i_Kno1 r i k b1 b2 (by omega) hi hk8 W d1 d2
    rwa [any_natsI] at this
  obtain ⟨p, hp0⟩ : ∃ p, knP res = p := ⟨_, rfl⟩
  rw [hp0] at HP HR
  have HNIL : Hid (∀ (W : World) (ad : Addr) (n c : Nat), (binOp .eql 23 (.slice (some ad) n c) (.slice none 0 0)).run Tryz.prog W = .ok (.bool false) W) := fun W ad n c => by
    have := Lib.run_eql_slice_nil (P := Tryz.prog) W 23 3 (some ad) n c 0 0 Tryz.underlying23
    simpa using this
  clear hk hres hrb hp0
  go_enter Tryz.func66, Tryz.ntmps66
  go_upto_region 5 with (go_at_call 67; refine HS.mono ?_; rintro e w2 ⟨vs, rfl, hos, hb2⟩; obtain ⟨as_, ns, cs, rfl, HNS, _, _⟩ := hos.rd.formN; obtain ⟨ads, has⟩ := hos.some_of (by rw [ints_length, natsI_len]; exact hr0); subst has; have hnil := HNIL.out w2 ads ns cs)
  have hz1 : (w0.alloc (.cells #[] 23)).heap.size = w0.heap.size + 1 := by simp
  have hb2' : Below (w.heap.size + 1) w0 w2 := hb1.trans (hb2.mono (by omega))
  have hs2 := hb2.size
  obtain ⟨c0, c1⟩ := Below.cells2 hb2' (Nat.lt_succ_self _) C0.out C1.out
  have hout : Own2 w2 23 3 (w.heap.size + 1) w2.heap.size (.slice (some ⟨w.heap.size + 1, 0, none⟩) 0 0) [] := by
    refine ⟨[], ?_, fun k hk => ?_, RowsOwn.nil _ _ _ _⟩
    · have := (Own.lit0 (B := w.heap.size + 1) w0 23 (by omega)).below hb2
      rw [hz0] at this
      exact this
    · simp [Value.ownBlock] at hk
      omega
  have hset : Own w2 3 (w.heap.size + 1) (.slice (some ads) ns cs) (ints (natsI res)) := hos.mono (by omega)
  go_wp2
  clear c0 c1 hos hnil hz1 hb2 HS hw0 hb1
  go_loopg [3, 14] N (fun g vo iv wr => ∃ i : Nat, g = N - i ∧ i ≤ N ∧ iv = .int .i64 i ∧ Own2 wr 23 3 (w.heap.size + 1) wr.heap.size vo (kL p N i) ∧ Own wr 3 (w.heap.size + 1) (.slice (some ads) ns cs) (ints (natsI res)) ∧ Below (w.heap.size + 1) w0 wr)
  case atStart => exact ⟨0, rfl, Nat.zero_le _, rfl, hout, hset, hb2'⟩
  case round =>
    clear hout hset hb2' hs2
    obtain ⟨i, hg, hil, rfl, ho, hset, hb⟩ := hrel
    obtain ⟨ao, co, rfl, _, _⟩ := ho.form
    obtain ⟨no, hno⟩ : ∃ no, (kL p N i).length = no := ⟨_, rfl⟩
    rw [hno] at ho ⊢
    clear hno
    by_cases hlt : i < N
    · obtain ⟨wo, rfl⟩ : ∃ wo : World, wo = wr := ⟨_, rfl⟩
      have g0 : wo.cell? ⟨w.heap.size, 0, none⟩ = some (.int .i64 N) := (hb.cell (Nat.lt_succ_self _)).trans C0.out
      obtain ⟨w5, hw5⟩ : ∃ w5, wo.alloc (.cells #[.int .i64 i] 3) = w5 := ⟨_, rfl⟩
      have hz5 : w5.heap.size = wo.heap.size + 1 := by rw [← hw5]; simp
      have hb5 : Below wo.heap.size wo w5 := by rw [← hw5]; exact (Below.refl _ _).alloc (Nat.le_refl _) _
      have d0 : w5.cell? ⟨wo.heap.size, 0, none⟩ = some (.int .i64 i) := by rw [← hw5]; exact (cell_of_row _ _ 0 _ _ (0, 0) (heap_alloc_new wo _)).trans rfl
      have g5 : w5.cell? ⟨w.heap.size, 0, none⟩ = some (.int .i64 N) := (hb5.cell (World.block_lt_of_cell? _ _ g0)).trans g0
      have hsb := hb.size
      have hT : ∀ g, (Value.slice ao no co).ownBlock = some g → g ≠ wo.heap.size := fun g hg e => by
        obtain ⟨rows, hov, _, _⟩ := ho
        have := (hov.lt g hg).2
        omega
      have ho5 := (ho.below hb5).mono (Nat.le_refl (w.heap.size + 1)) (show wo.heap.size ≤ w5.heap.size by omega)
      have hset5 := hset.below hb5
      have hbb5 : Below (w.heap.size + 1) w0 w5 := hb.trans (hb5.mono (by omega))
      obtain ⟨bi, hbi⟩ : ∃ bi, wo.heap.size = bi := ⟨_, rfl⟩
      rw [hbi] at d0 hT
      have hbi2 : w.heap.size < bi := by omega
      clear g0 ho hset
      go_wp2
      try rw [hw5]
      try rw [hbi]
      clear hw5 hb5 g5 hz5
      go_loopg [3, 19] N (fun g vo kv wr => ∃ k : Nat, g = N - k ∧ k ≤ N ∧ kv = .int .i64 k ∧ Own2 wr 23 3 (w.heap.size + 1) wr.heap.size vo (kL p N i ++ fltAt p i k) ∧ Own wr 3 (w.heap.size + 1) (.slice (some ads) ns cs) (ints (natsI res)) ∧ Below (w.heap.size + 1) w0 wr ∧ (∀ g, vo.ownBlock = some g → g ≠ bi) ∧ wr.cell? ⟨bi, 0, none⟩ = some (.int .i64 i))
      case atStart => exact ⟨0, rfl, Nat.zero_le _, rfl, by simpa [fltAt] using ho5, hset5, hbb5, hT, d0⟩
      case round =>
        clear ho5 hset5 hbb5 hT d0
        obtain ⟨k, hgk, hkl, rfl, ho, hset, hb, hT, d0⟩ := hrel
        by_cases hltk : k < N
        · obtain ⟨wy, rfl⟩ : ∃ wy : World, wy = wr := ⟨_, rfl⟩
          obtain ⟨w6, hw6⟩ : ∃ w6, wy.alloc (.cells #[.int .i64 k] 3) = w6 := ⟨_, rfl⟩
          have hz6 : w6.heap.size = wy.heap.size + 1 := by rw [← hw6]; simp
          have hb6 : Below wy.heap.size wy w6 := by rw [← hw6]; exact (Below.refl _ _).alloc (Nat.le_refl _) _
          have d1 : w6.cell? ⟨wy.heap.size, 0, none⟩ = some (.int .i64 k) := by rw [← hw6]; exact (cell_of_row _ _ 0 _ _ (0, 0) (heap_alloc_new wy _)).trans rfl
          have d6 : w6.cell? ⟨bi, 0, none⟩ = some (.int .i64 i) := (hb6.cell (World.block_lt_of_cell? _ _ d0)).trans d0
          have hbiy := World.block_lt_of_cell? _ _ d0
          have hsb := hb.size
          have hCF := HCF.out (.slice (some ads) ns cs) w6 i k bi wy.heap.size (by omega) (by omega) (hset.below hb6).rd d6 d1
          have hpk := HP.out i k
          obtain ⟨bk, hbk⟩ : ∃ bk, wy.heap.size = bk := ⟨_, rfl⟩
          rw [hbk] at d1 hCF
          have HYN : Hid ((p i k = true → fltAt p i (k + 1) = fltAt p i k ++ [[(i : Int), (k : Int)]]) ∧ (p i k = false → fltAt p i (k + 1) = fltAt p i k)) := ⟨fltAt_yes, fltAt_no⟩
          generalize p i k = b at hpk HYN
          by_cases hik : i = k
          · have q0 : ((i : Int) != (k : Int)) = false := by simp [hik]
            have hbf : b = false := by rw [hpk, hik]; simp
            have HA := Lib.hid (HYN.out.2 hbf)
            clear HYN hpk hbf hik hCF
            go_wp2
            try rw [hw6]
            go_roundg (N - (k + 1))
            case measure => omega
            case rel => exact ⟨k + 1, rfl, by omega, by go_num, by rw [HA.out]; exact (ho.below hb6).mono (Nat.le_refl _) hb6.size, hset.below hb6, hb.trans (hb6.mono (by omega)), hT, d6⟩
          · have q0 : ((i : Int) != (k : Int)) = true := by rw [bne_iff_ne]; omega
            rw [show decide (i ≠ k) = true by simpa using hik, Bool.true_and] at hpk
            have HCH := Lib.hid hCF
            generalize res.any (badB i k) = q at HCH hpk
            clear hik hCF
            cases q
            · have HA := Lib.hid (HYN.out.1 hpk)
              clear HYN hpk
              obtain ⟨rows, hov, hTT, hrows⟩ := ho
              have hrl2 : rows.length ≤ 200 := by
                have e1 := hrows.1
                have e2 := kL_len p N i
                have e3 := fltAt_len p i k
                rw [List.length_append] at e1
                have : N * i ≤ 8 * 8 := Nat.mul_le_mul hN8 (by omega)
                omega
              obtain ⟨aq, cq, rfl, _, _⟩ := hov.rd.form
              obtain ⟨nr, hnr⟩ : ∃ nr, rows.length = nr := ⟨_, rfl⟩
              have HNR := Lib.hid hnr
              rw [hnr] at hov hrl2 hT hTT ⊢
              clear hnr
              go_upto_region 12 with (go_at_call 119; refine HCH.out.mono ?_; rintro e w' ⟨rfl, rfl⟩)
              try rw [hw6]
              obtain ⟨w7, hw7⟩ : ∃ w7, w6.alloc (.cells #[.int .i64 i, .int .i64 k] 3) = w7 := ⟨_, rfl⟩
              have hs7 : w7.heap.size = w6.heap.size + 1 := by rw [← hw7]; simp
              have hb67 : Below w6.heap.size w6 w7 := by rw [← hw7]; exact (Below.refl _ _).alloc (Nat.le_refl _) _
              have hb7 : Below wy.heap.size wy w7 := hb6.trans (hb67.mono (by omega))
              have hrow : Own w7 3 w6.heap.size (.slice (some ⟨w6.heap.size, 0, none⟩) 2 2) (ints [(i : Int), (k : Int)]) := by rw [← hw7]; exact row2_own w6 _ _ _ (Nat.le_refl _) _
              rw [show w6.heap.size = bk + 1 by omega] at hrow
              have hov3 := hov.below hb7
              have hB3 : w.heap.size + 1 ≤ w7.heap.size := by omega
              have hn1 : (nr + 1) * 24 ≤ 140737488355328 := by omega
              have hn2 : nr + 1 ≤ 9223372036854775807 := by omega
              go_wp2_with (at_builtin; (refine wpList_app1m rfl _ _ 28 rfl elII ?_ hov3 ?_ ?_ hB3 nr HNR.out hn1 hn2 ?_); (focus exact rfl); (focus (simp [Act.eval])); (focus exact rfl); intro bn cn' w8 ho8 hg8 hat8)
              have ho9 := Own2.app ((hrows.below hb7).snoc (hrow.mono (show w.heap.size + 1 ≤ bk + 1 by omega)) (fun k hk => by simp [Value.ownBlock] at hk; omega) (show wy.heap.size ≤ w7.heap.size by omega)) hov3 (by decide) hg8 ho8 hg8.size
              have hb8 := (hb.trans (hb7.mono (by omega))).grown hg8 hB3 fun r hr => (hov3.lt r hr).1
              have hset7 := hset.below hb7
              have hset8 := hset7.apart hg8 fun g h2 h3 => Own.elem_ne hset7 hov3 (by decide) g h2 h3
              have hd8 : w8.cell? ⟨bi, 0, none⟩ = some (.int .i64 i) := (grown_cell hg8 _ (show bi < w7.heap.size by omega) fun e => hT bi e.symm rfl).trans ((hb7.cell hbiy).trans d0)
              go_roundg (N - (k + 1))
              case measure => omega
              case rel => exact ⟨k + 1, rfl, by omega, by go_num, by rw [HA.out, ← List.append_assoc]; exact ho9, hset8, hb8, fun g hg e => by
                rcases hat8 with e8 | ⟨q, hq', e8⟩
                · exact hT g (e8 ▸ hg) e
                · rw [e8] at hg
                  cases hg
                  omega, hd8⟩
            · have HA := Lib.hid (HYN.out.2 hpk)
              clear HYN hpk
              go_wp2_with (go_at_call 119; refine HCH.out.mono ?_; rintro e w' ⟨rfl, rfl⟩)
              try rw [hw6]
              go_roundg (N - (k + 1))
              case measure => omega
              case rel => exact ⟨k + 1, rfl, by omega, by go_num, by rw [HA.out]; exact (ho.below hb6).mono (Nat.le_refl _) hb6.size, hset.below hb6, hb.trans (hb6.mono (by omega)), hT, d6⟩
        · obtain rfl : N = k := by omega
          go_wp2
          go_roundg (N - (i + 1))
          case measure => omega
          case rel => exact ⟨i + 1, rfl, by omega, by go_num, ho, hset, hb⟩
    · obtain rfl : N = i := by omega
      go_wp2
      go_ret
      rw [HR.out]
      exact ⟨_, rfl, ho.mono (by omega) (Nat.le_refl _), hb0.trans (hb.mono (by omega))⟩

end Go.Proofs.YtggblfnajeikjaaGreatDoor

namespace Go.Proofs.YtggblfnajeikjaaGreatDoor
open Go.RowKit
set_option linter.unusedVariables false
set_option linter.unusedSimpArgs false

def chgB (xss : List (List Int)) (m k : Nat) : Bool := decide (runM xss m (k + 1) ≠ runM xss m k)
/-- How many masks below M a comparator exchanges bits of. -/
def useC (xss : List (List Int)) (M j : Nat) : Nat := ((List.range M).filter fun m => chgB xss m j).length
theorem useC_le (xss : List (List Int)) (M j : Nat) : useC xss M j ≤ M := Nat.le_trans (List.length_filter_le _ _) (by simp)
theorem useC_succ (xss : List (List Int)) (m j : Nat) : useC xss (m + 1) j = useC xss m j + (if chgB xss m j then 1 else 0) := by
  simp only [useC, List.range_succ, List.filter_append, List.length_append]
  cases h : chgB xss m j <;> simp [h]
def useS (xss : List (List Int)) (m k j : Nat) : Int := ((useC xss m j + (if decide (j < k) && chgB xss m j then 1 else 0) : Nat) : Int)
theorem useS_zero (xss : List (List Int)) (L : Nat) : atL L (useS xss 0 0) = List.replicate L 0 := by
  rw [List.eq_replicate_iff]
  simp [atL, useS, useC]
theorem useS_next (xss : List (List Int)) (L m : Nat) : atL L (useS xss m L) = atL L (useS xss (m + 1) 0) := by
  unfold atL
  apply List.map_congr_left
  intro j hj
  simp only [List.mem_range] at hj
  simp only [useS, useC_succ, hj]
  cases chgB xss m j <;> simp
theorem useS_no {xss : List (List Int)} {L m k : Nat} (h : chgB xss m k = false) : atL L (useS xss m k) = atL L (useS xss m (k + 1)) := by
  unfold atL
  apply List.map_congr_left
  intro j hj
  simp only [useS]
  by_cases e : j = k
  · subst e; simp [h]
  · have : decide (j < k + 1) = decide (j < k) := by rw [decide_eq_decide]; omega
    rw [this]
theorem useS_yes {xss : List (List Int)} {L m k : Nat} (h : chgB xss m k = true) : (atL L (useS xss m k)).set k (useS xss m k k + 1) = atL L (useS xss m (k + 1)) := by
  apply List.ext_getElem?
  intro q
  rw [List.getElem?_set]
  by_cases hq : q < L
  · rw [atL_get _ hq, atL_get _ hq, atL_length]
    by_cases e : k = q
    · subst e; simp [hq, useS, h]
    · have : decide (q < k + 1) = decide (q < k) := by rw [decide_eq_decide]; omega
      simp only [useS, this]
      simp [e]
  · have e1 : (atL L (useS xss m k))[q]? = none := List.getElem?_eq_none (by rw [atL_length]; omega)
    have e2 : (atL L (useS xss m (k + 1)))[q]? = none := List.getElem?_eq_none (by rw [atL_length]; omega)
    rw [e1, e2, atL_length]
    by_cases e : k = q
    · subst e; simp [hq]
    · simp [e]
theorem useS_bd (xss : List (List Int)) (m k j : Nat) : 0 ≤ useS xss m k j ∧ useS xss m k j ≤ m + 1 := by
  have := useC_le xss m j
  unfold useS
  split <;> omega
def useL (xss : List (List Int)) (M : Nat) : List Int := atL xss.length (useS xss M 0)
def idleK (xss : List (List Int)) (M k : Nat) : List Int := ((List.range k).filter fun j => decide (useC xss M j = 0)).map fun (j : Nat) => (j : Int)
theorem idleK_yes {xss : List (List Int)} {M k : Nat} (h : useC xss M k = 0) : idleK xss M (k + 1) = idleK xss M k ++ [(k : Int)] := by simp [idleK, List.range_succ, h]
theorem idleK_no {xss : List (List Int)} {M k : Nat} (h : useC xss M k ≠ 0) : idleK xss M (k + 1) = idleK xss M k := by simp [idleK, List.range_succ, h]
theorem idleK_len (xss : List (List Int)) (M k : Nat) : (idleK xss M k).length ≤ k := by
  rw [idleK, List.length_map]
  exact Nat.le_trans (List.length_filter_le _ _) (by simp)
def idleL (n : Int) (xss : List (List Int)) : List Int := if netOk n xss then idleK xss (2 ^ n.toNat) xss.length else []
theorem idleL_no {n : Int} {xss : List (List Int)} (h : netOk n xss = false) : idleL n xss = [] := by rw [idleL, if_neg (by simp [h])]
theorem idleL_ok {n : Int} {xss : List (List Int)} (h : netOk n xss = true) : idleL n xss = idleK xss (2 ^ n.toNat) xss.length := by rw [idleL, if_pos h]
theorem idleL_bd (n : Int) (xss : List (List Int)) : I64s (idleL n xss) ∧ (idleL n xss).length ≤ 60 := by
  cases hk : netOk n xss
  · rw [idleL_no hk]; exact ⟨fun x hx => (by cases hx), by simp⟩
  · rw [idleL_ok hk]
    obtain ⟨N, rfl, _, h8, h60⟩ := netOk_n hk
    refine ⟨fun x hx => ?_, by have := idleK_len xss (2 ^ (N : Int).toNat) xss.length; omega⟩
    simp only [idleK, List.mem_map, List.mem_filter, List.mem_range] at hx
    obtain ⟨j, ⟨hj, _⟩, rfl⟩ := hx
    unfold I64
    omega
set_option maxRecDepth 100000 in
set_option maxHeartbeats 4000000 in
theorem i_uses (N : Nat) (v : Value) (xss : List (List Int)) (w : World) (h : Rd2 w v xss) (hk : netOk (N : Int) xss = true) :
    Calls Tryz.prog 68 #[.agg #[.int .i64 N, v]] w (RetOwn 3 (ints (useL xss (2 ^ N))) w) := by
  obtain ⟨N', e, hN1, hN8, hL60⟩ := netOk_n hk
  obtain rfl : N = N' := by omega
  clear e
  have hp := pow_le8 hN8
  have e2 := shl_of N (by omega)
  obtain ⟨a, c, rfl, _, _⟩ := h.form
  obtain ⟨w0, hw0, hb0, hz0, c0, c1⟩ := net_box w (.int .i64 N) (.slice a xss.length c) 30
  have h' := h.below hb0
  have HL := Lib.hid (fun m (hm : m < 2 ^ N) k => runM_lt hk hm k)
  have HP := Lib.hid (fun (W : World) (hW : Rd2 W (.slice a xss.length c) xss) (k : Nat) (hlt : k < xss.length) => hW.pair hk hlt)
  have C0 := Lib.hid c0
  have C1 := Lib.hid c1
  obtain ⟨M, hM⟩ : ∃ M, 2 ^ N = M := ⟨_, rfl⟩
  rw [hM] at hp e2 HL ⊢
  have HU : Hid (useL xss M = atL xss.length (useS xss M 0)) := rfl
  obtain ⟨L, hLe⟩ : ∃ L, xss.length = L := ⟨_, rfl⟩
  rw [hLe] at hL60 c1 C1 HP h' HU hw0
  have H' := Lib.hid h'
  clear hk hM
  go_enter Tryz.func68, Tryz.ntmps68
  rw [hLe]
  go_upto_region 2 with (at_make; (refine wpList_mk (n := L) (B := w.heap.size + 1) rfl _ _ 23 rfl elI ?_ ?_ (by omega) (by omega) (by omega) ?_); (focus exact rfl); (focus exact rfl); intro b w4 hb4 ho4 hg4)
  have hb04 : Below (w.heap.size + 1) w0 w4 := (Below.refl _ _).grown hg4 (by omega) (fun _ h => by cases h)
  have ho5 : Own w4 3 (w.heap.size + 1) (.slice (some b) L L) (ints (atL L (useS xss 0 0))) := by
    rw [useS_zero]
    have : ints (List.replicate L 0) = List.replicate L (Value.int .i64 0) := by simp [ints]
    rw [this]
    exact ho4
  obtain ⟨g0, g1⟩ := Below.cells2 hb04 (Nat.lt_succ_self _) c0 c1
  clear c0 c1 hw0 hb4 hg4 ho4
  go_wp2
  try rw [e2]
  clear e2 g0 g1
  go_loopg [15] M (fun g mv wr => ∃ m : Nat, g = M - m ∧ m ≤ M ∧ mv = .int .i64 m ∧ Own wr 3 (w.heap.size + 1) (.slice (some b) L L) (ints (atL L (useS xss m 0))) ∧ Below (w.heap.size + 1) w0 wr)
  case atStart => exact ⟨0, rfl, Nat.zero_le _, rfl, ho5, hb04⟩
  case round =>
    clear ho5 hb04
    obtain ⟨m, hg, hml, rfl, ho, hb⟩ := hrel
    by_cases hlt : m < M
    · obtain ⟨wo, rfl⟩ : ∃ wo : World, wo = wr := ⟨_, rfl⟩
      have g1 : wo.cell? ⟨w.heap.size, 1, none⟩ = some (.slice a L c) := (hb.cell (Nat.lt_succ_self _)).trans C1.out
      have HLm := Lib.hid (fun k => HL.out m hlt k)
      have HNX : Hid (atL L (useS xss m L) = atL L (useS xss (m + 1) 0)) := useS_next xss L m
      go_wp2
      clear g1
      go_loopg [4, 21] L (fun g rv kv wr => ∃ k r : Nat, g = L - k ∧ k ≤ L ∧ kv = .int .i64 k ∧ rv = .int .i64 (r : Int) ∧ Own wr 3 (w.heap.size + 1) (.slice (some b) L L) (ints (atL L (useS xss m k))) ∧ Below (w.heap.size + 1) w0 wr ∧ Hid (r = runM xss m k))
      case atStart => exact ⟨0, m, rfl, Nat.zero_le _, rfl, rfl, ho, hb, rfl⟩
      case round =>
        clear ho hb
        obtain ⟨k, r, hgk, hkl, rfl, rfl, ho, hb, HRr⟩ := hrel
        by_cases hltk : k < L
        · obtain ⟨ad, z, d, x, y, hal, hc, hcx, hcy, hxN, hyN, hxy, hx⟩ := HP.out wr (H'.out.below (by rw [hz0]; exact hb)) k hltk
          subst hal
          have hr : r < 256 := by have := HLm.out k; rw [← HRr.out] at this; omega
          have HSX : Hid (stepN r x y = runM xss m (k + 1)) := by rw [Hid, runM_succ hx.out, ← HRr.out]
          have HCG : Hid (chgB xss m k = ((stepN r x y : Int) != (r : Int))) := by
            rw [Hid, chgB, ← HSX.out, ← HRr.out]
            by_cases e : stepN r x y = r
            · simp [e]
            · have : ¬ (stepN r x y : Int) = (r : Int) := by omega
              simp [e, this]
          have HK := Lib.hid (fun W => i_step r x y hr (by omega) (by omega) W)
          clear hx
          generalize stepN r x y = s at HSX HCG HK
          cases hq : ((s : Int) != (r : Int))
          · have HV : Hid (atL L (useS xss m k) = atL L (useS xss m (k + 1))) := useS_no (by rw [HCG.out, hq])
            go_wp2
            go_quiet ((go_at_call 124; exact Calls.quiet_of ((HK.out _).mono fun _ _ hh => ⟨hh.1, hh.2.imp fun _ e => e.symm⟩)))
            rename_i nq
            have ho2 := ho.drewN nq
            have hb2 : Below (w.heap.size + 1) w0 (wr.drewN nq) := hb.trans (Dr.below ((Dr.refl _).step _) _)
            go_wp2
            go_roundg (L - (k + 1))
            case measure => omega
            case rel => exact ⟨k + 1, s, rfl, by omega, by go_num, rfl, by rw [← HV.out]; exact ho2, hb2, HSX⟩
          · have HV : Hid ((atL L (useS xss m k)).set k (useS xss m k k + 1) = atL L (useS xss m (k + 1))) := useS_yes (by rw [HCG.out, hq])
            have hbd := useS_bd xss m k k
            have hta := ho.rd.cell_int' (atL_get (useS xss m k) hltk)
            have fz := ho.frozen rfl k
            have hL2 := atL_length L (useS xss m k)
            have HOS := Lib.hid (fun (nq : Nat) => by
              have hoW := ho.drewN nq
              have hs := (hoW.seti rfl (show k < (atL L (useS xss m k)).length by omega) (useS xss m k k + 1)).1
              have hbs := hoW.below_set rfl (show k < (atL L (useS xss m k)).length by omega) (.int .i64 (useS xss m k k + 1)) (hb.trans (Dr.below ((Dr.refl wr).step nq) _)) (Nat.le_refl _)
              rw [HV.out] at hs
              exact (⟨hs, hbs⟩ : Own ((wr.drewN nq).setCell (b.add k) (.int .i64 (useS xss m k k + 1))) 3 (w.heap.size + 1) (.slice (some b) L L) (ints (atL L (useS xss m (k + 1)))) ∧ Below (w.heap.size + 1) w0 ((wr.drewN nq).setCell (b.add k) (.int .i64 (useS xss m k k + 1)))))
            generalize useS xss m k k = u at hbd hta HOS
            clear HV hL2
            go_wp2
            go_quiet ((go_at_call 124; exact Calls.quiet_of ((HK.out _).mono fun _ _ hh => ⟨hh.1, hh.2.imp fun _ e => e.symm⟩)))
            rename_i nq
            obtain ⟨o1, o2⟩ := HOS.out nq
            have iw : IntKind.i64.wrap (u + 1) = u + 1 := IntWalk.i64_in _ (by omega)
            go_wp2
            go_roundg (L - (k + 1))
            case measure => omega
            case rel => exact ⟨k + 1, s, rfl, by omega, by go_num, rfl, o1, o2, HSX⟩
        · obtain rfl : L = k := by omega
          rw [HNX.out] at ho
          go_wp2
          go_roundg (M - (m + 1))
          case measure => omega
          case rel => exact ⟨m + 1, rfl, by omega, by go_num, ho, hb⟩
    · obtain rfl : M = m := by omega
      go_wp2
      go_ret
      exact ⟨_, rfl, by rw [HU.out]; exact ho.mono (by omega), hb0.trans (hb.mono (by omega))⟩

set_option maxRecDepth 100000 in
set_option maxHeartbeats 2000000 in
theorem i_IdleOf (n : Int) (v : Value) (xss : List (List Int)) (w : World) (h : Rd2 w v xss) (hn : I64 n) : Calls Tryz.prog 18 #[.agg #[.int .i64 n, v]] w (RetOwn 3 (ints (idleL n xss)) w) := by
  obtain ⟨a, c, rfl, h2, h3⟩ := h.form
  obtain ⟨w0, hw0, hb0, hz0, c0, c1⟩ := net_box w (.int .i64 n) (.slice a xss.length c) 30
  have h' := h.below hb0
  have HN := i_NetworkOk n _ xss _ h' hn
  cases hk : netOk n xss
  · rw [hk] at HN
    have HR := Lib.hid (idleL_no hk)
    go_enter Tryz.func18, Tryz.ntmps18
    go_wp2_with (go_at_call 40; refine HN.mono ?_; rintro e w2 ⟨rfl, hb2⟩)
    go_ret
    rw [HR.out]
    exact ⟨_, rfl, Own.nil _ _ _, hb0.trans (hb2.mono (by omega))⟩
  rw [hk] at HN
  have HR := Lib.hid (idleL_ok hk)
  obtain ⟨N, rfl, hN1, hN8, hL60⟩ := netOk_n hk
  rw [Int.toNat_natCast] at HR
  have C0 := Lib.hid c0
  have C1 := Lib.hid c1
  have HU := Lib.hid (fun (W : World) (hW : Below w.heap.size w W) => i_uses N _ xss W (h.below hW) hk)
  have HUL : Hid (useL xss (2 ^ N) = atL xss.length (useS xss (2 ^ N) 0)) := rfl
  obtain ⟨M, hM⟩ : ∃ M, 2 ^ N = M := ⟨_, rfl⟩
  rw [hM] at HR HU HUL
  obtain ⟨L, hLe⟩ : ∃ L, xss.length = L := ⟨_, rfl⟩
  rw [hLe] at hL60 c1 C1 HUL HU HR hw0 HN
  clear hk hM
  go_enter Tryz.func18, Tryz.ntmps18
  rw [hLe]
  go_wp2_with (first
    | (go_at_call 40; refine HN.mono ?_; rintro e w2 ⟨rfl, hb2⟩; have hbw2 : Below w.heap.size w w2 := hb0.trans (hb2.mono (by omega)); obtain ⟨c0, c1⟩ := Below.cells2 hb2 (show w.heap.size < w0.heap.size by omega) C0.out C1.out
       obtain ⟨wa, hwa⟩ : ∃ wa, w2.alloc (.cells #[] 3) = wa := ⟨_, rfl⟩
       have hza : wa.heap.size = w2.heap.size + 1 := by rw [← hwa]; simp
       have hba : Below w2.heap.size w2 wa := by rw [← hwa]; exact (Below.refl _ _).alloc (Nat.le_refl _) _
       have hbwa : Below w.heap.size w wa := hbw2.trans (hba.mono hbw2.size)
       have hsz2 := hb2.size
       have g0 : wa.cell? ⟨w.heap.size, 0, none⟩ = some (.int .i64 N) := (hba.cell (show w.heap.size < w2.heap.size by omega)).trans c0
       have g1 : wa.cell? ⟨w.heap.size, 1, none⟩ = some (.slice a L c) := (hba.cell (show w.heap.size < w2.heap.size by omega)).trans c1
       have hlit : Own wa 3 w.heap.size (.slice (some ⟨w2.heap.size, 0, none⟩) 0 0) (ints []) := by rw [← hwa]; exact Own.lit0 w2 3 (by omega)
       have hap : ∀ g, (Value.slice (some ⟨w2.heap.size, 0, none⟩) 0 0).ownBlock = some g → g < wa.heap.size := fun g hg => by
         simp [Value.ownBlock] at hg
         omega)
    | (go_at_call 68; refine (HU.out _ hbwa).mono ?_; rintro e w3 ⟨vs, rfl, hos, hb3⟩; obtain ⟨as_, ns, cs, rfl, HNS, _, _⟩ := hos.rd.formN))
  have hnsL : ns = L := by have := HNS.out; rw [HUL.out, atL_length] at this; exact this
  subst hnsL
  rw [HUL.out] at hos
  have hlit3 := hlit.below hb3
  have hb3' : Below w.heap.size w w3 := hbwa.trans (hb3.mono hbwa.size)
  have hap3 : ∀ g, (Value.slice (some ⟨w2.heap.size, 0, none⟩) 0 0).ownBlock = some g → (Value.slice as_ ns cs).ownBlock ≠ some g := fun g h1 h2 => by
    have := hap g h1
    have := (hos.lt g h2).1
    omega
  have hset := hos.mono (B' := w.heap.size) hbwa.size
  clear c0 c1 g0 g1 hos hb2 hba hb3 hbw2 hbwa hwa hza hsz2 hlit HU HN hw0 HNS hap
  go_loopg [3, 13] ns (fun g vo iv wr => ∃ k : Nat, g = ns - k ∧ k ≤ ns ∧ iv = .int .i64 k ∧ Own wr 3 w.heap.size vo (ints (idleK xss M k)) ∧ Own wr 3 w.heap.size (.slice as_ ns cs) (ints (atL ns (useS xss M 0))) ∧ (∀ g, vo.ownBlock = some g → (Value.slice as_ ns cs).ownBlock ≠ some g) ∧ Below w.heap.size w wr)
  case atStart => exact ⟨0, rfl, Nat.zero_le _, rfl, hlit3, hset, hap3, hb3'⟩
  case round =>
    clear hlit3 hset hap3 hb3'
    obtain ⟨k, hg, hkl, rfl, ho, hset, hap, hb⟩ := hrel
    obtain ⟨ao, no, co, rfl, HNO, _, _⟩ := ho.rd.formN
    by_cases hlt : k < ns
    · obtain ⟨ad, y, hal, hc, hy⟩ := hset.rd.int (k := k) (by rw [atL_length]; exact hlt)
      subst hal
      have hyv := hy.out
      rw [atL_get _ hlt] at hyv
      obtain rfl : useS xss M 0 k = y := by injection hyv
      have huv : useS xss M 0 k = (useC xss M k : Nat) := by simp [useS]
      rw [huv] at hc
      have HY : Hid (useC xss M k = 0 → idleK xss M (k + 1) = idleK xss M k ++ [(k : Int)]) := idleK_yes
      have HNy : Hid (useC xss M k ≠ 0 → idleK xss M (k + 1) = idleK xss M k) := idleK_no
      clear hy hyv huv
      generalize useC xss M k = u at hc HY HNy
      by_cases hu : u = 0
      · subst hu
        have HS := Lib.hid (HY.out rfl)
        have HLo : Hid ((ints (idleK xss M k)).length = no) := by rw [Hid, ints_length, HNO.out]
        have hno : no ≤ 60 := by have := HNO.out; have := idleK_len xss M k; omega
        have hsb := hb.size
        have hn1 : (no + 1) * 8 ≤ 140737488355328 := by omega
        have hn2 : no + 1 ≤ 9223372036854775807 := by omega
        clear HY HNy
        go_wp2_with (at_builtin; (refine wpList_app1m rfl _ _ 23 rfl elI ?_ ho ?_ ?_ hsb no HLo.out hn1 hn2 ?_); (focus exact rfl); (focus (simp [Act.eval])); (focus exact rfl); intro bn cn' w6 ho6 hg6 hat6)
        have hset6 := hset.apart hg6 fun g h2 h3 => hap g h3 h2
        have hb6 := hb.grown hg6 hsb fun r hr => (ho.lt r hr).1
        go_roundg (ns - (k + 1))
        case measure => omega
        case rel => exact ⟨k + 1, rfl, by omega, by go_num, by rw [HS.out, ints_append]; exact ho6, hset6, fun g h2 h3 => by
          rcases hat6 with e | ⟨q, hq, e⟩
          · exact hap g (e ▸ h2) h3
          · rw [e] at h2
            cases h2
            have := (hset.lt _ h3).2
            omega, hb6⟩
      · have HS := Lib.hid (HNy.out hu)
        have d0 : ((u : Int) == 0) = false := by rw [beq_eq_false_iff_ne]; omega
        clear HY HNy
        go_wp2
        go_roundg (ns - (k + 1))
        case measure => omega
        case rel => exact ⟨k + 1, rfl, by omega, by go_num, by rw [HS.out]; exact ho, hset, hap, hb⟩
    · obtain rfl : ns = k := by omega
      go_wp2
      go_ret
      rw [HR.out]
      exact ⟨_, rfl, ho, hb⟩

end Go.Proofs.YtggblfnajeikjaaGreatDoor

namespace Go.Proofs.YtggblfnajeikjaaGreatDoor
open Go.RowKit
set_option linter.unusedVariables false
set_option linter.unusedSimpArgs false

def orderLine (n : Int) (xss : List (List Int)) : List UInt8 :=
  if netOk n xss then [107, 110, 111, 119, 110, 32] ++ Lib.itoa (knownL n xss).length ++ [32, 114, 101, 115, 117, 108, 116, 115, 32] ++ Lib.itoa (resL n xss).length ++ [32, 105, 100, 108, 101, 32] ++ numsB (idleL n xss) else [110, 111, 110, 101]
theorem orderLine_no {n : Int} {xss : List (List Int)} (h : netOk n xss = false) : orderLine n xss = [110, 111, 110, 101] := by rw [orderLine, if_neg (by simp [h])]
theorem orderLine_ok {n : Int} {xss : List (List Int)} (h : netOk n xss = true) : orderLine n xss = [107, 110, 111, 119, 110, 32] ++ Lib.itoa (knownL n xss).length ++ [32, 114, 101, 115, 117, 108, 116, 115, 32] ++ Lib.itoa (resL n xss).length ++ [32, 105, 100, 108, 101, 32] ++ numsB (idleL n xss) := by rw [orderLine, if_pos h]
theorem resL_len (n : Int) (xss : List (List Int)) : (resL n xss).length ≤ 256 := by
  cases hk : netOk n xss
  · rw [resL_no hk]; simp
  · obtain ⟨N, rfl, _, h8, _⟩ := netOk_n hk
    rw [resN_nats hk, natsI_len]
    have := resN_len (N : Int) xss
    have := pow_le8 h8
    simp only [Int.toNat_natCast] at *
    omega

set_option maxRecDepth 100000 in
set_option maxHeartbeats 8000000 in
theorem I_OrderLine (w : World) (n : Int) (hn : I64 n) (v : Value) (xss : List (List Int)) (h : Rd2 w v xss) (_ : I64ss xss) (_ : SzOk xss) (ht : Tab w) : Calls Tryz.prog 17 #[.agg #[.int .i64 n, v]] w (RetB (.string (bstr (orderLine n xss))) w) := by
  obtain ⟨a, c, rfl, h2, h3⟩ := h.form
  obtain ⟨w0, hw0, hb0, hz0, c0, c1⟩ := net_box w (.int .i64 n) (.slice a xss.length c) 30
  have h' := h.below hb0
  have HN := i_NetworkOk n _ xss _ h' hn
  have C1 := Lib.hid c1
  cases hk : netOk n xss
  · rw [hk] at HN
    have HR := Lib.hid (orderLine_no hk)
    go_enter Tryz.func17, Tryz.ntmps17
    go_wp2_with (go_at_call 40; refine HN.mono ?_; rintro e w2 ⟨rfl, hb2⟩)
    go_ret
    exact ⟨by rw [HR.out]; rfl, hb0.trans (hb2.mono (by omega))⟩
  rw [hk] at HN
  have HR := Lib.hid (orderLine_ok hk)
  have GH := Lib.hid (fun (W : World) (hW : Below w.heap.size w W) => i_KnownOrder n _ xss W (h.below hW) hn hk)
  have GR := Lib.hid (fun (W : World) (hW : Below w.heap.size w W) => i_ResultsOf n _ xss W (h.below hW) hn)
  have GG := Lib.hid (fun (W : World) (hW : Below w.heap.size w W) => i_IdleOf n _ xss W (h.below hW) hn)
  have hhl := knownL_len n xss
  have hrl := resL_len n xss
  obtain ⟨hgi, hgl⟩ := idleL_bd n xss
  obtain ⟨hs, hhs⟩ : ∃ hs, knownL n xss = hs := ⟨_, rfl⟩
  obtain ⟨rs, hrs⟩ : ∃ rs, resL n xss = rs := ⟨_, rfl⟩
  obtain ⟨gs, hgs⟩ : ∃ gs, idleL n xss = gs := ⟨_, rfl⟩
  rw [hhs] at GH HR hhl
  rw [hrs] at GR HR hrl
  rw [hgs] at GG HR hgi hgl
  have hzn := numsB_le hgi hgl
  have g0 : fmtNums gs = numsB gs := by rw [fmtNums, if_neg (by omega)]
  have HF0 := fun (W : World) (u : Value) (hu : Rd W u (ints gs)) (hW : Tab W) => I_FormatNumbers W u _ hu hgi (by omega) hW
  rw [g0] at HF0
  have zA := (itoa_len (n := (hs.length : Int)) (show I64 _ by unfold I64; omega)).2
  have KI0 := Lib.hid (fun (W : World) (hW : Tab W) => I_FormatInt W (hs.length : Int) (by unfold I64; omega) hW)
  have zE := (itoa_len (n := (rs.length : Int)) (show I64 _ by unfold I64; omega)).2
  have KJ0 := Lib.hid (fun (W : World) (hW : Tab W) => I_FormatInt W (rs.length : Int) (by unfold I64; omega) hW)
  have GL := Lib.hid (fun W => i_line6 [107, 110, 111, 119, 110] (Lib.itoa hs.length) [114, 101, 115, 117, 108, 116, 115] (Lib.itoa rs.length) [105, 100, 108, 101] (numsB gs) (by simp) (by omega) (by simp) (by omega) (by simp) (by omega) W)
  have HRB : Hid (orderLine n xss = [107, 110, 111, 119, 110] ++ [32] ++ Lib.itoa hs.length ++ [32] ++ [114, 101, 115, 117, 108, 116, 115] ++ [32] ++ Lib.itoa rs.length ++ [32] ++ [105, 100, 108, 101] ++ [32] ++ numsB gs) := by simp [HR.out, Hid]
  have HFN := Lib.hid HF0
  rw [← HRB.out] at GL
  generalize numsB gs = F at HFN GL
  generalize Lib.itoa (hs.length : Int) = A at KI0 GL
  generalize Lib.itoa (rs.length : Int) = E at KJ0 GL
  obtain ⟨R, hR⟩ : ∃ R, orderLine n xss = R := ⟨_, rfl⟩
  rw [hR] at GL ⊢
  clear HRB hR
  obtain ⟨hl, hhl2⟩ : ∃ hl, hs.length = hl := ⟨_, rfl⟩
  rw [hhl2] at KI0 hhl
  have HHL := Lib.hid hhl2
  obtain ⟨rl, hrl2⟩ : ∃ rl, rs.length = rl := ⟨_, rfl⟩
  rw [hrl2] at KJ0 hrl
  have HRL := Lib.hid hrl2
  have C0 := Lib.hid c0
  clear hk HF0 g0 hzn zA zE hgi hgl hhs hrs hgs hhl2 hrl2 HR
  go_enter Tryz.func17, Tryz.ntmps17
  go_wp2_with (go_at_call 40; refine HN.mono ?_; rintro e w2 ⟨rfl, hb2⟩; have hbw2 : Below w.heap.size w w2 := hb0.trans (hb2.mono (by omega)); obtain ⟨c0, c1⟩ := Below.cells2 hb2 (show w.heap.size < w0.heap.size by omega) C0.out C1.out)
  have HT := keep_box c0 c1
  have K0 : Hid (∀ W : World, Below w2.heap.size w2 W → Calls Tryz.prog 14 #[.int .i64 (hl : Int)] W fun e w' => e = .returned (.string (bstr A)) ∧ Below w2.heap.size w2 w' ∧ Below W.heap.size W w') := fun W hW => (KI0.out W (ht.below (hbw2.trans (hW.mono hbw2.size)))).mono fun e w' h => ⟨h.1, hW.trans (h.2.mono hW.size), h.2⟩
  have J0 : Hid (∀ W : World, Below w2.heap.size w2 W → Calls Tryz.prog 14 #[.int .i64 (rl : Int)] W fun e w' => e = .returned (.string (bstr E)) ∧ Below w2.heap.size w2 w' ∧ Below W.heap.size W w') := fun W hW => (KJ0.out W (ht.below (hbw2.trans (hW.mono hbw2.size)))).mono fun e w' h => ⟨h.1, hW.trans (h.2.mono hW.size), h.2⟩
  have K1 : Hid (∀ W : World, Below w2.heap.size w2 W → Calls Tryz.prog 66 #[.agg #[.int .i64 n, .slice a xss.length c]] W fun e w' => (∃ aq cq, e = .returned (.slice aq hl cq)) ∧ Below w2.heap.size w2 w' ∧ Below W.heap.size W w') := fun W hW => (GH.out W (hbw2.trans (hW.mono hbw2.size))).mono fun e w' h => by
    obtain ⟨vq, rfl, ho, hb⟩ := h
    obtain ⟨aq, cq, rfl, _, _⟩ := ho.form
    exact ⟨⟨aq, cq, by rw [HHL.out]⟩, hW.trans (hb.mono hW.size), hb⟩
  have J1 : Hid (∀ W : World, Below w2.heap.size w2 W → Calls Tryz.prog 67 #[.agg #[.int .i64 n, .slice a xss.length c]] W fun e w' => (∃ aq cq, e = .returned (.slice aq rl cq)) ∧ Below w2.heap.size w2 w' ∧ Below W.heap.size W w') := fun W hW => (GR.out W (hbw2.trans (hW.mono hbw2.size))).mono fun e w' h => by
    obtain ⟨vq, rfl, ho, hb⟩ := h
    obtain ⟨aq, cq, rfl, _, _⟩ := ho.rd.formi
    exact ⟨⟨aq, cq, by rw [HRL.out]⟩, hW.trans (hb.mono hW.size), hb⟩
  have K2 : Hid (∀ W : World, Below w2.heap.size w2 W → Calls Tryz.prog 18 #[.agg #[.int .i64 n, .slice a xss.length c]] W fun e w' => ∃ v, e = .returned v ∧ Rd w' v (ints gs) ∧ Below w2.heap.size w2 w' ∧ Below W.heap.size W w') := fun W hW => (GG.out W (hbw2.trans (hW.mono hbw2.size))).mono fun e w' h => by
    obtain ⟨vq, rfl, ho, hb⟩ := h
    exact ⟨vq, rfl, ho.rd, hW.trans (hb.mono hW.size), hb⟩
  have K3 : Hid (∀ (W : World) (u : Value), Below w2.heap.size w2 W → Rd W u (ints gs) → Calls Tryz.prog 6 #[u] W fun e w' => e = .returned (.string (bstr F)) ∧ Below w2.heap.size w2 w' ∧ Below W.heap.size W w') := fun W u hW hu => (HFN.out W u hu (ht.below (hbw2.trans (hW.mono hbw2.size)))).mono fun e w' h => ⟨h.1, hW.trans (h.2.mono hW.size), h.2⟩
  have K4 : Hid (∀ W : World, Below w2.heap.size w2 W → Calls Tryz.prog 61 #[.slice (some ⟨W.heap.size, 0, none⟩) 6 6] (W.alloc (.cells #[.string ⟨#[107, 110, 111, 119, 110]⟩, .string (bstr A), .string ⟨#[114, 101, 115, 117, 108, 116, 115]⟩, .string (bstr E), .string ⟨#[105, 100, 108, 101]⟩, .string (bstr F)] 9)) fun e w' => e = .returned (.string (bstr R)) ∧ Below w2.heap.size w2 w') := fun W hW => (GL.out W).mono fun e w' h => ⟨h.1, hW.trans (h.2.mono hW.size)⟩
  have BW2 := Lib.hid hbw2
  clear KI0 KJ0 GH GR GG HFN GL c0 c1 C0 C1 HN hbw2 hb2 hb0 h h' HHL HRL
  go_region_held3 (fun wx => Below w2.heap.size w2 wx ∧ wx.cell? ⟨w.heap.size, 0, none⟩ = some (.int .i64 n) ∧ wx.cell? ⟨w.heap.size, 1, none⟩ = some (.slice a xss.length c))
    (first | exact HT.out _ gL | exact HT.out _ gN | exact HT.out _ (gN.alloc gN.size _) | exact HT.out _ gG | exact HT.out _ gJ | exact HT.out _ gR | exact HT.out _ gI | exact HT.out _ gH | exact HT.out _ (by exact ⟨rfl, rfl, rfl, Nat.le_refl _, fun _ _ => rfl⟩) | go_keep)
    (first
      | (go_at_call 66; (with_reducible refine (K1.out _ (by exact (show _ ∧ _ ∧ _ from by assumption).1)).mono ?_); rintro e wH ⟨⟨aq, cq, rfl⟩, gH, rH⟩)
      | (go_at_call 14; (with_reducible refine (K0.out _ (by exact (show _ ∧ _ ∧ _ from by assumption).1)).mono ?_); rintro e wI ⟨rfl, gI, rI⟩)
      | (go_at_call 67; (with_reducible refine (J1.out _ (by exact (show _ ∧ _ ∧ _ from by assumption).1)).mono ?_); rintro e wR ⟨⟨aq2, cq2, rfl⟩, gR, rR⟩)
      | (go_at_call 14; (with_reducible refine (J0.out _ (by exact (show _ ∧ _ ∧ _ from by assumption).1)).mono ?_); rintro e wJ ⟨rfl, gJ, rJ⟩)
      | (go_at_call 18; (with_reducible refine (K2.out _ (by exact (show _ ∧ _ ∧ _ from by assumption).1)).mono ?_); rintro e wG ⟨vg, rfl, rdG, gG, rG⟩; obtain ⟨ag, cg, rfl, _, _⟩ := rdG.formi)
      | (go_at_call 6; refine (K3.out _ _ (by exact (show _ ∧ _ ∧ _ from by assumption).1) (by first | exact rdG | exact rdG.below rH | exact rdG.below rI)).mono ?_; rintro e wN ⟨rfl, gN, rN⟩)
      | (go_at_call 61; (refine (K4.out wN gN).mono ?_); rintro e wL ⟨rfl, gL⟩))
  all_goals
    go_wp2_with fail
    go_ret
    exact ⟨rfl, BW2.out.trans (gL.mono BW2.out.size)⟩

end Go.Proofs.YtggblfnajeikjaaGreatDoor

namespace Go.Proofs.YtggblfnajeikjaaGreatDoor
open Go.RowKit
set_option linter.unusedVariables false
set_option linter.unusedSimpArgs false

def netHead (n : Int) (xss : List (List Int)) : List UInt8 := [112, 97, 105, 114, 115, 32] ++ Lib.itoa xss.length ++ [32, 100, 101, 112, 116, 104, 32] ++ Lib.itoa (depthOf n xss)
def netLine (n : Int) (xss : List (List Int)) : List UInt8 :=
  if netOk n xss then (if failsB n xss then netHead n xss ++ [32, 102, 97, 105, 108, 115, 32] ++ numsB (failLs n xss) else netHead n xss ++ [32, 115, 111, 114, 116, 115]) else [110, 111, 110, 101]

set_option maxRecDepth 100000 in
set_option maxHeartbeats 4000000 in
theorem I_NetworkLine (w : World) (n : Int) (hn : I64 n) (v : Value) (xss : List (List Int)) (h : Rd2 w v xss) (_ : I64ss xss) (_ : SzOk xss) (ht : Tab w) : Calls Tryz.prog 13 #[.agg #[.int .i64 n, v]] w (RetB (.string (bstr (netLine n xss))) w) := by
  obtain ⟨a, c, rfl, h2, h3⟩ := h.form
  obtain ⟨w0, hw0, hb0, hz0, c0, c1⟩ := net_box w (.int .i64 n) (.slice a xss.length c) 30
  have h' := h.below hb0
  have HN := i_NetworkOk n _ xss _ h' hn
  cases hk : netOk n xss
  · rw [hk] at HN
    have HR : Hid (netLine n xss = [110, 111, 110, 101]) := by simp [netLine, hk, Hid]
    go_enter Tryz.func13, Tryz.ntmps13
    go_wp2_with (go_at_call 40; refine HN.mono ?_; rintro e w2 ⟨rfl, hb2⟩)
    go_ret
    exact ⟨by rw [HR.out]; rfl, hb0.trans (hb2.mono (by omega))⟩
  rw [hk] at HN
  have hdb := depthOf_bound hk
  obtain ⟨N, rfl, hN1, hN8, hL60⟩ := netOk_n hk
  obtain ⟨hi, hl8⟩ := failLs_ok (n := (N : Int)) (xss := xss)
  have GF := Lib.hid (fun (W : World) (hW : Below w.heap.size w W) => i_FailingList (N : Int) _ xss W (h.below hW) hn)
  have GD := Lib.hid (fun (W : World) (hW : Below w.heap.size w W) => i_DepthOf (N : Int) _ xss W (h.below hW) hn)
  have hzn := numsB_le hi hl8
  have HFN := Lib.hid (fun (W : World) (u : Value) (hu : Rd W u (ints (failLs (N : Int) xss))) (hW : Tab W) => i_numbers W u _ hu hi (by omega) hW)
  have HR : Hid ((failsB (N : Int) xss = true → netLine (N : Int) xss = netHead (N : Int) xss ++ [32] ++ [102, 97, 105, 108, 115] ++ [32] ++ numsB (failLs (N : Int) xss)) ∧ (failsB (N : Int) xss = false → netLine (N : Int) xss = netHead (N : Int) xss ++ [32] ++ [115, 111, 114, 116, 115])) := ⟨fun h => by simp [netLine, hk, h], fun h => by simp [netLine, hk, h]⟩
  have HH : Hid ([112, 97, 105, 114, 115] ++ [32] ++ Lib.itoa xss.length ++ [32] ++ [100, 101, 112, 116, 104] ++ [32] ++ Lib.itoa (depthOf (N : Int) xss) = netHead (N : Int) xss) := by simp [netHead, Hid]
  obtain ⟨D, hD⟩ : ∃ D, depthOf (N : Int) xss = D := ⟨_, rfl⟩
  rw [hD] at GD hdb HH
  have zA := (itoa_len (n := (xss.length : Int)) (show I64 _ by unfold I64; omega)).2
  have zB := (itoa_len (n := D) (show I64 _ by unfold I64; omega)).2
  have zH : (netHead (N : Int) xss).length ≤ 100 := by rw [← HH.out]; simp; omega
  have KI0 := Lib.hid (fun (W : World) (hW : Tab W) => I_FormatInt W (xss.length : Int) (by unfold I64; omega) hW)
  have KI1 := Lib.hid (fun (W : World) (hW : Tab W) => I_FormatInt W D (by unfold I64; omega) hW)
  have GL := Lib.hid (fun W => i_line4 [112, 97, 105, 114, 115] (Lib.itoa xss.length) [100, 101, 112, 116, 104] (Lib.itoa D) (by simp) (by omega) (by simp) (by omega) W)
  rw [HH.out] at GL
  have GL2 := Lib.hid (fun W => i_line2 (netHead (N : Int) xss) [115, 111, 114, 116, 115] (by omega) (by simp) W)
  have GL3 := Lib.hid (fun W => i_line3 (netHead (N : Int) xss) [102, 97, 105, 108, 115] (numsB (failLs (N : Int) xss)) (by omega) (by simp) (by omega) W)
  obtain ⟨H, hH⟩ : ∃ H, netHead (N : Int) xss = H := ⟨_, rfl⟩
  rw [hH] at GL GL2 GL3 HR
  generalize Lib.itoa (xss.length : Int) = A at KI0 GL
  generalize Lib.itoa D = B at KI1 GL
  have C0 := Lib.hid c0
  have C1 := Lib.hid c1
  obtain ⟨bf, hbf⟩ : ∃ bf, failsB (N : Int) xss = bf := ⟨_, rfl⟩
  rw [hbf] at GF HR
  clear hk hD hzn zA zB hi hl8 hbf HH hdb hH zH
  go_enter Tryz.func13, Tryz.ntmps13
  go_wp2_with (go_at_call 40; refine HN.mono ?_; rintro e w2 ⟨rfl, hb2⟩; have hbw2 : Below w.heap.size w w2 := hb0.trans (hb2.mono (by omega)); obtain ⟨c0, c1⟩ := Below.cells2 hb2 (show w.heap.size < w0.heap.size by omega) C0.out C1.out)
  have HT := keep_box c0 c1
  have K0 : Hid (∀ W : World, Below w2.heap.size w2 W → Calls Tryz.prog 14 #[.int .i64 (xss.length : Int)] W fun e w' => e = .returned (.string (bstr A)) ∧ Below w2.heap.size w2 w') := fun W hW => (KI0.out W (ht.below (hbw2.trans (hW.mono hbw2.size)))).mono fun e w' h => ⟨h.1, hW.trans (h.2.mono hW.size)⟩
  have K1 : Hid (∀ W : World, Below w2.heap.size w2 W → Calls Tryz.prog 14 #[.int .i64 D] W fun e w' => e = .returned (.string (bstr B)) ∧ Below w2.heap.size w2 w') := fun W hW => (KI1.out W (ht.below (hbw2.trans (hW.mono hbw2.size)))).mono fun e w' h => ⟨h.1, hW.trans (h.2.mono hW.size)⟩
  have K2 : Hid (∀ W : World, Below w2.heap.size w2 W → Calls Tryz.prog 15 #[.agg #[.int .i64 N, .slice a xss.length c]] W fun e w' => e = .returned (.int .i64 D) ∧ Below w2.heap.size w2 w') := fun W hW => (GD.out W (hbw2.trans (hW.mono hbw2.size))).mono fun e w' h => ⟨h.1, hW.trans (h.2.mono hW.size)⟩
  have K3 : Hid (∀ W : World, Below w2.heap.size w2 W → Calls Tryz.prog 61 #[.slice (some ⟨W.heap.size, 0, none⟩) 4 4] (W.alloc (.cells #[.string ⟨#[112, 97, 105, 114, 115]⟩, .string (bstr A), .string ⟨#[100, 101, 112, 116, 104]⟩, .string (bstr B)] 9)) fun e w' => e = .returned (.string (bstr H)) ∧ Below w2.heap.size w2 w') := fun W hW => (GL.out W).mono fun e w' h => ⟨h.1, hW.trans (h.2.mono hW.size)⟩
  have BW2 := Lib.hid hbw2
  clear KI0 KI1 GD c0 c1 C0 C1 HN hbw2 hb2 hb0 h h' GL
  go_region_held3 (fun wx => Below w2.heap.size w2 wx ∧ wx.cell? ⟨w.heap.size, 0, none⟩ = some (.int .i64 N) ∧ wx.cell? ⟨w.heap.size, 1, none⟩ = some (.slice a xss.length c))
    (first | exact HT.out _ g3 | exact HT.out _ (g3.alloc g3.size _) | exact HT.out _ (by exact ⟨rfl, rfl, rfl, Nat.le_refl _, fun _ _ => rfl⟩) | go_keep)
    (first
      | (go_at_call 14; (with_reducible refine (K0.out _ (by exact (show _ ∧ _ ∧ _ from by assumption).1)).mono ?_); rintro e w3 ⟨rfl, g3⟩)
      | (go_at_call 14; (with_reducible refine (K1.out _ (by exact (show _ ∧ _ ∧ _ from by assumption).1)).mono ?_); rintro e w3 ⟨rfl, g3⟩)
      | (go_at_call 15; (with_reducible refine (K2.out _ (by exact (show _ ∧ _ ∧ _ from by assumption).1)).mono ?_); rintro e w3 ⟨rfl, g3⟩)
      | (go_at_call 61; (refine (K3.out w3 g3).mono ?_); rintro e w3 ⟨rfl, g3⟩))
  all_goals
    have bt : Below w.heap.size w w3 := BW2.out.trans (g3.mono BW2.out.size)
    obtain ⟨_, d0, d1⟩ := HT.out _ g3
    have KF := GF.out w3 bt
    cases bf
    · go_wp2_with (first
        | (go_at_call 16; refine KF.mono ?_; rintro e w4 ⟨vo, rfl, ho4, hb4⟩; obtain ⟨ao, no, co, rfl, _, _, _⟩ := ho4.rd.formN)
        | (go_at_call 61; refine (GL2.out w4).mono ?_; rintro e w5 ⟨rfl, hb5⟩))
      go_ret
      exact ⟨by rw [HR.out.2 (by trivial)]; simp only [List.append_assoc]; rfl, bt.trans ((hb4.trans (hb5.mono hb4.size)).mono bt.size)⟩
    · have tt := ht.below bt
      go_wp2_with (first
        | (go_at_call 16; refine KF.mono ?_; rintro e w4 ⟨vo, rfl, ho4, hb4⟩; obtain ⟨ao, no, co, rfl, _, _, _⟩ := ho4.rd.formN)
        | (go_at_call 46; refine (HFN.out _ _ ho4.rd (tt.below hb4)).mono ?_; rintro e w5 ⟨rfl, hb5⟩)
        | (go_at_call 61; refine (GL3.out w5).mono ?_; rintro e w6 ⟨rfl, hb6⟩))
      go_ret
      exact ⟨by rw [HR.out.1 (by trivial)]; simp only [List.append_assoc]; rfl, bt.trans ((hb4.trans ((hb5.trans (hb6.mono hb5.size)).mono hb4.size)).mono bt.size)⟩

end Go.Proofs.YtggblfnajeikjaaGreatDoor

namespace Go.Proofs.YtggblfnajeikjaaGreatDoor
open Go.RowKit
set_option linter.unusedVariables false
set_option linter.unusedSimpArgs false

theorem runM_left (A B : List (List Int)) (m : Nat) : ∀ k, k ≤ A.length → runM (A ++ B) m k = runM A m k
  | 0, _ => rfl
  | k + 1, h => by
    have ih := runM_left A B m k (by omega)
    simp only [runM, ih, List.getElem?_append_left (show k < A.length by omega)]
theorem runM_app (A B : List (List Int)) (m : Nat) : ∀ k, runM (A ++ B) m (A.length + k) = runM B (outM A m) k
  | 0 => by rw [Nat.add_zero, runM_left A B m _ (Nat.le_refl _)]; rfl
  | k + 1 => by
    have ih := runM_app A B m k
    rw [← Nat.add_assoc]
    simp only [runM, ih, List.getElem?_append_right (show A.length ≤ A.length + k by omega), Nat.add_sub_cancel_left]
theorem outM_app (A B : List (List Int)) (m : Nat) : outM (A ++ B) m = outM B (outM A m) := by
  rw [outM, List.length_append, runM_app]; rfl
theorem netRow_two {n : Nat} {r : List Int} (h : netRow n r = true) : ∃ a b : Nat, r = [(a : Int), (b : Int)] ∧ a < n ∧ b < n := by
  match r, h with
  | [x, y], h =>
    simp only [netRow, Bool.and_eq_true, inB_iff] at h
    exact ⟨x.toNat, y.toNat, by rw [Int.toNat_of_nonneg h.1.1.1, Int.toNat_of_nonneg h.1.2.1], by omega, by omega⟩
theorem std_keep : ∀ N : Nat, N < 5 → ∀ k : Nat, k < N + 1 → ∀ a : Nat, a < N → ∀ b : Nat, b < N → a < b → stepN (sortedN N k) a b = sortedN N k := by decide +kernel
theorem runM_std {N k : Nat} {Q : List (List Int)} (hN : N < 5) (hk : k ≤ N) (hQ : ∀ r ∈ Q, netRow N r = true ∧ upRow true r) : ∀ j, runM Q (sortedN N k) j = sortedN N k
  | 0 => rfl
  | j + 1 => by
    have ih := runM_std hN hk hQ j
    cases hx : Q[j]? with
    | none => simp only [runM, hx]; exact ih
    | some r =>
      obtain ⟨h1, h2⟩ := hQ r (List.mem_of_getElem? hx)
      obtain ⟨a, b, rfl, ha, hb⟩ := netRow_two h1
      rw [runM_succ hx, ih]
      exact std_keep N hN k (by omega) a ha b hb (by have := h2 rfl _ _ rfl; omega)
theorem bat_sorts : ∀ N : Nat, N < 5 → 1 ≤ N → ∀ m : Nat, m < 2 ^ N → outM (batS 8 (wiresL 0 N)) m = sortedN N (onesN m) := by decide +kernel
theorem ins_sorts : ∀ N : Nat, N < 5 → 1 ≤ N → ∀ m : Nat, m < 2 ^ N → outM (insNK (N - 1)) m = sortedN N (onesN m) := by decide +kernel
theorem bat_ok : ∀ N : Nat, N < 5 → 1 ≤ N → (batS 8 (wiresL 0 N)).all (netRow N) = true ∧ (batS 8 (wiresL 0 N)).length ≤ 6 := by decide +kernel
theorem ins_ok : ∀ N : Nat, N < 5 → 1 ≤ N → (insNK (N - 1)).all (netRow N) = true ∧ (insNK (N - 1)).length ≤ 6 := by decide +kernel
theorem ones_le : ∀ N : Nat, N < 5 → ∀ m : Nat, m < 2 ^ N → onesN m ≤ N := by decide +kernel
/-- What is drawn as a sorting network is valid and sorts. -/
theorem mk_sorts {N : Nat} {P Q : List (List Int)} {b : Bool} (h1 : 1 ≤ N) (h4 : N ≤ 4) (hP : P.length ≤ 4) (hQ : Q.length ≤ 3) (hr : ∀ r ∈ P ++ Q, netRow N r = true ∧ upRow true r)
    {xss : List (List Int)} (hx : xss = (if b then insNK (N - 1) else P ++ batS 8 (wiresL 0 N)) ++ Q) : netOk (N : Int) xss = true ∧ xss.length ≤ 20 ∧ ∀ m, m < 2 ^ N → okM N xss m = true := by
  obtain ⟨i1, i2⟩ := ins_ok N (by omega) h1
  obtain ⟨j1, j2⟩ := bat_ok N (by omega) h1
  have hrows : ∀ (A : List (List Int)), A.length ≤ 60 → (∀ r ∈ A, netRow (N : Int) r = true) → netOk (N : Int) A = true := fun A hA hr => by
    simp only [netOk, Bool.and_eq_true, inB_iff, decide_eq_true_eq, List.all_eq_true]
    exact ⟨⟨⟨by omega, by omega⟩, hA⟩, hr⟩
  have hlen : xss.length ≤ 20 := by
    rw [hx, List.length_append]
    cases b
    · simp only [Bool.false_eq_true, if_false, List.length_append]; omega
    · simp only [if_true]; omega
  refine ⟨hrows xss (by omega) fun r hrx => ?_, hlen, fun m hm => ?_⟩
  · rw [hx] at hrx
    rcases List.mem_append.1 hrx with h | h
    · cases b
      · simp only [Bool.false_eq_true, if_false] at h
        rcases List.mem_append.1 h with h | h
        · exact (hr r (List.mem_append_left _ h)).1
        · exact List.all_eq_true.1 j1 r h
      · simp only [if_true] at h
        exact List.all_eq_true.1 i1 r h
    · exact (hr r (List.mem_append_right _ h)).1
  · have hQ' : ∀ r ∈ Q, netRow N r = true ∧ upRow true r := fun r h => hr r (List.mem_append_right _ h)
    have hcore : outM (if b then insNK (N - 1) else P ++ batS 8 (wiresL 0 N)) m = sortedN N (onesN m) := by
      cases b
      · simp only [Bool.false_eq_true, if_false]
        have hPk : netOk (N : Int) P = true := hrows P (by omega) fun r h => (hr r (List.mem_append_left _ h)).1
        rw [outM_app, bat_sorts N (by omega) h1 (outM P m) (runM_lt hPk hm _), outM, runM_ones hPk hm]
      · simp only [if_true]
        exact ins_sorts N (by omega) h1 m hm
    rw [okM, decide_eq_true_eq, hx, outM_app, hcore]
    exact runM_std (by omega) (ones_le N (by omega) m hm) hQ' _
theorem res_len : ∀ N : Nat, N < 5 → 1 ≤ N → (dedL (2 ^ N) ((List.range (2 ^ N)).map fun m => sortedN N (onesN m))).length = N + 1 := by decide +kernel
theorem known_len : ∀ N : Nat, N < 5 → 1 ≤ N → (kL (knP (dedN (2 ^ N) ((List.range (2 ^ N)).map fun m => sortedN N (onesN m)))) N N).length = N * (N - 1) / 2 := by decide +kernel
/-- Of a sorting network all is known. -/
theorem sorts_known {N : Nat} {xss : List (List Int)} (h1 : 1 ≤ N) (h4 : N ≤ 4) (hk : netOk (N : Int) xss = true) (hs : ∀ m, m < 2 ^ N → okM N xss m = true) :
    failsB (N : Int) xss = false ∧ (knownL (N : Int) xss).length = N * (N - 1) / 2 ∧ (resL (N : Int) xss).length = N + 1 := by
  have hmap : (List.range (2 ^ N)).map (outM xss) = (List.range (2 ^ N)).map fun m => sortedN N (onesN m) := List.map_congr_left fun m hm => by
    have := hs m (List.mem_range.1 hm)
    rw [okM, decide_eq_true_eq] at this
    exact this
  refine ⟨?_, ?_, ?_⟩
  · rw [failsB, firstUns, if_pos hk, Int.toNat_natCast, firstU_none hs]; rfl
  · rw [knownL_ok hk, resN, Int.toNat_natCast, hmap]; exact known_len N (by omega) h1
  · rw [resL_ok hk, Int.toNat_natCast, hmap]; exact res_len N (by omega) h1

end Go.Proofs.YtggblfnajeikjaaGreatDoor

namespace Go.Proofs.YtggblfnajeikjaaGreatDoor
set_option linter.unusedVariables false
set_option linter.unusedSimpArgs false

def par (a : Nat) : Nat := a + 1 - 2 * (a % 2)
theorem par_par (a : Nat) : par (par a) = a := by unfold par; omega
theorem par_ne (a : Nat) : par a ≠ a := by unfold par; omega
theorem par_half (a : Nat) : par a / 2 = a / 2 := by unfold par; omega
theorem par_mod (a : Nat) : par a % 2 = 1 - a % 2 := by unfold par; omega
theorem par_lt {a h : Nat} (ha : a < 2 * h) : par a < 2 * h := by unfold par; omega
theorem half_eq {a b : Nat} (h : a / 2 = b / 2) : a = b ∨ a = par b := by unfold par; omega
theorem len_bd : ∀ (n : Nat) (l : List Nat), l.Nodup → (∀ x ∈ l, x < n) → l.length ≤ n
  | 0, l, _, h => by
    cases l with
    | nil => simp
    | cons a t => have := h a (by simp); omega
  | n + 1, l, hn, h => by
    by_cases hm : n ∈ l
    · have h1 := len_bd n (l.erase n) (hn.erase n) fun x hx => by
        have h2 := (List.Nodup.mem_erase_iff hn).1 hx
        have := h x h2.2
        have := h2.1
        omega
      rw [List.length_erase_of_mem hm] at h1
      omega
    · have h1 := len_bd n l hn fun x hx => by
        have := h x hx
        have : x ≠ n := fun e => hm (e ▸ hx)
        omega
      omega
theorem all_mem {n : Nat} {l : List Nat} (hn : l.Nodup) (h : ∀ x ∈ l, x < n) (hl : l.length = n) {v : Nat} (hv : v < n) : v ∈ l := by
  by_cases hm : v ∈ l
  · exact hm
  · have := len_bd n (v :: l) (List.nodup_cons.2 ⟨hm, hn⟩) fun x hx => by
      rcases List.mem_cons.1 hx with rfl | hx
      · exact hv
      · exact h x hx
    simp at this
    omega

/-- x is an order of 0 .. n - 1. -/
structure Ord (n : Nat) (x : Nat → Nat) : Prop where
  lx : ∀ o, o < n → x o < n
  inj : ∀ o p, o < n → p < n → x o = x p → o = p
  sur : ∀ v, v < n → ∃ o, o < n ∧ x o = v
def invF (n : Nat) (x : Nat → Nat) (v : Nat) : Nat := ((List.range n).map x).idxOf v
section
variable {n h : Nat} {x : Nat → Nat}
theorem Ord.ly (H : Ord n x) {v : Nat} (hv : v < n) : invF n x v < n := by
  obtain ⟨o, ho, e⟩ := H.sur v hv
  have := List.idxOf_lt_length_of_mem (a := v) (l := (List.range n).map x) (List.mem_map.2 ⟨o, by simpa using ho, e⟩)
  simpa [invF] using this
theorem invF_at {v : Nat} (hl : invF n x v < n) : x (invF n x v) = v := by
  have h1 : List.idxOf v ((List.range n).map x) < ((List.range n).map x).length := by simpa [invF] using hl
  have h2 := List.getElem_idxOf h1
  rw [List.getElem_map, List.getElem_range] at h2
  exact h2
theorem Ord.xy (H : Ord n x) {v : Nat} (hv : v < n) : x (invF n x v) = v := invF_at (H.ly hv)
theorem Ord.yx (H : Ord n x) {o : Nat} (ho : o < n) : invF n x (x o) = o := H.inj _ _ (H.ly (H.lx o ho)) ho (H.xy (H.lx o ho))
def tt (n : Nat) (x : Nat → Nat) (o : Nat) : Nat := invF n x (par (x o))
def ff (n : Nat) (x : Nat → Nat) (o : Nat) : Nat := par (tt n x o)
theorem Ord.tt_lt (H : Ord (2 * h) x) {o : Nat} (ho : o < 2 * h) : tt (2 * h) x o < 2 * h := H.ly (par_lt (H.lx o ho))
theorem Ord.x_tt (H : Ord (2 * h) x) {o : Nat} (ho : o < 2 * h) : x (tt (2 * h) x o) = par (x o) := H.xy (par_lt (H.lx o ho))
theorem Ord.tt_tt (H : Ord (2 * h) x) {o : Nat} (ho : o < 2 * h) : tt (2 * h) x (tt (2 * h) x o) = o := by
  have : tt (2 * h) x (tt (2 * h) x o) = invF (2 * h) x (par (x (tt (2 * h) x o))) := rfl
  rw [this, H.x_tt ho, par_par, H.yx ho]
theorem Ord.tt_ne (H : Ord (2 * h) x) {o : Nat} (ho : o < 2 * h) : tt (2 * h) x o ≠ o := fun e => by
  have := H.x_tt ho
  rw [e] at this
  exact par_ne _ this.symm
theorem Ord.ff_lt (H : Ord (2 * h) x) {o : Nat} (ho : o < 2 * h) : ff (2 * h) x o < 2 * h := par_lt (H.tt_lt ho)
theorem Ord.ff_inj (H : Ord (2 * h) x) {o p : Nat} (ho : o < 2 * h) (hp : p < 2 * h) (e : ff (2 * h) x o = ff (2 * h) x p) : o = p := by
  have e2 : tt (2 * h) x o = tt (2 * h) x p := by rw [← par_par (tt (2 * h) x o), ← par_par (tt (2 * h) x p)]; exact congrArg par e
  rw [← H.tt_tt ho, e2, H.tt_tt hp]
end

def upd {α : Type} (f : Nat → α) (k : Nat) (v : α) : Nat → α := fun i => if i = k then v else f i
theorem upd_at {α : Type} (f : Nat → α) (k : Nat) (v : α) : upd f k v k = v := by simp [upd]
theorem upd_off {α : Type} (f : Nat → α) {k i : Nat} (v : α) (h : i ≠ k) : upd f k v i = f i := by simp [upd, h]
structure FS where
  set : Nat → Bool
  last : Nat → Nat
  first : Nat → Nat
  up : Nat → Nat
  low : Nat → Nat
def fput (n : Nat) (x : Nat → Nat) (s : FS) (o : Nat) : FS :=
  ⟨upd s.set (o / 2) true, upd s.last (o / 2) (o % 2), upd s.first (x o / 2) (x o % 2), upd s.up (o / 2) (x o / 2), upd s.low (ff n x o / 2) (x o / 2)⟩
def FS.V (s : FS) (o : Nat) : Prop := s.set (o / 2) = true ∧ s.last (o / 2) = o % 2
/-- What holds of the positions that are set. -/
structure FB (h : Nat) (x : Nat → Nat) (s : FS) : Prop where
  lb : ∀ k, k < h → s.set k = true → s.last k < 2
  up : ∀ k, k < h → s.set k = true → s.up k = x (2 * k + s.last k) / 2
/-- All loops are closed. -/
structure FD (h : Nat) (x : Nat → Nat) (s : FS) : Prop where
  base : FB h x s
  low : ∀ k, k < h → s.set k = true → s.low k = x (2 * k + 1 - s.last k) / 2
  c2 : ∀ p, p < 2 * h → s.V p → s.V (ff (2 * h) x p)
  c3 : ∀ q, q < 2 * h → s.V q → ∃ p, p < 2 * h ∧ s.V p ∧ ff (2 * h) x p = q
/-- Within a loop that began at 2 j; c was the last one, o comes next. -/
structure FR0 (h : Nat) (x : Nat → Nat) (s : FS) (j c : Nat) : Prop where
  base : FB h x s
  jh : j < h
  ch : c < 2 * h
  vc : s.V c
  sj : s.set j = true
  lj : s.last j = 0
  c2 : ∀ p, p < 2 * h → s.V p → p ≠ c → s.V (ff (2 * h) x p)
  c3 : ∀ q, q < 2 * h → s.V q → q ≠ 2 * j → ∃ p, p < 2 * h ∧ s.V p ∧ p ≠ c ∧ ff (2 * h) x p = q
structure FR (h : Nat) (x : Nat → Nat) (s : FS) (j c : Nat) : Prop where
  r0 : FR0 h x s j c
  pend : s.low (ff (2 * h) x c / 2) = x (tt (2 * h) x c) / 2
  low : ∀ k, k < h → s.set k = true → k ≠ j → s.low k = x (2 * k + 1 - s.last k) / 2
section
variable {h j c o : Nat} {x : Nat → Nat} {s : FS}
theorem V_conf {o : Nat} (h1 : s.V o) (h2 : s.V (par o)) : False := by
  obtain ⟨_, a⟩ := h1
  obtain ⟨_, b⟩ := h2
  rw [par_half, par_mod] at b
  omega
theorem FR0.claim (H : Ord (2 * h) x) (R : FR0 h x s j c) (hs : s.set (ff (2 * h) x c / 2) = true) : ff (2 * h) x c = 2 * j := by
  have hfl := H.ff_lt R.ch
  obtain ⟨k, hk⟩ : ∃ k, ff (2 * h) x c / 2 = k := ⟨_, rfl⟩
  rw [hk] at hs
  have hkh : k < h := by omega
  have hlb := R.base.lb k hkh hs
  have hv : s.V (2 * k + s.last k) := by
    have e1 : (2 * k + s.last k) / 2 = k := by omega
    refine ⟨by rw [e1]; exact hs, by rw [e1]; omega⟩
  have hvl : 2 * k + s.last k < 2 * h := by omega
  obtain ⟨q, hq⟩ : ∃ q, 2 * k + s.last k = q := ⟨_, rfl⟩
  rw [hq] at hv hvl
  rcases half_eq (a := ff (2 * h) x c) (b := q) (by omega) with e | e
  · by_cases e2 : q = 2 * j
    · rw [e, e2]
    · obtain ⟨p, hp, hvp, hpc, he⟩ := R.c3 q hvl hv e2
      exact absurd (H.ff_inj hp R.ch (he.trans e.symm)) hpc
  · have e2 : tt (2 * h) x c = q := by rw [← par_par (tt (2 * h) x c), ← par_par q]; exact congrArg par e
    have e3 : c = tt (2 * h) x q := by rw [← e2, H.tt_tt R.ch]
    by_cases e4 : q = c
    · exact absurd (e2.trans e4) (H.tt_ne R.ch)
    · have h1 := R.c2 q hvl hv e4
      rw [ff, ← e3] at h1
      exact (V_conf R.vc h1).elim
theorem V_put {n : Nat} (o p : Nat) (h1 : (fput n x s o).V p) (hs : s.set (o / 2) = false) : p = o ∨ (s.V p ∧ p ≠ o) := by
  by_cases e : p / 2 = o / 2
  · obtain ⟨_, b⟩ := h1
    simp only [fput, e, upd_at] at b
    left
    omega
  · obtain ⟨a, b⟩ := h1
    simp only [fput, upd_off _ _ e] at a b
    exact .inr ⟨⟨a, b⟩, fun e2 => e (by rw [e2])⟩
theorem V_keep {n : Nat} {o p : Nat} (h1 : s.V p) (hs : s.set (o / 2) = false) : (fput n x s o).V p := by
  have e : p / 2 ≠ o / 2 := fun e => by
    have := h1.1
    rw [e, hs] at this
    cases this
  exact ⟨by simp only [fput, upd_off _ _ e]; exact h1.1, by simp only [fput, upd_off _ _ e]; exact h1.2⟩
theorem V_new (n o : Nat) : (fput n x s o).V o := ⟨by simp [fput, upd_at], by simp [fput, upd_at]⟩
theorem FB.put (n : Nat) (B : FB h x s) (o : Nat) : FB h x (fput n x s o) := by
  refine ⟨fun k hk hs => ?_, fun k hk hs => ?_⟩
  · by_cases e : k = o / 2
    · simp only [fput, e, upd_at]; omega
    · simp only [fput, upd_off _ _ e] at hs ⊢
      exact B.lb k hk hs
  · by_cases e : k = o / 2
    · simp only [fput, e, upd_at]
      rw [show 2 * (o / 2) + o % 2 = o by omega]
    · simp only [fput, upd_off _ _ e] at hs ⊢
      exact B.up k hk hs
theorem FR.of0 (H : Ord (2 * h) x) (R : FR0 h x (fput (2 * h) x s o) j o) (hlow : ∀ k, k < h → (fput (2 * h) x s o).set k = true → k ≠ j → s.low k = x (2 * k + 1 - (fput (2 * h) x s o).last k) / 2) : FR h x (fput (2 * h) x s o) j o := by
  refine ⟨R, ?_, fun k hk hs hj => ?_⟩
  · simp only [fput, upd_at]
    rw [H.x_tt R.ch, par_half]
  · have e : k ≠ ff (2 * h) x o / 2 := fun e => by
      rw [e] at hs
      have := R.claim H hs
      omega
    rw [← hlow k hk hs hj]
    simp only [fput, upd_off _ _ e]
theorem FD.start (H : Ord (2 * h) x) (D : FD h x s) (hj : j < h) (hs : s.set j = false) : FR h x (fput (2 * h) x s (2 * j)) j (2 * j) := by
  have e1 : 2 * j / 2 = j := by omega
  have hs' : s.set (2 * j / 2) = false := by rw [e1]; exact hs
  refine FR.of0 H ⟨D.base.put _ _, hj, by omega, V_new _ _, by simp [fput, e1, upd_at], by simp [fput, e1, upd_at], fun p hp hv hne => ?_, fun q hq hv hne => ?_⟩ fun k hk hk2 hkj => ?_
  · rcases V_put _ _ hv hs' with e | ⟨h1, _⟩
    · exact absurd e hne
    · exact V_keep (D.c2 p hp h1) hs'
  · rcases V_put _ _ hv hs' with e | ⟨h1, _⟩
    · exact absurd e hne
    · obtain ⟨p, hp, hvp, he⟩ := D.c3 q hq h1
      refine ⟨p, hp, V_keep hvp hs', fun e => ?_, he⟩
      have := hvp.1
      rw [e, hs'] at this
      cases this
  · have e : k ≠ 2 * j / 2 := by omega
    simp only [fput, upd_off _ _ e] at hk2 ⊢
    exact D.low k hk hk2
theorem FR.next (H : Ord (2 * h) x) (R : FR h x s j c) (ho : ff (2 * h) x c = o) (hs : s.set (o / 2) = false) : FR h x (fput (2 * h) x s o) j o := by
  have hol : o < 2 * h := by rw [← ho]; exact H.ff_lt R.r0.ch
  have hjo : j ≠ o / 2 := fun e => by
    have := R.r0.sj
    rw [e, hs] at this
    cases this
  have hvo : ¬ s.V o := fun hv => by
    have := hv.1
    rw [hs] at this
    cases this
  refine FR.of0 H ⟨R.r0.base.put _ _, R.r0.jh, hol, V_new _ _, by simp only [fput, upd_off _ _ hjo]; exact R.r0.sj, by simp only [fput, upd_off _ _ hjo]; exact R.r0.lj, fun p hp hv hne => ?_, fun q hq hv hne => ?_⟩ fun k hk hk2 hkj => ?_
  · rcases V_put _ _ hv hs with e | ⟨h1, _⟩
    · exact absurd e hne
    · by_cases e : p = c
      · subst e
        rw [ho]
        exact V_new _ _
      · exact V_keep (R.r0.c2 p hp h1 e) hs
  · rcases V_put _ _ hv hs with e | ⟨h1, _⟩
    · subst e
      exact ⟨c, R.r0.ch, V_keep R.r0.vc hs, fun e => hvo (e ▸ R.r0.vc), ho⟩
    · obtain ⟨p, hp, hvp, hpc, he⟩ := R.r0.c3 q hq h1 hne
      exact ⟨p, hp, V_keep hvp hs, fun e => hvo (e ▸ hvp), he⟩
  · by_cases e : k = o / 2
    · have hp := R.pend
      rw [ho] at hp
      simp only [fput, e, upd_at]
      rw [hp]
      have e2 : 2 * (o / 2) + 1 - o % 2 = par o := by unfold par; omega
      rw [e2, ← ho, ff, par_par]
    · simp only [fput, upd_off _ _ e] at hk2 ⊢
      exact R.low k hk hk2 hkj
theorem FR.done (H : Ord (2 * h) x) (R : FR h x s j c) (hs : s.set (ff (2 * h) x c / 2) = true) : FD h x s := by
  have hc := R.r0.claim H hs
  refine ⟨R.r0.base, fun k hk hk2 => ?_, fun p hp hv => ?_, fun q hq hv => ?_⟩
  · by_cases e : k = j
    · subst e
      have hp := R.pend
      rw [hc, show 2 * k / 2 = k by omega] at hp
      rw [hp, R.r0.lj]
      have : tt (2 * h) x c = 2 * k + 1 - 0 := by
        rw [← par_par (tt (2 * h) x c)]
        have : par (tt (2 * h) x c) = 2 * k := hc
        rw [this]
        unfold par
        omega
      rw [this]
    · exact R.low k hk hk2 e
  · by_cases e : p = c
    · subst e
      rw [hc]
      exact ⟨by rw [show 2 * j / 2 = j by omega]; exact R.r0.sj, by rw [show 2 * j / 2 = j by omega, R.r0.lj]; omega⟩
    · exact R.r0.c2 p hp hv e
  · by_cases e : q = 2 * j
    · exact ⟨c, R.r0.ch, R.r0.vc, hc.trans e.symm⟩
    · obtain ⟨p, hp, hvp, _, he⟩ := R.r0.c3 q hq hv e
      exact ⟨p, hp, hvp, he⟩
end

/-- How many positions are not set. -/
def cntU (h : Nat) (s : FS) : Nat := ((List.range h).filter fun k => !s.set k).length
def cyc (n : Nat) (x : Nat → Nat) : Nat → Nat → FS → FS
  | 0, _, s => s
  | f + 1, o, s => if s.set (o / 2) = true then s else cyc n x f (ff n x o) (fput n x s o)
def cycs (h : Nat) (x : Nat → Nat) : Nat → FS
  | 0 => ⟨fun _ => false, fun _ => 0, fun _ => 0, fun _ => 0, fun _ => 0⟩
  | j + 1 => cyc (2 * h) x (cntU h (cycs h x j)) (2 * j) (cycs h x j)
section
variable {h j c o : Nat} {x : Nat → Nat} {s : FS}
theorem filter_one (p q : Nat → Bool) (k : Nat) (hk : p k = true) (hq : ∀ i, q i = (p i && decide (i ≠ k))) : ∀ h, k < h → ((List.range h).filter q).length + 1 = ((List.range h).filter p).length
  | 0, hk2 => by omega
  | h + 1, hk2 => by
    rw [List.range_succ, List.filter_append, List.filter_append, List.length_append, List.length_append]
    by_cases e : k = h
    · subst e
      have h0 : (List.range k).filter q = (List.range k).filter p := List.filter_congr fun i hi => by
        rw [List.mem_range] at hi
        rw [hq i, decide_eq_true (by omega : i ≠ k), Bool.and_true]
      rw [h0]
      simp [hk, hq k]
    · have := filter_one p q k hk hq h (by omega)
      have h1 : q h = p h := by rw [hq h, decide_eq_true (by omega : h ≠ k), Bool.and_true]
      have : (List.filter q [h]).length = (List.filter p [h]).length := by simp only [List.filter_cons, List.filter_nil, h1]
      omega
theorem cnt_put {n : Nat} (ho : o / 2 < h) (hs : s.set (o / 2) = false) : cntU h (fput n x s o) + 1 = cntU h s := by
  refine filter_one (fun k => !s.set k) (fun k => !(fput n x s o).set k) (o / 2) (by simp [hs]) (fun i => ?_) h ho
  by_cases e : i = o / 2
  · simp [fput, e, upd_at]
  · simp [fput, upd_off _ _ e, e]
theorem cyc_stop {n : Nat} (f : Nat) (hs : s.set (o / 2) = true) : cyc n x f o s = s := by
  cases f with
  | zero => rfl
  | succ f => rw [cyc, if_pos hs]
theorem cyc_go {n : Nat} (ho : o / 2 < h) (hs : s.set (o / 2) = false) : cyc n x (cntU h s) o s = cyc n x (cntU h (fput n x s o)) (ff n x o) (fput n x s o) := by
  rw [← cnt_put (n := n) (x := x) ho hs, cyc, if_neg (by rw [hs]; simp)]
theorem cyc_FD (H : Ord (2 * h) x) : ∀ (f : Nat) (s : FS) (c : Nat), cntU h s ≤ f → FR h x s j c → FD h x (cyc (2 * h) x (cntU h s) (ff (2 * h) x c) s) ∧ ∀ k, s.set k = true → (cyc (2 * h) x (cntU h s) (ff (2 * h) x c) s).set k = true
  | f, s, c, hf, R => by
    have hol := H.ff_lt R.r0.ch
    cases hs : s.set (ff (2 * h) x c / 2)
    · have h2 := cnt_put (n := 2 * h) (x := x) (show ff (2 * h) x c / 2 < h by omega) hs
      match f with
      | 0 => omega
      | f + 1 =>
        rw [cyc_go (by omega) hs]
        obtain ⟨a, b⟩ := cyc_FD H f _ _ (by omega) (R.next H rfl hs)
        refine ⟨a, fun k hk => b k ?_⟩
        simp only [fput, upd]
        split
        · rfl
        · exact hk
    · rw [cyc_stop _ hs]
      exact ⟨R.done H hs, fun k hk => hk⟩
theorem cycs_FD (H : Ord (2 * h) x) : ∀ j, j ≤ h → FD h x (cycs h x j) ∧ ∀ k, k < j → (cycs h x j).set k = true
  | 0, _ => ⟨⟨⟨fun k _ h => (by cases h), fun k _ h => (by cases h)⟩, fun k _ h => (by cases h), fun p _ h => (by cases h.1), fun p _ h => (by cases h.1)⟩, fun k h => by omega⟩
  | j + 1, hj => by
    obtain ⟨D, hall⟩ := cycs_FD H j (by omega)
    rw [cycs]
    generalize cycs h x j = s at D hall ⊢
    have e1 : 2 * j / 2 = j := by omega
    cases hs : s.set j
    · have hs' : s.set (2 * j / 2) = false := by rw [e1]; exact hs
      rw [cyc_go (by omega) hs']
      obtain ⟨a, b⟩ := cyc_FD H _ _ _ (Nat.le_refl _) (D.start H (by omega) hs)
      refine ⟨a, fun k hk => b k ?_⟩
      simp only [fput, upd, e1]
      split
      · rfl
      · exact hall k (by omega)
    · have hs' : s.set (2 * j / 2) = true := by rw [e1]; exact hs
      rw [cyc_stop _ hs']
      refine ⟨D, fun k hk => ?_⟩
      by_cases e : k = j
      · rw [e]; exact hs
      · exact hall k (by omega)
/-- The two halves are orders again. -/
theorem fin_up (H : Ord (2 * h) x) (D : FD h x s) (ha : ∀ k, k < h → s.set k = true) : Ord h s.up ∧ Ord h s.low := by
  have hV : ∀ o, o < 2 * h → (s.V o ∨ s.V (par o)) := fun o ho => by
    have h1 := ha (o / 2) (by omega)
    have h2 := D.base.lb _ (by omega) h1
    by_cases e : s.last (o / 2) = o % 2
    · exact .inl ⟨h1, e⟩
    · exact .inr ⟨by rw [par_half]; exact h1, by rw [par_half, par_mod]; omega⟩
  have hu : ∀ k, k < h → ∃ u, u < 2 * h ∧ s.V u ∧ u / 2 = k ∧ s.up k = x u / 2 ∧ s.low k = x (par u) / 2 := fun k hk => by
    have h1 := ha k hk
    have h2 := D.base.lb k hk h1
    have e1 : (2 * k + s.last k) / 2 = k := by omega
    refine ⟨2 * k + s.last k, by omega, ⟨by rw [e1]; exact h1, by rw [e1]; omega⟩, e1, D.base.up k hk h1, ?_⟩
    rw [D.low k hk h1, show 2 * k + 1 - s.last k = par (2 * k + s.last k) by unfold par; omega]
  have hup : ∀ o, o < 2 * h → s.V o → s.up (o / 2) = x o / 2 := fun o ho hv => by
    rw [D.base.up _ (by omega) hv.1, hv.2, show 2 * (o / 2) + o % 2 = o by omega]
  have hlow : ∀ o, o < 2 * h → s.V (par o) → s.low (o / 2) = x o / 2 := fun o ho hv => by
    have h1 := hv.1
    have h2 := hv.2
    rw [par_half] at h1 h2
    rw [D.low _ (by omega) h1, h2, par_mod, show 2 * (o / 2) + 1 - (1 - o % 2) = o by omega]
  have htt : ∀ o, o < 2 * h → s.V o → ¬ s.V (tt (2 * h) x o) := fun o ho hv hv2 => V_conf (o := tt (2 * h) x o) hv2 (D.c2 o ho hv)
  have htt2 : ∀ o, o < 2 * h → s.V (par o) → s.V (tt (2 * h) x o) := fun o ho hv => by
    rcases hV _ (H.tt_lt ho) with h1 | h1
    · exact h1
    · obtain ⟨p, hp, hvp, he⟩ := D.c3 (ff (2 * h) x o) (H.ff_lt ho) h1
      have := H.ff_inj hp ho he
      subst this
      exact (V_conf hvp hv).elim
  refine ⟨⟨fun k hk => ?_, fun k l hk hl e => ?_, fun v hv => ?_⟩, ⟨fun k hk => ?_, fun k l hk hl e => ?_, fun v hv => ?_⟩⟩
  · obtain ⟨u, hul, _, _, e, _⟩ := hu k hk
    have := H.lx u hul
    omega
  · obtain ⟨u, hul, hv1, e1, a1, _⟩ := hu k hk
    obtain ⟨u2, hul2, hv2, e2, a2, _⟩ := hu l hl
    rcases half_eq (a := x u2) (b := x u) (by omega) with e3 | e3
    · have := H.inj _ _ hul2 hul e3
      omega
    · have : u2 = tt (2 * h) x u := H.inj _ _ hul2 (H.tt_lt hul) (by rw [H.x_tt hul]; exact e3)
      exact absurd (this ▸ hv2) (htt u hul hv1)
  · obtain ⟨o, ho, e⟩ := H.sur (2 * v) (by omega)
    rcases hV o ho with h1 | h1
    · exact ⟨o / 2, by omega, by rw [hup o ho h1, e]; omega⟩
    · have h2 := H.tt_lt ho
      refine ⟨tt (2 * h) x o / 2, by omega, ?_⟩
      rw [hup _ h2 (htt2 o ho h1), H.x_tt ho, par_half, e]
      omega
  · obtain ⟨u, hul, _, _, _, e⟩ := hu k hk
    have := H.lx _ (par_lt hul)
    omega
  · obtain ⟨u, hul, hv1, e1, _, a1⟩ := hu k hk
    obtain ⟨u2, hul2, hv2, e2, _, a2⟩ := hu l hl
    rcases half_eq (a := x (par u2)) (b := x (par u)) (by omega) with e3 | e3
    · have := H.inj _ _ (par_lt hul2) (par_lt hul) e3
      have : u2 = u := by rw [← par_par u2, this, par_par]
      omega
    · have h3 : par u2 = tt (2 * h) x (par u) := H.inj _ _ (par_lt hul2) (H.tt_lt (par_lt hul)) (by rw [H.x_tt (par_lt hul)]; exact e3)
      have h4 := htt2 (par u) (par_lt hul) (by rw [par_par]; exact hv1)
      rw [← h3] at h4
      exact (V_conf hv2 h4).elim
  · obtain ⟨o, ho, e⟩ := H.sur (2 * v) (by omega)
    rcases hV o ho with h1 | h1
    · have h2 := H.tt_lt ho
      have h3 := htt o ho h1
      rcases hV _ h2 with h4 | h4
      · exact absurd h4 h3
      · refine ⟨tt (2 * h) x o / 2, by omega, ?_⟩
        rw [hlow _ h2 h4, H.x_tt ho, par_half, e]
        omega
    · exact ⟨o / 2, by omega, by rw [hlow o ho h1, e]; omega⟩
end
def finS (h : Nat) (x : Nat → Nat) : FS := cycs h x h
/-- The settings of an order of 2 ^ (d + 1) numbers. -/
def setL : Nat → (Nat → Nat) → List Int
  | 0, x => [(x 0 : Int)]
  | d + 1, x => atL (2 ^ (d + 1)) (fun k => ((finS (2 ^ (d + 1)) x).first k : Int)) ++ setL d (finS (2 ^ (d + 1)) x).up ++ setL d (finS (2 ^ (d + 1)) x).low ++ atL (2 ^ (d + 1)) (fun k => ((finS (2 ^ (d + 1)) x).last k : Int))

end Go.Proofs.YtggblfnajeikjaaGreatDoor

namespace Go.Proofs.YtggblfnajeikjaaGreatDoor
open Go.RowKit
set_option linter.unusedVariables false
set_option linter.unusedSimpArgs false

def natA (n : Nat) (x : Nat → Nat) : List Int := atL n fun o => (x o : Int)
theorem natA_len (n : Nat) (x : Nat → Nat) : (natA n x).length = n := atL_length _ _
theorem natA_get {n i : Nat} (x : Nat → Nat) (h : i < n) : (natA n x)[i]? = some ((x i : Nat) : Int) := atL_get _ h
theorem natA_set {n k : Nat} (x : Nat → Nat) (v : Nat) : (natA n x).set k (v : Int) = natA n (upd x k v) :=
  atL_set (fun _ => by rw [upd_at]) fun j hj => by rw [upd_off _ _ hj]
theorem natA_congr {n : Nat} {x y : Nat → Nat} (h : ∀ i, i < n → x i = y i) : natA n x = natA n y := by
  unfold natA atL
  apply List.map_congr_left
  intro i hi
  rw [h i (List.mem_range.1 hi)]
theorem natA_zero (n : Nat) : List.replicate n (Value.int .i64 0) = ints (natA n fun _ => 0) := by
  symm
  rw [List.eq_replicate_iff]
  simp [natA, atL, ints]
/-- An order, as a function. -/
theorem ord_of {n : Nat} {xs : List Int} (hl : xs.length = n) (h : OrdP n xs) : ∃ x, xs = natA n x ∧ Ord n x := by
  have hx : xs = natA n fun o => (xs.getD o 0).toNat := by
    apply List.ext_getElem?
    intro i
    by_cases hi : i < n
    · rw [natA_get _ hi, List.getD_eq_getElem?_getD, List.getElem?_eq_getElem (by omega)]
      have := h.1 xs[i] (List.getElem_mem _)
      simp
      omega
    · rw [List.getElem?_eq_none (by omega), List.getElem?_eq_none (by rw [natA_len]; omega)]
  refine ⟨_, hx, ?_⟩
  have hg : ∀ o, o < n → ∃ (ho : o < xs.length), ((xs.getD o 0).toNat : Int) = xs[o] := fun o ho => by
    refine ⟨by omega, ?_⟩
    rw [List.getD_eq_getElem?_getD, List.getElem?_eq_getElem (by omega)]
    have := h.1 xs[o] (List.getElem_mem _)
    simp
    omega
  have hlx : ∀ o, o < n → (xs.getD o 0).toNat < n := fun o ho => by
    obtain ⟨h1, h2⟩ := hg o ho
    have := h.1 xs[o] (List.getElem_mem _)
    omega
  have hinj : ∀ o p, o < n → p < n → (xs.getD o 0).toNat = (xs.getD p 0).toNat → o = p := fun o p ho hp e => by
    obtain ⟨h1, h2⟩ := hg o ho
    obtain ⟨h3, h4⟩ := hg p hp
    have h5 : xs[o] = xs[p] := by omega
    have h6 := List.pairwise_iff_getElem.1 h.2
    rcases Nat.lt_trichotomy o p with l | l | l
    · exact absurd h5 (h6 o p h1 h3 l)
    · exact l
    · exact absurd h5.symm (h6 p o h3 h1 l)
  refine ⟨hlx, hinj, fun v hv => ?_⟩
  have hn : ((List.range n).map fun o => (xs.getD o 0).toNat).Nodup := by
    rw [List.Nodup, List.pairwise_map]
    refine List.Pairwise.imp_of_mem (fun {a b} ha hb hne e => ?_) (List.nodup_range (n := n))
    exact hne (hinj a b (List.mem_range.1 ha) (List.mem_range.1 hb) e)
  have := all_mem hn (fun x hx => by
    obtain ⟨o, ho, rfl⟩ := List.mem_map.1 hx
    exact hlx o (List.mem_range.1 ho)) (by simp) hv
  obtain ⟨o, ho, e⟩ := List.mem_map.1 this
  exact ⟨o, List.mem_range.1 ho, e⟩
def invK (n : Nat) (x : Nat → Nat) (k v : Nat) : Nat := if invF n x v < k then invF n x v else 0
theorem invK_zero (n : Nat) (x : Nat → Nat) : invK n x 0 = fun _ => 0 := by funext v; simp [invK]
theorem invK_succ {n k : Nat} {x : Nat → Nat} (H : Ord n x) (hk : k < n) : (natA n (invK n x k)).set (x k) (k : Int) = natA n (invK n x (k + 1)) := by
  refine atL_set (fun _ => ?_) fun j hj => ?_
  · rw [invK, H.yx hk, if_pos (by omega)]
  · rw [invK, invK]
    by_cases e : invF n x j = k
    · have := invF_at (n := n) (x := x) (v := j) (by omega)
      rw [e] at this
      exact absurd this.symm hj
    · by_cases e2 : invF n x j < k
      · rw [if_pos e2, if_pos (by omega)]
      · rw [if_neg e2, if_neg (by omega)]
theorem invK_all {n : Nat} {x : Nat → Nat} (H : Ord n x) : natA n (invK n x n) = natA n (invF n x) := natA_congr fun v hv => by rw [invK, if_pos (H.ly hv)]

set_option maxHeartbeats 1000000 in
theorem i_inverse (v : Value) (n : Nat) (x : Nat → Nat) (w : World) (h : Rd w v (ints (natA n x))) (H : Ord n x) (hn : n ≤ 1000) : Calls Tryz.prog 145 #[v] w (RetOwn 3 (ints (natA n (invF n x))) w) := by
  obtain ⟨a, c, rfl, hnc, hc⟩ := h.formi
  rw [natA_len] at h hnc ⊢
  have HS := Lib.hid (fun k hk => invK_succ (k := k) H hk)
  have HA := Lib.hid (invK_all H)
  have HX := Lib.hid (fun k hk => H.lx k hk)
  go_enter Tryz.func145, Tryz.ntmps145
  go_wp2_with (at_make; refine wpList_mk rfl _ _ 23 rfl elI rfl rfl (Nat.le_refl _) (by omega) (by omega) ?_; intro b w1 hb1 hown1 hg1)
  rw [natA_zero, ← invK_zero n x] at hown1
  go_loopg [11] n (fun g i wr => ∃ k : Nat, g = n - k ∧ k ≤ n ∧ i = .int .i64 k ∧ Own wr 3 w.heap.size (.slice (some b) n n) (ints (natA n (invK n x k))) ∧ Below w.heap.size w wr)
  case atStart => exact ⟨0, rfl, Nat.zero_le _, rfl, hown1, (Below.refl _ _).grown hg1 (Nat.le_refl _) (fun _ h => by cases h)⟩
  case round =>
    clear hown1
    obtain ⟨k, hg, hk, rfl, ho, hb⟩ := hrel
    by_cases hlt : k < n
    · obtain ⟨ad, y, hal, hcx, hy⟩ := (h.below hb).int (k := k) (by rw [natA_len]; exact hlt)
      subst hal
      obtain rfl : y = ((x k : Nat) : Int) := by have := hy.out; rw [natA_get _ hlt] at this; cases this; rfl
      have hxk := HX.out k hlt
      have HSK := Lib.hid (HS.out k hlt)
      clear hy
      generalize x k = X at hcx hxk HSK
      have hl : X < (natA n (invK n x k)).length := by rw [natA_len]; exact hxk
      have fz := ho.frozen rfl X
      have hta := ho.rd.cell_int' (natA_get (invK n x k) hxk)
      have hs := (ho.seti rfl hl (k : Int)).1
      have hbs := ho.below_set rfl hl (.int .i64 (k : Int)) hb (Nat.le_refl _)
      rw [HSK.out] at hs
      have i1 : (X : Int) < (n : Int) := by omega
      go_wp2
      go_roundg (n - (k + 1))
      case measure => omega
      case rel => exact ⟨k + 1, rfl, by omega, by go_num, hs, hbs⟩
    · obtain rfl : k = n := by omega
      rw [HA.out] at ho
      go_wp2
      go_ret
      exact ⟨_, rfl, ho, hb⟩

end Go.Proofs.YtggblfnajeikjaaGreatDoor

namespace Go.Proofs.YtggblfnajeikjaaGreatDoor
open Go.RowKit
set_option linter.unusedVariables false
set_option linter.unusedSimpArgs false

theorem mk_ints (h : Nat) (hh : h ≤ 1000) : ∃ Z : Array Value, Z.toList = List.replicate h (.int .i64 0) ∧ ∀ W : World, (Instr.makeSlice 23 (.int .i64 (h : Int)) (.int .i64 (h : Int))).run Tryz.prog W = .ok (.slice (some ⟨W.heap.size, 0, none⟩) h h) (W.alloc (.cells Z 3)) := by
  obtain ⟨i, hu, hi, hz, hs1, hby, hzs⟩ := elI.ex
  have hb' : (i.bytes : Int) * (h : Int) ≤ 281474976710656 := by rw [hby]; omega
  refine ⟨madeCells (Value.int .i64 0).cells (h * i.size), by rw [hzs, hs1, Nat.mul_one, toList_madeCells_one], fun W => ?_⟩
  have hr := run_make (P := Tryz.prog) W 23 3 i _ hu hi hz .i64 .i64 h h (by omega) (Int.le_refl _) hb' (by omega)
  simpa only [Int.toNat_natCast] using hr
theorem OwnsL.mk2 {w : World} {E B h : Nat} {L : List (Value × List Int)} {Z : Array Value} {xs : List Int} (H : OwnsL w E B L) (hB : B ≤ w.heap.size) (hZ : Z.toList = ints xs) (hs : Z.size = h) (hh : h ≤ 1000) :
    OwnsL ((w.alloc (.cells Z E)).alloc (.cells Z E)) E B (L ++ [(.slice (some ⟨w.heap.size, 0, none⟩) h h, xs), (.slice (some ⟨w.heap.size + 1, 0, none⟩) h h, xs)]) := by
  have o1 := Own.lit w E w.heap.size Z (Nat.le_refl _) (by omega)
  rw [hZ, hs] at o1
  have h1 := H.snoc ((Below.refl _ _).alloc (Nat.le_refl _) (.cells Z E)) hB o1
  have o2 := Own.lit (w.alloc (.cells Z E)) E (w.alloc (.cells Z E)).heap.size Z (Nat.le_refl _) (by omega)
  rw [hZ, hs] at o2
  have h2 := h1.snoc ((Below.refl _ _).alloc (Nat.le_refl _) (.cells Z E)) (by simp; omega) o2
  simpa [List.append_assoc] using h2
theorem OwnsL.swap12 {w : World} {E B : Nat} {p0 p1 p2 : Value × List Int} (H : OwnsL w E B [p0, p1, p2]) : OwnsL w E B [p0, p2, p1] := by
  obtain ⟨h1, h2⟩ := H
  refine ⟨fun p hp => h1 p (by simp at hp ⊢; rcases hp with e | e | e <;> simp [e]), ?_⟩
  simp only [List.pairwise_cons, List.mem_cons, List.not_mem_nil, or_false, forall_eq_or_imp, forall_eq] at h2 ⊢
  obtain ⟨⟨a, b⟩, c, d⟩ := h2
  exact ⟨⟨b, a⟩, fun g x y => c g y x, by simp⟩
theorem OwnsL.swap34 {w : World} {E B : Nat} {p0 p1 p2 p3 p4 : Value × List Int} (H : OwnsL w E B [p0, p1, p2, p3, p4]) : OwnsL w E B [p0, p1, p2, p4, p3] := by
  obtain ⟨h1, h2⟩ := H
  refine ⟨fun p hp => h1 p (by simp at hp ⊢; rcases hp with e | e | e | e | e <;> simp [e]), ?_⟩
  simp only [List.pairwise_cons, List.mem_cons, List.not_mem_nil, or_false, forall_eq_or_imp, forall_eq] at h2 ⊢
  obtain ⟨⟨a1, a2, a3, a4⟩, ⟨b1, b2, b3⟩, ⟨c1, c2⟩, d, _⟩ := h2
  exact ⟨⟨a1, a2, a4, a3⟩, ⟨b1, b3, b2⟩, ⟨c2, c1⟩, fun g x y => d g y x, by simp⟩
theorem OwnsL.of_heap {w w' : World} {E B : Nat} {L : List (Value × List Int)} (H : OwnsL w E B L) (e : w'.heap = w.heap) : OwnsL w' E B L := ⟨fun p hp => (H.own p hp).keep fun k _ _ => by rw [e], H.ap⟩

section
variable {w w' : World} {E F B : Nat} {L : List (Value × List Int)} {b : Addr} {n c k : Nat} {xs : List Int} {p0 p1 p2 p3 : Value × List Int}
theorem OwnsL.st1 (h : OwnsL w E B (p0 :: (.slice (some b) n c, xs) :: L)) (hk : k < xs.length) (y : Int) : OwnsL (w.setCell (b.add k) (.int .i64 y)) E B (p0 :: (.slice (some b) n c, xs.set k y) :: L) :=
  h.t1 (h.o1.seti rfl hk y).2 (h.o1.seti rfl hk y).1 fun g hg => .inl hg
theorem OwnsL.st2 (h : OwnsL w E B (p0 :: p1 :: (.slice (some b) n c, xs) :: L)) (hk : k < xs.length) (y : Int) : OwnsL (w.setCell (b.add k) (.int .i64 y)) E B (p0 :: p1 :: (.slice (some b) n c, xs.set k y) :: L) :=
  h.t2 (h.o2.seti rfl hk y).2 (h.o2.seti rfl hk y).1 fun g hg => .inl hg
theorem OwnsL.st3 (h : OwnsL w E B (p0 :: p1 :: p2 :: (.slice (some b) n c, xs) :: L)) (hk : k < xs.length) (y : Int) : OwnsL (w.setCell (b.add k) (.int .i64 y)) E B (p0 :: p1 :: p2 :: (.slice (some b) n c, xs.set k y) :: L) :=
  h.t3 (h.o3.seti rfl hk y).2 (h.o3.seti rfl hk y).1 fun g hg => .inl hg
theorem OwnsL.st4 (h : OwnsL w E B (p0 :: p1 :: p2 :: p3 :: (.slice (some b) n c, xs) :: L)) (hk : k < xs.length) (y : Int) : OwnsL (w.setCell (b.add k) (.int .i64 y)) E B (p0 :: p1 :: p2 :: p3 :: (.slice (some b) n c, xs.set k y) :: L) :=
  h.t4 (h.o4.seti rfl hk y).2 (h.o4.seti rfl hk y).1 fun g hg => .inl hg
theorem OwnsL.setB {S : List Value} {m d B2 : Nat} (h : OwnsL w E B L) (hs : Own w F B2 (.slice (some b) m d) S) (hne : E ≠ F) (k : Nat) (u : Value) : OwnsL (w.setCell (b.add k) u) E B L :=
  ⟨fun p hp => (h.own p hp).setCell (fun e => (h.own p hp).elem_ne hs hne _ e (by rw [block_of_add]; rfl)) u, h.ap⟩
end
/-- The memory of a call of settings: w0 was the world at its begin. -/
structure FM (E EB B : Nat) (ba bf bl bu bw bs : Addr) (n h ca : Nat) (A F L U W : List Int) (S : List Bool) (w0 w : World) : Prop where
  own : OwnsL w E B [(.slice (some ba) n ca, A), (.slice (some bf) h h, F), (.slice (some bl) h h, L), (.slice (some bu) h h, U), (.slice (some bw) h h, W)]
  set : Own w EB B (.slice (some bs) h h) (bools S)
  bel : Below B w0 w
section
variable {E EB B n h ca k : Nat} {ba bf bl bu bw bs : Addr} {A F L U W : List Int} {S : List Bool} {w0 w : World}
theorem FM.stS (H : FM E EB B ba bf bl bu bw bs n h ca A F L U W S w0 w) (hne : E ≠ EB) (hk : k < S.length) (b : Bool) : FM E EB B ba bf bl bu bw bs n h ca A F L U W (S.set k b) w0 (w.setCell (bs.add k) (.bool b)) := by
  have hs := H.set.set rfl (show k < (bools S).length by rw [bools_len]; exact hk) (.bool b)
  rw [bools_set] at hs
  refine ⟨H.own.setB H.set hne k _, hs.1, H.bel.setCell ?_ _⟩
  rw [block_of_add]
  exact (H.set.lt _ rfl).1
theorem FM.stF (H : FM E EB B ba bf bl bu bw bs n h ca A F L U W S w0 w) (hne : E ≠ EB) (hk : k < F.length) (y : Int) : FM E EB B ba bf bl bu bw bs n h ca A (F.set k y) L U W S w0 (w.setCell (bf.add k) (.int .i64 y)) := by
  refine ⟨H.own.st1 hk y, H.set.setCell (fun e => H.set.elem_ne H.own.o1 hne.symm _ e (by rw [block_of_add]; rfl)) _, H.bel.setCell ?_ _⟩
  rw [block_of_add]
  exact (H.own.o1.lt _ rfl).1
theorem FM.stL (H : FM E EB B ba bf bl bu bw bs n h ca A F L U W S w0 w) (hne : E ≠ EB) (hk : k < L.length) (y : Int) : FM E EB B ba bf bl bu bw bs n h ca A F (L.set k y) U W S w0 (w.setCell (bl.add k) (.int .i64 y)) := by
  refine ⟨H.own.st2 hk y, H.set.setCell (fun e => H.set.elem_ne H.own.o2 hne.symm _ e (by rw [block_of_add]; rfl)) _, H.bel.setCell ?_ _⟩
  rw [block_of_add]
  exact (H.own.o2.lt _ rfl).1
theorem FM.stU (H : FM E EB B ba bf bl bu bw bs n h ca A F L U W S w0 w) (hne : E ≠ EB) (hk : k < U.length) (y : Int) : FM E EB B ba bf bl bu bw bs n h ca A F L (U.set k y) W S w0 (w.setCell (bu.add k) (.int .i64 y)) := by
  refine ⟨H.own.st3 hk y, H.set.setCell (fun e => H.set.elem_ne H.own.o3 hne.symm _ e (by rw [block_of_add]; rfl)) _, H.bel.setCell ?_ _⟩
  rw [block_of_add]
  exact (H.own.o3.lt _ rfl).1
theorem FM.stW (H : FM E EB B ba bf bl bu bw bs n h ca A F L U W S w0 w) (hne : E ≠ EB) (hk : k < W.length) (y : Int) : FM E EB B ba bf bl bu bw bs n h ca A F L U (W.set k y) S w0 (w.setCell (bw.add k) (.int .i64 y)) := by
  refine ⟨H.own.st4 hk y, H.set.setCell (fun e => H.set.elem_ne H.own.o4 hne.symm _ e (by rw [block_of_add]; rfl)) _, H.bel.setCell ?_ _⟩
  rw [block_of_add]
  exact (H.own.o4.lt _ rfl).1
end
def boolA (n : Nat) (f : Nat → Bool) : List Bool := (List.range n).map f
theorem boolA_len (n : Nat) (f : Nat → Bool) : (boolA n f).length = n := by simp [boolA]
theorem boolA_get {n i : Nat} (f : Nat → Bool) (h : i < n) : (boolA n f)[i]? = some (f i) := by simp [boolA, h]
theorem boolA_set (n k : Nat) (f : Nat → Bool) (b : Bool) : (boolA n f).set k b = boolA n (upd f k b) := by
  apply List.ext_getElem?
  intro q
  rw [List.getElem?_set]
  by_cases hq : q < n
  · rw [boolA_get _ hq, boolA_get _ hq, boolA_len]
    by_cases e : k = q
    · subst e; simp [hq, upd]
    · simp only [upd]
      rw [if_neg e, if_neg (fun h => e h.symm)]
  · have e1 : (boolA n f)[q]? = none := List.getElem?_eq_none (by rw [boolA_len]; omega)
    have e2 : (boolA n (upd f k b))[q]? = none := List.getElem?_eq_none (by rw [boolA_len]; omega)
    rw [e1, e2, boolA_len]
    by_cases e : k = q
    · subst e; simp [hq]
    · simp [e]
theorem boolA_zero (n : Nat) : List.replicate n (Value.bool false) = bools (boolA n fun _ => false) := by
  symm
  rw [List.eq_replicate_iff]
  simp [bools, boolA]
theorem xor_par : ∀ m : Nat, m < 8 → bits BinOp.xor IntKind.i64 (m : Int) 1 = ((par m : Nat) : Int) := by decide +kernel
def FMs (E EB B : Nat) (ba bf bl bu bw bs : Addr) (n h ca : Nat) (x : Nat → Nat) (s : FS) (w0 w : World) : Prop :=
  FM E EB B ba bf bl bu bw bs n h ca (natA n (invF n x)) (natA h s.first) (natA h s.last) (natA h s.up) (natA h s.low) (boolA h s.set) w0 w

theorem Rd2.of4 {W : World} {g E : Nat} {r0 r1 r2 r3 : Value} {x0 x1 x2 x3 : List Int} (h : W.heap[g]? = some (.cells #[r0, r1, r2, r3] E (0, 0))) (h0 : Rd W r0 (ints x0)) (h1 : Rd W r1 (ints x1)) (h2 : Rd W r2 (ints x2)) (h3 : Rd W r3 (ints x3)) :
    Rd2 W (.slice (some ⟨g, 0, none⟩) 4 4) [x0, x1, x2, x3] := by
  have hO : Own W E g (.slice (some ⟨g, 0, none⟩) 4 4) [r0, r1, r2, r3] := .inr ⟨g, 0, 4, _, rfl, Nat.le_refl _, h, by simp, by omega, by simp, fun j u hu => by simpa using hu⟩
  refine ⟨[r0, r1, r2, r3], hO.rd, rfl, fun i r hr => ?_⟩
  match i, hr with
  | 0, hr => cases hr; exact ⟨x0, rfl, h0⟩
  | 1, hr => cases hr; exact ⟨x1, rfl, h1⟩
  | 2, hr => cases hr; exact ⟨x2, rfl, h2⟩
  | 3, hr => cases hr; exact ⟨x3, rfl, h3⟩
  | n + 4, hr => simp at hr

end Go.Proofs.YtggblfnajeikjaaGreatDoor
