/- Walks: a buffer's run, the program. -/
import Derived.Test.YtlbakbachcpifaaBufM
import Derived.Deep.RegionHeld3
namespace Go.Proofs.Ytlbakbachcpifaa
open Go.RowKit
set_option linter.unusedVariables false
set_option linter.unusedSimpArgs false

theorem bstep_put {xs : List Int} {k nx : Nat} {once : Bool} {b out : List Int} {tr : List (List Int)} {x : Int} (h1 : b.length < k) (hx : xs[nx]? = some x) : bstep xs k once ⟨nx, b, out, tr⟩ = ⟨nx + 1, bput once b x, out, tr⟩ := by
  have := (List.getElem?_eq_some_iff.1 hx).1
  rw [bstep, if_pos ⟨h1, this⟩, List.getD_eq_getElem?_getD, hx]
  rfl
theorem bstep_write {xs : List Int} {k nx : Nat} {once : Bool} {y : Int} {t out : List Int} {tr : List (List Int)} (h : ¬ ((y :: t).length < k ∧ nx < xs.length)) : bstep xs k once ⟨nx, y :: t, out, tr⟩ = ⟨nx, t, out ++ [y], tr ++ [y :: t]⟩ := by
  rw [bstep, if_neg h]
  rfl

def sliceLen : Value → Nat
  | .slice _ n _ => n
  | _ => 0

set_option maxHeartbeats 4000000 in
theorem i_buffered (v : Value) (xs : List Int) (K : Nat) (once : Bool) (w : World) (h : Rd w v (ints xs)) (hl : xs.length ≤ 24) (hK1 : 1 ≤ K) (hK8 : K ≤ 8) :
    Calls Try.prog 63 #[v, .int .i64 K, .bool once] w (RetBuf 3 22 (bOut xs K once) (bTr xs K once) w) := by
  obtain ⟨a, c, rfl, h2, h3⟩ := h.formi
  have hM0 : BufM 3 22 w (((w.alloc (.cells #[] 3)).alloc (.cells #[] 22)).alloc (.cells #[] 3)) [] [] [] [] (.slice (some ⟨w.heap.size, 0, none⟩) 0 0) (.slice (some ⟨w.heap.size + 1, 0, none⟩) 0 0) (.slice (some ⟨w.heap.size + 1 + 1, 0, none⟩) 0 0) := by
    have e1 := ((Own.lit0 w 3 (Nat.le_refl _)).alloc (.cells #[] 22)).alloc (.cells #[] 3)
    have e2 := (Own.lit0 (w.alloc (.cells #[] 3)) 22 (B := w.heap.size) (by simp)).alloc (.cells #[] 3)
    have e3 := Own.lit0 ((w.alloc (.cells #[] 3)).alloc (.cells #[] 22)) 3 (B := w.heap.size) (by simp; omega)
    rw [show (w.alloc (.cells #[] 3)).heap.size = w.heap.size + 1 by simp] at e2
    rw [show ((w.alloc (.cells #[] 3)).alloc (.cells #[] 22)).heap.size = w.heap.size + 1 + 1 by simp] at e3
    exact ⟨e1, e3, fun g h1 h2 => by have h1' : w.heap.size = g := Option.some.inj h1; have h2' : w.heap.size + 1 + 1 = g := Option.some.inj h2; omega, by simpa [ints] using e2, RowsOwn.nil _ _ _ _, fun r hr => by simp at hr, fun r hr => by simp at hr, (((Below.refl _ _).alloc (Nat.le_refl _) _).alloc (by simp) _).alloc (by simp; omega) _⟩
  go_enter Try.func63, Try.ntmps63
  go_wp2
  go_loopw [0, 8, 9, 10] (fun vl vo vt vs wr => ∃ (S : BS) (st : List Int) (rows : List Value), BInv xs K S ∧ Hid (finB xs K once S = finB xs K once bS0) ∧ Hid (srt st = S.b) ∧ Rd w vl (ints (xs.drop S.next)) ∧ BufM 3 22 w wr S.out st S.tr rows vo vt vs)
    (fun vl _ _ vs _ => 2 * sliceLen vl + sliceLen vs)
  case atStart => exact ⟨bS0, [], [], BInv.start _ _, rfl, rfl, by simpa [bS0] using h, hM0⟩
  case round =>
    clear hM0
    obtain ⟨⟨nx, b, out, tr⟩, st, rows, HI, HF, HS, hrl, HM⟩ := hrel
    dsimp only at HM hrl
    obtain ⟨al, ml, cl, rfl, HML, hml, hml2⟩ := hrl.formN
    obtain ⟨sl, ms, cs, rfl, HMS, hms, hms2⟩ := HM.os.rd.formN
    have hmb : ms = b.length := by have h1 := HMS.out; have h2 := congrArg List.length HS.out; rw [srt_length] at h2; dsimp only at h2; omega
    have hroom : b.length ≤ K := HI.room
    replace HS : Hid (srt st = b) := HS
    have hmsK : ms ≤ K := by omega
    have HMB := Lib.hid hmb
    clear hmb hroom
    by_cases hml0 : 0 < ml
    · by_cases hmK : ms < K
      case neg =>
        obtain ⟨sp, y, rfl, _, hy⟩ := HM.os.rd.int (k := 0) (by have := HMS.out; omega)
        clear hy
        have HWB : Hid (¬ (b.length < K ∧ nx < xs.length)) := fun hh => by have := HMB.out; have := HML.out; rw [List.length_drop] at this; omega
        have hbz : busy xs ⟨nx, b, out, tr⟩ := .inr (show 0 < b.length by have := HMB.out; omega)
        have HD := HI.desc
        have hout : out.length ≤ 24 := by have := HI.all; have := HI.read; dsimp only at *; omega
        have htr : tr.length ≤ 24 := by have := HI.trs; dsimp only at *; omega
        have hrws : rows.length ≤ 24 := by have := HM.rw.1; omega
        obtain ⟨y0, t0, rfl⟩ : ∃ y0 t0, b = y0 :: t0 := by
          cases b with
          | nil => have := HMB.out; simp only [List.length_nil] at this; omega
          | cons y t => exact ⟨y, t, rfl⟩
        have HE := bstep_write (once := once) (out := out) (tr := tr) HWB.out
        have HI' : BInv xs K ⟨nx, t0, out ++ [y0], tr ++ [y0 :: t0]⟩ := by have := HI.step (once := once) hK1 hbz; rw [HE] at this; exact this
        have HF' : Hid (finB xs K once ⟨nx, t0, out ++ [y0], tr ++ [y0 :: t0]⟩ = finB xs K once bS0) := by rw [Hid, ← HE, ← finB_busy hK1 hbz, HF.out]
        have HST : Hid (srt t0 = t0) := srt_asc (desc_tail HD)
        clear HE hbz HF HI HD HWB
        have HSO := Lib.hid (f_Sort _ st w.heap.size wr HM.os (by have := HMS.out; omega))
        rw [HS.out] at HSO
        have hm8 : ms ≤ 8 := by omega
        obtain ⟨at', ct, rfl, _, _⟩ := HM.ot.rd.form
        obtain ⟨ax, nx', cx, rfl, HNO, _, _⟩ := HM.ow.rd.formN
        go_wp2_with (go_at_call 85; refine HSO.out.mono ?_; rintro e w2 ⟨rfl, hs2, hg2⟩)
        have HM2 := HM.turnS (by decide) hg2 hs2 (fun g hg => .inl hg)
        clear HM HSO hg2 hs2
        go_wp2_with (first
          | (go_at_call 86; refine (f_Clone _ (y0 :: t0) _ HM2.os.rd (by have := HMB.out; omega)).mono ?_; rintro e w5 ⟨v5, rfl, h5, hb5⟩; obtain ⟨a5, m5, c5, rfl, hm5, _, _⟩ := h5.rd.formN; have hz5 := HM2.bel.size; have hz6 := hb5.size)
          | (at_builtin; refine wpList_app1 rfl _ _ 35 rfl elII rfl (HM2.ot.below hb5) (by show Value.slice (some ⟨w5.heap.size, 0, none⟩) 1 1 = _; simp) rfl (by omega) (by omega) (by omega) ?_; intro bt ct' w7 ht7 hg7 hat7))
        have HM7 := HM2.trace (by decide) hb5 h5 hg7 ht7
        clear HM2 h5 hb5 ht7 hg7 hat7 hz5 hz6
        clear hm5
        have hcy : w7.cell? sp = some (.int .i64 y0) := by simpa [Addr.add] using HM7.os.rd.cell_i (k := 0) (x := y0) rfl
        have hio : (ints out).length ≤ 24 := by rw [ints_length]; exact hout
        have i1 : (1 : Int) ≤ (ms : Int) := by omega
        have i2 : (0 : Int) < (ms : Int) := by omega
        have i4 : 0 < ms := by omega
        have i3 : (1 : Int) ≤ (cs : Int) := by omega
        have hz7 := HM7.bel.size
        go_region_held3 (fun wx => wx.cell? sp = some (.int .i64 y0))
          (first | exact hc8 | go_keep)
          ((refine step_app1 (by rfl) _ _ _ (by rfl) elI (by rfl) (by exact HM7.ow) (by rfl) (by rfl) (by exact hz7) (by omega) (by omega) ?_; intro b8 c8 w8 ho8 hg8 hat8; have HM8 := HM7.turnO (out' := out ++ [y0]) (by decide) hg8 (by rw [ints_append]; exact ho8) (hat_new hat8); have hc8 : w8.cell? sp = some (.int .i64 y0) := (by simpa [Addr.add] using HM8.os.rd.cell_i (k := 0) (x := y0) rfl)))
        all_goals
          have HM9 := HM8.cutS (st' := t0) (vs' := .slice (if cs = 1 then some sp else some (sp.add 1)) (ms - 1) (cs - 1)) (HM8.os.cut (k := 1) (by omega)) (cut_block (a := some sp) (n := ms))
          go_wp2
          go_roundw
          case rel => exact ⟨⟨nx, t0, out ++ [y0], tr ++ [y0 :: t0]⟩, t0, _, HI', HF', HST, hrl, HM9⟩
          case measure => simp [sliceLen]; omega
      case pos =>
        obtain ⟨p, x, rfl, hcx, hx⟩ := hrl.int (k := 0) (by have := HML.out; omega)
        have hx' : xs[nx]? = some x := by simpa using hx.out
        have hcx' : wr.cell? p = some (.int .i64 x) := (HM.bel.cell (World.block_lt_of_cell? w _ (show w.cell? p = some (.int .i64 x) by simpa [Addr.add] using hcx))).trans (by simpa [Addr.add] using hcx)
        clear hcx hx
        have hcut : Rd w (.slice (if cl = 1 then some p else some (p.add 1)) (ml - 1) (cl - 1)) (ints (xs.drop (nx + 1))) := by
          have := hrl.cut (k := 1) (by omega)
          rw [ints_drop, List.drop_drop] at this
          exact this
        have hbz : busy xs ⟨nx, b, out, tr⟩ := .inl (List.getElem?_eq_some_iff.1 hx').1
        have HE := bstep_put (once := once) (out := out) (tr := tr) (show b.length < K by have := HMB.out; omega) hx'
        have HI' : BInv xs K ⟨nx + 1, bput once b x, out, tr⟩ := by have := HI.step (once := once) hK1 hbz; rw [HE] at this; exact this
        have HF' : Hid (finB xs K once ⟨nx + 1, bput once b x, out, tr⟩ = finB xs K once bS0) := by rw [Hid, ← HE, ← finB_busy hK1 hbz, HF.out]
        clear HE hbz HF HI hx'
        have i1 : (1 : Int) ≤ (ml : Int) := by omega
        have hst24 : ms ≤ 8 := by omega
        have HLs : Hid ((ints st).length = ms) := by rw [Hid, ints_length, HMS.out]
        cases once
        · have HB' : Hid (srt (st ++ [x]) = bput false b x) := by rw [Hid, bput, if_neg (by simp), ← HS.out]; exact (srt_app st x).symm
          go_wp2_with ((at_builtin; refine wpList_app1m rfl _ _ 22 rfl elI rfl HM.os (by show Value.slice (some ⟨wr.heap.size, 0, none⟩) 1 1 = _; simp) rfl HM.bel.size _ HLs.out (by omega) (by omega) ?_; intro b6 c6 w6 ho6 hg6 hat6))
          have HM' := HM.turnS (by decide) hg6 (show Own w6 3 w.heap.size (.slice b6 (ms + 1) c6) (ints (st ++ [x])) by rw [ints_append]; exact ho6) (hat_new hat6)
          go_roundw
          case rel => exact ⟨⟨nx + 1, bput false b x, out, tr⟩, st ++ [x], rows, HI', HF', HB'.out, hcut, HM'⟩
          case measure => simp [sliceLen]; omega
        · have HCO := Lib.hid (f_Contains _ st x wr HM.os.rd)
          by_cases hmem : x ∈ st
          · have HB' : Hid (srt st = bput true b x) := by rw [Hid, bput, if_pos ⟨rfl, by rw [← HS.out]; exact (srt_mem st x).2 hmem⟩]; exact HS.out
            rw [decide_eq_true hmem] at HCO
            clear hmem
            go_wp2_with (go_at_call 84; refine HCO.out.mono ?_; rintro e w5 ⟨rfl, rfl⟩)
            go_roundw
            case rel => exact ⟨⟨nx + 1, bput true b x, out, tr⟩, st, rows, HI', HF', HB'.out, hcut, HM⟩
            case measure => simp [sliceLen]; omega
          · have HB' : Hid (srt (st ++ [x]) = bput true b x) := by rw [Hid, bput, if_neg (by rw [← HS.out, srt_mem]; simp [hmem]), ← HS.out]; exact (srt_app st x).symm
            rw [decide_eq_false hmem] at HCO
            clear hmem
            go_wp2_with (first | (go_at_call 84; refine HCO.out.mono ?_; rintro e w5 ⟨rfl, rfl⟩) | (at_builtin; refine wpList_app1m rfl _ _ 22 rfl elI rfl HM.os (by show Value.slice (some ⟨wr.heap.size, 0, none⟩) 1 1 = _; simp) rfl HM.bel.size _ HLs.out (by omega) (by omega) ?_; intro b6 c6 w6 ho6 hg6 hat6))
            have HM' := HM.turnS (by decide) hg6 (show Own w6 3 w.heap.size (.slice b6 (ms + 1) c6) (ints (st ++ [x])) by rw [ints_append]; exact ho6) (hat_new hat6)
            go_roundw
            case rel => exact ⟨⟨nx + 1, bput true b x, out, tr⟩, st ++ [x], rows, HI', HF', HB'.out, hcut, HM'⟩
            case measure => simp [sliceLen]; omega
    · by_cases hms0 : 0 < ms
      · by_cases hmK : ms < K
        case neg =>
          obtain ⟨sp, y, rfl, _, hy⟩ := HM.os.rd.int (k := 0) (by have := HMS.out; omega)
          clear hy
          have HWB : Hid (¬ (b.length < K ∧ nx < xs.length)) := fun hh => by have := HMB.out; have := HML.out; rw [List.length_drop] at this; omega
          have hbz : busy xs ⟨nx, b, out, tr⟩ := .inr (show 0 < b.length by have := HMB.out; omega)
          have HD := HI.desc
          have hout : out.length ≤ 24 := by have := HI.all; have := HI.read; dsimp only at *; omega
          have htr : tr.length ≤ 24 := by have := HI.trs; dsimp only at *; omega
          have hrws : rows.length ≤ 24 := by have := HM.rw.1; omega
          obtain ⟨y0, t0, rfl⟩ : ∃ y0 t0, b = y0 :: t0 := by
            cases b with
            | nil => have := HMB.out; simp only [List.length_nil] at this; omega
            | cons y t => exact ⟨y, t, rfl⟩
          have HE := bstep_write (once := once) (out := out) (tr := tr) HWB.out
          have HI' : BInv xs K ⟨nx, t0, out ++ [y0], tr ++ [y0 :: t0]⟩ := by have := HI.step (once := once) hK1 hbz; rw [HE] at this; exact this
          have HF' : Hid (finB xs K once ⟨nx, t0, out ++ [y0], tr ++ [y0 :: t0]⟩ = finB xs K once bS0) := by rw [Hid, ← HE, ← finB_busy hK1 hbz, HF.out]
          have HST : Hid (srt t0 = t0) := srt_asc (desc_tail HD)
          clear HE hbz HF HI HD HWB
          have HSO := Lib.hid (f_Sort _ st w.heap.size wr HM.os (by have := HMS.out; omega))
          rw [HS.out] at HSO
          have hm8 : ms ≤ 8 := by omega
          obtain ⟨at', ct, rfl, _, _⟩ := HM.ot.rd.form
          obtain ⟨ax, nx', cx, rfl, HNO, _, _⟩ := HM.ow.rd.formN
          go_wp2_with (go_at_call 85; refine HSO.out.mono ?_; rintro e w2 ⟨rfl, hs2, hg2⟩)
          have HM2 := HM.turnS (by decide) hg2 hs2 (fun g hg => .inl hg)
          clear HM HSO hg2 hs2
          go_wp2_with (first
            | (go_at_call 86; refine (f_Clone _ (y0 :: t0) _ HM2.os.rd (by have := HMB.out; omega)).mono ?_; rintro e w5 ⟨v5, rfl, h5, hb5⟩; obtain ⟨a5, m5, c5, rfl, hm5, _, _⟩ := h5.rd.formN; have hz5 := HM2.bel.size; have hz6 := hb5.size)
            | (at_builtin; refine wpList_app1 rfl _ _ 35 rfl elII rfl (HM2.ot.below hb5) (by show Value.slice (some ⟨w5.heap.size, 0, none⟩) 1 1 = _; simp) rfl (by omega) (by omega) (by omega) ?_; intro bt ct' w7 ht7 hg7 hat7))
          have HM7 := HM2.trace (by decide) hb5 h5 hg7 ht7
          clear HM2 h5 hb5 ht7 hg7 hat7 hz5 hz6
          clear hm5
          have hcy : w7.cell? sp = some (.int .i64 y0) := by simpa [Addr.add] using HM7.os.rd.cell_i (k := 0) (x := y0) rfl
          have hio : (ints out).length ≤ 24 := by rw [ints_length]; exact hout
          have i1 : (1 : Int) ≤ (ms : Int) := by omega
          have i2 : (0 : Int) < (ms : Int) := by omega
          have i4 : 0 < ms := by omega
          have i3 : (1 : Int) ≤ (cs : Int) := by omega
          have hz7 := HM7.bel.size
          go_region_held3 (fun wx => wx.cell? sp = some (.int .i64 y0))
            (first | exact hc8 | go_keep)
            ((refine step_app1 (by rfl) _ _ _ (by rfl) elI (by rfl) (by exact HM7.ow) (by rfl) (by rfl) (by exact hz7) (by omega) (by omega) ?_; intro b8 c8 w8 ho8 hg8 hat8; have HM8 := HM7.turnO (out' := out ++ [y0]) (by decide) hg8 (by rw [ints_append]; exact ho8) (hat_new hat8); have hc8 : w8.cell? sp = some (.int .i64 y0) := (by simpa [Addr.add] using HM8.os.rd.cell_i (k := 0) (x := y0) rfl)))
          all_goals
            have HM9 := HM8.cutS (st' := t0) (vs' := .slice (if cs = 1 then some sp else some (sp.add 1)) (ms - 1) (cs - 1)) (HM8.os.cut (k := 1) (by omega)) (cut_block (a := some sp) (n := ms))
            go_wp2
            go_roundw
            case rel => exact ⟨⟨nx, t0, out ++ [y0], tr ++ [y0 :: t0]⟩, t0, _, HI', HF', HST, hrl, HM9⟩
            case measure => simp [sliceLen]; omega
        case pos =>
          obtain ⟨sp, y, rfl, _, hy⟩ := HM.os.rd.int (k := 0) (by have := HMS.out; omega)
          clear hy
          have HWB : Hid (¬ (b.length < K ∧ nx < xs.length)) := fun hh => by have := HMB.out; have := HML.out; rw [List.length_drop] at this; omega
          have hbz : busy xs ⟨nx, b, out, tr⟩ := .inr (show 0 < b.length by have := HMB.out; omega)
          have HD := HI.desc
          have hout : out.length ≤ 24 := by have := HI.all; have := HI.read; dsimp only at *; omega
          have htr : tr.length ≤ 24 := by have := HI.trs; dsimp only at *; omega
          have hrws : rows.length ≤ 24 := by have := HM.rw.1; omega
          obtain ⟨y0, t0, rfl⟩ : ∃ y0 t0, b = y0 :: t0 := by
            cases b with
            | nil => have := HMB.out; simp only [List.length_nil] at this; omega
            | cons y t => exact ⟨y, t, rfl⟩
          have HE := bstep_write (once := once) (out := out) (tr := tr) HWB.out
          have HI' : BInv xs K ⟨nx, t0, out ++ [y0], tr ++ [y0 :: t0]⟩ := by have := HI.step (once := once) hK1 hbz; rw [HE] at this; exact this
          have HF' : Hid (finB xs K once ⟨nx, t0, out ++ [y0], tr ++ [y0 :: t0]⟩ = finB xs K once bS0) := by rw [Hid, ← HE, ← finB_busy hK1 hbz, HF.out]
          have HST : Hid (srt t0 = t0) := srt_asc (desc_tail HD)
          clear HE hbz HF HI HD HWB
          have HSO := Lib.hid (f_Sort _ st w.heap.size wr HM.os (by have := HMS.out; omega))
          rw [HS.out] at HSO
          have hm8 : ms ≤ 8 := by omega
          obtain ⟨at', ct, rfl, _, _⟩ := HM.ot.rd.form
          obtain ⟨ax, nx', cx, rfl, HNO, _, _⟩ := HM.ow.rd.formN
          go_wp2_with (go_at_call 85; refine HSO.out.mono ?_; rintro e w2 ⟨rfl, hs2, hg2⟩)
          have HM2 := HM.turnS (by decide) hg2 hs2 (fun g hg => .inl hg)
          clear HM HSO hg2 hs2
          go_wp2_with (first
            | (go_at_call 86; refine (f_Clone _ (y0 :: t0) _ HM2.os.rd (by have := HMB.out; omega)).mono ?_; rintro e w5 ⟨v5, rfl, h5, hb5⟩; obtain ⟨a5, m5, c5, rfl, hm5, _, _⟩ := h5.rd.formN; have hz5 := HM2.bel.size; have hz6 := hb5.size)
            | (at_builtin; refine wpList_app1 rfl _ _ 35 rfl elII rfl (HM2.ot.below hb5) (by show Value.slice (some ⟨w5.heap.size, 0, none⟩) 1 1 = _; simp) rfl (by omega) (by omega) (by omega) ?_; intro bt ct' w7 ht7 hg7 hat7))
          have HM7 := HM2.trace (by decide) hb5 h5 hg7 ht7
          clear HM2 h5 hb5 ht7 hg7 hat7 hz5 hz6
          clear hm5
          have hcy : w7.cell? sp = some (.int .i64 y0) := by simpa [Addr.add] using HM7.os.rd.cell_i (k := 0) (x := y0) rfl
          have hio : (ints out).length ≤ 24 := by rw [ints_length]; exact hout
          have i1 : (1 : Int) ≤ (ms : Int) := by omega
          have i2 : (0 : Int) < (ms : Int) := by omega
          have i4 : 0 < ms := by omega
          have i3 : (1 : Int) ≤ (cs : Int) := by omega
          have hz7 := HM7.bel.size
          go_region_held3 (fun wx => wx.cell? sp = some (.int .i64 y0))
            (first | exact hc8 | go_keep)
            ((refine step_app1 (by rfl) _ _ _ (by rfl) elI (by rfl) (by exact HM7.ow) (by rfl) (by rfl) (by exact hz7) (by omega) (by omega) ?_; intro b8 c8 w8 ho8 hg8 hat8; have HM8 := HM7.turnO (out' := out ++ [y0]) (by decide) hg8 (by rw [ints_append]; exact ho8) (hat_new hat8); have hc8 : w8.cell? sp = some (.int .i64 y0) := (by simpa [Addr.add] using HM8.os.rd.cell_i (k := 0) (x := y0) rfl)))
          all_goals
            have HM9 := HM8.cutS (st' := t0) (vs' := .slice (if cs = 1 then some sp else some (sp.add 1)) (ms - 1) (cs - 1)) (HM8.os.cut (k := 1) (by omega)) (cut_block (a := some sp) (n := ms))
            go_wp2
            go_roundw
            case rel => exact ⟨⟨nx, t0, out ++ [y0], tr ++ [y0 :: t0]⟩, t0, _, HI', HF', HST, hrl, HM9⟩
            case measure => simp [sliceLen]; omega
      · have hd : ¬ busy xs ⟨nx, b, out, tr⟩ := fun hh => by
          have := HML.out
          have := HMB.out
          rw [List.length_drop] at *
          rcases hh with hh | hh <;> dsimp only at hh <;> omega
        have HFO : Hid (bOut xs K once = out) := by rw [Hid, bOut, ← HF.out, finB_done hd]
        have HFT : Hid (bTr xs K once = tr) := by rw [Hid, bTr, ← HF.out, finB_done hd]
        clear hd HF HI HS
        go_wp2
        go_ret2
        rw [HFO.out, HFT.out]
        exact HM.ret

end Go.Proofs.Ytlbakbachcpifaa
