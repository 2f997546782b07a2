/- Joined texts of the proof: Apply, Apply2, Buf2, Buf3, BufC, BufD. -/
import Derived.WalkKit
import Derived.WalkSpells
import Derived.WalkLawsBesides
import Derived.Deep.Draws
import Derived.Lib.Hide
import Derived.RegionTactic
import Derived.Test.YtggblfnajeikjaaGreatRows
import Derived.BigQuiet
import Derived.Deep.QuietTactic
import Derived.Deep.RegionHeld3
import Derived.Lib.LazyBuf
import Derived.Test.YtggblfnajeikjaaGreatJ1
import Derived.Test.YtggblfnajeikjaaGreatJ2
import Derived.Test.YtggblfnajeikjaaGreatJ4
import Derived.Test.YtggblfnajeikjaaGreatJ6
import Derived.Test.YtggblfnajeikjaaGreatJ8
import Derived.Test.YtggblfnajeikjaaGreatJ10
namespace Go.Proofs.YtggblfnajeikjaaGreat
open Go.RowKit
set_option linter.unusedVariables false
set_option linter.unusedSimpArgs false

def swM (l : List Int) (a b : Nat) : List Int := (l.set a (min (l.getD a 0) (l.getD b 0))).set b (max (l.getD a 0) (l.getD b 0))
def apM (xss : List (List Int)) (xs : List Int) : Nat → List Int
  | 0 => xs
  | k + 1 => match xss[k]? with
    | some [a, b] => swM (apM xss xs k) a.toNat b.toNat
    | _ => apM xss xs k
theorem swM_length (l : List Int) (a b : Nat) : (swM l a b).length = l.length := by simp [swM]
theorem apM_length (xss : List (List Int)) (xs : List Int) : ∀ k, (apM xss xs k).length = xs.length
  | 0 => rfl
  | k + 1 => by
    have ih := apM_length xss xs k
    simp only [apM]
    split
    · rw [swM_length]; exact ih
    · exact ih
theorem apM_succ {xss : List (List Int)} {xs : List Int} {k a b : Nat} {x y : Int} (h : xss[k]? = some [(a : Int), (b : Int)]) (hx : (apM xss xs k)[a]? = some x) (hy : (apM xss xs k)[b]? = some y) :
    apM xss xs (k + 1) = ((apM xss xs k).set a (if y < x then y else x)).set b (if x < y then y else x) := by
  simp only [apM, h, Int.toNat_natCast, swM, List.getD_eq_getElem?_getD, hx, hy, Option.getD_some]
  congr 1
  · congr 1
    split <;> omega
  · split <;> omega
def Pairs (N : Nat) (xss : List (List Int)) : Prop := ∀ (k : Nat) (xs : List Int), xss[k]? = some xs → ∃ a b : Nat, xs = [(a : Int), (b : Int)] ∧ a < N ∧ b < N ∧ a ≠ b

end Go.Proofs.YtggblfnajeikjaaGreat

namespace Go.Proofs.YtggblfnajeikjaaGreat
open Go.RowKit
set_option linter.unusedVariables false
set_option linter.unusedSimpArgs false

set_option maxHeartbeats 2000000 in
theorem i_apply (N : Nat) (n : Int) (v u : Value) (xss : List (List Int)) (xs : List Int) (w : World) (h : Rd2 w v xss) (hu : Rd w u (ints xs)) (hN : xs.length = N) (hl : N ≤ 2000000) (HW : Hid (Pairs N xss)) :
    Calls Tryz.prog 62 #[.agg #[.int .i64 n, v], u] w (RetOwn 3 (ints (apM xss xs xss.length)) w) := by
  obtain ⟨a0, c0, rfl, _, _⟩ := h.form
  obtain ⟨au, cu, rfl, hu2, hu3⟩ := hu.formi
  have HLn := Lib.hid hN
  clear hN
  have hlx : xs.length ≤ 2000000 := by have := HLn.out; omega
  have hbA : Below w.heap.size w (w.alloc (.cells #[.int .i64 n, .slice a0 xss.length c0] 25)) := (Below.refl _ _).alloc (Nat.le_refl _) _
  have hu' := hu.alloc (.cells #[.int .i64 n, .slice a0 xss.length c0] 25)
  have bx := Lib.hid (box_cells w (.int .i64 n) (.slice a0 xss.length c0) 25)
  go_enter Tryz.func62, Tryz.ntmps62
  go_wp2_with (go_at_call 70; refine (f_Clone _ xs _ hu' hlx).mono ?_; rintro e w2 ⟨vo, rfl, ho2, hb2⟩; obtain ⟨b, cc, rfl, _, _⟩ := ho2.rd.formi; have c1 : w2.cell? ⟨w.heap.size, 1, none⟩ = some (.slice a0 xss.length c0) := (hb2.cell (by simp)).trans bx.out.2)
  have hz2 : w.heap.size + 1 ≤ w2.heap.size := by have := hb2.size; simp at this; omega
  replace hb2 := hbA.trans (hb2.mono hbA.size)
  have e0 : ints xs = ints (apM xss xs 0) := rfl
  replace ho2 := ho2.mono (B' := w.heap.size) (by simp)
  rw [e0] at ho2
  clear hu' e0 bx hz2 c1
  go_loopw [15] (fun i wr => ∃ k : Nat, k ≤ xss.length ∧ i = .int .i64 k ∧ Own wr 3 w.heap.size (.slice b xs.length cc) (ints (apM xss xs k)) ∧ Below w.heap.size w wr)
    (fun i _ => xss.length - (intOf i).toNat)
  case atStart => exact ⟨0, Nat.zero_le _, rfl, ho2, hb2⟩
  case round =>
    clear ho2 hb2
    obtain ⟨k, hkl, rfl, ho, hb⟩ := hrel
    by_cases hlt : k < xss.length
    · obtain ⟨ad, bx, m, d, row, rfl, hc0, hx, hm, hmd, hd, hr⟩ := h.row hlt
      obtain ⟨x, y, rfl, hxN, hyN, hxy⟩ := HW.out k row hx.out
      obtain rfl : m = 2 := hm.out
      obtain ⟨z, x', rfl, hcx, hxx⟩ := hr.int (k := 0) (by simp)
      obtain ⟨z', y', hz, hcy, hyy⟩ := hr.int (k := 1) (by simp)
      obtain rfl : z = z' := by injection hz
      clear hz
      have e1 := hxx.out
      have e2 := hyy.out
      simp only [List.getElem?_cons_zero, List.getElem?_cons_succ, Option.some.injEq] at e1 e2
      subst e1 e2
      rw [add_succ] at hcy
      have hcx' : w.cell? z = some (.int .i64 x) := by simpa [Addr.add] using hcx
      clear hcx
      have HSS : Hid (∀ wx : World, Below w.heap.size w wx → wx.cell? (ad.add k) = some (.slice (some z) 2 d) ∧ wx.cell? z = some (.int .i64 x) ∧ wx.cell? ⟨z.block, z.off + (0 + 1), none⟩ = some (.int .i64 y)) := by
        intro wx hbx
        exact ⟨(hbx.cell (World.block_lt_of_cell? w _ hc0)).trans hc0, (hbx.cell (World.block_lt_of_cell? w _ hcx')).trans hcx', (hbx.cell (World.block_lt_of_cell? w _ hcy)).trans hcy⟩
      clear hc0 hcx' hcy
      obtain ⟨q1, q2, q3⟩ := HSS.out _ hb
      have HLk : Hid ((apM xss xs k).length = N) := by rw [Hid, apM_length]; exact HLn.out
      have HA := Lib.hid (fun (p q : Int) => apM_succ (xs := xs) (x := p) (y := q) hx.out)
      obtain ⟨l, hl0⟩ : ∃ l, apM xss xs k = l := ⟨_, rfl⟩
      rw [hl0] at ho HLk HA
      clear hl0
      obtain ⟨bo, p, rfl, hcp, hp⟩ := ho.rd.int (k := x) (by rw [HLk.out]; omega)
      obtain ⟨bo', q, hbo, hcq, hq⟩ := ho.rd.int (k := y) (by rw [HLk.out]; omega)
      obtain rfl : bo = bo' := by injection hbo
      clear hbo
      have HS := Lib.hid (HA.out p q hp.out hq.out)
      clear HA
      have hx1 : x < l.length := by rw [HLk.out]; omega
      have hy1 : y < l.length := by rw [HLk.out]; omega
      have i2 : (x : Int) < (xs.length : Int) := by have := HLn.out; omega
      have i4 : (y : Int) < (xs.length : Int) := by have := HLn.out; omega
      go_wp2
      go_quiet (fail)
      clear q1 q2 q3 hcp hcq
      rename_i nq
      have hb1 : Below w.heap.size w (wr.drewN nq) := hb.trans (Dr.below ((Dr.refl _).step _) _)
      obtain ⟨wv, hwv⟩ : ∃ wv, wr.drewN nq = wv := ⟨_, rfl⟩
      have ho1 := ho.drewN nq
      rw [hwv] at hb1 ho1 ⊢
      clear hwv ho hb
      obtain ⟨q1, q2, q3⟩ := HSS.out _ hb1
      have fz1 := ho1.frozen rfl x
      have fz0 := ho1.frozen rfl y
      have hta := ho1.rd.cell_int' hp.out
      have htb := ho1.rd.cell_int' hq.out
      have ht2 := (ho1.seti rfl hx1 (if q < p then q else p)).1
      have hb2 := ho1.below_set rfl hx1 (.int .i64 (if q < p then q else p)) hb1 (Nat.le_refl _)
      obtain ⟨r1, r2, r3⟩ := HSS.out _ hb2
      have fz3 := ht2.frozen rfl y
      have hy2 : y < (l.set x (if q < p then q else p)).length := by rw [List.length_set]; exact hy1
      have htb2 := ht2.rd.cell_int' (show (l.set x (if q < p then q else p))[y]? = some q by rw [List.getElem?_set_ne (by omega)]; exact hq.out)
      have ht3 := (ht2.seti rfl hy2 (if p < q then q else p)).1
      have hb3 := ht2.below_set rfl hy2 (.int .i64 (if p < q then q else p)) hb2 (Nat.le_refl _)
      obtain ⟨s1, s2, s3⟩ := HSS.out _ hb3
      go_wp2
      go_region_held3 (fun wx => wx.cell? z = some (.int .i64 x) ∧ wx.cell? ⟨z.block, z.off + (0 + 1), none⟩ = some (.int .i64 y) ∧ wx.frozen? (bo.add x) = false ∧ wx.frozen? (bo.add y) = false)
        (first | go_keep | (refine ⟨r2, r3, ?_, ?_⟩ <;> go_keep) | (refine ⟨s2, s3, ?_, ?_⟩ <;> go_keep))
        (fail)
      all_goals
        go_wp2
        go_roundw
        case rel => exact ⟨k + 1, by omega, by go_num, by rw [HS.out]; exact ht3, ⟨hb3.os, hb3.tape, hb3.output, hb3.size, hb3.block⟩⟩
        case measure => simp [intOf]; omega
    · obtain rfl : xss.length = k := by omega
      go_wp2
      go_ret
      exact ⟨_, rfl, ho, hb⟩

end Go.Proofs.YtggblfnajeikjaaGreat

namespace Go.Proofs.YtggblfnajeikjaaGreat
open Go.RowKit
set_option linter.unusedVariables false
set_option linter.unusedSimpArgs false

theorem bstep_put {xs : List Int} {k nx : Nat} {once : Bool} {b out : List Int} {tr : List (List Int)} {x : Int} (h1 : b.length < k) (hx : xs[nx]? = some x) : bstep xs k once ⟨nx, b, out, tr⟩ = ⟨nx + 1, bput once b x, out, tr⟩ := by
  have := (List.getElem?_eq_some_iff.1 hx).1
  rw [bstep, if_pos ⟨h1, this⟩, List.getD_eq_getElem?_getD, hx]
  rfl
theorem bstep_write {xs : List Int} {k nx : Nat} {once : Bool} {y : Int} {t out : List Int} {tr : List (List Int)} (h : ¬ ((y :: t).length < k ∧ nx < xs.length)) : bstep xs k once ⟨nx, y :: t, out, tr⟩ = ⟨nx, t, out ++ [y], tr ++ [y :: t]⟩ := by
  rw [bstep, if_neg h]
  rfl

def sliceLen : Value → Nat
  | .slice _ n _ => n
  | _ => 0

set_option maxHeartbeats 4000000 in
theorem i_buffered (v : Value) (xs : List Int) (K : Nat) (once : Bool) (w : World) (h : Rd w v (ints xs)) (hl : xs.length ≤ 24) (hK1 : 1 ≤ K) (hK8 : K ≤ 8) :
    Calls Tryz.prog 79 #[v, .int .i64 K, .bool once] w (RetBuf 3 33 (bOut xs K once) (bTr xs K once) w) := by
  obtain ⟨a, c, rfl, h2, h3⟩ := h.formi
  have hM0 : BufM 3 33 w (((w.alloc (.cells #[] 3)).alloc (.cells #[] 33)).alloc (.cells #[] 3)) [] [] [] [] (.slice (some ⟨w.heap.size, 0, none⟩) 0 0) (.slice (some ⟨w.heap.size + 1, 0, none⟩) 0 0) (.slice (some ⟨w.heap.size + 1 + 1, 0, none⟩) 0 0) := by
    have e1 := ((Own.lit0 w 3 (Nat.le_refl _)).alloc (.cells #[] 33)).alloc (.cells #[] 3)
    have e2 := (Own.lit0 (w.alloc (.cells #[] 3)) 33 (B := w.heap.size) (by simp)).alloc (.cells #[] 3)
    have e3 := Own.lit0 ((w.alloc (.cells #[] 3)).alloc (.cells #[] 33)) 3 (B := w.heap.size) (by simp; omega)
    rw [show (w.alloc (.cells #[] 3)).heap.size = w.heap.size + 1 by simp] at e2
    rw [show ((w.alloc (.cells #[] 3)).alloc (.cells #[] 33)).heap.size = w.heap.size + 1 + 1 by simp] at e3
    exact ⟨e1, e3, fun g h1 h2 => by have h1' : w.heap.size = g := Option.some.inj h1; have h2' : w.heap.size + 1 + 1 = g := Option.some.inj h2; omega, by simpa [ints] using e2, RowsOwn.nil _ _ _ _, fun r hr => by simp at hr, fun r hr => by simp at hr, (((Below.refl _ _).alloc (Nat.le_refl _) _).alloc (by simp) _).alloc (by simp; omega) _⟩
  go_enter Tryz.func79, Tryz.ntmps79
  go_wp2
  go_loopw [0, 8, 9, 10] (fun vl vo vt vs wr => ∃ (S : BS) (st : List Int) (rows : List Value), BInv xs K S ∧ Hid (finB xs K once S = finB xs K once bS0) ∧ Hid (srt st = S.b) ∧ Rd w vl (ints (xs.drop S.next)) ∧ BufM 3 33 w wr S.out st S.tr rows vo vt vs)
    (fun vl _ _ vs _ => 2 * sliceLen vl + sliceLen vs)
  case atStart => exact ⟨bS0, [], [], BInv.start _ _, rfl, rfl, by simpa [bS0] using h, hM0⟩
  case round =>
    clear hM0
    obtain ⟨⟨nx, b, out, tr⟩, st, rows, HI, HF, HS, hrl, HM⟩ := hrel
    dsimp only at HM hrl
    obtain ⟨al, ml, cl, rfl, HML, hml, hml2⟩ := hrl.formN
    obtain ⟨sl, ms, cs, rfl, HMS, hms, hms2⟩ := HM.os.rd.formN
    have hmb : ms = b.length := by have h1 := HMS.out; have h2 := congrArg List.length HS.out; rw [srt_length] at h2; dsimp only at h2; omega
    have hroom : b.length ≤ K := HI.room
    replace HS : Hid (srt st = b) := HS
    have hmsK : ms ≤ K := by omega
    have HMB := Lib.hid hmb
    clear hmb hroom
    by_cases hml0 : 0 < ml
    · by_cases hmK : ms < K
      case neg =>
        obtain ⟨sp, y, rfl, _, hy⟩ := HM.os.rd.int (k := 0) (by have := HMS.out; omega)
        clear hy
        have HWB : Hid (¬ (b.length < K ∧ nx < xs.length)) := fun hh => by have := HMB.out; have := HML.out; rw [List.length_drop] at this; omega
        have hbz : busy xs ⟨nx, b, out, tr⟩ := .inr (show 0 < b.length by have := HMB.out; omega)
        have HD := HI.desc
        have hout : out.length ≤ 24 := by have := HI.all; have := HI.read; dsimp only at *; omega
        have htr : tr.length ≤ 24 := by have := HI.trs; dsimp only at *; omega
        have hrws : rows.length ≤ 24 := by have := HM.rw.1; omega
        obtain ⟨y0, t0, rfl⟩ : ∃ y0 t0, b = y0 :: t0 := by
          cases b with
          | nil => have := HMB.out; simp only [List.length_nil] at this; omega
          | cons y t => exact ⟨y, t, rfl⟩
        have HE := bstep_write (once := once) (out := out) (tr := tr) HWB.out
        have HI' : BInv xs K ⟨nx, t0, out ++ [y0], tr ++ [y0 :: t0]⟩ := by have := HI.step (once := once) hK1 hbz; rw [HE] at this; exact this
        have HF' : Hid (finB xs K once ⟨nx, t0, out ++ [y0], tr ++ [y0 :: t0]⟩ = finB xs K once bS0) := by rw [Hid, ← HE, ← finB_busy hK1 hbz, HF.out]
        have HST : Hid (srt t0 = t0) := srt_asc (desc_tail HD)
        clear HE hbz HF HI HD HWB
        have HSO := Lib.hid (f_Sort _ st w.heap.size wr HM.os (by have := HMS.out; omega))
        rw [HS.out] at HSO
        have hm8 : ms ≤ 8 := by omega
        obtain ⟨at', ct, rfl, _, _⟩ := HM.ot.rd.form
        obtain ⟨ax, nx', cx, rfl, HNO, _, _⟩ := HM.ow.rd.formN
        go_wp2_with (go_at_call 111; refine HSO.out.mono ?_; rintro e w2 ⟨rfl, hs2, hg2⟩)
        have HM2 := HM.turnS (by decide) hg2 hs2 (fun g hg => .inl hg)
        clear HM HSO hg2 hs2
        go_wp2_with (first
          | (go_at_call 70; refine (f_Clone _ (y0 :: t0) _ HM2.os.rd (by have := HMB.out; omega)).mono ?_; rintro e w5 ⟨v5, rfl, h5, hb5⟩; obtain ⟨a5, m5, c5, rfl, hm5, _, _⟩ := h5.rd.formN; have hz5 := HM2.bel.size; have hz6 := hb5.size)
          | (at_builtin; refine wpList_app1 rfl _ _ 23 rfl elII rfl (HM2.ot.below hb5) (by show Value.slice (some ⟨w5.heap.size, 0, none⟩) 1 1 = _; simp) rfl (by omega) (by omega) (by omega) ?_; intro bt ct' w7 ht7 hg7 hat7))
        have HM7 := HM2.trace (by decide) hb5 h5 hg7 ht7
        clear HM2 h5 hb5 ht7 hg7 hat7 hz5 hz6
        clear hm5
        have hcy : w7.cell? sp = some (.int .i64 y0) := by simpa [Addr.add] using HM7.os.rd.cell_i (k := 0) (x := y0) rfl
        have hio : (ints out).length ≤ 24 := by rw [ints_length]; exact hout
        have i1 : (1 : Int) ≤ (ms : Int) := by omega
        have i2 : (0 : Int) < (ms : Int) := by omega
        have i4 : 0 < ms := by omega
        have i3 : (1 : Int) ≤ (cs : Int) := by omega
        have hz7 := HM7.bel.size
        go_region_held3 (fun wx => wx.cell? sp = some (.int .i64 y0))
          (first | exact hc8 | go_keep)
          ((refine step_app1 (by rfl) _ _ _ (by rfl) elI (by rfl) (by exact HM7.ow) (by rfl) (by rfl) (by exact hz7) (by omega) (by omega) ?_; intro b8 c8 w8 ho8 hg8 hat8; have HM8 := HM7.turnO (out' := out ++ [y0]) (by decide) hg8 (by rw [ints_append]; exact ho8) (hat_new hat8); have hc8 : w8.cell? sp = some (.int .i64 y0) := (by simpa [Addr.add] using HM8.os.rd.cell_i (k := 0) (x := y0) rfl)))
        all_goals
          have HM9 := HM8.cutS (st' := t0) (vs' := .slice (if cs = 1 then some sp else some (sp.add 1)) (ms - 1) (cs - 1)) (HM8.os.cut (k := 1) (by omega)) (cut_block (a := some sp) (n := ms))
          go_wp2
          go_roundw
          case rel => exact ⟨⟨nx, t0, out ++ [y0], tr ++ [y0 :: t0]⟩, t0, _, HI', HF', HST, hrl, HM9⟩
          case measure => simp [sliceLen]; omega
      case pos =>
        obtain ⟨p, x, rfl, hcx, hx⟩ := hrl.int (k := 0) (by have := HML.out; omega)
        have hx' : xs[nx]? = some x := by simpa using hx.out
        have hcx' : wr.cell? p = some (.int .i64 x) := (HM.bel.cell (World.block_lt_of_cell? w _ (show w.cell? p = some (.int .i64 x) by simpa [Addr.add] using hcx))).trans (by simpa [Addr.add] using hcx)
        clear hcx hx
        have hcut : Rd w (.slice (if cl = 1 then some p else some (p.add 1)) (ml - 1) (cl - 1)) (ints (xs.drop (nx + 1))) := by
          have := hrl.cut (k := 1) (by omega)
          rw [ints_drop, List.drop_drop] at this
          exact this
        have hbz : busy xs ⟨nx, b, out, tr⟩ := .inl (List.getElem?_eq_some_iff.1 hx').1
        have HE := bstep_put (once := once) (out := out) (tr := tr) (show b.length < K by have := HMB.out; omega) hx'
        have HI' : BInv xs K ⟨nx + 1, bput once b x, out, tr⟩ := by have := HI.step (once := once) hK1 hbz; rw [HE] at this; exact this
        have HF' : Hid (finB xs K once ⟨nx + 1, bput once b x, out, tr⟩ = finB xs K once bS0) := by rw [Hid, ← HE, ← finB_busy hK1 hbz, HF.out]
        clear HE hbz HF HI hx'
        have i1 : (1 : Int) ≤ (ml : Int) := by omega
        have hst24 : ms ≤ 8 := by omega
        have HLs : Hid ((ints st).length = ms) := by rw [Hid, ints_length, HMS.out]
        cases once
        · have HB' : Hid (srt (st ++ [x]) = bput false b x) := by rw [Hid, bput, if_neg (by simp), ← HS.out]; exact (srt_app st x).symm
          go_wp2_with ((at_builtin; refine wpList_app1m rfl _ _ 33 rfl elI rfl HM.os (by show Value.slice (some ⟨wr.heap.size, 0, none⟩) 1 1 = _; simp) rfl HM.bel.size _ HLs.out (by omega) (by omega) ?_; intro b6 c6 w6 ho6 hg6 hat6))
          have HM' := HM.turnS (by decide) hg6 (show Own w6 3 w.heap.size (.slice b6 (ms + 1) c6) (ints (st ++ [x])) by rw [ints_append]; exact ho6) (hat_new hat6)
          go_roundw
          case rel => exact ⟨⟨nx + 1, bput false b x, out, tr⟩, st ++ [x], rows, HI', HF', HB'.out, hcut, HM'⟩
          case measure => simp [sliceLen]; omega
        · have HCO := Lib.hid (f_Contains _ st x wr HM.os.rd)
          by_cases hmem : x ∈ st
          · have HB' : Hid (srt st = bput true b x) := by rw [Hid, bput, if_pos ⟨rfl, by rw [← HS.out]; exact (srt_mem st x).2 hmem⟩]; exact HS.out
            rw [decide_eq_true hmem] at HCO
            clear hmem
            go_wp2_with (go_at_call 92; refine HCO.out.mono ?_; rintro e w5 ⟨rfl, rfl⟩)
            go_roundw
            case rel => exact ⟨⟨nx + 1, bput true b x, out, tr⟩, st, rows, HI', HF', HB'.out, hcut, HM⟩
            case measure => simp [sliceLen]; omega
          · have HB' : Hid (srt (st ++ [x]) = bput true b x) := by rw [Hid, bput, if_neg (by rw [← HS.out, srt_mem]; simp [hmem]), ← HS.out]; exact (srt_app st x).symm
            rw [decide_eq_false hmem] at HCO
            clear hmem
            go_wp2_with (first | (go_at_call 92; refine HCO.out.mono ?_; rintro e w5 ⟨rfl, rfl⟩) | (at_builtin; refine wpList_app1m rfl _ _ 33 rfl elI rfl HM.os (by show Value.slice (some ⟨wr.heap.size, 0, none⟩) 1 1 = _; simp) rfl HM.bel.size _ HLs.out (by omega) (by omega) ?_; intro b6 c6 w6 ho6 hg6 hat6))
            have HM' := HM.turnS (by decide) hg6 (show Own w6 3 w.heap.size (.slice b6 (ms + 1) c6) (ints (st ++ [x])) by rw [ints_append]; exact ho6) (hat_new hat6)
            go_roundw
            case rel => exact ⟨⟨nx + 1, bput true b x, out, tr⟩, st ++ [x], rows, HI', HF', HB'.out, hcut, HM'⟩
            case measure => simp [sliceLen]; omega
    · by_cases hms0 : 0 < ms
      · by_cases hmK : ms < K
        case neg =>
          obtain ⟨sp, y, rfl, _, hy⟩ := HM.os.rd.int (k := 0) (by have := HMS.out; omega)
          clear hy
          have HWB : Hid (¬ (b.length < K ∧ nx < xs.length)) := fun hh => by have := HMB.out; have := HML.out; rw [List.length_drop] at this; omega
          have hbz : busy xs ⟨nx, b, out, tr⟩ := .inr (show 0 < b.length by have := HMB.out; omega)
          have HD := HI.desc
          have hout : out.length ≤ 24 := by have := HI.all; have := HI.read; dsimp only at *; omega
          have htr : tr.length ≤ 24 := by have := HI.trs; dsimp only at *; omega
          have hrws : rows.length ≤ 24 := by have := HM.rw.1; omega
          obtain ⟨y0, t0, rfl⟩ : ∃ y0 t0, b = y0 :: t0 := by
            cases b with
            | nil => have := HMB.out; simp only [List.length_nil] at this; omega
            | cons y t => exact ⟨y, t, rfl⟩
          have HE := bstep_write (once := once) (out := out) (tr := tr) HWB.out
          have HI' : BInv xs K ⟨nx, t0, out ++ [y0], tr ++ [y0 :: t0]⟩ := by have := HI.step (once := once) hK1 hbz; rw [HE] at this; exact this
          have HF' : Hid (finB xs K once ⟨nx, t0, out ++ [y0], tr ++ [y0 :: t0]⟩ = finB xs K once bS0) := by rw [Hid, ← HE, ← finB_busy hK1 hbz, HF.out]
          have HST : Hid (srt t0 = t0) := srt_asc (desc_tail HD)
          clear HE hbz HF HI HD HWB
          have HSO := Lib.hid (f_Sort _ st w.heap.size wr HM.os (by have := HMS.out; omega))
          rw [HS.out] at HSO
          have hm8 : ms ≤ 8 := by omega
          obtain ⟨at', ct, rfl, _, _⟩ := HM.ot.rd.form
          obtain ⟨ax, nx', cx, rfl, HNO, _, _⟩ := HM.ow.rd.formN
          go_wp2_with (go_at_call 111; refine HSO.out.mono ?_; rintro e w2 ⟨rfl, hs2, hg2⟩)
          have HM2 := HM.turnS (by decide) hg2 hs2 (fun g hg => .inl hg)
          clear HM HSO hg2 hs2
          go_wp2_with (first
            | (go_at_call 70; refine (f_Clone _ (y0 :: t0) _ HM2.os.rd (by have := HMB.out; omega)).mono ?_; rintro e w5 ⟨v5, rfl, h5, hb5⟩; obtain ⟨a5, m5, c5, rfl, hm5, _, _⟩ := h5.rd.formN; have hz5 := HM2.bel.size; have hz6 := hb5.size)
            | (at_builtin; refine wpList_app1 rfl _ _ 23 rfl elII rfl (HM2.ot.below hb5) (by show Value.slice (some ⟨w5.heap.size, 0, none⟩) 1 1 = _; simp) rfl (by omega) (by omega) (by omega) ?_; intro bt ct' w7 ht7 hg7 hat7))
          have HM7 := HM2.trace (by decide) hb5 h5 hg7 ht7
          clear HM2 h5 hb5 ht7 hg7 hat7 hz5 hz6
          clear hm5
          have hcy : w7.cell? sp = some (.int .i64 y0) := by simpa [Addr.add] using HM7.os.rd.cell_i (k := 0) (x := y0) rfl
          have hio : (ints out).length ≤ 24 := by rw [ints_length]; exact hout
          have i1 : (1 : Int) ≤ (ms : Int) := by omega
          have i2 : (0 : Int) < (ms : Int) := by omega
          have i4 : 0 < ms := by omega
          have i3 : (1 : Int) ≤ (cs : Int) := by omega
          have hz7 := HM7.bel.size
          go_region_held3 (fun wx => wx.cell? sp = some (.int .i64 y0))
            (first | exact hc8 | go_keep)
            ((refine step_app1 (by rfl) _ _ _ (by rfl) elI (by rfl) (by exact HM7.ow) (by rfl) (by rfl) (by exact hz7) (by omega) (by omega) ?_; intro b8 c8 w8 ho8 hg8 hat8; have HM8 := HM7.turnO (out' := out ++ [y0]) (by decide) hg8 (by rw [ints_append]; exact ho8) (hat_new hat8); have hc8 : w8.cell? sp = some (.int .i64 y0) := (by simpa [Addr.add] using HM8.os.rd.cell_i (k := 0) (x := y0) rfl)))
          all_goals
            have HM9 := HM8.cutS (st' := t0) (vs' := .slice (if cs = 1 then some sp else some (sp.add 1)) (ms - 1) (cs - 1)) (HM8.os.cut (k := 1) (by omega)) (cut_block (a := some sp) (n := ms))
            go_wp2
            go_roundw
            case rel => exact ⟨⟨nx, t0, out ++ [y0], tr ++ [y0 :: t0]⟩, t0, _, HI', HF', HST, hrl, HM9⟩
            case measure => simp [sliceLen]; omega
        case pos =>
          obtain ⟨sp, y, rfl, _, hy⟩ := HM.os.rd.int (k := 0) (by have := HMS.out; omega)
          clear hy
          have HWB : Hid (¬ (b.length < K ∧ nx < xs.length)) := fun hh => by have := HMB.out; have := HML.out; rw [List.length_drop] at this; omega
          have hbz : busy xs ⟨nx, b, out, tr⟩ := .inr (show 0 < b.length by have := HMB.out; omega)
          have HD := HI.desc
          have hout : out.length ≤ 24 := by have := HI.all; have := HI.read; dsimp only at *; omega
          have htr : tr.length ≤ 24 := by have := HI.trs; dsimp only at *; omega
          have hrws : rows.length ≤ 24 := by have := HM.rw.1; omega
          obtain ⟨y0, t0, rfl⟩ : ∃ y0 t0, b = y0 :: t0 := by
            cases b with
            | nil => have := HMB.out; simp only [List.length_nil] at this; omega
            | cons y t => exact ⟨y, t, rfl⟩
          have HE := bstep_write (once := once) (out := out) (tr := tr) HWB.out
          have HI' : BInv xs K ⟨nx, t0, out ++ [y0], tr ++ [y0 :: t0]⟩ := by have := HI.step (once := once) hK1 hbz; rw [HE] at this; exact this
          have HF' : Hid (finB xs K once ⟨nx, t0, out ++ [y0], tr ++ [y0 :: t0]⟩ = finB xs K once bS0) := by rw [Hid, ← HE, ← finB_busy hK1 hbz, HF.out]
          have HST : Hid (srt t0 = t0) := srt_asc (desc_tail HD)
          clear HE hbz HF HI HD HWB
          have HSO := Lib.hid (f_Sort _ st w.heap.size wr HM.os (by have := HMS.out; omega))
          rw [HS.out] at HSO
          have hm8 : ms ≤ 8 := by omega
          obtain ⟨at', ct, rfl, _, _⟩ := HM.ot.rd.form
          obtain ⟨ax, nx', cx, rfl, HNO, _, _⟩ := HM.ow.rd.formN
          go_wp2_with (go_at_call 111; refine HSO.out.mono ?_; rintro e w2 ⟨rfl, hs2, hg2⟩)
          have HM2 := HM.turnS (by decide) hg2 hs2 (fun g hg => .inl hg)
          clear HM HSO hg2 hs2
          go_wp2_with (first
            | (go_at_call 70; refine (f_Clone _ (y0 :: t0) _ HM2.os.rd (by have := HMB.out; omega)).mono ?_; rintro e w5 ⟨v5, rfl, h5, hb5⟩; obtain ⟨a5, m5, c5, rfl, hm5, _, _⟩ := h5.rd.formN; have hz5 := HM2.bel.size; have hz6 := hb5.size)
            | (at_builtin; refine wpList_app1 rfl _ _ 23 rfl elII rfl (HM2.ot.below hb5) (by show Value.slice (some ⟨w5.heap.size, 0, none⟩) 1 1 = _; simp) rfl (by omega) (by omega) (by omega) ?_; intro bt ct' w7 ht7 hg7 hat7))
          have HM7 := HM2.trace (by decide) hb5 h5 hg7 ht7
          clear HM2 h5 hb5 ht7 hg7 hat7 hz5 hz6
          clear hm5
          have hcy : w7.cell? sp = some (.int .i64 y0) := by simpa [Addr.add] using HM7.os.rd.cell_i (k := 0) (x := y0) rfl
          have hio : (ints out).length ≤ 24 := by rw [ints_length]; exact hout
          have i1 : (1 : Int) ≤ (ms : Int) := by omega
          have i2 : (0 : Int) < (ms : Int) := by omega
          have i4 : 0 < ms := by omega
          have i3 : (1 : Int) ≤ (cs : Int) := by omega
          have hz7 := HM7.bel.size
          go_region_held3 (fun wx => wx.cell? sp = some (.int .i64 y0))
            (first | exact hc8 | go_keep)
            ((refine step_app1 (by rfl) _ _ _ (by rfl) elI (by rfl) (by exact HM7.ow) (by rfl) (by rfl) (by exact hz7) (by omega) (by omega) ?_; intro b8 c8 w8 ho8 hg8 hat8; have HM8 := HM7.turnO (out' := out ++ [y0]) (by decide) hg8 (by rw [ints_append]; exact ho8) (hat_new hat8); have hc8 : w8.cell? sp = some (.int .i64 y0) := (by simpa [Addr.add] using HM8.os.rd.cell_i (k := 0) (x := y0) rfl)))
          all_goals
            have HM9 := HM8.cutS (st' := t0) (vs' := .slice (if cs = 1 then some sp else some (sp.add 1)) (ms - 1) (cs - 1)) (HM8.os.cut (k := 1) (by omega)) (cut_block (a := some sp) (n := ms))
            go_wp2
            go_roundw
            case rel => exact ⟨⟨nx, t0, out ++ [y0], tr ++ [y0 :: t0]⟩, t0, _, HI', HF', HST, hrl, HM9⟩
            case measure => simp [sliceLen]; omega
      · have hd : ¬ busy xs ⟨nx, b, out, tr⟩ := fun hh => by
          have := HML.out
          have := HMB.out
          rw [List.length_drop] at *
          rcases hh with hh | hh <;> dsimp only at hh <;> omega
        have HFO : Hid (bOut xs K once = out) := by rw [Hid, bOut, ← HF.out, finB_done hd]
        have HFT : Hid (bTr xs K once = tr) := by rw [Hid, bTr, ← HF.out, finB_done hd]
        clear hd HF HI HS
        go_wp2
        go_ret2
        rw [HFO.out, HFT.out]
        exact HM.ret

end Go.Proofs.YtggblfnajeikjaaGreat

namespace Go.Proofs.YtggblfnajeikjaaGreat
open Go.RowKit
set_option linter.unusedVariables false
set_option linter.unusedSimpArgs false

theorem BufM.fresh {E EO : Nat} {w wr w2 : World} {out st st' : List Int} {tr : List (List Int)} {rows : List Value} {vo vt vs vs' : Value} (H : BufM E EO w wr out st tr rows vo vt vs) (hne : EO ≠ E) (hb : Below wr.heap.size wr w2) (hos : Own w2 E wr.heap.size vs' (ints st')) : BufM E EO w w2 out st' tr rows vo vt vs' :=
  H.turnS hne ⟨hb.os, hb.tape, hb.output, hb.size, fun i hi _ => hb.block i hi⟩ (hos.mono H.bel.size) (fun g hg => .inr (hos.lt g hg).1)
end Go.Proofs.YtggblfnajeikjaaGreat

namespace Go.Proofs.YtggblfnajeikjaaGreat
open Go.RowKit
set_option linter.unusedVariables false
set_option linter.unusedSimpArgs false

def needF (xs : List Int) : Nat → Int
  | 0 => -1
  | r + 1 => if adjB (bOut xs (8 - r) false) then ((8 - r : Nat) : Int) else needF xs r
def bufNeed (xs : List Int) : Int := if xs.length ≤ 24 then needF xs 8 else -1

end Go.Proofs.YtggblfnajeikjaaGreat

namespace Go.Proofs.YtggblfnajeikjaaGreat
open Go.RowKit
set_option linter.unusedVariables false
set_option linter.unusedSimpArgs false

theorem needF_yes {xs : List Int} {r k : Nat} (hk : 8 - r = k) (h : adjB (bOut xs k false) = true) : needF xs (r + 1) = (k : Int) := by
  rw [needF, hk, if_pos h]
theorem needF_no {xs : List Int} {r k : Nat} (hk : 8 - r = k) (h : adjB (bOut xs k false) = false) : needF xs (r + 1) = needF xs r := by
  rw [needF, hk, if_neg (by rw [h]; simp)]

set_option maxHeartbeats 1000000 in
theorem I_BufferNeeded (w : World) (v : Value) (xs : List Int) (h : Rd w v (ints xs)) (fx : I64s xs) (lx : xs.length ≤ 1048576) : Calls Tryz.prog 35 #[v] w (RetB (.int .i64 (bufNeed xs)) w) := by
  obtain ⟨a, m, c, rfl, HM, h2, h3⟩ := h.formN
  by_cases hm : m ≤ 24
  · have hm' : ¬ 24 < m := by omega
    have hl : xs.length ≤ 24 := by have := HM.out; omega
    have HR : Hid (bufNeed xs = needF xs 8) := by rw [Hid, bufNeed, if_pos hl]
    go_enter Tryz.func35, Tryz.ntmps35
    go_wp2
    go_loopw [3] (fun i wr => ∃ k : Nat, 1 ≤ k ∧ k ≤ 9 ∧ i = .int .i64 k ∧ Hid (needF xs 8 = needF xs (9 - k)) ∧ Below w.heap.size w wr) (fun i _ => 10 - (intOf i).toNat)
    case atStart => exact ⟨1, Nat.le_refl _, by omega, rfl, rfl, Below.refl _ _⟩
    case round =>
      obtain ⟨k, hk1, hk9, rfl, HF, hb⟩ := hrel
      by_cases hk8 : k ≤ 8
      · have i1 : (k : Int) ≤ 8 := by omega
        have HU := i_buffered _ xs k false wr (h.below hb) hl hk1 hk8
        have hz := hb.size
        have e9 : 9 - k = (8 - k) + 1 := by omega
        rw [e9] at HF
        cases hs : adjB (bOut xs k false)
        · have HN : Hid (needF xs 8 = needF xs (9 - (k + 1))) := by rw [Hid, HF.out, needF_no (by omega) hs]; congr 1; omega
          have HQ := Lib.hid (fun (v2 : Value) (wx : World) (h2 : Rd wx v2 (ints (bOut xs k false))) => f_IsSorted v2 _ wx h2)
          rw [hs] at HQ
          clear hs e9 HF
          go_wp2_with (first
            | (go_at_call 79; refine HU.mono ?_; rintro e w2 ⟨vo, vt, rfl, ho2, ht2, hb2⟩)
            | (go_at_call 80; refine (HQ.out _ _ ho2.rd).mono ?_; rintro e w3 ⟨rfl, hd3⟩))
          go_roundw
          case rel => exact ⟨k + 1, by omega, by omega, by go_num, HN, (hb.trans (hb2.mono hz)).trans (hd3.below _ |>.mono (by have := hb2.size; omega))⟩
          case measure => simp [intOf]; omega
        · have HN : Hid (bufNeed xs = (k : Int)) := by rw [Hid, HR.out, HF.out, needF_yes (by omega) hs]
          have HQ := Lib.hid (fun (v2 : Value) (wx : World) (h2 : Rd wx v2 (ints (bOut xs k false))) => f_IsSorted v2 _ wx h2)
          rw [hs] at HQ
          clear hs e9 HF
          go_wp2_with (first
            | (go_at_call 79; refine HU.mono ?_; rintro e w2 ⟨vo, vt, rfl, ho2, ht2, hb2⟩)
            | (go_at_call 80; refine (HQ.out _ _ ho2.rd).mono ?_; rintro e w3 ⟨rfl, hd3⟩))
          go_ret
          exact ⟨ret_int HN.out.symm, (hb.trans (hb2.mono hz)).trans (hd3.below _ |>.mono (by have := hb2.size; omega))⟩
      · obtain rfl : k = 9 := by omega
        have HN : Hid (bufNeed xs = -1) := by rw [Hid, HR.out, HF.out]; rfl
        go_wp2
        go_ret
        exact ⟨ret_int HN.out.symm, hb⟩
  · have hm' : 24 < m := by omega
    have HN : Hid (bufNeed xs = -1) := by rw [Hid, bufNeed, if_neg (by have := HM.out; omega)]
    go_enter Tryz.func35, Tryz.ntmps35
    go_wp2
    go_ret
    exact ⟨ret_int HN.out.symm, Below.refl _ _⟩

end Go.Proofs.YtggblfnajeikjaaGreat
