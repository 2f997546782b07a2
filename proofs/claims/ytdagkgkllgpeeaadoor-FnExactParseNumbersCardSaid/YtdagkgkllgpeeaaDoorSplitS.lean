/- Walks: a text split at a byte, in the reference. -/
import Derived.Test.YtdagkgkllgpeeaaDoorPlainSplit
import Derived.Test.YtdagkgkllgpeeaaDoorParseI
import Derived.BigQuiet
import Derived.Deep.QuietTactic
namespace Go.Proofs.YtdagkgkllgpeeaaDoor
open Go.RowKit
set_option linter.unusedVariables false
set_option linter.unusedSimpArgs false

def RetStrs (ls : List (List UInt8)) (w : World) (e : Ending) (w' : World) : Prop := ∃ v, e = .returned v ∧ Own w' 9 w.heap.size v (strs ls) ∧ Below w.heap.size w w'
theorem extract_bstr (s : ByteArray) (a b : Nat) : s.extract a b = bstr ((s.data.toList.drop a).take (b - a)) := by
  apply ByteArray.ext
  apply Array.toList_inj.1
  rw [Lib.extract_data]
  simp [bstr]
theorem extract_bstr_end (s : ByteArray) (a : Nat) : s.extract a s.size = bstr (s.data.toList.drop a) := by
  apply ByteArray.ext
  apply Array.toList_inj.1
  rw [Lib.extract_to_end]
  simp [bstr]
set_option maxRecDepth 100000 in
set_option maxHeartbeats 4000000 in
theorem s_SplitAny (s : ByteArray) (hs : s.size ≤ 1048576) (c : UInt8) (w : World) : Calls Tryd.prog 46 #[.string s, .string (bstr [c])] w (RetStrs (segs c s.data.toList) w) := by
  obtain ⟨l, hl⟩ : ∃ l, s.data.toList = l := ⟨_, rfl⟩
  have HL := Lib.hid hl
  have HN : Hid (l.length = s.size) := by rw [Hid, ← hl]; exact bytes_len s
  obtain ⟨SP, hSP⟩ : ∃ SP, bstr [c] = SP := ⟨_, rfl⟩
  have hsz : SP.size = 1 := by rw [← hSP]; rfl
  have HSZ := Lib.hid hsz
  have h0 : 0 < SP.size := by omega
  have h00 : (0 : Int) < (SP.size : Int) := by omega
  have hS1 : ¬ (1 : Int) < (SP.size : Int) := by omega
  have HC0 : Hid (SP[0]'h0 = c) := by
    subst hSP
    rfl
  rw [hl, hSP]
  clear hl hSP hsz
  go_enter Tryd.func46, Tryd.ntmps46
  go_wp2_with fail
  go_loopw [5, 6, 7, 8] (fun vl vf vi _ wr => ∃ k : Nat, k ≤ s.size ∧ vi = .int .i64 (k : Int) ∧ vf = .int .i64 (((segK c l k).2 : Nat) : Int) ∧ Own wr 9 w.heap.size vl (strs (segK c l k).1) ∧ Below w.heap.size w wr) (fun _ _ vi _ _ => s.size - (intOf vi).toNat)
  case atStart => exact ⟨0, Nat.zero_le _, rfl, rfl, by simpa [strs, ints, segK] using Own.lit0 w 9 (Nat.le_refl _), (Below.refl _ _).alloc (Nat.le_refl _) _⟩
  case round =>
    obtain ⟨k, hk, rfl, rfl, ho, hb⟩ := hrel
    have hseg := segK_le c l k
    obtain ⟨f, hf⟩ : ∃ f, (segK c l k).2 = f := ⟨_, rfl⟩
    obtain ⟨o, hoo⟩ : ∃ o, (segK c l k).1 = o := ⟨_, rfl⟩
    rw [hf, hoo] at hseg
    rw [hoo] at ho
    rw [hf]
    have HF := Lib.hid hf
    have HO := Lib.hid hoo
    clear hf hoo
    obtain ⟨hfk, hol⟩ := hseg
    obtain ⟨al, ml, cl, rfl, HML, _, _⟩ := ho.rd.formS
    have hml : ml ≤ 1048576 := by have := HML.out; omega
    have HSL : Hid ((strs o).length = ml) := by rw [Hid, strs_length]; exact HML.out.symm
    have hsz := hb.size
    by_cases hlt : k < s.size
    · have i0 : (k : Int) < (s.size : Int) := by omega
      have hbk := byte_at s hlt
      rw [HL.out] at hbk
      have HBK := Lib.hid hbk
      clear hbk
      by_cases hc : (s[k]'hlt) = c
      · have e1 : (((s[k]'hlt).toNat : Int) == ((SP[0]'h0).toNat : Int)) = true := by rw [HC0.out, hc]; simp
        have HEX : Hid (s.extract f k = bstr ((l.drop f).take (k - f))) := by rw [Hid, extract_bstr, HL.out]
        have HK1 : Hid ((segK c l (k + 1)).1 = o ++ [(l.drop f).take (k - f)] ∧ (segK c l (k + 1)).2 = k + 1) := by
          rw [Hid, segK, if_pos (by rw [HBK.out, hc]), HO.out, HF.out]
          exact ⟨rfl, rfl⟩
        clear hc
        obtain ⟨wo, rfl⟩ : ∃ wo : World, wo = wr := ⟨_, rfl⟩
        go_wp2_with fail
        go_loopw [5, 6, 8] (fun vl vf vq wx => vl = .slice al ml cl ∧ vf = .int .i64 (f : Int) ∧ vq = .int .i64 0 ∧ wo = wx) (fun _ _ _ _ => 0)
        case atStart => exact ⟨rfl, rfl, rfl, rfl⟩
        case round =>
          obtain ⟨rfl, rfl, rfl, rfl⟩ := hrel
          go_upto_region 9 with (fail)
          go_quiet (fail)
          have ho2 := ho.drewN nq
          go_wp2_with (at_builtin; refine wpList_app1m rfl _ _ 42 rfl elS rfl ho2 (by show Value.slice (some ⟨(wo.drewN nq).heap.size, 0, none⟩) 1 1 = _; simp) rfl hsz _ HSL.out (by omega) (by omega) ?_; intro b6 c6 w6 ho6 hg6 hat6)
          replace hg6 : (wo.drewN nq).grownBy w6 (Value.slice al ml cl).ownBlock := hg6
          have hbD : Below w.heap.size w (wo.drewN nq) := hb.trans (⟨rfl, rfl, rfl, Nat.le_refl _, fun _ _ => rfl⟩ : Below w.heap.size wo (wo.drewN nq))
          have hb7 := hbD.grown hg6 hsz (fun r hr => (ho2.lt r hr).1)
          rw [HEX.out] at ho6
          go_roundw
          case rel => exact ⟨k + 1, by omega, by go_num, by rw [HK1.out.2]; go_num, by rw [HK1.out.1, strs_append]; exact ho6, hb7⟩
          case measure => simp [intOf]; omega
      · have e1 : (((s[k]'hlt).toNat : Int) == ((SP[0]'h0).toNat : Int)) = false := by
          rw [HC0.out, beq_eq_false_iff_ne]
          intro h
          exact hc (UInt8.toNat_inj.1 (by omega))
        have HK1 : Hid ((segK c l (k + 1)).1 = o ∧ (segK c l (k + 1)).2 = f) := by
          rw [Hid, segK, if_neg (by rw [HBK.out]; simpa using hc), HO.out, HF.out]
          exact ⟨rfl, rfl⟩
        clear hc
        obtain ⟨wo, rfl⟩ : ∃ wo : World, wo = wr := ⟨_, rfl⟩
        go_wp2_with fail
        go_loopw [5, 6, 8] (fun vl vf vq wx => ∃ q : Nat, q ≤ 1 ∧ vl = .slice al ml cl ∧ vf = .int .i64 (f : Int) ∧ vq = .int .i64 (q : Int) ∧ Dr wo wx) (fun _ _ vq _ => 1 - (intOf vq).toNat)
        case atStart => exact ⟨0, by omega, rfl, rfl, rfl, Dr.refl _⟩
        case round =>
          obtain ⟨q, hq, rfl, rfl, rfl, hdr⟩ := hrel
          by_cases h1 : q = 0
          · subst h1
            go_upto_region 9 with (fail)
            go_quiet (fail)
            go_wp2_with fail
            go_roundw
            case rel => exact ⟨1, by omega, rfl, rfl, by go_num, hdr.step _⟩
            case measure => simp [intOf]
          · obtain rfl : q = 1 := by omega
            go_wp2_with fail
            go_roundw
            case rel => exact ⟨k + 1, by omega, by go_num, by rw [HK1.out.2], by rw [HK1.out.1]; exact ho.dr hdr, hb.trans ((hdr.below _).mono hsz)⟩
            case measure => simp [intOf]; omega
    · obtain rfl : k = s.size := by omega
      have i0 : ¬ (s.size : Int) < (s.size : Int) := by omega
      have HEX : Hid (s.extract f s.size = bstr (l.drop f)) := by rw [Hid, extract_bstr_end, HL.out]
      have HR : Hid (segs c l = o ++ [l.drop f]) := by rw [Hid, segs, HN.out, HO.out, HF.out]
      go_wp2_with (at_builtin; refine wpList_app1m rfl _ _ 42 rfl elS rfl ho (by show Value.slice (some ⟨wr.heap.size, 0, none⟩) 1 1 = _; simp) rfl hsz _ HSL.out (by omega) (by omega) ?_; intro b6 c6 w6 ho6 hg6 hat6)
      go_ret
      exact ⟨_, rfl, by rw [HR.out, strs_append]; rw [HEX.out] at ho6; exact ho6, hb.grown hg6 hb.size (fun r hr => (ho.lt r hr).1)⟩

end Go.Proofs.YtdagkgkllgpeeaaDoor
