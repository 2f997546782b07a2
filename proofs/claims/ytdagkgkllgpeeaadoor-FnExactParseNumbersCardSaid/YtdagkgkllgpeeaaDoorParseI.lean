/- Walks: a number read from a text. -/
import Derived.Test.YtdagkgkllgpeeaaDoorPlainParse
import Derived.Test.YtdagkgkllgpeeaaDoorStrs
import Derived.IntWalk
import Derived.Lib.IndexBytes
import Derived.Deep.DeepCutAuto
import Derived.Deep.LoopGhost
namespace Go.Proofs.YtdagkgkllgpeeaaDoor
open Go.RowKit
set_option linter.unusedVariables false
set_option linter.unusedSimpArgs false

def isDigs (l : List UInt8) : Bool := l.all isDg && decide (0 < l.length)
theorem byte_at (s : ByteArray) {k : Nat} (h : k < s.size) : s.data.toList[k]? = some (s[k]'h) := by
  rw [List.getElem?_eq_getElem (by simpa using h)]; rfl
theorem bytes_len (s : ByteArray) : s.data.toList.length = s.size := by simp
set_option maxHeartbeats 400000 in
theorem s_IsDigits (s : ByteArray) (hs : s.size ≤ 281474976710656) (w : World) : Calls Tryd.prog 104 #[.string s] w fun e w' => e = .returned (.bool (isDigs s.data.toList)) ∧ w = w' := by
  have HL := Lib.hid (bytes_len s)
  go_enter Tryd.func104, Tryd.ntmps104
  go_wp2
  go_loop [3] (fun vi => ∃ k : Nat, k ≤ s.size ∧ vi = .int .i64 (k : Int) ∧ Hid ((s.data.toList.take k).all isDg = true)) (fun vi => s.size - (intOf vi).toNat)
  case atStart => exact ⟨0, Nat.zero_le _, rfl, rfl⟩
  case round =>
    obtain ⟨k, hk, rfl, HA⟩ := hrel
    by_cases hlt : k < s.size
    · have hb := byte_at s hlt
      have HB := Lib.hid hb
      clear hb
      by_cases hd : isDg (s[k]'hlt) = true
      · have h1 := isDg_iff.1 hd
        have HN : Hid ((s.data.toList.take (k + 1)).all isDg = true) := by
          rw [Hid, take_snoc' HB.out, List.all_append, HA.out]
          simp [hd]
        have b1 : ¬ ((s[k]'hlt).toNat : Int) < 48 := by omega
        have b2 : ¬ (57 : Int) < ((s[k]'hlt).toNat : Int) := by omega
        clear hd h1
        go_wp2
        go_round
        case rel => exact ⟨k + 1, by omega, by go_num, HN⟩
        case measure => simp [intOf]; omega
      · have HR : Hid (isDigs s.data.toList = false) := by
          have h2 : s.data.toList.all isDg = false := by
            rw [List.all_eq_false]
            exact ⟨_, List.mem_of_getElem? HB.out, by simpa using hd⟩
          rw [Hid, isDigs, h2]; rfl
        have h1 : ((s[k]'hlt).toNat : Int) < 48 ∨ (¬ ((s[k]'hlt).toNat : Int) < 48 ∧ (57 : Int) < ((s[k]'hlt).toNat : Int)) := by
          have : ¬ (48 ≤ (s[k]'hlt).toNat ∧ (s[k]'hlt).toNat ≤ 57) := fun h => hd (isDg_iff.2 h)
          omega
        clear hd
        rcases h1 with b1 | ⟨b1, b2⟩
        all_goals
          go_wp2
          go_ret
          exact ⟨ret_bool HR.out.symm, rfl⟩
    · obtain rfl : k = s.size := by omega
      have HR : Hid (isDigs s.data.toList = decide (0 < s.size)) := by
        have h1 := HA.out
        rw [List.take_of_length_le (by rw [HL.out]; exact Nat.le_refl _)] at h1
        rw [Hid, isDigs, h1, HL.out]; rfl
      by_cases h0 : 0 < s.size
      · have i1 : ((s.size : Int) > 0) := by omega
        go_wp2
        go_ret
        exact ⟨ret_bool (by rw [HR.out]; simp [h0]), rfl⟩
      · have i1 : ¬ ((s.size : Int) > 0) := by omega
        go_wp2
        go_ret
        exact ⟨ret_bool (by rw [HR.out]; simp [h0]), rfl⟩

def RetPI (o : Option Int) (w : World) (e : Ending) (w' : World) : Prop := e = .returned (.tuple #[.int .i64 (o.getD 0), .bool o.isSome]) ∧ Below w.heap.size w w'
theorem retPI_none {w w' : World} {o : Option Int} (h : o = none) (hb : Below w.heap.size w w') : RetPI o w (.returned (.tuple #[.int .i64 0, .bool false])) w' := by subst h; exact ⟨rfl, hb⟩
theorem retPI_some {w w' : World} {o : Option Int} {n : Int} (h : o = some n) (hb : Below w.heap.size w w') : RetPI o w (.returned (.tuple #[.int .i64 n, .bool true])) w' := by subst h; exact ⟨rfl, hb⟩
theorem parse_no {l : List UInt8} (h : isDigs (magOf l) = false ∨ 19 < (magOf l).length ∨ 9223372036854775808 < dv 0 (magOf l) ∨ (isNeg l = false ∧ 9223372036854775808 ≤ dv 0 (magOf l))) : parseI l = none := parseI_none fun n hn e => by
  obtain ⟨h1, h2, h3, h4, h5⟩ := num_facts hn e
  unfold I64 at hn
  rcases h with h | h | h | ⟨h, h6⟩
  · have : isDigs (magOf l) = true := by
      rw [isDigs, List.all_eq_true.2 h1]
      simp; omega
    rw [this] at h; cases h
  · omega
  · omega
  · rw [h5] at h
    have : ¬ n < 0 := by simpa using h
    omega
theorem parse_val {l : List UInt8} {n0 : Int} (hn : I64 n0) (hv : dv 0 (magOf l) = n0.natAbs) (hs : isNeg l = true → n0 ≤ 0) (hp : isNeg l = false → 0 ≤ n0) : parseI l = if Lib.itoa n0 = l then some n0 else none := by
  split
  · rename_i e
    exact parseI_iff.2 ⟨hn, e⟩
  · rename_i e
    refine parseI_none fun n h1 h2 => ?_
    obtain ⟨_, _, _, h4, h5⟩ := num_facts h1 h2
    have : n = n0 := by
      cases hb : isNeg l
      · have := hp hb
        rw [hb] at h5
        have : ¬ n < 0 := by simpa using h5.symm
        omega
      · have := hs hb
        rw [hb] at h5
        have : n < 0 := by simpa using h5.symm
        omega
    subst this
    exact e h2
set_option maxRecDepth 100000 in
set_option maxHeartbeats 4000000 in
theorem s_ParseInt (s : ByteArray) (hs : s.size ≤ 281474976710656) (w : World) : Calls Tryd.prog 47 #[.string s] w (RetPI (parseI s.data.toList) w) := by
  obtain ⟨l, hl⟩ : ∃ l, s.data.toList = l := ⟨_, rfl⟩
  have hlen : l.length = s.size := by rw [← hl]; exact bytes_len s
  obtain ⟨b, hb⟩ : ∃ b, isNeg l = b := ⟨_, rfl⟩
  have hcase : (b = false ∧ ¬ (s.size : Int) > 0) ∨ ((s.size : Int) > 0 ∧ ∃ h0 : 0 < s.size, ((((s[0]'h0).toNat : Int) == 45) = b)) := by
    rcases Nat.eq_zero_or_pos s.size with h | h
    · refine .inl ⟨?_, by omega⟩
      have : l = [] := List.eq_nil_of_length_eq_zero (by omega)
      rw [← hb, this]; rfl
    · refine .inr ⟨by omega, h, ?_⟩
      have h1 := byte_at s h
      rw [hl] at h1
      rw [← hb]
      cases hq : l with
      | nil => rw [hq] at h1; simp at h1
      | cons c r =>
        rw [hq] at h1
        obtain rfl : c = s[0]'h := by simpa using h1
        rw [Bool.eq_iff_iff]
        simp [isNeg]
        omega
  obtain ⟨T, hT⟩ : ∃ T : ByteArray, (if b then s.extract 1 s.size else s) = T := ⟨_, rfl⟩
  have hTl : T.data.toList = magOf l := by
    rw [← hT, magOf, hb]
    cases b
    · exact hl
    · show (s.extract 1 s.size).data.toList = l.tail
      rw [Lib.extract_to_end, hl, List.drop_one]
  have HTL := Lib.hid hTl
  have HTZ : Hid ((magOf l).length = T.size) := by rw [Hid, ← hTl]; exact bytes_len T
  have HB := Lib.hid hb
  have HC := Lib.hid hcase
  have hTs : T.size ≤ 281474976710656 := by
    have h1 := HTZ.out
    have h2 : (magOf l).length ≤ l.length := by unfold magOf; split <;> simp
    omega
  have HBS : Hid (bstr l = s) := by rw [Hid, ← hl]; rfl
  have HL := Lib.hid hl
  have HT := Lib.hid hT
  rw [hl]
  have HD := Lib.hid (fun W => s_IsDigits T hTs W)
  clear hl hb hcase hTl hT
  go_enter Tryd.func47, Tryd.ntmps47
  go_upto_region 1 with (fail)
  go_cut [4] (fun vb wx => vb = .bool b ∧ w = wx)
  case first =>
    rcases HC.out with ⟨rfl, h0⟩ | ⟨h0, h1, h2⟩
    · go_wp2_with fail
      go_meet
      exact ⟨rfl, rfl⟩
    · go_wp2_with fail
      go_meet
      exact ⟨rfl, rfl⟩
  case rest =>
    obtain ⟨rfl, rfl⟩ := hcut
    go_upto_if 18 with (fail)
    go_cut [5] (fun vt wx => vt = .string T ∧ w = wx)
    case first =>
      cases b
      · go_wp2_with fail
        go_meet
        exact ⟨by rw [← HT.out]; rfl, rfl⟩
      · have h1 : 1 ≤ s.size := by
          rcases HC.out with ⟨h0, _⟩ | ⟨h0, _⟩
          · cases h0
          · omega
        go_wp2_with fail
        go_meet
        exact ⟨by rw [← HT.out]; rfl, rfl⟩
    case rest =>
      obtain ⟨rfl, rfl⟩ := hcut
      rw [HTL.out] at HD
      cases hd : isDigs (magOf l)
      · rw [hd] at HD
        have HN := Lib.hid (parse_no (l := l) (.inl hd))
        clear hd
        go_wp2_with (go_at_call 104; refine (HD.out _).mono ?_; rintro e w2 ⟨rfl, rfl⟩)
        go_ret2
        exact retPI_none HN.out (Below.refl _ _)
      rw [hd] at HD
      have HDG : Hid (∀ c ∈ magOf l, isDg c = true) := by
        rw [isDigs, Bool.and_eq_true] at hd
        exact List.all_eq_true.1 hd.1
      clear hd
      by_cases hz : T.size ≤ 19
      case neg =>
        have HN := Lib.hid (parse_no (l := l) (.inr (.inl (by have := HTZ.out; omega))))
        have i0 : (T.size : Int) > 19 := by omega
        go_wp2_with (go_at_call 104; refine (HD.out _).mono ?_; rintro e w2 ⟨rfl, rfl⟩)
        go_ret2
        exact retPI_none HN.out (Below.refl _ _)
      have i0 : ¬ (T.size : Int) > 19 := by omega
      go_wp2_with (go_at_call 104; refine (HD.out _).mono ?_; rintro e w2 ⟨rfl, rfl⟩)
      go_loop [6, 7, 8] (fun vn vi _ => ∃ k P : Nat, k ≤ T.size ∧ vi = .int .i64 (k : Int) ∧ vn = .int .i64 (-(P : Int)) ∧ Hid (dv 0 ((magOf l).take k) = P) ∧ P ≤ 9223372036854775808) (fun _ vi _ => T.size - (intOf vi).toNat)
      case atStart => exact ⟨0, 0, Nat.zero_le _, rfl, rfl, rfl, by omega⟩
      case round =>
        obtain ⟨k, P, hk, rfl, rfl, HP, hP⟩ := hrel
        by_cases hlt : k < T.size
        · have hb := byte_at T hlt
          rw [HTL.out] at hb
          have hdg := isDg_iff.1 (HDG.out _ (List.mem_of_getElem? hb))
          obtain ⟨d, hx⟩ : ∃ d, (T[k]'hlt).toNat = d + 48 := ⟨(T[k]'hlt).toNat - 48, by omega⟩
          have hd9 : d ≤ 9 := by omega
          have HP2 : Hid (dv 0 ((magOf l).take (k + 1)) = P * 10 + d) := by
            rw [Hid, take_snoc' hb, dv_snoc, HP.out, hx]
            omega
          clear hb hdg
          obtain ⟨Q, hQ⟩ : ∃ Q : Nat, (9223372036854775808 - d) / 10 = Q := ⟨_, rfl⟩
          have hq : (-9223372036854775808 + (d : Int)).tdiv 10 = -(Q : Int) := by
            rw [show -9223372036854775808 + (d : Int) = -((9223372036854775808 - d : Nat) : Int) by omega, Int.neg_tdiv, ← hQ]
            rfl
          have hQb : Q ≤ 922337203685477580 := by omega
          by_cases hov : P * 10 + d ≤ 9223372036854775808
          · have hPQ : ¬ (Q : Int) < (P : Int) := by omega
            have HQ := Lib.hid hQ
            clear hQ
            go_wp2
            go_round
            case rel => exact ⟨k + 1, P * 10 + d, by omega, by go_num, by congr 1; omega, HP2, hov⟩
            case measure => simp [intOf]; omega
          · have hPQ : (Q : Int) < (P : Int) := by omega
            have HQ := Lib.hid hQ
            have HN : Hid (parseI l = none) := by
              refine parse_no (.inr (.inr (.inl ?_)))
              have h1 := dv_take (magOf l) (k + 1)
              rw [HP2.out] at h1
              omega
            clear hQ
            go_wp2
            go_ret2
            exact retPI_none HN.out (Below.refl _ _)
        · obtain rfl : k = T.size := by omega
          have HPV : Hid (dv 0 (magOf l) = P) := by
            have h1 := HP.out
            rwa [List.take_of_length_le (by rw [HTZ.out]; exact Nat.le_refl _)] at h1
          have i1 : ¬ (T.size : Int) < (T.size : Int) := by omega
          have key : ∀ n0 : Int, I64 n0 → n0.natAbs = P → (b = true → n0 ≤ 0) → (b = false → 0 ≤ n0) → ∃ (X : ByteArray) (e : Bool), (∀ W, Calls Tryd.prog 43 #[.int .i64 n0] W (RetB (.string X) W)) ∧ (X.toList == s.toList) = e ∧ parseI l = if e then some n0 else none := fun n0 hn hP hs1 hs2 => by
            have hv := parse_val (l := l) hn (by rw [HPV.out, hP]) (by rw [HB.out]; exact hs1) (by rw [HB.out]; exact hs2)
            refine ⟨bstr (Lib.itoa n0), _, fun W => S_FormatInt W n0 hn, rfl, ?_⟩
            rw [hv]
            by_cases e : Lib.itoa n0 = l
            · rw [if_pos e, e, HBS.out]
              simp
            · rw [if_neg e]
              have : ((bstr (Lib.itoa n0)).toList == s.toList) = false := by
                rw [beq_eq_false_iff_ne]
                intro h
                refine e ?_
                rw [ByteArray.toList_eq, ByteArray.toList_eq, HL.out] at h
                rw [← h]
                simp [bstr]
              rw [this]; rfl
          have KEY := Lib.hid key
          clear key HP HC HT hlen
          cases b
          · by_cases hmx : P = 9223372036854775808
            · have HN := Lib.hid (parse_no (l := l) (.inr (.inr (.inr ⟨HB.out, by have := HPV.out; omega⟩))))
              have e1 : (-(P : Int) == -9223372036854775808) = true := by simp; omega
              clear hmx
              go_wp2_with fail
              go_ret2
              exact retPI_none HN.out (Below.refl _ _)
            · have e1 : (-(P : Int) == -9223372036854775808) = false := by simp; omega
              have hP1 : P ≤ 9223372036854775807 := by omega
              obtain ⟨X, e, HF, he, hv⟩ := KEY.out (P : Int) ⟨by omega, by omega⟩ (by omega) (fun h => by cases h) (fun _ => by omega)
              have HFX := Lib.hid HF
              have HV := Lib.hid hv
              clear hmx HF hv
              cases e
              · go_wp2_with (go_at_call 43; (with_reducible refine (HFX.out _).mono ?_); rintro e w2 ⟨rfl, hb2⟩)
                go_ret2
                exact retPI_none HV.out hb2
              · go_wp2_with (go_at_call 43; (with_reducible refine (HFX.out _).mono ?_); rintro e w2 ⟨rfl, hb2⟩)
                go_ret2
                exact retPI_some HV.out hb2
          · obtain ⟨X, e, HF, he, hv⟩ := KEY.out (-(P : Int)) ⟨by omega, by omega⟩ (by omega) (fun _ => by omega) (fun h => by cases h)
            have HFX := Lib.hid HF
            have HV := Lib.hid hv
            clear HF hv
            cases e
            · go_wp2_with (go_at_call 43; (with_reducible refine (HFX.out _).mono ?_); rintro e w2 ⟨rfl, hb2⟩)
              go_ret2
              exact retPI_none HV.out hb2
            · go_wp2_with (go_at_call 43; (with_reducible refine (HFX.out _).mono ?_); rintro e w2 ⟨rfl, hb2⟩)
              go_ret2
              exact retPI_some HV.out hb2

end Go.Proofs.YtdagkgkllgpeeaaDoor
