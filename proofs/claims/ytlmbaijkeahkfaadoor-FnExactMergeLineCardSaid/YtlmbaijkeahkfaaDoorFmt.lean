/- Walks: numbers as texts, in the reference. -/
import Derived.Test.YtlmbaijkeahkfaaDoorNumWalks
import Derived.Lib.ItoaNum
import Derived.Deep.LoopGhost
import Derived.Deep.RegionHeld3
import Derived.Deep.RegionWith
import Derived.IntWalk
namespace Go.Proofs.YtlmbaijkeahkfaaDoor
open Go.RowKit
set_option linter.unusedVariables false
set_option linter.unusedSimpArgs false

/-- A text out of its bytes. -/
def str (l : List UInt8) : Value := .string ⟨l.toArray⟩
theorem str_app (a b : List UInt8) : (⟨a.toArray⟩ : ByteArray) ++ ⟨b.toArray⟩ = ⟨(a ++ b).toArray⟩ := by
  apply ByteArray.ext
  simp
/-- 'string([]byte{x})'. -/
theorem run_one (w : World) (x : Nat) (hx : x ≤ 255) (v : Int) (hv : v = (x : Int)) : (convert 50 9 (.slice (some ⟨w.heap.size, 0, none⟩) 1 1)).run Tryd.prog (w.alloc (.cells #[.int .u8 v] 5)) = .ok (.string ⟨[UInt8.ofNat x].toArray⟩) (w.alloc (.cells #[.int .u8 v] 5)) := by
  subst hv
  have e : x % 256 = x := Nat.mod_eq_of_lt (by omega)
  refine run_convert_bytes_back (P := Tryd.prog) (w.alloc (.cells #[.int .u8 (x : Int)] 5)) 50 9 5 ⟨w.heap.size, 0, none⟩ 1 [UInt8.ofNat x] Tryd.underlying50 Tryd.underlying5 Tryd.underlying9 fun j hj => ?_
  obtain rfl : j = 0 := by simp at hj; exact hj
  simp [Addr.add, e]
theorem decDigits_len : ∀ k u, u < 10 ^ (k + 1) → (Lib.decDigits u).length ≤ k + 1
  | 0, u, h => by
    rw [Lib.decDigits, dif_pos (by simpa using h)]
    simp
  | k + 1, u, h => by
    rw [Lib.decDigits]
    split
    · simp
    · have := decDigits_len k (u / 10) (by rw [Nat.div_lt_iff_lt_mul (by omega)]; rw [Nat.pow_succ] at h; omega)
      simp
      omega
theorem decDigits_19 {n : Nat} (hn : n ≤ 9223372036854775808) : (Lib.decDigits n).length ≤ 19 := decDigits_len 18 n (by
  have : (10 : Nat) ^ (18 + 1) = 10000000000000000000 := by decide
  omega)
theorem decDigits_pos (n : Nat) : 1 ≤ (Lib.decDigits n).length := by
  rw [Lib.decDigits]
  split <;> simp
theorem decDigits_big {u : Nat} (h : 9 < u) : Lib.decDigits u = Lib.decDigits (u / 10) ++ [UInt8.ofNat (48 + u % 10)] := by
  rw [Lib.decDigits, dif_neg (by omega)]
theorem decDigits_small {u : Nat} (h : ¬ 9 < u) : Lib.decDigits u = [UInt8.ofNat (48 + u)] := by
  rw [Lib.decDigits, dif_pos (by omega)]
theorem byte_add (x : Nat) : (48 : UInt8) + UInt8.ofNat x = UInt8.ofNat (48 + x) := by
  rw [UInt8.ofNat_add]; rfl
set_option maxRecDepth 100000 in
set_option maxHeartbeats 1000000 in
theorem s_FormatInt0 (n : Nat) (hn : n ≤ 9223372036854775807) (w : World) : Calls Tryd.prog 27 #[.int .i64 n] w (RetB (str (Lib.decDigits n)) w) := by
  have HN9 := Lib.hid (decDigits_19 (n := n) (by omega))
  go_enter Tryd.func27, Tryd.ntmps27
  go_wp2
  go_loopg [0, 3] n (fun gq vn vs wr => ∃ (u : Nat) (l : List UInt8), gq = u ∧ u ≤ n ∧ vn = .int .i64 (u : Int) ∧ vs = .string ⟨l.toArray⟩ ∧ Hid (Lib.decDigits u ++ l = Lib.decDigits n) ∧ Below w.heap.size w wr)
  case atStart => exact ⟨n, [], rfl, Nat.le_refl _, rfl, rfl, by simp [Hid], Below.refl _ _⟩
  case round =>
    obtain ⟨u, l, hg, hu, rfl, rfl, HD, hb⟩ := hrel
    have hl : l.length ≤ 19 := by
      have h1 := congrArg List.length HD.out
      rw [List.length_append] at h1
      have := HN9.out
      omega
    by_cases h9 : 9 < u
    · have i0 : (u : Int) > 9 := by omega
      have hcv := run_one wr (48 + u % 10) (by omega) (48 + (u : Int) % 10) (by omega)
      have HD2 : Hid (Lib.decDigits (u / 10) ++ (UInt8.ofNat (48 + u % 10) :: l) = Lib.decDigits n) := by
        rw [Hid, ← HD.out, decDigits_big h9]; simp
      go_wp2
      go_roundg (u / 10)
      case measure => omega
      case rel => exact ⟨u / 10, _, rfl, by omega, by go_num, by rw [byte_add]; exact congrArg Value.string (str_app [_] l), HD2, hb.alloc hb.size _⟩
    · have i0 : ¬ (u : Int) > 9 := by omega
      have hcv := run_one wr (48 + u) (by omega) (48 + (u : Int)) (by omega)
      have HD2 : Hid (UInt8.ofNat (48 + u) :: l = Lib.decDigits n) := by
        rw [Hid, ← HD.out, decDigits_small h9]; rfl
      go_wp2
      go_ret
      exact ⟨by rw [byte_add, ← HD2.out]; exact congrArg (fun s => Ending.returned (.string s)) (str_app [_] l), hb.alloc hb.size _⟩

theorem run_oneA (W : World) (a : Addr) (x : Nat) (hx : x ≤ 255) (v : Int) (hv : v = (x : Int)) (hc : W.cell? a = some (.int .u8 v)) : (convert 50 9 (.slice (some a) 1 1)).run Tryd.prog W = .ok (.string ⟨[UInt8.ofNat x].toArray⟩) W := by
  subst hv
  have e : x % 256 = x := Nat.mod_eq_of_lt (by omega)
  refine run_convert_bytes_back (P := Tryd.prog) W 50 9 5 a 1 [UInt8.ofNat x] Tryd.underlying50 Tryd.underlying5 Tryd.underlying9 fun j hj => ?_
  obtain rfl : j = 0 := by simp at hj; exact hj
  simpa [Addr.add, e] using hc
theorem cell_kept {w w5 : World} {v : Value} {E : Nat} (hb : Below (w.alloc (.cells #[v] E)).drew.heap.size (w.alloc (.cells #[v] E)).drew w5) : w5.cell? ⟨w.heap.size, 0, none⟩ = some v := by
  refine (hb.cell (p := ⟨w.heap.size, 0, none⟩) (by simp)).trans ?_
  simp
set_option maxRecDepth 100000 in
set_option maxHeartbeats 2000000 in
theorem s_FormatIntN : ∀ (f : Nat) (m : Nat) (x : Int) (w : World), m ≤ f → 1 ≤ m → m ≤ 9223372036854775808 → x = -(m : Int) → Calls Tryd.prog 27 #[.int .i64 x] w (RetB (str (45 :: Lib.decDigits m)) w)
  | 0, m, x, w, h, h1, _, _ => by omega
  | f + 1, m, x, w, h, h1, h2, hx => by
    have hx0 : x < 0 := by omega
    have ht : x.tdiv 10 = -((m / 10 : Nat) : Int) := by rw [hx, Int.neg_tdiv]; rfl
    have hm : x.tmod 10 = -((m % 10 : Nat) : Int) := by rw [hx, Int.neg_tmod]; rfl
    have hlo : -9223372036854775808 ≤ x := by omega
    by_cases h9 : m / 10 = 0
    · have hm9 : ¬ 9 < m := by omega
      have HD : Hid ((45 : UInt8) :: Lib.decDigits m = [45] ++ [UInt8.ofNat (48 + m)]) := by rw [Hid, decDigits_small hm9]; rfl
      have hq : x.tdiv 10 = 0 := by rw [ht, h9]; rfl
      have hcv := run_one w (48 + m) (by omega) (48 - x) (by omega)
      have hxb : -10 < x := by omega
      rw [HD.out]
      clear hm ht hx h9
      go_enter Tryd.func27, Tryd.ntmps27
      go_wp2
      go_ret
      exact ⟨by rw [byte_add]; exact congrArg (fun s => Ending.returned (.string s)) (str_app [_] [_]), (Below.refl _ _).alloc (Nat.le_refl _) _⟩
    · have hm9 : 9 < m := by omega
      obtain ⟨y, hy⟩ : ∃ y, x.tdiv 10 = y := ⟨_, rfl⟩
      obtain ⟨r, hr⟩ : ∃ r, x.tmod 10 = r := ⟨_, rfl⟩
      have hy0 : y ≠ 0 := by omega
      have hyb : -922337203685477580 ≤ y ∧ y < 0 := by omega
      have hrb : -9 ≤ r ∧ r ≤ 0 := by omega
      have ih := Lib.hid (fun wx => s_FormatIntN f (m / 10) y wx (by omega) (by omega) (by omega) (by omega))
      have HD : Hid ((45 : UInt8) :: Lib.decDigits m = (45 :: Lib.decDigits (m / 10)) ++ [UInt8.ofNat (48 + m % 10)]) := by rw [Hid, decDigits_big hm9]; rfl
      obtain ⟨S, hS⟩ : ∃ S : ByteArray, S = ⟨((45 : UInt8) :: Lib.decDigits (m / 10)).toArray⟩ := ⟨_, rfl⟩
      have hSz : S.size ≤ 20 := by
        have h1 := decDigits_19 (n := m / 10) (by omega)
        rw [hS]
        show ((45 : UInt8) :: Lib.decDigits (m / 10)).toArray.size ≤ 20
        simp
        omega
      have HSTR : Hid (str ((45 : UInt8) :: Lib.decDigits (m / 10)) = .string S) := by rw [Hid, hS]; rfl
      have HS := Lib.hid hS
      clear hS
      have HCV := fun (W : World) (a : Addr) (hc : W.cell? a = some (.int .u8 (48 - r))) => run_oneA W a (48 + m % 10) (by omega) (48 - r) (by omega) hc
      have hwr : IntKind.i64.wrap (48 - r) = 48 - r := IntWalk.i64_in _ (by omega)
      have hw8 : IntKind.u8.wrap (48 - r) = 48 - r := by unfold IntKind.wrap; simp [IntKind.signed, IntKind.bits]; omega
      have hwy : IntKind.i64.wrap y = y := IntWalk.i64_in _ (by omega)
      have hwr2 : IntKind.i64.wrap r = r := IntWalk.i64_in _ (by omega)
      have b0 : (y == 0) = false := by simp; omega
      have b1 : decide (y = 0) = false := by simp; omega
      rw [HD.out]
      clear hm ht hx h9
      go_enter Tryd.func27, Tryd.ntmps27
      go_wp2_with fail
      go_region_with ((first
          | (go_at_call 27; (refine (ih.out _).mono ?_); rintro e w5 ⟨rfl, hb5⟩; rw [HSTR.out]; (first | have hc5 := cell_kept hb5 | skip); have hb6 : Below w.heap.size w w5 := (by exact ⟨hb5.os, hb5.tape, hb5.output, by have := hb5.size; simp at this; omega, fun k hk => by first | exact hb5.block k hk | exact (hb5.block k (by simp; omega)).trans (Below.heap_alloc _ _ k hk)⟩))))
      all_goals
        go_wp2_with fail
        go_ret
        refine ⟨?_, ?_⟩
        · rw [byte_add, HS.out]
          exact congrArg (fun s => Ending.returned (.string s)) (str_app (_ :: _) [_])
        · first
            | exact hb6
            | exact hb6.alloc hb6.size _

theorem S_FormatInt (w : World) (n : Int) (h : I64 n) : Calls Tryd.prog 27 #[.int .i64 n] w (RetB (str (Lib.itoa n)) w) := by
  unfold I64 at h
  by_cases h0 : n < 0
  · have := s_FormatIntN n.natAbs n.natAbs n w (Nat.le_refl _) (by omega) (by omega) (by omega)
    rw [Lib.itoa, if_pos h0]
    exact this
  · have := s_FormatInt0 n.toNat (by omega) w
    rw [Int.toNat_of_nonneg (by omega)] at this
    rw [Lib.itoa, if_neg h0]
    exact this
theorem itoa_len {n : Int} (h : I64 n) : 1 ≤ (Lib.itoa n).length ∧ (Lib.itoa n).length ≤ 20 := by
  unfold I64 at h
  unfold Lib.itoa
  have h1 := decDigits_19 (n := n.natAbs) (by omega)
  have h2 := decDigits_19 (n := n.toNat) (by omega)
  have h3 := decDigits_pos n.toNat
  split
  · simp; omega
  · omega

def bstr (l : List UInt8) : ByteArray := ⟨l.toArray⟩
theorem bstr_size (l : List UInt8) : (bstr l).size = l.length := by show l.toArray.size = _; simp
theorem bstr_app (a b : List UInt8) : bstr a ++ bstr b = bstr (a ++ b) := by
  apply ByteArray.ext
  simp [bstr]

end Go.Proofs.YtlmbaijkeahkfaaDoor
