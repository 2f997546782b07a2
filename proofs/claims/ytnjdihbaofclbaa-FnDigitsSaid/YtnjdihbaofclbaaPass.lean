/- Walks: a pass over a digit, the program. -/
import Derived.Test.YtnjdihbaofclbaaStable
import Derived.Test.YtnjdihbaofclbaaDigits
import Derived.Test.YtnjdihbaofclbaaClone
namespace Go.Proofs.Ytnjdihbaofclbaa
open Go.RowKit
set_option linter.unusedVariables false
set_option linter.unusedSimpArgs false

set_option maxHeartbeats 1000000 in
theorem f_stableCmp (key : Int → Int) (p : Int → Prop) (C : World → Prop) (fn : Nat) (cap : Array Value) (hknown : Known fn) (v : Value) (xs : List Int) (n B : Nat) (w : World) (ho : Own w 3 B v (ints xs)) (hn : xs.length = n) (hl : n ≤ 19)
    (hp : ∀ x ∈ xs, p x) (hC0 : C w) (hC : ∀ w', w.grownBy w' v.ownBlock → C w')
    (hcmp : ∀ (wx : World) (x y : Int), C wx → p x → p y → Calls Try.prog fn (#[.int .i64 x, .int .i64 y] ++ cap) wx (RetQ (.int .i64 (cmpV key x y)) wx)) :
    Calls Try.prog 71 #[v, .int .i64 n, .func (.func fn) #[] cap] w fun e w' => e = .returned (.tuple #[]) ∧ Own w' 3 B v (ints (srtS key xs)) ∧ w.grownBy w' v.ownBlock := by
  have HC := f_insertionSortCmp key p C fn cap hknown v xs n B w ho hn (by omega) hp hC0 hC hcmp
  rw [srtKK_all key hn] at HC
  have HCH := Lib.hid HC
  clear HC hcmp hC hC0 hp
  have i0 : ¬ (20 : Int) ≤ (n : Int) := by omega
  have i1 : ¬ (20 : Int) < (n : Int) := by omega
  have j0 : ¬ 20 ≤ n := by omega
  have j1 : ¬ 20 < n := by omega
  go_enter Try.func71, Try.ntmps71
  go_wp2
  go_loopw [7, 8] (fun a b wr => a = .int .i64 0 ∧ b = .int .i64 20 ∧ w = wr) (fun _ _ _ => 0)
  case atStart => exact ⟨rfl, rfl, rfl⟩
  case round =>
    obtain ⟨rfl, rfl, rfl⟩ := hrel
    go_wp2_with (go_at_call 73; refine HCH.out.mono ?_; rintro e w2 ⟨rfl, ho2, hg2⟩)
    go_loopw [6, 7, 8, 9] (fun bs _ _ _ wr => bs = .int .i64 20 ∧ w2 = wr) (fun _ _ _ _ _ => 0)
    case atStart => exact ⟨rfl, rfl⟩
    case round =>
      obtain ⟨rfl, rfl⟩ := hrel
      go_wp2
      first
        | go_end0
        | refine bodyPost_ret (results_none rfl _ _ _) rfl ?_
      exact ⟨rfl, ho2, hg2⟩
theorem f_SortStable (key : Int → Int) (p : Int → Prop) (C : World → Prop) (fn : Nat) (cap : Array Value) (hknown : Known fn) (v : Value) (xs : List Int) (B : Nat) (w : World) (ho : Own w 3 B v (ints xs)) (hl : xs.length ≤ 19)
    (hp : ∀ x ∈ xs, p x) (hC0 : C w) (hC : ∀ w', w.grownBy w' v.ownBlock → C w')
    (hcmp : ∀ (wx : World) (x y : Int), C wx → p x → p y → Calls Try.prog fn (#[.int .i64 x, .int .i64 y] ++ cap) wx (RetQ (.int .i64 (cmpV key x y)) wx)) :
    Calls Try.prog 65 #[v, .func (.func fn) #[] cap] w fun e w' => e = .returned (.tuple #[]) ∧ Own w' 3 B v (ints (srtS key xs)) ∧ w.grownBy w' v.ownBlock := by
  have HC := f_stableCmp key p C fn cap hknown v xs xs.length B w ho rfl hl hp hC0 hC hcmp
  have HCH := Lib.hid HC
  clear HC hcmp hC hC0 hp
  obtain ⟨a, c, rfl, h2, h3⟩ := ho.rd.formi
  go_enter Try.func65, Try.ntmps65
  go_wp2_with (go_at_call 71; refine HCH.out.mono ?_; rintro e w2 ⟨rfl, ho2, hg2⟩)
  go_end0
  exact ⟨rfl, ho2, hg2⟩

theorem f_isNaN1 (x : Int) (w : World) : Calls Try.prog 72 #[.int .i64 x] w fun e w' => e = .returned (.bool false) ∧ w = w' := by
  go_enter Try.func72, Try.ntmps72
  go_wp2
  go_ret
  exact ⟨rfl, rfl⟩
theorem f_Compare (x y : Int) (w : World) : Calls Try.prog 67 #[.int .i64 x, .int .i64 y] w fun e w' => e = .returned (.int .i64 (cmpV id x y)) ∧ w = w' := by
  by_cases h1 : x < y
  · have HE : Hid (cmpV id x y = -1) := by rw [Hid, cmpV]; exact if_pos h1
    go_enter Try.func67, Try.ntmps67
    go_wp2_with (go_at_call 72; refine (f_isNaN1 _ _).mono ?_; rintro e w' ⟨rfl, rfl⟩)
    go_ret
    exact ⟨ret_int HE.out.symm, rfl⟩
  · by_cases h2 : y < x
    · have HE : Hid (cmpV id x y = 1) := by rw [Hid, cmpV]; exact (if_neg h1).trans (if_pos h2)
      go_enter Try.func67, Try.ntmps67
      go_wp2_with (go_at_call 72; refine (f_isNaN1 _ _).mono ?_; rintro e w' ⟨rfl, rfl⟩)
      go_ret
      exact ⟨ret_int HE.out.symm, rfl⟩
    · have HE : Hid (cmpV id x y = 0) := by rw [Hid, cmpV]; exact (if_neg h1).trans (if_neg h2)
      go_enter Try.func67, Try.ntmps67
      go_wp2_with (go_at_call 72; refine (f_isNaN1 _ _).mono ?_; rintro e w' ⟨rfl, rfl⟩)
      go_ret
      exact ⟨ret_int HE.out.symm, rfl⟩

theorem k_pass1 : Known 66 := known Try.func66 (by kernel_rfl) (by kernel_rfl)
set_option maxHeartbeats 1000000 in
theorem i_pass1 (x y b d : Int) (q r : Addr) (w : World) (hq : w.cell? q = some (.int .i64 b)) (hr : w.cell? r = some (.int .i64 d)) (hx : 0 ≤ x ∧ x ≤ 999999) (hy : 0 ≤ y ∧ y ≤ 999999) (hb : 2 ≤ b ∧ b ≤ 16) (hd : 0 ≤ d ∧ d ≤ 20) :
    Calls Try.prog 66 (#[.int .i64 x, .int .i64 y] ++ #[.pointer (some q), .pointer (some r)]) w (RetQ (.int .i64 (cmpV (fun x => dig x b d.toNat) x y)) w) := by
  have HX := Lib.hid (fun wx => i_digit x b d wx hx.1 hx.2 hb.1 hb.2 hd.1 hd.2)
  have HY := Lib.hid (fun wx => i_digit y b d wx hy.1 hy.2 hb.1 hb.2 hd.1 hd.2)
  have HE : Hid (cmpV (fun x => dig x b d.toNat) x y = cmpV id (dig x b d.toNat) (dig y b d.toNat)) := rfl
  generalize dig x b d.toNat = kx at *
  generalize dig y b d.toNat = ky at *
  have HK := Lib.hid (fun wx => f_Compare kx ky wx)
  generalize cmpV id kx ky = kr at *
  go_enter Try.func66, Try.ntmps66
  go_wp2
  go_quiet (first
    | (go_at_call 67; exact Calls.quiet_of_same ((HK.out _).mono fun _ _ hh => ⟨hh.1, hh.2.symm⟩))
    | (go_at_call 51; with_reducible exact Calls.quiet_of_same ((HX.out _).mono fun _ _ hh => ⟨hh.1, hh.2.symm⟩))
    | (go_at_call 51; with_reducible exact Calls.quiet_of_same ((HY.out _).mono fun _ _ hh => ⟨hh.1, hh.2.symm⟩)))
  go_wp2
  go_ret
  exact ⟨ret_int HE.out.symm, (Dr.refl _).step _⟩

set_option maxHeartbeats 1000000 in
theorem i_pass (v : Value) (xs : List Int) (b d : Int) (w : World) (h : Rd w v (ints xs)) (hl : xs.length ≤ 16) (hp : ∀ x ∈ xs, 0 ≤ x ∧ x ≤ 999999) (hb : 2 ≤ b ∧ b ≤ 16) (hd : 0 ≤ d ∧ d ≤ 20) :
    Calls Try.prog 56 #[v, .int .i64 b, .int .i64 d] w (RetOwn 3 (ints (srtS (fun x => dig x b d.toNat) xs)) w) := by
  have hbA : Below w.heap.size w ((w.alloc (.cells #[.int .i64 b] 3)).alloc (.cells #[.int .i64 d] 3)) := ((Below.refl _ _).alloc (Nat.le_refl _) _).alloc (by simp) _
  have c0 : ((w.alloc (.cells #[.int .i64 b] 3)).alloc (.cells #[.int .i64 d] 3)).cell? ⟨w.heap.size, 0, none⟩ = some (.int .i64 b) := by go_simp
  have c1 : ((w.alloc (.cells #[.int .i64 b] 3)).alloc (.cells #[.int .i64 d] 3)).cell? ⟨w.heap.size + 1, 0, none⟩ = some (.int .i64 d) := by go_simp
  have hC0 := Lib.hid c0
  have hC1 := Lib.hid c1
  have hA := h.below hbA
  have HZ : Hid (((w.alloc (.cells #[.int .i64 b] 3)).alloc (.cells #[.int .i64 d] 3)).heap.size = w.heap.size + 2) := by simp [Hid]
  clear c0 c1
  go_enter Try.func56, Try.ntmps56
  go_wp2_with (go_at_call 57; refine (f_Clone _ xs _ hA (by omega)).mono ?_; rintro e w2 ⟨vo, rfl, ho2, hb2⟩)
  have g0 := (hb2.cell (p := ⟨w.heap.size, 0, none⟩) (by have := HZ.out; show w.heap.size < _; omega)).trans hC0.out
  have g1 := (hb2.cell (p := ⟨w.heap.size + 1, 0, none⟩) (by have := HZ.out; show w.heap.size + 1 < _; omega)).trans hC1.out
  have HS := Lib.hid (f_SortStable (fun x => dig x b d.toNat) (fun x => 0 ≤ x ∧ x ≤ 999999) (fun wx => wx.cell? ⟨w.heap.size, 0, none⟩ = some (.int .i64 b) ∧ wx.cell? ⟨w.heap.size + 1, 0, none⟩ = some (.int .i64 d)) 66 #[.pointer (some ⟨w.heap.size, 0, none⟩), .pointer (some ⟨w.heap.size + 1, 0, none⟩)] k_pass1 vo xs _ w2 ho2 (by omega) hp
    ⟨g0, g1⟩
    (fun w' hg => ⟨hg.cell g0 (fun e => by have h1 := (ho2.lt _ e.symm).1; have := HZ.out; dsimp only at h1; omega), hg.cell g1 (fun e => by have h1 := (ho2.lt _ e.symm).1; have := HZ.out; dsimp only at h1; omega)⟩)
    (fun wx x y hc hx hy => i_pass1 x y b d _ _ wx hc.1 hc.2 hx hy hb hd))
  obtain ⟨ao, co, rfl, _, _⟩ := ho2.rd.formi
  clear g0 g1
  go_wp2_with (go_at_call 65; refine HS.out.mono ?_; rintro e w3 ⟨rfl, ho3, hg3⟩)
  go_ret
  have hz := hbA.size
  exact ⟨_, rfl, ho3.mono hz, (hbA.trans (hb2.mono hz)).grown hg3 (by have := hb2.size; omega) (fun r hr => by have := (ho2.lt r hr).1; omega)⟩

end Go.Proofs.Ytnjdihbaofclbaa
