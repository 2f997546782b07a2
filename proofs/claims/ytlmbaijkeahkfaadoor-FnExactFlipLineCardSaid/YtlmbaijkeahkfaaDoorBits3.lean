/- Walks: the masks that a network does not sort. -/
import Derived.Test.YtlmbaijkeahkfaaDoorBits2
namespace Go.Proofs.YtlmbaijkeahkfaaDoor
open Go.RowKit
set_option linter.unusedVariables false
set_option linter.unusedSimpArgs false

theorem shl_of : ∀ n : Nat, n < 9 → wrap64 (2 ^ n) = ((2 ^ n : Nat) : Int) := by decide +kernel
set_option maxHeartbeats 2000000 in
theorem i_unsorted (N : Nat) (v : Value) (xss : List (List Int)) (w : World) (h : Rd2 w v xss) (hk : netOk (N : Int) xss = true) :
    Calls Tryd.prog 141 #[.agg #[.int .i64 N, v]] w (RetOwn 3 (ints (unsN N xss (2 ^ N))) w) := by
  obtain ⟨N', e, hN1, hN8, hL60⟩ := netOk_n hk
  obtain rfl : N = N' := by omega
  clear e
  have hp := pow_le8 hN8
  have e2 := shl_of N (by omega)
  obtain ⟨M, hM⟩ : ∃ M, 2 ^ N = M := ⟨_, rfl⟩
  rw [hM] at hp e2 ⊢
  obtain ⟨a, c, rfl, _, _⟩ := h.form
  have HB := Lib.hid (fun (m : Nat) (hm : m < M) (W : World) (hW : Below w.heap.size w W) => i_bits N _ xss m W (h.below hW) hk (by omega))
  have HS := Lib.hid (fun (m : Nat) (hm : m < M) (W : World) => i_sorted N m (by omega) hN8 (onesN_le' N (by omega) m (by omega)) W)
  have HLN := Lib.hid (fun M => unsN_len N xss M)
  clear hk
  obtain ⟨w0, hw0⟩ : ∃ w0, w.alloc (.cells #[.int .i64 N, .slice a xss.length c] 32) = w0 := ⟨_, rfl⟩
  have bx := box_cells w (.int .i64 N) (.slice a xss.length c) 32
  have hb0 : Below w.heap.size w w0 := by rw [← hw0]; exact (Below.refl _ _).alloc (Nat.le_refl _) _
  have hz0 : w0.heap.size = w.heap.size + 1 := by rw [← hw0]; simp
  rw [hw0] at bx
  go_enter Tryd.func141, Tryd.ntmps141
  go_wp2
  try rw [hw0]
  clear hw0
  obtain ⟨c0, c1⟩ := bx
  have C0 := Lib.hid c0
  have C1 := Lib.hid c1
  clear c0 c1
  try rw [e2]
  clear e2
  have hb1 : Below (w.heap.size + 1) w0 (w0.alloc (.cells #[] 3)) := (Below.refl _ _).alloc (by omega) _
  clear hM
  go_loopg [3, 9] M (fun g vo iv wr => ∃ k : Nat, g = M - k ∧ k ≤ M ∧ iv = .int .i64 k ∧ Own wr 3 (w.heap.size + 1) vo (ints (unsN N xss k)) ∧ Below (w.heap.size + 1) w0 wr)
  case atStart => exact ⟨0, rfl, Nat.zero_le _, rfl, by have := Own.lit0 (B := w.heap.size + 1) w0 3 (by omega); rw [hz0] at this; exact this, hb1⟩
  case round =>
    obtain ⟨k, hg, hkl, rfl, ho, hb⟩ := hrel
    obtain ⟨ao, no, co, rfl, HN, _, _⟩ := ho.rd.formN
    by_cases hlt : k < M
    · have hok : okM N xss k = decide (outM xss k = sortedN N (onesN k)) := rfl
      have HB1 := Lib.hid (fun (W : World) (hW : Below w.heap.size w W) => HB.out k hlt W hW)
      have HS1 := Lib.hid (fun (W : World) => HS.out k hlt W)
      obtain ⟨r, hr⟩ : ∃ r, outM xss k = r := ⟨_, rfl⟩
      obtain ⟨s, hs⟩ : ∃ s, sortedN N (onesN k) = s := ⟨_, rfl⟩
      rw [hr] at hok HB1
      rw [hs] at hok HS1
      have hbw : Below w.heap.size w wr := hb0.trans (hb.mono (by omega))
      have g0 : wr.cell? ⟨w.heap.size, 0, none⟩ = some (.int .i64 N) := (hb.cell (Nat.lt_succ_self _)).trans C0.out
      have g1 : wr.cell? ⟨w.heap.size, 1, none⟩ = some (.slice a xss.length c) := (hb.cell (Nat.lt_succ_self _)).trans C1.out
      have HT : Hid (∀ wx : World, Below wr.heap.size wr wx → Below wr.heap.size wr wx ∧ wx.cell? ⟨w.heap.size, 0, none⟩ = some (.int .i64 N) ∧ wx.cell? ⟨w.heap.size, 1, none⟩ = some (.slice a xss.length c)) :=
        fun wx hx => ⟨hx, (hx.cell (World.block_lt_of_cell? _ _ g0)).trans g0, (hx.cell (World.block_lt_of_cell? _ _ g1)).trans g1⟩
      have K0 : Hid (∀ W : World, Below wr.heap.size wr W → Calls Tryd.prog 124 #[.agg #[.int .i64 N, .slice a xss.length c], .int .i64 k] W fun e w' => e = .returned (.int .i64 (r : Nat)) ∧ Below wr.heap.size wr w') :=
        fun W hW => (HB1.out W (hbw.trans (hW.mono hbw.size))).mono fun e w' hh => ⟨hh.1, hW.trans (hh.2.mono hW.size)⟩
      have hsz := hb.size
      clear g0 g1 HB1 hr hs
      have key : ∀ q : Bool, ((r : Int) != (s : Int)) = q → okM N xss k = !q := fun q hq => by
        rw [hok, ← hq]
        by_cases e : r = s
        · subst e; simp
        · have : ¬ (r : Int) = (s : Int) := by omega
          simp [e, this]
      cases hq : ((r : Int) != (s : Int))
      · have HU := Lib.hid (unsN_yes (key _ hq))
        clear key hok
        go_wp2
        go_region_held3 (fun wx => Below wr.heap.size wr wx ∧ wx.cell? ⟨w.heap.size, 0, none⟩ = some (.int .i64 N) ∧ wx.cell? ⟨w.heap.size, 1, none⟩ = some (.slice a xss.length c))
          (first | exact HT.out _ g4 | exact HT.out _ (by exact ⟨rfl, rfl, rfl, Nat.le_refl _, fun _ _ => rfl⟩) | go_keep)
          (first
            | (go_at_call 124; (with_reducible refine (K0.out _ (by exact (show _ ∧ _ ∧ _ from by assumption).1)).mono ?_); rintro e w4 ⟨rfl, g4⟩)
            | (go_at_call 158; (with_reducible refine (HS1.out _).mono ?_); rintro e w5 ⟨rfl, rfl⟩))
        all_goals
          go_wp2
          go_roundg (M - (k + 1))
          case measure => omega
          case rel => exact ⟨k + 1, rfl, by omega, by go_num, by rw [HU.out]; exact ho.below g4, hb.trans (g4.mono (by omega))⟩
      · have HU := Lib.hid (unsN_no (key _ hq))
        clear key hok
        have hln := HLN.out k
        have HLo : Hid ((ints (unsN N xss k)).length = no) := by rw [Hid, ints_length, HN.out]
        have hno : no ≤ 256 := by have := HN.out; omega
        go_wp2
        go_region_held3 (fun wx => Below wr.heap.size wr wx ∧ wx.cell? ⟨w.heap.size, 0, none⟩ = some (.int .i64 N) ∧ wx.cell? ⟨w.heap.size, 1, none⟩ = some (.slice a xss.length c))
          (first | exact HT.out _ g4 | exact HT.out _ (by exact ⟨rfl, rfl, rfl, Nat.le_refl _, fun _ _ => rfl⟩) | go_keep)
          (first
            | (go_at_call 124; (with_reducible refine (K0.out _ (by exact (show _ ∧ _ ∧ _ from by assumption).1)).mono ?_); rintro e w4 ⟨rfl, g4⟩)
            | (go_at_call 158; (with_reducible refine (HS1.out _).mono ?_); rintro e w5 ⟨rfl, rfl⟩))
        all_goals
          have ho4 := ho.below g4
          have hz4 := g4.size
          have hs4 : w.heap.size + 1 ≤ w4.heap.size := by omega
          go_wp2_with (at_builtin; refine wpList_app1m rfl _ _ 22 rfl elI rfl ho4 (by show Value.slice (some ⟨w4.heap.size, 0, none⟩) 1 1 = _; simp) rfl hs4 no HLo.out (by omega) (by omega) ?_; intro bn cn' w6 ho6 hg6 hat6)
          have hb6 : Below (w.heap.size + 1) w0 w6 := (hb.trans (g4.mono (by omega))).grown hg6 hs4 fun r hr => (ho4.lt r hr).1
          go_roundg (M - (k + 1))
          case measure => omega
          case rel => exact ⟨k + 1, rfl, by omega, by go_num, by rw [HU.out, ints_append]; exact ho6, hb6⟩
    · obtain rfl : M = k := by omega
      go_wp2
      go_ret
      exact ⟨_, rfl, ho.mono (by omega), hb0.trans (hb.mono (by omega))⟩

end Go.Proofs.YtlmbaijkeahkfaaDoor
