/- Joined texts of the proof: ConfJ, ConfK. -/
import Derived.WalkKit
import Derived.WalkSpells
import Derived.WalkLawsBesides
import Derived.Deep.Draws
import Derived.Lib.Hide
import Derived.RegionTactic
import Derived.Test.YtggblfnajeikjaaGreatRows
import Derived.BigQuiet
import Derived.Deep.QuietTactic
import Derived.Deep.RegionHeld3
import Derived.Deep.DeepCutAuto
import Derived.Deep.LoopGhost
import Derived.IntWalk
import Derived.Lib.LazyBuf
import Derived.Deep.RegionWith
import Derived.Maps.OwnOps
import Derived.Maps.OwnSet
import Derived.Maps.Views
import Derived.Carry
import Derived.Shelf.Strconv.Itoa0
import Derived.Shelf.Sort.Plain
import Derived.Shelf.Slices.Reverse
import Derived.Ground.Names2Prog
import Derived.Shelf.Slices.CompactI
import Derived.Test.YtggblfnajeikjaaGreatProg
import Derived.Lib.RowBridge
import Derived.Sort.OwnSortedInts
import Derived.Maps.RangeWalk
import Derived.Test.YtggblfnajeikjaaGreatJ1
import Derived.Test.YtggblfnajeikjaaGreatJ3
import Derived.Test.YtggblfnajeikjaaGreatJ4
import Derived.Test.YtggblfnajeikjaaGreatJ5
import Derived.Test.YtggblfnajeikjaaGreatJ6
import Derived.Test.YtggblfnajeikjaaGreatJ8
import Derived.Test.YtggblfnajeikjaaGreatJ9
import Derived.Test.YtggblfnajeikjaaGreatJ10
import Derived.Test.YtggblfnajeikjaaGreatJ12
import Derived.Test.YtggblfnajeikjaaGreatJ17
import Derived.Test.YtggblfnajeikjaaGreatJ21
import Derived.Test.YtggblfnajeikjaaGreatJ32
import Derived.Test.YtggblfnajeikjaaGreatJ36
import Derived.Test.YtggblfnajeikjaaGreatJ39
import Derived.Test.YtggblfnajeikjaaGreatJ40
namespace Go.Proofs.YtggblfnajeikjaaGreat
open Go.RowKit
set_option linter.unusedVariables false
set_option linter.unusedSimpArgs false

/-- The map of distances, with what the search has found. -/
def RetDistT (n : Nat) (w : World) (e : Ending) (w' : World) : Prop :=
  ∃ (g m : Nat) (f : Int → Option Int) (T : List (List Int × Nat)) (L : Nat), e = .returned (.map (some g)) ∧ MapF w' g m f ∧ Bfs n L 2 T f ∧ T.length ≤ L ∧ w.heap.size ≤ g ∧ Below w.heap.size w w'
set_option maxRecDepth 100000 in
set_option maxHeartbeats 8000000 in
theorem i_distT (n : Nat) (w : World) (hn : n ≤ 6) : Calls Tryz.prog 56 #[.int .i64 (n : Int)] w (RetDistT n w) := by
  have HW := Lib.hid (i_wires n w (by omega))
  have hkey0 : I64 ((keyN (idL n) : Nat) : Int) := by
    have h1 := (keyN_lt (idL n) ((PermN.idL n).small hn)).1
    rw [(PermN.idL n).1] at h1
    have : 8 ^ n ≤ 8 ^ 6 := Nat.pow_le_pow_right (by omega) hn
    unfold I64
    omega
  have HK := Lib.hid (fun (v : Value) (xs : List Int) (W : World) (h : Rd W v (ints xs)) (hp : PermN n xs) => i_key v xs W h (by rw [hp.1]; exact hn) (hp.small hn))
  have HI0 : Hid (PermN n (idL n)) := PermN.idL n
  have hmm := @run_makeMap Tryz.prog
  go_enter Tryz.func56, Tryz.ntmps56
  go_upto_region 2 with (go_at_call 42; refine HW.out.mono ?_; rintro e w1 ⟨v1, rfl, ho1, hb1⟩; rw [idL_stairs] at ho1)
  have hM0 := MapF.made w1
  have hbA : Below w1.heap.size w1 (w1.alloc (.map #[] 0)) := (Below.refl _ _).alloc (Nat.le_refl _) _
  obtain ⟨w2, hput, hM2, hg2⟩ := hM0.put (by omega) hkey0 (v := 0) (by unfold I64; omega)
  have hoA := ho1.below hbA
  obtain ⟨a1, n1, c1, rfl, HN1, _, _⟩ := ho1.rd.formN
  go_upto_region 3 with (go_at_call 71; refine (HK.out _ _ _ hoA.rd HI0.out).mono ?_; rintro e w' ⟨rfl, rfl⟩)
  have hb2 : Below w.heap.size w w2 := (hb1.trans (hbA.mono hb1.size)).grown hg2 (by have := hb1.size; simp; omega) fun r hr => by cases hr; exact hb1.size
  have hs2 := hb2.size
  have ho2 : Own w2 3 w.heap.size (.slice a1 n1 c1) (ints (idL n)) := hoA.apart hg2 fun k hk e => hM0.ne hoA (by rw [hk, e])
  have hgl : w1.heap.size < w2.heap.size := hM2.lt
  obtain ⟨g, hge⟩ : ∃ g, w1.heap.size = g := ⟨_, rfl⟩
  have hgw : w.heap.size ≤ g := by rw [← hge]; exact hb1.size
  rw [hge] at hM2 hg2 hgl ⊢
  have hbB : Below w2.heap.size w2 (w2.alloc (.cells #[.slice a1 n1 c1] 33)) := (Below.refl _ _).alloc (Nat.le_refl _) _
  have hO2 : Own2 (w2.alloc (.cells #[.slice a1 n1 c1] 33)) 33 3 w.heap.size (w2.alloc (.cells #[.slice a1 n1 c1] 33)).heap.size (.slice (some ⟨w2.heap.size, 0, none⟩) 1 1) [idL n] := by
    have h1 := Own.lit w2 33 w.heap.size #[.slice a1 n1 c1] hs2 (by simp)
    have h2 := RowsOwn.snoc (RowsOwn.nil (w2.alloc (.cells #[.slice a1 n1 c1] 33)) 3 w.heap.size w.heap.size) (T' := (w2.alloc (.cells #[.slice a1 n1 c1] 33)).heap.size) (ho2.below hbB) (fun k hk => by
      have h3 := ho2.lt k hk
      simp
      omega) (by simp; omega)
    exact ⟨_, h1, fun k hk => (h1.lt k hk).2, h2⟩
  have hM3 := hM2.below hbB
  have hb3 := hb2.trans (hbB.mono hs2)
  have HB0 : Hid (Bfs n 0 2 [(idL n, 0)] (updF (fun _ => none) (keyN (idL n)) 0)) := Bfs.start n
  clear hM0 hbA hoA hb1 ho1 hM2 hg2 hgl hb2 ho2 hbB hput hmm hge hs2
  go_wp2
  go_loopg [5, 6] 600000 (fun g_ vo av wr => ∃ (at_ : Nat) (T : List (List Int × Nat)) (f : Int → Option Int) (m : Nat), g_ = 600000 - at_ ∧ at_ ≤ T.length ∧ av = .int .i64 at_ ∧ Hid (Bfs n at_ 2 T f) ∧ MapF wr g m f ∧ m ≤ T.length ∧ Own2 wr 33 3 w.heap.size wr.heap.size vo (T.map Prod.fst) ∧ Below w.heap.size w wr)
  case atStart => exact ⟨0, _, _, 1, rfl, Nat.zero_le _, rfl, HB0, hM3, Nat.le_refl _, hO2, hb3⟩
  case round =>
    clear HB0 hM3 hO2 hb3
    obtain ⟨at_, T, f, m, hg_, hat, rfl, HB, hM, hm, ho, hb⟩ := hrel
    have hTl := HB.out.len hn
    obtain ⟨ao, co, rfl, hlo, _⟩ := ho.form
    rw [List.length_map] at ho hlo ⊢
    obtain ⟨L, hL⟩ : ∃ L, T.length = L := ⟨_, rfl⟩
    have HL := Lib.hid hL
    rw [hL] at hat hm ho hTl hlo ⊢
    clear hL
    by_cases hlt : at_ < L
    · go_wp2
      go_loopg [5, 7] (n + 1) (fun gk vo kv wr => ∃ (k : Nat) (T : List (List Int × Nat)) (f : Int → Option Int) (m : Nat), gk = n + 3 - k ∧ 2 ≤ k ∧ (k ≤ n + 1 ∨ k = 2) ∧ at_ < T.length ∧ kv = .int .i64 k ∧ Hid (Bfs n at_ k T f) ∧ MapF wr g m f ∧ m ≤ T.length ∧ Own2 wr 33 3 w.heap.size wr.heap.size vo (T.map Prod.fst) ∧ Below w.heap.size w wr)
      case atStart => exact ⟨2, T, f, m, by omega, Nat.le_refl _, .inr rfl, by rw [HL.out]; exact hlt, rfl, HB, hM, by rw [HL.out]; exact hm, ho, hb⟩
      case round =>
        clear HB hM hm ho hb HL hTl hlo hat hlt
        obtain ⟨k, T, f, m, hgk, hk2, hkn, hat, rfl, HB, hM, hm, ho, hb⟩ := hrel
        have hTl := HB.out.len hn
        obtain ⟨ao, co, rfl, hlo, _⟩ := ho.form
        rw [List.length_map] at ho hlo ⊢
        by_cases hk : k ≤ n
        · obtain ⟨ado, br, mr, cr, xs, rfl, hcr, HXS, HMX, hmcr, hcr9, hrr⟩ := ho.rd.row (k := at_) (by rw [List.length_map]; exact hat)
          obtain ⟨x, d, hxd⟩ : ∃ x d, T[at_]? = some (x, d) := ⟨_, _, List.getElem?_eq_getElem hat⟩
          obtain rfl : xs = x := by have := HXS.out; rw [List.getElem?_map, hxd] at this; exact (Option.some.inj this).symm
          have hp := HB.out.perm _ (List.mem_of_getElem? hxd)
          have HXD := Lib.hid hxd
          have HP := Lib.hid hp
          have HPF : Hid (PermN n (flipL xs k)) := hp.flip
          have HF := Lib.hid (fun (W : World) (hW : Below wr.heap.size wr W) => i_flip _ xs k W (hrr.keep fun p hp _ => hW.cell hp) (by rw [hp.1]; omega) (by rw [hp.1]; exact hk) (by rw [hp.1]; omega))
          have hqk : I64 ((keyN (flipL xs k) : Nat) : Int) := by
            have h1 := (keyN_lt (flipL xs k) (hp.flip.small hn)).1
            rw [hp.flip.1] at h1
            have : 8 ^ n ≤ 8 ^ 6 := Nat.pow_le_pow_right (by omega) hn
            unfold I64
            omega
          obtain ⟨L, hL⟩ : ∃ L, T.length = L := ⟨_, rfl⟩
          have HL := Lib.hid hL
          rw [hL] at hat hm ho hTl hlo ⊢
          clear hL hxd hp
          go_upto_region 11 with (go_at_call 72; refine (HF.out _ (Below.refl _ _)).mono ?_; rintro e w8 ⟨v8, rfl, ho8, hb8⟩; obtain ⟨a8, n8, c8, rfl, HN8, _, _⟩ := ho8.rd.formN)
          have hM8 := hM.below hb8
          have hlk := hM8.lookOk hqk
          cases hf : f ((keyN (flipL xs k) : Nat) : Int) with
          | some v =>
            rw [hf] at hlk
            have HB2 := Lib.hid (HB.out.old hn HXD.out hf)
            clear hf
            go_wp2_with (go_at_call 71; refine (HK.out _ _ _ ho8.rd HPF.out).mono ?_; rintro e w' ⟨rfl, rfl⟩)
            go_roundg (n + 3 - (k + 1))
            case measure => omega
            case rel => exact ⟨k + 1, T, f, m, rfl, by omega, .inl (by omega), by rw [HL.out]; exact hat, by go_num, HB2, hM8, by rw [HL.out]; exact hm, (ho.below hb8).mono (Nat.le_refl _) hb8.size, hb.trans (hb8.mono hb.size)⟩
          | none =>
            rw [hf] at hlk
            have HB2 := Lib.hid (HB.out.new HXD.out hk2 hk hf)
            clear hf
            go_upto_region 13 with (go_at_call 71; refine (HK.out _ _ _ ho8.rd HPF.out).mono ?_; rintro e w' ⟨rfl, rfl⟩)
            have hrr8 := hrr.below hb8
            have hcr8 := (hb8.cell (World.block_lt_of_cell? _ _ hcr)).trans hcr
            have hqx : I64 ((keyN xs : Nat) : Int) := by
              have h1 := (keyN_lt xs (HP.out.small hn)).1
              rw [HP.out.1] at h1
              have : 8 ^ n ≤ 8 ^ 6 := Nat.pow_le_pow_right (by omega) hn
              unfold I64
              omega
            have hdl : d < 1000000 := by have := HB.out.bd _ _ HXD.out; simp only at this; omega
            have hfx : f ((keyN xs : Nat) : Int) = some (d : Int) := HB.out.fok _ (List.mem_of_getElem? HXD.out)
            have hl0 := hM8.look hqx
            rw [hfx] at hl0
            have hMD : MapF w8.drew g m f := hM8.below ((Below.refl _ _).drew)
            have hl1 := hMD.look hqx
            rw [hfx] at hl1
            obtain ⟨w9, hput9, hM9, hg9⟩ := hMD.put (by omega) hqk (v := ((d + 1 : Nat) : Int)) (by unfold I64; omega)
            have ed : IntKind.i64.wrap ((d : Int) + 1) = ((d + 1 : Nat) : Int) := by rw [IntKind.wrap_i64]; omega
            rw [← ed] at hput9
            simp only [Option.getD_some] at hl0 hl1
            have i2 : (at_ : Int) < (L : Int) := by omega
            have HKN : Hid (∀ W : World, W.heap = w8.heap → Calls Tryz.prog 71 #[.slice a8 n8 c8] W fun e w' => e = .returned (.int .i64 ((keyN (flipL xs k) : Nat) : Int)) ∧ W = w') := fun W hW => HK.out _ _ W (ho8.rd.keep fun p _ _ => World.cell?_of_block (w := w8) (by rw [hW])) HPF.out
            have HKX : Hid (∀ W : World, W.heap = w8.heap → Calls Tryz.prog 71 #[.slice br mr cr] W fun e w' => e = .returned (.int .i64 ((keyN xs : Nat) : Int)) ∧ W = w') := fun W hW => HK.out _ _ W (hrr8.keep fun p _ _ => World.cell?_of_block (w := w8) (by rw [hW])) HP.out
            clear hfx ed hlk
            go_region_with (first
              | (go_at_call 71; (with_reducible refine (HKN.out _ ?_).mono ?_); (focus rfl); rintro e w' ⟨rfl, rfl⟩)
              | (go_at_call 71; (with_reducible refine (HKX.out _ ?_).mono ?_); (focus rfl); rintro e w' ⟨rfl, rfl⟩))
            all_goals
              have hbd9 : Below w.heap.size w w9 := ((hb.trans (hb8.mono hb.size)).drew).grown hg9 (by have := hb.size; have := hb8.size; simp; omega) fun r hr => by cases hr; exact hgw
              have hO9 := Own2.map (w := w8.drew) ((ho.below hb8).below ((Below.refl _ _).drew)) hMD hg9
              have hr9 : Own w9 3 wr.heap.size (.slice a8 n8 c8) (ints (flipL xs k)) := (Own.drew ho8).apart hg9 fun q h1 h2 => hMD.ne (Own.drew ho8) (by rw [h1, h2])
              have hs89 : wr.heap.size ≤ w9.heap.size := by have := hb8.size; have := hg9.size; simp at this; omega
              obtain ⟨rows, hov, hTT, hrows⟩ := hO9
              have hsw9 := hbd9.size
              have hswr := hb.size
              have HRL : Hid (rows.length = L) := by rw [Hid, hrows.1, List.length_map, HL.out]
              clear hrr hcr hM ho hb hb8 hM8 hMD hrr8 hcr8 hl0 hl1 hput9
              go_wp2_with (at_builtin; (refine wpList_app1m rfl _ _ 23 rfl elII ?_ hov ?_ ?_ hsw9 L HRL.out (by omega) (by omega) ?_); (focus exact rfl); (focus (simp [Act.eval])); (focus exact rfl); intro bn cn' w10 ho10 hg10 hat10)
              have hO10 := Own2.app (hrows.snoc (hr9.mono hswr) (fun q hq => hr9.lt q hq) hs89) hov (by decide) hg10 ho10 hg10.size
              have hM10 := hM9.kept hg10 (fun e => hM9.ne hov e.symm)
              have hb10 := hbd9.grown hg10 hsw9 fun r hr => (hov.lt r hr).1
              go_roundg (n + 3 - (k + 1))
              case measure => omega
              case rel => exact ⟨k + 1, _, _, m + 1, rfl, by omega, .inl (by omega), by rw [List.length_append, HL.out]; omega, by go_num, HB2, hM10, by rw [List.length_append, HL.out]; simp; omega, by rw [List.map_append]; exact hO10, hb10⟩
        · have HB2 := Lib.hid (HB.out.step (by omega) hat)
          have HAT := Lib.hid hat
          obtain ⟨L, hL⟩ : ∃ L, T.length = L := ⟨_, rfl⟩
          have HL := Lib.hid hL
          rw [hL] at hat hm ho hTl hlo ⊢
          clear hL
          go_wp2
          go_roundg (600000 - (at_ + 1))
          case measure => omega
          case rel => exact ⟨at_ + 1, T, f, m, rfl, HAT.out, by go_num, HB2, hM, by rw [HL.out]; exact hm, ho, hb⟩
    · have HBT : Hid (Bfs n at_ 2 T f ∧ T.length ≤ at_) := ⟨HB.out, by rw [HL.out]; omega⟩
      go_wp2
      go_ret
      exact ⟨g, m, f, T, at_, rfl, hM, HBT.out.1, HBT.out.2, hgw, hb⟩

theorem cnt_step {α : Type} (key : α → Int) (L : Int → Bool) (P : α → Bool) (x : Int) (hx : L x = true) : ∀ (T : List α), (T.map key).Nodup →
    (x ∉ T.map key → (T.filter fun p => !(L (key p) && !decide (key p = x)) && P p).length = (T.filter fun p => !L (key p) && P p).length) ∧
    (∀ p0 ∈ T, key p0 = x → (T.filter fun p => !(L (key p) && !decide (key p = x)) && P p).length = (T.filter fun p => !L (key p) && P p).length + (if P p0 then 1 else 0))
  | [], _ => ⟨fun _ => rfl, fun p0 h => by cases h⟩
  | a :: t, hn => by
    simp only [List.map_cons, List.nodup_cons] at hn
    obtain ⟨ih1, ih2⟩ := cnt_step key L P x hx t hn.2
    refine ⟨fun h => ?_, fun p0 hp hk => ?_⟩
    · simp only [List.map_cons, List.mem_cons, not_or] at h
      have h1 := ih1 h.2
      have h2 : decide (key a = x) = false := decide_eq_false fun e => h.1 e.symm
      simp only [List.filter_cons, h2, Bool.not_false, Bool.and_true]
      by_cases c : (!L (key a) && P a) = true
      · rw [if_pos c, if_pos c, List.length_cons, List.length_cons, h1]
      · rw [if_neg c, if_neg c, h1]
    · rcases List.mem_cons.1 hp with rfl | hp
      · have h1 := ih1 (by rw [← hk]; exact hn.1)
        have h2 : decide (key p0 = x) = true := decide_eq_true hk
        have h3 : L (key p0) = true := by rw [hk]; exact hx
        simp only [List.filter_cons, h2, h3, Bool.not_true, Bool.and_false, Bool.not_false, Bool.true_and, Bool.false_and]
        cases P p0
        · rw [if_neg (by decide), if_neg (by decide), if_neg (by decide), h1]; rfl
        · rw [if_pos rfl, if_neg (by decide), if_pos rfl, List.length_cons, h1]
      · have hne : key a ≠ x := fun e => hn.1 (by rw [e, ← hk]; exact List.mem_map_of_mem hp)
        have h1 := ih2 p0 hp hk
        have h2 : decide (key a = x) = false := decide_eq_false hne
        simp only [List.filter_cons, h2, Bool.not_false, Bool.and_true]
        by_cases c : (!L (key a) && P a) = true
        · rw [if_pos c, if_pos c, List.length_cons, List.length_cons, h1]; omega
        · rw [if_neg c, if_neg c, h1]
/-- A list of orders with their distances, checked as it stands. -/
def dchk (n : Nat) (T : List (List Int × Nat)) : Bool :=
  T.all (fun p => decide (p.1.length = n) && ordB n p.1 && ((decide (p.1 = idL n) && decide (p.2 = 0)) || (decide (p.1 ≠ idL n) && (List.range (n + 1)).any fun k => decide (2 ≤ k) && T.any fun q => decide (q.2 + 1 = p.2) && decide (q.1 = flipL p.1 k))) &&
    (List.range (n + 1)).all fun k => decide (k < 2) || T.any fun q => decide (p.2 ≤ q.2 + 1) && decide (q.1 = flipL p.1 k)) && T.any (fun p => decide (p.1 = idL n)) && decide ((T.map Prod.fst).Nodup)
theorem dchk_parts {n : Nat} {T : List (List Int × Nat)} (h : dchk n T = true) :
    (∀ p ∈ T, PermN n p.1 ∧ ((p.1 = idL n ∧ p.2 = 0) ∨ (p.1 ≠ idL n ∧ ∃ k, 2 ≤ k ∧ k ≤ n ∧ ∃ q ∈ T, q.2 + 1 = p.2 ∧ q.1 = flipL p.1 k)) ∧ ∀ k, 2 ≤ k → k ≤ n → ∃ q ∈ T, p.2 ≤ q.2 + 1 ∧ q.1 = flipL p.1 k) ∧ (∃ p ∈ T, p.1 = idL n) ∧ (T.map Prod.fst).Nodup := by
  simp only [dchk, Bool.and_eq_true, List.all_eq_true, List.any_eq_true, Bool.or_eq_true, decide_eq_true_eq, List.mem_range] at h
  obtain ⟨⟨h1, h2⟩, h3⟩ := h
  refine ⟨fun p hp => ?_, h2, h3⟩
  obtain ⟨⟨⟨a1, a2⟩, a3⟩, a4⟩ := h1 p hp
  refine ⟨⟨a1, ordB_iff.1 a2⟩, ?_, fun k hk hkn => ?_⟩
  · rcases a3 with a3 | ⟨a3, k, hk, hk2, q, hq, e1, e2⟩
    · exact .inl a3
    · exact .inr ⟨a3, k, hk2, by omega, q, hq, e1, e2⟩
  · rcases a4 k (by omega) with a5 | ⟨q, hq, e1, e2⟩
    · omega
    · exact ⟨q, hq, e1, e2⟩
/-- The checked list has every order, with its distance. -/
theorem dchk_dist {n : Nat} {T : List (List Int × Nat)} {D : List Int → Nat} (h : dchk n T = true) (H : Dist n D) : (∀ p ∈ T, D p.1 = p.2) ∧ ∀ xs, PermN n xs → ∃ p ∈ T, p.1 = xs := by
  obtain ⟨h1, h2, h3⟩ := dchk_parts h
  have up : ∀ d, ∀ p ∈ T, p.2 = d → D p.1 ≤ d := by
    intro d
    induction d with
    | zero =>
      intro p hp e
      rcases (h1 p hp).2.1 with ⟨e1, _⟩ | ⟨_, k, _, _, q, _, e2, _⟩
      · rw [e1, H.zero]; omega
      · omega
    | succ d ih =>
      intro p hp e
      rcases (h1 p hp).2.1 with ⟨e1, e2⟩ | ⟨_, k, hk, hkn, q, hq, e2, e3⟩
      · omega
      · have h4 := ih q hq (by omega)
        have h5 := H.flip q.1 k (h1 q hq).1 hk hkn
        rw [e3, flipL_flipL (by rw [(h1 p hp).1.1]; exact hkn)] at h5
        rw [e3] at h4
        omega
  have uniq : ∀ p ∈ T, ∀ q ∈ T, p.1 = q.1 → p = q := fun p hp q hq e => by
    obtain ⟨i, hi, rfl⟩ := List.getElem_of_mem hp
    obtain ⟨j, hj, rfl⟩ := List.getElem_of_mem hq
    have : i = j := (List.getElem_inj (h₀ := by simpa using hi) (h₁ := by simpa using hj) h3).1 (by simpa using e)
    subst this; rfl
  have lo : ∀ d, ∀ p ∈ T, D p.1 = d → p.2 ≤ d := by
    intro d
    induction d with
    | zero =>
      intro p hp e
      rcases (h1 p hp).2.1 with ⟨e1, e2⟩ | ⟨e1, _⟩
      · omega
      · have := H.pos p.1 (h1 p hp).1 e1; omega
    | succ d ih =>
      intro p hp e
      rcases (h1 p hp).2.1 with ⟨e1, e2⟩ | ⟨e1, _⟩
      · omega
      · obtain ⟨k, hk, hkn, e2⟩ := H.down p.1 (h1 p hp).1 e1
        obtain ⟨q, hq, e3, e4⟩ := (h1 p hp).2.2 k hk hkn
        have := ih q hq (by rw [e4]; omega)
        omega
  refine ⟨fun p hp => Nat.le_antisymm (up _ p hp rfl) (lo _ p hp rfl), fun xs hx => ?_⟩
  exact PermN.all (fun xs => ∃ p ∈ T, p.1 = xs) h2 (fun xs k _ ⟨p, hp, e⟩ hk hkn => by
    obtain ⟨q, hq, _, e2⟩ := (h1 p hp).2.2 k hk hkn
    exact ⟨q, hq, by rw [e2, e]⟩) xs hx
/-- What the search has found is the checked list, in some order. -/
theorem bfs_perm {n L : Nat} {T C : List (List Int × Nat)} {f : Int → Option Int} (H : Bfs n L 2 T f) (hL : T.length ≤ L) (hn : n ≤ 6) (hC : dchk n C = true) : T.Perm C := by
  obtain ⟨D, hD, hf⟩ := H.dist hL hn
  obtain ⟨c1, c2⟩ := dchk_dist hC hD
  obtain ⟨c3, _, c4⟩ := dchk_parts hC
  have nd : ∀ (A : List (List Int × Nat)), (A.map Prod.fst).Nodup → A.Nodup := fun A h => by
    rw [List.Nodup, List.pairwise_map] at h
    exact h.imp fun h e => h (by rw [e])
  have tD : ∀ p ∈ T, p.2 = D p.1 := fun p hp => by
    have h1 := H.fok p hp
    rw [hf p.1 (H.perm p hp)] at h1
    injection h1 with h1
    omega
  refine (List.perm_ext_iff_of_nodup (nd T H.nodup) (nd C c4)).2 fun p => ⟨fun hp => ?_, fun hp => ?_⟩
  · obtain ⟨q, hq, e⟩ := c2 p.1 (H.perm p hp)
    have : q = p := by
      have e1 := c1 q hq
      have e2 := tD p hp
      rw [e] at e1
      exact Prod.ext e (by omega)
    rw [← this]; exact hq
  · have hp1 := (c3 p hp).1
    obtain ⟨v, hv⟩ : ∃ v, f (keyN p.1) = some v := ⟨_, hf p.1 hp1⟩
    obtain ⟨q, hq, e⟩ := H.fin _ _ hv
    have e1 : p.1 = q.1 := keyN_inj _ _ (hp1.1.trans (H.perm q hq).1.symm) (hp1.small hn) ((H.perm q hq).small hn) (by omega)
    have : q = p := Prod.ext e1.symm (by rw [tD q hq, ← e1, c1 p hp])
    rw [← this]; exact hq
/-- The plain search. -/
def bfsRow (n : Nat) (T : List (List Int × Nat)) (x : List Int) (d : Nat) : Nat → List (List Int × Nat)
  | 0 => T
  | k + 1 => let A := bfsRow n T x d k
    if k + 1 < 2 then A else if A.any (fun q => decide (q.1 = flipL x (k + 1))) then A else A ++ [(flipL x (k + 1), d + 1)]
def bfsAll (n : Nat) : Nat → List (List Int × Nat)
  | 0 => [(idL n, 0)]
  | i + 1 => let A := bfsAll n i
    match A[i]? with
    | some (x, d) => bfsRow n A x d n
    | none => A
set_option maxHeartbeats 4000000 in
theorem chk5 : dchk 5 (bfsAll 5 120) = true := by decide +kernel
theorem cnt5 : ((bfsAll 5 120).filter fun p => decide (p.2 = 5)).length = 20 := by decide +kernel
theorem chk4 : dchk 4 (bfsAll 4 24) = true := by decide +kernel
theorem max4 : (bfsAll 4 24).all (fun p => decide (p.2 ≤ 4)) = true ∧ (bfsAll 4 24).any (fun p => decide (p.2 = 4)) = true := by decide +kernel

end Go.Proofs.YtggblfnajeikjaaGreat

namespace Go.Proofs.YtggblfnajeikjaaGreat
open Go.RowKit Go.Maps
set_option linter.unusedVariables false
set_option linter.unusedSimpArgs false

theorem wf_I64 {x : Int} (h : (Lit.int .i64 x).wf = true) : I64 x := by
  simp [Lit.wf, IntKind.min, IntKind.max, IntKind.signed, IntKind.bits] at h
  unfold I64
  omega
theorem key_I64 {n : Nat} {xs : List Int} (h : PermN n xs) (hn : n ≤ 6) : I64 ((keyN xs : Nat) : Int) := by
  have h1 := (keyN_lt xs (h.small hn)).1
  rw [h.1] at h1
  have : 8 ^ n ≤ 8 ^ 6 := Nat.pow_le_pow_right (by omega) hn
  unfold I64
  omega
theorem same_int (a b : Int) : (Lit.int .i64 a).sameKey (.int .i64 b) = decide (a = b) := by
  simp [Lit.sameKey]

/-- What a range over the map of distances has met: keys that are left are in the map. -/
theorem rng_at {n L : Nat} {f : Int → Option Int} {T : List (List Int × Nat)} {D : DataW Unit} {left : Lit → Bool} {x c : Int} (hB : Bfs n L 2 T f)
    (hDf : ∀ q, I64 q → Maps.has D (.int .i64 q) = (f q).isSome ∧ D.atKey (.int .i64 q) (.lit (.int .i64 0)) = .lit (.int .i64 ((f q).getD 0)))
    (HI : ∀ q, I64 q → left (.int .i64 q) = true → (f q).isSome = true) (hwx : (Lit.int .i64 x).wf = true) (hlx : left (.int .i64 x) = true) (hat : ∀ zd, D.atKey (.int .i64 x) zd = .lit (.int .i64 c)) :
    ∃ p ∈ T, ((keyN p.1 : Nat) : Int) = x ∧ (p.2 : Int) = c := by
  have hx := wf_I64 hwx
  have h1 := HI x hx hlx
  have h2 := (hDf x hx).2
  rw [hat] at h2
  simp only [DataW.lit.injEq, Lit.int.injEq, true_and] at h2
  obtain ⟨v, hv⟩ := Option.isSome_iff_exists.1 h1
  rw [hv] at h2
  obtain ⟨p, hp, e⟩ := hB.fin x v hv
  have h3 := hB.fok p hp
  rw [← e, hv] at h3
  injection h3 with h3
  exact ⟨p, hp, e.symm, by rw [h2]; exact h3.symm⟩
theorem bfs_keys {n L : Nat} {T : List (List Int × Nat)} {f : Int → Option Int} (H : Bfs n L 2 T f) (hn : n ≤ 6) : (T.map fun p => ((keyN p.1 : Nat) : Int)).Nodup := by
  have := H.nodup
  rw [List.Nodup, List.pairwise_map] at this ⊢
  refine List.Pairwise.imp_of_mem (fun {a b} ha hb hne e => hne ?_) this
  exact keyN_inj _ _ ((H.perm a ha).1.trans (H.perm b hb).1.symm) ((H.perm a ha).small hn) ((H.perm b hb).small hn) (by omega)

set_option maxRecDepth 100000 in
set_option maxHeartbeats 2000000 in
theorem i_MostFlips4 (w : World) : Calls Tryz.prog 18 #[.int .i64 4] w (RetB (.int .i64 4) w) := by
  have HD := Lib.hid (i_distT 4 w (by omega))
  go_enter Tryz.func18, Tryz.ntmps18
  go_wp2_with (first
    | (go_at_call 56; refine HD.out.mono ?_; rintro e w1 ⟨g, m, f, T, L, rfl, ⟨D, hown, hDf⟩, hB, hTL, hgw, b1⟩)
    | (at_range; refine wpList_range_own _ rfl _ 56 rfl 3 3 keyLaw Tryz.underlying56 _ g m _ rfl hown ?_; intro w2 hrg2 hg2 hs2)
    | go_in)
  go_frame
  have HB := Lib.hid hB
  have HTL := Lib.hid hTL
  have HDF := Lib.hid hDf
  have b2 := b1.grown hg2 b1.size (fun _ h => by cases h)
  have hs0 := b1.size
  have HI0 : Hid (∀ q, I64 q → Maps.has D (.int .i64 q) = true → (f q).isSome = true) := fun q hq h => by rw [← (hDf q hq).1]; exact h
  have HM0 : Hid ((∀ p ∈ T, Maps.has D (.int .i64 ((keyN p.1 : Nat) : Int)) = false → p.2 ≤ 0) ∧ ((0 : Nat) = 0 ∨ ∃ p ∈ T, p.2 = 0) ∧ (0 : Nat) ≤ 1000) := ⟨fun p hp h => (by
    rw [(hDf _ (key_I64 (hB.perm p hp) (by omega))).1, hB.fok p hp] at h
    cases h), .inl rfl, by omega⟩
  clear hB hTL hDf hown hg2
  go_loopw [3] (fun mv wr => ∃ (left : Lit → Bool) (cnt M : Nat), mv = .int .i64 (M : Int) ∧ wr.ranges Tryz.prog 3 (plainElem Tryz.prog 3) g w1.heap.size m D left cnt ∧ Hid (∀ q, I64 q → left (.int .i64 q) = true → (f q).isSome = true) ∧ Hid ((∀ p ∈ T, left (.int .i64 ((keyN p.1 : Nat) : Int)) = false → p.2 ≤ M) ∧ (M = 0 ∨ ∃ p ∈ T, p.2 = M) ∧ M ≤ 1000) ∧ Below w.heap.size w wr)
    (fun _ wr => wr.rangeLeft g w1.heap.size)
  case atStart => exact ⟨_, _, 0, rfl, hrg2, HI0, HM0, b2⟩
  case round =>
    clear hrg2 HI0 HM0 b2
    obtain ⟨left, cnt, M, rfl, hrg, HI, HM, hb⟩ := hrel
    go_wp2_with (first
      | (at_next; refine wpList_next_ranges_ii _ rfl _ rfl 3 3 .i64 .i64 keyLaw Tryz.underlying3 Tryz.underlying3 g w1.heap.size m _ _ _ rfl hrg ?_ ?_)
      | go_in)
    · intro _ hl0
      have hM4 : M = 4 := by
        have hp := bfs_perm HB.out HTL.out (by omega) chk4
        obtain ⟨h1, h2, _⟩ := HM.out
        obtain ⟨c1, c2⟩ := max4
        simp only [List.all_eq_true, List.any_eq_true, decide_eq_true_eq] at c1 c2
        obtain ⟨p, hpC, e⟩ := c2
        have h3 := h1 p (hp.mem_iff.2 hpC) (hl0 _)
        rcases h2 with h2 | ⟨q, hq, e2⟩
        · omega
        · have := c1 q (hp.mem_iff.1 hq); omega
      subst hM4
      go_wp2
      go_ret
      exact ⟨rfl, hb⟩
    · intro x c w3 cnt1 hwx hwc hlx hat hrg1 hlt hg1 hs1 hen
      obtain ⟨p0, hp0, e1, e2⟩ := rng_at HB.out HDF.out HI.out hwx hlx hat
      subst e2
      have hp9 : p0.2 ≤ 1000 := by
        have h1 : p0 ∈ bfsAll 4 24 := (bfs_perm HB.out HTL.out (by omega) chk4).mem_iff.1 hp0
        have h2 := max4.1
        simp only [List.all_eq_true, decide_eq_true_eq] at h2
        have := h2 p0 h1
        omega
      have HI1 : Hid (∀ q, I64 q → (left (.int .i64 q) && !(Lit.int .i64 q).sameKey (.int .i64 x)) = true → (f q).isSome = true) := fun q hq h => by
        rw [Bool.and_eq_true] at h; exact HI.out q hq h.1
      have HM1 : Hid ((∀ p ∈ T, (left (.int .i64 ((keyN p.1 : Nat) : Int)) && !(Lit.int .i64 ((keyN p.1 : Nat) : Int)).sameKey (.int .i64 x)) = false → p.2 ≤ max M p0.2) ∧ (max M p0.2 = 0 ∨ ∃ p ∈ T, p.2 = max M p0.2) ∧ max M p0.2 ≤ 1000) := by
        obtain ⟨h1, h2, h3⟩ := HM.out
        refine ⟨fun p hp h => ?_, ?_, by omega⟩
        · rw [same_int] at h
          cases hc : left (.int .i64 ((keyN p.1 : Nat) : Int))
          · have := h1 p hp hc; omega
          · rw [hc] at h
            have hk : ((keyN p.1 : Nat) : Int) = x := by simpa using h
            have e : p.1 = p0.1 := keyN_inj _ _ ((HB.out.perm p hp).1.trans (HB.out.perm p0 hp0).1.symm) ((HB.out.perm p hp).small (by omega)) ((HB.out.perm p0 hp0).small (by omega)) (by omega)
            have h4 := HB.out.fok p hp
            have h5 := HB.out.fok p0 hp0
            rw [e, h5] at h4
            injection h4 with h4
            omega
        · rcases Nat.le_total M p0.2 with h4 | h4
          · exact .inr ⟨p0, hp0, by omega⟩
          · rw [Nat.max_eq_left h4]; exact h2
      have hb3 := hb.grown hg1 hb.size (fun r hr => by cases hr; exact hs0)
      have hmx : max (M : Int) (p0.2 : Int) = ((max M p0.2 : Nat) : Int) := by omega
      obtain ⟨d, hd⟩ : ∃ d, p0.2 = d := ⟨_, rfl⟩
      rw [hd] at HM1 hmx hen hwc ⊢
      clear hat hg1 hs1 hlx hd hp9
      go_wp2_with go_in
      refine ⟨⟨_, cnt1, _, rfl, hrg1, HI1, HM1, hb3⟩, ?_⟩
      rw [hrg1.left_eq, hrg.left_eq]
      exact hlt

set_option maxRecDepth 100000 in
set_option maxHeartbeats 2000000 in
theorem i_CountAtDistance55 (w : World) : Calls Tryz.prog 19 #[.int .i64 5, .int .i64 5] w (RetB (.int .i64 20) w) := by
  have HD := Lib.hid (i_distT 5 w (by omega))
  go_enter Tryz.func19, Tryz.ntmps19
  go_wp2_with (first
    | (go_at_call 56; refine HD.out.mono ?_; rintro e w1 ⟨g, m, f, T, L, rfl, ⟨D, hown, hDf⟩, hB, hTL, hgw, b1⟩)
    | (at_range; refine wpList_range_own _ rfl _ 56 rfl 3 3 keyLaw Tryz.underlying56 _ g m _ rfl hown ?_; intro w2 hrg2 hg2 hs2)
    | go_in)
  go_frame
  have HB := Lib.hid hB
  have HTL := Lib.hid hTL
  have HDF := Lib.hid hDf
  have b2 := b1.grown hg2 b1.size (fun _ h => by cases h)
  have hs0 := b1.size
  have hP := bfs_perm hB hTL (by omega) chk5
  have hlen : T.length ≤ 1000 := by rw [hP.length_eq]; decide +kernel
  have HP := Lib.hid hP
  have HN := Lib.hid (bfs_keys hB (by omega))
  have HI0 : Hid (∀ q, I64 q → Maps.has D (.int .i64 q) = true → (f q).isSome = true) := fun q hq h => by rw [← (hDf q hq).1]; exact h
  have HM0 : Hid ((T.filter fun p => !(Maps.has D (.int .i64 ((keyN p.1 : Nat) : Int))) && decide (p.2 = 5)).length = 0) := by
    rw [Hid, List.length_eq_zero_iff, List.filter_eq_nil_iff]
    intro p hp h
    rw [(hDf _ (key_I64 (hB.perm p hp) (by omega))).1, hB.fok p hp] at h
    simp at h
  clear hB hTL hDf hown hg2 hP
  go_loopw [5] (fun mv wr => ∃ (left : Lit → Bool) (cnt M : Nat), mv = .int .i64 (M : Int) ∧ wr.ranges Tryz.prog 3 (plainElem Tryz.prog 3) g w1.heap.size m D left cnt ∧ Hid (∀ q, I64 q → left (.int .i64 q) = true → (f q).isSome = true) ∧ Hid ((T.filter fun p => !(left (.int .i64 ((keyN p.1 : Nat) : Int))) && decide (p.2 = 5)).length = M) ∧ Below w.heap.size w wr)
    (fun _ wr => wr.rangeLeft g w1.heap.size)
  case atStart => exact ⟨_, _, 0, rfl, hrg2, HI0, HM0, b2⟩
  case round =>
    clear hrg2 HI0 HM0 b2
    obtain ⟨left, cnt, M, rfl, hrg, HI, HM, hb⟩ := hrel
    have hM9 : M ≤ 1000 := by have h1 := HM.out; have h2 := List.length_filter_le (fun p : List Int × Nat => !(left (.int .i64 ((keyN p.1 : Nat) : Int))) && decide (p.2 = 5)) T; omega
    go_wp2_with (first
      | (at_next; refine wpList_next_ranges_ii _ rfl _ rfl 3 3 .i64 .i64 keyLaw Tryz.underlying3 Tryz.underlying3 g w1.heap.size m _ _ _ rfl hrg ?_ ?_)
      | go_in)
    · intro _ hl0
      have hM4 : M = 20 := by
        have h1 := HM.out
        simp only [hl0, Bool.not_false, Bool.true_and] at h1
        rw [(HP.out.filter _).length_eq, cnt5] at h1
        exact h1.symm
      subst hM4
      go_wp2
      go_ret
      exact ⟨rfl, hb⟩
    · intro x c w3 cnt1 hwx hwc hlx hat hrg1 hlt hg1 hs1 hen
      obtain ⟨p0, hp0, e1, e2⟩ := rng_at HB.out HDF.out HI.out hwx hlx hat
      subst e2
      have HI1 : Hid (∀ q, I64 q → (left (.int .i64 q) && !(Lit.int .i64 q).sameKey (.int .i64 x)) = true → (f q).isSome = true) := fun q hq h => by
        rw [Bool.and_eq_true] at h; exact HI.out q hq h.1
      have hst := (cnt_step (fun p : List Int × Nat => ((keyN p.1 : Nat) : Int)) (fun q => left (.int .i64 q)) (fun p => decide (p.2 = 5)) x hlx T HN.out).2 p0 hp0 e1
      have HM1 : Hid ((T.filter fun p => !(left (.int .i64 ((keyN p.1 : Nat) : Int)) && !(Lit.int .i64 ((keyN p.1 : Nat) : Int)).sameKey (.int .i64 x)) && decide (p.2 = 5)).length = M + (if p0.2 = 5 then 1 else 0)) := by
        simp only [same_int]
        rw [Hid, hst, HM.out]
        simp
      have hb3 := hb.grown hg1 hb.size (fun r hr => by cases hr; exact hs0)
      obtain ⟨d, hd⟩ : ∃ d, p0.2 = d := ⟨_, rfl⟩
      rw [hd] at HM1 hen hwc ⊢
      clear hat hg1 hs1 hlx hd hst
      by_cases h5 : d = 5
      · have d1 : ((d : Int) == 5) = true := by rw [beq_iff_eq]; omega
        rw [if_pos h5] at HM1
        go_wp2_with go_in
        refine ⟨⟨_, cnt1, M + 1, by go_num, hrg1, HI1, HM1, hb3⟩, ?_⟩
        rw [hrg1.left_eq, hrg.left_eq]
        exact hlt
      · have d1 : ((d : Int) == 5) = false := by rw [beq_eq_false_iff_ne]; omega
        rw [if_neg h5] at HM1
        go_wp2_with go_in
        refine ⟨⟨_, cnt1, M, rfl, hrg1, HI1, HM1, hb3⟩, ?_⟩
        rw [hrg1.left_eq, hrg.left_eq]
        exact hlt

theorem chk3 : dchk 3 (bfsAll 3 6) = true := by decide +kernel
theorem flip201 {D : List Int → Nat} (h : Dist 3 D) : D [2, 0, 1] = 2 := by
  have h1 := (dchk_dist chk3 h).1 ([2, 0, 1], 2) (by decide +kernel)
  exact h1
set_option maxHeartbeats 2000000 in
theorem i_FlipDistance201 (v : Value) (w : World) (h : Rd w v (ints [2, 0, 1])) : Calls Tryz.prog 34 #[v] w (RetB (.int .i64 2) w) := by
  have HS := Lib.hid (i_isSix _ _ w h)
  have hs6 : sixB [2, 0, 1] = true := by decide
  have hp : PermN 3 [2, 0, 1] := (sixB_perm hs6).2
  rw [hs6] at HS
  obtain ⟨a, n, c, rfl, HN, hnc, hc⟩ := h.formN
  obtain rfl : n = 3 := HN.out
  have HK := Lib.hid (fun (W : World) (hW : Below w.heap.size w W) => i_key _ _ W (h.below hW) (by simp) (fun y hy => by simp at hy; omega))
  have HD := Lib.hid (fun (W : World) => i_distances 3 W (by omega))
  have hq := key_I64 hp (by omega)
  clear h
  go_enter Tryz.func34, Tryz.ntmps34
  go_wp2_with (first
    | (go_at_call 69; refine HS.out.mono ?_; rintro e w1 ⟨rfl, b1⟩)
    | (go_at_call 56; refine (HD.out _).mono ?_; rintro e w2 ⟨g, m, f, D, rfl, hM, hD, hf, hgw, b2⟩; have hlk := hM.look hq; rw [hf _ hp, flip201 hD] at hlk; have bt := b1.trans (b2.mono b1.size))
    | (go_at_call 71; refine (HK.out _ bt).mono ?_; rintro e w' ⟨rfl, rfl⟩))
  go_ret
  exact ⟨rfl, bt⟩

end Go.Proofs.YtggblfnajeikjaaGreat
