/- Joined texts of the proof: PlainTree, Tree, Play, FlipF, FlipJ, FlipLine, PlainGreedy, GreedyI, GreedyS, TestLine, PlainStable, PlainMerge, PlainMerge2, PlainLate, SpecLate, Stable. -/
import Derived.Test.YtggblfnajeikjaaGreatDoorRows
import Derived.WalkKit
import Derived.WalkSpells
import Derived.WalkLawsBesides
import Derived.Deep.Draws
import Derived.Lib.Hide
import Derived.RegionTactic
import Derived.BigQuiet
import Derived.Deep.QuietTactic
import Derived.Lib.SliceRun
import Derived.Deep.RegionLaw
import Derived.Deep.DeepCutAuto
import Derived.Deep.LoopGhost
import Derived.Deep.RegionWith
import Derived.Lib.ItoaNum
import Derived.Deep.RegionHeld3
import Derived.IntWalk
import Derived.Lib.Join
import Derived.Shelf.Strings.Builder1
import Derived.Shelf.Strings.Builder2
import Derived.Shelf.Strings.OnBuilder
import Derived.Shelf.Strconv.Atoi
import Derived.Shelf.Strconv.Itoa0
import Derived.Shelf.Strconv.Itoa1
import Derived.Shelf.LaysM
import Derived.Shelf.Strconv.Itoa2
import Derived.Shelf.Strconv.Itoa3
import Derived.Shelf.Strconv.AtoiErrFast
import Derived.Shelf.Strconv.ParseIntEmpty
import Derived.Shelf.Strconv.AtoiFail
import Derived.Shelf.Strconv.Clone
import Derived.Shelf.Strconv.SyntaxError
import Derived.Shelf.LaysC
import Derived.Shelf.Strconv.ToError
import Derived.Shelf.Strconv.Lower
import Derived.Shelf.Strconv.ParseUint10
import Derived.Shelf.Strconv.ParseUint10Empty
import Derived.Shelf.Strconv.ParseUint10Any
import Derived.Shelf.Strconv.ParseInt10
import Derived.Shelf.Strconv.AtoiLong
import Derived.Shelf.Strconv.AtoiInnerAll
import Derived.Shelf.Strconv.RangeError
import Derived.Shelf.Strconv.ToErrorRange
import Derived.Shelf.Strconv.AtoiAll
import Derived.Shelf.Strconv.ErrVarAll
import Derived.Shelf.Strings.Search1
import Derived.Shelf.Strings.Search2
import Derived.Shelf.Strings.Search3
import Derived.Shelf.Strings.Cut
import Derived.Shelf.Strings.Count
import Derived.Shelf.Strings.Shaped
import Derived.Shelf.Sort.Plain
import Derived.Shelf.Strings.Prefix
import Derived.Shelf.Strings.Split
import Derived.Shelf.Unicode.DecodeSlow
import Derived.Shelf.Slices.Reverse
import Derived.Ground.Names2Prog
import Derived.Shelf.Slices.CompactI
import Derived.Test.YtggblfnajeikjaaGreatDoorProg
import Derived.Lib.SmallJoins
import Derived.Lib.AppendZeros
import Derived.Deep.AppendLies
import Derived.Lib.SplitLaws
import Derived.Lib.Split
import Derived.Lib.IndexBytes
import Derived.Lib.AtoiAllCases
import Derived.Lib.AtoiErrMem
import Derived.Laws.BitsAllLaws
import Derived.Laws.BitsLemmas
import Derived.Lib.RowBridge
import Derived.Sort.OwnSortedInts
import Derived.Lib.LazyBuf
import Derived.Maps.OwnOps
import Derived.Maps.OwnSet
import Derived.Maps.Views
import Derived.Carry
import Derived.Laws.Bits64b
import Derived.BigRegion
import Derived.Test.YtggblfnajeikjaaGreatDoorJ6
namespace Go.Proofs.YtggblfnajeikjaaGreatDoor
set_option linter.unusedVariables false
set_option linter.unusedSimpArgs false

def headOf (xss : List (List Int)) (t : List Int) (a : Nat) : Option Int := (xss[a]?).bind fun xs => (t[a]?).bind fun n => xs[n.toNat]?
def key (xss : List (List Int)) (t : List Int) (a : Nat) : Int := (headOf xss t a).getD 18446744073709551616 * 1024 + a

def playRound (f : Int → Int) : List Int → List Int × List Int
  | a :: b :: t => if f a < f b then (a :: (playRound f t).1, b :: (playRound f t).2) else (b :: (playRound f t).1, a :: (playRound f t).2)
  | [a] => ([a], [])
  | [] => ([], [])
theorem playRound_sub (f : Int → Int) : ∀ xs, (playRound f xs).1.Sublist xs
  | [] => by simp [playRound]
  | [a] => by simp [playRound]
  | a :: b :: t => by
    have := playRound_sub f t
    simp only [playRound]
    split
    · exact (this.cons _).cons_cons _
    · exact (this.cons_cons _).cons _
def stairs (n : Nat) : List Int := (List.range n).map fun (i : Nat) => (i : Int)
theorem stairs_succ (n : Nat) : stairs (n + 1) = stairs n ++ [(n : Int)] := by simp [stairs, List.range_succ]
theorem stairs_length (n : Nat) : (stairs n).length = n := by simp [stairs]
theorem stairs_mem {n : Nat} {x : Int} : x ∈ stairs n ↔ ∃ k : Nat, k < n ∧ x = k := by
  simp only [stairs, List.mem_map, List.mem_range]
  constructor
  · rintro ⟨k, hk, rfl⟩; exact ⟨k, hk, rfl⟩
  · rintro ⟨k, hk, rfl⟩; exact ⟨k, hk, rfl⟩
theorem stairs_sorted (n : Nat) : (stairs n).Pairwise (· < ·) := by
  unfold stairs
  rw [List.pairwise_map]
  exact List.pairwise_lt_range.imp (by intro a b h; omega)

end Go.Proofs.YtggblfnajeikjaaGreatDoor

namespace Go.Proofs.YtggblfnajeikjaaGreatDoor
open Go.RowKit
set_option linter.unusedVariables false
set_option linter.unusedSimpArgs false

theorem TK.at {xss : List (List Int)} {t : List Int} (h : TK xss t) {a : Nat} {n : Int} {xs : List Int} (hn : t[a]? = some n) (hx : xss[a]? = some xs) : ∃ k : Nat, n = (k : Int) ∧ k ≤ xs.length := by
  have := h.2 a n xs hn hx
  exact ⟨n.toNat, by omega, by omega⟩

end Go.Proofs.YtggblfnajeikjaaGreatDoor

namespace Go.Proofs.YtggblfnajeikjaaGreatDoor
open Go.RowKit
set_option linter.unusedVariables false
set_option linter.unusedSimpArgs false

def Ap (a b : Value) : Prop := ∀ g, a.ownBlock = some g → b.ownBlock ≠ some g
theorem Ap.symm {a b : Value} (h : Ap a b) : Ap b a := fun g h1 h2 => h g h2 h1
theorem Ap.left {w : World} {E B : Nat} {a b a' : Value} {ys : List Value} (h : Ap a b) (hb : Own w E B b ys) (hat : a'.ownBlock = a.ownBlock ∨ ∃ k, w.heap.size ≤ k ∧ a'.ownBlock = some k) : Ap a' b := by
  intro g hg e
  rcases hat with hat | ⟨k, hk, hat⟩
  · exact h g (hat ▸ hg) e
  · rw [hat] at hg
    cases hg
    have := (hb.lt _ e).2
    omega
theorem Ap.right {w : World} {E B : Nat} {a b b' : Value} {ys : List Value} (h : Ap a b) (ha : Own w E B a ys) (hat : b'.ownBlock = b.ownBlock ∨ ∃ k, w.heap.size ≤ k ∧ b'.ownBlock = some k) : Ap a b' := (h.symm.left ha hat).symm
theorem Ap.fresh {w : World} {E B : Nat} {a : Value} {ys : List Value} (ha : Own w E B a ys) (n c : Nat) : Ap a (.slice (some ⟨w.heap.size, 0, none⟩) n c) := by
  intro g hg e
  have := (ha.lt _ hg).2
  simp [Value.ownBlock] at e
  omega
theorem Own.ap {w w' : World} {E B : Nat} {a b : Value} {ys : List Value} (ha : Own w E B a ys) (hg : w.grownBy w' b.ownBlock) (h : Ap a b) : Own w' E B a ys := ha.apart hg h

set_option maxHeartbeats 400000 in
theorem i_wires (n : Nat) (w : World) (hn : n ≤ 1000000) : Calls Tryz.prog 138 #[.int .i64 0, .int .i64 (n : Int)] w (RetOwn 3 (ints (stairs n)) w) := by
  go_enter Tryz.func138, Tryz.ntmps138
  go_wp2
  go_loopw [5, 6] (fun vo i wr => ∃ j : Nat, j ≤ n ∧ i = .int .i64 j ∧ Own wr 3 w.heap.size vo (ints (stairs j)) ∧ Below w.heap.size w wr)
    (fun _ i _ => n - (intOf i).toNat)
  case atStart => exact ⟨0, Nat.zero_le _, rfl, Own.lit0 w _ (Nat.le_refl _), (Below.refl _ _).alloc (Nat.le_refl _) _⟩
  case round =>
    obtain ⟨j, hj, rfl, hs, hb⟩ := hrel
    obtain ⟨az, cs, rfl, _, hcs⟩ := hs.rd.formi
    have hL := stairs_length j
    by_cases hlt : j < n
    · go_wp2_with (at_builtin; refine wpList_app1 rfl _ _ 23 rfl elI rfl hs rfl rfl hb.size (by rw [ints_length]; omega) (by rw [ints_length]; omega) ?_; intro bn cn' w2 hs2 hgrow hat)
      have hb2 := hb.grown hgrow hb.size fun r hr => (hs.lt r hr).1
      go_roundw
      case rel => exact ⟨j + 1, by omega, by go_num, by rw [stairs_succ, ints_append]; exact hs2, hb2⟩
      case measure => simp [intOf]; omega
    · obtain rfl : n = j := by omega
      go_wp2
      go_ret
      exact ⟨_, rfl, hs, hb⟩

def Nows (n : Nat) (now : List Int) : Prop := now.Pairwise (· < ·) ∧ ∀ x ∈ now, ∃ k : Nat, k < n ∧ x = k
theorem Nows.round {n : Nat} {now : List Int} (h : Nows n now) (f : Int → Int) : Nows n (playRound f now).1 :=
  ⟨h.1.sublist (playRound_sub f now), fun x hx => h.2 x ((playRound_sub f now).mem hx)⟩
theorem Nows.stairs (n : Nat) : Nows n (stairs n) := ⟨stairs_sorted n, fun x hx => stairs_mem.1 hx⟩
theorem Nows.two {n : Nat} {now : List Int} (h : Nows n now) {q : Nat} {x y : Int} (hx : now[q]? = some x) (hy : now[q + 1]? = some y) : ∃ a b : Nat, x = a ∧ y = b ∧ a < b ∧ b < n := by
  obtain ⟨h1, rfl⟩ := List.getElem?_eq_some_iff.1 hx
  obtain ⟨h2, rfl⟩ := List.getElem?_eq_some_iff.1 hy
  obtain ⟨a, ha, hea⟩ := h.2 _ (List.getElem_mem h1)
  obtain ⟨b, hb, heb⟩ := h.2 _ (List.getElem_mem h2)
  have := List.pairwise_iff_getElem.1 h.1 q (q + 1) h1 h2 (by omega)
  exact ⟨a, b, hea, heb, by omega, hb⟩

end Go.Proofs.YtggblfnajeikjaaGreatDoor

namespace Go.Proofs.YtggblfnajeikjaaGreatDoor
open Go.RowKit
set_option linter.unusedVariables false
set_option linter.unusedSimpArgs false

theorem idL_stairs (n : Nat) : stairs n = idL n := rfl
theorem Own2.map {w w' : World} {EO E B T g n : Nat} {v : Value} {xss : List (List Int)} {f : Int → Option Int} (h : Own2 w EO E B T v xss) (hm : MapF w g n f) (hg : w.grownBy w' (some g)) : Own2 w' EO E B T v xss := by
  obtain ⟨rows, h1, h2, h3⟩ := h
  refine ⟨rows, h1.apart hg fun k hk e => hm.ne h1 (by rw [hk, e]), h2, h3.grown hg fun r hr k hk e => ?_⟩
  obtain ⟨i, hi, rfl⟩ := List.getElem_of_mem hr
  obtain ⟨xs, _, h4⟩ := h3.row (List.getElem?_eq_getElem hi)
  exact hm.ne h4 (by rw [hk, e])

def RetDist (n : Nat) (w : World) (e : Ending) (w' : World) : Prop :=
  ∃ (g m : Nat) (f : Int → Option Int) (D : List Int → Nat), e = .returned (.map (some g)) ∧ MapF w' g m f ∧ Dist n D ∧ (∀ xs, PermN n xs → f (keyN xs) = some (D xs : Int)) ∧ w.heap.size ≤ g ∧ Below w.heap.size w w'
set_option maxRecDepth 100000 in
set_option maxHeartbeats 8000000 in
theorem i_distances (n : Nat) (w : World) (hn : n ≤ 6) : Calls Tryz.prog 84 #[.int .i64 (n : Int)] w (RetDist n w) := by
  have HW := Lib.hid (i_wires n w (by omega))
  have hkey0 : I64 ((keyN (idL n) : Nat) : Int) := by
    have h1 := (keyN_lt (idL n) ((PermN.idL n).small hn)).1
    rw [(PermN.idL n).1] at h1
    have : 8 ^ n ≤ 8 ^ 6 := Nat.pow_le_pow_right (by omega) hn
    unfold I64
    omega
  have HK := Lib.hid (fun (v : Value) (xs : List Int) (W : World) (h : Rd W v (ints xs)) (hp : PermN n xs) => i_key v xs W h (by rw [hp.1]; exact hn) (hp.small hn))
  have HI0 : Hid (PermN n (idL n)) := PermN.idL n
  have hmm := @run_makeMap Tryz.prog
  go_enter Tryz.func84, Tryz.ntmps84
  go_upto_region 2 with (go_at_call 138; refine HW.out.mono ?_; rintro e w1 ⟨v1, rfl, ho1, hb1⟩; rw [idL_stairs] at ho1)
  have hM0 := MapF.made w1
  have hbA : Below w1.heap.size w1 (w1.alloc (.map #[] 0)) := (Below.refl _ _).alloc (Nat.le_refl _) _
  obtain ⟨w2, hput, hM2, hg2⟩ := hM0.put (by omega) hkey0 (v := 0) (by unfold I64; omega)
  have hoA := ho1.below hbA
  obtain ⟨a1, n1, c1, rfl, HN1, _, _⟩ := ho1.rd.formN
  go_upto_region 3 with (go_at_call 86; refine (HK.out _ _ _ hoA.rd HI0.out).mono ?_; rintro e w' ⟨rfl, rfl⟩)
  have hb2 : Below w.heap.size w w2 := (hb1.trans (hbA.mono hb1.size)).grown hg2 (by have := hb1.size; simp; omega) fun r hr => by cases hr; exact hb1.size
  have hs2 := hb2.size
  have ho2 : Own w2 3 w.heap.size (.slice a1 n1 c1) (ints (idL n)) := hoA.apart hg2 fun k hk e => hM0.ne hoA (by rw [hk, e])
  have hgl : w1.heap.size < w2.heap.size := hM2.lt
  obtain ⟨g, hge⟩ : ∃ g, w1.heap.size = g := ⟨_, rfl⟩
  have hgw : w.heap.size ≤ g := by rw [← hge]; exact hb1.size
  rw [hge] at hM2 hg2 hgl ⊢
  have hbB : Below w2.heap.size w2 (w2.alloc (.cells #[.slice a1 n1 c1] 23)) := (Below.refl _ _).alloc (Nat.le_refl _) _
  have hO2 : Own2 (w2.alloc (.cells #[.slice a1 n1 c1] 23)) 23 3 w.heap.size (w2.alloc (.cells #[.slice a1 n1 c1] 23)).heap.size (.slice (some ⟨w2.heap.size, 0, none⟩) 1 1) [idL n] := by
    have h1 := Own.lit w2 23 w.heap.size #[.slice a1 n1 c1] hs2 (by simp)
    have h2 := RowsOwn.snoc (RowsOwn.nil (w2.alloc (.cells #[.slice a1 n1 c1] 23)) 3 w.heap.size w.heap.size) (T' := (w2.alloc (.cells #[.slice a1 n1 c1] 23)).heap.size) (ho2.below hbB) (fun k hk => by
      have h3 := ho2.lt k hk
      simp
      omega) (by simp; omega)
    exact ⟨_, h1, fun k hk => (h1.lt k hk).2, h2⟩
  have hM3 := hM2.below hbB
  have hb3 := hb2.trans (hbB.mono hs2)
  have HB0 : Hid (Bfs n 0 2 [(idL n, 0)] (updF (fun _ => none) (keyN (idL n)) 0)) := Bfs.start n
  clear hM0 hbA hoA hb1 ho1 hM2 hg2 hgl hb2 ho2 hbB hput hmm hge hs2
  go_wp2
  go_loopg [5, 6] 600000 (fun g_ vo av wr => ∃ (at_ : Nat) (T : List (List Int × Nat)) (f : Int → Option Int) (m : Nat), g_ = 600000 - at_ ∧ at_ ≤ T.length ∧ av = .int .i64 at_ ∧ Hid (Bfs n at_ 2 T f) ∧ MapF wr g m f ∧ m ≤ T.length ∧ Own2 wr 23 3 w.heap.size wr.heap.size vo (T.map Prod.fst) ∧ Below w.heap.size w wr)
  case atStart => exact ⟨0, _, _, 1, rfl, Nat.zero_le _, rfl, HB0, hM3, Nat.le_refl _, hO2, hb3⟩
  case round =>
    clear HB0 hM3 hO2 hb3
    obtain ⟨at_, T, f, m, hg_, hat, rfl, HB, hM, hm, ho, hb⟩ := hrel
    have hTl := HB.out.len hn
    obtain ⟨ao, co, rfl, hlo, _⟩ := ho.form
    rw [List.length_map] at ho hlo ⊢
    obtain ⟨L, hL⟩ : ∃ L, T.length = L := ⟨_, rfl⟩
    have HL := Lib.hid hL
    rw [hL] at hat hm ho hTl hlo ⊢
    clear hL
    by_cases hlt : at_ < L
    · go_wp2
      go_loopg [5, 7] (n + 1) (fun gk vo kv wr => ∃ (k : Nat) (T : List (List Int × Nat)) (f : Int → Option Int) (m : Nat), gk = n + 3 - k ∧ 2 ≤ k ∧ (k ≤ n + 1 ∨ k = 2) ∧ at_ < T.length ∧ kv = .int .i64 k ∧ Hid (Bfs n at_ k T f) ∧ MapF wr g m f ∧ m ≤ T.length ∧ Own2 wr 23 3 w.heap.size wr.heap.size vo (T.map Prod.fst) ∧ Below w.heap.size w wr)
      case atStart => exact ⟨2, T, f, m, by omega, Nat.le_refl _, .inr rfl, by rw [HL.out]; exact hlt, rfl, HB, hM, by rw [HL.out]; exact hm, ho, hb⟩
      case round =>
        clear HB hM hm ho hb HL hTl hlo hat hlt
        obtain ⟨k, T, f, m, hgk, hk2, hkn, hat, rfl, HB, hM, hm, ho, hb⟩ := hrel
        have hTl := HB.out.len hn
        obtain ⟨ao, co, rfl, hlo, _⟩ := ho.form
        rw [List.length_map] at ho hlo ⊢
        by_cases hk : k ≤ n
        · obtain ⟨ado, br, mr, cr, xs, rfl, hcr, HXS, HMX, hmcr, hcr9, hrr⟩ := ho.rd.row (k := at_) (by rw [List.length_map]; exact hat)
          obtain ⟨x, d, hxd⟩ : ∃ x d, T[at_]? = some (x, d) := ⟨_, _, List.getElem?_eq_getElem hat⟩
          obtain rfl : xs = x := by have := HXS.out; rw [List.getElem?_map, hxd] at this; exact (Option.some.inj this).symm
          have hp := HB.out.perm _ (List.mem_of_getElem? hxd)
          have HXD := Lib.hid hxd
          have HP := Lib.hid hp
          have HPF : Hid (PermN n (flipL xs k)) := hp.flip
          have HF := Lib.hid (fun (W : World) (hW : Below wr.heap.size wr W) => i_flip _ xs k W (hrr.keep fun p hp _ => hW.cell hp) (by rw [hp.1]; omega) (by rw [hp.1]; exact hk) (by rw [hp.1]; omega))
          have hqk : I64 ((keyN (flipL xs k) : Nat) : Int) := by
            have h1 := (keyN_lt (flipL xs k) (hp.flip.small hn)).1
            rw [hp.flip.1] at h1
            have : 8 ^ n ≤ 8 ^ 6 := Nat.pow_le_pow_right (by omega) hn
            unfold I64
            omega
          obtain ⟨L, hL⟩ : ∃ L, T.length = L := ⟨_, rfl⟩
          have HL := Lib.hid hL
          rw [hL] at hat hm ho hTl hlo ⊢
          clear hL hxd hp
          go_upto_region 11 with (go_at_call 87; refine (HF.out _ (Below.refl _ _)).mono ?_; rintro e w8 ⟨v8, rfl, ho8, hb8⟩; obtain ⟨a8, n8, c8, rfl, HN8, _, _⟩ := ho8.rd.formN)
          have hM8 := hM.below hb8
          have hlk := hM8.lookOk hqk
          cases hf : f ((keyN (flipL xs k) : Nat) : Int) with
          | some v =>
            rw [hf] at hlk
            have HB2 := Lib.hid (HB.out.old hn HXD.out hf)
            clear hf
            go_wp2_with (go_at_call 86; refine (HK.out _ _ _ ho8.rd HPF.out).mono ?_; rintro e w' ⟨rfl, rfl⟩)
            go_roundg (n + 3 - (k + 1))
            case measure => omega
            case rel => exact ⟨k + 1, T, f, m, rfl, by omega, .inl (by omega), by rw [HL.out]; exact hat, by go_num, HB2, hM8, by rw [HL.out]; exact hm, (ho.below hb8).mono (Nat.le_refl _) hb8.size, hb.trans (hb8.mono hb.size)⟩
          | none =>
            rw [hf] at hlk
            have HB2 := Lib.hid (HB.out.new HXD.out hk2 hk hf)
            clear hf
            go_upto_region 13 with (go_at_call 86; refine (HK.out _ _ _ ho8.rd HPF.out).mono ?_; rintro e w' ⟨rfl, rfl⟩)
            have hrr8 := hrr.below hb8
            have hcr8 := (hb8.cell (World.block_lt_of_cell? _ _ hcr)).trans hcr
            have hqx : I64 ((keyN xs : Nat) : Int) := by
              have h1 := (keyN_lt xs (HP.out.small hn)).1
              rw [HP.out.1] at h1
              have : 8 ^ n ≤ 8 ^ 6 := Nat.pow_le_pow_right (by omega) hn
              unfold I64
              omega
            have hdl : d < 1000000 := by have := HB.out.bd _ _ HXD.out; simp only at this; omega
            have hfx : f ((keyN xs : Nat) : Int) = some (d : Int) := HB.out.fok _ (List.mem_of_getElem? HXD.out)
            have hl0 := hM8.look hqx
            rw [hfx] at hl0
            have hMD : MapF w8.drew g m f := hM8.below ((Below.refl _ _).drew)
            have hl1 := hMD.look hqx
            rw [hfx] at hl1
            obtain ⟨w9, hput9, hM9, hg9⟩ := hMD.put (by omega) hqk (v := ((d + 1 : Nat) : Int)) (by unfold I64; omega)
            have ed : IntKind.i64.wrap ((d : Int) + 1) = ((d + 1 : Nat) : Int) := by rw [IntKind.wrap_i64]; omega
            rw [← ed] at hput9
            simp only [Option.getD_some] at hl0 hl1
            have i2 : (at_ : Int) < (L : Int) := by omega
            have HKN : Hid (∀ W : World, W.heap = w8.heap → Calls Tryz.prog 86 #[.slice a8 n8 c8] W fun e w' => e = .returned (.int .i64 ((keyN (flipL xs k) : Nat) : Int)) ∧ W = w') := fun W hW => HK.out _ _ W (ho8.rd.keep fun p _ _ => World.cell?_of_block (w := w8) (by rw [hW])) HPF.out
            have HKX : Hid (∀ W : World, W.heap = w8.heap → Calls Tryz.prog 86 #[.slice br mr cr] W fun e w' => e = .returned (.int .i64 ((keyN xs : Nat) : Int)) ∧ W = w') := fun W hW => HK.out _ _ W (hrr8.keep fun p _ _ => World.cell?_of_block (w := w8) (by rw [hW])) HP.out
            clear hfx ed hlk
            go_region_with (first
              | (go_at_call 86; (with_reducible refine (HKN.out _ ?_).mono ?_); (focus rfl); rintro e w' ⟨rfl, rfl⟩)
              | (go_at_call 86; (with_reducible refine (HKX.out _ ?_).mono ?_); (focus rfl); rintro e w' ⟨rfl, rfl⟩))
            all_goals
              have hbd9 : Below w.heap.size w w9 := ((hb.trans (hb8.mono hb.size)).drew).grown hg9 (by have := hb.size; have := hb8.size; simp; omega) fun r hr => by cases hr; exact hgw
              have hO9 := Own2.map (w := w8.drew) ((ho.below hb8).below ((Below.refl _ _).drew)) hMD hg9
              have hr9 : Own w9 3 wr.heap.size (.slice a8 n8 c8) (ints (flipL xs k)) := (Own.drew ho8).apart hg9 fun q h1 h2 => hMD.ne (Own.drew ho8) (by rw [h1, h2])
              have hs89 : wr.heap.size ≤ w9.heap.size := by have := hb8.size; have := hg9.size; simp at this; omega
              obtain ⟨rows, hov, hTT, hrows⟩ := hO9
              have hsw9 := hbd9.size
              have hswr := hb.size
              have HRL : Hid (rows.length = L) := by rw [Hid, hrows.1, List.length_map, HL.out]
              clear hrr hcr hM ho hb hb8 hM8 hMD hrr8 hcr8 hl0 hl1 hput9
              go_wp2_with (at_builtin; (refine wpList_app1m rfl _ _ 28 rfl elII ?_ hov ?_ ?_ hsw9 L HRL.out (by omega) (by omega) ?_); (focus exact rfl); (focus (simp [Act.eval])); (focus exact rfl); intro bn cn' w10 ho10 hg10 hat10)
              have hO10 := Own2.app (hrows.snoc (hr9.mono hswr) (fun q hq => hr9.lt q hq) hs89) hov (by decide) hg10 ho10 hg10.size
              have hM10 := hM9.kept hg10 (fun e => hM9.ne hov e.symm)
              have hb10 := hbd9.grown hg10 hsw9 fun r hr => (hov.lt r hr).1
              go_roundg (n + 3 - (k + 1))
              case measure => omega
              case rel => exact ⟨k + 1, _, _, m + 1, rfl, by omega, .inl (by omega), by rw [List.length_append, HL.out]; omega, by go_num, HB2, hM10, by rw [List.length_append, HL.out]; simp; omega, by rw [List.map_append]; exact hO10, hb10⟩
        · have HB2 := Lib.hid (HB.out.step (by omega) hat)
          have HAT := Lib.hid hat
          obtain ⟨L, hL⟩ : ∃ L, T.length = L := ⟨_, rfl⟩
          have HL := Lib.hid hL
          rw [hL] at hat hm ho hTl hlo ⊢
          clear hL
          go_wp2
          go_roundg (600000 - (at_ + 1))
          case measure => omega
          case rel => exact ⟨at_ + 1, T, f, m, rfl, HAT.out, by go_num, HB2, hM, by rw [HL.out]; exact hm, ho, hb⟩
    · have HD := HB.out.dist (by rw [HL.out]; omega) hn
      obtain ⟨D, hD, hDf⟩ := HD
      have HD1 := Lib.hid hD
      have HD2 := Lib.hid hDf
      clear hD hDf
      go_wp2
      go_ret
      exact ⟨g, m, f, D, rfl, hM, HD1.out, HD2.out, hgw, hb⟩

section
variable {n : Nat} {D : List Int → Nat}
theorem Dist.back' (H : Dist n D) {xs : List Int} {k : Nat} (h : PermN n xs) (hk : k ≤ n) : D xs ≤ D (flipL xs k) + 1 := by
  by_cases h2 : 2 ≤ k
  · exact H.back h h2 hk
  · rw [flipL_one (by omega)]; omega
theorem Dist.bound (H : Dist n D) : ∀ m, m ≤ n → ∀ xs, PermN n xs → (∀ i, m ≤ i → i < n → xs[i]? = Option.some (i : Int)) → D xs ≤ 2 * m
  | 0, _, xs, h, hi => by
    have : xs = idL n := PermN.eq_of_get h.1 (by simp [idL]) fun i h2 => by rw [hi i (Nat.zero_le _) h2, idL_get h2]
    rw [this, H.zero]
    omega
  | m + 1, hm, xs, h, hi => by
    obtain ⟨p, hp, hpx⟩ := h.at (v := m) (by omega)
    have hpm : p ≤ m := by
      by_cases e : p ≤ m
      · exact e
      · have := hi p (by omega) hp
        rw [hpx] at this
        injection this with this
        omega
    have h1 : PermN n (flipL xs (p + 1)) := h.flip
    have h2 : PermN n (flipL (flipL xs (p + 1)) (m + 1)) := h1.flip
    have hT2 := H.bound m (by omega) _ h2 fun i hmi hin => by
      by_cases e : i = m
      · subst e
        rw [flipL_lo (by rw [h1.1]; omega) (by omega), flipL_lo (by rw [h.1]; omega) (by omega)]
        have : p + 1 - 1 - (i + 1 - 1 - i) = p := by omega
        rw [this]
        exact hpx
      · rw [flipL_hi (by rw [h1.1]; omega) (by omega), flipL_hi (by rw [h.1]; omega) (by omega)]
        exact hi i (by omega) hin
    have h3 := H.back' h (k := p + 1) (by omega)
    have h4 := H.back' h1 (k := m + 1) (by omega)
    omega
theorem Dist.len (H : Dist n D) {xs : List Int} (h : PermN n xs) : D xs ≤ 2 * n := H.bound n (Nat.le_refl _) xs h fun i h1 h2 => by omega
theorem Dist.best_bd (H : Dist n D) {xs : List Int} (h : PermN n xs) : (bestL xs).length ≤ 2 * n ∧ ∀ y ∈ bestL xs, 2 ≤ y ∧ y ≤ (n : Int) := by
  obtain ⟨l, hl, hll, hx⟩ := H.found _ xs h rfl
  rw [H.best h hl, hll]
  exact ⟨H.len h, hx⟩
end

set_option maxRecDepth 100000 in
set_option maxHeartbeats 8000000 in
theorem i_BestFlips (v : Value) (xs : List Int) (w : World) (h : Rd w v (ints xs)) (hs : sixB xs = true) : Calls Tryz.prog 28 #[v] w fun e w' => RetOwnB 3 (ints (bestL xs)) true w e w' ∧ (bestL xs).length ≤ 12 ∧ ∀ y ∈ bestL xs, 2 ≤ y ∧ y ≤ 6 := by
  have HS := Lib.hid (hs ▸ i_isSix v xs w h)
  obtain ⟨h6, hp0⟩ := sixB_perm hs
  obtain ⟨a, c, rfl, hnc, hc⟩ := h.formi
  obtain ⟨n, hn⟩ : ∃ n, xs.length = n := ⟨_, rfl⟩
  rw [hn] at hp0 h6 hnc
  have HN := Lib.hid hn
  have HP0 := Lib.hid hp0
  have HCL := Lib.hid (fun (W : World) (hW : Below w.heap.size w W) => f_Clone _ xs W (h.below hW) (by omega))
  have HDI := Lib.hid (fun (W : World) => i_distances n W h6)
  have HK := Lib.hid (fun (v : Value) (ys : List Int) (W : World) (h : Rd W v (ints ys)) (hp : PermN n ys) => i_key v ys W h (by rw [hp.1]; exact h6) (hp.small h6))
  have HKQ : Hid (∀ ys, PermN n ys → I64 ((keyN ys : Nat) : Int)) := fun ys hp => by
    have h1 := (keyN_lt ys (hp.small h6)).1
    rw [hp.1] at h1
    have : 8 ^ n ≤ 8 ^ 6 := Nat.pow_le_pow_right (by omega) h6
    unfold I64
    omega
  rw [hn] at HCL HS ⊢
  have HBST : Hid (∀ D, Dist n D → ∃ l, findE (D xs + 1) xs = some l ∧ l.length = D xs ∧ bestL xs = [] ++ l) := fun D hD => by
    obtain ⟨l0, hl0, hll0, _⟩ := hD.found _ xs hp0 rfl
    exact ⟨l0, hl0, hll0, hD.best hp0 hl0⟩
  have HBBD : Hid (∀ D, Dist n D → (bestL xs).length ≤ 2 * n ∧ ∀ y ∈ bestL xs, 2 ≤ y ∧ y ≤ (n : Int)) := fun D hD => hD.best_bd hp0
  generalize bestL xs = BL at HBST HBBD ⊢
  clear hn hp0
  go_enter Tryz.func28, Tryz.ntmps28
  go_upto_region 6 with (first
    | (go_at_call 83; refine HS.out.mono ?_; rintro e w1 ⟨rfl, hb1⟩)
    | (go_at_call 84; refine (HDI.out _).mono ?_; rintro e w2 ⟨g, m, f, D, rfl, hM, hD, hDf, hg2, hb2⟩; have HD := Lib.hid hD; have HDf := Lib.hid hDf; clear hD hDf; have hb12 := hb1.trans (hb2.mono hb1.size); have hA : Below w2.heap.size w2 (w2.alloc (.cells #[] 3)) := (Below.refl _ _).alloc (Nat.le_refl _) _; have hlit := Own.lit0 w2 3 (Nat.le_refl _); have hbA := hb12.trans (hA.mono hb12.size))
    | (go_at_call 85; refine (HCL.out _ hbA).mono ?_; rintro e w3 ⟨v3, rfl, ho3, hb3⟩))
  have hO : OwnsL w3 3 w.heap.size [(.slice (some ⟨w2.heap.size, 0, none⟩) 0 0, []), (v3, xs)] := by
    have h1 := OwnsL.snoc (OwnsL.nil w2 3 w.heap.size) hA hb12.size hlit
    have h2 := h1.snoc hb3 hbA.size ho3
    simpa using h2
  have hb := hbA.trans (hb3.mono hbA.size)
  have hM3 := (hM.below hA).below hb3
  have hgw : w.heap.size ≤ g := Nat.le_trans hb1.size hg2
  have HL0 := Lib.hid (HBST.out D HD.out)
  have HBB := Lib.hid (HBBD.out D HD.out)
  have hDx := HD.out.len HP0.out
  clear hA hlit hbA ho3 hb3 hb1 hb2 hb12 hM hg2 HBST HBBD
  go_wp2
  go_loopg [5, 6] (D xs) (fun g_ vo vl wr => ∃ (O L : List Int), g_ = D L ∧ O.length + D L ≤ 12 ∧ PermN n L ∧ Hid (∃ l, findE (D L + 1) L = some l ∧ l.length = D L ∧ BL = O ++ l) ∧ OwnsL wr 3 w.heap.size [(vo, O), (vl, L)] ∧ MapF wr g m f ∧ Below w.heap.size w wr)
  case atStart => exact ⟨[], xs, rfl, by simp; omega, HP0.out, HL0, hO, hM3, hb⟩
  case round =>
    clear hO hb hM3 HL0
    obtain ⟨O, L, hg_, hOl, hp, HL, hO, hM, hb⟩ := hrel
    obtain ⟨wo, rfl⟩ : ∃ wo : World, wo = wr := ⟨_, rfl⟩
    have HP := Lib.hid hp
    have hqL := HKQ.out L hp
    have hlk := hM.look hqL
    rw [HDf.out L hp] at hlk
    simp only [Option.getD_some] at hlk
    have HKL := Lib.hid (HK.out _ L wo hO.o1.rd hp)
    dsimp only at HKL
    obtain ⟨d, hd⟩ : ∃ d, D L = d := ⟨_, rfl⟩
    rw [hd] at hlk hOl HL hg_
    have HDL := Lib.hid hd
    by_cases hd0 : d = 0
    · have HE : Hid (BL = O) := by
        obtain ⟨l, _, hll, e⟩ := HL.out
        have : l = [] := List.length_eq_zero_iff.1 (by omega)
        rw [Hid, e, this, List.append_nil]
      have i1 : ¬ ((d : Int) > 0) := by omega
      obtain ⟨al, nl, cl, rfl, HNL, _, _⟩ := hO.o1.rd.formN
      have ho := hO.o0
      dsimp only at ho
      clear hd hp
      go_wp2_with (go_at_call 86; refine HKL.out.mono ?_; rintro e w' ⟨rfl, rfl⟩)
      go_ret2
      refine ⟨⟨_, rfl, by rw [HE.out]; exact ho, hb⟩, ?_, fun y hy => ?_⟩
      · have := HBB.out.1; omega
      · have := HBB.out.2 y hy; omega
    · have i1 : 0 < d := by omega
      have hne : L ≠ idL n := fun e => by rw [e, HD.out.zero] at hd; omega
      have HLE := Lib.hid (HD.out.least hp hne)
      obtain ⟨al, nl, cl, rfl, HNL, _, _⟩ := hO.o1.rd.formN
      replace HNL : Hid (nl = L.length) := HNL.out
      obtain ⟨ao, no, co, rfl, HNO0, _, _⟩ := hO.o0.rd.formN
      replace HNO0 : Hid (no = O.length) := HNO0.out
      have hnl : n = nl := by rw [HNL.out, hp.1]
      subst hnl
      have hn1 : 1 ≤ n := by
        obtain ⟨k, h2, hk, _⟩ := HLE.out
        omega
      have HFL := Lib.hid (fun (W : World) (hW : Rd W (.slice al n cl) (ints L)) (k : Nat) (hk : k ≤ n) => i_flip _ L k W hW (by rw [HP.out.1]; omega) (by rw [HP.out.1]; exact hk) (by rw [HP.out.1]; omega))
      clear hd hne hp hd0
      go_wp2_with (go_at_call 86; refine HKL.out.mono ?_; rintro e w' ⟨rfl, rfl⟩)
      clear hlk
      clear HKL
      go_loopg [5, 6, 26] (n + 1) (fun gk ov lv kv wr => ∃ k : Nat, gk = n + 1 - k ∧ k ≤ n + 1 ∧ ov = .slice ao no co ∧ lv = .slice al n cl ∧ kv = .int .i64 k ∧ Hid (∀ j, j < k → ¬ D (flipL L j) < D L) ∧ Below wo.heap.size wo wr)
      case atStart => exact ⟨0, rfl, Nat.zero_le _, rfl, rfl, rfl, fun j hj => by omega, Below.refl _ _⟩
      case round =>
        obtain ⟨k, hgk, hkn, rfl, rfl, rfl, HNO, hbk⟩ := hrel
        by_cases hlt : k < n + 1
        · have hkl : k ≤ n := by omega
          have HPF : Hid (PermN n (flipL L k)) := HP.out.flip
          have hrl : Rd wr (.slice al n cl) (ints L) := by have := hO.o1.rd; dsimp only at this; exact this.keep fun p hp _ => hbk.cell hp
          have hMk := hM.below hbk
          go_upto_region 11 with (go_at_call 87; refine (HFL.out _ hrl k hkl).mono ?_; rintro e w8 ⟨v8, rfl, ho8, hb8⟩; obtain ⟨a8, n8, c8, rfl, HN8, _, _⟩ := ho8.rd.formN)
          have hM8 := hMk.below hb8
          have hrl8 := hrl.below hb8
          have hl0 := hM8.look hqL
          have hl1 := hM8.look (HKQ.out _ HPF.out)
          rw [HDf.out L HP.out, HDL.out] at hl0
          rw [HDf.out _ HPF.out] at hl1
          have hMD : MapF w8.drew g m f := hM8.below ((Below.refl _ _).drew)
          have hl2 := hMD.look hqL
          have hl3 := hMD.look (HKQ.out _ HPF.out)
          rw [HDf.out L HP.out, HDL.out] at hl2
          rw [HDf.out _ HPF.out] at hl3
          simp only [Option.getD_some] at hl0 hl1 hl2 hl3
          have HKN : Hid (∀ W : World, W.heap = w8.heap → Calls Tryz.prog 86 #[.slice a8 n8 c8] W fun e w' => e = .returned (.int .i64 ((keyN (flipL L k) : Nat) : Int)) ∧ W = w') := fun W hW => HK.out _ _ W (ho8.rd.keep fun p _ _ => World.cell?_of_block (w := w8) (by rw [hW])) HPF.out
          have HKX : Hid (∀ W : World, W.heap = w8.heap → Calls Tryz.prog 86 #[.slice al n cl] W fun e w' => e = .returned (.int .i64 ((keyN L : Nat) : Int)) ∧ W = w') := fun W hW => HK.out _ _ W (hrl8.keep fun p _ _ => World.cell?_of_block (w := w8) (by rw [hW])) HP.out
          have hbk8 := hbk.trans (hb8.mono hbk.size)
          have HDK : Hid (D (flipL L k) = D (flipL L k)) := rfl
          by_cases hless : D (flipL L k) < d
          · have HK2 : Hid (2 ≤ k) := by
              rw [Hid]
              by_cases h2 : 2 ≤ k
              · exact h2
              · rw [flipL_one (by omega), HDL.out] at hless; omega
            have HNX : Hid (∃ l, findE (D (flipL L k) + 1) (flipL L k) = some l ∧ l.length = D (flipL L k) ∧ BL = (O ++ [(k : Int)]) ++ l) := by
              obtain ⟨l, hl, hll, _⟩ := HD.out.found _ _ HPF.out rfl
              obtain ⟨l2, hl2, _, he⟩ := HL.out
              have h1 := HD.out.some HP.out HK2.out hkl (by rw [HDL.out]; exact hless) HNO.out hl
              rw [HDL.out, hl2] at h1
              injection h1 with h1
              exact ⟨l, hl, hll, by rw [he, h1, List.append_assoc]; rfl⟩
            have dl : decide (((D (flipL L k) : Nat) : Int) < (d : Int)) = true := by simpa using hless
            have hO8 := OwnsL.fresh (L1 := [(Value.slice ao no co, O)]) (L2 := []) (hO.below hbk) hb8 (Nat.le_trans hb.size hbk.size) ho8
            simp only [List.singleton_append, List.cons_append, List.nil_append] at hO8
            have hbD : Below w.heap.size w w8.drew := (hb.trans (hbk8.mono hb.size)).drew
            have hOD : OwnsL w8.drew 3 w.heap.size [(.slice ao no co, O), (.slice a8 n8 c8, flipL L k)] := hO8.below ((Below.refl _ _).drew)
            have hsD := hbD.size
            have hno : no ≤ 12 := by have := HNO0.out; omega
            have HLO : Hid ((ints O).length = no) := by rw [Hid, ints_length, HNO0.out]
            have hk12 : (O ++ [(k : Int)]).length + D (flipL L k) ≤ 12 := by simp; omega
            go_region_with (first
              | (go_at_call 86; (with_reducible refine (HKN.out _ ?_).mono ?_); (focus rfl); rintro e w' ⟨rfl, rfl⟩)
              | (go_at_call 86; (with_reducible refine (HKX.out _ ?_).mono ?_); (focus rfl); rintro e w' ⟨rfl, rfl⟩))
            all_goals
              clear hl0 hl1 hl2 hl3 hrl hrl8 hM8 hMk hO8
              go_wp2_with (at_builtin; (refine wpList_app1m rfl _ _ 23 rfl elI ?_ hOD.o0 ?_ ?_ hsD no HLO.out (by omega) (by omega) ?_); (focus exact rfl); (focus (simp [Act.eval])); (focus exact rfl); intro b9 c9 w9 ho9 hg9 hat9)
              have hO9 := hOD.t0 hg9 (ys := O ++ [(k : Int)]) (by rw [ints_append]; exact ho9) (hat_of hat9)
              have hM9 := hMD.kept hg9 (fun e => hMD.ne hOD.o0 e.symm)
              have hb9 := hbD.grown hg9 hsD (fun r hr => (hOD.o0.lt r hr).1)
              go_roundg (D (flipL L k))
              case measure => omega
              case rel => exact ⟨O ++ [(k : Int)], flipL L k, rfl, hk12, HPF.out, HNX, hO9, hM9, hb9⟩
          · have dl : decide (((D (flipL L k) : Nat) : Int) < (d : Int)) = false := by simpa using hless
            have HNO2 : Hid (∀ j, j < k + 1 → ¬ D (flipL L j) < D L) := fun j hj => by
              by_cases e : j = k
              · subst e; rw [HDL.out]; exact hless
              · exact HNO.out j (by omega)
            have hbk9 : Below wo.heap.size wo w8.drew := hbk8.drew
            go_region_with (first
              | (go_at_call 86; (with_reducible refine (HKN.out _ ?_).mono ?_); (focus rfl); rintro e w' ⟨rfl, rfl⟩)
              | (go_at_call 86; (with_reducible refine (HKX.out _ ?_).mono ?_); (focus rfl); rintro e w' ⟨rfl, rfl⟩))
            all_goals
              clear hl0 hl1 hl2 hl3 hrl hrl8 hM8 hMk
              go_wp2_with fail
              go_roundg (n + 1 - (k + 1))
              case measure => omega
              case rel => exact ⟨k + 1, rfl, by omega, rfl, rfl, by go_num, HNO2, hbk9⟩
        · obtain ⟨q, _, hqn, hql, _⟩ := HLE.out
          exact absurd hql (HNO.out q (by omega))

end Go.Proofs.YtggblfnajeikjaaGreatDoor

namespace Go.Proofs.YtggblfnajeikjaaGreatDoor
open Go.RowKit
set_option linter.unusedVariables false
set_option linter.unusedSimpArgs false

theorem Bfs.row {n at_ k : Nat} {T : List (List Int × Nat)} {f : Int → Option Int} (H : Bfs n at_ k T f) (hn : n ≤ 6) (h2 : 2 ≤ k) (hat : at_ < T.length) : ∀ m, m = n + 1 - k → ∃ T' f', Bfs n at_ (n + 1 + (k - (n + 1))) T' f' ∧ at_ < T'.length := by
  intro m
  induction m generalizing k T f with
  | zero => 
    intro hm
    exact ⟨T, f, by rw [show n + 1 + (k - (n + 1)) = k by omega]; exact H, hat⟩
  | succ m ih =>
    intro hm
    obtain ⟨x, d, hxd⟩ : ∃ x d, T[at_]? = some (x, d) := ⟨_, _, List.getElem?_eq_getElem hat⟩
    cases hf : f (keyN (flipL x k)) with
    | some v =>
      obtain ⟨T', f', h1, h3⟩ := ih (H.old hn hxd hf) (by omega) hat (by omega)
      exact ⟨T', f', by rw [show n + 1 + (k - (n + 1)) = n + 1 + (k + 1 - (n + 1)) by omega]; exact h1, h3⟩
    | none =>
      obtain ⟨T', f', h1, h3⟩ := ih (H.new hxd h2 (by omega) hf) (by omega) (by rw [List.length_append]; omega) (by omega)
      exact ⟨T', f', by rw [show n + 1 + (k - (n + 1)) = n + 1 + (k + 1 - (n + 1)) by omega]; exact h1, h3⟩
theorem dist_ex (n : Nat) (hn : n ≤ 6) : ∃ D, Dist n D := by
  have go : ∀ m at_ T f, Bfs n at_ 2 T f → m = 600000 - at_ → at_ ≤ T.length → ∃ D, Dist n D := by
    intro m
    induction m with
    | zero =>
      intro at_ T f H hm hat
      have := H.len hn
      omega
    | succ m ih =>
      intro at_ T f H hm hat
      by_cases h : at_ < T.length
      · obtain ⟨T', f', h1, h3⟩ := H.row hn (Nat.le_refl 2) h _ rfl
        exact ih (at_ + 1) T' f' (h1.step (by omega) h3) (by omega) h3
      · obtain ⟨D, hD, _⟩ := H.dist (by omega) hn
        exact ⟨D, hD⟩
  exact go _ 0 _ _ (Bfs.start n) rfl (Nat.zero_le _)

def RetNo (w : World) (e : Ending) (w' : World) : Prop := ∃ v, e = .returned (.tuple #[v, .bool false]) ∧ Below w.heap.size w w'

set_option maxHeartbeats 4000000 in
theorem i_BestFlipsNo (v : Value) (xs : List Int) (w : World) (h : Rd w v (ints xs)) (hs : sixB xs = false) : Calls Tryz.prog 28 #[v] w (RetNo w) := by
  have HS := Lib.hid (hs ▸ i_isSix v xs w h)
  obtain ⟨a, n, c, rfl, HN, hnc, hc⟩ := h.formN
  clear hs
  go_enter Tryz.func28, Tryz.ntmps28
  go_wp2_with (go_at_call 83; refine HS.out.mono ?_; rintro e w1 ⟨rfl, hb1⟩)
  go_ret2
  exact ⟨_, rfl, hb1⟩

end Go.Proofs.YtggblfnajeikjaaGreatDoor

namespace Go.Proofs.YtggblfnajeikjaaGreatDoor
open Go.RowKit
set_option linter.unusedVariables false
set_option linter.unusedSimpArgs false

def flipLine (xs : List Int) : List UInt8 :=
  if shortB xs then (if sixB xs then [103, 114, 101, 101, 100, 121, 32] ++ numsB (grL xs) ++ [32, 98, 101, 115, 116, 32] ++ numsB (bestL xs) else [103, 114, 101, 101, 100, 121, 32] ++ numsB (grL xs)) else [110, 111, 110, 101]
theorem grL_bd {xs : List Int} (h : shortB xs = true) : I64s (grL xs) ∧ (grL xs).length ≤ 20 := by
  obtain ⟨h8, hor⟩ := shortB_iff.1 h
  obtain ⟨_, h2, h3⟩ := grK_inv (n := xs.length) ⟨rfl, hor⟩ (xs.length - 1) (Nat.le_refl _)
  exact ⟨fun y hy => by have := h3 y hy; unfold I64; omega, by rw [grL]; omega⟩
theorem bestL_bd {xs : List Int} (h : sixB xs = true) : I64s (bestL xs) ∧ (bestL xs).length ≤ 20 := by
  obtain ⟨h6, hp⟩ := sixB_perm h
  obtain ⟨D, hD⟩ := dist_ex xs.length h6
  obtain ⟨h1, h2⟩ := hD.best_bd hp
  exact ⟨fun y hy => by have := h2 y hy; unfold I64; omega, by omega⟩

set_option maxHeartbeats 2000000 in
theorem I_FlipLine (w : World) (v : Value) (xs : List Int) (h : Rd w v (ints xs)) (_ : I64s xs) (_ : xs.length ≤ 1048576) (ht : Tab w) : Calls Tryz.prog 34 #[v] w (RetB (.string (bstr (flipLine xs))) w) := by
  have HO := i_isShortOrder v xs w h
  cases hs : shortB xs
  · rw [hs] at HO
    have HR : Hid (flipLine xs = [110, 111, 110, 101]) := by rw [Hid, flipLine, hs]; rfl
    have HOK := Lib.hid HO
    obtain ⟨a, n, c, rfl, HN, hnc, hc⟩ := h.formN
    generalize flipLine xs = R at HR ⊢
    clear HO hs
    go_enter Tryz.func34, Tryz.ntmps34
    go_wp2_with (go_at_call 81; refine HOK.out.mono ?_; rintro e w' ⟨rfl, hb1⟩)
    go_ret
    exact ⟨by rw [HR.out]; rfl, hb1⟩
  rw [hs] at HO
  have HOK := Lib.hid HO
  obtain ⟨hfi, hfl⟩ := grL_bd hs
  have HGR := Lib.hid (fun (W : World) (hW : Below w.heap.size w W) => i_GreedyFlips v xs W (h.below hW) hs)
  have HRX : Hid (flipLine xs = if sixB xs then [103, 114, 101, 101, 100, 121, 32] ++ numsB (grL xs) ++ [32, 98, 101, 115, 116, 32] ++ numsB (bestL xs) else [103, 114, 101, 101, 100, 121, 32] ++ numsB (grL xs)) := by rw [Hid, flipLine, if_pos hs]
  generalize grL xs = fs at HGR hfi hfl HRX
  have hzn := numsB_le hfi hfl
  have HFN := Lib.hid (fun (W : World) (u : Value) (hu : Rd W u (ints fs)) (hW : Tab W) => i_numbers W u _ hu hfi (by omega) hW)
  obtain ⟨F, hF⟩ : ∃ F, numsB fs = F := ⟨_, rfl⟩
  rw [hF] at HFN hzn HRX
  have GL1 := Lib.hid (fun W => i_line2 [103, 114, 101, 101, 100, 121] F (by simp) (by omega) W)
  have hL1n : ([103, 114, 101, 101, 100, 121] ++ [32] ++ F : List UInt8).length ≤ 3000 := by simp; omega
  have HRY : Hid ([103, 114, 101, 101, 100, 121, 32] ++ F = [103, 114, 101, 101, 100, 121] ++ [32] ++ F) := by simp [Hid]
  rw [HRY.out] at HRX
  generalize [103, 114, 101, 101, 100, 121] ++ [32] ++ F = L1 at GL1 HRX hL1n
  have K1 : Hid (∀ W : World, Calls Tryz.prog 61 #[.slice (some ⟨W.heap.size, 0, none⟩) 2 2] (W.alloc (.cells #[.string ⟨#[103, 114, 101, 101, 100, 121]⟩, .string (bstr F)] 9)) fun e w' => e = .returned (.string (bstr L1)) ∧ Below W.heap.size W w') := fun W => GL1.out W
  cases h6 : sixB xs
  · have HBF := Lib.hid (fun (W : World) (hW : Below w.heap.size w W) => i_BestFlipsNo v xs W (h.below hW) h6)
    have HR1 : Hid (flipLine xs = L1) := by rw [Hid, HRX.out, h6]; rfl
    obtain ⟨a, n, c, rfl, HN, hnc, hc⟩ := h.formN
    generalize flipLine xs = R at HR1 ⊢
    clear HO hs h hzn hfi hfl hF HRX HRY h6 GL1 hL1n
    go_enter Tryz.func34, Tryz.ntmps34
    go_wp2_with (first
      | (go_at_call 81; refine HOK.out.mono ?_; rintro e w' ⟨rfl, hb1⟩)
      | (go_at_call 35; refine (HGR.out _ hb1).mono ?_; rintro e w2 ⟨v2, rfl, ho2, hb2⟩; have hb2' := hb1.trans (hb2.mono hb1.size))
      | (go_at_call 46; refine (HFN.out _ _ ho2.rd (ht.below hb2')).mono ?_; rintro e w3 ⟨rfl, hb3⟩; have hb3' := hb2'.trans (hb3.mono hb2'.size))
      | (go_at_call 61; (with_reducible refine (K1.out w3).mono ?_); rintro e w4 ⟨rfl, hb4⟩; have hb4' := hb3'.trans (hb4.mono hb3'.size))
      | (go_at_call 28; refine (HBF.out _ hb4').mono ?_; rintro e w5 ⟨v5, rfl, hb5⟩; have hb5' := hb4'.trans (hb5.mono hb4'.size)))
    go_ret
    exact ⟨by rw [HR1.out]; rfl, hb5'⟩
  · obtain ⟨hbi, hbl⟩ := bestL_bd h6
    have HBF := Lib.hid (fun (W : World) (hW : Below w.heap.size w W) => (i_BestFlips v xs W (h.below hW) h6).mono fun e w' h => h.1)
    generalize bestL xs = bl at HBF hbi hbl HRX
    have hzb := numsB_le hbi hbl
    have HFB := Lib.hid (fun (W : World) (u : Value) (hu : Rd W u (ints bl)) (hW : Tab W) => i_numbers W u _ hu hbi (by omega) hW)
    obtain ⟨B, hB⟩ : ∃ B, numsB bl = B := ⟨_, rfl⟩
    rw [hB] at HFB hzb HRX
    have GL3 := Lib.hid (fun W => i_line3 L1 [98, 101, 115, 116] B (by omega) (by simp) (by omega) W)
    have HR1 : Hid (flipLine xs = L1 ++ [32] ++ [98, 101, 115, 116] ++ [32] ++ B) := by rw [Hid, HRX.out, h6]; simp
    generalize L1 ++ [32] ++ [98, 101, 115, 116] ++ [32] ++ B = R3 at GL3 HR1
    have K3 : Hid (∀ W : World, Calls Tryz.prog 61 #[.slice (some ⟨W.heap.size, 0, none⟩) 3 3] (W.alloc (.cells #[.string (bstr L1), .string ⟨#[98, 101, 115, 116]⟩, .string (bstr B)] 9)) fun e w' => e = .returned (.string (bstr R3)) ∧ Below W.heap.size W w') := fun W => GL3.out W
    obtain ⟨a, n, c, rfl, HN, hnc, hc⟩ := h.formN
    generalize flipLine xs = R at HR1 ⊢
    clear HO hs h hzn hfi hfl hF HRX HRY h6 GL1 hL1n hzb hbi hbl hB GL3
    go_enter Tryz.func34, Tryz.ntmps34
    go_upto_region 4 with (first
      | (go_at_call 81; refine HOK.out.mono ?_; rintro e w' ⟨rfl, hb1⟩)
      | (go_at_call 35; refine (HGR.out _ hb1).mono ?_; rintro e w2 ⟨v2, rfl, ho2, hb2⟩; have hb2' := hb1.trans (hb2.mono hb1.size))
      | (go_at_call 46; refine (HFN.out _ _ ho2.rd (ht.below hb2')).mono ?_; rintro e w3 ⟨rfl, hb3⟩; have hb3' := hb2'.trans (hb3.mono hb2'.size))
      | (go_at_call 61; (with_reducible refine (K1.out w3).mono ?_); rintro e w4 ⟨rfl, hb4⟩; have hb4' := hb3'.trans (hb4.mono hb3'.size)))
    go_wp2_with (first
      | (go_at_call 28; refine (HBF.out _ hb4').mono ?_; rintro e w5 ⟨v5, rfl, ho5, hb5⟩; have hb5' := hb4'.trans (hb5.mono hb4'.size))
      | (go_at_call 46; refine (HFB.out _ _ ho5.rd (ht.below hb5')).mono ?_; rintro e w6 ⟨rfl, hb6⟩; have hb6' := hb5'.trans (hb6.mono hb5'.size))
      | (go_at_call 61; (with_reducible refine (K3.out w6).mono ?_); rintro e w7 ⟨rfl, hb7⟩; have hb7' := hb6'.trans (hb7.mono hb6'.size)))
    go_ret
    exact ⟨by rw [HR1.out]; rfl, hb7'⟩

end Go.Proofs.YtggblfnajeikjaaGreatDoor

namespace Go.Proofs.YtggblfnajeikjaaGreatDoor
set_option linter.unusedVariables false
set_option linter.unusedSimpArgs false

/-- The bits below n that p holds of. -/
def setB (p : Nat → Bool) : Nat → Nat
  | 0 => 0
  | n + 1 => if p n then setB p n ||| (1 <<< n) else setB p n
/-! the greedy choice -/
section
variable (f : Nat → Nat → Bool)
def cntG (left : List Nat) (m : Nat) : Nat := (left.filter (f m)).length
/-- The first of the choices below m with the most, and how many these are. -/
def bestG (left : List Nat) : Nat → Nat × Nat
  | 0 => (0, 0)
  | m + 1 => if (bestG left m).2 < cntG f left m then (m, cntG f left m) else bestG left m
theorem bestG_cnt (left : List Nat) : ∀ m, (bestG f left m).2 ≠ 0 → (bestG f left m).2 = cntG f left (bestG f left m).1 ∧ (bestG f left m).1 < m
  | 0, h => absurd rfl h
  | m + 1, h => by
    simp only [bestG] at h ⊢
    split
    · exact ⟨rfl, Nat.lt_succ_self _⟩
    · rename_i hh
      rw [if_neg hh] at h
      have := bestG_cnt left m h
      exact ⟨this.1, by omega⟩
theorem bestG_le (left : List Nat) : ∀ m, (bestG f left m).2 ≤ left.length
  | 0 => Nat.zero_le _
  | m + 1 => by
    simp only [bestG]
    split
    · exact List.length_filter_le _ _
    · exact bestG_le left m
theorem filter_lens (left : List Nat) (p : Nat → Bool) : (left.filter p).length + (left.filter fun j => !p j).length = left.length := by
  induction left with
  | nil => rfl
  | cons x t ih => cases h : p x <;> simp [h] <;> omega
theorem greedy_lt {left : List Nat} {M : Nat} (h : (bestG f left M).2 ≠ 0) : (left.filter fun j => !f (bestG f left M).1 j).length < left.length := by
  have h1 := (bestG_cnt f left M h).1
  have h2 := filter_lens left (f (bestG f left M).1)
  unfold cntG at h1
  omega
def nextG (M : Nat) (left : List Nat) : List Nat := left.filter fun j => !f (bestG f left M).1 j
def greedyG (M : Nat) (left : List Nat) : List Int :=
  if h : (bestG f left M).2 = 0 then [] else ((bestG f left M).1 : Int) :: greedyG M (nextG f M left)
termination_by left.length
decreasing_by exact greedy_lt f h
theorem greedyG_end {M : Nat} {left : List Nat} (h : (bestG f left M).2 = 0) : greedyG f M left = [] := by rw [greedyG, dif_pos h]
theorem greedyG_step {M : Nat} {left : List Nat} (h : (bestG f left M).2 ≠ 0) : greedyG f M left = ((bestG f left M).1 : Int) :: greedyG f M (nextG f M left) := by rw [greedyG, dif_neg h]
theorem greedyG_len (M : Nat) : ∀ (n : Nat) (left : List Nat), left.length ≤ n → (greedyG f M left).length ≤ left.length ∧ ∀ x ∈ greedyG f M left, 0 ≤ x ∧ x < M
  | n, left, hn => by
    by_cases h : (bestG f left M).2 = 0
    · rw [greedyG_end f h]; exact ⟨Nat.zero_le _, fun x hx => by cases hx⟩
    · have h1 := greedy_lt f h
      have h2 := (bestG_cnt f left M h).2
      match n, hn with
      | 0, hn => omega
      | n + 1, hn =>
        have h3 : (nextG f M left).length < left.length := h1
        have ih := greedyG_len M n (nextG f M left) (by omega)
        rw [greedyG_step f h]
        refine ⟨by simp only [List.length_cons]; omega, fun x hx => ?_⟩
        rcases List.mem_cons.1 hx with rfl | hx
        · omega
        · exact ih.2 x hx
end
/-- A fault's number is three times its comparator's and its kind. -/
def rowJ (j : Nat) : List Int := [((j / 3 : Nat) : Int), ((j % 3 : Nat) : Int)]

end Go.Proofs.YtggblfnajeikjaaGreatDoor

namespace Go.Proofs.YtggblfnajeikjaaGreatDoor
open Go.RowKit
set_option linter.unusedVariables false
set_option linter.unusedSimpArgs false

/-- Rows that are slices in the blocks from B to T. -/
def RowsIn (w : World) (E B T : Nat) (rows : List Value) (xss : List (List Int)) : Prop :=
  rows.length = xss.length ∧ ∀ (i : Nat) (r : Value), rows[i]? = some r → ∃ xs : List Int, xss[i]? = some xs ∧ Own w E B r (ints xs) ∧ ∀ k, r.ownBlock = some k → k < T
section
variable {w w' : World} {E B T : Nat} {rows : List Value} {xss : List (List Int)}
theorem RowsIn.of (h : RowsOwn w E B T rows xss) : RowsIn w E B T rows xss := ⟨h.1, h.2.1⟩
theorem RowsIn.nil (w : World) (E B T : Nat) : RowsIn w E B T [] [] := ⟨rfl, fun i r h => by simp at h⟩
theorem RowsIn.keep (h : RowsIn w E B T rows xss) (hk : ∀ k, k < w.heap.size → B ≤ k → k < T → w'.heap[k]? = w.heap[k]?) : RowsIn w' E B T rows xss :=
  ⟨h.1, fun i r hr => by
    obtain ⟨xs, h1, h2, h3⟩ := h.2 i r hr
    exact ⟨xs, h1, h2.keep fun k hk1 hk2 => hk k hk1 ((h2.lt k hk2.symm).1) (h3 k hk2.symm), h3⟩⟩
theorem RowsIn.below (h : RowsIn w E B T rows xss) (hb : Below w.heap.size w w') : RowsIn w' E B T rows xss := h.keep fun k hk _ _ => hb.block k hk
theorem RowsIn.grown {row : Option Nat} (h : RowsIn w E B T rows xss) (hg : w.grownBy w' row) (hne : ∀ k, row = some k → k < B ∨ T ≤ k) : RowsIn w' E B T rows xss :=
  h.keep fun k hk h1 h2 => hg.block k hk fun e => by have := hne k e.symm; omega
theorem RowsIn.snoc {r : Value} {xs : List Int} (h : RowsIn w E B T rows xss) (hr : Own w E B r (ints xs)) (ht : ∀ k, r.ownBlock = some k → k < T) : RowsIn w E B T (rows ++ [r]) (xss ++ [xs]) := by
  refine ⟨by simp [h.1], fun i s hs => ?_⟩
  rw [List.getElem?_append] at hs
  by_cases e : i < rows.length
  · rw [if_pos e] at hs
    obtain ⟨ys, h1, h2, h3⟩ := h.2 i s hs
    exact ⟨ys, by rw [List.getElem?_append_left (by rw [← h.1]; exact e)]; exact h1, h2, h3⟩
  · rw [if_neg e] at hs
    have h1 : i - rows.length = 0 := by
      have := (List.getElem?_eq_some_iff.1 hs).1
      simp at this
      omega
    rw [h1] at hs
    simp at hs
    subst hs
    exact ⟨xs, by rw [List.getElem?_append_right (by rw [← h.1]; omega), ← h.1, h1]; rfl, hr, ht⟩
theorem RowsIn.two {a : Option Addr} {n c k : Nat} {x y : Int} (h : RowsIn w E B T rows xss) (ho : Rd w (.slice a n c) rows) (hx : xss[k]? = some [x, y]) :
    ∃ (ad z : Addr) (d : Nat), a = some ad ∧ w.cell? (ad.add k) = some (.slice (some z) 2 d) ∧ w.cell? z = some (.int .i64 x) ∧ w.cell? ⟨z.block, z.off + (0 + 1), none⟩ = some (.int .i64 y) ∧ Own w E B (.slice (some z) 2 d) (ints [x, y]) ∧ (∀ k, (Value.slice (some z) 2 d).ownBlock = some k → k < T) := by
  have hk : k < rows.length := by rw [h.1]; exact (List.getElem?_eq_some_iff.1 hx).1
  obtain ⟨ad, e, hc⟩ := ho.cell (k := k) hk
  obtain ⟨xs, h1, h2, h3⟩ := h.2 k _ (List.getElem?_eq_getElem hk)
  rw [hx] at h1
  cases h1
  have hr := h2.rd
  obtain ⟨b, d, hv, _, _⟩ := hr.formi
  rw [hv] at hc hr h2 h3
  obtain ⟨z, x', rfl, hcx, hxx⟩ := hr.int (k := 0) (by simp)
  obtain ⟨z', y', hz, hcy, hyy⟩ := hr.int (k := 1) (by simp)
  obtain rfl : z = z' := by injection hz
  have e1 := hxx.out
  have e2 := hyy.out
  simp only [List.getElem?_cons_zero, List.getElem?_cons_succ, Option.some.injEq] at e1 e2
  subst e1 e2
  rw [add_succ] at hcy
  exact ⟨ad, z, d, e, hc, by simpa [Addr.add] using hcx, hcy, h2, h3⟩
end

def fjB (xss : List (List Int)) (m j : Nat) : Bool := findsB xss (j / 3) (j % 3) m
theorem faultsL_true : ∀ L, faultsL (fun _ _ => true) L = (List.range (3 * L)).map rowJ
  | 0 => rfl
  | L + 1 => by
    rw [faultsL, faultsL_true L, show 3 * (L + 1) = 3 * L + 1 + 1 + 1 by omega, List.range_succ, List.range_succ, List.range_succ]
    simp only [List.map_append, List.map_cons, List.map_nil, List.append_assoc, List.cons_append, List.nil_append]
    congr 1
    simp only [fltAt, List.range_succ, List.range_zero, List.nil_append, List.filter_cons, List.filter_nil, List.cons_append, if_true, List.map_cons, List.map_nil, rowJ]
    have e0 : 3 * L / 3 = L := by omega
    have e1 : (3 * L + 1) / 3 = L := by omega
    have e2 : (3 * L + 1 + 1) / 3 = L := by omega
    have m0 : 3 * L % 3 = 0 := by omega
    have m1 : (3 * L + 1) % 3 = 1 := by omega
    have m2 : (3 * L + 1 + 1) % 3 = 2 := by omega
    rw [e0, e1, e2, m0, m1, m2]
def greedyL (n : Int) (xss : List (List Int)) : List Int := if netOk n xss && decide (xss.length ≤ 20) then greedyG (fjB xss) (2 ^ n.toNat) (List.range (3 * xss.length)) else []
theorem greedyL_no {n : Int} {xss : List (List Int)} (h : netOk n xss = false ∨ 20 < xss.length) : greedyL n xss = [] := by
  unfold greedyL
  rcases h with h | h
  · simp [h]
  · rw [if_neg]
    simp only [Bool.and_eq_true, decide_eq_true_eq]
    rintro ⟨_, h2⟩
    omega
theorem greedyL_ok {n : Int} {xss : List (List Int)} (h : netOk n xss = true) (h2 : xss.length ≤ 20) : greedyL n xss = greedyG (fjB xss) (2 ^ n.toNat) (List.range (3 * xss.length)) := by
  unfold greedyL
  rw [h]
  simp [h2]
theorem greedyL_bd (n : Int) (xss : List (List Int)) : I64s (greedyL n xss) ∧ (greedyL n xss).length ≤ 60 := by
  unfold greedyL
  split
  · rename_i h
    simp only [Bool.and_eq_true, decide_eq_true_eq] at h
    obtain ⟨N, rfl, _, h8, _⟩ := netOk_n h.1
    have h1 := greedyG_len (fjB xss) (2 ^ N) (3 * xss.length) (List.range (3 * xss.length)) (by simp)
    have hp := pow_le8 h8
    simp only [Int.toNat_natCast]
    refine ⟨fun x hx => ?_, by have := h1.1; simp only [List.length_range] at this; omega⟩
    have := h1.2 x hx
    unfold I64
    omega
  · exact ⟨fun x hx => (by cases hx), by simp⟩

theorem takeF_yes {p : Nat → Bool} {left : List Nat} {i j : Nat} (hx : left[i]? = some j) (h : p j = true) : (left.take (i + 1)).filter p = (left.take i).filter p ++ [j] := by
  rw [take_snoc' hx, List.filter_append]
  simp [h]
theorem takeF_no {p : Nat → Bool} {left : List Nat} {i j : Nat} (hx : left[i]? = some j) (h : p j = false) : (left.take (i + 1)).filter p = (left.take i).filter p := by
  rw [take_snoc' hx, List.filter_append]
  simp [h]
theorem bestG_yes {f : Nat → Nat → Bool} {left : List Nat} {m : Nat} (h : (bestG f left m).2 < cntG f left m) : bestG f left (m + 1) = (m, cntG f left m) := by rw [bestG, if_pos h]
theorem bestG_no {f : Nat → Nat → Bool} {left : List Nat} {m : Nat} (h : ¬ (bestG f left m).2 < cntG f left m) : bestG f left (m + 1) = bestG f left m := by rw [bestG, if_neg h]

theorem k_Gr1 : Known 72 := known Tryz.func72 (by kernel_rfl) (by kernel_rfl)
theorem i_Gr1 (idx kind : Int) (w : World) : Calls Tryz.prog 72 #[.int .i64 idx, .int .i64 kind] w (RetB (.bool true) w) := by
  go_enter Tryz.func72, Tryz.ntmps72
  go_wp2
  go_ret
  exact ⟨rfl, Below.refl _ _⟩
set_option maxRecDepth 100000 in
set_option maxHeartbeats 8000000 in
theorem i_GreedyTests (n : Int) (v : Value) (xss : List (List Int)) (w : World) (h : Rd2 w v xss) (hn : I64 n) : Calls Tryz.prog 21 #[.agg #[.int .i64 n, v]] w (RetOwn 3 (ints (greedyL n xss)) w) := by
  obtain ⟨a, c, rfl, h2, h3⟩ := h.form
  obtain ⟨w0, hw0, hb0, hz0, c0, c1⟩ := net_box w (.int .i64 n) (.slice a xss.length c) 30
  have h' := h.below hb0
  have HN := i_NetworkOk n _ xss _ h' hn
  have C1 := Lib.hid c1
  cases hk : netOk n xss
  · rw [hk] at HN
    have HR := Lib.hid (greedyL_no (.inl hk))
    go_enter Tryz.func21, Tryz.ntmps21
    go_wp2_with (go_at_call 40; refine HN.mono ?_; rintro e w2 ⟨rfl, hb2⟩; have c1 := (hb2.cell (show w.heap.size < w0.heap.size by omega)).trans C1.out)
    go_ret
    rw [HR.out]
    exact ⟨_, rfl, Own.nil _ _ _, hb0.trans (hb2.mono (by omega))⟩
  rw [hk] at HN
  by_cases hl20 : xss.length ≤ 20
  case neg =>
    have HR := Lib.hid (greedyL_no (n := n) (xss := xss) (.inr (by omega)))
    have d0 : decide ((xss.length : Int) > 20) = true := by simp; omega
    go_enter Tryz.func21, Tryz.ntmps21
    go_wp2_with (go_at_call 40; refine HN.mono ?_; rintro e w2 ⟨rfl, hb2⟩; have c1 := (hb2.cell (show w.heap.size < w0.heap.size by omega)).trans C1.out)
    go_ret
    rw [HR.out]
    exact ⟨_, rfl, Own.nil _ _ _, hb0.trans (hb2.mono (by omega))⟩
  have HR := Lib.hid (greedyL_ok hk hl20)
  obtain ⟨N, rfl, hN1, hN8, hL60⟩ := netOk_n hk
  rw [Int.toNat_natCast] at HR
  have d0 : decide ((xss.length : Int) > 20) = false := by simp; omega
  have C0 := Lib.hid c0
  have hp := pow_le8 hN8
  have E2 := Lib.hid (shl_of N (by omega))
  obtain ⟨M, hM⟩ : ∃ M, 2 ^ N = M := ⟨_, rfl⟩
  have HFi : Hid (∀ (j m : Nat) (W : World), m < M → Below w.heap.size w W → Calls Tryz.prog 73 #[.agg #[.int .i64 N, .slice a xss.length c], .int .i64 (j / 3 : Nat), .int .i64 (j % 3 : Nat), .int .i64 m] W (RetB (.bool (fjB xss m j)) W)) := fun j m W hm hW =>
    i_finds N _ xss (j / 3) (j % 3) m W (h.below hW) hk (by omega) (by omega)
  have HFa : Hid (∀ W : World, Below w.heap.size w W → Calls Tryz.prog 69 #[.agg #[.int .i64 N, .slice a xss.length c], .func (.func 72) #[] #[]] W (RetOwn2 ((List.range (3 * xss.length)).map rowJ) W)) := fun W hW => by
    have := i_faults (fun _ _ => true) 72 #[] k_Gr1 N _ xss W (h.below hW) hL60 fun i kd W' _ _ _ => i_Gr1 i kd W'
    rwa [faultsL_true] at this
  rw [hM] at hp E2 HR
  obtain ⟨L, hL⟩ : ∃ L, xss.length = L := ⟨_, rfl⟩
  rw [hL] at hl20 hL60 HFi HFa HR c1 C1 hw0 h HN d0
  obtain ⟨f, hf⟩ : ∃ f, fjB xss = f := ⟨_, rfl⟩
  rw [hf] at HFi HR
  have HBC := Lib.hid (fun left => bestG_cnt f left M)
  clear hk hM hf
  go_enter Tryz.func21, Tryz.ntmps21
  rw [hL]
  go_wp2_with (first
    | (go_at_call 40; refine HN.mono ?_; rintro e w2 ⟨rfl, hb2⟩; have hbw2 : Below w.heap.size w w2 := hb0.trans (hb2.mono (by omega)); obtain ⟨c0, c1⟩ := Below.cells2 hb2 (show w.heap.size < w0.heap.size by omega) C0.out C1.out
       obtain ⟨w3, hw3⟩ : ∃ w3, w2.alloc (.cells #[] 3) = w3 := ⟨_, rfl⟩
       have hz3 : w3.heap.size = w2.heap.size + 1 := by rw [← hw3]; simp
       have hs2 := hb2.size
       have hb3 : Below (w.heap.size + 1) w0 w3 := by rw [← hw3]; exact Below.alloc' (hb2.mono (by omega)) (by omega) _
       have hbw3 : Below w.heap.size w w3 := hb0.trans (hb3.mono (by omega))
       have g0 : w3.cell? ⟨w.heap.size, 0, none⟩ = some (.int .i64 N) := (hb3.cell (Nat.lt_succ_self _)).trans C0.out
       have g1 : w3.cell? ⟨w.heap.size, 1, none⟩ = some (.slice a L c) := (hb3.cell (Nat.lt_succ_self _)).trans C1.out
       have ho3 : Own w3 3 (w.heap.size + 1) (.slice (some ⟨w2.heap.size, 0, none⟩) 0 0) (ints []) := by rw [← hw3]; exact Own.lit0 w2 _ (by omega))
    | (go_at_call 69; refine (HFa.out _ hbw3).mono ?_; rintro e w4 ⟨vl, rfl, hl4, hb4⟩; obtain ⟨al, cl, rfl, _, _⟩ := hl4.form))
  obtain ⟨rows4, hlo4, _, hlr4⟩ := hl4
  rw [List.length_map, List.length_range] at hlo4
  have hR4 := RowsIn.of hlr4
  have ho4 := ho3.below hb4
  have hb4' : Below (w.heap.size + 1) w0 w4 := hb3.trans (hb4.mono (by omega))
  have hb03 : ∀ k, (Value.slice (some ⟨w2.heap.size, 0, none⟩) 0 0).ownBlock = some k → k < w3.heap.size ∨ w4.heap.size ≤ k := fun k hk => by
    simp [Value.ownBlock] at hk
    omega
  have hB0 : w.heap.size + 1 ≤ w3.heap.size := by omega
  obtain ⟨B0, hB0e⟩ : ∃ B0, w3.heap.size = B0 := ⟨_, rfl⟩
  obtain ⟨T0, hT0e⟩ : ∃ T0, w4.heap.size = T0 := ⟨_, rfl⟩
  rw [hB0e] at hlo4 hR4 hb03 hB0
  rw [hT0e] at hR4 hb03
  have hT4 : T0 ≤ w4.heap.size := by omega
  have HG : Hid ([] ++ greedyG f M (List.range (3 * L)) = greedyL (N : Int) xss) := by rw [Hid, HR.out, List.nil_append]
  have hl60 : ([] : List Int).length + (List.range (3 * L)).length ≤ 60 := by simp; omega
  clear c0 c1 g0 g1 hw0 hw3 ho3 hb3 hb4 hlr4 hz3 hs2 hbw2 hbw3 hb2 HFa HN hT0e hB0e
  obtain ⟨e2', hE2'⟩ : ∃ e : Bool, e = true := ⟨_, rfl⟩
  clear e2' hE2'
  go_loopg [3, 4] (3 * L) (fun g ov lv wr => ∃ (o : List Int) (left : List Nat) (rows : List Value), g = left.length ∧ o.length + left.length ≤ 60 ∧ Own wr 3 (w.heap.size + 1) ov (ints o) ∧ (∀ k, ov.ownBlock = some k → k < B0 ∨ T0 ≤ k) ∧ Own wr 23 B0 lv rows ∧ RowsIn wr 3 B0 T0 rows (left.map rowJ) ∧ T0 ≤ wr.heap.size ∧ Below (w.heap.size + 1) w0 wr ∧ Hid (o ++ greedyG f M left = greedyL (N : Int) xss))
  case atStart => exact ⟨[], List.range (3 * L), rows4, by simp, hl60, ho4, hb03, hlo4, hR4, hT4, hb4', HG⟩
  case round =>
    clear ho4 hb03 hlo4 hR4 hT4 hb4' HG hl60
    obtain ⟨o, left, rows, hg, hol, ho, hob, hlo, hR, hT, hb, HG⟩ := hrel
    obtain ⟨ao, no, co, rfl, HNO, _, _⟩ := ho.rd.formN
    obtain ⟨al', cl', rfl, _, _⟩ := hlo.rd.form
    have hrl : rows.length = left.length := by rw [hR.1, List.length_map]
    obtain ⟨nl, hnl⟩ : ∃ nl, rows.length = nl := ⟨_, rfl⟩
    have HNL : Hid (left.length = nl) := hrl.symm.trans hnl
    rw [hnl] at hlo ⊢
    have HNR := Lib.hid hnl
    have hnl60 : nl ≤ 60 := by omega
    clear hrl hnl
    have g0 : wr.cell? ⟨w.heap.size, 0, none⟩ = some (.int .i64 N) := (hb.cell (Nat.lt_succ_self _)).trans C0.out
    have g1 : wr.cell? ⟨w.heap.size, 1, none⟩ = some (.slice a L c) := (hb.cell (Nat.lt_succ_self _)).trans C1.out
    have G0 := Lib.hid g0
    have G1 := Lib.hid g1
    have hbw : Below w.heap.size w wr := hb0.trans (hb.mono (by omega))
    have e2 := E2.out
    obtain ⟨wo, rfl⟩ : ∃ wo : World, wo = wr := ⟨_, rfl⟩
    go_wp2
    try rw [e2]
    clear e2 g0 g1
    have HCL : Hid (∀ (W : World) (i : Nat), Below wo.heap.size wo W → i < nl → ∃ (j : Nat) (ad z : Addr) (d : Nat), al' = some ad ∧ W.cell? (ad.add i) = some (.slice (some z) 2 d) ∧ W.cell? z = some (.int .i64 (j / 3 : Nat)) ∧ W.cell? ⟨z.block, z.off + (0 + 1), none⟩ = some (.int .i64 (j % 3 : Nat)) ∧ Own W 3 B0 (.slice (some z) 2 d) (ints (rowJ j)) ∧ (∀ k, (Value.slice (some z) 2 d).ownBlock = some k → k < T0) ∧ Hid (left[i]? = some j)) := fun W i hW hi => by
      obtain ⟨j, hj⟩ : ∃ j, left[i]? = some j := ⟨_, List.getElem?_eq_getElem (by rw [HNL.out]; exact hi)⟩
      have hx : (left.map rowJ)[i]? = some [((j / 3 : Nat) : Int), ((j % 3 : Nat) : Int)] := by rw [List.getElem?_map, hj]; rfl
      obtain ⟨ad, z, d, q1, q2, q3, q4, q5, q6⟩ := RowsIn.two (hR.below hW) (hlo.rd.below hW) hx
      exact ⟨j, ad, z, d, q1, q2, q3, q4, q5, q6, hj⟩
    go_loopg [5, 6, 29] M (fun g bv mv kv wr => ∃ k : Nat, g = M - k ∧ k ≤ M ∧ kv = .int .i64 k ∧ bv = .int .i64 ((bestG f left k).1 : Nat) ∧ mv = .int .i64 ((bestG f left k).2 : Nat) ∧ Below wo.heap.size wo wr)
    case atStart => exact ⟨0, rfl, Nat.zero_le _, rfl, rfl, rfl, Below.refl _ _⟩
    case round =>
      obtain ⟨k, hgk, hkl, rfl, rfl, rfl, hq⟩ := hrel
      have hbl := bestG_le f left k
      by_cases hlt : k < M
      · go_wp2
        go_loopg [8, 34] nl (fun g cv iv wr => ∃ i : Nat, g = nl - i ∧ i ≤ nl ∧ iv = .int .i64 i ∧ cv = .int .i64 (((left.take i).filter (f k)).length : Nat) ∧ Below wo.heap.size wo wr)
        case atStart => exact ⟨0, rfl, Nat.zero_le _, rfl, by simp, hq⟩
        case round =>
          clear hq
          obtain ⟨i, hgi, hil, rfl, rfl, hq⟩ := hrel
          obtain ⟨wy, rfl⟩ : ∃ wy : World, wy = wr := ⟨_, rfl⟩
          by_cases hlti : i < nl
          · obtain ⟨j, ad, z, d, hal, q1, q2, q3, _, _, HJ⟩ := HCL.out wy i hq hlti
            subst hal
            have hcl : ((left.take i).filter (f k)).length ≤ 60 := by
              have h1 := List.length_filter_le (f k) (left.take i)
              have h2 : (left.take i).length ≤ i := List.length_take_le _ _
              omega
            have g0 : wy.cell? ⟨w.heap.size, 0, none⟩ = some (.int .i64 N) := (hq.cell (World.block_lt_of_cell? _ _ G0.out)).trans G0.out
            have g1 : wy.cell? ⟨w.heap.size, 1, none⟩ = some (.slice a L c) := (hq.cell (World.block_lt_of_cell? _ _ G1.out)).trans G1.out
            have HT : Hid (∀ wx : World, Below wy.heap.size wy wx → Below wy.heap.size wy wx ∧ wx.cell? ⟨w.heap.size, 0, none⟩ = some (.int .i64 N) ∧ wx.cell? ⟨w.heap.size, 1, none⟩ = some (.slice a L c) ∧ wx.cell? z = some (.int .i64 (j / 3 : Nat)) ∧ wx.cell? ⟨z.block, z.off + (0 + 1), none⟩ = some (.int .i64 (j % 3 : Nat))) :=
              fun wx hx => ⟨hx, (hx.cell (World.block_lt_of_cell? _ _ g0)).trans g0, (hx.cell (World.block_lt_of_cell? _ _ g1)).trans g1, (hx.cell (World.block_lt_of_cell? _ _ q2)).trans q2, (hx.cell (World.block_lt_of_cell? _ _ q3)).trans q3⟩
            have hbq : Below w.heap.size w wy := hbw.trans (hq.mono hbw.size)
            have hTY := HT.out wy (Below.refl _ _)
            have hsq := hq.size
            have hYes := fun h => takeF_yes (p := f k) HJ.out h
            have hNo := fun h => takeF_no (p := f k) HJ.out h
            have K0 : Hid (∀ W : World, Below wy.heap.size wy W → Calls Tryz.prog 73 #[.agg #[.int .i64 N, .slice a L c], .int .i64 (j / 3 : Nat), .int .i64 (j % 3 : Nat), .int .i64 k] W fun e w' => e = .returned (.bool (f k j)) ∧ Below wy.heap.size wy w') :=
              fun W hW => (HFi.out j k W hlt (hbq.trans (hW.mono hbq.size))).mono fun e w' hh => ⟨hh.1, hW.trans (hh.2.mono hW.size)⟩
            generalize f k j = b at K0 hYes hNo
            obtain ⟨cN, hcN⟩ : ∃ cN, ((left.take i).filter (f k)).length = cN := ⟨_, rfl⟩
            rw [hcN] at hcl ⊢
            have HST : Hid (((left.take (i + 1)).filter (f k)).length = if b then cN + 1 else cN) := by
              cases b
              · rw [Hid, hNo rfl, hcN]; rfl
              · rw [Hid, hYes rfl, List.length_append, hcN]; rfl
            clear hYes hNo hcN
            obtain ⟨x1, hx1⟩ : ∃ x1 : Int, ((j / 3 : Nat) : Int) = x1 := ⟨_, rfl⟩
            obtain ⟨x2, hx2⟩ : ∃ x2 : Int, ((j % 3 : Nat) : Int) = x2 := ⟨_, rfl⟩
            rw [hx1] at HT hTY q2 K0
            rw [hx2] at HT hTY q3 K0
            clear hx1 hx2
            go_wp2
            clear g0 g1 q2 q3
            go_region_held3 (fun wx => Below wy.heap.size wy wx ∧ wx.cell? ⟨w.heap.size, 0, none⟩ = some (.int .i64 N) ∧ wx.cell? ⟨w.heap.size, 1, none⟩ = some (.slice a L c) ∧ wx.cell? z = some (.int .i64 x1) ∧ wx.cell? ⟨z.block, z.off + (0 + 1), none⟩ = some (.int .i64 x2))
              (first | exact HT.out _ g3 | exact HT.out _ (by exact ⟨rfl, rfl, rfl, Nat.le_refl _, fun _ _ => rfl⟩) | go_keep)
              (first
                | (go_at_call 73; (with_reducible refine (K0.out _ (by exact (show _ ∧ _ ∧ _ ∧ _ ∧ _ from by assumption).1)).mono ?_); rintro e w3 ⟨rfl, g3⟩))
            all_goals
              cases b
              · go_wp2
                go_roundg (nl - (i + 1))
                case measure => omega
                case rel => exact ⟨i + 1, rfl, by omega, by go_num, by rw [HST.out]; rfl, hq.trans (g3.mono hsq)⟩
              · go_wp2
                go_roundg (nl - (i + 1))
                case measure => omega
                case rel => exact ⟨i + 1, rfl, by omega, by go_num, by rw [HST.out]; go_num, hq.trans (g3.mono hsq)⟩
          · obtain rfl : nl = i := by omega
            have hcn : (left.take nl).filter (f k) = left.filter (f k) := by rw [← HNL.out, List.take_length]
            rw [hcn]
            clear hcn
            have hcb : (left.filter (f k)).length ≤ 60 := by
              have := List.length_filter_le (f k) left
              have := HNL.out
              omega
            have hYes := fun h => bestG_yes (f := f) (left := left) (m := k) h
            have hNo := fun h => bestG_no (f := f) (left := left) (m := k) h
            unfold cntG at hYes hNo
            generalize (left.filter (f k)).length = cN at hcb hYes hNo ⊢
            generalize bestG f left k = bg at hbl hYes hNo ⊢
            obtain ⟨b1, m1⟩ := bg
            by_cases hgt : m1 < cN
            · have HU := Lib.hid (hYes hgt)
              clear hYes hNo
              go_wp2
              go_roundg (M - (k + 1))
              case measure => omega
              case rel => exact ⟨k + 1, rfl, by omega, by go_num, by rw [HU.out], by rw [HU.out], hq⟩
            · have HU := Lib.hid (hNo hgt)
              clear hYes hNo
              go_wp2
              go_roundg (M - (k + 1))
              case measure => omega
              case rel => exact ⟨k + 1, rfl, by omega, by go_num, by rw [HU.out], by rw [HU.out], hq⟩
      · obtain rfl : M = k := by omega
        have hbc := HBC.out left
        by_cases hz : (bestG f left M).2 = 0
        · have HE : Hid (o = greedyL (N : Int) xss) := by rw [Hid, ← HG.out, greedyG_end f hz, List.append_nil]
          have d1 : (((bestG f left M).2 : Int) == 0) = true := by simp [hz]
          clear hz hbc
          have ho9 := ho.below hq
          go_wp2
          go_ret
          exact ⟨_, rfl, by rw [← HE.out]; exact ho9.mono (by omega), hbw.trans (hq.mono hbw.size)⟩
        · obtain ⟨_, hb1⟩ := hbc hz
          have HE : Hid ((o ++ [((bestG f left M).1 : Int)]) ++ greedyG f M (nextG f M left) = greedyL (N : Int) xss) := by rw [Hid, ← HG.out, greedyG_step f hz, List.append_assoc]; rfl
          have HLT := Lib.hid (greedy_lt f hz)
          have HNX : Hid (nextG f M left = left.filter fun j => !f (bestG f left M).1 j) := rfl
          have d1 : (((bestG f left M).2 : Int) == 0) = false := by rw [beq_eq_false_iff_ne]; omega
          clear hz hbc
          generalize (bestG f left M).2 = m1 at d1 hbl
          obtain ⟨bm, hbm⟩ : ∃ bm, (bestG f left M).1 = bm := ⟨_, rfl⟩
          rw [hbm] at HE HLT HNX hb1 ⊢
          clear hbm
          obtain ⟨wz, rfl⟩ : ∃ wz : World, wz = wr := ⟨_, rfl⟩
          have ho9 := ho.below hq
          have hlo9 := hlo.below hq
          have hR9 := RowsIn.below hR hq
          have hs9 := hq.size
          have hsb := hb.size
          have hB9 : w.heap.size + 1 ≤ wz.heap.size := by omega
          have HLo : Hid ((ints o).length = no) := by rw [Hid, ints_length, HNO.out]
          have hno : no ≤ 60 := by have := HNO.out; omega
          have hn1 : (no + 1) * 8 ≤ 140737488355328 := by omega
          have hn2 : no + 1 ≤ 9223372036854775807 := by omega
          go_upto_region 22 with (at_builtin; (refine wpList_app1m rfl _ _ 23 rfl elI ?_ ho9 ?_ ?_ hB9 no HLo.out hn1 hn2 ?_); (focus exact rfl); (focus (simp [Act.eval])); (focus exact rfl); intro bn cn' w6 ho6 hg6 hat6)
          have hlo6 := hlo9.apart hg6 fun g h2 h3 => Own.elem_ne hlo9 ho9 (by decide) g h2 h3
          have hR6 := RowsIn.grown hR9 hg6 fun k hk => hob k hk
          have hs6 := hg6.size
          have hob6 : ∀ k, (Value.slice bn (no + 1) cn').ownBlock = some k → k < B0 ∨ T0 ≤ k := fun k hk => by
            rcases hat6 with e | ⟨q, hq', e⟩
            · exact hob k (e ▸ hk)
            · rw [e] at hk
              cases hk
              omega
          have hb6 : Below (w.heap.size + 1) w0 w6 := (hb.trans (hq.mono (by omega))).grown hg6 (by omega) fun r hr => (ho9.lt r hr).1
          have hbw6 : Below w.heap.size w w6 := hb0.trans (hb6.mono (by omega))
          have hT6 : T0 ≤ w6.heap.size := by omega
          have hB6 : B0 ≤ w6.heap.size := by
            rcases Nat.lt_or_ge w6.heap.size B0 with h | h
            · rcases Nat.eq_zero_or_pos nl with hz | hz
              · have h1 := HLT.out
                have h2 := HNL.out
                omega
              · obtain ⟨ad, hal⟩ := hlo6.some_of (by have := HNR.out; omega)
                subst hal
                have h1 := hlo6.lt ad.block rfl
                omega
            · exact h
          have hrest : Own (w6.alloc (.cells #[] 23)) 23 B0 (.slice (some ⟨w6.heap.size, 0, none⟩) 0 0) [] := Own.lit0 w6 23 hB6
          have hbA : Below w6.heap.size w6 (w6.alloc (.cells #[] 23)) := (Below.refl _ _).alloc (Nat.le_refl _) _
          have G06 : Hid (w6.cell? ⟨w.heap.size, 0, none⟩ = some (.int .i64 N)) := (hb6.cell (Nat.lt_succ_self _)).trans C0.out
          have G16 : Hid (w6.cell? ⟨w.heap.size, 1, none⟩ = some (.slice a L c)) := (hb6.cell (Nat.lt_succ_self _)).trans C1.out
          have HCL6 : Hid (∀ (W : World) (i : Nat), Below w6.heap.size w6 W → i < nl → ∃ (j : Nat) (ad z : Addr) (d : Nat), al' = some ad ∧ W.cell? (ad.add i) = some (.slice (some z) 2 d) ∧ W.cell? z = some (.int .i64 (j / 3 : Nat)) ∧ W.cell? ⟨z.block, z.off + (0 + 1), none⟩ = some (.int .i64 (j % 3 : Nat)) ∧ Own W 3 B0 (.slice (some z) 2 d) (ints (rowJ j)) ∧ (∀ k, (Value.slice (some z) 2 d).ownBlock = some k → k < T0) ∧ Hid (left[i]? = some j)) := fun W i hW hi => by
            obtain ⟨j, hj⟩ : ∃ j, left[i]? = some j := ⟨_, List.getElem?_eq_getElem (by rw [HNL.out]; exact hi)⟩
            have hx : (left.map rowJ)[i]? = some [((j / 3 : Nat) : Int), ((j % 3 : Nat) : Int)] := by rw [List.getElem?_map, hj]; rfl
            obtain ⟨ad, z, d, q1, q2, q3, q4, q5, q6⟩ := RowsIn.two (hR6.below hW) (hlo6.rd.below hW) hx
            exact ⟨j, ad, z, d, q1, q2, q3, q4, q5, q6, hj⟩
          clear hR9 hlo9 ho9 hR hlo ho HCL hq G0 G1 hg6 hat6 hob hb hbw hlo6 hR6
          obtain ⟨p, hp⟩ : ∃ p : Nat → Bool, (fun j => !f bm j) = p := ⟨_, rfl⟩
          have HPJ : Hid (∀ j, p j = !f bm j) := fun j => by rw [← hp]
          rw [hp] at HNX HLT
          clear hp
          go_wp2
          go_loopg [11, 66] nl (fun g rv iv wr => ∃ (i : Nat) (rr : List Value), g = nl - i ∧ i ≤ nl ∧ iv = .int .i64 i ∧ Own wr 23 B0 rv rr ∧ RowsIn wr 3 B0 T0 rr (((left.take i).filter p).map rowJ) ∧ (∀ k, rv.ownBlock = some k → w6.heap.size ≤ k) ∧ Below w6.heap.size w6 wr)
          case atStart => exact ⟨0, [], rfl, Nat.zero_le _, rfl, hrest, by simpa using RowsIn.nil _ _ _ _, fun k hk => by simp [Value.ownBlock] at hk; omega, hbA⟩
          case round =>
            clear hrest hbA
            obtain ⟨i, rr, hgi, hil, rfl, hrv, hrr, hrb, hq⟩ := hrel
            obtain ⟨wy, rfl⟩ : ∃ wy : World, wy = wr := ⟨_, rfl⟩
            obtain ⟨av, cv, rfl, _, _⟩ := hrv.rd.form
            have hrl : rr.length ≤ 60 := by
              rw [hrr.1, List.length_map]
              have h1 := List.length_filter_le p (left.take i)
              have h2 : (left.take i).length ≤ i := List.length_take_le _ _
              omega
            obtain ⟨nv, hnv⟩ : ∃ nv, rr.length = nv := ⟨_, rfl⟩
            have HNV := Lib.hid hnv
            rw [hnv] at hrv hrl hrb ⊢
            clear hnv
            by_cases hlti : i < nl
            · obtain ⟨j, ad, z, d, hal, q1, q2, q3, q5, q6, HJ⟩ := HCL6.out wy i hq hlti
              subst hal
              have g0 : wy.cell? ⟨w.heap.size, 0, none⟩ = some (.int .i64 N) := (hq.cell (World.block_lt_of_cell? _ _ G06.out)).trans G06.out
              have g1 : wy.cell? ⟨w.heap.size, 1, none⟩ = some (.slice a L c) := (hq.cell (World.block_lt_of_cell? _ _ G16.out)).trans G16.out
              have HT : Hid (∀ wx : World, Below wy.heap.size wy wx → Below wy.heap.size wy wx ∧ wx.cell? ⟨w.heap.size, 0, none⟩ = some (.int .i64 N) ∧ wx.cell? ⟨w.heap.size, 1, none⟩ = some (.slice a L c) ∧ wx.cell? z = some (.int .i64 (j / 3 : Nat)) ∧ wx.cell? ⟨z.block, z.off + (0 + 1), none⟩ = some (.int .i64 (j % 3 : Nat))) :=
                fun wx hx => ⟨hx, (hx.cell (World.block_lt_of_cell? _ _ g0)).trans g0, (hx.cell (World.block_lt_of_cell? _ _ g1)).trans g1, (hx.cell (World.block_lt_of_cell? _ _ q2)).trans q2, (hx.cell (World.block_lt_of_cell? _ _ q3)).trans q3⟩
              have hbq : Below w.heap.size w wy := hbw6.trans (hq.mono hbw6.size)
              have hsq := hq.size
              have hYes := fun h => takeF_yes (p := p) HJ.out h
              have hNo := fun h => takeF_no (p := p) HJ.out h
              have K0 : Hid (∀ W : World, Below wy.heap.size wy W → Calls Tryz.prog 73 #[.agg #[.int .i64 N, .slice a L c], .int .i64 (j / 3 : Nat), .int .i64 (j % 3 : Nat), .int .i64 bm] W fun e w' => e = .returned (.bool (f bm j)) ∧ Below wy.heap.size wy w') :=
                fun W hW => (HFi.out j bm W hb1 (hbq.trans (hW.mono hbq.size))).mono fun e w' hh => ⟨hh.1, hW.trans (hh.2.mono hW.size)⟩
              rw [HPJ.out j] at hYes hNo
              have hrow : rowJ j = [((j / 3 : Nat) : Int), ((j % 3 : Nat) : Int)] := rfl
              have HRJ : Hid (Own wy 3 B0 (.slice (some z) 2 d) (ints (rowJ j))) := q5
              clear q5 hrow
              generalize f bm j = b at K0 hYes hNo
              obtain ⟨x1, hx1⟩ : ∃ x1 : Int, ((j / 3 : Nat) : Int) = x1 := ⟨_, rfl⟩
              obtain ⟨x2, hx2⟩ : ∃ x2 : Int, ((j % 3 : Nat) : Int) = x2 := ⟨_, rfl⟩
              rw [hx1] at HT q2 K0
              rw [hx2] at HT q3 K0
              clear hx1 hx2
              cases b
              · have HY := Lib.hid (hYes rfl)
                clear hYes hNo
                go_wp2
                clear g0 g1 q2 q3
                go_region_held3 (fun wx => Below wy.heap.size wy wx ∧ wx.cell? ⟨w.heap.size, 0, none⟩ = some (.int .i64 N) ∧ wx.cell? ⟨w.heap.size, 1, none⟩ = some (.slice a L c) ∧ wx.cell? z = some (.int .i64 x1) ∧ wx.cell? ⟨z.block, z.off + (0 + 1), none⟩ = some (.int .i64 x2))
                  (first | exact HT.out _ g3 | exact HT.out _ (by exact ⟨rfl, rfl, rfl, Nat.le_refl _, fun _ _ => rfl⟩) | go_keep)
                  (first
                    | (go_at_call 73; (with_reducible refine (K0.out _ (by exact (show _ ∧ _ ∧ _ ∧ _ ∧ _ from by assumption).1)).mono ?_); rintro e w3 ⟨rfl, g3⟩))
                all_goals
                  have hrv3 := hrv.below g3
                  have hs3 := g3.size
                  have hB3 : B0 ≤ w3.heap.size := by omega
                  have hn3 : (nv + 1) * 24 ≤ 140737488355328 := by omega
                  have hn4 : nv + 1 ≤ 9223372036854775807 := by omega
                  go_wp2_with (at_builtin; (refine wpList_app1m rfl _ _ 28 rfl elII ?_ hrv3 ?_ ?_ hB3 nv HNV.out hn3 hn4 ?_); (focus exact rfl); (focus (simp [Act.eval])); (focus exact rfl); intro bv cv' w8 ho8 hg8 hat8)
                  have hrr8 := (RowsIn.grown (hrr.below g3) hg8 fun k hk => by have := hrb k hk; omega)
                  have hs8 := hg8.size
                  have hb8 : Below w6.heap.size w6 w8 := (hq.trans (g3.mono hsq)).grown hg8 (by omega) hrb
                  have hown : Own w8 3 B0 (.slice (some z) 2 d) (ints (rowJ j)) := (HRJ.out.below g3).keep fun k hk he => hg8.block k hk fun e => by
                    have h1 := hrb k e.symm
                    have h2 := q6 k he.symm
                    omega
                  go_roundg (nl - (i + 1))
                  case measure => omega
                  case rel => exact ⟨i + 1, rr ++ [.slice (some z) 2 d], rfl, by omega, by go_num, ho8, by rw [HY.out, List.map_append]; exact hrr8.snoc hown q6, fun k hk => by
                    rcases hat8 with e | ⟨q, hq', e⟩
                    · exact hrb k (e ▸ hk)
                    · rw [e] at hk
                      cases hk
                      omega, hb8⟩
              · have HY := Lib.hid (hNo rfl)
                clear hYes hNo
                go_wp2
                clear g0 g1 q2 q3
                go_region_held3 (fun wx => Below wy.heap.size wy wx ∧ wx.cell? ⟨w.heap.size, 0, none⟩ = some (.int .i64 N) ∧ wx.cell? ⟨w.heap.size, 1, none⟩ = some (.slice a L c) ∧ wx.cell? z = some (.int .i64 x1) ∧ wx.cell? ⟨z.block, z.off + (0 + 1), none⟩ = some (.int .i64 x2))
                  (first | exact HT.out _ g3 | exact HT.out _ (by exact ⟨rfl, rfl, rfl, Nat.le_refl _, fun _ _ => rfl⟩) | go_keep)
                  (first
                    | (go_at_call 73; (with_reducible refine (K0.out _ (by exact (show _ ∧ _ ∧ _ ∧ _ ∧ _ from by assumption).1)).mono ?_); rintro e w3 ⟨rfl, g3⟩))
                all_goals
                  go_wp2
                  go_roundg (nl - (i + 1))
                  case measure => omega
                  case rel => exact ⟨i + 1, rr, rfl, by omega, by go_num, hrv.below g3, by rw [HY.out]; exact hrr.below g3, hrb, hq.trans (g3.mono hsq)⟩
            · obtain rfl : nl = i := by omega
              have hcn : (left.take nl).filter p = nextG f M left := by rw [← HNL.out, List.take_length, HNX.out]
              rw [hcn] at hrr
              clear hcn
              have ho7 := ho6.below hq
              go_wp2
              go_roundg (nextG f M left).length
              case measure => rw [hg, HNX.out]; exact HLT.out
              case rel => exact ⟨o ++ [(bm : Int)], nextG f M left, rr, rfl, by have h1 := HLT.out; rw [HNX.out, List.length_append, List.length_singleton]; omega, by rw [ints_append]; exact ho7, hob6, hrv, hrr, by have := hq.size; omega, hb6.trans (hq.mono (by omega)), HE⟩

end Go.Proofs.YtggblfnajeikjaaGreatDoor

namespace Go.Proofs.YtggblfnajeikjaaGreatDoor
open Go.RowKit
set_option linter.unusedVariables false
set_option linter.unusedSimpArgs false

/-- The best choice as the reference has it: -1 as long as there is none. -/
def bI (p : Nat × Nat) : Int := if p.2 = 0 then -1 else p.1
end Go.Proofs.YtggblfnajeikjaaGreatDoor

namespace Go.Proofs.YtggblfnajeikjaaGreatDoor
open Go.RowKit
set_option linter.unusedVariables false
set_option linter.unusedSimpArgs false

def testLine (n : Int) (xss : List (List Int)) : List UInt8 :=
  if netOk n xss && decide (xss.length ≤ 20) then [104, 105, 100, 100, 101, 110, 32] ++ Lib.itoa (hiddenL n xss).length ++ [32, 116, 101, 115, 116, 115, 32] ++ numsB (greedyL n xss) else [110, 111, 110, 101]
theorem testLine_no {n : Int} {xss : List (List Int)} (h : netOk n xss = false ∨ 20 < xss.length) : testLine n xss = [110, 111, 110, 101] := by
  unfold testLine
  rcases h with h | h
  · simp [h]
  · rw [if_neg]
    simp only [Bool.and_eq_true, decide_eq_true_eq]
    rintro ⟨_, h2⟩
    omega
theorem testLine_ok {n : Int} {xss : List (List Int)} (h : netOk n xss = true) (h2 : xss.length ≤ 20) : testLine n xss = [104, 105, 100, 100, 101, 110, 32] ++ Lib.itoa (hiddenL n xss).length ++ [32, 116, 101, 115, 116, 115, 32] ++ numsB (greedyL n xss) := by
  unfold testLine
  rw [h, if_pos]
  simpa using h2

set_option maxRecDepth 100000 in
set_option maxHeartbeats 8000000 in
theorem I_TestLine (w : World) (n : Int) (hn : I64 n) (v : Value) (xss : List (List Int)) (h : Rd2 w v xss) (_ : I64ss xss) (_ : SzOk xss) (ht : Tab w) : Calls Tryz.prog 19 #[.agg #[.int .i64 n, v]] w (RetB (.string (bstr (testLine n xss))) w) := by
  obtain ⟨a, c, rfl, h2, h3⟩ := h.form
  obtain ⟨w0, hw0, hb0, hz0, c0, c1⟩ := net_box w (.int .i64 n) (.slice a xss.length c) 30
  have h' := h.below hb0
  have HN := i_NetworkOk n _ xss _ h' hn
  have C1 := Lib.hid c1
  cases hk : netOk n xss
  · rw [hk] at HN
    have HR := Lib.hid (testLine_no (.inl hk))
    go_enter Tryz.func19, Tryz.ntmps19
    go_wp2_with (go_at_call 40; refine HN.mono ?_; rintro e w2 ⟨rfl, hb2⟩; have c1 := (hb2.cell (show w.heap.size < w0.heap.size by omega)).trans C1.out)
    go_ret
    exact ⟨by rw [HR.out]; rfl, hb0.trans (hb2.mono (by omega))⟩
  rw [hk] at HN
  by_cases hl20 : xss.length ≤ 20
  case neg =>
    have HR := Lib.hid (testLine_no (n := n) (xss := xss) (.inr (by omega)))
    have d0 : decide ((xss.length : Int) > 20) = true := by simp; omega
    go_enter Tryz.func19, Tryz.ntmps19
    go_wp2_with (go_at_call 40; refine HN.mono ?_; rintro e w2 ⟨rfl, hb2⟩; have c1 := (hb2.cell (show w.heap.size < w0.heap.size by omega)).trans C1.out)
    go_ret
    exact ⟨by rw [HR.out]; rfl, hb0.trans (hb2.mono (by omega))⟩
  have HR := Lib.hid (testLine_ok hk hl20)
  have d0 : decide ((xss.length : Int) > 20) = false := by simp; omega
  have GH := Lib.hid (fun (W : World) (hW : Below w.heap.size w W) => i_HiddenFaults n _ xss W (h.below hW) hn)
  have GG := Lib.hid (fun (W : World) (hW : Below w.heap.size w W) => i_GreedyTests n _ xss W (h.below hW) hn)
  have hhl := hiddenL_len n xss
  obtain ⟨hgi, hgl⟩ := greedyL_bd n xss
  obtain ⟨hs, hhs⟩ : ∃ hs, hiddenL n xss = hs := ⟨_, rfl⟩
  obtain ⟨gs, hgs⟩ : ∃ gs, greedyL n xss = gs := ⟨_, rfl⟩
  rw [hhs] at GH HR hhl
  rw [hgs] at GG HR hgi hgl
  have hzn := numsB_le hgi hgl
  have g0 : fmtNums gs = numsB gs := by rw [fmtNums, if_neg (by omega)]
  have HF0 := fun (W : World) (u : Value) (hu : Rd W u (ints gs)) (hW : Tab W) => I_FormatNumbers W u _ hu hgi (by omega) hW
  rw [g0] at HF0
  have zA := (itoa_len (n := (hs.length : Int)) (show I64 _ by unfold I64; omega)).2
  have KI0 := Lib.hid (fun (W : World) (hW : Tab W) => I_FormatInt W (hs.length : Int) (by unfold I64; omega) hW)
  have GL := Lib.hid (fun W => i_line4 [104, 105, 100, 100, 101, 110] (Lib.itoa hs.length) [116, 101, 115, 116, 115] (numsB gs) (by simp) (by omega) (by simp) (by omega) W)
  have HRB : Hid (testLine n xss = [104, 105, 100, 100, 101, 110] ++ [32] ++ Lib.itoa hs.length ++ [32] ++ [116, 101, 115, 116, 115] ++ [32] ++ numsB gs) := by simp [HR.out, Hid]
  have HFN := Lib.hid HF0
  rw [← HRB.out] at GL
  generalize numsB gs = F at HFN GL
  generalize Lib.itoa (hs.length : Int) = A at KI0 GL
  obtain ⟨R, hR⟩ : ∃ R, testLine n xss = R := ⟨_, rfl⟩
  rw [hR] at GL ⊢
  clear HRB hR
  obtain ⟨hl, hhl2⟩ : ∃ hl, hs.length = hl := ⟨_, rfl⟩
  rw [hhl2] at KI0 hhl
  have HHL := Lib.hid hhl2
  have C0 := Lib.hid c0
  clear hk HF0 g0 hzn zA hgi hgl hhs hgs hhl2 hl20 HR
  go_enter Tryz.func19, Tryz.ntmps19
  go_wp2_with (go_at_call 40; refine HN.mono ?_; rintro e w2 ⟨rfl, hb2⟩; have hbw2 : Below w.heap.size w w2 := hb0.trans (hb2.mono (by omega)); obtain ⟨c0, c1⟩ := Below.cells2 hb2 (show w.heap.size < w0.heap.size by omega) C0.out C1.out)
  have HT := keep_box c0 c1
  have K0 : Hid (∀ W : World, Below w2.heap.size w2 W → Calls Tryz.prog 14 #[.int .i64 (hl : Int)] W fun e w' => e = .returned (.string (bstr A)) ∧ Below w2.heap.size w2 w' ∧ Below W.heap.size W w') := fun W hW => (KI0.out W (ht.below (hbw2.trans (hW.mono hbw2.size)))).mono fun e w' h => ⟨h.1, hW.trans (h.2.mono hW.size), h.2⟩
  have K1 : Hid (∀ W : World, Below w2.heap.size w2 W → Calls Tryz.prog 20 #[.agg #[.int .i64 n, .slice a xss.length c]] W fun e w' => (∃ aq cq, e = .returned (.slice aq hl cq)) ∧ Below w2.heap.size w2 w' ∧ Below W.heap.size W w') := fun W hW => (GH.out W (hbw2.trans (hW.mono hbw2.size))).mono fun e w' h => by
    obtain ⟨vq, rfl, ho, hb⟩ := h
    obtain ⟨aq, cq, rfl, _, _⟩ := ho.form
    exact ⟨⟨aq, cq, by rw [HHL.out]⟩, hW.trans (hb.mono hW.size), hb⟩
  have K2 : Hid (∀ W : World, Below w2.heap.size w2 W → Calls Tryz.prog 21 #[.agg #[.int .i64 n, .slice a xss.length c]] W fun e w' => ∃ v, e = .returned v ∧ Rd w' v (ints gs) ∧ Below w2.heap.size w2 w' ∧ Below W.heap.size W w') := fun W hW => (GG.out W (hbw2.trans (hW.mono hbw2.size))).mono fun e w' h => by
    obtain ⟨vq, rfl, ho, hb⟩ := h
    exact ⟨vq, rfl, ho.rd, hW.trans (hb.mono hW.size), hb⟩
  have K3 : Hid (∀ (W : World) (u : Value), Below w2.heap.size w2 W → Rd W u (ints gs) → Calls Tryz.prog 6 #[u] W fun e w' => e = .returned (.string (bstr F)) ∧ Below w2.heap.size w2 w' ∧ Below W.heap.size W w') := fun W u hW hu => (HFN.out W u hu (ht.below (hbw2.trans (hW.mono hbw2.size)))).mono fun e w' h => ⟨h.1, hW.trans (h.2.mono hW.size), h.2⟩
  have K4 : Hid (∀ W : World, Below w2.heap.size w2 W → Calls Tryz.prog 61 #[.slice (some ⟨W.heap.size, 0, none⟩) 4 4] (W.alloc (.cells #[.string ⟨#[104, 105, 100, 100, 101, 110]⟩, .string (bstr A), .string ⟨#[116, 101, 115, 116, 115]⟩, .string (bstr F)] 9)) fun e w' => e = .returned (.string (bstr R)) ∧ Below w2.heap.size w2 w') := fun W hW => (GL.out W).mono fun e w' h => ⟨h.1, hW.trans (h.2.mono hW.size)⟩
  have BW2 := Lib.hid hbw2
  clear KI0 GH GG HFN GL c0 c1 C0 C1 HN hbw2 hb2 hb0 h h' HHL
  go_region_held3 (fun wx => Below w2.heap.size w2 wx ∧ wx.cell? ⟨w.heap.size, 0, none⟩ = some (.int .i64 n) ∧ wx.cell? ⟨w.heap.size, 1, none⟩ = some (.slice a xss.length c))
    (first | exact HT.out _ gL | exact HT.out _ gN | exact HT.out _ gI | exact HT.out _ (gN.alloc gN.size _) | exact HT.out _ (gI.alloc gI.size _) | exact HT.out _ gH | exact HT.out _ gG | exact HT.out _ (by exact ⟨rfl, rfl, rfl, Nat.le_refl _, fun _ _ => rfl⟩) | go_keep)
    (first
      | (go_at_call 20; (with_reducible refine (K1.out _ (by exact (show _ ∧ _ ∧ _ from by assumption).1)).mono ?_); rintro e wH ⟨⟨aq, cq, rfl⟩, gH, rH⟩)
      | (go_at_call 14; (with_reducible refine (K0.out _ (by exact (show _ ∧ _ ∧ _ from by assumption).1)).mono ?_); rintro e wI ⟨rfl, gI, rI⟩)
      | (go_at_call 21; (with_reducible refine (K2.out _ (by exact (show _ ∧ _ ∧ _ from by assumption).1)).mono ?_); rintro e wG ⟨vg, rfl, rdG, gG, rG⟩; obtain ⟨ag, cg, rfl, _, _⟩ := rdG.formi)
      | (go_at_call 6; refine (K3.out _ _ (by exact (show _ ∧ _ ∧ _ from by assumption).1) (by first | exact rdG | exact rdG.below rH | exact rdG.below rI | exact (rdG.below rH).below rI)).mono ?_; rintro e wN ⟨rfl, gN, rN⟩)
      | (go_at_call 61; (refine (K4.out wN gN).mono ?_); rintro e wL ⟨rfl, gL⟩)
      | (go_at_call 61; (refine (K4.out wI gI).mono ?_); rintro e wL ⟨rfl, gL⟩))
  all_goals
    go_wp2_with fail
    go_ret
    exact ⟨rfl, BW2.out.trans (gL.mono BW2.out.size)⟩

end Go.Proofs.YtggblfnajeikjaaGreatDoor

namespace Go.Proofs.YtggblfnajeikjaaGreatDoor
set_option linter.unusedVariables false

section
variable (key : Int → Int)
/-- x goes in from the great end, behind its equals; the list stands with the greatest key first. -/
def insK : List Int → Int → List Int
  | [], x => [x]
  | y :: t, x => if key x < key y then y :: insK t x else x :: y :: t
def sortK (xs : List Int) : List Int := xs.foldl (insK key) []
def srtS (xs : List Int) : List Int := (sortK key xs).reverse
theorem insK_length (s : List Int) (x : Int) : (insK key s x).length = s.length + 1 := by
  induction s with
  | nil => rfl
  | cons y t ih =>
    simp only [insK]
    split
    · simp only [List.length_cons, ih]
    · rfl
theorem sortK_snoc (xs : List Int) (x : Int) : sortK key (xs ++ [x]) = insK key (sortK key xs) x := by simp [sortK]
theorem foldlK_length (xs : List Int) : ∀ s : List Int, (xs.foldl (insK key) s).length = s.length + xs.length := by
  induction xs with
  | nil => intro s; rfl
  | cons x t ih => intro s; rw [List.foldl_cons, ih, insK_length, List.length_cons]; omega
theorem sortK_length (xs : List Int) : (sortK key xs).length = xs.length := by simp [sortK, foldlK_length]
theorem srtS_length (xs : List Int) : (srtS key xs).length = xs.length := by simp [srtS, sortK_length]

/-- Number j sinks to its place among those before it. -/
def sinkK (ys : List Int) : Nat → List Int
  | 0 => ys
  | j + 1 => if key (ys.getD (j + 1) 0) < key (ys.getD j 0) then sinkK ((ys.set (j + 1) (ys.getD j 0)).set j (ys.getD (j + 1) 0)) j else ys
theorem sinkK_length (ys : List Int) (j : Nat) : (sinkK key ys j).length = ys.length := by
  induction j generalizing ys with
  | zero => rfl
  | succ j ih =>
    simp only [sinkK]
    split
    · rw [ih]; simp
    · rfl
theorem sinkK_ins : ∀ (s : List Int) (x : Int) (rest : List Int), sinkK key (s.reverse ++ x :: rest) s.length = (insK key s x).reverse ++ rest
  | [], x, rest => rfl
  | y :: t, x, rest => by
    have e : (y :: t).reverse ++ x :: rest = t.reverse ++ y :: x :: rest := by simp
    have g0 : (t.reverse ++ y :: x :: rest).getD t.length 0 = y := by simp [List.getD_eq_getElem?_getD]
    have g1 : (t.reverse ++ y :: x :: rest).getD (t.length + 1) 0 = x := by
      rw [List.getD_eq_getElem?_getD, List.getElem?_append_right (by simp)]
      simp
    have g2 : ((t.reverse ++ y :: x :: rest).set (t.length + 1) y).set t.length x = t.reverse ++ x :: y :: rest := by
      rw [List.set_append_right _ _ (by simp), List.set_append_right _ _ (by simp)]
      simp
    rw [e, List.length_cons, sinkK, g0, g1, insK]
    split
    · rw [g2, sinkK_ins t x (y :: rest)]
      simp
    · simp
/-- The first k + 1 numbers are in order. -/
def srtKK (xs : List Int) : Nat → List Int
  | 0 => xs
  | k + 1 => sinkK key (srtKK xs k) (k + 1)
theorem srtKK_length (xs : List Int) (k : Nat) : (srtKK key xs k).length = xs.length := by
  induction k with
  | zero => rfl
  | succ k ih => rw [srtKK, sinkK_length, ih]
theorem srtKK_eq (xs : List Int) : ∀ k, k < xs.length → srtKK key xs k = srtS key (xs.take (k + 1)) ++ xs.drop (k + 1)
  | 0, h => by
    cases xs with
    | nil => simp at h
    | cons x t => simp [srtKK, srtS, sortK, insK]
  | k + 1, h => by
    have ih := srtKK_eq xs k (by omega)
    have hd : xs.drop (k + 1) = xs[k + 1] :: xs.drop (k + 1 + 1) := List.drop_eq_getElem_cons h
    have ht : xs.take (k + 1 + 1) = xs.take (k + 1) ++ [xs[k + 1]] := List.take_succ_eq_append_getElem h
    have hl : (sortK key (xs.take (k + 1))).length = k + 1 := by rw [sortK_length, List.length_take]; omega
    have := sinkK_ins key (sortK key (xs.take (k + 1))) xs[k + 1] (xs.drop (k + 1 + 1))
    rw [hl] at this
    rw [srtKK, ih, srtS, hd, this, srtS, ht, sortK_snoc]
theorem srtKK_all {xs : List Int} {n : Nat} (h : xs.length = n) : srtKK key xs (n - 1) = srtS key xs := by
  by_cases h0 : n = 0
  · subst h0
    have : xs = [] := List.eq_nil_of_length_eq_zero h
    subst this
    rfl
  · rw [srtKK_eq key xs (n - 1) (by omega), show n - 1 + 1 = n by omega, ← h, List.take_length, List.drop_length, List.append_nil]
end

end Go.Proofs.YtggblfnajeikjaaGreatDoor

namespace Go.Proofs.YtggblfnajeikjaaGreatDoor
set_option linter.unusedVariables false
set_option linter.unusedSimpArgs false

section
variable {key : Int → Int}
def KAsc (key : Int → Int) (xs : List Int) : Prop := xs.Pairwise fun a b => key a ≤ key b
/-- The same numbers, and those of equal keys in the same order. -/
def Stab (key : Int → Int) (xs ys : List Int) : Prop := ∀ v, xs.filter (fun x => decide (key x = v)) = ys.filter (fun x => decide (key x = v))
theorem Stab.refl (xs : List Int) : Stab key xs xs := fun _ => rfl
theorem Stab.symm {xs ys : List Int} (h : Stab key xs ys) : Stab key ys xs := fun v => (h v).symm
theorem Stab.trans {xs ys zs : List Int} (h : Stab key xs ys) (k : Stab key ys zs) : Stab key xs zs := fun v => (h v).trans (k v)
theorem Stab.app {a b c d : List Int} (h : Stab key a b) (k : Stab key c d) : Stab key (a ++ c) (b ++ d) := fun v => by rw [List.filter_append, List.filter_append, h v, k v]
theorem Stab.mem {xs ys : List Int} (h : Stab key xs ys) (x : Int) : x ∈ xs ↔ x ∈ ys := by
  have e : ∀ l : List Int, x ∈ l ↔ x ∈ l.filter (fun y => decide (key y = key x)) := fun l => by simp [List.mem_filter]
  rw [e xs, e ys, h (key x)]
theorem Stab.swap {u v : List Int} (h : ∀ x ∈ u, ∀ y ∈ v, key y < key x) : Stab key (u ++ v) (v ++ u) := by
  intro q
  rw [List.filter_append, List.filter_append]
  by_cases hu : u.filter (fun x => decide (key x = q)) = []
  · rw [hu]; simp
  · have hv : v.filter (fun x => decide (key x = q)) = [] := by
      rw [List.filter_eq_nil_iff]
      intro y hy hk
      apply hu
      rw [List.filter_eq_nil_iff]
      intro x hx hk2
      have := h x hx y hy
      have := of_decide_eq_true hk
      have := of_decide_eq_true hk2
      omega
    rw [hv]; simp
theorem Stab.length {xs ys : List Int} (h : Stab key xs ys) : xs.length = ys.length := by
  have : ∀ (n : Nat) (xs ys : List Int), xs.length ≤ n → Stab key xs ys → xs.length = ys.length := by
    intro n
    induction n with
    | zero =>
      intro xs ys hl h
      have hx := List.eq_nil_of_length_eq_zero (Nat.le_zero.1 hl)
      subst hx
      cases ys with
      | nil => rfl
      | cons y t => exact absurd ((h.mem y).2 (by simp)) (by simp)
    | succ n ih =>
      intro xs ys hl h
      cases xs with
      | nil =>
        cases ys with
        | nil => rfl
        | cons y t => exact absurd ((h.mem y).2 (by simp)) (by simp)
      | cons x t =>
        have hmem := (h.mem x).1 (by simp)
        have e : ∀ l : List Int, l.length = (l.filter (fun y => decide (key y = key x))).length + (l.filter (fun y => !decide (key y = key x))).length := fun l => by
          induction l with
          | nil => rfl
          | cons a l ih =>
            by_cases ha : key a = key x
            · simp [ha, ih]; omega
            · simp [ha, ih]; omega
        have h2 : Stab key ((x :: t).filter (fun y => !decide (key y = key x))) (ys.filter (fun y => !decide (key y = key x))) := by
          intro v
          rw [List.filter_filter, List.filter_filter]
          by_cases hv : v = key x
          · subst hv
            rw [List.filter_eq_nil_iff.2 (by intro a _; simp), List.filter_eq_nil_iff.2 (by intro a _; simp)]
          · have e2 : ∀ l : List Int, l.filter (fun a => decide (key a = v) && !decide (key a = key x)) = l.filter (fun a => decide (key a = v)) := fun l => by
              congr 1
              funext a
              by_cases ha : key a = v
              · simp [ha, hv]
              · simp [ha]
            rw [e2, e2]
            exact h v
        have h3 := ih _ _ (by
          have h1 : ((x :: t).filter (fun y => !decide (key y = key x))) = t.filter (fun y => !decide (key y = key x)) := by simp
          have h4 := List.length_filter_le (fun y => !decide (key y = key x)) t
          rw [h1]
          simp only [List.length_cons] at hl
          omega) h2
        rw [e (x :: t), e ys, h3, h (key x)]
  exact this xs.length xs ys (Nat.le_refl _) h
theorem asc_unique : ∀ {xs ys : List Int}, KAsc key xs → KAsc key ys → Stab key xs ys → xs = ys
  | [], ys, _, _, h => by
    cases ys with
    | nil => rfl
    | cons y t => exact absurd ((h.mem y).2 (by simp)) (by simp)
  | x :: t, [], _, _, h => absurd ((h.mem x).1 (by simp)) (by simp)
  | x :: t, y :: u, hx, hy, h => by
    obtain ⟨hx1, hx2⟩ := List.pairwise_cons.1 hx
    obtain ⟨hy1, hy2⟩ := List.pairwise_cons.1 hy
    have h1 : key y ≤ key x := by
      rcases List.mem_cons.1 ((h.mem x).1 (by simp)) with e | e
      · rw [e]; exact Int.le_refl _
      · exact hy1 x e
    have h2 : key x ≤ key y := by
      rcases List.mem_cons.1 ((h.mem y).2 (by simp)) with e | e
      · rw [e]; exact Int.le_refl _
      · exact hx1 y e
    have he : key x = key y := by omega
    have h3 := h (key x)
    rw [List.filter_cons, List.filter_cons, if_pos (by simp), if_pos (by simp [he])] at h3
    injection h3 with h4 h5
    subst h4
    have h6 : Stab key t u := fun v => by
      by_cases hv : key x = v
      · subst hv; exact h5
      · have := h v
        rw [List.filter_cons, List.filter_cons, if_neg (by simpa using hv), if_neg (by simpa using hv)] at this
        exact this
    rw [asc_unique hx2 hy2 h6]
theorem insK_filter (v x : Int) : ∀ s : List Int, (insK key s x).filter (fun y => decide (key y = v)) = (if key x = v then [x] else []) ++ s.filter (fun y => decide (key y = v))
  | [] => by
    by_cases h : key x = v <;> simp [insK, h]
  | y :: t => by
    have ih := insK_filter v x t
    unfold insK
    split
    · rename_i hlt
      rw [List.filter_cons, ih]
      by_cases h1 : key x = v
      · have h2 : ¬ key y = v := by omega
        simp [h1, h2]
      · by_cases h2 : key y = v <;> simp [h1, h2]
    · by_cases h1 : key x = v <;> by_cases h2 : key y = v <;> simp [h1, h2]
theorem sortK_filter (v : Int) : ∀ (xs s : List Int), (xs.foldl (insK key) s).filter (fun y => decide (key y = v)) = (xs.filter (fun y => decide (key y = v))).reverse ++ s.filter (fun y => decide (key y = v))
  | [], s => by simp
  | x :: t, s => by
    rw [List.foldl_cons, sortK_filter v t, insK_filter]
    by_cases h1 : key x = v <;> simp [h1]
theorem srtS_stab (xs : List Int) : Stab key (srtS key xs) xs := by
  intro v
  rw [srtS, List.filter_reverse, sortK, sortK_filter]
  simp
theorem insK_mem (x y : Int) : ∀ s : List Int, y ∈ insK key s x ↔ y = x ∨ y ∈ s
  | [] => by simp [insK]
  | z :: t => by
    unfold insK
    split
    · rw [List.mem_cons, insK_mem x y t, List.mem_cons]
      constructor
      · rintro (h | h | h) <;> simp [h]
      · rintro (h | h | h) <;> simp [h]
    · simp
theorem insK_desc (x : Int) : ∀ s : List Int, s.Pairwise (fun a b => key b ≤ key a) → (insK key s x).Pairwise (fun a b => key b ≤ key a)
  | [], _ => by simp [insK]
  | y :: t, h => by
    obtain ⟨h1, h2⟩ := List.pairwise_cons.1 h
    unfold insK
    split
    · rename_i hlt
      refine List.pairwise_cons.2 ⟨fun z hz => ?_, insK_desc x t h2⟩
      rcases (insK_mem x z t).1 hz with rfl | hz
      · omega
      · exact h1 z hz
    · rename_i hlt
      refine List.pairwise_cons.2 ⟨fun z hz => ?_, h⟩
      rcases List.mem_cons.1 hz with rfl | hz
      · omega
      · have := h1 z hz; omega
theorem srtS_asc (xs : List Int) : KAsc key (srtS key xs) := by
  have : ∀ (xs s : List Int), s.Pairwise (fun a b => key b ≤ key a) → (xs.foldl (insK key) s).Pairwise (fun a b => key b ≤ key a) := by
    intro xs
    induction xs with
    | nil => intro s h; exact h
    | cons x t ih => intro s h; exact ih _ (insK_desc x s h)
  rw [KAsc, srtS, List.pairwise_reverse]
  exact this xs [] .nil
theorem srtS_unique {xs ys : List Int} (h : KAsc key ys) (hs : Stab key ys xs) : ys = srtS key xs := asc_unique h (srtS_asc xs) (hs.trans (srtS_stab xs).symm)
theorem srtS_self {xs : List Int} (h : KAsc key xs) : srtS key xs = xs := (srtS_unique h (Stab.refl _)).symm
theorem srtS_congr {xs ys : List Int} (h : Stab key xs ys) : srtS key xs = srtS key ys := srtS_unique (srtS_asc xs) ((srtS_stab xs).trans h)
theorem srtS_mem (xs : List Int) (x : Int) : x ∈ srtS key xs ↔ x ∈ xs := (srtS_stab xs).mem x
theorem asc_app {a b : List Int} (ha : KAsc key a) (hb : KAsc key b) (h : ∀ x ∈ a, ∀ y ∈ b, key x ≤ key y) : KAsc key (a ++ b) := List.pairwise_append.2 ⟨ha, hb, h⟩
/-- The two halves, when the middle blocks have changed places. -/
theorem srtS_halves {A1 U V B2 : List Int} (hA : KAsc key (A1 ++ U)) (hB : KAsc key (V ++ B2)) (h1 : ∀ x ∈ A1, ∀ y ∈ B2, key x ≤ key y) (h2 : ∀ x ∈ U, ∀ y ∈ V, key y < key x) :
    srtS key ((A1 ++ U) ++ (V ++ B2)) = srtS key (A1 ++ V) ++ srtS key (U ++ B2) := by
  obtain ⟨a1, a2, a3⟩ := List.pairwise_append.1 hA
  obtain ⟨b1, b2, b3⟩ := List.pairwise_append.1 hB
  refine (srtS_unique (asc_app (srtS_asc _) (srtS_asc _) fun x hx y hy => ?_) ?_).symm
  · rw [srtS_mem, List.mem_append] at hx hy
    rcases hx with hx | hx <;> rcases hy with hy | hy
    · exact a3 x hx y hy
    · exact h1 x hx y hy
    · exact Int.le_of_lt (h2 y hy x hx)
    · exact b3 x hx y hy
  · refine ((srtS_stab _).app (srtS_stab _)).trans ?_
    have e1 : (A1 ++ V) ++ (U ++ B2) = A1 ++ ((V ++ U) ++ B2) := by simp
    have e2 : (A1 ++ U) ++ (V ++ B2) = A1 ++ ((U ++ V) ++ B2) := by simp
    rw [e1, e2]
    exact (Stab.refl A1).app (((Stab.swap h2).symm).app (Stab.refl B2))
theorem srtS_first {x : Int} {B1 B2 : List Int} (hB : KAsc key (B1 ++ B2)) (h1 : ∀ y ∈ B1, key y < key x) (h2 : ∀ y ∈ B2, key x ≤ key y) : srtS key ([x] ++ (B1 ++ B2)) = B1 ++ x :: B2 := by
  obtain ⟨b1, b2, b3⟩ := List.pairwise_append.1 hB
  refine (srtS_unique (asc_app b1 (List.pairwise_cons.2 ⟨h2, b2⟩) fun y hy z hz => ?_) ?_).symm
  · rcases List.mem_cons.1 hz with rfl | hz
    · exact Int.le_of_lt (h1 y hy)
    · exact b3 y hy z hz
  · have e1 : B1 ++ x :: B2 = (B1 ++ [x]) ++ B2 := by simp
    have e2 : [x] ++ (B1 ++ B2) = ([x] ++ B1) ++ B2 := by simp
    rw [e1, e2]
    exact (Stab.swap (fun z hz y hy => by simp at hz; subst hz; exact h1 y hy)).symm.app (Stab.refl B2)
theorem srtS_last {x : Int} {A1 A2 : List Int} (hA : KAsc key (A1 ++ A2)) (h1 : ∀ y ∈ A1, key y ≤ key x) (h2 : ∀ y ∈ A2, key x < key y) : srtS key ((A1 ++ A2) ++ [x]) = A1 ++ x :: A2 := by
  obtain ⟨b1, b2, b3⟩ := List.pairwise_append.1 hA
  refine (srtS_unique (asc_app b1 (List.pairwise_cons.2 ⟨fun y hy => Int.le_of_lt (h2 y hy), b2⟩) fun y hy z hz => ?_) ?_).symm
  · rcases List.mem_cons.1 hz with rfl | hz
    · exact h1 y hy
    · exact b3 y hy z hz
  · have e1 : A1 ++ x :: A2 = A1 ++ ([x] ++ A2) := by simp
    have e2 : (A1 ++ A2) ++ [x] = A1 ++ (A2 ++ [x]) := by simp
    rw [e1, e2]
    exact (Stab.refl A1).app (Stab.swap (fun z hz y hy => by simp at hy; subst hy; exact h2 z hz)).symm
theorem srtS_app (xs ys : List Int) : srtS key (srtS key xs ++ srtS key ys) = srtS key (xs ++ ys) := srtS_congr ((srtS_stab xs).app (srtS_stab ys))
theorem asc_get {xs : List Int} (h : KAsc key xs) {i j : Nat} {x y : Int} (hx : xs[i]? = some x) (hy : xs[j]? = some y) (hij : i ≤ j) : key x ≤ key y := by
  obtain ⟨h1, rfl⟩ := List.getElem?_eq_some_iff.1 hx
  obtain ⟨h2, rfl⟩ := List.getElem?_eq_some_iff.1 hy
  by_cases e : i = j
  · subst e; exact Int.le_refl _
  · exact List.pairwise_iff_getElem.1 h i j h1 h2 (by omega)
theorem mem_take_get {xs : List Int} {k : Nat} {x : Int} (h : x ∈ xs.take k) : ∃ i, i < k ∧ xs[i]? = some x := by
  obtain ⟨i, hi⟩ := List.getElem?_of_mem h
  rw [List.getElem?_take] at hi
  split at hi
  · exact ⟨i, by assumption, hi⟩
  · cases hi
theorem mem_drop_get {xs : List Int} {k : Nat} {x : Int} (h : x ∈ xs.drop k) : ∃ i, k ≤ i ∧ xs[i]? = some x := by
  obtain ⟨i, hi⟩ := List.getElem?_of_mem h
  rw [List.getElem?_drop] at hi
  exact ⟨k + i, by omega, hi⟩
/-- Where the search by symmetric comparisons ends: s of the first block stay, t of the second one come ahead. -/
theorem sym_cut {A B : List Int} (hA : KAsc key A) (hB : KAsc key B) (s t : Nat) (hs : s ≤ A.length) (ht : t ≤ B.length)
    (h1 : s = 0 ∨ t = B.length ∨ ∃ x y, A[s - 1]? = some x ∧ B[t]? = some y ∧ key x ≤ key y)
    (h2 : s = A.length ∨ t = 0 ∨ ∃ x y, A[s]? = some x ∧ B[t - 1]? = some y ∧ key y < key x) :
    srtS key (A ++ B) = srtS key (A.take s ++ B.take t) ++ srtS key (A.drop s ++ B.drop t) := by
  have hA' : KAsc key (A.take s ++ A.drop s) := by rw [List.take_append_drop]; exact hA
  have hB' : KAsc key (B.take t ++ B.drop t) := by rw [List.take_append_drop]; exact hB
  have := srtS_halves hA' hB' (fun x hx y hy => ?_) (fun x hx y hy => ?_)
  · rwa [List.take_append_drop, List.take_append_drop] at this
  · obtain ⟨i, hi, hxi⟩ := mem_take_get hx
    obtain ⟨j, hj, hyj⟩ := mem_drop_get hy
    have hjl := (List.getElem?_eq_some_iff.1 hyj).1
    rcases h1 with h1 | h1 | ⟨p, q, hp, hq, hpq⟩
    · omega
    · omega
    · have e1 := asc_get hA hxi hp (by omega)
      have e2 := asc_get hB hq hyj hj
      omega
  · obtain ⟨i, hi, hxi⟩ := mem_drop_get hx
    obtain ⟨j, hj, hyj⟩ := mem_take_get hy
    have hil := (List.getElem?_eq_some_iff.1 hxi).1
    rcases h2 with h2 | h2 | ⟨p, q, hp, hq, hpq⟩
    · omega
    · omega
    · have e1 := asc_get hA hp hxi hi
      have e2 := asc_get hB hyj hq (by omega)
      omega
end

end Go.Proofs.YtggblfnajeikjaaGreatDoor

namespace Go.Proofs.YtggblfnajeikjaaGreatDoor
set_option linter.unusedVariables false
set_option linter.unusedSimpArgs false

def swp (xs : List Int) (i j : Nat) : List Int := (xs.set i (xs.getD j 0)).set j (xs.getD i 0)
theorem swp_length (xs : List Int) (i j : Nat) : (swp xs i j).length = xs.length := by simp [swp]
theorem swp_of {xs : List Int} {i j : Nat} {x y : Int} (hx : xs[i]? = some x) (hy : xs[j]? = some y) : swp xs i j = (xs.set i y).set j x := by
  simp [swp, List.getD_eq_getElem?_getD, hx, hy]
theorem swp_blocks (P Y S : List Int) (x z : Int) : swp (P ++ (x :: (Y ++ (z :: S)))) P.length (P.length + 1 + Y.length) = P ++ (z :: (Y ++ (x :: S))) := by
  have h1 : (P ++ (x :: (Y ++ (z :: S))))[P.length]? = some x := by simp
  have h2 : (P ++ (x :: (Y ++ (z :: S))))[P.length + 1 + Y.length]? = some z := by
    rw [List.getElem?_append_right (by omega), show P.length + 1 + Y.length - P.length = Y.length + 1 by omega, List.getElem?_cons_succ, List.getElem?_append_right (by omega)]
    simp
  rw [swp_of h1 h2, List.set_append_right _ _ (Nat.le_refl _), List.set_append_right _ _ (by omega), show P.length + 1 + Y.length - P.length = Y.length + 1 by omega]
  simp
/-- cnt numbers from a on change places with those from b on. -/
def swapN (xs : List Int) (a b : Nat) : Nat → List Int
  | 0 => xs
  | c + 1 => swapN (swp xs a b) (a + 1) (b + 1) c
theorem swapN_blocks : ∀ (X Z P Y S : List Int), X.length = Z.length → swapN (P ++ (X ++ (Y ++ (Z ++ S)))) P.length (P.length + X.length + Y.length) X.length = P ++ (Z ++ (Y ++ (X ++ S)))
  | [], [], P, Y, S, _ => by simp [swapN]
  | [], z :: Z, P, Y, S, h => by simp at h
  | x :: X, [], P, Y, S, h => by simp at h
  | x :: X, z :: Z, P, Y, S, h => by
    have ih := swapN_blocks X Z (P ++ [z]) (Y ++ [x]) S (by simpa using h)
    have e := swp_blocks P (X ++ Y) (Z ++ S) x z
    have e1 : P ++ (x :: X ++ (Y ++ (z :: Z ++ S))) = P ++ (x :: ((X ++ Y) ++ (z :: (Z ++ S)))) := by simp
    have e2 : P.length + (x :: X).length + Y.length = P.length + 1 + (X ++ Y).length := by simp; omega
    rw [e1, e2, List.length_cons, swapN, e]
    have e3 : P ++ (z :: ((X ++ Y) ++ (x :: (Z ++ S)))) = P ++ [z] ++ (X ++ (Y ++ [x] ++ (Z ++ S))) := by simp
    have e4 : P.length + 1 + (X ++ Y).length + 1 = (P ++ [z]).length + X.length + (Y ++ [x]).length := by simp; omega
    have e5 : P.length + 1 = (P ++ [z]).length := by simp
    rw [e3, e4, e5, ih]
    simp
/-- Number k goes up by cnt places. -/
def upN (xs : List Int) (k : Nat) : Nat → List Int
  | 0 => xs
  | c + 1 => upN (swp xs k (k + 1)) (k + 1) c
theorem upN_blocks : ∀ (B P R : List Int) (x : Int), upN (P ++ (x :: (B ++ R))) P.length B.length = P ++ (B ++ (x :: R))
  | [], P, R, x => by simp [upN]
  | y :: B, P, R, x => by
    have ih := upN_blocks B (P ++ [y]) R x
    have e := swp_blocks P [] (B ++ R) x y
    simp only [List.nil_append, List.length_nil, Nat.add_zero] at e
    rw [List.length_cons, upN, List.cons_append, e]
    have e3 : P ++ (y :: (x :: (B ++ R))) = P ++ [y] ++ (x :: (B ++ R)) := by simp
    have e5 : P.length + 1 = (P ++ [y]).length := by simp
    rw [e3, e5, ih]
    simp
/-- Number k goes down by cnt places. -/
def downN (xs : List Int) (k : Nat) : Nat → List Int
  | 0 => xs
  | c + 1 => downN (swp xs k (k - 1)) (k - 1) c
theorem swp_comm {xs : List Int} {i j : Nat} (hi : i < xs.length) (hj : j < xs.length) (h : i ≠ j) : swp xs i j = swp xs j i := by
  have h1 := List.getElem?_eq_getElem hi
  have h2 := List.getElem?_eq_getElem hj
  rw [swp_of h1 h2, swp_of h2 h1, List.set_comm _ _ (by omega)]
theorem downN_blocks : ∀ (n : Nat) (A P R : List Int) (x : Int), A.length = n → downN (P ++ (A ++ (x :: R))) (P.length + n) n = P ++ (x :: (A ++ R))
  | 0, A, P, R, x, h => by
    have := List.eq_nil_of_length_eq_zero h
    subst this
    simp [downN]
  | n + 1, A, P, R, x, h => by
    obtain ⟨A', y, rfl⟩ : ∃ A' y, A = A' ++ [y] := ⟨A.dropLast, A.getLast (by intro e; simp [e] at h), (List.dropLast_concat_getLast _).symm⟩
    have hl : A'.length = n := by simpa using h
    have ih := downN_blocks n A' P (y :: R) x hl
    have e := swp_blocks (P ++ A') [] R y x
    simp only [List.nil_append, List.length_nil, Nat.add_zero, List.length_append, hl] at e
    have e1 : P ++ (A' ++ [y] ++ (x :: R)) = P ++ A' ++ (y :: (x :: R)) := by simp
    rw [downN, e1, show P.length + (n + 1) - 1 = P.length + n by omega, show P.length + (n + 1) = P.length + n + 1 by omega, swp_comm (by simp; omega) (by simp; omega) (by omega), e]
    have e2 : P ++ A' ++ (x :: (y :: R)) = P ++ (A' ++ (x :: (y :: R))) := by simp
    rw [e2, ih]
    simp
theorem set_pre (P ys : List Int) (c : Nat) (y : Int) : (P ++ ys).set (P.length + c) y = P ++ ys.set c y := by
  rw [List.set_append_right _ _ (by omega)]
  simp
theorem get_pre (P ys : List Int) (c : Nat) : (P ++ ys)[P.length + c]? = ys[c]? := by
  rw [List.getElem?_append_right (by omega)]
  simp
/-- Of four blocks: the second and the third. -/
theorem get_A {P A B S : List Int} {c : Nat} (h1 : P.length ≤ c) (h2 : c < P.length + A.length) : (P ++ (A ++ (B ++ S)))[c]? = A[c - P.length]? := by
  rw [List.getElem?_append_right h1, List.getElem?_append_left (by omega)]
theorem get_B {P A B S : List Int} {c : Nat} (h1 : P.length + A.length ≤ c) (h2 : c < P.length + A.length + B.length) : (P ++ (A ++ (B ++ S)))[c]? = B[c - (P.length + A.length)]? := by
  rw [List.getElem?_append_right (by omega), List.getElem?_append_right (by omega), List.getElem?_append_left (by omega)]
  congr 1
  omega

/-- One number ahead of a sorted block, or behind it: where it goes. -/
theorem first_cut {key : Int → Int} {x : Int} {B : List Int} (hB : KAsc key B) (t : Nat) (ht : t ≤ B.length)
    (h1 : t = 0 ∨ ∃ y, B[t - 1]? = some y ∧ key y < key x) (h2 : t = B.length ∨ ∃ y, B[t]? = some y ∧ key x ≤ key y) : srtS key ([x] ++ B) = B.take t ++ x :: B.drop t := by
  have := srtS_first (key := key) (x := x) (B1 := B.take t) (B2 := B.drop t) (by rw [List.take_append_drop]; exact hB) (fun y hy => ?_) (fun y hy => ?_)
  · rwa [List.take_append_drop] at this
  · obtain ⟨i, hi, hyi⟩ := mem_take_get hy
    rcases h1 with h1 | ⟨z, hz, hk⟩
    · omega
    · have := asc_get hB hyi hz (by omega); omega
  · obtain ⟨i, hi, hyi⟩ := mem_drop_get hy
    have := (List.getElem?_eq_some_iff.1 hyi).1
    rcases h2 with h2 | ⟨z, hz, hk⟩
    · omega
    · have := asc_get hB hz hyi hi; omega
theorem last_cut {key : Int → Int} {x : Int} {A : List Int} (hA : KAsc key A) (t : Nat) (ht : t ≤ A.length)
    (h1 : t = 0 ∨ ∃ y, A[t - 1]? = some y ∧ key y ≤ key x) (h2 : t = A.length ∨ ∃ y, A[t]? = some y ∧ key x < key y) : srtS key (A ++ [x]) = A.take t ++ x :: A.drop t := by
  have := srtS_last (key := key) (x := x) (A1 := A.take t) (A2 := A.drop t) (by rw [List.take_append_drop]; exact hA) (fun y hy => ?_) (fun y hy => ?_)
  · rwa [List.take_append_drop] at this
  · obtain ⟨i, hi, hyi⟩ := mem_take_get hy
    rcases h1 with h1 | ⟨z, hz, hk⟩
    · omega
    · have := asc_get hA hyi hz (by omega); omega
  · obtain ⟨i, hi, hyi⟩ := mem_drop_get hy
    have := (List.getElem?_eq_some_iff.1 hyi).1
    rcases h2 with h2 | ⟨z, hz, hk⟩
    · omega
    · have := asc_get hA hz hyi hi; omega

end Go.Proofs.YtggblfnajeikjaaGreatDoor

namespace Go.Proofs.YtggblfnajeikjaaGreatDoor
set_option linter.unusedVariables false
set_option linter.unusedSimpArgs false

def ltK (T : List Int) (e : Int) : Int := T.getD e.toNat 0
def setAll (d q : List Int) (at_ : Int) : List Int := q.foldl (fun d x => d.set x.toNat (at_ - x)) d
theorem setAll_length (q : List Int) (at_ : Int) : ∀ d : List Int, (setAll d q at_).length = d.length := by
  induction q with
  | nil => intro d; rfl
  | cons x t ih => intro d; rw [setAll, List.foldl_cons]; exact (ih _).trans (by simp)
theorem setAll_snoc (d q : List Int) (x at_ : Int) : setAll d (q ++ [x]) at_ = (setAll d q at_).set x.toNat (at_ - x) := by simp [setAll]
theorem setAll_nil (d : List Int) (at_ : Int) : setAll d [] at_ = d := rfl
structure LS where
  w : List Int
  out : List Int
  late : List Int
  del : List Int
  marks : List Int
  most : Int
  mark : Int
def due (T : List Int) (mk : Int) (x : Int) : Bool := decide (ltK T x ≤ mk)
/-- The waiting ones, in order, when record i has come. -/
def lq (T : List Int) (L : LS) (i : Nat) : List Int := if T.getD i 0 < L.mark then L.w else srtS (ltK T) (L.w ++ [(i : Int)])
def lmk (T : List Int) (s : Int) (L : LS) (i : Nat) : Int := max L.mark (T.getD i 0 - s)
def lstep (T : List Int) (s : Int) (L : LS) (i : Nat) : LS where
  w := (lq T L i).filter fun x => !due T (lmk T s L i) x
  out := L.out ++ (lq T L i).filter (due T (lmk T s L i))
  late := if T.getD i 0 < L.mark then L.late ++ [(i : Int)] else L.late
  del := setAll (if T.getD i 0 < L.mark then L.del.set i (-1) else L.del) ((lq T L i).filter (due T (lmk T s L i))) (i : Int)
  marks := L.marks ++ [lmk T s L i]
  most := max L.most (((lq T L i).filter fun x => !due T (lmk T s L i) x).length : Int)
  mark := lmk T s L i
def lS0 (n : Nat) : LS := ⟨[], [], [], List.replicate n 0, [], 0, -1001⟩
def lrun (T : List Int) (s : Int) : Nat → LS
  | 0 => lS0 T.length
  | k + 1 => lstep T s (lrun T s k) k
/-- What holds all along. -/
structure LInv (T : List Int) (s : Int) (k : Nat) (L : LS) : Prop where
  asc : KAsc (ltK T) L.w
  wlt : ∀ x ∈ L.w, ∃ j : Nat, j < k ∧ x = j
  olt : ∀ x ∈ L.out, ∃ j : Nat, j < k ∧ x = j
  llt : ∀ x ∈ L.late, ∃ j : Nat, j < k ∧ x = j
  len : L.w.length + L.out.length + L.late.length = k
  del : L.del.length = T.length
  marks : L.marks.length = k
  most0 : 0 ≤ L.most ∧ L.most ≤ (k : Int)
  mkb : -1001 ≤ L.mark ∧ L.mark ≤ 1000
theorem asc_filter {key : Int → Int} {xs : List Int} (h : KAsc key xs) (p : Int → Bool) : KAsc key (xs.filter p) := h.sublist List.filter_sublist
theorem filter_len2 (p : Int → Bool) (xs : List Int) : (xs.filter fun x => !p x).length + (xs.filter p).length = xs.length := by
  induction xs with
  | nil => rfl
  | cons x t ih =>
    cases h : p x
    · simp [h]; omega
    · simp [h]; omega
theorem lq_facts {T : List Int} {s : Int} {k : Nat} {L : LS} (H : LInv T s k L) : KAsc (ltK T) (lq T L k) ∧ (∀ x ∈ lq T L k, ∃ j : Nat, j < k + 1 ∧ x = j) ∧ (lq T L k).length = L.w.length + (if T.getD k 0 < L.mark then 0 else 1) := by
  unfold lq
  split
  · exact ⟨H.asc, fun x hx => by obtain ⟨j, h1, h2⟩ := H.wlt x hx; exact ⟨j, by omega, h2⟩, rfl⟩
  · refine ⟨srtS_asc _, fun x hx => ?_, by rw [srtS_length]; simp⟩
    rw [srtS_mem, List.mem_append, List.mem_singleton] at hx
    rcases hx with hx | rfl
    · obtain ⟨j, h1, h2⟩ := H.wlt x hx; exact ⟨j, by omega, h2⟩
    · exact ⟨k, by omega, rfl⟩
theorem LInv.start (T : List Int) (s : Int) : LInv T s 0 (lS0 T.length) :=
  ⟨List.Pairwise.nil, fun x h => by simp [lS0] at h, fun x h => by simp [lS0] at h, fun x h => by simp [lS0] at h, by simp [lS0], by simp [lS0], by simp [lS0], by simp [lS0], by simp [lS0]⟩
theorem LInv.step {T : List Int} {s : Int} (hT : ∀ t ∈ T, 0 ≤ t ∧ t ≤ 1000) (hs : 0 ≤ s ∧ s ≤ 1000) {k : Nat} {L : LS} (hk : k < T.length) (H : LInv T s k L) : LInv T s (k + 1) (lstep T s L k) := by
  obtain ⟨h1, h2, h3⟩ := lq_facts H
  have hl := filter_len2 (due T (lmk T s L k)) (lq T L k)
  have ht : 0 ≤ T.getD k 0 ∧ T.getD k 0 ≤ 1000 := by
    rw [List.getD_eq_getElem?_getD, List.getElem?_eq_getElem hk]
    exact hT _ (List.getElem_mem _)
  have hm := H.mkb
  have hmk : -1001 ≤ lmk T s L k ∧ lmk T s L k ≤ 1000 := by unfold lmk; omega
  have hlen := H.len
  have hm0 := H.most0
  refine ⟨asc_filter h1 _, fun x hx => h2 x (List.mem_filter.1 hx).1, fun x hx => ?_, fun x hx => ?_, ?_, ?_, ?_, ?_, hmk⟩
  · rcases List.mem_append.1 hx with hx | hx
    · obtain ⟨j, a, b⟩ := H.olt x hx; exact ⟨j, by omega, b⟩
    · exact h2 x (List.mem_filter.1 hx).1
  · by_cases hlt : T.getD k 0 < L.mark
    · rw [show (lstep T s L k).late = L.late ++ [(k : Int)] from if_pos hlt] at hx
      rcases List.mem_append.1 hx with hx | hx
      · obtain ⟨j, a, b⟩ := H.llt x hx; exact ⟨j, by omega, b⟩
      · rw [List.mem_singleton] at hx; exact ⟨k, by omega, hx⟩
    · rw [show (lstep T s L k).late = L.late from if_neg hlt] at hx
      obtain ⟨j, a, b⟩ := H.llt x hx; exact ⟨j, by omega, b⟩
  · simp only [lstep, List.length_append]
    by_cases hlt : T.getD k 0 < L.mark
    · rw [if_pos hlt] at h3 ⊢
      simp only [List.length_append, List.length_singleton]
      omega
    · rw [if_neg hlt] at h3 ⊢
      omega
  · simp only [lstep]
    rw [setAll_length]
    split
    · rw [List.length_set]; exact H.del
    · exact H.del
  · simp [lstep, H.marks]
  · simp only [lstep]
    have : ((lq T L k).filter fun x => !due T (lmk T s L k) x).length ≤ k + 1 := by
      split at h3 <;> omega
    omega
theorem lrun_inv {T : List Int} {s : Int} (hT : ∀ t ∈ T, 0 ≤ t ∧ t ≤ 1000) (hs : 0 ≤ s ∧ s ≤ 1000) : ∀ k, k ≤ T.length → LInv T s k (lrun T s k)
  | 0, _ => LInv.start T s
  | k + 1, h => (lrun_inv hT hs k (by omega)).step hT hs (by omega)
/-- What comes of it in the end. -/
def lateOut (T : List Int) (s : Int) : List Int := (lrun T s T.length).out ++ (lrun T s T.length).w
def lateLate (T : List Int) (s : Int) : List Int := (lrun T s T.length).late
def lateDel (T : List Int) (s : Int) : List Int := setAll (lrun T s T.length).del (lrun T s T.length).w ((T.length : Int) - 1)
def lateMost (T : List Int) (s : Int) : Int := (lrun T s T.length).most
def lateMarks (T : List Int) (s : Int) : List Int := (lrun T s T.length).marks
def timesOk (T : List Int) : Bool := decide (T.length ≤ 30) && T.all fun t => decide (0 ≤ t) && decide (t ≤ 1000)
theorem timesOk_iff {T : List Int} : timesOk T = true ↔ T.length ≤ 30 ∧ ∀ t ∈ T, 0 ≤ t ∧ t ≤ 1000 := by
  simp only [timesOk, Bool.and_eq_true, decide_eq_true_eq, List.all_eq_true]
def lateOkB (T : List Int) (s : Int) : Bool := timesOk T && (decide (0 ≤ s) && decide (s ≤ 1000))
theorem lateOkB_iff {T : List Int} {s : Int} : lateOkB T s = true ↔ (T.length ≤ 30 ∧ ∀ t ∈ T, 0 ≤ t ∧ t ≤ 1000) ∧ 0 ≤ s ∧ s ≤ 1000 := by
  simp only [lateOkB, Bool.and_eq_true, timesOk_iff, decide_eq_true_eq]

end Go.Proofs.YtggblfnajeikjaaGreatDoor

namespace Go.Proofs.YtggblfnajeikjaaGreatDoor
open Go.RowKit
set_option linter.unusedVariables false
set_option linter.unusedSimpArgs false

theorem ltK_nat (T : List Int) (y : Nat) : ltK T (y : Int) = T.getD y 0 := by simp [ltK]
theorem getD_of {T : List Int} {k : Nat} {t : Int} (h : T[k]? = some t) : T.getD k 0 = t := by rw [List.getD_eq_getElem?_getD, h]; rfl
end Go.Proofs.YtggblfnajeikjaaGreatDoor

namespace Go.Proofs.YtggblfnajeikjaaGreatDoor
open Go.RowKit
set_option linter.unusedVariables false
set_option linter.unusedSimpArgs false

def cmpV (key : Int → Int) (x y : Int) : Int := if key x < key y then -1 else if key y < key x then 1 else 0
theorem sinkK_go {key : Int → Int} {ys : List Int} {k : Nat} {y z : Int} (hy : ys[k + 1]? = some y) (hz : ys[k]? = some z) (h : key y < key z) : sinkK key ys (k + 1) = sinkK key ((ys.set (k + 1) z).set k y) k := by
  rw [sinkK, List.getD_eq_getElem?_getD, List.getD_eq_getElem?_getD, hy, hz]
  exact if_pos h
theorem sinkK_stop {key : Int → Int} {ys : List Int} {k : Nat} {y z : Int} (hy : ys[k + 1]? = some y) (hz : ys[k]? = some z) (h : ¬ key y < key z) : sinkK key ys (k + 1) = ys := by
  rw [sinkK, List.getD_eq_getElem?_getD, List.getD_eq_getElem?_getD, hy, hz]
  exact if_neg h
theorem sinkK_mem' (key : Int → Int) : ∀ (j : Nat) (ys : List Int) (x : Int), j < ys.length → x ∈ sinkK key ys j → x ∈ ys
  | 0, ys, x, _, h => h
  | j + 1, ys, x, hj, h => by
    rw [sinkK] at h
    split at h
    · have := sinkK_mem' key j _ x (by simp; omega) h
      rcases List.mem_or_eq_of_mem_set this with hx | rfl
      · rcases List.mem_or_eq_of_mem_set hx with hx | rfl
        · exact hx
        · rw [List.getD_eq_getElem?_getD, List.getElem?_eq_getElem (by omega)]; exact List.getElem_mem _
      · rw [List.getD_eq_getElem?_getD, List.getElem?_eq_getElem hj]; exact List.getElem_mem _
    · exact h
theorem srtKK_mem (key : Int → Int) (xs : List Int) : ∀ (k : Nat) (x : Int), k < xs.length → x ∈ srtKK key xs k → x ∈ xs
  | 0, x, _, h => h
  | k + 1, x, hk, h => srtKK_mem key xs k x (by omega) (sinkK_mem' key _ _ x (by rw [srtKK_length]; exact hk) h)
end Go.Proofs.YtggblfnajeikjaaGreatDoor
