/- Joined texts of the proof: ConfL, ConfM, ConfN, ConfO, ConfP. -/
import Derived.WalkKit
import Derived.WalkSpells
import Derived.WalkLawsBesides
import Derived.Deep.Draws
import Derived.Lib.Hide
import Derived.RegionTactic
import Derived.Test.YtggblfnajeikjaaGreatRows
import Derived.BigQuiet
import Derived.Deep.QuietTactic
import Derived.Deep.RegionHeld3
import Derived.Deep.DeepCutAuto
import Derived.Deep.LoopGhost
import Derived.IntWalk
import Derived.Laws.BitsAllLaws
import Derived.Laws.BitsLemmas
import Derived.Deep.RegionLaw
import Derived.Lib.AppendZeros
import Derived.Lib.LazyBuf
import Derived.Shelf.Strconv.Itoa0
import Derived.Shelf.Sort.Plain
import Derived.Shelf.Slices.Reverse
import Derived.Ground.Names2Prog
import Derived.Shelf.Slices.CompactI
import Derived.Test.YtggblfnajeikjaaGreatProg
import Derived.Lib.RowBridge
import Derived.Sort.OwnSortedInts
import Derived.Test.YtggblfnajeikjaaGreatJ1
import Derived.Test.YtggblfnajeikjaaGreatJ2
import Derived.Test.YtggblfnajeikjaaGreatJ3
import Derived.Test.YtggblfnajeikjaaGreatJ4
import Derived.Test.YtggblfnajeikjaaGreatJ5
import Derived.Test.YtggblfnajeikjaaGreatJ6
import Derived.Test.YtggblfnajeikjaaGreatJ8
import Derived.Test.YtggblfnajeikjaaGreatJ9
import Derived.Test.YtggblfnajeikjaaGreatJ10
import Derived.Test.YtggblfnajeikjaaGreatJ11
import Derived.Test.YtggblfnajeikjaaGreatJ12
import Derived.Test.YtggblfnajeikjaaGreatJ13
import Derived.Test.YtggblfnajeikjaaGreatJ17
import Derived.Test.YtggblfnajeikjaaGreatJ21
import Derived.Test.YtggblfnajeikjaaGreatJ22
import Derived.Test.YtggblfnajeikjaaGreatJ25
import Derived.Test.YtggblfnajeikjaaGreatJ27
import Derived.Test.YtggblfnajeikjaaGreatJ29
import Derived.Test.YtggblfnajeikjaaGreatJ31
import Derived.Test.YtggblfnajeikjaaGreatJ32
import Derived.Test.YtggblfnajeikjaaGreatJ35
namespace Go.Proofs.YtggblfnajeikjaaGreat
open Go.RowKit
set_option linter.unusedVariables false
set_option linter.unusedSimpArgs false

set_option maxHeartbeats 1000000 in
theorem i_SettingsFor10 (v : Value) (w : World) (h : Rd w v (ints [1, 0])) : Calls Tryz.prog 28 #[v] w (RetOwnB 3 (ints [1]) true w) := by
  have HO := Lib.hid (i_isOrder _ _ w h (by simp))
  have ho : ordB 2 [1, 0] = true := by decide
  have HP := Lib.hid (fun W => i_isPowerD 1 (by omega) W)
  have HS := Lib.hid (fun (W : World) (hW : Below w.heap.size w W) => i_setTwo _ (fun j => 1 - j) W (show Rd W v (ints (natA 2 (fun j => 1 - j))) from h.below hW))
  obtain ⟨a, n, c, rfl, HN, hnc, hc⟩ := h.formN
  obtain rfl : n = 2 := HN.out
  rw [show ordB ([1, 0] : List Int).length [1, 0] = true from ho] at HO
  clear h ho
  go_enter Tryz.func28, Tryz.ntmps28
  go_wp2_with (first
    | (go_at_call 43; refine (HP.out _).mono ?_; rintro e w' ⟨rfl, rfl⟩)
    | (go_at_call 67; refine HO.out.mono ?_; rintro e w1 ⟨rfl, b1⟩)
    | (go_at_call 68; refine (HS.out _ b1).mono ?_; rintro e w2 ⟨v2, rfl, o2, b2⟩))
  go_ret2
  exact ⟨_, rfl, o2.mono b1.size, b1.trans (b2.mono b1.size)⟩

end Go.Proofs.YtggblfnajeikjaaGreat

namespace Go.Proofs.YtggblfnajeikjaaGreat
open Go.RowKit
set_option linter.unusedVariables false
set_option linter.unusedSimpArgs false

set_option maxRecDepth 100000 in
set_option maxHeartbeats 2000000 in
theorem i_imagesC (g : Nat → Nat) (M : Nat) (l : List Nat) (fn : Nat) (cap : Array Value) (hkn : Known fn) (v : Value) (w : World) (h : Rd w v (ints (natsI l))) (h0 : 0 < l.length) (hl : l.length ≤ 256) (hM : ∀ x ∈ l, g x < M) (hM2 : M ≤ 256)
    (hf : ∀ (x : Nat) (W : World), x ∈ l → Below w.heap.size w W → Calls Tryz.prog fn (#[.int .i64 x] ++ cap) W (RetB (.int .i64 (g x : Nat)) W)) :
    Calls Tryz.prog 94 #[v, .func (.func fn) #[] cap] w (RetOwn 3 (ints (dedL M (l.map g))) w) := by
  have HSO := Lib.hid (fun (v : Value) (W : World) (ho : Own W 3 w.heap.size v (ints (natsI (l.map g)))) => f_SortI v _ w.heap.size W ho (by rw [natsI_len, List.length_map]; exact h0) (by rw [natsI_len, List.length_map]; omega))
  have HCO := Lib.hid (fun (v : Value) (W : World) (ho : Own W 3 w.heap.size v (ints (msort (natsI (l.map g))))) => f_CompactI v _ w.heap.size W ho (by rw [msort_len, natsI_len, List.length_map]; exact h0) (by rw [msort_len, natsI_len, List.length_map]; omega))
  have HD : Hid (Lib.compact (msort (natsI (l.map g))) = dedL M (l.map g)) := compact_dedL fun x hx => by
    obtain ⟨y, hy, rfl⟩ := List.mem_map.1 hx
    exact hM y hy
  rw [HD.out] at HCO
  have HF0 := Lib.hid hf
  obtain ⟨a, n, c, rfl, HN, _, _⟩ := h.formN
  have hn : n = l.length := by have := HN.out; rwa [natsI_len] at this
  have HNL : Hid (l.length = n) := hn.symm
  have hn256 : n ≤ 256 := by omega
  have hlit := Own.lit0 (B := w.heap.size) w 3 (Nat.le_refl _)
  have hbA : Below w.heap.size w (w.alloc (.cells #[] 3)) := (Below.refl _ _).alloc (Nat.le_refl _) _
  clear hf hn hM hl h0 HN
  go_enter Tryz.func94, Tryz.ntmps94
  go_wp2
  go_loopg [5, 11] n (fun gg vo iv wr => ∃ k : Nat, gg = n - k ∧ k ≤ n ∧ iv = .int .i64 k ∧ Own wr 3 w.heap.size vo (ints (natsI ((l.take k).map g))) ∧ Below w.heap.size w wr)
  case atStart => exact ⟨0, rfl, Nat.zero_le _, rfl, by simpa [natsI] using hlit, hbA⟩
  case round =>
    clear hlit hbA
    obtain ⟨k, hgk, hkl, rfl, ho, hb⟩ := hrel
    obtain ⟨ao, no, co, rfl, HNO, _, _⟩ := ho.rd.formN
    by_cases hlt : k < n
    · obtain ⟨x, hx⟩ : ∃ x, l[k]? = some x := ⟨_, List.getElem?_eq_getElem (by rw [HNL.out]; exact hlt)⟩
      obtain ⟨ad, y, rfl, hc, hy⟩ := (h.below hb).int (k := k) (by rw [natsI_len, HNL.out]; exact hlt)
      obtain rfl : y = (x : Int) := by have := hy.out; rw [natsI_get hx] at this; cases this; rfl
      have HF := Lib.hid (HF0.out x wr (List.mem_of_getElem? hx) hb)
      have hcall := hkn (#[.int .i64 x] ++ cap) wr
      have HS : Hid (natsI ((l.take (k + 1)).map g) = natsI ((l.take k).map g) ++ [((g x : Nat) : Int)]) := by rw [Hid, take_snoc' hx, List.map_append, natsI_app]; rfl
      have HLo : Hid ((ints (natsI ((l.take k).map g))).length = no) := by rw [Hid, ints_length, HNO.out]
      have hno : no ≤ 256 := by have := HNO.out; rw [natsI_len, List.length_map, List.length_take] at this; omega
      have hsb := hb.size
      have hn1 : (no + 1) * 8 ≤ 140737488355328 := by omega
      have hn2 : no + 1 ≤ 9223372036854775807 := by omega
      generalize g x = z at HF HS
      clear hx hy
      go_wp2_with (first
        | ((with_reducible refine (HF.out).mono ?_); rintro e w2 ⟨rfl, hb2⟩; have ho2 := ho.below hb2; have hs2 : w.heap.size ≤ w2.heap.size := Nat.le_trans hsb hb2.size)
        | (at_builtin; (refine wpList_app1m rfl _ _ 33 rfl elI ?_ ho2 ?_ ?_ hs2 no HLo.out hn1 hn2 ?_); (focus exact rfl); (focus (simp [Act.eval])); (focus exact rfl); intro bn cn' w6 ho6 hg6 hat6))
      have hb6 := (hb.trans (hb2.mono hsb)).grown hg6 hs2 fun r hr => (ho2.lt r hr).1
      go_roundg (n - (k + 1))
      case measure => omega
      case rel => exact ⟨k + 1, rfl, by omega, by go_num, by rw [HS.out, ints_append]; exact ho6, hb6⟩
    · obtain rfl : n = k := by omega
      have hcn : l.take n = l := by rw [← HNL.out, List.take_length]
      rw [hcn] at ho
      clear hcn
      go_wp2_with (first
        | (go_at_call 111; refine (HSO.out _ _ ho).mono ?_; rintro e w2 ⟨rfl, hs2, hg2⟩)
        | (go_at_call 124; refine (HCO.out _ _ hs2).mono ?_; rintro e w3 ⟨v3, rfl, hs3, hg3, hb3⟩))
      go_ret
      exact ⟨_, rfl, hs3, (hb.grown hg2 hb.size fun r hr => (ho.lt r hr).1).grown hg3 (Nat.le_trans hb.size hg2.size) fun r hr => (hs2.lt r hr).1⟩

set_option maxHeartbeats 1000000 in
theorem f_CloneR (v : Value) (rows : List Value) (w : World) (h : Rd w v rows) (h1 : ∀ u ∈ rows, u.oneCell' = true) (hl : rows.length ≤ 2000000) :
    Calls Tryz.prog 97 #[v] w (RetOwn 33 rows w) := by
  obtain ⟨a, c, rfl, h2, h3⟩ := h.form
  cases a with
  | none =>
    have hx : rows = [] := by
      cases rows with
      | nil => rfl
      | cons y t => obtain ⟨ad, e, _⟩ := h.cell (k := 0) (by simp); cases e
    subst hx
    have q : ∀ W, (binOp .eql 23 (.slice none 0 c) (.slice none 0 0)).run Tryz.prog W = .ok (.bool true) W := fun W => run_eql_slice_nil W _ _ none 0 c Tryz.underlying23
    go_enter Tryz.func97, Tryz.ntmps97
    go_wp2
    go_ret
    exact ⟨_, rfl, Own.nil _ _ _, Below.refl _ _⟩
  | some ad =>
    have h' := h.alloc (.cells #[] 33)
    have HL := Lib.hid hl
    have H1 := Lib.hid h1
    clear hl h1
    have q : ∀ W, (binOp .eql 23 (.slice (some ad) rows.length c) (.slice none 0 0)).run Tryz.prog W = .ok (.bool false) W := fun W => run_eql_slice_nil W _ _ (some ad) rows.length c Tryz.underlying23
    have hl0 : Own (w.alloc (.cells #[] 33)) 33 w.heap.size (.slice (some ⟨w.heap.size, 0, none⟩) 0 0) [] := Own.lit w 33 w.heap.size #[] (Nat.le_refl _) (by simp)
    go_enter Tryz.func97, Tryz.ntmps97
    go_wp2_with (at_builtin; refine wpList_app (B := w.heap.size) rfl _ _ 23 rfl elII rfl hl0 rfl h' H1.out (by simp) (by have := HL.out; simp; omega) (by have := HL.out; simp; omega) ?_; intro b cc w2 ho2 hg2 hat2; have hb2 := ((Below.refl w.heap.size w).alloc (Nat.le_refl _) (.cells #[] 33)).grown hg2 (by simp) (fun r hr => (hl0.lt r hr).1))
    go_ret
    exact ⟨_, rfl, by simpa using ho2, hb2⟩

theorem step8 : ∀ m : Nat, m < 8 → ∀ i : Nat, i < 3 → ∀ k : Nat, k < 3 → stepN m i k < 8 := by decide +kernel
theorem i_sl1 (m i k bi bk : Nat) (hm : m < 8) (hi : i < 3) (hk : k < 3) (w : World) (ci : w.cell? ⟨bi, 0, none⟩ = some (.int .i64 (i : Int))) (ck : w.cell? ⟨bk, 0, none⟩ = some (.int .i64 (k : Int))) :
    Calls Tryz.prog 95 (#[.int .i64 (m : Int)] ++ #[.pointer (some ⟨bi, 0, none⟩), .pointer (some ⟨bk, 0, none⟩)]) w (RetB (.int .i64 ((stepN m i k : Nat) : Int)) w) := by
  have HS := Lib.hid (i_step m i k (by omega) (by omega) (by omega) w)
  go_enter Tryz.func95, Tryz.ntmps95
  go_wp2_with (go_at_call 96; refine HS.out.mono ?_; rintro e w1 ⟨rfl, d1⟩)
  go_ret
  exact ⟨rfl, d1.below _⟩

theorem i_cn1 (vL vS : Value) (n M bn bm : Nat) (a : Option Addr) (c : Nat) (hn : n ≤ 8) (hM : M ≤ 2000) (w : World) (cn : w.cell? ⟨bn, 0, none⟩ = some (.int .i64 3)) (hm : w.heap[bm]? = some (.cells #[.int .i64 (M : Int)] 3 (0, 0))) :
    Calls Tryz.prog 61 (#[vL, .slice a n c] ++ #[.pointer (some ⟨bn, 0, none⟩), .pointer (some ⟨bm, 0, none⟩)]) w fun e w' => e = .returned (.bool false) ∧ w'.heap[bm]? = some (.cells #[.int .i64 ((M + (if n = 4 then 1 else 0) : Nat) : Int)] 3 (0, 0)) ∧ w.grownBy w' (some bm) := by
  have cm := box_cell hm 0
  have fm := frozen_of_row w bm 0 _ _ hm
  obtain ⟨M2, hM2⟩ : ∃ M2, M + (if n = 4 then 1 else 0) = M2 := ⟨_, rfl⟩
  have HM2 := Lib.hid hM2
  rw [hM2]
  clear hM2
  by_cases h4 : n = 4
  · subst h4
    have HM3 : Hid (M2 = M + 1) := HM2.out.symm
    clear HM2
    have hs := heap_setCell_same w bm 0 _ _ (.int .i64 ((M : Int) + 1)) hm
    go_enter Tryz.func61, Tryz.ntmps61
    go_wp2
    go_ret
    exact ⟨rfl, by rw [HM3.out]; exact hs, ⟨rfl, rfl, rfl, by simp, fun q _ hq => heap_setCell_other w ⟨bm, 0, none⟩ q _ (fun e => hq (by rw [e]))⟩⟩
  · have d1 : ((n : Int) == 4) = false := by rw [beq_eq_false_iff_ne]; omega
    have HM3 : Hid (M2 = M) := by have := HM2.out; rw [if_neg h4] at this; rw [Hid]; omega
    clear HM2
    go_enter Tryz.func61, Tryz.ntmps61
    go_wp2
    go_ret
    exact ⟨rfl, by rw [HM3.out]; exact hm, World.grownBy.refl _ _⟩

def dedQ (M : Nat) (l : List Nat) : List Nat := (List.range M).filter fun r => l.contains r
def imQ (S : List Nat) (i k : Nat) : List Nat := dedQ 8 (S.map fun m => stepN m i k)
/-- How many networks of so many comparators more lead a set to four results. -/
def cntQ : Nat → List Nat → Nat
  | 0, S => if S.length = 4 then 1 else 0
  | p + 1, S => cntQ p (imQ S 0 1) + cntQ p (imQ S 0 2) + cntQ p (imQ S 1 2)
theorem imQ_lt (S : List Nat) (i k : Nat) : (imQ S i k).length ≤ 8 ∧ ∀ x ∈ imQ S i k, x < 8 :=
  ⟨Nat.le_trans (List.length_filter_le _ _) (by simp), fun x hx => by
    simp only [imQ, dedQ, List.mem_filter, List.mem_range] at hx
    exact hx.1⟩
theorem imQ_pos {S : List Nat} {i k : Nat} (h : 0 < S.length) (h8 : ∀ x ∈ S, x < 8) (hi : i < 3) (hk : k < 3) : 0 < (imQ S i k).length := by
  match S, h with
  | x :: t, _ =>
    have h1 := step8 x (h8 x (by simp)) i hi k hk
    refine List.length_pos_of_mem (a := stepN x i k) ?_
    simp only [imQ, dedQ, List.mem_filter, List.mem_range]
    exact ⟨h1, by simp⟩
theorem cntQ_le : ∀ (p : Nat) (S : List Nat), p ≤ 3 → cntQ p S ≤ 27
  | 0, S, _ => by rw [cntQ]; split <;> omega
  | 1, S, _ => by simp only [cntQ]; (repeat' split) <;> omega
  | 2, S, _ => by
    have h1 := fun S => (by simp only [cntQ]; (repeat' split) <;> omega : cntQ 1 S ≤ 3)
    have := h1 (imQ S 0 1); have := h1 (imQ S 0 2); have := h1 (imQ S 1 2)
    rw [cntQ]; omega
  | 3, S, _ => by
    have h0 := fun S => (by simp only [cntQ]; (repeat' split) <;> omega : cntQ 1 S ≤ 3)
    have h1 := fun S => (by have := h0 (imQ S 0 1); have := h0 (imQ S 0 2); have := h0 (imQ S 1 2); rw [cntQ]; omega : cntQ 2 S ≤ 9)
    have := h1 (imQ S 0 1); have := h1 (imQ S 0 2); have := h1 (imQ S 1 2)
    rw [cntQ]; omega
  | p + 4, S, h => by omega
theorem cntQ_33 : cntQ 3 (List.range 8) = 6 := by decide +kernel
theorem k_cn1 : Known 61 := known Tryz.func61 (by kernel_rfl) (by kernel_rfl)
theorem k_sl1 : Known 95 := known Tryz.func95 (by kernel_rfl) (by kernel_rfl)
/-- Lists come to their end: the count has grown by so many. -/
def RetCnt (bm X : Nat) (w : World) (e : Ending) (w' : World) : Prop := e = .returned (.bool false) ∧ w'.heap[bm]? = some (.cells #[.int .i64 (X : Int)] 3 (0, 0)) ∧ w.grownBy w' (some bm)

theorem step_app1nM {P : Program} {w : World} {ops : Array Oper} {o : Oper} {a : Act} {K : Act → World → Prop} {Q : Exit → Act → World → Prop} {F : Prop} (hgd : o.guard = none) (s x : Operand) (t : TypeId)
    (ho : o.op = .call { callee := .builtin .append, args := #[s, x], argTypes := #[t, t] })
    {E B bytes : Nat} {z : Value} (ht : ElemOk P t E bytes z) {v u : Value} {xs : List Value} (hs : a.eval s = v) (hown : Own w E B v xs) (hx : a.eval x = .slice (some ⟨w.heap.size, 0, none⟩) 1 1)
    (h1 : u.oneCell' = true) (hB : B ≤ w.heap.size) (hbytes : (xs.length + 1) * bytes ≤ 140737488355328) (h63 : xs.length + 1 ≤ 9223372036854775807)
    (h : ∀ b c w', Own w' E B (.slice b (xs.length + 1) c) (xs ++ [u]) → w.grownBy w' v.ownBlock →
      ((Value.slice b (xs.length + 1) c).ownBlock = v.ownBlock ∨ ∃ k, w.heap.size ≤ k ∧ (Value.slice b (xs.length + 1) c).ownBlock = some k) →
      K (a.put o.dst (.slice b (xs.length + 1) c)) w') : if Region.wanted o (yielded ops a.tmps) = true then Oper.wp P o a (w.alloc (.cells #[u] E)) K Q else F := by
  refine step_app hgd s x t ho ht hs (hown.alloc _) hx (rd_one w E u) (by simpa using h1) (by simp; omega) (by simpa using hbytes) (by simpa using h63) fun b c w' h2 h3 h4 => ?_
  simp only [List.length_cons, List.length_nil, Nat.zero_add] at h2 h3 h4 ⊢
  refine h b c w' h2 ⟨h3.os, h3.tape, h3.output, by have := h3.size; simp at this; omega, fun k hk hne => (h3.block k (by simp; omega) hne).trans (Below.heap_alloc w _ k hk)⟩ ?_
  rcases h4 with h4 | h4
  · exact .inl h4
  · exact .inr ⟨_, by simp, h4⟩

/-- The comparators (i, k') of the first ones, and those of the wires ahead. -/
def rowQ (p : Nat) (S : List Nat) (i : Nat) : Nat → Nat
  | 0 => 0
  | k + 1 => if i < k then rowQ p S i k + cntQ p (imQ S i k) else rowQ p S i k
def allQ (p : Nat) (S : List Nat) : Nat → Nat
  | 0 => 0
  | i + 1 => allQ p S i + rowQ p S i 3
theorem allQ_3 (p : Nat) (S : List Nat) : allQ p S 3 = cntQ (p + 1) S := by
  simp [allQ, rowQ, cntQ]
theorem rowQ_0 (p : Nat) (S : List Nat) (i : Nat) (hi : i < 3) : rowQ p S i (i + 1) = 0 := by
  obtain rfl | rfl | rfl : i = 0 ∨ i = 1 ∨ i = 2 := by omega
  all_goals simp [rowQ]
theorem rowQ_s (p : Nat) (S : List Nat) (i k : Nat) (h : i < k) : rowQ p S i (k + 1) = rowQ p S i k + cntQ p (imQ S i k) := by rw [rowQ, if_pos h]
theorem rowQ_le {p : Nat} (S : List Nat) (hp : p ≤ 3) (i : Nat) : ∀ k, rowQ p S i k ≤ 27 * k
  | 0 => by simp [rowQ]
  | k + 1 => by
    have h1 := rowQ_le S hp i k
    have h2 := cntQ_le p (imQ S i k) hp
    rw [rowQ]
    split <;> omega
theorem allQ_le {p : Nat} (S : List Nat) (hp : p ≤ 3) : ∀ i, allQ p S i ≤ 81 * i
  | 0 => by simp [allQ]
  | i + 1 => by
    have h1 := allQ_le S hp i
    have h2 := rowQ_le S hp i 3
    rw [allQ]
    omega
set_option maxRecDepth 100000 in
set_option maxHeartbeats 8000000 in
theorem i_standardLists (bn bm : Nat) (hnm : bn ≠ bm) : ∀ (p : Nat) (S : List Nat) (vS vL : Value) (rows : List Value) (M : Nat) (w : World), p ≤ 3 → 0 < S.length → S.length ≤ 8 → (∀ x ∈ S, x < 8) → Own w 3 (bm + 1) vS (ints (natsI S)) → Own w 33 (bm + 1) vL rows → (∀ u ∈ rows, u.oneCell' = true) → rows.length + p ≤ 20 → M + 350 * p ≤ 1060 →
    w.heap[bn]? = some (.cells #[.int .i64 3] 3 (0, 0)) → w.heap[bm]? = some (.cells #[.int .i64 (M : Int)] 3 (0, 0)) →
    Calls Tryz.prog 59 #[.int .i64 3, .int .i64 (p : Int), vS, vL, .func (.func 61) #[] #[.pointer (some ⟨bn, 0, none⟩), .pointer (some ⟨bm, 0, none⟩)]] w (RetCnt bm (M + cntQ p S) w) := by
  intro p
  induction p with
  | zero =>
    intro S vS vL rows M w hp h0 hl h8 hS hL h1 hr hM hn hm
    obtain ⟨aS, n, cS, rfl, HN, _, _⟩ := hS.rd.formN
    have hnl : n = S.length := by have := HN.out; rwa [natsI_len] at this
    have HC := Lib.hid (i_cn1 vL (.slice aS n cS) n M bn bm aS cS (by omega) (by omega) w (box_cell hn 0) hm)
    have HR : Hid (M + cntQ 0 S = M + (if n = 4 then 1 else 0)) := by rw [Hid, cntQ, hnl]
    rw [HR.out]
    generalize M + (if n = 4 then 1 else 0) = X at HC ⊢
    obtain ⟨aL, cL, rfl, _, _⟩ := hL.rd.form
    obtain ⟨nL, hnL⟩ : ∃ nL, rows.length = nL := ⟨_, rfl⟩
    rw [hnL] at hL hr HC ⊢
    clear hnL
    have hcall := k_cn1 (#[.slice aL nL cL, .slice aS n cS] ++ #[.pointer (some ⟨bn, 0, none⟩), .pointer (some ⟨bm, 0, none⟩)]) w
    have HC2 : Hid (Calls Tryz.prog 61 #[.slice aL nL cL, .slice aS n cS, .pointer (some ⟨bn, 0, none⟩), .pointer (some ⟨bm, 0, none⟩)] w _) := HC
    clear HC
    clear hr HR h0 hl hnl
    go_enter Tryz.func59, Tryz.ntmps59
    go_wp2_with ((with_reducible refine HC2.out.mono ?_); rintro e w1 ⟨rfl, h1, h2⟩)
    go_ret
    exact ⟨rfl, h1, h2⟩
  | succ p ih =>
    intro S vS vL rows M w hp h0 hl h8 hS hL h1 hr hM hn hm
    obtain ⟨aS, n, cS, rfl, HN, _, _⟩ := hS.rd.formN
    obtain ⟨aL, cL, rfl, _, _⟩ := hL.rd.form
    obtain ⟨nL, hnL⟩ : ∃ nL, rows.length = nL := ⟨_, rfl⟩
    have HNL := Lib.hid hnL
    rw [hnL] at hL hr ⊢
    clear hnL
    have hp0 : ((((p + 1 : Nat) : Int)) == 0) = false := by rw [beq_eq_false_iff_ne]; omega
    have HA3 : Hid (allQ p S 3 = cntQ (p + 1) S) := allQ_3 p S
    have HAL := Lib.hid (fun i => allQ_le (p := p) S (by omega) i)
    have HRL := Lib.hid (fun i k => rowQ_le (p := p) S (by omega) i k)
    go_enter Tryz.func59, Tryz.ntmps59
    go_wp2_with fail
    go_loopg [21] 3 (fun g iv wr => ∃ i : Nat, g = 3 - i ∧ i ≤ 3 ∧ iv = .int .i64 (i : Int) ∧ wr.heap[bm]? = some (.cells #[.int .i64 ((M + allQ p S i : Nat) : Int)] 3 (0, 0)) ∧ w.grownBy wr (some bm))
    case atStart => exact ⟨0, rfl, Nat.zero_le _, rfl, by simpa [allQ] using hm, World.grownBy.refl _ _⟩
    case round =>
      obtain ⟨w1, rfl⟩ : ∃ w1 : World, w1 = wr := ⟨_, rfl⟩
      obtain ⟨i, hg, hi, rfl, hm1, hg1⟩ := hrel
      by_cases hi3 : i < 3
      · have i3 : (i : Int) < 3 := by omega
        obtain ⟨w2, bi, hw2, hbi, hI2, hz2, hb2⟩ := newBox w1 (.cells #[.int .i64 (i : Int)] 3)
        obtain ⟨w3, bk, hw3, hbk, hK3, hz3, hb3⟩ := newBox w2 (.cells #[.int .i64 ((i : Int) + 1)] 3)
        have HW2 := Lib.hid hw2
        have HBI := Lib.hid hbi
        have HW3 := Lib.hid hw3
        have HBK := Lib.hid hbk
        have hI3 : w3.heap[bi]? = _ := (hb3.block bi hz2).trans hI2
        have hmw : bm < w1.heap.size := box_lt hm1
        have hm3 : w3.heap[bm]? = _ := (hb3.block bm (by omega)).trans ((hb2.block bm hmw).trans hm1)
        have hg3 : w.grownBy w3 (some bm) := hg1.andThen (World.grownBy.refl w1 none |>.trans ⟨hb2.os, hb2.tape, hb2.output, hb2.size, fun q hq _ => hb2.block q hq⟩ |>.trans ⟨hb3.os, hb3.tape, hb3.output, hb3.size, fun q hq _ => hb3.block q hq⟩) (fun j hj => by cases hj)
        have hibk : bi < bk := by omega
        have hwbi : w.heap.size ≤ bi := by have := hg1.size; omega
        have qi2 := box_cell hI2 0
        clear hw2 hbi hw3 hbk
        go_upto_region 6 with (fail)
        rw [HW2.out, HBI.out]
        go_wp2_with fail
        rw [HW3.out, HBK.out]
        go_loopg [12] (3 - (i + 1)) (fun g' vk w4 => ∃ (k bk : Nat), g' = 3 - k ∧ i + 1 ≤ k ∧ k ≤ 3 ∧ vk = .pointer (some ⟨bk, 0, none⟩) ∧ w4.heap[bk]? = some (.cells #[.int .i64 (k : Int)] 3 (0, 0)) ∧ w4.heap[bi]? = some (.cells #[.int .i64 (i : Int)] 3 (0, 0)) ∧ w4.heap[bm]? = some (.cells #[.int .i64 ((M + allQ p S i + rowQ p S i k : Nat) : Int)] 3 (0, 0)) ∧ w.grownBy w4 (some bm) ∧ bi < bk)
        case atStart => exact ⟨i + 1, bk, rfl, Nat.le_refl _, by omega, rfl, hK3, hI3, by rw [rowQ_0 p S i hi3]; exact hm3, hg3, hibk⟩
        case round =>
          obtain ⟨w4, rfl⟩ : ∃ w4 : World, w4 = wr := ⟨_, rfl⟩
          clear hI2 hI3 hK3 hm3 hg3 qi2 hb2 hb3 hz2 hz3 HW2 HW3 HBI HBK hibk
          obtain ⟨k, bk', hg', hik, hk3, rfl, hK4, hI4, hM4, hg4, hib⟩ := hrel
          by_cases hk : k < 3
          · have k3 : (k : Int) < 3 := by omega
            have qk := box_cell hK4 0
            have qi := box_cell hI4 0
            have hS4 := hS.keep (w' := w4) (fun q hq e => hg4.block q hq (fun e2 => by injection e2 with e2; have := (hS.lt q e.symm).1; omega))
            have HIM := Lib.hid (i_imagesC (fun m => stepN m i k) 8 S _ #[.pointer (some ⟨bi, 0, none⟩), .pointer (some ⟨bk', 0, none⟩)] k_sl1 _ w4 hS4.rd h0 (by omega) (fun x hx => step8 x (h8 x hx) i hi3 k hk) (by omega) (fun x W hx hW => i_sl1 x i k bi bk' (h8 x hx) hi3 hk W ((hW.cell (World.block_lt_of_cell? _ _ qi)).trans qi) ((hW.cell (World.block_lt_of_cell? _ _ qk)).trans qk)))
            go_upto_region 10 with (go_at_call 94; refine HIM.out.mono ?_; rintro e w5 ⟨v5, rfl, o5, b5⟩)
            have hL4 := hL.keep (w' := w4) (fun q hq e => hg4.block q hq (fun e2 => by injection e2 with e2; have := (hL.lt q e.symm).1; omega))
            have hL5 := hL4.below b5
            have hI5 : w5.heap[bi]? = _ := (b5.block bi (box_lt hI4)).trans hI4
            have hK5 : w5.heap[bk']? = _ := (b5.block bk' (box_lt hK4)).trans hK4
            have hM5 : w5.heap[bm]? = _ := (b5.block bm (box_lt hM4)).trans hM4
            have hg5 : w.grownBy w5 (some bm) := hg4.andThen (row := some bm) ⟨b5.os, b5.tape, b5.output, b5.size, fun q hq _ => b5.block q hq⟩ (fun j hj => .inr hj)
            have HCL : Hid (∀ W : World, Below w5.heap.size w5 W → Calls Tryz.prog 97 #[.slice aL nL cL] W (RetOwn 33 rows W)) := fun W hW => f_CloneR _ rows W (hL5.below hW).rd h1 (by rw [HNL.out]; omega)
            have HCE : Hid (∀ W : World, Below w5.heap.size w5 W → W.cell? ⟨bi, 0, none⟩ = some (.int .i64 (i : Int)) ∧ W.cell? ⟨bk', 0, none⟩ = some (.int .i64 (k : Int))) := fun W hW => ⟨box_cell ((hW.block bi (box_lt hI5)).trans hI5) 0, box_cell ((hW.block bk' (box_lt hK5)).trans hK5) 0⟩
            obtain ⟨c1, c2⟩ := HCE.out _ (Below.refl _ _)
            have wp : IntKind.i64.wrap ((p : Nat) : Int) = (p : Int) := IntWalk.i64_in _ (by omega)
            have hdr5 : Below w5.heap.size w5 w5.drew := ⟨rfl, rfl, rfl, Nat.le_refl _, fun _ _ => rfl⟩
            have hn5 : w5.heap[bn]? = _ := (hg5.block bn (box_lt hn) (fun e => by injection e with e; exact hnm e)).trans hn
            have hz4 : bm + 1 ≤ w4.heap.size := Nat.le_trans (box_lt hm) hg4.size
            have hz45 : w4.heap.size ≤ w5.heap.size := b5.size
            have hML : M + allQ p S i + rowQ p S i k + 350 * p ≤ 1060 := by have := HAL.out i; have := HRL.out i k; omega
            have HIH : Hid (∀ (v8 x : Value) (w8 : World), Own w8 33 w5.heap.size v8 (rows ++ [x]) → x.oneCell' = true → Below w5.heap.size w5 w8 → Calls Tryz.prog 59 #[.int .i64 3, .int .i64 (p : Int), v5, v8, .func (.func 61) #[] #[.pointer (some ⟨bn, 0, none⟩), .pointer (some ⟨bm, 0, none⟩)]] w8 (RetCnt bm (M + allQ p S i + rowQ p S i k + cntQ p (imQ S i k)) w8)) := fun v8 x w8 o8 hx hb => ih (imQ S i k) v5 v8 (rows ++ [x]) _ w8 (by omega) (imQ_pos h0 h8 hi3 hk) (imQ_lt S i k).1 (imQ_lt S i k).2 ((o5.mono hz4).below hb) (o8.mono (Nat.le_trans hz4 hz45)) (fun u hu => by rcases List.mem_append.1 hu with hu | hu; exact h1 u hu; cases List.mem_singleton.1 hu; exact hx) (by rw [List.length_append, HNL.out, List.length_singleton]; omega) hML ((hb.block bn (box_lt hn5)).trans hn5) ((hb.block bm (box_lt hM5)).trans hM5)
            have HRS : Hid (rowQ p S i (k + 1) = rowQ p S i k + cntQ p (imQ S i k)) := rowQ_s p S i k (by omega)
            have HNL20 : Hid (nL + (p + 1) ≤ 20) := hr
            generalize cntQ p (imQ S i k) = X at HIH HRS
            generalize hY : M + allQ p S i + rowQ p S i k = Y at HIH hML hM5
            have HV : Hid (M + allQ p S i + rowQ p S i (k + 1) = Y + X) := by rw [Hid, HRS.out, ← hY]; omega
            have hbmi : bm < bi := Nat.lt_of_lt_of_le (box_lt hm) hwbi
            clear hY hM4
            clear qk qi hK4 hI4 hS4 hL4 HIM ih hML
            have hdB' : Below w5.heap.size w5 (w5.alloc (.cells #[.int .i64 (i : Int), .int .i64 (k : Int)] 3)) := (Below.refl _ _).alloc (Nat.le_refl _) _
            have hdC' : Below w5.heap.size w5 ((w5.alloc (.cells #[.int .i64 (i : Int), .int .i64 (k : Int)] 3)).alloc (.cells #[.slice (some ⟨w5.heap.size, 0, none⟩) 2 2] 33)) := hdB'.alloc hdB'.size _
            have hdB : Below w5.heap.size w5 (w5.alloc (.cells #[.int .i64 (i : Int), .int .i64 (k : Int)] 3)).drew := ⟨hdB'.os, hdB'.tape, hdB'.output, hdB'.size, hdB'.block⟩
            have hdC : Below w5.heap.size w5 ((w5.alloc (.cells #[.int .i64 (i : Int), .int .i64 (k : Int)] 3)).alloc (.cells #[.slice (some ⟨w5.heap.size, 0, none⟩) 2 2] 33)).drew := ⟨hdC'.os, hdC'.tape, hdC'.output, hdC'.size, hdC'.block⟩
            have hrC : Rd ((w5.alloc (.cells #[.int .i64 (i : Int), .int .i64 (k : Int)] 3)).alloc (.cells #[.slice (some ⟨w5.heap.size, 0, none⟩) 2 2] 33)).drew (.slice (some ⟨w5.heap.size + 1, 0, none⟩) 1 1) [.slice (some ⟨w5.heap.size, 0, none⟩) 2 2] := by
              have := (rd_one (w5.alloc (.cells #[.int .i64 (i : Int), .int .i64 (k : Int)] 3)) 33 (.slice (some ⟨w5.heap.size, 0, none⟩) 2 2)).drew
              rwa [show (w5.alloc (.cells #[.int .i64 (i : Int), .int .i64 (k : Int)] 3)).heap.size = w5.heap.size + 1 by simp] at this
            clear hdB' hdC'
            go_region_law (first
              | (go_simp; go_at_call 97; (with_reducible refine (HCL.out _ (by first | exact hdr5 | exact Below.refl _ _)).mono ?_); rintro e w6 ⟨v6, rfl, o6', b6⟩; have g6 : Below w5.heap.size w5 w6 := ⟨b6.os, b6.tape, b6.output, b6.size, b6.block⟩; have o6 : Own w6 33 w5.heap.size v6 rows := o6'; obtain ⟨c3, c4⟩ := HCE.out _ g6; obtain ⟨c5, c6⟩ := HCE.out _ (g6.alloc g6.size (.cells #[.int .i64 (i : Int), .int .i64 (k : Int)] 3)); have o6A := o6.alloc (.cells #[.int .i64 (i : Int), .int .i64 (k : Int)] 3); have gA := g6.alloc g6.size (.cells #[.int .i64 (i : Int), .int .i64 (k : Int)] 3))
              | (go_simp; go_at_call 97; (with_reducible refine (HCL.out _ (by exact hdB)).mono ?_); rintro e w6 ⟨v6, rfl, o6', b6⟩; have gB : Below w5.heap.size w5 w6 := hdB.trans (b6.mono hdB.size); have oB : Own w6 33 w5.heap.size v6 rows := o6'.mono hdB.size; obtain ⟨c3, c4⟩ := HCE.out _ gB)
              | (go_simp; go_at_call 97; (with_reducible refine (HCL.out _ (by exact hdC)).mono ?_); rintro e w6 ⟨v6, rfl, o6', b6⟩; have gC : Below w5.heap.size w5 w6 := hdC.trans (b6.mono hdC.size); have oC : Own w6 33 w5.heap.size v6 rows := o6'.mono hdC.size; have rC := hrC.below b6; obtain ⟨c3, c4⟩ := HCE.out _ gC)
              | (refine step_app1nM (w := w6.alloc (.cells #[.int .i64 (i : Int), .int .i64 (k : Int)] 3)) (by rfl) _ _ _ (by rfl) elII (by rfl) o6A (by show Value.slice (some ⟨w6.heap.size + 1, 0, none⟩) 1 1 = _; simp) (by rfl) gA.size (by rw [HNL.out]; omega) (by rw [HNL.out]; omega) ?_; intro b8 c8 w8 ho8 hg8 hat8; have g8 := gA.grown hg8 gA.size (fun r hr => (o6A.lt r hr).1))
              | (refine step_app1nM (w := w6) (by rfl) _ _ _ (by rfl) elII (by rfl) oB (by rfl) (u := .slice (some ⟨w5.heap.size, 0, none⟩) 2 2) (by rfl) gB.size (by rw [HNL.out]; omega) (by rw [HNL.out]; omega) ?_; intro b8 c8 w8 ho8 hg8 hat8; have g8 := gB.grown hg8 gB.size (fun r hr => (oB.lt r hr).1))
              | (refine step_app (w := w6) (by rfl) _ _ _ (by rfl) elII (by rfl) oC (by rfl) rC (fun u hu => by cases List.mem_singleton.1 hu; rfl) gC.size (by rw [HNL.out]; simp; omega) (by rw [HNL.out]; simp; omega) ?_; intro b8 c8 w8 ho8 hg8 hat8; have g8 := gC.grown hg8 gC.size (fun r hr => (oC.lt r hr).1))
              | (go_simp; go_at_call 59; have Z1 := HIH.out _ _ _ ho8; have Z := Z1 (by rfl) g8; clear Z1; refine Z.mono ?_; rintro e w9 h9; obtain ⟨rfl, hm9, hg9⟩ := h9)
              | trace_state)
            all_goals
              have hg59 : w5.grownBy w9 (some bm) := World.grownBy.andThen (row := some bm) (⟨g8.os, g8.tape, g8.output, g8.size, fun q hq _ => g8.block q hq⟩ : w5.grownBy w8 (some bm)) hg9 (fun j hj => .inr hj)
              have hw9 := hg5.andThen hg59 (fun j hj => .inr hj)
              have hI9 : w9.heap[bi]? = _ := (hg59.block bi (box_lt hI5) (fun e => by injection e with e; omega)).trans hI5
              have hK9 : w9.heap[bk']? = _ := (hg59.block bk' (box_lt hK5) (fun e => by injection e with e; omega)).trans hK5
              obtain ⟨wa, bz, hwa, hbz, hZa, hza, hba⟩ := newBox w9 (.cells #[.int .i64 (k : Int)] 3)
              have HWA := Lib.hid hwa
              have HBZ := Lib.hid hbz
              have hIa : wa.heap[bi]? = _ := (hba.block bi (box_lt hI9)).trans hI9
              have hMa : wa.heap[bm]? = _ := (hba.block bm (box_lt hm9)).trans hm9
              have hbzi : bi < bz := by have := box_lt hI9; omega
              have hwbz : w.heap.size ≤ bz := by omega
              have hwa9 : w.grownBy wa (some bm) := hw9.andThen (row' := none) ⟨hba.os, hba.tape, hba.output, hba.size, fun q hq _ => hba.block q hq⟩ (fun j hj => by cases hj)
              have hws : w.grownBy (wa.setCell ⟨bz, 0, none⟩ (.int .i64 ((k : Int) + 1))) (some bm) := hwa9.andThen (row' := some bz) ⟨rfl, rfl, rfl, by simp, fun q _ hq => heap_setCell_other wa ⟨bz, 0, none⟩ q _ (fun e => hq (by rw [e]))⟩ (fun j hj => by cases hj; exact .inl hwbz)
              have hZs := heap_setCell_same wa bz 0 _ _ (.int .i64 ((k : Int) + 1)) hZa
              have hIs : (wa.setCell ⟨bz, 0, none⟩ (.int .i64 ((k : Int) + 1))).heap[bi]? = _ := (heap_setCell_other wa ⟨bz, 0, none⟩ bi _ (by show bi ≠ bz; omega)).trans hIa
              have hMs : (wa.setCell ⟨bz, 0, none⟩ (.int .i64 ((k : Int) + 1))).heap[bm]? = _ := (heap_setCell_other wa ⟨bz, 0, none⟩ bm _ (by show bm ≠ bz; omega)).trans hMa
              have qz := box_cell hZa 0
              have fz := frozen_of_row wa bz 0 _ _ hZa
              have q9 := box_cell hK9 0
              clear hwa hbz hZa hIa hMa hba hza hI5 hK5 hM5 hg5 hg59 hw9 hm9 hg9 hI9 hK9 g8 ho8 hg8 hat8 Z HIH HCL HCE c1 c2 c3 c4 o5 b5 hg4 hL5 hdr5 hdB hdC hrC hn5 wp
              go_upto_region 8 with (fail)
              rw [HWA.out, HBZ.out]
              go_wp2_with fail
              go_roundg (3 - (k + 1))
              case measure => omega
              case rel => exact ⟨k + 1, bz, rfl, by omega, by omega, rfl, hZs, hIs, by rw [HV.out]; exact hMs, hws, hbzi⟩
          · obtain rfl : k = 3 := by omega
            have hma : w4.heap[bm]? = some (.cells #[.int .i64 ((M + allQ p S (i + 1) : Nat) : Int)] 3 (0, 0)) := by rw [allQ, ← Nat.add_assoc]; exact hM4
            have q3 := box_cell hK4 0
            clear hI4 hM4 hK4 ih
            go_wp2_with fail
            go_roundg (3 - (i + 1))
            case measure => omega
            case rel => exact ⟨i + 1, rfl, hi3, by go_num, hma, hg4⟩
      · obtain rfl : i = 3 := by omega
        go_wp2_with fail
        go_ret
        exact ⟨rfl, by rw [← HA3.out]; exact hm1, hg1⟩

end Go.Proofs.YtggblfnajeikjaaGreat

namespace Go.Proofs.YtggblfnajeikjaaGreat
open Go.RowKit
set_option linter.unusedVariables false
set_option linter.unusedSimpArgs false

set_option maxRecDepth 100000 in
set_option maxHeartbeats 2000000 in
theorem i_CountNetworks33 (w : World) : Calls Tryz.prog 23 #[.int .i64 3, .int .i64 3] w (RetB (.int .i64 6) w) := by
  have HA := Lib.hid (fun (W : World) => i_areCounted33 W)
  obtain ⟨w1, bn, hw1, hbn, hN1, hz1, hb1⟩ := newBox w (.cells #[.int .i64 3] 3)
  obtain ⟨w2, bm, hw2, hbm, hM2, hz2, hb2⟩ := newBox w1 (.cells #[.int .i64 0] 3)
  have HW1 := Lib.hid hw1
  have HBN := Lib.hid hbn
  have HW2 := Lib.hid hw2
  have HBM := Lib.hid hbm
  have hnm : bn < bm := by omega
  have hN2 : w2.heap[bn]? = _ := (hb2.block bn hz1).trans hN1
  have hm2 : bm + 1 ≤ w2.heap.size := hz2
  have hbb : Below w.heap.size w w2 := hb1.trans (hb2.mono hb1.size)
  have hwn : w.heap.size ≤ bm := by omega
  have HM : Hid (∀ W : World, Calls Tryz.prog 60 #[.int .i64 3] W (RetOwn 3 (ints (natsI (List.range 8))) W)) := fun W => i_allMasks 3 (by omega) W
  have HC : Hid (cntQ 3 (List.range 8) = 6) := cntQ_33
  have HS : Hid (∀ (v : Value) (W : World), Below w2.heap.size w2 W → Own W 3 w2.heap.size v (ints (natsI (List.range 8))) → Calls Tryz.prog 59 #[.int .i64 3, .int .i64 3, v, .slice none 0 0, .func (.func 61) #[] #[.pointer (some ⟨bn, 0, none⟩), .pointer (some ⟨bm, 0, none⟩)]] W (RetCnt bm 6 W)) := fun v W hW ho => by
    have := i_standardLists bn bm (by omega) 3 (List.range 8) v (.slice none 0 0) [] 0 W (by omega) (by simp) (by simp) (fun x hx => List.mem_range.1 hx) (ho.mono hm2) (Own.nil _ _ _) (fun u hu => by cases hu) (by simp) (by omega) ((hW.block bn (box_lt hN2)).trans hN2) ((hW.block bm (box_lt hM2)).trans hM2)
    rwa [HC.out] at this
  have q1 := box_cell hN1 0
  have q2 := box_cell hN2 0
  have hdr : Below w2.heap.size w2 w2.drew := ⟨rfl, rfl, rfl, Nat.le_refl _, fun _ _ => rfl⟩
  clear hw1 hbn hw2 hbm hN1 hz1 hb1 hb2 HC
  go_enter Tryz.func23, Tryz.ntmps23
  go_upto_region 1 with (fail)
  rw [HW1.out, HBN.out]
  go_upto_region 4 with (go_at_call 58; refine (HA.out _).mono ?_; rintro e w' ⟨rfl, rfl⟩)
  rw [HW2.out, HBM.out]
  go_region_law (first
    | (go_simp; go_at_call 60; (with_reducible refine (HM.out _).mono ?_); rintro e w3 ⟨v3, rfl, o3', b3⟩; have g3 : Below w2.heap.size w2 w3 := ⟨b3.os, b3.tape, b3.output, b3.size, b3.block⟩; have o3 : Own w3 3 w2.heap.size v3 (ints (natsI (List.range 8))) := o3'; have q3 := (g3.cell (World.block_lt_of_cell? _ _ q2)).trans q2)
    | (go_simp; go_at_call 59; have Z := HS.out _ _ g3 o3; refine Z.mono ?_; rintro e w4 h4; obtain ⟨rfl, hm4, hg4⟩ := h4)
    | trace_state)
  all_goals
    have q4 := box_cell hm4 0
    have h24 : w.grownBy w4 none := World.grownBy.andThen (⟨(hbb.trans (g3.mono hbb.size)).os, (hbb.trans (g3.mono hbb.size)).tape, (hbb.trans (g3.mono hbb.size)).output, (hbb.trans (g3.mono hbb.size)).size, fun q hq _ => (hbb.trans (g3.mono hbb.size)).block q hq⟩ : w.grownBy w3 none) hg4 (fun j hj => by cases hj; exact .inl hwn)
    clear Z hg4 hm4 g3 o3 o3' b3 q3
    go_wp2_with fail
    go_ret
    exact ⟨rfl, ⟨h24.os, h24.tape, h24.output, h24.size, fun q hq => h24.block q hq (by simp)⟩⟩

end Go.Proofs.YtggblfnajeikjaaGreat

namespace Go.Proofs.YtggblfnajeikjaaGreat
open Go.RowKit
set_option linter.unusedVariables false
set_option linter.unusedSimpArgs false

set_option maxHeartbeats 1000000 in
theorem i_gcd49 (w : World) : Calls Tryz.prog 93 #[.int .i64 4, .int .i64 9] w (RetB (.int .i64 1) w) := by
  go_enter Tryz.func93, Tryz.ntmps93
  go_wp2_with fail
  go_loopg [0, 1] 3 (fun g av bv wr => ((g = 3 ∧ av = .int .i64 4 ∧ bv = .int .i64 9) ∨ (g = 2 ∧ av = .int .i64 9 ∧ bv = .int .i64 4) ∨ (g = 1 ∧ av = .int .i64 4 ∧ bv = .int .i64 1) ∨ (g = 0 ∧ av = .int .i64 1 ∧ bv = .int .i64 0)) ∧ Below w.heap.size w wr)
  case atStart => exact ⟨.inl ⟨rfl, rfl, rfl⟩, Below.refl _ _⟩
  case round =>
    obtain ⟨h, hb⟩ := hrel
    rcases h with ⟨hg, rfl, rfl⟩ | ⟨hg, rfl, rfl⟩ | ⟨hg, rfl, rfl⟩ | ⟨hg, rfl, rfl⟩
    · go_wp2_with fail
      go_quiet (fail)
      go_wp2_with fail
      go_roundg 2
      case measure => omega
      case rel => exact ⟨.inr (.inl ⟨rfl, rfl, rfl⟩), ⟨hb.os, hb.tape, hb.output, hb.size, hb.block⟩⟩
    · go_wp2_with fail
      go_quiet (fail)
      go_wp2_with fail
      go_roundg 1
      case measure => omega
      case rel => exact ⟨.inr (.inr (.inl ⟨rfl, rfl, rfl⟩)), ⟨hb.os, hb.tape, hb.output, hb.size, hb.block⟩⟩
    · go_wp2_with fail
      go_quiet (fail)
      go_wp2_with fail
      go_roundg 0
      case measure => omega
      case rel => exact ⟨.inr (.inr (.inr ⟨rfl, rfl, rfl⟩)), ⟨hb.os, hb.tape, hb.output, hb.size, hb.block⟩⟩
    · go_wp2_with fail
      go_ret
      exact ⟨rfl, hb⟩

def gapQ : List Nat := [1, 2, 3, 5, 6, 7, 10, 11, 14, 15, 19, 23]
def rcB (j : Nat) : Bool := !gapQ.contains j
def stQ (k : Nat) : List Bool := boolL 36 (fun j => decide (j < k) && rcB j)
def gpQ (k : Nat) : List Nat := (List.range k).filter fun j => gapQ.contains j
theorem stQ_1 : (List.replicate 36 false).set 0 true = stQ 1 := by decide +kernel
theorem stQ_s : ∀ k, k < 36 → (stQ k).set k (rcB k) = stQ (k + 1) := by decide +kernel
theorem gpQ_s : ∀ k, k < 36 → gpQ (k + 1) = if rcB k then gpQ k else gpQ k ++ [k] := by decide +kernel
theorem rc_lt4 : ∀ k, k < 4 → 1 ≤ k → rcB k = false := by decide +kernel
theorem rc_lt9 : ∀ k, k < 9 → 4 ≤ k → rcB k = rcB (k - 4) := by decide +kernel
theorem rc_ge9 : ∀ k, k < 36 → 9 ≤ k → rcB k = (rcB (k - 4) || rcB (k - 9)) := by decide +kernel
theorem gpQ_36 : gpQ 36 = gapQ := by decide +kernel
theorem stQ_get (k j : Nat) (h : j < k) (hk : k ≤ 36) : (stQ k)[j]? = some (rcB j) := by
  rw [stQ, boolL_get _ (by omega)]
  simp [h]
theorem stQ_at (k : Nat) (h : k < 36) : (stQ k)[k]? = some false := by
  rw [stQ, boolL_get _ h]
  simp

set_option maxRecDepth 100000 in
set_option maxHeartbeats 4000000 in
theorem i_Unreached49 (w : World) : Calls Tryz.prog 57 #[.int .i64 4, .int .i64 9] w (RetOwn 3 (ints (natsI gapQ)) w) := by
  have HG := Lib.hid (fun (W : World) => i_gcd49 W)
  go_enter Tryz.func57, Tryz.ntmps57
  go_upto_region 4 with (first
    | (go_at_call 93; refine (HG.out _).mono ?_; rintro e w0 ⟨rfl, b0⟩)
    | (at_make; refine wpList_mk (n := 36) (B := w.heap.size) rfl _ _ 78 rfl elB rfl rfl b0.size (by omega) (by omega) ?_; intro b w1 hb1 ho1 hg1))
  have ho1' : Own w1 4 w.heap.size (.slice (some b) 36 36) (bools (List.replicate 36 false)) := by simpa [bools] using ho1
  have b1 : Below w.heap.size w w1 := b0.grown hg1 b0.size (fun _ h => by cases h)
  have e0 : b.add 0 = b := rfl
  have c0 : w1.cell? b = some (.bool false) := ho1'.rd.boolc (k := 0) (by rfl)
  have f0 : w1.frozen? b = false := ho1'.frozen rfl 0
  have o2 : Own (w1.setCell b (.bool true)) 4 w.heap.size (.slice (some b) 36 36) (bools (stQ 1)) := by
    have := (ho1'.set rfl (show 0 < (bools (List.replicate 36 false)).length by simp [bools]) (.bool true)).1
    rwa [bools_set, stQ_1] at this
  have b2 : Below w.heap.size w (w1.setCell b (.bool true)) := b1.setCell (by rw [hb1]; exact b0.size) _
  obtain ⟨w2, hw2⟩ : ∃ w2, w1.setCell b (.bool true) = w2 := ⟨_, rfl⟩
  have HW2 := Lib.hid hw2
  rw [hw2] at o2 b2
  clear ho1 hg1 ho1' b1 e0 hw2
  go_upto_region 5 with (fail)
  rw [HW2.out]
  clear HW2 c0 f0
  have hl0 := Own.lit0 (B := w.heap.size) w2 3 b2.size
  have hbA := b2.alloc b2.size (.cells #[] 3)
  have o2A := o2.alloc (.cells #[] 3)
  have hne : ∀ r, (Value.slice (some ⟨w2.heap.size, 0, none⟩) 0 0).ownBlock = some r → r ≠ b.block := fun r hr => by
    have := (o2.lt b.block rfl).2
    injection hr with hr
    subst hr
    show w2.heap.size ≠ _
    omega
  go_wp2_with fail
  go_loopg [6, 7] 35 (fun g lv kv wr => ∃ k : Nat, g = 36 - k ∧ 1 ≤ k ∧ k ≤ 36 ∧ kv = .int .i64 (k : Int) ∧ Own wr 4 w.heap.size (.slice (some b) 36 36) (bools (stQ k)) ∧ Own wr 3 w.heap.size lv (ints (natsI (gpQ k))) ∧ (∀ r, lv.ownBlock = some r → r ≠ b.block) ∧ Below w.heap.size w wr)
  case atStart => exact ⟨1, rfl, Nat.le_refl _, by omega, rfl, o2A, hl0, hne, hbA⟩
  case round =>
    obtain ⟨wo, rfl⟩ : ∃ wo : World, wo = wr := ⟨_, rfl⟩
    clear hl0 hbA o2A hne o2 b2
    obtain ⟨k, hg, hk1, hk36, rfl, ho, hl, hne, hb⟩ := hrel
    obtain ⟨al, nl, cl, rfl, HNL, _, _⟩ := hl.rd.formN
    by_cases hlt : k < 36
    · have k36 : (k : Int) < 36 := by omega
      have hzb := (ho.lt b.block rfl)
      have ck : wo.cell? (b.add k) = some (.bool false) := ho.rd.boolc (stQ_at k hlt)
      have fk := ho.frozen rfl k
      have HG4 : Hid (∀ j, j < k → wo.cell? (b.add j) = some (.bool (rcB j))) := fun j hj => ho.rd.boolc (stQ_get k j hj hk36)
      obtain ⟨R, hR⟩ : ∃ R, rcB k = R := ⟨_, rfl⟩
      have hs : Own (wo.setCell (b.add k) (.bool R)) 4 w.heap.size (.slice (some b) 36 36) (bools (stQ (k + 1))) := by
        have := (ho.set rfl (show k < (bools (stQ k)).length by simp [bools, stQ, boolL_len]; exact hlt) (.bool R)).1
        rwa [bools_set, ← hR, stQ_s k hlt, hR] at this
      have hl2 := hl.setCell (p := b.add k) (fun e => hne b.block (by rw [e, block_of_add]) rfl) (.bool R)
      have hb2 := hb.setCell (p := b.add k) (by rw [block_of_add]; exact hzb.1) (.bool R)
      have cs : (wo.setCell (b.add k) (.bool R)).cell? (b.add k) = some (.bool R) := by rw [← hR]; rw [hR]; exact hR ▸ hs.rd.boolc (stQ_get (k + 1) k (by omega) (by omega))
      have HS : Hid (gpQ (k + 1) = if R then gpQ k else gpQ k ++ [k]) := by rw [Hid, ← hR]; exact gpQ_s k hlt
      have hnl : nl ≤ 36 := by have := HNL.out; rw [natsI_len] at this; have h2 := List.length_filter_le (fun j => gapQ.contains j) (List.range k); rw [List.length_range] at h2; simp only [gpQ] at this; omega
      have HLo : Hid ((ints (natsI (gpQ k))).length = nl) := by rw [Hid, ints_length, HNL.out]
      have hn1 : (nl + 1) * 8 ≤ 140737488355328 := by omega
      have hn2 : nl + 1 ≤ 9223372036854775807 := by omega
      have hcase : (k < 4 ∧ R = false) ∨ (∃ j, 4 ≤ k ∧ k < 9 ∧ j + 4 = k ∧ rcB j = R) ∨ (∃ i j, 9 ≤ k ∧ j + 4 = k ∧ i + 9 = k ∧ (rcB j || rcB i) = R) := by
        by_cases h4 : k < 4
        · exact .inl ⟨h4, by rw [← hR]; exact rc_lt4 k h4 hk1⟩
        · by_cases h9 : k < 9
          · exact .inr (.inl ⟨k - 4, by omega, h9, by omega, by rw [← hR]; exact (rc_lt9 k h9 (by omega)).symm⟩)
          · exact .inr (.inr ⟨k - 9, k - 4, by omega, by omega, by omega, by rw [← hR]; exact (rc_ge9 k hlt (by omega)).symm⟩)
      clear hR ho hl hb
      rcases hcase with ⟨h4, rfl⟩ | ⟨j, h4, h9, hj, hR⟩ | ⟨i, j, h9, hj, hi, hR⟩
      · have i4 : (k : Int) < 4 := by omega
        have i9 : (k : Int) < 9 := by omega
        have hs2 := hb2.size
        have HS2 : Hid (gpQ (k + 1) = gpQ k ++ [k]) := HS.out
        go_upto_region 10 with (fail)
        clear HS HG4 ck fk
        go_wp2_with (at_builtin; (refine wpList_app1m rfl _ _ 33 rfl elI ?_ hl2 ?_ ?_ hs2 nl HLo.out hn1 hn2 ?_); (focus exact rfl); (focus (simp [Act.eval])); (focus exact rfl); intro bn cn' w6 ho6 hg6 hat6)
        have hs6 := hs.keep (fun q hq e => hg6.block q hq (fun e2 => by injection e with e; exact hne q e2.symm e))
        have hne6 : ∀ r, (Value.slice bn (nl + 1) cn').ownBlock = some r → r ≠ b.block := fun r hr => by
          rcases hat6 with h | ⟨k1, h1, h2⟩
          · exact hne r (by rw [← h]; exact hr)
          · rw [hr] at h2
            injection h2 with h2
            have h3 : wo.heap.size ≤ k1 := by simpa using h1
            omega
        have hb6 := hb2.grown hg6 hs2 fun r hr => (hl2.lt r hr).1
        go_roundg (36 - (k + 1))
        case measure => omega
        case rel => exact ⟨k + 1, rfl, by omega, by omega, by go_num, hs6, by rw [HS2.out, natsI_app, ints_append]; exact ho6, hne6, hb6⟩
      · have i4 : (4 : Int) ≤ (k : Int) := by omega
        have i9 : (k : Int) < 9 := by omega
        have wj : IntKind.i64.wrap ((k : Int) - 4) = (j : Int) := by rw [IntKind.wrap_i64]; omega
        have j36 : (j : Int) < 36 := by omega
        have cj : wo.cell? (b.add j) = some (.bool R) := by rw [← hR]; exact HG4.out j (by omega)
        clear hR hj
        cases R
        · have hs2 := hb2.size
          have HS2 : Hid (gpQ (k + 1) = gpQ k ++ [k]) := HS.out
          go_upto_region 10 with (fail)
          clear HS HG4 ck fk
          go_wp2_with (at_builtin; (refine wpList_app1m rfl _ _ 33 rfl elI ?_ hl2 ?_ ?_ hs2 nl HLo.out hn1 hn2 ?_); (focus exact rfl); (focus (simp [Act.eval])); (focus exact rfl); intro bn cn' w6 ho6 hg6 hat6)
          have hs6 := hs.keep (fun q hq e => hg6.block q hq (fun e2 => by injection e with e; exact hne q e2.symm e))
          have hne6 : ∀ r, (Value.slice bn (nl + 1) cn').ownBlock = some r → r ≠ b.block := fun r hr => by
            rcases hat6 with h | ⟨k1, h1, h2⟩
            · exact hne r (by rw [← h]; exact hr)
            · rw [hr] at h2
              injection h2 with h2
              have h3 : wo.heap.size ≤ k1 := by simpa using h1
              omega
          have hb6 := hb2.grown hg6 hs2 fun r hr => (hl2.lt r hr).1
          go_roundg (36 - (k + 1))
          case measure => omega
          case rel => exact ⟨k + 1, rfl, by omega, by omega, by go_num, hs6, by rw [HS2.out, natsI_app, ints_append]; exact ho6, hne6, hb6⟩
        · have HS2 : Hid (gpQ (k + 1) = gpQ k) := HS.out
          go_upto_region 10 with (fail)
          clear HS HG4 ck fk
          go_wp2_with fail
          go_roundg (36 - (k + 1))
          case measure => omega
          case rel => exact ⟨k + 1, rfl, by omega, by omega, by go_num, hs, by rw [HS2.out]; exact hl2, hne, hb2⟩
      · have i4 : (4 : Int) ≤ (k : Int) := by omega
        have i9 : (9 : Int) ≤ (k : Int) := by omega
        have wj : IntKind.i64.wrap ((k : Int) - 4) = (j : Int) := by rw [IntKind.wrap_i64]; omega
        have wi : IntKind.i64.wrap ((k : Int) - 9) = (i : Int) := by rw [IntKind.wrap_i64]; omega
        have j36 : (j : Int) < 36 := by omega
        have i36 : (i : Int) < 36 := by omega
        have cj := HG4.out j (by omega)
        have ci := HG4.out i (by omega)
        generalize rcB j = Rj at hR cj
        generalize rcB i = Ri at hR ci
        clear hj hi
        cases Rj
        · cases Ri
          · obtain rfl : R = false := hR.symm
            have hs2 := hb2.size
            have HS2 : Hid (gpQ (k + 1) = gpQ k ++ [k]) := HS.out
            go_upto_region 10 with (fail)
            clear HS HG4 ck fk
            go_wp2_with (at_builtin; (refine wpList_app1m rfl _ _ 33 rfl elI ?_ hl2 ?_ ?_ hs2 nl HLo.out hn1 hn2 ?_); (focus exact rfl); (focus (simp [Act.eval])); (focus exact rfl); intro bn cn' w6 ho6 hg6 hat6)
            have hs6 := hs.keep (fun q hq e => hg6.block q hq (fun e2 => by injection e with e; exact hne q e2.symm e))
            have hne6 : ∀ r, (Value.slice bn (nl + 1) cn').ownBlock = some r → r ≠ b.block := fun r hr => by
              rcases hat6 with h | ⟨k1, h1, h2⟩
              · exact hne r (by rw [← h]; exact hr)
              · rw [hr] at h2
                injection h2 with h2
                have h3 : wo.heap.size ≤ k1 := by simpa using h1
                omega
            have hb6 := hb2.grown hg6 hs2 fun r hr => (hl2.lt r hr).1
            go_roundg (36 - (k + 1))
            case measure => omega
            case rel => exact ⟨k + 1, rfl, by omega, by omega, by go_num, hs6, by rw [HS2.out, natsI_app, ints_append]; exact ho6, hne6, hb6⟩
          · obtain rfl : R = true := hR.symm
            have HS2 : Hid (gpQ (k + 1) = gpQ k) := HS.out
            go_upto_region 10 with (fail)
            clear HS HG4 ck fk
            go_wp2_with fail
            go_roundg (36 - (k + 1))
            case measure => omega
            case rel => exact ⟨k + 1, rfl, by omega, by omega, by go_num, hs, by rw [HS2.out]; exact hl2, hne, hb2⟩
        · obtain rfl : R = true := hR.symm
          clear hR ci
          have HS2 : Hid (gpQ (k + 1) = gpQ k) := HS.out
          go_upto_region 10 with (fail)
          clear HS HG4 ck fk
          go_wp2_with fail
          go_roundg (36 - (k + 1))
          case measure => omega
          case rel => exact ⟨k + 1, rfl, by omega, by omega, by go_num, hs, by rw [HS2.out]; exact hl2, hne, hb2⟩
    · obtain rfl : k = 36 := by omega
      rw [gpQ_36] at hl
      go_wp2_with fail
      go_ret
      exact ⟨_, rfl, hl, hb⟩

set_option maxHeartbeats 1000000 in
theorem i_GreatestUnreached49 (w : World) : Calls Tryz.prog 21 #[.int .i64 4, .int .i64 9] w (RetB (.int .i64 23) w) := by
  have HU := Lib.hid (i_Unreached49 w)
  go_enter Tryz.func21, Tryz.ntmps21
  go_upto_region 2 with (go_at_call 57; refine HU.out.mono ?_; rintro e w1 ⟨v1, rfl, o1, b1⟩)
  obtain ⟨a, n, c, rfl, HN, _, _⟩ := o1.rd.formN
  obtain rfl : n = 12 := HN.out
  obtain ⟨ad, y, rfl, hc, hy⟩ := o1.rd.int (k := 11) (by decide)
  obtain rfl : y = 23 := by have := hy.out; rw [show (natsI gapQ)[11]? = some (23 : Int) from rfl] at this; cases this; rfl
  have hc' : w1.cell? ⟨ad.block, ad.off + 11, none⟩ = some (.int .i64 23) := by simpa [Addr.add] using hc
  clear hy HN hc
  go_wp2_with fail
  go_ret
  exact ⟨rfl, b1⟩

end Go.Proofs.YtggblfnajeikjaaGreat

namespace Go.Proofs.YtggblfnajeikjaaGreat
open Go.RowKit
set_option linter.unusedVariables false
set_option linter.unusedSimpArgs false

set_option maxHeartbeats 1000000 in
theorem i_windows31 (v : Value) (w : World) (h : Rd w v (ints [3, 1, 2])) : Calls Tryz.prog 117 #[v, .int .i64 3] w fun e w' => ∃ vv, e = .returned (.tuple #[vv, .bool true]) ∧ Own w' 33 w.heap.size vv [v] ∧ Rd w' v (ints [3, 1, 2]) ∧ Below w.heap.size w w' := by
  obtain ⟨a, n, c, rfl, HN, hnc, hc⟩ := h.formN
  obtain rfl : n = 3 := HN.out
  obtain ⟨p, y, rfl, _, _⟩ := h.int (k := 0) (by simp)
  have hl0 := Own.lit0 (B := w.heap.size) w 33 (Nat.le_refl _)
  have hbA := (Below.refl w.heap.size w).alloc (Nat.le_refl _) (.cells #[] 33)
  go_enter Tryz.func117, Tryz.ntmps117
  go_wp2_with fail
  go_loopg [6, 7] 1 (fun g lv kv wr => (g = 1 ∧ kv = .int .i64 0 ∧ Own wr 33 w.heap.size lv [] ∧ Below w.heap.size w wr) ∨ (g = 0 ∧ kv = .int .i64 1 ∧ Own wr 33 w.heap.size lv [.slice (some p) 3 c] ∧ Below w.heap.size w wr))
  case atStart => exact .inl ⟨rfl, rfl, hl0, hbA⟩
  case round =>
    clear hl0 hbA
    obtain ⟨wo, rfl⟩ : ∃ wo : World, wo = wr := ⟨_, rfl⟩
    rcases hrel with ⟨hg, rfl, ho, hb⟩ | ⟨hg, rfl, ho, hb⟩
    · obtain ⟨al, cl, rfl, _, _⟩ := ho.rd.form
      rw [show ([] : List Value).length = 0 from rfl] at ho ⊢
      have hs2 := hb.size
      go_wp2_with (at_builtin; (refine wpList_app1m rfl _ _ 23 rfl elII ?_ ho ?_ ?_ hs2 0 (by rfl) (by omega) (by omega) ?_); (focus exact rfl); (focus (simp [Act.eval])); (focus exact rfl); intro bn cn' w6 ho6 hg6 hat6)
      have hb6 := hb.grown hg6 hs2 fun r hr => (ho.lt r hr).1
      go_roundg 0
      case measure => omega
      case rel => exact .inr ⟨rfl, rfl, ho6, hb6⟩
    · go_wp2_with fail
      go_ret2
      exact ⟨_, rfl, ho, h.below hb, hb⟩

theorem k_med : Known 84 := known Tryz.func84 (by kernel_rfl) (by kernel_rfl)
set_option maxHeartbeats 1000000 in
theorem i_ofWindows31 (v : Value) (w : World) (h : Rd w v (ints [3, 1, 2])) (HM0 : ∀ (W : World), Rd W v (ints [3, 1, 2]) → Calls Tryz.prog 84 #[v] W (RetB (.int .i64 2) W)) :
    Calls Tryz.prog 83 #[v, .int .i64 3, .func (.func 84) #[] #[]] w (RetOwn 3 (ints [2]) w) := by
  have HW := Lib.hid (i_windows31 v w h)
  have HM := Lib.hid HM0
  clear HM0
  go_enter Tryz.func83, Tryz.ntmps83
  go_upto_region 4 with (go_at_call 117; refine HW.out.mono ?_; rintro e w1 ⟨vv, rfl, o1, r1, b1⟩)
  obtain ⟨av, cv, rfl, _, _⟩ := o1.rd.form
  rw [show [v].length = 1 from rfl] at o1 ⊢
  obtain ⟨ad, rfl, cu⟩ := o1.rd.cell (k := 0) (by simp)
  have cu' : w1.cell? ad = some v := by simpa [Addr.add] using cu
  have hl0 := Own.lit0 (B := w.heap.size) w1 3 b1.size
  have hbA := b1.alloc b1.size (.cells #[] 3)
  have cuA : (w1.alloc (.cells #[] 3)).cell? ad = some v := (((Below.refl _ _).alloc (Nat.le_refl _) _).cell (World.block_lt_of_cell? _ _ cu')).trans cu'
  have rA := r1.alloc (.cells #[] 3)
  clear HW cu
  go_wp2_with fail
  go_loopg [9, 23] 1 (fun g lv kv wr => (g = 1 ∧ kv = .int .i64 0 ∧ lv = .slice (some ⟨w1.heap.size, 0, none⟩) 0 0 ∧ wr = w1.alloc (.cells #[] 3)) ∨ (g = 0 ∧ kv = .int .i64 1 ∧ Own wr 3 w.heap.size lv (ints [2]) ∧ Below w.heap.size w wr))
  case atStart => exact .inl ⟨rfl, rfl, rfl, rfl⟩
  case round =>
    rcases hrel with ⟨hg, rfl, rfl, rfl⟩ | ⟨hg, rfl, ho, hb⟩
    · obtain ⟨wo, hwo⟩ : ∃ wo, w1.alloc (.cells #[] 3) = wo := ⟨_, rfl⟩
      rw [hwo] at hl0 hbA cuA rA ⊢
      have hcall := k_med #[v] wo
      clear hwo
      go_wp2_with (first
        | ((with_reducible refine (HM.out wo rA).mono ?_); rintro e w2 ⟨rfl, b2⟩; have ho2 := hl0.below b2; have hb2 := hbA.trans (b2.mono hbA.size); have hs2 := hb2.size)
        | (at_builtin; (refine wpList_app1m rfl _ _ 33 rfl elI ?_ ho2 ?_ ?_ hs2 0 (by rfl) (by omega) (by omega) ?_); (focus exact rfl); (focus (simp [Act.eval])); (focus exact rfl); intro bn cn' w6 ho6 hg6 hat6))
      have hb6 := hb2.grown hg6 hs2 fun r hr => (ho2.lt r hr).1
      go_roundg 0
      case measure => omega
      case rel => exact .inr ⟨rfl, rfl, ho6, hb6⟩
    · clear hl0 hbA cuA rA
      go_wp2_with fail
      go_ret
      exact ⟨_, rfl, ho, hb⟩

end Go.Proofs.YtggblfnajeikjaaGreat
