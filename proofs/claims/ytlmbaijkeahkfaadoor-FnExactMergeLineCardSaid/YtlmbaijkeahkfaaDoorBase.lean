/- Walks: the helpers of the laws. -/
import Derived.Test.YtlmbaijkeahkfaaDoorRows
import Derived.Test.YtlmbaijkeahkfaaDoorMem
import Derived.BigQuiet
import Derived.Deep.QuietTactic
namespace Go.Proofs.YtlmbaijkeahkfaaDoor
open Go.RowKit
set_option linter.unusedVariables false
set_option linter.unusedSimpArgs false

/-- A new slice is returned; nothing that existed has turned. -/
def RetOwn (E : Nat) (xs : List Value) (w : World) (e : Ending) (w' : World) : Prop :=
  ∃ v, e = .returned v ∧ Own w' E w.heap.size v xs ∧ Below w.heap.size w w'

theorem ret_int {k : IntKind} {a b : Int} (h : a = b) : Ending.returned (.int k a) = .returned (.int k b) := by rw [h]
theorem ret_bool {a b : Bool} (h : a = b) : Ending.returned (.bool a) = .returned (.bool b) := by rw [h]

/-- It returns the value v, and nothing that existed has turned. -/
def RetB (v : Value) (w : World) (e : Ending) (w' : World) : Prop := e = .returned v ∧ Below w.heap.size w w'
theorem retB_same {P : Program} {f : FuncId} {args : Array Value} {w : World} {v : Value} (h : Calls P f args w fun e w' => e = .returned v ∧ w = w') : Calls P f args w (RetB v w) :=
  h.mono fun _ _ ⟨he, hw⟩ => ⟨he, hw ▸ Below.refl _ _⟩
theorem retB_dr {P : Program} {f : FuncId} {args : Array Value} {w : World} {v : Value} (h : Calls P f args w fun e w' => e = .returned v ∧ Dr w w') : Calls P f args w (RetB v w) :=
  h.mono fun _ _ ⟨he, hw⟩ => ⟨he, hw.below _⟩
theorem RetOwn.nil (w : World) (E : Nat) : RetOwn E (ints []) w (.returned (.slice none 0 0)) w := ⟨_, rfl, Own.nil w E _, Below.refl _ _⟩

theorem elI : ElemOk Tryd.prog 22 3 8 (.int .i64 0) := by
  obtain ⟨i, hi, h0, h1, h2⟩ := info_parts (show (Tryd.prog.info? 3).map (fun i => (i.zero, i.size, i.bytes)) = some (some (.int .i64 0), 1, 8) by kernel_rfl)
  exact ⟨i, Tryd.underlying22, hi, h0, h1, h2, rfl⟩

theorem copy_step (xs : List Int) (k : Nat) (x : Int) (h : xs[k]? = some x) : (xs.take k ++ List.replicate (xs.length - k) 0).set k x = xs.take (k + 1) ++ List.replicate (xs.length - (k + 1)) 0 := by
  obtain ⟨hk, rfl⟩ := List.getElem?_eq_some_iff.1 h
  apply List.ext_getElem?
  intro j
  simp only [List.getElem?_set, List.getElem?_append, List.length_take, List.getElem?_take, List.getElem?_replicate, List.length_append, List.length_replicate]
  grind

set_option maxHeartbeats 400000 in
theorem toIntS_c (v : Value) (xs : List Int) (w : World) (h : Rd w v (ints xs)) (hl : xs.length ≤ 2000000) :
    Calls Tryd.prog 10 #[v] w (RetOwn 3 (ints xs) w) := by
  obtain ⟨a, c, rfl, h2, h3⟩ := h.formi
  go_enter Tryd.func10, Tryd.ntmps10
  go_wp2_with (at_make; refine wpList_mk rfl _ _ 22 rfl elI rfl rfl (Nat.le_refl _) (by omega) (by omega) ?_; intro b w1 hb1 hown1 hg1)
  go_loopw [4] (fun i wr => ∃ k : Nat, k ≤ xs.length ∧ i = .int .i64 k ∧ Own wr 3 w.heap.size (.slice (some b) xs.length xs.length) (ints (xs.take k ++ List.replicate (xs.length - k) 0)) ∧ Below w.heap.size w wr)
    (fun i _ => xs.length - (intOf i).toNat)
  case atStart => exact ⟨0, Nat.zero_le _, rfl, by simpa [ints] using hown1, (Below.refl _ _).grown hg1 (Nat.le_refl _) (fun _ h => by cases h)⟩
  case round =>
    obtain ⟨k, hk, rfl, hown, hbel⟩ := hrel
    by_cases hlt : k < xs.length
    · obtain ⟨ad, x, rfl, hc, hx⟩ := (h.below hbel).int hlt
      have hl2 : k < (xs.take k ++ List.replicate (xs.length - k) 0).length := by simp; omega
      obtain ⟨ad2, y, had2, hc2, _⟩ := hown.rd.int hl2
      obtain rfl : b = ad2 := by injection had2
      clear had2
      have hf2 := hown.frozen rfl k
      have hs := (hown.seti rfl hl2 x).1
      have hb2 := hown.below_set rfl hl2 (.int .i64 x) hbel (Nat.le_refl _)
      rw [copy_step xs k x hx.out] at hs
      clear hown hbel
      go_wp2
      go_roundw
      case rel => exact ⟨k + 1, by omega, by go_num, hs, hb2⟩
      case measure => simp [intOf]; omega
    · obtain rfl : k = xs.length := by omega
      go_wp2
      go_ret
      exact ⟨_, rfl, by simpa using hown, hbel⟩
def eqI (xs ys : List Int) : Bool := decide (xs = ys)
theorem eqI_len {xs ys : List Int} (h : xs.length ≠ ys.length) : eqI xs ys = false := by
  simp only [eqI, decide_eq_false_iff_not]
  rintro rfl
  exact h rfl
theorem eqI_no {xs ys : List Int} {k : Nat} {x y : Int} (hx : xs[k]? = some x) (hy : ys[k]? = some y) (h : x ≠ y) : eqI xs ys = false := by
  simp only [eqI, decide_eq_false_iff_not]
  rintro rfl
  rw [hx] at hy
  cases hy
  exact h rfl
theorem eqI_yes {xs ys : List Int} (hl : xs.length = ys.length) (h : ∀ (j : Nat) x y, j < xs.length → xs[j]? = some x → ys[j]? = some y → x = y) : eqI xs ys = true := by
  simp only [eqI, decide_eq_true_eq]
  apply List.ext_getElem hl
  intro j h1 h2
  exact h j _ _ h1 (List.getElem?_eq_getElem h1) (List.getElem?_eq_getElem h2)
theorem eqI_self (xs : List Int) : eqI xs xs = true := by simp [eqI]

/-- It returns the value v, and but for draws the world is as it was. -/
def RetQ (v : Value) (w : World) (e : Ending) (w' : World) : Prop := e = .returned v ∧ Dr w w'

set_option maxHeartbeats 400000 in
theorem eqIntS_c (v u : Value) (xs ys : List Int) (w : World) (hx : Rd w v (ints xs)) (hy : Rd w u (ints ys)) :
    Calls Tryd.prog 12 #[v, u] w (RetQ (.bool (eqI xs ys)) w) := by
  obtain ⟨a, c, rfl, h2, h3⟩ := hx.formi
  obtain ⟨b, d, rfl, h4, h5⟩ := hy.formi
  by_cases hl : xs.length = ys.length
  · have hL : ((xs.length : Int) != (ys.length : Int)) = false := by simp [hl]
    have HL := Lib.hid hl
    clear hl
    have hle : xs.length ≤ ys.length := by have := HL.out; omega
    go_enter Tryd.func12, Tryd.ntmps12
    go_wp2
    go_loopw [5] (fun i wr => ∃ k : Nat, k ≤ xs.length ∧ i = .int .i64 k ∧ (∀ (j : Nat) x y, j < k → xs[j]? = some x → ys[j]? = some y → x = y) ∧ Dr w wr) (fun i _ => xs.length - (intOf i).toNat)
    case atStart => exact ⟨0, Nat.zero_le _, rfl, fun j _ _ hj => by omega, Dr.refl _⟩
    case round =>
      obtain ⟨k, hk, rfl, hno, hw⟩ := hrel
      have HN := Lib.hid hno
      clear hno
      by_cases hlt : k < xs.length
      · obtain ⟨ad, x, rfl, hc, hxk⟩ := (hx.dr hw).int hlt
        obtain ⟨bd, y, rfl, hc2, hyk⟩ := (hy.dr hw).int (show k < ys.length by omega)
        have hlt2 : (k : Int) < (ys.length : Int) := by omega
        have hlt1 : (k : Int) < (xs.length : Int) := by omega
        by_cases e : x = y
        · have e1 : (x != y) = false := by simp [e]
          go_wp2
          go_quiet (fail)
          go_wp2
          go_roundw
          case rel => exact ⟨k + 1, by omega, by go_num, fun j p q hj hp hq => by
            by_cases ej : j = k
            · subst ej
              rw [hxk.out] at hp
              rw [hyk.out] at hq
              cases hp
              cases hq
              exact e
            · exact HN.out j p q (by omega) hp hq, hw.step _⟩
          case measure => simp [intOf]; omega
        · have e1 : (x != y) = true := by simp [e]
          have HE := Lib.hid (eqI_no hxk.out hyk.out e)
          go_wp2
          go_quiet (fail)
          go_wp2
          go_ret
          exact ⟨ret_bool HE.out.symm, hw.step _⟩
      · obtain rfl : k = xs.length := by omega
        have HE := Lib.hid (eqI_yes HL.out HN.out)
        go_wp2
        go_ret
        exact ⟨ret_bool HE.out.symm, hw⟩
  · have hL : ((xs.length : Int) != (ys.length : Int)) = true := by simp; omega
    have HE := Lib.hid (eqI_len hl)
    clear hl
    go_enter Tryd.func12, Tryd.ntmps12
    go_wp2
    go_ret
    exact ⟨ret_bool HE.out.symm, Dr.refl _⟩

theorem elII : ElemOk Tryd.prog 27 22 24 (.slice none 0 0) := by
  obtain ⟨i, hi, h0, h1, h2⟩ := info_parts (show (Tryd.prog.info? 22).map (fun i => (i.zero, i.size, i.bytes)) = some (some (.slice none 0 0), 1, 24) by kernel_rfl)
  exact ⟨i, Tryd.underlying27, hi, h0, h1, h2, rfl⟩
/-- A new slice of slices is returned; nothing that existed has turned. -/
def RetOwn2 (xss : List (List Int)) (w : World) (e : Ending) (w' : World) : Prop :=
  ∃ v, e = .returned v ∧ Own2 w' 22 3 w.heap.size w'.heap.size v xss ∧ Below w.heap.size w w'
theorem RetOwn2.nil (w : World) : RetOwn2 [] w (.returned (.slice none 0 0)) w := ⟨_, rfl, Own2.nil w _ _ _ _, Below.refl _ _⟩
/-- How many numbers there are in all. -/
def tot (xss : List (List Int)) : Nat := xss.foldr (fun xs n => xs.length + n) 0
def SzOk (xss : List (List Int)) : Prop := xss.length ≤ 1048576 ∧ tot xss ≤ 1048576
theorem tot_append (a b : List (List Int)) : tot (a ++ b) = tot a + tot b := by
  induction a with
  | nil => simp [tot]
  | cons x t ih => simp only [tot, List.cons_append, List.foldr_cons] at *; omega
theorem tot_one (x : List Int) : tot [x] = x.length := by simp [tot]
theorem tot_mem {xss : List (List Int)} {xs : List Int} (h : xs ∈ xss) : xs.length ≤ tot xss := by
  induction xss with
  | nil => cases h
  | cons x t ih =>
    simp only [List.mem_cons] at h
    simp only [tot, List.foldr_cons] at *
    rcases h with rfl | h
    · omega
    · have := ih h; omega
theorem tot_take_le (xss : List (List Int)) (k : Nat) : tot (xss.take k) ≤ tot xss := by
  conv => rhs; rw [← List.take_append_drop k xss]
  rw [tot_append]
  omega
theorem take_snoc' {α : Type} {xs : List α} {k : Nat} {x : α} (h : xs[k]? = some x) : xs.take (k + 1) = xs.take k ++ [x] := by
  obtain ⟨hk, rfl⟩ := List.getElem?_eq_some_iff.1 h
  exact List.take_succ_eq_append_getElem hk

def szS (xs : List Int) (left : Int) : Int := if left - (xs.length : Int) < 0 then -1 else left - (xs.length : Int)
/-- The size that is left, once the rows are taken off: -1 if there are too many. -/
def szRows (xss : List (List Int)) (left : Int) : Int := if left - (tot xss : Int) < 0 then -1 else left - (tot xss : Int)
def szSS (xss : List (List Int)) (left : Int) : Int := if left - (xss.length : Int) < 0 then -1 else szRows xss (left - (xss.length : Int))
theorem szSS_le (xss : List (List Int)) (left : Int) : szSS xss left ≤ left ∨ szSS xss left = -1 := by
  unfold szSS szRows
  repeat' split
  all_goals omega
theorem szSS_ok {xss : List (List Int)} {left : Int} (h : 0 ≤ szSS xss left) (hl : left ≤ 1048576) : SzOk xss := by
  unfold szSS szRows at h
  unfold SzOk
  repeat' split at h
  all_goals omega
theorem szRows_step {xss : List (List Int)} {xs : List Int} {k : Nat} {left : Int} (h : xss[k]? = some xs) (h0 : 0 ≤ left - (tot (xss.take k) : Int)) :
    szS xs (left - (tot (xss.take k) : Int)) = if left - (tot (xss.take (k + 1)) : Int) < 0 then -1 else left - (tot (xss.take (k + 1)) : Int) := by
  rw [take_snoc' h, tot_append, tot_one]
  unfold szS
  repeat' split
  all_goals omega

theorem szIntS_c (v : Value) (xs : List Int) (left : Int) (w : World) (h : Rd w v (ints xs)) (hl : left ≤ 1048576) (hl2 : 0 ≤ left) :
    Calls Tryd.prog 92 #[v, .int .i64 left] w fun e w' => e = .returned (.int .i64 (szS xs left)) ∧ w = w' := by
  obtain ⟨a, c, rfl, h2, h3⟩ := h.formi
  by_cases hn : left - (xs.length : Int) < 0
  · have HR : Hid (szS xs left = -1) := by simp [szS, hn, Hid]
    go_enter Tryd.func92, Tryd.ntmps92
    go_wp2
    go_ret
    exact ⟨ret_int HR.out.symm, rfl⟩
  · have HR : Hid (szS xs left = left - (xs.length : Int)) := by simp [szS, hn, Hid]
    go_enter Tryd.func92, Tryd.ntmps92
    go_wp2
    go_ret
    exact ⟨ret_int HR.out.symm, rfl⟩

set_option maxHeartbeats 400000 in
theorem szIntSS_c (v : Value) (xss : List (List Int)) (left : Int) (w : World) (h : Rd2 w v xss) (hl : left ≤ 1048576) (hl2 : 0 ≤ left) :
    Calls Tryd.prog 43 #[v, .int .i64 left] w fun e w' => e = .returned (.int .i64 (szSS xss left)) ∧ w = w' := by
  obtain ⟨a, c, rfl, h2, h3⟩ := h.form
  by_cases hn : left - (xss.length : Int) < 0
  · have HR : Hid (szSS xss left = -1) := by simp [szSS, hn, Hid]
    go_enter Tryd.func43, Tryd.ntmps43
    go_wp2
    go_ret
    exact ⟨ret_int HR.out.symm, rfl⟩
  · have HR : Hid (szSS xss left = szRows xss (left - (xss.length : Int))) := by simp [szSS, hn, Hid]
    have hn0 : 0 ≤ left - (xss.length : Int) := by omega
    go_enter Tryd.func43, Tryd.ntmps43
    go_wp2
    go_loop [1, 5] (fun l i => ∃ (k : Nat) (q : Int), k ≤ xss.length ∧ i = .int .i64 k ∧ l = .int .i64 q ∧ 0 ≤ q ∧ q ≤ 1048576 ∧ Hid (q = left - (xss.length : Int) - (tot (xss.take k) : Int))) (fun _ i => xss.length - (intOf i).toNat)
    case atStart => exact ⟨0, left - (xss.length : Int), Nat.zero_le _, rfl, rfl, hn0, by omega, by simp [tot, Hid]⟩
    case round =>
      obtain ⟨k, q, hk, rfl, rfl, hq0, hq1, hq⟩ := hrel
      by_cases hlt : k < xss.length
      · obtain ⟨ad, b, m, d, xs, rfl, hc, hx, hm, hmd, hd, hr⟩ := h.row hlt
        have hz := szRows_step (left := left - (xss.length : Int)) hx.out (by have := hq.out; omega)
        rw [← hq.out] at hz
        have HT := Lib.hid (tot_take_le xss (k + 1))
        have HZ := Lib.hid hz
        clear hz
        by_cases hng : left - (xss.length : Int) - (tot (xss.take (k + 1)) : Int) < 0
        · have HE : Hid (szS xs q = -1) := by rw [HZ.out, if_pos hng]; rfl
          have HF : Hid (szRows xss (left - (xss.length : Int)) = -1) := by unfold szRows; rw [if_pos (by have := HT.out; omega)]; rfl
          clear hng
          go_wp2_with (go_at_call 92; refine (szIntS_c _ xs _ _ hr hq1 hq0).mono ?_; rintro e w' ⟨rfl, rfl⟩; rw [HE.out])
          go_ret
          exact ⟨ret_int (by rw [HR.out, HF.out]), rfl⟩
        · obtain ⟨q', hq'⟩ : ∃ q' : Int, left - (xss.length : Int) - (tot (xss.take (k + 1)) : Int) = q' := ⟨_, rfl⟩
          have HE : Hid (szS xs q = q') := by rw [HZ.out, if_neg hng, hq']; rfl
          have hq0' : 0 ≤ q' := by omega
          have hq1' : q' ≤ 1048576 := by omega
          have HQ := Lib.hid hq'
          clear hng hq'
          go_wp2_with (go_at_call 92; refine (szIntS_c _ xs _ _ hr hq1 hq0).mono ?_; rintro e w' ⟨rfl, rfl⟩; rw [HE.out])
          go_round
          case rel => exact ⟨k + 1, q', by omega, by go_num, rfl, hq0', hq1', HQ.out.symm⟩
          case measure => simp [intOf]; omega
      · obtain rfl : xss.length = k := by omega
        have HF : Hid (szRows xss (left - (xss.length : Int)) = q) := by
          have := hq.out
          rw [List.take_length] at this
          unfold szRows
          rw [if_neg (by omega)]
          exact this.symm
        go_wp2
        go_ret
        exact ⟨ret_int (by rw [HR.out, HF.out]), rfl⟩

set_option maxHeartbeats 400000 in
theorem toIntSS_c (v : Value) (xss : List (List Int)) (w : World) (h : Rd2 w v xss) (hl : SzOk xss) :
    Calls Tryd.prog 47 #[v] w (RetOwn2 xss w) := by
  obtain ⟨a, c, rfl, h2, h3⟩ := h.form
  have hl1 := hl.1
  have HL := Lib.hid hl
  clear hl
  go_enter Tryd.func47, Tryd.ntmps47
  go_wp2_with (at_make; refine wpList_mk rfl _ _ 27 rfl elII rfl rfl (Nat.le_refl _) (by omega) (by omega) ?_; intro b w1 hb1 hown1 hg1)
  have hb := (Below.refl w.heap.size w).grown hg1 (Nat.le_refl _) (fun _ h => by cases h)
  clear hg1 hb1
  go_loopw [4] (fun i wr => ∃ (k : Nat) (rows : List Value), k ≤ xss.length ∧ i = .int .i64 k ∧ RowsOwn wr 3 w.heap.size wr.heap.size rows (xss.take k) ∧
      Own wr 22 w.heap.size (.slice (some b) xss.length xss.length) (rows ++ List.replicate (xss.length - k) (.slice none 0 0)) ∧ Below w.heap.size w wr)
    (fun i _ => xss.length - (intOf i).toNat)
  case atStart => exact ⟨0, [], Nat.zero_le _, rfl, by simpa using RowsOwn.nil _ _ _ _, by simpa using hown1, hb⟩
  case round =>
    obtain ⟨k, rows, hk, rfl, hrows, hown, hbel⟩ := hrel
    have hrl : rows.length = k := by rw [hrows.1, List.length_take]; omega
    have HRL := Lib.hid hrl
    clear hrl
    by_cases hlt : k < xss.length
    · obtain ⟨ad, bb, m, d, xs, rfl, hc, hx, hm, hmd, hd, hr⟩ := (h.below hbel).row hlt
      have hxl : xs.length ≤ 2000000 := by have := tot_mem (List.mem_of_getElem? hx.out); have := HL.out.2; omega
      go_wp2_with (go_at_call 10; refine (toIntS_c _ xs _ hr hxl).mono ?_; rintro e w2 ⟨v2, rfl, ho2, hb2⟩; obtain ⟨za, zc, rfl, _, _⟩ := ho2.rd.formi; have hown2 := hown.below hb2; obtain ⟨ad2, had2, hc2⟩ := hown2.rd.cell (k := k) (by simp [HRL.out]; omega); obtain rfl : b = ad2 := (by injection had2); have hf2 := hown2.frozen rfl k; clear had2)
      have hk2 : k < (rows ++ List.replicate (xss.length - k) (Value.slice none 0 0)).length := by simp [HRL.out]; omega
      have hs := hown2.set rfl hk2 (.slice za xs.length zc)
      have e : (rows ++ List.replicate (xss.length - k) (Value.slice none 0 0)).set k (.slice za xs.length zc) = (rows ++ [.slice za xs.length zc]) ++ List.replicate (xss.length - (k + 1)) (.slice none 0 0) := by
        rw [show xss.length - k = (xss.length - (k + 1)) + 1 by omega, List.replicate_succ, List.set_append_right _ _ (by rw [HRL.out]; omega), HRL.out, Nat.sub_self, List.set_cons_zero, List.append_assoc]
        rfl
      rw [e] at hs
      have ho3 : Own w2 3 w.heap.size (.slice za xs.length zc) (ints xs) := ho2.mono hbel.size
      have hr2 := (hrows.below hb2).snoc ho3 (fun k hk => ho2.lt k hk) hb2.size
      have hr3 := hr2.outer (u := .slice (some b) xss.length xss.length) hs.2 hown2 (by decide)
      have hb3 : Below w.heap.size w (w2.setCell (b.add k) (.slice za xs.length zc)) := (hbel.trans (hb2.mono hbel.size)).setCell (by rw [block_of_add]; exact (hown.lt _ rfl).1) _
      go_roundw
      case rel => exact ⟨k + 1, rows ++ [.slice za xs.length zc], by omega, by go_num, by rw [take_snoc' hx.out, World.size_setCell]; exact hr3, hs.1, hb3⟩
      case measure => simp [intOf]; omega
    · obtain rfl : xss.length = k := by omega
      go_wp2
      go_ret
      refine ⟨_, rfl, ⟨rows, by simpa using hown, fun k hk => (hown.lt k hk).2, by simpa using hrows⟩, hbel⟩

theorem quietQ {P : Program} {f : FuncId} {args : Array Value} {w : World} {n : Nat} {v : Value} (h : Calls P f args (w.drewN n) (RetQ v (w.drewN n))) :
    Calls P f args (w.drewN n) fun e w'' => e = .returned v ∧ ∃ m, w'' = w.drewN m :=
  h.mono fun _ _ ⟨he, k, hk⟩ => ⟨he, n + k, by rw [← hk, World.drewN_drewN]⟩
def eqII (xss yss : List (List Int)) : Bool := decide (xss = yss)
theorem eqII_self (xss : List (List Int)) : eqII xss xss = true := by simp [eqII]

set_option maxHeartbeats 400000 in
theorem eqIntSS_c (v u : Value) (xss yss : List (List Int)) (w : World) (hx : Rd2 w v xss) (hy : Rd2 w u yss) (he : xss = yss := by rfl) :
    Calls Tryd.prog 51 #[v, u] w (RetQ (.bool (eqII xss yss)) w) := by
  subst he
  rw [eqII_self]
  obtain ⟨a, c, rfl, h2, h3⟩ := hx.form
  obtain ⟨b, d, rfl, h4, h5⟩ := hy.form
  go_enter Tryd.func51, Tryd.ntmps51
  go_wp2
  go_loopw [5] (fun i wr => ∃ k : Nat, k ≤ xss.length ∧ i = .int .i64 k ∧ Dr w wr) (fun i _ => xss.length - (intOf i).toNat)
  case atStart => exact ⟨0, Nat.zero_le _, rfl, Dr.refl _⟩
  case round =>
    obtain ⟨k, hk, rfl, hw⟩ := hrel
    by_cases hlt : k < xss.length
    · obtain ⟨ad, b1, m1, d1, xs, rfl, hc, hxk, hm1, hmd1, hd1, hr1⟩ := (hx.dr hw).row hlt
      obtain ⟨bd, b2, m2, d2, ys, rfl, hc2, hyk, hm2, hmd2, hd2, hr2⟩ := (hy.dr hw).row hlt
      have e : ys = xs := by have := hyk.out; rw [hxk.out] at this; injection this with this; exact this.symm
      subst e
      have hlt1 : (k : Int) < (xss.length : Int) := by omega
      have HC : ∀ n, Calls Tryd.prog 12 #[.slice b1 m1 d1, .slice b2 m2 d2] (wr.drewN n) (RetQ (.bool true) (wr.drewN n)) := fun n => by
        have := eqIntS_c _ _ ys ys _ (hr1.drewN n) (hr2.drewN n)
        rw [eqI_self] at this
        exact this
      have GC := Lib.hid HC
      clear HC
      go_wp2
      go_quiet ((go_at_call 12; exact quietQ (GC.out _)))
      go_wp2
      go_roundw
      case rel => exact ⟨k + 1, by omega, by go_num, hw.step _⟩
      case measure => simp [intOf]; omega
    · go_wp2
      go_ret
      exact ⟨rfl, hw⟩

/-- A network is returned, its pairs in new memory; nothing that existed has turned. -/
def RetNet (n : Int) (xss : List (List Int)) (w : World) (e : Ending) (w' : World) : Prop :=
  ∃ v, e = .returned (.agg #[.int .i64 n, v]) ∧ Own2 w' 22 3 w.heap.size w'.heap.size v xss ∧ Below w.heap.size w w'

set_option maxHeartbeats 400000 in
theorem szNetwork_c (n : Int) (v : Value) (xss : List (List Int)) (left : Int) (w : World) (h : Rd2 w v xss) (hl : left ≤ 1048576) (hl2 : 0 ≤ left) :
    Calls Tryd.prog 15 #[.agg #[.int .i64 n, v], .int .i64 left] w (RetB (.int .i64 (szSS xss left)) w) := by
  obtain ⟨a, c, rfl, h2, h3⟩ := h.form
  by_cases hz : szSS xss left < 0
  · have HE : Hid (szSS xss left = -1) := by
      unfold szSS szRows at *
      repeat' split at hz
      all_goals first | (simp [*, Hid]; done) | omega
    clear hz
    have HC := szIntSS_c _ xss left (w.alloc (.cells #[.int .i64 n, .slice a xss.length c] 29)) (h.alloc _) hl hl2
    rw [HE.out] at HC
    go_enter Tryd.func15, Tryd.ntmps15
    go_wp2_with (go_at_call 43; refine HC.mono ?_; rintro e w' ⟨rfl, rfl⟩)
    go_ret
    exact ⟨ret_int HE.out.symm, (Below.refl _ _).alloc (Nat.le_refl _) _⟩
  · have HC := szIntSS_c _ xss left (w.alloc (.cells #[.int .i64 n, .slice a xss.length c] 29)) (h.alloc _) hl hl2
    have hz0 : 0 ≤ szSS xss left := by omega
    clear hz
    generalize szSS xss left = q at *
    go_enter Tryd.func15, Tryd.ntmps15
    go_wp2_with (go_at_call 43; refine HC.mono ?_; rintro e w' ⟨rfl, rfl⟩)
    go_ret
    exact ⟨rfl, (Below.refl _ _).alloc (Nat.le_refl _) _⟩

set_option maxHeartbeats 400000 in
theorem toNetwork_c (n : Int) (v : Value) (xss : List (List Int)) (w : World) (h : Rd2 w v xss) (hl : SzOk xss) :
    Calls Tryd.prog 17 #[.agg #[.int .i64 n, v]] w (RetNet n xss w) := by
  obtain ⟨a, c, rfl, h2, h3⟩ := h.form
  go_enter Tryd.func17, Tryd.ntmps17
  go_wp2_with fail
  refine (toIntSS_c _ xss _ ?_ hl).mono ?_
  · exact ((h.alloc _).alloc _).alloc _
  rintro e w2 ⟨v2, rfl, ho2, hb2⟩
  have hz : w.heap.size + 1 + 1 < w2.heap.size := by have := hb2.size; simp at this; omega
  have c0 : w2.cell? ⟨w.heap.size + 1 + 1, 0, none⟩ = some (.int .i64 n) := (hb2.cell (p := ⟨w.heap.size + 1 + 1, 0, none⟩) (by simp)).trans (by go_simp)
  have c1 : w2.cell? ⟨w.heap.size + 1 + 1, 1, none⟩ = some (.slice none 0 0) := (hb2.cell (p := ⟨w.heap.size + 1 + 1, 1, none⟩) (by simp)).trans (by go_simp)
  have c2 : w2.cell? ⟨w.heap.size + 1, 0, none⟩ = some (.int .i64 0) := (hb2.cell (p := ⟨w.heap.size + 1, 0, none⟩) (by simp)).trans (by go_simp)
  have c3 : w2.cell? ⟨w.heap.size + 1, 1, none⟩ = some (.slice none 0 0) := (hb2.cell (p := ⟨w.heap.size + 1, 1, none⟩) (by simp)).trans (by go_simp)
  have f0 : w2.frozen? ⟨w.heap.size + 1 + 1, 0, none⟩ = false := (hb2.frozen (p := ⟨w.heap.size + 1 + 1, 0, none⟩) (by simp)).trans (by go_simp)
  have f1 : w2.frozen? ⟨w.heap.size + 1 + 1, 1, none⟩ = false := (hb2.frozen (p := ⟨w.heap.size + 1 + 1, 1, none⟩) (by simp)).trans (by go_simp)
  have f2 : w2.frozen? ⟨w.heap.size + 1, 0, none⟩ = false := (hb2.frozen (p := ⟨w.heap.size + 1, 0, none⟩) (by simp)).trans (by go_simp)
  have f3 : w2.frozen? ⟨w.heap.size + 1, 1, none⟩ = false := (hb2.frozen (p := ⟨w.heap.size + 1, 1, none⟩) (by simp)).trans (by go_simp)
  obtain ⟨za, zc, rfl, _, _⟩ := ho2.form
  go_wp2
  refine bodyPost_ret (v := .agg #[.int .i64 n, .slice za xss.length zc]) (by simp [results, Tryd.results17, go_sem, c0, c1, c2, c3, f0, f1, f2, f3]) rfl ⟨_, rfl, ?_, ?_⟩
  · have hch : Chg w.heap.size (w.heap.size + 3) w2 (((w2.setCell ⟨w.heap.size + 1 + 1, 1, none⟩ (.slice za xss.length zc)).setCell ⟨w.heap.size + 1, 0, none⟩ (.int .i64 n)).setCell ⟨w.heap.size + 1, 1, none⟩ (.slice za xss.length zc)) :=
      (((Chg.refl _ _ _).setCell (by simp <;> omega) (by simp) _).setCell (by simp) (by simp <;> omega) _).setCell (by simp) (by simp <;> omega) _
    refine (ho2.chg hch (.inr (by simp))).mono (by simp <;> omega) (by simp)
  · have hbb : Below w.heap.size w w2 := ((((Below.refl _ _).alloc (Nat.le_refl _) _).alloc (by simp) _).alloc (by simp <;> omega) _).trans (hb2.mono (by simp <;> omega))
    exact ((hbb.setCell (by simp <;> omega) _).setCell (by simp) _).setCell (by simp) _

set_option maxHeartbeats 400000 in
theorem eqNetwork_c (n m : Int) (v u : Value) (xss yss : List (List Int)) (w : World) (hx : Rd2 w v xss) (hy : Rd2 w u yss) (he : xss = yss := by rfl) (hn : n = m := by rfl) :
    Calls Tryd.prog 19 #[.agg #[.int .i64 n, v], .agg #[.int .i64 m, u]] w (RetB (.bool (eqII xss yss)) w) := by
  subst he
  subst hn
  obtain ⟨a, c, rfl, h2, h3⟩ := hx.form
  obtain ⟨b, d, rfl, h4, h5⟩ := hy.form
  have HC := eqIntSS_c (.slice a xss.length c) (.slice b xss.length d) xss xss ((w.alloc (.cells #[.int .i64 n, .slice a xss.length c] 32)).alloc (.cells #[.int .i64 n, .slice b xss.length d] 32)) ((hx.alloc _).alloc _) ((hy.alloc _).alloc _)
  rw [eqII_self] at HC ⊢
  go_enter Tryd.func19, Tryd.ntmps19
  go_wp2_with (go_at_call 51; refine HC.mono ?_; rintro e w2 ⟨rfl, hd⟩)
  go_ret
  exact ⟨rfl, (((Below.refl _ _).alloc (Nat.le_refl _) _).alloc (by simp) _).trans (hd.below _)⟩

end Go.Proofs.YtlmbaijkeahkfaaDoor
