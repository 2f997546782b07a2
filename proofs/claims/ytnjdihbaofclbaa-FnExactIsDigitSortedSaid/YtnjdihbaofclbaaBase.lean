/- Walks: the helpers of the laws. -/
import Derived.Test.YtnjdihbaofclbaaRows
import Derived.Test.YtnjdihbaofclbaaMem
import Derived.BigQuiet
import Derived.Deep.QuietTactic
namespace Go.Proofs.Ytnjdihbaofclbaa
open Go.RowKit
set_option linter.unusedVariables false
set_option linter.unusedSimpArgs false

/-- A new slice is returned; nothing that existed has turned. -/
def RetOwn (E : Nat) (xs : List Value) (w : World) (e : Ending) (w' : World) : Prop :=
  ∃ v, e = .returned v ∧ Own w' E w.heap.size v xs ∧ Below w.heap.size w w'

theorem ret_int {k : IntKind} {a b : Int} (h : a = b) : Ending.returned (.int k a) = .returned (.int k b) := by rw [h]
theorem ret_bool {a b : Bool} (h : a = b) : Ending.returned (.bool a) = .returned (.bool b) := by rw [h]

/-- It returns the value v, and nothing that existed has turned. -/
def RetB (v : Value) (w : World) (e : Ending) (w' : World) : Prop := e = .returned v ∧ Below w.heap.size w w'
theorem retB_same {P : Program} {f : FuncId} {args : Array Value} {w : World} {v : Value} (h : Calls P f args w fun e w' => e = .returned v ∧ w = w') : Calls P f args w (RetB v w) :=
  h.mono fun _ _ ⟨he, hw⟩ => ⟨he, hw ▸ Below.refl _ _⟩
theorem retB_dr {P : Program} {f : FuncId} {args : Array Value} {w : World} {v : Value} (h : Calls P f args w fun e w' => e = .returned v ∧ Dr w w') : Calls P f args w (RetB v w) :=
  h.mono fun _ _ ⟨he, hw⟩ => ⟨he, hw.below _⟩
theorem RetOwn.nil (w : World) (E : Nat) : RetOwn E (ints []) w (.returned (.slice none 0 0)) w := ⟨_, rfl, Own.nil w E _, Below.refl _ _⟩

theorem elI : ElemOk Try.prog 26 3 8 (.int .i64 0) := by
  obtain ⟨i, hi, h0, h1, h2⟩ := info_parts (show (Try.prog.info? 3).map (fun i => (i.zero, i.size, i.bytes)) = some (some (.int .i64 0), 1, 8) by kernel_rfl)
  exact ⟨i, Try.underlying26, hi, h0, h1, h2, rfl⟩

theorem copy_step (xs : List Int) (k : Nat) (x : Int) (h : xs[k]? = some x) : (xs.take k ++ List.replicate (xs.length - k) 0).set k x = xs.take (k + 1) ++ List.replicate (xs.length - (k + 1)) 0 := by
  obtain ⟨hk, rfl⟩ := List.getElem?_eq_some_iff.1 h
  apply List.ext_getElem?
  intro j
  simp only [List.getElem?_set, List.getElem?_append, List.length_take, List.getElem?_take, List.getElem?_replicate, List.length_append, List.length_replicate]
  grind

set_option maxHeartbeats 400000 in
theorem toIntS_c (v : Value) (xs : List Int) (w : World) (h : Rd w v (ints xs)) (hl : xs.length ≤ 2000000) :
    Calls Try.prog 19 #[v] w (RetOwn 3 (ints xs) w) := by
  obtain ⟨a, c, rfl, h2, h3⟩ := h.formi
  go_enter Try.func19, Try.ntmps19
  go_wp2_with (at_make; refine wpList_mk rfl _ _ 26 rfl elI rfl rfl (Nat.le_refl _) (by omega) (by omega) ?_; intro b w1 hb1 hown1 hg1)
  go_loopw [4] (fun i wr => ∃ k : Nat, k ≤ xs.length ∧ i = .int .i64 k ∧ Own wr 3 w.heap.size (.slice (some b) xs.length xs.length) (ints (xs.take k ++ List.replicate (xs.length - k) 0)) ∧ Below w.heap.size w wr)
    (fun i _ => xs.length - (intOf i).toNat)
  case atStart => exact ⟨0, Nat.zero_le _, rfl, by simpa [ints] using hown1, (Below.refl _ _).grown hg1 (Nat.le_refl _) (fun _ h => by cases h)⟩
  case round =>
    obtain ⟨k, hk, rfl, hown, hbel⟩ := hrel
    by_cases hlt : k < xs.length
    · obtain ⟨ad, x, rfl, hc, hx⟩ := (h.below hbel).int hlt
      have hl2 : k < (xs.take k ++ List.replicate (xs.length - k) 0).length := by simp; omega
      obtain ⟨ad2, y, had2, hc2, _⟩ := hown.rd.int hl2
      obtain rfl : b = ad2 := by injection had2
      clear had2
      have hf2 := hown.frozen rfl k
      have hs := (hown.seti rfl hl2 x).1
      have hb2 := hown.below_set rfl hl2 (.int .i64 x) hbel (Nat.le_refl _)
      rw [copy_step xs k x hx.out] at hs
      clear hown hbel
      go_wp2
      go_roundw
      case rel => exact ⟨k + 1, by omega, by go_num, hs, hb2⟩
      case measure => simp [intOf]; omega
    · obtain rfl : k = xs.length := by omega
      go_wp2
      go_ret
      exact ⟨_, rfl, by simpa using hown, hbel⟩
def eqI (xs ys : List Int) : Bool := decide (xs = ys)
theorem eqI_len {xs ys : List Int} (h : xs.length ≠ ys.length) : eqI xs ys = false := by
  simp only [eqI, decide_eq_false_iff_not]
  rintro rfl
  exact h rfl
theorem eqI_no {xs ys : List Int} {k : Nat} {x y : Int} (hx : xs[k]? = some x) (hy : ys[k]? = some y) (h : x ≠ y) : eqI xs ys = false := by
  simp only [eqI, decide_eq_false_iff_not]
  rintro rfl
  rw [hx] at hy
  cases hy
  exact h rfl
theorem eqI_yes {xs ys : List Int} (hl : xs.length = ys.length) (h : ∀ (j : Nat) x y, j < xs.length → xs[j]? = some x → ys[j]? = some y → x = y) : eqI xs ys = true := by
  simp only [eqI, decide_eq_true_eq]
  apply List.ext_getElem hl
  intro j h1 h2
  exact h j _ _ h1 (List.getElem?_eq_getElem h1) (List.getElem?_eq_getElem h2)
theorem eqI_self (xs : List Int) : eqI xs xs = true := by simp [eqI]

/-- It returns the value v, and but for draws the world is as it was. -/
def RetQ (v : Value) (w : World) (e : Ending) (w' : World) : Prop := e = .returned v ∧ Dr w w'

set_option maxHeartbeats 400000 in
theorem eqIntS_c (v u : Value) (xs ys : List Int) (w : World) (hx : Rd w v (ints xs)) (hy : Rd w u (ints ys)) :
    Calls Try.prog 21 #[v, u] w (RetQ (.bool (eqI xs ys)) w) := by
  obtain ⟨a, c, rfl, h2, h3⟩ := hx.formi
  obtain ⟨b, d, rfl, h4, h5⟩ := hy.formi
  by_cases hl : xs.length = ys.length
  · have hL : ((xs.length : Int) != (ys.length : Int)) = false := by simp [hl]
    have HL := Lib.hid hl
    clear hl
    have hle : xs.length ≤ ys.length := by have := HL.out; omega
    go_enter Try.func21, Try.ntmps21
    go_wp2
    go_loopw [5] (fun i wr => ∃ k : Nat, k ≤ xs.length ∧ i = .int .i64 k ∧ (∀ (j : Nat) x y, j < k → xs[j]? = some x → ys[j]? = some y → x = y) ∧ Dr w wr) (fun i _ => xs.length - (intOf i).toNat)
    case atStart => exact ⟨0, Nat.zero_le _, rfl, fun j _ _ hj => by omega, Dr.refl _⟩
    case round =>
      obtain ⟨k, hk, rfl, hno, hw⟩ := hrel
      have HN := Lib.hid hno
      clear hno
      by_cases hlt : k < xs.length
      · obtain ⟨ad, x, rfl, hc, hxk⟩ := (hx.dr hw).int hlt
        obtain ⟨bd, y, rfl, hc2, hyk⟩ := (hy.dr hw).int (show k < ys.length by omega)
        have hlt2 : (k : Int) < (ys.length : Int) := by omega
        have hlt1 : (k : Int) < (xs.length : Int) := by omega
        by_cases e : x = y
        · have e1 : (x != y) = false := by simp [e]
          go_wp2
          go_quiet (fail)
          go_wp2
          go_roundw
          case rel => exact ⟨k + 1, by omega, by go_num, fun j p q hj hp hq => by
            by_cases ej : j = k
            · subst ej
              rw [hxk.out] at hp
              rw [hyk.out] at hq
              cases hp
              cases hq
              exact e
            · exact HN.out j p q (by omega) hp hq, hw.step _⟩
          case measure => simp [intOf]; omega
        · have e1 : (x != y) = true := by simp [e]
          have HE := Lib.hid (eqI_no hxk.out hyk.out e)
          go_wp2
          go_quiet (fail)
          go_wp2
          go_ret
          exact ⟨ret_bool HE.out.symm, hw.step _⟩
      · obtain rfl : k = xs.length := by omega
        have HE := Lib.hid (eqI_yes HL.out HN.out)
        go_wp2
        go_ret
        exact ⟨ret_bool HE.out.symm, hw⟩
  · have hL : ((xs.length : Int) != (ys.length : Int)) = true := by simp; omega
    have HE := Lib.hid (eqI_len hl)
    clear hl
    go_enter Try.func21, Try.ntmps21
    go_wp2
    go_ret
    exact ⟨ret_bool HE.out.symm, Dr.refl _⟩

/-- The marks m, m + 1, .. -/
def marks (m : Int) (n : Nat) : List Int := (List.range n).map fun (i : Nat) => m + (i : Int)
theorem marks_length (m : Int) (n : Nat) : (marks m n).length = n := by simp [marks]
theorem marks_get (m : Int) (n k : Nat) (h : k < n) : (marks m n)[k]? = some (m + (k : Int)) := by simp [marks, h]
theorem marks_step (xs : List Int) (m : Int) (k : Nat) (h : k < xs.length) : (marks m k ++ xs.drop k).set k (m + (k : Int)) = marks m (k + 1) ++ xs.drop (k + 1) := by
  have h1 : marks m (k + 1) = marks m k ++ [m + (k : Int)] := by simp [marks, List.range_succ]
  rw [h1, List.drop_eq_getElem_cons h, List.set_append_right _ _ (by rw [marks_length]; omega), marks_length, Nat.sub_self, List.set_cons_zero, List.append_assoc]
  rfl

set_option maxHeartbeats 400000 in
theorem markIntS_c (v : Value) (xs : List Int) (m : Int) (w : World) (B : Nat) (ho : Own w 3 B v (ints xs)) (hl : xs.length ≤ 2000000) (hm : 0 ≤ m) (hm2 : m ≤ 1000000000) :
    Calls Try.prog 28 #[v, .int .i64 m] w fun e w' => e = .returned (.int .i64 (m + (xs.length : Int))) ∧ Own w' 3 B v (ints (marks m xs.length)) ∧ w.grownBy w' v.ownBlock := by
  obtain ⟨a, c, rfl, h2, h3⟩ := ho.rd.formi
  have HV : Hid ((Value.slice a xs.length c).ownBlock = a.map Addr.block) := by cases a <;> rfl
  go_enter Try.func28, Try.ntmps28
  go_wp2
  go_loopw [1, 5] (fun mm i wr => ∃ k : Nat, k ≤ xs.length ∧ i = .int .i64 k ∧ mm = .int .i64 (m + (k : Int)) ∧ Own wr 3 B (.slice a xs.length c) (ints (marks m k ++ xs.drop k)) ∧ w.grownBy wr (Value.slice a xs.length c).ownBlock) (fun _ i _ => xs.length - (intOf i).toNat)
  case atStart => exact ⟨0, Nat.zero_le _, rfl, by simp, by simpa [marks] using ho, World.grownBy.refl _ _⟩
  case round =>
    obtain ⟨k, hk, rfl, rfl, hown, hg⟩ := hrel
    by_cases hlt : k < xs.length
    · have hl2 : k < (marks m k ++ xs.drop k).length := by simp [marks_length]; omega
      obtain ⟨ad, y, rfl, hc, _⟩ := hown.rd.int hl2
      have hf := hown.frozen rfl k
      have hs := hown.seti rfl hl2 (m + (k : Int))
      rw [marks_step xs m k hlt] at hs
      have hg2 : w.grownBy (wr.setCell (ad.add k) (.int .i64 (m + (k : Int)))) (Value.slice (some ad) xs.length c).ownBlock :=
        ⟨hs.2.os.trans hg.os, hs.2.tape.trans hg.tape, hs.2.output.trans hg.output, Nat.le_trans hg.size hs.2.size, fun i hi hne => (hs.2.block i (Nat.lt_of_lt_of_le hi hg.size) hne).trans (hg.block i hi hne)⟩
      have hs1 := hs.1
      clear hs hg hown HV
      go_wp2
      go_roundw
      case rel => exact ⟨k + 1, by omega, by go_num, by go_num, hs1, hg2⟩
      case measure => simp [intOf]; omega
    · obtain rfl : xs.length = k := by omega
      rw [List.drop_length, List.append_nil] at hown
      clear HV
      go_wp2
      go_ret
      exact ⟨rfl, hown, hg⟩

set_option maxHeartbeats 400000 in
theorem heldIntS_c (v : Value) (n : Nat) (m : Int) (w : World) (h : Rd w v (ints (marks m n))) (hl : n ≤ 2000000) (hm : 0 ≤ m) (hm2 : m ≤ 1000000000) :
    Calls Try.prog 29 #[v, .int .i64 m] w fun e w' => e = .returned (.int .i64 (m + (n : Int))) ∧ w = w' := by
  obtain ⟨a, c, rfl, h2, h3⟩ := h.formi
  rw [marks_length] at h h2 ⊢
  go_enter Try.func29, Try.ntmps29
  go_wp2
  go_loop [1, 5] (fun mm i => ∃ k : Nat, k ≤ n ∧ i = .int .i64 k ∧ mm = .int .i64 (m + (k : Int))) (fun _ i => n - (intOf i).toNat)
  case atStart => exact ⟨0, Nat.zero_le _, rfl, by simp⟩
  case round =>
    obtain ⟨k, hk, rfl, rfl⟩ := hrel
    by_cases hlt : k < n
    · obtain ⟨ad, x, rfl, hc, hx⟩ := h.int (k := k) (by rw [marks_length]; exact hlt)
      have e : x = m + (k : Int) := by have := hx.out; rw [marks_get _ _ _ hlt] at this; injection this with this; exact this.symm
      subst e
      go_wp2
      go_round
      case rel => exact ⟨k + 1, by omega, by go_num, by go_num⟩
      case measure => simp [intOf]; omega
    · obtain rfl : n = k := by omega
      go_wp2
      go_ret
      exact ⟨rfl, rfl⟩

end Go.Proofs.Ytnjdihbaofclbaa
