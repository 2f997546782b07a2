/- Walks: the functions on late records. -/
import Derived.Test.YtdagkgkllgpeeaaDoorOutLate3
import Derived.Test.YtdagkgkllgpeeaaDoorSlicesWalks
namespace Go.Proofs.YtdagkgkllgpeeaaDoor
open Go.RowKit
set_option linter.unusedVariables false
set_option linter.unusedSimpArgs false

/-- Two slices of numbers that the call owns, in different blocks. -/
def RetOwn11 (E : Nat) (xs ys : List Value) (w : World) (e : Ending) (w' : World) : Prop :=
  ∃ v0 v1, e = .returned (.tuple #[v0, v1]) ∧ Own w' E w.heap.size v0 xs ∧ Own w' E w.heap.size v1 ys ∧ (∀ k, v0.ownBlock = some k → v1.ownBlock ≠ some k) ∧ Below w.heap.size w w'

def tB (t : Int) : Bool := decide (0 ≤ t) && decide (t ≤ 1000)
theorem tB_in (t : Int) : tB t = inB t 0 1000 := by simp [tB, inB]
theorem timesOk_eq (T : List Int) : timesOk T = (decide (T.length ≤ 30) && T.all tB) := rfl
theorem k_TimesOk1 : Known 205 := known Tryd.func205 (by kernel_rfl) (by kernel_rfl)
theorem i_TimesOk1 (x : Int) (w : World) : Calls Tryd.prog 205 #[.int .i64 x] w fun e w' => e = .returned (.bool (!tB x)) ∧ w = w' := by
  by_cases h1 : x < 0
  · have H : Hid (tB x = false) := by rw [Hid, tB]; simp; omega
    go_enter Tryd.func205, Tryd.ntmps205
    go_wp2
    go_ret
    exact ⟨ret_bool (by rw [H.out]; rfl), rfl⟩
  · by_cases h2 : x > 1000
    · have H : Hid (tB x = false) := by rw [Hid, tB]; simp; omega
      go_enter Tryd.func205, Tryd.ntmps205
      go_wp2
      go_ret
      exact ⟨ret_bool (by rw [H.out]; simp <;> omega), rfl⟩
    · have H : Hid (tB x = true) := by rw [Hid, tB]; simp; omega
      go_enter Tryd.func205, Tryd.ntmps205
      go_wp2
      go_ret
      exact ⟨ret_bool (by rw [H.out]; simp <;> omega), rfl⟩
set_option maxHeartbeats 400000 in
theorem i_TimesOk (v : Value) (xs : List Int) (w : World) (h : Rd w v (ints xs)) :
    Calls Tryd.prog 134 #[v] w fun e w' => e = .returned (.bool (timesOk xs)) ∧ w = w' := by
  obtain ⟨a, c, rfl, h2, h3⟩ := h.formi
  have HF := f_ContainsFunc (fun x => !tB x) 205 #[] k_TimesOk1 _ xs w h (fun x _ => by simpa using i_TimesOk1 x w)
  have HR : Hid (timesOk xs = (decide (xs.length ≤ 30) && !(xs.any fun x => !tB x))) := by
    show _ = _
    rw [List.not_any_eq_all_not, timesOk_eq]
    simp
  generalize (xs.any fun x => !tB x) = r at *
  by_cases h16 : xs.length ≤ 30
  · have hd : decide ((xs.length : Int) ≤ 30) = true := by simp; omega
    go_enter Tryd.func134, Tryd.ntmps134
    go_wp2_with (go_at_call 119; refine HF.mono ?_; rintro e w' ⟨rfl, rfl⟩)
    go_ret
    exact ⟨ret_bool (by rw [HR.out]; simp [h16]), rfl⟩
  · have hd : decide ((xs.length : Int) ≤ 30) = false := by simp; omega
    go_enter Tryd.func134, Tryd.ntmps134
    go_wp2
    go_ret
    exact ⟨ret_bool (by rw [HR.out]; simp [h16]), rfl⟩
theorem i_isLate (v : Value) (xs : List Int) (s : Int) (w : World) (h : Rd w v (ints xs)) :
    Calls Tryd.prog 70 #[v, .int .i64 s] w fun e w' => e = .returned (.bool (lateOkB xs s)) ∧ w = w' := by
  have HT := i_TimesOk v xs w h
  obtain ⟨a, c, rfl, h2, h3⟩ := h.formi
  have HR : Hid (lateOkB xs s = (timesOk xs && (decide (0 ≤ s) && decide (s ≤ 1000)))) := rfl
  cases ht : timesOk xs
  · rw [ht] at HT HR
    clear ht
    go_enter Tryd.func70, Tryd.ntmps70
    go_wp2_with (go_at_call 134; refine HT.mono ?_; rintro e w' ⟨rfl, rfl⟩)
    go_ret
    exact ⟨ret_bool (by rw [HR.out]; rfl), rfl⟩
  · rw [ht] at HT HR
    clear ht
    by_cases h1 : 0 ≤ s
    · have d1 : decide (s ≥ 0) = true := by simpa using h1
      go_enter Tryd.func70, Tryd.ntmps70
      go_wp2_with (go_at_call 134; refine HT.mono ?_; rintro e w' ⟨rfl, rfl⟩)
      go_ret
      exact ⟨ret_bool (by rw [HR.out]; simp [h1] <;> omega), rfl⟩
    · have d1 : decide (s ≥ 0) = false := by simpa using h1
      go_enter Tryd.func70, Tryd.ntmps70
      go_wp2_with (go_at_call 134; refine HT.mono ?_; rintro e w' ⟨rfl, rfl⟩)
      go_ret
      exact ⟨ret_bool (by rw [HR.out]; simp [h1] <;> omega), rfl⟩
set_option maxHeartbeats 400000 in
theorem s_TimesOk (v : Value) (xs : List Int) (w : World) (h : Rd w v (ints xs)) :
    Calls Tryd.prog 132 #[v] w fun e w' => e = .returned (.bool (timesOk xs)) ∧ w = w' := by
  obtain ⟨a, c, rfl, h2, h3⟩ := h.formi
  by_cases h16 : xs.length ≤ 30
  · have hd : decide ((xs.length : Int) > 30) = false := by simp; omega
    go_enter Tryd.func132, Tryd.ntmps132
    go_wp2
    go_loop [10] (fun i => ∃ k : Nat, k ≤ xs.length ∧ i = .int .i64 k ∧ (∀ (j : Nat) x, j < k → xs[j]? = some x → tB x = true)) (fun i => xs.length - (intOf i).toNat)
    case atStart => exact ⟨0, Nat.zero_le _, rfl, fun j _ hj => by omega⟩
    case round =>
      obtain ⟨k, hk, rfl, hno⟩ := hrel
      have HN := Lib.hid hno
      clear hno
      by_cases hlt : k < xs.length
      · obtain ⟨ad, x, rfl, hc, hx⟩ := h.int hlt
        have HB := Lib.hid (tB_in x)
        cases hp : inB x 0 1000
        · go_wp2_with (go_at_call 116; refine (s_l01In _ _ _ _).mono ?_; rintro e w' ⟨rfl, rfl⟩)
          go_ret
          refine ⟨ret_bool ?_, rfl⟩
          have hf : xs.all tB = false := List.all_eq_false.2 ⟨x, List.mem_of_getElem? hx.out, by rw [HB.out, hp]; simp⟩
          rw [timesOk_eq, hf]; simp
        · go_wp2_with (go_at_call 116; refine (s_l01In _ _ _ _).mono ?_; rintro e w' ⟨rfl, rfl⟩)
          go_round
          case rel => exact ⟨k + 1, by omega, by go_num, fun j y hj hy => by
            by_cases e : j = k
            · subst e
              rw [hx.out] at hy
              cases hy
              rw [HB.out, hp]
            · exact HN.out j y (by omega) hy⟩
          case measure => simp [intOf]; omega
      · obtain rfl : k = xs.length := by omega
        go_wp2
        go_ret
        refine ⟨ret_bool ?_, rfl⟩
        have hf : xs.all tB = true := List.all_eq_true.2 fun x hx => by
          obtain ⟨j, hj, rfl⟩ := List.getElem_of_mem hx
          exact HN.out j _ hj (List.getElem?_eq_getElem hj)
        rw [timesOk_eq, hf]; simp [h16]
  · have hd : decide ((xs.length : Int) > 30) = true := by simp; omega
    go_enter Tryd.func132, Tryd.ntmps132
    go_wp2
    go_ret
    exact ⟨ret_bool (by rw [timesOk_eq]; simp [h16]), rfl⟩
theorem s_l24Ok (v : Value) (xs : List Int) (s : Int) (w : World) (h : Rd w v (ints xs)) :
    Calls Tryd.prog 68 #[v, .int .i64 s] w fun e w' => e = .returned (.bool (lateOkB xs s)) ∧ w = w' := by
  have HT := s_TimesOk v xs w h
  obtain ⟨a, c, rfl, h2, h3⟩ := h.formi
  have HR : Hid (lateOkB xs s = (timesOk xs && inB s 0 1000)) := by rw [Hid, ← tB_in]; rfl
  cases ht : timesOk xs
  · rw [ht] at HT HR
    clear ht
    go_enter Tryd.func68, Tryd.ntmps68
    go_wp2_with (go_at_call 132; refine HT.mono ?_; rintro e w' ⟨rfl, rfl⟩)
    go_ret
    exact ⟨ret_bool (by rw [HR.out]; rfl), rfl⟩
  · rw [ht] at HT HR
    clear ht
    have HI := Lib.hid (fun wx => s_l01In s 0 1000 wx)
    generalize inB s 0 1000 = r at *
    go_enter Tryd.func68, Tryd.ntmps68
    go_wp2_with (first | (go_at_call 132; refine HT.mono ?_; rintro e w' ⟨rfl, rfl⟩) | (go_at_call 116; refine (HI.out _).mono ?_; rintro e w' ⟨rfl, rfl⟩))
    go_ret
    exact ⟨ret_bool (by rw [HR.out]; simp), rfl⟩

def mostW (T : List Int) (s : Int) : Int := if lateOkB T s then lateMost T s else -1
def delaysO (T : List Int) (s : Int) : List Int := if lateOkB T s then lateDel T s else []
def marksO (T : List Int) (s : Int) : List Int := if lateOkB T s then lateMarks T s else []
def emitO (T : List Int) (s : Int) : List Int := if lateOkB T s then lateOut T s else []
def emitL (T : List Int) (s : Int) : List Int := if lateOkB T s then lateLate T s else []
theorem late_lens {T : List Int} {s : Int} (h : lateOkB T s = true) : (lateOut T s).length ≤ 30 ∧ (lateLate T s).length ≤ 30 ∧ (lateDel T s).length = T.length ∧ (lateMarks T s).length = T.length := by
  obtain ⟨⟨h1, h2⟩, h3⟩ := lateOkB_iff.1 h
  have H := lrun_inv h2 h3 T.length (Nat.le_refl _)
  have := H.len
  refine ⟨?_, ?_, ?_, ?_⟩
  · rw [lateOut, List.length_append]; omega
  · rw [lateLate]; omega
  · rw [lateDel, setAll_length]; exact H.del
  · exact H.marks
theorem N_DelaysOf (T : List Int) (_ : T.length ≤ 1048576) (s : Int) : (delaysO T s).length ≤ 2000000 := by
  unfold delaysO
  split
  · rename_i h; have := (late_lens h).2.2.1; omega
  · simp
theorem N_EmitOrder (T : List Int) (_ : T.length ≤ 1048576) (s : Int) : (emitO T s).length ≤ 2000000 := by
  unfold emitO
  split
  · rename_i h; have := (late_lens h).1; omega
  · simp
theorem N1_EmitOrder (T : List Int) (_ : T.length ≤ 1048576) (s : Int) : (emitL T s).length ≤ 2000000 := by
  unfold emitL
  split
  · rename_i h; have := (late_lens h).2.1; omega
  · simp

theorem fld_most (v0 v1 v2 v3 v4 : Value) (W : World) : (Instr.field 56 (.agg #[v0, v1, v2, v3, v4]) 4).run Tryd.prog W = .ok v4 W := by kernel_rfl
theorem fld_del (v0 v1 v2 v3 v4 : Value) (W : World) : (Instr.field 56 (.agg #[v0, v1, v2, v3, v4]) 3).run Tryd.prog W = .ok v3 W := by kernel_rfl
theorem fld_marks (v0 v1 v2 v3 v4 : Value) (W : World) : (Instr.field 56 (.agg #[v0, v1, v2, v3, v4]) 2).run Tryd.prog W = .ok v2 W := by kernel_rfl

set_option maxRecDepth 100000 in
set_option maxHeartbeats 1000000 in
theorem S_EmitOrder (w : World) (v : Value) (xs : List Int) (h : Rd w v (ints xs)) (_ : I64s xs) (_ : xs.length ≤ 1048576) (s : Int) (_ : I64 s) : Calls Tryd.prog 69 #[v, .int .i64 s] w (RetOwn11 3 (ints (emitO xs s)) (ints (emitL xs s)) w) := by
  have HO := s_l24Ok v xs s w h
  cases hok : lateOkB xs s
  · rw [hok] at HO
    have HR0 : Hid (emitO xs s = []) := by rw [Hid, emitO, hok]; rfl
    have HR1 : Hid (emitL xs s = []) := by rw [Hid, emitL, hok]; rfl
    have HOK := Lib.hid HO
    clear HO hok
    obtain ⟨a, c, rfl, h2, h3⟩ := h.formi
    go_enter Tryd.func69, Tryd.ntmps69
    go_wp2_with (go_at_call 68; refine HOK.out.mono ?_; rintro e w' ⟨rfl, rfl⟩)
    go_ret2
    exact ⟨_, _, rfl, by rw [HR0.out]; exact Own.nil _ _ _, by rw [HR1.out]; exact Own.nil _ _ _, (fun k h => by cases h), Below.refl _ _⟩
  · rw [hok] at HO
    have HR0 : Hid (emitO xs s = lateOut xs s) := by rw [Hid, emitO, hok]; rfl
    have HR1 : Hid (emitL xs s = lateLate xs s) := by rw [Hid, emitL, hok]; rfl
    obtain ⟨⟨ha, hb⟩, hc⟩ := lateOkB_iff.1 hok
    have HE := Lib.hid (s_l24Run v xs s w h ha hb hc)
    have HOK := Lib.hid HO
    clear HO hok ha hb hc
    obtain ⟨a, c, rfl, h2, h3⟩ := h.formi
    go_enter Tryd.func69, Tryd.ntmps69
    go_wp2_with (first | (go_at_call 68; refine HOK.out.mono ?_; rintro e w' ⟨rfl, rfl⟩) | (go_at_call 133; refine HE.out.mono ?_; rintro e w2 ⟨vo, vl, vd, rfl, hO, hb⟩; obtain ⟨ao, no, co, rfl, _, _, _⟩ := hO.o0.rd.formN; obtain ⟨al, nl, cl, rfl, _, _, _⟩ := hO.o1.rd.formN; obtain ⟨ad, nd, cd, rfl, _, _, _⟩ := hO.o2.rd.formN))
    go_ret2
    exact ⟨_, _, rfl, by rw [HR0.out]; exact hO.o0, by rw [HR1.out]; exact hO.o1, (List.pairwise_cons.1 hO.ap).1 _ (.head _), hb⟩

end Go.Proofs.YtdagkgkllgpeeaaDoor
