/- Walks: late records in the program: what goes out. -/
import Derived.Test.YtdagkgkllgpeeaaDoorOutLate
namespace Go.Proofs.YtdagkgkllgpeeaaDoor
open Go.RowKit
set_option linter.unusedVariables false
set_option linter.unusedSimpArgs false

theorem f_isNaN1 (x : Int) (w : World) : Calls Tryd.prog 207 #[.int .i64 x] w fun e w' => e = .returned (.bool false) ∧ w = w' := by
  go_enter Tryd.func207, Tryd.ntmps207
  go_wp2
  go_ret
  exact ⟨rfl, rfl⟩
theorem f_Compare (x y : Int) (w : World) : Calls Tryd.prog 138 #[.int .i64 x, .int .i64 y] w fun e w' => e = .returned (.int .i64 (cmpV id x y)) ∧ w = w' := by
  by_cases h1 : x < y
  · have HE : Hid (cmpV id x y = -1) := by rw [Hid, cmpV]; exact if_pos h1
    go_enter Tryd.func138, Tryd.ntmps138
    go_wp2_with (go_at_call 207; refine (f_isNaN1 _ _).mono ?_; rintro e w' ⟨rfl, rfl⟩)
    go_ret
    exact ⟨ret_int HE.out.symm, rfl⟩
  · by_cases h2 : y < x
    · have HE : Hid (cmpV id x y = 1) := by rw [Hid, cmpV]; exact (if_neg h1).trans (if_pos h2)
      go_enter Tryd.func138, Tryd.ntmps138
      go_wp2_with (go_at_call 207; refine (f_isNaN1 _ _).mono ?_; rintro e w' ⟨rfl, rfl⟩)
      go_ret
      exact ⟨ret_int HE.out.symm, rfl⟩
    · have HE : Hid (cmpV id x y = 0) := by rw [Hid, cmpV]; exact (if_neg h1).trans (if_neg h2)
      go_enter Tryd.func138, Tryd.ntmps138
      go_wp2_with (go_at_call 207; refine (f_isNaN1 _ _).mono ?_; rintro e w' ⟨rfl, rfl⟩)
      go_ret
      exact ⟨ret_int HE.out.symm, rfl⟩

theorem k_emit11 : Known 137 := known Tryd.func137 (by kernel_rfl) (by kernel_rfl)
theorem k_emit1 : Known 135 := known Tryd.func135 (by kernel_rfl) (by kernel_rfl)
theorem k_emit2 : Known 139 := known Tryd.func139 (by kernel_rfl) (by kernel_rfl)
theorem k_emit3 : Known 140 := known Tryd.func140 (by kernel_rfl) (by kernel_rfl)
set_option maxHeartbeats 1000000 in
theorem i_emit11 (T : List Int) (v : Value) (q : Addr) (w : World) (hq : w.cell? q = some v) (h : Rd w v (ints T)) (X Y : Nat) (hX : X < T.length) (hY : Y < T.length) :
    Calls Tryd.prog 137 (#[.int .i64 X, .int .i64 Y] ++ #[.pointer (some q)]) w (RetQ (.int .i64 (cmpV (ltK T) X Y)) w) := by
  obtain ⟨a, n, c, rfl, HN, hnc, hc⟩ := h.formN
  obtain ⟨ad, x, rfl, hcx, hx⟩ := h.int hX
  obtain ⟨ad2, y, had2, hcy, hy⟩ := h.int hY
  obtain rfl : ad = ad2 := by injection had2
  clear had2
  have HE : Hid (cmpV (ltK T) X Y = cmpV id x y) := by
    rw [Hid, cmpV, cmpV, ltK_nat, ltK_nat, getD_of hx.out, getD_of hy.out]; rfl
  have HK := Lib.hid (fun wx => f_Compare x y wx)
  have i1 : (X : Int) < (n : Int) := by have := HN.out; omega
  have i2 : (Y : Int) < (n : Int) := by have := HN.out; omega
  generalize cmpV id x y = kr at *
  go_enter Tryd.func137, Tryd.ntmps137
  go_wp2
  go_quiet ((go_at_call 138; exact Calls.quiet_of_same ((HK.out _).mono fun _ _ hh => ⟨hh.1, hh.2.symm⟩)))
  go_wp2
  go_ret
  exact ⟨ret_int HE.out.symm, (Dr.refl _).step _⟩
theorem i_emit2 (t mk : Int) (q : Addr) (w : World) (hq : w.cell? q = some (.int .i64 mk)) :
    Calls Tryd.prog 139 (#[.int .i64 t] ++ #[.pointer (some q)]) w (RetQ (.bool (decide (t ≤ mk))) w) := by
  obtain ⟨b, hb⟩ : ∃ b, decide (t ≤ mk) = b := ⟨_, rfl⟩
  rw [hb]
  go_enter Tryd.func139, Tryd.ntmps139
  go_wp2
  go_ret
  exact ⟨rfl, Dr.refl _⟩
theorem i_emit3 (t : Int) (w : World) : Calls Tryd.prog 140 (#[.int .i64 t] ++ #[]) w (RetQ (.bool true) w) := by
  go_enter Tryd.func140, Tryd.ntmps140
  go_wp2
  go_ret
  exact ⟨rfl, Dr.refl _⟩

def duo (T : List Int) (pr : Int → Bool) (x : Int) : Bool := pr (ltK T x)
theorem filter_snoc_pos {p : Int → Bool} {Q : List Int} {j : Nat} {y : Int} (hy : Q[j]? = some y) (h : p y = true) : (Q.take (j + 1)).filter p = (Q.take j).filter p ++ [y] := by
  rw [take_snoc' hy, List.filter_append]; simp [h]
theorem filter_snoc_neg {p : Int → Bool} {Q : List Int} {j : Nat} {y : Int} (hy : Q[j]? = some y) (h : p y = false) : (Q.take (j + 1)).filter p = (Q.take j).filter p := by
  rw [take_snoc' hy, List.filter_append]; simp [h]
def RetSt (K : Nat → Prop) (be bw : Nat) (vl vm vd : Value) (O Lt Mk D W : List Int) (ms : Int) (w : World) (e : Ending) (w' : World) : Prop :=
  e = .returned (.tuple #[]) ∧ ∃ vo vw, St K be bw w' vo vl vm vd vw O Lt Mk D W ms [] ∧ Fr K w w'
set_option maxRecDepth 100000 in
set_option maxHeartbeats 16000000 in
theorem i_emit1 (pr : Int → Bool) (fn : Nat) (cap : Array Value) (hknown : Known fn) (K : Nat → Prop) (be bw bt : Nat) (vT : Value) (T : List Int) (n : Nat) (at_ : Int) (w : World)
    (vo vl vm vw : Value) (ad : Addr) (cd : Nat) (O Lt Mk D W : List Int) (ms : Int) (hKe : ¬ K be) (hKw : ¬ K bw) (hew : be ≠ bw) (hKs : ∀ k, K k → k < w.heap.size) (hKt : K bt) (hbt : w.heap[bt]? = some (.cells #[vT] 22 (0, 0)))
    (hT : Rd w vT (ints T)) (hTK : 0 < T.length → ∀ k, vT.ownBlock = some k → K k) (hTn : T.length = n) (hn : n ≤ 30) (hSt : St K be bw w vo vl vm (.slice (some ad) n cd) vw O Lt Mk D W ms [])
    (hW : ∀ x ∈ W, ∃ j : Nat, j < n ∧ x = j) (hWl : W.length ≤ 30) (hOl : O.length ≤ 60) (hDl : D.length = n) (hat : -1 ≤ at_ ∧ at_ ≤ 30)
    (his : ∀ wx t, Fr K w wx → t ∈ T → Calls Tryd.prog fn (#[.int .i64 t] ++ cap) wx (RetQ (.bool (pr t)) wx)) :
    Calls Tryd.prog 135 (#[.int .i64 at_, .func (.func fn) #[] cap] ++ #[.pointer (some ⟨bw, 0, none⟩), .pointer (some ⟨bt, 0, none⟩), .pointer (some ⟨be, 0, none⟩)]) w
      (RetSt K be bw vl vm (.slice (some ad) n cd) (O ++ (srtS (ltK T) W).filter (duo T pr)) Lt Mk (setAll D ((srtS (ltK T) W).filter (duo T pr)) at_) ((srtS (ltK T) W).filter fun x => !duo T pr x) ms w) := by
  have HTN := Lib.hid hTn
  obtain ⟨aw, nw, cw, rfl, HNW, _, _⟩ := hSt.ow.o4.rd.formN
  have hnw : nw ≤ 30 := by have := HNW.out; dsimp only at this; omega
  have HS := Lib.hid (f_SortStable40 (ltK T) (fun x => ∃ j : Nat, j < n ∧ x = j) 137 #[.pointer (some ⟨bt, 0, none⟩)] k_emit11 (.slice aw nw cw) W nw 0 w hSt.ow.o4 HNW.out.symm (by omega) hW
    (fun wx x y hg hx hy => by
      obtain ⟨X, hX, rfl⟩ := hx
      obtain ⟨Y, hY, rfl⟩ := hy
      have hf : Fr K w wx := Fr.row hg (hSt.nk (.slice aw nw cw, W) (by simp)) hKs
      exact i_emit11 T vT ⟨bt, 0, none⟩ wx ((box_cell ((hf.block bt hKt).trans hbt) 0)) (hf.rd hT hTK) X Y (by omega) (by omega)))
  obtain ⟨Q, hQ⟩ : ∃ Q, srtS (ltK T) W = Q := ⟨_, rfl⟩
  have HQL : Hid (Q.length = nw) := by rw [Hid, ← hQ, srtS_length]; exact HNW.out.symm
  have HQW : Hid (∀ x ∈ Q, ∃ j : Nat, j < n ∧ x = j) := fun x hx => hW x (by rw [← hQ] at hx; exact (srtS_mem _ _).1 hx)
  rw [hQ] at HS ⊢
  clear hQ hW hWl
  have HIS := Lib.hid his
  have HKS := Lib.hid hKs
  have HTK := Lib.hid hTK
  have HDL := Lib.hid hDl
  have HBT := Lib.hid hbt
  clear his hKs hTK hTn hDl hbt
  have c0 := hSt.cells.2.1
  go_enter Tryd.func135, Tryd.ntmps135
  go_wp2_with (go_at_call 136; refine HS.out.mono ?_; rintro e w1 ⟨rfl, ho1, hg1⟩; have hS1 := hSt.sort HKS.out hg1 ho1; have hb1 : Below w1.heap.size w1 (w1.alloc (.cells #[] 3)) := (Below.refl _ _).alloc (Nat.le_refl _) (.cells #[] 3); have hS2 := hS1.1.more (fun k hk => by have := HKS.out k hk; have := hS1.2.size; omega) hb1 (Own.lit0 w1 3 (Nat.le_refl _)); have c2 := hS2.cells.2.1)
  have hF2 : Fr K w (w1.alloc (.cells #[] 3)) := hS1.2.trans (Fr.below hb1 (fun k hk => by have := HKS.out k hk; have := hS1.2.size; omega))
  have hS3 : ∀ (p0 p1 : Int → Bool) (A : Value) (V : List Int) (DD : List Int), St K be bw (w1.alloc (.cells #[] 3)) vo vl vm (.slice (some ad) n cd) A O Lt Mk D V ms [(.slice (some ⟨w1.heap.size, 0, none⟩) 0 0, [])] → St K be bw (w1.alloc (.cells #[] 3)) vo vl vm (.slice (some ad) n cd) A (O ++ (Q.take 0).filter p0) Lt Mk (setAll D ((Q.take 0).filter p0) at_) V ms [(.slice (some ⟨w1.heap.size, 0, none⟩) 0 0, (Q.take 0).filter p1)] := fun p0 p1 A V DD h => by simpa [setAll_nil] using h
  replace hS2 := hS3 (duo T pr) (fun x => !duo T pr x) _ _ [] hS2
  clear hS1 hb1 hS3 c2 hg1 ho1 c0 hSt HS
  go_loopg [7, 16] nw (fun gj vr iv wr => ∃ (j : Nat) (vo' : Value), gj = nw - j ∧ j ≤ nw ∧ iv = .int .i64 (j : Int) ∧ St K be bw wr vo' vl vm (.slice (some ad) n cd) (.slice aw nw cw) (O ++ (Q.take j).filter (duo T pr)) Lt Mk (setAll D ((Q.take j).filter (duo T pr)) at_) Q ms [(vr, (Q.take j).filter fun x => !duo T pr x)] ∧ Fr K w wr)
  case atStart => exact ⟨0, vo, rfl, Nat.zero_le _, rfl, hS2, hF2⟩
  case round =>
    clear hS2 hF2
    obtain ⟨j, vo', hgj, hj, rfl, hSt, hF⟩ := hrel
    by_cases hlt : j < nw
    · have i0 : (j : Int) < (nw : Int) := by omega
      obtain ⟨y, hy⟩ : ∃ y, Q[j]? = some y := ⟨_, List.getElem?_eq_getElem (show j < Q.length by have := HQL.out; omega)⟩
      obtain ⟨p, rfl⟩ : ∃ p, aw = some p := hSt.ow.o4.some_of (by rw [ints_length]; have := HQL.out; show 0 < Q.length; omega)
      have how := hSt.ow.o4
      dsimp only at how
      have hcy := how.rd.cell_i hy
      obtain ⟨Y, hYk, rfl⟩ := HQW.out y (List.mem_of_getElem? hy)
      have HY := Lib.hid hy
      obtain ⟨aT, nT, cT, rfl, HN, hnc, hc⟩ := hT.formN
      obtain ⟨aT, t, rfl, hct, ht⟩ := (hF.rd hT HTK.out).int (k := Y) (by have := HTN.out; omega)
      have i1 : (Y : Int) < (nT : Int) := by have := HN.out; have := HTN.out; omega
      have cb := box_cell ((hF.block bt hKt).trans HBT.out) 0
      obtain ⟨⟨c0, c1, c2, c3, c4⟩, cw0, fe, fw⟩ := hSt.cells
      have HIY := Lib.hid (HIS.out wr t hF (List.mem_of_getElem? ht.out))
      have hcall : ∀ W, (callFunc fn (#[.int .i64 t] ++ cap)).run Tryd.prog W = .ok (.enter fn (#[.int .i64 t] ++ cap)) W := fun W => hknown _ W
      have HTY : Hid (duo T pr (Y : Int) = pr t) := by rw [Hid, duo, ltK_nat, getD_of ht.out]
      clear hy how ht hT c1 c2 c4 cw0 fw
      obtain ⟨ar, mr, cr, rfl, HMR, _, _⟩ := hSt.ow.o5.rd.formN
      have hmr : mr ≤ 30 := by
        have h1 := HMR.out
        dsimp only at h1
        have h2 := List.length_filter_le (fun x => !duo T pr x) (Q.take j)
        rw [List.length_take] at h2
        omega
      obtain ⟨ao, mo, co, rfl, HMO, _, _⟩ := hSt.ow.o0.rd.formN
      have hmo : mo ≤ 90 := by
        have h1 := HMO.out
        dsimp only at h1
        rw [List.length_append] at h1
        have h2 := List.length_filter_le (duo T pr) (Q.take j)
        rw [List.length_take] at h2
        omega
      have HLR : Hid ((ints ((Q.take j).filter fun x => !duo T pr x)).length = mr) := by rw [Hid, ints_length]; exact HMR.out.symm
      have HLO : Hid ((ints (O ++ (Q.take j).filter (duo T pr))).length = mo) := by rw [Hid, ints_length]; exact HMO.out.symm
      have hKr : ∀ k, K k → k < wr.heap.size := fun k hk => by have := HKS.out k hk; have := hF.size; omega
      have HKR := Lib.hid hKr
      clear hKr
      cases hp : pr t
      · rw [hp] at HIY HTY
        have HP1 : Hid ((Q.take (j + 1)).filter (duo T pr) = (Q.take j).filter (duo T pr)) := filter_snoc_neg HY.out HTY.out
        have HP2 : Hid (((Q.take (j + 1)).filter fun x => !duo T pr x) = ((Q.take j).filter fun x => !duo T pr x) ++ [(Y : Int)]) := filter_snoc_pos HY.out (by rw [HTY.out]; rfl)
        clear hp
        go_wp2_with (first
          | ((with_reducible refine (HIY.out).mono ?_); rintro e w5 ⟨rfl, d5⟩; have hb5 := d5.below wr.heap.size; have hS5 := hSt.below hb5)
          | (at_builtin; refine wpList_app1m rfl _ _ 22 rfl elI rfl hS5.ow.o5 (by show Value.slice (some ⟨w5.heap.size, 0, none⟩) 1 1 = _; simp) rfl (Nat.zero_le _) _ HLR.out (by omega) (by omega) ?_; intro b7 c7 w7 ho7 hg7 hat7))
        have h9 := hS5.appR (R1 := (Q.take (j + 1)).filter fun x => !duo T pr x) (fun k hk => by have := HKR.out k hk; have := hb5.size; omega) hg7 (by rw [HP2.out, ints_append]; exact ho7) (hat_of hat7)
        rw [← HP1.out] at h9
        go_roundg (nw - (j + 1))
        case measure => omega
        case rel => exact ⟨j + 1, _, rfl, by omega, by go_num, h9.1, hF.trans ((Fr.below hb5 HKR.out).trans h9.2)⟩
      · rw [hp] at HIY HTY
        have HP1 : Hid ((Q.take (j + 1)).filter (duo T pr) = (Q.take j).filter (duo T pr) ++ [(Y : Int)]) := filter_snoc_pos HY.out HTY.out
        have HP2 : Hid (((Q.take (j + 1)).filter fun x => !duo T pr x) = ((Q.take j).filter fun x => !duo T pr x)) := filter_snoc_neg HY.out (by rw [HTY.out]; rfl)
        clear hp
        go_upto_region 7 with (first
          | ((with_reducible refine (HIY.out).mono ?_); rintro e w5 ⟨rfl, d5⟩; have hb5 := d5.below wr.heap.size; have hS5 := hSt.below hb5; have c0' := hS5.cells.1.1)
          | (at_builtin; refine wpList_app1m rfl _ _ 22 rfl elI rfl hS5.ow.o0 (by show Value.slice (some ⟨w5.heap.size, 0, none⟩) 1 1 = _; simp) rfl (Nat.zero_le _) _ HLO.out (by omega) (by omega) ?_; intro b7 c7 w7 ho7 hg7 hat7; have hgr := hS5.grow (.head _) hg7; have hc7 := box_cell hgr.1 0; have hf7 := frozen_of_row w7 be 0 _ _ hgr.1))
        have h8 := hS5.appO (O1 := O ++ (Q.take (j + 1)).filter (duo T pr)) hKe hew (fun k hk => by have := HKR.out k hk; have := hb5.size; omega) hg7 (by rw [HP1.out, ← List.append_assoc, ints_append (O ++ _)]; exact ho7) (hat_of hat7)
        obtain ⟨v7, hv7⟩ : ∃ v, Value.slice b7 (mo + 1) c7 = v := ⟨_, rfl⟩
        rw [hv7] at h8 ⊢
        obtain ⟨w8, hw8⟩ : ∃ w8, w7.setCell ⟨be, 0, none⟩ v7 = w8 := ⟨_, rfl⟩
        rw [hw8] at h8 ⊢
        have hF8 := hF.trans ((Fr.below hb5 HKR.out).trans h8.2)
        have hS8 := h8.1
        have c3' := hS8.cells.1.2.2.2.1
        have hDL : Y < (setAll D ((Q.take j).filter (duo T pr)) at_).length := by rw [setAll_length, HDL.out]; exact hYk
        obtain ⟨zY, hzY⟩ : ∃ z, (setAll D ((Q.take j).filter (duo T pr)) at_)[Y]? = some z := ⟨_, List.getElem?_eq_getElem hDL⟩
        have hcd := hS8.ow.o3.rd.cell_i hzY
        have hfd := hS8.ow.o3.frozen rfl Y
        have hnn : n ≤ cd := by
          obtain ⟨_, mD, cD, eD, hmD, hmcD, _⟩ := hS8.ow.o3.rd.formN
          injection eD with e1 e2 e3
          omega
        have i5 : (Y : Int) < (n : Int) := by omega
        have h9 := hS8.setD (fun k hk => by have := HKR.out k hk; have := hb5.size; have := h8.2.size; omega) hDL (at_ - (Y : Int))
        have HDT : Hid ((setAll D ((Q.take j).filter (duo T pr)) at_).set Y (at_ - (Y : Int)) = setAll D ((Q.take (j + 1)).filter (duo T pr)) at_) := by rw [Hid, HP1.out, setAll_snoc]; simp
        rw [HDT.out, ← HP2.out] at h9
        clear hv7 hw8 h8 hg7 ho7 hat7 hgr hc7 hf7 hS5 hb5 c0 c3 hzY hDL
        go_wp2_with fail
        go_roundg (nw - (j + 1))
        case measure => omega
        case rel => exact ⟨j + 1, _, rfl, by omega, by go_num, h9.1, hF8.trans h9.2⟩
    · have hQt : Hid (Q.take j = Q) := by rw [Hid]; exact List.take_of_length_le (by have := HQL.out; omega)
      rw [hQt.out] at hSt
      obtain ⟨ar, mr, cr, rfl, _, _, _⟩ := hSt.ow.o5.rd.formN
      obtain ⟨_, cw0, fe, fw⟩ := hSt.cells
      have h9 := hSt.putR hKw hew
      go_wp2_with fail
      go_end0
      exact ⟨rfl, _, _, h9.1, hF.trans h9.2⟩

end Go.Proofs.YtdagkgkllgpeeaaDoor
