/- Walks: the numbers by a digit, the program. -/
import Derived.Test.YtnjdihbaofclbaaTopFirst
namespace Go.Proofs.Ytnjdihbaofclbaa
open Go.RowKit
set_option linter.unusedVariables false
set_option linter.unusedSimpArgs false

theorem grp_ne (key : Int → Int) (ys : List Int) : (grp key ys).1 = [] → (grp key ys).2 = -1 := by
  have : ∀ (zs : List Int) (S : List (List Int) × Int), (S.1 = [] → S.2 = -1) → (zs.foldl (grpS key) S).1 = [] → (zs.foldl (grpS key) S).2 = -1 := by
    intro zs
    induction zs with
    | nil => intro S h; exact h
    | cons z t ih =>
      intro S h
      rw [List.foldl_cons]
      refine ih _ (fun e => ?_)
      unfold grpS at e
      split at e <;> simp at e
  exact this ys ([], -1) (fun _ => rfl)
theorem grp_snoc (key : Int → Int) (ys : List Int) (x : Int) : grp key (ys ++ [x]) = grpS key (grp key ys) x := by simp [grp]
theorem grp_rows (key : Int → Int) (ys : List Int) : (grp key ys).1.length ≤ ys.length ∧ ∀ r ∈ (grp key ys).1, r.length ≤ ys.length := by
  have : ∀ n, n ≤ ys.length → (grp key (ys.take n)).1.length ≤ n ∧ ∀ r ∈ (grp key (ys.take n)).1, r.length ≤ n := by
    intro n
    induction n with
    | zero => intro _; simp [grp]
    | succ n ih =>
      intro hn
      obtain ⟨h1, h2⟩ := ih (by omega)
      rw [List.take_succ_eq_append_getElem (by omega), grp_snoc]
      generalize grp key (ys.take n) = S at h1 h2
      unfold grpS
      split
      · refine ⟨by simp only [List.length_append, List.length_dropLast, List.length_cons, List.length_nil]; omega, fun r hr => ?_⟩
        rcases List.mem_append.1 hr with hr | hr
        · have := h2 r (List.dropLast_subset _ hr); omega
        · rw [List.mem_singleton] at hr
          subst hr
          rw [List.length_append]
          cases hl : S.1.getLast? with
          | none => simp
          | some q =>
            have := h2 q (List.mem_of_getLast? hl)
            simp
            omega
      · refine ⟨by simp; omega, fun r hr => ?_⟩
        rcases List.mem_append.1 hr with hr | hr
        · have := h2 r hr; omega
        · rw [List.mem_singleton] at hr
          subst hr
          simp
  have := this ys.length (Nat.le_refl _)
  rwa [List.take_length] at this
/-- The last row turns. -/
theorem RowsOwn.last {w w2 : World} {E B T : Nat} {rs : List Value} {r r' : Value} {Rs : List (List Int)} {rl rl' : List Int} (h : RowsOwn w E B T (rs ++ [r]) (Rs ++ [rl])) (hT : T ≤ w.heap.size) (hg : w.grownBy w2 r.ownBlock) (ho : Own w2 E B r' (ints rl')) (hb : ∀ g, r'.ownBlock = some g → r.ownBlock = some g ∨ w.heap.size ≤ g) :
    RowsOwn w2 E B w2.heap.size (rs ++ [r']) (Rs ++ [rl']) := by
  have hl : rs.length = Rs.length := by have := h.1; simpa using this
  have hr : (rs ++ [r])[rs.length]? = some r := by simp
  have old : ∀ i, i < rs.length → ∀ s, (rs ++ [r'])[i]? = some s → (rs ++ [r])[i]? = some s := fun i hi s hs => by
    rw [List.getElem?_append_left hi] at hs ⊢
    exact hs
  refine ⟨by simp [hl], fun i s hs => ?_, fun i j s t hij hs ht k hk => ?_⟩
  · by_cases hi : i < rs.length
    · have hs' := old i hi s hs
      obtain ⟨xs, h1, h2, h3⟩ := h.2.1 i s hs'
      refine ⟨xs, ?_, h2.apart hg (fun k hk e => h.2.2 i rs.length s r hi hs' hr k hk e), fun k hk => ?_⟩
      · rw [List.getElem?_append_left (by omega)] at h1 ⊢
        exact h1
      · have := h3 k hk; have := hg.size; omega
    · have hi2 : i = rs.length := by
        have := (List.getElem?_eq_some_iff.1 hs).1
        simp at this
        omega
      subst hi2
      have : s = r' := by simpa using hs.symm
      subst this
      exact ⟨rl', by rw [hl]; simp, ho, fun k hk => (ho.lt k hk).2⟩
  · have hj := (List.getElem?_eq_some_iff.1 ht).1
    simp at hj
    have hi : i < rs.length := by omega
    have hs' := old i hi s hs
    by_cases hj2 : j < rs.length
    · exact h.2.2 i j s t hij hs' (old j hj2 t ht) k hk
    · have : j = rs.length := by omega
      subst this
      have e : t = r' := by simpa using ht.symm
      subst e
      intro e
      rcases hb k e with e | e
      · exact h.2.2 i rs.length s r hi hs' hr k hk e
      · obtain ⟨_, _, _, h3⟩ := h.2.1 i s hs'
        have := h3 k hk
        omega
theorem hat_new' {v v' : Value} {n : Nat} (h : v'.ownBlock = v.ownBlock ∨ ∃ k, n ≤ k ∧ v'.ownBlock = some k) : ∀ g, v'.ownBlock = some g → v.ownBlock = some g ∨ n ≤ g := by
  intro g hg
  rcases h with h | ⟨k, hk, h⟩
  · exact .inl (h ▸ hg)
  · rw [h] at hg
    cases hg
    exact .inr hk
theorem Own.some_of' {w : World} {E B : Nat} {b : Option Addr} {m c : Nat} {xs : List Value} (h : Own w E B (.slice b m c) xs) (hx : 0 < xs.length) : ∃ p, b = some p := by
  rcases h with ⟨_, rfl⟩ | ⟨g, off, c', cur, h1, _⟩
  · simp at hx
  · injection h1 with h1 _ _
    exact ⟨_, h1⟩

set_option maxRecDepth 100000 in
set_option maxHeartbeats 4000000 in
theorem i_topFirst (v : Value) (xs : List Int) (b : Int) (d : Int) (w : World) (h : Rd w v (ints xs)) (hk : (digitsOk xs b && inB d 0 20) = true) :
    Calls Try.prog 35 #[v, .int .i64 b, .int .i64 d] w (RetOwn2 (topM (keyB b d.toNat) xs b.toNat) w) := by
  have HO := i_DigitsOk v xs b w h
  have HPL := i_isPlace d w
  rw [Bool.and_eq_true] at hk
  rw [hk.1] at HO
  rw [hk.2] at HPL
  rw [digitsOk_iff, inB_iff] at hk
  obtain ⟨⟨hl, hb, hp⟩, hd⟩ := hk
  have HPS := Lib.hid (fun (wx : World) (hbx : Below w.heap.size w wx) => i_pass v xs b d wx (h.below hbx) hl hp hb hd)
  obtain ⟨p, hpe⟩ : ∃ p, srtS (keyB b d.toNat) xs = p := ⟨_, rfl⟩
  have HPS' : Hid (∀ (wx : World), Below w.heap.size w wx → Calls Try.prog 56 #[v, .int .i64 b, .int .i64 d] wx (RetOwn 3 (ints p) wx)) := fun wx hbx => by rw [← hpe]; exact HPS.out wx hbx
  clear HPS
  have hpl : p.length ≤ 16 := by rw [← hpe, srtS_length]; exact hl
  have HPP : Hid (∀ x ∈ p, 0 ≤ x ∧ x ≤ 999999) := fun x hx => hp x ((srtS_mem (keyB b d.toNat) xs x).1 (by rw [hpe]; exact hx))
  have HFIN : Hid ((grp (keyB b d.toNat) p).1 = topM (keyB b d.toNat) xs b.toNat) := by
    have e : b = (b.toNat : Int) := by omega
    have h1 := pass_eq (xs := xs) (b := b) (d := d.toNat) e hb.1
    obtain ⟨l, h2, _⟩ := grp_byKey (keyB b d.toNat) xs b.toNat
    rw [Hid, ← hpe, h1, h2]
  clear hp hpe
  have hbL : Below w.heap.size w (w.alloc (.cells #[] 26)) := (Below.refl _ _).alloc (Nat.le_refl _) _
  have hoL : Own (w.alloc (.cells #[] 26)) 26 w.heap.size (.slice (some ⟨w.heap.size, 0, none⟩) 0 0) [] := by simpa [ints] using Own.lit0 w 26 (Nat.le_refl _)
  go_enter Try.func35, Try.ntmps35
  go_wp2_with (first
    | (go_at_call 20; refine HO.mono ?_; rintro e w' ⟨rfl, rfl⟩)
    | (go_at_call 50; refine HPL.mono ?_; rintro e w' ⟨rfl, rfl⟩)
    | (go_at_call 56; refine (HPS'.out _ hbL).mono ?_; rintro e w3 ⟨vp, rfl, hp3, hb3⟩; obtain ⟨ap, np, cp, rfl, HNP, _, _⟩ := hp3.rd.formN))
  have hoL3 := hoL.below hb3
  have hzL := hbL.size
  have hbW := hbL.trans (hb3.mono hzL)
  have hp3w : Own w3 3 w.heap.size (.slice ap np cp) (ints p) := hp3.mono hzL
  have hvp : ∀ g, (Value.slice ap np cp).ownBlock = some g → g < w3.heap.size := fun g hg => (hp3.lt g hg).2
  have hnp : np ≤ 16 := by have := HNP.out; omega
  have hz0 := hbW.size
  clear hoL hb3 hbL hp3
  go_loopw [7, 8, 27] (fun vo lst i wr => ∃ (j : Nat) (rows : List Value), j ≤ np ∧ i = .int .i64 j ∧ lst = .int .i64 (grp (keyB b d.toNat) (p.take j)).2 ∧ (∃ q m c, vo = .slice (some q) m c) ∧ Own wr 26 w.heap.size vo rows ∧ RowsOwn wr 3 w3.heap.size wr.heap.size rows (grp (keyB b d.toNat) (p.take j)).1 ∧ Own wr 3 w.heap.size (.slice ap np cp) (ints p) ∧ Below w.heap.size w wr ∧ w3.heap.size ≤ wr.heap.size)
    (fun _ _ i _ => np - (intOf i).toNat)
  case atStart => exact ⟨0, [], Nat.zero_le _, rfl, by simp [grp], ⟨_, _, _, rfl⟩, hoL3, by simpa [grp] using RowsOwn.nil w3 3 w3.heap.size w3.heap.size, hp3w, hbW, Nat.le_refl _⟩
  case round =>
    clear hoL3 hp3w hbW
    obtain ⟨j, rows, hj, rfl, rfl, ⟨ao, mo, co, rfl⟩, hov, hrows, hpv, hb1, hz3⟩ := hrel
    by_cases hjn : j < np
    · obtain ⟨ad, x, rfl, hcx, hx⟩ := hpv.rd.int (show j < p.length by have := HNP.out; omega)
      have hxp := HPP.out x (List.mem_of_getElem? hx.out)
      have HX := i_digit x b d wr hxp.1 hxp.2 hb.1 hb.2 hd.1 hd.2
      have HT : Hid (grp (keyB b d.toNat) (p.take (j + 1)) = grpS (keyB b d.toNat) (grp (keyB b d.toNat) (p.take j)) x) := by
        obtain ⟨hk, e⟩ := List.getElem?_eq_some_iff.1 hx.out
        rw [Hid, List.take_succ_eq_append_getElem hk, e, grp_snoc]
      have HNE := Lib.hid (grp_ne (keyB b d.toNat) (p.take j))
      have hgr := grp_rows (keyB b d.toNat) (p.take j)
      have htl : (p.take j).length ≤ 16 := by rw [List.length_take]; omega
      obtain ⟨⟨R, l⟩, hRl⟩ : ∃ S, grp (keyB b d.toNat) (p.take j) = S := ⟨_, rfl⟩
      rw [hRl] at HT HNE hrows hgr ⊢
      clear hRl
      dsimp only at HNE hrows hgr ⊢
      have hkd : keyB b d.toNat x = dig x b d.toNat := rfl
      have HKD := Lib.hid hkd
      clear hkd
      have hdg := (dig_bd x b d.toNat hb.1).1
      obtain ⟨kx, hkx⟩ : ∃ kx, dig x b d.toNat = kx := ⟨_, rfl⟩
      rw [hkx] at HX HKD hdg
      clear hkx
      have hR16 : R.length ≤ 16 := by omega
      have hrl : rows.length ≤ 16 := by have := hrows.1; omega
      have hrr : ∀ r ∈ R, r.length ≤ 16 := fun r hr => by have := hgr.2 r hr; omega
      clear hgr htl
      obtain ⟨ao2, co2, hfo, hco, hco2⟩ := hov.rd.form
      injection hfo with hf1 hf2 hf3
      subst hf1 hf2 hf3
      have hzw := hb1.size
      obtain ⟨mm, hmm⟩ : ∃ mm, rows.length = mm := ⟨_, rfl⟩
      rw [hmm] at hov ⊢
      have HMM := Lib.hid hmm
      have hmm16 : mm ≤ 16 := by omega
      clear hmm hrl
      have hzwr : wr.heap.size ≤ wr.heap.size := Nat.le_refl _
      by_cases hkl : kx = l
      · have d0 : (kx != l) = false := by simp [hkl]
        obtain ⟨Rs, rl, rfl⟩ : ∃ Rs rl, R = Rs ++ [rl] := by
          rcases List.eq_nil_or_concat R with e | ⟨Rs, rl, e⟩
          · have := HNE.out e; omega
          · exact ⟨Rs, rl, by rw [e]; simp⟩
        have HTN : Hid (grp (keyB b d.toNat) (p.take (j + 1)) = (Rs ++ [rl ++ [x]], l)) := by
          rw [Hid, HT.out, grpS, if_pos (show keyB b d.toNat x = l by rw [HKD.out]; exact hkl)]
          simp
        clear hkl
        have hlR : rows.length = Rs.length + 1 := by have := hrows.1; simpa using this
        obtain ⟨q, rfl⟩ : ∃ q, mm = q + 1 := ⟨mm - 1, by have := HMM.out; omega⟩
        have HQ1 : Hid (Rs.length = q) := by have := HMM.out; rw [Hid]; omega
        obtain ⟨rs, r, rfl⟩ : ∃ rs r, rows = rs ++ [r] := by
          rcases List.eq_nil_or_concat rows with e | ⟨rs, r, e⟩
          · rw [e] at hlR; simp at hlR
          · exact ⟨rs, r, by rw [e]; simp⟩
        have HQ2 : Hid (rs.length = q) := by have := HMM.out; rw [Hid]; simpa using this
        clear hlR
        have hrA : Own wr 3 w3.heap.size r (ints rl) := by
          obtain ⟨ys, h1, h2⟩ := hrows.row (i := rs.length) (r := r) (by simp)
          have e : ys = rl := by
            rw [HQ2.out, ← HQ1.out] at h1
            simpa using h1.symm
          rw [← e]
          exact h2
        obtain ⟨ar, mr, cr, rfl, HMR, _, _⟩ := hrA.rd.formN
        have hmr16 : mr ≤ 16 := by have := HMR.out; have := hrr rl (by simp); omega
        have HMRL : Hid ((ints rl).length = mr) := by rw [Hid, ints_length, HMR.out]
        have hcq : wr.cell? (ao.add q) = some (.slice ar mr cr) := by
          obtain ⟨a9, e9, hc9⟩ := hov.rd.cell (k := q) (by rw [List.length_append]; have := HQ2.out; simp; omega)
          injection e9 with e9
          subst e9
          rw [hc9]
          simp [← HQ2.out]
        have hrowsA := hrows
        have hTA : wr.heap.size ≤ wr.heap.size := Nat.le_refl _
        have hbA := hb1
        have i1 : (0 : Int) ≤ (q : Int) := by omega
        have i2 : (q : Int) + 1 - 1 = (q : Int) := by omega
        have i3 : (q : Int) < (q : Int) + 1 := by omega
        have hov0 := hov
        go_wp2_with (first
          | (go_at_call 51; refine HX.mono ?_; rintro e w' ⟨rfl, rfl⟩)
          | (at_builtin; refine wpList_app1m rfl _ _ 26 rfl elI rfl hrA (by show Value.slice (some ⟨wr.heap.size, 0, none⟩) 1 1 = _; simp) rfl (by omega) _ HMRL.out (by omega) (by omega) ?_; intro b6 c6 w6 ho6 hg6 hat6
             have hov6 := hov0.apart hg6 (hov0.elem_ne hrA (by decide))
             have hpv6 := hpv.apart hg6 (fun g h1 h2 => by have := hvp g h1; have := (hrA.lt g h2).1; omega)
             have hf6 := hov6.frozen rfl q
             have hc6 : w6.cell? (ao.add q) = some (.slice ar mr cr) := hg6.cell hcq (fun e => by rw [block_of_add] at e; exact hov0.elem_ne hrA (by decide) _ rfl e.symm)))
        have hset := hov6.set rfl (k := q) (by rw [List.length_append, HQ2.out]; simp) (.slice b6 (mr + 1) c6)
        have hrowsN := (RowsOwn.last hrowsA hTA hg6 (show Own w6 3 w3.heap.size (.slice b6 (mr + 1) c6) (ints (rl ++ [x])) by rw [ints_append]; exact ho6) (hat_new' hat6)).outer hset.2 hov6 (by decide)
        have hpv7 := hpv6.setCell (p := ao.add q) (by rw [block_of_add]; exact hov6.elem_ne hpv6 (by decide) _ rfl) (.slice b6 (mr + 1) c6)
        have hb7 : Below w.heap.size w (w6.setCell (ao.add q) (.slice b6 (mr + 1) c6)) := (hbA.grown hg6 hbA.size (fun r hh => by have := (hrA.lt r hh).1; omega)).setCell (by rw [block_of_add]; exact (hov6.lt _ rfl).1) _
        have hs1 := hset.1
        have hset2 : (rs ++ [Value.slice ar mr cr]).set q (Value.slice b6 (mr + 1) c6) = rs ++ [Value.slice b6 (mr + 1) c6] := by
          rw [List.set_append_right _ _ (by have := HMM.out; have := HQ2.out; omega)]
          have e : q - rs.length = 0 := by have := HMM.out; have := HQ2.out; omega
          rw [e]
          rfl
        rw [hset2] at hs1
        have hsz6 := hg6.size
        go_roundw
        case rel => exact ⟨j + 1, _, by omega, by go_num, by rw [HTN.out], ⟨_, _, _, rfl⟩, hs1, by rw [HTN.out, World.size_setCell]; exact hrowsN, hpv7, hb7, by rw [World.size_setCell]; omega⟩
        case measure => simp [intOf]; omega
      · have d0 : (kx != l) = true := by simp [hkl]
        have HTN : Hid (grp (keyB b d.toNat) (p.take (j + 1)) = (R ++ [[] ++ [x]], kx)) := by
          rw [Hid, HT.out, grpS, if_neg (show ¬ keyB b d.toNat x = l by rw [HKD.out]; exact hkl), HKD.out]
          rfl
        clear hkl
        have hlit : Own (wr.alloc (.cells #[] 3)) 3 w3.heap.size (.slice (some ⟨wr.heap.size, 0, none⟩) 0 0) (ints []) := Own.lit0 wr 3 hz3
        have hovL := hov.alloc (.cells #[] 3)
        have hpvL := hpv.alloc (.cells #[] 3)
        have hbL1 := hb1.alloc hzw (.cells #[] 3)
        have hrowsL := ((hrows.alloc (.cells #[] 3)).snoc (T' := wr.heap.size + 1) hlit (fun k hk => by have : wr.heap.size = k := Option.some.inj hk; omega) (Nat.le_succ _))
        have hzL1 : w.heap.size ≤ (wr.alloc (.cells #[] 3)).heap.size := by simp; omega
        have hzL2 : wr.heap.size + 1 ≤ (wr.alloc (.cells #[] 3)).heap.size := by simp
        have HML0 : Hid ((ints ([] : List Int)).length = 0) := rfl
        have i1 : (0 : Int) ≤ (mm : Int) := by omega
        have i2 : (mm : Int) + 1 - 1 = (mm : Int) := by omega
        have i3 : (mm : Int) < (mm : Int) + 1 := by omega
        go_wp2_with (first
          | (go_at_call 51; refine HX.mono ?_; rintro e w' ⟨rfl, rfl⟩)
          | (at_builtin; refine wpList_app1m rfl _ _ 34 rfl elII rfl hovL (by show Value.slice (some ⟨wr.heap.size + 1, 0, none⟩) 1 1 = _; simp) rfl hzL1 _ HMM.out (by omega) (by omega) ?_; intro bn cn w5 ho5 hg5 hat5
             obtain ⟨an, rfl⟩ := ho5.some_of' (by simp)
             have hs5 := hg5.size
             have hrA := hlit.apart hg5 (fun g h1 h2 => hovL.elem_ne hlit (by decide) g h2 h1)
             have hrowsA := hrowsL.outer hg5 hovL (by decide)
             have hTA : wr.heap.size + 1 ≤ w5.heap.size := by omega
             have hpvA := hpvL.apart hg5 (fun g h1 h2 => hovL.elem_ne hpvL (by decide) g h2 h1)
             have hbA := hbL1.grown hg5 hzL1 (fun r hh => (hovL.lt r hh).1)
             have hcq : w5.cell? (an.add mm) = some (.slice (some ⟨wr.heap.size, 0, none⟩) 0 0) := by
               obtain ⟨a9, e9, hc9⟩ := ho5.rd.cell (k := mm) (by rw [List.length_append]; have := HMM.out; simp; omega)
               injection e9 with e9
               subst e9
               rw [hc9]
               simp [← HMM.out])
          | (at_builtin; refine wpList_app1m rfl _ _ 26 rfl elI rfl hrA (by show Value.slice (some ⟨w5.heap.size, 0, none⟩) 1 1 = _; simp) rfl (by omega) _ HML0.out (by omega) (by omega) ?_; intro b6 c6 w6 ho6 hg6 hat6
             have hov6 := ho5.apart hg6 (ho5.elem_ne hrA (by decide))
             have hpv6 := hpvA.apart hg6 (fun g h1 h2 => by have := hvp g h1; have := (hrA.lt g h2).1; omega)
             have hf6 := hov6.frozen rfl mm
             have hc6 : w6.cell? (an.add mm) = some (.slice (some ⟨wr.heap.size, 0, none⟩) 0 0) := hg6.cell hcq (fun e => by rw [block_of_add] at e; exact ho5.elem_ne hrA (by decide) _ rfl e.symm)))
        have hset := hov6.set rfl (k := mm) (by rw [List.length_append, HMM.out]; simp) (.slice b6 (0 + 1) c6)
        have hrowsN := (RowsOwn.last hrowsA hTA hg6 (show Own w6 3 w3.heap.size (.slice b6 (0 + 1) c6) (ints ([] ++ [x])) by rw [ints_append]; exact ho6) (hat_new' hat6)).outer hset.2 hov6 (by decide)
        have hpv7 := hpv6.setCell (p := an.add mm) (by rw [block_of_add]; exact hov6.elem_ne hpv6 (by decide) _ rfl) (.slice b6 (0 + 1) c6)
        have hb7 : Below w.heap.size w (w6.setCell (an.add mm) (.slice b6 (0 + 1) c6)) := (hbA.grown hg6 hbA.size (fun r hh => by have := (hrA.lt r hh).1; omega)).setCell (by rw [block_of_add]; exact (hov6.lt _ rfl).1) _
        have hs1 := hset.1
        have hset2 : (rows ++ [Value.slice (some ⟨wr.heap.size, 0, none⟩) 0 0]).set mm (Value.slice b6 (0 + 1) c6) = rows ++ [Value.slice b6 (0 + 1) c6] := by
          rw [List.set_append_right _ _ (by have := HMM.out; omega)]
          have e : mm - rows.length = 0 := by have := HMM.out; omega
          rw [e]
          rfl
        rw [hset2] at hs1
        have hsz6 := hg6.size
        go_roundw
        case rel => exact ⟨j + 1, _, by omega, by go_num, by rw [HTN.out], ⟨_, _, _, rfl⟩, hs1, by rw [HTN.out, World.size_setCell]; exact hrowsN, hpv7, hb7, by rw [World.size_setCell]; omega⟩
        case measure => simp [intOf]; omega
    · obtain rfl : np = j := by omega
      have HTA : Hid (p.take np = p) := by rw [Hid, HNP.out, List.take_length]
      rw [HTA.out, HFIN.out] at hrows
      go_wp2
      go_ret
      exact ⟨_, rfl, ⟨rows, hov, fun k hk => (hov.lt k hk).2, hrows.mono hz0 (Nat.le_refl _)⟩, hb1⟩

theorem I_TopFirst (w : World) (v : Value) (xs : List Int) (h : Rd w v (ints xs)) (_ : I64s xs) (_ : xs.length ≤ 1048576) (b : Int) (_ : I64 b) (d : Int) (_ : I64 d) :
    Calls Try.prog 35 #[v, .int .i64 b, .int .i64 d] w (RetOwn2 (topFirst xs b d) w) := by
  have HO := i_DigitsOk v xs b w h
  have HP := i_isPlace d w
  cases hk : digitsOk xs b
  · rw [hk] at HO
    have HR : Hid (topFirst xs b d = []) := by rw [Hid, topFirst, if_neg (by rw [hk]; simp)]
    go_enter Try.func35, Try.ntmps35
    go_wp2_with (go_at_call 20; refine HO.mono ?_; rintro e w' ⟨rfl, rfl⟩)
    go_ret
    rw [HR.out]
    exact RetOwn2.nil w
  · cases hd : inB d 0 20
    · rw [hk] at HO
      rw [hd] at HP
      have HR : Hid (topFirst xs b d = []) := by rw [Hid, topFirst, if_neg (by rw [hd]; simp)]
      go_enter Try.func35, Try.ntmps35
      go_wp2_with (first
        | (go_at_call 20; refine HO.mono ?_; rintro e w' ⟨rfl, rfl⟩)
        | (go_at_call 50; refine HP.mono ?_; rintro e w' ⟨rfl, rfl⟩))
      go_ret
      rw [HR.out]
      exact RetOwn2.nil w
    · rw [topFirst, if_pos (by rw [hk, hd]; rfl)]
      exact i_topFirst v xs b d w h (by rw [hk, hd]; rfl)

end Go.Proofs.Ytnjdihbaofclbaa
