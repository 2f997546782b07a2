/- Walks: all matches of a tree. -/
import Derived.Test.YtkidbnlebeaikaaTree
namespace Go.Proofs.Ytkidbnlebeaikaa
open Go.RowKit
set_option linter.unusedVariables false
set_option linter.unusedSimpArgs false

def Ap (a b : Value) : Prop := ∀ g, a.ownBlock = some g → b.ownBlock ≠ some g
theorem Ap.symm {a b : Value} (h : Ap a b) : Ap b a := fun g h1 h2 => h g h2 h1
theorem Ap.left {w : World} {E B : Nat} {a b a' : Value} {ys : List Value} (h : Ap a b) (hb : Own w E B b ys) (hat : a'.ownBlock = a.ownBlock ∨ ∃ k, w.heap.size ≤ k ∧ a'.ownBlock = some k) : Ap a' b := by
  intro g hg e
  rcases hat with hat | ⟨k, hk, hat⟩
  · exact h g (hat ▸ hg) e
  · rw [hat] at hg
    cases hg
    have := (hb.lt _ e).2
    omega
theorem Ap.right {w : World} {E B : Nat} {a b b' : Value} {ys : List Value} (h : Ap a b) (ha : Own w E B a ys) (hat : b'.ownBlock = b.ownBlock ∨ ∃ k, w.heap.size ≤ k ∧ b'.ownBlock = some k) : Ap a b' := (h.symm.left ha hat).symm
theorem Ap.fresh {w : World} {E B : Nat} {a : Value} {ys : List Value} (ha : Own w E B a ys) (n c : Nat) : Ap a (.slice (some ⟨w.heap.size, 0, none⟩) n c) := by
  intro g hg e
  have := (ha.lt _ hg).2
  simp [Value.ownBlock] at e
  omega
theorem Own.ap {w w' : World} {E B : Nat} {a b : Value} {ys : List Value} (ha : Own w E B a ys) (hg : w.grownBy w' b.ownBlock) (h : Ap a b) : Own w' E B a ys := ha.apart hg h

theorem twoApps {w wr w2 w3 w4 : World} {E : Nat} {vn vx vl x' l' : Value} {now ns ls xs3 ls4 : List Value} (hb : Below w.heap.size w wr) (dd : Dr wr w2) (hn : Own wr E w.heap.size vn now) (hx : Own wr E w.heap.size vx ns) (hl : Own wr E w.heap.size vl ls)
    (ap1 : Ap vn vl) (ap2 : Ap vn vx) (ap3 : Ap vx vl) (hx3 : Own w3 E w.heap.size x' xs3) (hg3 : w2.grownBy w3 vx.ownBlock) (hat3 : x'.ownBlock = vx.ownBlock ∨ ∃ k, w2.heap.size ≤ k ∧ x'.ownBlock = some k)
    (hl4 : Own w4 E w.heap.size l' ls4) (hg4 : w3.grownBy w4 vl.ownBlock) (hat4 : l'.ownBlock = vl.ownBlock ∨ ∃ k, w3.heap.size ≤ k ∧ l'.ownBlock = some k) :
    Own w4 E w.heap.size vn now ∧ Own w4 E w.heap.size l' ls4 ∧ Own w4 E w.heap.size x' xs3 ∧ Ap vn l' ∧ Ap vn x' ∧ Ap x' l' ∧ Below w.heap.size w w4 := by
  have hb2 := hb.trans (dd.below _)
  have h3 := (hn.dr dd).ap hg3 ap2
  have a3 := ap3.left (hl.dr dd) hat3
  have hb3 := hb2.grown hg3 hb2.size fun r hr => (hx.lt r hr).1
  exact ⟨h3.ap hg4 ap1, hl4, hx3.ap hg4 a3, ap1.right h3 hat4, ap2.right (hn.dr dd) hat3, a3.right hx3 hat4, hb3.grown hg4 hb3.size fun r hr => (hl.lt r hr).1⟩

set_option maxHeartbeats 400000 in
theorem i_wires (n : Nat) (w : World) (hn : n ≤ 1000000) : Calls Try.prog 50 #[.int .i64 0, .int .i64 (n : Int)] w (RetOwn 3 (ints (stairs n)) w) := by
  go_enter Try.func50, Try.ntmps50
  go_wp2
  go_loopw [5, 6] (fun vo i wr => ∃ j : Nat, j ≤ n ∧ i = .int .i64 j ∧ Own wr 3 w.heap.size vo (ints (stairs j)) ∧ Below w.heap.size w wr)
    (fun _ i _ => n - (intOf i).toNat)
  case atStart => exact ⟨0, Nat.zero_le _, rfl, Own.lit0 w _ (Nat.le_refl _), (Below.refl _ _).alloc (Nat.le_refl _) _⟩
  case round =>
    obtain ⟨j, hj, rfl, hs, hb⟩ := hrel
    obtain ⟨az, cs, rfl, _, hcs⟩ := hs.rd.formi
    have hL := stairs_length j
    by_cases hlt : j < n
    · go_wp2_with (at_builtin; refine wpList_app1 rfl _ _ 27 rfl elI rfl hs rfl rfl hb.size (by rw [ints_length]; omega) (by rw [ints_length]; omega) ?_; intro bn cn' w2 hs2 hgrow hat)
      have hb2 := hb.grown hgrow hb.size fun r hr => (hs.lt r hr).1
      go_roundw
      case rel => exact ⟨j + 1, by omega, by go_num, by rw [stairs_succ, ints_append]; exact hs2, hb2⟩
      case measure => simp [intOf]; omega
    · obtain rfl : n = j := by omega
      go_wp2
      go_ret
      exact ⟨_, rfl, hs, hb⟩

set_option maxHeartbeats 400000 in
theorem s_l04First (n : Nat) (w : World) (hn : n ≤ 1000000) : Calls Try.prog 59 #[.int .i64 (n : Int)] w (RetOwn 3 (ints (stairs n)) w) := by
  go_enter Try.func59, Try.ntmps59
  go_wp2
  go_loopw [3, 4] (fun vo i wr => ∃ j : Nat, j ≤ n ∧ i = .int .i64 j ∧ Own wr 3 w.heap.size vo (ints (stairs j)) ∧ Below w.heap.size w wr)
    (fun _ i _ => n - (intOf i).toNat)
  case atStart => exact ⟨0, Nat.zero_le _, rfl, Own.lit0 w _ (Nat.le_refl _), (Below.refl _ _).alloc (Nat.le_refl _) _⟩
  case round =>
    obtain ⟨j, hj, rfl, hs, hb⟩ := hrel
    obtain ⟨az, cs, rfl, _, hcs⟩ := hs.rd.formi
    have hL := stairs_length j
    by_cases hlt : j < n
    · go_wp2_with (at_builtin; refine wpList_app1 rfl _ _ 27 rfl elI rfl hs rfl rfl hb.size (by rw [ints_length]; omega) (by rw [ints_length]; omega) ?_; intro bn cn' w2 hs2 hgrow hat)
      have hb2 := hb.grown hgrow hb.size fun r hr => (hs.lt r hr).1
      go_roundw
      case rel => exact ⟨j + 1, by omega, by go_num, by rw [stairs_succ, ints_append]; exact hs2, hb2⟩
      case measure => simp [intOf]; omega
    · obtain rfl : n = j := by omega
      go_wp2
      go_ret
      exact ⟨_, rfl, hs, hb⟩

def Nows (n : Nat) (now : List Int) : Prop := now.Pairwise (· < ·) ∧ ∀ x ∈ now, ∃ k : Nat, k < n ∧ x = k
theorem Nows.round {n : Nat} {now : List Int} (h : Nows n now) (f : Int → Int) : Nows n (playRound f now).1 :=
  ⟨h.1.sublist (playRound_sub f now), fun x hx => h.2 x ((playRound_sub f now).mem hx)⟩
theorem Nows.stairs (n : Nat) : Nows n (stairs n) := ⟨stairs_sorted n, fun x hx => stairs_mem.1 hx⟩
theorem Nows.two {n : Nat} {now : List Int} (h : Nows n now) {q : Nat} {x y : Int} (hx : now[q]? = some x) (hy : now[q + 1]? = some y) : ∃ a b : Nat, x = a ∧ y = b ∧ a < b ∧ b < n := by
  obtain ⟨h1, rfl⟩ := List.getElem?_eq_some_iff.1 hx
  obtain ⟨h2, rfl⟩ := List.getElem?_eq_some_iff.1 hy
  obtain ⟨a, ha, hea⟩ := h.2 _ (List.getElem_mem h1)
  obtain ⟨b, hb, heb⟩ := h.2 _ (List.getElem_mem h2)
  have := List.pairwise_iff_getElem.1 h.1 q (q + 1) h1 h2 (by omega)
  exact ⟨a, b, hea, heb, by omega, hb⟩

set_option maxHeartbeats 2000000 in
theorem s_l28Play (v : Value) (xss : List (List Int)) (vt : Value) (t : List Int) (w : World) (h : Rd2 w v xss) (ht : Rd w vt (ints t)) (hT : TK xss t) (hf : I64ss xss) (h1 : 1 ≤ xss.length) (h8 : xss.length ≤ 8) :
    Calls Try.prog 47 #[v, vt] w (fun e w' => ∃ vl, e = .returned (.tuple #[.int .i64 (winOf xss t), vl]) ∧ Own w' 3 w.heap.size vl (ints (playOf xss t).2) ∧ Below w.heap.size w w') := by
  obtain ⟨a0, c0, rfl, _, _⟩ := h.form
  go_enter Try.func47, Try.ntmps47
  go_wp2_with (go_at_call 59; refine (s_l04First _ _ (by omega)).mono ?_; rintro e w1 ⟨vn, rfl, hn1, hb1⟩)
  have hs1 := hb1.size
  go_loopw [6, 7] (fun vn vl wr => ∃ (f : Nat) (now los : List Int), Hid (Nows xss.length now) ∧ 1 ≤ now.length ∧ now.length ≤ f + 1 ∧ los.length + now.length ≤ xss.length ∧ Hid (play (pk xss t) f now los = playOf xss t) ∧
      Own wr 3 w.heap.size vn (ints now) ∧ Own wr 3 w.heap.size vl (ints los) ∧ Ap vn vl ∧ Below w.heap.size w wr)
    (fun vn _ _ => match vn with | .slice _ n _ => n | _ => 0)
  case atStart => exact ⟨xss.length, stairs xss.length, [], Nows.stairs _, by rw [stairs_length]; omega, by rw [stairs_length]; omega, by rw [stairs_length]; simp, rfl, hn1.alloc _, Own.lit0 _ _ hs1, Ap.fresh hn1 0 0, hb1.alloc hs1 _⟩
  case round =>
    obtain ⟨wo, rfl⟩ : ∃ wo : World, wo = wr := ⟨_, rfl⟩
    obtain ⟨f, now, los, HW, hn1, hnf, hlen, HP, hn, hl, hap, hb⟩ := hrel
    obtain ⟨an, cn, rfl, _, hcn⟩ := hn.rd.formi
    obtain ⟨al, cl, rfl, _, hcl⟩ := hl.rd.formi
    by_cases hlt : 1 < now.length
    · obtain ⟨f', hff, hlf', HF⟩ := play_step (pk xss t) f now los hlt hnf
      have HFF := Lib.hid HF
      clear HF
      have hpl := playRound_len (pk xss t) now
      obtain ⟨R1, hR1⟩ : ∃ r, (playRound (pk xss t) now).1 = r := ⟨_, rfl⟩
      obtain ⟨R2, hR2⟩ : ∃ r, (playRound (pk xss t) now).2 = r := ⟨_, rfl⟩
      rw [hR1, hR2] at hpl
      rw [hR1] at hlf'
      have HR1 := Lib.hid hR1
      have HR2 := Lib.hid hR2
      clear hR1 hR2
      have hd1 : decide ((now.length : Int) > 1) = true := by simp; omega
      go_wp2
      go_loopw [7, 8, 9] (fun vl vx i wi => ∃ (q : Nat) (ns ls : List Int), q ≤ now.length + 1 ∧ i = .int .i64 q ∧ Hid (ns ++ (playRound (pk xss t) (now.drop q)).1 = R1) ∧ Hid (ls ++ (playRound (pk xss t) (now.drop q)).2 = los ++ R2) ∧
          ns.length ≤ 8 ∧ ls.length ≤ 8 ∧
          Own wi 3 w.heap.size (.slice an now.length cn) (ints now) ∧ Own wi 3 w.heap.size vl (ints ls) ∧ Own wi 3 w.heap.size vx (ints ns) ∧ Ap (.slice an now.length cn) vl ∧ Ap (.slice an now.length cn) vx ∧ Ap vx vl ∧ Below w.heap.size w wi)
        (fun _ _ i _ => now.length + 1 - (intOf i).toNat)
      case atStart => exact ⟨0, [], los, by omega, rfl, by simpa [Hid] using HR1.out, by simpa [Hid] using HR2.out, by simp, by omega, hn.alloc _, hl.alloc _, Own.lit0 _ _ hb.size, hap, Ap.fresh hn 0 0, (Ap.fresh hl 0 0).symm, hb.alloc hb.size _⟩
      case round =>
        obtain ⟨q, ns, ls, hq, rfl, HQ1, HQ2, hnl, hll, hn, hl, hx, ap1, ap2, ap3, hb⟩ := hrel
        obtain ⟨ax, cx, rfl, _, hcx⟩ := hx.rd.formi
        obtain ⟨al', cl', rfl, _, hcl'⟩ := hl.rd.formi
        by_cases hql : q < now.length
        · obtain ⟨ad, x, rfl, hc, hX⟩ := hn.rd.int hql
          by_cases hq1 : q + 1 < now.length
          · obtain ⟨ad', y, had, hc2, hY⟩ := hn.rd.int hq1
            obtain rfl : ad = ad' := by injection had
            clear had
            rw [add_succ] at hc2
            obtain ⟨a, b, rfl, rfl, hab, hbn⟩ := HW.out.two hX.out hY.out
            have HD := Lib.hid (drop_two hX.out hY.out)
            have i1 : IntKind.i64.wrap ((q : Int) + 1) = (q : Int) + 1 := IntWalk.i64_in _ (by omega)
            have i3 : (0 : Int) ≤ (q : Int) + 1 := by omega
            have i4 : (q : Int) + 1 < (now.length : Int) := by omega
            have i5 : ((q : Int) + 1).toNat = q + 1 := by omega
            have i6 : (0 : Int) ≤ (q : Int) := by omega
            have i7 : (q : Int) < (now.length : Int) := by omega
            have i8 : (a : Int) ≤ (b : Int) := by omega
            go_wp2
            go_quiet (fail)
            go_wp2
            go_quiet (fail)
            have hL1 := ints_length ns
            have hL2 := ints_length ls
            have HB := Lib.hid (fun (wq : World) (hq : Dr wr wq) => s_l28Beats _ xss _ t wq ((h.below hb).dr hq) ((ht.below hb).dr hq) hT hf a b hab hbn h8)
            have HK : Hid ((playRound (pk xss t) (now.drop q)) = if key xss t a < key xss t b then ((a : Int) :: (playRound (pk xss t) (now.drop (q + 2))).1, (b : Int) :: (playRound (pk xss t) (now.drop (q + 2))).2) else ((b : Int) :: (playRound (pk xss t) (now.drop (q + 2))).1, (a : Int) :: (playRound (pk xss t) (now.drop (q + 2))).2)) := by
              show _ = _
              rw [HD.out]
              by_cases hk : key xss t a < key xss t b <;> simp [playRound, pk, hk]
            clear i1 i3 i4 i5 i6 i7 i8 hc hc2
            by_cases hk : key xss t a < key xss t b
            · rw [HK.out, if_pos hk] at HQ1 HQ2
              have hkd : decide (key xss t a < key xss t b) = true := by simpa using hk
              rw [hkd] at HB
              clear hkd hk HK
              go_wp2_with (first
                | (go_at_call 60; refine (HB.out _ ((Dr.refl _).step _)).mono ?_; rintro e w2 ⟨rfl, hd2⟩)
                | (at_builtin; refine wpList_app1 rfl _ _ 27 rfl elI rfl (hx.dr (((Dr.refl _).step _).trans hd2)) rfl rfl ((hb.trans (Dr.below (((Dr.refl _).step _).trans hd2) _)).size) (by omega) (by omega) ?_; intro bn cn' w3 hx3 hg3 hat3)
                | (at_builtin; refine wpList_app1 rfl _ _ 27 rfl elI rfl ((hl.dr (((Dr.refl _).step _).trans hd2)).ap hg3 ap3.symm) rfl rfl (Nat.le_trans (hb.trans (Dr.below (((Dr.refl _).step _).trans hd2) _)).size hg3.size) (by omega) (by omega) ?_; intro bl cl2 w4 hl4 hg4 hat4))
              have HQ1' : Hid ((ns ++ [(a : Int)]) ++ (playRound (pk xss t) (now.drop (q + 2))).1 = R1) := by
                have := HQ1.out
                simpa [Hid] using this
              have HQ2' : Hid ((ls ++ [(b : Int)]) ++ (playRound (pk xss t) (now.drop (q + 2))).2 = los ++ R2) := by
                have := HQ2.out
                simpa [Hid] using this
              have hLA : (ns ++ [(a : Int)]).length ≤ 8 := by
                have h1 := congrArg List.length HQ1'.out
                simp only [List.length_append] at h1 ⊢
                omega
              have hLB : (ls ++ [(b : Int)]).length ≤ 8 := by
                have h1 := congrArg List.length HQ2'.out
                simp only [List.length_append] at h1 ⊢
                omega
              simp only [ints_length] at hx3 hat3 hl4 hat4
              have hT := twoApps hb (((Dr.refl _).step _).trans hd2) hn hx hl ap1 ap2 ap3 hx3 hg3 hat3 hl4 hg4 hat4
              have HT := Lib.hid hT
              clear hT
              go_roundw
              case rel => exact ⟨q + 2, _, _, by omega, by go_num, HQ1', HQ2', hLA, hLB, HT.out.1, by rw [ints_append]; exact HT.out.2.1, by rw [ints_append]; exact HT.out.2.2.1, HT.out.2.2.2⟩
              case measure => simp [intOf]; omega
            · rw [HK.out, if_neg hk] at HQ1 HQ2
              have hkd : decide (key xss t a < key xss t b) = false := by simpa using hk
              rw [hkd] at HB
              clear hkd hk HK
              go_wp2_with (first
                | (go_at_call 60; refine (HB.out _ ((Dr.refl _).step _)).mono ?_; rintro e w2 ⟨rfl, hd2⟩)
                | (at_builtin; refine wpList_app1 rfl _ _ 27 rfl elI rfl (hx.dr (((Dr.refl _).step _).trans hd2)) rfl rfl ((hb.trans (Dr.below (((Dr.refl _).step _).trans hd2) _)).size) (by omega) (by omega) ?_; intro bn cn' w3 hx3 hg3 hat3)
                | (at_builtin; refine wpList_app1 rfl _ _ 27 rfl elI rfl ((hl.dr (((Dr.refl _).step _).trans hd2)).ap hg3 ap3.symm) rfl rfl (Nat.le_trans (hb.trans (Dr.below (((Dr.refl _).step _).trans hd2) _)).size hg3.size) (by omega) (by omega) ?_; intro bl cl2 w4 hl4 hg4 hat4))
              have HQ1' : Hid ((ns ++ [(b : Int)]) ++ (playRound (pk xss t) (now.drop (q + 2))).1 = R1) := by
                have := HQ1.out
                simpa [Hid] using this
              have HQ2' : Hid ((ls ++ [(a : Int)]) ++ (playRound (pk xss t) (now.drop (q + 2))).2 = los ++ R2) := by
                have := HQ2.out
                simpa [Hid] using this
              have hLA : (ns ++ [(b : Int)]).length ≤ 8 := by
                have h1 := congrArg List.length HQ1'.out
                simp only [List.length_append] at h1 ⊢
                omega
              have hLB : (ls ++ [(a : Int)]).length ≤ 8 := by
                have h1 := congrArg List.length HQ2'.out
                simp only [List.length_append] at h1 ⊢
                omega
              simp only [ints_length] at hx3 hat3 hl4 hat4
              have hT := twoApps hb (((Dr.refl _).step _).trans hd2) hn hx hl ap1 ap2 ap3 hx3 hg3 hat3 hl4 hg4 hat4
              have HT := Lib.hid hT
              clear hT
              go_roundw
              case rel => exact ⟨q + 2, _, _, by omega, by go_num, HQ1', HQ2', hLA, hLB, HT.out.1, by rw [ints_append]; exact HT.out.2.1, by rw [ints_append]; exact HT.out.2.2.1, HT.out.2.2.2⟩
              case measure => simp [intOf]; omega
          · have hq1' : q + 1 = now.length := by omega
            have HD := Lib.hid (drop_last hX.out hq1')
            have hq2 : ((q : Int) + 1 == (now.length : Int)) = true := by simp; omega
            clear hq1'
            have hL1 := ints_length ns
            go_wp2_with (at_builtin; refine wpList_app1 rfl _ _ 27 rfl elI rfl hx rfl rfl hb.size (by omega) (by omega) ?_; intro bn cn' w3 hx3 hg3 hat3)
            simp only [ints_length] at hx3 hat3
            have HQ1' : Hid ((ns ++ [x]) ++ (playRound (pk xss t) (now.drop (q + 2))).1 = R1) := by
              rw [← HQ1.out, HD.out, List.drop_eq_nil_of_le (by omega)]
              simp [playRound, Hid]
            have HQ2' : Hid (ls ++ (playRound (pk xss t) (now.drop (q + 2))).2 = los ++ R2) := by
              rw [← HQ2.out, HD.out, List.drop_eq_nil_of_le (by omega)]
              simp [playRound, Hid]
            have HL2 : (ns ++ [x]).length ≤ 8 := by
              have h1 := congrArg List.length HQ1'.out
              simp only [List.length_append] at h1 ⊢
              omega
            go_roundw
            case rel => exact ⟨q + 2, ns ++ [x], ls, by omega, by go_num, HQ1', HQ2', HL2, hll, hn.ap hg3 ap2, hl.ap hg3 ap3.symm, by rw [ints_append]; exact hx3, ap1, ap2.right hn hat3, ap3.left hl hat3, hb.grown hg3 hb.size fun r hr => (hx.lt r hr).1⟩
            case measure => simp [intOf]; omega
        · have HQ1' : Hid (ns = R1) := by
            have := HQ1.out
            rw [List.drop_eq_nil_of_le (by omega)] at this
            simpa [playRound, Hid] using this
          have HQ2' : Hid (ls = los ++ R2) := by
            have := HQ2.out
            rw [List.drop_eq_nil_of_le (by omega)] at this
            simpa [playRound, Hid] using this
          go_wp2
          have hL1 := congrArg List.length HQ1'.out
          have hL2 := congrArg List.length HQ2'.out
          rw [List.length_append] at hL2
          go_roundw
          case rel => exact ⟨f', ns, ls, by rw [HQ1'.out, ← HR1.out]; exact HW.out.round _, by omega, by omega, by omega, by
            show _ = _
            rw [HQ1'.out, HQ2'.out, ← HP.out, HFF.out, HR1.out, HR2.out], hx, hl, ap3, hb⟩
          case measure => simp; omega
    · obtain ⟨ad, x, rfl, hc, hX⟩ := hn.rd.int (show 0 < now.length by omega)
      have HE : Hid (now = [(winOf xss t : Int)] ∧ los = (playOf xss t).2) := by
        have h2 := HP.out
        rw [play_done _ _ _ _ (by omega)] at h2
        have h3 := (winOf_min (xss := xss) (t := t) h1).1
        rw [← h2] at h3 ⊢
        exact ⟨h3, rfl⟩
      have HX : Hid (x = (winOf xss t : Int)) := by
        have := hX.out
        rw [HE.out.1] at this
        simpa [Hid, eq_comm] using this
      obtain rfl : x = (winOf xss t : Int) := HX.out
      have i1 : (0 : Int) < (now.length : Int) := by omega
      have hc0 : wo.cell? ad = some (.int .i64 (winOf xss t)) := by simpa [Addr.add] using hc
      clear hc
      go_wp2
      go_ret2
      exact ⟨_, rfl, by rw [← HE.out.2]; exact hl, hb⟩

end Go.Proofs.Ytkidbnlebeaikaa
