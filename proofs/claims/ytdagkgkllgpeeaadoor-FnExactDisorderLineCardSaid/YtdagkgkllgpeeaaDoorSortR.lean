/- Walks: insertion sort of a block, and slices.SortStableFunc of fewer than forty numbers. -/
import Derived.Test.YtdagkgkllgpeeaaDoorSymM
namespace Go.Proofs.YtdagkgkllgpeeaaDoor
open Go.RowKit
set_option linter.unusedVariables false
set_option linter.unusedSimpArgs false

theorem srtKK_block {key : Int → Int} (A S : List Int) (h : 1 ≤ A.length) : srtKK key (A ++ S) (A.length - 1) = srtS key A ++ S := by
  rw [srtKK_eq key _ _ (by simp; omega), show A.length - 1 + 1 = A.length by omega, List.take_left, List.drop_left]
set_option maxRecDepth 100000 in
set_option maxHeartbeats 8000000 in
theorem f_insertionR (key : Int → Int) (p : Int → Prop) (fn : Nat) (cap : Array Value) (hknown : Known fn) (v : Value) (P Q : List Int) (n a q b Bk : Nat) (w : World) (ho : Own w 3 Bk v (ints (P ++ Q))) (hn : (P ++ Q).length = n) (hl : n ≤ 1000)
    (ha : P.length = a) (hb : b = a + q) (hq : q ≤ Q.length)
    (hp : ∀ x ∈ Q, p x) (hc : CmpOk key p fn cap v.ownBlock w) :
    Calls Tryd.prog 242 #[v, .int .i64 a, .int .i64 b, .func (.func fn) #[] cap] w (RetS Bk v (P ++ srtKK key Q (q - 1)) w) := by
  obtain ⟨T, hT⟩ : ∃ T, P ++ srtKK key Q (q - 1) = T := ⟨_, rfl⟩
  rw [hT]
  have HTT := Lib.hid hT
  have HPL := Lib.hid ha
  have hql : a + Q.length = n := by rw [← hn, List.length_append]; omega
  have hbn : b ≤ n := by omega
  have hab : a ≤ b := by omega
  have HQB : Hid (q = b - a) := by rw [Hid]; omega
  obtain ⟨al, c, rfl, h2, h3⟩ := ho.rd.formi
  have HCM := Lib.hid hc
  have HPP : Hid (∀ k, k < b - a → ∀ x ∈ srtKK key Q k, p x) := fun k hk x hx => hp x (srtKK_mem key Q k x (by omega) hx)
  have HQL : Hid (∀ k, a + (srtKK key Q k).length = n) := fun k => by rw [srtKK_length]; exact hql
  have HLN : Hid (∀ zs : List Int, a + zs.length = n → (P ++ zs).length = n) := fun zs h => by rw [List.length_append, ha]; exact h
  rw [hn] at ho hc ⊢
  clear hc hp ha hn h2 hb hq hql hT
  go_enter Tryd.func242, Tryd.ntmps242
  go_wp2_with fail
  go_loopw [8] (fun i wr => ∃ u : Nat, a ≤ u ∧ (u + 1 ≤ b ∨ u = a) ∧ i = .int .i64 ((u : Int) + 1) ∧ Own wr 3 Bk (.slice al n c) (ints (P ++ srtKK key Q (u - a))) ∧ w.grownBy wr (Value.slice al n c).ownBlock) (fun i _ => b + 1 - (intOf i).toNat)
  case atStart => exact ⟨a, Nat.le_refl _, .inr rfl, by simp, by rw [Nat.sub_self]; exact ho, World.grownBy.refl _ _⟩
  case round =>
    clear ho
    obtain ⟨u, hau, hub, rfl, ho, hg⟩ := hrel
    by_cases hlt : u + 1 < b
    · have i0 : (u : Int) + 1 < (b : Int) := by omega
      have HK : Hid (sinkK key (srtKK key Q (u - a)) (u + 1 - a) = srtKK key Q (u + 1 - a)) := by
        rw [Hid, show u + 1 - a = (u - a) + 1 by omega]
        rfl
      have HL0 := Lib.hid (HQL.out (u - a))
      have HP0 := Lib.hid (HPP.out (u - a) (by omega))
      obtain ⟨ys, hys⟩ : ∃ ys, srtKK key Q (u - a) = ys := ⟨_, rfl⟩
      rw [hys] at ho HK HL0 HP0
      clear hys
      go_wp2_with fail
      go_loopw [9] (fun i wr => ∃ (j : Nat) (zs : List Int), a ≤ j ∧ j ≤ u + 1 ∧ i = .int .i64 (j : Int) ∧ Own wr 3 Bk (.slice al n c) (ints (P ++ zs)) ∧ Hid (a + zs.length = n) ∧ Hid (∀ x ∈ zs, p x) ∧ Hid (sinkK key zs (j - a) = srtKK key Q (u + 1 - a)) ∧ w.grownBy wr (Value.slice al n c).ownBlock) (fun i _ => (intOf i).toNat)
      case atStart => exact ⟨u + 1, ys, by omega, Nat.le_refl _, by simp, ho, HL0, HP0, HK, hg⟩
      case round =>
        clear ho hg HK HL0 HP0
        obtain ⟨j, zs, haj, hj, rfl, ho, HZ, HP, HS, hg⟩ := hrel
        by_cases hja : j = a
        · subst hja
          have HE : Hid (zs = srtKK key Q (u + 1 - j)) := by have := HS.out; rw [Nat.sub_self] at this; exact this
          have d0 : decide ((j : Int) > (j : Int)) = false := by simp
          go_wp2_with fail
          go_quiet (fail)
          rename_i nq
          have ho1 := ho.drewN nq
          have hg1 := grownBy_drewN hg nq
          rw [HE.out] at ho1
          go_wp2_with fail
          go_roundw
          case rel => exact ⟨u + 1, by omega, .inl (by omega), by go_num, ho1, hg1⟩
          case measure => simp [intOf]; omega
        · obtain ⟨r, rfl⟩ : ∃ r, j = r + 1 := ⟨j - 1, by omega⟩
          have har : a ≤ r := by omega
          obtain ⟨y, hy0⟩ : ∃ y, zs[r + 1 - a]? = some y := ⟨_, List.getElem?_eq_getElem (by have := HZ.out; omega)⟩
          obtain ⟨z, hz0⟩ : ∃ z, zs[r - a]? = some z := ⟨_, List.getElem?_eq_getElem (by have := HZ.out; omega)⟩
          have hy9 : (P ++ zs)[r + 1]? = some y := by
            have := get_pre P zs (r + 1 - a)
            rw [HPL.out, show a + (r + 1 - a) = r + 1 by omega] at this
            rw [this]; exact hy0
          have hz9 : (P ++ zs)[r]? = some z := by
            have := get_pre P zs (r - a)
            rw [HPL.out, show a + (r - a) = r by omega] at this
            rw [this]; exact hz0
          have HY := Lib.hid hy0
          have HZ0 := Lib.hid hz0
          obtain ⟨ad, y2, rfl, _, _⟩ := ho.rd.int (k := r + 1) (List.getElem?_eq_some_iff.1 hy9).1
          obtain ⟨c1, c2, f1, f2, c3, f3, ho3, hg3⟩ := swp_w (ho.drewN 0) hy9 hz9 (by omega)
          have hc1 : wr.cell? (ad.add (r + 1)) = some (.int .i64 y) := c1
          have hc0 : wr.cell? (ad.add r) = some (.int .i64 z) := c2
          clear c1 c2 f1 f2 c3 f3 ho3 hg3
          rw [add_succ] at hc1
          have i1 : (r : Int) + 1 < (n : Int) := by omega
          have i2 : (r : Int) < (n : Int) := by omega
          have i3 : (0 : Int) ≤ (r : Int) := by omega
          have i4 : (0 : Int) ≤ (r : Int) + 1 := by omega
          have i5 : ((r : Int) + 1).toNat = r + 1 := by omega
          have i6 : (r : Int) + 1 - 1 = (r : Int) := by omega
          have d0 : decide ((r : Int) + 1 > (a : Int)) = true := by simp; omega
          have d1 : (a : Int) < (r : Int) + 1 := by omega
          have hyp := HP.out y (List.mem_of_getElem? hy0)
          have hzp := HP.out z (List.mem_of_getElem? hz0)
          have GC : Hid (∀ nn, Calls Tryd.prog fn (#[.int .i64 y, .int .i64 z] ++ cap) (wr.drewN nn) (RetQ (.int .i64 (cmpV key y z)) (wr.drewN nn))) := fun nn => HCM.out _ y z (grownBy_drewN hg nn) hyp hzp
          have hcall : ∀ W, (callFunc fn (#[.int .i64 y, .int .i64 z] ++ cap)).run Tryd.prog W = .ok (.enter fn (#[.int .i64 y, .int .i64 z] ++ cap)) W := fun W => hknown _ W
          have HY9 := Lib.hid hy9
          have HZ9 := Lib.hid hz9
          clear hy0 hz0 hy9 hz9
          by_cases hyz : key y < key z
          · have hcv := cmpV_lt hyz
            have HSK : Hid (sinkK key ((zs.set (r + 1 - a) z).set (r - a) y) (r - a) = srtKK key Q (u + 1 - a)) := by
              have h1 := HS.out
              have h2 := HY.out
              rw [show r + 1 - a = (r - a) + 1 by omega] at h1 h2 ⊢
              rw [Hid, ← h1, sinkK_go h2 HZ0.out hyz]
            obtain ⟨cq, hcq⟩ : ∃ cq, cmpV key y z = cq := ⟨_, rfl⟩
            rw [hcq] at GC hcv
            clear hcq hyz
            go_wp2_with fail
            go_quiet ((exact quietQ (GC.out _)))
            rename_i nq
            obtain ⟨wv, hwv⟩ : ∃ wv, wr.drewN nq = wv := ⟨_, rfl⟩
            have ho1 := ho.drewN nq
            have hg1 := grownBy_drewN hg nq
            rw [hwv] at ho1 hg1 ⊢
            clear hwv ho hg hc0 hc1 d0 GC hcall hcv
            obtain ⟨c1, c2, f1, f2, c3, f3, ho3, hg3⟩ := swp_w ho1 HY9.out HZ9.out (by omega)
            have HSW : Hid (swp (P ++ zs) (r + 1) r = P ++ (zs.set (r + 1 - a) z).set (r - a) y) := by
              have e1 := set_pre P zs (r + 1 - a) z
              have e2 := set_pre P (zs.set (r + 1 - a) z) (r - a) y
              rw [HPL.out, show a + (r + 1 - a) = r + 1 by omega] at e1
              rw [HPL.out, show a + (r - a) = r by omega] at e2
              rw [Hid, swp_of HY9.out HZ9.out, e1, e2]
            rw [HSW.out] at ho3
            have hg4 := grownBy_trans hg1 hg3
            rw [add_succ] at c1 f1 c3 f3 ho3 hg4
            have HZ3 : Hid (a + ((zs.set (r + 1 - a) z).set (r - a) y).length = n) := by rw [Hid, List.length_set, List.length_set]; exact HZ.out
            have HP3 : Hid (∀ x ∈ (zs.set (r + 1 - a) z).set (r - a) y, p x) := fun x hx => by
              rcases List.mem_or_eq_of_mem_set hx with hx | rfl
              · rcases List.mem_or_eq_of_mem_set hx with hx | rfl
                · exact HP.out x hx
                · exact hzp
              · exact hyp
            clear ho1 hg1 hg3
            go_wp2_with fail
            go_region
            all_goals
              go_wp2_with fail
              go_roundw
              case rel => exact ⟨r, _, har, by omega, by go_num, ho3, HZ3, HP3, HSK, ⟨hg4.os, hg4.tape, hg4.output, hg4.size, hg4.block⟩⟩
              case measure => simp [intOf]
          · have hcv := cmpV_ge hyz
            have HE : Hid (zs = srtKK key Q (u + 1 - a)) := by
              have h1 := HS.out
              have h2 := HY.out
              rw [show r + 1 - a = (r - a) + 1 by omega] at h1 h2
              rw [Hid, ← h1, sinkK_stop h2 HZ0.out hyz]
            obtain ⟨cq, hcq⟩ : ∃ cq, cmpV key y z = cq := ⟨_, rfl⟩
            rw [hcq] at GC hcv
            clear hcq hyz
            go_wp2_with fail
            go_quiet ((exact quietQ (GC.out _)))
            rename_i nq
            have ho1 := ho.drewN nq
            have hg1 := grownBy_drewN hg nq
            rw [HE.out] at ho1
            clear hc0 hc1 d0 GC hcall hcv
            go_wp2_with fail
            go_roundw
            case rel => exact ⟨u + 1, by omega, .inl (by omega), by go_num, ho1, hg1⟩
            case measure => simp [intOf]; omega
    · have i0 : ¬ (u : Int) + 1 < (b : Int) := by omega
      have HE : Hid (P ++ srtKK key Q (u - a) = T) := by
        rw [Hid, ← HTT.out, show q - 1 = u - a by have := HQB.out; omega]
      rw [HE.out] at ho
      go_wp2_with fail
      go_end0
      exact ⟨rfl, ho, hg⟩

set_option maxRecDepth 100000 in
set_option maxHeartbeats 8000000 in
theorem f_stableCmp (key : Int → Int) (p : Int → Prop) (fn : Nat) (cap : Array Value) (hknown : Known fn) (v : Value) (xs : List Int) (n Bk : Nat) (w : World) (ho : Own w 3 Bk v (ints xs)) (hn : xs.length = n) (hl : n < 40)
    (hp : ∀ x ∈ xs, p x) (hc : CmpOk key p fn cap v.ownBlock w) :
    Calls Tryd.prog 206 #[v, .int .i64 n, .func (.func fn) #[] cap] w (RetS Bk v (srtS key xs) w) := by
  obtain ⟨al, c, rfl, h2, h3⟩ := ho.rd.formi
  rw [hn] at ho hc ⊢
  have HCM := Lib.hid hc
  have HPX := Lib.hid hp
  obtain ⟨F, hF⟩ : ∃ F, xs.take 20 = F := ⟨_, rfl⟩
  obtain ⟨G, hG⟩ : ∃ G, xs.drop 20 = G := ⟨_, rfl⟩
  have hFG : xs = F ++ G := by rw [← hF, ← hG, List.take_append_drop]
  have HFG := Lib.hid hFG
  have HLF : Hid (20 ≤ n → F.length = 20 ∧ G.length = n - 20) := fun h => by rw [← hF, ← hG, List.length_take, List.length_drop]; omega
  have HN := Lib.hid hn
  have HIA : Hid (n < 20 → Calls Tryd.prog 242 #[.slice al n c, .int .i64 0, .int .i64 (n : Int), .func (.func fn) #[] cap] w (RetS Bk (.slice al n c) (srtS key xs) w)) := fun h => by
    have := f_insertionR key p fn cap hknown (.slice al n c) [] xs n 0 n n Bk w ho hn (by omega) rfl (by omega) (by omega) hp hc
    rw [List.nil_append, srtKK_all key hn] at this
    exact this
  have HIB : Hid (20 ≤ n → Calls Tryd.prog 242 #[.slice al n c, .int .i64 0, .int .i64 20, .func (.func fn) #[] cap] w (RetS Bk (.slice al n c) (srtS key F ++ G) w)) := fun h => by
    have := f_insertionR key p fn cap hknown (.slice al n c) [] xs n 0 20 20 Bk w ho hn (by omega) rfl (by omega) (by omega) hp hc
    rw [List.nil_append, srtKK_eq key xs 19 (by omega), hF, hG] at this
    exact this
  have HIC : Hid (20 ≤ n → ∀ wx, w.grownBy wx (Value.slice al n c).ownBlock → Own wx 3 Bk (.slice al n c) (ints (srtS key F ++ G)) → Calls Tryd.prog 242 #[.slice al n c, .int .i64 20, .int .i64 (n : Int), .func (.func fn) #[] cap] wx (RetS Bk (.slice al n c) (srtS key F ++ srtS key G) wx)) := fun h wx hg hox => by
    obtain ⟨l1, l2⟩ := HLF.out h
    have := f_insertionR key p fn cap hknown (.slice al n c) (srtS key F) G n 20 (n - 20) n Bk wx hox (by rw [List.length_append, srtS_length]; omega) (by omega) (by rw [srtS_length]; exact l1) (by omega) (by omega) (fun x hx => hp x (by rw [hFG]; exact List.mem_append_right _ hx)) (hc.up hg)
    rw [srtKK_all key l2] at this
    exact this
  have HID : Hid (20 < n → ∀ wx, w.grownBy wx (Value.slice al n c).ownBlock → Own wx 3 Bk (.slice al n c) (ints (srtS key F ++ srtS key G)) → Calls Tryd.prog 243 #[.slice al n c, .int .i64 0, .int .i64 20, .int .i64 (n : Int), .func (.func fn) #[] cap] wx (RetS Bk (.slice al n c) (srtS key xs) wx)) := fun h wx hg hox => by
    obtain ⟨l1, l2⟩ := HLF.out (by omega)
    have e : srtS key F ++ srtS key G = [] ++ (srtS key F ++ (srtS key G ++ [])) := by simp
    rw [e] at hox
    have := f_symMerge key p fn cap hknown (.slice al n c) Bk n (by omega) n [] (srtS key F) (srtS key G) [] 0 20 n wx (by rw [srtS_length, srtS_length]; omega) hox (by simp [srtS_length]; omega) rfl (by rw [srtS_length]; omega) (by rw [srtS_length]; omega) (by rw [srtS_length]; omega) (by rw [srtS_length]; omega) (srtS_asc _) (srtS_asc _)
      (fun x hx => hp x (by rw [hFG]; exact List.mem_append_left _ ((srtS_mem _ _).1 hx))) (fun x hx => hp x (by rw [hFG]; exact List.mem_append_right _ ((srtS_mem _ _).1 hx))) (hc.up hg)
    rw [List.nil_append, List.append_nil, srtS_app, ← hFG] at this
    exact this
  have HEQ : Hid (n = 20 → srtS key F ++ srtS key G = srtS key xs) := fun h => by
    have hg0 : G = [] := List.eq_nil_of_length_eq_zero (by have := (HLF.out (by omega)).2; omega)
    rw [hFG, hg0]
    simp [srtS, sortK]
  clear hc hp hF hG hFG hn h2
  go_enter Tryd.func206, Tryd.ntmps206
  go_wp2_with fail
  go_loopw [7, 8] (fun av bv wr => (av = .int .i64 0 ∧ bv = .int .i64 20 ∧ w = wr) ∨ (20 ≤ n ∧ av = .int .i64 20 ∧ bv = .int .i64 40 ∧ Own wr 3 Bk (.slice al n c) (ints (srtS key F ++ G)) ∧ w.grownBy wr (Value.slice al n c).ownBlock)) (fun _ bv _ => (60 - intOf bv).toNat)
  case atStart => exact .inl ⟨rfl, rfl, rfl⟩
  case round =>
    rcases hrel with ⟨rfl, rfl, rfl⟩ | ⟨h20, rfl, rfl, ho1, hg1⟩
    · by_cases h20 : 20 ≤ n
      · have i0 : (20 : Int) ≤ (n : Int) := by omega
        go_wp2_with fail
        refine (HIB.out h20).mono ?_
        rintro e w2 ⟨rfl, ho2, hg2⟩
        go_wp2_with fail
        go_roundw
        case rel => exact .inr ⟨h20, rfl, rfl, ho2, hg2⟩
        case measure => simp [intOf]
      · have i0 : ¬ (20 : Int) ≤ (n : Int) := by omega
        have i1 : ¬ (20 : Int) < (n : Int) := by omega
        go_wp2_with fail
        refine (HIA.out (by omega)).mono ?_
        rintro e w2 ⟨rfl, ho2, hg2⟩
        go_wp2_with fail
        go_loop [6, 7, 8, 9] (fun sv _ _ _ => sv = .int .i64 20) (fun _ _ _ _ => 0)
        case atStart => exact rfl
        case round =>
          subst hrel
          go_wp2_with fail
          go_end0
          exact ⟨rfl, ho2, hg2⟩
    · have i0 : ¬ (40 : Int) ≤ (n : Int) := by omega
      go_wp2_with fail
      refine (HIC.out h20 _ hg1 ho1).mono ?_
      rintro e w2 ⟨rfl, ho2, hg2⟩
      replace hg2 := grownBy_trans hg1 hg2
      clear ho1 hg1
      go_wp2_with fail
      go_loopw [6, 7, 8, 9] (fun sv _ _ _ wr => (sv = .int .i64 20 ∧ w2 = wr) ∨ (sv = .int .i64 40 ∧ Own wr 3 Bk (.slice al n c) (ints (srtS key xs)) ∧ w.grownBy wr (Value.slice al n c).ownBlock)) (fun sv _ _ _ _ => (60 - intOf sv).toNat)
      case atStart => exact .inl ⟨rfl, rfl⟩
      case round =>
        rcases hrel with ⟨rfl, rfl⟩ | ⟨rfl, ho3, hg3⟩
        · by_cases h20' : 20 < n
          · have i1 : (20 : Int) < (n : Int) := by omega
            go_wp2_with fail
            go_loop [7, 8] (fun av bv => av = .int .i64 0 ∧ bv = .int .i64 40) (fun _ _ => 0)
            case atStart => exact ⟨rfl, rfl⟩
            case round =>
              obtain ⟨rfl, rfl⟩ := hrel
              go_wp2_with fail
              refine (HID.out h20' _ hg2 ho2).mono ?_
              rintro e w3 ⟨rfl, ho3, hg3⟩
              replace hg3 := grownBy_trans hg2 hg3
              go_wp2_with fail
              go_roundw
              case rel => exact .inr ⟨rfl, ho3, hg3⟩
              case measure => simp [intOf]
          · have i1 : ¬ (20 : Int) < (n : Int) := by omega
            rw [HEQ.out (by omega)] at ho2
            go_wp2_with fail
            go_end0
            exact ⟨rfl, ho2, hg2⟩
        · go_wp2_with fail
          go_end0
          exact ⟨rfl, ho3, hg3⟩
theorem f_SortStable40 (key : Int → Int) (p : Int → Prop) (fn : Nat) (cap : Array Value) (hknown : Known fn) (v : Value) (xs : List Int) (n Bk : Nat) (w : World) (ho : Own w 3 Bk v (ints xs)) (hn : xs.length = n) (hl : n < 40)
    (hp : ∀ x ∈ xs, p x) (hc : CmpOk key p fn cap v.ownBlock w) :
    Calls Tryd.prog 136 #[v, .func (.func fn) #[] cap] w (RetS Bk v (srtS key xs) w) := by
  have HS := Lib.hid (f_stableCmp key p fn cap hknown v xs n Bk w ho hn hl hp hc)
  obtain ⟨al, c, rfl, h2, h3⟩ := ho.rd.formi
  rw [hn] at HS ⊢
  clear hn h2 hc hp ho
  go_enter Tryd.func136, Tryd.ntmps136
  go_wp2_with fail
  refine HS.out.mono ?_
  rintro e w2 ⟨rfl, ho2, hg2⟩
  go_wp2_with fail
  go_end0
  exact ⟨rfl, ho2, hg2⟩

end Go.Proofs.YtdagkgkllgpeeaaDoor
