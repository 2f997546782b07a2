/- Walks: the functions on late records: the slack, the buckets. -/
import Derived.Test.YtlbakbachcpifaaLateFns
import Derived.Test.YtlbakbachcpifaaPlainFnLate
import Derived.Deep.RegionHeld3
import Derived.Deep.RegionLaw
import Derived.IntWalk
namespace Go.Proofs.Ytlbakbachcpifaa
open Go.RowKit
set_option linter.unusedVariables false
set_option linter.unusedSimpArgs false

theorem hi_bd {T : List Int} (hT : ∀ t ∈ T, 0 ≤ t ∧ t ≤ 1000) : ∀ k, k ≤ T.length → 0 ≤ hiK T k ∧ hiK T k ≤ 1000
  | 0, _ => ⟨Int.le_refl _, by rw [hiK]; omega⟩
  | k + 1, h => by
    have h1 := hi_bd hT k (by omega)
    have h2 : T.getD k 0 ≤ 1000 := by rw [List.getD_eq_getElem?_getD, List.getElem?_eq_getElem (by omega)]; exact (hT _ (List.getElem_mem _)).2
    rw [hiK]; omega
theorem slack_bd {T : List Int} (hT : ∀ t ∈ T, 0 ≤ t ∧ t ≤ 1000) : ∀ k, k ≤ T.length → 0 ≤ slackK T k ∧ slackK T k ≤ 1000
  | 0, _ => ⟨Int.le_refl _, by rw [slackK]; omega⟩
  | k + 1, h => by
    have h1 := slack_bd hT k (by omega)
    have h3 := hi_bd hT (k + 1) h
    have h2 : 0 ≤ T.getD k 0 := by rw [List.getD_eq_getElem?_getD, List.getElem?_eq_getElem (by omega)]; exact (hT _ (List.getElem_mem _)).1
    rw [slackK]; omega

set_option maxRecDepth 100000 in
set_option maxHeartbeats 1000000 in
theorem I_SlackNeeded (w : World) (v : Value) (xs : List Int) (h : Rd w v (ints xs)) (_ : I64s xs) (_ : xs.length ≤ 1048576) : Calls Try.prog 21 #[v] w (RetB (.int .i64 (slackNeed xs)) w) := by
  have HO := i_TimesOk v xs w h
  cases hok : timesOk xs
  · rw [hok] at HO
    have HR : Hid (slackNeed xs = -1) := by rw [Hid, slackNeed, hok]; rfl
    have HOK := Lib.hid HO
    clear HO hok
    obtain ⟨a, c, rfl, h2, h3⟩ := h.formi
    go_enter Try.func21, Try.ntmps21
    go_wp2_with (go_at_call 26; refine HOK.out.mono ?_; rintro e w' ⟨rfl, rfl⟩)
    go_ret
    exact ⟨ret_int HR.out.symm, Below.refl _ _⟩
  · rw [hok] at HO
    have HR : Hid (slackNeed xs = slackK xs xs.length) := by rw [Hid, slackNeed, hok]; rfl
    obtain ⟨hl, hT⟩ := timesOk_iff.1 hok
    have HOK := Lib.hid HO
    have HHB := Lib.hid (fun k hk => hi_bd hT k hk)
    have HSB := Lib.hid (fun k hk => slack_bd hT k hk)
    have HT := Lib.hid hT
    clear HO hok hT
    obtain ⟨a, n, c, rfl, HN, hnc, hc⟩ := h.formN
    have hn : n ≤ 30 := by have := HN.out; omega
    go_enter Try.func21, Try.ntmps21
    go_wp2_with (go_at_call 26; refine HOK.out.mono ?_; rintro e w' ⟨rfl, rfl⟩)
    go_loopg [3, 4, 12] n (fun gq vn vg iv wr => ∃ (k : Nat) (nd g : Int), gq = n - k ∧ k ≤ n ∧ iv = .int .i64 (k : Int) ∧ vn = .int .i64 nd ∧ vg = .int .i64 g ∧ 0 ≤ nd ∧ nd ≤ 1000 ∧ 0 ≤ g ∧ g ≤ 1000 ∧ Hid (slackK xs k = nd) ∧ Hid (hiK xs k = g) ∧ w = wr)
    case atStart => exact ⟨0, 0, 0, rfl, Nat.zero_le _, rfl, rfl, rfl, by omega, by omega, by omega, by omega, rfl, rfl, rfl⟩
    case round =>
      obtain ⟨k, nd, g, hgq, hk, rfl, rfl, rfl, n0, n1, g0, g1, HND, HG, rfl⟩ := hrel
      by_cases hlt : k < n
      · have i0 : (k : Int) < (n : Int) := by omega
        obtain ⟨ad, t, rfl, hct, ht⟩ := h.int (k := k) (by have := HN.out; omega)
        have htb := HT.out t (List.mem_of_getElem? ht.out)
        have HTK : Hid (xs.getD k 0 = t) := getD_of ht.out
        have HG2 : Hid (hiK xs (k + 1) = max g t) := by rw [Hid, hiK, HG.out, HTK.out]
        have HND2 : Hid (slackK xs (k + 1) = max nd (max g t - t)) := by rw [Hid, slackK, HG2.out, HND.out, HTK.out]
        go_upto_region 7 with (fail)
        go_cut [4] (fun vg wx => w = wx ∧ ∃ g2, vg = .int .i64 g2 ∧ Hid (max g t = g2) ∧ 0 ≤ g2 ∧ g2 ≤ 1000)
        case first =>
          go_wp2_with fail
          all_goals
            go_meet
            exact ⟨rfl, _, rfl, by rw [Hid]; omega, by omega, by omega⟩
        case rest =>
          obtain ⟨rfl, g2, rfl, HGG, g20, g21⟩ := hcut
          go_wp2_with fail
          all_goals
            go_roundg (n - (k + 1))
            case measure => omega
            case rel => exact ⟨k + 1, _, g2, rfl, by omega, by go_num, rfl, rfl, by omega, by omega, g20, g21, by rw [HND2.out, HGG.out, Hid]; omega, HG2.out.trans HGG.out, rfl⟩
      · obtain rfl : k = n := by omega
        have HE : Hid (slackNeed xs = nd) := by rw [Hid, HR.out, ← HN.out]; exact HND.out
        go_wp2_with fail
        go_ret
        exact ⟨ret_int HE.out.symm, Below.refl _ _⟩

/-- The records by their times, after k of them; m rows. -/
def bktK (T : List Int) (z : Int) (m : Nat) : Nat → List (List Int)
  | 0 => List.replicate m []
  | k + 1 => (bktK T z m k).set (T.getD k 0 / z).toNat ((bktK T z m k).getD (T.getD k 0 / z).toNat [] ++ [(k : Int)])
section
variable {T : List Int} {z : Int} {m : Nat}
theorem bktK_length : ∀ k, (bktK T z m k).length = m
  | 0 => by simp [bktK]
  | k + 1 => by rw [bktK, List.length_set, bktK_length k]
theorem tot_set1 {y : Int} : ∀ {xss : List (List Int)} {j : Nat} {xs : List Int}, xss[j]? = some xs → tot (xss.set j (xs ++ [y])) = tot xss + 1
  | [], j, xs, h => by simp at h
  | x :: t, 0, xs, h => by
    simp at h
    subst h
    simp [tot]
    omega
  | x :: t, j + 1, xs, h => by
    simp at h
    have := tot_set1 (y := y) h
    simp only [tot, List.set_cons_succ, List.foldr_cons] at *
    omega
theorem tot_nils0 : ∀ m, tot (List.replicate m ([] : List Int)) = 0
  | 0 => rfl
  | m + 1 => by
    rw [List.replicate_succ]
    show 0 + tot (List.replicate m []) = 0
    rw [tot_nils0 m]
theorem bktK_get {k j : Nat} (hj : j < m) : ∃ row, (bktK T z m k)[j]? = some row := ⟨_, List.getElem?_eq_getElem (by rw [bktK_length]; exact hj)⟩
theorem bktK_mem : ∀ (k j : Nat) (row : List Int), (bktK T z m k)[j]? = some row → ∀ x ∈ row, ∃ i : Nat, i < k ∧ x = i ∧ (T.getD i 0 / z).toNat = j
  | 0, j, row, h, x, hx => by
    rw [bktK, List.getElem?_replicate] at h
    split at h
    · cases h; cases hx
    · cases h
  | k + 1, j, row, h, x, hx => by
    rw [bktK, List.getElem?_set] at h
    by_cases e : (T.getD k 0 / z).toNat = j
    · rw [if_pos e] at h
      by_cases hlt : (T.getD k 0 / z).toNat < (bktK T z m k).length
      · rw [if_pos hlt] at h
        cases h
        rcases List.mem_append.1 hx with hx | hx
        · have hx2 : x ∈ ((bktK T z m k)[(T.getD k 0 / z).toNat]?).getD [] := hx
          rw [List.getElem?_eq_getElem hlt] at hx2
          obtain ⟨i, h1, h2, h3⟩ := bktK_mem k _ _ (List.getElem?_eq_getElem hlt) x hx2
          exact ⟨i, by omega, h2, h3.trans e⟩
        · exact ⟨k, by omega, by simpa using hx, e⟩
      · rw [if_neg hlt] at h
        cases h
    · rw [if_neg e] at h
      obtain ⟨i, h1, h2, h3⟩ := bktK_mem k j row h x hx
      exact ⟨i, by omega, h2, h3⟩
theorem bktK_tot : ∀ k, (∀ i, i < k → (T.getD i 0 / z).toNat < m) → tot (bktK T z m k) = k
  | 0, _ => tot_nils0 m
  | k + 1, h => by
    obtain ⟨row, hr⟩ := bktK_get (T := T) (z := z) (k := k) (h k (by omega))
    have e : (bktK T z m k).getD (T.getD k 0 / z).toNat [] = row := by
      show ((bktK T z m k)[(T.getD k 0 / z).toNat]?).getD [] = row
      rw [hr]; rfl
    rw [bktK, e, tot_set1 hr, bktK_tot k fun i hi => h i (by omega)]
theorem bktK_has : ∀ (k i : Nat), i < k → (∀ i, i < k → (T.getD i 0 / z).toNat < m) → ∃ row, (bktK T z m k)[(T.getD i 0 / z).toNat]? = some row ∧ (i : Int) ∈ row
  | 0, i, h, _ => by omega
  | k + 1, i, h, H => by
    rw [bktK, List.getElem?_set]
    by_cases e : (T.getD k 0 / z).toNat = (T.getD i 0 / z).toNat
    · rw [if_pos e, if_pos (by rw [bktK_length]; exact H k (by omega))]
      refine ⟨_, rfl, List.mem_append.2 ?_⟩
      by_cases e2 : i = k
      · exact .inr (by simp [e2])
      · obtain ⟨row, h1, h2⟩ := bktK_has k i (by omega) fun i hi => H i (by omega)
        refine .inl ?_
        have e3 : (bktK T z m k).getD (T.getD k 0 / z).toNat [] = row := by
          show ((bktK T z m k)[(T.getD k 0 / z).toNat]?).getD [] = row
          rw [e, h1]; rfl
        rw [e3]
        exact h2
    · rw [if_neg e]
      exact bktK_has k i (by
        have : i ≠ k := fun e2 => e (by rw [e2])
        omega) fun i hi => H i (by omega)
theorem hiK_top : ∀ k, 0 < k → (∀ i, i < k → 0 ≤ T.getD i 0) → ∃ i, i < k ∧ T.getD i 0 = hiK T k
  | k + 1, _, h => by
    by_cases e : hiK T k ≤ T.getD k 0
    · exact ⟨k, by omega, by rw [hiK]; omega⟩
    · by_cases hk : 0 < k
      · obtain ⟨i, h1, h2⟩ := hiK_top k hk fun i hi => h i (by omega)
        exact ⟨i, by omega, by rw [hiK]; omega⟩
      · obtain rfl : k = 0 := by omega
        have := h 0 (by omega)
        rw [hiK] at e
        omega
theorem hiK_ge : ∀ (k i : Nat), i < k → T.getD i 0 ≤ hiK T k
  | k + 1, i, h => by
    by_cases e : i = k
    · subst e; rw [hiK]; omega
    · have := hiK_ge k i (by omega); rw [hiK]; omega
end
/-- A row turns. -/
theorem RowsOwn.set {w w2 : World} {E B T T' j : Nat} {rows : List Value} {r r' : Value} {xss : List (List Int)} {ys : List Int} (h : RowsOwn w E B T rows xss) (hr : rows[j]? = some r) (hg : w.grownBy w2 r.ownBlock) (ho : Own w2 E B r' (ints ys)) (hT : T ≤ T')
    (hat : ∀ g, r'.ownBlock = some g → r.ownBlock = some g ∨ T ≤ g) (hT' : ∀ g, r'.ownBlock = some g → g < T') : RowsOwn w2 E B T' (rows.set j r') (xss.set j ys) := by
  have hj := (List.getElem?_eq_some_iff.1 hr).1
  refine ⟨by simp [h.1], fun i s hs => ?_, fun i k s t hik hs ht g hg2 => ?_⟩
  · rw [List.getElem?_set] at hs
    by_cases e : j = i
    · subst e
      rw [if_pos rfl, if_pos hj] at hs
      cases hs
      exact ⟨ys, by rw [List.getElem?_set, if_pos rfl, if_pos (by rw [← h.1]; exact hj)], ho, hT'⟩
    · rw [if_neg e] at hs
      obtain ⟨xs, h1, h2, h3⟩ := h.2.1 i s hs
      refine ⟨xs, by rw [List.getElem?_set, if_neg e]; exact h1, h2.apart hg fun g hg2 e2 => ?_, fun g hg2 => Nat.lt_of_lt_of_le (h3 g hg2) hT⟩
      rcases Nat.lt_or_gt_of_ne e with e3 | e3
      · exact h.2.2 j i r s e3 hr hs g e2 hg2
      · exact h.2.2 i j s r e3 hs hr g hg2 e2
  · rw [List.getElem?_set] at hs ht
    by_cases e : j = i
    · subst e
      rw [if_pos rfl, if_pos hj] at hs
      cases hs
      rw [if_neg (by omega)] at ht
      intro e2
      obtain ⟨_, _, _, h3⟩ := h.2.1 k t ht
      rcases hat g hg2 with e3 | e3
      · exact h.2.2 j k r t hik hr ht g e3 e2
      · have := h3 g e2; omega
    · rw [if_neg e] at hs
      by_cases e4 : j = k
      · subst e4
        rw [if_pos rfl, if_pos hj] at ht
        cases ht
        intro e2
        obtain ⟨_, _, _, h3⟩ := h.2.1 i s hs
        rcases hat g e2 with e3 | e3
        · exact h.2.2 i j s r hik hs hr g hg2 e3
        · have := h3 g hg2; omega
      · rw [if_neg e4] at ht
        exact h.2.2 i k s t hik hs ht g hg2

set_option maxRecDepth 100000 in
set_option maxHeartbeats 8000000 in
theorem i_BucketsOf (v : Value) (T : List Int) (z : Int) (w : World) (h : Rd w v (ints T)) (hok : timesOk T = true) (hz : 1 ≤ z ∧ z ≤ 1000) (hhi : hiK T T.length ≤ 40 * z) :
    Calls Try.prog 30 #[v, .int .i64 z] w (RetOwn2 (bktK T z ((hiK T T.length / z).toNat + 1) T.length) w) := by
  have HO := i_TimesOk v T w h
  rw [hok] at HO
  obtain ⟨hl, hT⟩ := timesOk_iff.1 hok
  have HOK := Lib.hid HO
  have HGE := Lib.hid (fun i => hiK_ge (T := T) T.length i)
  have HT := Lib.hid hT
  have HHI := Lib.hid hhi
  clear HO hok hT hhi
  obtain ⟨a, n, c, rfl, HN, hnc, hc⟩ := h.formN
  have hn : n ≤ 30 := by have := HN.out; omega
  have d1 : decide (z < 1) = false := by simp; omega
  have d2 : decide (z > 1000) = false := by simp; omega
  go_enter Try.func30, Try.ntmps30
  go_wp2_with (go_at_call 26; refine HOK.out.mono ?_; rintro e w' ⟨rfl, rfl⟩)
  go_loopg [5, 24] n (fun gq vg iv wr => ∃ (k : Nat) (g : Int), gq = n - k ∧ k ≤ n ∧ iv = .int .i64 (k : Int) ∧ vg = .int .i64 g ∧ 0 ≤ g ∧ g ≤ 1000 ∧ Hid (hiK T k = g) ∧ w = wr)
  case atStart => exact ⟨0, 0, rfl, Nat.zero_le _, rfl, rfl, by omega, by omega, rfl, rfl⟩
  case round =>
    obtain ⟨k, g, hgq, hk, rfl, rfl, g0, g1, HG, rfl⟩ := hrel
    by_cases hlt : k < n
    · have i0 : (k : Int) < (n : Int) := by omega
      obtain ⟨ad, t, rfl, hct, ht⟩ := h.int (k := k) (by have := HN.out; omega)
      have htb := HT.out t (List.mem_of_getElem? ht.out)
      have HTK : Hid (T.getD k 0 = t) := getD_of ht.out
      have HG2 : Hid (hiK T (k + 1) = max g t) := by rw [Hid, hiK, HG.out, HTK.out]
      go_wp2_with fail
      all_goals
        go_roundg (n - (k + 1))
        case measure => omega
        case rel => exact ⟨k + 1, _, rfl, by omega, by go_num, rfl, by omega, by omega, by rw [Hid, HG2.out]; omega, rfl⟩
    · obtain rfl : k = n := by omega
      have HGN : Hid (hiK T T.length = g) := by rw [Hid, ← HN.out]; exact HG.out
      have hg40 : g ≤ 40 * z := by have := HHI.out; rw [HGN.out] at this; exact this
      have d3 : decide (g > 40 * z) = false := by simp; omega
      have hq0 : 0 ≤ g / z := Int.ediv_nonneg g0 (by omega)
      have hq1 : g / z ≤ 40 := Int.ediv_le_of_le_mul (by omega) hg40
      obtain ⟨m, hm⟩ : ∃ m : Nat, (g / z).toNat + 1 = m := ⟨_, rfl⟩
      have HMZ : Hid (g / z + 1 = (m : Int)) := by rw [Hid]; omega
      have hm1 : 1 ≤ m ∧ m ≤ 41 := by omega
      have HRES : Hid ((hiK T T.length / z).toNat + 1 = m) := by rw [Hid, HGN.out]; exact hm
      have HQ : Hid (∀ i t, T[i]? = some t → 0 ≤ t / z ∧ (t / z).toNat < m) := fun i t ht => by
        have h1 := HT.out t (List.mem_of_getElem? ht)
        have h2 := HGE.out i (List.getElem?_eq_some_iff.1 ht).1
        rw [getD_of ht, HGN.out] at h2
        have h3 := Int.ediv_le_ediv (show 0 < z by omega) h2
        have h4 := Int.ediv_nonneg h1.1 (show 0 ≤ z by omega)
        exact ⟨h4, by omega⟩
      have HQT : Hid (∀ i, i < k → (T.getD i 0 / z).toNat < m) := fun i hi => by
        have h0 := List.getElem?_eq_getElem (show i < T.length by have := HN.out; omega)
        rw [getD_of h0]
        exact (HQ.out i _ h0).2
      rw [HRES.out]
      clear hm
      go_wp2_with (at_make; refine wpList_mk (B := w.heap.size) (n := m) rfl _ _ 35 rfl elII (by show Value.int .i64 (g / z + 1) = _; rw [HMZ.out]) (by show Value.int .i64 (g / z + 1) = _; rw [HMZ.out]) (Nat.le_refl _) (by omega) (by omega) ?_; intro bo w1 hbo hown hg1)
      try rw [HMZ.out]
      have hb1 : Below w.heap.size w w1 := (Below.refl _ _).grown hg1 (Nat.le_refl _) (fun _ h => by cases h)
      have hR1 : RowsOwn w1 3 w.heap.size w1.heap.size (List.replicate m (.slice none 0 0)) (bktK T z m 0) := by
        refine ⟨by simp [bktK], fun i r hr => ?_, fun i j r s _ hr hs g hg => ?_⟩
        · rw [List.getElem?_replicate] at hr
          by_cases hi : i < m
          · rw [if_pos hi] at hr
            cases hr
            exact ⟨[], by rw [bktK, List.getElem?_replicate, if_pos hi], Own.nil _ _ _, fun k hk => by cases hk⟩
          · rw [if_neg hi] at hr
            cases hr
        · rw [List.getElem?_replicate] at hr
          by_cases hi : i < m
          · rw [if_pos hi] at hr
            cases hr
            cases hg
          · rw [if_neg hi] at hr
            cases hr
      go_wp2_with fail
      go_loopg [43] k (fun gq iv wr => ∃ (q : Nat) (rows : List Value), gq = k - q ∧ q ≤ k ∧ iv = .int .i64 (q : Int) ∧ RowsOwn wr 3 w.heap.size wr.heap.size rows (bktK T z m q) ∧ Own wr 22 w.heap.size (.slice (some bo) m m) rows ∧ Below w.heap.size w wr)
      case atStart => exact ⟨0, _, rfl, Nat.zero_le _, rfl, hR1, hown, hb1⟩
      case round =>
        clear hown hg1 hb1 hR1
        obtain ⟨q, rows, hgq, hq, rfl, hR, ho, hb⟩ := hrel
        have hsb := hb.size
        by_cases hlt2 : q < k
        · have i0 : (q : Int) < (k : Int) := by omega
          obtain ⟨ad, t, rfl, hct, ht⟩ := (h.below hb).int (k := q) (by have := HN.out; omega)
          have htb := HT.out t (List.mem_of_getElem? ht.out)
          obtain ⟨hq0, hqm⟩ := HQ.out q t ht.out
          obtain ⟨j, hj⟩ := Int.eq_ofNat_of_zero_le hq0
          have hjm : j < m := by omega
          have HJ : Hid ((T.getD q 0 / z).toNat = j) := by rw [Hid, getD_of ht.out, hj]; simp
          have hrl : rows.length = m := by rw [hR.1, bktK_length]
          obtain ⟨r, hr⟩ : ∃ r, rows[j]? = some r := ⟨_, List.getElem?_eq_getElem (by omega)⟩
          obtain ⟨ys, hys, hor⟩ := hR.row hr
          have HST : Hid (bktK T z m (q + 1) = (bktK T z m q).set j (ys ++ [(q : Int)])) := by rw [Hid, bktK, HJ.out]; show (bktK T z m q).set j (((bktK T z m q)[j]?).getD [] ++ _) = _; rw [hys]; rfl
          have hyl : ys.length ≤ 30 := by
            have h1 := tot_mem (List.mem_of_getElem? hys)
            rw [bktK_tot q (fun i hi => HQT.out i (by omega))] at h1
            omega
          obtain ⟨ar, mr, cr, rfl, HMR, _, _⟩ := hor.rd.formN
          have hmr : mr ≤ 30 := by have := HMR.out; omega
          have HLR : Hid ((ints ys).length = mr) := by rw [Hid, ints_length]; exact HMR.out.symm
          have hcq : wr.cell? (bo.add j) = some (.slice ar mr cr) := by
            obtain ⟨ad2, e, hc2⟩ := ho.rd.cell (k := j) (by omega)
            injection e with e
            rw [List.getElem?_eq_getElem (by omega)] at hr
            injection hr with hr
            rw [e, hc2, hr]
          have hfq := ho.frozen rfl j
          have e1 : t / z = (j : Int) := hj
          have e2 : t.tdiv z = (j : Int) := by rw [Int.tdiv_eq_ediv_of_nonneg htb.1]; exact hj
          have e3 : IntKind.i64.wrap (j : Int) = (j : Int) := IntWalk.i64_in _ (by omega)
          have i1 : (0 : Int) ≤ (j : Int) := by omega
          have i2 : (j : Int) < (m : Int) := by omega
          have HE1 := Lib.hid e1
          have z0 : (z == 0) = false := by simp; omega
          have z1 : ¬ z = 0 := by omega
          have z2 : decide (z = 0) = false := by simp; omega
          have HRR := Lib.hid hr
          clear hr hj hys hq0 hqm hrl
          have HCL : Hid (∀ wx : World, Own wx 22 w.heap.size (.slice (some bo) m m) rows → wx.cell? (bo.add j) = some (.slice ar mr cr)) := fun wx hx => by
            have hrl : rows.length = m := by rw [hR.1, bktK_length]
            obtain ⟨ad2, e, hc2⟩ := hx.rd.cell (k := j) (by omega)
            have h2 := HRR.out
            injection e with e
            rw [List.getElem?_eq_getElem (by omega)] at h2
            injection h2 with h2
            rw [e, hc2, h2]
          have hcqA := HCL.out _ (ho.alloc (.cells #[.int .i64 (q : Int)] 3))
          go_upto_region 15 with (fail)
          go_region_law ((refine step_app1 (by rfl) _ _ _ (by rfl) elI (by rfl) hor (by rfl) (by rfl) hsb (by rw [HLR.out]; omega) (by rw [HLR.out]; omega) ?_; intro b6 c6 w6 ho6 hg6 hat6; have hoo6 := ho.apart hg6 (ho.elem_ne hor (by decide)); have hcq6 := HCL.out _ hoo6; have hfq6 := hoo6.frozen rfl j))
          all_goals
            have hj9 : j < rows.length := by rw [hR.1, bktK_length]; exact hjm
            have hR6 := hR.set (ys := ys ++ [(q : Int)]) HRR.out hg6 (by rw [ints_append]; exact ho6) hg6.size (hat_of hat6) (fun g hg => (ho6.lt g hg).2)
            have hb6 := hb.grown hg6 hsb (fun r hr => (hor.lt r hr).1)
            have hst := hoo6.set rfl hj9 (.slice b6 ((ints ys).length + 1) c6)
            have hR7 := hR6.outer hst.2 hoo6 (by decide)
            rw [← HST.out] at hR7
            have hb7 := hb6.grown hst.2 hb6.size (fun r hr => (hoo6.lt r hr).1)
            clear hor hcq hcqA hfq hoo6 hg6 hat6 ho6 hR6 hb6
            go_wp2_with fail
            go_roundg (k - (q + 1))
            case measure => omega
            case rel => exact ⟨q + 1, _, rfl, by omega, by go_num, hR7.mono (Nat.le_refl _) (by simp), hst.1, ⟨hb7.os, hb7.tape, hb7.output, hb7.size, hb7.block⟩⟩
        · obtain rfl : q = k := by omega
          go_wp2_with fail
          go_ret
          have HQN : Hid (q = T.length) := HN
          have hR' : RowsOwn wr 3 w.heap.size wr.heap.size rows (bktK T z ((hiK T T.length / z).toNat + 1) T.length) := by rw [HRES.out, ← HQN.out]; exact hR
          first
            | exact ⟨_, rfl, ⟨rows, ho, fun g hg => (ho.lt g hg).2, hR'⟩, hb⟩
            | (rw [HRES.out] at hR'; exact ⟨_, rfl, ⟨rows, ho, fun g hg => (ho.lt g hg).2, hR'⟩, hb⟩)

end Go.Proofs.Ytlbakbachcpifaa
