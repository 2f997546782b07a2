/- Walks: the reference's sort. -/
import Derived.Test.YtlbakbachcpifaaSort
namespace Go.Proofs.Ytlbakbachcpifaa
open Go.RowKit
set_option linter.unusedVariables false
set_option linter.unusedSimpArgs false

theorem oneCell_ints1 (xs : List Int) : ∀ u ∈ ints xs, u.oneCell' = true := by
  intro u hu
  simp only [ints, List.mem_map] at hu
  obtain ⟨x, _, rfl⟩ := hu
  rfl
theorem ints_take (xs : List Int) (k : Nat) : (ints xs).take k = ints (xs.take k) := by simp [ints]
theorem ints_drop (xs : List Int) (k : Nat) : (ints xs).drop k = ints (xs.drop k) := by simp [ints]

/-- 'append([]T{}, xs...)': a copy. -/
theorem wpList_copy {P : Program} {w : World} {ops : Array Oper} {rest : List Oper} {o : Oper} {a : Act} {Q : Exit → Act → World → Prop} (hgd : o.guard = none) (s x : Operand) (t : TypeId)
    (ho : o.op = .call { callee := .builtin .append, args := #[s, x], argTypes := #[t, t] })
    {E B bytes : Nat} {z : Value} (ht : ElemOk P t E bytes z) {vx : Value} {news : List Value} (hr : Rd w vx news) (hs : a.eval s = .slice (some ⟨w.heap.size, 0, none⟩) 0 0) (hx : a.eval x = vx)
    (h1 : ∀ u ∈ news, u.oneCell' = true) (hB : B ≤ w.heap.size) (n : Nat) (hn : news.length = n) (hbytes : n * bytes ≤ 140737488355328) (h63 : n ≤ 9223372036854775807)
    (h : ∀ b c w', Own w' E w.heap.size (.slice b n c) news → Below w.heap.size w w' → wpList P ops Q rest (a.put o.dst (.slice b n c)) w') : wpList P ops Q (o :: rest) a (w.alloc (.cells #[] E)) := by
  subst hn
  have hlit : Own (w.alloc (.cells #[] E)) E w.heap.size (.slice (some ⟨w.heap.size, 0, none⟩) 0 0) [] := by simpa [ints] using Own.lit0 w E (Nat.le_refl _)
  refine wpList_app hgd s x t ho ht hs hlit hx (hr.alloc _) h1 (by simp) (by simpa using hbytes) (by simpa using h63) fun b c w' h2 h3 h4 => ?_
  simp only [List.length_nil, Nat.zero_add, List.nil_append] at h2 ⊢
  exact h b c w' h2 (((Below.refl _ _).alloc (Nat.le_refl _) _).grown h3 (by simp) fun r hr => (hlit.lt r hr).1)
/-- 'append(s, xs...)', the lengths in letters. -/
theorem wpList_appn {P : Program} {w : World} {ops : Array Oper} {rest : List Oper} {o : Oper} {a : Act} {Q : Exit → Act → World → Prop} (hgd : o.guard = none) (s x : Operand) (t : TypeId)
    (ho : o.op = .call { callee := .builtin .append, args := #[s, x], argTypes := #[t, t] })
    {E B bytes : Nat} {z : Value} (ht : ElemOk P t E bytes z) {v : Value} {xs : List Value} (hown : Own w E B v xs) {vx : Value} {news : List Value} (hr : Rd w vx news) (hs : a.eval s = v) (hx : a.eval x = vx)
    (h1 : ∀ u ∈ news, u.oneCell' = true) (hB : B ≤ w.heap.size) (m : Nat) (hm : xs.length + news.length = m) (hbytes : m * bytes ≤ 140737488355328) (h63 : m ≤ 9223372036854775807)
    (h : ∀ b c w', Own w' E B (.slice b m c) (xs ++ news) → w.grownBy w' v.ownBlock →
      ((Value.slice b m c).ownBlock = v.ownBlock ∨ (Value.slice b m c).ownBlock = some w.heap.size) →
      wpList P ops Q rest (a.put o.dst (.slice b m c)) w') : wpList P ops Q (o :: rest) a w := by
  subst hm
  exact wpList_app hgd s x t ho ht hs hown hx hr h1 hB hbytes h63 h
/-- 'append(s, x)', the length in a letter. -/
theorem wpList_app1m {P : Program} {w : World} {ops : Array Oper} {rest : List Oper} {o : Oper} {a : Act} {Q : Exit → Act → World → Prop} (hgd : o.guard = none) (s x : Operand) (t : TypeId)
    (ho : o.op = .call { callee := .builtin .append, args := #[s, x], argTypes := #[t, t] })
    {E B bytes : Nat} {z : Value} (ht : ElemOk P t E bytes z) {v u : Value} {xs : List Value} (hs : a.eval s = v) (hown : Own w E B v xs) (hx : a.eval x = .slice (some ⟨w.heap.size, 0, none⟩) 1 1)
    (h1 : u.oneCell' = true) (hB : B ≤ w.heap.size) (m : Nat) (hm : xs.length = m) (hbytes : (m + 1) * bytes ≤ 140737488355328) (h63 : m + 1 ≤ 9223372036854775807)
    (h : ∀ b c w', Own w' E B (.slice b (m + 1) c) (xs ++ [u]) → w.grownBy w' v.ownBlock →
      ((Value.slice b (m + 1) c).ownBlock = v.ownBlock ∨ ∃ k, w.heap.size ≤ k ∧ (Value.slice b (m + 1) c).ownBlock = some k) →
      wpList P ops Q rest (a.put o.dst (.slice b (m + 1) c)) w') : wpList P ops Q (o :: rest) a (w.alloc (.cells #[u] E)) := by
  subst hm
  exact wpList_app1 hgd s x t ho ht hs hown hx h1 hB hbytes h63 h

theorem Own.some_of {w : World} {E B : Nat} {b : Option Addr} {m c : Nat} {xs : List Value} (h : Own w E B (.slice b m c) xs) (hx : 0 < xs.length) : ∃ p, b = some p := by
  rcases h with ⟨_, rfl⟩ | ⟨g, off, c', cur, h1, _⟩
  · simp at hx
  · injection h1 with h1 _ _
    exact ⟨_, h1⟩

set_option maxHeartbeats 2000000 in
theorem s_l08Sort (v : Value) (xs : List Int) (w : World) (h : Rd w v (ints xs)) (hl : xs.length ≤ 1000) : Calls Try.prog 80 #[v] w (RetOwn 3 (ints (srt xs)) w) := by
  obtain ⟨a, c, rfl, h2, h3⟩ := h.formi
  go_enter Try.func80, Try.ntmps80
  go_wp2
  go_loopw [3, 11] (fun vo i wr => ∃ k : Nat, k ≤ xs.length ∧ i = .int .i64 k ∧ (∃ p m c, vo = .slice (some p) m c) ∧ Own wr 3 w.heap.size vo (ints (srt (xs.take k))) ∧ Below w.heap.size w wr) (fun _ i _ => xs.length - (intOf i).toNat)
  case atStart => exact ⟨0, Nat.zero_le _, rfl, ⟨_, _, _, rfl⟩, Own.lit0 w 3 (Nat.le_refl _), (Below.refl _ _).alloc (Nat.le_refl _) _⟩
  case round =>
    obtain ⟨wo, rfl⟩ : ∃ wo : World, wo = wr := ⟨_, rfl⟩
    obtain ⟨k, hk, rfl, ⟨ap, mp, cp, rfl⟩, ho, hb⟩ := hrel
    by_cases hlt : k < xs.length
    · obtain ⟨ad, x, rfl, hc, hx⟩ := (h.below hb).int hlt
      have hsl := srt_length (xs.take k)
      rw [List.length_take] at hsl
      have HST := Lib.hid (fun q => srt_step (q := q) hx.out)
      obtain ⟨s, hs⟩ : ∃ s, srt (xs.take k) = s := ⟨_, rfl⟩
      rw [hs] at ho hsl HST
      obtain ⟨L, hL⟩ : ∃ L, s.length = L := ⟨_, rfl⟩
      have hL1 : L ≤ 1000 := by omega
      obtain ⟨ao, co, hfo, hco, hco2⟩ := ho.rd.formi
      injection hfo with hf1 hf2 hf3
      subst hf1 hf2 hf3
      rw [hL] at ho hco ⊢
      have HL := Lib.hid hL
      clear hs hsl hL
      go_wp2
      go_loopw [6] (fun q wi => ∃ j : Nat, j ≤ L ∧ q = .int .i64 j ∧ Hid (∀ (i : Nat) y, j ≤ i → s[i]? = some y → x < y) ∧ wo = wi) (fun q _ => (intOf q).toNat)
      case atStart => exact ⟨L, Nat.le_refl _, rfl, fun i y hi hy => by have := (List.getElem?_eq_some_iff.1 hy).1; have := HL.out; omega, rfl⟩
      case round =>
        obtain ⟨j, hj, rfl, HG, rfl⟩ := hrel
        by_cases hjs : ∃ y, 0 < j ∧ s[j - 1]? = some y ∧ x < y
        · obtain ⟨y, hj0, hy, hxy⟩ := hjs
          obtain ⟨i, rfl⟩ : ∃ i, j = i + 1 := ⟨j - 1, by omega⟩
          rw [Nat.add_sub_cancel] at hy
          obtain ⟨ad2, y2, had2, hc2, hy2⟩ := ho.rd.int (k := i) (by have := HL.out; omega)
          obtain rfl : ap = ad2 := by injection had2
          clear had2
          have e : y2 = y := by have := hy2.out; rw [hy] at this; cases this; rfl
          subst e
          have d1 : decide (y2 > x) = true := by simpa using hxy
          have d0 : decide (((i + 1 : Nat) : Int) > 0) = true := by simp
          have HY := Lib.hid hy
          clear hy hxy
          go_wp2
          go_roundw
          case rel => exact ⟨i, by omega, by go_num, fun i' y' hi hy' => by
            by_cases e : i' = i
            · subst e
              rw [HY.out] at hy'
              cases hy'
              simpa using d1
            · exact HG.out i' y' (by omega) hy', trivial⟩
          case measure => simp [intOf]
        · have HST2 := Lib.hid (HST.out j (by have := HL.out; omega) HG.out (fun y h0 hy => Int.not_lt.mp (fun hxy => hjs ⟨y, h0, hy, hxy⟩)))
          have hsb := hb.size
          have hrT : Rd wo (.slice (some ap) j cp) (ints (s.take j)) := by rw [← ints_take]; exact ho.rd.take hj
          have hrC : Rd wo (.slice (if cp = j then some ap else some (ap.add j)) (L - j) (cp - j)) (ints (s.drop j)) := by rw [← ints_drop]; exact ho.rd.cut hj
          have HT1 : Hid ((ints (s.take j)).length = j) := by rw [Hid, ints_length, List.length_take]; have := HL.out; omega
          have HT2 : Hid ((ints (s.drop j)).length = L - j) := by rw [Hid, ints_length, List.length_drop]; have := HL.out; omega
          have i1 : (j : Int) ≤ (cp : Int) := by omega
          have i2 : (j : Int) ≤ (L : Int) := by omega
          have fin : ∀ (b : Option Addr) (m c' : Nat) (wx : World), Own wx 3 wo.heap.size (.slice b m c') (ints (s.take j) ++ [.int .i64 x] ++ ints (s.drop j)) → Below wo.heap.size wo wx → Own wx 3 w.heap.size (.slice b m c') (ints (srt (xs.take (k + 1)))) ∧ Below w.heap.size w wx := fun b m c' wx h1 h2 => by
            refine ⟨?_, hb.trans (h2.mono hsb)⟩
            rw [HST2.out]
            have := h1.mono (B' := w.heap.size) hsb
            simpa [ints] using this
          clear HST2 HST HG
          by_cases hj0 : j = 0
          · subst hj0
            have d0 : decide (((0 : Nat) : Int) > 0) = false := rfl
            replace hrC : Rd wo (.slice (some ap) L cp) (ints (s.drop 0)) := by rw [List.drop_zero]; exact ho.rd
            go_wp2_with (first
              | (at_builtin; (refine wpList_copy (B := w.heap.size) rfl _ _ 22 rfl elI hrT rfl rfl (oneCell_ints1 _) hsb _ HT1.out (by omega) (by omega) ?_); intro b1 c1 w1 ho1 hb1)
              | (at_builtin; refine wpList_app1m rfl _ _ 22 rfl elI rfl ho1 (by show Value.slice (some ⟨w1.heap.size, 0, none⟩) 1 1 = _; simp) rfl hb1.size _ HT1.out (by omega) (by omega) ?_; intro b2 c2 w2 ho2 hg2 hat2; have hb2 := hb1.grown hg2 hb1.size (fun r hr => (ho1.lt r hr).1))
              | (at_builtin; refine wpList_appn rfl _ _ 22 rfl elI ho2 (hrC.below hb2) rfl (by first | rfl | simp) (oneCell_ints1 _) hb2.size (L + 1) (by rw [List.length_append, HT1.out, HT2.out]; simp; omega) (by omega) (by omega) ?_; intro b3 c3 w3 ho3 hg3 hat3; have hb3 := hb2.grown hg3 hb2.size (fun r hr => (ho2.lt r hr).1)))
            obtain ⟨f1, f2⟩ := fin _ _ _ _ ho3 hb3
            go_roundw
            case rel => exact ⟨k + 1, by omega, by go_num, by obtain ⟨p, rfl⟩ := ho3.some_of (by simp; omega); exact ⟨_, _, _, rfl⟩, f1, f2⟩
            case measure => simp [intOf]; omega
          · obtain ⟨i, rfl⟩ : ∃ i, j = i + 1 := ⟨j - 1, by omega⟩
            obtain ⟨ad2, y, had2, hc2, hy⟩ := ho.rd.int (k := i) (by have := HL.out; omega)
            obtain rfl : ap = ad2 := by injection had2
            clear had2
            have d1 : decide (y > x) = false := by
              have : ¬ x < y := fun hxy => hjs ⟨y, by omega, by simpa using hy.out, hxy⟩
              simpa using this
            have d0 : decide (((i + 1 : Nat) : Int) > 0) = true := by simp
            clear hjs
            go_wp2_with (first
              | (at_builtin; (refine wpList_copy (B := w.heap.size) rfl _ _ 22 rfl elI hrT rfl rfl (oneCell_ints1 _) hsb _ HT1.out (by omega) (by omega) ?_); intro b1 c1 w1 ho1 hb1)
              | (at_builtin; refine wpList_app1m rfl _ _ 22 rfl elI rfl ho1 (by show Value.slice (some ⟨w1.heap.size, 0, none⟩) 1 1 = _; simp) rfl hb1.size _ HT1.out (by omega) (by omega) ?_; intro b2 c2 w2 ho2 hg2 hat2; have hb2 := hb1.grown hg2 hb1.size (fun r hr => (ho1.lt r hr).1))
              | (at_builtin; refine wpList_appn rfl _ _ 22 rfl elI ho2 (hrC.below hb2) rfl (by first | rfl | simp) (oneCell_ints1 _) hb2.size (L + 1) (by rw [List.length_append, HT1.out, HT2.out]; simp; omega) (by omega) (by omega) ?_; intro b3 c3 w3 ho3 hg3 hat3; have hb3 := hb2.grown hg3 hb2.size (fun r hr => (ho2.lt r hr).1)))
            obtain ⟨f1, f2⟩ := fin _ _ _ _ ho3 hb3
            go_roundw
            case rel => exact ⟨k + 1, by omega, by go_num, by obtain ⟨p, rfl⟩ := ho3.some_of (by simp; omega); exact ⟨_, _, _, rfl⟩, f1, f2⟩
            case measure => simp [intOf]; omega
    · obtain rfl : xs.length = k := by omega
      rw [List.take_length] at ho
      go_wp2
      go_ret
      exact ⟨_, rfl, ho, hb⟩

end Go.Proofs.Ytlbakbachcpifaa
