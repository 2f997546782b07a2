/- Appends with lengths in letters; cells of numbers. -/
import Derived.Test.YtlmbaijkeahkfaaDoorLists
namespace Go.Proofs.YtlmbaijkeahkfaaDoor
open Go.RowKit
set_option linter.unusedVariables false
set_option linter.unusedSimpArgs false

theorem Rd.formN {w : World} {v : Value} {xs : List Int} (h : Rd w v (ints xs)) : ∃ (a : Option Addr) (m c : Nat), v = .slice a m c ∧ Hid (m = xs.length) ∧ m ≤ c ∧ c ≤ 9223372036854775807 := by
  obtain ⟨a, c, h1, h2, h3⟩ := h.formi
  exact ⟨a, _, c, h1, rfl, h2, h3⟩
theorem oneCell_ints1 (xs : List Int) : ∀ u ∈ ints xs, u.oneCell' = true := by
  intro u hu
  simp only [ints, List.mem_map] at hu
  obtain ⟨x, _, rfl⟩ := hu
  rfl
theorem ints_take (xs : List Int) (k : Nat) : (ints xs).take k = ints (xs.take k) := by simp [ints]
theorem ints_drop (xs : List Int) (k : Nat) : (ints xs).drop k = ints (xs.drop k) := by simp [ints]

/-- 'append([]T{}, xs...)': a copy. -/
theorem wpList_copy {P : Program} {w : World} {ops : Array Oper} {rest : List Oper} {o : Oper} {a : Act} {Q : Exit → Act → World → Prop} (hgd : o.guard = none) (s x : Operand) (t : TypeId)
    (ho : o.op = .call { callee := .builtin .append, args := #[s, x], argTypes := #[t, t] })
    {E B bytes : Nat} {z : Value} (ht : ElemOk P t E bytes z) {vx : Value} {news : List Value} (hr : Rd w vx news) (hs : a.eval s = .slice (some ⟨w.heap.size, 0, none⟩) 0 0) (hx : a.eval x = vx)
    (h1 : ∀ u ∈ news, u.oneCell' = true) (hB : B ≤ w.heap.size) (n : Nat) (hn : news.length = n) (hbytes : n * bytes ≤ 140737488355328) (h63 : n ≤ 9223372036854775807)
    (h : ∀ b c w', Own w' E w.heap.size (.slice b n c) news → Below w.heap.size w w' → wpList P ops Q rest (a.put o.dst (.slice b n c)) w') : wpList P ops Q (o :: rest) a (w.alloc (.cells #[] E)) := by
  subst hn
  have hlit : Own (w.alloc (.cells #[] E)) E w.heap.size (.slice (some ⟨w.heap.size, 0, none⟩) 0 0) [] := by simpa [ints] using Own.lit0 w E (Nat.le_refl _)
  refine wpList_app hgd s x t ho ht hs hlit hx (hr.alloc _) h1 (by simp) (by simpa using hbytes) (by simpa using h63) fun b c w' h2 h3 h4 => ?_
  simp only [List.length_nil, Nat.zero_add, List.nil_append] at h2 ⊢
  exact h b c w' h2 (((Below.refl _ _).alloc (Nat.le_refl _) _).grown h3 (by simp) fun r hr => (hlit.lt r hr).1)
/-- 'append(s, xs...)', the lengths in letters. -/
theorem wpList_appn {P : Program} {w : World} {ops : Array Oper} {rest : List Oper} {o : Oper} {a : Act} {Q : Exit → Act → World → Prop} (hgd : o.guard = none) (s x : Operand) (t : TypeId)
    (ho : o.op = .call { callee := .builtin .append, args := #[s, x], argTypes := #[t, t] })
    {E B bytes : Nat} {z : Value} (ht : ElemOk P t E bytes z) {v : Value} {xs : List Value} (hown : Own w E B v xs) {vx : Value} {news : List Value} (hr : Rd w vx news) (hs : a.eval s = v) (hx : a.eval x = vx)
    (h1 : ∀ u ∈ news, u.oneCell' = true) (hB : B ≤ w.heap.size) (m : Nat) (hm : xs.length + news.length = m) (hbytes : m * bytes ≤ 140737488355328) (h63 : m ≤ 9223372036854775807)
    (h : ∀ b c w', Own w' E B (.slice b m c) (xs ++ news) → w.grownBy w' v.ownBlock →
      ((Value.slice b m c).ownBlock = v.ownBlock ∨ (Value.slice b m c).ownBlock = some w.heap.size) →
      wpList P ops Q rest (a.put o.dst (.slice b m c)) w') : wpList P ops Q (o :: rest) a w := by
  subst hm
  exact wpList_app hgd s x t ho ht hs hown hx hr h1 hB hbytes h63 h
/-- 'append(s, x)', the length in a letter. -/
theorem wpList_app1m {P : Program} {w : World} {ops : Array Oper} {rest : List Oper} {o : Oper} {a : Act} {Q : Exit → Act → World → Prop} (hgd : o.guard = none) (s x : Operand) (t : TypeId)
    (ho : o.op = .call { callee := .builtin .append, args := #[s, x], argTypes := #[t, t] })
    {E B bytes : Nat} {z : Value} (ht : ElemOk P t E bytes z) {v u : Value} {xs : List Value} (hs : a.eval s = v) (hown : Own w E B v xs) (hx : a.eval x = .slice (some ⟨w.heap.size, 0, none⟩) 1 1)
    (h1 : u.oneCell' = true) (hB : B ≤ w.heap.size) (m : Nat) (hm : xs.length = m) (hbytes : (m + 1) * bytes ≤ 140737488355328) (h63 : m + 1 ≤ 9223372036854775807)
    (h : ∀ b c w', Own w' E B (.slice b (m + 1) c) (xs ++ [u]) → w.grownBy w' v.ownBlock →
      ((Value.slice b (m + 1) c).ownBlock = v.ownBlock ∨ ∃ k, w.heap.size ≤ k ∧ (Value.slice b (m + 1) c).ownBlock = some k) →
      wpList P ops Q rest (a.put o.dst (.slice b (m + 1) c)) w') : wpList P ops Q (o :: rest) a (w.alloc (.cells #[u] E)) := by
  subst hm
  exact wpList_app1 hgd s x t ho ht hs hown hx h1 hB hbytes h63 h

theorem Own.some_of {w : World} {E B : Nat} {b : Option Addr} {m c : Nat} {xs : List Value} (h : Own w E B (.slice b m c) xs) (hx : 0 < xs.length) : ∃ p, b = some p := by
  rcases h with ⟨_, rfl⟩ | ⟨g, off, c', cur, h1, _⟩
  · simp at hx
  · injection h1 with h1 _ _
    exact ⟨_, h1⟩

theorem Rd.cell_i {w : World} {p : Addr} {n c k : Nat} {xs : List Int} {x : Int} (h : Rd w (.slice (some p) n c) (ints xs)) (hx : xs[k]? = some x) : w.cell? (p.add k) = some (.int .i64 x) := by
  obtain ⟨ad, y, had, hc, hy⟩ := h.int (List.getElem?_eq_some_iff.1 hx).1
  injection had with had
  subst had
  rw [hy.out] at hx
  cases hx
  exact hc
theorem grownBy_trans {w w1 w2 : World} {r : Option Nat} (h : w.grownBy w1 r) (k : w1.grownBy w2 r) : w.grownBy w2 r :=
  ⟨k.os.trans h.os, k.tape.trans h.tape, k.output.trans h.output, Nat.le_trans h.size k.size, fun i hi hne => (k.block i (Nat.lt_of_lt_of_le hi h.size) hne).trans (h.block i hi hne)⟩
theorem grownBy_drewN {w w1 : World} {r : Option Nat} (h : w.grownBy w1 r) (n : Nat) : w.grownBy (w1.drewN n) r := ⟨h.os, h.tape, h.output, h.size, h.block⟩

end Go.Proofs.YtlmbaijkeahkfaaDoor
