/- Plain: settings of switches, by loops. -/
import Derived.Test.YtlmbaijkeahkfaaDoorPlainStack
import Derived.Test.YtlmbaijkeahkfaaDoorLevels
namespace Go.Proofs.YtlmbaijkeahkfaaDoor
set_option linter.unusedVariables false
set_option linter.unusedSimpArgs false

def par (a : Nat) : Nat := a + 1 - 2 * (a % 2)
theorem par_par (a : Nat) : par (par a) = a := by unfold par; omega
theorem par_ne (a : Nat) : par a ≠ a := by unfold par; omega
theorem par_half (a : Nat) : par a / 2 = a / 2 := by unfold par; omega
theorem par_mod (a : Nat) : par a % 2 = 1 - a % 2 := by unfold par; omega
theorem par_lt {a h : Nat} (ha : a < 2 * h) : par a < 2 * h := by unfold par; omega
theorem half_eq {a b : Nat} (h : a / 2 = b / 2) : a = b ∨ a = par b := by unfold par; omega
theorem len_bd : ∀ (n : Nat) (l : List Nat), l.Nodup → (∀ x ∈ l, x < n) → l.length ≤ n
  | 0, l, _, h => by
    cases l with
    | nil => simp
    | cons a t => have := h a (by simp); omega
  | n + 1, l, hn, h => by
    by_cases hm : n ∈ l
    · have h1 := len_bd n (l.erase n) (hn.erase n) fun x hx => by
        have h2 := (List.Nodup.mem_erase_iff hn).1 hx
        have := h x h2.2
        have := h2.1
        omega
      rw [List.length_erase_of_mem hm] at h1
      omega
    · have h1 := len_bd n l hn fun x hx => by
        have := h x hx
        have : x ≠ n := fun e => hm (e ▸ hx)
        omega
      omega
theorem all_mem {n : Nat} {l : List Nat} (hn : l.Nodup) (h : ∀ x ∈ l, x < n) (hl : l.length = n) {v : Nat} (hv : v < n) : v ∈ l := by
  by_cases hm : v ∈ l
  · exact hm
  · have := len_bd n (v :: l) (List.nodup_cons.2 ⟨hm, hn⟩) fun x hx => by
      rcases List.mem_cons.1 hx with rfl | hx
      · exact hv
      · exact h x hx
    simp at this
    omega

/-- x is an order of 0 .. n - 1. -/
structure Ord (n : Nat) (x : Nat → Nat) : Prop where
  lx : ∀ o, o < n → x o < n
  inj : ∀ o p, o < n → p < n → x o = x p → o = p
  sur : ∀ v, v < n → ∃ o, o < n ∧ x o = v
def invF (n : Nat) (x : Nat → Nat) (v : Nat) : Nat := ((List.range n).map x).idxOf v
section
variable {n h : Nat} {x : Nat → Nat}
theorem Ord.ly (H : Ord n x) {v : Nat} (hv : v < n) : invF n x v < n := by
  obtain ⟨o, ho, e⟩ := H.sur v hv
  have := List.idxOf_lt_length_of_mem (a := v) (l := (List.range n).map x) (List.mem_map.2 ⟨o, by simpa using ho, e⟩)
  simpa [invF] using this
theorem invF_at {v : Nat} (hl : invF n x v < n) : x (invF n x v) = v := by
  have h1 : List.idxOf v ((List.range n).map x) < ((List.range n).map x).length := by simpa [invF] using hl
  have h2 := List.getElem_idxOf h1
  rw [List.getElem_map, List.getElem_range] at h2
  exact h2
theorem Ord.xy (H : Ord n x) {v : Nat} (hv : v < n) : x (invF n x v) = v := invF_at (H.ly hv)
theorem Ord.yx (H : Ord n x) {o : Nat} (ho : o < n) : invF n x (x o) = o := H.inj _ _ (H.ly (H.lx o ho)) ho (H.xy (H.lx o ho))
def tt (n : Nat) (x : Nat → Nat) (o : Nat) : Nat := invF n x (par (x o))
def ff (n : Nat) (x : Nat → Nat) (o : Nat) : Nat := par (tt n x o)
theorem Ord.tt_lt (H : Ord (2 * h) x) {o : Nat} (ho : o < 2 * h) : tt (2 * h) x o < 2 * h := H.ly (par_lt (H.lx o ho))
theorem Ord.x_tt (H : Ord (2 * h) x) {o : Nat} (ho : o < 2 * h) : x (tt (2 * h) x o) = par (x o) := H.xy (par_lt (H.lx o ho))
theorem Ord.tt_tt (H : Ord (2 * h) x) {o : Nat} (ho : o < 2 * h) : tt (2 * h) x (tt (2 * h) x o) = o := by
  have : tt (2 * h) x (tt (2 * h) x o) = invF (2 * h) x (par (x (tt (2 * h) x o))) := rfl
  rw [this, H.x_tt ho, par_par, H.yx ho]
theorem Ord.tt_ne (H : Ord (2 * h) x) {o : Nat} (ho : o < 2 * h) : tt (2 * h) x o ≠ o := fun e => by
  have := H.x_tt ho
  rw [e] at this
  exact par_ne _ this.symm
theorem Ord.ff_lt (H : Ord (2 * h) x) {o : Nat} (ho : o < 2 * h) : ff (2 * h) x o < 2 * h := par_lt (H.tt_lt ho)
theorem Ord.ff_inj (H : Ord (2 * h) x) {o p : Nat} (ho : o < 2 * h) (hp : p < 2 * h) (e : ff (2 * h) x o = ff (2 * h) x p) : o = p := by
  have e2 : tt (2 * h) x o = tt (2 * h) x p := by rw [← par_par (tt (2 * h) x o), ← par_par (tt (2 * h) x p)]; exact congrArg par e
  rw [← H.tt_tt ho, e2, H.tt_tt hp]
end

def upd {α : Type} (f : Nat → α) (k : Nat) (v : α) : Nat → α := fun i => if i = k then v else f i
theorem upd_at {α : Type} (f : Nat → α) (k : Nat) (v : α) : upd f k v k = v := by simp [upd]
theorem upd_off {α : Type} (f : Nat → α) {k i : Nat} (v : α) (h : i ≠ k) : upd f k v i = f i := by simp [upd, h]
structure FS where
  set : Nat → Bool
  last : Nat → Nat
  first : Nat → Nat
  up : Nat → Nat
  low : Nat → Nat
def fput (n : Nat) (x : Nat → Nat) (s : FS) (o : Nat) : FS :=
  ⟨upd s.set (o / 2) true, upd s.last (o / 2) (o % 2), upd s.first (x o / 2) (x o % 2), upd s.up (o / 2) (x o / 2), upd s.low (ff n x o / 2) (x o / 2)⟩
def FS.V (s : FS) (o : Nat) : Prop := s.set (o / 2) = true ∧ s.last (o / 2) = o % 2
/-- What holds of the positions that are set. -/
structure FB (h : Nat) (x : Nat → Nat) (s : FS) : Prop where
  lb : ∀ k, k < h → s.set k = true → s.last k < 2
  up : ∀ k, k < h → s.set k = true → s.up k = x (2 * k + s.last k) / 2
/-- All loops are closed. -/
structure FD (h : Nat) (x : Nat → Nat) (s : FS) : Prop where
  base : FB h x s
  low : ∀ k, k < h → s.set k = true → s.low k = x (2 * k + 1 - s.last k) / 2
  c2 : ∀ p, p < 2 * h → s.V p → s.V (ff (2 * h) x p)
  c3 : ∀ q, q < 2 * h → s.V q → ∃ p, p < 2 * h ∧ s.V p ∧ ff (2 * h) x p = q
/-- Within a loop that began at 2 j; c was the last one, o comes next. -/
structure FR0 (h : Nat) (x : Nat → Nat) (s : FS) (j c : Nat) : Prop where
  base : FB h x s
  jh : j < h
  ch : c < 2 * h
  vc : s.V c
  sj : s.set j = true
  lj : s.last j = 0
  c2 : ∀ p, p < 2 * h → s.V p → p ≠ c → s.V (ff (2 * h) x p)
  c3 : ∀ q, q < 2 * h → s.V q → q ≠ 2 * j → ∃ p, p < 2 * h ∧ s.V p ∧ p ≠ c ∧ ff (2 * h) x p = q
structure FR (h : Nat) (x : Nat → Nat) (s : FS) (j c : Nat) : Prop where
  r0 : FR0 h x s j c
  pend : s.low (ff (2 * h) x c / 2) = x (tt (2 * h) x c) / 2
  low : ∀ k, k < h → s.set k = true → k ≠ j → s.low k = x (2 * k + 1 - s.last k) / 2
section
variable {h j c o : Nat} {x : Nat → Nat} {s : FS}
theorem V_conf {o : Nat} (h1 : s.V o) (h2 : s.V (par o)) : False := by
  obtain ⟨_, a⟩ := h1
  obtain ⟨_, b⟩ := h2
  rw [par_half, par_mod] at b
  omega
theorem FR0.claim (H : Ord (2 * h) x) (R : FR0 h x s j c) (hs : s.set (ff (2 * h) x c / 2) = true) : ff (2 * h) x c = 2 * j := by
  have hfl := H.ff_lt R.ch
  obtain ⟨k, hk⟩ : ∃ k, ff (2 * h) x c / 2 = k := ⟨_, rfl⟩
  rw [hk] at hs
  have hkh : k < h := by omega
  have hlb := R.base.lb k hkh hs
  have hv : s.V (2 * k + s.last k) := by
    have e1 : (2 * k + s.last k) / 2 = k := by omega
    refine ⟨by rw [e1]; exact hs, by rw [e1]; omega⟩
  have hvl : 2 * k + s.last k < 2 * h := by omega
  obtain ⟨q, hq⟩ : ∃ q, 2 * k + s.last k = q := ⟨_, rfl⟩
  rw [hq] at hv hvl
  rcases half_eq (a := ff (2 * h) x c) (b := q) (by omega) with e | e
  · by_cases e2 : q = 2 * j
    · rw [e, e2]
    · obtain ⟨p, hp, hvp, hpc, he⟩ := R.c3 q hvl hv e2
      exact absurd (H.ff_inj hp R.ch (he.trans e.symm)) hpc
  · have e2 : tt (2 * h) x c = q := by rw [← par_par (tt (2 * h) x c), ← par_par q]; exact congrArg par e
    have e3 : c = tt (2 * h) x q := by rw [← e2, H.tt_tt R.ch]
    by_cases e4 : q = c
    · exact absurd (e2.trans e4) (H.tt_ne R.ch)
    · have h1 := R.c2 q hvl hv e4
      rw [ff, ← e3] at h1
      exact (V_conf R.vc h1).elim
theorem V_put {n : Nat} (o p : Nat) (h1 : (fput n x s o).V p) (hs : s.set (o / 2) = false) : p = o ∨ (s.V p ∧ p ≠ o) := by
  by_cases e : p / 2 = o / 2
  · obtain ⟨_, b⟩ := h1
    simp only [fput, e, upd_at] at b
    left
    omega
  · obtain ⟨a, b⟩ := h1
    simp only [fput, upd_off _ _ e] at a b
    exact .inr ⟨⟨a, b⟩, fun e2 => e (by rw [e2])⟩
theorem V_keep {n : Nat} {o p : Nat} (h1 : s.V p) (hs : s.set (o / 2) = false) : (fput n x s o).V p := by
  have e : p / 2 ≠ o / 2 := fun e => by
    have := h1.1
    rw [e, hs] at this
    cases this
  exact ⟨by simp only [fput, upd_off _ _ e]; exact h1.1, by simp only [fput, upd_off _ _ e]; exact h1.2⟩
theorem V_new (n o : Nat) : (fput n x s o).V o := ⟨by simp [fput, upd_at], by simp [fput, upd_at]⟩
theorem FB.put (n : Nat) (B : FB h x s) (o : Nat) : FB h x (fput n x s o) := by
  refine ⟨fun k hk hs => ?_, fun k hk hs => ?_⟩
  · by_cases e : k = o / 2
    · simp only [fput, e, upd_at]; omega
    · simp only [fput, upd_off _ _ e] at hs ⊢
      exact B.lb k hk hs
  · by_cases e : k = o / 2
    · simp only [fput, e, upd_at]
      rw [show 2 * (o / 2) + o % 2 = o by omega]
    · simp only [fput, upd_off _ _ e] at hs ⊢
      exact B.up k hk hs
theorem FR.of0 (H : Ord (2 * h) x) (R : FR0 h x (fput (2 * h) x s o) j o) (hlow : ∀ k, k < h → (fput (2 * h) x s o).set k = true → k ≠ j → s.low k = x (2 * k + 1 - (fput (2 * h) x s o).last k) / 2) : FR h x (fput (2 * h) x s o) j o := by
  refine ⟨R, ?_, fun k hk hs hj => ?_⟩
  · simp only [fput, upd_at]
    rw [H.x_tt R.ch, par_half]
  · have e : k ≠ ff (2 * h) x o / 2 := fun e => by
      rw [e] at hs
      have := R.claim H hs
      omega
    rw [← hlow k hk hs hj]
    simp only [fput, upd_off _ _ e]
theorem FD.start (H : Ord (2 * h) x) (D : FD h x s) (hj : j < h) (hs : s.set j = false) : FR h x (fput (2 * h) x s (2 * j)) j (2 * j) := by
  have e1 : 2 * j / 2 = j := by omega
  have hs' : s.set (2 * j / 2) = false := by rw [e1]; exact hs
  refine FR.of0 H ⟨D.base.put _ _, hj, by omega, V_new _ _, by simp [fput, e1, upd_at], by simp [fput, e1, upd_at], fun p hp hv hne => ?_, fun q hq hv hne => ?_⟩ fun k hk hk2 hkj => ?_
  · rcases V_put _ _ hv hs' with e | ⟨h1, _⟩
    · exact absurd e hne
    · exact V_keep (D.c2 p hp h1) hs'
  · rcases V_put _ _ hv hs' with e | ⟨h1, _⟩
    · exact absurd e hne
    · obtain ⟨p, hp, hvp, he⟩ := D.c3 q hq h1
      refine ⟨p, hp, V_keep hvp hs', fun e => ?_, he⟩
      have := hvp.1
      rw [e, hs'] at this
      cases this
  · have e : k ≠ 2 * j / 2 := by omega
    simp only [fput, upd_off _ _ e] at hk2 ⊢
    exact D.low k hk hk2
theorem FR.next (H : Ord (2 * h) x) (R : FR h x s j c) (ho : ff (2 * h) x c = o) (hs : s.set (o / 2) = false) : FR h x (fput (2 * h) x s o) j o := by
  have hol : o < 2 * h := by rw [← ho]; exact H.ff_lt R.r0.ch
  have hjo : j ≠ o / 2 := fun e => by
    have := R.r0.sj
    rw [e, hs] at this
    cases this
  have hvo : ¬ s.V o := fun hv => by
    have := hv.1
    rw [hs] at this
    cases this
  refine FR.of0 H ⟨R.r0.base.put _ _, R.r0.jh, hol, V_new _ _, by simp only [fput, upd_off _ _ hjo]; exact R.r0.sj, by simp only [fput, upd_off _ _ hjo]; exact R.r0.lj, fun p hp hv hne => ?_, fun q hq hv hne => ?_⟩ fun k hk hk2 hkj => ?_
  · rcases V_put _ _ hv hs with e | ⟨h1, _⟩
    · exact absurd e hne
    · by_cases e : p = c
      · subst e
        rw [ho]
        exact V_new _ _
      · exact V_keep (R.r0.c2 p hp h1 e) hs
  · rcases V_put _ _ hv hs with e | ⟨h1, _⟩
    · subst e
      exact ⟨c, R.r0.ch, V_keep R.r0.vc hs, fun e => hvo (e ▸ R.r0.vc), ho⟩
    · obtain ⟨p, hp, hvp, hpc, he⟩ := R.r0.c3 q hq h1 hne
      exact ⟨p, hp, V_keep hvp hs, fun e => hvo (e ▸ hvp), he⟩
  · by_cases e : k = o / 2
    · have hp := R.pend
      rw [ho] at hp
      simp only [fput, e, upd_at]
      rw [hp]
      have e2 : 2 * (o / 2) + 1 - o % 2 = par o := by unfold par; omega
      rw [e2, ← ho, ff, par_par]
    · simp only [fput, upd_off _ _ e] at hk2 ⊢
      exact R.low k hk hk2 hkj
theorem FR.done (H : Ord (2 * h) x) (R : FR h x s j c) (hs : s.set (ff (2 * h) x c / 2) = true) : FD h x s := by
  have hc := R.r0.claim H hs
  refine ⟨R.r0.base, fun k hk hk2 => ?_, fun p hp hv => ?_, fun q hq hv => ?_⟩
  · by_cases e : k = j
    · subst e
      have hp := R.pend
      rw [hc, show 2 * k / 2 = k by omega] at hp
      rw [hp, R.r0.lj]
      have : tt (2 * h) x c = 2 * k + 1 - 0 := by
        rw [← par_par (tt (2 * h) x c)]
        have : par (tt (2 * h) x c) = 2 * k := hc
        rw [this]
        unfold par
        omega
      rw [this]
    · exact R.low k hk hk2 e
  · by_cases e : p = c
    · subst e
      rw [hc]
      exact ⟨by rw [show 2 * j / 2 = j by omega]; exact R.r0.sj, by rw [show 2 * j / 2 = j by omega, R.r0.lj]; omega⟩
    · exact R.r0.c2 p hp hv e
  · by_cases e : q = 2 * j
    · exact ⟨c, R.r0.ch, R.r0.vc, hc.trans e.symm⟩
    · obtain ⟨p, hp, hvp, _, he⟩ := R.r0.c3 q hq hv e
      exact ⟨p, hp, hvp, he⟩
end

/-- How many positions are not set. -/
def cntU (h : Nat) (s : FS) : Nat := ((List.range h).filter fun k => !s.set k).length
def cyc (n : Nat) (x : Nat → Nat) : Nat → Nat → FS → FS
  | 0, _, s => s
  | f + 1, o, s => if s.set (o / 2) = true then s else cyc n x f (ff n x o) (fput n x s o)
def cycs (h : Nat) (x : Nat → Nat) : Nat → FS
  | 0 => ⟨fun _ => false, fun _ => 0, fun _ => 0, fun _ => 0, fun _ => 0⟩
  | j + 1 => cyc (2 * h) x (cntU h (cycs h x j)) (2 * j) (cycs h x j)
section
variable {h j c o : Nat} {x : Nat → Nat} {s : FS}
theorem filter_one (p q : Nat → Bool) (k : Nat) (hk : p k = true) (hq : ∀ i, q i = (p i && decide (i ≠ k))) : ∀ h, k < h → ((List.range h).filter q).length + 1 = ((List.range h).filter p).length
  | 0, hk2 => by omega
  | h + 1, hk2 => by
    rw [List.range_succ, List.filter_append, List.filter_append, List.length_append, List.length_append]
    by_cases e : k = h
    · subst e
      have h0 : (List.range k).filter q = (List.range k).filter p := List.filter_congr fun i hi => by
        rw [List.mem_range] at hi
        rw [hq i, decide_eq_true (by omega : i ≠ k), Bool.and_true]
      rw [h0]
      simp [hk, hq k]
    · have := filter_one p q k hk hq h (by omega)
      have h1 : q h = p h := by rw [hq h, decide_eq_true (by omega : h ≠ k), Bool.and_true]
      have : (List.filter q [h]).length = (List.filter p [h]).length := by simp only [List.filter_cons, List.filter_nil, h1]
      omega
theorem cnt_put {n : Nat} (ho : o / 2 < h) (hs : s.set (o / 2) = false) : cntU h (fput n x s o) + 1 = cntU h s := by
  refine filter_one (fun k => !s.set k) (fun k => !(fput n x s o).set k) (o / 2) (by simp [hs]) (fun i => ?_) h ho
  by_cases e : i = o / 2
  · simp [fput, e, upd_at]
  · simp [fput, upd_off _ _ e, e]
theorem cnt_le (h : Nat) (s : FS) : cntU h s ≤ h := Nat.le_trans (List.length_filter_le _ _) (by simp)
theorem cyc_stop {n : Nat} (f : Nat) (hs : s.set (o / 2) = true) : cyc n x f o s = s := by
  cases f with
  | zero => rfl
  | succ f => rw [cyc, if_pos hs]
theorem cyc_go {n : Nat} (ho : o / 2 < h) (hs : s.set (o / 2) = false) : cyc n x (cntU h s) o s = cyc n x (cntU h (fput n x s o)) (ff n x o) (fput n x s o) := by
  rw [← cnt_put (n := n) (x := x) ho hs, cyc, if_neg (by rw [hs]; simp)]
theorem cyc_FD (H : Ord (2 * h) x) : ∀ (f : Nat) (s : FS) (c : Nat), cntU h s ≤ f → FR h x s j c → FD h x (cyc (2 * h) x (cntU h s) (ff (2 * h) x c) s) ∧ ∀ k, s.set k = true → (cyc (2 * h) x (cntU h s) (ff (2 * h) x c) s).set k = true
  | f, s, c, hf, R => by
    have hol := H.ff_lt R.r0.ch
    cases hs : s.set (ff (2 * h) x c / 2)
    · have h2 := cnt_put (n := 2 * h) (x := x) (show ff (2 * h) x c / 2 < h by omega) hs
      match f with
      | 0 => omega
      | f + 1 =>
        rw [cyc_go (by omega) hs]
        obtain ⟨a, b⟩ := cyc_FD H f _ _ (by omega) (R.next H rfl hs)
        refine ⟨a, fun k hk => b k ?_⟩
        simp only [fput, upd]
        split
        · rfl
        · exact hk
    · rw [cyc_stop _ hs]
      exact ⟨R.done H hs, fun k hk => hk⟩
theorem cycs_FD (H : Ord (2 * h) x) : ∀ j, j ≤ h → FD h x (cycs h x j) ∧ ∀ k, k < j → (cycs h x j).set k = true
  | 0, _ => ⟨⟨⟨fun k _ h => (by cases h), fun k _ h => (by cases h)⟩, fun k _ h => (by cases h), fun p _ h => (by cases h.1), fun p _ h => (by cases h.1)⟩, fun k h => by omega⟩
  | j + 1, hj => by
    obtain ⟨D, hall⟩ := cycs_FD H j (by omega)
    rw [cycs]
    generalize cycs h x j = s at D hall ⊢
    have e1 : 2 * j / 2 = j := by omega
    cases hs : s.set j
    · have hs' : s.set (2 * j / 2) = false := by rw [e1]; exact hs
      rw [cyc_go (by omega) hs']
      obtain ⟨a, b⟩ := cyc_FD H _ _ _ (Nat.le_refl _) (D.start H (by omega) hs)
      refine ⟨a, fun k hk => b k ?_⟩
      simp only [fput, upd, e1]
      split
      · rfl
      · exact hall k (by omega)
    · have hs' : s.set (2 * j / 2) = true := by rw [e1]; exact hs
      rw [cyc_stop _ hs']
      refine ⟨D, fun k hk => ?_⟩
      by_cases e : k = j
      · rw [e]; exact hs
      · exact hall k (by omega)
/-- The two halves are orders again. -/
theorem fin_up (H : Ord (2 * h) x) (D : FD h x s) (ha : ∀ k, k < h → s.set k = true) : Ord h s.up ∧ Ord h s.low := by
  have hV : ∀ o, o < 2 * h → (s.V o ∨ s.V (par o)) := fun o ho => by
    have h1 := ha (o / 2) (by omega)
    have h2 := D.base.lb _ (by omega) h1
    by_cases e : s.last (o / 2) = o % 2
    · exact .inl ⟨h1, e⟩
    · exact .inr ⟨by rw [par_half]; exact h1, by rw [par_half, par_mod]; omega⟩
  have hu : ∀ k, k < h → ∃ u, u < 2 * h ∧ s.V u ∧ u / 2 = k ∧ s.up k = x u / 2 ∧ s.low k = x (par u) / 2 := fun k hk => by
    have h1 := ha k hk
    have h2 := D.base.lb k hk h1
    have e1 : (2 * k + s.last k) / 2 = k := by omega
    refine ⟨2 * k + s.last k, by omega, ⟨by rw [e1]; exact h1, by rw [e1]; omega⟩, e1, D.base.up k hk h1, ?_⟩
    rw [D.low k hk h1, show 2 * k + 1 - s.last k = par (2 * k + s.last k) by unfold par; omega]
  have hup : ∀ o, o < 2 * h → s.V o → s.up (o / 2) = x o / 2 := fun o ho hv => by
    rw [D.base.up _ (by omega) hv.1, hv.2, show 2 * (o / 2) + o % 2 = o by omega]
  have hlow : ∀ o, o < 2 * h → s.V (par o) → s.low (o / 2) = x o / 2 := fun o ho hv => by
    have h1 := hv.1
    have h2 := hv.2
    rw [par_half] at h1 h2
    rw [D.low _ (by omega) h1, h2, par_mod, show 2 * (o / 2) + 1 - (1 - o % 2) = o by omega]
  have htt : ∀ o, o < 2 * h → s.V o → ¬ s.V (tt (2 * h) x o) := fun o ho hv hv2 => V_conf (o := tt (2 * h) x o) hv2 (D.c2 o ho hv)
  have htt2 : ∀ o, o < 2 * h → s.V (par o) → s.V (tt (2 * h) x o) := fun o ho hv => by
    rcases hV _ (H.tt_lt ho) with h1 | h1
    · exact h1
    · obtain ⟨p, hp, hvp, he⟩ := D.c3 (ff (2 * h) x o) (H.ff_lt ho) h1
      have := H.ff_inj hp ho he
      subst this
      exact (V_conf hvp hv).elim
  refine ⟨⟨fun k hk => ?_, fun k l hk hl e => ?_, fun v hv => ?_⟩, ⟨fun k hk => ?_, fun k l hk hl e => ?_, fun v hv => ?_⟩⟩
  · obtain ⟨u, hul, _, _, e, _⟩ := hu k hk
    have := H.lx u hul
    omega
  · obtain ⟨u, hul, hv1, e1, a1, _⟩ := hu k hk
    obtain ⟨u2, hul2, hv2, e2, a2, _⟩ := hu l hl
    rcases half_eq (a := x u2) (b := x u) (by omega) with e3 | e3
    · have := H.inj _ _ hul2 hul e3
      omega
    · have : u2 = tt (2 * h) x u := H.inj _ _ hul2 (H.tt_lt hul) (by rw [H.x_tt hul]; exact e3)
      exact absurd (this ▸ hv2) (htt u hul hv1)
  · obtain ⟨o, ho, e⟩ := H.sur (2 * v) (by omega)
    rcases hV o ho with h1 | h1
    · exact ⟨o / 2, by omega, by rw [hup o ho h1, e]; omega⟩
    · have h2 := H.tt_lt ho
      refine ⟨tt (2 * h) x o / 2, by omega, ?_⟩
      rw [hup _ h2 (htt2 o ho h1), H.x_tt ho, par_half, e]
      omega
  · obtain ⟨u, hul, _, _, _, e⟩ := hu k hk
    have := H.lx _ (par_lt hul)
    omega
  · obtain ⟨u, hul, hv1, e1, _, a1⟩ := hu k hk
    obtain ⟨u2, hul2, hv2, e2, _, a2⟩ := hu l hl
    rcases half_eq (a := x (par u2)) (b := x (par u)) (by omega) with e3 | e3
    · have := H.inj _ _ (par_lt hul2) (par_lt hul) e3
      have : u2 = u := by rw [← par_par u2, this, par_par]
      omega
    · have h3 : par u2 = tt (2 * h) x (par u) := H.inj _ _ (par_lt hul2) (H.tt_lt (par_lt hul)) (by rw [H.x_tt (par_lt hul)]; exact e3)
      have h4 := htt2 (par u) (par_lt hul) (by rw [par_par]; exact hv1)
      rw [← h3] at h4
      exact (V_conf hv2 h4).elim
  · obtain ⟨o, ho, e⟩ := H.sur (2 * v) (by omega)
    rcases hV o ho with h1 | h1
    · have h2 := H.tt_lt ho
      have h3 := htt o ho h1
      rcases hV _ h2 with h4 | h4
      · exact absurd h4 h3
      · refine ⟨tt (2 * h) x o / 2, by omega, ?_⟩
        rw [hlow _ h2 h4, H.x_tt ho, par_half, e]
        omega
    · exact ⟨o / 2, by omega, by rw [hlow o ho h1, e]; omega⟩
end
def finS (h : Nat) (x : Nat → Nat) : FS := cycs h x h
/-- The settings of an order of 2 ^ (d + 1) numbers. -/
def setL : Nat → (Nat → Nat) → List Int
  | 0, x => [(x 0 : Int)]
  | d + 1, x => atL (2 ^ (d + 1)) (fun k => ((finS (2 ^ (d + 1)) x).first k : Int)) ++ setL d (finS (2 ^ (d + 1)) x).up ++ setL d (finS (2 ^ (d + 1)) x).low ++ atL (2 ^ (d + 1)) (fun k => ((finS (2 ^ (d + 1)) x).last k : Int))

end Go.Proofs.YtlmbaijkeahkfaaDoor
