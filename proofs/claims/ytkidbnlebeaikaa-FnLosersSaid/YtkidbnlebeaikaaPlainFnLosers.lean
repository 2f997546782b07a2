/- Plain laws: what FnLosers asks. -/
import Derived.Test.YtkidbnlebeaikaaCount
import Derived.Test.YtkidbnlebeaikaaPlainPerm
import Derived.Test.YtkidbnlebeaikaaLawHelp
namespace Go.Proofs.Ytkidbnlebeaikaa
open Go.RowKit
set_option linter.unusedVariables false
set_option linter.unusedSimpArgs false

def remain : List (List Int) → List Int → List Int
  | xs :: xss, n :: t => xs.drop n.toNat ++ remain xss t
  | _, _ => []
theorem remain_len : ∀ (xss : List (List Int)) (t : List Int), (remain xss t).length = rest xss t
  | [], t => by simp [remain, rest]
  | xs :: xss, [] => by simp [remain, rest]
  | xs :: xss, n :: t => by simp only [remain, rest, List.length_append, List.length_drop, remain_len xss t]
theorem remain_zeros : ∀ (xss : List (List Int)), remain xss (zeros xss.length) = xss.flatten
  | [] => by simp [remain]
  | xs :: xss => by
    have := remain_zeros xss
    simp only [zeros] at this
    simp only [zeros, List.length_cons, List.replicate_succ, remain, List.flatten_cons, this]
    simp
theorem remain_mem : ∀ (xss : List (List Int)) (t : List Int) (z : Int), z ∈ remain xss t → ∃ (k j : Nat) (n : Int) (xs : List Int), xss[k]? = some xs ∧ t[k]? = some n ∧ n.toNat ≤ j ∧ xs[j]? = some z
  | [], t, z, h => by simp [remain] at h
  | xs :: xss, [], z, h => by simp [remain] at h
  | xs :: xss, n :: t, z, h => by
    simp only [remain, List.mem_append] at h
    rcases h with h | h
    · obtain ⟨i, hi⟩ := List.getElem?_of_mem h
      rw [List.getElem?_drop] at hi
      exact ⟨0, n.toNat + i, n, xs, by simp, by simp, by omega, hi⟩
    · obtain ⟨k, j, m, ys, h1, h2, h3, h4⟩ := remain_mem xss t z h
      exact ⟨k + 1, j, m, ys, by simpa using h1, by simpa using h2, h3, h4⟩
theorem remain_bump : ∀ (xss : List (List Int)) (t : List Int) (a n : Nat) (xs : List Int) (y : Int), xss[a]? = some xs → t[a]? = some (n : Int) → xs[n]? = some y → (remain xss t).Perm (y :: remain xss (t.set a ((n : Int) + 1)))
  | [], t, a, n, xs, y, h1, h2, h3 => by simp at h1
  | ys :: xss, [], a, n, xs, y, h1, h2, h3 => by simp at h2
  | ys :: xss, m :: t, 0, n, xs, y, h1, h2, h3 => by
    simp only [List.getElem?_cons_zero, Option.some.injEq] at h1 h2
    subst h1 h2
    obtain ⟨hn, rfl⟩ := List.getElem?_eq_some_iff.1 h3
    simp only [List.set_cons_zero, remain]
    rw [show ((n : Int)).toNat = n by simp, show ((n : Int) + 1).toNat = n + 1 by omega, List.drop_eq_getElem_cons hn]
    exact .refl _
  | ys :: xss, m :: t, a + 1, n, xs, y, h1, h2, h3 => by
    simp only [List.getElem?_cons_succ] at h1 h2
    have := remain_bump xss t a n xs y h1 h2 h3
    simp only [List.set_cons_succ, remain]
    exact (List.Perm.append_left _ this).trans List.perm_middle
theorem key_head {xss : List (List Int)} {t : List Int} {a b : Nat} {x y : Int} (ha : a < 1000) (hb : b < 1000) (h : headOf xss t a = some x) (h1 : headOf xss t b = some y) (hk : key xss t a ≤ key xss t b) : x ≤ y := by
  unfold key at hk
  simp only [h, h1, Option.getD_some] at hk
  omega
structure LsOk (xss : List (List Int)) : Prop where
  ok : listsOk xss = true
  fit : I64ss xss
  one : 1 ≤ xss.length
  eight : xss.length ≤ 8
  asc : ∀ xs ∈ xss, xs.Pairwise (· ≤ ·)
theorem LsOk.of {xss : List (List Int)} (h : listsOk xss = true) (hf : I64ss xss) : LsOk xss :=
  ⟨h, hf, (listsOk_len h).1, (listsOk_len h).2, fun xs hx => pair_adjB ((listsOk_iff.1 h).2 xs hx).2⟩
theorem TK.get {xss : List (List Int)} {t : List Int} (h : TK xss t) {k : Nat} (hk : k < xss.length) : ∃ (xs : List Int) (n : Nat), xss[k]? = some xs ∧ t[k]? = some (n : Int) ∧ n ≤ xs.length := by
  have h1 : t[k]? = some (t[k]'(by rw [h.1]; exact hk)) := List.getElem?_eq_getElem (by rw [h.1]; exact hk)
  have h2 := List.getElem?_eq_getElem hk
  have h3 := h.2 k _ _ h1 h2
  exact ⟨_, (t[k]'(by rw [h.1]; exact hk)).toNat, h2, by rw [h1]; congr 1; omega, by omega⟩
theorem win_cases {xss : List (List Int)} {t : List Int} (H : LsOk xss) (h : TK xss t) :
    (headOf xss t (winOf xss t) = none ∧ remain xss t = []) ∨
    ∃ (xs : List Int) (n : Nat) (y : Int), xss[winOf xss t]? = some xs ∧ t[winOf xss t]? = some (n : Int) ∧ xs[n]? = some y ∧ ∀ z ∈ remain xss t, y ≤ z := by
  obtain ⟨_, h2, h3⟩ := winOf_min (xss := xss) (t := t) H.one
  have h8 := H.eight
  obtain ⟨xs, n, hx, ht, hn⟩ := h.get h2
  by_cases hlt : n < xs.length
  · right
    have hy := List.getElem?_eq_getElem hlt
    refine ⟨xs, n, _, hx, ht, hy, fun z hz => ?_⟩
    obtain ⟨k, j, m, ys, e1, e2, e3, e4⟩ := remain_mem xss t z hz
    have hk := (List.getElem?_eq_some_iff.1 e1).1
    have hj := (List.getElem?_eq_some_iff.1 e4).1
    have hmj : m.toNat < ys.length := by omega
    obtain ⟨ys2, m2, f1, f2, f3⟩ := h.get hk
    rw [e1] at f1
    cases f1
    rw [e2] at f2
    cases f2
    have hh := headOf_some e1 e2 (List.getElem?_eq_getElem hmj)
    have hw := headOf_some hx ht hy
    have hle := key_head (show winOf xss t < 1000 by omega) (show k < 1000 by omega) hw hh (h3 k hk)
    have ha := H.asc ys (List.mem_of_getElem? e1)
    obtain ⟨_, rfl⟩ := List.getElem?_eq_some_iff.1 e4
    by_cases hmm : m2 = j
    · subst hmm
      exact hle
    · have := List.pairwise_iff_getElem.1 ha m2 j (by simpa using hmj) hj (by simp at e3; omega)
      simp only [Int.toNat_natCast] at hle
      omega
  · left
    have hw := headOf_none hx ht (by omega)
    refine ⟨hw, ?_⟩
    cases hr : remain xss t with
    | nil => rfl
    | cons z zs =>
      exfalso
      obtain ⟨k, j, m, ys, e1, e2, e3, e4⟩ := remain_mem xss t z (by rw [hr]; simp)
      have hk := (List.getElem?_eq_some_iff.1 e1).1
      have hj := (List.getElem?_eq_some_iff.1 e4).1
      obtain ⟨ys2, m2, f1, f2, f3⟩ := h.get hk
      rw [e1] at f1
      cases f1
      rw [e2] at f2
      cases f2
      have hmj : m2 < ys.length := by simp at e3; omega
      have hh := headOf_some e1 e2 (List.getElem?_eq_getElem hmj)
      have := key_lt_some H.fit (show k < 1000 by omega) (show winOf xss t < 1000 by omega) hw hh
      have := h3 k hk
      omega
theorem nums_spec {xss : List (List Int)} (H : LsOk xss) : ∀ (f : Nat) (t : List Int), TK xss t → rest xss t ≤ f → (numsAlong xss t (seqFrom xss f t)).Perm (remain xss t) ∧ (numsAlong xss t (seqFrom xss f t)).Pairwise (· ≤ ·)
  | f, t, hT, hr => by
    rcases win_cases H hT with ⟨h1, h2⟩ | ⟨xs, n, y, hx, ht, hy, hmin⟩
    · rw [seq_done f h1, h2]
      exact ⟨.refl _, .nil⟩
    · obtain ⟨hn, _⟩ := List.getElem?_eq_some_iff.1 hy
      obtain ⟨f', rfl, hr', he⟩ := seq_step hx ht hn hr
      obtain ⟨h1, h2⟩ := nums_spec H f' (bump t (winOf xss t)) (hT.bump hx ht hn) hr'
      have hb := remain_bump xss t _ n xs y hx ht hy
      rw [← bump_eq ht] at hb
      rw [he, nums_step hx ht hy]
      have hp := (List.Perm.cons y h1).trans hb.symm
      refine ⟨hp, List.pairwise_cons.2 ⟨fun z hz => hmin z (hb.symm.mem_iff.1 (by simp [h1.mem_iff.1 hz])), h2⟩⟩
theorem rest80 {xss : List (List Int)} (h : listsOk xss = true) : rest xss (zeros xss.length) ≤ 80 := by
  have h1 := listsOk_iff.1 h
  have := rest_le xss (zeros xss.length) (fun xs hx => (h1.2 xs hx).1)
  omega
theorem allNums_srt {xss : List (List Int)} (H : LsOk xss) : allNums xss = srt xss.flatten := by
  obtain ⟨h1, h2⟩ := nums_spec H 80 (zeros xss.length) (TK.zeros xss) (rest80 H.ok)
  rw [remain_zeros] at h1
  exact srt_unique h1 h2
theorem allFrom_len {xss : List (List Int)} (H : LsOk xss) : (allFrom xss).length = xss.flatten.length := by
  rw [← nums_len xss (zeros xss.length) (allFrom xss)]
  show (allNums xss).length = _
  rw [allNums_srt H, srt_length]
/-- How far the law's loop has come. -/
structure LAt (xss : List (List Int)) (j : Nat) (t : List Int) : Prop where
  tk : TK xss t
  sfx : ∃ f, rest xss t ≤ f ∧ (allFrom xss).drop j = seqFrom xss f t ∧ (allNums xss).drop j = numsAlong xss t (seqFrom xss f t)
theorem LAt.start {xss : List (List Int)} (H : LsOk xss) : LAt xss 0 (zeros xss.length) := ⟨TK.zeros xss, 80, rest80 H.ok, rfl, rfl⟩
structure LGo (xss : List (List Int)) (j : Nat) (t : List Int) (W n : Nat) (xs : List Int) (y : Int) : Prop where
  lt : W < xss.length
  row : xss[W]? = some xs
  at_ : t[W]? = some (n : Int)
  num : xs[n]? = some y
  m : (allNums xss)[j]? = some y
  win : winnerOk xss t = (W : Int)
  ok : takenOk xss t = true
  los : (losersOk xss t).length + 1 = xss.length
  has : decide ((W : Int) ∈ losersOk xss t) = false
  all : srt (losersOk xss t ++ [(W : Int)]) = srt (stairs xss.length)
  next : LAt xss (j + 1) (t.set W ((n : Int) + 1))
theorem drop_head {α : Type} {xs ys : List α} {j : Nat} {y : α} (h : xs.drop j = y :: ys) : xs[j]? = some y ∧ xs.drop (j + 1) = ys := by
  constructor
  · have := congrArg (fun l => l[0]?) h
    simpa using this
  · rw [← List.drop_drop, h]
    rfl
theorem LAt.go {xss : List (List Int)} (H : LsOk xss) {j : Nat} {t : List Int} (h : LAt xss j t) {w : Int} (hw : (allFrom xss)[j]? = some w) :
    ∃ (W n : Nat) (xs : List Int) (y : Int), w = (W : Int) ∧ LGo xss j t W n xs y := by
  obtain ⟨hT, f, hr, h1, h2⟩ := h
  have hok := takenOk_yes H.ok hT
  rcases win_cases H hT with ⟨e1, e2⟩ | ⟨xs, n, y, hx, ht, hy, hmin⟩
  · exfalso
    rw [seq_done f e1] at h1
    have := (List.getElem?_eq_some_iff.1 hw).1
    have := List.drop_eq_nil_iff.1 h1
    omega
  · obtain ⟨hn, _⟩ := List.getElem?_eq_some_iff.1 hy
    obtain ⟨f', rfl, hr', he⟩ := seq_step hx ht hn hr
    rw [he] at h1 h2
    rw [nums_step hx ht hy] at h2
    obtain ⟨a1, a2⟩ := drop_head h1
    obtain ⟨b1, b2⟩ := drop_head h2
    rw [hw] at a1
    cases a1
    have hwin : winnerOk xss t = (winOf xss t : Int) := by
      rw [winnerOk, if_pos hok, winnerOf_no (exh_no hx ht hn)]
    have hlos : losersOk xss t = (playOf xss t).2 := by rw [losersOk, if_pos hok]
    have hp : ((winOf xss t : Int) :: losersOk xss t).Perm (stairs xss.length) := by
      have := play_perm (pk xss t) xss.length (stairs xss.length) []
      rw [List.append_nil] at this
      rw [hlos]
      have hw1 := (winOf_min (xss := xss) (t := t) H.one).1
      unfold playOf at hw1 ⊢
      rw [hw1] at this
      exact this
    have hnd : ((winOf xss t : Int) :: losersOk xss t).Nodup := hp.nodup_iff.2 ((stairs_sorted xss.length).imp (by intro a b h; omega))
    refine ⟨winOf xss t, n, xs, y, rfl, (winOf_min H.one).2.1, hx, ht, hy, b1, hwin, hok, ?_, ?_, ?_, ?_⟩
    · have := hp.length_eq
      rw [stairs_length] at this
      simpa using this
    · exact decide_eq_false (List.nodup_cons.1 hnd).1
    · exact srt_congr ((List.perm_append_comm).trans hp)
    · rw [← bump_eq ht]
      exact ⟨hT.bump hx ht hn, f', hr', a2, b2⟩
theorem LAt.done {xss : List (List Int)} (H : LsOk xss) {t : List Int} (h : LAt xss (allFrom xss).length t) : winnerOk xss t = -1 := by
  obtain ⟨hT, f, hr, h1, h2⟩ := h
  rw [List.drop_length] at h1
  rw [winnerOk, if_pos (takenOk_yes H.ok hT)]
  rcases win_cases H hT with ⟨e1, e2⟩ | ⟨xs, n, y, hx, ht, hy, hmin⟩
  · exact winnerOf_yes e1
  · exfalso
    obtain ⟨hn, _⟩ := List.getElem?_eq_some_iff.1 hy
    obtain ⟨f', rfl, hr', he⟩ := seq_step hx ht hn hr
    rw [he] at h1
    cases h1
theorem way_facts : ∀ p : Nat, p ≤ 8 → ∀ k : Nat, k < p → ((wayOf p k).length : Int) ≤ rOf p ∧ sumF (wayOf p k) = (p : Int) - 1 ∧ (∀ x ∈ wayOf p k, 0 ≤ x ∧ x ≤ 1000000) ∧ ((wayOf p k).length ≤ 3) := by decide +kernel
theorem matchSum_bd {n : Nat} (S : List Int) (h : n ≤ 8) (hS : ∀ x ∈ S, ∃ a : Nat, x = a ∧ a < n) : ∀ k, k ≤ S.length → matchSum n S k ≤ rOf n * (k : Int)
  | 0, _ => by simp [matchSum]
  | k + 1, hk => by
    have h1 := matchSum_bd S h hS k (by omega)
    have hg := List.getElem?_eq_getElem (show k < S.length by omega)
    obtain ⟨a, ha, hn⟩ := hS _ (List.mem_of_getElem? hg)
    rw [ha] at hg
    rw [matchSum_succ hg]
    have := (way_facts n h a hn).1
    rw [show (((k + 1 : Nat) : Int)) = (k : Int) + 1 by simp, Int.mul_add]
    omega
structure LCount (xss : List (List Int)) : Prop where
  lo : (xss.length : Int) - 1 ≤ countOk xss
  hi : countOk xss ≤ matchesBound xss.length xss.flatten.length
theorem lcount {xss : List (List Int)} (H : LsOk xss) : LCount xss := by
  have h8 := H.eight
  have h1 := H.one
  have hl := allFrom_len H
  have h80 : xss.flatten.length ≤ 80 := by
    have := rest80 H.ok
    rw [← remain_len, remain_zeros] at this
    exact this
  have hc : countOk xss = (xss.length : Int) - 1 + matchSum xss.length (allFrom xss) ((allFrom xss).length - 1) := by rw [countOk, if_pos H.ok]
  have hb := matchSum_bd (n := xss.length) (allFrom xss) h8 (fun x hx => seq_mem h1 80 _ x hx) ((allFrom xss).length - 1) (by omega)
  have h0 := (matchSum_le (n := xss.length) (allFrom xss) h8 ((allFrom xss).length - 1)).1
  refine ⟨by omega, ?_⟩
  rw [matchesBound, inB_iff.2 ⟨by omega, by omega⟩, inB_iff.2 ⟨by omega, by omega⟩]
  have e : (((allFrom xss).length - 1 : Nat) : Int) = max 0 ((xss.flatten.length : Int) - 1) := by omega
  rw [e] at hb
  simp only [Bool.and_self, if_true]
  omega

end Go.Proofs.Ytkidbnlebeaikaa
