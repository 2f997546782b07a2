/- Plain laws: a tree of matches; no program in sight. -/
import Derived.Test.YtlmbaijkeahkfaaDoorMem
namespace Go.Proofs.YtlmbaijkeahkfaaDoor
set_option linter.unusedVariables false
set_option linter.unusedSimpArgs false

def headOf (xss : List (List Int)) (t : List Int) (a : Nat) : Option Int := (xss[a]?).bind fun xs => (t[a]?).bind fun n => xs[n.toNat]?
def key (xss : List (List Int)) (t : List Int) (a : Nat) : Int := (headOf xss t a).getD 18446744073709551616 * 1024 + a

theorem headOf_none {xss : List (List Int)} {t xs : List Int} {a n : Nat} (hx : xss[a]? = some xs) (ht : t[a]? = some (n : Int)) (h : xs.length ≤ n) : headOf xss t a = none := by
  simp [headOf, hx, ht, h]
theorem headOf_some {xss : List (List Int)} {t xs : List Int} {a n : Nat} {y : Int} (hx : xss[a]? = some xs) (ht : t[a]? = some (n : Int)) (h : xs[n]? = some y) : headOf xss t a = some y := by
  simp [headOf, hx, ht, h]
theorem headOf_i64 {xss : List (List Int)} {t : List Int} {a : Nat} {y : Int} (hf : I64ss xss) (h : headOf xss t a = some y) : I64 y := by
  unfold headOf at h
  cases hx : xss[a]? with
  | none => simp [hx] at h
  | some xs =>
    cases ht : t[a]? with
    | none => simp [hx, ht] at h
    | some n =>
      simp only [hx, ht, Option.bind_some] at h
      exact hf xs (List.mem_of_getElem? hx) y (List.mem_of_getElem? h)
theorem key_inj {xss : List (List Int)} {t : List Int} {a b : Nat} (ha : a < 1000) (hb : b < 1000) (h : key xss t a = key xss t b) : a = b := by
  unfold key at h
  generalize (headOf xss t a).getD 18446744073709551616 = x at h
  generalize (headOf xss t b).getD 18446744073709551616 = y at h
  omega
/-- the four ways of a match -/
theorem key_lt_none {xss : List (List Int)} {t : List Int} {a b : Nat} (hf : I64ss xss) (ha : a < 1000) (hb : b < 1000) (h : headOf xss t b = none) (hab : a < b) : key xss t a < key xss t b := by
  unfold key
  rw [h]
  cases hA : headOf xss t a with
  | none => simp; omega
  | some x => have hx := headOf_i64 hf hA; unfold I64 at hx; simp only [Option.getD_some, Option.getD_none]; omega
theorem key_lt_some {xss : List (List Int)} {t : List Int} {a b : Nat} {x : Int} (hf : I64ss xss) (ha : a < 1000) (hb : b < 1000) (h : headOf xss t b = none) (h1 : headOf xss t a = some x) : key xss t a < key xss t b := by
  have hx := headOf_i64 hf h1
  unfold I64 at hx; unfold key
  simp only [h, h1, Option.getD_some, Option.getD_none]; omega
theorem key_two {xss : List (List Int)} {t : List Int} {a b : Nat} {x y : Int} (ha : a < 1000) (hb : b < 1000) (h : headOf xss t b = some y) (h1 : headOf xss t a = some x) : key xss t a < key xss t b ↔ x < y ∨ (x = y ∧ a < b) := by
  unfold key
  simp only [h, h1, Option.getD_some]; omega
theorem key_nn {xss : List (List Int)} {t : List Int} {a b : Nat} (ha : a < 1000) (hb : b < 1000) (h : headOf xss t b = none) (h1 : headOf xss t a = none) : key xss t a < key xss t b ↔ a < b := by
  unfold key
  simp only [h, h1, Option.getD_none]; omega

def pk (xss : List (List Int)) (t : List Int) (a : Int) : Int := key xss t a.toNat

def playRound (f : Int → Int) : List Int → List Int × List Int
  | a :: b :: t => if f a < f b then (a :: (playRound f t).1, b :: (playRound f t).2) else (b :: (playRound f t).1, a :: (playRound f t).2)
  | [a] => ([a], [])
  | [] => ([], [])
theorem playRound_len (f : Int → Int) : ∀ xs, (playRound f xs).1.length = (xs.length + 1) / 2 ∧ (playRound f xs).2.length = xs.length / 2
  | [] => by simp [playRound]
  | [a] => by simp [playRound]
  | a :: b :: t => by
    have := playRound_len f t
    simp only [playRound]
    split <;> simp only [List.length_cons] <;> omega
theorem playRound_sub (f : Int → Int) : ∀ xs, (playRound f xs).1.Sublist xs
  | [] => by simp [playRound]
  | [a] => by simp [playRound]
  | a :: b :: t => by
    have := playRound_sub f t
    simp only [playRound]
    split
    · exact (this.cons _).cons_cons _
    · exact (this.cons_cons _).cons _
theorem playRound_perm (f : Int → Int) : ∀ xs, List.Perm ((playRound f xs).1 ++ (playRound f xs).2) xs
  | [] => by simp [playRound]
  | [a] => by simp [playRound]
  | a :: b :: t => by
    have := playRound_perm f t
    simp only [playRound]
    split
    · exact (List.Perm.cons a (List.perm_middle.trans (this.cons b)))
    · exact (List.Perm.cons b (List.perm_middle.trans (this.cons a))).trans (List.Perm.swap a b t)
theorem playRound_min (f : Int → Int) : ∀ xs, ∀ y ∈ xs, ∃ x ∈ (playRound f xs).1, f x ≤ f y
  | [] => by simp
  | [a] => by intro y hy; exact ⟨y, by simpa [playRound] using hy, Int.le_refl _⟩
  | a :: b :: t => by
    intro y hy
    have ih := playRound_min f t
    simp only [playRound]
    simp only [List.mem_cons] at hy
    split
    · rcases hy with rfl | rfl | hy
      · exact ⟨y, by simp, Int.le_refl _⟩
      · exact ⟨a, by simp, by omega⟩
      · obtain ⟨x, hx, hl⟩ := ih y hy; exact ⟨x, by simp [hx], hl⟩
    · rcases hy with rfl | rfl | hy
      · exact ⟨b, by simp, by omega⟩
      · exact ⟨y, by simp, Int.le_refl _⟩
      · obtain ⟨x, hx, hl⟩ := ih y hy; exact ⟨x, by simp [hx], hl⟩

def play (f : Int → Int) : Nat → List Int → List Int → List Int × List Int
  | 0, now, los => (now, los)
  | n + 1, now, los => if now.length ≤ 1 then (now, los) else play f n (playRound f now).1 (los ++ (playRound f now).2)
theorem play_done (f : Int → Int) (n : Nat) (now los : List Int) (h : now.length ≤ 1) : play f n now los = (now, los) := by
  cases n <;> simp [play, h]
theorem play_step (f : Int → Int) (n : Nat) (now los : List Int) (h : 1 < now.length) (hn : now.length ≤ n + 1) : ∃ n', n = n' + 1 ∧ (playRound f now).1.length ≤ n' + 1 ∧ play f n now los = play f n' (playRound f now).1 (los ++ (playRound f now).2) := by
  cases n with
  | zero => omega
  | succ n =>
    have := (playRound_len f now).1
    exact ⟨n, rfl, by omega, by simp [play, show ¬ now.length ≤ 1 by omega]⟩
theorem play_one (f : Int → Int) : ∀ (n : Nat) (now los : List Int), 1 ≤ now.length → now.length ≤ n + 1 → ∃ w, (play f n now los).1 = [w] ∧ w ∈ now ∧ ∀ y ∈ now, f w ≤ f y
  | n, now, los, h1, h2 => by
    by_cases h : now.length ≤ 1
    · rw [play_done f n now los h]
      match now, h1, h with
      | [w], _, _ => exact ⟨w, rfl, by simp, by simp⟩
    · obtain ⟨n', rfl, hl, he⟩ := play_step f n now los (by omega) h2
      rw [he]
      have h3 := (playRound_len f now).1
      obtain ⟨w, hw1, hw2, hw3⟩ := play_one f n' _ (los ++ (playRound f now).2) (show 1 ≤ (playRound f now).1.length by omega) hl
      refine ⟨w, hw1, (playRound_sub f now).mem hw2, fun y hy => ?_⟩
      obtain ⟨x, hx, hxy⟩ := playRound_min f now y hy
      have := hw3 x hx
      omega
theorem play_perm (f : Int → Int) : ∀ (n : Nat) (now los : List Int), List.Perm ((play f n now los).1 ++ (play f n now los).2) (now ++ los)
  | 0, now, los => .refl _
  | n + 1, now, los => by
    unfold play
    split
    · exact .refl _
    · refine (play_perm f n _ _).trans ?_
      refine List.Perm.trans ?_ ((playRound_perm f now).append_right los)
      rw [List.append_assoc]
      exact List.Perm.append_left _ List.perm_append_comm

def stairs (n : Nat) : List Int := (List.range n).map fun (i : Nat) => (i : Int)
theorem stairs_succ (n : Nat) : stairs (n + 1) = stairs n ++ [(n : Int)] := by simp [stairs, List.range_succ]
theorem stairs_length (n : Nat) : (stairs n).length = n := by simp [stairs]
theorem stairs_get {n k : Nat} {x : Int} (h : (stairs n)[k]? = some x) : x = k ∧ k < n := by
  unfold stairs at h
  rw [List.getElem?_map] at h
  have hk := (List.getElem?_eq_some_iff.1 (show (List.map (fun (i : Nat) => (i : Int)) (List.range n))[k]? = some x by rw [List.getElem?_map]; exact h)).1
  simp at hk
  rw [List.getElem?_range hk] at h
  simp at h
  exact ⟨h.symm, hk⟩
theorem stairs_mem {n : Nat} {x : Int} : x ∈ stairs n ↔ ∃ k : Nat, k < n ∧ x = k := by
  simp only [stairs, List.mem_map, List.mem_range]
  constructor
  · rintro ⟨k, hk, rfl⟩; exact ⟨k, hk, rfl⟩
  · rintro ⟨k, hk, rfl⟩; exact ⟨k, hk, rfl⟩
theorem stairs_sorted (n : Nat) : (stairs n).Pairwise (· < ·) := by
  unfold stairs
  rw [List.pairwise_map]
  exact List.pairwise_lt_range.imp (by intro a b h; omega)

/-- all matches -/
def playOf (xss : List (List Int)) (t : List Int) : List Int × List Int := play (pk xss t) xss.length (stairs xss.length) []
def winOf (xss : List (List Int)) (t : List Int) : Nat := ((playOf xss t).1.headD 0).toNat
theorem winOf_min {xss : List (List Int)} {t : List Int} (h : 1 ≤ xss.length) : (playOf xss t).1 = [(winOf xss t : Int)] ∧ winOf xss t < xss.length ∧ ∀ k, k < xss.length → key xss t (winOf xss t) ≤ key xss t k := by
  obtain ⟨w, h1, h2, h3⟩ := play_one (pk xss t) xss.length (stairs xss.length) [] (by rw [stairs_length]; exact h) (by rw [stairs_length]; omega)
  obtain ⟨k, hk, rfl⟩ := stairs_mem.1 h2
  have hw : winOf xss t = k := by unfold winOf playOf; rw [h1]; simp
  rw [hw]
  refine ⟨h1, hk, fun j hj => ?_⟩
  have := h3 (j : Int) (stairs_mem.2 ⟨j, hj, rfl⟩)
  simpa [pk] using this
theorem winOf_eq {xss : List (List Int)} {t : List Int} (h8 : xss.length ≤ 8) {b : Nat} (hb : b < xss.length) (hm : ∀ k, k < xss.length → key xss t b ≤ key xss t k) : winOf xss t = b := by
  obtain ⟨_, h2, h3⟩ := winOf_min (xss := xss) (t := t) (by omega)
  have h4 := h3 b hb
  have h5 := hm _ h2
  exact key_inj (xss := xss) (t := t) (by omega) (by omega) (by omega)
def winnerOf (xss : List (List Int)) (t : List Int) : Int := if headOf xss t (winOf xss t) = none then -1 else winOf xss t

end Go.Proofs.YtlmbaijkeahkfaaDoor
