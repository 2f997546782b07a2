/- Joined texts of the proof: PlainBfs. -/
import Derived.WalkKit
import Derived.WalkSpells
import Derived.WalkLawsBesides
import Derived.Deep.Draws
import Derived.Lib.Hide
import Derived.RegionTactic
import Derived.Test.YtggblfnajeikjaaGreatRows
import Derived.BigQuiet
import Derived.Deep.QuietTactic
import Derived.Deep.RegionHeld3
import Derived.Deep.DeepCutAuto
import Derived.Deep.LoopGhost
import Derived.Lib.LazyBuf
import Derived.Maps.OwnOps
import Derived.Maps.OwnSet
import Derived.Maps.Views
import Derived.Carry
import Derived.Shelf.Strconv.Itoa0
import Derived.Shelf.Sort.Plain
import Derived.Shelf.Slices.Reverse
import Derived.Ground.Names2Prog
import Derived.Shelf.Slices.CompactI
import Derived.Test.YtggblfnajeikjaaGreatProg
import Derived.Lib.RowBridge
import Derived.Sort.OwnSortedInts
import Derived.Test.YtggblfnajeikjaaGreatJ1
import Derived.Test.YtggblfnajeikjaaGreatJ3
import Derived.Test.YtggblfnajeikjaaGreatJ4
import Derived.Test.YtggblfnajeikjaaGreatJ5
import Derived.Test.YtggblfnajeikjaaGreatJ6
import Derived.Test.YtggblfnajeikjaaGreatJ8
import Derived.Test.YtggblfnajeikjaaGreatJ9
import Derived.Test.YtggblfnajeikjaaGreatJ10
import Derived.Test.YtggblfnajeikjaaGreatJ12
import Derived.Test.YtggblfnajeikjaaGreatJ17
import Derived.Test.YtggblfnajeikjaaGreatJ32
import Derived.Test.YtggblfnajeikjaaGreatJ36
namespace Go.Proofs.YtggblfnajeikjaaGreat
open Go.RowKit Go.Maps
set_option linter.unusedVariables false
set_option linter.unusedSimpArgs false

theorem keyLaw : Keyed Tryz.prog 3 := int_keyed Tryz.underlying3
theorem zeroInt (w : World) : (zeroValue 3).run Tryz.prog w = .ok (.int .i64 0) w := by kernel_rfl
theorem wf_of {q : Int} (h : I64 q) : (Lit.int .i64 q).wf = true := by
  obtain ⟨h1, h2⟩ := h
  simp [Lit.wf, IntKind.min, IntKind.max, IntKind.signed, IntKind.bits]
  omega
/-- The map in block g has f's values. -/
def MapF (w : World) (g n : Nat) (f : Int → Option Int) : Prop :=
  ∃ D : DataW Unit, w.ownsMap Tryz.prog 3 (plainElem Tryz.prog 3) g n D ∧
    ∀ q, I64 q → Maps.has D (.int .i64 q) = (f q).isSome ∧ D.atKey (.int .i64 q) (.lit (.int .i64 0)) = .lit (.int .i64 ((f q).getD 0))
def updF (f : Int → Option Int) (q v : Int) : Int → Option Int := fun k => if k = q then some v else f k
section
variable {w w' : World} {g n : Nat} {f : Int → Option Int} {q v : Int}
theorem MapF.look (h : MapF w g n f) (hq : I64 q) : (Instr.lookup 56 (.map (some g)) (.int .i64 q) false).run Tryz.prog w = .ok (.int .i64 ((f q).getD 0)) w := by
  obtain ⟨D, hD, hf⟩ := h
  obtain ⟨c, hrun, hat, _⟩ := hD.lookup_int keyLaw Tryz.underlying56 Tryz.underlying3 (zeroInt w) (keyOf_int_mk Tryz.underlying3 (wf_of hq))
  rw [(hf q hq).2] at hat
  simp only [DataW.lit.injEq, Lit.int.injEq, true_and] at hat
  rw [hrun, hat]
theorem MapF.lookOk (h : MapF w g n f) (hq : I64 q) : (Instr.lookup 56 (.map (some g)) (.int .i64 q) true).run Tryz.prog w = .ok (.tuple #[.int .i64 ((f q).getD 0), .bool (f q).isSome]) w := by
  obtain ⟨D, hD, hf⟩ := h
  obtain ⟨c, ps, hrun, hv⟩ := hD.look_ok keyLaw Tryz.underlying56 (zeroInt w) (plainElem_int Tryz.underlying3 (by decide)) (keyOf_int_mk Tryz.underlying3 (wf_of hq))
  obtain ⟨c', rfl, hc, _⟩ := plainElem_int_inv Tryz.underlying3 hv
  rw [(hf q hq).2] at hc
  have e := congrArg Prod.fst hc
  simp only [DataW.lit.injEq, Lit.int.injEq, true_and] at e
  rw [hrun, (hf q hq).1, e]
theorem MapF.put (h : MapF w g n f) (hn : n < 10000000) (hq : I64 q) (hv : I64 v) : ∃ w', (Instr.mapUpdate 56 (.map (some g)) (.int .i64 q) (.int .i64 v)).run Tryz.prog w = .ok () w' ∧ MapF w' g (n + 1) (updF f q v) ∧ w.grownBy w' (some g) := by
  obtain ⟨D, hD, hf⟩ := h
  have hM := hD.isMap
  obtain ⟨w', hrun, hD', hg⟩ := hD.update keyLaw Tryz.underlying56 (by simp only [maxLen]; omega) (keyOf_int_mk Tryz.underlying3 (wf_of hq)) (plainElem_int Tryz.underlying3 (wf_of hv))
  refine ⟨w', hrun, ⟨_, hD', fun k hk => ?_⟩, hg⟩
  by_cases e : k = q
  · subst e
    rw [has_put_same hM (show WideAt.IsKeyLit (.int .i64 k) from trivial), atKey_put_same hM (show WideAt.IsKeyLit (.int .i64 k) from trivial), updF, if_pos rfl]
    exact ⟨rfl, rfl⟩
  · have hne : (Lit.int .i64 k) ≠ .int .i64 q := fun h => e (by injection h)
    rw [has_put_other hne, atKey_put_other hne, updF, if_neg e]
    exact hf k hk
theorem MapF.made (w : World) : MapF (w.alloc (.map #[] 0)) w.heap.size 0 fun _ => none :=
  ⟨_, World.ownsMap_made _ _ _ _, fun q _ => ⟨rfl, rfl⟩⟩
theorem MapF.kept {row : Option Nat} (h : MapF w g n f) (hg : w.grownBy w' row) (hne : some g ≠ row) : MapF w' g n f := by
  obtain ⟨D, hD, hf⟩ := h
  exact ⟨D, hD.kept hg hne, hf⟩
theorem MapF.lt (h : MapF w g n f) : g < w.heap.size := by
  obtain ⟨D, hD, _⟩ := h
  exact hD.lt
theorem MapF.below (h : MapF w g n f) (hb : Below w.heap.size w w') : MapF w' g n f :=
  h.kept (row := none) ⟨hb.os, hb.tape, hb.output, hb.size, fun i hi _ => hb.block i hi⟩ (by simp)
theorem MapF.alloc (h : MapF w g n f) (o : Obj) : MapF (w.alloc o) g n f := h.below ((Below.refl _ _).alloc (Nat.le_refl _) _)
theorem MapF.ne {E B : Nat} {u : Value} {xs : List Value} (h : MapF w g n f) (ho : Own w E B u xs) : u.ownBlock ≠ some g := by
  obtain ⟨D, ⟨es, clock, hb, _⟩, _⟩ := h
  intro e
  rcases ho with ⟨rfl, _⟩ | ⟨g1, o1, c1, cur1, rfl, _, hh1, _⟩
  · cases e
  · simp only [Value.ownBlock, Option.some.injEq] at e
    subst e
    rw [hb] at hh1
    cases hh1
end

structure Bfs (n at_ k : Nat) (T : List (List Int × Nat)) (f : Int → Option Int) : Prop where
  perm : ∀ p ∈ T, PermN n p.1
  nodup : (T.map Prod.fst).Nodup
  first : T[0]? = some (idL n, 0)
  mono : T.Pairwise fun p q => p.2 ≤ q.2
  near : ∀ p ∈ T, ∀ c, T[at_]? = some c → p.2 ≤ c.2 + 1
  par : ∀ (i : Nat) p, T[i]? = some p → i = 0 ∨ ∃ j, 2 ≤ j ∧ j ≤ n ∧ ∃ e, (flipL p.1 j, e) ∈ T ∧ p.2 = e + 1
  done : ∀ (i : Nat) p, T[i]? = some p → ∀ j, 2 ≤ j → j ≤ n → (i < at_ ∨ (i = at_ ∧ j < k)) → ∃ e, (flipL p.1 j, e) ∈ T ∧ e ≤ p.2 + 1
  bd : ∀ (i : Nat) p, T[i]? = some p → p.2 ≤ i
  fok : ∀ p ∈ T, f (keyN p.1) = some (p.2 : Int)
  fin : ∀ q v, f q = some v → ∃ p ∈ T, q = (keyN p.1 : Int)
section
variable {n at_ k d : Nat} {T : List (List Int × Nat)} {f : Int → Option Int} {x : List Int}
theorem PermN.small (h : PermN n x) (hn : n ≤ 6) : ∀ y ∈ x, 0 ≤ y ∧ y < 8 := fun y hy => by have := h.2.1 y hy; omega
theorem Bfs.start (n : Nat) : Bfs n 0 2 [(idL n, 0)] (updF (fun _ => none) (keyN (idL n)) 0) := by
  refine ⟨fun p hp => ?_, by simp, rfl, by simp, fun p hp c hc => ?_, fun i p hp => ?_, fun i p hp j h2 hj h => ?_, fun i p hp => ?_, fun p hp => ?_, fun q v hq => ?_⟩
  · rw [List.mem_singleton] at hp; subst hp; exact PermN.idL n
  · rw [List.mem_singleton] at hp; subst hp; exact Nat.zero_le _
  · left
    have := (List.getElem?_eq_some_iff.1 hp).1
    simpa using this
  · omega
  · have := List.mem_of_getElem? hp
    rw [List.mem_singleton] at this
    subst this
    exact Nat.zero_le _
  · rw [List.mem_singleton] at hp; subst hp; simp [updF]
  · unfold updF at hq
    split at hq
    · rename_i e
      exact ⟨_, List.mem_singleton.2 rfl, e⟩
    · cases hq
theorem Bfs.len (H : Bfs n at_ k T f) (hn : n ≤ 6) : T.length ≤ 524288 := by
  have h1 : (T.map fun p => keyN p.1).Nodup := by
    have := H.nodup
    rw [List.Nodup, List.pairwise_map] at this ⊢
    refine List.Pairwise.imp_of_mem (fun {a b} ha hb hne e => hne ?_) this
    exact keyN_inj _ _ ((H.perm a ha).1.trans (H.perm b hb).1.symm) ((H.perm a ha).small hn) ((H.perm b hb).small hn) e
  have h2 := len_bd 524288 _ h1 fun y hy => by
    obtain ⟨p, hp, rfl⟩ := List.mem_map.1 hy
    have h3 := (keyN_lt p.1 ((H.perm p hp).small hn)).1
    rw [(H.perm p hp).1] at h3
    have : 8 ^ n ≤ 8 ^ 6 := Nat.pow_le_pow_right (by omega) hn
    omega
  simpa using h2
theorem Bfs.old (H : Bfs n at_ k T f) (hn : n ≤ 6) (hx : T[at_]? = some (x, d)) {v : Int} (hf : f (keyN (flipL x k)) = some v) : Bfs n at_ (k + 1) T f := by
  refine ⟨H.perm, H.nodup, H.first, H.mono, H.near, H.par, fun i p hp j h2 hj h => ?_, H.bd, H.fok, H.fin⟩
  by_cases e : i = at_ ∧ j = k
  · obtain ⟨rfl, rfl⟩ := e
    rw [hx] at hp
    cases hp
    obtain ⟨q, hq, he⟩ := H.fin _ _ hf
    have h1 := H.perm _ (List.mem_of_getElem? hx)
    have h3 : flipL x j = q.1 := keyN_inj _ _ (h1.flip.1.trans (H.perm q hq).1.symm) (h1.flip.small hn) ((H.perm q hq).small hn) (by omega)
    exact ⟨q.2, by rw [h3]; exact hq, H.near q hq _ hx⟩
  · exact H.done i p hp j h2 hj (by omega)
theorem Bfs.new (H : Bfs n at_ k T f) (hx : T[at_]? = some (x, d)) (h2 : 2 ≤ k) (hk : k ≤ n) (hf : f (keyN (flipL x k)) = none) :
    Bfs n at_ (k + 1) (T ++ [(flipL x k, d + 1)]) (updF f (keyN (flipL x k)) ((d + 1 : Nat) : Int)) := by
  have hxm := List.mem_of_getElem? hx
  have hal := (List.getElem?_eq_some_iff.1 hx).1
  have h1 := H.perm _ hxm
  have hnew : ∀ p ∈ T, (keyN p.1 : Int) ≠ (keyN (flipL x k) : Int) := fun p hp e => by
    have := H.fok p hp
    rw [e, hf] at this
    cases this
  have hold : ∀ (i : Nat) p, (T ++ [(flipL x k, d + 1)])[i]? = some p → (T[i]? = some p) ∨ (i = T.length ∧ p = (flipL x k, d + 1)) := fun i p hp => by
    by_cases hi : i < T.length
    · rw [List.getElem?_append_left hi] at hp; exact .inl hp
    · rw [List.getElem?_append_right (by omega)] at hp
      have hb := (List.getElem?_eq_some_iff.1 hp).1
      simp at hb
      have e : i = T.length := by omega
      subst e
      simp at hp
      exact .inr ⟨rfl, hp.symm⟩
  refine ⟨fun p hp => ?_, ?_, by rw [List.getElem?_append_left (by omega)]; exact H.first, ?_, fun p hp c hc => ?_, fun i p hp => ?_, fun i p hp j h2' hj h => ?_, fun i p hp => ?_, fun p hp => ?_, fun q v hq => ?_⟩
  · rcases List.mem_append.1 hp with hp | hp
    · exact H.perm p hp
    · rw [List.mem_singleton] at hp; subst hp; exact h1.flip
  · rw [List.map_append, List.nodup_append]
    refine ⟨H.nodup, by simp, fun a ha b hb e => ?_⟩
    simp at hb
    subst hb
    obtain ⟨p, hp, rfl⟩ := List.mem_map.1 ha
    exact hnew p hp (by rw [e])
  · rw [List.pairwise_append]
    refine ⟨H.mono, by simp, fun a ha b hb => ?_⟩
    rw [List.mem_singleton] at hb; subst hb
    exact H.near a ha _ hx
  · rw [List.getElem?_append_left hal, hx] at hc
    cases hc
    rcases List.mem_append.1 hp with hp | hp
    · exact H.near p hp _ hx
    · rw [List.mem_singleton] at hp; subst hp; exact Nat.le_refl _
  · rcases hold i p hp with hp | ⟨rfl, rfl⟩
    · rcases H.par i p hp with e | ⟨j, a, b, e, c, hd⟩
      · exact .inl e
      · exact .inr ⟨j, a, b, e, List.mem_append_left _ c, hd⟩
    · exact .inr ⟨k, h2, hk, d, by rw [flipL_flipL (by rw [h1.1]; exact hk)]; exact List.mem_append_left _ hxm, rfl⟩
  · rcases hold i p hp with hp2 | ⟨rfl, rfl⟩
    · by_cases e : i = at_ ∧ j = k
      · obtain ⟨rfl, rfl⟩ := e
        rw [hx] at hp2
        cases hp2
        exact ⟨d + 1, by simp, Nat.le_refl _⟩
      · obtain ⟨e, a, b⟩ := H.done i p hp2 j h2' hj (by omega)
        exact ⟨e, List.mem_append_left _ a, b⟩
    · omega
  · rcases hold i p hp with hp | ⟨rfl, rfl⟩
    · exact H.bd i p hp
    · have := H.bd _ _ hx; simp only at this ⊢; omega
  · rcases List.mem_append.1 hp with hp | hp
    · rw [updF, if_neg (hnew p hp)]; exact H.fok p hp
    · rw [List.mem_singleton] at hp; subst hp; rw [updF, if_pos rfl]
  · unfold updF at hq
    split at hq
    · rename_i e
      exact ⟨(flipL x k, d + 1), by simp, e⟩
    · obtain ⟨p, hp, e⟩ := H.fin q v hq
      exact ⟨p, List.mem_append_left _ hp, e⟩
theorem Bfs.step (H : Bfs n at_ k T f) (hk : n < k) (hat : at_ < T.length) : Bfs n (at_ + 1) 2 T f := by
  refine ⟨H.perm, H.nodup, H.first, H.mono, fun p hp c hc => ?_, H.par, fun i p hp j h2 hj h => H.done i p hp j h2 hj (by omega), H.bd, H.fok, H.fin⟩
  have h1 := H.near p hp _ (List.getElem?_eq_getElem hat)
  obtain ⟨hl, e⟩ := List.getElem?_eq_some_iff.1 hc
  have h2 := List.pairwise_iff_getElem.1 H.mono at_ (at_ + 1) hat hl (by omega)
  rw [e] at h2
  omega
theorem Bfs.dist (H : Bfs n at_ 2 T f) (hat : T.length ≤ at_) (hn : n ≤ 6) : ∃ D, Dist n D ∧ ∀ xs, PermN n xs → f (keyN xs) = some (D xs : Int) := by
  have hall : ∀ xs, PermN n xs → ∃ (i d : Nat), T[i]? = some (xs, d) := fun xs h => by
    refine PermN.all (fun xs => ∃ (i d : Nat), T[i]? = some (xs, d)) ⟨0, 0, H.first⟩ (fun xs k hp ⟨i, d, hi⟩ h2 hk => ?_) xs h
    have := (List.getElem?_eq_some_iff.1 hi).1
    obtain ⟨e, he, _⟩ := H.done i _ hi k h2 hk (by omega)
    obtain ⟨j, hj, hje⟩ := List.getElem_of_mem he
    exact ⟨j, e, by rw [List.getElem?_eq_getElem hj, hje]⟩
  have hD : ∀ (i : Nat) (xs : List Int) (d : Nat), T[i]? = some (xs, d) → ((f (keyN xs)).getD 0).toNat = d := fun i xs d hi => by
    rw [H.fok _ (List.mem_of_getElem? hi)]; simp
  have hDm : ∀ (xs : List Int) (d : Nat), (xs, d) ∈ T → ((f (keyN xs)).getD 0).toNat = d := fun xs d hi => by rw [H.fok _ hi]; simp
  refine ⟨fun xs => ((f (keyN xs)).getD 0).toNat, ⟨hD 0 _ _ H.first, fun xs h hne => ?_, fun xs k h h2 hk => ?_, fun xs h hne => ?_, fun xs h => ?_⟩, fun xs h => ?_⟩
  · obtain ⟨i, d, hi⟩ := hall xs h
    simp only [hD i xs d hi]
    rcases H.par i _ hi with rfl | ⟨j, _, _, e, _, he⟩
    · rw [H.first] at hi; cases hi; exact absurd rfl hne
    · simp only at he; omega
  · obtain ⟨i, d, hi⟩ := hall xs h
    have hil := (List.getElem?_eq_some_iff.1 hi).1
    obtain ⟨e, he, hle⟩ := H.done i _ hi k h2 hk (by omega)
    simp only [hD i xs d hi, hDm _ _ he]
    exact hle
  · obtain ⟨i, d, hi⟩ := hall xs h
    rcases H.par i _ hi with rfl | ⟨j, h2, hj, e, hm, he⟩
    · rw [H.first] at hi; cases hi; exact absurd rfl hne
    · refine ⟨j, h2, hj, ?_⟩
      simp only [hD i xs d hi, hDm _ _ hm]
      exact he.symm
  · obtain ⟨i, d, hi⟩ := hall xs h
    have hil := (List.getElem?_eq_some_iff.1 hi).1
    have h1 : d ≤ i := H.bd i _ hi
    have h2 := H.len hn
    show ((f (keyN xs)).getD 0).toNat < 1000000
    rw [hD i xs d hi]
    omega
  · obtain ⟨i, d, hi⟩ := hall xs h
    have h1 : f (keyN xs) = some (d : Int) := H.fok _ (List.mem_of_getElem? hi)
    simp only [hD i xs d hi]
    exact h1
end

end Go.Proofs.YtggblfnajeikjaaGreat
