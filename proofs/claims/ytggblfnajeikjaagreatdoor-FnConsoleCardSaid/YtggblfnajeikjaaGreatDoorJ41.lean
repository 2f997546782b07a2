/- Joined texts of the proof: PlainBfs, FlipF, FlipJ, FlipLine. -/
import Derived.Maps.OwnOps
import Derived.Maps.OwnSet
import Derived.Maps.Views
import Derived.Carry
import Derived.Test.YtggblfnajeikjaaGreatDoorJ34
import Derived.Test.YtggblfnajeikjaaGreatDoorJ35
namespace Go.Proofs.YtggblfnajeikjaaGreatDoor
open Go.RowKit
set_option linter.unusedVariables false
set_option linter.unusedSimpArgs false
set_option maxRecDepth 100000
set_option maxHeartbeats 16000000
section
open Go.RowKit Go.Maps
theorem keyLaw:Keyed Tryz.prog 3:=int_keyed Tryz.underlying3
theorem zeroInt (w:World):(zeroValue 3).run Tryz.prog w=.ok (.int .i64 0) w:=by kernel_rfl
theorem wf_of {q:Int} (h:I64 q):(Lit.int .i64 q).wf=true:=by
 obtain ⟨h1,h2⟩:=h
 simp [Lit.wf,IntKind.min,IntKind.max,IntKind.signed,IntKind.bits]
 omega
def MapF (w:World) (g n:Nat) (f:Int→Option Int):Prop :=
 ∃ D:DataW Unit,w.ownsMap Tryz.prog 3 (plainElem Tryz.prog 3) g n D ∧
   ∀ q,I64 q→Maps.has D (.int .i64 q)=(f q).isSome∧D.atKey (.int .i64 q) (.lit (.int .i64 0))=.lit (.int .i64 ((f q).getD 0))
def updF (f:Int→Option Int) (q v:Int):Int→Option Int:=fun k=>if k=q then some v else f k
section
variable {w w':World} {g n:Nat} {f:Int→Option Int} {q v:Int}
theorem MapF.look (h:MapF w g n f) (hq:I64 q):(Instr.lookup 87 (.map (some g)) (.int .i64 q) false).run Tryz.prog w=.ok (.int .i64 ((f q).getD 0)) w:=by
 obtain ⟨D,hD,hf⟩:=h
 obtain ⟨c,hrun,hat,_⟩:=hD.lookup_int keyLaw Tryz.underlying87 Tryz.underlying3 (zeroInt w) (keyOf_int_mk Tryz.underlying3 (wf_of hq))
 rw [(hf q hq).2] at hat
 simp only [DataW.lit.injEq,Lit.int.injEq,true_and] at hat
 rw [hrun,hat]
theorem MapF.lookOk (h:MapF w g n f) (hq:I64 q):(Instr.lookup 87 (.map (some g)) (.int .i64 q) true).run Tryz.prog w=.ok (.tuple #[.int .i64 ((f q).getD 0),.bool (f q).isSome]) w:=by
 obtain ⟨D,hD,hf⟩:=h
 obtain ⟨c,ps,hrun,hv⟩:=hD.look_ok keyLaw Tryz.underlying87 (zeroInt w) (plainElem_int Tryz.underlying3 (by decide)) (keyOf_int_mk Tryz.underlying3 (wf_of hq))
 obtain ⟨c',rfl,hc,_⟩:=plainElem_int_inv Tryz.underlying3 hv
 rw [(hf q hq).2] at hc
 have e:=congrArg Prod.fst hc
 simp only [DataW.lit.injEq,Lit.int.injEq,true_and] at e
 rw [hrun,(hf q hq).1,e]
theorem MapF.put (h:MapF w g n f) (hn:n < 10000000) (hq:I64 q) (hv:I64 v):∃ w',(Instr.mapUpdate 87 (.map (some g)) (.int .i64 q) (.int .i64 v)).run Tryz.prog w=.ok () w'∧MapF w' g (n+1) (updF f q v)∧w.grownBy w' (some g):=by
 obtain ⟨D,hD,hf⟩:=h
 have hM:=hD.isMap
 obtain ⟨w',hrun,hD',hg⟩:=hD.update keyLaw Tryz.underlying87 (by simp only [maxLen];omega) (keyOf_int_mk Tryz.underlying3 (wf_of hq)) (plainElem_int Tryz.underlying3 (wf_of hv))
 refine ⟨w',hrun,⟨_,hD',fun k hk=>?_⟩,hg⟩
 by_cases e:k=q
 · subst e
   rw [has_put_same hM (show WideAt.IsKeyLit (.int .i64 k) from trivial),atKey_put_same hM (show WideAt.IsKeyLit (.int .i64 k) from trivial),updF,if_pos rfl]
   exact ⟨rfl,rfl⟩
 · have hne:(Lit.int .i64 k)≠.int .i64 q:=fun h=>e (by injection h)
   rw [has_put_other hne,atKey_put_other hne,updF,if_neg e]
   exact hf k hk
theorem MapF.made (w:World):MapF (w.alloc (.map #[] 0)) w.heap.size 0 fun _=>none :=
 ⟨_,World.ownsMap_made _ _ _ _,fun q _=>⟨rfl,rfl⟩⟩
theorem MapF.kept {row:Option Nat} (h:MapF w g n f) (hg:w.grownBy w' row) (hne:some g≠row):MapF w' g n f:=by
 obtain ⟨D,hD,hf⟩:=h
 exact ⟨D,hD.kept hg hne,hf⟩
theorem MapF.lt (h:MapF w g n f):g < w.heap.size:=by
 obtain ⟨D,hD,_⟩:=h
 exact hD.lt
theorem MapF.below (h:MapF w g n f) (hb:Below w.heap.size w w'):MapF w' g n f :=
 h.kept (row:=none) ⟨hb.os,hb.tape,hb.output,hb.size,fun i hi _=>hb.block i hi⟩ (by simp)
theorem MapF.alloc (h:MapF w g n f) (o:Obj):MapF (w.alloc o) g n f:=h.below ((Below.refl _ _).alloc (Nat.le_refl _) _)
theorem MapF.ne {E B:Nat} {u:Value} {xs:List Value} (h:MapF w g n f) (ho:Own w E B u xs):u.ownBlock≠some g:=by
 obtain ⟨D,⟨es,clock,hb,_⟩,_⟩:=h
 intro e
 rcases ho with ⟨rfl,_⟩ | ⟨g1,o1,c1,cur1,rfl,_,hh1,_⟩
 · cases e
 · simp only [Value.ownBlock,Option.some.injEq] at e
   subst e
   rw [hb] at hh1
   cases hh1
end
structure Bfs (n at_ k:Nat) (T:List (List Int × Nat)) (f:Int→Option Int):Prop where
 perm:∀ p∈T,PermN n p.1
 nodup:(T.map Prod.fst).Nodup
 first:T[0]?=some (idL n,0)
 mono:T.Pairwise fun p q=>p.2≤q.2
 near:∀ p∈T,∀ c,T[at_]?=some c→p.2≤c.2+1
 par:∀ (i:Nat) p,T[i]?=some p→i=0∨∃ j,2≤j∧j≤n∧∃ e,(flipL p.1 j,e)∈T∧p.2=e+1
 done:∀ (i:Nat) p,T[i]?=some p→∀ j,2≤j→j≤n→(i < at_∨(i=at_∧j < k))→∃ e,(flipL p.1 j,e)∈T∧e≤p.2+1
 bd:∀ (i:Nat) p,T[i]?=some p→p.2≤i
 fok:∀ p∈T,f (keyN p.1)=some (p.2:Int)
 fin:∀ q v,f q=some v→∃ p∈T,q=(keyN p.1:Int)
section
variable {n at_ k d:Nat} {T:List (List Int × Nat)} {f:Int→Option Int} {x:List Int}
theorem PermN.small (h:PermN n x) (hn:n≤6):∀ y∈x,0≤y∧y < 8:=fun y hy=>by have:=h.2.1 y hy;omega
theorem Bfs.start (n:Nat):Bfs n 0 2 [(idL n,0)] (updF (fun _=>none) (keyN (idL n)) 0):=by
 refine ⟨fun p hp=>?_,by simp,rfl,by simp,fun p hp c hc=>?_,fun i p hp=>?_,fun i p hp j h2 hj h=>?_,fun i p hp=>?_,fun p hp=>?_,fun q v hq=>?_⟩
 · rw [List.mem_singleton] at hp;subst hp;exact PermN.idL n
 · rw [List.mem_singleton] at hp;subst hp;exact Nat.zero_le _
 · left
   have:=(List.getElem?_eq_some_iff.1 hp).1
   simpa using this
 · omega
 · have:=List.mem_of_getElem? hp
   rw [List.mem_singleton] at this
   subst this
   exact Nat.zero_le _
 · rw [List.mem_singleton] at hp;subst hp;simp [updF]
 · unfold updF at hq
   split at hq
   · rename_i e
     exact ⟨_,List.mem_singleton.2 rfl,e⟩
   · cases hq
theorem Bfs.len (H:Bfs n at_ k T f) (hn:n≤6):T.length≤524288:=by
 have h1:(T.map fun p=>keyN p.1).Nodup:=by
  have:=H.nodup
  rw [List.Nodup,List.pairwise_map] at this ⊢
  refine List.Pairwise.imp_of_mem (fun {a b} ha hb hne e=>hne ?_) this
  exact keyN_inj _ _ ((H.perm a ha).1.trans (H.perm b hb).1.symm) ((H.perm a ha).small hn) ((H.perm b hb).small hn) e
 have h2:=len_bd 524288 _ h1 fun y hy=>by
  obtain ⟨p,hp,rfl⟩:=List.mem_map.1 hy
  have h3:=(keyN_lt p.1 ((H.perm p hp).small hn)).1
  rw [(H.perm p hp).1] at h3
  have : 8 ^ n≤8 ^ 6:=Nat.pow_le_pow_right (by omega) hn
  omega
 simpa using h2
theorem Bfs.old (H:Bfs n at_ k T f) (hn:n≤6) (hx:T[at_]?=some (x,d)) {v:Int} (hf:f (keyN (flipL x k))=some v):Bfs n at_ (k+1) T f:=by
 refine ⟨H.perm,H.nodup,H.first,H.mono,H.near,H.par,fun i p hp j h2 hj h=>?_,H.bd,H.fok,H.fin⟩
 by_cases e:i=at_∧j=k
 · obtain ⟨rfl,rfl⟩:=e
   rw [hx] at hp
   cases hp
   obtain ⟨q,hq,he⟩:=H.fin _ _ hf
   have h1:=H.perm _ (List.mem_of_getElem? hx)
   have h3:flipL x j=q.1:=keyN_inj _ _ (h1.flip.1.trans (H.perm q hq).1.symm) (h1.flip.small hn) ((H.perm q hq).small hn) (by omega)
   exact ⟨q.2,by rw [h3];exact hq,H.near q hq _ hx⟩
 · exact H.done i p hp j h2 hj (by omega)
theorem Bfs.new (H:Bfs n at_ k T f) (hx:T[at_]?=some (x,d)) (h2:2≤k) (hk:k≤n) (hf:f (keyN (flipL x k))=none) :
 Bfs n at_ (k+1) (T++[(flipL x k,d+1)]) (updF f (keyN (flipL x k)) ((d+1:Nat):Int)):=by
 have hxm:=List.mem_of_getElem? hx
 have hal:=(List.getElem?_eq_some_iff.1 hx).1
 have h1:=H.perm _ hxm
 have hnew:∀ p∈T,(keyN p.1:Int)≠(keyN (flipL x k):Int):=fun p hp e=>by
  have:=H.fok p hp
  rw [e,hf] at this
  cases this
 have hold:∀ (i:Nat) p,(T++[(flipL x k,d+1)])[i]?=some p→(T[i]?=some p)∨(i=T.length∧p=(flipL x k,d+1)):=fun i p hp=>by
  by_cases hi:i < T.length
  · rw [List.getElem?_append_left hi] at hp;exact .inl hp
  · rw [List.getElem?_append_right (by omega)] at hp
    have hb:=(List.getElem?_eq_some_iff.1 hp).1
    simp at hb
    have e:i=T.length:=by omega
    subst e
    simp at hp
    exact .inr ⟨rfl,hp.symm⟩
 refine ⟨fun p hp=>?_,?_,by rw [List.getElem?_append_left (by omega)];exact H.first,?_,fun p hp c hc=>?_,fun i p hp=>?_,fun i p hp j h2' hj h=>?_,fun i p hp=>?_,fun p hp=>?_,fun q v hq=>?_⟩
 · rcases List.mem_append.1 hp with hp | hp
   · exact H.perm p hp
   · rw [List.mem_singleton] at hp;subst hp;exact h1.flip
 · rw [List.map_append,List.nodup_append]
   refine ⟨H.nodup,by simp,fun a ha b hb e=>?_⟩
   simp at hb
   subst hb
   obtain ⟨p,hp,rfl⟩:=List.mem_map.1 ha
   exact hnew p hp (by rw [e])
 · rw [List.pairwise_append]
   refine ⟨H.mono,by simp,fun a ha b hb=>?_⟩
   rw [List.mem_singleton] at hb;subst hb
   exact H.near a ha _ hx
 · rw [List.getElem?_append_left hal,hx] at hc
   cases hc
   rcases List.mem_append.1 hp with hp | hp
   · exact H.near p hp _ hx
   · rw [List.mem_singleton] at hp;subst hp;exact Nat.le_refl _
 · rcases hold i p hp with hp | ⟨rfl,rfl⟩
   · rcases H.par i p hp with e | ⟨j,a,b,e,c,hd⟩
     · exact .inl e
     · exact .inr ⟨j,a,b,e,List.mem_append_left _ c,hd⟩
   · exact .inr ⟨k,h2,hk,d,by rw [flipL_flipL (by rw [h1.1];exact hk)];exact List.mem_append_left _ hxm,rfl⟩
 · rcases hold i p hp with hp2 | ⟨rfl,rfl⟩
   · by_cases e:i=at_∧j=k
     · obtain ⟨rfl,rfl⟩:=e
       rw [hx] at hp2
       cases hp2
       exact ⟨d+1,by simp,Nat.le_refl _⟩
     · obtain ⟨e,a,b⟩:=H.done i p hp2 j h2' hj (by omega)
       exact ⟨e,List.mem_append_left _ a,b⟩
   · omega
 · rcases hold i p hp with hp | ⟨rfl,rfl⟩
   · exact H.bd i p hp
   · have:=H.bd _ _ hx;simp only at this ⊢;omega
 · rcases List.mem_append.1 hp with hp | hp
   · rw [updF,if_neg (hnew p hp)];exact H.fok p hp
   · rw [List.mem_singleton] at hp;subst hp;rw [updF,if_pos rfl]
 · unfold updF at hq
   split at hq
   · rename_i e
     exact ⟨(flipL x k,d+1),by simp,e⟩
   · obtain ⟨p,hp,e⟩:=H.fin q v hq
     exact ⟨p,List.mem_append_left _ hp,e⟩
theorem Bfs.step (H:Bfs n at_ k T f) (hk:n < k) (hat:at_ < T.length):Bfs n (at_+1) 2 T f:=by
 refine ⟨H.perm,H.nodup,H.first,H.mono,fun p hp c hc=>?_,H.par,fun i p hp j h2 hj h=>H.done i p hp j h2 hj (by omega),H.bd,H.fok,H.fin⟩
 have h1:=H.near p hp _ (List.getElem?_eq_getElem hat)
 obtain ⟨hl,e⟩:=List.getElem?_eq_some_iff.1 hc
 have h2:=List.pairwise_iff_getElem.1 H.mono at_ (at_+1) hat hl (by omega)
 rw [e] at h2
 omega
theorem Bfs.dist (H:Bfs n at_ 2 T f) (hat:T.length≤at_) (hn:n≤6):∃ D,Dist n D∧∀ xs,PermN n xs→f (keyN xs)=some (D xs:Int):=by
 have hall:∀ xs,PermN n xs→∃ (i d:Nat),T[i]?=some (xs,d):=fun xs h=>by
  refine PermN.all (fun xs=>∃ (i d:Nat),T[i]?=some (xs,d)) ⟨0,0,H.first⟩ (fun xs k hp ⟨i,d,hi⟩ h2 hk=>?_) xs h
  have:=(List.getElem?_eq_some_iff.1 hi).1
  obtain ⟨e,he,_⟩:=H.done i _ hi k h2 hk (by omega)
  obtain ⟨j,hj,hje⟩:=List.getElem_of_mem he
  exact ⟨j,e,by rw [List.getElem?_eq_getElem hj,hje]⟩
 have hD:∀ (i:Nat) (xs:List Int) (d:Nat),T[i]?=some (xs,d)→((f (keyN xs)).getD 0).toNat=d:=fun i xs d hi=>by
  rw [H.fok _ (List.mem_of_getElem? hi)];simp
 have hDm:∀ (xs:List Int) (d:Nat),(xs,d)∈T→((f (keyN xs)).getD 0).toNat=d:=fun xs d hi=>by rw [H.fok _ hi];simp
 refine ⟨fun xs=>((f (keyN xs)).getD 0).toNat,⟨hD 0 _ _ H.first,fun xs h hne=>?_,fun xs k h h2 hk=>?_,fun xs h hne=>?_,fun xs h=>?_⟩,fun xs h=>?_⟩
 · obtain ⟨i,d,hi⟩:=hall xs h
   simp only [hD i xs d hi]
   rcases H.par i _ hi with rfl | ⟨j,_,_,e,_,he⟩
   · rw [H.first] at hi;cases hi;exact absurd rfl hne
   · simp only at he;omega
 · obtain ⟨i,d,hi⟩:=hall xs h
   have hil:=(List.getElem?_eq_some_iff.1 hi).1
   obtain ⟨e,he,hle⟩:=H.done i _ hi k h2 hk (by omega)
   simp only [hD i xs d hi,hDm _ _ he]
   exact hle
 · obtain ⟨i,d,hi⟩:=hall xs h
   rcases H.par i _ hi with rfl | ⟨j,h2,hj,e,hm,he⟩
   · rw [H.first] at hi;cases hi;exact absurd rfl hne
   · refine ⟨j,h2,hj,?_⟩
     simp only [hD i xs d hi,hDm _ _ hm]
     exact he.symm
 · obtain ⟨i,d,hi⟩:=hall xs h
   have hil:=(List.getElem?_eq_some_iff.1 hi).1
   have h1:d≤i:=H.bd i _ hi
   have h2:=H.len hn
   show ((f (keyN xs)).getD 0).toNat < 1000000
   rw [hD i xs d hi]
   omega
 · obtain ⟨i,d,hi⟩:=hall xs h
   have h1:f (keyN xs)=some (d:Int):=H.fok _ (List.mem_of_getElem? hi)
   simp only [hD i xs d hi]
   exact h1
end
end
theorem idL_stairs (n:Nat):stairs n=idL n:=rfl
theorem Own2.map {w w':World} {EO E B T g n:Nat} {v:Value} {xss:List (List Int)} {f:Int→Option Int} (h:Own2 w EO E B T v xss) (hm:MapF w g n f) (hg:w.grownBy w' (some g)):Own2 w' EO E B T v xss:=by
 obtain ⟨rows,h1,h2,h3⟩:=h
 refine ⟨rows,h1.apart hg fun k hk e=>hm.ne h1 (by rw [hk,e]),h2,h3.grown hg fun r hr k hk e=>?_⟩
 obtain ⟨i,hi,rfl⟩:=List.getElem_of_mem hr
 obtain ⟨xs,_,h4⟩:=h3.row (List.getElem?_eq_getElem hi)
 exact hm.ne h4 (by rw [hk,e])
def RetDist (n:Nat) (w:World) (e:Ending) (w':World):Prop :=
 ∃ (g m:Nat) (f:Int→Option Int) (D:List Int→Nat),e=.returned (.map (some g))∧MapF w' g m f∧Dist n D∧(∀ xs,PermN n xs→f (keyN xs)=some (D xs:Int))∧w.heap.size≤g∧Below w.heap.size w w'
theorem i_distances (n:Nat) (w:World) (hn:n≤6):Calls Tryz.prog 84 #[.int .i64 (n:Int)] w (RetDist n w):=by
 have HW:=Lib.hid (i_wires n w (by omega))
 have hkey0:I64 ((keyN (idL n):Nat):Int):=by
  have h1:=(keyN_lt (idL n) ((PermN.idL n).small hn)).1
  rw [(PermN.idL n).1] at h1
  have : 8 ^ n≤8 ^ 6:=Nat.pow_le_pow_right (by omega) hn
  unfold I64
  omega
 have HK:=Lib.hid (fun (v:Value) (xs:List Int) (W:World) (h:Rd W v (ints xs)) (hp:PermN n xs)=>i_key v xs W h (by rw [hp.1];exact hn) (hp.small hn))
 have HI0:Hid (PermN n (idL n)):=PermN.idL n
 have hmm:=@run_makeMap Tryz.prog
 go_enter Tryz.func84,Tryz.ntmps84
 go_upto_region 2 with (go_at_call 138;refine HW.out.mono ?_;rintro e w1 ⟨v1,rfl,ho1,hb1⟩;rw [idL_stairs] at ho1)
 have hM0:=MapF.made w1
 have hbA:Below w1.heap.size w1 (w1.alloc (.map #[] 0)):=(Below.refl _ _).alloc (Nat.le_refl _) _
 obtain ⟨w2,hput,hM2,hg2⟩:=hM0.put (by omega) hkey0 (v:=0) (by unfold I64;omega)
 have hoA:=ho1.below hbA
 obtain ⟨a1,n1,c1,rfl,HN1,_,_⟩:=ho1.rd.formN
 go_upto_region 3 with (go_at_call 86;refine (HK.out _ _ _ hoA.rd HI0.out).mono ?_;rintro e w' ⟨rfl,rfl⟩)
 have hb2:Below w.heap.size w w2:=(hb1.trans (hbA.mono hb1.size)).grown hg2 (by have:=hb1.size;simp;omega) fun r hr=>by cases hr;exact hb1.size
 have hs2:=hb2.size
 have ho2:Own w2 3 w.heap.size (.slice a1 n1 c1) (ints (idL n)):=hoA.apart hg2 fun k hk e=>hM0.ne hoA (by rw [hk,e])
 have hgl:w1.heap.size < w2.heap.size:=hM2.lt
 obtain ⟨g,hge⟩:∃ g,w1.heap.size=g:=⟨_,rfl⟩
 have hgw:w.heap.size≤g:=by rw [←hge];exact hb1.size
 rw [hge] at hM2 hg2 hgl ⊢
 have hbB:Below w2.heap.size w2 (w2.alloc (.cells #[.slice a1 n1 c1] 23)):=(Below.refl _ _).alloc (Nat.le_refl _) _
 have hO2:Own2 (w2.alloc (.cells #[.slice a1 n1 c1] 23)) 23 3 w.heap.size (w2.alloc (.cells #[.slice a1 n1 c1] 23)).heap.size (.slice (some ⟨w2.heap.size,0,none⟩) 1 1) [idL n]:=by
  have h1:=Own.lit w2 23 w.heap.size #[.slice a1 n1 c1] hs2 (by simp)
  have h2:=RowsOwn.snoc (RowsOwn.nil (w2.alloc (.cells #[.slice a1 n1 c1] 23)) 3 w.heap.size w.heap.size) (T':=(w2.alloc (.cells #[.slice a1 n1 c1] 23)).heap.size) (ho2.below hbB) (fun k hk=>by
   have h3:=ho2.lt k hk
   simp
   omega) (by simp;omega)
  exact ⟨_,h1,fun k hk=>(h1.lt k hk).2,h2⟩
 have hM3:=hM2.below hbB
 have hb3:=hb2.trans (hbB.mono hs2)
 have HB0:Hid (Bfs n 0 2 [(idL n,0)] (updF (fun _=>none) (keyN (idL n)) 0)):=Bfs.start n
 clear hM0 hbA hoA hb1 ho1 hM2 hg2 hgl hb2 ho2 hbB hput hmm hge hs2
 go_wp2
 go_loopg [5,6] 600000 (fun g_ vo av wr=>∃ (at_:Nat) (T:List (List Int × Nat)) (f:Int→Option Int) (m:Nat),g_=600000 - at_∧at_≤T.length∧av=.int .i64 at_∧Hid (Bfs n at_ 2 T f)∧MapF wr g m f∧m≤T.length∧Own2 wr 23 3 w.heap.size wr.heap.size vo (T.map Prod.fst)∧Below w.heap.size w wr)
 case atStart=>exact ⟨0,_,_,1,rfl,Nat.zero_le _,rfl,HB0,hM3,Nat.le_refl _,hO2,hb3⟩
 case round =>
  clear HB0 hM3 hO2 hb3
  obtain ⟨at_,T,f,m,hg_,hat,rfl,HB,hM,hm,ho,hb⟩:=hrel
  have hTl:=HB.out.len hn
  obtain ⟨ao,co,rfl,hlo,_⟩:=ho.form
  rw [List.length_map] at ho hlo ⊢
  obtain ⟨L,hL⟩:∃ L,T.length=L:=⟨_,rfl⟩
  have HL:=Lib.hid hL
  rw [hL] at hat hm ho hTl hlo ⊢
  clear hL
  by_cases hlt:at_ < L
  · go_wp2
    go_loopg [5,7] (n+1) (fun gk vo kv wr=>∃ (k:Nat) (T:List (List Int × Nat)) (f:Int→Option Int) (m:Nat),gk=n+3 - k∧2≤k∧(k≤n+1∨k=2)∧at_ < T.length∧kv=.int .i64 k∧Hid (Bfs n at_ k T f)∧MapF wr g m f∧m≤T.length∧Own2 wr 23 3 w.heap.size wr.heap.size vo (T.map Prod.fst)∧Below w.heap.size w wr)
    case atStart=>exact ⟨2,T,f,m,by omega,Nat.le_refl _,.inr rfl,by rw [HL.out];exact hlt,rfl,HB,hM,by rw [HL.out];exact hm,ho,hb⟩
    case round =>
     clear HB hM hm ho hb HL hTl hlo hat hlt
     obtain ⟨k,T,f,m,hgk,hk2,hkn,hat,rfl,HB,hM,hm,ho,hb⟩:=hrel
     have hTl:=HB.out.len hn
     obtain ⟨ao,co,rfl,hlo,_⟩:=ho.form
     rw [List.length_map] at ho hlo ⊢
     by_cases hk:k≤n
     · obtain ⟨ado,br,mr,cr,xs,rfl,hcr,HXS,HMX,hmcr,hcr9,hrr⟩:=ho.rd.row (k:=at_) (by rw [List.length_map];exact hat)
       obtain ⟨x,d,hxd⟩:∃ x d,T[at_]?=some (x,d):=⟨_,_,List.getElem?_eq_getElem hat⟩
       obtain rfl:xs=x:=by have:=HXS.out;rw [List.getElem?_map,hxd] at this;exact (Option.some.inj this).symm
       have hp:=HB.out.perm _ (List.mem_of_getElem? hxd)
       have HXD:=Lib.hid hxd
       have HP:=Lib.hid hp
       have HPF:Hid (PermN n (flipL xs k)):=hp.flip
       have HF:=Lib.hid (fun (W:World) (hW:Below wr.heap.size wr W)=>i_flip _ xs k W (hrr.keep fun p hp _=>hW.cell hp) (by rw [hp.1];omega) (by rw [hp.1];exact hk) (by rw [hp.1];omega))
       have hqk:I64 ((keyN (flipL xs k):Nat):Int):=by
        have h1:=(keyN_lt (flipL xs k) (hp.flip.small hn)).1
        rw [hp.flip.1] at h1
        have : 8 ^ n≤8 ^ 6:=Nat.pow_le_pow_right (by omega) hn
        unfold I64
        omega
       obtain ⟨L,hL⟩:∃ L,T.length=L:=⟨_,rfl⟩
       have HL:=Lib.hid hL
       rw [hL] at hat hm ho hTl hlo ⊢
       clear hL hxd hp
       go_upto_region 11 with (go_at_call 87;refine (HF.out _ (Below.refl _ _)).mono ?_;rintro e w8 ⟨v8,rfl,ho8,hb8⟩;obtain ⟨a8,n8,c8,rfl,HN8,_,_⟩:=ho8.rd.formN)
       have hM8:=hM.below hb8
       have hlk:=hM8.lookOk hqk
       cases hf:f ((keyN (flipL xs k):Nat):Int) with
       | some v =>
         rw [hf] at hlk
         have HB2:=Lib.hid (HB.out.old hn HXD.out hf)
         clear hf
         go_wp2_with (go_at_call 86;refine (HK.out _ _ _ ho8.rd HPF.out).mono ?_;rintro e w' ⟨rfl,rfl⟩)
         go_roundg (n+3 - (k+1))
         case measure=>omega
         case rel=>exact ⟨k+1,T,f,m,rfl,by omega,.inl (by omega),by rw [HL.out];exact hat,by go_num,HB2,hM8,by rw [HL.out];exact hm,(ho.below hb8).mono (Nat.le_refl _) hb8.size,hb.trans (hb8.mono hb.size)⟩
       | none =>
         rw [hf] at hlk
         have HB2:=Lib.hid (HB.out.new HXD.out hk2 hk hf)
         clear hf
         go_upto_region 13 with (go_at_call 86;refine (HK.out _ _ _ ho8.rd HPF.out).mono ?_;rintro e w' ⟨rfl,rfl⟩)
         have hrr8:=hrr.below hb8
         have hcr8:=(hb8.cell (World.block_lt_of_cell? _ _ hcr)).trans hcr
         have hqx:I64 ((keyN xs:Nat):Int):=by
          have h1:=(keyN_lt xs (HP.out.small hn)).1
          rw [HP.out.1] at h1
          have : 8 ^ n≤8 ^ 6:=Nat.pow_le_pow_right (by omega) hn
          unfold I64
          omega
         have hdl:d < 1000000:=by have:=HB.out.bd _ _ HXD.out;simp only at this;omega
         have hfx:f ((keyN xs:Nat):Int)=some (d:Int):=HB.out.fok _ (List.mem_of_getElem? HXD.out)
         have hl0:=hM8.look hqx
         rw [hfx] at hl0
         have hMD:MapF w8.drew g m f:=hM8.below ((Below.refl _ _).drew)
         have hl1:=hMD.look hqx
         rw [hfx] at hl1
         obtain ⟨w9,hput9,hM9,hg9⟩:=hMD.put (by omega) hqk (v:=((d+1:Nat):Int)) (by unfold I64;omega)
         have ed:IntKind.i64.wrap ((d:Int)+1)=((d+1:Nat):Int):=by rw [IntKind.wrap_i64];omega
         rw [←ed] at hput9
         simp only [Option.getD_some] at hl0 hl1
         have i2:(at_:Int) < (L:Int):=by omega
         have HKN:Hid (∀ W:World,W.heap=w8.heap→Calls Tryz.prog 86 #[.slice a8 n8 c8] W fun e w'=>e=.returned (.int .i64 ((keyN (flipL xs k):Nat):Int))∧W=w'):=fun W hW=>HK.out _ _ W (ho8.rd.keep fun p _ _=>World.cell?_of_block (w:=w8) (by rw [hW])) HPF.out
         have HKX:Hid (∀ W:World,W.heap=w8.heap→Calls Tryz.prog 86 #[.slice br mr cr] W fun e w'=>e=.returned (.int .i64 ((keyN xs:Nat):Int))∧W=w'):=fun W hW=>HK.out _ _ W (hrr8.keep fun p _ _=>World.cell?_of_block (w:=w8) (by rw [hW])) HP.out
         clear hfx ed hlk
         go_region_with (first
          | (go_at_call 86;(with_reducible refine (HKN.out _ ?_).mono ?_);(focus rfl);rintro e w' ⟨rfl,rfl⟩)
          | (go_at_call 86;(with_reducible refine (HKX.out _ ?_).mono ?_);(focus rfl);rintro e w' ⟨rfl,rfl⟩))
         all_goals
          have hbd9:Below w.heap.size w w9:=((hb.trans (hb8.mono hb.size)).drew).grown hg9 (by have:=hb.size;have:=hb8.size;simp;omega) fun r hr=>by cases hr;exact hgw
          have hO9:=Own2.map (w:=w8.drew) ((ho.below hb8).below ((Below.refl _ _).drew)) hMD hg9
          have hr9:Own w9 3 wr.heap.size (.slice a8 n8 c8) (ints (flipL xs k)):=(Own.drew ho8).apart hg9 fun q h1 h2=>hMD.ne (Own.drew ho8) (by rw [h1,h2])
          have hs89:wr.heap.size≤w9.heap.size:=by have:=hb8.size;have:=hg9.size;simp at this;omega
          obtain ⟨rows,hov,hTT,hrows⟩:=hO9
          have hsw9:=hbd9.size
          have hswr:=hb.size
          have HRL:Hid (rows.length=L):=by rw [Hid,hrows.1,List.length_map,HL.out]
          clear hrr hcr hM ho hb hb8 hM8 hMD hrr8 hcr8 hl0 hl1 hput9
          go_wp2_with (at_builtin;(refine wpList_app1m rfl _ _ 28 rfl elII ?_ hov ?_ ?_ hsw9 L HRL.out (by omega) (by omega) ?_);(focus exact rfl);(focus (simp [Act.eval]));(focus exact rfl);intro bn cn' w10 ho10 hg10 hat10)
          have hO10:=Own2.app (hrows.snoc (hr9.mono hswr) (fun q hq=>hr9.lt q hq) hs89) hov (by decide) hg10 ho10 hg10.size
          have hM10:=hM9.kept hg10 (fun e=>hM9.ne hov e.symm)
          have hb10:=hbd9.grown hg10 hsw9 fun r hr=>(hov.lt r hr).1
          go_roundg (n+3 - (k+1))
          case measure=>omega
          case rel=>exact ⟨k+1,_,_,m+1,rfl,by omega,.inl (by omega),by rw [List.length_append,HL.out];omega,by go_num,HB2,hM10,by rw [List.length_append,HL.out];simp;omega,by rw [List.map_append];exact hO10,hb10⟩
     · have HB2:=Lib.hid (HB.out.step (by omega) hat)
       have HAT:=Lib.hid hat
       obtain ⟨L,hL⟩:∃ L,T.length=L:=⟨_,rfl⟩
       have HL:=Lib.hid hL
       rw [hL] at hat hm ho hTl hlo ⊢
       clear hL
       go_wp2
       go_roundg (600000 - (at_+1))
       case measure=>omega
       case rel=>exact ⟨at_+1,T,f,m,rfl,HAT.out,by go_num,HB2,hM,by rw [HL.out];exact hm,ho,hb⟩
  · have HD:=HB.out.dist (by rw [HL.out];omega) hn
    obtain ⟨D,hD,hDf⟩:=HD
    have HD1:=Lib.hid hD
    have HD2:=Lib.hid hDf
    clear hD hDf
    go_wp2
    go_ret
    exact ⟨g,m,f,D,rfl,hM,HD1.out,HD2.out,hgw,hb⟩
section
variable {n:Nat} {D:List Int→Nat}
theorem Dist.back' (H:Dist n D) {xs:List Int} {k:Nat} (h:PermN n xs) (hk:k≤n):D xs≤D (flipL xs k)+1:=by
 by_cases h2:2≤k
 · exact H.back h h2 hk
 · rw [flipL_one (by omega)];omega
theorem Dist.bound (H:Dist n D):∀ m,m≤n→∀ xs,PermN n xs→(∀ i,m≤i→i < n→xs[i]?=Option.some (i:Int))→D xs≤2 * m
 | 0,_,xs,h,hi=>by
   have : xs=idL n:=PermN.eq_of_get h.1 (by simp [idL]) fun i h2=>by rw [hi i (Nat.zero_le _) h2,idL_get h2]
   rw [this,H.zero]
   omega
 | m+1,hm,xs,h,hi=>by
   obtain ⟨p,hp,hpx⟩:=h.at (v:=m) (by omega)
   have hpm:p≤m:=by
    by_cases e:p≤m
    · exact e
    · have:=hi p (by omega) hp
      rw [hpx] at this
      injection this with this
      omega
   have h1:PermN n (flipL xs (p+1)):=h.flip
   have h2:PermN n (flipL (flipL xs (p+1)) (m+1)):=h1.flip
   have hT2:=H.bound m (by omega) _ h2 fun i hmi hin=>by
    by_cases e:i=m
    · subst e
      rw [flipL_lo (by rw [h1.1];omega) (by omega),flipL_lo (by rw [h.1];omega) (by omega)]
      have : p+1 - 1 - (i+1 - 1 - i)=p:=by omega
      rw [this]
      exact hpx
    · rw [flipL_hi (by rw [h1.1];omega) (by omega),flipL_hi (by rw [h.1];omega) (by omega)]
      exact hi i (by omega) hin
   have h3:=H.back' h (k:=p+1) (by omega)
   have h4:=H.back' h1 (k:=m+1) (by omega)
   omega
theorem Dist.len (H:Dist n D) {xs:List Int} (h:PermN n xs):D xs≤2 * n:=H.bound n (Nat.le_refl _) xs h fun i h1 h2=>by omega
theorem Dist.best_bd (H:Dist n D) {xs:List Int} (h:PermN n xs):(bestL xs).length≤2 * n∧∀ y∈bestL xs,2≤y∧y≤(n:Int):=by
 obtain ⟨l,hl,hll,hx⟩:=H.found _ xs h rfl
 rw [H.best h hl,hll]
 exact ⟨H.len h,hx⟩
end
theorem i_BestFlips (v:Value) (xs:List Int) (w:World) (h:Rd w v (ints xs)) (hs:sixB xs=true):Calls Tryz.prog 28 #[v] w fun e w'=>RetOwnB 3 (ints (bestL xs)) true w e w'∧(bestL xs).length≤12∧∀ y∈bestL xs,2≤y∧y≤6:=by
 have HS:=Lib.hid (hs ▸ i_isSix v xs w h)
 obtain ⟨h6,hp0⟩:=sixB_perm hs
 obtain ⟨a,c,rfl,hnc,hc⟩:=h.formi
 obtain ⟨n,hn⟩:∃ n,xs.length=n:=⟨_,rfl⟩
 rw [hn] at hp0 h6 hnc
 have HN:=Lib.hid hn
 have HP0:=Lib.hid hp0
 have HCL:=Lib.hid (fun (W:World) (hW:Below w.heap.size w W)=>f_Clone _ xs W (h.below hW) (by omega))
 have HDI:=Lib.hid (fun (W:World)=>i_distances n W h6)
 have HK:=Lib.hid (fun (v:Value) (ys:List Int) (W:World) (h:Rd W v (ints ys)) (hp:PermN n ys)=>i_key v ys W h (by rw [hp.1];exact h6) (hp.small h6))
 have HKQ:Hid (∀ ys,PermN n ys→I64 ((keyN ys:Nat):Int)):=fun ys hp=>by
  have h1:=(keyN_lt ys (hp.small h6)).1
  rw [hp.1] at h1
  have : 8 ^ n≤8 ^ 6:=Nat.pow_le_pow_right (by omega) h6
  unfold I64
  omega
 rw [hn] at HCL HS ⊢
 have HBST:Hid (∀ D,Dist n D→∃ l,findE (D xs+1) xs=some l∧l.length=D xs∧bestL xs=[]++l):=fun D hD=>by
  obtain ⟨l0,hl0,hll0,_⟩:=hD.found _ xs hp0 rfl
  exact ⟨l0,hl0,hll0,hD.best hp0 hl0⟩
 have HBBD:Hid (∀ D,Dist n D→(bestL xs).length≤2 * n∧∀ y∈bestL xs,2≤y∧y≤(n:Int)):=fun D hD=>hD.best_bd hp0
 generalize bestL xs=BL at HBST HBBD ⊢
 clear hn hp0
 go_enter Tryz.func28,Tryz.ntmps28
 go_upto_region 6 with (first
  | (go_at_call 83;refine HS.out.mono ?_;rintro e w1 ⟨rfl,hb1⟩)
  | (go_at_call 84;refine (HDI.out _).mono ?_;rintro e w2 ⟨g,m,f,D,rfl,hM,hD,hDf,hg2,hb2⟩;have HD:=Lib.hid hD;have HDf:=Lib.hid hDf;clear hD hDf;have hb12:=hb1.trans (hb2.mono hb1.size);have hA:Below w2.heap.size w2 (w2.alloc (.cells #[] 3)):=(Below.refl _ _).alloc (Nat.le_refl _) _;have hlit:=Own.lit0 w2 3 (Nat.le_refl _);have hbA:=hb12.trans (hA.mono hb12.size))
  | (go_at_call 85;refine (HCL.out _ hbA).mono ?_;rintro e w3 ⟨v3,rfl,ho3,hb3⟩))
 have hO:OwnsL w3 3 w.heap.size [(.slice (some ⟨w2.heap.size,0,none⟩) 0 0,[]),(v3,xs)]:=by
  have h1:=OwnsL.snoc (OwnsL.nil w2 3 w.heap.size) hA hb12.size hlit
  have h2:=h1.snoc hb3 hbA.size ho3
  simpa using h2
 have hb:=hbA.trans (hb3.mono hbA.size)
 have hM3:=(hM.below hA).below hb3
 have hgw:w.heap.size≤g:=Nat.le_trans hb1.size hg2
 have HL0:=Lib.hid (HBST.out D HD.out)
 have HBB:=Lib.hid (HBBD.out D HD.out)
 have hDx:=HD.out.len HP0.out
 clear hA hlit hbA ho3 hb3 hb1 hb2 hb12 hM hg2 HBST HBBD
 go_wp2
 go_loopg [5,6] (D xs) (fun g_ vo vl wr=>∃ (O L:List Int),g_=D L∧O.length+D L≤12∧PermN n L∧Hid (∃ l,findE (D L+1) L=some l∧l.length=D L∧BL=O++l)∧OwnsL wr 3 w.heap.size [(vo,O),(vl,L)]∧MapF wr g m f∧Below w.heap.size w wr)
 case atStart=>exact ⟨[],xs,rfl,by simp;omega,HP0.out,HL0,hO,hM3,hb⟩
 case round =>
  clear hO hb hM3 HL0
  obtain ⟨O,L,hg_,hOl,hp,HL,hO,hM,hb⟩:=hrel
  obtain ⟨wo,rfl⟩:∃ wo:World,wo=wr:=⟨_,rfl⟩
  have HP:=Lib.hid hp
  have hqL:=HKQ.out L hp
  have hlk:=hM.look hqL
  rw [HDf.out L hp] at hlk
  simp only [Option.getD_some] at hlk
  have HKL:=Lib.hid (HK.out _ L wo hO.o1.rd hp)
  dsimp only at HKL
  obtain ⟨d,hd⟩:∃ d,D L=d:=⟨_,rfl⟩
  rw [hd] at hlk hOl HL hg_
  have HDL:=Lib.hid hd
  by_cases hd0:d=0
  · have HE:Hid (BL=O):=by
     obtain ⟨l,_,hll,e⟩:=HL.out
     have : l=[]:=List.length_eq_zero_iff.1 (by omega)
     rw [Hid,e,this,List.append_nil]
    have i1:¬ ((d:Int) > 0):=by omega
    obtain ⟨al,nl,cl,rfl,HNL,_,_⟩:=hO.o1.rd.formN
    have ho:=hO.o0
    dsimp only at ho
    clear hd hp
    go_wp2_with (go_at_call 86;refine HKL.out.mono ?_;rintro e w' ⟨rfl,rfl⟩)
    go_ret2
    refine ⟨⟨_,rfl,by rw [HE.out];exact ho,hb⟩,?_,fun y hy=>?_⟩
    · have:=HBB.out.1;omega
    · have:=HBB.out.2 y hy;omega
  · have i1:0 < d:=by omega
    have hne:L≠idL n:=fun e=>by rw [e,HD.out.zero] at hd;omega
    have HLE:=Lib.hid (HD.out.least hp hne)
    obtain ⟨al,nl,cl,rfl,HNL,_,_⟩:=hO.o1.rd.formN
    replace HNL:Hid (nl=L.length):=HNL.out
    obtain ⟨ao,no,co,rfl,HNO0,_,_⟩:=hO.o0.rd.formN
    replace HNO0:Hid (no=O.length):=HNO0.out
    have hnl:n=nl:=by rw [HNL.out,hp.1]
    subst hnl
    have hn1:1≤n:=by
     obtain ⟨k,h2,hk,_⟩:=HLE.out
     omega
    have HFL:=Lib.hid (fun (W:World) (hW:Rd W (.slice al n cl) (ints L)) (k:Nat) (hk:k≤n)=>i_flip _ L k W hW (by rw [HP.out.1];omega) (by rw [HP.out.1];exact hk) (by rw [HP.out.1];omega))
    clear hd hne hp hd0
    go_wp2_with (go_at_call 86;refine HKL.out.mono ?_;rintro e w' ⟨rfl,rfl⟩)
    clear hlk
    clear HKL
    go_loopg [5,6,26] (n+1) (fun gk ov lv kv wr=>∃ k:Nat,gk=n+1 - k∧k≤n+1∧ov=.slice ao no co∧lv=.slice al n cl∧kv=.int .i64 k∧Hid (∀ j,j < k→¬ D (flipL L j) < D L)∧Below wo.heap.size wo wr)
    case atStart=>exact ⟨0,rfl,Nat.zero_le _,rfl,rfl,rfl,fun j hj=>by omega,Below.refl _ _⟩
    case round =>
     obtain ⟨k,hgk,hkn,rfl,rfl,rfl,HNO,hbk⟩:=hrel
     by_cases hlt:k < n+1
     · have hkl:k≤n:=by omega
       have HPF:Hid (PermN n (flipL L k)):=HP.out.flip
       have hrl:Rd wr (.slice al n cl) (ints L):=by have:=hO.o1.rd;dsimp only at this;exact this.keep fun p hp _=>hbk.cell hp
       have hMk:=hM.below hbk
       go_upto_region 11 with (go_at_call 87;refine (HFL.out _ hrl k hkl).mono ?_;rintro e w8 ⟨v8,rfl,ho8,hb8⟩;obtain ⟨a8,n8,c8,rfl,HN8,_,_⟩:=ho8.rd.formN)
       have hM8:=hMk.below hb8
       have hrl8:=hrl.below hb8
       have hl0:=hM8.look hqL
       have hl1:=hM8.look (HKQ.out _ HPF.out)
       rw [HDf.out L HP.out,HDL.out] at hl0
       rw [HDf.out _ HPF.out] at hl1
       have hMD:MapF w8.drew g m f:=hM8.below ((Below.refl _ _).drew)
       have hl2:=hMD.look hqL
       have hl3:=hMD.look (HKQ.out _ HPF.out)
       rw [HDf.out L HP.out,HDL.out] at hl2
       rw [HDf.out _ HPF.out] at hl3
       simp only [Option.getD_some] at hl0 hl1 hl2 hl3
       have HKN:Hid (∀ W:World,W.heap=w8.heap→Calls Tryz.prog 86 #[.slice a8 n8 c8] W fun e w'=>e=.returned (.int .i64 ((keyN (flipL L k):Nat):Int))∧W=w'):=fun W hW=>HK.out _ _ W (ho8.rd.keep fun p _ _=>World.cell?_of_block (w:=w8) (by rw [hW])) HPF.out
       have HKX:Hid (∀ W:World,W.heap=w8.heap→Calls Tryz.prog 86 #[.slice al n cl] W fun e w'=>e=.returned (.int .i64 ((keyN L:Nat):Int))∧W=w'):=fun W hW=>HK.out _ _ W (hrl8.keep fun p _ _=>World.cell?_of_block (w:=w8) (by rw [hW])) HP.out
       have hbk8:=hbk.trans (hb8.mono hbk.size)
       have HDK:Hid (D (flipL L k)=D (flipL L k)):=rfl
       by_cases hless:D (flipL L k) < d
       · have HK2:Hid (2≤k):=by
          rw [Hid]
          by_cases h2:2≤k
          · exact h2
          · rw [flipL_one (by omega),HDL.out] at hless;omega
         have HNX:Hid (∃ l,findE (D (flipL L k)+1) (flipL L k)=some l∧l.length=D (flipL L k)∧BL=(O++[(k:Int)])++l):=by
          obtain ⟨l,hl,hll,_⟩:=HD.out.found _ _ HPF.out rfl
          obtain ⟨l2,hl2,_,he⟩:=HL.out
          have h1:=HD.out.some HP.out HK2.out hkl (by rw [HDL.out];exact hless) HNO.out hl
          rw [HDL.out,hl2] at h1
          injection h1 with h1
          exact ⟨l,hl,hll,by rw [he,h1,List.append_assoc];rfl⟩
         have dl:decide (((D (flipL L k):Nat):Int) < (d:Int))=true:=by simpa using hless
         have hO8:=OwnsL.fresh (L1:=[(Value.slice ao no co,O)]) (L2:=[]) (hO.below hbk) hb8 (Nat.le_trans hb.size hbk.size) ho8
         simp only [List.singleton_append,List.cons_append,List.nil_append] at hO8
         have hbD:Below w.heap.size w w8.drew:=(hb.trans (hbk8.mono hb.size)).drew
         have hOD:OwnsL w8.drew 3 w.heap.size [(.slice ao no co,O),(.slice a8 n8 c8,flipL L k)]:=hO8.below ((Below.refl _ _).drew)
         have hsD:=hbD.size
         have hno:no≤12:=by have:=HNO0.out;omega
         have HLO:Hid ((ints O).length=no):=by rw [Hid,ints_length,HNO0.out]
         have hk12:(O++[(k:Int)]).length+D (flipL L k)≤12:=by simp;omega
         go_region_with (first
          | (go_at_call 86;(with_reducible refine (HKN.out _ ?_).mono ?_);(focus rfl);rintro e w' ⟨rfl,rfl⟩)
          | (go_at_call 86;(with_reducible refine (HKX.out _ ?_).mono ?_);(focus rfl);rintro e w' ⟨rfl,rfl⟩))
         all_goals
          clear hl0 hl1 hl2 hl3 hrl hrl8 hM8 hMk hO8
          go_wp2_with (at_builtin;(refine wpList_app1m rfl _ _ 23 rfl elI ?_ hOD.o0 ?_ ?_ hsD no HLO.out (by omega) (by omega) ?_);(focus exact rfl);(focus (simp [Act.eval]));(focus exact rfl);intro b9 c9 w9 ho9 hg9 hat9)
          have hO9:=hOD.t0 hg9 (ys:=O++[(k:Int)]) (by rw [ints_append];exact ho9) (hat_of hat9)
          have hM9:=hMD.kept hg9 (fun e=>hMD.ne hOD.o0 e.symm)
          have hb9:=hbD.grown hg9 hsD (fun r hr=>(hOD.o0.lt r hr).1)
          go_roundg (D (flipL L k))
          case measure=>omega
          case rel=>exact ⟨O++[(k:Int)],flipL L k,rfl,hk12,HPF.out,HNX,hO9,hM9,hb9⟩
       · have dl:decide (((D (flipL L k):Nat):Int) < (d:Int))=false:=by simpa using hless
         have HNO2:Hid (∀ j,j < k+1→¬ D (flipL L j) < D L):=fun j hj=>by
          by_cases e:j=k
          · subst e;rw [HDL.out];exact hless
          · exact HNO.out j (by omega)
         have hbk9:Below wo.heap.size wo w8.drew:=hbk8.drew
         go_region_with (first
          | (go_at_call 86;(with_reducible refine (HKN.out _ ?_).mono ?_);(focus rfl);rintro e w' ⟨rfl,rfl⟩)
          | (go_at_call 86;(with_reducible refine (HKX.out _ ?_).mono ?_);(focus rfl);rintro e w' ⟨rfl,rfl⟩))
         all_goals
          clear hl0 hl1 hl2 hl3 hrl hrl8 hM8 hMk
          go_wp2_with fail
          go_roundg (n+1 - (k+1))
          case measure=>omega
          case rel=>exact ⟨k+1,rfl,by omega,rfl,rfl,by go_num,HNO2,hbk9⟩
     · obtain ⟨q,_,hqn,hql,_⟩:=HLE.out
       exact absurd hql (HNO.out q (by omega))
theorem Bfs.row {n at_ k:Nat} {T:List (List Int × Nat)} {f:Int→Option Int} (H:Bfs n at_ k T f) (hn:n≤6) (h2:2≤k) (hat:at_ < T.length):∀ m,m=n+1 - k→∃ T' f',Bfs n at_ (n+1+(k - (n+1))) T' f'∧at_ < T'.length:=by
 intro m
 induction m generalizing k T f with
 | zero =>
   intro hm
   exact ⟨T,f,by rw [show n+1+(k - (n+1))=k by omega];exact H,hat⟩
 | succ m ih =>
   intro hm
   obtain ⟨x,d,hxd⟩:∃ x d,T[at_]?=some (x,d):=⟨_,_,List.getElem?_eq_getElem hat⟩
   cases hf:f (keyN (flipL x k)) with
   | some v =>
     obtain ⟨T',f',h1,h3⟩:=ih (H.old hn hxd hf) (by omega) hat (by omega)
     exact ⟨T',f',by rw [show n+1+(k - (n+1))=n+1+(k+1 - (n+1)) by omega];exact h1,h3⟩
   | none =>
     obtain ⟨T',f',h1,h3⟩:=ih (H.new hxd h2 (by omega) hf) (by omega) (by rw [List.length_append];omega) (by omega)
     exact ⟨T',f',by rw [show n+1+(k - (n+1))=n+1+(k+1 - (n+1)) by omega];exact h1,h3⟩
theorem dist_ex (n:Nat) (hn:n≤6):∃ D,Dist n D:=by
 have go:∀ m at_ T f,Bfs n at_ 2 T f→m=600000 - at_→at_≤T.length→∃ D,Dist n D:=by
  intro m
  induction m with
  | zero =>
    intro at_ T f H hm hat
    have:=H.len hn
    omega
  | succ m ih =>
    intro at_ T f H hm hat
    by_cases h:at_ < T.length
    · obtain ⟨T',f',h1,h3⟩:=H.row hn (Nat.le_refl 2) h _ rfl
      exact ih (at_+1) T' f' (h1.step (by omega) h3) (by omega) h3
    · obtain ⟨D,hD,_⟩:=H.dist (by omega) hn
      exact ⟨D,hD⟩
 exact go _ 0 _ _ (Bfs.start n) rfl (Nat.zero_le _)
def RetNo (w:World) (e:Ending) (w':World):Prop:=∃ v,e=.returned (.tuple #[v,.bool false])∧Below w.heap.size w w'
theorem i_BestFlipsNo (v:Value) (xs:List Int) (w:World) (h:Rd w v (ints xs)) (hs:sixB xs=false):Calls Tryz.prog 28 #[v] w (RetNo w):=by
 have HS:=Lib.hid (hs ▸ i_isSix v xs w h)
 obtain ⟨a,n,c,rfl,HN,hnc,hc⟩:=h.formN
 clear hs
 go_enter Tryz.func28,Tryz.ntmps28
 go_wp2_with (go_at_call 83;refine HS.out.mono ?_;rintro e w1 ⟨rfl,hb1⟩)
 go_ret2
 exact ⟨_,rfl,hb1⟩
def flipLine (xs:List Int):List UInt8 :=
 if shortB xs then (if sixB xs then [103,114,101,101,100,121,32]++numsB (grL xs)++[32,98,101,115,116,32]++numsB (bestL xs) else [103,114,101,101,100,121,32]++numsB (grL xs)) else [110,111,110,101]
theorem grL_bd {xs:List Int} (h:shortB xs=true):I64s (grL xs)∧(grL xs).length≤20:=by
 obtain ⟨h8,hor⟩:=shortB_iff.1 h
 obtain ⟨_,h2,h3⟩:=grK_inv (n:=xs.length) ⟨rfl,hor⟩ (xs.length - 1) (Nat.le_refl _)
 exact ⟨fun y hy=>by have:=h3 y hy;unfold I64;omega,by rw [grL];omega⟩
theorem bestL_bd {xs:List Int} (h:sixB xs=true):I64s (bestL xs)∧(bestL xs).length≤20:=by
 obtain ⟨h6,hp⟩:=sixB_perm h
 obtain ⟨D,hD⟩:=dist_ex xs.length h6
 obtain ⟨h1,h2⟩:=hD.best_bd hp
 exact ⟨fun y hy=>by have:=h2 y hy;unfold I64;omega,by omega⟩
theorem I_FlipLine (w:World) (v:Value) (xs:List Int) (h:Rd w v (ints xs)) (_:I64s xs) (_:xs.length≤1048576) (ht:Tab w):Calls Tryz.prog 34 #[v] w (RetB (.string (bstr (flipLine xs))) w):=by
 have HO:=i_isShortOrder v xs w h
 cases hs:shortB xs
 · rw [hs] at HO
   have HR:Hid (flipLine xs=[110,111,110,101]):=by rw [Hid,flipLine,hs];rfl
   have HOK:=Lib.hid HO
   obtain ⟨a,n,c,rfl,HN,hnc,hc⟩:=h.formN
   generalize flipLine xs=R at HR ⊢
   clear HO hs
   go_enter Tryz.func34,Tryz.ntmps34
   go_wp2_with (go_at_call 81;refine HOK.out.mono ?_;rintro e w' ⟨rfl,hb1⟩)
   go_ret
   exact ⟨by rw [HR.out];rfl,hb1⟩
 rw [hs] at HO
 have HOK:=Lib.hid HO
 obtain ⟨hfi,hfl⟩:=grL_bd hs
 have HGR:=Lib.hid (fun (W:World) (hW:Below w.heap.size w W)=>i_GreedyFlips v xs W (h.below hW) hs)
 have HRX:Hid (flipLine xs=if sixB xs then [103,114,101,101,100,121,32]++numsB (grL xs)++[32,98,101,115,116,32]++numsB (bestL xs) else [103,114,101,101,100,121,32]++numsB (grL xs)):=by rw [Hid,flipLine,if_pos hs]
 generalize grL xs=fs at HGR hfi hfl HRX
 have hzn:=numsB_le hfi hfl
 have HFN:=Lib.hid (fun (W:World) (u:Value) (hu:Rd W u (ints fs)) (hW:Tab W)=>i_numbers W u _ hu hfi (by omega) hW)
 obtain ⟨F,hF⟩:∃ F,numsB fs=F:=⟨_,rfl⟩
 rw [hF] at HFN hzn HRX
 have GL1:=Lib.hid (fun W=>i_line2 [103,114,101,101,100,121] F (by simp) (by omega) W)
 have hL1n:([103,114,101,101,100,121]++[32]++F:List UInt8).length≤3000:=by simp;omega
 have HRY:Hid ([103,114,101,101,100,121,32]++F=[103,114,101,101,100,121]++[32]++F):=by simp [Hid]
 rw [HRY.out] at HRX
 generalize [103,114,101,101,100,121]++[32]++F=L1 at GL1 HRX hL1n
 have K1:Hid (∀ W:World,Calls Tryz.prog 61 #[.slice (some ⟨W.heap.size,0,none⟩) 2 2] (W.alloc (.cells #[.string ⟨#[103,114,101,101,100,121]⟩,.string (bstr F)] 9)) fun e w'=>e=.returned (.string (bstr L1))∧Below W.heap.size W w'):=fun W=>GL1.out W
 cases h6:sixB xs
 · have HBF:=Lib.hid (fun (W:World) (hW:Below w.heap.size w W)=>i_BestFlipsNo v xs W (h.below hW) h6)
   have HR1:Hid (flipLine xs=L1):=by rw [Hid,HRX.out,h6];rfl
   obtain ⟨a,n,c,rfl,HN,hnc,hc⟩:=h.formN
   generalize flipLine xs=R at HR1 ⊢
   clear HO hs h hzn hfi hfl hF HRX HRY h6 GL1 hL1n
   go_enter Tryz.func34,Tryz.ntmps34
   go_wp2_with (first
    | (go_at_call 81;refine HOK.out.mono ?_;rintro e w' ⟨rfl,hb1⟩)
    | (go_at_call 35;refine (HGR.out _ hb1).mono ?_;rintro e w2 ⟨v2,rfl,ho2,hb2⟩;have hb2':=hb1.trans (hb2.mono hb1.size))
    | (go_at_call 46;refine (HFN.out _ _ ho2.rd (ht.below hb2')).mono ?_;rintro e w3 ⟨rfl,hb3⟩;have hb3':=hb2'.trans (hb3.mono hb2'.size))
    | (go_at_call 61;(with_reducible refine (K1.out w3).mono ?_);rintro e w4 ⟨rfl,hb4⟩;have hb4':=hb3'.trans (hb4.mono hb3'.size))
    | (go_at_call 28;refine (HBF.out _ hb4').mono ?_;rintro e w5 ⟨v5,rfl,hb5⟩;have hb5':=hb4'.trans (hb5.mono hb4'.size)))
   go_ret
   exact ⟨by rw [HR1.out];rfl,hb5'⟩
 · obtain ⟨hbi,hbl⟩:=bestL_bd h6
   have HBF:=Lib.hid (fun (W:World) (hW:Below w.heap.size w W)=>(i_BestFlips v xs W (h.below hW) h6).mono fun e w' h=>h.1)
   generalize bestL xs=bl at HBF hbi hbl HRX
   have hzb:=numsB_le hbi hbl
   have HFB:=Lib.hid (fun (W:World) (u:Value) (hu:Rd W u (ints bl)) (hW:Tab W)=>i_numbers W u _ hu hbi (by omega) hW)
   obtain ⟨B,hB⟩:∃ B,numsB bl=B:=⟨_,rfl⟩
   rw [hB] at HFB hzb HRX
   have GL3:=Lib.hid (fun W=>i_line3 L1 [98,101,115,116] B (by omega) (by simp) (by omega) W)
   have HR1:Hid (flipLine xs=L1++[32]++[98,101,115,116]++[32]++B):=by rw [Hid,HRX.out,h6];simp
   generalize L1++[32]++[98,101,115,116]++[32]++B=R3 at GL3 HR1
   have K3:Hid (∀ W:World,Calls Tryz.prog 61 #[.slice (some ⟨W.heap.size,0,none⟩) 3 3] (W.alloc (.cells #[.string (bstr L1),.string ⟨#[98,101,115,116]⟩,.string (bstr B)] 9)) fun e w'=>e=.returned (.string (bstr R3))∧Below W.heap.size W w'):=fun W=>GL3.out W
   obtain ⟨a,n,c,rfl,HN,hnc,hc⟩:=h.formN
   generalize flipLine xs=R at HR1 ⊢
   clear HO hs h hzn hfi hfl hF HRX HRY h6 GL1 hL1n hzb hbi hbl hB GL3
   go_enter Tryz.func34,Tryz.ntmps34
   go_upto_region 4 with (first
    | (go_at_call 81;refine HOK.out.mono ?_;rintro e w' ⟨rfl,hb1⟩)
    | (go_at_call 35;refine (HGR.out _ hb1).mono ?_;rintro e w2 ⟨v2,rfl,ho2,hb2⟩;have hb2':=hb1.trans (hb2.mono hb1.size))
    | (go_at_call 46;refine (HFN.out _ _ ho2.rd (ht.below hb2')).mono ?_;rintro e w3 ⟨rfl,hb3⟩;have hb3':=hb2'.trans (hb3.mono hb2'.size))
    | (go_at_call 61;(with_reducible refine (K1.out w3).mono ?_);rintro e w4 ⟨rfl,hb4⟩;have hb4':=hb3'.trans (hb4.mono hb3'.size)))
   go_wp2_with (first
    | (go_at_call 28;refine (HBF.out _ hb4').mono ?_;rintro e w5 ⟨v5,rfl,ho5,hb5⟩;have hb5':=hb4'.trans (hb5.mono hb4'.size))
    | (go_at_call 46;refine (HFB.out _ _ ho5.rd (ht.below hb5')).mono ?_;rintro e w6 ⟨rfl,hb6⟩;have hb6':=hb5'.trans (hb6.mono hb5'.size))
    | (go_at_call 61;(with_reducible refine (K3.out w6).mono ?_);rintro e w7 ⟨rfl,hb7⟩;have hb7':=hb6'.trans (hb7.mono hb6'.size)))
   go_ret
   exact ⟨by rw [HR1.out];rfl,hb7'⟩
end Go.Proofs.YtggblfnajeikjaaGreatDoor
