/- Joined texts of the proof: Cheap, CheapS, CheapI, MergeLineJ. -/
import Derived.Deep.AppendLies
import Derived.Test.YtggblfnajeikjaaGreatDoorJ18
import Derived.Test.YtggblfnajeikjaaGreatDoorJ20
import Derived.Test.YtggblfnajeikjaaGreatDoorJ36
namespace Go.Proofs.YtggblfnajeikjaaGreatDoor
open Go.RowKit
set_option linter.unusedVariables false
set_option linter.unusedSimpArgs false
set_option maxRecDepth 100000
set_option maxHeartbeats 16000000
theorem tot_erase:∀ {mss:List (List Int)} {k:Nat} {ms:List Int},mss[k]?=some ms→tot (mss.eraseIdx k)+ms.length=tot mss
 | x :: t,0,ms,h=>by simp at h;subst h;simp [tot];omega
 | x :: t,k+1,ms,h=>by
   have:=tot_erase (mss:=t) (k:=k) (ms:=ms) (by simpa using h)
   simp only [List.eraseIdx_cons_succ,tot,List.foldr_cons] at this ⊢
   omega
structure MemAt (w:World) (B N:Nat) (vs:List Value) (mss:List (List Int)):Prop where
 len:vs.length=mss.length
 own:∀ (k:Nat) (u:Value) (ms:List Int),vs[k]?=some u→mss[k]?=some ms→Own w 3 B u (ints ms)
 rng:∀ ms∈mss,∀ x∈ms,0≤x∧x < (N:Int)
 few:Go.Proofs.YtggblfnajeikjaaGreatDoor.tot mss≤N
section
variable {w w':World} {B N:Nat} {vs:List Value} {mss:List (List Int)}
theorem MemAt.nil (w:World) (B N:Nat):MemAt w B N [] []:=⟨rfl,fun k u ms h=>by simp at h,fun ms h=>by simp at h,Nat.zero_le _⟩
theorem MemAt.get (h:MemAt w B N vs mss) {k:Nat} {u:Value} (hu:vs[k]?=some u):∃ ms,mss[k]?=some ms∧Own w 3 B u (ints ms)∧(∀ x∈ms,0≤x∧x < (N:Int))∧ms.length≤tot mss:=by
 have hk:=(List.getElem?_eq_some_iff.1 hu).1
 have hkm:k < mss.length:=by rw [←h.len];exact hk
 have hm:mss[k]?=some mss[k]:=List.getElem?_eq_getElem (show k < mss.length by rw [←h.len];exact hk)
 exact ⟨_,hm,h.own k u _ hu hm,h.rng _ (List.mem_of_getElem? hm),tot_mem (List.mem_of_getElem? hm)⟩
theorem MemAt.mem (h:MemAt w B N vs mss) {u:Value} (hu:u∈vs):∃ ms,Own w 3 B u (ints ms):=by
 obtain ⟨k,hk,rfl⟩:=List.getElem_of_mem hu
 obtain ⟨ms,_,ho,_⟩:=h.get (List.getElem?_eq_getElem hk)
 exact ⟨ms,ho⟩
theorem MemAt.keep (h:MemAt w B N vs mss) (hk:∀ u∈vs,∀ b,u.ownBlock=some b→w'.heap[b]?=w.heap[b]?):MemAt w' B N vs mss :=
 ⟨h.len,fun k u ms hu hm=>(h.own k u ms hu hm).keep fun b _ e=>hk u (List.mem_of_getElem? hu) b e.symm,h.rng,h.few⟩
theorem MemAt.below (h:MemAt w B N vs mss) (hb:Below w.heap.size w w'):MemAt w' B N vs mss:=h.keep fun u hu b e=>by
 obtain ⟨ms,ho⟩:=h.mem hu
 exact hb.block b (ho.lt b e).2
theorem MemAt.fr {K:Nat→Prop} (h:MemAt w B N vs mss) (hf:Fr K w w') (hk:∀ u∈vs,∀ b,u.ownBlock=some b→K b):MemAt w' B N vs mss:=h.keep fun u hu b e=>hf.block b (hk u hu b e)
theorem MemAt.erase (h:MemAt w B N vs mss) (k:Nat):MemAt w B N (vs.eraseIdx k) (mss.eraseIdx k):=by
 have hl:=h.len
 refine ⟨by rw [List.length_eraseIdx,List.length_eraseIdx,hl],fun j u ms hu hm=>?_,fun ms hm=>h.rng ms (List.mem_of_mem_eraseIdx hm),?_⟩
 · rw [List.getElem?_eraseIdx] at hu hm
   split at hu
   · rename_i e;rw [if_pos e] at hm;exact h.own _ _ _ hu hm
   · rename_i e;rw [if_neg e] at hm;exact h.own _ _ _ hu hm
 · by_cases e:k < mss.length
   · have:=tot_erase (List.getElem?_eq_getElem e);have:=h.few;omega
   · rw [List.eraseIdx_of_length_le (by omega)];exact h.few
theorem MemAt.snoc (h:MemAt w B N vs mss) {u:Value} {ms:List Int} (ho:Own w 3 B u (ints ms)) (hr:∀ x∈ms,0≤x∧x < (N:Int)) (ht:Go.Proofs.YtggblfnajeikjaaGreatDoor.tot mss+ms.length≤N):MemAt w B N (vs++[u]) (mss++[ms]):=by
 have hl:=h.len
 refine ⟨by simp [hl],fun k v xs hv hx=>?_,fun xs hx=>?_,by rw [tot_append,tot_one];exact ht⟩
 · by_cases e:k < vs.length
   · rw [List.getElem?_append_left e] at hv
     rw [List.getElem?_append_left (by omega)] at hx
     exact h.own _ _ _ hv hx
   · have hk:=(List.getElem?_eq_some_iff.1 hv).1
     simp at hk
     obtain rfl:k=vs.length:=by omega
     rw [List.getElem?_append_right (by omega)] at hv hx
     simp [hl] at hv hx
     subst hv;subst hx
     exact ho
 · rcases List.mem_append.1 hx with hx | hx
   · exact h.rng xs hx
   · rw [List.mem_singleton] at hx;subst hx;exact hr
end
section
variable {w w1:World} {br g n cap:Nat} {cur:Array Value} {ws:List Int} {vs:List Value}
theorem RunsAt.owns (H:RunsAt w br g n cap cur ws vs):w.ownsRow 0 123 2 (.slice (some ⟨g,0,none⟩) n cap) n (cur.toList.take (n * 2)):=by
 have h1:=H.size
 have h2:=H.le
 exact ⟨by simp;omega,.inr ⟨g,cap,cur,rfl,Nat.zero_le _,H.row,H.le,by have:=H.capLe;simpa only [maxLen] using this,H.size,rfl⟩⟩
theorem RunsAt.app {g1 cap1:Nat} {x:Int} {ua:Option Addr} {um uc:Nat} (H:RunsAt w br g n cap cur ws vs) (hne:br≠g)
 (ho:w1.ownsRow 0 123 2 (.slice (some ⟨g1,0,none⟩) (n+1) cap1) (n+1) (cur.toList.take (n * 2)++[.int .i64 x,.slice ua um uc])) (hg:w.grownBy w1 (some g)) (hat:some g=some g1∨g1=w.heap.size) :
 br≠g1∧(∃ cur1,RunsAt (w1.setCell ⟨br,0,none⟩ (.slice (some ⟨g1,0,none⟩) (n+1) cap1)) br g1 (n+1) cap1 cur1 (ws++[x]) (vs++[.slice ua um uc])) ∧
  Fr (fun k=>k < w.heap.size∧k≠br∧k≠g) w (w1.setCell ⟨br,0,none⟩ (.slice (some ⟨g1,0,none⟩) (n+1) cap1)):=by
 have hbr:br < w.heap.size:=(Array.getElem?_eq_some_iff.1 H.box).1
 have hne1:br≠g1:=by
  rcases hat with e | e
  · injection e with e;omega
  · omega
 have hbx:w1.heap[br]?=_:=(hg.block br hbr fun e=>hne (by injection e)).trans H.box
 have hs:=H.size
 have hle:=H.le
 have hwl:=H.wl
 have hvl:=H.vl
 refine ⟨hne1,?_,hg.os,hg.tape,hg.output,by simpa using hg.size,fun k ⟨hk,h1,h2⟩=>?_⟩
 · obtain ⟨_,h0 | ⟨g2,cap2,cur2,hv,_,hrow,hn2,hc2,hsz2,htk⟩⟩:=ho
   · exact absurd h0.2 (by omega)
   · simp only [Value.slice.injEq,Option.some.injEq,Addr.mk.injEq] at hv
     obtain ⟨⟨rfl,_⟩,_,rfl⟩:=hv
     have hlt:(cur.toList.take (n * 2)).length=n * 2:=by simp;omega
     have hget:∀ j,j < (n+1) * 2→cur2[j]?=if j < n * 2 then cur[j]? else [Value.int .i64 x,.slice ua um uc][j - n * 2]?:=fun j hj=>by
      rw [←Array.getElem?_toList,←List.getElem?_take_of_lt hj,htk]
      by_cases e:j < n * 2
      · rw [if_pos e,List.getElem?_append_left (by omega),List.getElem?_take_of_lt e,Array.getElem?_toList]
      · rw [if_neg e,List.getElem?_append_right (by omega),hlt]
     refine ⟨cur2,heap_setCell_same w1 br 0 _ _ _ hbx,(heap_setCell_other w1 _ g1 _ (fun e=>hne1 e.symm)).trans hrow,hsz2,hn2,by simpa only [maxLen] using hc2,by simp [hwl],by simp [hvl],fun k y hk=>?_,fun k u hk=>?_,fun k u hk=>?_⟩
     · have hkl:=(List.getElem?_eq_some_iff.1 hk).1
       simp [hwl] at hkl
       rw [hget _ (by omega)]
       by_cases e:k < n
       · rw [List.getElem?_append_left (by omega)] at hk
         rw [if_pos (by omega)];exact H.wc _ _ hk
       · obtain rfl:k=n:=by omega
         rw [List.getElem?_append_right (by omega)] at hk
         simp [hwl] at hk
         subst hk
         rw [if_neg (by omega)];simp
     · have hkl:=(List.getElem?_eq_some_iff.1 hk).1
       simp [hvl] at hkl
       rw [hget _ (by omega)]
       by_cases e:k < n
       · rw [List.getElem?_append_left (by omega)] at hk
         rw [if_pos (by omega)];exact H.vc _ _ hk
       · obtain rfl:k=n:=by omega
         rw [List.getElem?_append_right (by omega)] at hk
         simp [hvl] at hk
         subst hk
         rw [if_neg (by omega),show k * 2+1 - k * 2=1 by omega];rfl
     · rcases List.mem_append.1 (List.mem_of_getElem? hk) with h | h
       · obtain ⟨j,hj,rfl⟩:=List.getElem_of_mem h
         exact H.sl j _ (List.getElem?_eq_getElem hj)
       · rw [List.mem_singleton] at h;exact ⟨_,_,_,h⟩
 · exact (heap_setCell_other w1 _ k _ h1).trans (hg.block k hk fun e=>h2 (by injection e))
end
structure ChSt (w wr:World) (br g m cap n:Nat) (cur:Array Value) (ws:List Int) (vs:List Value) (mss:List (List Int)) (vd:Value) (ds:List Int):Prop where
 runs:RunsAt wr br g m cap cur ws vs
 ne:br≠g
 brb:w.heap.size≤br
 gb:w.heap.size≤g
 mem:MemAt wr w.heap.size n vs mss
 dep:Own wr 3 w.heap.size vd (ints ds)
 ap:∀ u∈vs,∀ b,u.ownBlock=some b→vd.ownBlock≠some b
 bel:Below w.heap.size w wr
structure MsAt (w wr:World) (n:Nat) (vd u:Value) (ms:List Int):Prop where
 own:Own wr 3 w.heap.size u (ints ms)
 rng:∀ x∈ms,0≤x∧x < (n:Int)
 ap:∀ b,u.ownBlock=some b→vd.ownBlock≠some b
section
variable {w wr w':World} {br g m cap n:Nat} {cur cur':Array Value} {ws:List Int} {vs:List Value} {mss:List (List Int)} {vd u v:Value} {ds ms:List Int}
theorem MsAt.below (h:MsAt w wr n vd u ms) (hb:Below wr.heap.size wr w'):MsAt w w' n vd u ms:=⟨h.own.below hb,h.rng,h.ap⟩
theorem MsAt.keep (h:MsAt w wr n vd u ms) (hb:∀ b,u.ownBlock=some b→w'.heap[b]?=wr.heap[b]?):MsAt w w' n vd u ms:=⟨h.own.keep fun k _ e=>hb k e.symm,h.rng,h.ap⟩
theorem ChSt.below (h:ChSt w wr br g m cap n cur ws vs mss vd ds) (hb:Below wr.heap.size wr w'):ChSt w w' br g m cap n cur ws vs mss vd ds :=
 ⟨h.runs.below hb,h.ne,h.brb,h.gb,h.mem.below hb,h.dep.below hb,h.ap,h.bel.trans (hb.mono h.bel.size)⟩
theorem ChSt.far (h:ChSt w wr br g m cap n cur ws vs mss vd ds) {B:Nat} {ys:List Int} (ho:Own wr 3 B u (ints ys)):∀ b,u.ownBlock=some b→b < wr.heap.size∧b≠br∧b≠g:=fun b hb =>
 ⟨(ho.lt b hb).2,fun e=>own_ne_box ho h.runs.box (by decide) (e ▸ hb),fun e=>own_ne_box ho h.runs.row (by decide) (e ▸ hb)⟩
theorem ChSt.took (h:ChSt w wr br g m cap n cur ws vs mss vd ds) (hu:vs[minI ws]?=some u) (hr:RunsAt w' br g (m - 1) cap cur' (restL ws) (vs.eraseIdx (minI ws))) (hf:Fr (fun k=>k < wr.heap.size∧k≠br∧k≠g) wr w') :
 ∃ ms,mss[minI ws]?=some ms∧tot (mss.eraseIdx (minI ws))+ms.length=tot mss∧ChSt w w' br g (m - 1) cap n cur' (restL ws) (vs.eraseIdx (minI ws)) (mss.eraseIdx (minI ws)) vd ds∧MsAt w w' n vd u ms:=by
 obtain ⟨ms,hm,ho,hrg,hl⟩:=h.mem.get hu
 have hfar:∀ x∈vs,∀ b,x.ownBlock=some b→b < wr.heap.size∧b≠br∧b≠g:=fun x hx b hb=>by
  obtain ⟨ys,hy⟩:=h.mem.mem hx
  exact h.far hy b hb
 have hbel:Below w.heap.size w w':=⟨hf.os.trans h.bel.os,hf.tape.trans h.bel.tape,hf.output.trans h.bel.output,Nat.le_trans h.bel.size hf.size,fun k hk=>(hf.block k ⟨by have:=h.bel.size;omega,by have:=h.brb;omega,by have:=h.gb;omega⟩).trans (h.bel.block k hk)⟩
 refine ⟨ms,hm,tot_erase hm,⟨hr,h.ne,h.brb,h.gb,(h.mem.fr hf hfar).erase _,h.dep.keep fun k _ e=>hf.block k (h.far h.dep k e.symm),fun x hx=>h.ap x (List.mem_of_mem_eraseIdx hx),hbel⟩,?_⟩
 exact ⟨ho.keep fun k _ e=>hf.block k (hfar u (List.mem_of_getElem? hu) k e.symm),hrg,h.ap u (List.mem_of_getElem? hu)⟩
theorem ChSt.kept (h:ChSt w wr br g m cap n cur ws vs mss vd ds) (hm:MsAt w wr n vd v ms) (hf:Fr (fun k=>k < wr.heap.size∧k≠br∧k≠g) wr w'):MsAt w w' n vd v ms :=
 hm.keep fun b hb=>hf.block b (h.far hm.own b hb)
theorem ChSt.app {w1:World} {g1 cap1 um uc:Nat} {ua:Option Addr} {x:Int} (h:ChSt w wr br g m cap n cur ws vs mss vd ds) (hu:MsAt w wr n vd (.slice ua um uc) ms) (ht:tot mss+ms.length≤n)
 (ho:w1.ownsRow 0 123 2 (.slice (some ⟨g1,0,none⟩) (m+1) cap1) (m+1) (cur.toList.take (m * 2)++[.int .i64 x,.slice ua um uc])) (hg:wr.grownBy w1 (some g)) (hat:some g=some g1∨g1=wr.heap.size) :
 ∃ cur1,ChSt w (w1.setCell ⟨br,0,none⟩ (.slice (some ⟨g1,0,none⟩) (m+1) cap1)) br g1 (m+1) cap1 n cur1 (ws++[x]) (vs++[.slice ua um uc]) (mss++[ms]) vd ds:=by
 obtain ⟨h1,⟨cur1,h2⟩,h3⟩:=h.runs.app h.ne ho hg hat
 have hfar:∀ x∈vs,∀ b,x.ownBlock=some b→b < wr.heap.size∧b≠br∧b≠g:=fun x hx b hb=>by
  obtain ⟨ys,hy⟩:=h.mem.mem hx
  exact h.far hy b hb
 have hbel:Below w.heap.size w (w1.setCell ⟨br,0,none⟩ (.slice (some ⟨g1,0,none⟩) (m+1) cap1)):=⟨h3.os.trans h.bel.os,h3.tape.trans h.bel.tape,h3.output.trans h.bel.output,Nat.le_trans h.bel.size h3.size,fun k hk=>(h3.block k ⟨by have:=h.bel.size;omega,by have:=h.brb;omega,by have:=h.gb;omega⟩).trans (h.bel.block k hk)⟩
 have hum:=h.kept hu h3
 refine ⟨cur1,h2,h1,h.brb,?_,(h.mem.fr h3 hfar).snoc hum.own hum.rng ht,h.dep.keep fun k _ e=>h3.block k (h.far h.dep k e.symm),fun y hy=>?_,hbel⟩
 · rcases hat with e | e
   · injection e with e;have:=h.gb;omega
   · have:=h.bel.size;omega
 · rcases List.mem_append.1 hy with hy | hy
   · exact h.ap y hy
   · rw [List.mem_singleton] at hy;subst hy;exact hu.ap
theorem ChSt.withd {b:Addr} (h:ChSt w wr br g m cap n cur ws vs mss vd ds) (hb:b.block=wr.heap.size) {ds':List Int} {dn dc:Nat} (ho:Own w' 3 wr.heap.size (.slice (some b) dn dc) (ints ds')) (hg:wr.grownBy w' none) :
 ChSt w w' br g m cap n cur ws vs mss (.slice (some b) dn dc) ds':=by
 have hbl:Below wr.heap.size wr w':=(Below.refl _ _).grown hg (Nat.le_refl _) (fun _ h=>by cases h)
 have h1:=h.below hbl
 refine ⟨h1.runs,h1.ne,h1.brb,h1.gb,h1.mem,ho.mono h.bel.size,fun u hu q hq e=>?_,h1.bel⟩
 obtain ⟨ys,hy⟩:=h.mem.mem hu
 have:=(h.far hy q hq).1
 simp only [Value.ownBlock,Option.some.injEq] at e
 omega
theorem ChSt.setd {ad:Addr} {dn dc k:Nat} (h:ChSt w wr br g m cap n cur ws vs mss (.slice (some ad) dn dc) ds) (hk:k < ds.length) (y:Int) :
 ChSt w (wr.setCell (ad.add k) (.int .i64 y)) br g m cap n cur ws vs mss (.slice (some ad) dn dc) (ds.set k y)∧∀ b,(Value.slice (some ad) dn dc).ownBlock≠some b→(wr.setCell (ad.add k) (.int .i64 y)).heap[b]?=wr.heap[b]?:=by
 have hb:∀ b,(Value.slice (some ad) dn dc).ownBlock≠some b→(wr.setCell (ad.add k) (.int .i64 y)).heap[b]?=wr.heap[b]?:=fun b hb=>heap_setCell_other wr _ b _ fun e=>hb (by rw [e,block_of_add];rfl)
 obtain ⟨h1,h2⟩:=h.dep.seti rfl hk y
 obtain ⟨_,hn1,hn2⟩:=h.far h.dep ad.block rfl
 have hbx:=(hb br (by intro e;injection e with e;exact hn1 e)).trans h.runs.box
 have hrw:=(hb g (by intro e;injection e with e;exact hn2 e)).trans h.runs.row
 refine ⟨⟨⟨hbx,hrw,h.runs.size,h.runs.le,h.runs.capLe,h.runs.wl,h.runs.vl,h.runs.wc,h.runs.vc,h.runs.sl⟩,h.ne,h.brb,h.gb,h.mem.keep fun u hu b e=>hb b (h.ap u hu b e),h1,h.ap,?_⟩,hb⟩
 exact h.dep.below_set rfl hk _ h.bel (Nat.le_refl _)
end
theorem RunsL.perm {S:Int} {a b:List Int} (h:RunsL S a) (hp:b.Perm a):RunsL S b:=⟨(sumL_perm hp).trans h.1,by rw [hp.length_eq];exact h.2.1,fun x hx=>h.2.2 x (hp.mem_iff.1 hx)⟩
theorem RunsL.take2 {S:Int} {ws:List Int} (h:RunsL S ws) (h2:1 < ws.length):1≤minV ws∧1≤minV (restL ws)∧minV ws+minV (restL ws)≤S∧RunsL S (restL (restL ws)++[minV ws+minV (restL ws)]):=by
 have hl:=restL_len (ws:=ws) (by omega)
 have p1:=restL_perm (ws:=ws) (by omega)
 have p2:=restL_perm (ws:=restL ws) (by omega)
 exact (h.perm ((p2.cons _).trans p1)).pair
theorem icL_step {C Z:Int} {ws:List Int} {m:Nat} (hm:m+1=ws.length) (h2:1 < ws.length) (h:C+icL (m+1) ws=Z):(C+(minV ws+minV (restL ws)))+icL m (restL (restL ws)++[minV ws+minV (restL ws)])=Z:=by
 rw [icL,if_pos h2] at h
 omega
theorem bcells {W w1:World} (hb:Below W.heap.size W w1):(∀ b o,b < W.heap.size→w1.cell? ⟨b,o,none⟩=W.cell? ⟨b,o,none⟩)∧(∀ b o,b < W.heap.size→w1.frozen? ⟨b,o,none⟩=W.frozen? ⟨b,o,none⟩) :=
 ⟨fun b o h=>hb.cell (p:=⟨b,o,none⟩) h,fun b o h=>hb.frozen (p:=⟨b,o,none⟩) h⟩
theorem hnew {w:World} {o:Obj} {n:Nat} (h:n=w.heap.size):(w.alloc o).heap[n]?=some o:=by subst h;exact heap_alloc_new w o
theorem hnewD {w:World} {o:Obj} {n:Nat} (h:n=w.heap.size):(w.alloc o).drew.heap[n]?=some o:=hnew h
theorem hnew2 {w:World} {o p:Obj} {n:Nat} (h:n=w.heap.size):((w.alloc o).alloc p).heap[n]?=some o:=by subst h;exact (Below.heap_alloc _ _ _ (by simp)).trans (heap_alloc_new w o)
theorem hnew2D {w:World} {o p:Obj} {n:Nat} (h:n=w.heap.size):((w.alloc o).alloc p).drew.heap[n]?=some o:=hnew2 h
theorem rd2_two {w:World} {q:Nat} {u1 u2:Value} {T:Nat} {xs ys:List Int} (hq:w.heap[q]?=some (.cells #[u1,u2] T (0,0))) (h1:Rd w u1 (ints xs)) (h2:Rd w u2 (ints ys)):Rd2 w (.slice (some ⟨q,0,none⟩) 2 2) [xs,ys]:=by
 refine ⟨[u1,u2],⟨some ⟨q,0,none⟩,2,rfl,by simp,by omega,fun _=>⟨_,rfl,fun j u hu=>?_⟩⟩,rfl,fun i r hr=>?_⟩
 · rw [Addr.add_lit,cell_of_row w q _ _ _ (0,0) hq]
   match j,hu with
   | 0,hu=>simpa using hu
   | 1,hu=>simpa using hu
 · match i,hr with
   | 0,hr=>simp at hr;subst hr;exact ⟨xs,rfl,h1⟩
   | 1,hr=>simp at hr;subst hr;exact ⟨ys,rfl,h2⟩
def RetCat (w5 W:World) (ms:List Int) (e:Ending) (w':World):Prop:=∃ (a3:Option Addr) (m3 c3:Nat),e=.returned (.slice a3 m3 c3)∧Own w' 3 W.heap.size (.slice a3 m3 c3) (ints ms)∧Below W.heap.size W w'∧Below w5.heap.size w5 w'
theorem i_cheapest (v:Value) (xs:List Int) (w:World) (h:Rd w v (ints xs)) (hs:lensB xs=true):Calls Tryz.prog 90 #[v] w (RetCh (cm xs) w):=by
 obtain ⟨hR,hS0,hS1⟩:=RunsL.of hs
 have HXB:=Lib.hid (lensB_iff.1 hs).2
 have HZ:Hid (icL xs.length xs=cm xs):=by rw [Hid,icL_cmL];rfl
 have h8x:=hR.2.1
 have HR:=Lib.hid hR
 generalize cm xs=Z at HZ ⊢
 generalize sumL xs=S at HR hS0 hS1
 obtain ⟨a,n,c,rfl,HN,hnc,hc⟩:=h.formN
 have h8:n≤8:=by have:=HN.out;omega
 obtain ⟨inf,hu,hinf,hz,hs2,hby⟩:=elRun
 have EL:Hid (Tryz.prog.underlying 121=some (.slice 123)∧Tryz.prog.info? 123=some inf∧inf.zero=some (.agg #[.int .i64 0,.slice none 0 0])∧inf.size=2∧inf.bytes=32):=⟨hu,hinf,hz,hs2,hby⟩
 obtain ⟨w0,hw0⟩:∃ w0,(w.alloc (.cells #[] 123)).alloc (.cells #[.slice (some ⟨w.heap.size,0,none⟩) 0 0] 121)=w0:=⟨_,rfl⟩
 have hb0:Below w.heap.size w w0:=by rw [←hw0];exact ((Below.refl _ _).alloc (Nat.le_refl _) _).alloc (by simp) _
 have HR0:RunsAt w0 (w.heap.size+1) w.heap.size 0 0 #[] [] []:=by
  rw [←hw0]
  refine ⟨by have:=heap_alloc_new (w.alloc (.cells #[] 123)) (.cells #[.slice (some ⟨w.heap.size,0,none⟩) 0 0] 121);simpa using this,(Below.heap_alloc _ _ _ (by simp)).trans (heap_alloc_new w _),rfl,Nat.le_refl _,by omega,rfl,rfl,fun k x h=>by simp at h,fun k x h=>by simp at h,fun k x h=>by simp at h⟩
 clear hR hs h8x hu hinf hz hs2 hby
 go_enter Tryz.func90,Tryz.ntmps90
 go_upto_region 2 with (fail)
 have HS0:ChSt w w0 (w.heap.size+1) w.heap.size 0 0 n #[] (xs.take 0) [] [] (.slice none 0 0) []:=⟨HR0,by omega,by omega,Nat.le_refl _,MemAt.nil _ _ _,Own.nil _ _ _,fun u hu=>by simp at hu,hb0⟩
 obtain ⟨br,hbr⟩:∃ br,w.heap.size+1=br:=⟨_,rfl⟩
 rw [hbr] at HS0 ⊢
 clear hbr HR0 hw0 hb0
 go_wp2_with fail
 go_loopg [18] n (fun gk iv wr=>∃ (k g cap:Nat) (cur:Array Value) (vs:List Value) (mss:List (List Int)),gk=n - k∧k≤n∧iv=.int .i64 k∧ChSt w wr br g k cap n cur (xs.take k) vs mss (.slice none 0 0) []∧Hid (tot mss=k))
 case atStart=>exact ⟨0,w.heap.size,0,#[],[],[],rfl,Nat.zero_le _,rfl,HS0,rfl⟩
 case round =>
  clear HS0
  obtain ⟨k,g,cap,cur,vs,mss,hg,hk,rfl,HS,HT⟩:=hrel
  by_cases hlt:k < n
  · obtain ⟨ad,x,rfl,hcx,hx⟩:=(h.below HS.bel).int (k:=k) (by have:=HN.out;omega)
    have c0:=HS.runs.bcell
    obtain ⟨W2,hW2⟩:∃ W2,(wr.alloc (.cells #[.int .i64 k] 3)).alloc (.cells #[.int .i64 x,.slice (some ⟨wr.heap.size,0,none⟩) 1 1] 123)=W2:=⟨_,rfl⟩
    have hbW:Below wr.heap.size wr W2:=by rw [←hW2];exact ((Below.refl _ _).alloc (Nat.le_refl _) _).alloc (by simp) _
    have HS2:=HS.below hbW
    have hO:=(Own.lit wr 3 (B:=w.heap.size) #[.int .i64 (k:Int)] HS.bel.size (by simp)).alloc (.cells #[.int .i64 x,.slice (some ⟨wr.heap.size,0,none⟩) 1 1] 123)
    rw [hW2] at hO
    have HM:MsAt w W2 n (.slice none 0 0) (.slice (some ⟨wr.heap.size,0,none⟩) 1 1) [(k:Int)]:=⟨hO,fun y hy=>by simp at hy;subst hy;omega,fun b _ e=>by cases e⟩
    have HNW:Hid (∀ j u,([.int .i64 x,.slice (some ⟨wr.heap.size,0,none⟩) 1 1]:List Value)[j]?=some u→W2.cell? ((⟨wr.heap.size+1,0,none⟩:Addr).add j)=some u):=by
     have:=World.news_of_block (w:=W2) (B:=wr.heap.size+1) (cs:=#[.int .i64 x,.slice (some ⟨wr.heap.size,0,none⟩) 1 1]) (t:=123) (fr:=(0,0)) (by rw [←hW2];have:=heap_alloc_new (wr.alloc (.cells #[.int .i64 k] 3)) (.cells #[.int .i64 x,.slice (some ⟨wr.heap.size,0,none⟩) 1 1] 123);simpa using this)
     exact this
    have HW2:=Lib.hid hW2
    have HSH:=Lib.hid HS2
    have HMH:=Lib.hid HM
    have hz2:W2.heap.size=wr.heap.size+1+1:=by rw [←hW2];simp
    have HZ2:=Lib.hid hz2
    have HXX:Hid (xs.take (k+1)=xs.take k++[x]):=take_snoc' hx.out
    have HOW:=Lib.hid HS2.runs.owns
    have HFIN:Hid (∀ (w1:World) (g1 cap1:Nat),w1.ownsRow 0 123 2 (.slice (some ⟨g1,0,none⟩) (k+1) cap1) (k+1) (cur.toList.take (k * 2)++[.int .i64 x,.slice (some ⟨wr.heap.size,0,none⟩) 1 1])→W2.grownBy w1 (some g)→(some g=some g1∨g1=W2.heap.size) →
     (∃ cur1,ChSt w (w1.setCell ⟨br,0,none⟩ (.slice (some ⟨g1,0,none⟩) (k+1) cap1)) br g1 (k+1) cap1 n cur1 (xs.take (k+1)) (vs++[.slice (some ⟨wr.heap.size,0,none⟩) 1 1]) (mss++[[(k:Int)]]) (.slice none 0 0) [])∧w1.cell? ⟨br,0,none⟩=some (.slice (some ⟨g,0,none⟩) k cap)∧w1.frozen? ⟨br,0,none⟩=false):=fun w1 g1 cap1 q1 q2 q3=>by
     have hbx:=(q2.block br (box_lt HS2.runs.box) fun e=>HS2.ne (by injection e)).trans HS2.runs.box
     refine ⟨?_,box_cell hbx 0,frozen_of_row w1 br 0 _ _ hbx⟩
     rw [HXX.out]
     exact HS2.app HM (by have:=HT.out;simp;omega) q1 q2 q3
    have HTT:Hid (tot (mss++[[(k:Int)]])=k+1):=by rw [Hid,tot_append,tot_one,HT.out];rfl
    clear hW2 HS2 HM hO hbW hz2 hx HS
    obtain ⟨e1,e2,e3,e4,e5⟩:=EL.out
    have E1:=Lib.hid e1
    have E2:=Lib.hid e2
    have E3:=Lib.hid e3
    have E4:=Lib.hid e4
    have E5:=Lib.hid e5
    clear e1 e2 e3 e4 e5
    go_wp2_with (at_builtin;rw [HW2.out];refine wpList_append_lies _ rfl _ _ _ rfl 0 123 inf (.agg #[.int .i64 0,.slice none 0 0]) 2 32 E1.out E2.out E3.out E4.out E5.out rfl (by omega) (.slice (some ⟨g,0,none⟩) k cap) k (cur.toList.take (k * 2)) rfl HOW.out ⟨wr.heap.size+1,0,none⟩ 1 1 [.int .i64 x,.slice (some ⟨wr.heap.size,0,none⟩) 1 1] rfl rfl HNW.out (by simp [Value.oneCell']) (by omega) (by simp only [maxLen];omega) (by omega) (Nat.zero_le _) _ rfl ?_;intro g1 cap1 w1 hown hgrow hat hlt1;obtain ⟨hA,hB,hC⟩:=HFIN.out w1 g1 cap1 hown hgrow hat;obtain ⟨cur1,hS1⟩:=hA;have HS1:=Lib.hid hS1;clear hS1 hown hgrow hat)
    go_roundg (n - (k+1))
    case measure=>omega
    case rel=>exact ⟨k+1,g1,cap1,cur1,_,_,rfl,hlt,by go_num,HS1.out,HTT.out⟩
  · obtain rfl:k=n:=by omega
    have HXT:Hid (xs.take k=xs):=by rw [Hid,HN.out];exact List.take_length
    rw [HXT.out] at HS
    have hsz:=HS.bel.size
    go_wp2_with (at_make;refine wpList_mk (n:=k) (B:=wr.heap.size) rfl _ _ 23 rfl elI rfl rfl (Nat.le_refl _) (by omega) (by omega) ?_;intro bD w2 hbD hoD hgD)
    have hoD2:Own w2 3 wr.heap.size (.slice (some bD) k k) (ints (List.replicate k 0)):=by simpa [ints] using hoD
    have HSD:=HS.withd hbD hoD2 hgD
    have HD0:Hid ((List.replicate k (0:Int)).length=k):=by rw [Hid,List.length_replicate]
    have HZ1:Hid ((0:Int)+icL k xs=Z):=by rw [Hid,←HZ.out,←HN.out];omega
    have h80:(0:Int)≤8000 * (8 - (k:Int)):=by omega
    clear hoD hoD2 hgD hsz HS HT h
    go_loopg [8] k (fun gk cv wr=>∃ (m g cap:Nat) (cur:Array Value) (ws:List Int) (vs:List Value) (mss:List (List Int)) (ds:List Int) (C:Int),gk=m∧m≤k∧cv=.int .i64 C∧0≤C∧C≤8000 * (8 - (m:Int))∧Hid (RunsL S ws)∧Hid (C+icL m ws=Z)∧Hid (ds.length=k)∧ChSt w wr br g m cap k cur ws vs mss (.slice (some bD) k k) ds)
    case atStart=>exact ⟨k,g,cap,cur,xs,vs,mss,_,0,rfl,Nat.le_refl _,rfl,by omega,h80,HR,HZ1,HD0,HSD⟩
    case round =>
     clear HSD HD0 HZ1 h80
     obtain ⟨m,g,cap,cur,ws,vs,mss,ds,C,hg,hm,rfl,hC0,hC1,HR,HZ,HDS,HS⟩:=hrel
     have c0:=HS.runs.bcell
     by_cases hlt:1 < m
     · have i1:(1:Int) < (m:Int):=by omega
       have HWL:Hid (m=ws.length):=HS.runs.wl.symm
       obtain ⟨hA1,hB1,hAB,hR2⟩:=HR.out.take2 (by have:=HWL.out;omega)
       obtain ⟨f,rfl⟩:∃ f,m=f+1:=⟨m - 1,by omega⟩
       have HZ2:=Lib.hid (icL_step (by have:=HWL.out;omega) (by have:=HWL.out;omega) HZ.out)
       have HR2:=Lib.hid hR2
       clear hR2 HZ
       go_wp2_with fail
       refine (i_takeRun br g (f+1) cap cur ws vs _ HS.runs (by omega) HS.ne).mono ?_
       rintro e w3 ⟨u1,cur1,rfl,hu1,hr1,hf1⟩
       obtain ⟨a1,um1,uc1,rfl⟩:=HS.runs.sl _ _ hu1
       obtain ⟨ms1,hm1,ht1,hS1,hM1⟩:=HS.took hu1 hr1 hf1
       have HT1:=Lib.hid ht1
       have HK:Hid (tot mss≤k):=HS.mem.few
       have hb4:Below w3.heap.size w3 (w3.alloc (.cells #[.int .i64 (minV ws),.slice a1 um1 uc1] 123)):=(Below.refl _ _).alloc (Nat.le_refl _) _
       have hS4:=hS1.below hb4
       have hM4:=hM1.below hb4
       have hx4:=heap_alloc_new w3 (.cells #[.int .i64 (minV ws),.slice a1 um1 uc1] 123 (0,0))
       obtain ⟨hbr3,hg3⟩:=(⟨box_lt hS1.runs.box,box_lt hS1.runs.row⟩:br < w3.heap.size∧g < w3.heap.size)
       have HF:Hid (∀ W:World,Fr (fun k=>k < (w3.alloc (.cells #[.int .i64 (minV ws),.slice a1 um1 uc1] 123)).heap.size∧k≠br∧k≠g) (w3.alloc (.cells #[.int .i64 (minV ws),.slice a1 um1 uc1] 123)) W→W.heap[w3.heap.size]?=some (.cells #[.int .i64 (minV ws),.slice a1 um1 uc1] 123 (0,0))∧MsAt w W k (.slice (some bD) k k) (.slice a1 um1 uc1) ms1∧w3.heap.size < W.heap.size):=fun W hf =>
        ⟨(hf.block _ ⟨by simp,by omega,by omega⟩).trans hx4,hS4.kept hM4 hf,by have:=hf.size;simp at this;omega⟩
       clear hS1 hM1 hu1 hr1 hf1 hm1 ht1 hx4 hM4 HS c0
       go_wp2_with fail
       refine (i_takeRun br g (f+1 - 1) cap cur1 (restL ws) (vs.eraseIdx (minI ws)) _ hS4.runs (by omega) hS4.ne).mono ?_
       rintro e w4 ⟨u2,cur2,rfl,hu2,hr2,hf2⟩
       obtain ⟨a2,um2,uc2,rfl⟩:=hS4.runs.sl _ _ hu2
       obtain ⟨ms2,hm2,ht2,hS5,hM5⟩:=hS4.took hu2 hr2 hf2
       obtain ⟨hxa,hMa,hza⟩:=HF.out _ hf2
       have HT2:=Lib.hid ht2
       have hb5:Below w4.heap.size w4 (w4.alloc (.cells #[.int .i64 (minV (restL ws)),.slice a2 um2 uc2] 123)):=(Below.refl _ _).alloc (Nat.le_refl _) _
       have hS6:=hS5.below hb5
       have hM6:=hM5.below hb5
       have hMa6:=hMa.below hb5
       have hxb:=heap_alloc_new w4 (.cells #[.int .i64 (minV (restL ws)),.slice a2 um2 uc2] 123 (0,0))
       have hxa6:=(hb5.block _ hza).trans hxa
       clear hS5 hM5 hu2 hr2 hf2 hm2 ht2 hxa hMa hS4 hb4 hb5
       go_wp2_with fail
       obtain ⟨w5,hw5⟩:∃ w5,w4.alloc (.cells #[.int .i64 (minV (restL ws)),.slice a2 um2 uc2] 123)=w5:=⟨_,rfl⟩
       have hz5:w5.heap.size=w4.heap.size+1:=by rw [←hw5];simp
       rw [hw5] at hS6 hM6 hMa6 hxb hxa6 ⊢
       have hzb:w4.heap.size < w5.heap.size:=by omega
       have hza5:w3.heap.size < w5.heap.size:=by omega
       clear hw5 hz5
       obtain ⟨bA,hbA⟩:∃ bA,w3.heap.size=bA:=⟨_,rfl⟩
       obtain ⟨bB,hbB⟩:∃ bB,w4.heap.size=bB:=⟨_,rfl⟩
       rw [hbA] at hxa6 hza5 hza ⊢
       rw [hbB] at hxb hzb hza ⊢
       clear hbA hbB hbr3 hg3 HF
       have HFW:Hid (tot ((mss.eraseIdx (minI ws)).eraseIdx (minI (restL ws)))+(ms1++ms2).length≤k):=by
        have h1:=HT1.out
        have h2:=HT2.out
        have h3:=HK.out
        rw [Hid,List.length_append];omega
       clear HT1 HT2 HK
       generalize minV (restL ws)=B at *
       generalize minV ws=A at *
       generalize restL (restL ws)=ws2 at *
       generalize (vs.eraseIdx (minI ws)).eraseIdx (minI (restL ws))=vs2 at *
       generalize (mss.eraseIdx (minI ws)).eraseIdx (minI (restL ws))=mss2 at *
       have hA0:0≤A+B:=by omega
       have hA1:A+B≤8000:=by omega
       have hsum:IntKind.i64.wrap (A+B)=A+B:=IntWalk.i64_in _ (by omega)
       have HMS:Hid (∀ W:World,Below w5.heap.size w5 W→MsAt w W k (.slice (some bD) k k) (.slice a1 um1 uc1) ms1∧MsAt w W k (.slice (some bD) k k) (.slice a2 um2 uc2) ms2):=fun W hW=>⟨hMa6.below hW,hM6.below hW⟩
       have HKS:Hid (∀ W:World,Below w5.heap.size w5 W→Below w5.heap.size w5 W∧W.cell? ⟨bA,0,none⟩=some (.int .i64 A)∧W.cell? ⟨bA,1,none⟩=some (.slice a1 um1 uc1)∧W.cell? ⟨bB,0,none⟩=some (.int .i64 B)∧W.cell? ⟨bB,1,none⟩=some (.slice a2 um2 uc2)):=fun W hW =>
        ⟨hW,box_cell ((hW.block _ hza5).trans hxa6) 0,box_cell ((hW.block _ hza5).trans hxa6) 1,box_cell ((hW.block _ hzb).trans hxb) 0,box_cell ((hW.block _ hzb).trans hxb) 1⟩
       obtain ⟨_,d0,d1,d2,d3⟩:=HKS.out w5 (Below.refl _ _)
       have HCC:Hid (∀ (W:World) (q:Nat),Below w5.heap.size w5 W→W.heap[q]?=some (.cells #[.slice a1 um1 uc1,.slice a2 um2 uc2] 23 (0,0))→Calls Tryz.prog 143 #[.slice (some ⟨q,0,none⟩) 2 2] W (RetCat w5 W (ms1++ms2))):=fun W q hW hq=>by
        obtain ⟨m1,m2⟩:=HMS.out W hW
        have hr:=rd2_two hq m1.own.rd m2.own.rd
        have hlen:=HFW.out
        refine (f_Concat _ [ms1,ms2] W hr (by simp [tot];rw [List.length_append] at hlen;omega)).mono ?_
        rintro e w' ⟨v3,rfl,ho,hb⟩
        obtain ⟨a3,m3,c3,rfl,_,_,_⟩:=ho.rd.formN
        exact ⟨a3,m3,c3,rfl,by simpa using ho,hb,hW.trans (hb.mono hW.size)⟩
       go_cut [12] (fun vb wx=>∃ (bb:Nat) (a3:Option Addr) (m3 c3:Nat),vb=.pointer (some ⟨bb,0,none⟩)∧wx.heap[bb]?=some (.cells #[.int .i64 (A+B),.slice a3 m3 c3] 123 (0,0))∧Own wx 3 w5.heap.size (.slice a3 m3 c3) (ints (ms1++ms2))∧Below w5.heap.size w5 wx)
       case first =>
        clear hS6 hM6 hMa6 hxb hxa6
        go_region_held3 (fun wx=>Below w5.heap.size w5 wx∧wx.cell? ⟨bA,0,none⟩=some (.int .i64 A)∧wx.cell? ⟨bA,1,none⟩=some (.slice a1 um1 uc1)∧wx.cell? ⟨bB,0,none⟩=some (.int .i64 B)∧wx.cell? ⟨bB,1,none⟩=some (.slice a2 um2 uc2))
         (first | exact HKS.out _ g3 | exact HKS.out _ (Below.alloc g3 (Below.size g3) _) | (refine HKS.out _ (Below.setCell (Below.setCell g3 ?_ _) ?_ _) <;> (simp <;> omega)) | exact HKS.out _ (by first | exact (Below.refl _ _) | exact ((Below.refl _ _).drew) | exact ((Below.refl _ _).drew).alloc (by simp) _ | exact (((Below.refl _ _).drew).alloc (by simp) _).alloc (by simp) _) | go_keep)
         (first
          | (go_at_call 143;(with_reducible refine (HCC.out _ _ (by exact (show _∧_∧_ from by assumption).1) (by first | (refine hnew ?_;(simp;done)) | (refine hnewD ?_;(simp;done)) | (refine hnew2 ?_;(simp;done)) | (refine hnew2D ?_;(simp;done)))).mono ?_);rintro e w6 ⟨a3,m3,c3,rfl,ho3,hb3,g3⟩;obtain ⟨hc6,hf6⟩:=bcells hb3))
        all_goals
         have hlt3:∀ q,q < w6.heap.size→True:=fun _ _=>trivial
         have hz6:=hb3.size
         simp at hz6
         have hne:∀ q,(Value.slice a3 m3 c3).ownBlock=some q→w5.heap.size+1≤q:=fun q hq=>by
          have:=(ho3.lt q hq).1
          simp at this
          omega
         clear hsum
         go_wp2_with (fail)
         go_meet
         refine ⟨_,a3,m3,c3,rfl,?_,?_,?_⟩
         · first
            | exact hnew rfl
            | (refine box2 ((hb3.block _ ?_).trans (hnew2D (w:=w5) (n:=w5.heap.size) rfl));(simp <;> omega))
            | (refine box2 ((hb3.block _ ?_).trans (hnewD (n:=w5.heap.size+1) ?_)) <;> (simp <;> omega))
         · first
            | exact (ho3.mono (by simp <;> omega)).alloc _
            | (refine ((ho3.mono ?_).setCell ?_ _).setCell ?_ _ <;> (simp;done))
            | (refine ((ho3.mono ?_).setCell ?_ _).setCell ?_ _;all_goals (first | (simp;done) | (simp;omega) | (intro e;have:=(ho3.lt _ e).1;simp at this;omega) | (intro e;have:=(ho3.lt _ e).1;simp at this)))
         · first
            | exact Below.alloc g3 (Below.size g3) _
            | (refine Below.setCell (Below.setCell g3 ?_ _) ?_ _ <;> (simp <;> omega))
       case rest =>
       obtain ⟨bb,a3,m3,c3,rfl,hbx,ho3,hb3⟩:=hcut
       have hSc:=hS6.below hb3
       obtain ⟨M1,M2⟩:=HMS.out _ hb3
       have hwz:=hS6.bel.size
       have hDlt:=(hS6.far hS6.dep bD.block rfl).1
       have hM3:MsAt w wc k (.slice (some bD) k k) (.slice a3 m3 c3) (ms1++ms2):=⟨ho3.mono hwz,fun x hx=>by
        rcases List.mem_append.1 hx with hx | hx
        · exact M1.rng x hx
        · exact M2.rng x hx,fun b hb e=>by
        have:=(ho3.lt b hb).1
        simp only [Value.ownBlock,Option.some.injEq] at e
        omega⟩
       obtain ⟨HM3a,HM3b,_⟩:Hid (m3=(ms1++ms2).length)∧m3≤c3∧c3≤9223372036854775807:=by
        obtain ⟨aq,mq,cq,hq,h1,h2,h3⟩:=ho3.rd.formN
        simp only [Value.slice.injEq] at hq
        obtain ⟨rfl,rfl,rfl⟩:=hq
        exact ⟨h1,h2,h3⟩
       have e0:=box_cell hbx 0
       have e1:=box_cell hbx 1
       clear hS6 hM6 hMa6 hxb hxa6 d0 d1 d2 d3 HKS HCC HMS M1 M2 ho3 hb3 hsum
       go_wp2_with fail
       go_loopg [57] m3 (fun gq iv wr=>∃ (q:Nat) (ds:List Int),gq=m3 - q∧q≤m3∧iv=.int .i64 q∧Hid (ds.length=k)∧ChSt w wr br g (f+1 - 1 - 1) cap k cur2 ws2 vs2 mss2 (.slice (some bD) k k) ds∧MsAt w wr k (.slice (some bD) k k) (.slice a3 m3 c3) (ms1++ms2)∧Hid (wr.heap[bb]?=some (.cells #[.int .i64 (A+B),.slice a3 m3 c3] 123 (0,0))))
       case atStart=>exact ⟨0,ds,rfl,Nat.zero_le _,rfl,HDS,hSc,hM3,hbx⟩
       case round =>
        clear hSc hM3 hbx HDS e0 e1 hDlt
        obtain ⟨q,ds,hgq,hq,rfl,HDS,hS,hM,HBX⟩:=hrel
        by_cases hlq:q < m3
        · obtain ⟨z,x,rfl,hcz,hx⟩:=hM.own.rd.int (k:=q) (by have:=HM3a.out;omega)
          obtain ⟨x0,x1⟩:=hM.rng x (List.mem_of_getElem? hx.out)
          obtain ⟨j,rfl⟩:∃ j:Nat,x=(j:Int):=⟨x.toNat,by omega⟩
          have hjk:j < k:=by omega
          have hjd:j < ds.length:=by have:=HDS.out;omega
          obtain ⟨bD',y,hbD',hcy,hy⟩:=hS.dep.rd.int (k:=j) hjd
          obtain rfl:bD=bD':=by injection hbD'
          have hfy:=hS.dep.frozen rfl j
          have HSET:=Lib.hid (fun y2=>hS.setd hjd y2)
          have HFR:=Lib.hid (hS.far hS.dep bD.block rfl)
          have HBN:Hid ((Value.slice (some bD) k k).ownBlock≠some bb):=own_ne_box hS.dep HBX.out (by decide)
          have HMk:=Lib.hid hM
          have HLS:Hid (∀ y2,(ds.set j y2).length=k):=fun y2=>by rw [List.length_set];exact HDS.out
          clear hbD' hS hM hx hy x0 x1 HDS
          go_wp2
          go_roundg (m3 - (q+1))
          case measure=>omega
          case rel=>exact ⟨q+1,_,rfl,hlq,by go_num,HLS.out _,(HSET.out _).1,HMk.out.keep (fun b hb=>(HSET.out _).2 b (HMk.out.ap b hb)),((HSET.out _).2 bb HBN.out).trans HBX.out⟩
        · obtain rfl:q=m3:=by omega
          have e0:=box_cell HBX.out 0
          have e1:=box_cell HBX.out 1
          have c0:=hS.runs.bcell
          obtain ⟨W2,hW2⟩:∃ W2,wr.alloc (.cells #[.int .i64 (A+B),.slice a3 q c3] 123)=W2:=⟨_,rfl⟩
          have hbW:Below wr.heap.size wr W2:=by rw [←hW2];exact (Below.refl _ _).alloc (Nat.le_refl _) _
          have hS2:=hS.below hbW
          have hM2:=hM.below hbW
          have HNW:Hid (∀ j u,([.int .i64 (A+B),.slice a3 q c3]:List Value)[j]?=some u→W2.cell? ((⟨wr.heap.size,0,none⟩:Addr).add j)=some u) :=
           World.news_of_block (w:=W2) (B:=wr.heap.size) (cs:=#[.int .i64 (A+B),.slice a3 q c3]) (t:=123) (fr:=(0,0)) (by rw [←hW2];exact heap_alloc_new wr _)
          have HW2:=Lib.hid hW2
          have HOW:=Lib.hid hS2.runs.owns
          obtain ⟨mm,hmm⟩:∃ mm,f+1 - 1 - 1=mm:=⟨_,rfl⟩
          rw [hmm] at hS hS2 HOW c0
          have hfm:f=mm+1:=by omega
          have HFIN:Hid (∀ (w1:World) (g1 cap1:Nat),w1.ownsRow 0 123 2 (.slice (some ⟨g1,0,none⟩) (mm+1) cap1) (mm+1) (cur2.toList.take (mm * 2)++[.int .i64 (A+B),.slice a3 q c3])→W2.grownBy w1 (some g)→(some g=some g1∨g1=W2.heap.size) →
           (∃ cur1,ChSt w (w1.setCell ⟨br,0,none⟩ (.slice (some ⟨g1,0,none⟩) (mm+1) cap1)) br g1 (mm+1) cap1 k cur1 (ws2++[A+B]) (vs2++[.slice a3 q c3]) (mss2++[ms1++ms2]) (.slice (some bD) k k) ds)∧w1.cell? ⟨br,0,none⟩=some (.slice (some ⟨g,0,none⟩) mm cap)∧w1.frozen? ⟨br,0,none⟩=false):=fun w1 g1 cap1 q1 q2 q3=>by
           have hbx:=(q2.block br (box_lt hS2.runs.box) fun e=>hS2.ne (by injection e)).trans hS2.runs.box
           exact ⟨hS2.app hM2 HFW.out q1 q2 q3,box_cell hbx 0,frozen_of_row w1 br 0 _ _ hbx⟩
          clear hW2 hS2 hM2 hbW hS hM hmm
          subst hfm
          obtain ⟨t1,t2,t3,t4,t5⟩:=EL.out
          have E1:=Lib.hid t1
          have E2:=Lib.hid t2
          have E3:=Lib.hid t3
          have E4:=Lib.hid t4
          have E5:=Lib.hid t5
          clear t1 t2 t3 t4 t5
          go_wp2_with (at_builtin;rw [HW2.out];refine wpList_append_lies _ rfl _ _ _ rfl 0 123 inf (.agg #[.int .i64 0,.slice none 0 0]) 2 32 E1.out E2.out E3.out E4.out E5.out rfl (by omega) (.slice (some ⟨g,0,none⟩) mm cap) mm (cur2.toList.take (mm * 2)) rfl HOW.out ⟨wr.heap.size,0,none⟩ 1 1 [.int .i64 (A+B),.slice a3 q c3] rfl rfl HNW.out (by simp [Value.oneCell']) (by omega) (by simp only [maxLen];omega) (by omega) (Nat.zero_le _) _ rfl ?_;intro g1 cap1 w1 hown hgrow hat hlt1;obtain ⟨hA,hB,hC⟩:=HFIN.out w1 g1 cap1 hown hgrow hat;obtain ⟨cur1,hS1⟩:=hA;have HS1:=Lib.hid hS1;clear hS1 hown hgrow hat)
          go_roundg (mm+1)
          case measure=>omega
          case rel=>exact ⟨mm+1,g1,cap1,cur1,_,_,_,_,C+(A+B),rfl,by omega,by go_num,by omega,by omega,HR2,HZ2,HDS,HS1.out⟩
     · obtain rfl:C=Z:=by
        have h1:=HZ.out
        rw [icL_short (by have:=HS.runs.wl;omega)] at h1
        omega
       go_wp2
       go_ret2
       exact ⟨_,rfl,HS.bel⟩
theorem i_CheapestMerge (v:Value) (xs:List Int) (w:World) (h:Rd w v (ints xs)) (hs:lensB xs=true):Calls Tryz.prog 31 #[v] w (RetB (.int .i64 (cm xs)) w):=i_CheapestMergeOf i_cheapest v xs w h hs
theorem I_MergeLine (w:World) (v:Value) (xs:List Int) (h:Rd w v (ints xs)) (hi:I64s xs) (hl:xs.length≤1048576) (ht:Tab w):Calls Tryz.prog 30 #[v] w (RetB (.string (bstr (mergeLine xs))) w):=I_MergeLineOf i_CheapestMerge w v xs h hi hl ht
end Go.Proofs.YtggblfnajeikjaaGreatDoor
