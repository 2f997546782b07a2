/- Joined texts of the proof: Mem, PlainDigits, Frames, PlainPerm, PlainTree, PlainFnLate. -/
import Derived.WalkKit
import Derived.WalkSpells
import Derived.WalkLawsBesides
import Derived.Deep.Draws
import Derived.RegionTactic
import Derived.Test.YtggblfnajeikjaaGreatDoorJ1
namespace Go.Proofs.YtggblfnajeikjaaGreatDoor
open Go.RowKit
set_option linter.unusedVariables false
set_option linter.unusedSimpArgs false
set_option maxRecDepth 100000
set_option maxHeartbeats 16000000
theorem block_of_add (a:Addr) (n:Nat):(a.add n).block=a.block:=by unfold Addr.add;split <;> rfl
theorem add_of_add (a:Addr) (i j:Nat):(a.add i).add j=a.add (i+j):=by
 unfold Addr.add
 by_cases hi:i=0 <;> by_cases hj:j=0 <;> simp [hi,hj,Nat.add_assoc]
theorem add_succ (a:Addr) (k:Nat):a.add (k+1)=⟨a.block,a.off+(k+1),none⟩:=by unfold Addr.add;rw [if_neg (by omega)]
def ints (xs:List Int):List Value:=xs.map (Value.int .i64)
theorem ints_length (xs:List Int):(ints xs).length=xs.length:=by simp [ints]
theorem ints_append (xs ys:List Int):ints (xs++ys)=ints xs++ints ys:=by simp [ints]
theorem ints_set (xs:List Int) (k:Nat) (y:Int):ints (xs.set k y)=(ints xs).set k (.int .i64 y):=by simp [ints,List.map_set]
def Rd (w:World) (v:Value) (xs:List Value):Prop :=
 ∃ (a:Option Addr) (c:Nat),v=.slice a xs.length c∧xs.length≤c∧c≤9223372036854775807 ∧
   (0 < xs.length→∃ ad,a=some ad∧∀ j u,xs[j]?=some u→w.cell? (ad.add j)=some u)
def Own (w:World) (E B:Nat) (v:Value) (xs:List Value):Prop :=
 (v=.slice none 0 0∧xs=[]) ∨
 ∃ (g off c:Nat) (cur:Array Value),v=.slice (some ⟨g,off,none⟩) xs.length c∧B≤g∧w.heap[g]?=some (.cells cur E (0,0)) ∧
   xs.length≤c∧c≤9223372036854775807∧off+c≤cur.size∧∀ j u,xs[j]?=some u→cur[off+j]?=some u
section
variable {w w':World} {E B B':Nat} {v:Value} {xs:List Value}
theorem Rd.nil (w:World):Rd w (.slice none 0 0) []:=⟨none,0,rfl,Nat.le_refl _,by omega,fun h=>absurd h (by simp)⟩
theorem Rd.form (h:Rd w v xs):∃ (a:Option Addr) (c:Nat),v=.slice a xs.length c∧xs.length≤c∧c≤9223372036854775807:=by
 obtain ⟨a,c,h1,h2,h3,_⟩:=h
 exact ⟨a,c,h1,h2,h3⟩
theorem Rd.cell {a:Option Addr} {n c:Nat} (h:Rd w (.slice a n c) xs) {k:Nat} (hk:k < xs.length) :
 ∃ ad,a=some ad∧w.cell? (ad.add k)=some (xs[k]'hk):=by
 obtain ⟨a',c',h1,_,_,h4⟩:=h
 simp only [Value.slice.injEq] at h1
 obtain ⟨rfl,rfl,rfl⟩:=h1
 obtain ⟨ad,rfl,hc⟩:=h4 (by omega)
 exact ⟨ad,rfl,hc k _ (by simp [hk])⟩
theorem Rd.keep (h:Rd w v xs) (hk:∀ p:Addr,p.block < w.heap.size→some p.block=v.ownBlock→w'.cell? p=w.cell? p):Rd w' v xs:=by
 obtain ⟨a,c,rfl,h2,h3,h4⟩:=h
 refine ⟨a,c,rfl,h2,h3,fun hn=>?_⟩
 obtain ⟨ad,rfl,hc⟩:=h4 hn
 refine ⟨ad,rfl,fun j u hu=>?_⟩
 have h5:=hc j u hu
 rw [hk _ (World.block_lt_of_cell? _ _ h5) (by rw [block_of_add];rfl)]
 exact h5
theorem Rd.below (h:Rd w v xs) (hb:Below w.heap.size w w'):Rd w' v xs:=h.keep fun _ hp _=>hb.cell hp
theorem Rd.drew (h:Rd w v xs):Rd w.drew v xs:=h
theorem Rd.drewN (h:Rd w v xs) (n:Nat):Rd (w.drewN n) v xs:=h
theorem Rd.alloc (h:Rd w v xs) (o:Obj):Rd (w.alloc o) v xs:=h.keep fun _ hp _=>World.cell?_alloc_lt w o _ hp
theorem Rd.grown {row:Option Nat} (h:Rd w v xs) (hg:w.grownBy w' row) (hne:v.ownBlock≠row∨v.ownBlock=none):Rd w' v xs :=
 h.keep fun p hp he=>World.cell?_of_block (hg.block p.block hp (by
  rw [he]
  rcases hne with h1 | h1
  · exact h1
  · rw [h1] at he;cases he))
theorem Rd.setCell (h:Rd w v xs) {p:Addr} (hne:v.ownBlock≠some p.block) (u:Value):Rd (w.setCell p u) v xs :=
 h.keep fun q _ he=>World.cell?_setCell_other w p q u (fun e=>hne (by rw [←he,←e]))
theorem Own.rd (h:Own w E B v xs):Rd w v xs:=by
 rcases h with ⟨rfl,rfl⟩ | ⟨g,off,c,cur,rfl,hB,hh,hl,hc,hs,hx⟩
 · exact Rd.nil w
 · refine ⟨_,c,rfl,hl,hc,fun _=>⟨_,rfl,fun j u hu=>?_⟩⟩
   rw [Addr.add_lit,cell_of_row w g _ cur E (0,0) hh]
   exact hx j u hu
theorem Own.lt (h:Own w E B v xs):∀ k,v.ownBlock=some k→B≤k∧k < w.heap.size:=by
 intro k hk
 rcases h with ⟨rfl,rfl⟩ | ⟨g,off,c,cur,rfl,hB,hh,_⟩
 · cases hk
 · simp only [Value.ownBlock,Option.some.injEq] at hk
   subst hk
   exact ⟨hB,(Array.getElem?_eq_some_iff.1 hh).1⟩
theorem Own.mono (h:Own w E B v xs) (hb:B'≤B):Own w E B' v xs:=by
 rcases h with h | ⟨g,off,c,cur,rfl,hB,r⟩
 · exact .inl h
 · exact .inr ⟨g,off,c,cur,rfl,by omega,r⟩
theorem Own.raise (h:Own w E B v xs) (hb:∀ k,v.ownBlock=some k→B'≤k):Own w E B' v xs:=by
 rcases h with h | ⟨g,off,c,cur,rfl,hB,r⟩
 · exact .inl h
 · exact .inr ⟨g,off,c,cur,rfl,hb _ rfl,r⟩
theorem Own.keep (h:Own w E B v xs) (hk:∀ k,k < w.heap.size→some k=v.ownBlock→w'.heap[k]?=w.heap[k]?):Own w' E B v xs:=by
 rcases h with h | ⟨g,off,c,cur,rfl,hB,hh,r⟩
 · exact .inl h
 · exact .inr ⟨g,off,c,cur,rfl,hB,(hk g (Array.getElem?_eq_some_iff.1 hh).1 rfl).trans hh,r⟩
theorem Own.below (h:Own w E B v xs) (hb:Below w.heap.size w w'):Own w' E B v xs:=h.keep fun k hk _=>hb.block k hk
theorem Own.drew (h:Own w E B v xs):Own w.drew E B v xs:=h
theorem Own.drewN (h:Own w E B v xs) (n:Nat):Own (w.drewN n) E B v xs:=h
theorem Own.alloc (h:Own w E B v xs) (o:Obj):Own (w.alloc o) E B v xs:=h.keep fun k hk _=>Below.heap_alloc w o k hk
theorem Own.grown {row:Option Nat} (h:Own w E B v xs) (hg:w.grownBy w' row) (hne:v.ownBlock≠row∨v.ownBlock=none):Own w' E B v xs :=
 h.keep fun k hk he=>hg.block k hk (by
  rw [he]
  rcases hne with h1 | h1
  · exact h1
  · rw [h1] at he;cases he)
theorem Own.setCell (h:Own w E B v xs) {p:Addr} (hne:v.ownBlock≠some p.block) (u:Value):Own (w.setCell p u) E B v xs :=
 h.keep fun k _ he=>heap_setCell_other w p k u (fun e=>hne (by rw [←he,←e]))
theorem Own.apart {row:Option Nat} (h:Own w E B v xs) (hg:w.grownBy w' row) (hne:∀ k,v.ownBlock=some k→row≠some k):Own w' E B v xs :=
 h.keep fun k hk he=>hg.block k hk (fun e=>hne k he.symm e.symm)
theorem Own.nil (w:World) (E B:Nat):Own w E B (.slice none 0 0) []:=.inl ⟨rfl,rfl⟩
theorem Own.lit (w:World) (E B:Nat) (cs:Array Value) (hb:B≤w.heap.size) (hm:cs.size≤9223372036854775807) :
 Own (w.alloc (.cells cs E)) E B (.slice (some ⟨w.heap.size,0,none⟩) cs.size cs.size) cs.toList :=
 .inr ⟨w.heap.size,0,cs.size,cs,by simp,hb,heap_alloc_new w _,by simp,hm,by simp,fun j u hu=>by simpa using hu⟩
theorem Own.frozen {a:Option Addr} {n c:Nat} (h:Own w E B (.slice a n c) xs) {ad:Addr} (ha:a=some ad) (k:Nat):w.frozen? (ad.add k)=false:=by
 subst ha
 rcases h with ⟨h1,_⟩ | ⟨g,off,c',cur,h1,hB,hh,_⟩
 · cases h1
 · simp only [Value.slice.injEq,Option.some.injEq] at h1
   obtain ⟨rfl,-,-⟩:=h1
   rw [Addr.add_lit]
   exact frozen_of_row w g _ cur E hh
theorem Own.set {a:Option Addr} {n c:Nat} (h:Own w E B (.slice a n c) xs) {ad:Addr} (ha:a=some ad) {k:Nat} (hk:k < xs.length) (u:Value) :
 Own (w.setCell (ad.add k) u) E B (.slice a n c) (xs.set k u)∧w.grownBy (w.setCell (ad.add k) u) (some ad.block):=by
 subst ha
 rcases h with ⟨h1,_⟩ | ⟨g,off,c',cur,h1,hB,hh,hl,hc,hs,hx⟩
 · cases h1
 · simp only [Value.slice.injEq,Option.some.injEq] at h1
   obtain ⟨rfl,rfl,rfl⟩:=h1
   rw [Addr.add_lit]
   refine ⟨.inr ⟨g,off,c,cur.setIfInBounds (off+k) u,by simp,hB,heap_setCell_same w g (off+k) cur E u hh,by simpa using hl,hc,by simpa using hs,fun j x hj=>?_⟩,
    ⟨rfl,rfl,rfl,by simp,fun i _ hi=>heap_setCell_other w ⟨g,off+k,none⟩ i u (fun e=>hi (by simp [e]))⟩⟩
   rw [List.getElem?_set] at hj
   rw [Array.getElem?_setIfInBounds]
   by_cases e:k=j
   · subst e
     simp only [if_true] at hj ⊢
     rw [if_pos hk] at hj
     rw [if_pos (by omega)]
     exact hj
   · rw [if_neg e] at hj
     rw [if_neg (by omega)]
     exact hx j x hj
theorem Own.cut {a:Option Addr} {n c:Nat} (h:Own w E B (.slice a n c) xs) {k:Nat} (hk:k≤n) :
 Own w E B (.slice (if c=k then a else a.map (·.add k)) (n - k) (c - k)) (xs.drop k):=by
 rcases h with ⟨h1,h2⟩ | ⟨g,off,c',cur,h1,hB,hh,hl,hc,hs,hx⟩
 · simp only [Value.slice.injEq] at h1
   obtain ⟨rfl,rfl,rfl⟩:=h1
   subst h2
   exact .inl ⟨by simp,by simp⟩
 · simp only [Value.slice.injEq] at h1
   obtain ⟨rfl,rfl,rfl⟩:=h1
   by_cases e:c=k
   · subst e
     have hn:xs.length=c:=by omega
     refine .inr ⟨g,off,0,cur,?_,hB,hh,by simp [hn],by omega,by omega,fun j u hu=>?_⟩
     · rw [if_pos rfl];simp [hn]
     · rw [List.drop_eq_nil_of_le (by omega)] at hu;cases hu
   · refine .inr ⟨g,off+k,c - k,cur,?_,hB,hh,by simp;omega,by omega,by omega,fun j u hu=>?_⟩
     · rw [if_neg e];simp [Addr.add_lit]
     · rw [List.getElem?_drop] at hu
       rw [Nat.add_assoc]
       exact hx _ _ hu
theorem Own.take {a:Option Addr} {n c:Nat} (h:Own w E B (.slice a n c) xs) {k:Nat} (hk:k≤n) :
 Own w E B (.slice a k c) (xs.take k):=by
 rcases h with ⟨h1,h2⟩ | ⟨g,off,c',cur,h1,hB,hh,hl,hc,hs,hx⟩
 · simp only [Value.slice.injEq] at h1
   obtain ⟨rfl,rfl,rfl⟩:=h1
   subst h2
   exact .inl ⟨by simp;omega,by simp⟩
 · simp only [Value.slice.injEq] at h1
   obtain ⟨rfl,rfl,rfl⟩:=h1
   refine .inr ⟨g,off,c,cur,by simp;omega,hB,hh,by simp;omega,hc,hs,fun j u hu=>?_⟩
   rw [List.getElem?_take] at hu
   by_cases e:j < k
   · rw [if_pos e] at hu;exact hx j u hu
   · rw [if_neg e] at hu;cases hu
theorem Rd.cut {a:Option Addr} {n c:Nat} (h:Rd w (.slice a n c) xs) {k:Nat} (hk:k≤n) :
 Rd w (.slice (if c=k then a else a.map (·.add k)) (n - k) (c - k)) (xs.drop k):=by
 obtain ⟨a',c',h1,hl,hc,hx⟩:=h
 simp only [Value.slice.injEq] at h1
 obtain ⟨rfl,rfl,rfl⟩:=h1
 refine ⟨(if c=k then a else a.map (·.add k)),c - k,by simp,by simp;omega,by omega,fun hn=>?_⟩
 simp only [List.length_drop] at hn
 obtain ⟨ad,rfl,hcell⟩:=hx (by omega)
 refine ⟨ad.add k,by rw [if_neg (by omega)];rfl,fun j u hu=>?_⟩
 rw [List.getElem?_drop] at hu
 rw [add_of_add]
 exact hcell _ _ hu
theorem Rd.take {a:Option Addr} {n c:Nat} (h:Rd w (.slice a n c) xs) {k:Nat} (hk:k≤n):Rd w (.slice a k c) (xs.take k):=by
 obtain ⟨a',c',h1,hl,hc,hx⟩:=h
 simp only [Value.slice.injEq] at h1
 obtain ⟨rfl,rfl,rfl⟩:=h1
 refine ⟨a,c,by simp;omega,by simp;omega,hc,fun hn=>?_⟩
 simp only [List.length_take] at hn
 obtain ⟨ad,rfl,hcell⟩:=hx (by omega)
 refine ⟨ad,rfl,fun j u hu=>?_⟩
 rw [List.getElem?_take] at hu
 by_cases e:j < k
 · rw [if_pos e] at hu;exact hcell j u hu
 · rw [if_neg e] at hu;cases hu
end
structure ElemOk (P:Program) (t E bytes:Nat) (z:Value):Prop where
 ex:∃ i,P.underlying t=some (.slice E)∧P.info? E=some i∧i.zero=some z∧i.size=1∧i.bytes=bytes∧z.cells=#[z]
section
variable {P:Program} {w:World}
theorem run_app {t ty E B bytes:Nat} {z:Value} (ht:ElemOk P t E bytes z) {v:Value} {xs:List Value} (hown:Own w E B v xs) {vx:Value} {news:List Value} (hr:Rd w vx news)
 (h1:∀ u∈news,u.oneCell'=true) (hB:B≤w.heap.size) (hbytes:(xs.length+news.length) * bytes≤140737488355328) (h63:xs.length+news.length≤9223372036854775807) :
 ∃ a c w',(Builtin.append_ #[t,t] ty #[v,vx]).run P w=.ok (.slice a (xs.length+news.length) c) w'∧Own w' E B (.slice a (xs.length+news.length) c) (xs++news) ∧
   w.grownBy w' v.ownBlock∧((Value.slice a (xs.length+news.length) c).ownBlock=v.ownBlock∨(Value.slice a (xs.length+news.length) c).ownBlock=some w.heap.size):=by
 obtain ⟨i,hu,hi,hz,hs1,hby,hzc⟩:=ht.ex
 have hzs:z.cells.size=1:=by rw [hzc];rfl
 subst hby
 obtain ⟨ax,cx,rfl,hlx,hcx,hxc⟩:=hr
 by_cases hm:news=[]
 · subst hm
   have hrun:(Builtin.append_ #[t,t] ty #[v,.slice ax ([]:List Value).length cx]).run P w=.ok v w:=by
    rcases hown with ⟨rfl,rfl⟩ | ⟨g,off,c,cur,rfl,_,_,hnc,_⟩
    · cases ax <;> simp [Builtin.append_,run_underlying hu,sizeOf,typeInfo,hi,Builtin.lenOf,Builtin.firstCells,loadCells,loadCellsFrom]
    · cases ax <;> simp [Builtin.append_,run_underlying hu,sizeOf,typeInfo,hi,Builtin.lenOf,Builtin.firstCells,loadCells,loadCellsFrom,hnc,storeCells]
   rcases hown with ⟨rfl,rfl⟩ | ⟨g,off,c,cur,rfl,hB',hh,hl,hc,hs,hx⟩
   · exact ⟨none,0,w,hrun,by simpa using Own.nil w E B,World.grownBy.refl w _,.inl rfl⟩
   · exact ⟨some ⟨g,off,none⟩,c,w,hrun,by simpa using .inr ⟨g,off,c,cur,rfl,hB',hh,hl,hc,hs,hx⟩,World.grownBy.refl w _,.inl rfl⟩
 · have hpos:0 < news.length:=List.length_pos_iff.2 hm
   obtain ⟨ad,rfl,hnews⟩:=hxc hpos
   have grown:∀ (old:Nat),old < xs.length+news.length→∀ (row:Option Nat),
    Own (w.drew.alloc (.cells (xs.toArray++news.toArray++Builtin.zeroCells z.cells (grownCap w (xs.length+news.length) old E - (xs.length+news.length))) E)) E B
     (.slice (some ⟨w.heap.size,0,none⟩) (xs.length+news.length) (grownCap w (xs.length+news.length) old E)) (xs++news) ∧
    w.grownBy (w.drew.alloc (.cells (xs.toArray++news.toArray++Builtin.zeroCells z.cells (grownCap w (xs.length+news.length) old E - (xs.length+news.length))) E)) row:=by
    intro old ho row
    have hge:=grownCap_ge w (xs.length+news.length) old E
    have hcm:grownCap w (xs.length+news.length) old E≤maxLen:=grownCap_le_maxLen w _ old E (by simp only [maxLen];omega)
    refine ⟨.inr ⟨w.heap.size,0,grownCap w (xs.length+news.length) old E,_,by simp,hB,heap_alloc_new w.drew _,by simpa using hge,by simp only [maxLen] at hcm;omega,?_,fun j u hu=>?_⟩,
     ⟨rfl,rfl,rfl,by simp,fun k hk _=>Below.heap_alloc w.drew _ k hk⟩⟩
    · simp only [Array.size_append,List.size_toArray,size_zeroCells,hzs]
      omega
    · rw [Nat.zero_add,Array.getElem?_append_left (by
       have:=(List.getElem?_eq_some_iff.1 hu).1
       simpa using this)]
      simpa using hu
   rcases hown with ⟨rfl,rfl⟩ | ⟨g,off,c,cur,rfl,hB',hh,hl,hc,hs,hx⟩
   · have hrun:=run_append_nil (P:=P) w t ty E i z hu hi hz ad news.length cx news (by simp [hs1]) hnews hpos (by simp only [List.length_nil,Nat.zero_add] at h63;omega) (by simp only [List.length_nil,Nat.zero_add] at hbytes;omega)
     have hgr:=grown 0 (by omega) (Value.ownBlock (.slice none 0 0))
     simp only [List.length_nil,Nat.zero_add,List.nil_append,Array.empty_append] at hgr ⊢
     exact ⟨_,_,_,hrun,hgr.1,hgr.2,.inr rfl⟩
   · by_cases hroom:xs.length+news.length≤c
     · have hf:=run_firstCells_some (P:=P) w i.size news.length ad news.length cx news (by simp [hs1]) hnews
       have hst:=run_storeCells_at P g (off+xs.length) E news 0 cur w hh (by omega) h1
       simp only [Nat.add_zero] at hst
       refine ⟨some ⟨g,off,none⟩,c,w.setRow g (cur.toList.take (off+xs.length)++news++cur.toList.drop (off+xs.length+news.length)).toArray,?_,.inr ⟨g,off,c,_,by simp,hB',setRow_heap w g cur _ E _ hh,by simpa using hroom,hc,?_,fun j u hu=>?_⟩,
        ⟨rfl,rfl,rfl,by simp,fun k _ hk=>setRow_other w g k _ (fun e=>hk (by simp [Value.ownBlock,e]))⟩,.inl rfl⟩
       · rw [hs1] at hf
         simp [Builtin.append_,run_underlying hu,sizeOf,typeInfo,hi,Builtin.lenOf,hroom,hs1,hf,Addr.add_lit,hst]
       · simp only [List.size_toArray,List.length_append,List.length_take,List.length_drop,Array.length_toList]
         omega
       · rw [List.getElem?_append] at hu
         simp only [List.getElem?_toArray]
         by_cases e:j < xs.length
         · rw [if_pos e] at hu
           rw [List.append_assoc,List.getElem?_append_left (by simp;omega),List.getElem?_take,if_pos (by omega)]
           simpa using hx j u hu
         · rw [if_neg e] at hu
           have hj:=(List.getElem?_eq_some_iff.1 hu).1
           have h2:(cur.toList.take (off+xs.length)).length=off+xs.length:=by simp;omega
           rw [List.append_assoc,List.getElem?_append_right (by omega),h2,List.getElem?_append_left (by omega),←hu]
           congr 1
           omega
     · have holds:∀ j u,xs[j]?=some u→w.cell? ((⟨g,off,none⟩:Addr).add j)=some u:=fun j u hu=>by
        rw [Addr.add_lit,cell_of_row w g _ cur E (0,0) hh]
        exact hx j u hu
       have hrun:=run_append_grow (P:=P) w t ty E i z hu hi hz ⟨g,off,none⟩ xs.length c xs (by simp [hs1]) holds ad news.length cx news (by simp [hs1]) hnews (by omega) (by omega) (growslice_fits (by omega) hbytes)
       have hgr:=grown c (by omega) (Value.ownBlock (.slice (some ⟨g,off,none⟩) xs.length c))
       exact ⟨_,_,_,hrun,hgr.1,hgr.2,.inr rfl⟩
theorem wp_app {o:Oper} {a:Act} {K:Act→World→Prop} {Q:Exit→Act→World→Prop} (s x:Operand) (t:TypeId)
 (ho:o.op=.call { callee:=.builtin .append,args:=#[s,x],argTypes:=#[t,t] })
 {E B bytes:Nat} {z:Value} (ht:ElemOk P t E bytes z) {v:Value} {xs:List Value} (hs:a.eval s=v) (hown:Own w E B v xs) {vx:Value} {news:List Value} (hx:a.eval x=vx) (hr:Rd w vx news)
 (h1:∀ u∈news,u.oneCell'=true) (hB:B≤w.heap.size) (hbytes:(xs.length+news.length) * bytes≤140737488355328) (h63:xs.length+news.length≤9223372036854775807)
 (h:∀ b c w',Own w' E B (.slice b (xs.length+news.length) c) (xs++news)→w.grownBy w' v.ownBlock →
  ((Value.slice b (xs.length+news.length) c).ownBlock=v.ownBlock∨(Value.slice b (xs.length+news.length) c).ownBlock=some w.heap.size) →
  K (a.put o.dst (.slice b (xs.length+news.length) c)) w'):o.wp P a w K Q:=by
 obtain ⟨b,c,w',hrun,h2,h3,h4⟩:=run_app (ty:=o.type) ht hown hr h1 hB hbytes h63
 unfold Oper.wp execOp
 simp only [ho,resolve,invoke,builtin,Sem.run_bind,Sem.run_pure,Result.andThen_ok,List.map_toArray,List.map_cons,List.map_nil,hs,hx,hrun]
 exact h b c w' h2 h3 h4
theorem wpList_app {ops:Array Oper} {rest:List Oper} {o:Oper} {a:Act} {Q:Exit→Act→World→Prop} (hgd:o.guard=none) (s x:Operand) (t:TypeId)
 (ho:o.op=.call { callee:=.builtin .append,args:=#[s,x],argTypes:=#[t,t] })
 {E B bytes:Nat} {z:Value} (ht:ElemOk P t E bytes z) {v:Value} {xs:List Value} (hs:a.eval s=v) (hown:Own w E B v xs) {vx:Value} {news:List Value} (hx:a.eval x=vx) (hr:Rd w vx news)
 (h1:∀ u∈news,u.oneCell'=true) (hB:B≤w.heap.size) (hbytes:(xs.length+news.length) * bytes≤140737488355328) (h63:xs.length+news.length≤9223372036854775807)
 (h:∀ b c w',Own w' E B (.slice b (xs.length+news.length) c) (xs++news)→w.grownBy w' v.ownBlock →
  ((Value.slice b (xs.length+news.length) c).ownBlock=v.ownBlock∨(Value.slice b (xs.length+news.length) c).ownBlock=some w.heap.size) →
  wpList P ops Q rest (a.put o.dst (.slice b (xs.length+news.length) c)) w'):wpList P ops Q (o :: rest) a w :=
 wpList_plain hgd fun _ hK=>wp_app s x t ho ht hs hown hx hr h1 hB hbytes h63 fun b c w' h2 h3 h4=>hK _ _ (h b c w' h2 h3 h4)
theorem step_app {ops:Array Oper} {o:Oper} {a:Act} {K:Act→World→Prop} {Q:Exit→Act→World→Prop} {F:Prop} (hgd:o.guard=none) (s x:Operand) (t:TypeId)
 (ho:o.op=.call { callee:=.builtin .append,args:=#[s,x],argTypes:=#[t,t] })
 {E B bytes:Nat} {z:Value} (ht:ElemOk P t E bytes z) {v:Value} {xs:List Value} (hs:a.eval s=v) (hown:Own w E B v xs) {vx:Value} {news:List Value} (hx:a.eval x=vx) (hr:Rd w vx news)
 (h1:∀ u∈news,u.oneCell'=true) (hB:B≤w.heap.size) (hbytes:(xs.length+news.length) * bytes≤140737488355328) (h63:xs.length+news.length≤9223372036854775807)
 (h:∀ b c w',Own w' E B (.slice b (xs.length+news.length) c) (xs++news)→w.grownBy w' v.ownBlock →
  ((Value.slice b (xs.length+news.length) c).ownBlock=v.ownBlock∨(Value.slice b (xs.length+news.length) c).ownBlock=some w.heap.size) →
  K (a.put o.dst (.slice b (xs.length+news.length) c)) w'):if Region.wanted o (yielded ops a.tmps)=true then Oper.wp P o a w K Q else F:=by
 have hw:Region.wanted o (yielded ops a.tmps)=true:=by simp [Region.wanted,hgd]
 rw [if_pos hw]
 exact wp_app s x t ho ht hs hown hx hr h1 hB hbytes h63 h
theorem rd_one (w:World) (E:Nat) (u:Value):Rd (w.alloc (.cells #[u] E)) (.slice (some ⟨w.heap.size,0,none⟩) 1 1) [u] :=
 ⟨_,1,rfl,by simp,by omega,fun _=>⟨_,rfl,fun j x hj=>by
  match j,hj with
  | 0,hj=>simpa [Addr.add] using hj⟩⟩
theorem step_app1 {w:World} {ops:Array Oper} {o:Oper} {a:Act} {K:Act→World→Prop} {Q:Exit→Act→World→Prop} {F:Prop} (hgd:o.guard=none) (s x:Operand) (t:TypeId)
 (ho:o.op=.call { callee:=.builtin .append,args:=#[s,x],argTypes:=#[t,t] })
 {E B bytes:Nat} {z:Value} (ht:ElemOk P t E bytes z) {v u:Value} {xs:List Value} (hs:a.eval s=v) (hown:Own w E B v xs) (hx:a.eval x=.slice (some ⟨w.heap.size,0,none⟩) 1 1)
 (h1:u.oneCell'=true) (hB:B≤w.heap.size) (hbytes:(xs.length+1) * bytes≤140737488355328) (h63:xs.length+1≤9223372036854775807)
 (h:∀ b c w',Own w' E B (.slice b (xs.length+1) c) (xs++[u])→w.grownBy w' v.ownBlock →
  ((Value.slice b (xs.length+1) c).ownBlock=v.ownBlock∨∃ k,w.heap.size≤k∧(Value.slice b (xs.length+1) c).ownBlock=some k) →
  K (a.put o.dst (.slice b (xs.length+1) c)) w'):if Region.wanted o (yielded ops a.tmps)=true then Oper.wp P o a (w.alloc (.cells #[u] E)).drew K Q else F:=by
 refine step_app hgd s x t ho ht hs (hown.alloc _).drew hx (rd_one w E u).drew (by simpa using h1) (by simp;omega) (by simpa using hbytes) (by simpa using h63) fun b c w' h2 h3 h4=>?_
 simp only [List.length_cons,List.length_nil,Nat.zero_add] at h2 h3 h4 ⊢
 refine h b c w' h2 ⟨h3.os,h3.tape,h3.output,by have:=h3.size;simp at this;omega,fun k hk hne=>(h3.block k (by simp;omega) hne).trans (Below.heap_alloc w _ k hk)⟩ ?_
 rcases h4 with h4 | h4
 · exact .inl h4
 · exact .inr ⟨_,by simp,h4⟩
theorem wpList_app1 {w:World} {ops:Array Oper} {rest:List Oper} {o:Oper} {a:Act} {Q:Exit→Act→World→Prop} (hgd:o.guard=none) (s x:Operand) (t:TypeId)
 (ho:o.op=.call { callee:=.builtin .append,args:=#[s,x],argTypes:=#[t,t] })
 {E B bytes:Nat} {z:Value} (ht:ElemOk P t E bytes z) {v u:Value} {xs:List Value} (hs:a.eval s=v) (hown:Own w E B v xs) (hx:a.eval x=.slice (some ⟨w.heap.size,0,none⟩) 1 1)
 (h1:u.oneCell'=true) (hB:B≤w.heap.size) (hbytes:(xs.length+1) * bytes≤140737488355328) (h63:xs.length+1≤9223372036854775807)
 (h:∀ b c w',Own w' E B (.slice b (xs.length+1) c) (xs++[u])→w.grownBy w' v.ownBlock →
  ((Value.slice b (xs.length+1) c).ownBlock=v.ownBlock∨∃ k,w.heap.size≤k∧(Value.slice b (xs.length+1) c).ownBlock=some k) →
  wpList P ops Q rest (a.put o.dst (.slice b (xs.length+1) c)) w'):wpList P ops Q (o :: rest) a (w.alloc (.cells #[u] E)):=by
 refine wpList_app hgd s x t ho ht hs (hown.alloc _) hx (rd_one w E u) (by simpa using h1) (by simp;omega) (by simpa using hbytes) (by simpa using h63) fun b c w' h2 h3 h4=>?_
 simp only [List.length_cons,List.length_nil,Nat.zero_add] at h2 h3 h4 ⊢
 refine h b c w' h2 ⟨h3.os,h3.tape,h3.output,by have:=h3.size;simp at this;omega,fun k hk hne=>(h3.block k (by simp;omega) hne).trans (Below.heap_alloc w _ k hk)⟩ ?_
 rcases h4 with h4 | h4
 · exact .inl h4
 · exact .inr ⟨_,by simp,h4⟩
theorem Own.lit0 {B:Nat} (w:World) (E:Nat) (hb:B≤w.heap.size):Own (w.alloc (.cells #[] E)) E B (.slice (some ⟨w.heap.size,0,none⟩) 0 0) (ints []):=Own.lit w E B #[] hb (by simp)
theorem Below.alloc' {B:Nat} {a w:World} (h:Below B a w) (hB:B≤a.heap.size) (o:Obj):Below B a (w.alloc o):=h.alloc (Nat.le_trans hB h.size) o
theorem wpList_mk {w:World} {ops:Array Oper} {rest:List Oper} {o:Oper} {a:Act} {Q:Exit→Act→World→Prop} (hgd:o.guard=none) (l c:Operand) (t:TypeId) (hop:o.op=Op.makeSlice t l c)
 {E B bytes:Nat} {z:Value} (ht:ElemOk P t E bytes z) {n:Nat} (hl:a.eval l=.int .i64 (n:Int)) (hc:a.eval c=.int .i64 (n:Int)) (hB:B≤w.heap.size) (hbytes:bytes * n≤281474976710656) (h63:n≤9223372036854775807)
 (h:∀ b w',b.block=w.heap.size→Own w' E B (.slice (some b) n n) (List.replicate n z)→w.grownBy w' none→wpList P ops Q rest (a.put o.dst (.slice (some b) n n)) w') :
 wpList P ops Q (o :: rest) a w:=by
 obtain ⟨i,hu,hi,hz,hs1,hby,hzs⟩:=ht.ex
 refine wpList_plain hgd fun K hK'=>?_
 have hb':(i.bytes:Int) * (n:Int)≤281474976710656:=by
  have h:((i.bytes * n:Nat):Int)≤281474976710656:=by rw [hby];omega
  rwa [Int.natCast_mul] at h
 have hr:=run_make (P:=P) w t E i z hu hi hz .i64 .i64 n n (by omega) (Int.le_refl _) hb' (by omega)
 simp only [Int.toNat_natCast] at hr
 unfold Oper.wp
 simp only [execOp,hop,hl,hc,hr,Sem.run_bind,Sem.run_pure,Result.andThen,Oper.upon_value]
 refine hK' _ _ (h _ _ rfl ?_ (World.grownBy_alloc w _ none))
 have hcs:(madeCells z.cells (n * i.size)).size=n:=by rw [size_madeCells,hs1];omega
 have e:(madeCells z.cells (n * i.size)).toList=List.replicate n z:=by
  rw [hzs,hs1,Nat.mul_one,toList_madeCells_one]
 have hown:=Own.lit w E B (madeCells z.cells (n * i.size)) hB (by omega)
 rw [hcs,e] at hown
 exact hown
end
section
variable {w w':World} {E B:Nat} {xs:List Int} {a:Option Addr} {n c k:Nat}
theorem Rd.int (h:Rd w (.slice a n c) (ints xs)) (hk:k < xs.length):∃ ad x,a=some ad∧w.cell? (ad.add k)=some (.int .i64 x)∧Hid (xs[k]?=some x):=by
 obtain ⟨ad,h1,h2⟩:=h.cell (k:=k) (by simpa [ints] using hk)
 refine ⟨ad,xs[k],h1,by rw [h2];simp [ints],List.getElem?_eq_getElem hk⟩
theorem Own.seti (h:Own w E B (.slice a n c) (ints xs)) {ad:Addr} (ha:a=some ad) (hk:k < xs.length) (y:Int) :
 Own (w.setCell (ad.add k) (.int .i64 y)) E B (.slice a n c) (ints (xs.set k y))∧w.grownBy (w.setCell (ad.add k) (.int .i64 y)) (some ad.block):=by
 rw [ints_set]
 exact h.set ha (by simpa [ints] using hk) _
theorem Rd.formi {v:Value} (h:Rd w v (ints xs)):∃ (a:Option Addr) (c:Nat),v=.slice a xs.length c∧xs.length≤c∧c≤9223372036854775807:=by
 obtain ⟨a,c,h1,h2,h3⟩:=h.form
 exact ⟨a,c,by simpa [ints] using h1,by simpa [ints] using h2,h3⟩
theorem Own.below_set (h:Own w E B (.slice a n c) (ints xs)) {ad:Addr} (ha:a=some ad) (hk:k < xs.length) (u:Value) {w0:World} {B0:Nat} (hb:Below B0 w0 w) (hB:B0≤B):Below B0 w0 (w.setCell (ad.add k) u):=by
 refine hb.setCell ?_ u
 rw [block_of_add]
 subst ha
 have:=(h.lt _ rfl).1
 omega
end
structure Chg (B T:Nat) (w w':World):Prop where
 os:w'.os=w.os
 tape:w'.tape=w.tape
 output:w'.output=w.output
 size:w.heap.size≤w'.heap.size
 block:∀ k,k < w.heap.size→(k < B∨T≤k)→w'.heap[k]?=w.heap[k]?
section
variable {w w' w2 w0:World} {v:Value} {xs:List Value} {B T B' T' E:Nat}
theorem Chg.row {row:Option Nat} (hg:w.grownBy w' row) (h:∀ k,row=some k→B≤k∧k < T):Chg B T w w' :=
 ⟨hg.os,hg.tape,hg.output,hg.size,fun k hk hd=>hg.block k hk (fun e=>by have:=h k e.symm;omega)⟩
theorem Chg.refl (B T:Nat) (w:World):Chg B T w w:=⟨rfl,rfl,rfl,Nat.le_refl _,fun _ _ _=>rfl⟩
theorem Chg.trans (h:Chg B T w w') (k:Chg B T w' w2):Chg B T w w2 :=
 ⟨k.os.trans h.os,k.tape.trans h.tape,k.output.trans h.output,Nat.le_trans h.size k.size,fun i hi hd=>(k.block i (Nat.lt_of_lt_of_le hi h.size) hd).trans (h.block i hi hd)⟩
theorem Chg.setCell (h:Chg B T w w') {p:Addr} (hp:B≤p.block) (hp2:p.block < T) (u:Value):Chg B T w (w'.setCell p u) :=
 ⟨h.os,h.tape,h.output,by simpa using h.size,fun k hk hd=>(heap_setCell_other w' p k u (by omega)).trans (h.block k hk hd)⟩
theorem Own.chg (h:Own w E B v xs) (hc:Chg B' T' w w') (hd:∀ k,v.ownBlock=some k→k < B'∨T'≤k):Own w' E B v xs :=
 h.keep fun k hk he=>hc.block k hk (hd k he.symm)
end
def Dr (w w':World):Prop:=∃ n,w.drewN n=w'
section
variable {w w' w2:World} {v:Value} {xs:List Value}
theorem Dr.refl (w:World):Dr w w:=⟨0,rfl⟩
theorem Dr.step (h:Dr w w') (n:Nat):Dr w (w'.drewN n):=by
 obtain ⟨m,rfl⟩:=h
 exact ⟨_,(World.drewN_drewN _ _ _).symm⟩
theorem Dr.trans (h:Dr w w') (k:Dr w' w2):Dr w w2:=by
 obtain ⟨m,rfl⟩:=k
 exact h.step m
theorem Dr.below (h:Dr w w') (B:Nat):Below B w w':=by
 obtain ⟨m,rfl⟩:=h
 exact ⟨rfl,rfl,rfl,Nat.le_refl _,fun _ _=>rfl⟩
theorem Dr.size (h:Dr w w'):w'.heap.size=w.heap.size:=by
 obtain ⟨m,rfl⟩:=h
 rfl
theorem Rd.dr (h:Rd w v xs) (hw:Dr w w'):Rd w' v xs:=h.below (hw.below _)
theorem Own.dr {E B:Nat} (h:Own w E B v xs) (hw:Dr w w'):Own w' E B v xs:=h.below (hw.below _)
end
def Rd2 (w:World) (v:Value) (xss:List (List Int)):Prop :=
 ∃ rows:List Value,Rd w v rows∧rows.length=xss.length∧∀ (i:Nat) (r:Value),rows[i]?=some r→∃ xs:List Int,xss[i]?=some xs∧Rd w r (ints xs)
def I64 (n:Int):Prop:=-9223372036854775808≤n∧n≤9223372036854775807
def I64s (xs:List Int):Prop:=∀ x∈xs,I64 x
def I64ss (xss:List (List Int)):Prop:=∀ xs∈xss,I64s xs
def Law (w:World) (e:Ending) (w':World):Prop:=e=.returned (.bool true)∧Below w.heap.size w w'
section
variable {w w':World} {v:Value} {xss:List (List Int)}
theorem Rd2.nil (w:World):Rd2 w (.slice none 0 0) []:=⟨[],Rd.nil w,rfl,fun i r h=>by simp at h⟩
theorem Rd2.form (h:Rd2 w v xss):∃ (a:Option Addr) (c:Nat),v=.slice a xss.length c∧xss.length≤c∧c≤9223372036854775807:=by
 obtain ⟨rows,h1,h2,_⟩:=h
 obtain ⟨a,c,e,h3,h4⟩:=h1.form
 exact ⟨a,c,by rw [←h2];exact e,by omega,h4⟩
theorem Rd2.row {a:Option Addr} {n c k:Nat} (h:Rd2 w (.slice a n c) xss) (hk:k < xss.length) :
 ∃ ad b m d xs,a=some ad∧w.cell? (ad.add k)=some (.slice b m d)∧Hid (xss[k]?=some xs)∧Hid (m=xs.length)∧m≤d∧d≤9223372036854775807∧Rd w (.slice b m d) (ints xs):=by
 obtain ⟨rows,h1,h2,h3⟩:=h
 obtain ⟨ad,e,hc⟩:=h1.cell (k:=k) (by omega)
 obtain ⟨xs,hx,hr⟩:=h3 k _ (List.getElem?_eq_getElem (by omega))
 obtain ⟨b,d,hv,h4,h5⟩:=hr.formi
 rw [hv] at hc hr
 exact ⟨ad,b,_,d,xs,e,hc,hx,rfl,h4,h5,hr⟩
theorem Rd2.keep (h:Rd2 w v xss) (hb:∀ p:Addr,p.block < w.heap.size→w'.cell? p=w.cell? p):Rd2 w' v xss:=by
 obtain ⟨rows,h1,h2,h3⟩:=h
 refine ⟨rows,h1.keep fun p hp _=>hb p hp,h2,fun i r hr=>?_⟩
 obtain ⟨xs,hx,h4⟩:=h3 i r hr
 exact ⟨xs,hx,h4.keep fun p hp _=>hb p hp⟩
theorem Rd2.below (h:Rd2 w v xss) (hb:Below w.heap.size w w'):Rd2 w' v xss:=h.keep fun _ hp=>hb.cell hp
theorem Rd2.dr (h:Rd2 w v xss) (hw:Dr w w'):Rd2 w' v xss:=h.below (hw.below _)
theorem Rd2.drew (h:Rd2 w v xss):Rd2 w.drew v xss:=h
theorem Rd2.drewN (h:Rd2 w v xss) (n:Nat):Rd2 (w.drewN n) v xss:=h
theorem Rd2.alloc (h:Rd2 w v xss) (o:Obj):Rd2 (w.alloc o) v xss:=h.keep fun _ hp=>World.cell?_alloc_lt w o _ hp
end
def RowsOwn (w:World) (E B T:Nat) (rows:List Value) (xss:List (List Int)):Prop :=
 rows.length=xss.length ∧
 (∀ (i:Nat) (r:Value),rows[i]?=some r→∃ xs:List Int,xss[i]?=some xs∧Own w E B r (ints xs)∧∀ k,r.ownBlock=some k→k < T) ∧
 (∀ (i j:Nat) (r s:Value),i < j→rows[i]?=some r→rows[j]?=some s→∀ k,r.ownBlock=some k→s.ownBlock≠some k)
def Own2 (w:World) (EO E B T:Nat) (v:Value) (xss:List (List Int)):Prop :=
 ∃ rows:List Value,Own w EO B v rows∧(∀ k,v.ownBlock=some k→k < T)∧RowsOwn w E B T rows xss
section
variable {w w':World} {E EO B B' T T':Nat} {v r:Value} {rows:List Value} {xs:List Int} {xss:List (List Int)}
theorem Own.elem_ne {F B2:Nat} {u:Value} {ys:List Value} (h:Own w E B v rows) (k:Own w F B2 u ys) (hne:E≠F):∀ g,v.ownBlock=some g→u.ownBlock≠some g:=by
 intro g h1 h2
 rcases h with ⟨rfl,_⟩ | ⟨g1,o1,c1,cur1,rfl,_,hh1,_⟩
 · cases h1
 · rcases k with ⟨rfl,_⟩ | ⟨g2,o2,c2,cur2,rfl,_,hh2,_⟩
   · cases h2
   · simp only [Value.ownBlock,Option.some.injEq] at h1 h2
     subst h1
     subst h2
     rw [hh1] at hh2
     injection hh2 with hh2
     injection hh2 with _ e
     exact hne e
theorem RowsOwn.nil (w:World) (E B T:Nat):RowsOwn w E B T [] []:=⟨rfl,fun i r h=>by simp at h,fun i j r s _ h=>by simp at h⟩
theorem RowsOwn.mono (h:RowsOwn w E B T rows xss) (hB:B'≤B) (hT:T≤T'):RowsOwn w E B' T' rows xss :=
 ⟨h.1,fun i r hr=>by
  obtain ⟨xs,h1,h2,h3⟩:=h.2.1 i r hr
  exact ⟨xs,h1,h2.mono hB,fun k hk=>Nat.lt_of_lt_of_le (h3 k hk) hT⟩,h.2.2⟩
theorem RowsOwn.keep (h:RowsOwn w E B T rows xss) (hk:∀ r∈rows,∀ k,k < w.heap.size→some k=r.ownBlock→w'.heap[k]?=w.heap[k]?):RowsOwn w' E B T rows xss :=
 ⟨h.1,fun i r hr=>by
  obtain ⟨xs,h1,h2,h3⟩:=h.2.1 i r hr
  exact ⟨xs,h1,h2.keep (hk r (List.mem_of_getElem? hr)),h3⟩,h.2.2⟩
theorem RowsOwn.below (h:RowsOwn w E B T rows xss) (hb:Below w.heap.size w w'):RowsOwn w' E B T rows xss:=h.keep fun _ _ k hk _=>hb.block k hk
theorem RowsOwn.alloc (h:RowsOwn w E B T rows xss) (o:Obj):RowsOwn (w.alloc o) E B T rows xss:=h.keep fun _ _ k hk _=>Below.heap_alloc w o k hk
theorem RowsOwn.row (h:RowsOwn w E B T rows xss) {i:Nat} (hr:rows[i]?=some r):∃ xs:List Int,xss[i]?=some xs∧Own w E B r (ints xs):=by
 obtain ⟨xs,h1,h2,_⟩:=h.2.1 i r hr
 exact ⟨xs,h1,h2⟩
theorem RowsOwn.grown {row:Option Nat} (h:RowsOwn w E B T rows xss) (hg:w.grownBy w' row) (hne:∀ r∈rows,∀ k,r.ownBlock=some k→row≠some k):RowsOwn w' E B T rows xss :=
 h.keep fun r hr k hk e=>hg.block k hk (fun e2=>hne r hr k e.symm e2.symm)
theorem RowsOwn.outer {u:Value} {ys:List Value} (h:RowsOwn w E B T rows xss) (hg:w.grownBy w' u.ownBlock) (hu:Own w EO B' u ys) (hne:EO≠E):RowsOwn w' E B T rows xss :=
 h.grown hg fun r hr k hk e=>by
  obtain ⟨i,hi,rfl⟩:=List.getElem_of_mem hr
  obtain ⟨xs,_,h2⟩:=h.row (List.getElem?_eq_getElem hi)
  exact hu.elem_ne h2 hne k e hk
theorem RowsOwn.chg {C D:Nat} (h:RowsOwn w E B T rows xss) (hc:Chg C D w w') (hd:T≤C∨D≤B):RowsOwn w' E B T rows xss :=
 ⟨h.1,fun i r hr=>by
  obtain ⟨xs,h1,h2,h3⟩:=h.2.1 i r hr
  exact ⟨xs,h1,h2.chg hc fun k hk=>by have:=h3 k hk;have:=(h2.lt k hk).1;omega,h3⟩,h.2.2⟩
theorem RowsOwn.snoc (h:RowsOwn w E B T rows xss) (hr:Own w E B r (ints xs)) (hf:∀ k,r.ownBlock=some k→T≤k∧k < T') (hT:T≤T'):RowsOwn w E B T' (rows++[r]) (xss++[xs]):=by
 refine ⟨by simp [h.1],fun i s hs=>?_,fun i j s u hij hs hu k hk=>?_⟩
 · rw [List.getElem?_append] at hs
   by_cases e:i < rows.length
   · rw [if_pos e] at hs
     obtain ⟨ys,h1,h2,h3⟩:=h.2.1 i s hs
     exact ⟨ys,by rw [List.getElem?_append_left (by rw [←h.1];exact e)];exact h1,h2,fun k hk=>Nat.lt_of_lt_of_le (h3 k hk) hT⟩
   · rw [if_neg e] at hs
     have h1:i - rows.length=0:=by
      have:=(List.getElem?_eq_some_iff.1 hs).1
      simp at this
      omega
     rw [h1] at hs
     simp at hs
     subst hs
     exact ⟨xs,by rw [List.getElem?_append_right (by rw [←h.1];omega),←h.1,h1];rfl,hr,fun k hk=>(hf k hk).2⟩
 · rw [List.getElem?_append] at hs hu
   have hj:=hu
   by_cases e2:j < rows.length
   · rw [if_pos e2] at hu
     rw [if_pos (by omega)] at hs
     exact h.2.2 i j s u hij hs hu k hk
   · rw [if_neg e2] at hu
     have h1:j - rows.length=0:=by
      have:=(List.getElem?_eq_some_iff.1 hu).1
      simp at this
      omega
     rw [h1] at hu
     simp at hu
     subst hu
     rw [if_pos (by omega)] at hs
     obtain ⟨ys,_,_,h3⟩:=h.2.1 i s hs
     intro e
     have:=(hf k e).1
     have:=h3 k hk
     omega
theorem Own2.rd (h:Own2 w EO E B T v xss):Rd2 w v xss:=by
 obtain ⟨rows,h1,_,h3⟩:=h
 refine ⟨rows,h1.rd,h3.1,fun i r hr=>?_⟩
 obtain ⟨xs,h4,h5⟩:=h3.row hr
 exact ⟨xs,h4,h5.rd⟩
theorem Own2.below (h:Own2 w EO E B T v xss) (hb:Below w.heap.size w w'):Own2 w' EO E B T v xss:=by
 obtain ⟨rows,h1,h2,h3⟩:=h
 exact ⟨rows,h1.below hb,h2,h3.below hb⟩
theorem Own2.chg {C D:Nat} (h:Own2 w EO E B T v xss) (hc:Chg C D w w') (hd:T≤C∨D≤B):Own2 w' EO E B T v xss:=by
 obtain ⟨rows,h1,h2,h3⟩:=h
 exact ⟨rows,h1.chg hc fun k hk=>by have:=h2 k hk;have:=(h1.lt k hk).1;omega,h2,h3.chg hc hd⟩
theorem Own2.mono (h:Own2 w EO E B T v xss) (hB:B'≤B) (hT:T≤T'):Own2 w EO E B' T' v xss:=by
 obtain ⟨rows,h1,h2,h3⟩:=h
 exact ⟨rows,h1.mono hB,fun k hk=>Nat.lt_of_lt_of_le (h2 k hk) hT,h3.mono hB hT⟩
theorem Own2.nil (w:World) (EO E B T:Nat):Own2 w EO E B T (.slice none 0 0) []:=⟨[],Own.nil w EO B,(fun k h=>by cases h),RowsOwn.nil w E B T⟩
theorem Own2.form (h:Own2 w EO E B T v xss):∃ (a:Option Addr) (c:Nat),v=.slice a xss.length c∧xss.length≤c∧c≤9223372036854775807:=h.rd.form
end
def adjB (ys:List Int):Bool:=(List.range (ys.length - 1)).all fun i=>decide (ys.getD i 0≤ys.getD (i+1) 0)
theorem adjB_iff {ys:List Int} : adjB ys=true↔∀ i a b,ys[i]?=some a→ys[i+1]?=some b→a≤b:=by
 simp only [adjB,List.all_eq_true,List.mem_range,decide_eq_true_eq]
 constructor
 · intro h i a b ha hb
   have h1:=(List.getElem?_eq_some_iff.1 hb).1
   have:=h i (by omega)
   simpa [List.getD,ha,hb] using this
 · intro h i hi
   have h1:i < ys.length:=by omega
   have h2:i+1 < ys.length:=by omega
   have:=h i _ _ (List.getElem?_eq_getElem h1) (List.getElem?_eq_getElem h2)
   simpa [List.getD,h1,h2] using this
theorem adjB_no {ys:List Int} {i:Nat} {a b:Int} (ha:ys[i]?=some a) (hb:ys[i+1]?=some b) (h:b < a):adjB ys=false:=by
 cases e:adjB ys
 · rfl
 · have:=adjB_iff.1 e i a b ha hb
   omega
structure Fr (K:Nat→Prop) (w w':World):Prop where
 os:w'.os=w.os
 tape:w'.tape=w.tape
 output:w'.output=w.output
 size:w.heap.size≤w'.heap.size
 block:∀ k,K k→w'.heap[k]?=w.heap[k]?
section
variable {K:Nat→Prop} {w w' w2:World} {E B:Nat} {v:Value} {xs:List Value}
theorem Fr.refl (K:Nat→Prop) (w:World):Fr K w w:=⟨rfl,rfl,rfl,Nat.le_refl _,fun _ _=>rfl⟩
theorem Fr.trans (h:Fr K w w') (k:Fr K w' w2):Fr K w w2:=⟨k.os.trans h.os,k.tape.trans h.tape,k.output.trans h.output,Nat.le_trans h.size k.size,fun i hi=>(k.block i hi).trans (h.block i hi)⟩
theorem Fr.row {r:Option Nat} (hg:w.grownBy w' r) (hr:∀ g,r=some g→¬ K g) (hK:∀ k,K k→k < w.heap.size):Fr K w w' :=
 ⟨hg.os,hg.tape,hg.output,hg.size,fun k hk=>hg.block k (hK k hk) fun e=>hr k e.symm hk⟩
theorem Fr.setCell {p:Addr} (hp:¬ K p.block) (u:Value):Fr K w (w.setCell p u) :=
 ⟨rfl,rfl,rfl,by simp,fun k hk=>heap_setCell_other w p k u fun e=>hp (e ▸ hk)⟩
theorem Fr.below (h:Below w.heap.size w w') (hK:∀ k,K k→k < w.heap.size):Fr K w w':=⟨h.os,h.tape,h.output,h.size,fun k hk=>h.block k (hK k hk)⟩
theorem Fr.mono {K':Nat→Prop} (h:Fr K w w') (hK:∀ k,K' k→K k):Fr K' w w':=⟨h.os,h.tape,h.output,h.size,fun k hk=>h.block k (hK k hk)⟩
theorem Fr.to_below (h:Fr K w w') (hK:∀ k,k < B→K k):Below B w w':=⟨h.os,h.tape,h.output,h.size,fun k hk=>h.block k (hK k hk)⟩
theorem own_ne_box {F g:Nat} {cur:Array Value} (h:Own w E B v xs) (hb:w.heap[g]?=some (.cells cur F (0,0))) (hne:F≠E):v.ownBlock≠some g:=by
 intro e
 rcases h with ⟨rfl,_⟩ | ⟨g1,o1,c1,cur1,rfl,_,hh1,_⟩
 · cases e
 · simp only [Value.ownBlock,Option.some.injEq] at e
   subst e
   rw [hh1] at hb
   injection hb with hb
   injection hb with _ e
   exact hne e.symm
theorem Fr.rd (h:Fr K w w') {u:Value} {ys:List Int} (hr:Rd w u (ints ys)) (hu:0 < ys.length→∀ g,u.ownBlock=some g→K g):Rd w' u (ints ys):=by
 by_cases hy:0 < ys.length
 · exact hr.keep fun p _ e=>World.cell?_of_block (h.block _ (hu hy _ e.symm))
 · obtain ⟨a,c,e,h1,h2,_⟩:=hr
   exact ⟨a,c,e,h1,h2,fun hn=>absurd (by rwa [ints_length] at hn) hy⟩
theorem box_lt {g F:Nat} {cur:Array Value} (hb:w.heap[g]?=some (.cells cur F (0,0))):g < w.heap.size:=(Array.getElem?_eq_some_iff.1 hb).1
theorem box_cell {g F:Nat} {cur:Array Value} (hb:w.heap[g]?=some (.cells cur F (0,0))) (i:Nat):w.cell? ⟨g,i,none⟩=cur[i]?:=cell_of_row w g i cur F (0,0) hb
end
theorem box2 {w:World} {q:Nat} {a b x y:Value} {T:Nat} (h:w.heap[q]?=some (.cells #[a,b] T (0,0))):((w.setCell ⟨q,0,none⟩ x).setCell ⟨q,1,none⟩ y).heap[q]?=some (.cells #[x,y] T (0,0)) :=
 heap_setCell_same _ q 1 _ T y (heap_setCell_same w q 0 _ T x h)
theorem insR_perm (s:List Int) (x:Int):(insR s x).Perm (x :: s):=by
 induction s with
 | nil=>exact List.Perm.refl _
 | cons y t ih =>
   simp only [insR]
   split
   · exact (List.Perm.cons y ih).trans (List.Perm.swap x y t)
   · exact List.Perm.refl _
theorem sortR_perm (xs:List Int):∀ s:List Int,(xs.foldl insR s).Perm (xs++s):=by
 induction xs with
 | nil=>intro s;exact List.Perm.refl _
 | cons x t ih =>
   intro s
   rw [List.foldl_cons]
   refine (ih _).trans ?_
   refine ((insR_perm s x).append_left t).trans ?_
   exact List.perm_middle
theorem srt_perm (xs:List Int):(srt xs).Perm xs:=by
 have:=sortR_perm xs []
 rw [List.append_nil] at this
 exact (List.reverse_perm _).trans this
theorem srt_pair (xs:List Int):(srt xs).Pairwise (·≤·):=by
 have:=srt_desc xs
 rw [Desc,List.pairwise_reverse] at this
 exact this
theorem srt_unique {xs ys:List Int} (hp:ys.Perm xs) (hs:ys.Pairwise (·≤·)):ys=srt xs :=
 List.Perm.eq_of_pairwise (fun a b _ _ h1 h2=>Int.le_antisymm h1 h2) hs (srt_pair xs) (hp.trans (srt_perm xs).symm)
theorem srt_congr {xs ys:List Int} (hp:ys.Perm xs):srt ys=srt xs:=srt_unique ((srt_perm ys).trans hp) (srt_pair ys)
def headOf (xss:List (List Int)) (t:List Int) (a:Nat):Option Int:=(xss[a]?).bind fun xs=>(t[a]?).bind fun n=>xs[n.toNat]?
def key (xss:List (List Int)) (t:List Int) (a:Nat):Int:=(headOf xss t a).getD 18446744073709551616 * 1024+a
def playRound (f:Int→Int):List Int→List Int × List Int
 | a :: b :: t=>if f a < f b then (a :: (playRound f t).1,b :: (playRound f t).2) else (b :: (playRound f t).1,a :: (playRound f t).2)
 | [a]=>([a],[])
 | []=>([],[])
theorem playRound_sub (f:Int→Int):∀ xs,(playRound f xs).1.Sublist xs
 | []=>by simp [playRound]
 | [a]=>by simp [playRound]
 | a :: b :: t=>by
   have:=playRound_sub f t
   simp only [playRound]
   split
   · exact (this.cons _).cons_cons _
   · exact (this.cons_cons _).cons _
def stairs (n:Nat):List Int:=(List.range n).map fun (i:Nat)=>(i:Int)
theorem stairs_succ (n:Nat):stairs (n+1)=stairs n++[(n:Int)]:=by simp [stairs,List.range_succ]
theorem stairs_length (n:Nat):(stairs n).length=n:=by simp [stairs]
theorem stairs_get {n k:Nat} {x:Int} (h:(stairs n)[k]?=some x):x=k∧k < n:=by
 unfold stairs at h
 rw [List.getElem?_map] at h
 have hk:=(List.getElem?_eq_some_iff.1 (show (List.map (fun (i:Nat)=>(i:Int)) (List.range n))[k]?=some x by rw [List.getElem?_map];exact h)).1
 simp at hk
 rw [List.getElem?_range hk] at h
 simp at h
 exact ⟨h.symm,hk⟩
theorem stairs_mem {n:Nat} {x:Int} : x∈stairs n↔∃ k:Nat,k < n∧x=k:=by
 simp only [stairs,List.mem_map,List.mem_range]
 constructor
 · rintro ⟨k,hk,rfl⟩;exact ⟨k,hk,rfl⟩
 · rintro ⟨k,hk,rfl⟩;exact ⟨k,hk,rfl⟩
theorem stairs_sorted (n:Nat):(stairs n).Pairwise (· < ·):=by
 unfold stairs
 rw [List.pairwise_map]
 exact List.pairwise_lt_range.imp (by intro a b h;omega)
theorem insK_perm (key:Int→Int) (s:List Int) (x:Int):(insK key s x).Perm (x :: s):=by
 induction s with
 | nil=>exact List.Perm.refl _
 | cons y t ih =>
   simp only [insK]
   split
   · exact (List.Perm.cons y ih).trans (List.Perm.swap x y t)
   · exact List.Perm.refl _
theorem sortK_perm (key:Int→Int) (xs:List Int):∀ s:List Int,(xs.foldl (insK key) s).Perm (xs++s):=by
 induction xs with
 | nil=>intro s;exact List.Perm.refl _
 | cons x t ih =>
   intro s
   rw [List.foldl_cons]
   refine (ih _).trans ?_
   refine ((insK_perm key s x).append_left t).trans ?_
   exact List.perm_middle
theorem srtS_perm (key:Int→Int) (xs:List Int):(srtS key xs).Perm xs:=by
 have:=sortK_perm key xs []
 rw [List.append_nil] at this
 exact (List.reverse_perm _).trans this
theorem setAll_get (q:List Int) (at_:Int):∀ (d:List Int) (i:Nat),i < d.length→(∀ x∈q,0≤x)→(setAll d q at_)[i]?=if (i:Int)∈q then some (at_ - (i:Int)) else d[i]?:=by
 induction q with
 | nil=>intro d i _ _;simp [setAll]
 | cons x t ih =>
   intro d i hi hx
   have h0:=hx x (by simp)
   have:=ih (d.set x.toNat (at_ - x)) i (by simpa using hi) (fun y hy=>hx y (by simp [hy]))
   rw [setAll] at this
   rw [setAll,List.foldl_cons,this]
   by_cases h1:(i:Int)∈t
   · simp [h1]
   · by_cases h2:(i:Int)=x
     · subst h2
       simp [h1,hi]
     · have h3:x.toNat≠i:=by omega
       simp [h1,h2,List.getElem?_set,h3]
section
variable {T:List Int} {s:Int}
def mkf (T:List Int) (s:Int) (k:Nat):Int:=(lrun T s k).mark
def Lex (T:List Int) (a b:Int):Prop:=ltK T a < ltK T b∨(ltK T a=ltK T b∧a < b)
theorem mkf_succ (k:Nat):mkf T s (k+1)=max (mkf T s k) (T.getD k 0 - s):=rfl
theorem mkf_mono {i j:Nat} (h:i≤j):mkf T s i≤mkf T s j:=by
 induction h with
 | refl=>exact Int.le_refl _
 | step _ ih=>rw [mkf_succ];omega
theorem lex_of {key:Int→Int} {ys:List Int} (h:KAsc key ys) (hf:∀ v,(ys.filter fun x=>decide (key x=v)).Pairwise (· < ·)):ys.Pairwise fun a b=>key a < key b∨(key a=key b∧a < b):=by
 rw [List.pairwise_iff_forall_sublist]
 intro a b hs
 have h1:key a≤key b:=List.pairwise_iff_forall_sublist.1 h hs
 by_cases e:key a=key b
 · refine .inr ⟨e,?_⟩
   have h2:=hs.filter (fun x=>decide (key x=key b))
   have h3:[a,b].filter (fun x=>decide (key x=key b))=[a,b]:=by simp [e]
   rw [h3] at h2
   exact List.pairwise_iff_forall_sublist.1 (hf _) h2
 · exact .inl (by omega)
theorem lex_filter {key:Int→Int} {ys:List Int} (h:ys.Pairwise fun a b=>key a < key b∨(key a=key b∧a < b)) (v:Int):(ys.filter fun x=>decide (key x=v)).Pairwise (· < ·):=by
 refine List.Pairwise.imp_of_mem ?_ (h.sublist List.filter_sublist)
 intro a b ha hb hab
 have h1:=of_decide_eq_true (List.mem_filter.1 ha).2
 have h2:=of_decide_eq_true (List.mem_filter.1 hb).2
 rcases hab with hab | hab
 · omega
 · exact hab.2
theorem lex_srt {key:Int→Int} {W:List Int} {k:Int} (h:W.Pairwise fun a b=>key a < key b∨(key a=key b∧a < b)) (hk:∀ x∈W,x < k):(srtS key (W++[k])).Pairwise fun a b=>key a < key b∨(key a=key b∧a < b):=by
 refine lex_of (srtS_asc _) fun v=>?_
 rw [srtS_stab (W++[k]) v,List.filter_append]
 refine List.pairwise_append.2 ⟨lex_filter h v,?_,fun a ha b hb=>?_⟩
 · by_cases e:key k=v
   · simp [e]
   · simp [e]
 · have h1:=List.mem_singleton.1 (List.mem_filter.1 hb).1
   subst h1
   exact hk a (List.mem_filter.1 ha).1
structure LF (T:List Int) (s:Int) (k:Nat) (L:LS):Prop where
 perm:((L.out++L.w)++L.late).Perm (stairs k)
 outS:L.out.Pairwise (Lex T)
 wS:L.w.Pairwise (Lex T)
 outLe:∀ x∈L.out,ltK T x≤L.mark
 wGt:∀ x∈L.w,L.mark < ltK T x
 marks:∀ j,j < k→L.marks[j]?=some (mkf T s (j+1))
 outD:∀ x∈L.out,∃ i p:Nat,x=i∧i≤p∧p < k∧L.del[i]?=some ((p:Int) - (i:Int))∧ltK T x≤mkf T s (p+1)∧(p=i∨mkf T s p < ltK T x)
 lateD:∀ x∈L.late,∃ i:Nat,x=i∧i < k∧L.del[i]?=some (-1)∧ltK T x < mkf T s i
 none:L.late=[]↔∀ i,i < k→mkf T s i≤T.getD i 0
theorem LF.start:LF T s 0 (lS0 T.length) where
 perm:=by simp [lS0,stairs]
 outS:=List.Pairwise.nil
 wS:=List.Pairwise.nil
 outLe:=fun x h=>by simp [lS0] at h
 wGt:=fun x h=>by simp [lS0] at h
 marks:=fun j h=>by omega
 outD:=fun x h=>by simp [lS0] at h
 lateD:=fun x h=>by simp [lS0] at h
 none:=⟨fun _ i h=>by omega,fun _=>rfl⟩
theorem split_perm (p:Int→Bool) (Q:List Int):(Q.filter p++Q.filter fun x=>!p x).Perm Q:=List.filter_append_perm p Q
theorem LF.step {k:Nat} {L:LS} (hk:k < T.length) (hm:L.mark=mkf T s k) (H:LInv T s k L) (F:LF T s k L) (hm1:lmk T s L k=mkf T s (k+1)):LF T s (k+1) (lstep T s L k):=by
 have hmono:mkf T s k≤mkf T s (k+1):=mkf_mono (by omega)
 have hnd:((L.out++L.w)++L.late).Nodup:=F.perm.nodup_iff.2 ((stairs_sorted k).imp (by intro a b h;omega))
 obtain ⟨n1,n2,n3⟩:=List.nodup_append.1 hnd
 obtain ⟨n4,n5,n6⟩:=List.nodup_append.1 n1
 obtain ⟨Q,hQ⟩:∃ Q,lq T L k=Q:=⟨_,rfl⟩
 obtain ⟨D2,hD2⟩:∃ D2,(if T.getD k 0 < L.mark then L.del.set k (-1) else L.del)=D2:=⟨_,rfl⟩
 obtain ⟨Lt2,hLt2⟩:∃ Lt2,(if T.getD k 0 < L.mark then L.late++[(k:Int)] else L.late)=Lt2:=⟨_,rfl⟩
 obtain ⟨m2,hm2⟩:∃ m2,lmk T s L k=m2:=⟨_,rfl⟩
 have hst:lstep T s L k=⟨Q.filter fun x=>!due T m2 x,L.out++Q.filter (due T m2),Lt2,setAll D2 (Q.filter (due T m2)) (k:Int),L.marks++[m2],max L.most ((Q.filter fun x=>!due T m2 x).length:Int),m2⟩:=by
  rw [←hQ,←hD2,←hLt2,←hm2];rfl
 rw [hm2] at hm1
 have hltk:ltK T (k:Int)=T.getD k 0:=by simp [ltK]
 have hD2l:D2.length=T.length:=by
  rw [←hD2]
  split
  · rw [List.length_set];exact H.del
  · exact H.del
 -- what the waiting ones are
 have hQm:∀ x∈Q,x∈L.w∨(x=k∧¬ T.getD k 0 < L.mark):=fun x hx=>by
  rw [←hQ,lq] at hx
  split at hx
  · exact .inl hx
  · rename_i hn
    rw [srtS_mem,List.mem_append,List.mem_singleton] at hx
    exact hx.imp id fun e=>⟨e,hn⟩
 have hQp:(Q++Lt2).Perm (L.w++(L.late++[(k:Int)])):=by
  rw [←hQ,←hLt2,lq]
  split
  · exact List.Perm.refl _
  · refine ((srtS_perm _ _).append_right _).trans ?_
    rw [List.append_assoc]
    exact List.Perm.append_left _ List.perm_append_comm
 have hQs:Q.Pairwise (Lex T):=by
  rw [←hQ,lq]
  split
  · exact F.wS
  · exact lex_srt F.wS fun x hx=>by
     obtain ⟨j,h1,h2⟩:=H.wlt x hx
     omega
 have hQ0:∀ x∈Q,0≤x:=fun x hx=>by
  rcases hQm x hx with h | h
  · obtain ⟨j,_,h2⟩:=H.wlt x h
    omega
  · omega
 have hQk:∀ x∈Q,x≤(k:Int):=fun x hx=>by
  rcases hQm x hx with h | h
  · obtain ⟨j,_,h2⟩:=H.wlt x h
    omega
  · omega
 have hget:∀ i,i < T.length→(setAll D2 (Q.filter (due T m2)) (k:Int))[i]?=if (i:Int)∈Q.filter (due T m2) then some ((k:Int) - (i:Int)) else D2[i]?:=fun i hi=>setAll_get _ _ _ i (by omega) fun x hx=>hQ0 x (List.mem_filter.1 hx).1
 have hD2get:∀ i,i≠k→D2[i]?=L.del[i]?:=fun i hi=>by
  rw [←hD2]
  split
  · rw [List.getElem?_set_ne (by omega)]
  · rfl
 -- a record of before that doesn't wait isn't among those that go
 have hold:∀ i:Nat,i < k→¬ (i:Int)∈L.w→(setAll D2 (Q.filter (due T m2)) (k:Int))[i]?=L.del[i]?:=fun i hi hw=>by
  rw [hget i (by omega),if_neg,hD2get i (by omega)]
  intro hc
  rcases hQm _ (List.mem_filter.1 hc).1 with h | h
  · exact hw h
  · omega
 rw [hst]
 refine ⟨?_,?_,hQs.sublist List.filter_sublist,fun x hx=>?_,fun x hx=>?_,fun j hj=>?_,fun x hx=>?_,fun x hx=>?_,?_⟩
 · dsimp only
   rw [stairs_succ]
   have h1:(L.out++Q.filter (due T m2)++(Q.filter fun x=>!due T m2 x)++Lt2).Perm (L.out++(Q++Lt2)):=by
    rw [List.append_assoc,List.append_assoc]
    refine List.Perm.append_left _ ?_
    rw [←List.append_assoc]
    exact (split_perm _ _).append_right _
   refine h1.trans ((List.Perm.append_left _ hQp).trans ?_)
   have h2:L.out++(L.w++(L.late++[(k:Int)]))=((L.out++L.w)++L.late)++[(k:Int)]:=by simp
   rw [h2]
   exact F.perm.append_right _
 · dsimp only
   refine List.pairwise_append.2 ⟨F.outS,hQs.sublist List.filter_sublist,fun a ha b hb=>?_⟩
   have h1:=F.outLe a ha
   rcases hQm b (List.mem_filter.1 hb).1 with h | ⟨h,h3⟩
   · exact .inl (by have:=F.wGt b h;omega)
   · subst h
     obtain ⟨j,h4,h5⟩:=H.olt a ha
     by_cases e:ltK T a=ltK T (k:Int)
     · exact .inr ⟨e,by omega⟩
     · exact .inl (by omega)
 · rcases List.mem_append.1 hx with h | h
   · have:=F.outLe x h
     dsimp only
     omega
   · exact of_decide_eq_true (List.mem_filter.1 h).2
 · have h:=(List.mem_filter.1 hx).2
   have h2:¬ ltK T x≤m2:=fun h3=>by rw [due,decide_eq_true h3] at h;cases h
   dsimp only
   omega
 · dsimp only
   have hl:=H.marks
   by_cases e:j < k
   · rw [List.getElem?_append_left (by omega)]
     exact F.marks j e
   · obtain rfl:j=k:=by omega
     rw [List.getElem?_append_right (by omega),hl,hm1]
     simp
 · dsimp only at hx ⊢
   rcases List.mem_append.1 hx with h | h
   · obtain ⟨i,p,rfl,h2,h3,h4,h5,h6⟩:=F.outD x h
     refine ⟨i,p,rfl,h2,by omega,?_,h5,h6⟩
     rw [hold i (by omega) (fun hw=>n6 _ h _ hw rfl)]
     exact h4
   · have hxq:=(List.mem_filter.1 h).1
     have hxd:=of_decide_eq_true (List.mem_filter.1 h).2
     obtain ⟨i,rfl⟩:=Int.eq_ofNat_of_zero_le (hQ0 x hxq)
     have hik:=hQk _ hxq
     refine ⟨i,k,rfl,by omega,by omega,?_,by rw [←hm1];exact hxd,?_⟩
     · rw [hget i (by omega),if_pos h]
     · rcases hQm _ hxq with h7 | h7
       · exact .inr (by have:=F.wGt _ h7;omega)
       · exact .inl (by omega)
 · dsimp only at hx ⊢
   rw [←hLt2] at hx
   have hb:x∈L.late∨(x=k∧T.getD k 0 < L.mark):=by
    split at hx
    · rename_i hl
      exact (List.mem_append.1 hx).imp id fun h=>⟨List.mem_singleton.1 h,hl⟩
    · exact .inl hx
   rcases hb with h | ⟨rfl,h⟩
   · obtain ⟨i,rfl,h2,h3,h4⟩:=F.lateD x h
     refine ⟨i,rfl,by omega,?_,h4⟩
     rw [hold i h2 (fun hw=>n3 _ (List.mem_append_right _ hw) _ h rfl)]
     exact h3
   · refine ⟨k,rfl,by omega,?_,by rw [hltk];omega⟩
     rw [hget k hk,if_neg,←hD2,if_pos h,List.getElem?_set_self (by have:=H.del;omega)]
     intro hc
     rcases hQm _ (List.mem_filter.1 hc).1 with h7 | h7
     · obtain ⟨j,h8,h9⟩:=H.wlt _ h7
       omega
     · exact h7.2 h
 · dsimp only
   rw [←hLt2]
   split
   · rename_i hl
     constructor
     · intro h;simp at h
     · intro h;have:=h k (by omega);omega
   · rename_i hl
     rw [F.none]
     constructor
     · intro h i hi
       by_cases e:i < k
       · exact h i e
       · obtain rfl:i=k:=by omega
         omega
     · intro h i hi;exact h i (by omega)
theorem lrun_facts (hT:∀ t∈T,0≤t∧t≤1000) (hs:0≤s∧s≤1000):∀ k,k≤T.length→LF T s k (lrun T s k)
 | 0,_=>LF.start
 | k+1,h=>(lrun_facts hT hs k (by omega)).step (by omega) rfl (lrun_inv hT hs k (by omega)) rfl
def hiK (T:List Int):Nat→Int
 | 0=>0
 | k+1=>max (hiK T k) (T.getD k 0)
def slackK (T:List Int):Nat→Int
 | 0=>0
 | k+1=>max (slackK T k) (hiK T (k+1) - T.getD k 0)
theorem mkf_hi (hT:∀ t∈T,0≤t∧t≤1000) (hs:0≤s∧s≤1000):∀ k,k < T.length→mkf T s (k+1)=hiK T (k+1) - s
 | 0,h=>by
   have : 0≤T.getD 0 0:=by rw [List.getD_eq_getElem?_getD,List.getElem?_eq_getElem h];exact (hT _ (List.getElem_mem _)).1
   rw [mkf_succ,hiK,hiK]
   have e:mkf T s 0 = -1001:=rfl
   rw [e]
   omega
 | k+1,h=>by
   have e:hiK T (k+1+1)=max (hiK T (k+1)) (T.getD (k+1) 0):=rfl
   rw [mkf_succ,mkf_hi hT hs k (by omega),e]
   omega
theorem slack_iff (hT:∀ t∈T,0≤t∧t≤1000) (hs:0≤s∧s≤1000):∀ k,k≤T.length→((∀ i,i < k→mkf T s i≤T.getD i 0)↔slackK T k≤s)
 | 0,_=>⟨fun _=>by rw [slackK];omega,fun _ i h=>by omega⟩
 | k+1,h=>by
   have ih:=slack_iff hT hs k (by omega)
   have h0:0≤T.getD k 0:=by rw [List.getD_eq_getElem?_getD,List.getElem?_eq_getElem (by omega)];exact (hT _ (List.getElem_mem _)).1
   have hstep:mkf T s k≤T.getD k 0↔hiK T (k+1) - T.getD k 0≤s:=by
    cases k with
    | zero =>
      have e:mkf T s 0 = -1001:=rfl
      rw [e,hiK,hiK]
      omega
    | succ j =>
      have e:hiK T (j+1+1)=max (hiK T (j+1)) (T.getD (j+1) 0):=rfl
      rw [mkf_hi hT hs j (by omega),e]
      omega
   rw [slackK]
   constructor
   · intro H
     have h1:=ih.1 fun i hi=>H i (by omega)
     have h2:=hstep.1 (H k (by omega))
     omega
   · intro H i hi
     by_cases e:i < k
     · exact ih.2 (by omega) i e
     · obtain rfl:i=k:=by omega
       exact hstep.2 (by omega)
structure LateFacts (T:List Int) (s:Int):Prop where
 len:(lateOut T s).length+(lateLate T s).length=T.length
 dlen:(lateDel T s).length=T.length
 mlen:(lateMarks T s).length=T.length
 rise:adjB (lateMarks T s)=true
 most0:0≤lateMost T s∧lateMost T s≤(T.length:Int)
 perm:srt (lateOut T s++lateLate T s)=stairs T.length
 order:∀ (k:Nat) x y,(lateOut T s)[k]?=some x→(lateOut T s)[k+1]?=some y→Lex T x y
 each:∀ x∈lateOut T s,∃ i p:Nat,x=i∧i≤p∧p < T.length∧(lateDel T s)[i]?=some ((p:Int) - (i:Int))∧(p+1=T.length∨∃ m,(lateMarks T s)[p]?=some m∧T.getD i 0≤m)∧(p=i∨∃ m,(lateMarks T s)[p - 1]?=some m∧m < T.getD i 0)
 late:∀ x∈lateLate T s,∃ i:Nat,x=i∧1≤i∧i < T.length∧(lateDel T s)[i]?=some (-1)∧∃ m,(lateMarks T s)[i - 1]?=some m∧T.getD i 0 < m
 zero:lateLate T s=[]↔slackK T T.length≤s
theorem late_facts (hT:∀ t∈T,0≤t∧t≤1000) (hs:0≤s∧s≤1000):LateFacts T s:=by
 have F:=lrun_facts hT hs T.length (Nat.le_refl _)
 have H:=lrun_inv hT hs T.length (Nat.le_refl _)
 obtain ⟨L,hL⟩:∃ L,lrun T s T.length=L:=⟨_,rfl⟩
 have hmk:L.mark=mkf T s T.length:=by rw [←hL];rfl
 rw [hL] at F H
 have hnd:((L.out++L.w)++L.late).Nodup:=F.perm.nodup_iff.2 ((stairs_sorted T.length).imp (by intro a b h;omega))
 obtain ⟨n1,n2,n3⟩:=List.nodup_append.1 hnd
 obtain ⟨n4,n5,n6⟩:=List.nodup_append.1 n1
 have hw0:∀ x∈L.w,0≤x:=fun x hx=>by
  obtain ⟨j,_,h2⟩:=H.wlt x hx
  omega
 have hget:∀ i,i < T.length→(setAll L.del L.w ((T.length:Int) - 1))[i]?=if (i:Int)∈L.w then some ((T.length:Int) - 1 - (i:Int)) else L.del[i]?:=fun i hi=>setAll_get _ _ _ i (by rw [H.del];exact hi) hw0
 have hlt:∀ i:Nat,ltK T (i:Int)=T.getD i 0:=fun i=>by simp [ltK]
 have hO:(lateOut T s).Pairwise (Lex T):=by
  rw [lateOut,hL]
  exact List.pairwise_append.2 ⟨F.outS,F.wS,fun a ha b hb=>.inl (by have:=F.outLe a ha;have:=F.wGt b hb;omega)⟩
 refine ⟨?_,?_,by rw [lateMarks,hL];exact H.marks,?_,by rw [lateMost,hL];exact H.most0,?_,fun k x y hx hy=>?_,fun x hx=>?_,fun x hx=>?_,?_⟩
 · rw [lateOut,lateLate,hL,List.length_append]
   have:=H.len
   omega
 · rw [lateDel,hL,setAll_length];exact H.del
 · refine adjB_iff.2 fun m a b ha hb=>?_
   rw [lateMarks,hL] at ha hb
   have h1:=(List.getElem?_eq_some_iff.1 hb).1
   have h2:=H.marks
   rw [F.marks m (by omega)] at ha
   rw [F.marks (m+1) (by omega)] at hb
   cases ha
   cases hb
   exact mkf_mono (by omega)
 · rw [lateOut,lateLate,hL]
   exact (srt_unique F.perm.symm ((stairs_sorted T.length).imp (by intro a b h;omega))).symm
 · have h1:=(List.getElem?_eq_some_iff.1 hx)
   have h2:=(List.getElem?_eq_some_iff.1 hy)
   obtain ⟨h1,rfl⟩:=h1
   obtain ⟨h2,rfl⟩:=h2
   exact List.pairwise_iff_getElem.1 hO k (k+1) h1 h2 (by omega)
 · rw [lateOut,hL] at hx
   rw [lateDel,lateMarks,hL]
   rcases List.mem_append.1 hx with h | h
   · obtain ⟨i,p,rfl,h2,h3,h4,h5,h6⟩:=F.outD x h
     rw [hlt] at h5 h6
     refine ⟨i,p,rfl,h2,h3,?_,.inr ⟨_,F.marks p h3,h5⟩,?_⟩
     · rw [hget i (by omega),if_neg (fun hw=>n6 _ h _ hw rfl)]
       exact h4
     · rcases h6 with h6 | h6
       · exact .inl h6
       · by_cases e:p=i
         · exact .inl e
         · refine .inr ⟨_,F.marks (p - 1) (by omega),?_⟩
           rw [show p - 1+1=p by omega]
           exact h6
   · obtain ⟨i,hi,rfl⟩:=H.wlt x h
     have h7:=F.wGt _ h
     rw [hlt] at h7
     refine ⟨i,T.length - 1,rfl,by omega,by omega,?_,.inl (by omega),?_⟩
     · rw [hget i hi,if_pos h]
       congr 1
       omega
     · by_cases e:T.length - 1=i
       · exact .inl e
       · refine .inr ⟨_,F.marks (T.length - 1 - 1) (by omega),?_⟩
         have:=mkf_mono (T:=T) (s:=s) (show T.length - 1 - 1+1≤T.length by omega)
         omega
 · rw [lateLate,hL] at hx
   rw [lateDel,lateMarks,hL]
   obtain ⟨i,rfl,h2,h3,h4⟩:=F.lateD x hx
   rw [hlt] at h4
   have h0:0≤T.getD i 0:=by rw [List.getD_eq_getElem?_getD,List.getElem?_eq_getElem h2];exact (hT _ (List.getElem_mem _)).1
   have h1:1≤i:=by
    cases i with
    | zero=>have e:mkf T s 0 = -1001:=rfl;omega
    | succ i=>omega
   refine ⟨i,rfl,h1,h2,?_,_,F.marks (i - 1) (by omega),?_⟩
   · rw [hget i h2,if_neg (fun hw=>n3 _ (List.mem_append_right _ hw) _ hx rfl)]
     exact h3
   · rw [show i - 1+1=i by omega]
     exact h4
 · rw [lateLate,hL,F.none]
   exact slack_iff hT hs _ (Nat.le_refl _)
end
end Go.Proofs.YtggblfnajeikjaaGreatDoor
