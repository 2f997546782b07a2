/- Joined texts of the proof: ConD, ConG, ConH, ConK, ConL, ConJ, ConE. -/
import Derived.Test.YtggblfnajeikjaaGreatDoorJ20
import Derived.Test.YtggblfnajeikjaaGreatDoorJ29
namespace Go.Proofs.YtggblfnajeikjaaGreatDoor
open Go.RowKit
set_option linter.unusedVariables false
set_option linter.unusedSimpArgs false
set_option maxRecDepth 100000
set_option maxHeartbeats 16000000
section
variable {P:Program} {w:World}
theorem run_app_room {t ty E bytes:Nat} {z:Value} (ht:ElemOk P t E bytes z) {g off a c:Nat} {cur:Array Value} (hh:w.heap[g]?=some (.cells cur E (0,0))) (hs:off+c≤cur.size) {vx:Value} {news:List Value} (hr:Rd w vx news)
 (h1:∀ u∈news,u.oneCell'=true) (hroom:a+news.length≤c) :
 ∃ w',(Builtin.append_ #[t,t] ty #[.slice (some ⟨g,off,none⟩) a c,vx]).run P w=.ok (.slice (some ⟨g,off,none⟩) (a+news.length) c) w'∧w'.heap[g]?=some (.cells (cur.toList.take (off+a)++news++cur.toList.drop (off+a+news.length)).toArray E (0,0))∧w.grownBy w' (some g):=by
 obtain ⟨i,hu,hi,hz,hs1,hby,hzc⟩:=ht.ex
 obtain ⟨ax,cx,rfl,hlx,hcx,hxc⟩:=hr
 by_cases hm:news=[]
 · subst hm
   have hac:a≤c:=by simpa using hroom
   refine ⟨w,?_,?_,World.grownBy.refl w _⟩
   · cases ax <;> simp [Builtin.append_,run_underlying hu,sizeOf,typeInfo,hi,Builtin.lenOf,Builtin.firstCells,loadCells,loadCellsFrom,hac,storeCells]
   · rw [hh]
     simp
 · have hpos:0 < news.length:=List.length_pos_iff.2 hm
   obtain ⟨ad,rfl,hnews⟩:=hxc hpos
   have hf:=run_firstCells_some (P:=P) w i.size news.length ad news.length cx news (by simp [hs1]) hnews
   have hst:=run_storeCells_at P g (off+a) E news 0 cur w hh (by omega) h1
   simp only [Nat.add_zero] at hst
   rw [hs1] at hf
   refine ⟨w.setRow g (cur.toList.take (off+a)++news++cur.toList.drop (off+a+news.length)).toArray,?_,setRow_heap w g cur _ E _ hh,⟨rfl,rfl,rfl,by simp,fun k _ hk=>setRow_other w g k _ (fun e=>hk (by simp [e]))⟩⟩
   simp [Builtin.append_,run_underlying hu,sizeOf,typeInfo,hi,Builtin.lenOf,hroom,hs1,hf,Addr.add_lit,hst]
theorem run_clear_one (t e ty:TypeId) (z:Value) (ht:P.underlying t=some (.slice e)) (hv:∀ w,(zeroValue e).run P w=.ok z w) (hz:z.cells=#[z]) (h1:z.oneCell'=true) (g o c:Nat)
 (hc:(w.cell? ⟨g,o,none⟩).isSome=true) (hf:w.frozen? ⟨g,o,none⟩=false) :
 (Builtin.clear_ #[t] ty #[.slice (some ⟨g,o,none⟩) 1 c]).run P w=.ok (.tuple #[]) (w.setCells g o [z]):=by
 have hzc:(Builtin.zeroCells z.cells 1).toList=[z]:=by
  rw [hz]
  simp [Builtin.zeroCells]
 have hst:=run_storeCells_cells (P:=P) g o [z] 0 w (fun j hj=>by
  obtain rfl:j=0:=by simpa using hj
  simpa using hc) (fun j hj=>by
  obtain rfl:j=0:=by simpa using hj
  simpa using hf) (by intro v hv';simp at hv';subst hv';exact h1)
 simp only [Nat.add_zero] at hst
 simp [Builtin.clear_,run_underlying ht,hv,hzc,hst]
end
theorem zeroRow (w:World):(zeroValue 23).run Tryz.prog w=.ok (.slice none 0 0) w:=by kernel_rfl
theorem f_DeleteO {B:Nat} (w:World) (v:Value) (rows:List Value) (h1:∀ u∈rows,u.oneCell'=true) (ho:Own w 23 B v rows) (i:Nat) (hi:i < rows.length) :
 Calls Tryz.prog 279 #[v,.int .i64 (i:Int),.int .i64 ((i:Int)+1)] w fun e w'=>∃ v',e=.returned v'∧Own w' 23 B v' (rows.eraseIdx i)∧w.grownBy w' v.ownBlock:=by
 have hu:=Tryz.underlying28
 rcases ho with ⟨_,rfl⟩ | ⟨g,off,cap,cur,rfl,hB,hg,hn,hcap,hsz,hx⟩
 · simp at hi
 obtain ⟨n,hn'⟩:∃ n,rows.length=n:=⟨_,rfl⟩
 have HN:=Lib.hid hn'
 rw [hn'] at hi hn ⊢
 obtain ⟨m,hm⟩:∃ m,n - 1=m:=⟨_,rfl⟩
 obtain ⟨news,hnews⟩:∃ news,rows.drop (i+1)=news:=⟨_,rfl⟩
 have hnl:news.length=n - (i+1):=by rw [←hnews,List.length_drop,hn']
 have hg1:w.drew.heap[g]?=some (.cells cur 23 (0,0)):=hg
 obtain ⟨A,hA0,hA1⟩:∃ A:Addr,(cap=i+1→A=⟨g,off,none⟩)∧(¬ cap=i+1→A=⟨g,off+(i+1),none⟩):=⟨if cap=i+1 then ⟨g,off,none⟩ else ⟨g,off+(i+1),none⟩,fun e=>if_pos e,fun e=>if_neg e⟩
 have hsrc:Rd w.drew (.slice (some A) (n - (i+1)) (cap - (i+1))) news:=by
  rw [←hnl]
  refine ⟨some A,_,rfl,by omega,by omega,fun hpos=>⟨A,rfl,fun j u hu=>?_⟩⟩
  have hj:=(List.getElem?_eq_some_iff.1 hu).1
  rw [←hnews,List.getElem?_drop] at hu
  rw [hA1 (by omega),Addr.add_lit,cell_of_row w.drew g _ cur 23 (0,0) hg1]
  have:=hx _ _ hu
  rwa [show off+(i+1+j)=off+(i+1)+j by omega] at this
 have hone:∀ u∈news,u.oneCell'=true:=fun u hu=>h1 u (by rw [←hnews] at hu;exact List.mem_of_mem_drop hu)
 obtain ⟨W1,HA0,HW0,HG0⟩:=run_app_room (ty:=0) elII hg1 hsz hsrc hone (a:=i) (by omega)
 have HA:Hid (∀ ty,(Builtin.append_ #[28,28] ty #[.slice (some ⟨g,off,none⟩) i cap,.slice (some A) (n - (i+1)) (cap - (i+1))]).run Tryz.prog w.drew=.ok (.slice (some ⟨g,off,none⟩) m cap) W1):=fun ty=>by
  have:=HA0
  rw [hnl,show i+(n - (i+1))=m by omega] at this
  exact this
 obtain ⟨row,hrow⟩:∃ row,(cur.toList.take (off+i)++news++cur.toList.drop (off+i+news.length)).toArray=row:=⟨_,rfl⟩
 rw [hrow] at HW0
 have HW:=Lib.hid HW0
 have hrs:row.size=cur.size:=by rw [←hrow];simp;omega
 have HG1:Hid (w.grownBy W1 (some g)):=⟨HG0.os,HG0.tape,HG0.output,HG0.size,HG0.block⟩
 have HCL:Hid (∀ ty,(Builtin.clear_ #[28] ty #[.slice (some ⟨g,off+m,none⟩) (n - m) (cap - m)]).run Tryz.prog W1=.ok (.tuple #[]) (W1.setCells g (off+m) [.slice none 0 0])):=fun ty=>by
  rw [show n - m=1 by omega]
  exact run_clear_one 28 23 ty _ hu zeroRow rfl rfl g (off+m) _ (by
   rw [cell_of_row W1 g _ row 23 (0,0) HW.out,Array.getElem?_eq_getElem (by omega)];rfl) (by simp [World.frozen?,HW.out])
 have HFIN:Hid (Own (W1.setCells g (off+m) [.slice none 0 0]) 23 B (.slice (some ⟨g,off,none⟩) m cap) (rows.eraseIdx i)∧w.grownBy (W1.setCells g (off+m) [.slice none 0 0]) (some g)):=by
  have e2:W1.setCells g (off+m) [.slice none 0 0]=W1.setCell ⟨g,off+m,none⟩ (.slice none 0 0):=rfl
  rw [e2]
  have hle:(rows.eraseIdx i).length=m:=by rw [List.length_eraseIdx_of_lt (by rw [hn'];exact hi),hn',hm]
  have hE:rows.eraseIdx i=rows.take i++news:=by rw [List.eraseIdx_eq_take_drop_succ,hnews]
  refine ⟨.inr ⟨g,off,cap,_,by rw [hle],hB,heap_setCell_same W1 g (off+m) _ _ _ HW.out,by omega,hcap,by simp [hrs];exact hsz,fun j u hu=>?_⟩,HG1.out.trans ⟨rfl,rfl,rfl,by simp,fun k _ hk=>heap_setCell_other W1 ⟨g,off+m,none⟩ k _ (fun e=>hk (by rw [e]))⟩⟩
  have hj:=(List.getElem?_eq_some_iff.1 hu).1
  rw [hle] at hj
  rw [Array.getElem?_setIfInBounds,if_neg (by omega),←hrow]
  simp only [List.getElem?_toArray]
  rw [hE,List.getElem?_append] at hu
  have hl1:(cur.toList.take (off+i)).length=off+i:=by simp;omega
  rw [List.append_assoc,List.getElem?_append,hl1]
  by_cases e:j < i
  · rw [if_pos (by simp;omega),List.getElem?_take,if_pos e] at hu
    rw [if_pos (by omega),List.getElem?_take,if_pos (by omega)]
    simpa using hx j u hu
  · rw [if_neg (by simp;omega),List.length_take,hn',Nat.min_eq_left (by omega)] at hu
    rw [if_neg (by omega),List.getElem?_append_left (by have:=(List.getElem?_eq_some_iff.1 hu).1;omega),←hu]
    congr 1
    omega
 have i1:(i:Int)+1≤(n:Int):=by omega
 have i2:(i:Int)≤(n:Int):=by omega
 have i3:(n:Int)≤(cap:Int):=by omega
 have i4:((i:Int) == (i:Int)+1)=false:=by rw [beq_eq_false_iff_ne];omega
 have i5:i≤cap:=by omega
 have i6:i+1≤n:=by omega
 have i7:((i:Int)+1).toNat=i+1:=by omega
 have i8:m≤n:=by omega
 have i9:¬ cap=m:=by omega
 have i10:n≤cap:=hn
 have i11:(0:Int)≤(i:Int)+1:=by omega
 clear hg hg1 h1 hnews hnl hsrc hrow hrs hm HA0 HW0 HG0 hone hu hsz hn' hx
 go_enter Tryz.func279,Tryz.ntmps279
 by_cases e:cap=i+1
 · have hAe:=hA0 e
   clear hA0 hA1
   subst hAe
   obtain rfl:n=i+1:=by omega
   subst e
   rw [Nat.sub_self] at HA
   have j1:(i:Int)≤(i:Int)+1:=by omega
   have j2:i≤i+1:=by omega
   go_upto_region 5 with (fail)
   go_region_law (refine step_run (by rfl) _ _ _ (by rfl) (by rfl) (by rfl) HA.out ?_)
   have hcl:=HCL.out
   go_wp2
   go_ret
   exact ⟨_,rfl,HFIN.out⟩
 · have hAe:=hA1 e
   clear hA0 hA1
   subst hAe
   go_upto_region 5 with (fail)
   go_region_law (refine step_run (by rfl) _ _ _ (by rfl) (by rfl) (by rfl) HA.out ?_)
   have hcl:=HCL.out
   go_wp2
   go_ret
   exact ⟨_,rfl,HFIN.out⟩
section
variable {w:World} {B:Nat} {rows:List Value} {xss:List (List Int)}
theorem RowsP.erase (h:RowsP w B rows xss) (i:Nat):RowsP w B (rows.eraseIdx i) (xss.eraseIdx i):=by
 refine ⟨by simp only [List.length_eraseIdx,h.1],fun j r hr=>?_⟩
 rw [List.getElem?_eraseIdx] at hr ⊢
 split at hr
 · rw [if_pos (by assumption)];exact h.2 j r hr
 · rw [if_neg (by assumption)];exact h.2 _ r hr
end
theorem netRows {n:Int} {X:List (List Int)} (h:netOk n X=true):∀ xs∈X,xs.length≤2:=fun xs hx=>by
 obtain ⟨a,b,rfl,_⟩:=netRow_iff ((netOk_iff.1 h).2.2 xs hx)
 simp
theorem netOk_erase {n:Int} {X:List (List Int)} (h:netOk n X=true) (i:Nat):netOk n (X.eraseIdx i)=true:=by
 obtain ⟨h1,h2,h3⟩:=netOk_iff.1 h
 exact netOk_iff.2 ⟨h1,Nat.le_trans (List.length_eraseIdx_le ..) h2,fun xs hx=>h3 xs (List.mem_of_mem_eraseIdx hx)⟩
def dropM (n:Int) (X:List (List Int)) (i:Int):Option NetV:=if 0≤i∧i < X.length then some (n,X.eraseIdx i.toNat) else none
theorem i_DropPair (n:Int) (hn:I64 n) (v:Value) (X:List (List Int)) (i:Int) (w:World) (h:Rd2 w v X) (hk:netOk n X=true):Calls Tryz.prog 231 #[.agg #[.int .i64 n,v],.int .i64 i] w (RetM (dropM n X i) w):=by
 obtain ⟨a,c,rfl,hmc,hc9⟩:=h.form
 have HNK:=Lib.hid (fun (W:World) (hW:Rd2 W (.slice a X.length c) X)=>hk ▸ i_NetworkOk n _ X W hW hn)
 have hl60:=(netOk_iff.1 hk).2.1
 have HOW:=Lib.hid (fun (W:World) (hW:Rd2 W (.slice a X.length c) X)=>i_own n _ X W hW (by omega) (netRows hk))
 obtain ⟨m,hm⟩:∃ m,X.length=m:=⟨_,rfl⟩
 have HD:Hid (dropM n X i=if 0≤i∧i < (m:Int) then some (n,X.eraseIdx i.toNat) else none):=by rw [Hid,←hm];rfl
 have HM:=Lib.hid hm
 rw [hm] at h HNK HOW hl60 ⊢
 clear hm hk
 obtain ⟨wa,bx,hwa,hbx,hXa,hza,hba⟩:=newBox w (.cells #[.int .i64 n,.slice a m c] 30)
 obtain ⟨w0,B,hw0,hB,hA0,hz0,hb0⟩:=newBox wa (.cells #[.int .i64 0,.slice none 0 0] 30)
 have hX0:w0.heap[bx]?=_:=(hb0.block bx hza).trans hXa
 have bt0:=hba.trans (hb0.mono hba.size)
 have HWA:=Lib.hid hwa
 have HBX:=Lib.hid hbx
 have HW0:=Lib.hid hw0
 have HBB:Hid (w.heap.size+1=B):=by rw [Hid,←hB,←hwa];simp
 have h0:=h.below bt0
 have q0:=box_cell hX0 0
 have q1:=box_cell hX0 1
 clear hwa hbx hw0 hB hXa hza hba hb0
 have HT:Hid (∀ W,Below w0.heap.size w0 W→W.cell? ⟨bx,0,none⟩=some (.int .i64 n)∧W.cell? ⟨bx,1,none⟩=some (.slice a m c)∧W.heap[B]?=some (.cells #[.int .i64 0,.slice none 0 0] 30 (0,0))∧Below w.heap.size w W∧Rd2 W (.slice a m c) X):=fun W hW=>by
  have hX:=(hW.block bx (box_lt hX0)).trans hX0
  exact ⟨box_cell hX 0,box_cell hX 1,(hW.block B hz0).trans hA0,bt0.trans (hW.mono bt0.size),h0.below hW⟩
 by_cases hi:0≤i∧i < (m:Int)
 · obtain ⟨j,rfl⟩:=Int.eq_ofNat_of_zero_le hi.1
   have hjm:j < m:=by omega
   have HD2:Hid (dropM n X (j:Int)=some (n,X.eraseIdx j)):=by rw [Hid,HD.out,if_pos hi];rfl
   have i1:decide ((j:Int) < 0)=false:=by simp
   have i2:decide ((j:Int) ≥ (m:Int))=false:=by simp;omega
   clear hi HD
   go_enter Tryz.func231,Tryz.ntmps231
   go_upto_region 1 with (fail)
   rw [HWA.out,HW0.out,HBB.out,HBX.out]
   go_upto_region 3 with (go_at_call 40;refine (HNK.out _ h0).mono ?_;rintro e w1 ⟨rfl,b1⟩;obtain ⟨k0,k1,-,-,h1⟩:=HT.out _ b1)
   go_upto_region 4 with (go_at_call 98;refine (HOW.out _ h1).mono ?_;rintro e w2 ⟨a2,m2,c2,rfl,o2,b2⟩)
   obtain rfl:m2=m:=by obtain ⟨_,_,e,_⟩:=o2.rd2.form;injection e with _ e2 _;rw [e2];exact HM.out
   obtain ⟨w3,b6,hw3,hb6,hO3,hz3,hb3⟩:=newBox w2 (.cells #[.int .i64 n,.slice a2 m2 c2] 30)
   have HW3:=Lib.hid hw3
   have HB6:=Lib.hid hb6
   rw [HW3.out,HB6.out]
   have b12:=b1.trans (b2.mono b1.size)
   have b13:=b12.trans (hb3.mono b12.size)
   have hz1:=b1.size
   have hz2:=b2.size
   have hB6:B < b6:=by have:=hb6;have:=hz0;omega
   have o3:=(o2.below hb3).mono (B':=B+1) (by omega)
   clear hw3 hb6 k0 k1 h1 hb3 o2
   obtain ⟨rows,hov,hrp⟩:=o3
   have hrl:rows.length=m2:=hrp.1.trans HM.out
   have HDE:=Lib.hid (f_DeleteO w3 _ rows hrp.one hov j (by omega))
   have p1:=box_cell hO3 1
   have hne:=own_ne_box hov hO3 (by decide)
   go_upto_region 5 with (go_at_call 279;refine HDE.out.mono ?_;rintro e w4 ⟨v4,rfl,o4,g4⟩;have oP:=(show OwnP w4 (B+1) v4 (X.eraseIdx j) from ⟨_,o4,(hrp.outer g4 hov).erase j⟩);obtain ⟨a4,m4,c4,rfl,_,_,_⟩:=oP.formN;have hO4:w4.heap[b6]?=_:=(g4.block b6 hz3 (fun e=>hne e.symm)).trans hO3;have r1:=box_cell hO4 1;have rf:=frozen_of_row w4 b6 1 _ _ hO4)
   have oF:=oP.setBox (q:=b6) (o:=1) hO4 (by decide) (by decide) (.slice a4 m4 c4)
   have hO5:=heap_setCell_same w4 b6 1 _ _ (.slice a4 m4 c4) hO4
   have hA3:=(HT.out _ b13).2.2.1
   have be3:=(HT.out _ b13).2.2.2.1
   have hA4:w4.heap[B]?=_:=(g4.block B (box_lt hA3) (fun e=>by have:=(hov.lt B e.symm).1;omega)).trans hA3
   have be4:Below w.heap.size w w4:=be3.grown g4 be3.size (fun r hr=>by have:=(hov.lt r hr).1;have:=HBB.out;omega)
   have hA5:(w4.setCell ⟨b6,1,none⟩ (.slice a4 m4 c4)).heap[B]?=_:=(heap_setCell_other w4 ⟨b6,1,none⟩ B _ (by show B≠b6;omega)).trans hA4
   have be5:Below w.heap.size w (w4.setCell ⟨b6,1,none⟩ (.slice a4 m4 c4)):=be4.setCell (by show w.heap.size≤b6;have:=HBB.out;omega) _
   obtain ⟨w5,hw5⟩:∃ w5,w4.setCell ⟨b6,1,none⟩ (.slice a4 m4 c4)=w5:=⟨_,rfl⟩
   rw [hw5] at oF hO5 hA5 be5 ⊢
   have s0:=box_cell hO5 0
   have s1:=box_cell hO5 1
   obtain ⟨c0,c1,f0,f1,r0,r1',oz,bz⟩:=netRes (n:=n) hA5 oF (by have:=HBB.out;omega) be5
   clear hw5 oP o4 hov hrp g4 hO4 hO3 p1 hne
   go_wp2_with fail
   exact bodyPost_ret (v:=.tuple #[.agg #[.int .i64 n,.slice a4 m4 c4],.bool true]) (by simp [results,Tryz.results231,go_sem,r0,r1']) rfl (by rw [HD2.out];exact ⟨_,_,_,rfl,oz,bz⟩)
 · have HD2:Hid (dropM n X i=none):=by rw [Hid,HD.out,if_neg hi]
   clear HD
   by_cases hi0:i < 0
   · have i1:decide (i < 0)=true:=by simpa using hi0
     go_enter Tryz.func231,Tryz.ntmps231
     go_upto_region 1 with (fail)
     rw [HWA.out,HW0.out,HBB.out,HBX.out]
     go_upto_if 20 with (go_at_call 40;refine (HNK.out _ h0).mono ?_;rintro e w1 ⟨rfl,b1⟩;obtain ⟨k0,k1,hA1,be1,h1⟩:=HT.out _ b1)
     obtain ⟨c0,c1,f0,f1,r0,r1',oz,bz⟩:=netRes (n:=0) hA1 (OwnP.nil _ _) (by have:=HBB.out;omega) be1
     go_wp2_with fail
     exact bodyPost_ret (v:=.tuple #[.agg #[.int .i64 0,.slice none 0 0],.bool false]) (by simp [results,Tryz.results231,go_sem,r0,r1']) rfl (by rw [HD2.out];exact ⟨_,_,_,rfl,oz,bz⟩)
   · have i1:decide (i < 0)=false:=by simpa using hi0
     have i2:decide (i ≥ (m:Int))=true:=by simp;omega
     go_enter Tryz.func231,Tryz.ntmps231
     go_upto_region 1 with (fail)
     rw [HWA.out,HW0.out,HBB.out,HBX.out]
     go_upto_if 20 with (go_at_call 40;refine (HNK.out _ h0).mono ?_;rintro e w1 ⟨rfl,b1⟩;obtain ⟨k0,k1,hA1,be1,h1⟩:=HT.out _ b1)
     obtain ⟨c0,c1,f0,f1,r0,r1',oz,bz⟩:=netRes (n:=0) hA1 (OwnP.nil _ _) (by have:=HBB.out;omega) be1
     go_wp2_with fail
     exact bodyPost_ret (v:=.tuple #[.agg #[.int .i64 0,.slice none 0 0],.bool false]) (by simp [results,Tryz.results231,go_sem,r0,r1']) rfl (by rw [HD2.out];exact ⟨_,_,_,rfl,oz,bz⟩)
def needB (N:Nat) (X:List (List Int)) (k:Nat):Bool:=sortsB N X && !sortsB N (X.eraseIdx k)
def leanL (N:Nat) (X:List (List Int)) (k:Nat):List (List Int) :=
 match k with
 | 0=>X
 | k+1=>if needB N X k then leanL N X k else if h:k < X.length then leanL N (X.eraseIdx k) (X.length - 1) else X
termination_by (X.length,k)
decreasing_by
 · exact Prod.Lex.right _ (Nat.lt_succ_self k)
 · exact Prod.Lex.left _ _ (by rw [List.length_eraseIdx_of_lt h];omega)
theorem leanL_0 (N:Nat) (X:List (List Int)):leanL N X 0=X:=by rw [leanL]
theorem leanL_yes {N:Nat} {X:List (List Int)} {k:Nat} (h:needB N X k=true):leanL N X (k+1)=leanL N X k:=by
 rw [leanL,if_pos h]
theorem leanL_no {N:Nat} {X:List (List Int)} {k:Nat} (h:needB N X k=false) (hk:k < X.length):leanL N X (k+1)=leanL N (X.eraseIdx k) (X.length - 1):=by
 rw [leanL,if_neg (by rw [h];simp),dif_pos hk]
theorem leanL_ok {n:Int} {N:Nat} : ∀ (a k:Nat) (X:List (List Int)),X.length * 100+k≤a→netOk n X=true→netOk n (leanL N X k)=true:=by
 intro a
 induction a with
 | zero =>
   intro k X hl h
   obtain rfl:k=0:=by omega
   rw [leanL_0]
   exact h
 | succ a ih =>
   intro k X hl h
   match k with
   | 0=>rw [leanL_0];exact h
   | k+1 =>
     rw [leanL]
     split
     · exact ih _ _ (by omega) h
     · split
       · rename_i h2
         have:=(netOk_iff.1 h).2.1
         exact ih _ _ (by rw [List.length_eraseIdx_of_lt h2];omega) (netOk_erase h k)
       · exact h
theorem i_IsNeeded (N:Nat) (v:Value) (X:List (List Int)) (j:Nat) (w:World) (h:Rd2 w v X) (hk:netOk (N:Int) X=true) (hj:j < X.length):Calls Tryz.prog 246 #[.agg #[.int .i64 N,v],.int .i64 (j:Int)] w (RetB (.bool (needB N X j)) w):=by
 obtain ⟨a,c,rfl,hmc,hc9⟩:=h.form
 obtain ⟨h18,hl60,_⟩:=netOk_iff.1 hk
 have HS:=Lib.hid (fun (W:World) (hW:Rd2 W (.slice a X.length c) X)=>i_IsSorting N _ X W hW hk)
 have HS2:=Lib.hid (fun (v:Value) (W:World) (hW:Rd2 W v (X.eraseIdx j))=>i_IsSorting N v _ W hW (netOk_erase hk j))
 have HDR:=Lib.hid (fun (W:World) (hW:Rd2 W (.slice a X.length c) X)=>i_DropPair (N:Int) ⟨by omega,by omega⟩ _ X (j:Int) W hW hk)
 rw [show dropM (N:Int) X (j:Int)=some ((N:Int),X.eraseIdx j) from if_pos ⟨by omega,by omega⟩] at HDR
 obtain ⟨m,hm⟩:∃ m,X.length=m:=⟨_,rfl⟩
 rw [hm] at h HS HDR ⊢
 have HNB:Hid (needB N X j=(sortsB N X && !sortsB N (X.eraseIdx j))):=rfl
 generalize sortsB N X=s1 at *
 generalize sortsB N (X.eraseIdx j)=s2 at *
 clear hm hk
 obtain ⟨wa,bx,hwa,hbx,hXa,hza,hba⟩:=newBox w (.cells #[.int .i64 N,.slice a m c] 30)
 have HWA:=Lib.hid hwa
 have HBX:=Lib.hid hbx
 have h0:=h.below hba
 have q0:=box_cell hXa 0
 have q1:=box_cell hXa 1
 clear hwa hbx
 go_enter Tryz.func246,Tryz.ntmps246
 go_upto_region 1 with (fail)
 rw [HWA.out,HBX.out]
 go_upto_region 2 with (go_at_call 231;refine (HDR.out _ h0).mono ?_;rintro e w2 ⟨a2,m2,c2,rfl,o2,b2⟩;dsimp only [netN,netX] at o2)
 simp only [netN,Option.isSome_some]
 obtain ⟨w3,b6,hw3,hb6,hO3,hz3,hb3⟩:=newBox w2 (.cells #[.int .i64 N,.slice a2 m2 c2] 30)
 have HW3:=Lib.hid hw3
 have HB6:=Lib.hid hb6
 rw [HW3.out,HB6.out]
 have b13:=b2.trans (hb3.mono b2.size)
 have hX3:=(b13.block bx hza).trans hXa
 have p0:=box_cell hX3 0
 have p1:=box_cell hX3 1
 have h3:=h0.below b13
 have r3:=o2.rd2.below hb3
 have be:=hba.trans (b13.mono hba.size)
 clear hw3 hb6 q0 q1
 have HT:Hid (∀ W,Below w3.heap.size w3 W→W.cell? ⟨b6,0,none⟩=some (.int .i64 N)∧W.cell? ⟨b6,1,none⟩=some (.slice a2 m2 c2)):=fun W hW=>by
  have hX:=(hW.block b6 (box_lt hO3)).trans hO3
  exact ⟨box_cell hX 0,box_cell hX 1⟩
 cases s1
 · go_wp2_with (go_at_call 245;refine (HS.out _ h3).mono ?_;rintro e w4 ⟨rfl,b4⟩)
   go_ret
   exact ⟨by rw [HNB.out];rfl,be.trans (b4.mono be.size)⟩
 · go_wp2_with (first
    | (go_at_call 245;(with_reducible refine (HS.out _ h3).mono ?_);rintro e w4 ⟨rfl,b4⟩;obtain ⟨s0,s1⟩:=HT.out _ b4)
    | (go_at_call 245;(with_reducible refine (HS2.out _ _ (r3.below b4)).mono ?_);rintro e w5 ⟨rfl,b5⟩;have b45:=b4.trans (b5.mono b4.size)))
   go_ret
   exact ⟨by rw [HNB.out];rfl,be.trans (b45.mono be.size)⟩
def leanM (N:Nat) (X:List (List Int)):Option NetV:=if sortsB N X then some ((N:Int),leanL N X X.length) else none
theorem i_LeanNetwork (N:Nat) (v:Value) (X:List (List Int)) (w:World) (h:Rd2 w v X) (hk:netOk (N:Int) X=true):Calls Tryz.prog 202 #[.agg #[.int .i64 N,v]] w (RetM (leanM N X) w):=by
 obtain ⟨a,c,rfl,hmc,hc9⟩:=h.form
 obtain ⟨h18,hl60,_⟩:=netOk_iff.1 hk
 have HS:=Lib.hid (fun (W:World) (hW:Rd2 W (.slice a X.length c) X)=>i_IsSorting N _ X W hW hk)
 have HOW:=Lib.hid (fun (W:World) (hW:Rd2 W (.slice a X.length c) X)=>i_own (N:Int) _ X W hW (by omega) (netRows hk))
 have HOK:=Lib.hid hk
 have HLM:Hid (leanM N X=if sortsB N X then some ((N:Int),leanL N X X.length) else none):=rfl
 obtain ⟨m,hm⟩:∃ m,X.length=m:=⟨_,rfl⟩
 have HM:=Lib.hid hm
 rw [hm] at h HS HOW HLM hl60 ⊢
 clear hm hk
 obtain ⟨wa,bx,hwa,hbx,hXa,hza,hba⟩:=newBox w (.cells #[.int .i64 N,.slice a m c] 30)
 obtain ⟨w0,B,hw0,hB,hA0,hz0,hb0⟩:=newBox wa (.cells #[.int .i64 0,.slice none 0 0] 30)
 have hX0:w0.heap[bx]?=_:=(hb0.block bx hza).trans hXa
 have bt0:=hba.trans (hb0.mono hba.size)
 have HWA:=Lib.hid hwa
 have HBX:=Lib.hid hbx
 have HW0:=Lib.hid hw0
 have HBB:Hid (w.heap.size+1=B):=by rw [Hid,←hB,←hwa];simp
 have h0:=h.below bt0
 have q0:=box_cell hX0 0
 have q1:=box_cell hX0 1
 clear hwa hbx hw0 hB hXa hza hba hb0
 have HT:Hid (∀ W,Below w0.heap.size w0 W→W.cell? ⟨bx,0,none⟩=some (.int .i64 N)∧W.cell? ⟨bx,1,none⟩=some (.slice a m c)∧W.heap[B]?=some (.cells #[.int .i64 0,.slice none 0 0] 30 (0,0))∧Below w.heap.size w W∧Rd2 W (.slice a m c) X):=fun W hW=>by
  have hX:=(hW.block bx (box_lt hX0)).trans hX0
  exact ⟨box_cell hX 0,box_cell hX 1,(hW.block B hz0).trans hA0,bt0.trans (hW.mono bt0.size),h0.below hW⟩
 cases hs:sortsB N X
 · rw [hs] at HS HLM
   clear hs
   have HR:Hid (leanM N X=none):=HLM.out
   go_enter Tryz.func202,Tryz.ntmps202
   go_upto_region 1 with (fail)
   rw [HWA.out,HW0.out,HBB.out,HBX.out]
   go_upto_if 8 with (go_at_call 245;refine (HS.out _ h0).mono ?_;rintro e w1 ⟨rfl,b1⟩;obtain ⟨k0,k1,hA1,be1,h1⟩:=HT.out _ b1)
   obtain ⟨c0,c1,f0,f1,r0,r1',oz,bz⟩:=netRes (n:=0) hA1 (OwnP.nil _ _) (by have:=HBB.out;omega) be1
   go_wp2_with fail
   exact bodyPost_ret (v:=.tuple #[.agg #[.int .i64 0,.slice none 0 0],.bool false]) (by simp [results,Tryz.results202,go_sem,r0,r1']) rfl (by rw [HR.out];exact ⟨_,_,_,rfl,oz,bz⟩)
 · rw [hs] at HS HLM
   clear hs
   obtain ⟨RS,hRS⟩:∃ RS,leanL N X m=RS:=⟨_,rfl⟩
   have HR:Hid (leanM N X=some ((N:Int),RS)):=by rw [Hid,HLM.out,hRS];rfl
   have HRS:=Lib.hid hRS
   clear HLM hRS
   go_enter Tryz.func202,Tryz.ntmps202
   go_upto_region 1 with (fail)
   rw [HWA.out,HW0.out,HBB.out,HBX.out]
   go_upto_region 3 with (go_at_call 245;refine (HS.out _ h0).mono ?_;rintro e w1 ⟨rfl,b1⟩;obtain ⟨k0,k1,-,-,h1⟩:=HT.out _ b1)
   go_upto_region 4 with (go_at_call 98;refine (HOW.out _ h1).mono ?_;rintro e w2 ⟨a2,m2,c2,rfl,o2,b2⟩)
   obtain ⟨w3,b4,hw3,hb4,hO3,hz3,hb3⟩:=newBox w2 (.cells #[.int .i64 N,.slice a2 m2 c2] 30)
   have HW3:=Lib.hid hw3
   have HB4:=Lib.hid hb4
   rw [HW3.out,HB4.out]
   have b12:=b1.trans (b2.mono b1.size)
   have b13:=b12.trans (hb3.mono b12.size)
   have hz1:=b1.size
   have hz2:=b2.size
   have hB4:B < b4:=by have:=hb4;have:=hz0;omega
   have o3:=(o2.below hb3).mono (B':=B+1) (by omega)
   have hA3:=(HT.out _ b13).2.2.1
   have be3:=(HT.out _ b13).2.2.2.1
   obtain rfl:m2=m:=by obtain ⟨_,_,e,_⟩:=o2.rd2.form;injection e with _ e2 _;rw [e2];exact HM.out
   have p1:=box_cell hO3 1
   have hwB:w.heap.size≤B:=by have:=HBB.out;omega
   clear hw3 hb4 k0 k1 h1 hb3 o2 b1 b2 b12 b13 HS HOW HT h0 q0 q1 hA0 hX0 bt0
   go_wp2_with fail
   go_loopg [5] (m2 * 61+m2) (fun g kv wr=>∃ (k mo:Nat) (Y:List (List Int)) (ao:Option Addr) (co:Nat) (z:Int),g=mo * 61+k∧kv=.int .i64 z∧Hid (z=(k:Int) - 1)∧-1≤z∧z≤60∧k≤mo∧mo≤60∧Hid (mo=Y.length)∧Hid (netOk (N:Int) Y=true)∧Hid (leanL N Y k=RS)∧wr.heap[b4]?=some (.cells #[.int .i64 N,.slice ao mo co] 30 (0,0))∧OwnP wr (B+1) (.slice ao mo co) Y∧wr.heap[B]?=some (.cells #[.int .i64 0,.slice none 0 0] 30 (0,0))∧Below w.heap.size w wr)
   case atStart=>exact ⟨m2,m2,X,a2,c2,(m2:Int) - 1,rfl,rfl,rfl,by omega,by omega,Nat.le_refl _,hl60,HM.out.symm,HOK.out,HRS.out,hO3,o3,hA3,be3⟩
   case round =>
    clear hO3 o3 hA3 be3 p1
    obtain ⟨wl,rfl⟩:∃ wl:World,wl=wr:=⟨_,rfl⟩
    obtain ⟨k,mo,Y,ao,co,z,hg,rfl,HZ,hz1,hz2,hkm,hm60,HMY,HOKY,HL,hO,ho,hA,be⟩:=hrel
    have p0:=box_cell hO 0
    have p1:=box_cell hO 1
    by_cases hz0:0≤z
    · obtain ⟨j,rfl⟩:=Int.eq_ofNat_of_zero_le hz0
      obtain rfl:k=j+1:=by have:=HZ.out;omega
      have hjm:j < mo:=by omega
      have hjY:j < Y.length:=by have:=HMY.out;omega
      have HIN:=Lib.hid (i_IsNeeded N _ Y j wl ho.rd2 HOKY.out hjY)
      cases hnd:needB N Y j
      · rw [hnd] at HIN
        have HL2:Hid (leanL N (Y.eraseIdx j) (mo - 1)=RS):=by rw [Hid,←HL.out,leanL_no hnd hjY,HMY.out]
        have HDR:=Lib.hid (fun (W:World) (hW:Rd2 W (.slice ao mo co) Y)=>i_DropPair (N:Int) ⟨by omega,by omega⟩ _ Y (j:Int) W hW HOKY.out)
        rw [show dropM (N:Int) Y (j:Int)=some ((N:Int),Y.eraseIdx j) from if_pos ⟨by omega,by omega⟩] at HDR
        have HK2:Hid (netOk (N:Int) (Y.eraseIdx j)=true):=netOk_erase HOKY.out j
        have HE:Hid ((Y.eraseIdx j).length=mo - 1):=by rw [Hid,List.length_eraseIdx_of_lt hjY,HMY.out]
        generalize Y.eraseIdx j=Y2 at *
        clear hnd HL HZ
        have HT2:Hid (∀ W,Below wl.heap.size wl W→W.heap[b4]?=some (.cells #[.int .i64 N,.slice ao mo co] 30 (0,0))∧W.cell? ⟨b4,0,none⟩=some (.int .i64 N)∧W.cell? ⟨b4,1,none⟩=some (.slice ao mo co)∧W.heap[B]?=some (.cells #[.int .i64 0,.slice none 0 0] 30 (0,0))∧Rd2 W (.slice ao mo co) Y∧Below w.heap.size w W∧W.frozen? ⟨b4,0,none⟩=false∧W.frozen? ⟨b4,1,none⟩=false):=fun W hW=>by
         have hX:=(hW.block b4 (box_lt hO)).trans hO
         exact ⟨hX,box_cell hX 0,box_cell hX 1,(hW.block B (box_lt hA)).trans hA,ho.rd2.below hW,be.trans (hW.mono be.size),frozen_of_row W b4 0 _ _ hX,frozen_of_row W b4 1 _ _ hX⟩
        have hBl:B < wl.heap.size:=box_lt hA
        go_upto_if 23 with (go_at_call 246;refine HIN.out.mono ?_;rintro e w5 ⟨rfl,b5⟩;obtain ⟨-,k0,k1,-,h5,-,-,-⟩:=HT2.out _ b5)
        have z5:=b5.size
        go_upto_region 9 with (go_at_call 231;refine (HDR.out _ h5).mono ?_;rintro e w6 ⟨a6,m6,c6,rfl,o6,b6⟩;dsimp only [netN,netX] at o6;have b56:=b5.trans (b6.mono b5.size);obtain ⟨hO6,u0,u1,hA6,-,be6,g0,g1⟩:=HT2.out _ b56)
        simp only [netN]
        obtain rfl:m6=mo - 1:=by obtain ⟨_,_,e,_⟩:=o6.rd2.form;injection e with _ e2 _;rw [e2];exact HE.out
        have hO7:=box2 (x:=.int .i64 N) (y:=.slice a6 (mo - 1) c6) hO6
        have o7:=((o6.mono (B':=B+1) (by omega)).setBox (q:=b4) (o:=0) hO6 (by decide) (by decide) (.int .i64 N))
        have hOm:=heap_setCell_same w6 b4 0 _ _ (.int .i64 N) hO6
        have o8:=o7.setBox (q:=b4) (o:=1) hOm (by decide) (by decide) (.slice a6 (mo - 1) c6)
        have hA8:((w6.setCell ⟨b4,0,none⟩ (.int .i64 N)).setCell ⟨b4,1,none⟩ (.slice a6 (mo - 1) c6)).heap[B]?=_:=(heap_setCell_other _ ⟨b4,1,none⟩ B _ (by show B≠b4;omega)).trans ((heap_setCell_other w6 ⟨b4,0,none⟩ B _ (by show B≠b4;omega)).trans hA6)
        have be8:=(be6.setCell (p:=⟨b4,0,none⟩) (by show w.heap.size≤b4;omega) (.int .i64 N)).setCell (p:=⟨b4,1,none⟩) (by show w.heap.size≤b4;omega) (.slice a6 (mo - 1) c6)
        obtain ⟨w8,hw8⟩:∃ w8,(w6.setCell ⟨b4,0,none⟩ (.int .i64 N)).setCell ⟨b4,1,none⟩ (.slice a6 (mo - 1) c6)=w8:=⟨_,rfl⟩
        rw [hw8] at hO7 o8 hA8 be8 ⊢
        have n1:=box_cell hO7 1
        clear hw8 o7 hOm hO6 u0 u1 g0 g1
        go_wp2_with fail
        go_roundg ((mo - 1) * 61+(mo - 1))
        case measure=>omega
        case rel=>exact ⟨mo - 1,mo - 1,Y2,a6,c6,_,rfl,rfl,rfl,by omega,by omega,Nat.le_refl _,by omega,HE.out.symm,HK2.out,HL2.out,hO7,o8,hA8,be8⟩
      · rw [hnd] at HIN
        have HL2:Hid (leanL N Y j=RS):=by rw [Hid,←HL.out,leanL_yes hnd]
        clear hnd HL HZ
        go_wp2_with (go_at_call 246;refine HIN.out.mono ?_;rintro e w5 ⟨rfl,b5⟩)
        go_roundg (mo * 61+j)
        case measure=>omega
        case rel=>exact ⟨j,mo,Y,ao,co,(j:Int) - 1,rfl,by go_num,rfl,by omega,by omega,by omega,hm60,HMY.out,HOKY.out,HL2.out,(b5.block b4 (box_lt hO)).trans hO,ho.below b5,(b5.block B (box_lt hA)).trans hA,be.trans (b5.mono be.size)⟩
    · obtain rfl:k=0:=by have:=HZ.out;omega
      have HE:Hid (Y=RS):=by rw [Hid,←HL.out,leanL_0]
      obtain ⟨c0,c1,f0,f1,r0,r1',oz,bz⟩:=netRes (n:=(N:Int)) hA ho (by have:=HBB.out;omega) be
      rw [HE.out] at oz
      clear HL HZ ho
      go_wp2_with fail
      exact bodyPost_ret (v:=.tuple #[.agg #[.int .i64 (N:Int),.slice ao mo co],.bool true]) (by simp [results,Tryz.results202,go_sem,r0,r1']) rfl (by rw [HR.out];exact ⟨_,_,_,rfl,oz,bz⟩)
def batM (n:Int):Option NetV:=if 1≤n∧n≤8 then some (n,batI 8 (wiresL 0 n.toNat)) else none
def bitM (n:Int):Option NetV:=if n=1 then some (1,btL 0 0) else if n=2 then some (2,btL 1 0) else if n=4 then some (4,btL 2 0) else if n=8 then some (8,btL 3 0) else none
def mergeM (m n:Int):Option NetV:=if 0≤m∧0≤n∧m≤8∧n≤8∧1≤m+n∧m+n≤8 then some (m+n,mrg (m+n).toNat (wiresL 0 m.toNat) (wiresL m.toNat n.toNat)) else none
def liveM (N:Int) (X:List (List Int)) (k:Int):Option NetV:=if 0≤k∧k < N then some (N,liveL k.toNat X) else none
theorem batM_ok {n:Int} {p:NetV} (h:batM n=some p):netOk p.1 p.2=true:=by
 unfold batM at h
 split at h
 · rename_i hn
   cases h
   obtain ⟨k,rfl⟩:=Int.eq_ofNat_of_zero_le (show 0≤n by omega)
   have hk:k=1∨k=2∨k=3∨k=4∨k=5∨k=6∨k=7∨k=8:=by omega
   rcases hk with rfl | rfl | rfl | rfl | rfl | rfl | rfl | rfl <;> decide +kernel
 · cases h
theorem bitM_ok {n:Int} {p:NetV} (h:bitM n=some p):netOk p.1 p.2=true:=by
 unfold bitM at h
 repeat' split at h
 all_goals first | (cases h;decide +kernel) | cases h
theorem mergeM_all:∀ m,m≤8→∀ n,n≤8→1≤m+n→m+n≤8→netOk ((m+n:Nat):Int) (mrg (m+n) (wiresL 0 m) (wiresL m n))=true:=by decide +kernel
theorem mergeM_ok {m n:Int} {p:NetV} (h:mergeM m n=some p):netOk p.1 p.2=true:=by
 unfold mergeM at h
 split at h
 · rename_i hn
   cases h
   obtain ⟨a,rfl⟩:=Int.eq_ofNat_of_zero_le hn.1
   obtain ⟨b,rfl⟩:=Int.eq_ofNat_of_zero_le hn.2.1
   have:=mergeM_all a (by omega) b (by omega) (by omega) (by omega)
   have e:((a:Int)+(b:Int)).toNat=a+b:=by omega
   simpa [e] using this
 · cases h
theorem liveM_ok {N:Int} {X:List (List Int)} {k:Int} {p:NetV} (hk:netOk N X=true) (h:liveM N X k=some p):netOk p.1 p.2=true:=by
 unfold liveM at h
 split at h
 · cases h
   obtain ⟨h1,h2,h3⟩:=netOk_iff.1 hk
   have hs:=keptL_sub X (liK (fun j=>decide (j=k.toNat)) X)
   exact netOk_iff.2 ⟨h1,Nat.le_trans hs.length_le h2,fun xs hx=>h3 xs (hs.subset hx)⟩
 · cases h
theorem i_BatcherM (n:Int) (hn:I64 n) (w:World):Calls Tryz.prog 233 #[.int .i64 n] w (RetM (batM n) w):=by
 by_cases h:1≤n∧n≤8
 · obtain ⟨k,rfl⟩:=Int.eq_ofNat_of_zero_le (show 0≤n by omega)
   rw [batM,if_pos h]
   exact i_BatcherNetwork k (by omega) (by omega) w
 · rw [batM,if_neg h]
   have HI:=fun W=>i_isWires n W
   rw [inB_no.2 (by omega)] at HI
   obtain ⟨w0,B,hw0,hB,hA0,hz0,hb0⟩:=newBox w (.cells #[.int .i64 0,.slice none 0 0] 30)
   have HWB:=Lib.hid hw0
   have HBB:=Lib.hid hB
   obtain ⟨c0,c1,f0,f1,r0,r1,oz,bz⟩:=netRes (n:=0) hA0 (OwnP.nil _ _) (Nat.le_of_eq HBB.out) hb0
   clear hw0 hB h
   go_enter Tryz.func233,Tryz.ntmps233
   go_wp2_with (go_at_call 100;rw [HWB.out,HBB.out];refine (HI _).mono ?_;rintro e w' ⟨rfl,rfl⟩)
   exact bodyPost_ret (v:=.tuple #[.agg #[.int .i64 0,.slice none 0 0],.bool false]) (by simp [results,Tryz.results233,go_sem,r0,r1]) rfl ⟨_,_,_,rfl,oz,bz⟩
theorem i_isPowerNo (n:Int) (h1:n≠1) (h2:n≠2) (h4:n≠4) (h8:n≠8) (w:World):Calls Tryz.prog 281 #[.int .i64 n] w fun e w'=>e=.returned (.bool false)∧w=w':=by
 have e1:(n == (1:Int))=false:=by simpa using h1
 have e2:(n == (2:Int))=false:=by simpa using h2
 have e4:(n == (4:Int))=false:=by simpa using h4
 have e8:(n == (8:Int))=false:=by simpa using h8
 go_enter Tryz.func281,Tryz.ntmps281
 go_wp2
 go_ret
 exact ⟨rfl,rfl⟩
theorem i_BitonicM (n:Int) (hn:I64 n) (w:World):Calls Tryz.prog 234 #[.int .i64 n] w (RetM (bitM n) w):=by
 by_cases h1:n=1
 · subst h1;exact i_BitonicNetwork 0 1 (by omega) rfl w
 by_cases h2:n=2
 · subst h2;exact i_BitonicNetwork 1 2 (by omega) rfl w
 by_cases h4:n=4
 · subst h4;exact i_BitonicNetwork 2 4 (by omega) rfl w
 by_cases h8:n=8
 · subst h8;exact i_BitonicNetwork 3 8 (by omega) rfl w
 rw [bitM,if_neg h1,if_neg h2,if_neg h4,if_neg h8]
 have HI:=fun W=>i_isPowerNo n h1 h2 h4 h8 W
 obtain ⟨w0,B,hw0,hB,hA0,hz0,hb0⟩:=newBox w (.cells #[.int .i64 0,.slice none 0 0] 30)
 have HWB:=Lib.hid hw0
 have HBB:=Lib.hid hB
 obtain ⟨c0,c1,f0,f1,r0,r1,oz,bz⟩:=netRes (n:=0) hA0 (OwnP.nil _ _) (Nat.le_of_eq HBB.out) hb0
 clear hw0 hB h1 h2 h4 h8
 go_enter Tryz.func234,Tryz.ntmps234
 go_wp2_with (go_at_call 281;rw [HWB.out,HBB.out];refine (HI _).mono ?_;rintro e w' ⟨rfl,rfl⟩)
 exact bodyPost_ret (v:=.tuple #[.agg #[.int .i64 0,.slice none 0 0],.bool false]) (by simp [results,Tryz.results234,go_sem,r0,r1]) rfl ⟨_,_,_,rfl,oz,bz⟩
theorem i_areNo (m n:Int) (hm:I64 m) (hn:I64 n) (h:¬ (0≤m∧0≤n∧m≤8∧n≤8∧1≤m+n∧m+n≤8)) (w:World):Calls Tryz.prog 247 #[.int .i64 m,.int .i64 n] w fun e w'=>e=.returned (.bool false)∧w=w':=by
 by_cases h1:0≤m
 · have e1:decide (m ≥ 0)=true:=by simpa using h1
   by_cases h2:0≤n
   · have e2:decide (n ≥ 0)=true:=by simpa using h2
     by_cases h3:m≤8
     · have e3:decide (m≤8)=true:=by simpa using h3
       by_cases h4:n≤8
       · have e4:decide (n≤8)=true:=by simpa using h4
         have HI:=i_isWires (m+n) w
         rw [inB_no.2 (by omega)] at HI
         have HI2:=Lib.hid HI
         clear h HI
         go_enter Tryz.func247,Tryz.ntmps247
         go_wp2_with (go_at_call 100;refine HI2.out.mono ?_;rintro e w' ⟨rfl,rfl⟩)
         go_ret
         exact ⟨rfl,rfl⟩
       · have e4:decide (n≤8)=false:=by simpa using h4
         clear h
         go_enter Tryz.func247,Tryz.ntmps247
         go_wp2
         go_ret
         exact ⟨rfl,rfl⟩
     · have e3:decide (m≤8)=false:=by simpa using h3
       clear h
       go_enter Tryz.func247,Tryz.ntmps247
       go_wp2
       go_ret
       exact ⟨rfl,rfl⟩
   · have e2:decide (n ≥ 0)=false:=by simpa using h2
     clear h
     go_enter Tryz.func247,Tryz.ntmps247
     go_wp2
     go_ret
     exact ⟨rfl,rfl⟩
 · have e1:decide (m ≥ 0)=false:=by simpa using h1
   clear h
   go_enter Tryz.func247,Tryz.ntmps247
   go_wp2
   go_ret
   exact ⟨rfl,rfl⟩
theorem i_MergeM (m n:Int) (hm:I64 m) (hn:I64 n) (w:World):Calls Tryz.prog 205 #[.int .i64 m,.int .i64 n] w (RetM (mergeM m n) w):=by
 by_cases h:0≤m∧0≤n∧m≤8∧n≤8∧1≤m+n∧m+n≤8
 · rw [mergeM,if_pos h]
   obtain ⟨a,rfl⟩:=Int.eq_ofNat_of_zero_le h.1
   obtain ⟨b,rfl⟩:=Int.eq_ofNat_of_zero_le h.2.1
   exact i_OddEvenMerge a b (a+b) rfl (by omega) (by omega) w
 · rw [mergeM,if_neg h]
   have HI:=Lib.hid (fun W=>i_areNo m n hm hn h W)
   obtain ⟨w0,B,hw0,hB,hA0,hz0,hb0⟩:=newBox w (.cells #[.int .i64 0,.slice none 0 0] 30)
   have HWB:=Lib.hid hw0
   have HBB:=Lib.hid hB
   obtain ⟨c0,c1,f0,f1,r0,r1,oz,bz⟩:=netRes (n:=0) hA0 (OwnP.nil _ _) (Nat.le_of_eq HBB.out) hb0
   clear hw0 hB h
   go_enter Tryz.func205,Tryz.ntmps205
   go_wp2_with (go_at_call 247;rw [HWB.out,HBB.out];refine (HI.out _).mono ?_;rintro e w' ⟨rfl,rfl⟩)
   exact bodyPost_ret (v:=.tuple #[.agg #[.int .i64 0,.slice none 0 0],.bool false]) (by simp [results,Tryz.results205,go_sem,r0,r1]) rfl ⟨_,_,_,rfl,oz,bz⟩
theorem i_LiveM (N:Nat) (v u:Value) (X:List (List Int)) (k:Int) (w:World) (h:Rd2 w v X) (hk:netOk (N:Int) X=true) (hu:Rd w u (ints [k])):Calls Tryz.prog 235 #[.agg #[.int .i64 N,v],u] w (RetM (liveM N X k) w):=by
 by_cases hi:0≤k∧k < (N:Int)
 · rw [liveM,if_pos hi]
   obtain ⟨j,rfl⟩:=Int.eq_ofNat_of_zero_le hi.1
   exact i_LiveNetwork N j v u X w h hk hu (by omega)
 · rw [liveM,if_neg hi]
   obtain ⟨a,c,rfl,hmc,hc9⟩:=h.form
   obtain ⟨m,hm⟩:∃ m,X.length=m:=⟨_,rfl⟩
   obtain ⟨h18,_,_⟩:=netOk_iff.1 hk
   obtain ⟨pu,cu,rfl,hu0⟩:∃ (pu:Addr) (cu:Nat),u=.slice (some pu) 1 cu∧w.cell? pu=some (.int .i64 k):=by
    obtain ⟨au,nu,cu,rfl,HU,_,_⟩:=hu.formN
    obtain rfl:nu=1:=HU.out
    obtain ⟨p,x,rfl,hc,hx⟩:=hu.int (k:=0) (by simp)
    have:=hx.out
    simp at this
    exact ⟨p,cu,rfl,by rw [this];simpa [Addr.add] using hc⟩
   have HNK:=Lib.hid (fun (W:World) (hW:Rd2 W (.slice a X.length c) X)=>hk ▸ i_NetworkOk (N:Int) _ X W hW (by unfold I64;omega))
   rw [hm] at h HNK ⊢
   have HIW:=Lib.hid (fun (W:World)=>i_isWire (N:Int) k (.slice a m c) W)
   rw [inB_no.2 (by omega)] at HIW
   clear hm hk hu hi
   obtain ⟨wa,bx,hwa,hbx,hXa,hza,hba⟩:=newBox w (.cells #[.int .i64 N,.slice a m c] 30)
   obtain ⟨w0,B,hw0,hB,hA0,hz0,hb0⟩:=newBox wa (.cells #[.int .i64 0,.slice none 0 0] 30)
   have hX0:w0.heap[bx]?=_:=(hb0.block bx hza).trans hXa
   have hb0':=hba.trans (hb0.mono hba.size)
   have HWA:=Lib.hid hwa
   have HBX:=Lib.hid hbx
   have HW0:=Lib.hid hw0
   have HBB:Hid (w.heap.size+1=B):=by rw [Hid,←hB,←hwa];simp
   have h0:=h.below hb0'
   have q0:=box_cell hX0 0
   have q1:=box_cell hX0 1
   clear hwa hbx hw0 hB hXa hza hba hb0
   go_enter Tryz.func235,Tryz.ntmps235
   go_upto_region 1 with (fail)
   rw [HWA.out,HW0.out,HBB.out,HBX.out]
   go_upto_region 3 with (go_at_call 40;refine (HNK.out _ h0).mono ?_;rintro e w1 ⟨rfl,b1⟩)
   have hX1:w1.heap[bx]?=_:=(b1.block bx (box_lt hX0)).trans hX0
   have hA1:w1.heap[B]?=_:=(b1.block B hz0).trans hA0
   have bt1:=hb0'.trans (b1.mono hb0'.size)
   obtain ⟨w2,D,hw2,hD,hD2,hz2,hb2⟩:=newBox w1 (.cells #[.bool false,.bool false,.bool false,.bool false,.bool false,.bool false,.bool false,.bool false] 213)
   have HW2:=Lib.hid hw2
   have HD:=Lib.hid hD
   clear hw2 hD
   go_upto_region 4 with (fail)
   rw [HW2.out,HD.out]
   have hX2:w2.heap[bx]?=_:=(hb2.block bx (box_lt hX1)).trans hX1
   have hA2:w2.heap[B]?=_:=(hb2.block B (box_lt hA1)).trans hA1
   have bt2:=bt1.trans (hb2.mono bt1.size)
   have hu2:=(bt2.cell (World.block_lt_of_cell? _ _ hu0)).trans hu0
   have q2:=box_cell hX2 0
   have q3:=box_cell hX2 1
   clear hX0 hX1 hA0 hA1 hb0' b1 bt1 hb2 hD2 h0 hu0 q0 q1
   go_wp2_with fail
   go_loopg [23] 1 (fun g iv wr=>g=1∧iv=.int .i64 0∧w2=wr)
   case atStart=>exact ⟨rfl,rfl,rfl⟩
   case round =>
    obtain ⟨hg,rfl,rfl⟩:=hrel
    go_upto_region 8 with (go_at_call 101;refine (HIW.out _).mono ?_;rintro e w3 ⟨rfl,b3⟩)
    have hA3:w3.heap[B]?=_:=(b3.block B (box_lt hA2)).trans hA2
    obtain ⟨c0,c1,f0,f1,r0,r1,oz,bz⟩:=netRes (n:=0) hA3 (OwnP.nil _ _) (by have:=HBB.out;omega) (bt2.trans (b3.mono bt2.size))
    go_wp2_with fail
    exact bodyPost_ret (v:=.tuple #[.agg #[.int .i64 0,.slice none 0 0],.bool false]) (by simp [results,Tryz.results235,go_sem,r0,r1]) rfl ⟨_,_,_,rfl,oz,bz⟩
def bitsI (N:Nat) (X:List (List Int)) (k:Int):Int:=if 0≤k∧k < 2 ^ N then ((outM X k.toNat:Nat):Int) else -1
theorem i_isMaskN (N:Nat) (k:Int) (h1:1≤N) (h8:N≤8) (w:World):Calls Tryz.prog 283 #[.int .i64 (N:Int),.int .i64 k] w fun e w'=>e=.returned (.bool (decide (0≤k∧k < 2 ^ N)))∧w=w':=by
 obtain ⟨b,hb⟩:∃ b,decide (0≤k∧k < 2 ^ N)=b:=⟨_,rfl⟩
 rw [hb]
 by_cases h0:0≤k
 · have e0:decide (k ≥ 0)=true:=by simpa using h0
   by_cases hm:k < 2 ^ N
   · obtain rfl:true=b:=by rw [←hb];exact (decide_eq_true ⟨h0,hm⟩).symm
     clear hb
     obtain rfl | rfl | rfl | rfl | rfl | rfl | rfl | rfl:N=1∨N=2∨N=3∨N=4∨N=5∨N=6∨N=7∨N=8:=by omega
     all_goals
      simp only [Nat.reducePow,Int.reducePow] at hm
      go_enter Tryz.func283,Tryz.ntmps283
      go_wp2
      go_ret
      exact ⟨by first | rfl | (simp;omega),rfl⟩
   · obtain rfl:false=b:=by rw [←hb];exact (decide_eq_false fun h=>hm h.2).symm
     clear hb
     obtain rfl | rfl | rfl | rfl | rfl | rfl | rfl | rfl:N=1∨N=2∨N=3∨N=4∨N=5∨N=6∨N=7∨N=8:=by omega
     all_goals
      simp only [Nat.reducePow,Int.reducePow] at hm
      go_enter Tryz.func283,Tryz.ntmps283
      go_wp2
      go_ret
      exact ⟨by first | rfl | (simp;omega),rfl⟩
 · have e0:decide (k ≥ 0)=false:=by simpa using h0
   obtain rfl:false=b:=by rw [←hb];exact (decide_eq_false fun h=>h0 h.1).symm
   clear hb
   go_enter Tryz.func283,Tryz.ntmps283
   go_wp2
   go_ret
   exact ⟨rfl,rfl⟩
theorem i_ApplyBits (N:Nat) (v:Value) (X:List (List Int)) (k:Int) (w:World) (h:Rd2 w v X) (hk:netOk (N:Int) X=true):Calls Tryz.prog 236 #[.agg #[.int .i64 N,v],.int .i64 k] w (RetB (.int .i64 (bitsI N X k)) w):=by
 obtain ⟨a,c,rfl,hmc,hc9⟩:=h.form
 obtain ⟨m,hm⟩:∃ m,X.length=m:=⟨_,rfl⟩
 obtain ⟨h18,_,_⟩:=netOk_iff.1 hk
 have HNK:=Lib.hid (fun (W:World) (hW:Rd2 W (.slice a X.length c) X)=>hk ▸ i_NetworkOk (N:Int) _ X W hW (by unfold I64;omega))
 have HMK:=Lib.hid (fun (W:World)=>i_isMaskN N k (by omega) (by omega) W)
 have HBT:=Lib.hid (fun (j:Nat) (hj:j < 2 ^ N) (W:World) (hW:Rd2 W (.slice a X.length c) X)=>i_bits N _ X j W hW hk hj)
 have HR:Hid (bitsI N X k=if 0≤k∧k < 2 ^ N then ((outM X k.toNat:Nat):Int) else -1):=rfl
 rw [hm] at h HNK HBT ⊢
 clear hm hk
 obtain ⟨wa,bx,hwa,hbx,hXa,hza,hba⟩:=newBox w (.cells #[.int .i64 N,.slice a m c] 30)
 have HWA:=Lib.hid hwa
 have HBX:=Lib.hid hbx
 have h0:=h.below hba
 have q0:=box_cell hXa 0
 have q1:=box_cell hXa 1
 have HT:Hid (∀ W,Below wa.heap.size wa W→W.cell? ⟨bx,0,none⟩=some (.int .i64 N)∧W.cell? ⟨bx,1,none⟩=some (.slice a m c)∧Rd2 W (.slice a m c) X):=fun W hW=>by
  have hX:=(hW.block bx hza).trans hXa
  exact ⟨box_cell hX 0,box_cell hX 1,h0.below hW⟩
 clear hwa hbx
 by_cases hi:0≤k∧k < 2 ^ N
 · have HR2:Hid (bitsI N X k=((outM X k.toNat:Nat):Int)):=by rw [Hid,HR.out,if_pos hi]
   rw [decide_eq_true hi] at HMK
   obtain ⟨j,rfl⟩:=Int.eq_ofNat_of_zero_le hi.1
   have hj:j < 2 ^ N:=by exact_mod_cast hi.2
   have HB2:=Lib.hid (HBT.out j hj)
   clear hi HR HBT hj
   go_enter Tryz.func236,Tryz.ntmps236
   go_upto_region 1 with (fail)
   rw [HWA.out,HBX.out]
   go_wp2_with (first
    | (go_at_call 40;refine (HNK.out _ h0).mono ?_;rintro e w1 ⟨rfl,b1⟩;obtain ⟨k0,k1,h1⟩:=HT.out _ b1)
    | (go_at_call 283;refine (HMK.out _).mono ?_;rintro e w' ⟨rfl,rfl⟩)
    | (go_at_call 123;refine (HB2.out _ h1).mono ?_;rintro e w3 ⟨rfl,b3⟩))
   go_ret
   exact ⟨by rw [HR2.out];rfl,hba.trans ((b1.trans (b3.mono b1.size)).mono hba.size)⟩
 · have HR2:Hid (bitsI N X k = -1):=by rw [Hid,HR.out,if_neg hi]
   rw [decide_eq_false hi] at HMK
   clear hi HR HBT
   go_enter Tryz.func236,Tryz.ntmps236
   go_upto_region 1 with (fail)
   rw [HWA.out,HBX.out]
   go_wp2_with (first
    | (go_at_call 40;refine (HNK.out _ h0).mono ?_;rintro e w1 ⟨rfl,b1⟩;obtain ⟨k0,k1,h1⟩:=HT.out _ b1)
    | (go_at_call 283;refine (HMK.out _).mono ?_;rintro e w' ⟨rfl,rfl⟩))
   go_ret
   exact ⟨by rw [HR2.out];rfl,hba.trans (b1.mono hba.size)⟩
def RetLB (ys:List Int) (ok:Bool) (w:World) (e:Ending) (w':World):Prop:=∃ v,e=.returned (.tuple #[v,.bool ok])∧Rd w' v (ints ys)∧Below w.heap.size w w'
def appB (N:Nat) (xs:List Int):Bool:=decide (xs.length=N)
def appL (N:Nat) (X:List (List Int)) (xs:List Int):List Int:=if xs.length=N then apM X xs X.length else []
theorem i_ApplyM (N:Nat) (v u:Value) (X:List (List Int)) (xs:List Int) (w:World) (h:Rd2 w v X) (hu:Rd w u (ints xs)) (hk:netOk (N:Int) X=true):Calls Tryz.prog 238 #[.agg #[.int .i64 N,v],u] w (RetLB (appL N X xs) (appB N xs) w):=by
 by_cases hi:xs.length=N
 · rw [appL,appB,if_pos hi,decide_eq_true hi]
   exact (i_ApplyOk2 N v u X xs w h hu hk hi).mono fun e w' ⟨v,h1,h2,h3⟩=>⟨v,h1,h2.rd,h3⟩
 · rw [appL,appB,if_neg hi,decide_eq_false hi]
   obtain ⟨a,c,rfl,hmc,hc9⟩:=h.form
   obtain ⟨au,nu,cu,rfl,HU,_,_⟩:=hu.formN
   obtain ⟨m,hm⟩:∃ m,X.length=m:=⟨_,rfl⟩
   obtain ⟨h18,_,_⟩:=netOk_iff.1 hk
   have HNK:=Lib.hid (fun (W:World) (hW:Rd2 W (.slice a X.length c) X)=>hk ▸ i_NetworkOk (N:Int) _ X W hW (by unfold I64;omega))
   rw [hm] at h HNK ⊢
   have hne:((nu:Int) != (N:Int))=true:=by have:=HU.out;simp;omega
   clear hm hk hi
   obtain ⟨wa,bx,hwa,hbx,hXa,hza,hba⟩:=newBox w (.cells #[.int .i64 N,.slice a m c] 30)
   have HWA:=Lib.hid hwa
   have HBX:=Lib.hid hbx
   have h0:=h.below hba
   have q0:=box_cell hXa 0
   have q1:=box_cell hXa 1
   have HT:Hid (∀ W,Below wa.heap.size wa W→W.cell? ⟨bx,0,none⟩=some (.int .i64 N)∧W.cell? ⟨bx,1,none⟩=some (.slice a m c)):=fun W hW=>by
    have hX:=(hW.block bx hza).trans hXa
    exact ⟨box_cell hX 0,box_cell hX 1⟩
   clear hwa hbx
   go_enter Tryz.func238,Tryz.ntmps238
   go_upto_region 1 with (fail)
   rw [HWA.out,HBX.out]
   go_wp2_with (go_at_call 40;refine (HNK.out _ h0).mono ?_;rintro e w1 ⟨rfl,b1⟩;obtain ⟨k0,k1⟩:=HT.out _ b1)
   go_ret2
   exact ⟨_,rfl,Rd.nil _,hba.trans (b1.mono hba.size)⟩
def rowUp (i:Nat):Nat→List (List Int)
 | 0=>[]
 | k+1=>[(i:Int),(i:Int)+1] :: rowUp (i+1) k
def bubFrom:Nat→List (List Int)
 | 0=>[]
 | j+1=>rowUp 0 (j+1)++bubFrom j
def bubM (n:Int):Option NetV:=if 1≤n∧n≤8 then some (n,bubFrom (n.toNat - 1)) else none
def rowTwo (i:Nat):Nat→List (List Int)
 | 0=>[]
 | k+1=>[(i:Int),(i:Int)+1] :: rowTwo (i+2) k
def brickFrom (n q:Nat):Nat→List (List Int)
 | 0=>[]
 | k+1=>rowTwo (q % 2) ((n - q % 2) / 2)++brickFrom n (q+1) k
def brickM (n r:Int):Option NetV:=if (1≤n∧n≤8)∧0≤r∧r≤8 then some (n,brickFrom n.toNat 0 r.toNat) else none
theorem bubM_ok {n:Int} {p:NetV} (h:bubM n=some p):netOk p.1 p.2=true:=by
 unfold bubM at h
 split at h
 · rename_i hn
   cases h
   obtain ⟨k,rfl⟩:=Int.eq_ofNat_of_zero_le (show 0≤n by omega)
   have hk:k=1∨k=2∨k=3∨k=4∨k=5∨k=6∨k=7∨k=8:=by omega
   rcases hk with rfl | rfl | rfl | rfl | rfl | rfl | rfl | rfl <;> decide +kernel
 · cases h
theorem brickM_all:∀ n:Nat,n≤8→∀ r:Nat,r≤8→1≤n→netOk (n:Int) (brickFrom n 0 r)=true:=by decide +kernel
theorem brickM_ok {n r:Int} {p:NetV} (h:brickM n r=some p):netOk p.1 p.2=true:=by
 unfold brickM at h
 split at h
 · rename_i hn
   cases h
   obtain ⟨a,rfl⟩:=Int.eq_ofNat_of_zero_le (show 0≤n by omega)
   obtain ⟨b,rfl⟩:=Int.eq_ofNat_of_zero_le (show 0≤r by omega)
   exact brickM_all a (by omega) b (by omega) (by omega)
 · cases h
theorem bubFrom_len:∀ j,j≤7→(bubFrom j).length≤28:=by decide +kernel
theorem i_BubbleM (n:Int) (hn:I64 n) (w:World):Calls Tryz.prog 232 #[.int .i64 n] w (RetM (bubM n) w):=by
 have HI0:=fun W=>i_isWires n W
 obtain ⟨w0,B,hw0,hB,hA0,hz0,hb0⟩:=newBox w (.cells #[.int .i64 0,.slice none 0 0] 30)
 have HWB:=Lib.hid hw0
 have HBB:=Lib.hid hB
 clear hw0 hB
 by_cases h:1≤n∧n≤8
 · obtain ⟨N,rfl⟩:=Int.eq_ofNat_of_zero_le (show 0≤n by omega)
   obtain ⟨M,hNM⟩:∃ M,M+1=N:=⟨N - 1,by omega⟩
   have HNM:=Lib.hid hNM
   have hM:M≤7:=by omega
   have hN1:1≤N:=by omega
   have hN8:N≤8:=by omega
   obtain ⟨RS,hRS⟩:∃ RS,bubFrom M=RS:=⟨_,rfl⟩
   have hRL:RS.length≤28:=by rw [←hRS];exact bubFrom_len M hM
   have HR:Hid (bubM (N:Int)=some ((N:Int),RS)):=by rw [Hid,bubM,if_pos h,←hRS,show ((N:Int)).toNat - 1=M by omega]
   have HRS:=Lib.hid hRS
   rw [inB_iff.2 ⟨by omega,by omega⟩] at HI0
   have HI:=Lib.hid HI0
   obtain ⟨w1,bo,hw1,hbo,hO1,hz1,hb1⟩:=newBox w0 (.cells #[.int .i64 (N:Int),.slice none 0 0] 30)
   have HW1:=Lib.hid hw1
   have HBO:=Lib.hid hbo
   have hA1:w1.heap[B]?=_:=(hb1.block B hz0).trans hA0
   have bt1:=hb0.trans (hb1.mono hb0.size)
   have hBo:B < bo:=by omega
   have hwo:w.heap.size≤bo:=by have:=hb0.size;omega
   clear hw1 hbo hb1 HI0 hRS h hNM
   go_enter Tryz.func232,Tryz.ntmps232
   go_upto_region 3 with (go_at_call 100;rw [HWB.out,HBB.out];refine (HI.out _).mono ?_;rintro e w' ⟨rfl,rfl⟩)
   go_upto_region 4 with (fail)
   rw [HW1.out,HBO.out]
   go_wp2_with fail
   go_loopg [5] M (fun g jv wr=>∃ (j:Nat) (X:List (List Int)) (ao:Option Addr) (mo co:Nat),g=j∧j≤M∧jv=.int .i64 (j:Int)∧Hid (X++bubFrom j=RS)∧wr.heap[bo]?=some (.cells #[.int .i64 (N:Int),.slice ao mo co] 30 (0,0))∧OwnP wr (bo+1) (.slice ao mo co) X∧Below bo w1 wr)
   case atStart=>exact ⟨M,[],none,0,0,rfl,Nat.le_refl _,by have hh:=HNM.out;first | (congr 1;omega) | go_num,HRS.out,hO1,OwnP.nil _ _,Below.refl _ _⟩
   case round =>
    clear hO1
    obtain ⟨wl,rfl⟩:∃ wl:World,wl=wr:=⟨_,rfl⟩
    obtain ⟨j,X,ao,mo,co,hg,hjM,rfl,HX,hO,ho,hb⟩:=hrel
    by_cases hj1:1≤j
    · obtain ⟨r,hr⟩:∃ r,r+1=j:=⟨j - 1,by omega⟩
      have HRJ:=Lib.hid hr
      have hr7:r≤7:=by omega
      have i1:decide ((j:Int) ≥ 1)=true:=by simp;omega
      have HX2:Hid (X++rowUp 0 j++bubFrom r=RS):=by rw [Hid,←HX.out,List.append_assoc,←hr];rfl
      clear hr
      go_wp2_with fail
      go_loopg [20] j (fun g2 iv wi=>∃ (i k:Nat) (Y:List (List Int)) (ai:Option Addr) (mi ci:Nat),g2=k∧Hid (i+k=j)∧i≤8∧k≤8∧iv=.int .i64 (i:Int)∧Hid (Y++rowUp i k++bubFrom r=RS)∧wi.heap[bo]?=some (.cells #[.int .i64 (N:Int),.slice ai mi ci] 30 (0,0))∧OwnP wi (bo+1) (.slice ai mi ci) Y∧Below bo w1 wi)
      case atStart=>exact ⟨0,j,X,ao,mo,co,rfl,by rw [Hid];omega,by omega,by omega,rfl,HX2.out,hO,ho,hb⟩
      case round =>
       clear hO ho hb HX HX2
       obtain ⟨wi,rfl⟩:∃ wi:World,wi=wr:=⟨_,rfl⟩
       obtain ⟨i,k,Y,ai,mi,ci,hg2,HIK,hi8,hk8,rfl,HY,hO,ho,hb⟩:=hrel
       obtain ⟨rows,hov,hrp,HLR,HMO⟩:=OwnP.rowsOf ho
       have hYl:Y.length≤28:=by have:=congrArg List.length HY.out;simp only [List.length_append] at this;omega
       have hmi:mi≤28:=by have:=HMO.out;omega
       by_cases hlt:i < j
       · obtain ⟨q,rfl⟩:∃ q,k=q+1:=⟨k - 1,by have:=HIK.out;omega⟩
         have i2:decide ((i:Int) < (j:Int))=true:=by simp;omega
         have i3:(i:Int) < (j:Int):=by omega
         have HY2:Hid ((Y++[[(i:Int),(i:Int)+1]])++rowUp (i+1) q++bubFrom r=RS):=by rw [Hid,←HY.out];simp [rowUp]
         obtain ⟨k1,k2,k3⟩:=pushFacts hO (i:Int) ((i:Int)+1)
         have zO:=box_lt hO
         go_wp2_with (at_builtin;refine listPush (by rfl) _ _ _ (by rfl) elII (by rfl) (by rfl) (by decide) hO (by decide) (by decide) hov hrp HLR.out (by omega) ?_;rintro b7 c7 w7 ⟨k6,kf6,hO7,o7,b7'⟩)
         go_roundg q
         case measure=>omega
         case rel=>exact ⟨i+1,q,_,_,_,_,rfl,by rw [Hid];have:=HIK.out;omega,by omega,by omega,by go_num,HY2.out,hO7,o7,hb.trans b7'⟩
       · obtain rfl:k=0:=by have:=HIK.out;omega
         have i2:decide ((i:Int) < (j:Int))=false:=by simp;omega
         have i3:¬ (i:Int) < (j:Int):=by omega
         have HY2:Hid (Y++bubFrom r=RS):=by rw [Hid,←HY.out];simp [rowUp]
         go_wp2_with fail
         go_roundg r
         case measure=>have:=HRJ.out;omega
         case rel=>exact ⟨r,Y,ai,mi,ci,rfl,by have:=HRJ.out;omega,by have hh:=HRJ.out;first | (congr 1;omega) | go_num,HY2.out,hO,ho,hb⟩
    · obtain rfl:j=0:=by omega
      have HE:Hid (X=RS):=by rw [Hid,←HX.out];simp [bubFrom]
      have hAl:wl.heap[B]?=_:=(hb.block B hBo).trans hA1
      obtain ⟨c0,c1,f0,f1,r0,r1,oz,bz⟩:=netRes (n:=(N:Int)) hAl (ho.mono (by omega)) (Nat.le_of_eq HBB.out) (bt1.trans (hb.mono hwo))
      rw [HE.out] at oz
      have p0:=box_cell hO 0
      have p1:=box_cell hO 1
      clear ho hAl
      go_wp2_with fail
      exact bodyPost_ret (v:=.tuple #[.agg #[.int .i64 (N:Int),.slice ao mo co],.bool true]) (by simp [results,Tryz.results232,go_sem,r0,r1]) rfl (by rw [HR.out];exact ⟨_,_,_,rfl,oz,bz⟩)
 · rw [bubM,if_neg h]
   rw [inB_no.2 (by omega)] at HI0
   obtain ⟨c0,c1,f0,f1,r0,r1,oz,bz⟩:=netRes (n:=0) hA0 (OwnP.nil _ _) (Nat.le_of_eq HBB.out) hb0
   clear h
   go_enter Tryz.func232,Tryz.ntmps232
   go_wp2_with (go_at_call 100;rw [HWB.out,HBB.out];refine (HI0 _).mono ?_;rintro e w' ⟨rfl,rfl⟩)
   exact bodyPost_ret (v:=.tuple #[.agg #[.int .i64 0,.slice none 0 0],.bool false]) (by simp [results,Tryz.results232,go_sem,r0,r1]) rfl ⟨_,_,_,rfl,oz,bz⟩
theorem brick_len:∀ n:Nat,n≤8→∀ r:Nat,r≤8→(brickFrom n 0 r).length≤32:=by decide +kernel
theorem i_BrickM (n m:Int) (hn:I64 n) (hm:I64 m) (w:World):Calls Tryz.prog 204 #[.int .i64 n,.int .i64 m] w (RetM (brickM n m) w):=by
 have HI0:=fun W=>i_isWires n W
 obtain ⟨w0,B,hw0,hB,hA0,hz0,hb0⟩:=newBox w (.cells #[.int .i64 0,.slice none 0 0] 30)
 have HWB:=Lib.hid hw0
 have HBB:=Lib.hid hB
 clear hw0 hB
 by_cases h:1≤n∧n≤8
 · rw [inB_iff.2 ⟨by omega,by omega⟩] at HI0
   have HI:=Lib.hid HI0
   by_cases hm0:m < 0
   · have i1:decide (m < 0)=true:=by simpa using hm0
     have HR:Hid (brickM n m=none):=by rw [Hid,brickM,if_neg (by omega)]
     obtain ⟨c0,c1,f0,f1,r0,r1,oz,bz⟩:=netRes (n:=0) hA0 (OwnP.nil _ _) (Nat.le_of_eq HBB.out) hb0
     clear h HI0
     go_enter Tryz.func204,Tryz.ntmps204
     go_wp2_with (go_at_call 100;rw [HWB.out,HBB.out];refine (HI.out _).mono ?_;rintro e w' ⟨rfl,rfl⟩)
     exact bodyPost_ret (v:=.tuple #[.agg #[.int .i64 0,.slice none 0 0],.bool false]) (by simp [results,Tryz.results204,go_sem,r0,r1]) rfl (by rw [HR.out];exact ⟨_,_,_,rfl,oz,bz⟩)
   have i1:decide (m < 0)=false:=by simpa using hm0
   by_cases hm8:8 < m
   · have i2:decide (m > 8)=true:=by simpa using hm8
     have HR:Hid (brickM n m=none):=by rw [Hid,brickM,if_neg (by omega)]
     obtain ⟨c0,c1,f0,f1,r0,r1,oz,bz⟩:=netRes (n:=0) hA0 (OwnP.nil _ _) (Nat.le_of_eq HBB.out) hb0
     clear h HI0
     go_enter Tryz.func204,Tryz.ntmps204
     go_wp2_with (go_at_call 100;rw [HWB.out,HBB.out];refine (HI.out _).mono ?_;rintro e w' ⟨rfl,rfl⟩)
     exact bodyPost_ret (v:=.tuple #[.agg #[.int .i64 0,.slice none 0 0],.bool false]) (by simp [results,Tryz.results204,go_sem,r0,r1]) rfl (by rw [HR.out];exact ⟨_,_,_,rfl,oz,bz⟩)
   have i2:decide (m > 8)=false:=by simpa using hm8
   obtain ⟨N,rfl⟩:=Int.eq_ofNat_of_zero_le (show 0≤n by omega)
   obtain ⟨R,rfl⟩:=Int.eq_ofNat_of_zero_le (show 0≤m by omega)
   have hN:N≤8:=by omega
   have hR:R≤8:=by omega
   obtain ⟨RS,hRS⟩:∃ RS,brickFrom N 0 R=RS:=⟨_,rfl⟩
   have hRL:RS.length≤32:=by rw [←hRS];exact brick_len N hN R hR
   have HR:Hid (brickM (N:Int) (R:Int)=some ((N:Int),RS)):=by rw [Hid,brickM,if_pos ⟨h,by omega,by omega⟩,←hRS];rfl
   have HRS:=Lib.hid hRS
   obtain ⟨w1,bo,hw1,hbo,hO1,hz1,hb1⟩:=newBox w0 (.cells #[.int .i64 (N:Int),.slice none 0 0] 30)
   have HW1:=Lib.hid hw1
   have HBO:=Lib.hid hbo
   have hA1:w1.heap[B]?=_:=(hb1.block B hz0).trans hA0
   have bt1:=hb0.trans (hb1.mono hb0.size)
   have hBo:B < bo:=by omega
   have hwo:w.heap.size≤bo:=by have:=hb0.size;omega
   clear hw1 hbo hb1 HI0 hRS h hm0 hm8
   go_enter Tryz.func204,Tryz.ntmps204
   go_upto_region 3 with (go_at_call 100;rw [HWB.out,HBB.out];refine (HI.out _).mono ?_;rintro e w' ⟨rfl,rfl⟩)
   go_upto_region 4 with (fail)
   rw [HW1.out,HBO.out]
   go_wp2_with fail
   go_loopg [24] R (fun g jv wr=>∃ (q k:Nat) (X:List (List Int)) (ao:Option Addr) (mo co:Nat),g=k∧Hid (q+k=R)∧q≤8∧k≤8∧jv=.int .i64 (q:Int)∧Hid (X++brickFrom N q k=RS)∧wr.heap[bo]?=some (.cells #[.int .i64 (N:Int),.slice ao mo co] 30 (0,0))∧OwnP wr (bo+1) (.slice ao mo co) X∧Below bo w1 wr)
   case atStart=>exact ⟨0,R,[],none,0,0,rfl,by rw [Hid];omega,by omega,by omega,rfl,HRS.out,hO1,OwnP.nil _ _,Below.refl _ _⟩
   case round =>
    clear hO1
    obtain ⟨wl,rfl⟩:∃ wl:World,wl=wr:=⟨_,rfl⟩
    obtain ⟨q,k,X,ao,mo,co,hg,HQK,hq8,hk8,rfl,HX,hO,ho,hb⟩:=hrel
    by_cases hlt:q < R
    · obtain ⟨k,rfl⟩:∃ k',k=k'+1:=⟨k - 1,by have:=HQK.out;omega⟩
      obtain ⟨p,hp⟩:∃ p,q % 2=p:=⟨_,rfl⟩
      have hp2:p≤1:=by omega
      have HX2:Hid (X++rowTwo p ((N - p) / 2)++brickFrom N (q+1) k=RS):=by rw [Hid,←HX.out,List.append_assoc,←hp];rfl
      have i3:(q:Int) < (R:Int):=by omega
      have i4:(q:Int) % 2=(p:Int):=by omega
      have i5:(q:Int).tmod 2=(p:Int):=by rw [Int.tmod_eq_emod_of_nonneg (by omega)];exact i4
      obtain ⟨K,hK⟩:∃ K,(N - p) / 2=K:=⟨_,rfl⟩
      rw [hK] at HX2
      have HPK:Hid (∀ i:Nat,i+2 * 0=i):=fun i=>by omega
      have hKN:Hid (K=(N - p) / 2):=hK.symm
      clear hp hK
      go_wp2_with fail
      go_loopg [8] K (fun g2 iv wr=>∃ (i t:Nat) (Y:List (List Int)) (ai:Option Addr) (mi ci:Nat),g2=t∧Hid (t=(N - i) / 2)∧i≤10∧iv=.int .i64 (i:Int)∧Hid (Y++rowTwo i t++brickFrom N (q+1) k=RS)∧wr.heap[bo]?=some (.cells #[.int .i64 (N:Int),.slice ai mi ci] 30 (0,0))∧OwnP wr (bo+1) (.slice ai mi ci) Y∧Below bo w1 wr)
      case atStart=>exact ⟨p,K,X,ao,mo,co,rfl,hKN.out,by omega,by first | rfl | go_num | (congr 1;omega),HX2.out,hO,ho,hb⟩
      case round =>
       clear hO ho hb HX HX2 i4 i5
       obtain ⟨wi,rfl⟩:∃ wi:World,wi=wr:=⟨_,rfl⟩
       obtain ⟨i,t,Y,ai,mi,ci,hg2,HIT,hi8,rfl,HY,hO,ho,hb⟩:=hrel
       obtain ⟨rows,hov,hrp,HLR,HMO⟩:=OwnP.rowsOf ho
       have hYl:Y.length≤32:=by have:=congrArg List.length HY.out;simp only [List.length_append] at this;omega
       have hmi:mi≤32:=by have:=HMO.out;omega
       by_cases hlt2:i+1 < N
       · obtain ⟨t,rfl⟩:∃ t',t=t'+1:=⟨t - 1,by have:=HIT.out;omega⟩
         have i6:decide ((i:Int)+1 < (N:Int))=true:=by simp;omega
         have i7:(i:Int)+1 < (N:Int):=by omega
         have HY2:Hid ((Y++[[(i:Int),(i:Int)+1]])++rowTwo (i+2) t++brickFrom N (q+1) k=RS):=by rw [Hid,←HY.out];simp [rowTwo]
         obtain ⟨k1,k2,k3⟩:=pushFacts hO (i:Int) ((i:Int)+1)
         have zO:=box_lt hO
         go_wp2_with (at_builtin;refine listPush (by rfl) _ _ _ (by rfl) elII (by rfl) (by rfl) (by decide) hO (by decide) (by decide) hov hrp HLR.out (by omega) ?_;rintro b7 c7 w7 ⟨k6,kf6,hO7,o7,b7'⟩)
         go_roundg t
         case measure=>omega
         case rel=>exact ⟨i+2,t,_,_,_,_,rfl,by rw [Hid];have:=HIT.out;omega,by omega,by go_num,HY2.out,hO7,o7,hb.trans b7'⟩
       · obtain rfl:t=0:=by have:=HIT.out;omega
         have i6:decide ((i:Int)+1 < (N:Int))=false:=by simp;omega
         have i7:¬ (i:Int)+1 < (N:Int):=by omega
         have HY2:Hid (Y++brickFrom N (q+1) k=RS):=by rw [Hid,←HY.out];simp [rowTwo]
         go_wp2_with fail
         go_roundg k
         case measure=>omega
         case rel=>exact ⟨q+1,k,Y,ai,mi,ci,rfl,by rw [Hid];have:=HQK.out;omega,by omega,by omega,by go_num,HY2.out,hO,ho,hb⟩
    · obtain rfl:k=0:=by have:=HQK.out;omega
      have i3:¬ (q:Int) < (R:Int):=by omega
      have HE:Hid (X=RS):=by rw [Hid,←HX.out];simp [brickFrom]
      have hAl:wl.heap[B]?=_:=(hb.block B hBo).trans hA1
      obtain ⟨c0,c1,f0,f1,r0,r1,oz,bz⟩:=netRes (n:=(N:Int)) hAl (ho.mono (by omega)) (Nat.le_of_eq HBB.out) (bt1.trans (hb.mono hwo))
      rw [HE.out] at oz
      have p0:=box_cell hO 0
      have p1:=box_cell hO 1
      clear ho hAl
      go_wp2_with fail
      exact bodyPost_ret (v:=.tuple #[.agg #[.int .i64 (N:Int),.slice ao mo co],.bool true]) (by simp [results,Tryz.results204,go_sem,r0,r1]) rfl (by rw [HR.out];exact ⟨_,_,_,rfl,oz,bz⟩)
 · have HR:Hid (brickM n m=none):=by rw [Hid,brickM,if_neg (by omega)]
   rw [inB_no.2 (by omega)] at HI0
   obtain ⟨c0,c1,f0,f1,r0,r1,oz,bz⟩:=netRes (n:=0) hA0 (OwnP.nil _ _) (Nat.le_of_eq HBB.out) hb0
   clear h
   go_enter Tryz.func204,Tryz.ntmps204
   go_wp2_with (go_at_call 100;rw [HWB.out,HBB.out];refine (HI0 _).mono ?_;rintro e w' ⟨rfl,rfl⟩)
   exact bodyPost_ret (v:=.tuple #[.agg #[.int .i64 0,.slice none 0 0],.bool false]) (by simp [results,Tryz.results204,go_sem,r0,r1]) rfl (by rw [HR.out];exact ⟨_,_,_,rfl,oz,bz⟩)
def joinM (n:Int) (X Y:List (List Int)):Option NetV:=if netOk n Y=true then (if netOk n (X++Y)=true then some (n,X++Y) else none) else none
theorem fld_pairs (v0 v1:Value) (W:World):(Instr.field 30 (.agg #[v0,v1]) 1).run Tryz.prog W=.ok v1 W:=by kernel_rfl
theorem i_JoinNetworks (n:Int) (hn:I64 n) (v u:Value) (X Y:List (List Int)) (w:World) (h:Rd2 w v X) (hy:Rd2 w u Y) (hk:netOk n X=true):Calls Tryz.prog 203 #[.agg #[.int .i64 n,v],.agg #[.int .i64 n,u]] w (RetM (joinM n X Y) w):=by
 obtain ⟨a,c,rfl,hmc,hc9⟩:=h.form
 obtain ⟨ay,cy,rfl,hmcy,hcy9⟩:=hy.form
 have HNK:=Lib.hid (fun (W:World) (hW:Rd2 W (.slice a X.length c) X)=>hk ▸ i_NetworkOk n _ X W hW hn)
 have HNY:=Lib.hid (fun (W:World) (hW:Rd2 W (.slice ay Y.length cy) Y)=>i_NetworkOk n _ Y W hW hn)
 have hl60:=(netOk_iff.1 hk).2.1
 have HOW:=Lib.hid (fun (W:World) (hW:Rd2 W (.slice a X.length c) X)=>i_own n _ X W hW (by omega) (netRows hk))
 have HOY:Hid (netOk n Y=true→Y.length≤60∧∀ (W:World) (hW:Rd2 W (.slice ay Y.length cy) Y),Calls Tryz.prog 98 #[.agg #[.int .i64 n,.slice ay Y.length cy]] W (RetN1 n Y W)):=fun h=>⟨(netOk_iff.1 h).2.1,fun W hW=>i_own n _ Y W hW (by have:=(netOk_iff.1 h).2.1;omega) (netRows h)⟩
 obtain ⟨m,hm⟩:∃ m,X.length=m:=⟨_,rfl⟩
 obtain ⟨my,hmy⟩:∃ m,Y.length=m:=⟨_,rfl⟩
 have HJ:Hid (joinM n X Y=if netOk n Y=true then (if netOk n (X++Y)=true then some (n,X++Y) else none) else none):=rfl
 have HM:=Lib.hid hm
 have HMY:=Lib.hid hmy
 rw [hm] at h HNK HOW hl60 ⊢
 rw [hmy] at hy HNY HOY ⊢
 clear hm hk hmy
 obtain ⟨wa,bx,hwa,hbx,hXa,hza,hba⟩:=newBox w (.cells #[.int .i64 n,.slice a m c] 30)
 obtain ⟨wb,by_,hwb,hby,hYb,hzb,hbb⟩:=newBox wa (.cells #[.int .i64 n,.slice ay my cy] 30)
 obtain ⟨w0,B,hw0,hB,hA0,hz0,hb0⟩:=newBox wb (.cells #[.int .i64 0,.slice none 0 0] 30)
 have hX0:w0.heap[bx]?=_:=(hb0.block bx (Nat.lt_of_lt_of_le hza hbb.size)).trans ((hbb.block bx hza).trans hXa)
 have hY0:w0.heap[by_]?=_:=(hb0.block by_ hzb).trans hYb
 have btb:=hba.trans (hbb.mono hba.size)
 have bt0:=btb.trans (hb0.mono btb.size)
 have HWA:=Lib.hid hwa
 have HBX:=Lib.hid hbx
 have HWB:=Lib.hid hwb
 have HBY:Hid (w.heap.size+1=by_):=by rw [Hid,←hby,←hwa];simp
 have HW0:=Lib.hid hw0
 have HBB:Hid (w.heap.size+1+1=B):=by rw [Hid,←hB,←hwb,←hwa];simp
 have h0:=h.below bt0
 have hy0:=hy.below bt0
 have q0:=box_cell hX0 0
 have q1:=box_cell hX0 1
 clear hwa hbx hwb hby hw0 hB hXa hza hba hYb hzb hbb hb0 btb
 have HT:Hid (∀ W,Below w0.heap.size w0 W→W.cell? ⟨bx,0,none⟩=some (.int .i64 n)∧W.cell? ⟨bx,1,none⟩=some (.slice a m c)∧W.cell? ⟨by_,0,none⟩=some (.int .i64 n)∧W.cell? ⟨by_,1,none⟩=some (.slice ay my cy)∧W.heap[B]?=some (.cells #[.int .i64 0,.slice none 0 0] 30 (0,0))∧Below w.heap.size w W∧Rd2 W (.slice a m c) X∧Rd2 W (.slice ay my cy) Y):=fun W hW=>by
  have hX:=(hW.block bx (box_lt hX0)).trans hX0
  have hY:=(hW.block by_ (box_lt hY0)).trans hY0
  exact ⟨box_cell hX 0,box_cell hX 1,box_cell hY 0,box_cell hY 1,(hW.block B hz0).trans hA0,bt0.trans (hW.mono bt0.size),h0.below hW,hy0.below hW⟩
 cases hkY:netOk n Y
 · rw [hkY] at HNY HJ
   have HR:Hid (joinM n X Y=none):=by rw [Hid,HJ.out,if_neg (by simp)]
   clear HJ hkY HOY
   go_enter Tryz.func203,Tryz.ntmps203
   go_upto_region 1 with (fail)
   rw [HWA.out,HWB.out,HW0.out,HBB.out,HBY.out,HBX.out]
   go_upto_if 21 with (first
    | (go_at_call 40;(with_reducible refine (HNK.out _ h0).mono ?_);rintro e w1 ⟨rfl,b1⟩;obtain ⟨-,-,y0,y1,-,-,-,hy1⟩:=HT.out _ b1)
    | (go_at_call 40;(with_reducible refine (HNY.out _ hy1).mono ?_);rintro e w2 ⟨rfl,b2⟩;have b12:=b1.trans (b2.mono b1.size)))
   obtain ⟨-,-,-,-,hA2,be2,-,-⟩:=HT.out _ b12
   obtain ⟨c0,c1,f0,f1,r0,r1',oz,bz⟩:=netRes (n:=0) hA2 (OwnP.nil _ _) (by have:=HBB.out;omega) be2
   go_wp2_with fail
   exact bodyPost_ret (v:=.tuple #[.agg #[.int .i64 0,.slice none 0 0],.bool false]) (by simp [results,Tryz.results203,go_sem,r0,r1']) rfl (by rw [HR.out];exact ⟨_,_,_,rfl,oz,bz⟩)
 · rw [hkY] at HNY HJ HOY
   simp only [if_true] at HJ
   obtain ⟨hly,hoy⟩:=HOY.out rfl
   have HOYY:=Lib.hid hoy
   clear hkY HOY hoy
   have hnn:((n:Int) == n)=true:=by simp
   go_enter Tryz.func203,Tryz.ntmps203
   go_upto_region 1 with (fail)
   rw [HWA.out,HWB.out,HW0.out,HBB.out,HBY.out,HBX.out]
   go_upto_region 3 with (first
    | (go_at_call 40;(with_reducible refine (HNK.out _ h0).mono ?_);rintro e w1 ⟨rfl,b1⟩;obtain ⟨-,-,y0,y1,-,-,-,hy1⟩:=HT.out _ b1)
    | (go_at_call 40;(with_reducible refine (HNY.out _ hy1).mono ?_);rintro e w2 ⟨rfl,b2⟩;have b12:=b1.trans (b2.mono b1.size);obtain ⟨x0,x1,z0,z1,-,-,h2,-⟩:=HT.out _ b12))
   go_upto_region 4 with (go_at_call 98;refine (HOW.out _ h2).mono ?_;rintro e w3 ⟨a3,m3,c3,rfl,o3,b3⟩)
   obtain rfl:m3=m:=by obtain ⟨_,_,e,_⟩:=o3.rd2.form;injection e with _ e2 _;rw [e2];exact HM.out
   obtain ⟨w4,b6,hw4,hb6,hO4,hz4,hb4⟩:=newBox w3 (.cells #[.int .i64 n,.slice a3 m3 c3] 30)
   have HW4:=Lib.hid hw4
   have HB6:=Lib.hid hb6
   rw [HW4.out,HB6.out]
   have b13:=b12.trans (b3.mono b12.size)
   have b14:=b13.trans (hb4.mono b13.size)
   have hz1:=b13.size
   have hz2:=b12.size
   have hB6:B < b6:=by have:=hb6;have:=hz0;omega
   have hwB:w.heap.size≤B:=by have:=HBB.out;omega
   have o4:=(o3.below hb4).mono (B':=B+1) (by omega)
   obtain ⟨_,_,y0',y1',hA4,be4,_,hy4⟩:=HT.out _ b14
   have hB4:B+1≤w4.heap.size:=by omega
   have hy4d:Rd2 w4.drew (.slice ay my cy) Y:=hy4
   have p1:=box_cell hO4 1
   have HK:Hid (∀ W:World,Below w4.heap.size w4 W→W.cell? ⟨b6,1,none⟩=some (.slice a3 m3 c3)∧W.frozen? ⟨b6,1,none⟩=false∧OwnP W (B+1) (.slice a3 m3 c3) X∧Hid (W.heap[b6]?=some (.cells #[.int .i64 n,.slice a3 m3 c3] 30 (0,0)))∧W.cell? ⟨by_,0,none⟩=some (.int .i64 n)∧W.cell? ⟨by_,1,none⟩=some (.slice ay my cy)):=fun W hW=>by
    have hX:=(hW.block b6 (box_lt hO4)).trans hO4
    exact ⟨box_cell hX 1,frozen_of_row W b6 1 _ _ hX,o4.below hW,hX,(hW.cell (World.block_lt_of_cell? _ _ y0')).trans y0',(hW.cell (World.block_lt_of_cell? _ _ y1')).trans y1'⟩
   clear hw4 hb6 hb4 o3 x0 x1 z0 z1 y0 y1 hy1 h2 b1 b2 b12 b13 b3
   go_cut [] (fun wx=>∃ (a5:Option Addr) (m5 c5:Nat),wx.heap[b6]?=some (.cells #[.int .i64 n,.slice a5 m5 c5] 30 (0,0))∧OwnP wx (B+1) (.slice a5 m5 c5) (X++Y)∧wx.heap[B]?=some (.cells #[.int .i64 0,.slice none 0 0] 30 (0,0))∧Below w.heap.size w wx)
   case first =>
    go_region_law (first
     | (go_simp;go_at_call 98;(with_reducible refine (HOYY.out _ (by first | exact hy4d | exact hy4)).mono ?_);rintro e w6 ⟨a6,m6,c6,rfl,o6,b6'⟩;have g6:Below w4.heap.size w4 w6:=⟨b6'.os,b6'.tape,b6'.output,b6'.size,b6'.block⟩;obtain ⟨k6,kf6,o6',X6,k7,k8⟩:=HK.out _ g6;have fld:=fld_pairs (.int .i64 n) (.slice a6 m6 c6) w6)
     | (obtain ⟨r3,ov3,rp3⟩:=o6';obtain ⟨r6,ov6,rp6⟩:=o6;have hx6:=rp6.1;have hx3:=rp3.1;have hM3:=HM.out;have hM6:=HMY.out;refine step_app (by rfl) _ _ _ (by rfl) elII (by rfl) (by exact ov3) (by rfl) (by exact ov6.rd) rp6.one (Nat.le_trans hB4 g6.size) (by omega) (by omega) ?_;clear hx6 hx3 hM3 hM6;intro b8 c8 w8 ho8 hg8 hat8;have X8:=Lib.hid (World.grownBy.block hg8 b6 (box_lt X6.out) (fun e=>own_ne_box ov3 X6.out (by decide) e.symm) |>.trans X6.out);have k9:=box_cell X8.out 1;have f9:=frozen_of_row w8 b6 1 _ _ X8.out))
    all_goals go_wp2_with (fail)
    all_goals
     have hA6:w6.heap[B]?=_:=(g6.block B (box_lt hA4)).trans hA4
     have be6:=be4.trans (g6.mono be4.size)
     have hA8:w8.heap[B]?=_:=(hg8.block B (box_lt hA6) (fun e=>by have:=(ov3.lt B e.symm).1;omega)).trans hA6
     have be8:=be6.grown hg8 be6.size (fun r hr=>by have:=(ov3.lt r hr).1;omega)
     go_meet
     exact ⟨_,_,_,heap_setCell_same w8 b6 1 _ _ _ X8.out,(OwnP.cat rp3 ov3 rp6 (Nat.le_trans hB4 (Nat.le_refl _)) hg8 ho8).setBox X8.out (by decide) (by decide) _,(heap_setCell_other w8 ⟨b6,1,none⟩ B _ (by show B≠b6;omega)).trans hA8,be8.setCell (by show w.heap.size≤b6;omega) _⟩
   case rest =>
    obtain ⟨a5,m5,c5,hO5,o5,hA5,be5⟩:=hcut
    have HCK:=Lib.hid (fun (W:World) (hW:Below wc.heap.size wc W)=>i_checked n hn a5 m5 c5 (X++Y) W (o5.rd2.below hW))
    have s0:=box_cell hO5 0
    have s1:=box_cell hO5 1
    clear hO4 o4 hA4 be4 HK p1
    cases hkk:netOk n (X++Y)
    · rw [hkk] at HCK HJ
      have HR:Hid (joinM n X Y=none):=by rw [Hid,HJ.out,if_neg (by simp)]
      clear hkk HJ
      go_wp2_with (go_at_call 230;refine (HCK.out _ (Below.refl _ _)).mono ?_;rintro e w7 ⟨rfl,b7⟩;have hA7:w7.heap[B]?=_:=(b7.block B (box_lt hA5)).trans hA5;obtain ⟨c0,c1,f0,f1,r0,r1',oz,bz⟩:=netRes (n:=0) hA7 (OwnP.nil _ _) (by have:=HBB.out;omega) (be5.trans (b7.mono be5.size)))
      exact bodyPost_ret (v:=.tuple #[.agg #[.int .i64 0,.slice none 0 0],.bool false]) (by simp [results,Tryz.results203,go_sem,r0,r1']) rfl (by rw [HR.out];exact ⟨_,_,_,rfl,oz,bz⟩)
    · rw [hkk] at HCK HJ
      have HR:Hid (joinM n X Y=some (n,X++Y)):=by rw [Hid,HJ.out,if_pos rfl]
      clear hkk HJ
      go_wp2_with (go_at_call 230;refine (HCK.out _ (Below.refl _ _)).mono ?_;rintro e w7 ⟨rfl,b7⟩;have hA7:w7.heap[B]?=_:=(b7.block B (box_lt hA5)).trans hA5;obtain ⟨c0,c1,f0,f1,r0,r1',oz,bz⟩:=netRes (n:=n) hA7 (o5.below b7) (by have:=HBB.out;omega) (be5.trans (b7.mono be5.size)))
      exact bodyPost_ret (v:=.tuple #[.agg #[.int .i64 n,.slice a5 m5 c5],.bool true]) (by simp [results,Tryz.results203,go_sem,r0,r1']) rfl (by rw [HR.out];exact ⟨_,_,_,rfl,oz,bz⟩)
theorem f_EqualT (v u:Value) (xs:List Int) (w:World) (h:Rd w v (ints xs)) (h2:Rd w u (ints xs)) (hl:xs.length≤1000):Calls Tryz.prog 103 #[v,u] w (RetB (.bool true) w):=by
 obtain ⟨a,n,c,rfl,HN,hnc,hc⟩:=h.formN
 obtain ⟨b,n2,d,rfl,HN2,hnd,hd⟩:=h2.formN
 obtain rfl:n2=n:=by have:=HN.out;have:=HN2.out;omega
 have hn:n2≤1000:=by have:=HN.out;omega
 have hnn:((n2:Int) != (n2:Int))=false:=by simp
 go_enter Tryz.func103,Tryz.ntmps103
 go_wp2_with fail
 go_loopg [13] n2 (fun g iv wr=>∃ k:Nat,g=n2 - k∧k≤n2∧iv=.int .i64 (k:Int)∧Below w.heap.size w wr)
 case atStart=>exact ⟨0,rfl,Nat.zero_le _,rfl,Below.refl _ _⟩
 case round =>
  obtain ⟨wl,rfl⟩:∃ wl:World,wl=wr:=⟨_,rfl⟩
  obtain ⟨k,hg,hk,rfl,hb⟩:=hrel
  by_cases hlt:k < n2
  · have i1:(k:Int) < (n2:Int):=by omega
    obtain ⟨p,x,rfl,hcx,hx⟩:=(h.below hb).int (k:=k) (by have:=HN.out;omega)
    obtain ⟨p2,x2,rfl,hcy,hy⟩:=(h2.below hb).int (k:=k) (by have:=HN.out;omega)
    obtain rfl:x=x2:=by have:=hx.out;have:=hy.out;simp_all
    have hxx:((x:Int) != x)=false:=by simp
    go_upto_region 6 with (fail)
    go_quiet (fail)
    rename_i nq
    have hb2:Below w.heap.size w (wl.drewN nq):=⟨hb.os,hb.tape,hb.output,hb.size,hb.block⟩
    go_wp2
    go_roundg (n2 - (k+1))
    case measure=>omega
    case rel=>exact ⟨k+1,rfl,hlt,by go_num,hb2⟩
  · obtain rfl:k=n2:=by omega
    go_wp2_with fail
    go_ret
    exact ⟨rfl,hb⟩
theorem k_Equal:Known 103:=known Tryz.func103 (by kernel_rfl) (by kernel_rfl)
theorem f_EqualFuncT (v u:Value) (X:List (List Int)) (w:World) (h:Rd2 w v X) (h2:Rd2 w u X) (hl:X.length≤1000) (hr:∀ xs∈X,xs.length≤2):Calls Tryz.prog 102 #[v,u,.func (.func 103) #[] #[]] w (RetB (.bool true) w):=by
 obtain ⟨a,c,rfl,hnc,hc⟩:=h.form
 obtain ⟨b,d,rfl,hnd,hd⟩:=h2.form
 obtain ⟨n,hn⟩:∃ n,X.length=n:=⟨_,rfl⟩
 have HN:=Lib.hid hn
 have HR:=Lib.hid hr
 rw [hn] at h h2 hl ⊢
 have hnn:((n:Int) != (n:Int))=false:=by simp
 clear hn hr
 go_enter Tryz.func102,Tryz.ntmps102
 go_wp2_with fail
 go_loopg [17] n (fun g iv wr=>∃ k:Nat,g=n - k∧k≤n∧iv=.int .i64 (k:Int)∧Below w.heap.size w wr)
 case atStart=>exact ⟨0,rfl,Nat.zero_le _,rfl,Below.refl _ _⟩
 case round =>
  obtain ⟨wl,rfl⟩:∃ wl:World,wl=wr:=⟨_,rfl⟩
  obtain ⟨k,hg,hk,rfl,hb⟩:=hrel
  by_cases hlt:k < n
  · have i1:(k:Int) < (n:Int):=by omega
    obtain ⟨p,b1,m1,d1,row,rfl,hcr,hrow,hmr,hmd,hd9,rr⟩:=(h.below hb).row (k:=k) (by have:=HN.out;omega)
    obtain ⟨p2,b2,m2,d2,row2,rfl,hcr2,hrow2,hmr2,hmd2,hd92,rr2⟩:=(h2.below hb).row (k:=k) (by have:=HN.out;omega)
    obtain rfl:row=row2:=by have:=hrow.out;have:=hrow2.out;simp_all
    have hrl:=HR.out row (List.mem_of_getElem? hrow.out)
    have HE:=Lib.hid (f_EqualT _ _ row wl rr rr2 (by omega))
    have hcall:=k_Equal (#[.slice b1 m1 d1,.slice b2 m2 d2]++#[]) wl
    clear hrow hrow2
    go_wp2_with ((refine HE.out.mono ?_;rintro e w5 ⟨rfl,b5⟩))
    go_roundg (n - (k+1))
    case measure=>omega
    case rel=>exact ⟨k+1,rfl,hlt,by go_num,hb.trans (b5.mono hb.size)⟩
  · obtain rfl:k=n:=by omega
    go_wp2_with fail
    go_ret
    exact ⟨rfl,hb⟩
theorem i_SameT (n:Int) (hn:I64 n) (v u:Value) (X:List (List Int)) (w:World) (h:Rd2 w v X) (h2:Rd2 w u X) (hk:netOk n X=true):Calls Tryz.prog 41 #[.agg #[.int .i64 n,v],.agg #[.int .i64 n,u]] w (RetB (.bool true) w):=by
 obtain ⟨a,c,rfl,hmc,hc9⟩:=h.form
 obtain ⟨ay,cy,rfl,hmcy,hcy9⟩:=h2.form
 have hl60:=(netOk_iff.1 hk).2.1
 have HNK:=Lib.hid (fun (v:Value) (W:World) (hW:Rd2 W v X)=>hk ▸ i_NetworkOk n v X W hW hn)
 have HEF:=Lib.hid (fun (v u:Value) (W:World) (hW:Rd2 W v X) (hU:Rd2 W u X)=>f_EqualFuncT v u X W hW hU (by omega) (netRows hk))
 obtain ⟨m,hm⟩:∃ m,X.length=m:=⟨_,rfl⟩
 rw [hm] at h h2 ⊢
 clear hm hk
 obtain ⟨wa,bx,hwa,hbx,hXa,hza,hba⟩:=newBox w (.cells #[.int .i64 n,.slice a m c] 30)
 obtain ⟨w0,by_,hw0,hby,hY0,hz0,hb0⟩:=newBox wa (.cells #[.int .i64 n,.slice ay m cy] 30)
 have hX0:w0.heap[bx]?=_:=(hb0.block bx hza).trans hXa
 have bt0:=hba.trans (hb0.mono hba.size)
 have HWA:=Lib.hid hwa
 have HBX:=Lib.hid hbx
 have HW0:=Lib.hid hw0
 have HBY:Hid (w.heap.size+1=by_):=by rw [Hid,←hby,←hwa];simp
 have h0:=h.below bt0
 have hy0:=h2.below bt0
 have q0:=box_cell hX0 0
 have q1:=box_cell hX0 1
 have HT:Hid (∀ W,Below w0.heap.size w0 W→W.cell? ⟨bx,0,none⟩=some (.int .i64 n)∧W.cell? ⟨bx,1,none⟩=some (.slice a m c)∧W.cell? ⟨by_,0,none⟩=some (.int .i64 n)∧W.cell? ⟨by_,1,none⟩=some (.slice ay m cy)∧Rd2 W (.slice a m c) X∧Rd2 W (.slice ay m cy) X):=fun W hW=>by
  have hX:=(hW.block bx (box_lt hX0)).trans hX0
  have hY:=(hW.block by_ (box_lt hY0)).trans hY0
  exact ⟨box_cell hX 0,box_cell hX 1,box_cell hY 0,box_cell hY 1,h0.below hW,hy0.below hW⟩
 clear hwa hbx hw0 hby hXa hza hba hb0
 go_enter Tryz.func41,Tryz.ntmps41
 go_upto_region 1 with (fail)
 rw [HWA.out,HW0.out,HBY.out,HBX.out]
 go_wp2_with (first
  | (go_at_call 40;(with_reducible refine (HNK.out (.slice a m c) _ h0).mono ?_);rintro e w1 ⟨rfl,b1⟩;obtain ⟨-,-,y0,y1,-,hy1⟩:=HT.out _ b1)
  | (go_at_call 40;(with_reducible refine (HNK.out (.slice ay m cy) _ hy1).mono ?_);rintro e w2 ⟨rfl,b2⟩;have b12:=b1.trans (b2.mono b1.size);obtain ⟨x0,x1,z0,z1,r1,r2⟩:=HT.out _ b12)
  | (go_at_call 102;refine (HEF.out _ _ _ r1 r2).mono ?_;rintro e w3 ⟨rfl,b3⟩))
 go_ret
 exact ⟨rfl,bt0.trans ((b12.trans (b3.mono b12.size)).mono bt0.size)⟩
end Go.Proofs.YtggblfnajeikjaaGreatDoor
