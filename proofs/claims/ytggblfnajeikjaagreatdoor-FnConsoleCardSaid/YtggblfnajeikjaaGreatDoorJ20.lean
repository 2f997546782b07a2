/- Joined texts of the proof: RunMem, RunTake. -/
import Derived.Deep.RegionLaw
import Derived.Lib.SliceRun
import Derived.Test.YtggblfnajeikjaaGreatDoorJ14
namespace Go.Proofs.YtggblfnajeikjaaGreatDoor
open Go.RowKit
set_option linter.unusedVariables false
set_option linter.unusedSimpArgs false
set_option maxRecDepth 100000
set_option maxHeartbeats 16000000
theorem run_clear_two {P:Program} (w:World) (t e ty:TypeId) (z a b:Value) (ht:P.underlying t=some (.slice e)) (hv:∀ w,(zeroValue e).run P w=.ok z w) (hz:z.cells=#[a,b]) (h1:a.oneCell'=true) (h2:b.oneCell'=true) (g o c:Nat)
 (hc:∀ j,j < 2→(w.cell? ⟨g,o+j,none⟩).isSome=true) (hf:∀ j,j < 2→w.frozen? ⟨g,o+j,none⟩=false) :
 (Builtin.clear_ #[t] ty #[.slice (some ⟨g,o,none⟩) 1 c]).run P w=.ok (.tuple #[]) (w.setCells g o [a,b]):=by
 have hzc:(Builtin.zeroCells z.cells 1).toList=[a,b]:=by
  rw [hz]
  apply List.ext_getElem
  · simp [Builtin.zeroCells]
  · intro i h1 h2
    match i,h2 with
    | 0,_=>simp [Builtin.zeroCells]
    | 1,_=>simp [Builtin.zeroCells]
 have hst:=run_storeCells_cells (P:=P) g o [a,b] 0 w (by simpa using hc) (by simpa using hf) (by intro v hv';simp at hv';rcases hv' with rfl | rfl <;> assumption)
 simp only [Nat.add_zero] at hst
 simp [Builtin.clear_,run_underlying ht,hv,hzc,hst]
theorem zeroRun (w:World):(zeroValue 123).run Tryz.prog w=.ok (.agg #[.int .i64 0,.slice none 0 0]) w:=by kernel_rfl
theorem elRun:∃ i,Tryz.prog.underlying 121=some (.slice 123)∧Tryz.prog.info? 123=some i∧i.zero=some (.agg #[.int .i64 0,.slice none 0 0])∧i.size=2∧i.bytes=32:=by
 obtain ⟨i,hi,h0,h1,h2⟩:=info_parts (show (Tryz.prog.info? 123).map (fun i=>(i.zero,i.size,i.bytes))=some (some (.agg #[.int .i64 0,.slice none 0 0]),2,32) by kernel_rfl)
 exact ⟨i,Tryz.underlying121,hi,h0,h1,h2⟩
theorem step_run {P:Program} {w:World} {ops:Array Oper} {o:Oper} {a:Act} {K:Act→World→Prop} {Q:Exit→Act→World→Prop} {E:Prop} (hgd:o.guard=none) (s x:Operand) (t:TypeId)
 (ho:o.op=.call { callee:=.builtin .append,args:=#[s,x],argTypes:=#[t,t] }) {vs vx v':Value} {w':World} (hs:a.eval s=vs) (hx:a.eval x=vx)
 (hr:∀ ty,(Builtin.append_ #[t,t] ty #[vs,vx]).run P w=.ok v' w') (h:K (a.put o.dst v') w'):if Region.wanted o (yielded ops a.tmps)=true then Oper.wp P o a w K Q else E:=by
 have hw:Region.wanted o (yielded ops a.tmps)=true:=by simp [Region.wanted,hgd]
 rw [if_pos hw]
 unfold Oper.wp
 simp [execOp,ho,resolve,invoke,builtin,hs,hx,hr,Result.andThen]
 exact h
theorem row_two {w:World} {g o:Nat} {cur:Array Value} {t:TypeId} {a b:Value} (hg:w.heap[g]?=some (.cells cur t (0,0))) :
 (w.setCells g o [a,b]).heap[g]?=some (.cells ((cur.setIfInBounds o a).setIfInBounds (o+1) b) t (0,0))∧w.grownBy (w.setCells g o [a,b]) (some g):=by
 have e1:=setCell_eq_setRow w g o cur t (0,0) a hg
 have h1:(w.setCell ⟨g,o,none⟩ a).heap[g]?=some (.cells (cur.setIfInBounds o a) t (0,0)):=by rw [e1];exact setRow_heap w g cur _ t _ hg
 have e2:=setCell_eq_setRow (w.setCell ⟨g,o,none⟩ a) g (o+1) _ t (0,0) b h1
 have h2:(w.setCells g o [a,b])=(w.setCell ⟨g,o,none⟩ a).setCell ⟨g,o+1,none⟩ b:=rfl
 refine ⟨by rw [h2,e2];exact setRow_heap _ g _ _ t _ h1,?_⟩
 rw [h2,e2,e1]
 exact ⟨rfl,rfl,rfl,by simp,fun k _ hk=>by rw [setRow_other _ g k _ (fun e=>hk (by rw [e])),setRow_other _ g k _ (fun e=>hk (by rw [e]))]⟩
theorem f_DeleteRun (g n cap i:Nat) (cur:Array Value) (w:World) (hg:w.heap[g]?=some (.cells cur 123 (0,0))) (hsz:cur.size=cap * 2) (hn:n≤cap) (hi:i < n) (hcap:cap≤9223372036854775807) (h1:∀ u∈cur.toList.take (n * 2),u.oneCell'=true) :
 Calls Tryz.prog 142 #[.slice (some ⟨g,0,none⟩) n cap,.int .i64 (i:Int),.int .i64 ((i:Int)+1)] w fun e w'=>e=.returned (.slice (some ⟨g,0,none⟩) (n - 1) cap) ∧
  ∃ cur',w'.heap[g]?=some (.cells cur' 123 (0,0))∧cur'.size=cap * 2∧cur'.toList.take ((n - 1) * 2)=cur.toList.take (i * 2)++(cur.toList.take (n * 2)).drop ((i+1) * 2)∧w.grownBy w' (some g):=by
 obtain ⟨inf,hu,hinf,hz,hs2,_⟩:=elRun
 obtain ⟨m,hm⟩:∃ m,n - 1=m:=⟨_,rfl⟩
 obtain ⟨news,hnews⟩:∃ news,(cur.toList.take (n * 2)).drop ((i+1) * 2)=news:=⟨_,rfl⟩
 have hnl:news.length=(n - (i+1)) * 2:=by rw [←hnews];simp [hsz];omega
 have hg1:w.drew.heap[g]?=some (.cells cur 123 (0,0)):=hg
 obtain ⟨A,hA0,hA1⟩:∃ A:Addr,(cap=i+1→A=⟨g,0,none⟩)∧(¬ cap=i+1→A=⟨g,(i+1) * 2,none⟩):=⟨if cap=i+1 then ⟨g,0,none⟩ else ⟨g,(i+1) * 2,none⟩,fun e=>if_pos e,fun e=>if_neg e⟩
 have hsrc:∀ j u,news[j]?=some u→w.drew.cell? (A.add j)=some u:=fun j u hu=>by
  have hj:=(List.getElem?_eq_some_iff.1 hu).1
  rw [←hnews,List.getElem?_drop,List.getElem?_take,if_pos (by omega)] at hu
  rw [hA1 (by omega),Addr.add_lit,cell_of_row w.drew g _ cur 123 (0,0) hg1]
  simpa using hu
 obtain ⟨row,hrow⟩:∃ row,(cur.toList.take (i * inf.size)++news++cur.toList.drop (i * inf.size+news.length)).toArray=row:=⟨_,rfl⟩
 have HA:Hid (∀ ty,(Builtin.append_ #[121,121] ty #[.slice (some ⟨g,0,none⟩) i cap,.slice (some A) (n - (i+1)) (cap - (i+1))]).run Tryz.prog w.drew=.ok (.slice (some ⟨g,0,none⟩) m cap) (w.drew.setRow g row)):=fun ty=>by
  have:=run_append_room (P:=Tryz.prog) (w:=w.drew) 121 ty 123 inf hu hinf g i cap cur hg1 A (n - (i+1)) (cap - (i+1)) news (by rw [hs2];exact hnl) hsrc (fun u hu=>h1 u (by
   rw [←hnews] at hu
   exact List.mem_of_mem_drop hu)) (by omega) (by rw [hs2];omega)
  rw [this,hrow,show i+(n - (i+1))=m by omega]
 have HW:Hid ((w.drew.setRow g row).heap[g]?=some (.cells row 123 (0,0))):=setRow_heap _ g cur _ _ _ hg1
 have hrs:row.size=cap * 2:=by rw [←hrow];simp [hs2];omega
 have HG1:Hid (w.grownBy (w.drew.setRow g row) (some g)):=⟨rfl,rfl,rfl,by simp,fun k _ hk=>setRow_other w.drew g k _ (fun e=>hk (by rw [e]))⟩
 obtain ⟨W1,hW1⟩:∃ W1,w.drew.setRow g row=W1:=⟨_,rfl⟩
 rw [hW1] at HA HW HG1
 have HCL:Hid (∀ ty,(Builtin.clear_ #[121] ty #[.slice (some ⟨g,m * 2,none⟩) (n - m) (cap - m)]).run Tryz.prog W1=.ok (.tuple #[]) (W1.setCells g (m * 2) [.int .i64 0,.slice none 0 0])):=fun ty=>by
  rw [show n - m=1 by omega]
  exact run_clear_two W1 121 123 ty _ _ _ hu zeroRun rfl rfl rfl g (m * 2) _ (fun j hj=>by
   rw [cell_of_row W1 g _ row 123 (0,0) HW.out]
   rw [Array.getElem?_eq_getElem (by omega)];rfl) (fun j hj=>by
   simp [World.frozen?,HW.out])
 obtain ⟨h5,h6⟩:=row_two (o:=m * 2) (a:=.int .i64 0) (b:=.slice none 0 0) HW.out
 have HFIN:Hid (∃ cur',(W1.setCells g (m * 2) [.int .i64 0,.slice none 0 0]).heap[g]?=some (.cells cur' 123 (0,0))∧cur'.size=cap * 2∧cur'.toList.take (m * 2)=cur.toList.take (i * 2)++news∧w.grownBy (W1.setCells g (m * 2) [.int .i64 0,.slice none 0 0]) (some g)):=by
  refine ⟨_,h5,by simp [hrs],?_,HG1.out.trans h6⟩
  rw [Array.toList_setIfInBounds,Array.toList_setIfInBounds,List.take_set_of_le (by omega),List.take_set_of_le (by omega),←hrow]
  have hl1:(cur.toList.take (i * inf.size)).length=i * 2:=by simp [hs2,hsz];omega
  rw [hs2] at hl1 ⊢
  show List.take (m * 2) (cur.toList.take (i * 2)++news++cur.toList.drop (i * 2+news.length))=_
  exact List.take_left' (by rw [List.length_append,hl1,hnl];omega)
 have i1:(i:Int)+1≤(n:Int):=by omega
 have i2:(i:Int)≤(n:Int):=by omega
 have i3:(n:Int)≤(cap:Int):=by omega
 have i4:((i:Int) == (i:Int)+1)=false:=by rw [beq_eq_false_iff_ne];omega
 have i5:i≤cap:=by omega
 have i6:i+1≤n:=by omega
 have i7:((i:Int)+1).toNat=i+1:=by omega
 have i8:m≤n:=by omega
 have i9:¬ cap=m:=by omega
 have i10:n≤cap:=hn
 rw [hm,hnews]
 clear hg hg1 h1 hnews hnl hsrc hrow hrs hW1 hm h5 h6 hs2 hz hinf hu hsz
 go_enter Tryz.func142,Tryz.ntmps142
 have i11:(0:Int)≤(i:Int)+1:=by omega
 by_cases e:cap=i+1
 · have hAe:=hA0 e
   clear hA0 hA1
   subst hAe
   obtain rfl:n=i+1:=by omega
   subst e
   rw [Nat.sub_self] at HA
   have j1:(i:Int)≤(i:Int)+1:=by omega
   have j2:i≤i+1:=by omega
   go_upto_region 5 with (fail)
   go_region_law (refine step_run (by rfl) _ _ _ (by rfl) (by rfl) (by rfl) HA.out ?_)
   have hcl:=HCL.out
   go_wp2
   go_ret
   exact ⟨rfl,HFIN.out⟩
 · have hAe:=hA1 e
   clear hA0 hA1
   subst hAe
   go_upto_region 5 with (fail)
   go_region_law (refine step_run (by rfl) _ _ _ (by rfl) (by rfl) (by rfl) HA.out ?_)
   have hcl:=HCL.out
   go_wp2
   go_ret
   exact ⟨rfl,HFIN.out⟩
structure RunsAt (w:World) (br g n cap:Nat) (cur:Array Value) (ws:List Int) (vs:List Value):Prop where
 box:w.heap[br]?=some (.cells #[.slice (some ⟨g,0,none⟩) n cap] 121 (0,0))
 row:w.heap[g]?=some (.cells cur 123 (0,0))
 size:cur.size=cap * 2
 le:n≤cap
 capLe:cap≤9223372036854775807
 wl:ws.length=n
 vl:vs.length=n
 wc:∀ k x,ws[k]?=some x→cur[k * 2]?=some (.int .i64 x)
 vc:∀ k u,vs[k]?=some u→cur[k * 2+1]?=some u
 sl:∀ (k:Nat) (u:Value),vs[k]?=some u→∃ (a:Option Addr) (m c:Nat),u=Value.slice a m c
section
variable {w:World} {br g n cap:Nat} {cur:Array Value} {ws:List Int} {vs:List Value}
theorem RunsAt.drewN (H:RunsAt w br g n cap cur ws vs) (k:Nat):RunsAt (w.drewN k) br g n cap cur ws vs:=⟨H.box,H.row,H.size,H.le,H.capLe,H.wl,H.vl,H.wc,H.vc,H.sl⟩
theorem RunsAt.below {w':World} (H:RunsAt w br g n cap cur ws vs) (hb:Below w.heap.size w w'):RunsAt w' br g n cap cur ws vs:=by
 have h1:br < w.heap.size:=(Array.getElem?_eq_some_iff.1 H.box).1
 have h2:g < w.heap.size:=(Array.getElem?_eq_some_iff.1 H.row).1
 exact ⟨(hb.block br h1).trans H.box,(hb.block g h2).trans H.row,H.size,H.le,H.capLe,H.wl,H.vl,H.wc,H.vc,H.sl⟩
theorem RunsAt.wcell (H:RunsAt w br g n cap cur ws vs) {k:Nat} {x:Int} (h:ws[k]?=some x):w.cell? ⟨g,k * 2,none⟩=some (.int .i64 x):=by
 rw [cell_of_row w g _ cur _ (0,0) H.row];exact H.wc k x h
theorem RunsAt.vcell (H:RunsAt w br g n cap cur ws vs) {k:Nat} {u:Value} (h:vs[k]?=some u):w.cell? ⟨g,k * 2+1,none⟩=some u:=by
 rw [cell_of_row w g _ cur _ (0,0) H.row];exact H.vc k u h
theorem RunsAt.bcell (H:RunsAt w br g n cap cur ws vs):w.cell? ⟨br,0,none⟩=some (.slice (some ⟨g,0,none⟩) n cap):=by
 rw [cell_of_row w br _ _ _ (0,0) H.box];rfl
theorem RunsAt.one (H:RunsAt w br g n cap cur ws vs):∀ u∈cur.toList.take (n * 2),u.oneCell'=true:=by
 intro u hu
 obtain ⟨j,hj,rfl⟩:=List.getElem_of_mem hu
 have hj2:j < n * 2:=by simp at hj;omega
 have e:(cur.toList.take (n * 2))[j]?=cur[j]?:=by rw [List.getElem?_take_of_lt hj2,Array.getElem?_toList]
 rw [List.getElem?_eq_getElem hj] at e
 by_cases h2:j % 2=0
 · obtain ⟨x,hx⟩:∃ x,ws[j / 2]?=some x:=⟨_,List.getElem?_eq_getElem (by rw [H.wl];omega)⟩
   have:=H.wc _ _ hx
   rw [show j / 2 * 2=j by omega,←e] at this
   rw [Option.some.inj this];rfl
 · obtain ⟨x,hx⟩:∃ x,vs[j / 2]?=some x:=⟨_,List.getElem?_eq_getElem (by rw [H.vl];omega)⟩
   have:=H.vc _ _ hx
   rw [show j / 2 * 2+1=j by omega,←e] at this
   obtain ⟨a,m,c,rfl⟩:=H.sl _ _ hx
   rw [Option.some.inj this];rfl
theorem RunsAt.cut {w':World} {cur':Array Value} (H:RunsAt w br g n cap cur ws vs) {b:Nat} (hb:b < n)
 (h1:w'.heap[br]?=some (.cells #[.slice (some ⟨g,0,none⟩) (n - 1) cap] 121 (0,0))) (h2:w'.heap[g]?=some (.cells cur' 123 (0,0))) (h3:cur'.size=cap * 2)
 (h4:cur'.toList.take ((n - 1) * 2)=cur.toList.take (b * 2)++(cur.toList.take (n * 2)).drop ((b+1) * 2)):RunsAt w' br g (n - 1) cap cur' (ws.eraseIdx b) (vs.eraseIdx b):=by
 have hs:=H.size
 have hle:=H.le
 have hg:∀ j,j < (n - 1) * 2→cur'[j]?=if j < b * 2 then cur[j]? else cur[j+2]?:=fun j hj=>by
  rw [←Array.getElem?_toList,←List.getElem?_take_of_lt hj,h4]
  by_cases e:j < b * 2
  · rw [if_pos e,List.getElem?_append_left (by simp;omega),List.getElem?_take_of_lt e,Array.getElem?_toList]
  · have hl:(cur.toList.take (b * 2)).length=b * 2:=by simp;omega
    rw [if_neg e,List.getElem?_append_right (by omega),hl,List.getElem?_drop,List.getElem?_take_of_lt (by omega),Array.getElem?_toList]
    congr 1;omega
 have hwl:=H.wl
 have hvl:=H.vl
 refine ⟨h1,h2,h3,by omega,H.capLe,by rw [List.length_eraseIdx];simp [hwl,hb],by rw [List.length_eraseIdx];simp [hvl,hb],fun k x hk=>?_,fun k u hk=>?_,fun k u hk=>?_⟩
 · have hlt:=(List.getElem?_eq_some_iff.1 hk).1
   rw [List.length_eraseIdx,if_pos (by omega),hwl] at hlt
   rw [List.getElem?_eraseIdx] at hk
   rw [hg _ (by omega)]
   by_cases e:k < b
   · rw [if_pos e] at hk;rw [if_pos (by omega)];exact H.wc _ _ hk
   · rw [if_neg e] at hk;rw [if_neg (by omega)]
     have:=H.wc _ _ hk
     rwa [show (k+1) * 2=k * 2+2 by omega] at this
 · have hlt:=(List.getElem?_eq_some_iff.1 hk).1
   rw [List.length_eraseIdx,if_pos (by omega),hvl] at hlt
   rw [List.getElem?_eraseIdx] at hk
   rw [hg _ (by omega)]
   by_cases e:k < b
   · rw [if_pos e] at hk;rw [if_pos (by omega)];exact H.vc _ _ hk
   · rw [if_neg e] at hk;rw [if_neg (by omega)]
     have:=H.vc _ _ hk
     rwa [show (k+1) * 2+1=k * 2+1+2 by omega] at this
 · rw [List.getElem?_eraseIdx] at hk
   split at hk
   · exact H.sl _ _ hk
   · exact H.sl _ _ hk
end
def RetRun (br g n cap:Nat) (ws:List Int) (vs:List Value) (w:World) (e:Ending) (w':World):Prop :=
 ∃ (u:Value) (cur':Array Value),e=.returned (.agg #[.int .i64 (minV ws),u])∧vs[minI ws]?=some u∧RunsAt w' br g (n - 1) cap cur' (restL ws) (vs.eraseIdx (minI ws))∧Fr (fun k=>k < w.heap.size∧k≠br∧k≠g) w w'
theorem i_takeRun (br g n cap:Nat) (cur:Array Value) (ws:List Int) (vs:List Value) (w:World) (H:RunsAt w br g n cap cur ws vs) (hn:0 < n) (hne:br≠g):Calls Tryz.prog 141 #[.pointer (some ⟨br,0,none⟩)] w (RetRun br g n cap ws vs w):=by
 have h0:=H.bcell
 have hbA:Below w.heap.size w (w.alloc (.cells #[.int .i64 0,.slice none 0 0] 123)):=(Below.refl _ _).alloc (Nat.le_refl _) _
 have hA0:=(H.below hbA).bcell
 have hR0:=heap_alloc_new w (.cells #[.int .i64 0,.slice none 0 0] 123 (0,0))
 go_enter Tryz.func141,Tryz.ntmps141
 go_wp2
 have HBK:Hid (bk ws 0=0):=rfl
 go_loopg [2,8] (n+1) (fun gk bv iv wr=>∃ (i b:Nat),gk=n+1 - i∧i≤n∧bv=.int .i64 b∧b < n∧iv=.int .i64 i∧Hid (bk ws i=b)∧Below w.heap.size w wr∧Hid (wr.heap[w.heap.size]?=some (.cells #[.int .i64 0,.slice none 0 0] 123 (0,0))))
 case atStart=>exact ⟨0,0,rfl,Nat.zero_le _,rfl,hn,rfl,HBK,hbA,hR0⟩
 case round =>
  clear hR0
  obtain ⟨i,b,hg,hi,rfl,hbn,rfl,HB,hb,HRB0⟩:=hrel
  have HR:=H.below hb
  have hle:=HR.le
  have hcl:=HR.capLe
  have hsw:w.heap.size < wr.heap.size:=(Array.getElem?_eq_some_iff.1 HRB0.out).1
  by_cases hlt:i < n
  · obtain ⟨x,hx⟩:∃ x,ws[i]?=some x:=⟨_,List.getElem?_eq_getElem (by rw [H.wl];exact hlt)⟩
    obtain ⟨y,hy⟩:∃ y,ws[b]?=some y:=⟨_,List.getElem?_eq_getElem (by rw [H.wl];exact hbn)⟩
    obtain ⟨u,hu⟩:∃ u,vs[i]?=some u:=⟨_,List.getElem?_eq_getElem (by rw [H.vl];exact hlt)⟩
    obtain ⟨ua,um,uc,rfl⟩:=H.sl i u hu
    have hbB:Below wr.heap.size wr (wr.alloc (.cells #[.int .i64 x,.slice ua um uc] 123)):=(Below.refl _ _).alloc (Nat.le_refl _) _
    have HRB:=HR.below hbB
    have cB0:=HRB.bcell
    have cB3:=HRB.wcell hy
    have c1:=HR.wcell hx
    have c2:=HR.vcell hu
    have c3:=HR.wcell hy
    have c0:=HR.bcell
    have i1:(i:Int) < (n:Int):=by omega
    have i2:(b:Int) < (n:Int):=by omega
    have HS:Hid (bk ws (i+1)=if x < y then i else b):=by rw [Hid,bk,HB.out,List.getD_eq_getElem?_getD,hx,List.getD_eq_getElem?_getD,hy];rfl
    have hb2:=hb.trans (hbB.mono hb.size)
    have HRB1:Hid ((wr.alloc (.cells #[.int .i64 x,.slice ua um uc] 123)).heap[w.heap.size]?=some (.cells #[.int .i64 0,.slice none 0 0] 123 (0,0))):=(hbB.block _ hsw).trans HRB0.out
    clear hx hy hu
    go_wp2
    go_quiet (fail)
    by_cases hxy:x < y
    · have HS2:Hid (bk ws (i+1)=i):=by rw [Hid,HS.out,if_pos hxy]
      go_wp2
      go_roundg (n+1 - (i+1))
      case measure=>omega
      case rel=>exact ⟨i+1,i,rfl,by omega,rfl,hlt,by go_num,HS2,hb2.trans (Dr.below ⟨_,rfl⟩ _),HRB1⟩
    · have HS2:Hid (bk ws (i+1)=b):=by rw [Hid,HS.out,if_neg hxy]
      go_wp2
      go_roundg (n+1 - (i+1))
      case measure=>omega
      case rel=>exact ⟨i+1,b,rfl,by omega,rfl,hbn,by go_num,HS2,hb2.trans (Dr.below ⟨_,rfl⟩ _),HRB1⟩
  · obtain rfl:i=n:=by omega
    obtain ⟨y,hy⟩:∃ y,ws[b]?=some y:=⟨_,List.getElem?_eq_getElem (by rw [H.wl];exact hbn)⟩
    obtain ⟨u,hu⟩:∃ u,vs[b]?=some u:=⟨_,List.getElem?_eq_getElem (by rw [H.vl];exact hbn)⟩
    obtain ⟨ua,um,uc,rfl⟩:=H.sl b u hu
    have HMI:Hid (minI ws=b):=by rw [Hid,minI,H.wl];exact HB.out
    have HMV:Hid (minV ws=y):=by rw [Hid,minV,HMI.out,List.getD_eq_getElem?_getD,hy];rfl
    have HVU:Hid (vs[minI ws]?=some (.slice ua um uc)):=by rw [Hid,HMI.out];exact hu
    have hbB:Below wr.heap.size wr (wr.alloc (.cells #[.int .i64 y,.slice ua um uc] 123)):=(Below.refl _ _).alloc (Nat.le_refl _) _
    have HRB:=HR.below hbB
    have cB0:=HRB.bcell
    have c1:=HR.wcell hy
    have c2:=HR.vcell hu
    have c0:=HR.bcell
    have i2:(b:Int) < (i:Int):=by omega
    have HDL:=Lib.hid (f_DeleteRun g i cap b cur _ HRB.row H.size H.le hbn H.capLe H.one)
    have hbr0:br < w.heap.size:=(Array.getElem?_eq_some_iff.1 H.box).1
    have hgr0:g < w.heap.size:=(Array.getElem?_eq_some_iff.1 H.row).1
    have hbr:br < wr.heap.size:=by omega
    have hgr:g < wr.heap.size:=by omega
    have HFIN:Hid (∀ (W W2:World) (cur':Array Value),(wr.alloc (.cells #[.int .i64 y,.slice ua um uc] 123)).grownBy W (some g)→W.heap[g]?=some (.cells cur' 123 (0,0))→cur'.size=cap * 2→cur'.toList.take ((i - 1) * 2)=cur.toList.take (b * 2)++(cur.toList.take (i * 2)).drop ((b+1) * 2) →
     Below (w.heap.size) (W.setCell ⟨br,0,none⟩ (.slice (some ⟨g,0,none⟩) (i - 1) cap)) W2→W2.heap.size=W.heap.size→RetRun br g i cap ws vs w (.returned (.agg #[.int .i64 y,.slice ua um uc])) W2):=fun W W2 cur' hW q1 q2 q3 hW2 hsz=>by
     have hbx:W.heap[br]?=some (.cells #[.slice (some ⟨g,0,none⟩) i cap] 121 (0,0)):=(hW.block br (by simp;omega) (fun e=>hne (by injection e))).trans HRB.box
     refine ⟨_,cur',by rw [HMV.out],HVU.out,?_,?_⟩
     · have:=H.cut (w':=W2) (cur':=cur') hbn ((hW2.block br hbr0).trans (heap_setCell_same W br 0 _ _ _ hbx)) ((hW2.block g hgr0).trans ((heap_setCell_other W _ g _ (fun e=>hne e.symm)).trans q1)) q2 q3
       rw [restL,HMI.out]
       exact this
     · refine ⟨hW2.os.trans (hW.os.trans hb.os),hW2.tape.trans (hW.tape.trans hb.tape),hW2.output.trans (hW.output.trans hb.output),?_,fun k ⟨hk,hk1,hk2⟩=>?_⟩
       · have h1:=hW.size
         have h2:=hW2.size
         simp at h1 h2;omega
       · rw [hW2.block k hk,heap_setCell_other W _ k _ hk1,hW.block k (by simp;omega) (fun e=>hk2 (by injection e)),hbB.block k (by omega),hb.block k hk]
    have HBX:Hid (∀ W:World,(wr.alloc (.cells #[.int .i64 y,.slice ua um uc] 123)).grownBy W (some g)→W.heap[br]?=some (.cells #[.slice (some ⟨g,0,none⟩) i cap] 121 (0,0))∧W.heap[wr.heap.size]?=some (.cells #[.int .i64 y,.slice ua um uc] 123 (0,0))∧W.heap[w.heap.size]?=some (.cells #[.int .i64 0,.slice none 0 0] 123 (0,0))∧wr.heap.size+1≤W.heap.size):=fun W hW =>
     ⟨(hW.block br (by simp;omega) (fun e=>hne (by injection e))).trans HRB.box,(hW.block wr.heap.size (by simp) (fun e=>by injection e;omega)).trans (heap_alloc_new wr _),(hW.block w.heap.size (by simp;omega) (fun e=>by injection e;omega)).trans ((hbB.block _ hsw).trans HRB0.out),by have:=hW.size;simpa using this⟩
    clear hy hu HMI HMV HVU HRB0 HB HRB H HR hb hbB
    have HC4:Hid (∀ W:World,W.heap[br]?=some (.cells #[.slice (some ⟨g,0,none⟩) i cap] 121 (0,0))→W.heap[wr.heap.size]?=some (.cells #[.int .i64 y,.slice ua um uc] 123 (0,0))→W.heap[w.heap.size]?=some (.cells #[.int .i64 0,.slice none 0 0] 123 (0,0)) →
     (W.setCell ⟨br,0,none⟩ (.slice (some ⟨g,0,none⟩) (i - 1) cap)).heap[wr.heap.size]?=some (.cells #[.int .i64 y,.slice ua um uc] 123 (0,0))∧(W.setCell ⟨br,0,none⟩ (.slice (some ⟨g,0,none⟩) (i - 1) cap)).heap[w.heap.size]?=some (.cells #[.int .i64 0,.slice none 0 0] 123 (0,0))):=fun W _ h1 h2 =>
     ⟨(heap_setCell_other W _ _ _ (by show wr.heap.size≠br;omega)).trans h1,(heap_setCell_other W _ _ _ (by show w.heap.size≠br;omega)).trans h2⟩
    go_wp2_with (go_at_call 142;refine HDL.out.mono ?_;rintro e w3 ⟨rfl,cur',r1,r2,r3,r4⟩;obtain ⟨hx0,hx1,hx2,hx3⟩:=HBX.out _ r4;obtain ⟨hy1,hy2⟩:=HC4.out w3 hx0 hx1 hx2;have R1:=Lib.hid r1;have R2:=Lib.hid r2;have R3:=Lib.hid r3;have R4:=Lib.hid r4;have HS3:=Lib.hid hx3;have cb3:w3.cell? ⟨br,0,none⟩=some (.slice (some ⟨g,0,none⟩) i cap):=box_cell hx0 0;have fb3:=frozen_of_row w3 br 0 _ _ hx0;have d0:=box_cell hy1 0;have d1:=box_cell hy1 1;have e0:=box_cell hy2 0;have e1:=box_cell hy2 1;have f0:=frozen_of_row _ _ 0 _ _ hy2;have f1:=frozen_of_row _ _ 1 _ _ hy2;clear hx0 hx1 hx2 hx3 hy1 hy2 r1 r2 r3 r4)
    refine bodyPost_ret (v:=.agg #[.int .i64 y,.slice ua um uc]) (by simp [results,Tryz.results141,go_sem,e0,e1,f0,f1]) rfl ?_
    exact HFIN.out w3 _ cur' R4.out R1.out R2.out R3.out (((Below.refl _ _).setCell (by show w.heap.size≤w.heap.size;omega) _).setCell (by show w.heap.size≤w.heap.size;omega) _) (by simp)
end Go.Proofs.YtggblfnajeikjaaGreatDoor
