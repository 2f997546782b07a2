/- Joined texts of the proof: ConM. -/
import Derived.Test.YtggblfnajeikjaaGreatDoorJ31
import Derived.Test.YtggblfnajeikjaaGreatDoorJ35
namespace Go.Proofs.YtggblfnajeikjaaGreatDoor
open Go.RowKit
set_option linter.unusedVariables false
set_option linter.unusedSimpArgs false
set_option maxRecDepth 100000
set_option maxHeartbeats 16000000
def mirA (N:Nat) (X:List (List Int)):List (List Int):=X.map fun p=>[(N:Int) - 1 - p.getD 0 0,(N:Int) - 1 - p.getD 1 0]
def rvP (p:List Int):List Int:=[p.getD 1 0,p.getD 0 0]
def mirM (N:Nat) (X:List (List Int)):Option NetV:=some ((N:Int),(mirA N X).map rvP)
theorem mirM_ok {N:Nat} {X:List (List Int)} {q:NetV} (hk:netOk (N:Int) X=true) (h:mirM N X=some q):netOk q.1 q.2=true:=by
 cases h
 obtain ⟨h1,h2,h3⟩:=netOk_iff.1 hk
 refine netOk_iff.2 ⟨h1,by simpa [mirA] using h2,fun xs hx=>?_⟩
 obtain ⟨y,hy,rfl⟩:=List.mem_map.1 hx
 obtain ⟨p,hp,rfl⟩:=List.mem_map.1 hy
 obtain ⟨a,b,rfl,ha,hb,hab⟩:=netRow_iff (h3 p hp)
 have : ¬ ((N:Int) - 1 - b=(N:Int) - 1 - a):=by omega
 simp [netRow,inB_iff,rvP,this]
 omega
theorem mirA_take {N:Nat} {X:List (List Int)} {k a b:Nat} (h:X[k]?=some [(a:Int),(b:Int)]):mirA N (X.take (k+1))=mirA N (X.take k)++[[(N:Int) - 1 - (a:Int),(N:Int) - 1 - (b:Int)]]:=by
 rw [mirA,mirA,take_snoc' h,List.map_append]
 rfl
def rvK (Z:List (List Int)) (q:Nat):List (List Int):=(Z.take q).map rvP++Z.drop q
theorem rvK_set {Z:List (List Int)} {q:Nat} {p:List Int} (h:Z[q]?=some p):(rvK Z q).set q (rvP p)=rvK Z (q+1):=by
 obtain ⟨hq,e⟩:=List.getElem?_eq_some_iff.1 h
 have hl:((Z.take q).map rvP).length=q:=by simp;omega
 rw [rvK,rvK,List.set_append_right _ _ (by omega),hl,Nat.sub_self,take_snoc' h,List.map_append,List.append_assoc,List.drop_eq_getElem_cons hq,e]
 rfl
theorem rvK_get {Z:List (List Int)} {q:Nat} (hq:q < Z.length):(rvK Z q)[q]?=Z[q]?:=by
 have hl:((Z.take q).map rvP).length=q:=by simp;omega
 rw [rvK,List.getElem?_append_right (by omega),hl,Nat.sub_self,List.getElem?_drop]
 simp
def DistR (rows:List Value):Prop:=∀ (i j:Nat) (u v:Value),i < j→rows[i]?=some u→rows[j]?=some v→u.ownBlock≠v.ownBlock
theorem DistR.snoc {rows:List Value} {v:Value} (h:DistR rows) (hv:∀ u∈rows,u.ownBlock≠v.ownBlock):DistR (rows++[v]):=by
 intro i j a b hij ha hb
 have hj:=(List.getElem?_eq_some_iff.1 hb).1
 simp at hj
 by_cases e:j < rows.length
 · rw [List.getElem?_append_left e] at hb
   rw [List.getElem?_append_left (by omega)] at ha
   exact h i j a b hij ha hb
 · obtain rfl:j=rows.length:=by omega
   rw [List.getElem?_append_left (by omega)] at ha
   simp at hb
   subst hb
   exact hv a (List.mem_of_getElem? ha)
section
variable {wr w6 w w':World} {F bx m c c6 B:Nat} {n:Value} {a b6:Option Addr} {rows:List Value} {xss:List (List Int)} {x y:Int}
theorem boxPushD (HX:wr.heap[bx]?=some (.cells #[n,.slice a m c] F (0,0))) (hF:F≠23) (hF2:F≠3) (hov:Own wr 23 (bx+1) (.slice a m c) rows) (hrp:RowsP wr (bx+1) rows xss)
 (ho6:Own w6 23 (bx+1) (.slice b6 (m+1) c6) (rows++[.slice (some ⟨wr.heap.size,0,none⟩) 2 2])) (hg6:(wr.alloc (.cells #[.int .i64 x,.int .i64 y] 3)).grownBy w6 (Value.slice a m c).ownBlock) :
 w6.cell? ⟨bx,1,none⟩=some (.slice a m c)∧w6.frozen? ⟨bx,1,none⟩=false∧(w6.setCell ⟨bx,1,none⟩ (.slice b6 (m+1) c6)).heap[bx]?=some (.cells #[n,.slice b6 (m+1) c6] F (0,0)) ∧
  Own (w6.setCell ⟨bx,1,none⟩ (.slice b6 (m+1) c6)) 23 (bx+1) (.slice b6 (m+1) c6) (rows++[.slice (some ⟨wr.heap.size,0,none⟩) 2 2])∧RowsP (w6.setCell ⟨bx,1,none⟩ (.slice b6 (m+1) c6)) (bx+1) (rows++[.slice (some ⟨wr.heap.size,0,none⟩) 2 2]) (xss++[[x,y]])∧Below bx wr (w6.setCell ⟨bx,1,none⟩ (.slice b6 (m+1) c6)):=by
 obtain ⟨k1,k2,k3,-,-,k6⟩:=boxPush HX hF hF2 hov hrp ho6 hg6
 have hsz:bx+1≤wr.heap.size:=box_lt HX
 have hb1:Below wr.heap.size wr (wr.alloc (.cells #[.int .i64 x,.int .i64 y] 3)):=(Below.refl _ _).alloc (Nat.le_refl _) _
 have hov1:=hov.below hb1
 have rp6:=((hrp.below hb1).app (RowsP.single (pair_own (heap_alloc_new wr _) hsz))).outer hg6 hov1
 refine ⟨k1,k2,k3,ho6.setCell (fun e=>by have:=(ho6.lt bx e).1;omega) _,rp6.keep fun r hr k hk e=>?_,k6⟩
 obtain ⟨ys,ho⟩:=rp6.mem hr
 exact heap_setCell_other w6 _ k _ fun e2=>by have h5:=(ho.lt k e.symm).1;have e3:k=bx:=e2;omega
theorem RowsP.setD {i:Nat} {r:Value} {ys:List Int} (h:RowsP w B rows xss) (hd:DistR rows) (hi:rows[i]?=some r) (ho:Own w' 3 B r (ints ys)) (hg:w.grownBy w' r.ownBlock) (hr:∃ k,r.ownBlock=some k):RowsP w' B rows (xss.set i ys):=by
 obtain ⟨kr,hkr⟩:=hr
 refine ⟨by rw [List.length_set];exact h.1,fun j u hu=>?_⟩
 have hil:i < xss.length:=by rw [←h.1];exact (List.getElem?_eq_some_iff.1 hi).1
 by_cases e:i=j
 · subst e
   obtain rfl:r=u:=by rw [hi] at hu;exact Option.some.inj hu
   exact ⟨ys,by rw [List.getElem?_set_self hil],ho⟩
 · obtain ⟨xs,h1,h2⟩:=h.2 j u hu
   refine ⟨xs,by rw [List.getElem?_set_ne e];exact h1,h2.keep fun k hk e2=>hg.block k hk fun e3=>?_⟩
   rcases Nat.lt_or_gt_of_ne e with h3 | h3
   · exact hd i j r u h3 hi hu (by rw [←e3,e2])
   · exact hd j i u r h3 hu hi (by rw [←e2,e3])
theorem stepPushD {P:Program} {wl:World} {ops:Array Oper} {o:Oper} {a:Act} {K:Act→World→Prop} {Q:Exit→Act→World→Prop} {G:Prop} (hgd:o.guard=none) (s z:Operand) (t:TypeId)
 (ho:o.op=.call { callee:=.builtin .append,args:=#[s,z],argTypes:=#[t,t] }) {bytes:Nat} {zv:Value} (ht:ElemOk P t 23 bytes zv) {bo mo co F:Nat} {n:Value} {ao:Option Addr} {rows:List Value} {xss:List (List Int)} {x y:Int} {W:World}
 (hs:a.eval s=.slice ao mo co) (hz:a.eval z=.slice (some ⟨wl.heap.size+1,0,none⟩) 1 1) (hb8:bytes≤1000000)
 (hO:wl.heap[bo]?=some (.cells #[n,.slice ao mo co] F (0,0))) (hF:F≠23) (hF2:F≠3) (hov:Own wl 23 (bo+1) (.slice ao mo co) rows) (hrp:RowsP wl (bo+1) rows xss) (hm:rows.length=mo) (hmo:mo≤20000)
 (hW:W=(((wl.alloc (.cells #[.int .i64 x,.int .i64 y] 3)).alloc (.cells #[.slice (some ⟨wl.heap.size,0,none⟩) 2 2] 23))).drew∨W=((wl.alloc (.cells #[.int .i64 x,.int .i64 y] 3)).alloc (.cells #[.slice (some ⟨wl.heap.size,0,none⟩) 2 2] 23)))
 (h:∀ b6 c6 w6,Below bo wl w6→(w6.cell? ⟨bo,1,none⟩=some (.slice ao mo co)∧w6.frozen? ⟨bo,1,none⟩=false∧(w6.setCell ⟨bo,1,none⟩ (.slice b6 (mo+1) c6)).heap[bo]?=some (.cells #[n,.slice b6 (mo+1) c6] F (0,0)) ∧
  Own (w6.setCell ⟨bo,1,none⟩ (.slice b6 (mo+1) c6)) 23 (bo+1) (.slice b6 (mo+1) c6) (rows++[.slice (some ⟨wl.heap.size,0,none⟩) 2 2])∧RowsP (w6.setCell ⟨bo,1,none⟩ (.slice b6 (mo+1) c6)) (bo+1) (rows++[.slice (some ⟨wl.heap.size,0,none⟩) 2 2]) (xss++[[x,y]])∧Below bo wl (w6.setCell ⟨bo,1,none⟩ (.slice b6 (mo+1) c6)))→K (a.put o.dst (.slice b6 (mo+1) c6)) w6) :
 if Region.wanted o (yielded ops a.tmps)=true then Oper.wp P o a W K Q else G:=by
 have hzb:bo+1≤wl.heap.size:=box_lt hO
 have hB:bytes * (mo+1)≤140737488355328:=Nat.le_trans (Nat.mul_le_mul hb8 (show mo+1≤20001 by omega)) (by omega)
 have hBA:Below bo wl (wl.alloc (.cells #[.int .i64 x,.int .i64 y] 3)):=(Below.refl _ _).alloc (by omega) _
 rcases hW with rfl | rfl
 · refine step_app1 (w:=wl.alloc (.cells #[.int .i64 x,.int .i64 y] 3)) hgd s z t ho ht hs (hov.alloc _) (by rw [hz];simp) (by rfl) (by simp;omega) (by rw [hm,Nat.mul_comm];exact hB) (by rw [hm];omega) ?_
   intro b6 c6 w6 ho6 hg6 hat6
   rw [hm] at ho6 ⊢
   exact h b6 c6 w6 (hBA.grown hg6 (by simp;omega) (fun r hr=>by have:=(hov.lt r hr).1;omega)) (boxPushD hO hF hF2 hov hrp ho6 hg6)
 · refine step_app1nC (w:=wl.alloc (.cells #[.int .i64 x,.int .i64 y] 3)) hgd s z t ho ht hs (hov.alloc _) (by rw [hz];simp) (by rfl) (by simp;omega) (by rw [hm,Nat.mul_comm];exact hB) (by rw [hm];omega) ?_
   intro b6 c6 w6 ho6 hg6 hat6
   rw [hm] at ho6 ⊢
   exact h b6 c6 w6 (hBA.grown hg6 (by simp;omega) (fun r hr=>by have:=(hov.lt r hr).1;omega)) (boxPushD hO hF hF2 hov hrp ho6 hg6)
end
theorem k_Mir1:Known 241:=known Tryz.func241 (by kernel_rfl) (by kernel_rfl)
theorem i_Mir1 (N k bq:Nat) (hN:N≤8) (hk:k≤8) (W:World) (cq:W.cell? ⟨bq,0,none⟩=some (.int .i64 (N:Int))):Calls Tryz.prog 241 (#[.int .i64 (k:Int)]++#[.pointer (some ⟨bq,0,none⟩)]) W fun e w'=>e=.returned (.int .i64 ((N:Int) - 1 - (k:Int)))∧W=w':=by
 go_enter Tryz.func241,Tryz.ntmps241
 go_wp2_with fail
 go_ret
 exact ⟨rfl,rfl⟩
theorem netResR {w wo:World} {B:Nat} {n:Int} {a:Option Addr} {m c T:Nat} {x0 x1:Value} {rows:List Value} {xss:List (List Int)} (hA:wo.heap[B]?=some (.cells #[x0,x1] T (0,0))) (ho:Own wo 23 (B+1) (.slice a m c) rows) (hr:RowsP wo (B+1) rows xss) (hB:w.heap.size≤B) (hb:Below w.heap.size w wo) :
 wo.cell? ⟨B,0,none⟩=some x0∧wo.cell? ⟨B,1,none⟩=some x1∧wo.frozen? ⟨B,0,none⟩=false∧wo.frozen? ⟨B,1,none⟩=false ∧
 ((wo.setCell ⟨B,0,none⟩ (.int .i64 n)).setCell ⟨B,1,none⟩ (.slice a m c)).cell? ⟨B,0,none⟩=some (.int .i64 n)∧((wo.setCell ⟨B,0,none⟩ (.int .i64 n)).setCell ⟨B,1,none⟩ (.slice a m c)).cell? ⟨B,1,none⟩=some (.slice a m c) ∧
 Own ((wo.setCell ⟨B,0,none⟩ (.int .i64 n)).setCell ⟨B,1,none⟩ (.slice a m c)) 23 w.heap.size (.slice a m c) rows∧RowsP ((wo.setCell ⟨B,0,none⟩ (.int .i64 n)).setCell ⟨B,1,none⟩ (.slice a m c)) w.heap.size rows xss∧Below w.heap.size w ((wo.setCell ⟨B,0,none⟩ (.int .i64 n)).setCell ⟨B,1,none⟩ (.slice a m c)):=by
 have e2:=box2 (x:=.int .i64 n) (y:=.slice a m c) hA
 have hgz:wo.grownBy ((wo.setCell ⟨B,0,none⟩ (.int .i64 n)).setCell ⟨B,1,none⟩ (.slice a m c)) (some B) :=
  ⟨rfl,rfl,rfl,by simp,fun i _ hi=>(heap_setCell_other _ ⟨B,1,none⟩ i _ (fun e=>hi (by rw [e]))).trans (heap_setCell_other wo ⟨B,0,none⟩ i _ (fun e=>hi (by rw [e])))⟩
 refine ⟨box_cell hA 0,box_cell hA 1,frozen_of_row wo B 0 _ _ hA,frozen_of_row wo B 1 _ _ hA,box_cell e2 0,box_cell e2 1,(ho.apart hgz (fun k h1 h2=>?_)).mono (by omega),(hr.keep fun r hr' k hk e=>hgz.block k hk fun e2=>?_).mono (by omega),hb.grown hgz hb.size (fun r hr=>by cases hr;omega)⟩
 · injection h2 with h2
   have:=(ho.lt k h1).1
   omega
 · obtain ⟨ys,ho2⟩:=hr.mem hr'
   have h3:=(ho2.lt k e.symm).1
   injection e2 with e2
   omega
def RetRen (N:Nat) (Y:List (List Int)) (w:World) (e:Ending) (w':World):Prop:=∃ (a:Option Addr) (m c:Nat) (rows:List Value),e=.returned (.agg #[.int .i64 (N:Int),.slice a m c])∧Own w' 23 w.heap.size (.slice a m c) rows∧RowsP w' w.heap.size rows Y∧DistR rows∧Below w.heap.size w w'
theorem i_renamedM (N bq:Nat) (v:Value) (X:List (List Int)) (w:World) (h:Rd2 w v X) (hk:netOk (N:Int) X=true) (cq:w.cell? ⟨bq,0,none⟩=some (.int .i64 (N:Int))) :
 Calls Tryz.prog 240 #[.agg #[.int .i64 N,v],.int .i64 N,.func (.func 241) #[] #[.pointer (some ⟨bq,0,none⟩)]] w (RetRen N (mirA N X) w):=by
 obtain ⟨a,c,rfl,hmc,hc9⟩:=h.form
 obtain ⟨h18,hl60,hrows⟩:=netOk_iff.1 hk
 have HK:=Lib.hid (fun k xs=>netOk_row (k:=k) (xs:=xs) hk)
 obtain ⟨m,hm⟩:∃ m,X.length=m:=⟨_,rfl⟩
 have HM:=Lib.hid hm
 have hN8:N≤8:=by omega
 rw [hm] at h hl60 ⊢
 clear hm hk hrows h18
 obtain ⟨wa,bx,hwa,hbx,hXa,hza,hba⟩:=newBox w (.cells #[.int .i64 N,.slice a m c] 30)
 obtain ⟨w0,B,hw0,hB,hA0,hz0,hb0⟩:=newBox wa (.cells #[.int .i64 0,.slice none 0 0] 30)
 obtain ⟨w1,bo,hw1,hbo,hO1,hz1,hb1⟩:=newBox w0 (.cells #[.int .i64 N,.slice none 0 0] 30)
 have hX0:w0.heap[bx]?=_:=(hb0.block bx hza).trans hXa
 have hX1:w1.heap[bx]?=_:=(hb1.block bx (box_lt hX0)).trans hX0
 have hA1:w1.heap[B]?=_:=(hb1.block B hz0).trans hA0
 have bt0:=hba.trans (hb0.mono hba.size)
 have bt1:=bt0.trans (hb1.mono bt0.size)
 have HWA:=Lib.hid hwa
 have HBX:=Lib.hid hbx
 have HW0:=Lib.hid hw0
 have HBB:Hid (w.heap.size+1=B):=by rw [Hid,←hB,←hwa];simp
 have HW1:=Lib.hid hw1
 have HBO:=Lib.hid hbo
 have hBo:B < bo:=by omega
 have hwo:w.heap.size≤bo:=by have:=bt0.size;omega
 have h1:=h.below bt1
 have q0:=box_cell hX0 0
 have q1:=box_cell hX1 1
 have HCQ:Hid (∀ W,Below w.heap.size w W→W.cell? ⟨bq,0,none⟩=some (.int .i64 (N:Int))):=fun W hW=>(hW.cell (World.block_lt_of_cell? _ _ cq)).trans cq
 clear hwa hbx hw0 hB hw1 hbo hXa hza hba hb0 hA0 hz0 hX0 bt0 hb1 cq
 go_enter Tryz.func240,Tryz.ntmps240
 go_upto_region 1 with (fail)
 rw [HWA.out,HW0.out,HBB.out,HBX.out]
 go_upto_region 2 with (fail)
 rw [HW1.out,HBO.out]
 clear q0
 go_wp2_with fail
 go_loopg [15] m (fun g iv wr=>∃ (q:Nat) (ao:Option Addr) (mo co:Nat) (rows:List Value),g=m - q∧q≤m∧iv=.int .i64 (q:Int)∧wr.heap[bo]?=some (.cells #[.int .i64 N,.slice ao mo co] 30 (0,0))∧Own wr 23 (bo+1) (.slice ao mo co) rows∧RowsP wr (bo+1) rows (mirA N (X.take q))∧DistR rows∧Hid (rows.length=mo)∧mo≤60∧Below bo w1 wr)
 case atStart=>exact ⟨0,none,0,0,[],rfl,Nat.zero_le _,rfl,hO1,Own.nil _ _ _,by rw [List.take_zero];exact RowsP.nil _ _,fun i j u v _ hu=>by simp at hu,rfl,by omega,Below.refl _ _⟩
 case round =>
  clear hO1 q1
  obtain ⟨wl,rfl⟩:∃ wl:World,wl=wr:=⟨_,rfl⟩
  obtain ⟨q,ao,mo,co,rows,hg,hq,rfl,hO,hov,hrp,hd,HLR,hmo,hb⟩:=hrel
  have be:=bt1.trans (hb.mono hwo)
  by_cases hlt:q < m
  · have hqx:q < X.length:=by have:=HM.out;omega
    obtain ⟨x,y,hp,hxN,hyN,hxy⟩:=HK.out q _ (List.getElem?_eq_getElem hqx)
    have hxq:X[q]?=some [(x:Int),(y:Int)]:=by rw [List.getElem?_eq_getElem hqx,hp]
    have HS:=Lib.hid (mirA_take (N:=N) hxq)
    obtain ⟨ad,z,d,rfl,f0,f1,f2⟩:=h.two hxq
    have e0:=(be.cell (World.block_lt_of_cell? _ _ f0)).trans f0
    have HXY:Hid (∀ W,Below w.heap.size w W→W.cell? z=some (.int .i64 (x:Int))∧W.cell? ⟨z.block,z.off+(0+1),none⟩=some (.int .i64 (y:Int))∧W.cell? ⟨bq,0,none⟩=some (.int .i64 (N:Int))):=fun W hW =>
     ⟨(hW.cell (World.block_lt_of_cell? _ _ f1)).trans f1,(hW.cell (World.block_lt_of_cell? _ _ f2)).trans f2,HCQ.out W hW⟩
    obtain rfl:mo=q:=by have h1:=HLR.out;have h2:=hrp.1;rw [mirA,List.length_map,List.length_take] at h2;omega
    have hmo2:mo+1≤60:=by omega
    obtain ⟨k1,k2,k3⟩:=pushFacts hO ((N:Int) - 1 - (x:Int)) ((N:Int) - 1 - (y:Int))
    have hc1:∀ W,(callFunc 241 (#[.int .i64 (x:Int)]++#[.pointer (some ⟨bq,0,none⟩)])).run Tryz.prog W=.ok (.enter 241 (#[.int .i64 (x:Int)]++#[.pointer (some ⟨bq,0,none⟩)])) W:=fun W=>k_Mir1 _ W
    have hc2:∀ W,(callFunc 241 (#[.int .i64 (y:Int)]++#[.pointer (some ⟨bq,0,none⟩)])).run Tryz.prog W=.ok (.enter 241 (#[.int .i64 (y:Int)]++#[.pointer (some ⟨bq,0,none⟩)])) W:=fun W=>k_Mir1 _ W
    have GX:Hid (∀ W:World,W.cell? ⟨bq,0,none⟩=some (.int .i64 (N:Int))→Calls Tryz.prog 241 #[.int .i64 (x:Int),.pointer (some ⟨bq,0,none⟩)] W fun e w'=>e=.returned (.int .i64 ((N:Int) - 1 - (x:Int)))∧W=w'):=fun W hW=>i_Mir1 N x bq hN8 (by omega) W hW
    have GY:Hid (∀ W:World,W.cell? ⟨bq,0,none⟩=some (.int .i64 (N:Int))→Calls Tryz.prog 241 #[.int .i64 (y:Int),.pointer (some ⟨bq,0,none⟩)] W fun e w'=>e=.returned (.int .i64 ((N:Int) - 1 - (y:Int)))∧W=w'):=fun W hW=>i_Mir1 N y bq hN8 (by omega) W hW
    have i1:(mo:Int) < (m:Int):=by omega
    have zO:=box_lt hO
    obtain ⟨x1,x2,x3⟩:=HXY.out _ be
    have HBE:=Lib.hid be
    have HS5:Hid (∀ W,Below bo wl W→W.cell? ⟨bo,1,none⟩=some (.slice ao mo co)→W.cell? z=some (.int .i64 (x:Int))∧W.cell? ⟨z.block,z.off+(0+1),none⟩=some (.int .i64 (y:Int))∧W.cell? ⟨bq,0,none⟩=some (.int .i64 (N:Int))∧W.cell? ⟨bo,1,none⟩=some (.slice ao mo co)):=fun W hW h1=>by
     obtain ⟨t1,t2,t3⟩:=HXY.out _ (be.trans (hW.mono hwo))
     exact ⟨t1,t2,t3,h1⟩
    have HB0:Below bo wl wl.drew:=⟨rfl,rfl,rfl,Nat.le_refl _,fun _ _=>rfl⟩
    have HB1:∀ o,Below bo wl (wl.drew.alloc o):=fun o=>HB0.alloc (Nat.le_of_lt zO) o
    have HB2:∀ o o2,Below bo wl ((wl.drew.alloc o).alloc o2):=fun o o2=>(HB1 o).alloc (by simp;omega) o2
    clear hp hxq f0 f1 f2
    go_upto_region 5 with (fail)
    refine region_tail 15 (S:=fun wx=>wx.cell? z=some (.int .i64 (x:Int))∧wx.cell? ⟨z.block,z.off+(0+1),none⟩=some (.int .i64 (y:Int))∧wx.cell? ⟨bq,0,none⟩=some (.int .i64 (N:Int))∧wx.cell? ⟨bo,1,none⟩=some (.slice ao mo co)) (by kernel_rfl) (by kernel_rfl) (HS5.out _ HB0 k1) (fun hHeld=>?_)
    simp only [List.take_succ_cons,List.take_zero]
    refine wpAnyH_take (i:=0) (v:=?v0) rfl (by kernel_rfl) (by kernel_rfl) (by kernel_rfl) (fun _ _ _ h=>h) (Or.inl ⟨by rfl,?hy0⟩) hHeld ?rest0
    case hy0=>(intro wx hSw;(try dsimp only at hSw);go_simp;try (with_reducible rfl))
    simp only [List.getElem_toArray,List.getElem_cons_zero,List.getElem_cons_succ,Act.put,List.setIfInBounds_toArray,List.set_cons_zero,List.set_cons_succ]
    refine wpAnyH_take (i:=1) (v:=?v1) rfl (by kernel_rfl) (by kernel_rfl) (by kernel_rfl) (fun _ _ _ h=>h) (Or.inl ⟨by rfl,?hy1⟩) hHeld ?rest1
    case hy1=>(intro wx hSw;(try dsimp only at hSw);go_simp;try (with_reducible rfl))
    simp only [List.getElem_toArray,List.getElem_cons_zero,List.getElem_cons_succ,Act.put,List.setIfInBounds_toArray,List.set_cons_zero,List.set_cons_succ]
    refine wpAnyH_take (i:=2) (v:=?v2) rfl (by kernel_rfl) (by kernel_rfl) (by kernel_rfl) (fun _ _ _ h=>h) (Or.inl ⟨by rfl,?hy2⟩) hHeld ?rest2
    case hy2=>(intro wx hSw;(try dsimp only at hSw);go_simp;try (with_reducible rfl))
    simp only [List.getElem_toArray,List.getElem_cons_zero,List.getElem_cons_succ,Act.put,List.setIfInBounds_toArray,List.set_cons_zero,List.set_cons_succ]
    refine wpAnyH_take (i:=3) (v:=?v3) rfl (by kernel_rfl) (by kernel_rfl) (by kernel_rfl) (fun _ _ _ h=>h) (Or.inl ⟨by rfl,?hy3⟩) hHeld ?rest3
    case hy3=>(intro wx hSw;(try dsimp only at hSw);go_simp;try (with_reducible rfl))
    simp only [List.getElem_toArray,List.getElem_cons_zero,List.getElem_cons_succ,Act.put,List.setIfInBounds_toArray,List.set_cons_zero,List.set_cons_succ]
    refine wpAnyH_take (i:=4) (v:=?v4) rfl (by kernel_rfl) (by kernel_rfl) (by kernel_rfl) (fun _ _ _ h=>h) (Or.inl ⟨by rfl,?hy4⟩) hHeld ?rest4
    case hy4=>(intro wx hSw;(try dsimp only at hSw);go_simp;try (with_reducible rfl))
    simp only [List.getElem_toArray,List.getElem_cons_zero,List.getElem_cons_succ,Act.put,List.setIfInBounds_toArray,List.set_cons_zero,List.set_cons_succ]
    refine wpAnyH_take (i:=5) (v:=?v5) rfl (by kernel_rfl) (by kernel_rfl) (by kernel_rfl) (fun _ _ _ h=>h) (Or.inl ⟨by rfl,?hy5⟩) hHeld ?rest5
    case hy5=>(intro wx hSw;(try dsimp only at hSw);go_simp;try (with_reducible rfl))
    simp only [List.getElem_toArray,List.getElem_cons_zero,List.getElem_cons_succ,Act.put,List.setIfInBounds_toArray,List.set_cons_zero,List.set_cons_succ]
    refine wpAnyH_take (i:=7) (v:=?v7) rfl (by kernel_rfl) (by kernel_rfl) (by kernel_rfl) (fun _ _ _ h=>h) (Or.inl ⟨by rfl,?hy7⟩) hHeld ?rest7
    case hy7=>(intro wx hSw;(try dsimp only at hSw);go_simp;try (with_reducible rfl))
    simp only [List.getElem_toArray,List.getElem_cons_zero,List.getElem_cons_succ,Act.put,List.setIfInBounds_toArray,List.set_cons_zero,List.set_cons_succ]
    refine wpAnyH_take (i:=8) (v:=?v8) rfl (by kernel_rfl) (by kernel_rfl) (by kernel_rfl) (fun _ _ _ h=>h) (Or.inl ⟨by rfl,?hy8⟩) hHeld ?rest8
    case hy8=>(intro wx hSw;(try dsimp only at hSw);go_simp;try (with_reducible rfl))
    simp only [List.getElem_toArray,List.getElem_cons_zero,List.getElem_cons_succ,Act.put,List.setIfInBounds_toArray,List.set_cons_zero,List.set_cons_succ]
    refine wpAnyH_take (i:=9) (v:=?v9) rfl (by kernel_rfl) (by kernel_rfl) (by kernel_rfl) (fun _ _ _ h=>h) (Or.inl ⟨by rfl,?hy9⟩) hHeld ?rest9
    case hy9=>(intro wx hSw;(try dsimp only at hSw);go_simp;try (with_reducible rfl))
    simp only [List.getElem_toArray,List.getElem_cons_zero,List.getElem_cons_succ,Act.put,List.setIfInBounds_toArray,List.set_cons_zero,List.set_cons_succ]
    refine wpAnyH_take (i:=10) (v:=?v10) rfl (by kernel_rfl) (by kernel_rfl) (by kernel_rfl) (fun _ _ _ h=>h) (Or.inl ⟨by rfl,?hy10⟩) hHeld ?rest10
    case hy10=>(intro wx hSw;(try dsimp only at hSw);go_simp;try (with_reducible rfl))
    simp only [List.getElem_toArray,List.getElem_cons_zero,List.getElem_cons_succ,Act.put,List.setIfInBounds_toArray,List.set_cons_zero,List.set_cons_succ]
    refine wpAnyH_ready (rs:=[6]) (by kernel_rfl) (by simp) ?_
    refine AllReadyH.cons rfl (fun K hK=>?_) AllReadyH.nil
    go_simp
    go_at_call 241
    refine (GX.out _ hHeld.2.2.1).mono ?_
    rintro e w5 ⟨rfl,rfl⟩
    refine hK.out _ _ hHeld (fun hHeld=>?_)
    clear hK K
    try simp only [List.getElem_toArray,List.getElem_cons_zero,List.getElem_cons_succ,Act.put,List.setIfInBounds_toArray,List.set_cons_zero,List.set_cons_succ]
    refine wpAnyH_ready (rs:=[11]) (by kernel_rfl) (by simp) ?_
    refine AllReadyH.cons rfl (fun K hK=>?_) AllReadyH.nil
    go_simp
    go_at_call 241
    refine (GY.out _ hHeld.2.2.1).mono ?_
    rintro e w5 ⟨rfl,rfl⟩
    refine hK.out _ _ hHeld (fun hHeld=>?_)
    clear hK K
    try simp only [List.getElem_toArray,List.getElem_cons_zero,List.getElem_cons_succ,Act.put,List.setIfInBounds_toArray,List.set_cons_zero,List.set_cons_succ]
    refine wpAnyH_ready (rs:=[12]) (by kernel_rfl) (by simp) ?_
    refine AllReadyH.cons rfl (fun K hK=>?_) AllReadyH.nil
    go_simp
    refine hK.out _ _ (HS5.out _ (HB1 _) k2) (fun hHeld=>?_)
    clear hK K
    try simp only [List.getElem_toArray,List.getElem_cons_zero,List.getElem_cons_succ,Act.put,List.setIfInBounds_toArray,List.set_cons_zero,List.set_cons_succ]
    refine wpAnyH_ready (rs:=[13]) (by kernel_rfl) (by simp) ?_
    refine AllReadyH.cons rfl (fun K hK=>?_) AllReadyH.nil
    go_simp
    refine hK.out _ _ (HS5.out _ (HB2 _ _) k3) (fun hHeld=>?_)
    clear hK K
    try simp only [List.getElem_toArray,List.getElem_cons_zero,List.getElem_cons_succ,Act.put,List.setIfInBounds_toArray,List.set_cons_zero,List.set_cons_succ]
    refine wpAnyH_ready (rs:=[14]) (by kernel_rfl) (by simp) ?_
    refine AllReadyH.cons rfl (fun K hK=>?_) AllReadyH.nil
    refine stepPushD (wl:=wl) (by rfl) _ _ _ (by rfl) elII (by rfl) (by rfl) (by decide) hO (by decide) (by decide) hov hrp HLR.out (by omega) (by first | exact .inl rfl | exact .inr rfl) ?_
    rintro p7 c7 w7 b7 ⟨k6,kf6,hO7,o7,r7,b7'⟩
    refine hK.out _ _ (HS5.out _ b7 k6) (fun hHeld=>?_)
    clear hK K
    try simp only [List.getElem_toArray,List.getElem_cons_zero,List.getElem_cons_succ,Act.put,List.setIfInBounds_toArray,List.set_cons_zero,List.set_cons_succ]
    refine wpAnyH_done (by kernel_rfl) ?_ _
    show wpList _ _ _ _ _ _
    simp only [List.drop_succ_cons,List.drop_zero]
    all_goals
     go_wp2_with fail
     go_roundg (m - (mo+1))
     case measure=>omega
     case rel =>
      rw [←HS.out] at r7
      refine ⟨mo+1,p7,mo+1,c7,_,rfl,by omega,by go_num,hO7,o7,r7,hd.snoc fun u hu e=>?_,by rw [Hid,List.length_append,HLR.out];rfl,by omega,hb.trans b7'⟩
      obtain ⟨ys,ho⟩:=hrp.mem hu
      exact absurd (ho.lt wl.heap.size e).2 (Nat.lt_irrefl _)
  · obtain rfl:q=m:=by omega
    have hXt:X.take q=X:=List.take_of_length_le (by have:=HM.out;omega)
    have hA2:wl.heap[B]?=_:=(hb.block B (by omega)).trans hA1
    have p0:=box_cell hO 0
    have p1:=box_cell hO 1
    rw [hXt] at hrp
    obtain ⟨c0,c1,f0,f1,r0,r1,oz,rz,bz⟩:=netResR (n:=(N:Int)) hA2 (hov.mono (by omega)) (hrp.mono (by omega)) (by have:=HBB.out;omega) be
    clear hov hrp hO hA2
    go_wp2_with fail
    exact bodyPost_ret (v:=.agg #[.int .i64 N,.slice ao mo co]) (by simp [results,Tryz.results240,go_sem,r0,r1]) rfl ⟨_,_,_,rows,rfl,oz,rz,hd,bz⟩
theorem flip_two (x y:Int):flipL [x,y] 2=[y,x]:=rfl
theorem i_MirrorNetwork (N:Nat) (v:Value) (X:List (List Int)) (w:World) (h:Rd2 w v X) (hk:netOk (N:Int) X=true):Calls Tryz.prog 200 #[.agg #[.int .i64 N,v]] w (RetM (mirM N X) w):=by
 obtain ⟨a,c,rfl,hmc,hc9⟩:=h.form
 obtain ⟨h18,hl60,hrows⟩:=netOk_iff.1 hk
 have HNK:=Lib.hid (fun (W:World) (hW:Rd2 W (.slice a X.length c) X)=>hk ▸ i_NetworkOk (N:Int) _ X W hW (by unfold I64;omega))
 have HRE:=Lib.hid (fun (bq:Nat) (W:World) (hW:Rd2 W (.slice a X.length c) X) (hc:W.cell? ⟨bq,0,none⟩=some (.int .i64 (N:Int)))=>i_renamedM N bq _ X W hW hk hc)
 have HZR:Hid (∀ (q:Nat) (p:List Int),(mirA N X)[q]?=some p→∃ x y:Int,p=[x,y]):=fun q p hq=>by
  obtain ⟨z,hz,rfl⟩:=List.mem_map.1 (List.mem_of_getElem? hq)
  exact ⟨_,_,rfl⟩
 have HMM:Hid (mirM N X=some ((N:Int),(mirA N X).map rvP)):=rfl
 obtain ⟨m,hm⟩:∃ m,X.length=m:=⟨_,rfl⟩
 have HZL:Hid ((mirA N X).length=m):=by rw [Hid,mirA,List.length_map,hm]
 rw [hm] at h HNK HRE hmc hl60 ⊢
 rw [HMM.out]
 generalize mirA N X=Z at *
 clear hm hk hrows HMM
 obtain ⟨wa,bx,hwa,hbx,hXa,hza,hba⟩:=newBox w (.cells #[.int .i64 N,.slice a m c] 30)
 obtain ⟨w0,B,hw0,hB,hA0,hz0,hb0⟩:=newBox wa (.cells #[.int .i64 0,.slice none 0 0] 30)
 have hX0:w0.heap[bx]?=_:=(hb0.block bx hza).trans hXa
 have bt0:=hba.trans (hb0.mono hba.size)
 have HWA:=Lib.hid hwa
 have HBX:=Lib.hid hbx
 have HW0:=Lib.hid hw0
 have HBB:Hid (w.heap.size+1=B):=by rw [Hid,←hB,←hwa];simp
 have hwB:w.heap.size≤B:=by have:=HBB.out;omega
 have h0:=h.below bt0
 have q0:=box_cell hX0 0
 have q1:=box_cell hX0 1
 have HT:Hid (∀ W,Below w0.heap.size w0 W→W.cell? ⟨bx,0,none⟩=some (.int .i64 (N:Int))∧W.cell? ⟨bx,1,none⟩=some (.slice a m c)∧W.heap[B]?=some (.cells #[.int .i64 0,.slice none 0 0] 30 (0,0))∧Below w.heap.size w W∧Rd2 W (.slice a m c) X):=fun W hW=>by
  have hX:=(hW.block bx (box_lt hX0)).trans hX0
  exact ⟨box_cell hX 0,box_cell hX 1,(hW.block B hz0).trans hA0,bt0.trans (hW.mono bt0.size),h0.below hW⟩
 clear hwa hbx hw0 hB hXa hza hba hb0
 go_enter Tryz.func200,Tryz.ntmps200
 go_upto_region 1 with (fail)
 rw [HWA.out,HW0.out,HBB.out,HBX.out]
 go_upto_region 3 with (go_at_call 40;refine (HNK.out _ h0).mono ?_;rintro e w1 ⟨rfl,b1⟩;obtain ⟨k0,k1,-,-,h1⟩:=HT.out _ b1)
 clear q0 q1
 go_upto_region 4 with (go_at_call 240;refine (HRE.out bx _ h1 k0).mono ?_;rintro e w2 ⟨a2,m2,c2,rows,rfl,o2,r2,d2,b2⟩)
 obtain ⟨w3,bo,hw3,hbo,hO3,hz3,hb3⟩:=newBox w2 (.cells #[.int .i64 N,.slice a2 m2 c2] 30)
 have HW3:=Lib.hid hw3
 have HBO:=Lib.hid hbo
 rw [HW3.out,HBO.out]
 have b12:=b1.trans (b2.mono b1.size)
 have b13:=b12.trans (hb3.mono b12.size)
 obtain ⟨-,-,hA3,be3,-⟩:=HT.out _ b13
 have hBw1:B < w1.heap.size:=box_lt (HT.out _ b1).2.2.1
 have o3:=o2.below hb3
 have r3:=r2.below hb3
 have hm2:m2=m:=by
  obtain ⟨a',c',e,_,_⟩:=o2.rd.form
  have h5:=r2.1
  injection e with _ e2 _
  rw [e2,h5,HZL.out]
 subst hm2
 have p0:=box_cell hO3 0
 have p1:=box_cell hO3 1
 have HD:=Lib.hid d2
 clear hw3 hbo k0 k1 h1 o2 r2 b2 b12 b13 hb3 d2
 go_wp2_with fail
 go_loopg [19] m2 (fun g iv wr=>∃ q:Nat,g=m2 - q∧q≤m2∧iv=.int .i64 (q:Int)∧Own wr 23 w1.heap.size (.slice a2 m2 c2) rows∧RowsP wr w1.heap.size rows (rvK Z q)∧wr.heap[bo]?=some (.cells #[.int .i64 N,.slice a2 m2 c2] 30 (0,0))∧wr.heap[B]?=some (.cells #[.int .i64 0,.slice none 0 0] 30 (0,0))∧Below w.heap.size w wr)
 case atStart=>exact ⟨0,rfl,Nat.zero_le _,rfl,o3,by rw [rvK,List.take_zero,List.drop_zero];exact r3,hO3,hA3,be3⟩
 case round =>
  clear o3 r3 hO3 hA3 be3 p0 p1
  obtain ⟨q,hg,hq,rfl,ho,hr,hO,hA,be⟩:=hrel
  by_cases hlt:q < m2
  · have i0:(q:Int) < (m2:Int):=by omega
    have hrl:rows.length=m2:=by
     obtain ⟨a',c',e,_,_⟩:=ho.rd.form
     injection e with _ e2 _
     exact e2.symm
    obtain ⟨ad,rfl,hcr⟩:=ho.rd.cell (k:=q) (by omega)
    have hri:rows[q]?=some (rows[q]'(by omega)):=List.getElem?_eq_getElem (by omega)
    obtain ⟨ys,hys,oy⟩:=hr.2 q _ hri
    rw [rvK_get (by rw [HZL.out];exact hlt)] at hys
    obtain ⟨x,y,rfl⟩:=HZR.out q ys hys
    have HSET:=Lib.hid (rvK_set hys)
    obtain ⟨u,hu⟩:∃ u,rows[q]'(by omega)=u:=⟨_,rfl⟩
    rw [hu] at hcr hri oy
    obtain ⟨ay,my,cy,rfl,HMY,_,_⟩:=oy.rd.formN
    obtain rfl:my=2:=HMY.out
    obtain ⟨zy,_,rfl,_,_⟩:=oy.rd.int (k:=0) (by simp)
    have HRV:=Lib.hid (f_ReversePre (some zy) 2 cy 2 [x,y] w1.heap.size wr oy (by simp) (by simp) (by simp))
    have HRI:=Lib.hid hri
    clear hu hys hri hrl HMY
    go_wp2_with (go_at_call 139;refine HRV.out.mono ?_;rintro e w5 ⟨rfl,o5,g5⟩)
    rw [flip_two] at o5
    have r5:=hr.setD HD.out HRI.out o5 g5 ⟨_,rfl⟩
    rw [show [y,x]=rvP [x,y] from rfl,HSET.out] at r5
    have ho5:=ho.apart g5 (fun k h1 h2=>ho.elem_ne oy (by decide) k h1 h2)
    have hO5:w5.heap[bo]?=_:=(g5.block bo (box_lt hO) (fun e=>own_ne_box oy hO (by decide) e.symm)).trans hO
    have hA5:w5.heap[B]?=_:=(g5.block B (box_lt hA) (fun e=>own_ne_box oy hA (by decide) e.symm)).trans hA
    have be5:=be.grown g5 be.size (fun r hr=>by have h6:=(oy.lt r hr).1;have h7:=(HT.out _ b1).2.2.2.1.size;omega)
    go_roundg (m2 - (q+1))
    case measure=>omega
    case rel=>exact ⟨q+1,rfl,by omega,by go_num,ho5,r5,hO5,hA5,be5⟩
  · obtain rfl:q=m2:=by omega
    have hZt:rvK Z q=Z.map rvP:=by rw [rvK,List.take_of_length_le (by rw [HZL.out];exact Nat.le_refl _),List.drop_of_length_le (by rw [HZL.out];exact Nat.le_refl _),List.append_nil]
    rw [hZt] at hr
    have p0:=box_cell hO 0
    have p1:=box_cell hO 1
    obtain ⟨c0,c1,f0,f1,r0,r1,oz,bz⟩:=netRes (n:=(N:Int)) hA ((show OwnP wr w1.heap.size (.slice a2 q c2) _ from ⟨rows,ho,hr⟩).mono (by omega)) hwB be
    clear ho hr hO hA
    go_wp2_with fail
    exact bodyPost_ret (v:=.tuple #[.agg #[.int .i64 N,.slice a2 q c2],.bool true]) (by simp [results,Tryz.results200,go_sem,r0,r1]) rfl ⟨_,_,_,rfl,oz,bz⟩
end Go.Proofs.YtggblfnajeikjaaGreatDoor
