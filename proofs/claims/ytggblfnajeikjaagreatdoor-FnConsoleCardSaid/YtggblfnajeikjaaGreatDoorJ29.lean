/- Joined texts of the proof: ConP, ConB, ConfI, ConfF, ConfS. -/
import Derived.Lib.IndexMore
import Derived.Lib.Strings
import Derived.Test.YtggblfnajeikjaaGreatDoorJ3
import Derived.Test.YtggblfnajeikjaaGreatDoorJ26
import Derived.Test.YtggblfnajeikjaaGreatDoorJ28
namespace Go.Proofs.YtggblfnajeikjaaGreatDoor
open Go.RowKit
set_option linter.unusedVariables false
set_option linter.unusedSimpArgs false
set_option maxRecDepth 100000
set_option maxHeartbeats 16000000
abbrev NetV:=Int × List (List Int)
def fmtNet (p:NetV):List UInt8:=fmtK p.1 p.2 p.2.length
def pairW (p:List Int):List UInt8:=Lib.itoa (p.getD 0 0)++[45]++Lib.itoa (p.getD 1 0)
def tails (c:UInt8):List (List UInt8)→List UInt8
 | []=>[]
 | x :: r=>c :: x++tails c r
theorem tails_app (c:UInt8):∀ a b,tails c (a++b)=tails c a++tails c b
 | [],b=>rfl
 | x :: r,b=>by simp [tails,tails_app c r b]
theorem fmtK_tails (n:Int) (X:List (List Int)):∀ k,k≤X.length→fmtK n X k=Lib.itoa n++[58]++tails 32 ((X.take k).map pairW)
 | 0,_=>by simp [fmtK,tails]
 | k+1,h=>by
   have e:(X.take (k+1)).map pairW=(X.take k).map pairW++[pairW (X.getD k [])]:=by
    rw [List.take_add_one,List.getElem?_eq_getElem (show k < X.length by omega),List.getD_eq_getElem?_getD,List.getElem?_eq_getElem (show k < X.length by omega),List.map_append]
    rfl
   rw [fmtK,fmtK_tails n X k (by omega),e,tails_app]
   simp [fmtPair,pairW,tails]
theorem fmtNet_eq (p:NetV):fmtNet p=Lib.itoa p.1++[58]++tails 32 (p.2.map pairW):=by
 rw [fmtNet,fmtK_tails _ _ _ (Nat.le_refl _),List.take_length]
theorem splitR_no {c:UInt8} : ∀ {a:List UInt8},(∀ x∈a,x≠c)→splitR c a=[a]
 | [],_=>rfl
 | x :: r,h=>by
   have ih:=splitR_no (c:=c) (a:=r) (fun y hy=>h y (.tail _ hy))
   rw [splitR,if_neg (h x (.head _)),ih]
theorem splitR_cons {c:UInt8} : ∀ {a:List UInt8} (r:List UInt8),(∀ x∈a,x≠c)→splitR c (a++c :: r)=a :: splitR c r
 | [],r,_=>by simp [splitR]
 | x :: a,r,h=>by
   have ih:=splitR_cons (c:=c) (a:=a) r (fun y hy=>h y (.tail _ hy))
   rw [List.cons_append,splitR,if_neg (h x (.head _)),ih]
theorem splitR_tails {c:UInt8} : ∀ (ws:List (List UInt8)) (a:List UInt8),(∀ x∈a,x≠c)→(∀ w∈ws,∀ x∈w,x≠c)→splitR c (a++tails c ws)=a :: ws
 | [],a,h,_=>by rw [tails,List.append_nil,splitR_no h]
 | w :: ws,a,h,h2=>by
   rw [tails,List.cons_append,splitR_cons _ h,splitR_tails ws w (h2 w (.head _)) (fun v hv=>h2 v (.tail _ hv))]
theorem itoa_nd {n:Int} (h:0≤n):∀ c∈Lib.itoa n,isDg c=true:=fun c hc=>by
 rw [Lib.itoa,if_neg (by omega)] at hc
 exact dec_digit _ c hc
theorem isDg_ne {c:UInt8} (h:isDg c=true):c≠32∧c≠45∧c≠58∧c≠44∧c≠10∧c≠35:=by
 have:=isDg_iff.1 h
 refine ⟨?_,?_,?_,?_,?_,?_⟩ <;> (rintro rfl;revert this;decide)
theorem index_at {c:UInt8} : ∀ {a:List UInt8} (r:List UInt8),(∀ x∈a,x≠c)→Lib.index (a++c :: r) [c]=a.length
 | [],r,_=>by simp [Lib.index,List.isPrefixOf]
 | x :: a,r,h=>by
   have ih:=index_at (c:=c) (a:=a) r (fun y hy=>h y (.tail _ hy))
   have h1:[c].isPrefixOf (x :: (a++c :: r))=false:=by simp [List.isPrefixOf];exact fun e=>h x (.head _) e.symm
   have h2:(((a.length:Nat):Int) == -1)=false:=by simp
   rw [List.cons_append,Lib.index,h1,ih,h2]
   simp
theorem cut_at {c:UInt8} {a:List UInt8} (r:List UInt8) (h:∀ x∈a,x≠c):Lib.cut (a++c :: r) [c]=(a,r,true):=by
 rw [Lib.cut,index_at r h,if_pos (by omega)]
 simp
theorem trim_at (a:List UInt8) (c:UInt8):Lib.trimSuffix (a++[c]) [c]=a:=by
 rw [Lib.trimSuffix,if_pos (by rw [Lib.hasSuffix,List.isSuffixOf_iff_suffix];exact List.suffix_append _ _)]
 simp
def readPair (l:List UInt8):Option (List Int) :=
 match parseI (Lib.cut l [45]).1,parseI (Lib.cut l [45]).2.1 with
 | some a,some b=>some [a,b]
 | _,_=>none
def readPairs:List (List UInt8)→Option (List (List Int))
 | []=>some []
 | x :: r=>match readPair x,readPairs r with
   | some p,some ps=>some (p :: ps)
   | _,_=>none
def parseNet (l:List UInt8):Option NetV :=
 match parseI (Lib.trimSuffix ((splitR 32 l).headD []) [58]),readPairs (splitR 32 l).tail with
 | some n,some X=>if netOk n X=true∧fmtNet (n,X)=l then some (n,X) else none
 | _,_=>none
theorem parseI_itoa {n:Int} (h:I64 n):parseI (Lib.itoa n)=some n:=parseI_iff.2 ⟨h,rfl⟩
theorem readPair_w {a b:Int} (ha:I64 a) (h0:0≤a) (hb:I64 b):readPair (Lib.itoa a++[45]++Lib.itoa b)=some [a,b]:=by
 have : Lib.itoa a++[45]++Lib.itoa b=Lib.itoa a++45 :: Lib.itoa b:=by simp
 rw [readPair,this,cut_at _ (fun x hx=>(isDg_ne (itoa_nd h0 x hx)).2.1)]
 simp only [parseI_itoa ha,parseI_itoa hb]
theorem netRow_w {n:Int} {p:List Int} (hn:n≤8) (h:netRow n p=true):readPair (pairW p)=some p∧(∀ x∈pairW p,x≠32)∧(∀ x∈pairW p,x≠10):=by
 obtain ⟨a,b,rfl,ha,hb,_⟩:=netRow_iff h
 refine ⟨readPair_w (a:=a) (b:=b) (by unfold I64;omega) ha.1 (by unfold I64;omega),?_,?_⟩
 all_goals
  intro x hx
  simp only [pairW,List.mem_append,List.mem_singleton] at hx
  rcases hx with (hx | hx) | hx
  · have:=isDg_ne (itoa_nd (n:=a) ha.1 x (by simpa using hx));simp [this]
  · subst hx;decide
  · have:=isDg_ne (itoa_nd (n:=b) hb.1 x (by simpa using hx));simp [this]
theorem readPairs_w {n:Int} (hn:n≤8):∀ X:List (List Int),(∀ p∈X,netRow n p=true)→readPairs (X.map pairW)=some X
 | [],_=>rfl
 | p :: r,h=>by
   rw [List.map_cons,readPairs,(netRow_w hn (h p (.head _))).1,readPairs_w hn r (fun q hq=>h q (.tail _ hq))]
theorem split_fmt {p:NetV} (h:netOk p.1 p.2=true):splitR 32 (fmtNet p)=(Lib.itoa p.1++[58]) :: p.2.map pairW:=by
 obtain ⟨h1,_,h3⟩:=netOk_iff.1 h
 rw [fmtNet_eq]
 refine splitR_tails _ _ (fun x hx=>?_) (fun w hw x hx=>?_)
 · rw [List.mem_append,List.mem_singleton] at hx
   rcases hx with hx | rfl
   · exact (isDg_ne (itoa_nd (by omega) x hx)).1
   · decide
 · obtain ⟨q,hq,rfl⟩:=List.mem_map.1 hw
   exact (netRow_w (by omega) (h3 q hq)).2.1 x hx
theorem parseNet_fmt {p:NetV} (h:netOk p.1 p.2=true):parseNet (fmtNet p)=some p:=by
 obtain ⟨h1,_,h3⟩:=netOk_iff.1 h
 rw [parseNet,split_fmt h]
 simp only [List.headD_cons,List.tail_cons,trim_at,parseI_itoa (n:=p.1) (by unfold I64;omega),readPairs_w (by omega) p.2 h3]
 rw [if_pos ⟨h,trivial⟩]
theorem parseNet_ok {l:List UInt8} {p:NetV} (h:parseNet l=some p):netOk p.1 p.2=true:=by
 unfold parseNet at h
 split at h
 · split at h
   · rename_i hh
     cases h
     exact hh.1
   · cases h
 · cases h
theorem fmtNet_nl {p:NetV} (h:netOk p.1 p.2=true):∀ x∈fmtNet p,x≠10:=by
 obtain ⟨h1,_,h3⟩:=netOk_iff.1 h
 rw [fmtNet_eq]
 intro x hx
 rw [List.mem_append,List.mem_append,List.mem_singleton] at hx
 rcases hx with (hx | rfl) | hx
 · exact (isDg_ne (itoa_nd (by omega) x hx)).2.2.2.2.1
 · decide
 · have : ∀ ws:List (List UInt8),(∀ w∈ws,∀ x∈w,x≠10)→∀ x∈tails 32 ws,x≠10:=by
    intro ws
    induction ws with
    | nil=>intro _ x hx;simp [tails] at hx
    | cons w r ih =>
      intro hw x hx
      simp only [tails,List.cons_append,List.mem_cons,List.mem_append] at hx
      rcases hx with rfl | hx | hx
      · decide
      · exact hw w (.head _) x hx
      · exact ih (fun v hv=>hw v (.tail _ hv)) x hx
   refine this _ (fun w hw x hx=>?_) x hx
   obtain ⟨q,hq,rfl⟩:=List.mem_map.1 hw
   exact (netRow_w (by omega) (h3 q hq)).2.2 x hx
theorem fmtNet_head {p:NetV} (h:netOk p.1 p.2=true):∃ c r,fmtNet p=c :: r∧isDg c=true:=by
 obtain ⟨h1,_,h3⟩:=netOk_iff.1 h
 rw [fmtNet_eq]
 have hp:=(itoa_len (n:=p.1) (by unfold I64;omega)).1
 cases hd:Lib.itoa p.1 with
 | nil=>rw [hd] at hp;simp at hp
 | cons c r =>
   have:=itoa_nd (n:=p.1) (by omega) c (by rw [hd];exact .head _)
   exact ⟨c,_,rfl,this⟩
theorem fmtNet_len {p:NetV} (h:netOk p.1 p.2=true):(fmtNet p).length≤4000:=by
 obtain ⟨h1,h2,h3⟩:=netOk_iff.1 h
 rw [fmtNet_eq]
 have hp:=(itoa_len (n:=p.1) (by unfold I64;omega)).2
 have : ∀ X:List (List Int),(∀ q∈X,netRow p.1 q=true)→(tails 32 (X.map pairW)).length≤42 * X.length:=by
  intro X
  induction X with
  | nil=>intro _;simp [tails]
  | cons q r ih =>
    intro hX
    have h4:=ih (fun v hv=>hX v (.tail _ hv))
    obtain ⟨a,b,rfl,ha,hb,_⟩:=netRow_iff (hX q (.head _))
    have l1:=(itoa_len (n:=a) (by unfold I64;omega)).2
    have l2:=(itoa_len (n:=b) (by unfold I64;omega)).2
    simp only [List.map_cons,tails,pairW,List.length_append,List.length_cons,List.cons_append,List.getD_cons_zero,List.getD_cons_succ,List.length_nil] at *
    omega
 have h4:=this p.2 h3
 simp only [List.length_append,List.length_cons,List.length_nil]
 omega
def netN:Option NetV→Int
 | some p=>p.1
 | none=>0
def netX:Option NetV→List (List Int)
 | some p=>p.2
 | none=>[]
def RetM (r:Option NetV) (w:World) (e:Ending) (w':World):Prop :=
 ∃ (a:Option Addr) (m c:Nat),e=.returned (.tuple #[.agg #[.int .i64 (netN r),.slice a m c],.bool r.isSome])∧OwnP w' w.heap.size (.slice a m c) (netX r)∧Below w.heap.size w w'
def RetN1 (n:Int) (X:List (List Int)) (w:World) (e:Ending) (w':World):Prop :=
 ∃ (a:Option Addr) (m c:Nat),e=.returned (.agg #[.int .i64 n,.slice a m c])∧OwnP w' w.heap.size (.slice a m c) X∧Below w.heap.size w w'
theorem boxSet {w wo:World} {B T:Nat} {x0 x1 x y:Value} (hA:wo.heap[B]?=some (.cells #[x0,x1] T (0,0))) (hB:w.heap.size≤B) (hb:Below w.heap.size w wo) :
 wo.cell? ⟨B,0,none⟩=some x0∧wo.cell? ⟨B,1,none⟩=some x1∧wo.frozen? ⟨B,0,none⟩=false∧wo.frozen? ⟨B,1,none⟩=false ∧
 ((wo.setCell ⟨B,0,none⟩ x).setCell ⟨B,1,none⟩ y).cell? ⟨B,0,none⟩=some x∧((wo.setCell ⟨B,0,none⟩ x).setCell ⟨B,1,none⟩ y).cell? ⟨B,1,none⟩=some y∧Below w.heap.size w ((wo.setCell ⟨B,0,none⟩ x).setCell ⟨B,1,none⟩ y):=by
 have e2:=box2 (x:=x) (y:=y) hA
 have hgz:wo.grownBy ((wo.setCell ⟨B,0,none⟩ x).setCell ⟨B,1,none⟩ y) (some B) :=
  ⟨rfl,rfl,rfl,by simp,fun i _ hi=>(heap_setCell_other _ ⟨B,1,none⟩ i _ (fun e=>hi (by rw [e]))).trans (heap_setCell_other wo ⟨B,0,none⟩ i _ (fun e=>hi (by rw [e])))⟩
 exact ⟨box_cell hA 0,box_cell hA 1,frozen_of_row wo B 0 _ _ hA,frozen_of_row wo B 1 _ _ hA,box_cell e2 0,box_cell e2 1,hb.grown hgz hb.size (fun r hr=>by cases hr;omega)⟩
theorem RetM.of {n:Int} {X:List (List Int)} {w w':World} {e:Ending} (h:RetNetB n X w e w'):RetM (some (n,X)) w e w':=h
section
variable {wr w5 w6:World} {F bx m c c6:Nat} {n:Value} {a b6:Option Addr} {rows:List Value} {xss:List (List Int)} {xs:List Int} {u:Value}
theorem boxPushR (HX:wr.heap[bx]?=some (.cells #[n,.slice a m c] F (0,0))) (hF:F≠23) (hF2:F≠3) (hov:Own wr 23 (bx+1) (.slice a m c) rows) (hrp:RowsP wr (bx+1) rows xss)
 (hb5:Below wr.heap.size wr w5) (ho5:Own w5 3 wr.heap.size u (ints xs)) (ho6:Own w6 23 (bx+1) (.slice b6 (m+1) c6) (rows++[u])) (hg6:w5.grownBy w6 (Value.slice a m c).ownBlock) :
 w6.cell? ⟨bx,1,none⟩=some (.slice a m c)∧w6.frozen? ⟨bx,1,none⟩=false∧(w6.setCell ⟨bx,1,none⟩ (.slice b6 (m+1) c6)).heap[bx]?=some (.cells #[n,.slice b6 (m+1) c6] F (0,0)) ∧
  OwnP (w6.setCell ⟨bx,1,none⟩ (.slice b6 (m+1) c6)) (bx+1) (.slice b6 (m+1) c6) (xss++[xs])∧bx+1≤(w6.setCell ⟨bx,1,none⟩ (.slice b6 (m+1) c6)).heap.size∧Below bx wr (w6.setCell ⟨bx,1,none⟩ (.slice b6 (m+1) c6)):=by
 have hsz:bx+1≤wr.heap.size:=box_lt HX
 have hov1:=hov.below hb5
 have hne6:∀ q,q≤bx→some q≠(Value.slice a m c).ownBlock:=fun q hq e=>by have:=(hov1.lt q e.symm).1;omega
 have hz5:=hb5.size
 have hX6:w6.heap[bx]?=_:=(hg6.block bx (by omega) (hne6 bx (Nat.le_refl _))).trans ((hb5.block bx (by omega)).trans HX)
 have hz6:=hg6.size
 have hgs:w6.grownBy (w6.setCell ⟨bx,1,none⟩ (.slice b6 (m+1) c6)) (some bx):=⟨rfl,rfl,rfl,by simp,fun q _ hq=>heap_setCell_other w6 ⟨bx,1,none⟩ q _ (fun e=>hq (by rw [e]))⟩
 have hO:OwnP w6 (bx+1) (.slice b6 (m+1) c6) (xss++[xs]):=⟨_,ho6,((hrp.below hb5).app (RowsP.single (ho5.mono hsz))).outer hg6 hov1⟩
 refine ⟨box_cell hX6 1,frozen_of_row w6 bx 1 _ _ hX6,heap_setCell_same w6 bx 1 _ _ _ hX6,hO.under hgs (fun q hq=>by cases hq;omega),by simp;omega,?_⟩
 have hB6:Below bx wr w6:=(hb5.mono (by omega)).grown hg6 (by omega) (fun r hr=>by have:=(hov1.lt r hr).1;omega)
 exact hB6.setCell (by show bx≤bx;omega) _
end
theorem step_app1nC {P:Program} {w:World} {ops:Array Oper} {o:Oper} {a:Act} {K:Act→World→Prop} {Q:Exit→Act→World→Prop} {F:Prop} (hgd:o.guard=none) (s x:Operand) (t:TypeId)
 (ho:o.op=.call { callee:=.builtin .append,args:=#[s,x],argTypes:=#[t,t] })
 {E B bytes:Nat} {z:Value} (ht:ElemOk P t E bytes z) {v u:Value} {xs:List Value} (hs:a.eval s=v) (hown:Own w E B v xs) (hx:a.eval x=.slice (some ⟨w.heap.size,0,none⟩) 1 1)
 (h1:u.oneCell'=true) (hB:B≤w.heap.size) (hbytes:(xs.length+1) * bytes≤140737488355328) (h63:xs.length+1≤9223372036854775807)
 (h:∀ b c w',Own w' E B (.slice b (xs.length+1) c) (xs++[u])→w.grownBy w' v.ownBlock →
  ((Value.slice b (xs.length+1) c).ownBlock=v.ownBlock∨∃ k,w.heap.size≤k∧(Value.slice b (xs.length+1) c).ownBlock=some k) →
  K (a.put o.dst (.slice b (xs.length+1) c)) w'):if Region.wanted o (yielded ops a.tmps)=true then Oper.wp P o a (w.alloc (.cells #[u] E)) K Q else F:=by
 refine step_app hgd s x t ho ht hs (hown.alloc _) hx (rd_one w E u) (by simpa using h1) (by simp;omega) (by simpa using hbytes) (by simpa using h63) fun b c w' h2 h3 h4=>?_
 simp only [List.length_cons,List.length_nil,Nat.zero_add] at h2 h3 h4 ⊢
 refine h b c w' h2 ⟨h3.os,h3.tape,h3.output,by have:=h3.size;simp at this;omega,fun k hk hne=>(h3.block k (by simp;omega) hne).trans (Below.heap_alloc w _ k hk)⟩ ?_
 rcases h4 with h4 | h4
 · exact .inl h4
 · exact .inr ⟨_,by simp,h4⟩
theorem pushFacts {wl:World} {bo mo co F:Nat} {n:Value} {ao:Option Addr} (hO:wl.heap[bo]?=some (.cells #[n,.slice ao mo co] F (0,0))) (x y:Int) :
 wl.cell? ⟨bo,1,none⟩=some (.slice ao mo co)∧(wl.alloc (.cells #[.int .i64 x,.int .i64 y] 3)).cell? ⟨bo,1,none⟩=some (.slice ao mo co) ∧
 ((wl.alloc (.cells #[.int .i64 x,.int .i64 y] 3)).alloc (.cells #[.slice (some ⟨wl.heap.size,0,none⟩) 2 2] 23)).cell? ⟨bo,1,none⟩=some (.slice ao mo co):=by
 have hBA:(wl.alloc (.cells #[.int .i64 x,.int .i64 y] 3)).heap[bo]?=some (.cells #[n,.slice ao mo co] F (0,0)):=(Below.heap_alloc _ _ _ (box_lt hO)).trans hO
 exact ⟨box_cell hO 1,box_cell hBA 1,box_cell ((Below.heap_alloc (wl.alloc (.cells #[.int .i64 x,.int .i64 y] 3)) (.cells #[.slice (some ⟨wl.heap.size,0,none⟩) 2 2] 23) bo (box_lt hBA)).trans hBA) 1⟩
theorem listPush {P:Program} {wl:World} {ops:Array Oper} {rest:List Oper} {o:Oper} {a:Act} {Q:Exit→Act→World→Prop} (hgd:o.guard=none) (s z:Operand) (t:TypeId)
 (ho:o.op=.call { callee:=.builtin .append,args:=#[s,z],argTypes:=#[t,t] }) {bytes:Nat} {zv:Value} (ht:ElemOk P t 23 bytes zv) {bo mo co F:Nat} {n:Value} {ao:Option Addr} {rows:List Value} {xss:List (List Int)} {x y:Int}
 (hs:a.eval s=.slice ao mo co) (hz:a.eval z=.slice (some ⟨wl.heap.size+1,0,none⟩) 1 1) (hb8:bytes≤1000000)
 (hO:wl.heap[bo]?=some (.cells #[n,.slice ao mo co] F (0,0))) (hF:F≠23) (hF2:F≠3) (hov:Own wl 23 (bo+1) (.slice ao mo co) rows) (hrp:RowsP wl (bo+1) rows xss) (hm:rows.length=mo) (hmo:mo≤20000)
 (h:∀ b6 c6 w6,(w6.cell? ⟨bo,1,none⟩=some (.slice ao mo co)∧w6.frozen? ⟨bo,1,none⟩=false∧(w6.setCell ⟨bo,1,none⟩ (.slice b6 (mo+1) c6)).heap[bo]?=some (.cells #[n,.slice b6 (mo+1) c6] F (0,0)) ∧
  OwnP (w6.setCell ⟨bo,1,none⟩ (.slice b6 (mo+1) c6)) (bo+1) (.slice b6 (mo+1) c6) (xss++[[x,y]])∧Below bo wl (w6.setCell ⟨bo,1,none⟩ (.slice b6 (mo+1) c6)))→wpList P ops Q rest (a.put o.dst (.slice b6 (mo+1) c6)) w6) :
 wpList P ops Q (o :: rest) a ((wl.alloc (.cells #[.int .i64 x,.int .i64 y] 3)).alloc (.cells #[.slice (some ⟨wl.heap.size,0,none⟩) 2 2] 23)):=by
 have hzb:bo+1≤wl.heap.size:=box_lt hO
 have hB:bytes * (mo+1)≤140737488355328:=Nat.le_trans (Nat.mul_le_mul hb8 (show mo+1≤20001 by omega)) (by omega)
 refine wpList_app1 (w:=wl.alloc (.cells #[.int .i64 x,.int .i64 y] 3)) hgd s z t ho ht hs (hov.alloc _) (by rw [hz];simp) (by rfl) (by simp;omega) (by rw [hm,Nat.mul_comm];exact hB) (by rw [hm];omega) ?_
 intro b6 c6 w6 ho6 hg6 hat6
 rw [hm] at ho6 ⊢
 obtain ⟨k6,kf6,hO7,o7,z7,b7⟩:=boxPush hO hF hF2 hov hrp ho6 hg6
 exact h b6 c6 w6 ⟨k6,kf6,hO7,o7,b7⟩
theorem i_own (n:Int) (v:Value) (xss:List (List Int)) (w:World) (h:Rd2 w v xss) (hl:xss.length≤100) (hr:∀ xs∈xss,xs.length≤2):Calls Tryz.prog 98 #[.agg #[.int .i64 n,v]] w (RetN1 n xss w):=by
 obtain ⟨a,c,rfl,hmc,hc9⟩:=h.form
 obtain ⟨m,hm⟩:∃ m,xss.length=m:=⟨_,rfl⟩
 have HM:=Lib.hid hm
 have HR:=Lib.hid hr
 rw [hm] at h hmc hl ⊢
 clear hm hr
 obtain ⟨wa,bx,hwa,hbx,hXa,hza,hba⟩:=newBox w (.cells #[.int .i64 n,.slice a m c] 30)
 obtain ⟨w0,B,hw0,hB,hA0,hz0,hb0⟩:=newBox wa (.cells #[.int .i64 0,.slice none 0 0] 30)
 obtain ⟨w1,bo,hw1,hbo,hO1,hz1,hb1⟩:=newBox w0 (.cells #[.int .i64 n,.slice none 0 0] 30)
 have hX0:w0.heap[bx]?=_:=(hb0.block bx hza).trans hXa
 have hX1:w1.heap[bx]?=_:=(hb1.block bx (box_lt hX0)).trans hX0
 have hA1:w1.heap[B]?=_:=(hb1.block B hz0).trans hA0
 have bt0:=hba.trans (hb0.mono hba.size)
 have bt1:=bt0.trans (hb1.mono bt0.size)
 have HWA:=Lib.hid hwa
 have HBX:=Lib.hid hbx
 have HW0:=Lib.hid hw0
 have HBB:Hid (w.heap.size+1=B):=by rw [Hid,←hB,←hwa];simp
 have HW1:=Lib.hid hw1
 have HBO:=Lib.hid hbo
 have hBo:B < bo:=by omega
 have hwo:w.heap.size≤bo:=by have:=bt0.size;omega
 have h1:=h.below bt1
 have q0:=box_cell hX0 0
 clear hwa hbx hw0 hB hw1 hbo hXa hza hba hb0 hA0 hz0 hX0 bt0 hb1
 go_enter Tryz.func98,Tryz.ntmps98
 go_upto_region 1 with (fail)
 rw [HWA.out,HW0.out,HBB.out,HBX.out]
 go_upto_region 2 with (fail)
 rw [HW1.out,HBO.out]
 have q1:=box_cell hX1 1
 clear q0
 go_wp2_with fail
 go_loopg [12] m (fun g iv wr=>∃ (q:Nat) (ao:Option Addr) (mo co:Nat),g=m - q∧q≤m∧iv=.int .i64 (q:Int)∧wr.heap[bo]?=some (.cells #[.int .i64 n,.slice ao mo co] 30 (0,0))∧OwnP wr (bo+1) (.slice ao mo co) (xss.take q)∧Below bo w1 wr)
 case atStart=>exact ⟨0,none,0,0,rfl,Nat.zero_le _,rfl,hO1,by rw [List.take_zero];exact OwnP.nil _ _,Below.refl _ _⟩
 case round =>
  clear hO1 q1
  obtain ⟨wl,rfl⟩:∃ wl:World,wl=wr:=⟨_,rfl⟩
  obtain ⟨q,ao,mo,co,hg,hq,rfl,hO,ho,hb⟩:=hrel
  have be:=bt1.trans (hb.mono hwo)
  obtain ⟨rows,hov,hrp,HLR,HMO⟩:=OwnP.rowsOf ho
  have hmo:mo≤100:=by have h1:=HMO.out;rw [List.length_take] at h1;omega
  clear ho
  by_cases hlt:q < m
  · have hqx:q < xss.length:=by have:=HM.out;omega
    obtain ⟨ad,b,mr,d,row,rfl,hcr,hrow,hmr,hmd,hd9,rr⟩:=(h.below be).row (k:=q) hqx
    have hrl:=HR.out row (List.mem_of_getElem? hrow.out)
    have HS:Hid (xss.take (q+1)=xss.take q++[row]):=take_snoc' hrow.out
    have HCL:=Lib.hid (fun (W:World) (hW:Below wl.heap.size wl W)=>f_Clone _ row W (rr.below hW) (by omega))
    have i1:(q:Int) < (m:Int):=by omega
    have cb:=box_cell hO 1
    have HK:Hid (∀ W:World,Below wl.heap.size wl W→W.cell? ⟨bo,1,none⟩=some (.slice ao mo co)):=fun W hW=>box_cell ((hW.block bo (box_lt hO)).trans hO) 1
    have hsz:bo+1≤wl.heap.size:=box_lt hO
    go_upto_region 5 with (fail)
    go_region_law (first
     | (go_simp;go_at_call 85;(with_reducible refine (HCL.out _ (by first | exact Below.refl _ _ | exact ⟨rfl,rfl,rfl,Nat.le_refl _,fun _ _=>rfl⟩)).mono ?_);rintro e w5 ⟨v5,rfl,o5,b5⟩;have g5:Below wl.heap.size wl w5:=⟨b5.os,b5.tape,b5.output,b5.size,b5.block⟩;have k5:=HK.out _ g5;obtain ⟨a5,m5,c5,rfl,_,_,_⟩:=o5.rd.formN;have k5b:=HK.out _ (g5.alloc g5.size (.cells #[.slice a5 m5 c5] 23)))
     | (refine step_app1 (w:=w5) (by rfl) _ _ _ (by rfl) elII (by rfl) (hov.below g5) (by show Value.slice (some ⟨w5.heap.size,0,none⟩) 1 1=_;simp) (by rfl) (Nat.le_trans hsz g5.size) (by rw [HLR.out];omega) (by rw [HLR.out];omega) ?_;intro b6 c6 w6 ho6 hg6 hat6;rw [HLR.out] at ho6;obtain ⟨k6,kf6,hO7,o7,z7,b7⟩:=boxPushR hO (by decide) (by decide) hov hrp g5 o5 ho6 hg6)
     | (refine step_app1nC (w:=w5) (by rfl) _ _ _ (by rfl) elII (by rfl) (hov.below g5) (by show Value.slice (some ⟨w5.heap.size,0,none⟩) 1 1=_;simp) (by rfl) (Nat.le_trans hsz g5.size) (by rw [HLR.out];omega) (by rw [HLR.out];omega) ?_;intro b6 c6 w6 ho6 hg6 hat6;rw [HLR.out] at ho6;obtain ⟨k6,kf6,hO7,o7,z7,b7⟩:=boxPushR hO (by decide) (by decide) hov hrp g5 o5 ho6 hg6))
    all_goals
     rw [show rows.length=mo from HLR.out]
     go_wp2_with fail
     go_roundg (m - (q+1))
     case measure=>omega
     case rel=>exact ⟨q+1,_,_,_,rfl,hlt,by go_num,hO7,by rw [HS.out];exact o7,hb.trans b7⟩
  · obtain rfl:q=m:=by omega
    have hAw:wl.heap[B]?=_:=(hb.block B hBo).trans hA1
    obtain ⟨c0,c1,f0,f1,r0,r1,oz,bz⟩:=netRes (n:=n) hAw ((show OwnP wl (bo+1) (.slice ao mo co) _ from ⟨rows,hov,hrp⟩).mono (by omega)) (by have:=HBB.out;omega) be
    rw [List.take_of_length_le (by have:=HM.out;omega)] at oz
    have p0:=box_cell hO 0
    have p1:=box_cell hO 1
    clear hov hrp hO hAw
    go_wp2_with fail
    exact bodyPost_ret (v:=.agg #[.int .i64 n,.slice ao mo co]) (by simp [results,Tryz.results98,go_sem,r0,r1]) rfl ⟨_,_,_,rfl,oz,bz⟩
theorem i_checked (n:Int) (hn:I64 n) (a:Option Addr) (m c:Nat) (xss:List (List Int)) (w:World) (h:Rd2 w (.slice a m c) xss) :
 Calls Tryz.prog 230 #[.agg #[.int .i64 n,.slice a m c]] w fun e w'=>(e=.returned (.tuple #[if netOk n xss then .agg #[.int .i64 n,.slice a m c] else .agg #[.int .i64 0,.slice none 0 0],.bool (netOk n xss)]))∧Below w.heap.size w w':=by
 have HNK:=Lib.hid (fun (W:World) (hW:Rd2 W (.slice a m c) xss)=>i_NetworkOk n _ xss W hW hn)
 obtain ⟨wa,bx,hwa,hbx,hXa,hza,hba⟩:=newBox w (.cells #[.int .i64 n,.slice a m c] 30)
 obtain ⟨w0,B,hw0,hB,hA0,hz0,hb0⟩:=newBox wa (.cells #[.int .i64 0,.slice none 0 0] 30)
 have hX0:w0.heap[bx]?=_:=(hb0.block bx hza).trans hXa
 have bt0:=hba.trans (hb0.mono hba.size)
 have HWA:=Lib.hid hwa
 have HBX:=Lib.hid hbx
 have HW0:=Lib.hid hw0
 have HBB:Hid (w.heap.size+1=B):=by rw [Hid,←hB,←hwa];simp
 have q0:=box_cell hX0 0
 have q1:=box_cell hX0 1
 have h0:=h.below bt0
 clear hwa hbx hw0 hB hXa hza hba hb0
 cases hk:netOk n xss
 · rw [hk] at HNK
   go_enter Tryz.func230,Tryz.ntmps230
   go_upto_region 1 with (fail)
   rw [HWA.out,HW0.out,HBB.out,HBX.out]
   go_upto_if 6 with (go_at_call 40;refine (HNK.out _ h0).mono ?_;rintro e w1 ⟨rfl,b1⟩)
   have hA1:w1.heap[B]?=_:=(b1.block B hz0).trans hA0
   obtain ⟨c0,c1,f0,f1,r0,r1,oz,bz⟩:=netRes (n:=0) hA1 (OwnP.nil _ _) (by have:=HBB.out;omega) (bt0.trans (b1.mono bt0.size))
   go_wp2_with fail
   exact bodyPost_ret (v:=.tuple #[.agg #[.int .i64 0,.slice none 0 0],.bool false]) (by simp [results,Tryz.results230,go_sem,r0,r1]) rfl ⟨rfl,bz⟩
 · rw [hk] at HNK
   go_enter Tryz.func230,Tryz.ntmps230
   go_upto_region 1 with (fail)
   rw [HWA.out,HW0.out,HBB.out,HBX.out]
   go_upto_if 6 with (go_at_call 40;refine (HNK.out _ h0).mono ?_;rintro e w1 ⟨rfl,b1⟩)
   have hA1:w1.heap[B]?=_:=(b1.block B hz0).trans hA0
   have hX1:w1.heap[bx]?=_:=(b1.block bx (box_lt hX0)).trans hX0
   have p0:=box_cell hX1 0
   have p1:=box_cell hX1 1
   obtain ⟨c0,c1,f0,f1,r0,r1,bz⟩:=boxSet (x:=.int .i64 n) (y:=.slice a m c) hA1 (by have:=HBB.out;omega) (bt0.trans (b1.mono bt0.size))
   go_wp2_with fail
   exact bodyPost_ret (v:=.tuple #[.agg #[.int .i64 n,.slice a m c],.bool true]) (by simp [results,Tryz.results230,go_sem,r0,r1]) rfl ⟨rfl,bz⟩
theorem i_CountUnsorted (N:Nat) (v:Value) (xss:List (List Int)) (w:World) (h:Rd2 w v xss) (hk:netOk (N:Int) xss=true):Calls Tryz.prog 287 #[.agg #[.int .i64 N,v]] w (RetB (.int .i64 ((unsN N xss (2 ^ N)).length:Nat)) w):=by
 obtain ⟨N',e,hN1,hN8,hL60⟩:=netOk_n hk
 obtain rfl:N=N':=by omega
 clear e
 obtain ⟨a,c,rfl,_,_⟩:=h.form
 generalize hm:xss.length=m at *
 obtain ⟨w0,bx,hw0,hbx,hX0,hz0,hb0⟩:=newBox w (.cells #[.int .i64 N,.slice a m c] 30)
 have HW0:=Lib.hid hw0
 have HBX:=Lib.hid hbx
 have HNK:=Lib.hid (hk ▸ i_NetworkOk (N:Int) _ xss w0 (h.below hb0) (by unfold I64;omega))
 have HUN:=Lib.hid (fun (W:World) (hW:Below w.heap.size w W)=>i_unsorted N _ xss W (h.below hW) hk)
 have q0:=box_cell hX0 0
 have q1:=box_cell hX0 1
 clear hw0 hbx hk h hm
 go_enter Tryz.func287,Tryz.ntmps287
 go_upto_region 1 with (fail)
 rw [HW0.out,HBX.out]
 go_wp2_with (first
  | (go_at_call 40;refine HNK.out.mono ?_;rintro e w1 ⟨rfl,b1⟩;have q2:=(b1.cell (World.block_lt_of_cell? _ _ q0)).trans q0;have q3:=(b1.cell (World.block_lt_of_cell? _ _ q1)).trans q1;have bt:=hb0.trans (b1.mono hb0.size))
  | (go_at_call 117;refine (HUN.out _ bt).mono ?_;rintro e w2 ⟨v2,rfl,o2,b2⟩;obtain ⟨a2,m2,c2,rfl,HM2,_,_⟩:=o2.rd.formN))
 go_ret
 exact ⟨by show Ending.returned (.int .i64 (m2:Int))=_;rw [HM2.out],bt.trans (b2.mono bt.size)⟩
def sortsB (N:Nat) (xss:List (List Int)):Bool:=decide ((unsN N xss (2 ^ N)).length=0)
theorem i_IsSorting (N:Nat) (v:Value) (xss:List (List Int)) (w:World) (h:Rd2 w v xss) (hk:netOk (N:Int) xss=true):Calls Tryz.prog 245 #[.agg #[.int .i64 N,v]] w (RetB (.bool (sortsB N xss)) w):=by
 obtain ⟨a,c,rfl,_,_⟩:=h.form
 generalize hm:xss.length=m at *
 obtain ⟨w0,bx,hw0,hbx,hX0,hz0,hb0⟩:=newBox w (.cells #[.int .i64 N,.slice a m c] 30)
 have HW0:=Lib.hid hw0
 have HBX:=Lib.hid hbx
 have HC:=Lib.hid (i_CountUnsorted N _ xss w0 (h.below hb0) hk)
 have q0:=box_cell hX0 0
 have q1:=box_cell hX0 1
 obtain ⟨r,hr⟩:∃ r,(unsN N xss (2 ^ N)).length=r:=⟨_,rfl⟩
 have HR:Hid (sortsB N xss=decide (r=0)):=by rw [Hid,sortsB,hr]
 rw [hr] at HC
 clear hw0 hbx hk h hm hr
 have hd:((r:Int) == 0)=decide (r=0):=by
  by_cases e:r=0
  · subst e;rfl
  · rw [decide_eq_false e,beq_eq_false_iff_ne];omega
 go_enter Tryz.func245,Tryz.ntmps245
 go_upto_region 1 with (fail)
 rw [HW0.out,HBX.out]
 go_wp2_with (go_at_call 287;refine HC.out.mono ?_;rintro e w1 ⟨rfl,b1⟩)
 go_ret
 exact ⟨by show Ending.returned (.bool (decide (r=0)))=_;rw [HR.out],hb0.trans (b1.mono hb0.size)⟩
def ctw (l:List Int) (a b:Nat):List Int:=(l.set a ((l.getD a 0+l.getD b 0+1) / 2)).set b ((l.getD a 0+l.getD b 0) / 2)
def ctM (xss:List (List Int)) (xs:List Int):Nat→List Int
 | 0=>xs
 | k+1=>match xss[k]? with
   | some [a,b]=>ctw (ctM xss xs k) a.toNat b.toNat
   | _=>ctM xss xs k
theorem ctM_length (xss:List (List Int)) (xs:List Int):∀ k,(ctM xss xs k).length=xs.length
 | 0=>rfl
 | k+1=>by
   have ih:=ctM_length xss xs k
   simp only [ctM]
   split
   · simp [ctw,ih]
   · exact ih
theorem ctM_succ {xss:List (List Int)} {xs:List Int} {k a b:Nat} {x y:Int} (h:xss[k]?=some [(a:Int),(b:Int)]) (hx:(ctM xss xs k)[a]?=some x) (hy:(ctM xss xs k)[b]?=some y) :
 ctM xss xs (k+1)=((ctM xss xs k).set a ((x+y+1) / 2)).set b ((x+y) / 2):=by
 simp only [ctM,h,Int.toNat_natCast,ctw,List.getD_eq_getElem?_getD,hx,hy,Option.getD_some]
theorem ctM_bd (xss:List (List Int)) {xs:List Int} (h:∀ y∈xs,0≤y∧y≤1000):∀ k,∀ y∈ctM xss xs k,0≤y∧y≤1000
 | 0=>h
 | k+1=>fun y hy=>by
   have ih:=ctM_bd xss h k
   have g:∀ a,0≤(ctM xss xs k).getD a 0∧(ctM xss xs k).getD a 0≤1000:=fun a=>by
    rw [List.getD_eq_getElem?_getD]
    cases e:(ctM xss xs k)[a]? with
    | none=>simp
    | some z=>exact ih z (List.mem_of_getElem? e)
   simp only [ctM] at hy
   split at hy
   · rename_i a b _
     have h1:=g a.toNat
     have h2:=g b.toNat
     rcases List.mem_or_eq_of_mem_set hy with hy | rfl
     · rcases List.mem_or_eq_of_mem_set hy with hy | rfl
       · exact ih y hy
       · omega
     · omega
   · exact ih y hy
def tokB (N:Nat) (ts:List Int):Bool:=decide (ts.length=N) && ts.all fun t=>decide (0≤t) && decide (t≤1000)
theorem i_count (N:Nat) (n:Int) (v u:Value) (xss:List (List Int)) (xs:List Int) (w:World) (h:Rd2 w v xss) (hu:Rd w u (ints xs)) (hN:xs.length=N) (hl:N≤2000000) (hbd:∀ y∈xs,0≤y∧y≤1000) (HW:Hid (Pairs N xss)) :
 Calls Tryz.prog 286 #[.agg #[.int .i64 n,v],u] w (RetOwn 3 (ints (ctM xss xs xss.length)) w):=by
 obtain ⟨a0,c0,rfl,_,_⟩:=h.form
 obtain ⟨au,cu,rfl,hu2,hu3⟩:=hu.formi
 have HBD:=Lib.hid (fun k=>ctM_bd xss hbd k)
 have HLn:=Lib.hid hN
 clear hN hbd
 have hlx:xs.length≤2000000:=by have:=HLn.out;omega
 have hbA:Below w.heap.size w (w.alloc (.cells #[.int .i64 n,.slice a0 xss.length c0] 30)):=(Below.refl _ _).alloc (Nat.le_refl _) _
 have hu':=hu.alloc (.cells #[.int .i64 n,.slice a0 xss.length c0] 30)
 have bx:=Lib.hid (box_cells w (.int .i64 n) (.slice a0 xss.length c0) 30)
 go_enter Tryz.func286,Tryz.ntmps286
 go_wp2_with (go_at_call 85;refine (f_Clone _ xs _ hu' hlx).mono ?_;rintro e w2 ⟨vo,rfl,ho2,hb2⟩;obtain ⟨b,cc,rfl,_,_⟩:=ho2.rd.formi;have c1:w2.cell? ⟨w.heap.size,1,none⟩=some (.slice a0 xss.length c0):=(hb2.cell (by simp)).trans bx.out.2)
 have hz2:w.heap.size+1≤w2.heap.size:=by have:=hb2.size;simp at this;omega
 replace hb2:=hbA.trans (hb2.mono hbA.size)
 have e0:ints xs=ints (ctM xss xs 0):=rfl
 replace ho2:=ho2.mono (B':=w.heap.size) (by simp)
 rw [e0] at ho2
 clear hu' e0 bx hz2 c1
 go_loopw [14] (fun i wr=>∃ k:Nat,k≤xss.length∧i=.int .i64 k∧Own wr 3 w.heap.size (.slice b xs.length cc) (ints (ctM xss xs k))∧Below w.heap.size w wr)
  (fun i _=>xss.length - (intOf i).toNat)
 case atStart=>exact ⟨0,Nat.zero_le _,rfl,ho2,hb2⟩
 case round =>
  clear ho2 hb2
  obtain ⟨k,hkl,rfl,ho,hb⟩:=hrel
  by_cases hlt:k < xss.length
  · obtain ⟨ad,bx,m,d,row,rfl,hc0,hx,hm,hmd,hd,hr⟩:=h.row hlt
    obtain ⟨x,y,rfl,hxN,hyN,hxy⟩:=HW.out k row hx.out
    obtain rfl:m=2:=hm.out
    obtain ⟨z,x',rfl,hcx,hxx⟩:=hr.int (k:=0) (by simp)
    obtain ⟨z',y',hz,hcy,hyy⟩:=hr.int (k:=1) (by simp)
    obtain rfl:z=z':=by injection hz
    clear hz
    have e1:=hxx.out
    have e2:=hyy.out
    simp only [List.getElem?_cons_zero,List.getElem?_cons_succ,Option.some.injEq] at e1 e2
    subst e1 e2
    rw [add_succ] at hcy
    have hcx':w.cell? z=some (.int .i64 x):=by simpa [Addr.add] using hcx
    clear hcx
    have HSS:Hid (∀ wx:World,Below w.heap.size w wx→wx.cell? (ad.add k)=some (.slice (some z) 2 d)∧wx.cell? z=some (.int .i64 x)∧wx.cell? ⟨z.block,z.off+(0+1),none⟩=some (.int .i64 y)):=by
     intro wx hbx
     exact ⟨(hbx.cell (World.block_lt_of_cell? w _ hc0)).trans hc0,(hbx.cell (World.block_lt_of_cell? w _ hcx')).trans hcx',(hbx.cell (World.block_lt_of_cell? w _ hcy)).trans hcy⟩
    clear hc0 hcx' hcy
    obtain ⟨q1,q2,q3⟩:=HSS.out _ hb
    have HLk:Hid ((ctM xss xs k).length=N):=by rw [Hid,ctM_length];exact HLn.out
    have HA:=Lib.hid (fun (p q:Int)=>ctM_succ (xs:=xs) (x:=p) (y:=q) hx.out)
    have HB:=HBD.out k
    obtain ⟨l,hl0⟩:∃ l,ctM xss xs k=l:=⟨_,rfl⟩
    rw [hl0] at ho HLk HA HB
    clear hl0
    obtain ⟨bo,p0,rfl,hcp,hp⟩:=ho.rd.int (k:=x) (by rw [HLk.out];omega)
    obtain ⟨bo',q0,hbo,hcq,hq⟩:=ho.rd.int (k:=y) (by rw [HLk.out];omega)
    obtain rfl:bo=bo':=by injection hbo
    clear hbo
    obtain ⟨p,rfl⟩:=Int.eq_ofNat_of_zero_le (HB _ (List.mem_of_getElem? hp.out)).1
    obtain ⟨q,rfl⟩:=Int.eq_ofNat_of_zero_le (HB _ (List.mem_of_getElem? hq.out)).1
    have hp9:=(HB _ (List.mem_of_getElem? hp.out)).2
    have hq9:=(HB _ (List.mem_of_getElem? hq.out)).2
    have HS:=Lib.hid (HA.out p q hp.out hq.out)
    clear HA HB
    have hx1:x < l.length:=by rw [HLk.out];omega
    have hy1:y < l.length:=by rw [HLk.out];omega
    have i2:(x:Int) < (xs.length:Int):=by have:=HLn.out;omega
    have i4:(y:Int) < (xs.length:Int):=by have:=HLn.out;omega
    obtain ⟨S1,hS1⟩:∃ S1:Int,((p:Int)+(q:Int)+1) / 2=S1:=⟨_,rfl⟩
    obtain ⟨S2,hS2⟩:∃ S2:Int,((p:Int)+(q:Int)) / 2=S2:=⟨_,rfl⟩
    rw [hS1,hS2] at HS
    have u1:IntKind.i64.wrap ((p:Int)+(q:Int))=(p:Int)+(q:Int):=IntWalk.i64_in _ (by omega)
    have k1:IntKind.i64.wrap ((IntKind.i64.wrap ((p:Int)+(q:Int)+1)).tdiv 2)=S1:=by
     have g1:IntKind.i64.wrap ((p:Int)+(q:Int)+1)=(p:Int)+(q:Int)+1:=IntWalk.i64_in _ (by omega)
     rw [g1,Int.tdiv_eq_ediv_of_nonneg (by omega),hS1]
     exact IntWalk.i64_in _ (by omega)
    have k2:IntKind.i64.wrap (((p:Int)+(q:Int)).tdiv 2)=S2:=by
     rw [Int.tdiv_eq_ediv_of_nonneg (by omega),hS2]
     exact IntWalk.i64_in _ (by omega)
    clear hS1 hS2 u1
    go_wp2
    go_quiet (fail)
    clear q1 q2 q3 hcp hcq
    rename_i nq
    have hb1:Below w.heap.size w (wr.drewN nq):=hb.trans (Dr.below ((Dr.refl _).step _) _)
    obtain ⟨wv,hwv⟩:∃ wv,wr.drewN nq=wv:=⟨_,rfl⟩
    have ho1:=ho.drewN nq
    rw [hwv] at hb1 ho1 ⊢
    clear hwv ho hb
    obtain ⟨q1,q2,q3⟩:=HSS.out _ hb1
    have fz1:=ho1.frozen rfl x
    have fz0:=ho1.frozen rfl y
    have hta:=ho1.rd.cell_int' hp.out
    have htb:=ho1.rd.cell_int' hq.out
    have ht2:=(ho1.seti rfl hx1 S1).1
    have hb2:=ho1.below_set rfl hx1 (.int .i64 S1) hb1 (Nat.le_refl _)
    obtain ⟨r1,r2,r3⟩:=HSS.out _ hb2
    have fz3:=ht2.frozen rfl y
    have hy2:y < (l.set x S1).length:=by rw [List.length_set];exact hy1
    have htb2:=ht2.rd.cell_int' (show (l.set x S1)[y]?=some (q:Int) by rw [List.getElem?_set_ne (by omega)];exact hq.out)
    have ht3:=(ht2.seti rfl hy2 S2).1
    have hb3:=ht2.below_set rfl hy2 (.int .i64 S2) hb2 (Nat.le_refl _)
    obtain ⟨s1,s2,s3⟩:=HSS.out _ hb3
    go_wp2
    go_region_held3 (fun wx=>wx.cell? z=some (.int .i64 x)∧wx.cell? ⟨z.block,z.off+(0+1),none⟩=some (.int .i64 y)∧wx.frozen? (bo.add x)=false∧wx.frozen? (bo.add y)=false)
     (first | go_keep | (refine ⟨r2,r3,?_,?_⟩ <;> go_keep) | (refine ⟨s2,s3,?_,?_⟩ <;> go_keep))
     (fail)
    all_goals
     go_wp2
     go_roundw
     case rel=>exact ⟨k+1,by omega,by go_num,by rw [HS.out];exact ht3,⟨hb3.os,hb3.tape,hb3.output,hb3.size,hb3.block⟩⟩
     case measure=>simp [intOf];omega
  · obtain rfl:xss.length=k:=by omega
    go_wp2
    go_ret
    exact ⟨_,rfl,ho,hb⟩
theorem tokB_iff {N:Nat} {ts:List Int} : tokB N ts=true↔ts.length=N∧∀ y∈ts,0≤y∧y≤1000:=by simp [tokB]
theorem tokB_len {N:Nat} {ts:List Int} (h:ts.length≠N):tokB N ts=false:=by simp [tokB,h]
theorem tokB_no {N:Nat} {ts:List Int} {k:Nat} {x:Int} (hx:ts[k]?=some x) (h:¬ (0≤x∧x≤1000)):tokB N ts=false:=by
 cases e:tokB N ts with
 | false=>rfl
 | true=>exact absurd ((tokB_iff.1 e).2 x (List.mem_of_getElem? hx)) h
theorem i_TokensOk (N:Nat) (v u:Value) (xss:List (List Int)) (ts:List Int) (w:World) (h:Rd2 w v xss) (hu:Rd w u (ints ts)) (hk:netOk (N:Int) xss=true) :
 Calls Tryz.prog 285 #[.agg #[.int .i64 N,v],u] w (RetB (.bool (tokB N ts)) w):=by
 obtain ⟨N',e,hN1,hN8,hL60⟩:=netOk_n hk
 obtain rfl:N=N':=by omega
 clear e
 obtain ⟨a,m,c,rfl,HM,_,_⟩:∃ (a:Option Addr) (m c:Nat),v=.slice a m c∧Hid (m=xss.length)∧m≤c∧c≤9223372036854775807:=by
  obtain ⟨a,c,h1,h2,h3⟩:=h.form
  exact ⟨a,_,c,h1,rfl,h2,h3⟩
 obtain ⟨au,n,cu,rfl,HN,hnc,hc9⟩:=hu.formN
 obtain ⟨w0,bx,hw0,hbx,hX0,hz0,hb0⟩:=newBox w (.cells #[.int .i64 N,.slice a m c] 30)
 have HW0:=Lib.hid hw0
 have HBX:=Lib.hid hbx
 have HNK:=Lib.hid (hk ▸ i_NetworkOk (N:Int) _ xss w0 (h.below hb0) (by unfold I64;omega))
 have q0:=box_cell hX0 0
 have q1:=box_cell hX0 1
 clear hw0 hbx hk h
 go_enter Tryz.func285,Tryz.ntmps285
 go_upto_region 1 with (fail)
 rw [HW0.out,HBX.out]
 by_cases hl:n=N
 case neg =>
  have d1:((n:Int) != (N:Int))=true:=by simp;omega
  have HR:Hid (tokB N ts=false):=tokB_len (by have:=HN.out;omega)
  go_wp2_with (go_at_call 40;refine HNK.out.mono ?_;rintro e w1 ⟨rfl,b1⟩;have q2:=(b1.cell (World.block_lt_of_cell? _ _ q0)).trans q0)
  go_ret
  exact ⟨ret_bool HR.out.symm,hb0.trans (b1.mono hb0.size)⟩
 case pos =>
  have d1:((n:Int) != (N:Int))=false:=by simp;omega
  go_wp2_with (go_at_call 40;refine HNK.out.mono ?_;rintro e w1 ⟨rfl,b1⟩;have q2:=(b1.cell (World.block_lt_of_cell? _ _ q0)).trans q0)
  have bt:=hb0.trans (b1.mono hb0.size)
  clear q0 q1 q2 b1 d1
  go_loopg [19] n (fun g iv wr=>∃ k:Nat,g=n - k∧k≤n∧iv=.int .i64 (k:Int)∧Hid (∀ (j:Nat) y,j < k→ts[j]?=some y→0≤y∧y≤1000)∧w1=wr)
  case atStart=>exact ⟨0,rfl,Nat.zero_le _,rfl,fun j y hj=>by omega,rfl⟩
  case round =>
   obtain ⟨k,hg,hkn,rfl,HK,rfl⟩:=hrel
   by_cases hlt:k < n
   · obtain ⟨ad,x,rfl,hcx,hx⟩:=(hu.below bt).int (k:=k) (by have:=HN.out;omega)
     have i1:(k:Int) < (n:Int):=by omega
     by_cases h1:x < 0
     · have HR:Hid (tokB N ts=false):=tokB_no hx.out (by omega)
       go_wp2_with fail
       go_ret
       exact ⟨ret_bool HR.out.symm,bt⟩
     · by_cases h2:x > 1000
       · have HR:Hid (tokB N ts=false):=tokB_no hx.out (by omega)
         have d2:decide (x > 1000)=true:=by simpa using h2
         go_wp2_with fail
         go_ret
         exact ⟨ret_bool HR.out.symm,bt⟩
       · have d2:decide (x > 1000)=false:=by simpa using h2
         have HK2:Hid (∀ (j:Nat) y,j < k+1→ts[j]?=some y→0≤y∧y≤1000):=fun j y hj hy=>by
          by_cases e:j=k
          · subst e
            have:=hx.out
            rw [hy] at this
            cases this
            omega
          · exact HK.out j y (by omega) hy
         go_wp2_with fail
         go_roundg (n - (k+1))
         case measure=>omega
         case rel=>exact ⟨k+1,rfl,hlt,by go_num,HK2,rfl⟩
   · obtain rfl:k=n:=by omega
     have HR:Hid (tokB N ts=true):=tokB_iff.2 ⟨by have:=HN.out;omega,fun y hy=>by
      obtain ⟨j,hj,e⟩:=List.getElem_of_mem hy
      exact HK.out j y (by have:=HN.out;omega) (by rw [List.getElem?_eq_getElem hj,e])⟩
     go_wp2_with fail
     go_ret
     exact ⟨ret_bool HR.out.symm,bt⟩
def ctOk (N:Nat) (xss:List (List Int)) (ts:List Int):List Int:=if tokB N ts then ctM xss ts xss.length else []
theorem netOk_pairs {N:Nat} {xss:List (List Int)} (hk:netOk (N:Int) xss=true):Pairs N xss:=fun k xs hx=>netOk_row hk hx
theorem i_CountTokens (N:Nat) (v u:Value) (xss:List (List Int)) (ts:List Int) (w:World) (h:Rd2 w v xss) (hu:Rd w u (ints ts)) (hk:netOk (N:Int) xss=true) :
 Calls Tryz.prog 239 #[.agg #[.int .i64 N,v],u] w (RetOwnB 3 (ints (ctOk N xss ts)) (tokB N ts) w):=by
 obtain ⟨N',e,hN1,hN8,hL60⟩:=netOk_n hk
 obtain rfl:N=N':=by omega
 clear e
 obtain ⟨a,m,c,rfl,HM,_,_⟩:∃ (a:Option Addr) (m c:Nat),v=.slice a m c∧Hid (m=xss.length)∧m≤c∧c≤9223372036854775807:=by
  obtain ⟨a,c,h1,h2,h3⟩:=h.form
  exact ⟨a,_,c,h1,rfl,h2,h3⟩
 obtain ⟨au,n,cu,rfl,HN,hnc,hc9⟩:=hu.formN
 obtain ⟨w0,bx,hw0,hbx,hX0,hz0,hb0⟩:=newBox w (.cells #[.int .i64 N,.slice a m c] 30)
 have HW0:=Lib.hid hw0
 have HBX:=Lib.hid hbx
 have HT:=Lib.hid (i_TokensOk N _ _ xss ts w0 (h.below hb0) (hu.below hb0) hk)
 have q0:=box_cell hX0 0
 have q1:=box_cell hX0 1
 cases ht:tokB N ts
 · rw [ht] at HT
   have HR:Hid (ctOk N xss ts=[]):=by rw [Hid,ctOk,ht];rfl
   clear ht hw0 hbx hk h
   go_enter Tryz.func239,Tryz.ntmps239
   go_upto_region 1 with (fail)
   rw [HW0.out,HBX.out]
   go_wp2_with (go_at_call 285;refine HT.out.mono ?_;rintro e w1 ⟨rfl,b1⟩)
   go_ret2
   exact ⟨_,rfl,by rw [HR.out];exact Own.nil _ _ _,hb0.trans (b1.mono hb0.size)⟩
 · rw [ht] at HT
   have HR:Hid (ctOk N xss ts=ctM xss ts xss.length):=by rw [Hid,ctOk,ht];rfl
   obtain ⟨hl,hbd⟩:=tokB_iff.1 ht
   have HC:=Lib.hid (fun (W:World) (hW:Below w.heap.size w W)=>i_count N (N:Int) _ _ xss ts W (h.below hW) (hu.below hW) hl (by omega) hbd (netOk_pairs hk))
   clear ht hw0 hbx hk h hl hbd
   go_enter Tryz.func239,Tryz.ntmps239
   go_upto_region 1 with (fail)
   rw [HW0.out,HBX.out]
   go_wp2_with (first
    | (go_at_call 285;refine HT.out.mono ?_;rintro e w1 ⟨rfl,b1⟩;have q2:=(b1.cell (World.block_lt_of_cell? _ _ q0)).trans q0;have q3:=(b1.cell (World.block_lt_of_cell? _ _ q1)).trans q1;have bt:=hb0.trans (b1.mono hb0.size))
    | (go_at_call 286;refine (HC.out _ bt).mono ?_;rintro e w2 ⟨v2,rfl,o2,b2⟩))
   go_ret2
   exact ⟨_,rfl,by rw [HR.out];exact o2.mono bt.size,bt.trans (b2.mono bt.size)⟩
def RetOwnT2 (xs:List Int) (w:World) (e:Ending) (w':World):Prop :=
 ∃ v,e=.returned (.tuple #[v,.bool true])∧Own w' 3 w.heap.size v (ints xs)∧Below w.heap.size w w'
theorem i_ApplyOk2 (N:Nat) (v u:Value) (xss:List (List Int)) (xs:List Int) (w:World) (h:Rd2 w v xss) (hu:Rd w u (ints xs)) (hk:netOk (N:Int) xss=true) (hx:xs.length=N) :
 Calls Tryz.prog 238 #[.agg #[.int .i64 N,v],u] w (RetOwnT2 (apM xss xs xss.length) w):=by
 obtain ⟨N',hN',h1,h8,_⟩:=netOk_n hk
 obtain ⟨a0,c0,rfl,_,_⟩:=h.form
 obtain ⟨au,mu,cu,rfl,HU,_,_⟩:=hu.formN
 obtain rfl:mu=N:=by have:=HU.out;omega
 have hbA:Below w.heap.size w (w.alloc (.cells #[.int .i64 mu,.slice a0 xss.length c0] 30)):=(Below.refl _ _).alloc (Nat.le_refl _) _
 have bx:=Lib.hid (box_cells w (.int .i64 mu) (.slice a0 xss.length c0) 30)
 have HOK:=Lib.hid (i_NetworkOk (mu:Int) _ xss _ (h.below hbA) ⟨by omega,by omega⟩)
 rw [hk] at HOK
 have HA:=Lib.hid (fun (W:World) (hW:Below w.heap.size w W)=>i_apply mu (mu:Int) _ _ xss xs W (h.below hW) (hu.below hW) hx (by omega) (Lib.hid (fun k xs=>netOk_row hk)))
 have e1:((mu:Int) != (mu:Int))=false:=by simp
 clear hk hx hN'
 go_enter Tryz.func238,Tryz.ntmps238
 go_wp2_with (first
  | (go_at_call 40;refine HOK.out.mono ?_;rintro e w2 ⟨rfl,hb2⟩
     have hb3:=hbA.trans (hb2.mono hbA.size)
     have c0':=(hb2.cell (p:=⟨w.heap.size,0,none⟩) (by simp)).trans bx.out.1
     have c1':=(hb2.cell (p:=⟨w.heap.size,1,none⟩) (by simp)).trans bx.out.2)
  | (go_at_call 284;refine (HA.out _ hb3).mono ?_;rintro e w4 ⟨vo,rfl,ho4,hb4⟩))
 go_ret2
 exact ⟨_,rfl,ho4.mono hb3.size,hb3.trans (hb4.mono hb3.size)⟩
end Go.Proofs.YtggblfnajeikjaaGreatDoor
