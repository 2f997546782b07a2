/- Joined texts of the proof: RegT, ConS. -/
import Derived.StillTail
import Derived.Test.YtggblfnajeikjaaGreatDoorJ30
namespace Go.Proofs.YtggblfnajeikjaaGreatDoor
open Go.RowKit
set_option linter.unusedVariables false
set_option linter.unusedSimpArgs false
set_option maxRecDepth 100000
set_option maxHeartbeats 16000000
section
variable {P:Program} {Q:Exit→Act→World→Prop} {l:List Oper} {n:Nat}
def TailQ (P:Program) (ops:Array Oper) (r:List Oper) (Q:Exit→Act→World→Prop):Exit→Act→World→Prop
 | .normal,a,w=>wpList P ops Q r a w
 | .panic _,_,_=>False
 | e,a,w=>Q e a w
def tailB (l:List Oper) (n:Nat):Bool :=
 decide (n≤l.length) &&
 ((List.range l.length).all fun k=>match l[k]? with
   | none=>true
   | some o=>if k < n then o.guard == none && o.after.all (fun e=>decide (e.on < k)) else (List.range n).all fun j=>o.after.any fun e=>Region.binds .any e && e.on == j) &&
 Region.seqB .any l.toArray (l.length - n) n (Array.replicate n true++Array.replicate (l.length - n) false)
theorem Oper.wp_post {o:Oper} {a:Act} {w:World} {K:Act→World→Prop} {ops:Array Oper} {r:List Oper} (h:o.wp P a w K (TailQ P ops r Q)):o.wp P a w K Q:=by
 unfold Oper.wp at *
 generalize (execOp a.eval o).run P w=x at *
 cases x with
 | ok n w' =>
   cases n <;> simp only [Oper.upon] at h ⊢ <;> first
    | exact h
    | exact Calls.mono h (fun e w'' he=>by cases e <;> first | exact he | exact (he:False).elim)
 | halt x w'=>cases x <;> simp only [Oper.upon] at h ⊢ <;> first | exact h | exact (h:False).elim
theorem wpOp_part {i:Nat} {o:Oper} {K K':Act→World→Prop} {a:Act} {w:World} {pre ops:Array Oper} {r:List Oper} (h1:pre[i]?=some o) (h2:ops[i]?=some o) (hg:o.guard=none) (hK:∀ a w,K a w→K' a w)
 (h:wpOp P pre (TailQ P ops r Q) i K a w):wpOp P ops Q i K' a w:=by
 have hw:∀ f,Region.wanted o f=true:=fun f=>by unfold Region.wanted;rw [hg]
 unfold wpOp at *
 simp only [h1,h2,hw,if_true] at h ⊢
 rcases h with h | ⟨h,hl⟩
 · exact .inl (Oper.wp_post (Oper.wp_mono hK h))
 · exact .inr ⟨h,hl⟩
theorem wpAny_more {md:Region.Mode} {ops:Array Oper} : ∀ (f:Nat) (listed:Array Bool) (a:Act) (w:World),wpAny P md ops Q f listed a w→wpAny P md ops Q (f+1) listed a w
 | 0,listed,a,w,h=>⟨fun _=>h.2,fun i hi=>by rw [h.1] at hi;cases hi⟩
 | f+1,listed,a,w,h=>⟨h.1,fun i hi=>wpOp_mono (fun a' w' h'=>wpAny_more f _ a' w' h') (h.2 i hi)⟩
theorem wpAny_moreN {md:Region.Mode} {ops:Array Oper} (d f:Nat) (listed:Array Bool) (a:Act) (w:World) (h:wpAny P md ops Q f listed a w):wpAny P md ops Q (f+d) listed a w:=by
 induction d with
 | zero=>exact h
 | succ d ih=>exact wpAny_more _ _ _ _ ih
theorem getD_app (x:Array Bool) (m j:Nat) (d:Bool) (h:j < x.size):(x++Array.replicate m false).getD j d=x.getD j d:=by
 simp [Array.getD_eq_getD_getElem?,Array.getElem?_append,h]
theorem set_app (x:Array Bool) (m j:Nat) (h:j < x.size):(x++Array.replicate m false).setIfInBounds j true=x.setIfInBounds j true++Array.replicate m false:=by
 rw [Array.setIfInBounds_append_left h]
theorem tail_facts (hB:tailB l n=true):n≤l.length∧(∀ k o,l[k]?=some o→k < n→o.guard=none∧∀ e∈o.after,e.on < k) ∧
 (∀ k o,l[k]?=some o→n≤k→∀ j,j < n→∃ e∈o.after,Region.binds .any e=true∧e.on=j)∧Region.seqB .any l.toArray (l.length - n) n (Array.replicate n true++Array.replicate (l.length - n) false)=true:=by
 simp only [tailB,Bool.and_eq_true,decide_eq_true_eq,List.all_eq_true,List.mem_range] at hB
 obtain ⟨⟨h1,h2⟩,h3⟩:=hB
 refine ⟨h1,fun k o hk hn=>?_,fun k o hk hn j hj=>?_,h3⟩
 · have:=h2 k (List.getElem?_eq_some_iff.1 hk).1
   rw [hk] at this
   simp only [hn,if_true,Bool.and_eq_true,beq_iff_eq] at this
   refine ⟨this.1,fun e he=>?_⟩
   have h4:=Array.all_eq_true_iff_forall_mem.1 this.2 e he
   exact of_decide_eq_true h4
 · have:=h2 k (List.getElem?_eq_some_iff.1 hk).1
   rw [hk] at this
   simp only [show ¬ k < n by omega,if_false,List.all_eq_true,List.mem_range] at this
   obtain ⟨e,he,h4⟩:=Array.any_eq_true'.1 (this j hj)
   simp only [Bool.and_eq_true,beq_iff_eq] at h4
   exact ⟨e,he,h4.1,h4.2⟩
theorem all_listed (hB:tailB l n=true) {listed:Array Bool} (hs:listed.size=n) (hr:Region.ready .any (l.take n).toArray listed=[]):listed=Array.replicate n true:=by
 obtain ⟨hn,hp,_,_⟩:=tail_facts hB
 have : ∀ k,k < n→listed.getD k false=true:=by
  intro k
  induction k using Nat.strongRecOn with
  | _ k ih =>
    intro hk
    cases hv:listed.getD k false with
    | true=>rfl
    | false =>
      have ho:l[k]?=some (l[k]'(by omega)):=List.getElem?_eq_getElem (by omega)
      have hm:k∈Region.ready .any (l.take n).toArray listed:=by
       refine mem_ready.2 ⟨?_,_,by rw [List.getElem?_toArray,List.getElem?_take_of_lt hk,ho],fun e he _=>ih e.on ((hp k _ ho hk).2 e he) (by have:=(hp k _ ho hk).2 e he;omega)⟩
       simp only [Array.getD_eq_getD_getElem?,Array.getElem?_eq_getElem (show k < listed.size by omega),Option.getD_some] at hv ⊢
       exact hv
      rw [hr] at hm
      cases hm
 apply Array.ext
 · simp [hs]
 · intro i h1 h2
   have:=this i (by omega)
   simp only [Array.getD_eq_getD_getElem?,Array.getElem?_eq_getElem h1,Option.getD_some] at this
   simp [this]
theorem wpAny_part (hB:tailB l n=true):∀ (f:Nat) (listed:Array Bool) (a:Act) (w:World),listed.size=n→wpAny P .any (l.take n).toArray (TailQ P l.toArray (l.drop n) Q) f listed a w →
 wpAny P .any l.toArray Q (f+(l.length - n)) (listed++Array.replicate (l.length - n) false) a w:=by
 obtain ⟨hn,hp,ht,hseq⟩:=tail_facts hB
 have hend:∀ (f:Nat) (listed:Array Bool) (a:Act) (w:World),listed.size=n→Region.ready .any (l.take n).toArray listed=[]→wpList P l.toArray Q (l.drop n) a w →
  wpAny P .any l.toArray Q (f+(l.length - n)) (listed++Array.replicate (l.length - n) false) a w:=fun f listed a w hs hr h=>by
  have e:=all_listed hB hs hr
  have h2:=wpAny_of_seq (md:=.any) (ops:=l.toArray) (Q':=Q) (P:=P) (l.drop n) n (listed++Array.replicate (l.length - n) false) a w (fun j=>by simp [List.getElem?_drop]) (by rw [e,List.length_drop];exact hseq) h
  rw [List.length_drop] at h2
  rw [Nat.add_comm]
  exact wpAny_moreN _ _ _ _ _ h2
 intro f
 induction f with
 | zero=>intro listed a w hs h;exact hend 0 listed a w hs h.1 h.2
 | succ f ih =>
   intro listed a w hs h
   by_cases hr:Region.ready .any (l.take n).toArray listed=[]
   · exact hend (f+1) listed a w hs hr (h.1 hr)
   · obtain ⟨i0,hi0⟩:=List.exists_mem_of_ne_nil _ hr
     obtain ⟨hu0,o0,ho0,_⟩:=mem_ready.1 hi0
     have hin:i0 < n:=by
      have:=(List.getElem?_eq_some_iff.1 (by simpa using ho0)).1
      rw [List.length_take] at this
      omega
     have hlow:∀ j,j∈Region.ready .any l.toArray (listed++Array.replicate (l.length - n) false)→j < n∧j∈Region.ready .any (l.take n).toArray listed:=fun j hj=>by
      obtain ⟨hu,o,ho,hall⟩:=mem_ready.1 hj
      have ho':l[j]?=some o:=by simpa using ho
      by_cases hjn:j < n
      · refine ⟨hjn,mem_ready.2 ⟨?_,o,by rw [List.getElem?_toArray,List.getElem?_take_of_lt hjn,ho'],fun e he hb=>?_⟩⟩
        · rw [getD_app _ _ _ _ (by omega)] at hu;exact hu
        · have h1:=hall e he hb
          rw [getD_app _ _ _ _ (by have:=(hp j o ho' hjn).2 e he;omega)] at h1
          exact h1
      · obtain ⟨e,he,hb,hon⟩:=ht j o ho' (by omega) i0 hin
        have h1:=hall e he hb
        rw [hon,getD_app _ _ _ _ (by omega)] at h1
        simp only [Array.getD_eq_getD_getElem?,Array.getElem?_eq_getElem (show i0 < listed.size by omega),Option.getD_some] at h1 hu0
        rw [h1] at hu0
        cases hu0
     rw [Nat.add_right_comm]
     refine ⟨fun h0=>?_,fun j hj=>?_⟩
     · exfalso
       have : i0∈Region.ready .any l.toArray (listed++Array.replicate (l.length - n) false):=by
        obtain ⟨hu,o,ho,hall⟩:=mem_ready.1 hi0
        have ho':l[i0]?=some o:=by
         have h3:(l.take n)[i0]?=some o:=by simpa using ho
         rwa [List.getElem?_take_of_lt hin] at h3
        refine mem_ready.2 ⟨by rw [getD_app _ _ _ _ (by omega)];exact hu,o,by simpa using ho',fun e he hb=>?_⟩
        rw [getD_app _ _ _ _ (by have:=(hp i0 o ho' hin).2 e he;omega)]
        exact hall e he hb
       rw [h0] at this
       cases this
     · obtain ⟨hjn,hjr⟩:=hlow j hj
       have ho:l[j]?=some (l[j]'(by omega)):=List.getElem?_eq_getElem (by omega)
       rw [set_app _ _ _ (by omega)]
       exact wpOp_part (by rw [List.getElem?_toArray,List.getElem?_take_of_lt hjn,ho]) (by simp) (hp j _ ho hjn).1 (fun a' w' h'=>ih _ a' w' (by rw [Array.size_setIfInBounds];exact hs) h') (h.2 j hjr)
theorem region_tail {id:Nat} {a:Act} {w:World} {S:World→Prop} (n:Nat) (hm:P.follows .mixedOrders=true) (hB:tailB l n=true) (hS:S w.drew)
 (h:S w.drew→wpAnyH P .any (l.take n).toArray (TailQ P l.toArray (l.drop n) Q) S n (Array.replicate n false) a w.drew):(Code.region id l.toArray true).wp P Q a w:=by
 refine wp_region_any hm ?_
 obtain ⟨hn,_⟩:=tail_facts hB
 have h1:=wpAny_part hB n (Array.replicate n false) a w.drew (by simp) (wpAny_of_held _ _ _ _ (h hS))
 have e1:n+(l.length - n)=l.toArray.size:=by simp;omega
 have e2:Array.replicate n false++Array.replicate (l.length - n) false=Array.replicate l.toArray.size false:=by
  rw [Array.replicate_append_replicate]
  congr 1
 rw [e1,e2] at h1
 exact h1
end
def fL (N:Nat) (f:Nat→Int):List Int:=(List.range N).map f
theorem fL_len (N:Nat) (f:Nat→Int):(fL N f).length=N:=by simp [fL]
theorem fL_get {N i:Nat} (f:Nat→Int) (h:i < N):(fL N f)[i]?=some (f i):=by simp [fL,h]
def swF (f:Nat→Int) (a b:Nat):Nat→Int:=fun j=>if j=b then f a else if j=a then f b else f j
theorem fL_swap {N a b:Nat} (f:Nat→Int) (ha:a < N) (hb:b < N):((fL N f).set a (f b)).set b (f a)=fL N (swF f a b):=by
 apply List.ext_getElem?
 intro j
 simp only [fL,List.getElem?_set,List.getElem?_map,List.length_set,List.length_map,List.length_range]
 by_cases hj:j < N
 · simp only [List.getElem?_range hj,Option.map_some]
   by_cases e1:b=j
   · subst e1;simp [swF,hb]
   · by_cases e2:a=j
     · subst e2;simp [swF,e1,ha,Ne.symm e1]
     · simp [swF,e1,e2,Ne.symm e1,Ne.symm e2]
 · simp only [List.getElem?_eq_none (show (List.range N).length≤j by simp;omega),Option.map_none]
   rw [if_neg (by omega),if_neg (by omega)]
def stF (f:Nat→Int) (a b:Nat):Nat→Int:=if f b < f a then swF f a b else f
def stdR (f:Nat→Int):List (List Int)→List (List Int)
 | []=>[]
 | p :: t=>[stF f (p.getD 0 0).toNat (p.getD 1 0).toNat (p.getD 0 0).toNat,stF f (p.getD 0 0).toNat (p.getD 1 0).toNat (p.getD 1 0).toNat] :: stdR (stF f (p.getD 0 0).toNat (p.getD 1 0).toNat) t
def stdM (N:Nat) (X:List (List Int)):Option NetV:=some ((N:Int),stdR (fun j=>(j:Int)) X)
def InjF (N:Nat) (f:Nat→Int):Prop:=(∀ i,i < N→0≤f i∧f i < (N:Int))∧∀ i j,i < N→j < N→i≠j→f i≠f j
theorem InjF.swap {N:Nat} {f:Nat→Int} (h:InjF N f) {a b:Nat} (ha:a < N) (hb:b < N):InjF N (swF f a b):=by
 refine ⟨fun i hi=>?_,fun i j hi hj hij=>?_⟩
 · unfold swF
   split
   · exact h.1 a ha
   · split
     · exact h.1 b hb
     · exact h.1 i hi
 · have e:∀ k,swF f a b k=f (if k=b then a else if k=a then b else k):=fun k=>by
    unfold swF
    split
    · rfl
    · split <;> rfl
   rw [e,e]
   refine h.2 _ _ ?_ ?_ ?_ <;> (repeat' split) <;> omega
theorem InjF.st {N:Nat} {f:Nat→Int} (h:InjF N f) {a b:Nat} (ha:a < N) (hb:b < N):InjF N (stF f a b):=by
 unfold stF
 split
 · exact h.swap ha hb
 · exact h
theorem stdR_ok {N:Nat} : ∀ (X:List (List Int)) (f:Nat→Int),InjF N f→(∀ p∈X,netRow (N:Int) p=true)→(∀ p∈stdR f X,netRow (N:Int) p=true)∧(stdR f X).length=X.length
 | [],f,_,_=>⟨fun p hp=>(by cases hp),rfl⟩
 | p :: t,f,h,hX=>by
   obtain ⟨x,y,rfl,hx,hy,hxy⟩:=netRow_iff (hX p (.head _))
   have hf:=h.st (a:=x.toNat) (b:=y.toNat) (by omega) (by omega)
   obtain ⟨h1,h2⟩:=stdR_ok t _ hf (fun q hq=>hX q (.tail _ hq))
   refine ⟨fun q hq=>?_,by simp [stdR,h2]⟩
   rw [stdR] at hq
   rcases List.mem_cons.1 hq with rfl | hq
   · have a1:=hf.1 x.toNat (by omega)
     have a2:=hf.1 y.toNat (by omega)
     have a3:=hf.2 x.toNat y.toNat (by omega) (by omega) (by omega)
     simp only [List.getD_cons_zero,List.getD_cons_succ] at *
     simp [netRow,inB_iff,a3]
     omega
   · exact h1 q hq
theorem stdM_ok {N:Nat} {X:List (List Int)} {p:NetV} (hk:netOk (N:Int) X=true) (h:stdM N X=some p):netOk p.1 p.2=true:=by
 cases h
 obtain ⟨h1,h2,h3⟩:=netOk_iff.1 hk
 obtain ⟨h4,h5⟩:=stdR_ok (N:=N) X (fun j=>(j:Int)) ⟨fun i hi=>(by show 0≤(i:Int)∧(i:Int) < N;omega),fun i j _ _ hij=>(by show (i:Int)≠(j:Int);omega)⟩ h3
 exact netOk_iff.2 ⟨h1,by simp only [];omega,h4⟩
def stK (f:Nat→Int) (X:List (List Int)):Nat→(Nat→Int)
 | 0=>f
 | k+1=>stF (stK f X k) ((X.getD k []).getD 0 0).toNat ((X.getD k []).getD 1 0).toNat
theorem stK_inj {N:Nat} {f:Nat→Int} {X:List (List Int)} (h:InjF N f) (hX:∀ p∈X,netRow (N:Int) p=true):∀ k,k≤X.length→InjF N (stK f X k)
 | 0,_=>h
 | k+1,hk=>by
   obtain ⟨x,y,e,hx,hy,_⟩:=netRow_iff (hX _ (List.getElem_mem (show k < X.length by omega)))
   have e2:X.getD k []=[x,y]:=by rw [List.getD_eq_getElem?_getD,List.getElem?_eq_getElem (by omega),e];rfl
   rw [stK,e2]
   exact (stK_inj h hX k (by omega)).st (by simp;omega) (by simp;omega)
theorem stdR_drop (f:Nat→Int) (X:List (List Int)) (k:Nat) (p:List Int) (h:X[k]?=some p):stdR (stK f X k) (X.drop k)=[stK f X (k+1) (p.getD 0 0).toNat,stK f X (k+1) (p.getD 1 0).toNat] :: stdR (stK f X (k+1)) (X.drop (k+1)):=by
 obtain ⟨hk,e⟩:=List.getElem?_eq_some_iff.1 h
 have e2:X.getD k []=p:=by rw [List.getD_eq_getElem?_getD,h];rfl
 rw [List.drop_eq_getElem_cons hk,e,stdR,stK,e2]
section
theorem stepPushW {P:Program} {wl:World} {ops:Array Oper} {o:Oper} {a:Act} {K:Act→World→Prop} {Q:Exit→Act→World→Prop} {G:Prop} (hgd:o.guard=none) (s z:Operand) (t:TypeId)
 (ho:o.op=.call { callee:=.builtin .append,args:=#[s,z],argTypes:=#[t,t] }) {bytes:Nat} {zv:Value} (ht:ElemOk P t 23 bytes zv) {bo mo co F:Nat} {n:Value} {ao:Option Addr} {rows:List Value} {xss:List (List Int)} {x y:Int} {W:World}
 (hs:a.eval s=.slice ao mo co) (hz:a.eval z=.slice (some ⟨wl.heap.size+1,0,none⟩) 1 1) (hb8:bytes≤1000000)
 (hO:wl.heap[bo]?=some (.cells #[n,.slice ao mo co] F (0,0))) (hF:F≠23) (hF2:F≠3) (hov:Own wl 23 (bo+1) (.slice ao mo co) rows) (hrp:RowsP wl (bo+1) rows xss) (hm:rows.length=mo) (hmo:mo≤20000)
 (hW:W=(((wl.alloc (.cells #[.int .i64 x,.int .i64 y] 3)).alloc (.cells #[.slice (some ⟨wl.heap.size,0,none⟩) 2 2] 23))).drew∨W=((wl.alloc (.cells #[.int .i64 x,.int .i64 y] 3)).alloc (.cells #[.slice (some ⟨wl.heap.size,0,none⟩) 2 2] 23)))
 (h:∀ b6 c6 w6,Below bo wl w6→(w6.cell? ⟨bo,1,none⟩=some (.slice ao mo co)∧w6.frozen? ⟨bo,1,none⟩=false∧(w6.setCell ⟨bo,1,none⟩ (.slice b6 (mo+1) c6)).heap[bo]?=some (.cells #[n,.slice b6 (mo+1) c6] F (0,0)) ∧
  OwnP (w6.setCell ⟨bo,1,none⟩ (.slice b6 (mo+1) c6)) (bo+1) (.slice b6 (mo+1) c6) (xss++[[x,y]])∧Below bo wl (w6.setCell ⟨bo,1,none⟩ (.slice b6 (mo+1) c6)))→K (a.put o.dst (.slice b6 (mo+1) c6)) w6) :
 if Region.wanted o (yielded ops a.tmps)=true then Oper.wp P o a W K Q else G:=by
 have hzb:bo+1≤wl.heap.size:=box_lt hO
 have hB:bytes * (mo+1)≤140737488355328:=Nat.le_trans (Nat.mul_le_mul hb8 (show mo+1≤20001 by omega)) (by omega)
 have hBA:Below bo wl (wl.alloc (.cells #[.int .i64 x,.int .i64 y] 3)):=(Below.refl _ _).alloc (by omega) _
 rcases hW with rfl | rfl
 · refine step_app1 (w:=wl.alloc (.cells #[.int .i64 x,.int .i64 y] 3)) hgd s z t ho ht hs (hov.alloc _) (by rw [hz];simp) (by rfl) (by simp;omega) (by rw [hm,Nat.mul_comm];exact hB) (by rw [hm];omega) ?_
   intro b6 c6 w6 ho6 hg6 hat6
   rw [hm] at ho6 ⊢
   exact h b6 c6 w6 (hBA.grown hg6 (by simp;omega) (fun r hr=>by have:=(hov.lt r hr).1;omega)) (by obtain ⟨k6,kf6,hO7,o7,z7,b7⟩:=boxPush hO hF hF2 hov hrp ho6 hg6;exact ⟨k6,kf6,hO7,o7,b7⟩)
 · refine step_app1nC (w:=wl.alloc (.cells #[.int .i64 x,.int .i64 y] 3)) hgd s z t ho ht hs (hov.alloc _) (by rw [hz];simp) (by rfl) (by simp;omega) (by rw [hm,Nat.mul_comm];exact hB) (by rw [hm];omega) ?_
   intro b6 c6 w6 ho6 hg6 hat6
   rw [hm] at ho6 ⊢
   exact h b6 c6 w6 (hBA.grown hg6 (by simp;omega) (fun r hr=>by have:=(hov.lt r hr).1;omega)) (by obtain ⟨k6,kf6,hO7,o7,z7,b7⟩:=boxPush hO hF hF2 hov hrp ho6 hg6;exact ⟨k6,kf6,hO7,o7,b7⟩)
end
theorem fL_succ (k:Nat) (f:Nat→Int):ints (fL (k+1) f)=ints (fL k f)++[.int .i64 (f k)]:=by
 simp [fL,List.range_succ,ints]
theorem i_StandardOf (N:Nat) (v:Value) (X:List (List Int)) (w:World) (h:Rd2 w v X) (hk:netOk (N:Int) X=true):Calls Tryz.prog 199 #[.agg #[.int .i64 N,v]] w fun e w'=>∃ (a:Option Addr) (m c:Nat) (u:Value),e=.returned (.tuple #[.agg #[.int .i64 N,.slice a m c],u,.bool true])∧OwnP w' w.heap.size (.slice a m c) (stdR (fun j=>(j:Int)) X)∧Below w.heap.size w w':=by
 obtain ⟨a,c,rfl,hmc,hc9⟩:=h.form
 obtain ⟨h18,hl60,hrows⟩:=netOk_iff.1 hk
 have HNK:=Lib.hid (fun (W:World) (hW:Rd2 W (.slice a X.length c) X)=>hk ▸ i_NetworkOk (N:Int) _ X W hW (by unfold I64;omega))
 have HK:=Lib.hid (fun k xs=>netOk_row (k:=k) (xs:=xs) hk)
 obtain ⟨f0,hf0⟩:∃ f0:Nat→Int,(fun j=>((j:Nat):Int))=f0:=⟨_,rfl⟩
 have HF0:Hid (∀ k,f0 k=(k:Int)):=fun k=>by rw [←hf0]
 have HIN:Hid (∀ k,k≤X.length→InjF N (stK f0 X k)):=fun k hk'=>stK_inj ⟨fun i hi=>(by rw [HF0.out];omega),fun i j _ _ hij=>(by rw [HF0.out,HF0.out];omega)⟩ hrows k hk'
 have HSD:=Lib.hid (fun k p=>stdR_drop f0 X k p)
 obtain ⟨m,hm⟩:∃ m,X.length=m:=⟨_,rfl⟩
 obtain ⟨RS,hRS⟩:∃ RS,stdR f0 X=RS:=⟨_,rfl⟩
 have HRS:=Lib.hid hRS
 have HM:=Lib.hid hm
 have hN8:N≤8:=by omega
 have hN1:1≤N:=by omega
 rw [hf0,hRS]
 rw [hm] at h HNK HIN hl60 ⊢
 clear hm hk hf0 hRS hrows h18
 obtain ⟨wa,bx,hwa,hbx,hXa,hza,hba⟩:=newBox w (.cells #[.int .i64 N,.slice a m c] 30)
 obtain ⟨w0,B,hw0,hB,hA0,hz0,hb0⟩:=newBox wa (.cells #[.int .i64 0,.slice none 0 0] 30)
 have hX0:w0.heap[bx]?=_:=(hb0.block bx hza).trans hXa
 have bt0:=hba.trans (hb0.mono hba.size)
 have HWA:=Lib.hid hwa
 have HBX:=Lib.hid hbx
 have HW0:=Lib.hid hw0
 have HBB:Hid (w.heap.size+1=B):=by rw [Hid,←hB,←hwa];simp
 have h0:=h.below bt0
 have q0:=box_cell hX0 0
 have q1:=box_cell hX0 1
 clear hwa hbx hw0 hB hXa hza hba hb0
 go_enter Tryz.func199,Tryz.ntmps199
 go_upto_region 1 with (fail)
 rw [HWA.out,HW0.out,HBB.out,HBX.out]
 go_upto_region 3 with (go_at_call 40;refine (HNK.out _ h0).mono ?_;rintro e w1 ⟨rfl,b1⟩)
 have hX1:w1.heap[bx]?=_:=(b1.block bx (box_lt hX0)).trans hX0
 have hA1:w1.heap[B]?=_:=(b1.block B hz0).trans hA0
 have bt1:=bt0.trans (b1.mono bt0.size)
 have zB:=box_lt hA1
 have ho0:Own (w1.alloc (.cells #[] 3)) 3 w1.heap.size (.slice (some ⟨w1.heap.size,0,none⟩) 0 0) (ints (fL 0 f0)):=Own.lit0 w1 3 (Nat.le_refl _)
 have hl0:Below w1.heap.size w1 (w1.alloc (.cells #[] 3)):=(Below.refl _ _).alloc (Nat.le_refl _) _
 have HT:Hid (∀ W,Below w1.heap.size w1 W→W.cell? ⟨bx,0,none⟩=some (.int .i64 N)∧W.cell? ⟨bx,1,none⟩=some (.slice a m c)∧W.heap[B]?=some (.cells #[.int .i64 0,.slice none 0 0] 30 (0,0))∧Below w.heap.size w W∧Rd2 W (.slice a m c) X):=fun W hW=>by
  have hX:=(hW.block bx (box_lt hX1)).trans hX1
  exact ⟨box_cell hX 0,box_cell hX 1,(hW.block B zB).trans hA1,bt1.trans (hW.mono bt1.size),(h.below bt1).below hW⟩
 obtain ⟨t0,t1,-,-,-⟩:=HT.out _ hl0
 clear hX0 hA0 q0 q1 h0 b1 hX1 hA1
 go_wp2_with fail
 go_loopg [5,17] N (fun g vn iv wr=>∃ k:Nat,g=N - k∧k≤N∧iv=.int .i64 (k:Int)∧Own wr 3 w1.heap.size vn (ints (fL k f0))∧Below w1.heap.size w1 wr)
 case atStart=>exact ⟨0,rfl,Nat.zero_le _,rfl,ho0,hl0⟩
 case round =>
  clear ho0 hl0 t0 t1
  obtain ⟨wl,rfl⟩:∃ wl:World,wl=wr:=⟨_,rfl⟩
  obtain ⟨k,hg,hkN,rfl,ho,hb⟩:=hrel
  obtain ⟨an,mn,cn,rfl,HMN,hmn1,hmn2⟩:=ho.rd.formN
  rw [fL_len] at HMN
  obtain rfl:mn=k:=HMN.out
  by_cases hlt:mn < N
  · have i1:(mn:Int) < (N:Int):=by omega
    have HL:Hid ((ints (fL mn f0)).length=mn):=by rw [Hid,ints_length,fL_len]
    have HNX:Hid (ints (fL (mn+1) f0)=ints (fL mn f0)++[.int .i64 (mn:Int)]):=by rw [Hid,fL_succ,HF0.out]
    have hsz:=hb.size
    go_wp2_with (at_builtin;refine wpList_app1m rfl _ _ 23 rfl elI rfl ho (by show Value.slice (some ⟨wl.heap.size,0,none⟩) 1 1=_;simp) rfl hsz _ HL.out (by omega) (by omega) ?_;intro b6 c6 w6 ho6 hg6 hat6)
    have hb7:=hb.grown hg6 hb.size (fun r hr=>(ho.lt r hr).1)
    go_roundg (N - (mn+1))
    case measure=>omega
    case rel=>exact ⟨mn+1,rfl,hlt,by go_num,by rw [HNX.out];exact ho6,hb7⟩
  · obtain rfl:mn=N:=by omega
    obtain ⟨an,rfl⟩:∃ p,an=some p:=by
     obtain ⟨p,_,e,_,_⟩:=ho.rd.int (k:=0) (by rw [fL_len];omega)
     exact ⟨p,e⟩
    obtain ⟨w3,bo,hw3,hbo,hO3,hz3,hb3⟩:=newBox wl (.cells #[.int .i64 mn,.slice none 0 0] 30)
    have HW3:=Lib.hid hw3
    have HBO:=Lib.hid hbo
    have hanb:an.block < bo:=by have:=(ho.lt _ rfl).2;omega
    have hana:w1.heap.size≤an.block:=(ho.lt _ rfl).1
    have hwbo:w1.heap.size≤bo:=by have:=hb.size;omega
    have o3:=ho.below hb3
    have g3:=hb.trans (hb3.mono hb.size)
    obtain ⟨t0,t1,-,-,-⟩:=HT.out _ hb
    obtain ⟨t2,t3,-,-,-⟩:=HT.out _ g3
    clear hw3 hbo hb3 ho hb HMN hg hlt hkN hmn1
    go_upto_region 9 with (fail)
    go_upto_region 10 with (fail)
    rw [HW3.out,HBO.out]
    clear t0 t1
    go_wp2_with fail
    go_loopg [31] m (fun g iv wr=>∃ (q:Nat) (Y:List (List Int)) (ao:Option Addr) (mo co:Nat),g=m - q∧q≤m∧iv=.int .i64 (q:Int)∧Hid (Y.length=q)∧Hid (Y++stdR (stK f0 X q) (X.drop q)=RS)∧Own wr 3 w1.heap.size (.slice (some an) mn cn) (ints (fL mn (stK f0 X q)))∧wr.heap[bo]?=some (.cells #[.int .i64 mn,.slice ao mo co] 30 (0,0))∧OwnP wr (bo+1) (.slice ao mo co) Y∧Below w1.heap.size w1 wr)
    case atStart=>exact ⟨0,[],none,0,0,rfl,Nat.zero_le _,rfl,rfl,HRS.out,o3,hO3,OwnP.nil _ _,g3⟩
    case round =>
     clear o3 hO3 g3 t2 t3
     obtain ⟨wl2,rfl⟩:∃ wl2:World,wl2=wr:=⟨_,rfl⟩
     obtain ⟨q,Y,ao,mo,co,hg,hqm,rfl,HYL,HY,ho,hO,hP,hb⟩:=hrel
     obtain ⟨-,-,hAl,be,hR⟩:=HT.out _ hb
     by_cases hlt:q < m
     · have hqx:q < X.length:=by have:=HM.out;omega
       obtain ⟨x,y,hp,hxN,hyN,hxy⟩:=HK.out q _ (List.getElem?_eq_getElem hqx)
       have hxq:X[q]?=some [(x:Int),(y:Int)]:=by rw [List.getElem?_eq_getElem hqx,hp]
       have HD:=HSD.out q _ hxq
       simp only [List.getD_cons_zero,List.getD_cons_succ,Int.toNat_natCast] at HD
       have hSK:stK f0 X (q+1)=stF (stK f0 X q) x y:=by
        have e2:X.getD q []=[(x:Int),(y:Int)]:=by rw [List.getD_eq_getElem?_getD,hxq];rfl
        rw [stK,e2]
        simp
       have HIJ:=HIN.out (q+1) (by omega)
       rw [hSK] at HD HIJ
       have HSK:=Lib.hid hSK
       obtain ⟨f,hf⟩:∃ f,stK f0 X q=f:=⟨_,rfl⟩
       rw [hf] at ho HD HIJ HSK HY
       have HDD:=Lib.hid HD
       have HIJJ:=Lib.hid HIJ
       obtain ⟨ad,z,d,rfl,e0',e1',e2'⟩:=(HT.out _ (Below.refl _ _)).2.2.2.2.two hxq
       have HROW:Hid (∀ W,Below w1.heap.size w1 W→W.cell? (ad.add q)=some (.slice (some z) 2 d)∧W.cell? z=some (.int .i64 (x:Int))∧W.cell? ⟨z.block,z.off+(0+1),none⟩=some (.int .i64 (y:Int))):=fun W hW=>⟨(hW.cell (World.block_lt_of_cell? _ _ e0')).trans e0',(hW.cell (World.block_lt_of_cell? _ _ e1')).trans e1',(hW.cell (World.block_lt_of_cell? _ _ e2')).trans e2'⟩
       obtain ⟨e0,e1,e2⟩:=HROW.out _ hb
       clear e0' e1' e2'
       have cx:=ho.rd.cell_i (fL_get (N:=mn) (i:=x) f (by omega))
       have cy:=ho.rd.cell_i (fL_get (N:=mn) (i:=y) f (by omega))
       have i1:(q:Int) < (m:Int):=by omega
       have i2:(x:Int) < (mn:Int):=by omega
       have i3:(y:Int) < (mn:Int):=by omega
       clear hp hxq HD hSK hf HIJ
       go_upto_region 13 with (fail)
       go_quiet (fail)
       rename_i nq
       obtain ⟨wv,hwv⟩:∃ wv,wl2.drewN nq=wv:=⟨_,rfl⟩
       have hov:=ho.drewN nq
       have hbv:Below w1.heap.size w1 (wl2.drewN nq):=⟨hb.os,hb.tape,hb.output,hb.size,hb.block⟩
       have hOv:(wl2.drewN nq).heap[bo]?=some (.cells #[.int .i64 mn,.slice ao mo co] 30 (0,0)):=hO
       have hPv:OwnP (wl2.drewN nq) (bo+1) (.slice ao mo co) Y:=hP.of_heap rfl
       rw [hwv] at hov hbv hOv hPv ⊢
       obtain ⟨-,e1v,e2v⟩:=HROW.out _ hbv
       clear hwv ho hb hO hP e0 e1 e2 cx cy hAl be hR
       have hxl:x < (fL mn f).length:=by rw [fL_len];omega
       have hyl:y < (fL mn f).length:=by rw [fL_len];omega
       have g0:=hov.rd.cell_i (fL_get (N:=mn) (i:=x) f (by omega))
       have g1:=hov.rd.cell_i (fL_get (N:=mn) (i:=y) f (by omega))
       go_upto_if 47 with (fail)
       go_cut [] (fun wx=>Own wx 3 w1.heap.size (.slice (some an) mn cn) (ints (fL mn (stF f x y)))∧wx.heap[bo]?=some (.cells #[.int .i64 mn,.slice ao mo co] 30 (0,0))∧OwnP wx (bo+1) (.slice ao mo co) Y∧Below w1.heap.size w1 wx)
       case first=>as_aux_lemma =>
        by_cases hba:f y < f x
        · have HST:Hid (stF f x y=swF f x y):=by rw [Hid,stF,if_pos hba]
          have HSW:=Lib.hid (fL_swap (N:=mn) f (a:=x) (b:=y) (by omega) (by omega))
          have fz0:=hov.frozen rfl x
          have fz1:=hov.frozen rfl y
          have ht2:=hov.seti rfl hxl (f y)
          have ht3:=ht2.1.seti rfl (show y < ((fL mn f).set x (f y)).length by rw [List.length_set];exact hyl) (f x)
          have hb2:Below w1.heap.size w1 (wv.setCell (an.add x) (.int .i64 (f y))):=hbv.setCell (by rw [block_of_add];exact hana) _
          have hb3:Below w1.heap.size w1 ((wv.setCell (an.add x) (.int .i64 (f y))).setCell (an.add y) (.int .i64 (f x))):=hb2.setCell (by rw [block_of_add];exact hana) _
          obtain ⟨-,r1,r2⟩:=HROW.out _ hb2
          have c3:=ht2.1.rd.cell_i (show ((fL mn f).set x (f y))[y]?=some (f y) by rw [List.getElem?_set_ne (by omega)];exact fL_get f (by omega))
          have f3:=ht2.1.frozen rfl y
          have ho3:=ht3.1
          rw [HSW.out] at ho3
          have hne:∀ t:Nat,(an.add t).block≠bo:=fun t=>by rw [block_of_add];omega
          have hO3:((wv.setCell (an.add x) (.int .i64 (f y))).setCell (an.add y) (.int .i64 (f x))).heap[bo]?=some (.cells #[.int .i64 mn,.slice ao mo co] 30 (0,0)):=(heap_setCell_other _ _ bo _ (fun e=>hne y e.symm)).trans ((heap_setCell_other _ _ bo _ (fun e=>hne x e.symm)).trans hOv)
          have hP3:OwnP ((wv.setCell (an.add x) (.int .i64 (f y))).setCell (an.add y) (.int .i64 (f x))) (bo+1) (.slice ao mo co) Y:=(hPv.under ht2.2 (fun k hk=>by cases hk;omega)).under ht3.2 (fun k hk=>by cases hk;omega)
          clear ht2 ht3 hPv hOv hbv hov
          go_wp2
          go_region
          all_goals go_wp2
          all_goals
           go_meet
           exact ⟨by rw [HST.out];exact ho3.drew,hO3,hP3.of_heap rfl,⟨hb3.os,hb3.tape,hb3.output,hb3.size,hb3.block⟩⟩
        · have HST:Hid (stF f x y=f):=by rw [Hid,stF,if_neg hba]
          have d1:f x≤f y:=by omega
          go_wp2
          all_goals
           go_meet
           exact ⟨by rw [HST.out];exact hov,hOv,hPv,hbv⟩
       case rest=>as_aux_lemma =>
        obtain ⟨hoc,hOc,hPc,hbc⟩:=hcut
        clear hov hOv hPv hbv g0 g1 e1v e2v
        have HYN:Hid ((Y++[[(stF f x y) x,(stF f x y) y]])++stdR (stK f0 X (q+1)) (X.drop (q+1))=RS):=by rw [Hid,←HY.out,HDD.out,HSK.out,List.append_assoc];rfl
        obtain ⟨rows,hov2,hrp,HLR,HMO⟩:=OwnP.rowsOf hPc
        have hmo:mo≤100:=by have:=HMO.out;have:=HYL.out;omega
        obtain ⟨k1,k2,k3⟩:=pushFacts hOc ((stF f x y) x) ((stF f x y) y)
        have cx2:=hoc.rd.cell_i (fL_get (N:=mn) (i:=x) ((stF f x y)) (by omega))
        have cy2:=hoc.rd.cell_i (fL_get (N:=mn) (i:=y) ((stF f x y)) (by omega))
        obtain ⟨-,e1w,e2w⟩:=HROW.out _ hbc
        have zO:=box_lt hOc
        have HS5:Hid (∀ W,Below bo wc W→W.cell? ⟨bo,1,none⟩=some (.slice ao mo co)→W.cell? z=some (.int .i64 (x:Int))∧W.cell? ⟨z.block,z.off+(0+1),none⟩=some (.int .i64 (y:Int))∧W.cell? (an.add x)=some (.int .i64 ((stF f x y) x))∧W.cell? (an.add y)=some (.int .i64 ((stF f x y) y))∧W.cell? ⟨bo,1,none⟩=some (.slice ao mo co)):=fun W hW h1=>by
         obtain ⟨-,t1,t2⟩:=HROW.out _ (hbc.trans (hW.mono hwbo))
         exact ⟨t1,t2,(hW.cell (by rw [block_of_add];exact hanb)).trans cx2,(hW.cell (by rw [block_of_add];exact hanb)).trans cy2,h1⟩
        have HB0:Below bo wc wc.drew:=⟨rfl,rfl,rfl,Nat.le_refl _,fun _ _=>rfl⟩
        have HB1:∀ o,Below bo wc (wc.drew.alloc o):=fun o=>HB0.alloc (Nat.le_of_lt zO) o
        have HB2:∀ o o2,Below bo wc ((wc.drew.alloc o).alloc o2):=fun o o2=>(HB1 o).alloc (by simp;omega) o2
        go_upto_region 15 with (fail)
        refine region_tail 17 (S:=fun wx=>wx.cell? z=some (.int .i64 (x:Int))∧wx.cell? ⟨z.block,z.off+(0+1),none⟩=some (.int .i64 (y:Int))∧wx.cell? (an.add x)=some (.int .i64 ((stF f x y) x))∧wx.cell? (an.add y)=some (.int .i64 ((stF f x y) y))∧wx.cell? ⟨bo,1,none⟩=some (.slice ao mo co)) (by kernel_rfl) (by kernel_rfl) (HS5.out _ HB0 k1) (fun hHeld=>?_)
        simp only [List.take_succ_cons,List.take_zero]
        refine wpAnyH_take (i:=0) (v:=?v0) rfl (by kernel_rfl) (by kernel_rfl) (by kernel_rfl) (fun _ _ _ h=>h) (Or.inl ⟨by rfl,?hy0⟩) hHeld ?rest0
        case hy0=>(intro wx hSw;(try dsimp only at hSw);go_simp;try (with_reducible rfl))
        simp only [List.getElem_toArray,List.getElem_cons_zero,List.getElem_cons_succ,Act.put,List.setIfInBounds_toArray,List.set_cons_zero,List.set_cons_succ]
        refine wpAnyH_take (i:=1) (v:=?v1) rfl (by kernel_rfl) (by kernel_rfl) (by kernel_rfl) (fun _ _ _ h=>h) (Or.inl ⟨by rfl,?hy1⟩) hHeld ?rest1
        case hy1=>(intro wx hSw;(try dsimp only at hSw);go_simp;try (with_reducible rfl))
        simp only [List.getElem_toArray,List.getElem_cons_zero,List.getElem_cons_succ,Act.put,List.setIfInBounds_toArray,List.set_cons_zero,List.set_cons_succ]
        refine wpAnyH_take (i:=2) (v:=?v2) rfl (by kernel_rfl) (by kernel_rfl) (by kernel_rfl) (fun _ _ _ h=>h) (Or.inl ⟨by rfl,?hy2⟩) hHeld ?rest2
        case hy2=>(intro wx hSw;(try dsimp only at hSw);go_simp;try (with_reducible rfl))
        simp only [List.getElem_toArray,List.getElem_cons_zero,List.getElem_cons_succ,Act.put,List.setIfInBounds_toArray,List.set_cons_zero,List.set_cons_succ]
        refine wpAnyH_take (i:=3) (v:=?v3) rfl (by kernel_rfl) (by kernel_rfl) (by kernel_rfl) (fun _ _ _ h=>h) (Or.inl ⟨by rfl,?hy3⟩) hHeld ?rest3
        case hy3=>(intro wx hSw;(try dsimp only at hSw);go_simp;try (with_reducible rfl))
        simp only [List.getElem_toArray,List.getElem_cons_zero,List.getElem_cons_succ,Act.put,List.setIfInBounds_toArray,List.set_cons_zero,List.set_cons_succ]
        refine wpAnyH_take (i:=4) (v:=?v4) rfl (by kernel_rfl) (by kernel_rfl) (by kernel_rfl) (fun _ _ _ h=>h) (Or.inl ⟨by rfl,?hy4⟩) hHeld ?rest4
        case hy4=>(intro wx hSw;(try dsimp only at hSw);go_simp;try (with_reducible rfl))
        simp only [List.getElem_toArray,List.getElem_cons_zero,List.getElem_cons_succ,Act.put,List.setIfInBounds_toArray,List.set_cons_zero,List.set_cons_succ]
        refine wpAnyH_take (i:=5) (v:=?v5) rfl (by kernel_rfl) (by kernel_rfl) (by kernel_rfl) (fun _ _ _ h=>h) (Or.inl ⟨by rfl,?hy5⟩) hHeld ?rest5
        case hy5=>(intro wx hSw;(try dsimp only at hSw);go_simp;try (with_reducible rfl))
        simp only [List.getElem_toArray,List.getElem_cons_zero,List.getElem_cons_succ,Act.put,List.setIfInBounds_toArray,List.set_cons_zero,List.set_cons_succ]
        refine wpAnyH_take (i:=6) (v:=?v6) rfl (by kernel_rfl) (by kernel_rfl) (by kernel_rfl) (fun _ _ _ h=>h) (Or.inl ⟨by rfl,?hy6⟩) hHeld ?rest6
        case hy6=>(intro wx hSw;(try dsimp only at hSw);go_simp;try (with_reducible rfl))
        simp only [List.getElem_toArray,List.getElem_cons_zero,List.getElem_cons_succ,Act.put,List.setIfInBounds_toArray,List.set_cons_zero,List.set_cons_succ]
        refine wpAnyH_take (i:=7) (v:=?v7) rfl (by kernel_rfl) (by kernel_rfl) (by kernel_rfl) (fun _ _ _ h=>h) (Or.inl ⟨by rfl,?hy7⟩) hHeld ?rest7
        case hy7=>(intro wx hSw;(try dsimp only at hSw);go_simp;try (with_reducible rfl))
        simp only [List.getElem_toArray,List.getElem_cons_zero,List.getElem_cons_succ,Act.put,List.setIfInBounds_toArray,List.set_cons_zero,List.set_cons_succ]
        refine wpAnyH_take (i:=8) (v:=?v8) rfl (by kernel_rfl) (by kernel_rfl) (by kernel_rfl) (fun _ _ _ h=>h) (Or.inl ⟨by rfl,?hy8⟩) hHeld ?rest8
        case hy8=>(intro wx hSw;(try dsimp only at hSw);go_simp;try (with_reducible rfl))
        simp only [List.getElem_toArray,List.getElem_cons_zero,List.getElem_cons_succ,Act.put,List.setIfInBounds_toArray,List.set_cons_zero,List.set_cons_succ]
        refine wpAnyH_take (i:=9) (v:=?v9) rfl (by kernel_rfl) (by kernel_rfl) (by kernel_rfl) (fun _ _ _ h=>h) (Or.inl ⟨by rfl,?hy9⟩) hHeld ?rest9
        case hy9=>(intro wx hSw;(try dsimp only at hSw);go_simp;try (with_reducible rfl))
        simp only [List.getElem_toArray,List.getElem_cons_zero,List.getElem_cons_succ,Act.put,List.setIfInBounds_toArray,List.set_cons_zero,List.set_cons_succ]
        refine wpAnyH_take (i:=10) (v:=?v10) rfl (by kernel_rfl) (by kernel_rfl) (by kernel_rfl) (fun _ _ _ h=>h) (Or.inl ⟨by rfl,?hy10⟩) hHeld ?rest10
        case hy10=>(intro wx hSw;(try dsimp only at hSw);go_simp;try (with_reducible rfl))
        simp only [List.getElem_toArray,List.getElem_cons_zero,List.getElem_cons_succ,Act.put,List.setIfInBounds_toArray,List.set_cons_zero,List.set_cons_succ]
        refine wpAnyH_take (i:=11) (v:=?v11) rfl (by kernel_rfl) (by kernel_rfl) (by kernel_rfl) (fun _ _ _ h=>h) (Or.inl ⟨by rfl,?hy11⟩) hHeld ?rest11
        case hy11=>(intro wx hSw;(try dsimp only at hSw);go_simp;try (with_reducible rfl))
        simp only [List.getElem_toArray,List.getElem_cons_zero,List.getElem_cons_succ,Act.put,List.setIfInBounds_toArray,List.set_cons_zero,List.set_cons_succ]
        refine wpAnyH_take (i:=12) (v:=?v12) rfl (by kernel_rfl) (by kernel_rfl) (by kernel_rfl) (fun _ _ _ h=>h) (Or.inl ⟨by rfl,?hy12⟩) hHeld ?rest12
        case hy12=>(intro wx hSw;(try dsimp only at hSw);go_simp;try (with_reducible rfl))
        simp only [List.getElem_toArray,List.getElem_cons_zero,List.getElem_cons_succ,Act.put,List.setIfInBounds_toArray,List.set_cons_zero,List.set_cons_succ]
        refine wpAnyH_take (i:=13) (v:=?v13) rfl (by kernel_rfl) (by kernel_rfl) (by kernel_rfl) (fun _ _ _ h=>h) (Or.inl ⟨by rfl,?hy13⟩) hHeld ?rest13
        case hy13=>(intro wx hSw;(try dsimp only at hSw);go_simp;try (with_reducible rfl))
        simp only [List.getElem_toArray,List.getElem_cons_zero,List.getElem_cons_succ,Act.put,List.setIfInBounds_toArray,List.set_cons_zero,List.set_cons_succ]
        refine wpAnyH_ready (rs:=[14]) (by kernel_rfl) (by simp) ?_
        refine AllReadyH.cons rfl (fun K hK=>?_) AllReadyH.nil
        go_simp
        refine hK.out _ _ (HS5.out _ (HB1 _) k2) (fun hHeld=>?_)
        clear hK K
        try simp only [List.getElem_toArray,List.getElem_cons_zero,List.getElem_cons_succ,Act.put,List.setIfInBounds_toArray,List.set_cons_zero,List.set_cons_succ]
        refine wpAnyH_ready (rs:=[15]) (by kernel_rfl) (by simp) ?_
        refine AllReadyH.cons rfl (fun K hK=>?_) AllReadyH.nil
        go_simp
        refine hK.out _ _ (HS5.out _ (HB2 _ _) k3) (fun hHeld=>?_)
        clear hK K
        try simp only [List.getElem_toArray,List.getElem_cons_zero,List.getElem_cons_succ,Act.put,List.setIfInBounds_toArray,List.set_cons_zero,List.set_cons_succ]
        refine wpAnyH_ready (rs:=[16]) (by kernel_rfl) (by simp) ?_
        refine AllReadyH.cons rfl (fun K hK=>?_) AllReadyH.nil
        refine stepPushW (wl:=wc) (by rfl) _ _ _ (by rfl) elII (by rfl) (by rfl) (by decide) hOc (by decide) (by decide) hov2 hrp HLR.out (by omega) (by first | exact .inl rfl | exact .inr rfl) ?_
        rintro b7 c7 w7 b7w ⟨k6,kf6,hO7,o7,b7'⟩
        refine hK.out _ _ (HS5.out _ b7w k6) (fun hHeld=>?_)
        clear hK K
        try simp only [List.getElem_toArray,List.getElem_cons_zero,List.getElem_cons_succ,Act.put,List.setIfInBounds_toArray,List.set_cons_zero,List.set_cons_succ]
        refine wpAnyH_done (by kernel_rfl) ?_ _
        show wpList _ _ _ _ _ _
        simp only [List.drop_succ_cons,List.drop_zero]
        go_wp2_with fail
        all_goals
         have ho7:Own (w7.setCell ⟨bo,1,none⟩ (.slice b7 (mo+1) c7)) 3 w1.heap.size (.slice (some an) mn cn) (ints (fL mn (stK f0 X (q+1)))):=by
          rw [HSK.out]
          exact hoc.keep fun k hk e=>b7'.block k (by cases e;exact hanb)
         have hb7:=hbc.trans (b7'.mono hwbo)
         go_wp2_with fail
         go_roundg (m - (q+1))
         case measure=>omega
         case rel=>exact ⟨q+1,_,_,_,_,rfl,hlt,by go_num,by rw [Hid,List.length_append];have:=HYL.out;simp;omega,HYN.out,ho7,hO7,o7,hb7⟩
     · obtain rfl:q=m:=by omega
       have HE:Hid (Y=RS):=by
        have:=HY.out
        rw [List.drop_of_length_le (by have:=HM.out;omega),stdR,List.append_nil] at this
        exact this
       obtain ⟨c0,c1,f0',f1',r0,r1,oz,bz⟩:=netRes (n:=(mn:Int)) hAl (hP.mono (by omega)) (by have:=HBB.out;omega) be
       rw [HE.out] at oz
       have p0:=box_cell hO 0
       have p1:=box_cell hO 1
       clear hP hO ho hAl
       go_wp2_with fail
       exact bodyPost_ret (v:=.tuple #[.agg #[.int .i64 (mn:Int),.slice ao mo co],.slice (some an) mn cn,.bool true]) (by simp [results,Tryz.results199,go_sem,r0,r1]) rfl ⟨_,_,_,_,rfl,oz,bz⟩
end Go.Proofs.YtggblfnajeikjaaGreatDoor
