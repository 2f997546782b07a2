/- Joined texts of the proof: Base, NumWalks, Lists, PlainBat, App, PairsB, SlicesWalks, OwnsL, PlainStack, RetO, LevelP0, SlicesB, RowsSet, IndexI, Taken, PlainDis. -/
import Derived.Test.YtggblfnajeikjaaGreatDoorRows
import Derived.BigQuiet
import Derived.Deep.QuietTactic
import Derived.Test.YtggblfnajeikjaaGreatDoorJ4
namespace Go.Proofs.YtggblfnajeikjaaGreatDoor
open Go.RowKit
set_option linter.unusedVariables false
set_option linter.unusedSimpArgs false
set_option maxRecDepth 100000
set_option maxHeartbeats 16000000
def RetOwn (E:Nat) (xs:List Value) (w:World) (e:Ending) (w':World):Prop :=
 ∃ v,e=.returned v∧Own w' E w.heap.size v xs∧Below w.heap.size w w'
theorem ret_int {k:IntKind} {a b:Int} (h:a=b):Ending.returned (.int k a)=.returned (.int k b):=by rw [h]
theorem ret_bool {a b:Bool} (h:a=b):Ending.returned (.bool a)=.returned (.bool b):=by rw [h]
def RetB (v:Value) (w:World) (e:Ending) (w':World):Prop:=e=.returned v∧Below w.heap.size w w'
theorem RetOwn.nil (w:World) (E:Nat):RetOwn E (ints []) w (.returned (.slice none 0 0)) w:=⟨_,rfl,Own.nil w E _,Below.refl _ _⟩
theorem elI:ElemOk Tryz.prog 23 3 8 (.int .i64 0):=by
 obtain ⟨i,hi,h0,h1,h2⟩:=info_parts (show (Tryz.prog.info? 3).map (fun i=>(i.zero,i.size,i.bytes))=some (some (.int .i64 0),1,8) by kernel_rfl)
 exact ⟨i,Tryz.underlying23,hi,h0,h1,h2,rfl⟩
def RetQ (v:Value) (w:World) (e:Ending) (w':World):Prop:=e=.returned v∧Dr w w'
def marks (m:Int) (n:Nat):List Int:=(List.range n).map fun (i:Nat)=>m+(i:Int)
theorem elII:ElemOk Tryz.prog 28 23 24 (.slice none 0 0):=by
 obtain ⟨i,hi,h0,h1,h2⟩:=info_parts (show (Tryz.prog.info? 23).map (fun i=>(i.zero,i.size,i.bytes))=some (some (.slice none 0 0),1,24) by kernel_rfl)
 exact ⟨i,Tryz.underlying28,hi,h0,h1,h2,rfl⟩
def RetOwn2 (xss:List (List Int)) (w:World) (e:Ending) (w':World):Prop :=
 ∃ v,e=.returned v∧Own2 w' 23 3 w.heap.size w'.heap.size v xss∧Below w.heap.size w w'
theorem RetOwn2.nil (w:World):RetOwn2 [] w (.returned (.slice none 0 0)) w:=⟨_,rfl,Own2.nil w _ _ _ _,Below.refl _ _⟩
def tot (xss:List (List Int)):Nat:=xss.foldr (fun xs n=>xs.length+n) 0
def SzOk (xss:List (List Int)):Prop:=xss.length≤1048576∧tot xss≤1048576
theorem tot_append (a b:List (List Int)):tot (a++b)=tot a+tot b:=by
 induction a with
 | nil=>simp [tot]
 | cons x t ih=>simp only [tot,List.cons_append,List.foldr_cons] at *;omega
theorem tot_one (x:List Int):tot [x]=x.length:=by simp [tot]
theorem tot_mem {xss:List (List Int)} {xs:List Int} (h:xs∈xss):xs.length≤tot xss:=by
 induction xss with
 | nil=>cases h
 | cons x t ih =>
   simp only [List.mem_cons] at h
   simp only [tot,List.foldr_cons] at *
   rcases h with rfl | h
   · omega
   · have:=ih h;omega
theorem tot_take_le (xss:List (List Int)) (k:Nat):tot (xss.take k)≤tot xss:=by
 conv=>rhs;rw [←List.take_append_drop k xss]
 rw [tot_append]
 omega
theorem take_snoc' {α:Type} {xs:List α} {k:Nat} {x:α} (h:xs[k]?=some x):xs.take (k+1)=xs.take k++[x]:=by
 obtain ⟨hk,rfl⟩:=List.getElem?_eq_some_iff.1 h
 exact List.take_succ_eq_append_getElem hk
theorem quietQ {P:Program} {f:FuncId} {args:Array Value} {w:World} {n:Nat} {v:Value} (h:Calls P f args (w.drewN n) (RetQ v (w.drewN n))) :
 Calls P f args (w.drewN n) fun e w''=>e=.returned v∧∃ m,w''=w.drewN m :=
 h.mono fun _ _ ⟨he,k,hk⟩=>⟨he,n+k,by rw [←hk,World.drewN_drewN]⟩
def RetNet (n:Int) (xss:List (List Int)) (w:World) (e:Ending) (w':World):Prop :=
 ∃ v,e=.returned (.agg #[.int .i64 n,v])∧Own2 w' 23 3 w.heap.size w'.heap.size v xss∧Below w.heap.size w w'
def inB (x lo hi:Int):Bool:=decide (lo≤x) && decide (x≤hi)
theorem inB_iff {x lo hi:Int} : inB x lo hi=true↔lo≤x∧x≤hi:=by simp [inB]
theorem inB_no {x lo hi:Int} : inB x lo hi=false↔¬ (lo≤x∧x≤hi):=by rw [←inB_iff];simp
def Known (f:Nat):Prop:=∀ (args:Array Value) (w:World),(callFunc f args).run Tryz.prog w=.ok (.enter f args) w
theorem known {f : Nat} {fn : Func} (hf : Tryz.prog.funcs[f]? = some fn) (hn : (fn.name == "runtime.NumGoroutine") = false) (hb : fn.body.isNone = false) : Known f := by
 intro args w
 have hn' : ¬ fn.name = "runtime.NumGoroutine" := by simpa using hn
 have hb':¬ fn.body=none:=by intro e;rw [e] at hb;cases hb
 simp [callFunc,hf,hn',hb']
theorem s_l01In (x lo hi:Int) (w:World):Calls Tryz.prog 175 #[.int .i64 x,.int .i64 lo,.int .i64 hi] w fun e w'=>e=.returned (.bool (inB x lo hi))∧w=w':=by
 by_cases h:lo≤x
 · have h1:decide (lo≤x)=true:=by simpa using h
   go_enter Tryz.func175,Tryz.ntmps175
   go_wp2
   go_ret
   exact ⟨ret_bool (by simp [inB,h];try omega),rfl⟩
 · have h1:decide (lo≤x)=false:=by simpa using h
   go_enter Tryz.func175,Tryz.ntmps175
   go_wp2
   go_ret
   exact ⟨ret_bool (by simp [inB,h];try omega),rfl⟩
theorem f_isNaN (x:Int) (w:World):Calls Tryz.prog 188 #[.int .i64 x] w fun e w'=>e=.returned (.bool false)∧w=w':=by
 go_enter Tryz.func188,Tryz.ntmps188
 go_wp2
 go_ret
 exact ⟨rfl,rfl⟩
theorem f_cmpLess (x y:Int) (w:World):Calls Tryz.prog 137 #[.int .i64 x,.int .i64 y] w fun e w'=>e=.returned (.bool (decide (x < y)))∧w=w':=by
 go_enter Tryz.func137,Tryz.ntmps137
 go_wp2_with (go_at_call 188;refine (f_isNaN _ _).mono ?_;rintro e w' ⟨rfl,rfl⟩)
 go_ret
 exact ⟨rfl,rfl⟩
theorem f_IsSorted (v:Value) (xs:List Int) (w:World) (h:Rd w v (ints xs)):Calls Tryz.prog 82 #[v] w (RetQ (.bool (adjB xs)) w):=by
 obtain ⟨a,c,rfl,h2,h3⟩:=h.formi
 go_enter Tryz.func82,Tryz.ntmps82
 go_wp2
 go_loopw [3] (fun i wr=>∃ n:Int,n≤(xs.length:Int) - 1∧i=.int .i64 n∧Dr w wr∧-1≤n∧Hid (∀ (m:Nat) y z,n≤(m:Int)→xs[m]?=some y→xs[m+1]?=some z→y≤z)) (fun i _=>(intOf i).toNat)
 case atStart=>exact ⟨_,Int.le_refl _,rfl,Dr.refl _,by omega,fun m _ z hm _ hz=>by have:=(List.getElem?_eq_some_iff.1 hz).1;omega⟩
 case round =>
  obtain ⟨n,hn,rfl,hdr,hn1,HN⟩:=hrel
  by_cases hlt:0 < n
  · obtain ⟨k,rfl⟩:∃ k:Nat,n=(k:Int)+1:=⟨(n - 1).toNat,by omega⟩
    obtain ⟨ad,y,rfl,hc3,hy⟩:=(h.dr hdr).int (show k < xs.length by omega)
    obtain ⟨ad2,z,had,hc4,hz⟩:=(h.dr hdr).int (show k+1 < xs.length by omega)
    obtain rfl:ad=ad2:=by injection had
    clear had
    rw [add_succ] at hc4
    have i1:(k:Int)+1 < (xs.length:Int):=by omega
    have i2:(k:Int) < (xs.length:Int):=by omega
    have i3:(0:Int)≤(k:Int):=by omega
    have i4:(0:Int)≤(k:Int)+1:=by omega
    have i5:((k:Int)+1).toNat=k+1:=by omega
    by_cases hzy:z < y
    · have hd:decide (z < y)=true:=by simpa using hzy
      go_wp2
      go_quiet ((go_at_call 137;exact Calls.quiet_of_same ((f_cmpLess _ _ _).mono fun _ _ hh=>⟨hh.1,hh.2.symm⟩)))
      go_wp2
      go_ret
      exact ⟨ret_bool (adjB_no hy.out hz.out hzy).symm,hdr.step _⟩
    · have hd:decide (z < y)=false:=by simpa using hzy
      go_wp2
      go_quiet ((go_at_call 137;exact Calls.quiet_of_same ((f_cmpLess _ _ _).mono fun _ _ hh=>⟨hh.1,hh.2.symm⟩)))
      go_wp2
      go_roundw
      case rel=>exact ⟨(k:Int),by omega,by go_num,hdr.step _,by omega,fun m y' z' hm hy' hz'=>by
       by_cases e:m=k
       · subst e
         rw [hy.out] at hy'
         rw [hz.out] at hz'
         cases hy'
         cases hz'
         omega
       · exact HN.out m y' z' (by omega) hy' hz'⟩
      case measure=>simp [intOf] <;> omega
  · go_wp2
    go_ret
    exact ⟨ret_bool (adjB_iff.2 fun m a b ha hb=>HN.out m a b (by omega) ha hb).symm,hdr⟩
def idxOf2 (p:List Int→Bool) (xss:List (List Int)):Int:=if xss.any p then (xss.findIdx p:Nat) else -1
theorem idxOf2_yes {p:List Int→Bool} {xs:List (List Int)} {k:Nat} {x:List Int} (hx:xs[k]?=some x) (hp:p x=true) (hno:∀ (j:Nat) y,j < k→xs[j]?=some y→p y=false):idxOf2 p xs=k:=by
 obtain ⟨hk,rfl⟩:=List.getElem?_eq_some_iff.1 hx
 have h1:xs.any p=true:=List.any_eq_true.2 ⟨_,List.getElem_mem hk,hp⟩
 unfold idxOf2
 rw [if_pos h1]
 have : xs.findIdx p=k:=by
  rw [List.findIdx_eq hk]
  exact ⟨hp,fun j hj=>by simpa using hno j xs[j] hj (List.getElem?_eq_getElem _)⟩
 rw [this]
theorem idxOf2_no {p:List Int→Bool} {xs:List (List Int)} (hno:∀ (j:Nat) y,j < xs.length→xs[j]?=some y→p y=false):idxOf2 p xs = -1:=by
 unfold idxOf2
 rw [if_neg]
 intro h
 obtain ⟨x,hx,hp⟩:=List.any_eq_true.1 h
 obtain ⟨j,hj,rfl⟩:=List.getElem_of_mem hx
 rw [hno j _ hj (List.getElem?_eq_getElem hj)] at hp
 cases hp
def halfK (xs:List Int) (from_ k:Nat):List Int:=(List.range k).map fun j=>xs.getD (from_+2 * j) 0
def halfL (xs:List Int) (from_:Nat):List Int:=halfK xs from_ ((xs.length+1 - from_) / 2)
theorem halfK_len (xs:List Int) (f k:Nat):(halfK xs f k).length=k:=by simp [halfK]
theorem halfL_len (xs:List Int) (f:Nat):(halfL xs f).length=(xs.length+1 - f) / 2:=halfK_len _ _ _
theorem halfK_succ {xs:List Int} {f k:Nat} {x:Int} (h:xs[f+2 * k]?=some x):halfK xs f (k+1)=halfK xs f k++[x]:=by
 simp [halfK,List.range_succ,List.getD_eq_getElem?_getD,h]
def cmpK (v w:List Int) (k:Nat):List (List Int):=(List.range k).map fun i=>[min (w.getD i 0) (v.getD (i+1) 0),max (w.getD i 0) (v.getD (i+1) 0)]
def cmpL (v w:List Int):List (List Int):=cmpK v w (min w.length (v.length - 1))
theorem cmpK_len (v w:List Int) (k:Nat):(cmpK v w k).length=k:=by simp [cmpK]
theorem cmpK_succ {v w:List Int} {k:Nat} {x y:Int} (h:w[k]?=some x) (h2:v[k+1]?=some y):cmpK v w (k+1)=cmpK v w k++[[min x y,max x y]]:=by
 simp [cmpK,List.range_succ,List.getD_eq_getElem?_getD,h,h2]
def mrg:Nat→List Int→List Int→List (List Int)
 | 0,_,_=>[]
 | f+1,a,b=>if a.length=0∨b.length=0 then [] else if a.length=1∧b.length=1 then [[a.getD 0 0,b.getD 0 0]]
   else mrg f (halfL a 0) (halfL b 0)++mrg f (halfL a 1) (halfL b 1)++cmpL (halfL a 0++halfL b 0) (halfL a 1++halfL b 1)
def mlb:Nat→Nat
 | 0=>0
 | f+1=>2 * mlb f+20
theorem mrg_len:∀ (f:Nat) (a b:List Int),a.length+b.length≤16→(mrg f a b).length≤mlb f
 | 0,a,b,_=>by simp [mrg,mlb]
 | f+1,a,b,h=>by
   have h0:=mrg_len f (halfL a 0) (halfL b 0) (by rw [halfL_len,halfL_len];omega)
   have h1:=mrg_len f (halfL a 1) (halfL b 1) (by rw [halfL_len,halfL_len];omega)
   have h2:(cmpL (halfL a 0++halfL b 0) (halfL a 1++halfL b 1)).length≤16:=by
    rw [cmpL,cmpK_len,List.length_append,List.length_append,halfL_len,halfL_len,halfL_len,halfL_len];omega
   rw [mrg,mlb]
   split
   · simp
   · split
     · simp
     · simp only [List.length_append];omega
theorem mlb_le:∀ {f g:Nat},f≤g→mlb f≤mlb g
 | 0,g,_=>by simp [mlb]
 | f+1,0,h=>by omega
 | f+1,g+1,h=>by have:=mlb_le (f:=f) (g:=g) (by omega);simp only [mlb];omega
theorem mrg_le {f:Nat} {a b:List Int} (h:a.length+b.length≤16) (hf:f≤16):(mrg f a b).length≤1310700 :=
 Nat.le_trans (mrg_len f a b h) (Nat.le_trans (mlb_le hf) (by decide))
def wiresL (from_ n:Nat):List Int:=(List.range n).map fun (i:Nat)=>((from_+i:Nat):Int)
theorem wiresL_len (f n:Nat):(wiresL f n).length=n:=by simp [wiresL]
theorem wiresL_succ (f n:Nat):wiresL f (n+1)=wiresL f n++[((f+n:Nat):Int)]:=by simp [wiresL,List.range_succ]
def batI:Nat→List Int→List (List Int)
 | 0,_=>[]
 | f+1,l=>if l.length≤1 then [] else batI f (l.take ((l.length+1) / 2))++batI f (l.drop ((l.length+1) / 2))++mrg l.length (l.take ((l.length+1) / 2)) (l.drop ((l.length+1) / 2))
def blb:Nat→Nat
 | 0=>0
 | f+1=>2 * blb f+1310700
theorem blb_le:∀ {f g:Nat},f≤g→blb f≤blb g
 | 0,g,_=>by simp [blb]
 | f+1,0,h=>by omega
 | f+1,g+1,h=>by have:=blb_le (f:=f) (g:=g) (by omega);simp only [blb];omega
theorem batI_len:∀ (f:Nat) (l:List Int),l.length≤16→(batI f l).length≤blb f
 | 0,l,_=>by simp [batI]
 | f+1,l,h=>by
   have h0:=batI_len f (l.take ((l.length+1) / 2)) (by rw [List.length_take];omega)
   have h1:=batI_len f (l.drop ((l.length+1) / 2)) (by rw [List.length_drop];omega)
   rw [batI,blb]
   split
   · simp
   · have h2:(mrg l.length (l.take ((l.length+1) / 2)) (l.drop ((l.length+1) / 2))).length≤1310700 :=
      mrg_le (by rw [List.length_take,List.length_drop];omega) h
     simp only [List.length_append];omega
theorem batI_le {f:Nat} {l:List Int} (h:l.length≤16) (hf:f≤16):(batI f l).length≤100000000000 :=
 Nat.le_trans (batI_len f l h) (Nat.le_trans (blb_le hf) (by decide))
theorem Rd.formN {w:World} {v:Value} {xs:List Int} (h:Rd w v (ints xs)):∃ (a:Option Addr) (m c:Nat),v=.slice a m c∧Hid (m=xs.length)∧m≤c∧c≤9223372036854775807:=by
 obtain ⟨a,c,h1,h2,h3⟩:=h.formi
 exact ⟨a,_,c,h1,rfl,h2,h3⟩
theorem oneCell_ints1 (xs:List Int):∀ u∈ints xs,u.oneCell'=true:=by
 intro u hu
 simp only [ints,List.mem_map] at hu
 obtain ⟨x,_,rfl⟩:=hu
 rfl
theorem ints_take (xs:List Int) (k:Nat):(ints xs).take k=ints (xs.take k):=by simp [ints]
theorem ints_drop (xs:List Int) (k:Nat):(ints xs).drop k=ints (xs.drop k):=by simp [ints]
theorem wpList_copy {P:Program} {w:World} {ops:Array Oper} {rest:List Oper} {o:Oper} {a:Act} {Q:Exit→Act→World→Prop} (hgd:o.guard=none) (s x:Operand) (t:TypeId)
 (ho:o.op=.call { callee:=.builtin .append,args:=#[s,x],argTypes:=#[t,t] })
 {E B bytes:Nat} {z:Value} (ht:ElemOk P t E bytes z) {vx:Value} {news:List Value} (hr:Rd w vx news) (hs:a.eval s=.slice (some ⟨w.heap.size,0,none⟩) 0 0) (hx:a.eval x=vx)
 (h1:∀ u∈news,u.oneCell'=true) (hB:B≤w.heap.size) (n:Nat) (hn:news.length=n) (hbytes:n * bytes≤140737488355328) (h63:n≤9223372036854775807)
 (h:∀ b c w',Own w' E w.heap.size (.slice b n c) news→Below w.heap.size w w'→wpList P ops Q rest (a.put o.dst (.slice b n c)) w'):wpList P ops Q (o :: rest) a (w.alloc (.cells #[] E)):=by
 subst hn
 have hlit:Own (w.alloc (.cells #[] E)) E w.heap.size (.slice (some ⟨w.heap.size,0,none⟩) 0 0) []:=by simpa [ints] using Own.lit0 w E (Nat.le_refl _)
 refine wpList_app hgd s x t ho ht hs hlit hx (hr.alloc _) h1 (by simp) (by simpa using hbytes) (by simpa using h63) fun b c w' h2 h3 h4=>?_
 simp only [List.length_nil,Nat.zero_add,List.nil_append] at h2 ⊢
 exact h b c w' h2 (((Below.refl _ _).alloc (Nat.le_refl _) _).grown h3 (by simp) fun r hr=>(hlit.lt r hr).1)
theorem wpList_appn {P:Program} {w:World} {ops:Array Oper} {rest:List Oper} {o:Oper} {a:Act} {Q:Exit→Act→World→Prop} (hgd:o.guard=none) (s x:Operand) (t:TypeId)
 (ho:o.op=.call { callee:=.builtin .append,args:=#[s,x],argTypes:=#[t,t] })
 {E B bytes:Nat} {z:Value} (ht:ElemOk P t E bytes z) {v:Value} {xs:List Value} (hown:Own w E B v xs) {vx:Value} {news:List Value} (hr:Rd w vx news) (hs:a.eval s=v) (hx:a.eval x=vx)
 (h1:∀ u∈news,u.oneCell'=true) (hB:B≤w.heap.size) (m:Nat) (hm:xs.length+news.length=m) (hbytes:m * bytes≤140737488355328) (h63:m≤9223372036854775807)
 (h:∀ b c w',Own w' E B (.slice b m c) (xs++news)→w.grownBy w' v.ownBlock →
  ((Value.slice b m c).ownBlock=v.ownBlock∨(Value.slice b m c).ownBlock=some w.heap.size) →
  wpList P ops Q rest (a.put o.dst (.slice b m c)) w'):wpList P ops Q (o :: rest) a w:=by
 subst hm
 exact wpList_app hgd s x t ho ht hs hown hx hr h1 hB hbytes h63 h
theorem wpList_app1m {P:Program} {w:World} {ops:Array Oper} {rest:List Oper} {o:Oper} {a:Act} {Q:Exit→Act→World→Prop} (hgd:o.guard=none) (s x:Operand) (t:TypeId)
 (ho:o.op=.call { callee:=.builtin .append,args:=#[s,x],argTypes:=#[t,t] })
 {E B bytes:Nat} {z:Value} (ht:ElemOk P t E bytes z) {v u:Value} {xs:List Value} (hs:a.eval s=v) (hown:Own w E B v xs) (hx:a.eval x=.slice (some ⟨w.heap.size,0,none⟩) 1 1)
 (h1:u.oneCell'=true) (hB:B≤w.heap.size) (m:Nat) (hm:xs.length=m) (hbytes:(m+1) * bytes≤140737488355328) (h63:m+1≤9223372036854775807)
 (h:∀ b c w',Own w' E B (.slice b (m+1) c) (xs++[u])→w.grownBy w' v.ownBlock →
  ((Value.slice b (m+1) c).ownBlock=v.ownBlock∨∃ k,w.heap.size≤k∧(Value.slice b (m+1) c).ownBlock=some k) →
  wpList P ops Q rest (a.put o.dst (.slice b (m+1) c)) w'):wpList P ops Q (o :: rest) a (w.alloc (.cells #[u] E)):=by
 subst hm
 exact wpList_app1 hgd s x t ho ht hs hown hx h1 hB hbytes h63 h
theorem Own.some_of {w:World} {E B:Nat} {b:Option Addr} {m c:Nat} {xs:List Value} (h:Own w E B (.slice b m c) xs) (hx:0 < xs.length):∃ p,b=some p:=by
 rcases h with ⟨_,rfl⟩ | ⟨g,off,c',cur,h1,_⟩
 · simp at hx
 · injection h1 with h1 _ _
   exact ⟨_,h1⟩
theorem Rd.cell_i {w:World} {p:Addr} {n c k:Nat} {xs:List Int} {x:Int} (h:Rd w (.slice (some p) n c) (ints xs)) (hx:xs[k]?=some x):w.cell? (p.add k)=some (.int .i64 x):=by
 obtain ⟨ad,y,had,hc,hy⟩:=h.int (List.getElem?_eq_some_iff.1 hx).1
 injection had with had
 subst had
 rw [hy.out] at hx
 cases hx
 exact hc
theorem grownBy_trans {w w1 w2:World} {r:Option Nat} (h:w.grownBy w1 r) (k:w1.grownBy w2 r):w.grownBy w2 r :=
 ⟨k.os.trans h.os,k.tape.trans h.tape,k.output.trans h.output,Nat.le_trans h.size k.size,fun i hi hne=>(k.block i (Nat.lt_of_lt_of_le hi h.size) hne).trans (h.block i hi hne)⟩
theorem grownBy_drewN {w w1:World} {r:Option Nat} (h:w.grownBy w1 r) (n:Nat):w.grownBy (w1.drewN n) r:=⟨h.os,h.tape,h.output,h.size,h.block⟩
def RowsP (w:World) (B:Nat) (rows:List Value) (xss:List (List Int)):Prop :=
 rows.length=xss.length∧∀ (i:Nat) (r:Value),rows[i]?=some r→∃ xs:List Int,xss[i]?=some xs∧Own w 3 B r (ints xs)
def OwnP (w:World) (B:Nat) (v:Value) (xss:List (List Int)):Prop:=∃ rows:List Value,Own w 23 B v rows∧RowsP w B rows xss
def RetOwnP (xss:List (List Int)) (w:World) (e:Ending) (w':World):Prop:=∃ v,e=.returned v∧OwnP w' w.heap.size v xss∧Below w.heap.size w w'
section
variable {w w' wl w6:World} {B B' B2 m c:Nat} {v v2 v6 u:Value} {rows rows2 ys:List Value} {xss yss:List (List Int)} {xs:List Int} {a b:Int}
theorem RowsP.nil (w:World) (B:Nat):RowsP w B [] []:=⟨rfl,fun i r h=>by simp at h⟩
theorem RowsP.keep (h:RowsP w B rows xss) (hk:∀ r∈rows,∀ k,k < w.heap.size→some k=r.ownBlock→w'.heap[k]?=w.heap[k]?):RowsP w' B rows xss :=
 ⟨h.1,fun i r hr=>by
  obtain ⟨xs,h1,h2⟩:=h.2 i r hr
  exact ⟨xs,h1,h2.keep (hk r (List.mem_of_getElem? hr))⟩⟩
theorem RowsP.below (h:RowsP w B rows xss) (hb:Below w.heap.size w w'):RowsP w' B rows xss:=h.keep fun _ _ k hk _=>hb.block k hk
theorem RowsP.mem (h:RowsP w B rows xss) {r:Value} (hr:r∈rows):∃ xs:List Int,Own w 3 B r (ints xs):=by
 obtain ⟨i,hi,rfl⟩:=List.getElem_of_mem hr
 obtain ⟨xs,_,h2⟩:=h.2 i _ (List.getElem?_eq_getElem hi)
 exact ⟨xs,h2⟩
theorem RowsP.one (h:RowsP w B rows xss):∀ u∈rows,u.oneCell'=true:=fun u hu=>by
 obtain ⟨xs,ho⟩:=h.mem hu
 obtain ⟨p,q,r,rfl,_,_,_⟩:=ho.rd.formN
 rfl
theorem RowsP.outer (h:RowsP w B rows xss) (hg:w.grownBy w' u.ownBlock) (hu:Own w 23 B2 u ys):RowsP w' B rows xss :=
 h.keep fun r hr k hk e=>by
  obtain ⟨xs,ho⟩:=h.mem hr
  exact hg.block k hk fun e2=>hu.elem_ne ho (by decide) k e2.symm e.symm
theorem RowsP.app (h:RowsP w B rows xss) (h2:RowsP w B rows2 yss):RowsP w B (rows++rows2) (xss++yss):=by
 refine ⟨by simp [h.1,h2.1],fun i r hr=>?_⟩
 rw [List.getElem?_append] at hr ⊢
 by_cases e:i < rows.length
 · rw [if_pos e] at hr
   rw [if_pos (by rw [←h.1];exact e)]
   exact h.2 i r hr
 · rw [if_neg e] at hr
   rw [if_neg (by rw [←h.1];exact e),←h.1]
   exact h2.2 _ r hr
theorem RowsP.mono (h:RowsP w B rows xss) (hb:B'≤B):RowsP w B' rows xss:=⟨h.1,fun i r hr=>by
 obtain ⟨xs,h1,h2⟩:=h.2 i r hr
 exact ⟨xs,h1,h2.mono hb⟩⟩
theorem RowsP.single (ho:Own w 3 B u (ints xs)):RowsP w B [u] [xs]:=⟨rfl,fun i r hr=>by
 match i,hr with
 | 0,hr=>simp at hr;subst hr;exact ⟨xs,rfl,ho⟩⟩
theorem RowsP.rd2 (h:RowsP w B rows xss) (hv:Rd w v rows):Rd2 w v xss:=⟨rows,hv,h.1,fun i r hr=>by
 obtain ⟨xs,h1,h2⟩:=h.2 i r hr
 exact ⟨xs,h1,h2.rd⟩⟩
theorem OwnP.rd2 (h:OwnP w B v xss):Rd2 w v xss:=by
 obtain ⟨rows,h1,h2⟩:=h
 exact h2.rd2 h1.rd
theorem OwnP.form (h:OwnP w B v xss):∃ (a:Option Addr) (c:Nat),v=.slice a xss.length c∧xss.length≤c∧c≤9223372036854775807:=h.rd2.form
theorem OwnP.formN (h:OwnP w B v xss):∃ (a:Option Addr) (m c:Nat),v=.slice a m c∧Hid (m=xss.length)∧m≤c∧c≤9223372036854775807:=by
 obtain ⟨a,c,rfl,h1,h2⟩:=h.form
 exact ⟨a,_,c,rfl,rfl,h1,h2⟩
theorem OwnP.below (h:OwnP w B v xss) (hb:Below w.heap.size w w'):OwnP w' B v xss:=by
 obtain ⟨rows,h1,h2⟩:=h
 exact ⟨rows,h1.below hb,h2.below hb⟩
theorem OwnP.mono (h:OwnP w B v xss) (hb:B'≤B):OwnP w B' v xss:=by
 obtain ⟨rows,h1,h2⟩:=h
 exact ⟨rows,h1.mono hb,h2.mono hb⟩
theorem OwnP.nil (w:World) (B:Nat):OwnP w B (.slice none 0 0) []:=⟨[],Own.nil _ _ _,RowsP.nil w B⟩
theorem OwnP.lit0 (w:World) (hB:B≤w.heap.size):OwnP (w.alloc (.cells #[] 23)) B (.slice (some ⟨w.heap.size,0,none⟩) 0 0) [] :=
 ⟨[],by simpa [ints] using Own.lit0 w 23 hB,RowsP.nil _ _⟩
theorem OwnP.grown {row:Option Nat} (h:OwnP w B v xss) (hg:w.grownBy w' row) (hne:∀ k,row=some k→w.heap.size≤k):OwnP w' B v xss :=
 h.below ⟨hg.os,hg.tape,hg.output,hg.size,fun k hk=>hg.block k hk fun e=>by have:=hne k e.symm;omega⟩
theorem OwnP.of_own2 {T:Nat} (h:Own2 w 23 3 B T v xss):OwnP w B v xss:=by
 obtain ⟨rows,h1,_,h3⟩:=h
 exact ⟨rows,h1,h3.1,fun i r hr=>by
  obtain ⟨xs,h4,h5⟩:=h3.row hr
  exact ⟨xs,h4,h5⟩⟩
theorem pair_own {g E:Nat} (h:w.heap[g]?=some (.cells #[.int .i64 a,.int .i64 b] E (0,0))) (hB:B≤g):Own w E B (.slice (some ⟨g,0,none⟩) 2 2) (ints [a,b]) :=
 .inr ⟨g,0,2,_,rfl,hB,h,by simp [ints],by omega,by simp,fun j u hu=>by
  match j,hu with
  | 0,hu=>simpa [ints] using hu
  | 1,hu=>simpa [ints] using hu⟩
theorem OwnP.lit1 (hB:B≤w.heap.size) (a b:Int):OwnP ((w.alloc (.cells #[.int .i64 a,.int .i64 b] 3)).alloc (.cells #[.slice (some ⟨w.heap.size,0,none⟩) 2 2] 23)) B (.slice (some ⟨w.heap.size+1,0,none⟩) 1 1) [[a,b]]:=by
 refine ⟨[.slice (some ⟨w.heap.size,0,none⟩) 2 2],?_,RowsP.single (pair_own ((Below.heap_alloc _ _ _ (by simp)).trans (heap_alloc_new w _)) hB)⟩
 have:=Own.lit (w.alloc (.cells #[.int .i64 a,.int .i64 b] 3)) 23 B #[.slice (some ⟨w.heap.size,0,none⟩) 2 2] (by simp;omega) (by simp)
 simpa using this
theorem OwnP.of_heap (h:OwnP w B v xss) (e:w'.heap=w.heap):OwnP w' B v xss:=by
 obtain ⟨rows,h1,h2⟩:=h
 exact ⟨rows,h1.keep fun k _ _=>by rw [e],h2.keep fun _ _ k _ _=>by rw [e]⟩
theorem OwnP.push {g:Nat} (hr:RowsP wl B rows xss) (hov:Own wl 23 B v rows) (hp:wl.heap[g]?=some (.cells #[.int .i64 a,.int .i64 b] 3 (0,0))) (hg:wl.grownBy w6 v.ownBlock)
 (ho:Own w6 23 B v6 (rows++[.slice (some ⟨g,0,none⟩) 2 2])) (hB:B≤g):OwnP w6 B v6 (xss++[[a,b]]) :=
 ⟨_,ho,(hr.app (RowsP.single (pair_own hp hB))).outer hg hov⟩
theorem OwnP.apart (h:OwnP w B v xss) (hg:w.grownBy w' u.ownBlock) (hu:Own w 23 B2 u ys) (hne:∀ k,v.ownBlock=some k→u.ownBlock≠some k):OwnP w' B v xss:=by
 obtain ⟨rows,h1,h2⟩:=h
 exact ⟨rows,h1.apart hg hne,h2.outer hg hu⟩
theorem Rd2.two {p:Option Addr} {k:Nat} {x y:Int} (h:Rd2 w (.slice p m c) xss) (hk:xss[k]?=some [x,y]) :
 ∃ (ad z:Addr) (d:Nat),p=some ad∧w.cell? (ad.add k)=some (.slice (some z) 2 d)∧w.cell? z=some (.int .i64 x)∧w.cell? ⟨z.block,z.off+(0+1),none⟩=some (.int .i64 y):=by
 obtain ⟨ad,b,m',d,xs',rfl,hc,hx,hm,hmd,hd,hr⟩:=h.row (List.getElem?_eq_some_iff.1 hk).1
 have e:=hx.out
 rw [hk] at e
 injection e with e
 subst e
 obtain rfl:m'=2:=hm.out
 obtain ⟨z,x',rfl,hcx,hxx⟩:=hr.int (k:=0) (by simp)
 obtain ⟨z',y',hz,hcy,hyy⟩:=hr.int (k:=1) (by simp)
 obtain rfl:z=z':=by injection hz
 have e1:=hxx.out
 have e2:=hyy.out
 simp only [List.getElem?_cons_zero,List.getElem?_cons_succ,Option.some.injEq] at e1 e2
 subst e1 e2
 rw [add_succ] at hcy
 exact ⟨ad,z,d,rfl,hc,by simpa [Addr.add] using hcx,hcy⟩
theorem OwnP.cat (hr:RowsP wl B rows xss) (hov:Own wl 23 B v rows) (hr2:RowsP wl B2 rows2 yss) (hBB:B≤B2) (hg:wl.grownBy w6 v.ownBlock) (ho:Own w6 23 B v6 (rows++rows2)):OwnP w6 B v6 (xss++yss) :=
 ⟨_,ho,(hr.app (hr2.mono hBB)).outer hg hov⟩
theorem OwnP.setBox {F q o:Nat} {cur:Array Value} (h:OwnP w B v xss) (hb:w.heap[q]?=some (.cells cur F (0,0))) (h1:F≠23) (h2:F≠3) (x:Value):OwnP (w.setCell ⟨q,o,none⟩ x) B v xss:=by
 obtain ⟨rows,k1,k2⟩:=h
 refine ⟨rows,k1.setCell (own_ne_box k1 hb h1) x,k2.keep fun r hr k hk e=>?_⟩
 obtain ⟨ys,ho⟩:=k2.mem hr
 exact heap_setCell_other w _ k x fun e2=>own_ne_box ho hb h2 (by rw [←e,e2])
theorem OwnP.under {row:Option Nat} (h:OwnP w B v xss) (hg:w.grownBy w' row) (hne:∀ k,row=some k→k < B):OwnP w' B v xss:=by
 obtain ⟨rows,h1,h2⟩:=h
 refine ⟨rows,h1.apart hg fun k hk e=>?_,h2.keep fun r hr k hk e=>hg.block k hk fun e2=>?_⟩
 · have:=(h1.lt k hk).1
   have:=hne k e
   omega
 · obtain ⟨xs,ho⟩:=h2.mem hr
   have:=(ho.lt k e.symm).1
   have:=hne k e2.symm
   omega
end
def idxOf (p:Int→Bool) (xs:List Int):Int:=if xs.any p then (xs.findIdx p:Nat) else -1
theorem idxOf_yes {p:Int→Bool} {xs:List Int} {k:Nat} {x:Int} (hx:xs[k]?=some x) (hp:p x=true) (hno:∀ j y,j < k→xs[j]?=some y→p y=false):idxOf p xs=k:=by
 obtain ⟨hk,rfl⟩:=List.getElem?_eq_some_iff.1 hx
 have h1:xs.any p=true:=List.any_eq_true.2 ⟨_,List.getElem_mem hk,hp⟩
 unfold idxOf
 rw [if_pos h1]
 have : xs.findIdx p=k:=by
  rw [List.findIdx_eq hk]
  exact ⟨hp,fun j hj=>by simpa using hno j xs[j] hj (List.getElem?_eq_getElem _)⟩
 rw [this]
theorem idxOf_no {p:Int→Bool} {xs:List Int} (hno:∀ (j:Nat) y,j < xs.length→xs[j]?=some y→p y=false):idxOf p xs = -1:=by
 unfold idxOf
 rw [if_neg]
 intro h
 obtain ⟨x,hx,hp⟩:=List.any_eq_true.1 h
 obtain ⟨j,hj,rfl⟩:=List.getElem_of_mem hx
 rw [hno j _ hj (List.getElem?_eq_getElem hj)] at hp
 cases hp
theorem idxOf_any (p:Int→Bool) (xs:List Int):decide (0≤idxOf p xs)=xs.any p:=by
 unfold idxOf
 cases h:xs.any p <;> simp
theorem f_IndexFunc (p:Int→Bool) (fn:Nat) (cap:Array Value) (hk:Known fn) (v:Value) (xs:List Int) (w:World) (h:Rd w v (ints xs))
 (hf:∀ x∈xs,Calls Tryz.prog fn (#[.int .i64 x]++cap) w fun e w'=>e=.returned (.bool (p x))∧w=w') :
 Calls Tryz.prog 183 #[v,.func (.func fn) #[] cap] w fun e w'=>e=.returned (.int .i64 (idxOf p xs))∧w=w':=by
 obtain ⟨a,c,rfl,h2,h3⟩:=h.formi
 go_enter Tryz.func183,Tryz.ntmps183
 go_wp2
 go_loop [8] (fun i=>∃ k:Nat,k≤xs.length∧i=.int .i64 k∧(∀ j y,j < k→xs[j]?=some y→p y=false)) (fun i=>xs.length - (intOf i).toNat)
 case atStart=>exact ⟨0,Nat.zero_le _,rfl,fun j y hj=>by omega⟩
 case round =>
  obtain ⟨k,hkl,rfl,hno⟩:=hrel
  have HN:=Lib.hid hno
  clear hno
  by_cases hlt:k < xs.length
  · obtain ⟨ad,x,rfl,hc,hx⟩:=h.int hlt
    have HF:=Lib.hid (hf x (List.mem_of_getElem? hx.out))
    clear hf
    have hcall:=hk (#[.int .i64 x]++cap) w
    cases hp:p x
    · rw [hp] at HF
      go_wp2_with (with_reducible refine (HF.out).mono ?_;rintro e w' ⟨rfl,rfl⟩)
      go_round
      case rel=>exact ⟨k+1,by omega,by go_num,fun j y hj hy=>by
       by_cases e:j=k
       · subst e
         rw [hx.out] at hy
         cases hy
         exact hp
       · exact HN.out j y (by omega) hy⟩
      case measure=>simp [intOf];omega
    · rw [hp] at HF
      go_wp2_with (with_reducible refine (HF.out).mono ?_;rintro e w' ⟨rfl,rfl⟩)
      go_ret
      exact ⟨ret_int (idxOf_yes hx.out hp HN.out).symm,rfl⟩
  · obtain rfl:k=xs.length:=by omega
    clear hf
    go_wp2
    go_ret
    exact ⟨ret_int (idxOf_no HN.out).symm,rfl⟩
theorem f_ContainsFunc (p:Int→Bool) (fn:Nat) (cap:Array Value) (hk:Known fn) (v:Value) (xs:List Int) (w:World) (h:Rd w v (ints xs))
 (hf:∀ x∈xs,Calls Tryz.prog fn (#[.int .i64 x]++cap) w fun e w'=>e=.returned (.bool (p x))∧w=w') :
 Calls Tryz.prog 119 #[v,.func (.func fn) #[] cap] w fun e w'=>e=.returned (.bool (xs.any p))∧w=w':=by
 have H:=f_IndexFunc p fn cap hk v xs w h hf
 have HI:=Lib.hid (idxOf_any p xs)
 clear hf hk h
 generalize idxOf p xs=r at *
 go_enter Tryz.func119,Tryz.ntmps119
 go_wp2_with (go_at_call 183;refine H.mono ?_;rintro e w' ⟨rfl,rfl⟩)
 go_ret
 exact ⟨ret_bool (by rw [←HI.out]),rfl⟩
structure OwnsL (w:World) (E B:Nat) (L:List (Value × List Int)):Prop where
 own:∀ p∈L,Own w E B p.1 (ints p.2)
 ap:L.Pairwise fun p q=>∀ g,p.1.ownBlock=some g→q.1.ownBlock≠some g
section
variable {w w':World} {E B:Nat} {L L1 L2:List (Value × List Int)} {v v':Value} {xs ys:List Int} {p0 p1 p2 p3 p4:Value × List Int}
theorem OwnsL.turn (h:OwnsL w E B (L1++(v,xs) :: L2)) (hg:w.grownBy w' v.ownBlock) (ho:Own w' E B v' (ints ys)) (hat:∀ g,v'.ownBlock=some g→v.ownBlock=some g∨w.heap.size≤g):OwnsL w' E B (L1++(v',ys) :: L2):=by
 obtain ⟨a1,a2,a3⟩:=List.pairwise_append.1 h.ap
 obtain ⟨b1,b2⟩:=List.pairwise_cons.1 a2
 have lt:∀ p∈L1++(v,xs) :: L2,∀ g,p.1.ownBlock=some g→g < w.heap.size:=fun p hp g hgg=>((h.own p hp).lt g hgg).2
 refine ⟨fun p hp=>?_,List.pairwise_append.2 ⟨a1,List.pairwise_cons.2 ⟨fun q hq g h1 h2=>?_,b2⟩,fun p hp q hq g h1 h2=>?_⟩⟩
 · rcases List.mem_append.1 hp with hp | hp
   · exact (h.own p (by simp [hp])).apart hg fun g h1 h2=>a3 p hp (v,xs) (by simp) g h1 h2
   · rcases List.mem_cons.1 hp with rfl | hp
     · exact ho
     · exact (h.own p (by simp [hp])).apart hg fun g h1 h2=>b1 p hp g h2 h1
 · rcases hat g h1 with h3 | h3
   · exact b1 q hq g h3 h2
   · have:=lt q (by simp [hq]) g h2;omega
 · rcases List.mem_cons.1 hq with rfl | hq
   · rcases hat g h2 with h3 | h3
     · exact a3 p hp (v,xs) (by simp) g h1 h3
     · have:=lt p (by simp [hp]) g h1;omega
   · exact a3 p hp q (by simp [hq]) g h1 h2
theorem OwnsL.below (h:OwnsL w E B L) (hb:Below w.heap.size w w'):OwnsL w' E B L:=⟨fun p hp=>(h.own p hp).below hb,h.ap⟩
theorem OwnsL.dr (h:OwnsL w E B L) (hd:Dr w w'):OwnsL w' E B L:=h.below (hd.below _)
theorem OwnsL.fresh (h:OwnsL w E B (L1++(v,xs) :: L2)) (hb:Below w.heap.size w w') (hB:B≤w.heap.size) (ho:Own w' E w.heap.size v' (ints ys)):OwnsL w' E B (L1++(v',ys) :: L2):=by
 obtain ⟨a1,a2,a3⟩:=List.pairwise_append.1 h.ap
 obtain ⟨b1,b2⟩:=List.pairwise_cons.1 a2
 have lt:∀ p∈L1++(v,xs) :: L2,∀ g,p.1.ownBlock=some g→g < w.heap.size:=fun p hp g hgg=>((h.own p hp).lt g hgg).2
 refine ⟨fun p hp=>?_,List.pairwise_append.2 ⟨a1,List.pairwise_cons.2 ⟨fun q hq g h1 h2=>?_,b2⟩,fun p hp q hq g h1 h2=>?_⟩⟩
 · rcases List.mem_append.1 hp with hp | hp
   · exact (h.own p (by simp [hp])).below hb
   · rcases List.mem_cons.1 hp with rfl | hp
     · exact ho.mono hB
     · exact (h.own p (by simp [hp])).below hb
 · have:=lt q (by simp [hq]) g h2
   have:=(ho.lt g h1).1
   omega
 · rcases List.mem_cons.1 hq with rfl | hq
   · have:=lt p (by simp [hp]) g h1
     have:=(ho.lt g h2).1
     omega
   · exact a3 p hp q (by simp [hq]) g h1 h2
theorem OwnsL.snoc (h:OwnsL w E B L) (hb:Below w.heap.size w w') (hB:B≤w.heap.size) (ho:Own w' E w.heap.size v' (ints ys)):OwnsL w' E B (L++[(v',ys)]):=by
 refine ⟨fun p hp=>?_,List.pairwise_append.2 ⟨h.ap,by simp,fun p hp q hq g h1 h2=>?_⟩⟩
 · rcases List.mem_append.1 hp with hp | hp
   · exact (h.own p hp).below hb
   · rw [List.mem_singleton] at hp
     subst hp
     exact ho.mono hB
 · rw [List.mem_singleton] at hq
   subst hq
   have:=((h.own p hp).lt g h1).2
   have:=(ho.lt g h2).1
   omega
theorem OwnsL.nil (w:World) (E B:Nat):OwnsL w E B []:=⟨fun p h=>(by cases h),List.Pairwise.nil⟩
theorem OwnsL.left (h:OwnsL w E B (L1++L2)):OwnsL w E B L1:=⟨fun p hp=>h.own p (by simp [hp]),(List.pairwise_append.1 h.ap).1⟩
theorem OwnsL.right (h:OwnsL w E B (L1++L2)):OwnsL w E B L2:=⟨fun p hp=>h.own p (by simp [hp]),(List.pairwise_append.1 h.ap).2.1⟩
theorem OwnsL.t0 (h:OwnsL w E B ((v,xs) :: L2)) (hg:w.grownBy w' v.ownBlock) (ho:Own w' E B v' (ints ys)) (hat:∀ g,v'.ownBlock=some g→v.ownBlock=some g∨w.heap.size≤g):OwnsL w' E B ((v',ys) :: L2):=OwnsL.turn (L1:=[]) h hg ho hat
theorem OwnsL.t1 (h:OwnsL w E B (p0 :: (v,xs) :: L2)) (hg:w.grownBy w' v.ownBlock) (ho:Own w' E B v' (ints ys)) (hat:∀ g,v'.ownBlock=some g→v.ownBlock=some g∨w.heap.size≤g):OwnsL w' E B (p0 :: (v',ys) :: L2):=OwnsL.turn (L1:=[p0]) h hg ho hat
theorem OwnsL.t2 (h:OwnsL w E B (p0 :: p1 :: (v,xs) :: L2)) (hg:w.grownBy w' v.ownBlock) (ho:Own w' E B v' (ints ys)) (hat:∀ g,v'.ownBlock=some g→v.ownBlock=some g∨w.heap.size≤g):OwnsL w' E B (p0 :: p1 :: (v',ys) :: L2):=OwnsL.turn (L1:=[p0,p1]) h hg ho hat
theorem OwnsL.t3 (h:OwnsL w E B (p0 :: p1 :: p2 :: (v,xs) :: L2)) (hg:w.grownBy w' v.ownBlock) (ho:Own w' E B v' (ints ys)) (hat:∀ g,v'.ownBlock=some g→v.ownBlock=some g∨w.heap.size≤g):OwnsL w' E B (p0 :: p1 :: p2 :: (v',ys) :: L2):=OwnsL.turn (L1:=[p0,p1,p2]) h hg ho hat
theorem OwnsL.t4 (h:OwnsL w E B (p0 :: p1 :: p2 :: p3 :: (v,xs) :: L2)) (hg:w.grownBy w' v.ownBlock) (ho:Own w' E B v' (ints ys)) (hat:∀ g,v'.ownBlock=some g→v.ownBlock=some g∨w.heap.size≤g):OwnsL w' E B (p0 :: p1 :: p2 :: p3 :: (v',ys) :: L2):=OwnsL.turn (L1:=[p0,p1,p2,p3]) h hg ho hat
theorem OwnsL.f3 (h:OwnsL w E B (p0 :: p1 :: p2 :: (v,xs) :: L2)) (hb:Below w.heap.size w w') (hB:B≤w.heap.size) (ho:Own w' E w.heap.size v' (ints ys)):OwnsL w' E B (p0 :: p1 :: p2 :: (v',ys) :: L2):=OwnsL.fresh (L1:=[p0,p1,p2]) h hb hB ho
theorem OwnsL.f4 (h:OwnsL w E B (p0 :: p1 :: p2 :: p3 :: (v,xs) :: L2)) (hb:Below w.heap.size w w') (hB:B≤w.heap.size) (ho:Own w' E w.heap.size v' (ints ys)):OwnsL w' E B (p0 :: p1 :: p2 :: p3 :: (v',ys) :: L2):=OwnsL.fresh (L1:=[p0,p1,p2,p3]) h hb hB ho
theorem OwnsL.o0 (h:OwnsL w E B (p0 :: L)):Own w E B p0.1 (ints p0.2):=h.own p0 (by simp)
theorem OwnsL.o1 (h:OwnsL w E B (p0 :: p1 :: L)):Own w E B p1.1 (ints p1.2):=h.own p1 (by simp)
theorem OwnsL.o2 (h:OwnsL w E B (p0 :: p1 :: p2 :: L)):Own w E B p2.1 (ints p2.2):=h.own p2 (by simp)
theorem OwnsL.o3 (h:OwnsL w E B (p0 :: p1 :: p2 :: p3 :: L)):Own w E B p3.1 (ints p3.2):=h.own p3 (by simp)
theorem OwnsL.o4 (h:OwnsL w E B (p0 :: p1 :: p2 :: p3 :: p4 :: L)):Own w E B p4.1 (ints p4.2):=h.own p4 (by simp)
theorem hat_of {b:Option Addr} {m c:Nat} {n:Nat} {r:Option Nat} (h:(Value.slice b m c).ownBlock=r∨∃ k,n≤k∧(Value.slice b m c).ownBlock=some k):∀ g,(Value.slice b m c).ownBlock=some g→r=some g∨n≤g:=fun g hg=>by
 rcases h with h | ⟨k,hk,h⟩
 · exact .inl (h ▸ hg)
 · rw [h] at hg;cases hg;exact .inr hk
end
def popA (x:Int):List Int→List Int→List UInt8→List Int × List Int × List UInt8
 | o,[],w=>(o,[],w)
 | o,a :: r,w=>if a < x then popA x (o++[a]) r (w++[116]) else (o,a :: r,w)
def stk1 (q:List Int × List Int × List UInt8) (x:Int):List Int × List Int × List UInt8 :=
 ((popA x q.1 q.2.1 q.2.2).1,x :: (popA x q.1 q.2.1 q.2.2).2.1,(popA x q.1 q.2.1 q.2.2).2.2++[112])
def stkR (xs:List Int) (k:Nat):List Int × List Int × List UInt8:=(xs.take k).foldl stk1 ([],[],[])
def stkS (xs:List Int):List Int:=(stkR xs xs.length).1++(stkR xs xs.length).2.1
def stkW (xs:List Int):List UInt8:=(stkR xs xs.length).2.2++List.replicate (stkR xs xs.length).2.1.length 116
theorem popA_eq (x:Int) (r:List Int):∀ o w,∃ p q,r=p++q∧(popA x o r w)=(o++p,q,w++List.replicate p.length 116)∧(∀ y∈p,y < x)∧(∀ y q2,q=y :: q2→¬ y < x):=by
 induction r with
 | nil=>intro o w;exact ⟨[],[],rfl,by simp [popA],by simp,by simp⟩
 | cons a r ih =>
   intro o w
   by_cases h:a < x
   · obtain ⟨p,q,h1,h2,h3,h4⟩:=ih (o++[a]) (w++[116])
     refine ⟨a :: p,q,by rw [h1];rfl,?_,?_,h4⟩
     · rw [popA,if_pos h,h2]
       simp [List.replicate_succ]
     · intro y hy
       rcases List.mem_cons.1 hy with rfl | hy
       · exact h
       · exact h3 y hy
   · exact ⟨[],a :: r,rfl,by rw [popA,if_neg h];simp,by simp,fun y q2 e=>by injection e with e1 _;rw [←e1];exact h⟩
theorem stkR_succ {xs:List Int} {k:Nat} {x:Int} (h:xs[k]?=some x):stkR xs (k+1)=stk1 (stkR xs k) x:=by
 unfold stkR
 have : xs.take (k+1)=xs.take k++[x]:=by
  rw [List.take_add_one,h];rfl
 rw [this,List.foldl_append];rfl
theorem stk1_len (q:List Int × List Int × List UInt8) (x:Int) (k:Nat) (h:q.1.length+q.2.1.length=k∧q.2.2.length=k+q.1.length) :
 (stk1 q x).1.length+(stk1 q x).2.1.length=k+1∧(stk1 q x).2.2.length=k+1+(stk1 q x).1.length:=by
 obtain ⟨p,s,h1,h2,_,_⟩:=popA_eq x q.2.1 q.1 q.2.2
 unfold stk1
 rw [h2]
 rw [h1] at h
 simp at h ⊢
 omega
theorem stkR_len (xs:List Int):∀ k,k≤xs.length→(stkR xs k).1.length+(stkR xs k).2.1.length=k∧(stkR xs k).2.2.length=k+(stkR xs k).1.length:=by
 intro k
 induction k with
 | zero=>intro _;simp [stkR]
 | succ k ih =>
   intro h
   rw [stkR_succ (List.getElem?_eq_getElem (show k < xs.length by omega))]
   exact stk1_len _ _ _ (ih (by omega))
theorem stk1_perm (q:List Int × List Int × List UInt8) (x:Int):((stk1 q x).1++(stk1 q x).2.1).Perm (x :: (q.1++q.2.1)):=by
 obtain ⟨p,s,h1,h2,_,_⟩:=popA_eq x q.2.1 q.1 q.2.2
 unfold stk1
 rw [h2,h1]
 simp only [List.append_assoc]
 have:=(List.perm_middle (a:=x) (l₁:=q.1++p) (l₂:=s))
 simpa using this
theorem fold_perm (L:List Int):∀ q,((L.foldl stk1 q).1++(L.foldl stk1 q).2.1).Perm (L++(q.1++q.2.1)):=by
 induction L with
 | nil=>intro q;exact List.Perm.refl _
 | cons x L ih =>
   intro q
   refine (ih (stk1 q x)).trans ?_
   refine ((stk1_perm q x).append_left L).trans ?_
   exact List.perm_middle
theorem stkR_all (xs:List Int):stkR xs xs.length=xs.foldl stk1 ([],[],[]):=by unfold stkR;rw [List.take_length]
theorem stkS_perm (xs:List Int):(stkS xs).Perm xs:=by
 unfold stkS
 rw [stkR_all]
 simpa using fold_perm xs ([],[],[])
def StkG (q:List Int × List Int × List UInt8):Prop:=(q.1=[]∧q.2.1=[])∨∃ r0 m,q.2.1=r0++[m]∧∀ y∈q.1++r0,y < m
theorem stk1_G {q:List Int × List Int × List UInt8} {x:Int} (h:StkG q) (hx:x ∉ q.1++q.2.1):∃ r0 m,(stk1 q x).2.1=r0++[m]∧∀ y∈(stk1 q x).1++r0,y < m:=by
 obtain ⟨p,s,h1,h2,h3,h4⟩:=popA_eq x q.2.1 q.1 q.2.2
 unfold stk1
 rw [h2]
 dsimp only
 rcases h with ⟨e1,e2⟩ | ⟨r0,m,e1,e2⟩
 · rw [e2] at h1
   obtain ⟨rfl,rfl⟩:=List.append_eq_nil_iff.1 h1.symm
   exact ⟨[],x,rfl,by rw [e1];simp⟩
 · by_cases hs:s=[]
   · subst hs
     rw [List.append_nil] at h1
     have hm:m < x:=h3 m (by rw [←h1,e1];simp)
     refine ⟨[],x,rfl,fun y hy=>?_⟩
     simp only [List.append_nil,List.mem_append] at hy
     rcases hy with hy | hy
     · have:=e2 y (by simp [hy]);omega
     · exact h3 y hy
   · obtain ⟨s0,m',rfl⟩:∃ s0 m',s=s0++[m']:=⟨s.dropLast,s.getLast hs,(List.dropLast_concat_getLast hs).symm⟩
     rw [e1,←List.append_assoc] at h1
     have hj:=List.append_inj' h1 rfl
     obtain ⟨hr,hm⟩:=hj
     injection hm with hm _
     subst hm
     have hxm:x≠m:=fun e=>hx (by rw [e1,e];simp)
     have hlt:x < m:=by
      rcases s0 with _ | ⟨y,s1⟩
      · have:=h4 m [] rfl;omega
      · have h5:=h4 y _ rfl
        have h6:=e2 y (by rw [hr];simp)
        omega
     refine ⟨x :: s0,m,rfl,fun y hy=>?_⟩
     simp only [List.mem_append,List.mem_cons] at hy
     rcases hy with (hy | hy) | hy | hy
     · exact e2 y (by simp [hy])
     · exact e2 y (by rw [hr];simp [hy])
     · rw [hy];exact hlt
     · exact e2 y (by rw [hr];simp [hy])
theorem fold_G (L:List Int):∀ q,StkG q→(L++(q.1++q.2.1)).Nodup→StkG (L.foldl stk1 q):=by
 induction L with
 | nil=>intro q h _;exact h
 | cons x L ih =>
   intro q h hn
   refine ih _ (.inr (stk1_G h ?_)) ?_
   · have:=(List.nodup_cons.1 hn).1
     exact fun hx=>this (List.mem_append_right L hx)
   · refine (List.Perm.nodup_iff ?_).2 hn
     exact ((stk1_perm q x).append_left L).trans List.perm_middle
theorem popA_all {x:Int} {r:List Int} (h:∀ y∈r,y < x) (o:List Int) (w:List UInt8):(popA x o r w).1=o++r∧(popA x o r w).2.1=[]:=by
 obtain ⟨p,q,h1,h2,h3,h4⟩:=popA_eq x r o w
 rcases q with _ | ⟨y,q⟩
 · rw [h2,h1];simp
 · exact absurd (h y (by rw [h1];simp)) (h4 y q rfl)
theorem fold_asc (B:List Int):∀ q,B.Pairwise (· < ·)→(∀ y∈q.2.1,∀ b∈B,y < b)→(B.foldl stk1 q).1++(B.foldl stk1 q).2.1=q.1++q.2.1++B:=by
 induction B with
 | nil=>intro q _ _;simp
 | cons b B ih =>
   intro q hB hq
   obtain ⟨p1,p2⟩:=popA_all (x:=b) (r:=q.2.1) (fun y hy=>hq y hy b (by simp)) q.1 q.2.2
   obtain ⟨b1,b2⟩:=List.pairwise_cons.1 hB
   have e1:(stk1 q b).1=q.1++q.2.1:=by unfold stk1;exact p1
   have e2:(stk1 q b).2.1=[b]:=by unfold stk1;dsimp only;rw [p2]
   have:=ih (stk1 q b) b2 (fun y hy c hc=>by rw [e2,List.mem_singleton] at hy;subst hy;exact b1 c hc)
   rw [List.foldl_cons,this,e1,e2]
   simp
theorem stkS_split {A B:List Int} (hA:A≠[]) (hn:(A++B).Nodup) (hB:B.Pairwise (· < ·)) (hAB:∀ a∈A,∀ b∈B,a < b) :
 ∃ A' m,stkS (A++B)=A'++(m :: B)∧A'.length+1=A.length∧(∀ a∈A',a < m)∧(∀ a∈A',∀ b∈B,a < b)∧∀ b∈B,m < b:=by
 have hp:=fold_perm A ([],[],[])
 simp only [List.append_nil] at hp
 have hg:=fold_G A ([],[],[]) (.inl ⟨rfl,rfl⟩) (by simpa using (List.nodup_append.1 hn).1)
 obtain ⟨o,r,w,hq⟩:∃ o r w,A.foldl stk1 ([],[],[])=(o,r,w):=⟨_,_,_,rfl⟩
 rw [hq] at hp hg
 dsimp only at hp
 have hsub:∀ y∈o++r,y∈A:=fun y hy=>hp.mem_iff.1 hy
 have hS:stkS (A++B)=o++r++B:=by
  unfold stkS
  rw [stkR_all,List.foldl_append,hq]
  exact fold_asc B (o,r,w) hB fun y hy b hb=>hAB y (hsub y (by simp [show y∈r from hy])) b hb
 rcases hg with ⟨e1,e2⟩ | ⟨r0,m,e1,e2⟩
 · dsimp only at e1 e2
   subst e1;subst e2
   exact absurd (List.nil_perm.1 hp) hA
 · dsimp only at e1 e2
   subst e1
   refine ⟨o++r0,m,by rw [hS];simp,?_,e2,fun a ha b hb=>hAB a (hsub a (by simp at ha ⊢;rcases ha with h | h <;> simp [h])) b hb,fun b hb=>hAB m (hsub m (by simp)) b hb⟩
   have:=hp.length_eq
   simp at this ⊢
   omega
def Rnd (n:Nat) (ys:List Int):Prop:=ys.Nodup∧∃ A B,ys=A++B∧A.length+n≤8∧B.Pairwise (· < ·)∧∀ a∈A,∀ b∈B,a < b
theorem Rnd.start {xs:List Int} (hn:xs.Nodup) (hl:xs.length≤8):Rnd 0 xs:=⟨hn,xs,[],by simp,by simpa using hl,List.Pairwise.nil,by simp⟩
theorem pairlt_adjB {ys:List Int} (h:ys.Pairwise (· < ·)):adjB ys=true:=by
 refine adjB_iff.2 fun m a b ha hb=>?_
 obtain ⟨h1,e1⟩:=List.getElem?_eq_some_iff.1 ha
 obtain ⟨h2,e2⟩:=List.getElem?_eq_some_iff.1 hb
 have:=List.pairwise_iff_getElem.1 h m (m+1) h1 h2 (by omega)
 rw [e1,e2] at this
 omega
theorem Rnd.step {n:Nat} {ys:List Int} (h:Rnd n ys) (hno:adjB ys=false):n < 8∧Rnd (n+1) (stkS ys):=by
 obtain ⟨hn,A,B,rfl,hl,hB,hAB⟩:=h
 have hA:A≠[]:=by
  rintro rfl
  rw [List.nil_append,pairlt_adjB hB] at hno
  cases hno
 obtain ⟨A',m,e,h1,h2,h3,h4⟩:=stkS_split hA hn hB hAB
 refine ⟨by omega,?_,A',m :: B,e,by omega,List.pairwise_cons.2 ⟨h4,hB⟩,fun a ha b hb=>?_⟩
 · exact (stkS_perm _).nodup_iff.2 hn
 · rcases List.mem_cons.1 hb with rfl | hb
   · exact h2 a ha
   · exact h3 a ha b hb
def rndN:Nat→List Int→Nat
 | 0,_=>0
 | f+1,ys=>if adjB ys then 0 else rndN f (stkS ys)+1
theorem rndN_yes {f:Nat} {ys:List Int} (h:adjB ys=true):rndN f ys=0:=by cases f with | zero=>rfl | succ f=>rw [rndN,if_pos h]
theorem rndN_no {f:Nat} {ys:List Int} (h:adjB ys=false):rndN (f+1) ys=rndN f (stkS ys)+1:=by rw [rndN,h];rfl
theorem rndN_le:∀ (f:Nat) (ys:List Int),rndN f ys≤f:=by
 intro f
 induction f with
 | zero=>intro ys;exact Nat.le_refl _
 | succ f ih =>
   intro ys
   rw [rndN]
   split
   · omega
   · have:=ih (stkS ys);omega
def OrdP (n:Nat) (xs:List Int):Prop:=(∀ x∈xs,0≤x∧x < (n:Int))∧xs.Nodup
def ordB (n:Nat) (xs:List Int):Bool:=(xs.all fun x=>decide (0≤x) && decide (x < (n:Int))) && decide xs.Nodup
theorem ordB_iff {n:Nat} {xs:List Int} : ordB n xs=true↔OrdP n xs:=by simp [ordB,OrdP]
theorem ordB_no {n:Nat} {xs:List Int} (h:¬ OrdP n xs):ordB n xs=false:=by
 cases e:ordB n xs
 · rfl
 · exact absurd (ordB_iff.1 e) h
def shortB (xs:List Int):Bool:=decide (xs.length≤8) && ordB xs.length xs
theorem shortB_iff {xs:List Int} : shortB xs=true↔xs.length≤8∧OrdP xs.length xs:=by
 simp only [shortB,Bool.and_eq_true,decide_eq_true_eq,ordB_iff]
theorem shortB_perm {xs ys:List Int} (h:ys.Perm xs) (hx:shortB xs=true):shortB ys=true:=by
 obtain ⟨h1,h2,h3⟩:=shortB_iff.1 hx
 exact shortB_iff.2 ⟨by rw [h.length_eq];exact h1,fun y hy=>by rw [h.length_eq];exact h2 y (h.mem_iff.1 hy),h.nodup_iff.2 h3⟩
def SeenP (n:Nat) (xs:List Int) (k:Nat) (S:List Bool):Prop :=
 S.length=n∧(∀ (v:Nat) (b:Bool),S[v]?=some b→b=decide ((v:Int)∈xs.take k))∧(∀ x∈xs.take k,0≤x∧x < (n:Int))∧(xs.take k).Nodup
theorem SeenP.start (n:Nat) (xs:List Int):SeenP n xs 0 (List.replicate n false):=⟨by simp,fun v b h=>by
 have:=List.mem_of_getElem? h
 simp at this
 simp [this.2],by simp,by simp⟩
theorem take_add1 {xs:List Int} {k:Nat} {x:Int} (h:xs[k]?=some x):xs.take (k+1)=xs.take k++[x]:=by rw [List.take_add_one,h];rfl
theorem SeenP.next {n k X:Nat} {xs:List Int} {S:List Bool} (h:SeenP n xs k S) (hx:xs[k]?=some (X:Int)) (hX:X < n) (hf:S[X]?=some false):SeenP n xs (k+1) (S.set X true):=by
 obtain ⟨h1,h2,h3,h4⟩:=h
 have hno:(X:Int) ∉ xs.take k:=by simpa using h2 X false hf
 rw [SeenP,take_add1 hx]
 refine ⟨by simpa using h1,fun v b hb=>?_,fun x hx=>?_,?_⟩
 · by_cases e:v=X
   · subst e
     rw [List.getElem?_set_self (by omega)] at hb
     cases hb
     simp
   · rw [List.getElem?_set_ne (fun h=>e h.symm)] at hb
     rw [h2 v b hb]
     have : ¬ (v:Int)=(X:Int):=by omega
     simp [this]
 · rcases List.mem_append.1 hx with hx | hx
   · exact h3 x hx
   · rw [List.mem_singleton] at hx;subst hx;omega
 · rw [List.nodup_append]
   exact ⟨h4,by simp,fun a ha b hb=>by rw [List.mem_singleton] at hb;subst hb;exact fun e=>hno (e ▸ ha)⟩
theorem SeenP.out {n k:Nat} {xs:List Int} {S:List Bool} {x:Int} (h:SeenP n xs k S) (hx:xs[k]?=some x) (hX:¬ (0≤x∧x < (n:Int))):ordB n xs=false :=
 ordB_no fun ho=>hX (ho.1 x (List.mem_of_getElem? hx))
theorem SeenP.twice {n k X:Nat} {xs:List Int} {S:List Bool} (h:SeenP n xs k S) (hx:xs[k]?=some (X:Int)) (hf:S[X]?=some true):ordB n xs=false:=by
 refine ordB_no fun ho=>?_
 have hy:(X:Int)∈xs.take k:=by simpa using h.2.1 X true hf
 have hn:=ho.2
 rw [←List.take_append_drop k xs,List.nodup_append] at hn
 refine hn.2.2 _ hy _ ?_ rfl
 obtain ⟨hk,e⟩:=List.getElem?_eq_some_iff.1 hx
 rw [List.drop_eq_getElem_cons hk,e]
 simp
theorem SeenP.fin {n:Nat} {xs:List Int} {S:List Bool} (h:SeenP n xs xs.length S):ordB n xs=true:=by
 refine ordB_iff.2 ?_
 have h3:=h.2.2
 rw [List.take_length] at h3
 exact h3
def Tri (xs:List Int) (i j k:Nat):Prop:=i < j∧j < k∧k < xs.length∧xs.getD k 0 < xs.getD i 0∧xs.getD i 0 < xs.getD j 0
def canB (xs:List Int):Bool:=(List.range xs.length).all fun k=>(List.range xs.length).all fun i=>(List.range xs.length).all fun j=>!(decide (i < j∧j < k∧xs.getD k 0 < xs.getD i 0∧xs.getD i 0 < xs.getD j 0))
theorem canB_yes {xs:List Int} (h:∀ i j k,¬ Tri xs i j k):canB xs=true:=by
 refine List.all_eq_true.2 fun k hk=>List.all_eq_true.2 fun i hi=>List.all_eq_true.2 fun j hj=>?_
 rw [List.mem_range] at hk
 have:=h i j k
 simp only [Tri] at this
 simp only [Bool.not_eq_true',decide_eq_false_iff_not]
 exact fun hh=>this ⟨hh.1,hh.2.1,hk,hh.2.2.1,hh.2.2.2⟩
theorem canB_no {xs:List Int} {i j k:Nat} (h:Tri xs i j k):canB xs=false:=by
 cases hc:canB xs
 · rfl
 · obtain ⟨h1,h2,h3,h4,h5⟩:=h
   have:=List.all_eq_true.1 (List.all_eq_true.1 (List.all_eq_true.1 hc k (List.mem_range.2 h3)) i (List.mem_range.2 (by omega))) j (List.mem_range.2 (by omega))
   simp only [Bool.not_eq_true',decide_eq_false_iff_not] at this
   exact absurd ⟨h1,h2,h4,h5⟩ this
def RetOwnB (E:Nat) (xs:List Value) (b:Bool) (w:World) (e:Ending) (w':World):Prop :=
 ∃ v,e=.returned (.tuple #[v,.bool b])∧Own w' E w.heap.size v xs∧Below w.heap.size w w'
theorem Own2.app {w w':World} {EO E B T:Nat} {v v':Value} {rows rows':List Value} {xss':List (List Int)} (hr:RowsOwn w E B T rows' xss') (ho:Own w EO B v rows) (hne:EO≠E) (hg:w.grownBy w' v.ownBlock) (ho':Own w' EO B v' rows') (hT:T≤w'.heap.size):Own2 w' EO E B w'.heap.size v' xss' :=
 ⟨rows',ho',fun k hk=>(ho'.lt k hk).2,(hr.outer hg ho hne).mono (Nat.le_refl _) hT⟩
theorem f_IndexFuncB (p:Int→Bool) (fn:Nat) (cap:Array Value) (hk:Known fn) (v:Value) (xs:List Int) (w:World) (h:Rd w v (ints xs))
 (hf:∀ (wr:World) (x:Int),Below w.heap.size w wr→x∈xs→Calls Tryz.prog fn (#[.int .i64 x]++cap) wr (RetB (.bool (p x)) wr)) :
 Calls Tryz.prog 183 #[v,.func (.func fn) #[] cap] w (RetB (.int .i64 (idxOf p xs)) w):=by
 obtain ⟨a,c,rfl,h2,h3⟩:=h.formi
 have HF0:=Lib.hid hf
 clear hf
 go_enter Tryz.func183,Tryz.ntmps183
 go_wp2
 go_loopw [8] (fun i wr=>∃ k:Nat,k≤xs.length∧i=.int .i64 k∧Below w.heap.size w wr∧Hid (∀ (j:Nat) y,j < k→xs[j]?=some y→p y=false)) (fun i _=>xs.length - (intOf i).toNat)
 case atStart=>exact ⟨0,Nat.zero_le _,rfl,Below.refl _ _,fun j y hj=>by omega⟩
 case round =>
  obtain ⟨k,hkl,rfl,hdr,HN⟩:=hrel
  by_cases hlt:k < xs.length
  · obtain ⟨ad,x,rfl,hc,hx⟩:=(h.below hdr).int hlt
    have HF:=Lib.hid (HF0.out wr x hdr (List.mem_of_getElem? hx.out))
    have hcall:=hk (#[.int .i64 x]++cap) wr
    cases hp:p x
    · rw [hp] at HF
      go_wp2_with ((with_reducible refine (HF.out).mono ?_);rintro e w2 ⟨rfl,hd2⟩)
      go_roundw
      case rel=>exact ⟨k+1,by omega,by go_num,hdr.trans (hd2.mono hdr.size),fun j y hj hy=>by
       by_cases e:j=k
       · subst e
         rw [hx.out] at hy
         cases hy
         exact hp
       · exact HN.out j y (by omega) hy⟩
      case measure=>simp [intOf];omega
    · rw [hp] at HF
      go_wp2_with ((with_reducible refine (HF.out).mono ?_);rintro e w2 ⟨rfl,hd2⟩)
      go_ret
      exact ⟨ret_int (idxOf_yes hx.out hp HN.out).symm,hdr.trans (hd2.mono hdr.size)⟩
  · obtain rfl:xs.length=k:=by omega
    go_wp2
    go_ret
    exact ⟨ret_int (idxOf_no HN.out).symm,hdr⟩
theorem f_ContainsFuncB (p:Int→Bool) (fn:Nat) (cap:Array Value) (hk:Known fn) (v:Value) (xs:List Int) (w:World) (h:Rd w v (ints xs))
 (hf:∀ (wr:World) (x:Int),Below w.heap.size w wr→x∈xs→Calls Tryz.prog fn (#[.int .i64 x]++cap) wr (RetB (.bool (p x)) wr)) :
 Calls Tryz.prog 119 #[v,.func (.func fn) #[] cap] w (RetB (.bool (xs.any p)) w):=by
 have H:=f_IndexFuncB p fn cap hk v xs w h hf
 have HI:=Lib.hid (idxOf_any p xs)
 clear hf hk h
 generalize idxOf p xs=r at *
 go_enter Tryz.func119,Tryz.ntmps119
 go_wp2_with (go_at_call 183;refine H.mono ?_;rintro e w2 ⟨rfl,hd⟩)
 go_ret
 exact ⟨ret_bool (by rw [←HI.out]),hd⟩
theorem RowsOwn.set {w w2:World} {E B T T' j:Nat} {rows:List Value} {r r':Value} {xss:List (List Int)} {ys:List Int} (h:RowsOwn w E B T rows xss) (hr:rows[j]?=some r) (hg:w.grownBy w2 r.ownBlock) (ho:Own w2 E B r' (ints ys)) (hT:T≤T')
 (hat:∀ g,r'.ownBlock=some g→r.ownBlock=some g∨T≤g) (hT':∀ g,r'.ownBlock=some g→g < T'):RowsOwn w2 E B T' (rows.set j r') (xss.set j ys):=by
 have hj:=(List.getElem?_eq_some_iff.1 hr).1
 refine ⟨by simp [h.1],fun i s hs=>?_,fun i k s t hik hs ht g hg2=>?_⟩
 · rw [List.getElem?_set] at hs
   by_cases e:j=i
   · subst e
     rw [if_pos rfl,if_pos hj] at hs
     cases hs
     exact ⟨ys,by rw [List.getElem?_set,if_pos rfl,if_pos (by rw [←h.1];exact hj)],ho,hT'⟩
   · rw [if_neg e] at hs
     obtain ⟨xs,h1,h2,h3⟩:=h.2.1 i s hs
     refine ⟨xs,by rw [List.getElem?_set,if_neg e];exact h1,h2.apart hg fun g hg2 e2=>?_,fun g hg2=>Nat.lt_of_lt_of_le (h3 g hg2) hT⟩
     rcases Nat.lt_or_gt_of_ne e with e3 | e3
     · exact h.2.2 j i r s e3 hr hs g e2 hg2
     · exact h.2.2 i j s r e3 hs hr g hg2 e2
 · rw [List.getElem?_set] at hs ht
   by_cases e:j=i
   · subst e
     rw [if_pos rfl,if_pos hj] at hs
     cases hs
     rw [if_neg (by omega)] at ht
     intro e2
     obtain ⟨_,_,_,h3⟩:=h.2.1 k t ht
     rcases hat g hg2 with e3 | e3
     · exact h.2.2 j k r t hik hr ht g e3 e2
     · have:=h3 g e2;omega
   · rw [if_neg e] at hs
     by_cases e4:j=k
     · subst e4
       rw [if_pos rfl,if_pos hj] at ht
       cases ht
       intro e2
       obtain ⟨_,_,_,h3⟩:=h.2.1 i s hs
       rcases hat g e2 with e3 | e3
       · exact h.2.2 i j s r hik hs hr g hg2 e3
       · have:=h3 g hg2;omega
     · rw [if_neg e4] at ht
       exact h.2.2 i k s t hik hs ht g hg2
theorem f_Index (v:Value) (xs:List Int) (x:Int) (w:World) (h:Rd w v (ints xs)) :
 Calls Tryz.prog 91 #[v,.int .i64 x] w fun e w'=>e=.returned (.int .i64 (idxOf (fun y=>decide (x=y)) xs))∧w=w':=by
 obtain ⟨a,c,rfl,h2,h3⟩:=h.formi
 go_enter Tryz.func91,Tryz.ntmps91
 go_wp2
 go_loop [8] (fun i=>∃ k:Nat,k≤xs.length∧i=.int .i64 k∧(∀ j y,j < k→xs[j]?=some y→decide (x=y)=false)) (fun i=>xs.length - (intOf i).toNat)
 case atStart=>exact ⟨0,Nat.zero_le _,rfl,fun j y hj=>by omega⟩
 case round =>
  obtain ⟨k,hkl,rfl,hno⟩:=hrel
  have HN:=Lib.hid hno
  clear hno
  by_cases hlt:k < xs.length
  · obtain ⟨ad,y,rfl,hc,hy⟩:=h.int hlt
    cases hp:(x == y)
    · go_wp2
      go_round
      case rel=>exact ⟨k+1,by omega,by go_num,fun j z hj hz=>by
       by_cases e:j=k
       · subst e
         rw [hy.out] at hz
         cases hz
         simpa using hp
       · exact HN.out j z (by omega) hz⟩
      case measure=>simp [intOf];omega
    · have HE:=Lib.hid (idxOf_yes (p:=fun y=>decide (x=y)) hy.out (by simpa using hp) HN.out)
      go_wp2
      go_ret
      exact ⟨ret_int HE.out.symm,rfl⟩
  · obtain rfl:k=xs.length:=by omega
    have HE:=Lib.hid (idxOf_no (p:=fun y=>decide (x=y)) HN.out)
    go_wp2
    go_ret
    exact ⟨ret_int HE.out.symm,rfl⟩
def TK (xss:List (List Int)) (t:List Int):Prop:=t.length=xss.length∧∀ (k:Nat) n xs,t[k]?=some n→xss[k]?=some xs→0≤n∧n≤(xs.length:Int)
theorem getD_ok {T:List Int} {k:Nat} {t:Int} (h:T[k]?=some t):T.getD k 0=t:=by rw [List.getD_eq_getElem?_getD,h];rfl
theorem take_ok {xs:List Int} {k:Nat} {x:Int} (h:xs[k]?=some x):xs.take (k+1)=xs.take k++[x]:=by rw [List.take_add_one,h];rfl
theorem drop_ok {xs:List Int} {k:Nat} {x:Int} (h:xs[k]?=some x):xs.drop k=x :: xs.drop (k+1):=by
 obtain ⟨hk,rfl⟩:=List.getElem?_eq_some_iff.1 h
 exact List.drop_eq_getElem_cons hk
def invN:List Int→Nat
 | []=>0
 | x :: xs=>xs.countP (fun y=>decide (y < x))+invN xs
theorem invN_le:∀ xs:List Int,invN xs≤xs.length * xs.length
 | []=>by simp [invN]
 | x :: xs=>by
   have h1:=invN_le xs
   have h2:=List.countP_le_length (p:=fun y=>decide (y < x)) (l:=xs)
   simp only [invN,List.length_cons]
   rw [Nat.add_mul,Nat.mul_add]
   omega
theorem countP_take {xs:List Int} {k:Nat} {x:Int} (p:Int→Bool) (h:xs[k]?=some x):(xs.take (k+1)).countP p=(xs.take k).countP p+(if p x=true then 1 else 0):=by
 rw [take_ok h,List.countP_append,List.countP_cons,List.countP_nil];omega
def runB (xs:List Int) (k:Nat):Bool:=decide (k=0) || decide (xs.getD k 0 < xs.getD (k - 1) 0)
def runN (xs:List Int):Nat→Nat
 | 0=>0
 | k+1=>runN xs k+(if runB xs k=true then 1 else 0)
theorem runN_le (xs:List Int):∀ k,runN xs k≤k
 | 0=>Nat.le_refl _
 | k+1=>by
   have:=runN_le xs k
   rw [runN]
   split <;> omega
def dpIn (xs L:List Int) (y:Int):Nat→Int
 | 0=>1
 | k+1=>if xs.getD k 0≤y then max (dpIn xs L y k) (L.getD k 0+1) else dpIn xs L y k
def dpL (xs:List Int):Nat→List Int
 | 0=>[]
 | i+1=>dpL xs i++[dpIn xs (dpL xs i) (xs.getD i 0) i]
def dpB (xs:List Int):Nat→Int
 | 0=>0
 | i+1=>max (dpB xs i) (dpIn xs (dpL xs i) (xs.getD i 0) i)
theorem dpL_len (xs:List Int):∀ i,(dpL xs i).length=i
 | 0=>rfl
 | i+1=>by rw [dpL,List.length_append,dpL_len xs i];rfl
theorem dpIn_bd {xs L:List Int} {y:Int} {m:Int} (hL:∀ v∈L,v≤m) (hm:0≤m):∀ k,1≤dpIn xs L y k∧dpIn xs L y k≤m+1
 | 0=>by simp [dpIn];omega
 | k+1=>by
   have h1:=dpIn_bd (xs:=xs) (y:=y) hL hm k
   have h2:L.getD k 0≤m:=by
    rw [List.getD_eq_getElem?_getD]
    cases h:L[k]? with
    | none=>simpa using hm
    | some v=>exact hL v (List.mem_of_getElem? h)
   rw [dpIn]
   split <;> omega
theorem dpL_bd (xs:List Int):∀ i,∀ v∈dpL xs i,v≤(i:Int)
 | 0=>by simp [dpL]
 | i+1=>by
   intro v hv
   rw [dpL,List.mem_append,List.mem_singleton] at hv
   rcases hv with hv | rfl
   · have:=dpL_bd xs i v hv;omega
   · have:=(dpIn_bd (xs:=xs) (y:=xs.getD i 0) (dpL_bd xs i) (by omega) i).2
     omega
theorem dpB_bd (xs:List Int):∀ i,0≤dpB xs i∧dpB xs i≤(i:Int)
 | 0=>by simp [dpB]
 | i+1=>by
   have h1:=dpB_bd xs i
   have h2:=dpIn_bd (xs:=xs) (y:=xs.getD i 0) (dpL_bd xs i) (by omega) i
   rw [dpB]
   omega
def farN (q:List Int):Nat→Int
 | 0=>0
 | k+1=>max (farN q k) (max ((k:Int) - q.getD k 0) (q.getD k 0 - (k:Int)))
theorem farN_bd {q:List Int} {m:Int} (hq:∀ v∈q,0≤v∧v < m) (hm:0≤m):∀ k:Nat,(k:Int)≤m→0≤farN q k∧farN q k≤m
 | 0,_=>by simp [farN];exact hm
 | k+1,hk=>by
   have h1:=farN_bd hq hm k (by omega)
   have h2:0≤q.getD k 0∧q.getD k 0≤m:=by
    rw [List.getD_eq_getElem?_getD]
    cases h:q[k]? with
    | none=>exact ⟨Int.le_refl _,hm⟩
    | some v=>have:=hq v (List.mem_of_getElem? h);exact ⟨this.1,by show v≤m;omega⟩
   rw [farN]
   omega
end Go.Proofs.YtggblfnajeikjaaGreatDoor
