/- Joined texts of the proof: PlainRes, OwnSort, FlipA, FlipE, Res, Known. -/
import Derived.Lib.SliceRun
import Derived.Lib.RowBridge
import Derived.Sort.OwnSortedInts
import Derived.Test.YtggblfnajeikjaaGreatDoorJ11
import Derived.Test.YtggblfnajeikjaaGreatDoorJ13
import Derived.Test.YtggblfnajeikjaaGreatDoorJ33
namespace Go.Proofs.YtggblfnajeikjaaGreatDoor
open Go.RowKit
set_option linter.unusedVariables false
set_option linter.unusedSimpArgs false
set_option maxRecDepth 100000
set_option maxHeartbeats 16000000
theorem asc_eq:∀ {a b:List Int},a.Pairwise (· < ·)→b.Pairwise (· < ·)→(∀ x,x∈a↔x∈b)→a=b
 | [],[],_,_,_=>rfl
 | [],y :: t,_,_,h=>by have:=(h y).2 (by simp);simp at this
 | x :: s,[],_,_,h=>by have:=(h x).1 (by simp);simp at this
 | x :: s,y :: t,ha,hb,h=>by
   rw [List.pairwise_cons] at ha hb
   have e:x=y:=by
    have h1:=(h x).1 (by simp)
    have h2:=(h y).2 (by simp)
    rcases List.mem_cons.1 h1 with e | h1
    · exact e
    · rcases List.mem_cons.1 h2 with e | h2
      · exact e.symm
      · have:=hb.1 x h1
        have:=ha.1 y h2
        omega
   subst e
   rw [asc_eq ha.2 hb.2 fun z=>?_]
   constructor
   · intro hz
     rcases List.mem_cons.1 ((h z).1 (List.mem_cons_of_mem _ hz)) with e | h1
     · have:=ha.1 z hz;omega
     · exact h1
   · intro hz
     rcases List.mem_cons.1 ((h z).2 (List.mem_cons_of_mem _ hz)) with e | h1
     · have:=hb.1 z hz;omega
     · exact h1
theorem getB (zs:List Int) {j:Nat} (h:j < zs.length):zs.toArray[j]! = zs[j]:=by
 rw [getElem!_pos zs.toArray j (by simpa using h)]
 simp
theorem compact_mem {zs:List Int} {x:Int} : x∈Lib.compact zs↔x∈zs:=by
 unfold Lib.compact Lib.compactUpTo
 simp only [List.mem_map,List.mem_filter,List.mem_range]
 constructor
 · rintro ⟨j,⟨hj,_⟩,rfl⟩
   rw [getB zs hj]
   exact List.getElem_mem hj
 · intro hx
   obtain ⟨j,hj,rfl⟩:=List.getElem_of_mem hx
   have go:∀ j (hj:j < zs.length),∃ a,(a < zs.length∧Lib.keeps zs.toArray a=true)∧zs.toArray[a]! = zs[j]:=by
    intro j
    induction j with
    | zero=>intro hj;exact ⟨0,⟨hj,by simp [Lib.keeps]⟩,getB zs hj⟩
    | succ j ih =>
      intro hj
      by_cases e:zs.toArray[j+1]! = zs.toArray[j]!
      · obtain ⟨a,h1,h2⟩:=ih (by omega)
        refine ⟨a,h1,?_⟩
        rw [h2,←getB zs hj,e,getB zs (by omega)]
      · exact ⟨j+1,⟨hj,by rw [Lib.keeps,decide_eq_true_eq];exact .inr e⟩,getB zs hj⟩
   exact go j hj
theorem compact_asc {zs:List Int} (h:zs.Pairwise (·≤·)):(Lib.compact zs).Pairwise (· < ·):=by
 unfold Lib.compact Lib.compactUpTo
 rw [List.pairwise_map]
 refine List.Pairwise.imp_of_mem ?_ (List.Pairwise.filter _ List.pairwise_lt_range)
 intro a b ha hb hab
 simp only [List.mem_filter,List.mem_range] at ha hb
 have hk:=hb.2
 rw [Lib.keeps,decide_eq_true_eq] at hk
 have h1:zs.toArray[b]!≠zs.toArray[b - 1]!:=hk.resolve_left (by omega)
 rw [getB zs hb.1,getB zs (show b - 1 < zs.length by omega)] at h1
 rw [getB zs ha.1,getB zs hb.1]
 rw [List.pairwise_iff_getElem] at h
 have h2:=h (b - 1) b (by omega) hb.1 (by omega)
 have h3:zs[a]≤zs[b - 1]'(by omega):=by
  rcases Nat.lt_or_ge a (b - 1) with h' | h'
  · exact h a (b - 1) ha.1 (by omega) h'
  · have : a=b - 1:=by omega
    subst this
    exact Int.le_refl _
 omega
def dedL (M:Nat) (l:List Nat):List Int:=((List.range M).filter fun r=>l.contains r).map fun (r:Nat)=>(r:Int)
def msort (xs:List Int):List Int:=xs.mergeSort fun x y=>decide (x≤y)
theorem msort_len (xs:List Int):(msort xs).length=xs.length:=(List.mergeSort_perm _ _).length_eq
theorem compact_dedL {M:Nat} {l:List Nat} (h:∀ x∈l,x < M):Lib.compact (msort (l.map fun (x:Nat)=>(x:Int)))=dedL M l:=by
 apply asc_eq
 · apply compact_asc
   have:=List.pairwise_mergeSort (le:=fun (x y:Int)=>decide (x≤y)) (fun a b c h1 h2=>by simp at *;omega) (fun a b=>by simp;omega) (l.map fun (x:Nat)=>(x:Int))
   exact this.imp fun h=>by simpa using h
 · rw [dedL,List.pairwise_map]
   exact (List.Pairwise.filter _ List.pairwise_lt_range).imp fun h=>by omega
 · intro x
   rw [compact_mem,msort,List.mem_mergeSort,dedL]
   simp only [List.mem_map,List.mem_filter,List.mem_range,List.contains_iff_mem]
   constructor
   · rintro ⟨a,ha,rfl⟩
     exact ⟨a,⟨h a ha,ha⟩,rfl⟩
   · rintro ⟨a,⟨_,ha⟩,rfl⟩
     exact ⟨a,ha,rfl⟩
section
open Go.RowKit Go.Sort
theorem own_holds {w:World} {E B n c g off:Nat} {xs:List Int} (h:Own w E B (.slice (some ⟨g,off,none⟩) n c) (ints xs)):n=xs.length∧n≤c∧g < w.heap.size∧Holds (Value.int .i64) w g off xs.toArray:=by
 rcases h with ⟨h,_⟩ | ⟨g',off',c',cur,h1,h2,h3,h4,h5,h6,h7⟩
 · cases h
 · injection h1 with e1 e2 e3
   injection e1 with e1
   injection e1 with e4 e5
   subst e4 e5 e3
   rw [ints_length] at e2 h4
   refine ⟨e2,by omega,(Array.getElem?_eq_some_iff.1 h3).1,fun j hj=>?_⟩
   have hj':j < xs.length:=by simpa using hj
   refine ⟨?_,by simp [World.frozen?,h3]⟩
   have:=h7 j (.int .i64 xs[j]) (by simp [ints,hj'])
   simp only [World.cell?,h3]
   rw [getElem!_pos xs.toArray j (by simpa using hj')]
   simpa using this
theorem own_put {w:World} {E B n c g off q:Nat} {os:Array Obj} {xs ys:List Int} (h:Own w E B (.slice (some ⟨g,off,none⟩) n c) (ints xs)) (hl:ys.length=xs.length) :
 Own (grow (putRow (Value.int .i64) (Sort.ahead w q) g off ys.toArray) os) E B (.slice (some ⟨g,off,none⟩) n c) (ints ys)∧w.grownBy (grow (putRow (Value.int .i64) (Sort.ahead w q) g off ys.toArray) os) (some g):=by
 rcases h with ⟨h,_⟩ | ⟨g',off',c',cur,h1,h2,h3,h4,h5,h6,h7⟩
 · cases h
 · injection h1 with e1 e2 e3
   injection e1 with e1
   injection e1 with e4 e5
   subst e4 e5 e3
   rw [ints_length] at e2 h4
   have hg:g < w.heap.size:=(Array.getElem?_eq_some_iff.1 h3).1
   have hb:(grow (putRow (Value.int .i64) (Sort.ahead w q) g off ys.toArray) os).heap[g]?=some (.cells (putCells (Value.int .i64) off ys.toArray cur) E (0,0)):=by
    rw [heap_grow_old _ _ (by simpa using hg)]
    simp [putRow,mapBlock,Sort.ahead,Array.getElem?_modify,h3,onCells]
   refine ⟨.inr ⟨g,off,c,_,by rw [ints_length,hl,e2],h2,hb,by rw [ints_length];omega,h5,by simpa [putCells] using h6,fun j u hu=>?_⟩,rfl,rfl,rfl,by simp,fun k hk hne=>?_⟩
   · obtain ⟨hj,rfl⟩:=List.getElem?_eq_some_iff.1 hu
     have hj':j < ys.length:=by simpa [ints] using hj
     have hc:=h7 j (.int .i64 (xs[j]'(by omega))) (by simp [ints,show j < xs.length by omega])
     simp only [putCells,Array.getElem?_mapIdx,hc,Option.map_some]
     rw [if_pos ⟨by omega,by simp;omega⟩,show off+j - off=j by omega,getElem!_pos ys.toArray j (by simpa using hj')]
     simp [ints]
   · rw [heap_grow_old _ _ (by simpa using hk)]
     have : g≠k:=fun e=>hne (by rw [e])
     simp [putRow,mapBlock,Sort.ahead,Array.getElem?_modify,this]
theorem own_cut {w:World} {E B n c m:Nat} {a:Addr} {xs:List Int} (h:Own w E B (.slice (some a) n c) (ints xs)) (hm:m≤xs.length):Own w E B (.slice (some a) m c) (ints (xs.take m)):=by
 rcases h with ⟨h,_⟩ | ⟨g',off',c',cur,h1,h2,h3,h4,h5,h6,h7⟩
 · cases h
 · injection h1 with e1 e2 e3
   injection e1 with e1
   subst e1 e3
   rw [ints_length] at h4
   exact .inr ⟨g',off',c,cur,by rw [ints_length,List.length_take,Nat.min_eq_left hm],h2,h3,by rw [ints_length,List.length_take];omega,h5,h6,fun j u hu=>h7 j u (by
    rw [←ints_take,List.getElem?_take] at hu
    split at hu
    · exact hu
    · cases hu)⟩
theorem f_SortI (v:Value) (xs:List Int) (B:Nat) (w:World) (ho:Own w 3 B v (ints xs)) (h0:0 < xs.length) (hl:xs.length≤1000000) :
 Calls Tryz.prog 184 #[v] w fun e w'=>e=.returned (.tuple #[])∧Own w' 3 B v (ints (msort xs))∧w.grownBy w' v.ownBlock:=by
 obtain ⟨a,c,rfl,h2,h3⟩:=ho.rd.formi
 obtain ⟨⟨g,off,fr⟩,rfl⟩:=ho.some_of (by rw [ints_length];exact h0)
 obtain rfl:fr=none:=by
  rcases ho with ⟨h,_⟩ | ⟨g',off',c',cur,h1,_⟩
  · cases h
  · injection h1 with h1
    injection h1 with h1
    injection h1
 obtain ⟨e,hc,hg,hH⟩:=own_holds ho
 refine (Tryz.slices_Sort_int g off c xs w hH hg (by omega)).mono ?_
 rintro e w' ⟨rfl,q,os,rfl⟩
 have:=own_put (q:=q) (os:=os) ho (msort_len xs)
 exact ⟨rfl,this.1,this.2⟩
theorem f_CompactI (v:Value) (xs:List Int) (B:Nat) (w:World) (ho:Own w 3 B v (ints xs)) (h0:0 < xs.length) (hl:xs.length≤1000000) :
 Calls Tryz.prog 185 #[v] w fun e w'=>∃ v',e=.returned v'∧Own w' 3 B v' (ints (Lib.compact xs))∧w.grownBy w' v.ownBlock∧v'.ownBlock=v.ownBlock:=by
 obtain ⟨a,c,rfl,h2,h3⟩:=ho.rd.formi
 obtain ⟨⟨g,off,fr⟩,rfl⟩:=ho.some_of (by rw [ints_length];exact h0)
 obtain rfl:fr=none:=by
  rcases ho with ⟨h,_⟩ | ⟨g',off',c',cur,h1,_⟩
  · cases h
  · injection h1 with h1
    injection h1 with h1
    injection h1
 obtain ⟨e,hc,hg,hH⟩:=own_holds ho
 have hcl:=Lib.compact_length_le xs
 refine (Tryz.slices_Compact_int g off c xs w hH (by omega) hc).mono ?_
 rintro e w' ⟨rfl,q,rfl⟩
 have:=own_put (q:=q) (os:=#[]) (ys:=Lib.compact xs++List.replicate (xs.length - (Lib.compact xs).length) 0) ho (by simp;omega)
 have h1:=own_cut this.1 (m:=(Lib.compact xs).length) (by simp)
 rw [List.take_left'] at h1
 · have e:∀ W:World,grow W #[]=W:=fun W=>by simp [grow]
   rw [e] at h1 this
   exact ⟨_,rfl,h1,this.2,rfl⟩
 · rfl
end
section
open Go.RowKit Go.Sort
theorem own_pre {w:World} {E B n c g off q:Nat} {xs ys:List Int} (h:Own w E B (.slice (some ⟨g,off,none⟩) n c) (ints xs)) (hl:ys.length≤xs.length) :
 Own (putRow (Value.int .i64) (Sort.ahead w q) g off ys.toArray) E B (.slice (some ⟨g,off,none⟩) n c) (ints (ys++xs.drop ys.length))∧w.grownBy (putRow (Value.int .i64) (Sort.ahead w q) g off ys.toArray) (some g):=by
 rcases h with ⟨h,_⟩ | ⟨g',off',c',cur,h1,h2,h3,h4,h5,h6,h7⟩
 · cases h
 · injection h1 with e1 e2 e3
   injection e1 with e1
   injection e1 with e4 e5
   subst e4 e5 e3
   rw [ints_length] at e2 h4
   have hg:g < w.heap.size:=(Array.getElem?_eq_some_iff.1 h3).1
   have hb:(putRow (Value.int .i64) (Sort.ahead w q) g off ys.toArray).heap[g]?=some (.cells (putCells (Value.int .i64) off ys.toArray cur) E (0,0)):=by
    simp [putRow,mapBlock,Sort.ahead,Array.getElem?_modify,h3,onCells]
   refine ⟨.inr ⟨g,off,c,_,by rw [ints_length];simp;omega,h2,hb,by rw [ints_length];simp;omega,h5,by simpa [putCells] using h6,fun j u hu=>?_⟩,rfl,rfl,rfl,by simp,fun k hk hne=>?_⟩
   · by_cases hj:j < ys.length
     · have hc:=h7 j (.int .i64 (xs[j]'(by omega))) (by simp [ints,show j < xs.length by omega])
       simp only [putCells,Array.getElem?_mapIdx,hc,Option.map_some]
       rw [if_pos ⟨by omega,by simp;omega⟩,show off+j - off=j by omega,getElem!_pos ys.toArray j (by simpa using hj)]
       rw [ints_append,List.getElem?_append_left (by rw [ints_length];exact hj)] at hu
       simp [ints,hj] at hu
       simp [hu]
     · rw [ints_append,List.getElem?_append_right (by rw [ints_length];omega),ints_length,←ints_drop,List.getElem?_drop,show ys.length+(j - ys.length)=j by omega] at hu
       have hc:=h7 j u hu
       simp only [putCells,Array.getElem?_mapIdx,hc,Option.map_some]
       rw [if_neg (by simp;omega)]
   · have : g≠k:=fun e=>hne (by rw [e])
     simp [putRow,mapBlock,Sort.ahead,Array.getElem?_modify,this]
theorem f_ReversePre (a:Option Addr) (n c k:Nat) (xs:List Int) (B:Nat) (w:World) (ho:Own w 3 B (.slice a n c) (ints xs)) (h0:0 < xs.length) (hk:k≤xs.length) (hl:xs.length≤1000000) :
 Calls Tryz.prog 139 #[.slice a k c] w fun e w'=>e=.returned (.tuple #[])∧Own w' 3 B (.slice a n c) (ints (flipL xs k))∧w.grownBy w' (Value.slice a n c).ownBlock:=by
 obtain ⟨⟨g,off,fr⟩,rfl⟩:=ho.some_of (by rw [ints_length];exact h0)
 obtain rfl:fr=none:=by
  rcases ho with ⟨h,_⟩ | ⟨g',off',c',cur,h1,_⟩
  · cases h
  · injection h1 with h1
    injection h1 with h1
    injection h1
 obtain ⟨e,hc,hg,hH⟩:=own_holds (own_cut ho (m:=k) (by omega))
 have:=Tryz.slices_Reverse_int g off c (xs.take k) w hH (by simp;omega)
 rw [List.length_take,Nat.min_eq_left hk] at this
 refine this.mono ?_
 rintro e w' ⟨rfl,q,rfl⟩
 have h2:=own_pre (q:=q) ho (ys:=(xs.take k).reverse) (by simp;omega)
 rw [show (xs.take k).reverse.length=k by simp;omega] at h2
 exact ⟨rfl,h2.1,h2.2⟩
theorem i_flip (v:Value) (xs:List Int) (k:Nat) (w:World) (h:Rd w v (ints xs)) (h0:0 < xs.length) (hk:k≤xs.length) (hl:xs.length≤1000):Calls Tryz.prog 87 #[v,.int .i64 (k:Int)] w (RetOwn 3 (ints (flipL xs k)) w):=by
 obtain ⟨a,c,rfl,hnc,hc⟩:=h.formi
 have HC:=Lib.hid (f_Clone _ xs w h (by omega))
 have HR:=Lib.hid (fun (a:Option Addr) (n c:Nat) (W:World) (ho:Own W 3 w.heap.size (.slice a n c) (ints xs))=>f_ReversePre a n c k xs w.heap.size W ho h0 hk (by omega))
 have HK:=Lib.hid hk
 clear h0 hl hk
 go_enter Tryz.func87,Tryz.ntmps87
 go_upto_region 2 with (go_at_call 85;refine HC.out.mono ?_;rintro e w1 ⟨v1,rfl,ho1,hb1⟩;obtain ⟨a1,n1,c1,rfl,HN1,h1c,_⟩:=ho1.rd.formN)
 have i1:(k:Int)≤(c1:Int):=by have:=HN1.out;have:=HK.out;omega
 go_wp2_with (go_at_call 139;refine (HR.out _ _ _ _ ho1).mono ?_;rintro e w2 ⟨rfl,ho2,hg2⟩)
 go_ret
 exact ⟨_,rfl,ho2,hb1.grown hg2 hb1.size fun r hr=>(ho1.lt r hr).1⟩
theorem or_eight {a x:Nat} (ha:a < 100000000) (hx:x < 8):bits .or .i64 ((a:Int) * 8) (x:Int)=((a * 8+x:Nat):Int):=by
 have e:((a:Int) * 8)=((a * 8:Nat):Int):=by omega
 have h1:(a * 8) ||| x=a * 8+x:=by
  have:=Nat.shiftLeft_add_eq_or_of_lt (b:=x) (i:=3) (by omega) a
  rw [Nat.shiftLeft_eq] at this
  exact this.symm
 rw [e]
 show IntKind.i64.wrap ((BitVec.ofInt 64 ((a * 8:Nat):Int) ||| BitVec.ofInt 64 (x:Int)).toNat:Int)=_
 rw [BitVec.toNat_or,BitVec.ofInt_natCast,BitVec.ofInt_natCast,BitVec.toNat_ofNat,BitVec.toNat_ofNat,Nat.mod_eq_of_lt (by omega),Nat.mod_eq_of_lt (by omega),h1,IntKind.wrap_i64]
 omega
def keyN (xs:List Int):Nat:=xs.foldl (fun a x=>a * 8+x.toNat) 1
theorem keyN_snoc (xs:List Int) (x:Int):keyN (xs++[x])=keyN xs * 8+x.toNat:=by rw [keyN,List.foldl_append];rfl
theorem keyN_ltR:∀ (ys:List Int),(∀ x∈ys,0≤x∧x < 8)→keyN ys.reverse < 2 * 8 ^ ys.length∧8 ^ ys.length≤keyN ys.reverse
 | [],_=>by simp [keyN]
 | y :: t,h=>by
   have h1:=keyN_ltR t fun z hz=>h z (by simp [hz])
   have h2:=h y (by simp)
   rw [List.reverse_cons,keyN_snoc,List.length_cons,Nat.pow_succ]
   omega
theorem keyN_lt (xs:List Int) (h:∀ x∈xs,0≤x∧x < 8):keyN xs < 2 * 8 ^ xs.length∧8 ^ xs.length≤keyN xs:=by
 have:=keyN_ltR xs.reverse fun x hx=>h x (List.mem_reverse.1 hx)
 rwa [List.reverse_reverse,List.length_reverse] at this
theorem keyN_injR:∀ (xs ys:List Int),xs.length=ys.length→(∀ x∈xs,0≤x∧x < 8)→(∀ x∈ys,0≤x∧x < 8)→keyN xs.reverse=keyN ys.reverse→xs=ys
 | [],[],_,_,_,_=>rfl
 | [],y :: t,h,_,_,_=>by simp at h
 | x :: s,[],h,_,_,_=>by simp at h
 | x :: s,y :: t,hl,hx,hy,he=>by
   rw [List.reverse_cons,List.reverse_cons,keyN_snoc,keyN_snoc] at he
   have h1:=hx x (by simp)
   have h2:=hy y (by simp)
   have h3:s=t:=keyN_injR s t (by simpa using hl) (fun z hz=>hx z (by simp [hz])) (fun z hz=>hy z (by simp [hz])) (by omega)
   subst h3
   have : x=y:=by omega
   rw [this]
theorem keyN_inj (xs ys:List Int) (hl:xs.length=ys.length) (hx:∀ x∈xs,0≤x∧x < 8) (hy:∀ x∈ys,0≤x∧x < 8) (he:keyN xs=keyN ys):xs=ys:=by
 have:=keyN_injR xs.reverse ys.reverse (by simpa using hl) (fun x h=>hx x (List.mem_reverse.1 h)) (fun x h=>hy x (List.mem_reverse.1 h)) (by simpa using he)
 exact List.reverse_inj.1 this
theorem i_key (v:Value) (xs:List Int) (w:World) (h:Rd w v (ints xs)) (hl:xs.length≤6) (hx:∀ x∈xs,0≤x∧x < 8):Calls Tryz.prog 86 #[v] w fun e w'=>e=.returned (.int .i64 ((keyN xs:Nat):Int))∧w=w':=by
 obtain ⟨a,c,rfl,hnc,hc⟩:=h.formi
 have HX:=Lib.hid hx
 have HT:Hid (keyN xs=keyN (xs.take xs.length)):=by rw [Hid,List.take_length]
 obtain ⟨n,hn⟩:∃ n,xs.length=n:=⟨_,rfl⟩
 have HB:Hid (∀ k,k≤n→keyN (xs.take k) < 1000000):=fun k hk=>by
  have h1:=(keyN_lt (xs.take k) fun x hx'=>hx x (List.mem_of_mem_take hx')).1
  have h2:(xs.take k).length≤6:=by simp;omega
  have h3:8 ^ (xs.take k).length≤8 ^ 6:=Nat.pow_le_pow_right (by omega) h2
  omega
 rw [hn] at h HT hl hnc ⊢
 have HN:=Lib.hid hn
 clear hn hx
 go_enter Tryz.func86,Tryz.ntmps86
 go_wp2
 go_loopg [3,8] n (fun g ov iv wr=>∃ k o:Nat,g=n - k∧k≤n∧iv=.int .i64 k∧ov=.int .i64 (o:Int)∧Hid (o=keyN (xs.take k))∧w=wr)
 case atStart=>exact ⟨0,1,rfl,Nat.zero_le _,rfl,rfl,rfl,rfl⟩
 case round =>
  obtain ⟨k,o,hg,hk,rfl,rfl,HO,rfl⟩:=hrel
  by_cases hlt:k < n
  · obtain ⟨ad,x,hal,hcx,hxk⟩:=h.int (k:=k) (by rw [HN.out];exact hlt)
    subst hal
    obtain ⟨h1,h2⟩:=HX.out x (List.mem_of_getElem? hxk.out)
    obtain ⟨X,rfl⟩:=Int.eq_ofNat_of_zero_le h1
    have hob:o < 1000000:=by rw [HO.out];exact HB.out k (by omega)
    have e1:=or_eight (a:=o) (x:=X) (by omega) (by omega)
    have HO2:Hid (o * 8+X=keyN (xs.take (k+1))):=by rw [Hid,take_snoc' hxk.out,keyN_snoc,HO.out];simp
    clear hxk h1 h2
    generalize o * 8+X=o2 at e1 HO2
    go_wp2
    go_roundg (n - (k+1))
    case measure=>omega
    case rel=>exact ⟨k+1,o2,rfl,by omega,by go_num,rfl,HO2,rfl⟩
  · obtain rfl:k=n:=Nat.le_antisymm hk (Nat.le_of_not_lt hlt)
    go_wp2
    go_ret
    exact ⟨ret_int (by rw [HT.out,HO.out]),rfl⟩
def sixB (xs:List Int):Bool:=decide (xs.length≤6) && ordB xs.length xs
theorem sixB_perm {xs:List Int} (h:sixB xs=true):xs.length≤6∧PermN xs.length xs:=by
 simp only [sixB,Bool.and_eq_true,decide_eq_true_eq] at h
 exact ⟨h.1,rfl,ordB_iff.1 h.2⟩
theorem i_isSix (v:Value) (xs:List Int) (w:World) (h:Rd w v (ints xs)):Calls Tryz.prog 83 #[v] w (RetB (.bool (sixB xs)) w):=by
 obtain ⟨a,n,c,rfl,HN,hnc,hc⟩:=h.formN
 by_cases h8:n≤6
 · have HK:=i_isOrder _ xs w h (by have:=HN.out;omega)
   rw [←HN.out] at HK
   have HR:Hid (sixB xs=ordB n xs):=by rw [Hid,sixB,←HN.out];simp [h8]
   have HK2:=Lib.hid HK
   clear HK
   have i1:(n:Int)≤6:=by omega
   go_enter Tryz.func83,Tryz.ntmps83
   go_wp2_with (go_at_call 136;refine HK2.out.mono ?_;rintro e w' ⟨rfl,hb⟩)
   go_ret
   exact ⟨by rw [HR.out];rfl,hb⟩
 · have HR:Hid (sixB xs=false):=by rw [Hid,sixB,←HN.out];simp [h8]
   have i1:¬ (n:Int)≤6:=by omega
   go_enter Tryz.func83,Tryz.ntmps83
   go_wp2
   go_ret
   exact ⟨ret_bool HR.out.symm,Below.refl _ _⟩
end
def atI (L:List Int) (x:Nat):Nat:=(idxOf (fun y=>decide ((x:Int)=y)) L).toNat
theorem atI_ok {n x:Nat} {L:List Int} (h:PermN n L) (hx:x < n):atI L x < n∧L[atI L x]?=some (x:Int)∧idxOf (fun y=>decide ((x:Int)=y)) L=((atI L x:Nat):Int):=by
 obtain ⟨p,hp,hpx⟩:=h.at hx
 have e:idxOf (fun y=>decide ((x:Int)=y)) L=(p:Int):=idxOf_yes hpx (by simp) fun j y hj hy=>by
  rw [decide_eq_false_iff_not]
  intro e
  subst e
  have:=h.inj hpx hy
  omega
 have e2:atI L x=p:=by rw [atI,e];simp
 rw [e2]
 exact ⟨hp,hpx,e⟩
def grFlip (s:List Int × List Int) (k:Nat):List Int × List Int:=(flipL s.1 k,s.2++[(k:Int)])
def grStep (s:List Int × List Int) (x:Nat):List Int × List Int :=
 if atI s.1 x=x then s else if 0 < atI s.1 x then grFlip (grFlip s (atI s.1 x+1)) (x+1) else grFlip s (x+1)
def grK (xs:List Int) (n:Nat):Nat→List Int × List Int
 | 0=>(xs,[])
 | j+1=>grStep (grK xs n j) (n - 1 - j)
def grL (xs:List Int):List Int:=(grK xs xs.length (xs.length - 1)).2
theorem grK_inv {n:Nat} {xs:List Int} (h:PermN n xs):∀ j,j≤n - 1→PermN n (grK xs n j).1∧(grK xs n j).2.length≤2 * j∧∀ y∈(grK xs n j).2,0≤y∧y≤(n:Int)
 | 0,_=>⟨h,Nat.le_refl _,fun y hy=>by cases hy⟩
 | j+1,hj=>by
   obtain ⟨h1,h2,h3⟩:=grK_inv h j (by omega)
   obtain ⟨h4,_,_⟩:=atI_ok h1 (x:=n - 1 - j) (by omega)
   simp only [grK,grStep]
   split
   · exact ⟨h1,by omega,h3⟩
   · split
     · refine ⟨h1.flip.flip,by simp [grFlip];omega,fun y hy=>?_⟩
       simp only [grFlip,List.mem_append,List.mem_singleton] at hy
       rcases hy with (hy | rfl) | rfl
       · exact h3 y hy
       · omega
       · omega
     · refine ⟨h1.flip,by simp [grFlip];omega,fun y hy=>?_⟩
       simp only [grFlip,List.mem_append,List.mem_singleton] at hy
       rcases hy with hy | rfl
       · exact h3 y hy
       · omega
theorem i_GreedyFlips (v:Value) (xs:List Int) (w:World) (h:Rd w v (ints xs)) (hs:shortB xs=true):Calls Tryz.prog 35 #[v] w (RetOwn 3 (ints (grL xs)) w):=by
 have HS:=Lib.hid (hs ▸ i_isShortOrder v xs w h)
 obtain ⟨h8,hor⟩:=shortB_iff.1 hs
 obtain ⟨a,c,rfl,hnc,hc⟩:=h.formi
 have hp0:PermN xs.length xs:=⟨rfl,hor⟩
 have HG:Hid (grL xs=(grK xs xs.length (xs.length - 1)).2):=rfl
 obtain ⟨n,hn⟩:∃ n,xs.length=n:=⟨_,rfl⟩
 rw [hn] at hp0 h8 HG hnc ⊢
 have HN:=Lib.hid hn
 have HKI:=Lib.hid (fun j hj=>grK_inv hp0 j hj)
 have HKS:Hid (∀ j,grK xs n (j+1)=grStep (grK xs n j) (n - 1 - j)):=fun j=>rfl
 have HK0:Hid (grK xs n 0=(xs,[])):=rfl
 have HCL:=Lib.hid (fun (W:World) (hW:Below w.heap.size w W)=>f_Clone _ xs W (h.below hW) (by omega))
 rw [hn] at HCL HS
 clear hn
 go_enter Tryz.func35,Tryz.ntmps35
 go_upto_region 5 with (first
  | (go_at_call 81;refine HS.out.mono ?_;rintro e w1 ⟨rfl,hb1⟩;have hA:Below w1.heap.size w1 (w1.alloc (.cells #[] 3)):=(Below.refl _ _).alloc (Nat.le_refl _) _;have hlit:=Own.lit0 w1 3 (Nat.le_refl _);have hbA:=hb1.trans (hA.mono hb1.size))
  | (go_at_call 85;refine (HCL.out _ hbA).mono ?_;rintro e w2 ⟨v2,rfl,ho2,hb2⟩))
 have hO:OwnsL w2 3 w.heap.size [(.slice (some ⟨w1.heap.size,0,none⟩) 0 0,[]),(v2,xs)]:=by
  have h1:=OwnsL.snoc (OwnsL.nil w1 3 w.heap.size) hA hb1.size hlit
  have h2:=h1.snoc hb2 hbA.size ho2
  simpa using h2
 have hb:=hbA.trans (hb2.mono hbA.size)
 clear hA hlit hbA ho2 hb2 hb1
 go_wp2
 go_loopg [3,4,5] (n+1) (fun g vo vl xv wr=>∃ j:Nat,g=n+1 - j∧(j≤n - 1)∧xv=.int .i64 ((n:Int) - 1 - (j:Int))∧OwnsL wr 3 w.heap.size [(vo,(grK xs n j).2),(vl,(grK xs n j).1)]∧Below w.heap.size w wr)
 case atStart=>exact ⟨0,rfl,Nat.zero_le _,by simp,by rw [HK0.out];exact hO,hb⟩
 case round =>
  clear hO hb
  obtain ⟨j,hg,hj,rfl,hO,hb⟩:=hrel
  obtain ⟨hp,hol,_⟩:=HKI.out j hj
  by_cases hlt:j < n - 1
  · have HSJ:=Lib.hid (HKS.out j)
    obtain ⟨hpS,_,_⟩:=HKI.out (j+1) (by omega)
    obtain ⟨L,hLe⟩:∃ L,(grK xs n j).1=L:=⟨_,rfl⟩
    obtain ⟨O,hOe⟩:∃ O,(grK xs n j).2=O:=⟨_,rfl⟩
    rw [hLe,hOe] at hO
    rw [hLe] at hp
    rw [hOe] at hol
    have HST:Hid (grK xs n (j+1)=grStep (L,O) (n - 1 - j)):=by rw [Hid,HSJ.out,←hLe,←hOe]
    obtain ⟨x,hx⟩:∃ x,n - 1 - j=x:=⟨_,rfl⟩
    have ex:(n:Int) - 1 - (j:Int)=(x:Int):=by omega
    rw [hx] at HST
    rw [ex]
    obtain ⟨hat,_,hidx⟩:=atI_ok hp (x:=x) (by omega)
    have HAT:Hid (grStep (L,O) x=if atI L x=x then (L,O) else if 0 < atI L x then grFlip (grFlip (L,O) (atI L x+1)) (x+1) else grFlip (L,O) (x+1)):=rfl
    have hLl:=hp.1
    have hp1:PermN n (flipL L (atI L x+1)):=hp.flip
    have HP1:=Lib.hid hp1
    obtain ⟨ao,no,co,rfl,HNO,_,_⟩:=hO.o0.rd.formN
    obtain ⟨al,nl,cl,rfl,HNL,_,_⟩:=hO.o1.rd.formN
    replace HNO:Hid (no=O.length):=HNO.out
    have hxn:x+1≤n:=by omega
    have hx1:1≤x:=by omega
    have hno:no≤16:=by have:=HNO.out;omega
    have HLO:Hid ((ints O).length=no):=by rw [Hid,ints_length,HNO.out]
    have hsb:=hb.size
    have HIX:=Lib.hid (f_Index _ L (x:Int) wr hO.o1.rd)
    dsimp only at HIX
    rw [hidx] at HIX
    have HFL:=Lib.hid (fun (W:World) (hW:Rd W (.slice al nl cl) (ints L)) (k:Nat) (hk:k≤n)=>i_flip _ L k W hW (by rw [hLl];omega) (by rw [hLl];exact hk) (by rw [hLl];omega))
    have HXJ:=Lib.hid hx
    clear hidx hLe hOe hx ex HSJ hpS hp1
    obtain ⟨p,hpe⟩:∃ p,atI L x=p:=⟨_,rfl⟩
    rw [hpe] at hat HAT HIX HP1
    have HFL2:=Lib.hid (fun (v:Value) (W:World) (hW:Rd W v (ints (flipL L (p+1))))=>i_flip v (flipL L (p+1)) (x+1) W hW (by rw [HP1.out.1];omega) (by rw [HP1.out.1];exact hxn) (by rw [HP1.out.1];omega))
    clear hpe hp hLl
    by_cases hpx:p=x
    · have HV:Hid (grK xs n (j+1)=(L,O)):=by rw [Hid,HST.out,HAT.out,if_pos hpx]
      have d0:((p:Int) == (x:Int))=true:=by simp [hpx]
      clear hpx
      go_wp2_with (go_at_call 91;refine HIX.out.mono ?_;rintro e w' ⟨rfl,rfl⟩)
      go_roundg (n+1 - (j+1))
      case measure=>omega
      case rel=>exact ⟨j+1,rfl,by omega,by have:=HXJ.out;first | go_num | (congr 1;omega),by rw [HV.out];exact hO,hb⟩
    · have d0:((p:Int) == (x:Int))=false:=by rw [beq_eq_false_iff_ne];omega
      rcases Nat.eq_zero_or_pos p with hp0 | hp0
      · have HV:Hid (grK xs n (j+1)=(flipL L (x+1),O++[((x+1:Nat):Int)])):=by rw [Hid,HST.out,HAT.out,if_neg hpx,if_neg (by omega)];rfl
        have i1:¬ ((p:Int) > 0):=by omega
        clear hpx hp0
        go_upto_region 14 with (first
         | (go_at_call 91;refine HIX.out.mono ?_;rintro e w' ⟨rfl,rfl⟩)
         | (at_builtin;(refine wpList_app1m rfl _ _ 23 rfl elI ?_ hO.o0 ?_ ?_ hsb no HLO.out (by omega) (by omega) ?_);(focus exact rfl);(focus (simp [Act.eval]));(focus exact rfl);intro b5 c5 w5 ho5 hg5 hat5))
        have ex1:(x:Int)+1=((x+1:Nat):Int):=by omega
        have hO5:=hO.t0 hg5 (ys:=O++[((x+1:Nat):Int)]) (by rw [ints_append,←ex1];exact ho5) (hat_of hat5)
        have hb5:=hb.grown hg5 hsb (fun r hr=>(hO.o0.lt r hr).1)
        have hs5:=hb5.size
        have HFX:=Lib.hid (HFL.out w5 hO5.o1.rd (x+1) hxn)
        rw [←ex1] at HFX
        clear hO hb hg5 hat5 ho5 ex1
        go_wp2_with (go_at_call 87;refine (HFX.out).mono ?_;rintro e w6 ⟨v6,rfl,ho6,hb6⟩)
        have hO6:=OwnsL.fresh (L1:=[(Value.slice b5 (no+1) c5,O++[((x+1:Nat):Int)])]) (L2:=[]) hO5 hb6 hs5 ho6
        go_roundg (n+1 - (j+1))
        case measure=>omega
        case rel=>exact ⟨j+1,rfl,by omega,by have:=HXJ.out;first | go_num | (congr 1;omega),by rw [HV.out];exact hO6,hb5.trans (hb6.mono hs5)⟩
      · have HV:Hid (grK xs n (j+1)=(flipL (flipL L (p+1)) (x+1),(O++[((p+1:Nat):Int)])++[((x+1:Nat):Int)])):=by rw [Hid,HST.out,HAT.out,if_neg hpx,if_pos hp0];rfl
        have i1:((p:Int) > 0):=by omega
        clear hpx hp0
        go_upto_region 12 with (first
         | (go_at_call 91;refine HIX.out.mono ?_;rintro e w' ⟨rfl,rfl⟩)
         | (at_builtin;(refine wpList_app1m rfl _ _ 23 rfl elI ?_ hO.o0 ?_ ?_ hsb no HLO.out (by omega) (by omega) ?_);(focus exact rfl);(focus (simp [Act.eval]));(focus exact rfl);intro b5 c5 w5 ho5 hg5 hat5))
        have ex1:(p:Int)+1=((p+1:Nat):Int):=by omega
        have hO5:=hO.t0 hg5 (ys:=O++[((p+1:Nat):Int)]) (by rw [ints_append,←ex1];exact ho5) (hat_of hat5)
        have hb5:=hb.grown hg5 hsb (fun r hr=>(hO.o0.lt r hr).1)
        have hs5:=hb5.size
        have HFX:=Lib.hid (HFL.out w5 hO5.o1.rd (p+1) (by omega))
        rw [←ex1] at HFX
        clear hO hb hg5 hat5 ho5 ex1
        go_upto_region 13 with (go_at_call 87;refine (HFX.out).mono ?_;rintro e w6 ⟨v6,rfl,ho6,hb6⟩)
        have hO6:=OwnsL.fresh (L1:=[(Value.slice b5 (no+1) c5,O++[((p+1:Nat):Int)])]) (L2:=[]) hO5 hb6 hs5 ho6
        have hb6':=hb5.trans (hb6.mono hs5)
        have hs6:=hb6'.size
        have HLO2:Hid ((ints (O++[((p+1:Nat):Int)])).length=no+1):=by rw [Hid,ints_length,List.length_append,HNO.out];rfl
        simp only [List.singleton_append,List.cons_append,List.nil_append] at hO6
        clear hO5 hb5 hb6 ho6 hs5
        go_upto_region 14 with (at_builtin;(refine wpList_app1m rfl _ _ 23 rfl elI ?_ hO6.o0 ?_ ?_ hs6 (no+1) HLO2.out (by omega) (by omega) ?_);(focus exact rfl);(focus (simp [Act.eval]));(focus exact rfl);intro b7 c7 w7 ho7 hg7 hat7)
        have ex1:(x:Int)+1=((x+1:Nat):Int):=by omega
        have hO7:=hO6.t0 hg7 (ys:=(O++[((p+1:Nat):Int)])++[((x+1:Nat):Int)]) (by rw [ints_append (O++_),←ex1];exact ho7) (hat_of hat7)
        have hb7:=hb6'.grown hg7 hs6 (fun r hr=>(hO6.o0.lt r hr).1)
        have hs7:=hb7.size
        have HFX2:=Lib.hid (HFL2.out v6 w7 hO7.o1.rd)
        rw [←ex1] at HFX2
        clear hO6 hb6' hg7 hat7 ho7 ex1
        go_wp2_with (go_at_call 87;refine (HFX2.out).mono ?_;rintro e w8 ⟨v8,rfl,ho8,hb8⟩)
        have hO8:=OwnsL.fresh (L1:=[(Value.slice b7 (no+1+1) c7,(O++[((p+1:Nat):Int)])++[((x+1:Nat):Int)])]) (L2:=[]) hO7 hb8 hs7 ho8
        go_roundg (n+1 - (j+1))
        case measure=>omega
        case rel=>exact ⟨j+1,rfl,by omega,by have:=HXJ.out;first | go_num | (congr 1;omega),by rw [HV.out];exact hO8,hb7.trans (hb8.mono hs7)⟩
  · have HV:Hid (grL xs=(grK xs n j).2):=by rw [Hid,HG.out];congr 2;omega
    have ho:=hO.o0
    dsimp only at ho
    have i1:¬ ((n:Int) - 1 - (j:Int) ≥ 1):=by omega
    go_wp2
    go_ret
    exact ⟨_,rfl,by rw [HV.out];exact ho,hb⟩
def natsI (l:List Nat):List Int:=l.map fun (x:Nat)=>(x:Int)
theorem natsI_len (l:List Nat):(natsI l).length=l.length:=by simp [natsI]
theorem natsI_get {l:List Nat} {k x:Nat} (h:l[k]?=some x):(natsI l)[k]?=some (x:Int):=by simp [natsI,h]
theorem natsI_app (a b:List Nat):natsI (a++b)=natsI a++natsI b:=by simp [natsI]
def resL (n:Int) (xss:List (List Int)):List Int:=if netOk n xss then dedL (2 ^ n.toNat) ((List.range (2 ^ n.toNat)).map (outM xss)) else []
theorem resL_no {n:Int} {xss:List (List Int)} (h:netOk n xss=false):resL n xss=[]:=by rw [resL,if_neg (by simp [h])]
theorem resL_ok {n:Int} {xss:List (List Int)} (h:netOk n xss=true):resL n xss=dedL (2 ^ n.toNat) ((List.range (2 ^ n.toNat)).map (outM xss)):=by rw [resL,if_pos h]
theorem i_allMasks (N:Nat) (h8:N≤8) (w:World):Calls Tryz.prog 122 #[.int .i64 N] w (RetOwn 3 (ints (natsI (List.range (2 ^ N)))) w):=by
 have hp:=pow_le8 h8
 have e2:=shl_of N (by omega)
 obtain ⟨M,hM⟩:∃ M,2 ^ N=M:=⟨_,rfl⟩
 rw [hM] at hp e2 ⊢
 clear hM
 have hlit:=Own.lit0 (B:=w.heap.size) w 3 (Nat.le_refl _)
 have hbA:Below w.heap.size w (w.alloc (.cells #[] 3)):=(Below.refl _ _).alloc (Nat.le_refl _) _
 go_enter Tryz.func122,Tryz.ntmps122
 go_wp2
 try rw [e2]
 clear e2
 go_loopg [3,8] M (fun g vo iv wr=>∃ k:Nat,g=M - k∧k≤M∧iv=.int .i64 k∧Own wr 3 w.heap.size vo (ints (natsI (List.range k)))∧Below w.heap.size w wr)
 case atStart=>exact ⟨0,rfl,Nat.zero_le _,rfl,hlit,hbA⟩
 case round =>
  clear hlit hbA
  obtain ⟨k,hg,hkl,rfl,ho,hb⟩:=hrel
  obtain ⟨ao,no,co,rfl,HN,_,_⟩:=ho.rd.formN
  by_cases hlt:k < M
  · have HLo:Hid ((ints (natsI (List.range k))).length=no):=by rw [Hid,ints_length,HN.out]
    have hno:no≤256:=by have:=HN.out;rw [natsI_len,List.length_range] at this;omega
    have HS:Hid (natsI (List.range (k+1))=natsI (List.range k)++[(k:Int)]):=by rw [Hid,List.range_succ,natsI_app];rfl
    have hsb:=hb.size
    have hn1:(no+1) * 8≤140737488355328:=by omega
    have hn2:no+1≤9223372036854775807:=by omega
    go_wp2_with (at_builtin;(refine wpList_app1m rfl _ _ 23 rfl elI ?_ ho ?_ ?_ hsb no HLo.out hn1 hn2 ?_);(focus exact rfl);(focus (simp [Act.eval]));(focus exact rfl);intro bn cn' w6 ho6 hg6 hat6)
    have hb6:=hb.grown hg6 hsb fun r hr=>(ho.lt r hr).1
    go_roundg (M - (k+1))
    case measure=>omega
    case rel=>exact ⟨k+1,rfl,by omega,by go_num,by rw [HS.out,ints_append];exact ho6,hb6⟩
  · obtain rfl:M=k:=by omega
    go_wp2
    go_ret
    exact ⟨_,rfl,ho,hb⟩
theorem i_images (g:Nat→Nat) (M:Nat) (l:List Nat) (fn:Nat) (bnd:Array Value) (hkn:Known fn) (v:Value) (w:World) (h:Rd w v (ints (natsI l))) (h0:0 < l.length) (hl:l.length≤256) (hM:∀ x∈l,g x < M) (hM2:M≤256)
 (hf:∀ (x:Nat) (W:World),x∈l→Below w.heap.size w W→Calls Tryz.prog fn (bnd.push (.int .i64 x)) W (RetB (.int .i64 (g x:Nat)) W)) :
 Calls Tryz.prog 121 #[v,.func (.func fn) bnd #[]] w (RetOwn 3 (ints (dedL M (l.map g))) w):=by
 have HSO:=Lib.hid (fun (v:Value) (W:World) (ho:Own W 3 w.heap.size v (ints (natsI (l.map g))))=>f_SortI v _ w.heap.size W ho (by rw [natsI_len,List.length_map];exact h0) (by rw [natsI_len,List.length_map];omega))
 have HCO:=Lib.hid (fun (v:Value) (W:World) (ho:Own W 3 w.heap.size v (ints (msort (natsI (l.map g)))))=>f_CompactI v _ w.heap.size W ho (by rw [msort_len,natsI_len,List.length_map];exact h0) (by rw [msort_len,natsI_len,List.length_map];omega))
 have HD:Hid (Lib.compact (msort (natsI (l.map g)))=dedL M (l.map g)):=compact_dedL fun x hx=>by
  obtain ⟨y,hy,rfl⟩:=List.mem_map.1 hx
  exact hM y hy
 rw [HD.out] at HCO
 have HF0:=Lib.hid hf
 obtain ⟨a,n,c,rfl,HN,_,_⟩:=h.formN
 have hn:n=l.length:=by have:=HN.out;rwa [natsI_len] at this
 have HNL:Hid (l.length=n):=hn.symm
 have hn256:n≤256:=by omega
 have hlit:=Own.lit0 (B:=w.heap.size) w 3 (Nat.le_refl _)
 have hbA:Below w.heap.size w (w.alloc (.cells #[] 3)):=(Below.refl _ _).alloc (Nat.le_refl _) _
 clear hf hn hM hl h0 HN
 go_enter Tryz.func121,Tryz.ntmps121
 go_wp2
 go_loopg [5,11] n (fun gg vo iv wr=>∃ k:Nat,gg=n - k∧k≤n∧iv=.int .i64 k∧Own wr 3 w.heap.size vo (ints (natsI ((l.take k).map g)))∧Below w.heap.size w wr)
 case atStart=>exact ⟨0,rfl,Nat.zero_le _,rfl,by simpa [natsI] using hlit,hbA⟩
 case round =>
  clear hlit hbA
  obtain ⟨k,hgk,hkl,rfl,ho,hb⟩:=hrel
  obtain ⟨ao,no,co,rfl,HNO,_,_⟩:=ho.rd.formN
  by_cases hlt:k < n
  · obtain ⟨x,hx⟩:∃ x,l[k]?=some x:=⟨_,List.getElem?_eq_getElem (by rw [HNL.out];exact hlt)⟩
    obtain ⟨ad,y,rfl,hc,hy⟩:=(h.below hb).int (k:=k) (by rw [natsI_len,HNL.out];exact hlt)
    obtain rfl:y=(x:Int):=by have:=hy.out;rw [natsI_get hx] at this;cases this;rfl
    have HF:=Lib.hid (HF0.out x wr (List.mem_of_getElem? hx) hb)
    have hcall:=hkn (bnd.push (.int .i64 x)) wr
    have HS:Hid (natsI ((l.take (k+1)).map g)=natsI ((l.take k).map g)++[((g x:Nat):Int)]):=by rw [Hid,take_snoc' hx,List.map_append,natsI_app];rfl
    have HLo:Hid ((ints (natsI ((l.take k).map g))).length=no):=by rw [Hid,ints_length,HNO.out]
    have hno:no≤256:=by have:=HNO.out;rw [natsI_len,List.length_map,List.length_take] at this;omega
    have hsb:=hb.size
    have hn1:(no+1) * 8≤140737488355328:=by omega
    have hn2:no+1≤9223372036854775807:=by omega
    generalize g x=z at HF HS
    clear hx hy
    go_wp2_with (first
     | ((with_reducible refine (HF.out).mono ?_);rintro e w2 ⟨rfl,hb2⟩;have ho2:=ho.below hb2;have hs2:w.heap.size≤w2.heap.size:=Nat.le_trans hsb hb2.size)
     | (at_builtin;(refine wpList_app1m rfl _ _ 23 rfl elI ?_ ho2 ?_ ?_ hs2 no HLo.out hn1 hn2 ?_);(focus exact rfl);(focus (simp [Act.eval]));(focus exact rfl);intro bn cn' w6 ho6 hg6 hat6))
    have hb6:=(hb.trans (hb2.mono hsb)).grown hg6 hs2 fun r hr=>(ho2.lt r hr).1
    go_roundg (n - (k+1))
    case measure=>omega
    case rel=>exact ⟨k+1,rfl,by omega,by go_num,by rw [HS.out,ints_append];exact ho6,hb6⟩
  · obtain rfl:n=k:=by omega
    have hcn:l.take n=l:=by rw [←HNL.out,List.take_length]
    rw [hcn] at ho
    clear hcn
    go_wp2_with (first
     | (go_at_call 184;refine (HSO.out _ _ ho).mono ?_;rintro e w2 ⟨rfl,hs2,hg2⟩)
     | (go_at_call 185;refine (HCO.out _ _ hs2).mono ?_;rintro e w3 ⟨v3,rfl,hs3,hg3,hb3⟩))
    go_ret
    exact ⟨_,rfl,hs3,(hb.grown hg2 hb.size fun r hr=>(ho.lt r hr).1).grown hg3 (Nat.le_trans hb.size hg2.size) fun r hr=>(hs2.lt r hr).1⟩
theorem k_bits:Known 123:=known Tryz.func123 (by kernel_rfl) (by kernel_rfl)
theorem i_ResultsOf (n:Int) (v:Value) (xss:List (List Int)) (w:World) (h:Rd2 w v xss) (hn:I64 n):Calls Tryz.prog 67 #[.agg #[.int .i64 n,v]] w (RetOwn 3 (ints (resL n xss)) w):=by
 obtain ⟨a,c,rfl,h2,h3⟩:=h.form
 obtain ⟨w0,hw0,hb0,hz0,c0,c1⟩:=net_box w (.int .i64 n) (.slice a xss.length c) 30
 have h':=h.below hb0
 have HN:=i_NetworkOk n _ xss _ h' hn
 cases hk:netOk n xss
 · rw [hk] at HN
   have HR:=Lib.hid (resL_no hk)
   go_enter Tryz.func67,Tryz.ntmps67
   go_wp2_with (go_at_call 40;refine HN.mono ?_;rintro e w2 ⟨rfl,hb2⟩)
   go_ret
   rw [HR.out]
   exact ⟨_,rfl,Own.nil _ _ _,hb0.trans (hb2.mono (by omega))⟩
 rw [hk] at HN
 have HR:=Lib.hid (resL_ok hk)
 obtain ⟨N,rfl,hN1,hN8,hL60⟩:=netOk_n hk
 rw [Int.toNat_natCast] at HR
 have hp:=pow_le8 hN8
 have hp1:0 < 2 ^ N:=Nat.two_pow_pos N
 have C0:=Lib.hid c0
 have C1:=Lib.hid c1
 have GA:=Lib.hid (fun W=>i_allMasks N hN8 W)
 have GI:=Lib.hid (fun (u:Value) (W:World) (hW:Below w.heap.size w W) (hu:Rd W u (ints (natsI (List.range (2 ^ N)))))=>i_images (outM xss) (2 ^ N) (List.range (2 ^ N)) 123 #[.agg #[.int .i64 N,.slice a xss.length c]] k_bits u W hu (by simpa using hp1) (by simpa using hp) (fun x hx=>runM_lt hk (by simpa using hx) _) hp fun x W' hx hW'=>i_bits N _ xss x W' (h.below (hW.trans (hW'.mono hW.size))) hk (by simpa using hx))
 obtain ⟨D,hD⟩:∃ D,dedL (2 ^ N) ((List.range (2 ^ N)).map (outM xss))=D:=⟨_,rfl⟩
 rw [hD] at HR GI
 generalize natsI (List.range (2 ^ N))=ms at GA GI
 clear hk hD hp hp1
 go_enter Tryz.func67,Tryz.ntmps67
 go_wp2_with (go_at_call 40;refine HN.mono ?_;rintro e w2 ⟨rfl,hb2⟩;have hbw2:Below w.heap.size w w2:=hb0.trans (hb2.mono (by omega));obtain ⟨c0,c1⟩:=Below.cells2 hb2 (show w.heap.size < w0.heap.size by omega) C0.out C1.out)
 have HT:=keep_box c0 c1
 have K0:Hid (∀ W:World,Below w2.heap.size w2 W→Calls Tryz.prog 122 #[.int .i64 N] W fun e w'=>∃ v,e=.returned v∧Rd w' v (ints ms)∧Below w2.heap.size w2 w'∧Below W.heap.size W w'):=fun W hW=>(GA.out W).mono fun e w' hh=>by
  obtain ⟨vq,rfl,ho,hb⟩:=hh
  exact ⟨vq,rfl,ho.rd,hW.trans (hb.mono hW.size),hb⟩
 have K1:Hid (∀ (u:Value) (W:World),Below w2.heap.size w2 W→Rd W u (ints ms)→Calls Tryz.prog 121 #[u,.func (.func 123) #[.agg #[.int .i64 N,.slice a xss.length c]] #[]] W fun e w'=>∃ v,e=.returned v∧Own w' 3 w2.heap.size v (ints D)∧Below w2.heap.size w2 w'):=fun u W hW hu=>(GI.out u W (hbw2.trans (hW.mono hbw2.size)) hu).mono fun e w' hh=>by
  obtain ⟨vq,rfl,ho,hb⟩:=hh
  exact ⟨vq,rfl,ho.mono hW.size,hW.trans (hb.mono hW.size)⟩
 have BW2:=Lib.hid hbw2
 clear c0 c1 C0 C1 HN hbw2 hb2 hb0 h h' GA GI
 go_region_held3 (fun wx=>Below w2.heap.size w2 wx∧wx.cell? ⟨w.heap.size,0,none⟩=some (.int .i64 N)∧wx.cell? ⟨w.heap.size,1,none⟩=some (.slice a xss.length c))
  (first | exact HT.out _ gI | exact HT.out _ gA | exact HT.out _ (by exact ⟨rfl,rfl,rfl,Nat.le_refl _,fun _ _=>rfl⟩) | go_keep)
  (first
   | (go_at_call 122;(with_reducible refine (K0.out _ (by exact (show _∧_∧_ from by assumption).1)).mono ?_);rintro e wA ⟨vA,rfl,rdA,gA,rA⟩)
   | (go_at_call 121;refine (K1.out _ _ (by exact (show _∧_∧_ from by assumption).1) (by exact rdA)).mono ?_;rintro e wI ⟨vI,rfl,oI,gI⟩))
 all_goals
  go_wp2
  go_ret
  rw [HR.out]
  exact ⟨_,rfl,oI.mono BW2.out.size,BW2.out.trans (gI.mono BW2.out.size)⟩
def dedN (M:Nat) (l:List Nat):List Nat:=(List.range M).filter fun r=>l.contains r
theorem dedL_natsI (M:Nat) (l:List Nat):dedL M l=natsI (dedN M l):=rfl
def badB (i k r:Nat):Bool:=r.testBit i && !r.testBit k
def knP (res:List Nat) (i k:Nat):Bool:=decide (i≠k) && !res.any (badB i k)
def kL (p:Nat→Nat→Bool) (n:Nat):Nat→List (List Int)
 | 0=>[]
 | i+1=>kL p n i++fltAt p i n
theorem kL_len (p:Nat→Nat→Bool) (n:Nat):∀ i,(kL p n i).length≤n * i
 | 0=>Nat.zero_le _
 | i+1=>by
   have:=kL_len p n i
   have:=fltAt_len p i n
   simp only [kL,List.length_append,Nat.mul_succ]
   omega
def resN (n:Int) (xss:List (List Int)):List Nat:=dedN (2 ^ n.toNat) ((List.range (2 ^ n.toNat)).map (outM xss))
def knownL (n:Int) (xss:List (List Int)):List (List Int):=if netOk n xss then kL (knP (resN n xss)) n.toNat n.toNat else []
theorem knownL_no {n:Int} {xss:List (List Int)} (h:netOk n xss=false):knownL n xss=[]:=by rw [knownL,if_neg (by simp [h])]
theorem knownL_ok {n:Int} {xss:List (List Int)} (h:netOk n xss=true):knownL n xss=kL (knP (resN n xss)) n.toNat n.toNat:=by rw [knownL,if_pos h]
theorem knownL_len (n:Int) (xss:List (List Int)):(knownL n xss).length≤64:=by
 cases hk:netOk n xss
 · rw [knownL_no hk];simp
 · rw [knownL_ok hk]
   obtain ⟨N,rfl,_,h8,_⟩:=netOk_n hk
   have:=kL_len (knP (resN (N:Int) xss)) N N
   simp only [Int.toNat_natCast]
   have : N * N≤8 * 8:=Nat.mul_le_mul h8 h8
   omega
theorem resN_nats {n:Int} {xss:List (List Int)} (h:netOk n xss=true):resL n xss=natsI (resN n xss):=by rw [resL_ok h,dedL_natsI];rfl
theorem resN_lt {n:Int} {xss:List (List Int)} : ∀ r∈resN n xss,r < 2 ^ n.toNat:=fun r hr=>by
 simp only [resN,dedN,List.mem_filter,List.mem_range] at hr
 exact hr.1
theorem resN_pos {N:Nat} {xss:List (List Int)} (h:netOk (N:Int) xss=true):0 < (resN (N:Int) xss).length:=by
 have h0:0 < 2 ^ N:=Nat.two_pow_pos N
 have h1:=runM_lt h h0 xss.length
 have : outM xss 0∈resN (N:Int) xss:=by
  simp only [resN,dedN,List.mem_filter,List.mem_range,Int.toNat_natCast,List.contains_iff_mem,List.mem_map]
  exact ⟨h1,0,h0,rfl⟩
 exact List.length_pos_of_mem this
theorem resN_len (n:Int) (xss:List (List Int)):(resN n xss).length≤2 ^ n.toNat:=Nat.le_trans (List.length_filter_le _ _) (by simp)
theorem any_natsI (res:List Nat) (i k:Nat):((natsI res).any fun x=>badB i k x.toNat)=res.any (badB i k):=by
 rw [natsI,List.any_map]
 rfl
theorem grown_cell {w w':World} {row:Option Nat} (hg:w.grownBy w' row) (p:Addr) (hp:p.block < w.heap.size) (hne:some p.block≠row):w'.cell? p=w.cell? p:=by
 simp only [World.cell?,hg.block _ hp hne]
theorem k_Kno:Known 120:=known Tryz.func120 (by kernel_rfl) (by kernel_rfl)
theorem i_Kno1 (m i k b1 b2:Nat) (hm:m < 256) (hi:i < 8) (hk:k < 8) (w:World) (c0:w.cell? ⟨b1,0,none⟩=some (.int .i64 i)) (c1:w.cell? ⟨b2,0,none⟩=some (.int .i64 k)) :
 Calls Tryz.prog 120 #[.int .i64 m,.pointer (some ⟨b1,0,none⟩),.pointer (some ⟨b2,0,none⟩)] w fun e w'=>e=.returned (.bool (badB i k m))∧w=w':=by
 have e1:=bit_of m hm i hi
 have e2:=bit_of m hm k hk
 cases h1:m.testBit i
 · have HR:Hid (badB i k m=false):=by rw [Hid,badB,h1];rfl
   rw [h1] at e1
   have q1:bits BinOp.and IntKind.i64 ((m:Int) / 2 ^ i) 1=0:=e1
   clear e1 e2 h1
   go_enter Tryz.func120,Tryz.ntmps120
   go_wp2
   go_ret
   exact ⟨ret_bool HR.out.symm,rfl⟩
 · rw [h1] at e1
   have q1:bits BinOp.and IntKind.i64 ((m:Int) / 2 ^ i) 1=1:=e1
   clear e1
   cases h2:m.testBit k
   · have HR:Hid (badB i k m=true):=by rw [Hid,badB,h1,h2];rfl
     rw [h2] at e2
     have q2:bits BinOp.and IntKind.i64 ((m:Int) / 2 ^ k) 1=0:=e2
     clear e2 h1 h2
     go_enter Tryz.func120,Tryz.ntmps120
     go_wp2
     go_ret
     exact ⟨ret_bool HR.out.symm,rfl⟩
   · have HR:Hid (badB i k m=false):=by rw [Hid,badB,h1,h2];rfl
     rw [h2] at e2
     have q2:bits BinOp.and IntKind.i64 ((m:Int) / 2 ^ k) 1=1:=e2
     clear e2 h1 h2
     go_enter Tryz.func120,Tryz.ntmps120
     go_wp2
     go_ret
     exact ⟨ret_bool HR.out.symm,rfl⟩
theorem i_KnownOrder (n:Int) (v:Value) (xss:List (List Int)) (w:World) (h:Rd2 w v xss) (hn:I64 n) (hk:netOk n xss=true):Calls Tryz.prog 66 #[.agg #[.int .i64 n,v]] w (RetOwn2 (knownL n xss) w):=by
 obtain ⟨a,c,rfl,h2,h3⟩:=h.form
 obtain ⟨w0,hw0,hb0,hz0,c0,c1⟩:=net_box w (.int .i64 n) (.slice a xss.length c) 30
 have hb1:Below (w.heap.size+1) w0 (w0.alloc (.cells #[] 23)):=(Below.refl _ _).alloc (by omega) _
 have HS:=i_ResultsOf n _ xss (w0.alloc (.cells #[] 23)) (h.below (hb0.trans (hb1.mono (by omega)))) hn
 have HR:=Lib.hid (knownL_ok hk)
 rw [resN_nats hk] at HS
 obtain ⟨N,rfl,hN1,hN8,hL60⟩:=netOk_n hk
 rw [Int.toNat_natCast] at HR
 have hp:=pow_le8 hN8
 have hrl:=resN_len (N:Int) xss
 have hr0:=resN_pos hk
 have hrb:=resN_lt (n:=(N:Int)) (xss:=xss)
 rw [Int.toNat_natCast] at hrl hrb
 have C0:=Lib.hid c0
 have C1:=Lib.hid c1
 obtain ⟨res,hres⟩:∃ res,resN (N:Int) xss=res:=⟨_,rfl⟩
 rw [hres] at HS hrl hr0 hrb HR
 have HP:Hid (∀ i k,knP res i k=(decide (i≠k) && !res.any (badB i k))):=fun i k=>rfl
 have HCF:Hid (∀ (u:Value) (W:World) (i k b1 b2:Nat),i < 8→k < 8→Rd W u (ints (natsI res))→W.cell? ⟨b1,0,none⟩=some (.int .i64 i)→W.cell? ⟨b2,0,none⟩=some (.int .i64 k)→Calls Tryz.prog 119 #[u,.func (.func 120) #[] #[.pointer (some ⟨b1,0,none⟩),.pointer (some ⟨b2,0,none⟩)]] W fun e w'=>e=.returned (.bool (res.any (badB i k)))∧W=w'):=fun u W i k b1 b2 hi hk8 hu d1 d2=>by
  have:=f_ContainsFunc (fun x=>badB i k x.toNat) 120 #[.pointer (some ⟨b1,0,none⟩),.pointer (some ⟨b2,0,none⟩)] k_Kno u (natsI res) W hu fun x hx=>by
   simp only [natsI,List.mem_map] at hx
   obtain ⟨r,hr,rfl⟩:=hx
   have:=hrb r hr
   exact i_Kno1 r i k b1 b2 (by omega) hi hk8 W d1 d2
  rwa [any_natsI] at this
 obtain ⟨p,hp0⟩:∃ p,knP res=p:=⟨_,rfl⟩
 rw [hp0] at HP HR
 have HNIL:Hid (∀ (W:World) (ad:Addr) (n c:Nat),(binOp .eql 23 (.slice (some ad) n c) (.slice none 0 0)).run Tryz.prog W=.ok (.bool false) W):=fun W ad n c=>by
  have:=Lib.run_eql_slice_nil (P:=Tryz.prog) W 23 3 (some ad) n c 0 0 Tryz.underlying23
  simpa using this
 clear hk hres hrb hp0
 go_enter Tryz.func66,Tryz.ntmps66
 go_upto_region 5 with (go_at_call 67;refine HS.mono ?_;rintro e w2 ⟨vs,rfl,hos,hb2⟩;obtain ⟨as_,ns,cs,rfl,HNS,_,_⟩:=hos.rd.formN;obtain ⟨ads,has⟩:=hos.some_of (by rw [ints_length,natsI_len];exact hr0);subst has;have hnil:=HNIL.out w2 ads ns cs)
 have hz1:(w0.alloc (.cells #[] 23)).heap.size=w0.heap.size+1:=by simp
 have hb2':Below (w.heap.size+1) w0 w2:=hb1.trans (hb2.mono (by omega))
 have hs2:=hb2.size
 obtain ⟨c0,c1⟩:=Below.cells2 hb2' (Nat.lt_succ_self _) C0.out C1.out
 have hout:Own2 w2 23 3 (w.heap.size+1) w2.heap.size (.slice (some ⟨w.heap.size+1,0,none⟩) 0 0) []:=by
  refine ⟨[],?_,fun k hk=>?_,RowsOwn.nil _ _ _ _⟩
  · have:=(Own.lit0 (B:=w.heap.size+1) w0 23 (by omega)).below hb2
    rw [hz0] at this
    exact this
  · simp [Value.ownBlock] at hk
    omega
 have hset:Own w2 3 (w.heap.size+1) (.slice (some ads) ns cs) (ints (natsI res)):=hos.mono (by omega)
 go_wp2
 clear c0 c1 hos hnil hz1 hb2 HS hw0 hb1
 go_loopg [3,14] N (fun g vo iv wr=>∃ i:Nat,g=N - i∧i≤N∧iv=.int .i64 i∧Own2 wr 23 3 (w.heap.size+1) wr.heap.size vo (kL p N i)∧Own wr 3 (w.heap.size+1) (.slice (some ads) ns cs) (ints (natsI res))∧Below (w.heap.size+1) w0 wr)
 case atStart=>exact ⟨0,rfl,Nat.zero_le _,rfl,hout,hset,hb2'⟩
 case round =>
  clear hout hset hb2' hs2
  obtain ⟨i,hg,hil,rfl,ho,hset,hb⟩:=hrel
  obtain ⟨ao,co,rfl,_,_⟩:=ho.form
  obtain ⟨no,hno⟩:∃ no,(kL p N i).length=no:=⟨_,rfl⟩
  rw [hno] at ho ⊢
  clear hno
  by_cases hlt:i < N
  · obtain ⟨wo,rfl⟩:∃ wo:World,wo=wr:=⟨_,rfl⟩
    have g0:wo.cell? ⟨w.heap.size,0,none⟩=some (.int .i64 N):=(hb.cell (Nat.lt_succ_self _)).trans C0.out
    obtain ⟨w5,hw5⟩:∃ w5,wo.alloc (.cells #[.int .i64 i] 3)=w5:=⟨_,rfl⟩
    have hz5:w5.heap.size=wo.heap.size+1:=by rw [←hw5];simp
    have hb5:Below wo.heap.size wo w5:=by rw [←hw5];exact (Below.refl _ _).alloc (Nat.le_refl _) _
    have d0:w5.cell? ⟨wo.heap.size,0,none⟩=some (.int .i64 i):=by rw [←hw5];exact (cell_of_row _ _ 0 _ _ (0,0) (heap_alloc_new wo _)).trans rfl
    have g5:w5.cell? ⟨w.heap.size,0,none⟩=some (.int .i64 N):=(hb5.cell (World.block_lt_of_cell? _ _ g0)).trans g0
    have hsb:=hb.size
    have hT:∀ g,(Value.slice ao no co).ownBlock=some g→g≠wo.heap.size:=fun g hg e=>by
     obtain ⟨rows,hov,_,_⟩:=ho
     have:=(hov.lt g hg).2
     omega
    have ho5:=(ho.below hb5).mono (Nat.le_refl (w.heap.size+1)) (show wo.heap.size≤w5.heap.size by omega)
    have hset5:=hset.below hb5
    have hbb5:Below (w.heap.size+1) w0 w5:=hb.trans (hb5.mono (by omega))
    obtain ⟨bi,hbi⟩:∃ bi,wo.heap.size=bi:=⟨_,rfl⟩
    rw [hbi] at d0 hT
    have hbi2:w.heap.size < bi:=by omega
    clear g0 ho hset
    go_wp2
    try rw [hw5]
    try rw [hbi]
    clear hw5 hb5 g5 hz5
    go_loopg [3,19] N (fun g vo kv wr=>∃ k:Nat,g=N - k∧k≤N∧kv=.int .i64 k∧Own2 wr 23 3 (w.heap.size+1) wr.heap.size vo (kL p N i++fltAt p i k)∧Own wr 3 (w.heap.size+1) (.slice (some ads) ns cs) (ints (natsI res))∧Below (w.heap.size+1) w0 wr∧(∀ g,vo.ownBlock=some g→g≠bi)∧wr.cell? ⟨bi,0,none⟩=some (.int .i64 i))
    case atStart=>exact ⟨0,rfl,Nat.zero_le _,rfl,by simpa [fltAt] using ho5,hset5,hbb5,hT,d0⟩
    case round =>
     clear ho5 hset5 hbb5 hT d0
     obtain ⟨k,hgk,hkl,rfl,ho,hset,hb,hT,d0⟩:=hrel
     by_cases hltk:k < N
     · obtain ⟨wy,rfl⟩:∃ wy:World,wy=wr:=⟨_,rfl⟩
       obtain ⟨w6,hw6⟩:∃ w6,wy.alloc (.cells #[.int .i64 k] 3)=w6:=⟨_,rfl⟩
       have hz6:w6.heap.size=wy.heap.size+1:=by rw [←hw6];simp
       have hb6:Below wy.heap.size wy w6:=by rw [←hw6];exact (Below.refl _ _).alloc (Nat.le_refl _) _
       have d1:w6.cell? ⟨wy.heap.size,0,none⟩=some (.int .i64 k):=by rw [←hw6];exact (cell_of_row _ _ 0 _ _ (0,0) (heap_alloc_new wy _)).trans rfl
       have d6:w6.cell? ⟨bi,0,none⟩=some (.int .i64 i):=(hb6.cell (World.block_lt_of_cell? _ _ d0)).trans d0
       have hbiy:=World.block_lt_of_cell? _ _ d0
       have hsb:=hb.size
       have hCF:=HCF.out (.slice (some ads) ns cs) w6 i k bi wy.heap.size (by omega) (by omega) (hset.below hb6).rd d6 d1
       have hpk:=HP.out i k
       obtain ⟨bk,hbk⟩:∃ bk,wy.heap.size=bk:=⟨_,rfl⟩
       rw [hbk] at d1 hCF
       have HYN:Hid ((p i k=true→fltAt p i (k+1)=fltAt p i k++[[(i:Int),(k:Int)]])∧(p i k=false→fltAt p i (k+1)=fltAt p i k)):=⟨fltAt_yes,fltAt_no⟩
       generalize p i k=b at hpk HYN
       by_cases hik:i=k
       · have q0:((i:Int) != (k:Int))=false:=by simp [hik]
         have hbf:b=false:=by rw [hpk,hik];simp
         have HA:=Lib.hid (HYN.out.2 hbf)
         clear HYN hpk hbf hik hCF
         go_wp2
         try rw [hw6]
         go_roundg (N - (k+1))
         case measure=>omega
         case rel=>exact ⟨k+1,rfl,by omega,by go_num,by rw [HA.out];exact (ho.below hb6).mono (Nat.le_refl _) hb6.size,hset.below hb6,hb.trans (hb6.mono (by omega)),hT,d6⟩
       · have q0:((i:Int) != (k:Int))=true:=by rw [bne_iff_ne];omega
         rw [show decide (i≠k)=true by simpa using hik,Bool.true_and] at hpk
         have HCH:=Lib.hid hCF
         generalize res.any (badB i k)=q at HCH hpk
         clear hik hCF
         cases q
         · have HA:=Lib.hid (HYN.out.1 hpk)
           clear HYN hpk
           obtain ⟨rows,hov,hTT,hrows⟩:=ho
           have hrl2:rows.length≤200:=by
            have e1:=hrows.1
            have e2:=kL_len p N i
            have e3:=fltAt_len p i k
            rw [List.length_append] at e1
            have : N * i≤8 * 8:=Nat.mul_le_mul hN8 (by omega)
            omega
           obtain ⟨aq,cq,rfl,_,_⟩:=hov.rd.form
           obtain ⟨nr,hnr⟩:∃ nr,rows.length=nr:=⟨_,rfl⟩
           have HNR:=Lib.hid hnr
           rw [hnr] at hov hrl2 hT hTT ⊢
           clear hnr
           go_upto_region 12 with (go_at_call 119;refine HCH.out.mono ?_;rintro e w' ⟨rfl,rfl⟩)
           try rw [hw6]
           obtain ⟨w7,hw7⟩:∃ w7,w6.alloc (.cells #[.int .i64 i,.int .i64 k] 3)=w7:=⟨_,rfl⟩
           have hs7:w7.heap.size=w6.heap.size+1:=by rw [←hw7];simp
           have hb67:Below w6.heap.size w6 w7:=by rw [←hw7];exact (Below.refl _ _).alloc (Nat.le_refl _) _
           have hb7:Below wy.heap.size wy w7:=hb6.trans (hb67.mono (by omega))
           have hrow:Own w7 3 w6.heap.size (.slice (some ⟨w6.heap.size,0,none⟩) 2 2) (ints [(i:Int),(k:Int)]):=by rw [←hw7];exact row2_own w6 _ _ _ (Nat.le_refl _) _
           rw [show w6.heap.size=bk+1 by omega] at hrow
           have hov3:=hov.below hb7
           have hB3:w.heap.size+1≤w7.heap.size:=by omega
           have hn1:(nr+1) * 24≤140737488355328:=by omega
           have hn2:nr+1≤9223372036854775807:=by omega
           go_wp2_with (at_builtin;(refine wpList_app1m rfl _ _ 28 rfl elII ?_ hov3 ?_ ?_ hB3 nr HNR.out hn1 hn2 ?_);(focus exact rfl);(focus (simp [Act.eval]));(focus exact rfl);intro bn cn' w8 ho8 hg8 hat8)
           have ho9:=Own2.app ((hrows.below hb7).snoc (hrow.mono (show w.heap.size+1≤bk+1 by omega)) (fun k hk=>by simp [Value.ownBlock] at hk;omega) (show wy.heap.size≤w7.heap.size by omega)) hov3 (by decide) hg8 ho8 hg8.size
           have hb8:=(hb.trans (hb7.mono (by omega))).grown hg8 hB3 fun r hr=>(hov3.lt r hr).1
           have hset7:=hset.below hb7
           have hset8:=hset7.apart hg8 fun g h2 h3=>Own.elem_ne hset7 hov3 (by decide) g h2 h3
           have hd8:w8.cell? ⟨bi,0,none⟩=some (.int .i64 i):=(grown_cell hg8 _ (show bi < w7.heap.size by omega) fun e=>hT bi e.symm rfl).trans ((hb7.cell hbiy).trans d0)
           go_roundg (N - (k+1))
           case measure=>omega
           case rel=>exact ⟨k+1,rfl,by omega,by go_num,by rw [HA.out,←List.append_assoc];exact ho9,hset8,hb8,fun g hg e=>by
            rcases hat8 with e8 | ⟨q,hq',e8⟩
            · exact hT g (e8 ▸ hg) e
            · rw [e8] at hg
              cases hg
              omega,hd8⟩
         · have HA:=Lib.hid (HYN.out.2 hpk)
           clear HYN hpk
           go_wp2_with (go_at_call 119;refine HCH.out.mono ?_;rintro e w' ⟨rfl,rfl⟩)
           try rw [hw6]
           go_roundg (N - (k+1))
           case measure=>omega
           case rel=>exact ⟨k+1,rfl,by omega,by go_num,by rw [HA.out];exact (ho.below hb6).mono (Nat.le_refl _) hb6.size,hset.below hb6,hb.trans (hb6.mono (by omega)),hT,d6⟩
     · obtain rfl:N=k:=by omega
       go_wp2
       go_roundg (N - (i+1))
       case measure=>omega
       case rel=>exact ⟨i+1,rfl,by omega,by go_num,ho,hset,hb⟩
  · obtain rfl:N=i:=by omega
    go_wp2
    go_ret
    rw [HR.out]
    exact ⟨_,rfl,ho.mono (by omega) (Nat.le_refl _),hb0.trans (hb.mono (by omega))⟩
end Go.Proofs.YtggblfnajeikjaaGreatDoor
