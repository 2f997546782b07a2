/- Joined texts of the proof: SymB, SortB, SortC, SortE. -/
import Derived.IntWalk
import Derived.Test.YtggblfnajeikjaaGreatDoorJ12
namespace Go.Proofs.YtggblfnajeikjaaGreatDoor
open Go.RowKit
set_option linter.unusedVariables false
set_option linter.unusedSimpArgs false
set_option maxRecDepth 100000
set_option maxHeartbeats 16000000
theorem f_symB_first (key:Int→Int) (p:Int→Prop) (fn:Nat) (cap:Array Value) (hknown:Known fn) (v:Value) (Bk n:Nat) (hl:n≤1000) (P B S:List Int) (x:Int) (a m b:Nat) (w:World)
 (ho:Own w 3 Bk v (ints (P++([x]++(B++S))))) (hn:(P++([x]++(B++S))).length=n) (ha:a=P.length) (hm:m=a+1) (hb:b=m+B.length) (hB1:1≤B.length) (hB:KAsc key B)
 (hpx:p x) (hpB:∀ y∈B,p y) (hc:CmpOkB key p fn cap v.ownBlock w) :
 Calls Tryz.prog 225 #[v,.int .i64 a,.int .i64 m,.int .i64 b,.func (.func fn) #[] cap] w (RetS Bk v (P++(srtS key ([x]++B)++S)) w):=by
 obtain ⟨al,c,rfl,h2,h3⟩:=ho.rd.formi
 obtain ⟨xs,hxs⟩:∃ xs,P++([x]++(B++S))=xs:=⟨_,rfl⟩
 rw [hxs] at ho hn ⊢
 rw [hn] at ho ⊢
 obtain ⟨T,hT⟩:∃ T,P++(srtS key ([x]++B)++S)=T:=⟨_,rfl⟩
 rw [hT]
 have HTT:=Lib.hid hT
 clear hT
 have hnn:n=P.length+1+B.length+S.length:=by rw [←hn,←hxs];simp;omega
 have HX:=Lib.hid hxs
 have HN:=Lib.hid hn
 have HCM:=Lib.hid hc
 have HPB:=Lib.hid hpB
 have HKB:=Lib.hid hB
 have hbn:b≤n:=by omega
 have hab:a+2≤b:=by omega
 have ham:a < n:=by omega
 have HA0:=Lib.hid ha
 have HMM:=Lib.hid hm
 have HBB:=Lib.hid hb
 have e1:((m:Int) - (a:Int) == 1)=true:=by simp;omega
 have hmb:m≤b:=by omega
 have hm1:1≤m:=by omega
 have hxa:Hid (xs[a]?=some x):=by rw [Hid,←hxs,ha];simp
 have HxB:Hid (∀ q,m≤q→q < b→xs[q]?=B[q - m]?):=fun q h1 h2=>by
  have:=get_B (P:=P) (A:=[x]) (B:=B) (S:=S) (c:=q) (by simp;omega) (by simp;omega)
  rw [←hxs,this]
  congr 1
  simp
  omega
 clear hxs hn h2 hc hpB hB ha hm hb hnn
 go_enter Tryz.func225,Tryz.ntmps225
 go_wp2_with fail
 go_loopw [10,11,12] (fun iv jv hv wr=>∃ (i j:Nat),m≤i∧i≤j∧j≤b∧iv=.int .i64 (i:Int)∧jv=.int .i64 (j:Int)∧Hid (i=m∨∃ y,B[i - 1 - m]?=some y∧key y < key x)∧Hid (j=b∨∃ y,B[j - m]?=some y∧key x≤key y)∧Own wr 3 Bk (.slice al n c) (ints xs)∧w.grownBy wr (Value.slice al n c).ownBlock) (fun iv jv _ _=>(intOf jv).toNat - (intOf iv).toNat)
 case atStart=>exact ⟨m,b,Nat.le_refl _,hmb,Nat.le_refl _,rfl,rfl,.inl rfl,.inl rfl,ho,World.grownBy.refl _ _⟩
 case round =>
  clear ho
  obtain ⟨i,j,him,hij,hjb,rfl,rfl,HI,HJ,ho,hg⟩:=hrel
  by_cases hlt:i < j
  · have i1:(i:Int) < (j:Int):=by omega
    obtain ⟨q,hq⟩:∃ q:Nat,((i:Int)+(j:Int)) / 2=(q:Int):=⟨(i+j) / 2,by omega⟩
    have hqi:i≤q:=by omega
    have hqj:q < j:=by omega
    have HQ:=Lib.hid hq
    clear hq
    go_wp2_with fail
    rw [HQ.out]
    have hyB:=HxB.out q (by omega) (by omega)
    obtain ⟨y,hy0⟩:∃ y,B[q - m]?=some y:=⟨_,List.getElem?_eq_getElem (by have:=HBB.out;omega)⟩
    rw [hy0] at hyB
    have HY:=Lib.hid hy0
    have hyp:=HPB.out y (List.mem_of_getElem? hy0)
    obtain ⟨ad,y2,rfl,hcy,hy2⟩:=ho.rd.int (k:=q) (by have:=HN.out;omega)
    have hcx:=ho.rd.cell_i hxa.out
    have hcyy:=ho.rd.cell_i hyB
    have i2:(q:Int) < (n:Int):=by omega
    have i3:(a:Int) < (n:Int):=by omega
    have GC:Hid (∀ W,Below wr.heap.size wr W→Calls Tryz.prog fn (#[.int .i64 y,.int .i64 x]++cap) W (RetQB (.int .i64 (cmpV key y x)) W)):=fun W hW=>HCM.out _ y x (grownBy_trans hg (gbB hW)) hyp hpx
    have HCC:Hid (∀ W,Below wr.heap.size wr W→W.cell? (ad.add a)=some (.int .i64 x)∧W.cell? (ad.add q)=some (.int .i64 y)):=fun W hW=>⟨(hW.cell (World.block_lt_of_cell? _ _ hcx)).trans hcx,(hW.cell (World.block_lt_of_cell? _ _ hcyy)).trans hcyy⟩
    have hcall:∀ W,(callFunc fn (#[.int .i64 y,.int .i64 x]++cap)).run Tryz.prog W=.ok (.enter fn (#[.int .i64 y,.int .i64 x]++cap)) W:=fun W=>hknown _ W
    clear hcy hy2 hy0 hyB
    by_cases hk:key y < key x
    · have hcv:=cmpV_lt hk
      have HK:=Lib.hid hk
      obtain ⟨cq,hcq⟩:∃ cq,cmpV key y x=cq:=⟨_,rfl⟩
      rw [hcq] at GC hcv
      clear hcq hk
      go_region_held3 (fun wx=>wx.cell? (ad.add a)=some (.int .i64 x)∧wx.cell? (ad.add q)=some (.int .i64 y))
       (first | exact HCC.out _ b5 | go_keep)
       (first | (go_simp;refine (GC.out _ (by exact ⟨rfl,rfl,rfl,Nat.le_refl _,fun _ _=>rfl⟩)).mono ?_;rintro e w5 ⟨rfl,b5w⟩;have b5:Below wr.heap.size wr w5:=(by exact ⟨b5w.os,b5w.tape,b5w.output,b5w.size,b5w.block⟩)))
      have ho1:=ho.below b5
      have hg1:=grownBy_trans hg (gbB b5)
      clear hcx hcyy GC HCC hcall ho hg
      go_wp2_with fail
      go_roundw
      case rel=>exact ⟨q+1,j,by omega,by omega,hjb,by go_num,rfl,.inr ⟨y,by rw [show q+1 - 1 - m=q - m by omega];exact HY.out,HK.out⟩,HJ,ho1,hg1⟩
      case measure=>simp [intOf];omega
    · have hcv:=cmpV_ge hk
      have HK:=Lib.hid hk
      obtain ⟨cq,hcq⟩:∃ cq,cmpV key y x=cq:=⟨_,rfl⟩
      rw [hcq] at GC hcv
      clear hcq hk
      go_region_held3 (fun wx=>wx.cell? (ad.add a)=some (.int .i64 x)∧wx.cell? (ad.add q)=some (.int .i64 y))
       (first | exact HCC.out _ b5 | go_keep)
       (first | (go_simp;refine (GC.out _ (by exact ⟨rfl,rfl,rfl,Nat.le_refl _,fun _ _=>rfl⟩)).mono ?_;rintro e w5 ⟨rfl,b5w⟩;have b5:Below wr.heap.size wr w5:=(by exact ⟨b5w.os,b5w.tape,b5w.output,b5w.size,b5w.block⟩)))
      have ho1:=ho.below b5
      have hg1:=grownBy_trans hg (gbB b5)
      clear hcx hcyy GC HCC hcall ho hg
      go_wp2_with fail
      go_roundw
      case rel=>exact ⟨i,q,him,hqi,by omega,rfl,rfl,HI,.inr ⟨y,HY.out,by have:=HK.out;omega⟩,ho1,hg1⟩
      case measure=>simp [intOf];omega
  · obtain rfl:i=j:=by omega
    have HS:Hid (upN xs a (i - 1 - a)=P++(srtS key ([x]++B)++S)):=by
     have e:=first_cut HKB.out (i - m) (by have:=HBB.out;omega) (by
      rcases HI.out with h | ⟨y,hy,hk⟩
      · exact .inl (by omega)
      · exact .inr ⟨y,by rw [show i - m - 1=i - 1 - m by omega];exact hy,hk⟩) (by
      rcases HJ.out with h | ⟨y,hy,hk⟩
      · exact .inl (by have:=HBB.out;omega)
      · exact .inr ⟨y,hy,hk⟩)
     have u:=upN_blocks (B.take (i - m)) P (B.drop (i - m)++S) x
     rw [List.length_take,show min (i - m) B.length=i - 1 - a by have:=HBB.out;have:=HMM.out;omega,←HA0.out] at u
     rw [Hid,e,←HX.out]
     have e2:P++([x]++(B++S))=P++(x :: (B.take (i - m)++(B.drop (i - m)++S))):=by
      rw [←List.append_assoc (B.take (i - m)),List.take_append_drop];rfl
     rw [e2,u]
     simp
    rw [HTT.out] at HS
    obtain ⟨r,hr⟩:∃ r,i=r+1:=⟨i - 1,by omega⟩
    have har:a≤r:=by have:=HMM.out;omega
    have hrn:r+1≤n:=by omega
    subst hr
    clear HI HJ him hij hjb hlt
    have HS':Hid (upN xs a (r - a)=T):=by have:=HS.out;rwa [show r+1 - 1 - a=r - a by omega] at this
    clear HS
    have e9:((r+1:Nat):Int) - 1=(r:Int):=by omega
    have e10:(r:Int)+1 - 1=(r:Int):=by omega
    go_wp2_with fail
    go_loopw [13] (fun kv wz=>∃ (k:Nat) (zs:List Int),k≤r∧kv=.int .i64 (k:Int)∧Own wz 3 Bk (.slice al n c) (ints zs)∧Hid (zs.length=n)∧Hid (upN zs k (r - k)=T)∧w.grownBy wz (Value.slice al n c).ownBlock) (fun kv _=>r - (intOf kv).toNat)
    case atStart=>exact ⟨a,xs,har,rfl,ho,HN,HS',hg⟩
    case round =>
     clear ho hg HS' HX
     obtain ⟨k,zs,hkr,rfl,ho,HZ,HT,hg⟩:=hrel
     by_cases hk:k < r
     · have i0:(k:Int) < (r:Int):=by omega
       obtain ⟨ad,y,rfl,_,hy⟩:=ho.rd.int (k:=k) (by rw [HZ.out];omega)
       obtain ⟨_,z,had,_,hz⟩:=ho.rd.int (k:=k+1) (by rw [HZ.out];omega)
       clear had
       obtain ⟨c1,c2,f1,f2,c3,f3,ho3,hg3⟩:=swp_w ho hy.out hz.out (by omega)
       have HT3:Hid (upN (swp zs k (k+1)) (k+1) (r - (k+1))=T):=by
        have:=HT.out
        rw [show r - k=(r - (k+1))+1 by omega,upN] at this
        exact this
       have HZ3:Hid ((swp zs k (k+1)).length=n):=by rw [Hid,swp_length];exact HZ.out
       replace hg3:=grownBy_trans hg hg3
       have i1:(k:Int) < (n:Int):=by omega
       have i2:(k:Int)+1 < (n:Int):=by omega
       have i4:(0:Int)≤(k:Int)+1:=by omega
       have i5:((k:Int)+1).toNat=k+1:=by omega
       rw [add_succ] at c2 f2 c3 f3 ho3 hg3
       clear ho hg hy hz
       go_wp2_with fail
       go_region
       all_goals
        go_wp2_with fail
        go_roundw
        case rel=>exact ⟨k+1,_,by omega,by go_num,ho3,HZ3,HT3,⟨hg3.os,hg3.tape,hg3.output,hg3.size,hg3.block⟩⟩
        case measure=>simp [intOf];omega
     · obtain rfl:k=r:=by omega
       have HE:Hid (zs=T):=by have:=HT.out;rw [Nat.sub_self] at this;exact this
       rw [HE.out] at ho
       go_wp2_with fail
       refine bodyPost_ret (results_none rfl _ _ _) rfl ?_
       exact ⟨rfl,ho,hg⟩
theorem f_symB_last (key:Int→Int) (p:Int→Prop) (fn:Nat) (cap:Array Value) (hknown:Known fn) (v:Value) (Bk n:Nat) (hl:n≤1000) (P A S:List Int) (x:Int) (a m b:Nat) (w:World)
 (ho:Own w 3 Bk v (ints (P++(A++([x]++S))))) (hn:(P++(A++([x]++S))).length=n) (ha:a=P.length) (hm:m=a+A.length) (hb:b=m+1) (hA1:2≤A.length) (hA:KAsc key A)
 (hpx:p x) (hpA:∀ y∈A,p y) (hc:CmpOkB key p fn cap v.ownBlock w) :
 Calls Tryz.prog 225 #[v,.int .i64 a,.int .i64 m,.int .i64 b,.func (.func fn) #[] cap] w (RetS Bk v (P++(srtS key (A++[x])++S)) w):=by
 obtain ⟨al,c,rfl,h2,h3⟩:=ho.rd.formi
 obtain ⟨xs,hxs⟩:∃ xs,P++(A++([x]++S))=xs:=⟨_,rfl⟩
 rw [hxs] at ho hn ⊢
 rw [hn] at ho ⊢
 obtain ⟨T,hT⟩:∃ T,P++(srtS key (A++[x])++S)=T:=⟨_,rfl⟩
 rw [hT]
 have HTT:=Lib.hid hT
 clear hT
 have hnn:n=P.length+A.length+1+S.length:=by rw [←hn,←hxs];simp;omega
 have HX:=Lib.hid hxs
 have HN:=Lib.hid hn
 have HCM:=Lib.hid hc
 have HPA:=Lib.hid hpA
 have HKA:=Lib.hid hA
 have hmn:m < n:=by omega
 have ham:a+2≤m:=by omega
 have HA0:=Lib.hid ha
 have HMM:=Lib.hid hm
 have e1:((m:Int) - (a:Int) == 1)=false:=by simp;omega
 have e2:((b:Int) - (m:Int) == 1)=true:=by simp;omega
 have e2i:(b:Int) - (m:Int)=1:=by omega
 have hxm:Hid (xs[m]?=some x):=by
  have:=get_B (P:=P) (A:=A) (B:=[x]) (S:=S) (c:=m) (by omega) (by simp;omega)
  rw [Hid,←hxs,this,hm,ha]
  simp
 have HxA:Hid (∀ q,a≤q→q < m→xs[q]?=A[q - a]?):=fun q h1 h2=>by
  have:=get_A (P:=P) (A:=A) (B:=[x]) (S:=S) (c:=q) (by omega) (by omega)
  rw [←hxs,this,ha]
 clear hxs hn h2 hc hpA hA ha hm hb hnn hA1
 go_enter Tryz.func225,Tryz.ntmps225
 go_wp2_with fail
 go_loopw [14,15,16] (fun iv jv hv wr=>∃ (i j:Nat),a≤i∧i≤j∧j≤m∧iv=.int .i64 (i:Int)∧jv=.int .i64 (j:Int)∧Hid (i=a∨∃ y,A[i - 1 - a]?=some y∧key y≤key x)∧Hid (j=m∨∃ y,A[j - a]?=some y∧key x < key y)∧Own wr 3 Bk (.slice al n c) (ints xs)∧w.grownBy wr (Value.slice al n c).ownBlock) (fun iv jv _ _=>(intOf jv).toNat - (intOf iv).toNat)
 case atStart=>exact ⟨a,m,Nat.le_refl _,by omega,Nat.le_refl _,rfl,rfl,.inl rfl,.inl rfl,ho,World.grownBy.refl _ _⟩
 case round =>
  clear ho
  obtain ⟨i,j,him,hij,hjb,rfl,rfl,HI,HJ,ho,hg⟩:=hrel
  by_cases hlt:i < j
  · have i1:(i:Int) < (j:Int):=by omega
    obtain ⟨q,hq⟩:∃ q:Nat,((i:Int)+(j:Int)) / 2=(q:Int):=⟨(i+j) / 2,by omega⟩
    have hqi:i≤q:=by omega
    have hqj:q < j:=by omega
    have HQ:=Lib.hid hq
    clear hq
    go_wp2_with fail
    rw [HQ.out]
    have hyA:=HxA.out q (by omega) (by omega)
    obtain ⟨y,hy0⟩:∃ y,A[q - a]?=some y:=⟨_,List.getElem?_eq_getElem (by have:=HMM.out;omega)⟩
    rw [hy0] at hyA
    have HY:=Lib.hid hy0
    have hyp:=HPA.out y (List.mem_of_getElem? hy0)
    obtain ⟨ad,y2,rfl,hcy,hy2⟩:=ho.rd.int (k:=q) (by have:=HN.out;omega)
    have hcx:=ho.rd.cell_i hxm.out
    have hcyy:=ho.rd.cell_i hyA
    have i2:(q:Int) < (n:Int):=by omega
    have i3:(m:Int) < (n:Int):=by omega
    have GC:Hid (∀ W,Below wr.heap.size wr W→Calls Tryz.prog fn (#[.int .i64 x,.int .i64 y]++cap) W (RetQB (.int .i64 (cmpV key x y)) W)):=fun W hW=>HCM.out _ x y (grownBy_trans hg (gbB hW)) hpx hyp
    have HCC:Hid (∀ W,Below wr.heap.size wr W→W.cell? (ad.add m)=some (.int .i64 x)∧W.cell? (ad.add q)=some (.int .i64 y)):=fun W hW=>⟨(hW.cell (World.block_lt_of_cell? _ _ hcx)).trans hcx,(hW.cell (World.block_lt_of_cell? _ _ hcyy)).trans hcyy⟩
    have hcall:∀ W,(callFunc fn (#[.int .i64 x,.int .i64 y]++cap)).run Tryz.prog W=.ok (.enter fn (#[.int .i64 x,.int .i64 y]++cap)) W:=fun W=>hknown _ W
    clear hcy hy2 hy0 hyA
    by_cases hk:key x < key y
    · have hcv:=cmpV_lt hk
      have HK:=Lib.hid hk
      obtain ⟨cq,hcq⟩:∃ cq,cmpV key x y=cq:=⟨_,rfl⟩
      rw [hcq] at GC hcv
      clear hcq hk
      go_region_held3 (fun wx=>wx.cell? (ad.add m)=some (.int .i64 x)∧wx.cell? (ad.add q)=some (.int .i64 y))
       (first | exact HCC.out _ b5 | go_keep)
       (first | (go_simp;refine (GC.out _ (by exact ⟨rfl,rfl,rfl,Nat.le_refl _,fun _ _=>rfl⟩)).mono ?_;rintro e w5 ⟨rfl,b5w⟩;have b5:Below wr.heap.size wr w5:=(by exact ⟨b5w.os,b5w.tape,b5w.output,b5w.size,b5w.block⟩)))
      have ho1:=ho.below b5
      have hg1:=grownBy_trans hg (gbB b5)
      clear hcx hcyy GC HCC hcall ho hg
      go_wp2_with fail
      go_roundw
      case rel=>exact ⟨i,q,him,hqi,by omega,rfl,rfl,HI,.inr ⟨y,HY.out,HK.out⟩,ho1,hg1⟩
      case measure=>simp [intOf];omega
    · have hcv:=cmpV_ge hk
      have HK:=Lib.hid hk
      obtain ⟨cq,hcq⟩:∃ cq,cmpV key x y=cq:=⟨_,rfl⟩
      rw [hcq] at GC hcv
      clear hcq hk
      go_region_held3 (fun wx=>wx.cell? (ad.add m)=some (.int .i64 x)∧wx.cell? (ad.add q)=some (.int .i64 y))
       (first | exact HCC.out _ b5 | go_keep)
       (first | (go_simp;refine (GC.out _ (by exact ⟨rfl,rfl,rfl,Nat.le_refl _,fun _ _=>rfl⟩)).mono ?_;rintro e w5 ⟨rfl,b5w⟩;have b5:Below wr.heap.size wr w5:=(by exact ⟨b5w.os,b5w.tape,b5w.output,b5w.size,b5w.block⟩)))
      have ho1:=ho.below b5
      have hg1:=grownBy_trans hg (gbB b5)
      clear hcx hcyy GC HCC hcall ho hg
      go_wp2_with fail
      go_roundw
      case rel=>exact ⟨q+1,j,by omega,by omega,hjb,by go_num,rfl,.inr ⟨y,by rw [show q+1 - 1 - a=q - a by omega];exact HY.out,by have:=HK.out;omega⟩,HJ,ho1,hg1⟩
      case measure=>simp [intOf];omega
  · obtain rfl:i=j:=by omega
    have HS:Hid (downN xs m (m - i)=T):=by
     have e:=last_cut HKA.out (i - a) (by have:=HMM.out;omega) (by
      rcases HI.out with h | ⟨y,hy,hk⟩
      · exact .inl (by omega)
      · exact .inr ⟨y,by rw [show i - a - 1=i - 1 - a by omega];exact hy,hk⟩) (by
      rcases HJ.out with h | ⟨y,hy,hk⟩
      · exact .inl (by have:=HMM.out;omega)
      · exact .inr ⟨y,hy,hk⟩)
     have u:=downN_blocks (m - i) (A.drop (i - a)) (P++A.take (i - a)) S x (by rw [List.length_drop];have:=HMM.out;omega)
     rw [List.length_append,List.length_take,show P.length+min (i - a) A.length+(m - i)=m by have:=HMM.out;have:=HA0.out;omega] at u
     rw [Hid,←HTT.out,e,←HX.out]
     have e2:P++(A++([x]++S))=P++A.take (i - a)++(A.drop (i - a)++(x :: S)):=by
      rw [List.append_assoc,←List.append_assoc (A.take (i - a)),List.take_append_drop];rfl
     rw [e2,u]
     simp
    have him9:i≤m:=hjb
    clear HI HJ hlt hjb
    go_wp2_with fail
    go_loopw [17] (fun kv wz=>∃ (k:Nat) (zs:List Int),i≤k∧k≤m∧kv=.int .i64 (k:Int)∧Own wz 3 Bk (.slice al n c) (ints zs)∧Hid (zs.length=n)∧Hid (downN zs k (k - i)=T)∧w.grownBy wz (Value.slice al n c).ownBlock) (fun kv _=>(intOf kv).toNat - i)
    case atStart=>exact ⟨m,xs,him9,Nat.le_refl _,rfl,ho,HN,HS,hg⟩
    case round =>
     clear ho hg HS HX
     obtain ⟨k,zs,hik,hkm,rfl,ho,HZ,HT,hg⟩:=hrel
     by_cases hk:i < k
     · obtain ⟨r,rfl⟩:∃ r,k=r+1:=⟨k - 1,by omega⟩
       have i0:(i:Int) < (r:Int)+1:=by omega
       obtain ⟨ad,y,rfl,_,hy⟩:=ho.rd.int (k:=r+1) (by rw [HZ.out];omega)
       obtain ⟨_,z,had,_,hz⟩:=ho.rd.int (k:=r) (by rw [HZ.out];omega)
       clear had
       obtain ⟨c1,c2,f1,f2,c3,f3,ho3,hg3⟩:=swp_w ho hy.out hz.out (by omega)
       have HT3:Hid (downN (swp zs (r+1) r) r (r - i)=T):=by
        have:=HT.out
        rw [show r+1 - i=(r - i)+1 by omega,downN,Nat.add_sub_cancel] at this
        exact this
       have HZ3:Hid ((swp zs (r+1) r).length=n):=by rw [Hid,swp_length];exact HZ.out
       replace hg3:=grownBy_trans hg hg3
       have i1:(r:Int) < (n:Int):=by omega
       have i2:(r:Int)+1 < (n:Int):=by omega
       have i4:(0:Int)≤(r:Int)+1:=by omega
       have i5:((r:Int)+1).toNat=r+1:=by omega
       have i6:(r:Int)+1 - 1=(r:Int):=by omega
       rw [add_succ] at c1 f1 c3 f3 ho3 hg3
       clear ho hg hy hz
       go_wp2_with fail
       go_region
       all_goals
        go_wp2_with fail
        go_roundw
        case rel=>exact ⟨r,_,by omega,by omega,by go_num,ho3,HZ3,HT3,⟨hg3.os,hg3.tape,hg3.output,hg3.size,hg3.block⟩⟩
        case measure=>simp [intOf];omega
     · obtain rfl:i=k:=by omega
       have HE:Hid (zs=T):=by have:=HT.out;rw [Nat.sub_self] at this;exact this
       rw [HE.out] at ho
       go_wp2_with fail
       refine bodyPost_ret (results_none rfl _ _ _) rfl ?_
       exact ⟨rfl,ho,hg⟩
theorem f_symMergeB (key:Int→Int) (p:Int→Prop) (fn:Nat) (cap:Array Value) (hknown:Known fn) (v:Value) (Bk n:Nat) (hl:n≤1000):∀ (N:Nat) (P A B S:List Int) (a m b:Nat) (w:World),
 A.length+B.length≤N→Own w 3 Bk v (ints (P++(A++(B++S))))→(P++(A++(B++S))).length=n→a=P.length→m=a+A.length→b=m+B.length→1≤A.length→1≤B.length→KAsc key A→KAsc key B →
 (∀ y∈A,p y)→(∀ y∈B,p y)→CmpOkB key p fn cap v.ownBlock w →
 Calls Tryz.prog 225 #[v,.int .i64 a,.int .i64 m,.int .i64 b,.func (.func fn) #[] cap] w (RetS Bk v (P++(srtS key (A++B)++S)) w):=by
 intro N
 induction N with
 | zero=>intro P A B S a m b w h0 _ _ _ _ _ h1;omega
 | succ N ih =>
   intro P A B S a m b w hN ho hn ha hm hb hA1 hB1 hA hB hpA hpB hc
   by_cases hA2:A.length=1
   · obtain ⟨x,rfl⟩:=List.length_eq_one_iff.1 hA2
     exact f_symB_first key p fn cap hknown v Bk n hl P B S x a m b w ho hn ha (by simpa using hm) hb hB1 hB (hpA x (by simp)) hpB hc
   by_cases hB2:B.length=1
   · obtain ⟨x,rfl⟩:=List.length_eq_one_iff.1 hB2
     exact f_symB_last key p fn cap hknown v Bk n hl P A S x a m b w ho hn ha hm (by simpa using hb) (by omega) hA (hpB x (by simp)) hpA hc
   obtain ⟨al,c,rfl,h2,h3⟩:=ho.rd.formi
   obtain ⟨xs,hxs⟩:∃ xs,P++(A++(B++S))=xs:=⟨_,rfl⟩
   rw [hxs] at ho hn hc ih ⊢
   rw [hn] at ho hc ih ⊢
   have IH:=Lib.hid ih
   clear ih
   obtain ⟨T,hT⟩:∃ T,P++(srtS key (A++B)++S)=T:=⟨_,rfl⟩
   rw [hT]
   have HTT:=Lib.hid hT
   clear hT
   have hnn:n=P.length+A.length+B.length+S.length:=by rw [←hn,←hxs];simp only [List.length_append];omega
   have HX:=Lib.hid hxs
   have HN:=Lib.hid hn
   have HCM:=Lib.hid hc
   have HPA:=Lib.hid hpA
   have HPB:=Lib.hid hpB
   have HKA:=Lib.hid hA
   have HKB:=Lib.hid hB
   have hbn:b≤n:=by omega
   have ham:a+2≤m:=by omega
   have hmb:m+2≤b:=by omega
   have HNN:Hid (b - a≤N+1):=by rw [Hid];omega
   have HA0:=Lib.hid ha
   have HMM:=Lib.hid hm
   have HBB:=Lib.hid hb
   have e1:((m:Int) - (a:Int) == 1)=false:=by simp;omega
   have e2:((b:Int) - (m:Int) == 1)=false:=by simp;omega
   have HxA:Hid (∀ q,a≤q→q < m→xs[q]?=A[q - a]?):=fun q h1 h2=>by
    have:=get_A (P:=P) (A:=A) (B:=B) (S:=S) (c:=q) (by omega) (by omega)
    rw [←hxs,this,ha]
   have HxB:Hid (∀ q,m≤q→q < b→xs[q]?=B[q - m]?):=fun q h1 h2=>by
    have:=get_B (P:=P) (A:=A) (B:=B) (S:=S) (c:=q) (by omega) (by omega)
    rw [←hxs,this,hm,ha]
   obtain ⟨M,hM⟩:∃ M:Nat,((a:Int)+(b:Int)) / 2=(M:Int):=⟨(a+b) / 2,by omega⟩
   have hM1:2 * M≤a+b:=by omega
   have hM2:a+b≤2 * M+1:=by omega
   have HQM:=Lib.hid hM
   have HSW:=Lib.hid (fun (s:Nat) (h1:a≤s) (h2:s≤m) (h3:s≤M) (h4:M+m≤s+b)
    (c1:s=a∨M+m - s=b∨∃ x y,A[s - 1 - a]?=some x∧B[M+m - s - m]?=some y∧key x≤key y)
    (c2:s=m∨s=M∨∃ x y,A[s - a]?=some x∧B[M+m - s - 1 - m]?=some y∧key y < key x) =>
    sym_cut (key:=key) (A:=A) (B:=B) hA hB (s - a) (M - s) (by omega) (by omega)
     (by
      rcases c1 with h | h | ⟨x,y,hx,hy,hk⟩
      · exact .inl (by omega)
      · exact .inr (.inl (by omega))
      · exact .inr (.inr ⟨x,y,by rw [show s - a - 1=s - 1 - a by omega];exact hx,by rw [show M - s=M+m - s - m by omega];exact hy,hk⟩))
     (by
      rcases c2 with h | h | ⟨x,y,hx,hy,hk⟩
      · exact .inl (by omega)
      · exact .inr (.inl (by omega))
      · exact .inr (.inr ⟨x,y,hx,by rw [show M - s - 1=M+m - s - 1 - m by omega];exact hy,hk⟩)))
   clear hxs hn h2 hc hpA hpB hA hB ha hm hb hnn hA1 hB1 hA2 hB2 hM hN
   by_cases hMm:M < m
   · have d1:(m:Int) > (M:Int):=by omega
     obtain ⟨s0,hs0⟩:∃ s0,M+m=s0+b:=⟨M+m - b,by omega⟩
     have e3:(M:Int)+(m:Int) - (b:Int)=(s0:Int):=by omega
     obtain ⟨P1,hP1⟩:∃ P1,M+m=P1+1:=⟨M+m - 1,by omega⟩
     have e4:(M:Int)+(m:Int) - 1=(P1:Int):=by omega
     have hsa:a≤s0:=by omega
     have hsr:s0≤M:=by omega
     have hrm:M≤m:=by omega
     have HS0:Hid (s0=a∨M+m - s0=b):=by rw [Hid];omega
     have HR0:Hid (M=m∨M=M):=.inr rfl
     have HCB:Hid (∀ q,s0≤q→q < M→m≤P1 - q∧P1 - q < b∧q≤P1):=fun q h1 h2=>by omega
     have HP1:=Lib.hid hP1
     clear hs0 hP1
     go_enter Tryz.func225,Tryz.ntmps225
     go_wp2_with fail
     rw [HQM.out,e3,e4]
     go_loopw [20,21,23] (fun iv jv hv wr=>∃ (i j:Nat),s0≤i∧i≤j∧j≤M∧iv=.int .i64 (i:Int)∧jv=.int .i64 (j:Int)∧Hid (i=s0∨∃ x y,A[i - 1 - a]?=some x∧B[M+m - i - m]?=some y∧key x≤key y)∧Hid (j=M∨∃ x y,A[j - a]?=some x∧B[M+m - j - 1 - m]?=some y∧key y < key x)∧Own wr 3 Bk (.slice al n c) (ints xs)∧w.grownBy wr (Value.slice al n c).ownBlock) (fun iv jv _ _=>(intOf jv).toNat - (intOf iv).toNat)
     case atStart=>exact ⟨s0,M,Nat.le_refl _,hsr,Nat.le_refl _,rfl,rfl,.inl rfl,.inl rfl,ho,World.grownBy.refl _ _⟩
     case round =>
      clear ho
      obtain ⟨i,j,him,hij,hjb,rfl,rfl,HI,HJ,ho,hg⟩:=hrel
      by_cases hlt:i < j
      · have i1:(i:Int) < (j:Int):=by omega
        obtain ⟨q,hq⟩:∃ q:Nat,((i:Int)+(j:Int)) / 2=(q:Int):=⟨(i+j) / 2,by omega⟩
        have hqi:i≤q:=by omega
        have hqj:q < j:=by omega
        have HQ:=Lib.hid hq
        clear hq
        go_wp2_with fail
        rw [HQ.out]
        obtain ⟨hz1,hz2,hz3⟩:=HCB.out q (by omega) (by omega)
        obtain ⟨z,hz⟩:∃ z,P1=z+q:=⟨P1 - q,by omega⟩
        have e5:(P1:Int) - (q:Int)=(z:Int):=by omega
        rw [hz,Nat.add_sub_cancel] at hz1 hz2
        have hxA:=HxA.out q (by omega) (by omega)
        have hyB:=HxB.out z hz1 hz2
        obtain ⟨x,hx0⟩:∃ x,A[q - a]?=some x:=⟨_,List.getElem?_eq_getElem (by have:=HMM.out;omega)⟩
        obtain ⟨y,hy0⟩:∃ y,B[z - m]?=some y:=⟨_,List.getElem?_eq_getElem (by have:=HBB.out;omega)⟩
        rw [hx0] at hxA
        rw [hy0] at hyB
        have hxp:=HPA.out x (List.mem_of_getElem? hx0)
        have hyp:=HPB.out y (List.mem_of_getElem? hy0)
        have HXX:Hid (A[q - a]?=some x):=hx0
        have HYY:Hid (B[M+m - q - 1 - m]?=some y):=by rw [Hid,show M+m - q - 1 - m=z - m by have:=HP1.out;omega];exact hy0
        obtain ⟨ad,y2,rfl,hcy,hy2⟩:=ho.rd.int (k:=q) (by have:=HN.out;omega)
        have hcx:=ho.rd.cell_i hxA
        have hcyy:=ho.rd.cell_i hyB
        have i2:(q:Int) < (n:Int):=by omega
        have i3:(z:Int) < (n:Int):=by omega
        have i7:(0:Int)≤(P1:Int) - (q:Int):=by omega
        have i8:(P1:Int) - (q:Int) < (n:Int):=by omega
        have i9:((P1:Int) - (q:Int)).toNat=z:=by omega
        have i10:IntKind.i64.wrap ((P1:Int) - (q:Int))=(P1:Int) - (q:Int):=IntWalk.i64_in _ (by omega)
        have i11:IntKind.i64.wrap (z:Int)=(z:Int):=IntWalk.i64_in _ (by omega)
        have i12:(0:Int)≤(z:Int):=by omega
        have GC:Hid (∀ W,Below wr.heap.size wr W→Calls Tryz.prog fn (#[.int .i64 y,.int .i64 x]++cap) W (RetQB (.int .i64 (cmpV key y x)) W)):=fun W hW=>HCM.out _ y x (grownBy_trans hg (gbB hW)) hyp hxp
        have HCC:Hid (∀ W,Below wr.heap.size wr W→W.cell? (ad.add q)=some (.int .i64 x)∧W.cell? (ad.add z)=some (.int .i64 y)):=fun W hW=>⟨(hW.cell (World.block_lt_of_cell? _ _ hcx)).trans hcx,(hW.cell (World.block_lt_of_cell? _ _ hcyy)).trans hcyy⟩
        have hcall:∀ W,(callFunc fn (#[.int .i64 y,.int .i64 x]++cap)).run Tryz.prog W=.ok (.enter fn (#[.int .i64 y,.int .i64 x]++cap)) W:=fun W=>hknown _ W
        clear hcy hy2 hx0 hy0 hxA hyB hz
        by_cases hk:key y < key x
        · have hcv:=cmpV_lt hk
          have HK:=Lib.hid hk
          obtain ⟨cq,hcq⟩:∃ cq,cmpV key y x=cq:=⟨_,rfl⟩
          rw [hcq] at GC hcv
          clear hcq hk
          go_region_held3 (fun wx=>wx.cell? (ad.add q)=some (.int .i64 x)∧wx.cell? (ad.add z)=some (.int .i64 y))
           (first | exact HCC.out _ b5 | go_keep)
           (first | (go_simp;refine (GC.out _ (by exact ⟨rfl,rfl,rfl,Nat.le_refl _,fun _ _=>rfl⟩)).mono ?_;rintro e w5 ⟨rfl,b5w⟩;have b5:Below wr.heap.size wr w5:=(by exact ⟨b5w.os,b5w.tape,b5w.output,b5w.size,b5w.block⟩)))
          have ho1:=ho.below b5
          have hg1:=grownBy_trans hg (gbB b5)
          clear hcx hcyy GC HCC hcall ho hg
          go_wp2_with fail
          go_roundw
          case rel=>exact ⟨i,q,him,hqi,by omega,rfl,rfl,HI,.inr ⟨x,y,HXX.out,HYY.out,HK.out⟩,ho1,hg1⟩
          case measure=>simp [intOf];omega
        · have hcv:=cmpV_ge hk
          have HK:=Lib.hid hk
          obtain ⟨cq,hcq⟩:∃ cq,cmpV key y x=cq:=⟨_,rfl⟩
          rw [hcq] at GC hcv
          clear hcq hk
          go_region_held3 (fun wx=>wx.cell? (ad.add q)=some (.int .i64 x)∧wx.cell? (ad.add z)=some (.int .i64 y))
           (first | exact HCC.out _ b5 | go_keep)
           (first | (go_simp;refine (GC.out _ (by exact ⟨rfl,rfl,rfl,Nat.le_refl _,fun _ _=>rfl⟩)).mono ?_;rintro e w5 ⟨rfl,b5w⟩;have b5:Below wr.heap.size wr w5:=(by exact ⟨b5w.os,b5w.tape,b5w.output,b5w.size,b5w.block⟩)))
          have ho1:=ho.below b5
          have hg1:=grownBy_trans hg (gbB b5)
          clear hcx hcyy GC HCC hcall ho hg
          go_wp2_with fail
          go_roundw
          case rel=>exact ⟨q+1,j,by omega,by omega,hjb,by go_num,rfl,.inr ⟨x,y,by rw [show q+1 - 1 - a=q - a by omega];exact HXX.out,by rw [show M+m - (q+1) - m=M+m - q - 1 - m by omega];exact HYY.out,by have:=HK.out;omega⟩,HJ,ho1,hg1⟩
          case measure=>simp [intOf];omega
      · obtain rfl:i=j:=by omega
        have hiM:i≤M:=by omega
        have him2:i≤m:=by omega
        have hMb:M+m≤i+b:=by
         rcases HS0.out with h | h <;> omega
        have HCUT:=Lib.hid (HSW.out i (by omega) him2 hiM hMb (by
         rcases HI.out with h | h
         · rcases HS0.out with h2 | h2
           · exact .inl (by omega)
           · exact .inr (.inl (by omega))
         · exact .inr (.inr h)) (by
         rcases HJ.out with h | h
         · rcases HR0.out with h2 | h2
           · exact .inl (by omega)
           · exact .inr (.inl (by omega))
         · exact .inr (.inr h)))
        obtain ⟨E,hE⟩:∃ E,M+m=E+i:=⟨M+m - i,by omega⟩
        have e6:(M:Int)+(m:Int) - (i:Int)=(E:Int):=by omega
        have HE1:=Lib.hid hE
        have hmE:m≤E:=by omega
        have hEb:E≤b:=by omega
        clear HI HJ hlt HSW hE
        obtain ⟨A1,hA1⟩:∃ A1,A.take (i - a)=A1:=⟨_,rfl⟩
        obtain ⟨U,hU⟩:∃ U,A.drop (i - a)=U:=⟨_,rfl⟩
        obtain ⟨V,hV⟩:∃ V,B.take (M - i)=V:=⟨_,rfl⟩
        obtain ⟨B2,hB2⟩:∃ B2,B.drop (M - i)=B2:=⟨_,rfl⟩
        have HAE:Hid (A=A1++U):=by rw [Hid,←hA1,←hU,List.take_append_drop]
        have HBE:Hid (B=V++B2):=by rw [Hid,←hV,←hB2,List.take_append_drop]
        have HL1:Hid (A1.length=i - a∧U.length=m - i∧V.length=M - i∧B2.length=b - E):=by
         have h1:=HMM.out
         have h2:=HBB.out
         have h3:=HE1.out
         refine ⟨by rw [←hA1,List.length_take];omega,by rw [←hU,List.length_drop];omega,by rw [←hV,List.length_take];omega,by rw [←hB2,List.length_drop];omega⟩
        have HKA2:Hid (KAsc key A1∧KAsc key U):=by
         have:=HKA.out
         rw [HAE.out] at this
         obtain ⟨k1,k2,_⟩:=List.pairwise_append.1 this
         exact ⟨k1,k2⟩
        have HKB2:Hid (KAsc key V∧KAsc key B2):=by
         have:=HKB.out
         rw [HBE.out] at this
         obtain ⟨k1,k2,_⟩:=List.pairwise_append.1 this
         exact ⟨k1,k2⟩
        have HPA2:Hid ((∀ y∈A1,p y)∧(∀ y∈U,p y)):=by
         have:=HPA.out
         rw [HAE.out] at this
         exact ⟨fun y hy=>this y (List.mem_append_left _ hy),fun y hy=>this y (List.mem_append_right _ hy)⟩
        have HPB2:Hid ((∀ y∈V,p y)∧(∀ y∈B2,p y)):=by
         have:=HPB.out
         rw [HBE.out] at this
         exact ⟨fun y hy=>this y (List.mem_append_left _ hy),fun y hy=>this y (List.mem_append_right _ hy)⟩
        have HXU:Hid (xs=(P++A1)++(U++(V++(B2++S)))):=by rw [Hid,←HX.out,HAE.out,HBE.out];simp
        rw [hA1,hU,hV,hB2] at HCUT
        have HLZ:Hid ((P++(A1++(V++(U++(B2++S))))).length=n):=by
         have:=HN.out
         rw [HXU.out] at this
         rw [Hid]
         simp only [List.length_append] at this ⊢
         omega
        obtain ⟨D,hD⟩:∃ D,srtS key (A1++V)=D:=⟨_,rfl⟩
        have HD:=Lib.hid hD
        have HDL:Hid (D.length=M - a):=by
         have:=HL1.out
         rw [Hid,←hD,srtS_length,List.length_append]
         omega
        have HFIN:Hid ((P++D)++(srtS key (U++B2)++S)=T):=by
         rw [Hid,←HTT.out,HCUT.out,hD]
         simp
        have HNa:Hid (M - a≤N∧b - M≤N):=by have:=HNN.out;rw [Hid];omega
        clear hA1 hU hV hB2 hD HCUT HKA HKB HPA HPB HX HxA HxB HCB HAE HBE HTT
        rcases (show (i < m∧m < E)∨(i < m∧¬ m < E)∨¬ i < m by omega) with h1 | h1 | h1
        all_goals first
         | (have r1:(i:Int) < (m:Int):=by omega
            have r2:(m:Int) < (E:Int):=by omega
            go_wp2_with fail
            refine (f_rotate (.func (.func fn) #[] cap) _ (P++A1) U V (B2++S) xs Bk _ HXU.out ho (by have:=HN.out;omega) (by have:=HL1.out;omega) (by have:=HL1.out;have:=HE1.out;omega) i m E (by rw [List.length_append];have:=HL1.out;have:=HA0.out;omega) (by have:=HL1.out;omega) (by have:=HL1.out;have:=HE1.out;omega)).mono ?_
            rintro e w2 ⟨rfl,ho2,hg2⟩
            have ho3:Own w2 3 Bk (.slice al n c) (ints (P++(A1++(V++(U++(B2++S)))))):=by rw [←List.append_assoc P];exact ho2
            have hg3:=grownBy_trans hg hg2
            clear ho hg ho2 hg2)
         | (have r1:(i:Int) < (m:Int):=by omega
            have r2:¬ (m:Int) < (E:Int):=by omega
            have hV0:V=[]:=List.eq_nil_of_length_eq_zero (by have:=HL1.out;have:=HE1.out;omega)
            have ho3:Own wr 3 Bk (.slice al n c) (ints (P++(A1++(V++(U++(B2++S)))))):=by
             have e:=HXU.out
             have e2:(P++A1)++(U++(V++(B2++S)))=P++(A1++(V++(U++(B2++S)))):=by rw [hV0];simp
             rw [←e2,←e]
             exact ho
            have hg3:=hg
            clear ho hg hV0)
         | (have r1:¬ (i:Int) < (m:Int):=by omega
            have hU0:U=[]:=List.eq_nil_of_length_eq_zero (by have:=HL1.out;omega)
            have ho3:Own wr 3 Bk (.slice al n c) (ints (P++(A1++(V++(U++(B2++S)))))):=by
             have e:=HXU.out
             have e2:(P++A1)++(U++(V++(B2++S)))=P++(A1++(V++(U++(B2++S)))):=by rw [hU0];simp
             rw [←e2,←e]
             exact ho
            have hg3:=hg
            clear ho hg hU0)
        all_goals
         clear HXU h1
         rcases (show (a < i∧i < M)∨(a < i∧¬ i < M)∨¬ a < i by omega) with h1 | h1 | h1
        all_goals first
         | (have r3:(a:Int) < (i:Int):=by omega
            have r4:(i:Int) < (M:Int):=by omega
            go_wp2_with fail
            refine (IH.out P A1 V (U++(B2++S)) a i M _ (by have:=HL1.out;have:=HNa.out;omega) ho3 HLZ.out HA0.out (by have:=HL1.out;omega) (by have:=HL1.out;omega) (by have:=HL1.out;omega) (by have:=HL1.out;omega) HKA2.out.1 HKB2.out.1 HPA2.out.1 HPB2.out.1 (HCM.out.up hg3)).mono ?_
            rintro e w4 ⟨rfl,ho4,hg4⟩
            have ho5:Own w4 3 Bk (.slice al n c) (ints ((P++D)++(U++(B2++S)))):=by rw [←HD.out,List.append_assoc];exact ho4
            have hg5:=grownBy_trans hg3 hg4
            clear ho3 hg3 ho4 hg4)
         | (have r3:(a:Int) < (i:Int):=by omega
            have r4:¬ (i:Int) < (M:Int):=by omega
            have hV0:V=[]:=List.eq_nil_of_length_eq_zero (by have:=HL1.out;omega)
            have hDD:D=A1++V:=by rw [←HD.out];exact asc_nil_app HKA2.out.1 HKB2.out.1 (.inr hV0)
            have e9:P++(A1++(V++(U++(B2++S))))=(P++D)++(U++(B2++S)):=by rw [hDD];simp
            have ho5:=ho3
            rw [e9] at ho5
            have hg5:=hg3
            clear ho3 hg3 hV0 hDD e9)
         | (have r3:¬ (a:Int) < (i:Int):=by omega
            have hV0:A1=[]:=List.eq_nil_of_length_eq_zero (by have:=HL1.out;omega)
            have hDD:D=A1++V:=by rw [←HD.out];exact asc_nil_app HKA2.out.1 HKB2.out.1 (.inl hV0)
            have e9:P++(A1++(V++(U++(B2++S))))=(P++D)++(U++(B2++S)):=by rw [hDD];simp
            have ho5:=ho3
            rw [e9] at ho5
            have hg5:=hg3
            clear ho3 hg3 hV0 hDD e9)
        all_goals
         have HLZ2:Hid (((P++D)++(U++(B2++S))).length=n):=by
          have:=HLZ.out
          have:=HDL.out
          have:=HL1.out
          rw [Hid]
          simp only [List.length_append] at *
          omega
         clear HLZ h1
         rcases (show (M < E∧E < b)∨(M < E∧¬ E < b)∨¬ M < E by omega) with h1 | h1 | h1
        all_goals first
         | (have r5:(M:Int) < (E:Int):=by omega
            have r6:(E:Int) < (b:Int):=by omega
            go_wp2_with fail
            refine (IH.out (P++D) U B2 S M E b _ (by have:=HL1.out;have:=HNa.out;have:=HE1.out;omega) ho5 HLZ2.out (by rw [List.length_append];have:=HDL.out;have:=HA0.out;omega) (by have:=HL1.out;have:=HE1.out;omega) (by have:=HL1.out;omega) (by have:=HL1.out;have:=HE1.out;omega) (by have:=HL1.out;omega) HKA2.out.2 HKB2.out.2 HPA2.out.2 HPB2.out.2 (HCM.out.up hg5)).mono ?_
            rintro e w6 ⟨rfl,ho6,hg6⟩
            rw [HFIN.out] at ho6
            go_wp2_with fail
            all_goals (go_end0;exact ⟨rfl,ho6,grownBy_trans hg5 hg6⟩))
         | (have r5:(M:Int) < (E:Int):=by omega
            have r6:¬ (E:Int) < (b:Int):=by omega
            have hV0:B2=[]:=List.eq_nil_of_length_eq_zero (by have:=HL1.out;omega)
            have e9:(P++D)++(U++(B2++S))=T:=by
             have:=HFIN.out
             rw [asc_nil_app HKA2.out.2 HKB2.out.2 (.inr hV0),List.append_assoc U] at this
             exact this
            rw [e9] at ho5
            go_wp2_with fail
            all_goals (go_end0;exact ⟨rfl,ho5,hg5⟩))
         | (have r5:¬ (M:Int) < (E:Int):=by omega
            have hV0:U=[]:=List.eq_nil_of_length_eq_zero (by have:=HL1.out;have:=HE1.out;omega)
            have e9:(P++D)++(U++(B2++S))=T:=by
             have:=HFIN.out
             rw [asc_nil_app HKA2.out.2 HKB2.out.2 (.inl hV0),List.append_assoc U] at this
             exact this
            rw [e9] at ho5
            go_wp2_with fail
            all_goals (go_end0;exact ⟨rfl,ho5,hg5⟩))
   · have d1:¬ (m:Int) > (M:Int):=by omega
     have d2:decide ((M:Int) < (m:Int))=false:=by simp;omega
     obtain ⟨P1,hP1⟩:∃ P1,M+m=P1+1:=⟨M+m - 1,by omega⟩
     have e4:(M:Int)+(m:Int) - 1=(P1:Int):=by omega
     have hsa:a≤a:=Nat.le_refl _
     have hsr:a≤m:=by omega
     have hrm:m≤m:=Nat.le_refl _
     have HS0:Hid (a=a∨M+m - a=b):=.inl rfl
     have HR0:Hid (m=m∨m=M):=.inl rfl
     have HCB:Hid (∀ q,a≤q→q < m→m≤P1 - q∧P1 - q < b∧q≤P1):=fun q h1 h2=>by omega
     have HP1:=Lib.hid hP1
     clear hP1
     go_enter Tryz.func225,Tryz.ntmps225
     go_wp2_with fail
     rw [HQM.out,e4,d2]
     go_loopw [20,21,23] (fun iv jv hv wr=>∃ (i j:Nat),a≤i∧i≤j∧j≤m∧iv=.int .i64 (i:Int)∧jv=.int .i64 (j:Int)∧Hid (i=a∨∃ x y,A[i - 1 - a]?=some x∧B[M+m - i - m]?=some y∧key x≤key y)∧Hid (j=m∨∃ x y,A[j - a]?=some x∧B[M+m - j - 1 - m]?=some y∧key y < key x)∧Own wr 3 Bk (.slice al n c) (ints xs)∧w.grownBy wr (Value.slice al n c).ownBlock) (fun iv jv _ _=>(intOf jv).toNat - (intOf iv).toNat)
     case atStart=>exact ⟨a,m,Nat.le_refl _,hsr,Nat.le_refl _,rfl,rfl,.inl rfl,.inl rfl,ho,World.grownBy.refl _ _⟩
     case round =>
      clear ho
      obtain ⟨i,j,him,hij,hjb,rfl,rfl,HI,HJ,ho,hg⟩:=hrel
      by_cases hlt:i < j
      · have i1:(i:Int) < (j:Int):=by omega
        obtain ⟨q,hq⟩:∃ q:Nat,((i:Int)+(j:Int)) / 2=(q:Int):=⟨(i+j) / 2,by omega⟩
        have hqi:i≤q:=by omega
        have hqj:q < j:=by omega
        have HQ:=Lib.hid hq
        clear hq
        go_wp2_with fail
        rw [HQ.out]
        obtain ⟨hz1,hz2,hz3⟩:=HCB.out q (by omega) (by omega)
        obtain ⟨z,hz⟩:∃ z,P1=z+q:=⟨P1 - q,by omega⟩
        have e5:(P1:Int) - (q:Int)=(z:Int):=by omega
        rw [hz,Nat.add_sub_cancel] at hz1 hz2
        have hxA:=HxA.out q (by omega) (by omega)
        have hyB:=HxB.out z hz1 hz2
        obtain ⟨x,hx0⟩:∃ x,A[q - a]?=some x:=⟨_,List.getElem?_eq_getElem (by have:=HMM.out;omega)⟩
        obtain ⟨y,hy0⟩:∃ y,B[z - m]?=some y:=⟨_,List.getElem?_eq_getElem (by have:=HBB.out;omega)⟩
        rw [hx0] at hxA
        rw [hy0] at hyB
        have hxp:=HPA.out x (List.mem_of_getElem? hx0)
        have hyp:=HPB.out y (List.mem_of_getElem? hy0)
        have HXX:Hid (A[q - a]?=some x):=hx0
        have HYY:Hid (B[M+m - q - 1 - m]?=some y):=by rw [Hid,show M+m - q - 1 - m=z - m by have:=HP1.out;omega];exact hy0
        obtain ⟨ad,y2,rfl,hcy,hy2⟩:=ho.rd.int (k:=q) (by have:=HN.out;omega)
        have hcx:=ho.rd.cell_i hxA
        have hcyy:=ho.rd.cell_i hyB
        have i2:(q:Int) < (n:Int):=by omega
        have i3:(z:Int) < (n:Int):=by omega
        have i7:(0:Int)≤(P1:Int) - (q:Int):=by omega
        have i8:(P1:Int) - (q:Int) < (n:Int):=by omega
        have i9:((P1:Int) - (q:Int)).toNat=z:=by omega
        have i10:IntKind.i64.wrap ((P1:Int) - (q:Int))=(P1:Int) - (q:Int):=IntWalk.i64_in _ (by omega)
        have i11:IntKind.i64.wrap (z:Int)=(z:Int):=IntWalk.i64_in _ (by omega)
        have i12:(0:Int)≤(z:Int):=by omega
        have GC:Hid (∀ W,Below wr.heap.size wr W→Calls Tryz.prog fn (#[.int .i64 y,.int .i64 x]++cap) W (RetQB (.int .i64 (cmpV key y x)) W)):=fun W hW=>HCM.out _ y x (grownBy_trans hg (gbB hW)) hyp hxp
        have HCC:Hid (∀ W,Below wr.heap.size wr W→W.cell? (ad.add q)=some (.int .i64 x)∧W.cell? (ad.add z)=some (.int .i64 y)):=fun W hW=>⟨(hW.cell (World.block_lt_of_cell? _ _ hcx)).trans hcx,(hW.cell (World.block_lt_of_cell? _ _ hcyy)).trans hcyy⟩
        have hcall:∀ W,(callFunc fn (#[.int .i64 y,.int .i64 x]++cap)).run Tryz.prog W=.ok (.enter fn (#[.int .i64 y,.int .i64 x]++cap)) W:=fun W=>hknown _ W
        clear hcy hy2 hx0 hy0 hxA hyB hz
        by_cases hk:key y < key x
        · have hcv:=cmpV_lt hk
          have HK:=Lib.hid hk
          obtain ⟨cq,hcq⟩:∃ cq,cmpV key y x=cq:=⟨_,rfl⟩
          rw [hcq] at GC hcv
          clear hcq hk
          go_region_held3 (fun wx=>wx.cell? (ad.add q)=some (.int .i64 x)∧wx.cell? (ad.add z)=some (.int .i64 y))
           (first | exact HCC.out _ b5 | go_keep)
           (first | (go_simp;refine (GC.out _ (by exact ⟨rfl,rfl,rfl,Nat.le_refl _,fun _ _=>rfl⟩)).mono ?_;rintro e w5 ⟨rfl,b5w⟩;have b5:Below wr.heap.size wr w5:=(by exact ⟨b5w.os,b5w.tape,b5w.output,b5w.size,b5w.block⟩)))
          have ho1:=ho.below b5
          have hg1:=grownBy_trans hg (gbB b5)
          clear hcx hcyy GC HCC hcall ho hg
          go_wp2_with fail
          go_roundw
          case rel=>exact ⟨i,q,him,hqi,by omega,rfl,rfl,HI,.inr ⟨x,y,HXX.out,HYY.out,HK.out⟩,ho1,hg1⟩
          case measure=>simp [intOf];omega
        · have hcv:=cmpV_ge hk
          have HK:=Lib.hid hk
          obtain ⟨cq,hcq⟩:∃ cq,cmpV key y x=cq:=⟨_,rfl⟩
          rw [hcq] at GC hcv
          clear hcq hk
          go_region_held3 (fun wx=>wx.cell? (ad.add q)=some (.int .i64 x)∧wx.cell? (ad.add z)=some (.int .i64 y))
           (first | exact HCC.out _ b5 | go_keep)
           (first | (go_simp;refine (GC.out _ (by exact ⟨rfl,rfl,rfl,Nat.le_refl _,fun _ _=>rfl⟩)).mono ?_;rintro e w5 ⟨rfl,b5w⟩;have b5:Below wr.heap.size wr w5:=(by exact ⟨b5w.os,b5w.tape,b5w.output,b5w.size,b5w.block⟩)))
          have ho1:=ho.below b5
          have hg1:=grownBy_trans hg (gbB b5)
          clear hcx hcyy GC HCC hcall ho hg
          go_wp2_with fail
          go_roundw
          case rel=>exact ⟨q+1,j,by omega,by omega,hjb,by go_num,rfl,.inr ⟨x,y,by rw [show q+1 - 1 - a=q - a by omega];exact HXX.out,by rw [show M+m - (q+1) - m=M+m - q - 1 - m by omega];exact HYY.out,by have:=HK.out;omega⟩,HJ,ho1,hg1⟩
          case measure=>simp [intOf];omega
      · obtain rfl:i=j:=by omega
        have hiM:i≤M:=by omega
        have him2:i≤m:=by omega
        have hMb:M+m≤i+b:=by
         rcases HS0.out with h | h <;> omega
        have HCUT:=Lib.hid (HSW.out i (by omega) him2 hiM hMb (by
         rcases HI.out with h | h
         · rcases HS0.out with h2 | h2
           · exact .inl (by omega)
           · exact .inr (.inl (by omega))
         · exact .inr (.inr h)) (by
         rcases HJ.out with h | h
         · rcases HR0.out with h2 | h2
           · exact .inl (by omega)
           · exact .inr (.inl (by omega))
         · exact .inr (.inr h)))
        obtain ⟨E,hE⟩:∃ E,M+m=E+i:=⟨M+m - i,by omega⟩
        have e6:(M:Int)+(m:Int) - (i:Int)=(E:Int):=by omega
        have HE1:=Lib.hid hE
        have hmE:m≤E:=by omega
        have hEb:E≤b:=by omega
        clear HI HJ hlt HSW hE
        obtain ⟨A1,hA1⟩:∃ A1,A.take (i - a)=A1:=⟨_,rfl⟩
        obtain ⟨U,hU⟩:∃ U,A.drop (i - a)=U:=⟨_,rfl⟩
        obtain ⟨V,hV⟩:∃ V,B.take (M - i)=V:=⟨_,rfl⟩
        obtain ⟨B2,hB2⟩:∃ B2,B.drop (M - i)=B2:=⟨_,rfl⟩
        have HAE:Hid (A=A1++U):=by rw [Hid,←hA1,←hU,List.take_append_drop]
        have HBE:Hid (B=V++B2):=by rw [Hid,←hV,←hB2,List.take_append_drop]
        have HL1:Hid (A1.length=i - a∧U.length=m - i∧V.length=M - i∧B2.length=b - E):=by
         have h1:=HMM.out
         have h2:=HBB.out
         have h3:=HE1.out
         refine ⟨by rw [←hA1,List.length_take];omega,by rw [←hU,List.length_drop];omega,by rw [←hV,List.length_take];omega,by rw [←hB2,List.length_drop];omega⟩
        have HKA2:Hid (KAsc key A1∧KAsc key U):=by
         have:=HKA.out
         rw [HAE.out] at this
         obtain ⟨k1,k2,_⟩:=List.pairwise_append.1 this
         exact ⟨k1,k2⟩
        have HKB2:Hid (KAsc key V∧KAsc key B2):=by
         have:=HKB.out
         rw [HBE.out] at this
         obtain ⟨k1,k2,_⟩:=List.pairwise_append.1 this
         exact ⟨k1,k2⟩
        have HPA2:Hid ((∀ y∈A1,p y)∧(∀ y∈U,p y)):=by
         have:=HPA.out
         rw [HAE.out] at this
         exact ⟨fun y hy=>this y (List.mem_append_left _ hy),fun y hy=>this y (List.mem_append_right _ hy)⟩
        have HPB2:Hid ((∀ y∈V,p y)∧(∀ y∈B2,p y)):=by
         have:=HPB.out
         rw [HBE.out] at this
         exact ⟨fun y hy=>this y (List.mem_append_left _ hy),fun y hy=>this y (List.mem_append_right _ hy)⟩
        have HXU:Hid (xs=(P++A1)++(U++(V++(B2++S)))):=by rw [Hid,←HX.out,HAE.out,HBE.out];simp
        rw [hA1,hU,hV,hB2] at HCUT
        have HLZ:Hid ((P++(A1++(V++(U++(B2++S))))).length=n):=by
         have:=HN.out
         rw [HXU.out] at this
         rw [Hid]
         simp only [List.length_append] at this ⊢
         omega
        obtain ⟨D,hD⟩:∃ D,srtS key (A1++V)=D:=⟨_,rfl⟩
        have HD:=Lib.hid hD
        have HDL:Hid (D.length=M - a):=by
         have:=HL1.out
         rw [Hid,←hD,srtS_length,List.length_append]
         omega
        have HFIN:Hid ((P++D)++(srtS key (U++B2)++S)=T):=by
         rw [Hid,←HTT.out,HCUT.out,hD]
         simp
        have HNa:Hid (M - a≤N∧b - M≤N):=by have:=HNN.out;rw [Hid];omega
        clear hA1 hU hV hB2 hD HCUT HKA HKB HPA HPB HX HxA HxB HCB HAE HBE HTT
        rcases (show (i < m∧m < E)∨(i < m∧¬ m < E)∨¬ i < m by omega) with h1 | h1 | h1
        all_goals first
         | (have r1:(i:Int) < (m:Int):=by omega
            have r2:(m:Int) < (E:Int):=by omega
            go_wp2_with fail
            refine (f_rotate (.func (.func fn) #[] cap) _ (P++A1) U V (B2++S) xs Bk _ HXU.out ho (by have:=HN.out;omega) (by have:=HL1.out;omega) (by have:=HL1.out;have:=HE1.out;omega) i m E (by rw [List.length_append];have:=HL1.out;have:=HA0.out;omega) (by have:=HL1.out;omega) (by have:=HL1.out;have:=HE1.out;omega)).mono ?_
            rintro e w2 ⟨rfl,ho2,hg2⟩
            have ho3:Own w2 3 Bk (.slice al n c) (ints (P++(A1++(V++(U++(B2++S)))))):=by rw [←List.append_assoc P];exact ho2
            have hg3:=grownBy_trans hg hg2
            clear ho hg ho2 hg2)
         | (have r1:(i:Int) < (m:Int):=by omega
            have r2:¬ (m:Int) < (E:Int):=by omega
            have hV0:V=[]:=List.eq_nil_of_length_eq_zero (by have:=HL1.out;have:=HE1.out;omega)
            have ho3:Own wr 3 Bk (.slice al n c) (ints (P++(A1++(V++(U++(B2++S)))))):=by
             have e:=HXU.out
             have e2:(P++A1)++(U++(V++(B2++S)))=P++(A1++(V++(U++(B2++S)))):=by rw [hV0];simp
             rw [←e2,←e]
             exact ho
            have hg3:=hg
            clear ho hg hV0)
         | (have r1:¬ (i:Int) < (m:Int):=by omega
            have hU0:U=[]:=List.eq_nil_of_length_eq_zero (by have:=HL1.out;omega)
            have ho3:Own wr 3 Bk (.slice al n c) (ints (P++(A1++(V++(U++(B2++S)))))):=by
             have e:=HXU.out
             have e2:(P++A1)++(U++(V++(B2++S)))=P++(A1++(V++(U++(B2++S)))):=by rw [hU0];simp
             rw [←e2,←e]
             exact ho
            have hg3:=hg
            clear ho hg hU0)
        all_goals
         clear HXU h1
         rcases (show (a < i∧i < M)∨(a < i∧¬ i < M)∨¬ a < i by omega) with h1 | h1 | h1
        all_goals first
         | (have r3:(a:Int) < (i:Int):=by omega
            have r4:(i:Int) < (M:Int):=by omega
            go_wp2_with fail
            refine (IH.out P A1 V (U++(B2++S)) a i M _ (by have:=HL1.out;have:=HNa.out;omega) ho3 HLZ.out HA0.out (by have:=HL1.out;omega) (by have:=HL1.out;omega) (by have:=HL1.out;omega) (by have:=HL1.out;omega) HKA2.out.1 HKB2.out.1 HPA2.out.1 HPB2.out.1 (HCM.out.up hg3)).mono ?_
            rintro e w4 ⟨rfl,ho4,hg4⟩
            have ho5:Own w4 3 Bk (.slice al n c) (ints ((P++D)++(U++(B2++S)))):=by rw [←HD.out,List.append_assoc];exact ho4
            have hg5:=grownBy_trans hg3 hg4
            clear ho3 hg3 ho4 hg4)
         | (have r3:(a:Int) < (i:Int):=by omega
            have r4:¬ (i:Int) < (M:Int):=by omega
            have hV0:V=[]:=List.eq_nil_of_length_eq_zero (by have:=HL1.out;omega)
            have hDD:D=A1++V:=by rw [←HD.out];exact asc_nil_app HKA2.out.1 HKB2.out.1 (.inr hV0)
            have e9:P++(A1++(V++(U++(B2++S))))=(P++D)++(U++(B2++S)):=by rw [hDD];simp
            have ho5:=ho3
            rw [e9] at ho5
            have hg5:=hg3
            clear ho3 hg3 hV0 hDD e9)
         | (have r3:¬ (a:Int) < (i:Int):=by omega
            have hV0:A1=[]:=List.eq_nil_of_length_eq_zero (by have:=HL1.out;omega)
            have hDD:D=A1++V:=by rw [←HD.out];exact asc_nil_app HKA2.out.1 HKB2.out.1 (.inl hV0)
            have e9:P++(A1++(V++(U++(B2++S))))=(P++D)++(U++(B2++S)):=by rw [hDD];simp
            have ho5:=ho3
            rw [e9] at ho5
            have hg5:=hg3
            clear ho3 hg3 hV0 hDD e9)
        all_goals
         have HLZ2:Hid (((P++D)++(U++(B2++S))).length=n):=by
          have:=HLZ.out
          have:=HDL.out
          have:=HL1.out
          rw [Hid]
          simp only [List.length_append] at *
          omega
         clear HLZ h1
         rcases (show (M < E∧E < b)∨(M < E∧¬ E < b)∨¬ M < E by omega) with h1 | h1 | h1
        all_goals first
         | (have r5:(M:Int) < (E:Int):=by omega
            have r6:(E:Int) < (b:Int):=by omega
            go_wp2_with fail
            refine (IH.out (P++D) U B2 S M E b _ (by have:=HL1.out;have:=HNa.out;have:=HE1.out;omega) ho5 HLZ2.out (by rw [List.length_append];have:=HDL.out;have:=HA0.out;omega) (by have:=HL1.out;have:=HE1.out;omega) (by have:=HL1.out;omega) (by have:=HL1.out;have:=HE1.out;omega) (by have:=HL1.out;omega) HKA2.out.2 HKB2.out.2 HPA2.out.2 HPB2.out.2 (HCM.out.up hg5)).mono ?_
            rintro e w6 ⟨rfl,ho6,hg6⟩
            rw [HFIN.out] at ho6
            go_wp2_with fail
            all_goals (go_end0;exact ⟨rfl,ho6,grownBy_trans hg5 hg6⟩))
         | (have r5:(M:Int) < (E:Int):=by omega
            have r6:¬ (E:Int) < (b:Int):=by omega
            have hV0:B2=[]:=List.eq_nil_of_length_eq_zero (by have:=HL1.out;omega)
            have e9:(P++D)++(U++(B2++S))=T:=by
             have:=HFIN.out
             rw [asc_nil_app HKA2.out.2 HKB2.out.2 (.inr hV0),List.append_assoc U] at this
             exact this
            rw [e9] at ho5
            go_wp2_with fail
            all_goals (go_end0;exact ⟨rfl,ho5,hg5⟩))
         | (have r5:¬ (M:Int) < (E:Int):=by omega
            have hV0:U=[]:=List.eq_nil_of_length_eq_zero (by have:=HL1.out;have:=HE1.out;omega)
            have e9:(P++D)++(U++(B2++S))=T:=by
             have:=HFIN.out
             rw [asc_nil_app HKA2.out.2 HKB2.out.2 (.inl hV0),List.append_assoc U] at this
             exact this
            rw [e9] at ho5
            go_wp2_with fail
            all_goals (go_end0;exact ⟨rfl,ho5,hg5⟩))
theorem f_insertionB (key:Int→Int) (p:Int→Prop) (fn:Nat) (cap:Array Value) (hknown:Known fn) (v:Value) (P Q:List Int) (n a q b Bk:Nat) (w:World) (ho:Own w 3 Bk v (ints (P++Q))) (hn:(P++Q).length=n) (hl:n≤1000)
 (ha:P.length=a) (hb:b=a+q) (hq:q≤Q.length)
 (hp:∀ x∈Q,p x) (hc:CmpOkB key p fn cap v.ownBlock w) :
 Calls Tryz.prog 224 #[v,.int .i64 a,.int .i64 b,.func (.func fn) #[] cap] w (RetS Bk v (P++srtKK key Q (q - 1)) w):=by
 obtain ⟨T,hT⟩:∃ T,P++srtKK key Q (q - 1)=T:=⟨_,rfl⟩
 rw [hT]
 have HTT:=Lib.hid hT
 have HPL:=Lib.hid ha
 have hql:a+Q.length=n:=by rw [←hn,List.length_append];omega
 have hbn:b≤n:=by omega
 have hab:a≤b:=by omega
 have HQB:Hid (q=b - a):=by rw [Hid];omega
 obtain ⟨al,c,rfl,h2,h3⟩:=ho.rd.formi
 have HCM:=Lib.hid hc
 have HPP:Hid (∀ k,k < b - a→∀ x∈srtKK key Q k,p x):=fun k hk x hx=>hp x (srtKK_mem key Q k x (by omega) hx)
 have HQL:Hid (∀ k,a+(srtKK key Q k).length=n):=fun k=>by rw [srtKK_length];exact hql
 have HLN:Hid (∀ zs:List Int,a+zs.length=n→(P++zs).length=n):=fun zs h=>by rw [List.length_append,ha];exact h
 rw [hn] at ho hc ⊢
 clear hc hp ha hn h2 hb hq hql hT
 go_enter Tryz.func224,Tryz.ntmps224
 go_wp2_with fail
 go_loopw [8] (fun i wr=>∃ u:Nat,a≤u∧(u+1≤b∨u=a)∧i=.int .i64 ((u:Int)+1)∧Own wr 3 Bk (.slice al n c) (ints (P++srtKK key Q (u - a)))∧w.grownBy wr (Value.slice al n c).ownBlock) (fun i _=>b+1 - (intOf i).toNat)
 case atStart=>exact ⟨a,Nat.le_refl _,.inr rfl,by simp,by rw [Nat.sub_self];exact ho,World.grownBy.refl _ _⟩
 case round =>
  clear ho
  obtain ⟨u,hau,hub,rfl,ho,hg⟩:=hrel
  by_cases hlt:u+1 < b
  · have i0:(u:Int)+1 < (b:Int):=by omega
    have HK:Hid (sinkK key (srtKK key Q (u - a)) (u+1 - a)=srtKK key Q (u+1 - a)):=by
     rw [Hid,show u+1 - a=(u - a)+1 by omega]
     rfl
    have HL0:=Lib.hid (HQL.out (u - a))
    have HP0:=Lib.hid (HPP.out (u - a) (by omega))
    obtain ⟨ys,hys⟩:∃ ys,srtKK key Q (u - a)=ys:=⟨_,rfl⟩
    rw [hys] at ho HK HL0 HP0
    clear hys
    go_wp2_with fail
    go_loopw [9] (fun i wr=>∃ (j:Nat) (zs:List Int),a≤j∧j≤u+1∧i=.int .i64 (j:Int)∧Own wr 3 Bk (.slice al n c) (ints (P++zs))∧Hid (a+zs.length=n)∧Hid (∀ x∈zs,p x)∧Hid (sinkK key zs (j - a)=srtKK key Q (u+1 - a))∧w.grownBy wr (Value.slice al n c).ownBlock) (fun i _=>(intOf i).toNat)
    case atStart=>exact ⟨u+1,ys,by omega,Nat.le_refl _,by simp,ho,HL0,HP0,HK,hg⟩
    case round =>
     clear ho hg HK HL0 HP0
     obtain ⟨j,zs,haj,hj,rfl,ho,HZ,HP,HS,hg⟩:=hrel
     by_cases hja:j=a
     · subst hja
       have HE:Hid (zs=srtKK key Q (u+1 - j)):=by have:=HS.out;rw [Nat.sub_self] at this;exact this
       have d0:decide ((j:Int) > (j:Int))=false:=by simp
       go_wp2_with fail
       go_quiet (fail)
       rename_i nq
       have ho1:=ho.drewN nq
       have hg1:=grownBy_drewN hg nq
       rw [HE.out] at ho1
       go_wp2_with fail
       go_roundw
       case rel=>exact ⟨u+1,by omega,.inl (by omega),by go_num,ho1,hg1⟩
       case measure=>simp [intOf];omega
     · obtain ⟨r,rfl⟩:∃ r,j=r+1:=⟨j - 1,by omega⟩
       have har:a≤r:=by omega
       obtain ⟨y,hy0⟩:∃ y,zs[r+1 - a]?=some y:=⟨_,List.getElem?_eq_getElem (by have:=HZ.out;omega)⟩
       obtain ⟨z,hz0⟩:∃ z,zs[r - a]?=some z:=⟨_,List.getElem?_eq_getElem (by have:=HZ.out;omega)⟩
       have hy9:(P++zs)[r+1]?=some y:=by
        have:=get_pre P zs (r+1 - a)
        rw [HPL.out,show a+(r+1 - a)=r+1 by omega] at this
        rw [this];exact hy0
       have hz9:(P++zs)[r]?=some z:=by
        have:=get_pre P zs (r - a)
        rw [HPL.out,show a+(r - a)=r by omega] at this
        rw [this];exact hz0
       have HY:=Lib.hid hy0
       have HZ0:=Lib.hid hz0
       obtain ⟨ad,y2,rfl,_,_⟩:=ho.rd.int (k:=r+1) (List.getElem?_eq_some_iff.1 hy9).1
       obtain ⟨c1,c2,f1,f2,c3,f3,ho3,hg3⟩:=swp_w (ho.drewN 0) hy9 hz9 (by omega)
       have hc1:wr.cell? (ad.add (r+1))=some (.int .i64 y):=c1
       have hc0:wr.cell? (ad.add r)=some (.int .i64 z):=c2
       clear c1 c2 f1 f2 c3 f3 ho3 hg3
       rw [add_succ] at hc1
       have i1:(r:Int)+1 < (n:Int):=by omega
       have i2:(r:Int) < (n:Int):=by omega
       have i3:(0:Int)≤(r:Int):=by omega
       have i4:(0:Int)≤(r:Int)+1:=by omega
       have i5:((r:Int)+1).toNat=r+1:=by omega
       have i6:(r:Int)+1 - 1=(r:Int):=by omega
       have i7:(0:Int)≤(r:Int)+1 - 1:=by omega
       have i8:(r:Int)+1 - 1 < (n:Int):=by omega
       have i9:((r:Int)+1 - 1).toNat=r:=by omega
       have i10:IntKind.i64.wrap ((r:Int)+1 - 1)=(r:Int)+1 - 1:=IntWalk.i64_in _ (by omega)
       have i11:IntKind.i64.wrap (r:Int)=(r:Int):=IntWalk.i64_in _ (by omega)
       have d0:decide ((r:Int)+1 > (a:Int))=true:=by simp;omega
       have d1:(a:Int) < (r:Int)+1:=by omega
       have hyp:=HP.out y (List.mem_of_getElem? hy0)
       have hzp:=HP.out z (List.mem_of_getElem? hz0)
       have GC:Hid (∀ W,Below wr.heap.size wr W→Calls Tryz.prog fn (#[.int .i64 y,.int .i64 z]++cap) W (RetQB (.int .i64 (cmpV key y z)) W)):=fun W hW=>HCM.out _ y z (grownBy_trans hg (gbB hW)) hyp hzp
       have HCC:Hid (∀ W,Below wr.heap.size wr W→W.cell? ⟨ad.block,ad.off+(r+1),none⟩=some (.int .i64 y)∧W.cell? (ad.add r)=some (.int .i64 z)):=fun W hW=>⟨(hW.cell (World.block_lt_of_cell? _ _ hc1)).trans hc1,(hW.cell (World.block_lt_of_cell? _ _ hc0)).trans hc0⟩
       have hcall:∀ W,(callFunc fn (#[.int .i64 y,.int .i64 z]++cap)).run Tryz.prog W=.ok (.enter fn (#[.int .i64 y,.int .i64 z]++cap)) W:=fun W=>hknown _ W
       have HY9:=Lib.hid hy9
       have HZ9:=Lib.hid hz9
       clear hy0 hz0 hy9 hz9
       by_cases hyz:key y < key z
       · have hcv:=cmpV_lt hyz
         have HSK:Hid (sinkK key ((zs.set (r+1 - a) z).set (r - a) y) (r - a)=srtKK key Q (u+1 - a)):=by
          have h1:=HS.out
          have h2:=HY.out
          rw [show r+1 - a=(r - a)+1 by omega] at h1 h2 ⊢
          rw [Hid,←h1,sinkK_go h2 HZ0.out hyz]
         obtain ⟨cq,hcq⟩:∃ cq,cmpV key y z=cq:=⟨_,rfl⟩
         rw [hcq] at GC hcv
         clear hcq hyz
         go_wp2_with fail
         go_region_held3 (fun wx=>wx.cell? ⟨ad.block,ad.off+(r+1),none⟩=some (.int .i64 y)∧wx.cell? (ad.add r)=some (.int .i64 z))
          (first | exact HCC.out _ b5 | go_keep)
          (first | (go_simp;refine (GC.out _ (by exact ⟨rfl,rfl,rfl,Nat.le_refl _,fun _ _=>rfl⟩)).mono ?_;rintro e w5 ⟨rfl,b5w⟩;have b5:Below wr.heap.size wr w5:=(by exact ⟨b5w.os,b5w.tape,b5w.output,b5w.size,b5w.block⟩)))
         have ho1:=ho.below b5
         have hg1:=grownBy_trans hg (gbB b5)
         clear ho hg hc0 hc1 d0 GC hcall hcv
         obtain ⟨c1,c2,f1,f2,c3,f3,ho3,hg3⟩:=swp_w ho1 HY9.out HZ9.out (by omega)
         have HSW:Hid (swp (P++zs) (r+1) r=P++(zs.set (r+1 - a) z).set (r - a) y):=by
          have e1:=set_pre P zs (r+1 - a) z
          have e2:=set_pre P (zs.set (r+1 - a) z) (r - a) y
          rw [HPL.out,show a+(r+1 - a)=r+1 by omega] at e1
          rw [HPL.out,show a+(r - a)=r by omega] at e2
          rw [Hid,swp_of HY9.out HZ9.out,e1,e2]
         rw [HSW.out] at ho3
         have hg4:=grownBy_trans hg1 hg3
         rw [add_succ] at c1 f1 c3 f3 ho3 hg4
         have HZ3:Hid (a+((zs.set (r+1 - a) z).set (r - a) y).length=n):=by rw [Hid,List.length_set,List.length_set];exact HZ.out
         have HP3:Hid (∀ x∈(zs.set (r+1 - a) z).set (r - a) y,p x):=fun x hx=>by
          rcases List.mem_or_eq_of_mem_set hx with hx | rfl
          · rcases List.mem_or_eq_of_mem_set hx with hx | rfl
            · exact HP.out x hx
            · exact hzp
          · exact hyp
         clear ho1 hg1 hg3
         go_wp2_with fail
         go_region
         all_goals
          go_wp2_with fail
          go_roundw
          case rel=>exact ⟨r,_,har,by omega,by go_num,ho3,HZ3,HP3,HSK,⟨hg4.os,hg4.tape,hg4.output,hg4.size,hg4.block⟩⟩
          case measure=>simp [intOf]
       · have hcv:=cmpV_ge hyz
         have HE:Hid (zs=srtKK key Q (u+1 - a)):=by
          have h1:=HS.out
          have h2:=HY.out
          rw [show r+1 - a=(r - a)+1 by omega] at h1 h2
          rw [Hid,←h1,sinkK_stop h2 HZ0.out hyz]
         obtain ⟨cq,hcq⟩:∃ cq,cmpV key y z=cq:=⟨_,rfl⟩
         rw [hcq] at GC hcv
         clear hcq hyz
         go_wp2_with fail
         go_region_held3 (fun wx=>wx.cell? ⟨ad.block,ad.off+(r+1),none⟩=some (.int .i64 y)∧wx.cell? (ad.add r)=some (.int .i64 z))
          (first | exact HCC.out _ b5 | go_keep)
          (first | (go_simp;refine (GC.out _ (by exact ⟨rfl,rfl,rfl,Nat.le_refl _,fun _ _=>rfl⟩)).mono ?_;rintro e w5 ⟨rfl,b5w⟩;have b5:Below wr.heap.size wr w5:=(by exact ⟨b5w.os,b5w.tape,b5w.output,b5w.size,b5w.block⟩)))
         have ho1:=ho.below b5
         have hg1:=grownBy_trans hg (gbB b5)
         rw [HE.out] at ho1
         clear hc0 hc1 d0 GC HCC hcall hcv
         go_wp2_with fail
         go_roundw
         case rel=>exact ⟨u+1,by omega,.inl (by omega),by go_num,ho1,hg1⟩
         case measure=>simp [intOf];omega
  · have i0:¬ (u:Int)+1 < (b:Int):=by omega
    have HE:Hid (P++srtKK key Q (u - a)=T):=by
     rw [Hid,←HTT.out,show q - 1=u - a by have:=HQB.out;omega]
    rw [HE.out] at ho
    go_wp2_with fail
    go_end0
    exact ⟨rfl,ho,hg⟩
section
variable {key:Int→Int}
def blkF (key:Int→Int) (sz:Nat):Nat→List Int→List Int
 | 0,_=>[]
 | f+1,ys=>srtS key (ys.take sz)++blkF key sz f (ys.drop sz)
def blkS (key:Int→Int) (sz:Nat) (ys:List Int):List Int:=blkF key sz ys.length ys
theorem srtS_nil:srtS key []=[]:=rfl
theorem blkF_nil (sz:Nat):∀ f,blkF key sz f []=[]
 | 0=>rfl
 | f+1=>by rw [blkF,List.take_nil,List.drop_nil,blkF_nil sz f,srtS_nil];rfl
theorem blkF_fuel {sz:Nat} (hs:1≤sz):∀ (f g:Nat) (ys:List Int),ys.length≤f→ys.length≤g→blkF key sz f ys=blkF key sz g ys
 | 0,g,ys,h,_=>by
   obtain rfl:ys=[]:=List.eq_nil_of_length_eq_zero (by omega)
   rw [blkF_nil,blkF_nil]
 | f+1,0,ys,_,h=>by
   obtain rfl:ys=[]:=List.eq_nil_of_length_eq_zero (by omega)
   rw [blkF_nil,blkF_nil]
 | f+1,g+1,ys,h1,h2=>by
   rw [blkF,blkF]
   by_cases e:ys=[]
   · subst e
     rw [List.drop_nil,blkF_nil,blkF_nil]
   · have : 0 < ys.length:=List.length_pos_iff.2 e
     rw [blkF_fuel hs f g (ys.drop sz) (by rw [List.length_drop];omega) (by rw [List.length_drop];omega)]
theorem blkS_step {sz:Nat} (hs:1≤sz) (ys:List Int):blkS key sz ys=srtS key (ys.take sz)++blkS key sz (ys.drop sz):=by
 unfold blkS
 rw [blkF_fuel hs ys.length (ys.length+1) ys (Nat.le_refl _) (by omega),blkF,blkF_fuel hs ys.length (ys.drop sz).length (ys.drop sz) (by rw [List.length_drop];omega) (Nat.le_refl _)]
theorem blkF_length {sz:Nat} (hs:1≤sz):∀ (f:Nat) (ys:List Int),ys.length≤f→(blkF key sz f ys).length=ys.length
 | 0,ys,h=>by
   obtain rfl:ys=[]:=List.eq_nil_of_length_eq_zero (by omega)
   rfl
 | f+1,ys,h=>by
   rw [blkF,List.length_append,srtS_length,List.length_take]
   by_cases e:ys=[]
   · subst e
     rw [List.drop_nil,blkF_nil]
     simp
   · have : 0 < ys.length:=List.length_pos_iff.2 e
     rw [blkF_length hs f (ys.drop sz) (by rw [List.length_drop];omega),List.length_drop]
     omega
theorem blkS_length {sz:Nat} (hs:1≤sz) (ys:List Int):(blkS key sz ys).length=ys.length:=blkF_length hs _ _ (Nat.le_refl _)
theorem blkS_nil (sz:Nat):blkS key sz []=[]:=rfl
theorem blkS_small {sz:Nat} (hs:1≤sz) {ys:List Int} (h:ys.length≤sz):blkS key sz ys=srtS key ys:=by
 rw [blkS_step hs,List.take_of_length_le h,List.drop_of_length_le h,blkS_nil,List.append_nil]
theorem blkS_two {sz:Nat} (hs:1≤sz) (ys:List Int):blkS key sz ys=srtS key (ys.take sz)++(srtS key ((ys.drop sz).take sz)++blkS key sz (ys.drop (sz+sz))):=by
 rw [blkS_step hs,blkS_step hs (ys.drop sz),List.drop_drop]
end
theorem f_stableCmpC (key:Int→Int) (p:Int→Prop) (fn:Nat) (cap:Array Value) (hknown:Known fn) (v:Value) (xs:List Int) (n Bk:Nat) (w:World) (ho:Own w 3 Bk v (ints xs)) (hn:xs.length=n) (hl:n≤1000)
 (hp:∀ x∈xs,p x) (hc:CmpOkB key p fn cap v.ownBlock w) :
 Calls Tryz.prog 187 #[v,.int .i64 n,.func (.func fn) #[] cap] w (RetS Bk v (srtS key xs) w):=by
 obtain ⟨al,c,rfl,h2,h3⟩:=ho.rd.formi
 rw [hn] at ho hc ⊢
 have HIN:Hid (∀ (a q:Nat) (D:List Int) (wx:World),D.length=a→1≤q→a+q≤n→w.grownBy wx (Value.slice al n c).ownBlock→Own wx 3 Bk (.slice al n c) (ints (D++xs.drop a)) →
  Calls Tryz.prog 224 #[.slice al n c,.int .i64 a,.int .i64 ((a+q:Nat):Int),.func (.func fn) #[] cap] wx (RetS Bk (.slice al n c) (D++(srtS key ((xs.drop a).take q)++xs.drop (a+q))) wx)):=fun a q D wx hD h1 hq hg hox=>by
  have:=f_insertionB key p fn cap hknown (.slice al n c) D (xs.drop a) n a q (a+q) Bk wx hox (by rw [List.length_append,List.length_drop];omega) hl hD rfl (by rw [List.length_drop];omega) (fun x hx=>hp x (List.mem_of_mem_drop hx)) (hc.up hg)
  rw [srtKK_eq key (xs.drop a) (q - 1) (by rw [List.length_drop];omega),show q - 1+1=q by omega,List.drop_drop] at this
  exact this
 have HI0:Hid (∀ (D:List Int) (wx:World),D.length=n→w.grownBy wx (Value.slice al n c).ownBlock→Own wx 3 Bk (.slice al n c) (ints D) →
  Calls Tryz.prog 224 #[.slice al n c,.int .i64 n,.int .i64 n,.func (.func fn) #[] cap] wx (RetS Bk (.slice al n c) D wx)):=fun D wx hD hg hox=>by
  have:=f_insertionB key p fn cap hknown (.slice al n c) D [] n n 0 n Bk wx (by rw [List.append_nil];exact hox) (by rw [List.append_nil];exact hD) hl hD rfl (Nat.zero_le _) (fun x hx=>by cases hx) (hc.up hg)
  rw [show srtKK key [] (0 - 1)=[] from rfl,List.append_nil] at this
  exact this
 have HSM:Hid (∀ (a s r:Nat) (D S:List Int) (wx:World),D.length=a→1≤s→1≤r→a+s+r≤n→(D++(srtS key ((xs.drop a).take s)++(srtS key ((xs.drop (a+s)).take r)++S))).length=n→w.grownBy wx (Value.slice al n c).ownBlock →
  Own wx 3 Bk (.slice al n c) (ints (D++(srtS key ((xs.drop a).take s)++(srtS key ((xs.drop (a+s)).take r)++S)))) →
  Calls Tryz.prog 225 #[.slice al n c,.int .i64 a,.int .i64 ((a+s:Nat):Int),.int .i64 ((a+s+r:Nat):Int),.func (.func fn) #[] cap] wx (RetS Bk (.slice al n c) (D++(srtS key ((xs.drop a).take (s+r))++S)) wx)):=fun a s r D S wx hD h1 h2 h3 hLn hg hox=>by
  have la:((xs.drop a).take s).length=s:=by rw [List.length_take,List.length_drop];omega
  have lb:((xs.drop (a+s)).take r).length=r:=by rw [List.length_take,List.length_drop];omega
  have:=f_symMergeB key p fn cap hknown (.slice al n c) Bk n hl n D (srtS key ((xs.drop a).take s)) (srtS key ((xs.drop (a+s)).take r)) S a (a+s) (a+s+r) wx (by rw [srtS_length,srtS_length,la,lb];omega) hox hLn hD.symm (by rw [srtS_length,la]) (by rw [srtS_length,lb]) (by rw [srtS_length,la];exact h1) (by rw [srtS_length,lb];exact h2) (srtS_asc _) (srtS_asc _)
   (fun x hx=>hp x (List.mem_of_mem_drop (List.mem_of_mem_take ((srtS_mem _ _).1 hx)))) (fun x hx=>hp x (List.mem_of_mem_drop (List.mem_of_mem_take ((srtS_mem _ _).1 hx)))) (hc.up hg)
  rw [srtS_app,show (xs.drop a).take s++(xs.drop (a+s)).take r=(xs.drop a).take (s+r) by rw [←List.drop_drop,List.take_add]] at this
  exact this
 have HN:=Lib.hid hn
 have HX0:Hid (xs.drop 0=xs):=rfl
 have HLD:Hid (∀ a,(xs.drop a).length=n - a):=fun a=>by rw [List.length_drop,hn]
 clear hc hp hn h2
 go_enter Tryz.func187,Tryz.ntmps187
 go_wp2_with fail
 go_loopw [7,8] (fun av bv wr=>∃ (a:Nat) (D:List Int),a≤n∧av=.int .i64 (a:Int)∧bv=.int .i64 ((a:Int)+20)∧Hid (D.length=a)∧Own wr 3 Bk (.slice al n c) (ints (D++xs.drop a))∧Hid (blkS key 20 xs=D++blkS key 20 (xs.drop a))∧w.grownBy wr (Value.slice al n c).ownBlock) (fun _ bv _=>(n+60 - intOf bv).toNat)
 case atStart=>exact ⟨0,[],Nat.zero_le _,rfl,rfl,rfl,by rw [List.nil_append,HX0.out];exact ho,by rw [Hid,List.nil_append,HX0.out],World.grownBy.refl _ _⟩
 case round =>
  clear ho
  obtain ⟨a,D,han,rfl,rfl,HD,ho,HB,hg⟩:=hrel
  by_cases hb:a+20≤n
  · have i0:(a:Int)+20≤(n:Int):=by omega
    have HC:=Lib.hid (HIN.out a 20 D wr HD.out (by omega) hb hg ho)
    rw [show ((a+20:Nat):Int)=(a:Int)+20 by omega] at HC
    have HB2:Hid (blkS key 20 xs=(D++srtS key ((xs.drop a).take 20))++blkS key 20 (xs.drop (a+20))):=by rw [Hid,HB.out,blkS_step (by omega) (xs.drop a),List.drop_drop,List.append_assoc]
    have HD2:Hid ((D++srtS key ((xs.drop a).take 20)).length=a+20):=by rw [Hid,List.length_append,HD.out,srtS_length,List.length_take,HLD.out];omega
    go_wp2_with fail
    refine HC.out.mono ?_
    rintro e w2 ⟨rfl,ho2,hg2⟩
    rw [←List.append_assoc] at ho2
    replace hg2:=grownBy_trans hg hg2
    clear ho hg HC HB
    go_wp2_with fail
    go_roundw
    case rel=>exact ⟨a+20,_,hb,by go_num,by go_num,HD2,ho2,HB2,hg2⟩
    case measure=>simp [intOf];omega
  · have i0:¬ (a:Int)+20≤(n:Int):=by omega
    have HC:Hid (Calls Tryz.prog 224 #[.slice al n c,.int .i64 a,.int .i64 n,.func (.func fn) #[] cap] wr (RetS Bk (.slice al n c) (blkS key 20 xs) wr)):=by
     have e:blkS key 20 (xs.drop a)=srtS key (xs.drop a):=blkS_small (by omega) (by rw [HLD.out];omega)
     rw [Hid,HB.out,e]
     by_cases han2:a=n
     · subst han2
       have e0:xs.drop a=[]:=List.eq_nil_of_length_eq_zero (by rw [HLD.out];omega)
       rw [e0,List.append_nil] at ho
       rw [e0,srtS_nil,List.append_nil]
       exact HI0.out D wr HD.out hg ho
     · have:=HIN.out a (n - a) D wr HD.out (by omega) (by omega) hg ho
       rw [show a+(n - a)=n by omega,List.take_of_length_le (by rw [HLD.out];exact Nat.le_refl _),show xs.drop n=[] from List.eq_nil_of_length_eq_zero (by rw [HLD.out];omega),List.append_nil] at this
       exact this
    go_wp2_with fail
    refine HC.out.mono ?_
    rintro e w2 ⟨rfl,ho2,hg2⟩
    replace hg2:=grownBy_trans hg hg2
    clear ho hg HC HB HD i0 hb han
    go_wp2_with fail
    go_loopw [6,7,8,9] (fun sv _ _ _ wr=>∃ sz:Nat,20≤sz∧sz≤2000∧sv=.int .i64 (sz:Int)∧Own wr 3 Bk (.slice al n c) (ints (blkS key sz xs))∧w.grownBy wr (Value.slice al n c).ownBlock) (fun sv _ _ _ _=>(4000 - intOf sv).toNat)
    case atStart=>exact ⟨20,Nat.le_refl _,by omega,rfl,ho2,hg2⟩
    case round =>
     clear ho2 hg2
     obtain ⟨sz,h20,h2k,rfl,ho,hg⟩:=hrel
     by_cases hsn:sz < n
     · have i1:(sz:Int) < (n:Int):=by omega
       obtain ⟨s2,hs2⟩:∃ s2,sz+sz=s2:=⟨_,rfl⟩
       have HS2:=Lib.hid hs2
       have i2:(2:Int) * (sz:Int)=(s2:Int):=by omega
       go_wp2_with fail
       go_loopw [7,8] (fun av bv wr=>∃ (a:Nat) (D:List Int),a≤n∧av=.int .i64 (a:Int)∧bv=.int .i64 ((a:Int)+(s2:Int))∧Hid (D.length=a)∧Own wr 3 Bk (.slice al n c) (ints (D++blkS key sz (xs.drop a)))∧Hid (blkS key s2 xs=D++blkS key s2 (xs.drop a))∧w.grownBy wr (Value.slice al n c).ownBlock) (fun _ bv _=>(n+4000 - intOf bv).toNat)
       case atStart=>exact ⟨0,[],Nat.zero_le _,rfl,by simp,rfl,by rw [List.nil_append,HX0.out];exact ho,by rw [Hid,List.nil_append,HX0.out],hg⟩
       case round =>
        clear ho hg
        obtain ⟨a,D,han,rfl,rfl,HD,ho,HB,hg⟩:=hrel
        by_cases hb:a+s2≤n
        · have i3:(a:Int)+(s2:Int)≤(n:Int):=by omega
          have ho':Own wr 3 Bk (.slice al n c) (ints (D++(srtS key ((xs.drop a).take sz)++(srtS key ((xs.drop (a+sz)).take sz)++blkS key sz (xs.drop (a+s2)))))):=by
           rw [blkS_two (by omega) (xs.drop a),List.drop_drop,List.drop_drop,hs2] at ho
           exact ho
          have hLn:(D++(srtS key ((xs.drop a).take sz)++(srtS key ((xs.drop (a+sz)).take sz)++blkS key sz (xs.drop (a+s2))))).length=n:=by
           simp only [List.length_append,srtS_length,List.length_take,HLD.out,blkS_length (show 1≤sz by omega),HD.out]
           omega
          have HC:=Lib.hid (HSM.out a sz sz D _ wr HD.out (by omega) (by omega) (by omega) hLn hg ho')
          rw [show ((a+sz:Nat):Int)=(a:Int)+(sz:Int) by omega,show ((a+sz+sz:Nat):Int)=(a:Int)+(s2:Int) by omega,hs2] at HC
          have HB2:Hid (blkS key s2 xs=(D++srtS key ((xs.drop a).take s2))++blkS key s2 (xs.drop (a+s2))):=by rw [Hid,HB.out,blkS_step (by omega) (xs.drop a),List.drop_drop,List.append_assoc]
          have HD2:Hid ((D++srtS key ((xs.drop a).take s2)).length=a+s2):=by rw [Hid,List.length_append,HD.out,srtS_length,List.length_take,HLD.out];omega
          clear hLn ho' hs2
          go_wp2_with fail
          refine HC.out.mono ?_
          rintro e w2 ⟨rfl,ho2,hg2⟩
          rw [←List.append_assoc] at ho2
          replace hg2:=grownBy_trans hg hg2
          clear ho hg HC HB
          go_wp2_with fail
          go_roundw
          case rel=>exact ⟨a+s2,_,hb,by go_num,by go_num,HD2,ho2,HB2,hg2⟩
          case measure=>simp [intOf];omega
        · have i3:¬ (a:Int)+(s2:Int)≤(n:Int):=by omega
          have e2:blkS key s2 (xs.drop a)=srtS key (xs.drop a):=blkS_small (by omega) (by rw [HLD.out];omega)
          have HB2:Hid (blkS key s2 xs=D++srtS key (xs.drop a)):=by rw [Hid,HB.out,e2]
          by_cases hm:a+sz < n
          · have i4:(a:Int)+(sz:Int) < (n:Int):=by omega
            have ho':Own wr 3 Bk (.slice al n c) (ints (D++(srtS key ((xs.drop a).take sz)++(srtS key ((xs.drop (a+sz)).take (n - (a+sz)))++[])))):=by
             rw [blkS_step (by omega) (xs.drop a),List.drop_drop,blkS_small (by omega) (by rw [HLD.out];omega)] at ho
             rw [show (xs.drop (a+sz)).take (n - (a+sz))=xs.drop (a+sz) from List.take_of_length_le (by rw [HLD.out];exact Nat.le_refl _),List.append_nil]
             exact ho
            have hLn:(D++(srtS key ((xs.drop a).take sz)++(srtS key ((xs.drop (a+sz)).take (n - (a+sz)))++[]))).length=n:=by
             simp only [List.length_append,srtS_length,List.length_take,HLD.out,HD.out,List.length_nil]
             omega
            have HC:=Lib.hid (HSM.out a sz (n - (a+sz)) D _ wr HD.out (by omega) (by omega) (by omega) hLn hg ho')
            rw [show ((a+sz:Nat):Int)=(a:Int)+(sz:Int) by omega,show a+sz+(n - (a+sz))=n by omega,List.append_nil,List.take_of_length_le (by rw [HLD.out];omega),←HB2.out] at HC
            clear hLn ho' hs2 e2 HB HB2
            go_wp2_with fail
            refine HC.out.mono ?_
            rintro e w2 ⟨rfl,ho2,hg2⟩
            replace hg2:=grownBy_trans hg hg2
            clear ho hg HC
            go_wp2_with fail
            go_roundw
            case rel=>exact ⟨s2,by omega,by omega,by go_num,ho2,hg2⟩
            case measure=>simp [intOf];omega
          · have i4:¬ (a:Int)+(sz:Int) < (n:Int):=by omega
            rw [blkS_small (by omega) (by rw [HLD.out];omega),←HB2.out] at ho
            clear hs2 e2 HB HB2
            go_wp2_with fail
            go_roundw
            case rel=>exact ⟨s2,by omega,by omega,by go_num,ho,hg⟩
            case measure=>simp [intOf];omega
     · have i1:¬ (sz:Int) < (n:Int):=by omega
       rw [blkS_small (by omega) (by rw [HN.out];omega)] at ho
       go_wp2_with fail
       go_end0
       exact ⟨rfl,ho,hg⟩
theorem f_SortStableC (key:Int→Int) (p:Int→Prop) (fn:Nat) (cap:Array Value) (hknown:Known fn) (v:Value) (xs:List Int) (n Bk:Nat) (w:World) (ho:Own w 3 Bk v (ints xs)) (hn:xs.length=n) (hl:n≤1000)
 (hp:∀ x∈xs,p x) (hc:CmpOkB key p fn cap v.ownBlock w) :
 Calls Tryz.prog 129 #[v,.func (.func fn) #[] cap] w (RetS Bk v (srtS key xs) w):=by
 have HS:=Lib.hid (f_stableCmpC key p fn cap hknown v xs n Bk w ho hn hl hp hc)
 obtain ⟨al,c,rfl,h2,h3⟩:=ho.rd.formi
 rw [hn] at HS ⊢
 clear hn h2 hc hp ho
 go_enter Tryz.func129,Tryz.ntmps129
 go_wp2_with fail
 refine HS.out.mono ?_
 rintro e w2 ⟨rfl,ho2,hg2⟩
 go_wp2_with fail
 go_end0
 exact ⟨rfl,ho2,hg2⟩
theorem CmpOk.toB {key:Int→Int} {p:Int→Prop} {fn:Nat} {cap:Array Value} {row:Option Nat} {w:World} (h:CmpOk key p fn cap row w):CmpOkB key p fn cap row w :=
 fun wx x y hg hx hy=>(h wx x y hg hx hy).mono fun e w' hh=>⟨hh.1,hh.2.below _⟩
theorem f_SortStable40 (key:Int→Int) (p:Int→Prop) (fn:Nat) (cap:Array Value) (hknown:Known fn) (v:Value) (xs:List Int) (n Bk:Nat) (w:World) (ho:Own w 3 Bk v (ints xs)) (hn:xs.length=n) (hl:n < 40)
 (hp:∀ x∈xs,p x) (hc:CmpOk key p fn cap v.ownBlock w) :
 Calls Tryz.prog 129 #[v,.func (.func fn) #[] cap] w (RetS Bk v (srtS key xs) w) :=
 f_SortStableC key p fn cap hknown v xs n Bk w ho hn (by omega) hp hc.toB
end Go.Proofs.YtggblfnajeikjaaGreatDoor
