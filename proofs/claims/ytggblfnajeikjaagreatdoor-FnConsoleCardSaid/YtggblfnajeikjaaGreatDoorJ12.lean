/- Joined texts of the proof: Sym, CmpA, ConCmp. -/
import Derived.BigRegion
import Derived.Test.YtggblfnajeikjaaGreatDoorJ7
namespace Go.Proofs.YtggblfnajeikjaaGreatDoor
open Go.RowKit
set_option linter.unusedVariables false
set_option linter.unusedSimpArgs false
set_option maxRecDepth 100000
set_option maxHeartbeats 16000000
def RetS (B:Nat) (v:Value) (ys:List Int) (w:World) (e:Ending) (w':World):Prop:=e=.returned (.tuple #[])∧Own w' 3 B v (ints ys)∧w.grownBy w' v.ownBlock
theorem swp_w {w:World} {B n c i j:Nat} {ad:Addr} {xs:List Int} {x y:Int} (h:Own w 3 B (.slice (some ad) n c) (ints xs)) (hx:xs[i]?=some x) (hy:xs[j]?=some y) (hij:i≠j) :
 w.cell? (ad.add i)=some (.int .i64 x)∧w.cell? (ad.add j)=some (.int .i64 y)∧w.frozen? (ad.add i)=false∧w.frozen? (ad.add j)=false ∧
 (w.setCell (ad.add i) (.int .i64 y)).cell? (ad.add j)=some (.int .i64 y)∧(w.setCell (ad.add i) (.int .i64 y)).frozen? (ad.add j)=false ∧
 Own ((w.setCell (ad.add i) (.int .i64 y)).setCell (ad.add j) (.int .i64 x)) 3 B (.slice (some ad) n c) (ints (swp xs i j)) ∧
 w.grownBy ((w.setCell (ad.add i) (.int .i64 y)).setCell (ad.add j) (.int .i64 x)) (Value.slice (some ad) n c).ownBlock:=by
 have hi:=(List.getElem?_eq_some_iff.1 hx).1
 have hj:=(List.getElem?_eq_some_iff.1 hy).1
 have h2:=h.seti rfl hi y
 have h3:=h2.1.seti rfl (show j < (xs.set i y).length by rw [List.length_set];exact hj) x
 rw [swp_of hx hy]
 exact ⟨h.rd.cell_i hx,h.rd.cell_i hy,h.frozen rfl i,h.frozen rfl j,h2.1.rd.cell_i (show (xs.set i y)[j]?=some y by rw [List.getElem?_set_ne (by omega)];exact hy),h2.1.frozen rfl j,h3.1,grownBy_trans h2.2 h3.2⟩
theorem f_swapRange (fv:Value) (v:Value) (xs:List Int) (a b n cnt Bk:Nat) (w:World) (ho:Own w 3 Bk v (ints xs)) (hn:xs.length=n) (hl:n≤1000) (hab:a+cnt≤b) (hb:b+cnt≤n) :
 Calls Tryz.prog 300 #[v,.int .i64 a,.int .i64 b,.int .i64 cnt,fv] w (RetS Bk v (swapN xs a b cnt) w):=by
 obtain ⟨al,c,rfl,h2,h3⟩:=ho.rd.formi
 obtain ⟨T,hT⟩:∃ T,swapN xs a b cnt=T:=⟨_,rfl⟩
 rw [hT]
 have HT:Hid (swapN xs (a+0) (b+0) (cnt - 0)=T):=hT
 have HN:=Lib.hid hn
 rw [hn] at ho ⊢
 clear hT hn h2
 go_enter Tryz.func300,Tryz.ntmps300
 go_wp2_with fail
 go_loopw [10] (fun iv wr=>∃ (i:Nat) (zs:List Int),i≤cnt∧iv=.int .i64 (i:Int)∧Own wr 3 Bk (.slice al n c) (ints zs)∧Hid (zs.length=n)∧Hid (swapN zs (a+i) (b+i) (cnt - i)=T)∧w.grownBy wr (Value.slice al n c).ownBlock) (fun iv _=>cnt - (intOf iv).toNat)
 case atStart=>exact ⟨0,xs,Nat.zero_le _,rfl,ho,HN,HT,World.grownBy.refl _ _⟩
 case round =>
  clear ho HN HT
  obtain ⟨i,zs,hi,rfl,ho,HN,HT,hg⟩:=hrel
  by_cases hlt:i < cnt
  · have i0:(i:Int) < (cnt:Int):=by omega
    obtain ⟨ad,x,rfl,_,hx⟩:=ho.rd.int (k:=a+i) (by rw [HN.out];omega)
    obtain ⟨_,y,had,_,hy⟩:=ho.rd.int (k:=b+i) (by rw [HN.out];omega)
    clear had
    obtain ⟨c1,c2,f1,f2,c3,f3,ho3,hg3⟩:=swp_w ho hx.out hy.out (by omega)
    have HT3:Hid (swapN (swp zs (a+i) (b+i)) (a+(i+1)) (b+(i+1)) (cnt - (i+1))=T):=by
     have:=HT.out
     rw [show cnt - i=(cnt - (i+1))+1 by omega,swapN] at this
     exact this
    have HN3:Hid ((swp zs (a+i) (b+i)).length=n):=by rw [Hid,swp_length];exact HN.out
    replace hg3:=grownBy_trans hg hg3
    have i1:(a:Int)+(i:Int) < (n:Int):=by omega
    have i2:(b:Int)+(i:Int) < (n:Int):=by omega
    have i3:(0:Int)≤(a:Int)+(i:Int):=by omega
    have i4:(0:Int)≤(b:Int)+(i:Int):=by omega
    have i5:((a:Int)+(i:Int)).toNat=a+i:=by omega
    have i6:((b:Int)+(i:Int)).toNat=b+i:=by omega
    clear ho hg hx hy
    go_wp2_with fail
    go_region
    all_goals
     go_wp2_with fail
     go_roundw
     case rel=>exact ⟨i+1,_,by omega,by go_num,ho3,HN3,HT3,⟨hg3.os,hg3.tape,hg3.output,hg3.size,hg3.block⟩⟩
     case measure=>simp [intOf];omega
  · obtain rfl:i=cnt:=by omega
    have HE:Hid (zs=T):=by have:=HT.out;rw [Nat.sub_self] at this;exact this
    rw [HE.out] at ho
    go_wp2_with fail
    go_end0
    exact ⟨rfl,ho,hg⟩
theorem f_rotate (fv:Value) (v:Value) (P U V S xs:List Int) (Bk:Nat) (w:World) (hxs:xs=P++(U++(V++S))) (ho:Own w 3 Bk v (ints xs)) (hl:xs.length≤1000) (hU:1≤U.length) (hV:1≤V.length) (a m b:Nat) (ha:a=P.length) (hm:m=a+U.length) (hb:b=m+V.length) :
 Calls Tryz.prog 273 #[v,.int .i64 a,.int .i64 m,.int .i64 b,fv] w (RetS Bk v (P++(V++(U++S))) w):=by
 obtain ⟨al,c,rfl,h2,h3⟩:=ho.rd.formi
 obtain ⟨n,hn⟩:∃ n,xs.length=n:=⟨_,rfl⟩
 have hnl:n=a+U.length+V.length+S.length:=by rw [←hn,hxs];simp;omega
 obtain ⟨T,hT⟩:∃ T,P++(V++(U++S))=T:=⟨_,rfl⟩
 rw [hT]
 rw [hn] at ho hl ⊢
 have HT:=Lib.hid hT
 have HX:=Lib.hid hxs
 have HP:=Lib.hid ha
 have HMM:=Lib.hid hm
 have HBB:=Lib.hid hb
 have hma:a≤m:=by omega
 have hmb:m≤b:=by omega
 obtain ⟨lu,hlu⟩:∃ lu,U.length=lu:=⟨_,rfl⟩
 obtain ⟨lv,hlv⟩:∃ lv,V.length=lv:=⟨_,rfl⟩
 have HU:=Lib.hid hlu
 have HV:=Lib.hid hlv
 rw [hlu] at hU hm hnl
 rw [hlv] at hV hb hnl
 have hbn:b≤n:=by omega
 have hlu1:lu≤m:=by omega
 have hlv1:m+lv≤n:=by omega
 have HA1:Hid (P.length+lu=m):=by have:=HP.out;rw [Hid];omega
 have e1:(m:Int) - (a:Int)=(lu:Int):=by omega
 have e2:(b:Int) - (m:Int)=(lv:Int):=by omega
 have HNL:Hid (n=P.length+lu+lv+S.length):=by have:=HP.out;rw [Hid];omega
 clear hT hn h2 hxs ha hlu hlv hm hb hnl
 have SW:=Lib.hid (fun (wx:World) (zs:List Int) (a b cnt:Nat) (hz:Own wx 3 Bk (.slice al n c) (ints zs)) (hzn:zs.length=n) (h1:a+cnt≤b) (h2:b+cnt≤n)=>f_swapRange fv _ zs a b n cnt Bk wx hz hzn hl h1 h2)
 go_enter Tryz.func273,Tryz.ntmps273
 go_wp2_with fail
 go_loopw [10,11] (fun iv jv wr=>∃ (i j:Nat) (p x y s zs:List Int),1≤i∧1≤j∧i≤m∧m+j≤n∧iv=.int .i64 (i:Int)∧jv=.int .i64 (j:Int)∧Hid (zs=p++(x++(y++s)))∧Hid (p.length=m - i)∧Hid (x.length=i)∧Hid (y.length=j)∧Hid (p++(y++(x++s))=T)∧Hid (zs.length=n)∧Own wr 3 Bk (.slice al n c) (ints zs)∧w.grownBy wr (Value.slice al n c).ownBlock) (fun iv jv _=>(intOf iv).toNat+(intOf jv).toNat)
 case atStart =>
  refine ⟨lu,lv,P,U,V,S,xs,hU,hV,by omega,by omega,rfl,rfl,HX,?_,HU,HV,HT,?_,ho,World.grownBy.refl _ _⟩
  · have:=HA1.out;rw [Hid];omega
  · rw [Hid,HX.out];have:=HNL.out;have:=HU.out;have:=HV.out;simp only [List.length_append];omega
 case round =>
  clear ho HX HP HU HV HT
  obtain ⟨i,j,p,x,y,s,zs,hi,hj,him,hjn,rfl,rfl,HZ,HP,HX,HY,HT,HN,ho,hg⟩:=hrel
  have e3:(m:Int) - (i:Int)=((m - i:Nat):Int):=by omega
  by_cases hij:i=j
  · subst hij
    have HF:Hid (swapN zs (m - i) m i=T):=by
     have:=swapN_blocks x y p [] s (by rw [HX.out,HY.out])
     simp only [List.nil_append,List.length_nil,Nat.add_zero] at this
     rw [HP.out,HX.out,show m - i+i=m by omega] at this
     rw [Hid,HZ.out,this,HT.out]
    have d0:((i:Int) != (i:Int))=false:=by simp
    go_wp2_with fail
    try rw [e3]
    refine (SW.out _ zs (m - i) m i ho HN.out (by omega) (by omega)).mono ?_
    rintro e w2 ⟨rfl,ho2,hg2⟩
    rw [HF.out] at ho2
    go_wp2_with fail
    go_end0
    exact ⟨rfl,ho2,grownBy_trans hg hg2⟩
  · have d0:((i:Int) != (j:Int))=true:=by simp;omega
    by_cases hgt:j < i
    · have i0:(i:Int) > (j:Int):=by omega
      have HF:Hid (swapN zs (m - i) m j=p++(y++(x.drop j++(x.take j++s)))):=by
       have:=swapN_blocks (x.take j) y p (x.drop j) s (by rw [List.length_take,HX.out,HY.out];omega)
       rw [List.length_take,List.length_drop,HP.out,HX.out,show min j i=j by omega,show m - i+j+(i - j)=m by omega] at this
       have e:x++(y++s)=x.take j++(x.drop j++(y++s)):=by rw [←List.append_assoc (x.take j),List.take_append_drop]
       rw [Hid,HZ.out,e]
       exact this
      go_wp2_with fail
      try rw [e3]
      refine (SW.out _ zs (m - i) m j ho HN.out (by omega) (by omega)).mono ?_
      rintro e w2 ⟨rfl,ho2,hg2⟩
      rw [HF.out] at ho2
      go_wp2_with fail
      go_roundw
      case rel =>
       refine ⟨i - j,j,p++y,x.drop j,x.take j,s,_,by omega,by omega,by omega,by omega,by congr 1;omega,rfl,?_,?_,?_,?_,?_,?_,ho2,grownBy_trans hg hg2⟩
       · rw [Hid];simp
       · rw [Hid,List.length_append,HP.out,HY.out];omega
       · rw [Hid,List.length_drop,HX.out]
       · rw [Hid,List.length_take,HX.out];omega
       · rw [Hid,←HT.out,←List.append_assoc (List.take j x),List.take_append_drop];simp
       · have:=HN.out
         have:=HX.out
         rw [HZ.out] at *
         rw [Hid]
         simp only [List.length_append,List.length_drop,List.length_take] at *
         omega
      case measure=>simp [intOf];omega
    · have i0:¬ (i:Int) > (j:Int):=by omega
      have e4:(m:Int)+(j:Int) - (i:Int)=((m+j - i:Nat):Int):=by omega
      have HF:Hid (swapN zs (m - i) (m+j - i) i=p++(y.drop (j - i)++(y.take (j - i)++(x++s)))):=by
       have:=swapN_blocks x (y.drop (j - i)) p (y.take (j - i)) s (by rw [List.length_drop,HX.out,HY.out];omega)
       rw [List.length_take,HP.out,HX.out,HY.out,show min (j - i) j=j - i by omega,show m - i+i+(j - i)=m+j - i by omega] at this
       have e:y++s=y.take (j - i)++(y.drop (j - i)++s):=by rw [←List.append_assoc (y.take (j - i)),List.take_append_drop]
       rw [Hid,HZ.out,e]
       exact this
      go_wp2_with fail
      try rw [e3,e4]
      refine (SW.out _ zs (m - i) (m+j - i) i ho HN.out (by omega) (by omega)).mono ?_
      rintro e w2 ⟨rfl,ho2,hg2⟩
      rw [HF.out] at ho2
      go_wp2_with fail
      go_roundw
      case rel =>
       refine ⟨i,j - i,p,y.drop (j - i),y.take (j - i),x++s,_,by omega,by omega,by omega,by omega,rfl,by congr 1;omega,rfl,HP,?_,?_,?_,?_,ho2,grownBy_trans hg hg2⟩
       · rw [Hid,List.length_drop,HY.out];omega
       · rw [Hid,List.length_take,HY.out];omega
       · rw [Hid,←HT.out,←List.append_assoc (List.take (j - i) y),List.take_append_drop]
       · have:=HN.out
         have:=HY.out
         rw [HZ.out] at *
         rw [Hid]
         simp only [List.length_append,List.length_drop,List.length_take] at *
         omega
      case measure=>simp [intOf];omega
def CmpOk (key:Int→Int) (p:Int→Prop) (fn:Nat) (cap:Array Value) (row:Option Nat) (w:World):Prop :=
 ∀ (wx:World) (x y:Int),w.grownBy wx row→p x→p y→Calls Tryz.prog fn (#[.int .i64 x,.int .i64 y]++cap) wx (RetQ (.int .i64 (cmpV key x y)) wx)
theorem CmpOk.up {key:Int→Int} {p:Int→Prop} {fn:Nat} {cap:Array Value} {row:Option Nat} {w w':World} (h:CmpOk key p fn cap row w) (hg:w.grownBy w' row):CmpOk key p fn cap row w' :=
 fun wx x y h1=>h wx x y (grownBy_trans hg h1)
theorem cmpV_lt {key:Int→Int} {x y:Int} (h:key x < key y):decide (cmpV key x y < 0)=true:=by rw [cmpV,if_pos h];rfl
theorem cmpV_ge {key:Int→Int} {x y:Int} (h:¬ key x < key y):decide (cmpV key x y < 0)=false:=by rw [cmpV,if_neg h];split <;> rfl
theorem asc_nil_app {key:Int→Int} {A V:List Int} (hA:KAsc key A) (hV:KAsc key V) (h:A=[]∨V=[]):srtS key (A++V)=A++V:=by
 rcases h with rfl | rfl
 · simpa using srtS_self hV
 · simpa using srtS_self hA
def RetQB (u:Value) (w:World) (e:Ending) (w':World):Prop:=e=.returned u∧Below w.heap.size w w'
theorem gbB {w w':World} {row:Option Nat} (h:Below w.heap.size w w'):w.grownBy w' row:=⟨h.os,h.tape,h.output,h.size,fun k hk _=>h.block k hk⟩
def CmpOkB (key:Int→Int) (p:Int→Prop) (fn:Nat) (cap:Array Value) (row:Option Nat) (w:World):Prop :=
 ∀ (wx:World) (x y:Int),w.grownBy wx row→p x→p y→Calls Tryz.prog fn (#[.int .i64 x,.int .i64 y]++cap) wx (RetQB (.int .i64 (cmpV key x y)) wx)
theorem CmpOkB.up {key:Int→Int} {p:Int→Prop} {fn:Nat} {cap:Array Value} {row:Option Nat} {w w':World} (h:CmpOkB key p fn cap row w) (hg:w.grownBy w' row):CmpOkB key p fn cap row w' :=
 fun wx x y h1=>h wx x y (grownBy_trans hg h1)
end Go.Proofs.YtggblfnajeikjaaGreatDoor
