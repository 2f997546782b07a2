/- Joined texts of the proof: ConfB, FabC, FabD, FabR, FabS. -/
import Derived.Deep.RegionLaw
import Derived.Test.YtggblfnajeikjaaGreatDoorJ11
import Derived.Test.YtggblfnajeikjaaGreatDoorJ17
import Derived.Test.YtggblfnajeikjaaGreatDoorJ18
namespace Go.Proofs.YtggblfnajeikjaaGreatDoor
open Go.RowKit
set_option linter.unusedVariables false
set_option linter.unusedSimpArgs false
set_option maxRecDepth 100000
set_option maxHeartbeats 16000000
theorem Rd2.of2 {W:World} {g E:Nat} {r0 r1:Value} {x0 x1:List Int} (h:W.heap[g]?=some (.cells #[r0,r1] E (0,0))) (h0:Rd W r0 (ints x0)) (h1:Rd W r1 (ints x1)) :
 Rd2 W (.slice (some ⟨g,0,none⟩) 2 2) [x0,x1]:=by
 have hO:Own W E g (.slice (some ⟨g,0,none⟩) 2 2) [r0,r1]:=.inr ⟨g,0,2,_,rfl,Nat.le_refl _,h,by simp,by omega,by simp,fun j u hu=>by simpa using hu⟩
 refine ⟨[r0,r1],hO.rd,rfl,fun i r hr=>?_⟩
 match i,hr with
 | 0,hr=>cases hr;exact ⟨x0,rfl,h0⟩
 | 1,hr=>cases hr;exact ⟨x1,rfl,h1⟩
 | n+2,hr=>simp at hr
def RetHalves (xs:List Int) (w:World) (e:Ending) (w':World):Prop:=∃ v1 v2,e=.returned (.tuple #[v1,v2])∧Own w' 3 w.heap.size v1 (ints (halfL xs 0))∧Own w' 3 w.heap.size v2 (ints (halfL xs 1))∧Below w.heap.size w w'
theorem i_halves (v:Value) (xs:List Int) (w:World) (h:Rd w v (ints xs)) (hl:xs.length≤1000):Calls Tryz.prog 288 #[v] w (RetHalves xs w):=by
 obtain ⟨a,n,c,rfl,HN,hnc,hc⟩:=h.formN
 have hn:n≤1000:=by have:=HN.out;omega
 have hO:OwnsL ((w.alloc (.cells #[] 3)).alloc (.cells #[] 3)) 3 w.heap.size [(.slice (some ⟨w.heap.size,0,none⟩) 0 0,halfK xs 0 0),(.slice (some ⟨w.heap.size+1,0,none⟩) 0 0,halfK xs 1 0)]:=by
  have h1:=OwnsL.snoc (OwnsL.nil w 3 w.heap.size) ((Below.refl _ _).alloc (Nat.le_refl _) (.cells #[] 3)) (Nat.le_refl _) (Own.lit0 w 3 (Nat.le_refl _))
  have h2:=OwnsL.snoc h1 ((Below.refl _ _).alloc (Nat.le_refl _) (.cells #[] 3)) (by simp) (Own.lit0 _ 3 (Nat.le_refl _))
  simpa [halfK] using h2
 have hB:Below w.heap.size w ((w.alloc (.cells #[] 3)).alloc (.cells #[] 3)):=((Below.refl _ _).alloc (Nat.le_refl _) _).alloc (by simp) _
 have HF0:Hid (halfL xs 0=halfK xs 0 ((n+1) / 2)):=by rw [Hid,halfL,←HN.out];rfl
 have HF1:Hid (halfL xs 1=halfK xs 1 (n / 2)):=by rw [Hid,halfL,←HN.out];rfl
 go_enter Tryz.func288,Tryz.ntmps288
 go_wp2
 go_loopg [4,5,12] n (fun g ve vo iv wr=>∃ k:Nat,g=n - k∧k≤n∧iv=.int .i64 (k:Int)∧OwnsL wr 3 w.heap.size [(ve,halfK xs 0 ((k+1) / 2)),(vo,halfK xs 1 (k / 2))]∧Below w.heap.size w wr)
 case atStart=>exact ⟨0,rfl,Nat.zero_le _,rfl,hO,hB⟩
 case round =>
  clear hO hB
  obtain ⟨k,hg,hk,rfl,hO,hb⟩:=hrel
  by_cases hlt:k < n
  · obtain ⟨ad,x,rfl,hcx,hx⟩:=(h.below hb).int (k:=k) (by have:=HN.out;omega)
    have hsb:=hb.size
    rcases Nat.mod_two_eq_zero_or_one k with h2 | h2
    · obtain ⟨q,hq⟩:∃ q,(k+1) / 2=q:=⟨_,rfl⟩
      have HS:Hid (halfK xs 0 ((k+1+1) / 2)=halfK xs 0 q++[x]):=by
       rw [Hid,show (k+1+1) / 2=q+1 by omega]
       exact halfK_succ (by rw [show 0+2 * q=k by omega];exact hx.out)
      have HS1:Hid (halfK xs 1 ((k+1) / 2)=halfK xs 1 (k / 2)):=by rw [Hid,show (k+1) / 2=k / 2 by omega]
      rw [hq] at hO
      have d1:((k:Int) % 2 == 0)=true:=by rw [beq_iff_eq];omega
      obtain ⟨ae,ne,ce,rfl,HNE,_,_⟩:=hO.o0.rd.formN
      obtain ⟨ao,no,co,rfl,HNO,_,_⟩:=hO.o1.rd.formN
      have HLE:Hid ((ints (halfK xs 0 q)).length=ne):=by rw [Hid,ints_length];exact HNE.out.symm
      have hne:ne≤1000:=by have:=HNE.out;rw [halfK_len] at this;omega
      clear hx hq
      go_wp2_with (at_builtin;(refine wpList_app1m rfl _ _ 23 rfl elI rfl hO.o0 (by show Value.slice (some ⟨wr.heap.size,0,none⟩) 1 1=_;simp) rfl hsb _ HLE.out (by omega) (by omega) ?_);intro b6 c6 w6 ho6 hg6 hat6)
      have hO6:=hO.t0 hg6 (ys:=halfK xs 0 ((k+1+1) / 2)) (by rw [HS.out,ints_append];exact ho6) (hat_of hat6)
      have hb6:=hb.grown hg6 hsb (fun r hr=>(hO.o0.lt r hr).1)
      go_roundg (n - (k+1))
      case measure=>omega
      case rel=>exact ⟨k+1,rfl,hlt,by go_num,by rw [HS1.out];exact hO6,hb6⟩
    · obtain ⟨q,hq⟩:∃ q,k / 2=q:=⟨_,rfl⟩
      have HS:Hid (halfK xs 1 ((k+1) / 2)=halfK xs 1 q++[x]):=by
       rw [Hid,show (k+1) / 2=q+1 by omega]
       exact halfK_succ (by rw [show 1+2 * q=k by omega];exact hx.out)
      have HS1:Hid (halfK xs 0 ((k+1+1) / 2)=halfK xs 0 ((k+1) / 2)):=by rw [Hid,show (k+1+1) / 2=(k+1) / 2 by omega]
      rw [hq] at hO
      have d1:((k:Int) % 2 == 0)=false:=by rw [beq_eq_false_iff_ne];omega
      obtain ⟨ae,ne,ce,rfl,HNE,_,_⟩:=hO.o0.rd.formN
      obtain ⟨ao,no,co,rfl,HNO,_,_⟩:=hO.o1.rd.formN
      have HLE:Hid ((ints (halfK xs 1 q)).length=no):=by rw [Hid,ints_length];exact HNO.out.symm
      have hne:no≤1000:=by have:=HNO.out;rw [halfK_len] at this;omega
      clear hx hq
      go_wp2_with (at_builtin;(refine wpList_app1m rfl _ _ 23 rfl elI rfl hO.o1 (by show Value.slice (some ⟨wr.heap.size,0,none⟩) 1 1=_;simp) rfl hsb _ HLE.out (by omega) (by omega) ?_);intro b6 c6 w6 ho6 hg6 hat6)
      have hO6:=hO.t1 hg6 (ys:=halfK xs 1 ((k+1) / 2)) (by rw [HS.out,ints_append];exact ho6) (hat_of hat6)
      have hb6:=hb.grown hg6 hsb (fun r hr=>(hO.o1.lt r hr).1)
      go_roundg (n - (k+1))
      case measure=>omega
      case rel=>exact ⟨k+1,rfl,hlt,by go_num,by rw [HS1.out];exact hO6,hb6⟩
  · obtain rfl:k=n:=by omega
    have o0:=hO.o0
    have o1:=hO.o1
    dsimp only at o0 o1
    rw [←HF0.out] at o0
    rw [←HF1.out] at o1
    go_wp2
    go_ret2
    exact ⟨_,_,rfl,o0,o1,hb⟩
theorem i_oddEven:∀ (f:Nat) (va vb:Value) (a b:List Int) (w:World),Rd w va (ints a)→Rd w vb (ints b)→a.length+b.length≤f→f≤16→Calls Tryz.prog 248 #[va,vb] w (RetOwnP (mrg f a b) w):=by
 intro f
 induction f with
 | zero =>
   intro va vb a b w ha hb hl hf
   obtain ⟨aa,na,ca,rfl,HA,_,_⟩:=ha.formN
   obtain ⟨ab,nb,cb,rfl,HB,_,_⟩:=hb.formN
   obtain rfl:na=0:=by have:=HA.out;omega
   go_enter Tryz.func248,Tryz.ntmps248
   go_wp2_with fail
   go_ret
   exact ⟨_,rfl,OwnP.nil w _,Below.refl _ _⟩
 | succ f ih =>
   intro va vb a b w ha hb hl hf
   obtain ⟨aa,na,ca,rfl,HA,hna,_⟩:=ha.formN
   obtain ⟨ab,nb,cb,rfl,HB,hnb,_⟩:=hb.formN
   have hna16:na≤16:=by have:=HA.out;omega
   have hnb16:nb≤16:=by have:=HB.out;omega
   by_cases h0:na=0
   · have HR:Hid (mrg (f+1) a b=[]):=by rw [Hid,mrg,if_pos (.inl (by rw [←HA.out];exact h0))]
     subst h0
     clear ih
     go_enter Tryz.func248,Tryz.ntmps248
     go_wp2_with fail
     go_ret
     exact ⟨_,rfl,by rw [HR.out];exact OwnP.nil w _,Below.refl _ _⟩
   have d0:((na:Int) == 0)=false:=by rw [beq_eq_false_iff_ne];omega
   by_cases h1:nb=0
   · have HR:Hid (mrg (f+1) a b=[]):=by rw [Hid,mrg,if_pos (.inr (by rw [←HB.out];exact h1))]
     subst h1
     clear ih
     go_enter Tryz.func248,Tryz.ntmps248
     go_wp2_with fail
     go_ret
     exact ⟨_,rfl,by rw [HR.out];exact OwnP.nil w _,Below.refl _ _⟩
   have d1:((nb:Int) == 0)=false:=by rw [beq_eq_false_iff_ne];omega
   by_cases h2:na=1∧nb=1
   · obtain ⟨e1,e2⟩:=h2
     obtain ⟨pa,x,rfl,hcx,hx⟩:=ha.int (k:=0) (by have:=HA.out;omega)
     obtain ⟨pb,y,rfl,hcy,hy⟩:=hb.int (k:=0) (by have:=HB.out;omega)
     have HR:Hid (mrg (f+1) a b=[[x,y]]):=by
      have l1:=HA.out
      have l2:=HB.out
      have g1:=hx.out
      have g2:=hy.out
      rw [Hid,mrg,if_neg (by omega),if_pos ⟨by omega,by omega⟩,List.getD_eq_getElem?_getD,g1,List.getD_eq_getElem?_getD,g2]
      rfl
     subst e1
     subst e2
     have c1:w.cell? pa=some (.int .i64 x):=by simpa [Addr.add] using hcx
     have c2:w.cell? pb=some (.int .i64 y):=by simpa [Addr.add] using hcy
     clear ih hx hy hcx hcy ha hb
     go_enter Tryz.func248,Tryz.ntmps248
     go_wp2_with fail
     go_region_held3 (fun wx=>wx.cell? pa=some (.int .i64 x)∧wx.cell? pb=some (.int .i64 y)) (go_keep) (fail)
     all_goals
      go_wp2_with fail
      go_ret
      exact ⟨_,rfl,by rw [HR.out];exact OwnP.of_heap (OwnP.lit1 (Nat.le_refl _) x y) rfl,(((Below.refl _ _).alloc (Nat.le_refl _) _).alloc (by simp) _).drew⟩
   have hd:((na:Int) == 1)=false∨(((na:Int) == 1)=true∧((nb:Int) == 1)=false):=by
    by_cases e1:na=1
    · refine .inr ⟨by rw [beq_iff_eq];omega,?_⟩
      rw [beq_eq_false_iff_ne];omega
    · exact .inl (by rw [beq_eq_false_iff_ne];omega)
   have hLA:=HA.out
   have hLB:=HB.out
   have e00:=halfL_len a 0
   have e01:=halfL_len b 0
   have e10:=halfL_len a 1
   have e11:=halfL_len b 1
   have HR:Hid (mrg (f+1) a b=mrg f (halfL a 0) (halfL b 0)++mrg f (halfL a 1) (halfL b 1)++cmpL (halfL a 0++halfL b 0) (halfL a 1++halfL b 1)):=by
    rw [Hid,mrg,if_neg (by omega),if_neg (by omega)]
   have H0:=Lib.hid (fun (v v':Value) (W:World) (h:Rd W v (ints (halfL a 0))) (h':Rd W v' (ints (halfL b 0)))=>ih v v' _ _ W h h' (by omega) (by omega))
   have H1:=Lib.hid (fun (v v':Value) (W:World) (h:Rd W v (ints (halfL a 1))) (h':Rd W v' (ints (halfL b 1)))=>ih v v' _ _ W h h' (by omega) (by omega))
   have HX:Hid ((mrg f (halfL a 0) (halfL b 0)).length≤1310700):=mrg_le (by omega) (by omega)
   have HY:Hid ((mrg f (halfL a 1) (halfL b 1)).length≤1310700):=mrg_le (by omega) (by omega)
   have HHA:=Lib.hid (i_halves _ a w ha (by omega))
   have HHB:=Lib.hid (fun (W:World) (hW:Below w.heap.size w W)=>i_halves _ b W (hb.below hW) (by omega))
   unfold RetHalves at HHA HHB
   have HL0:Hid ((halfL a 0).length≤16∧(halfL b 0).length≤16∧(halfL a 1).length≤16∧(halfL b 1).length≤16):=⟨by omega,by omega,by omega,by omega⟩
   generalize mrg (f+1) a b=R at HR ⊢
   generalize mrg f (halfL a 0) (halfL b 0)=X at HX HR H0
   generalize mrg f (halfL a 1) (halfL b 1)=Y at HY HR H1
   generalize halfL a 0=a0 at *
   generalize halfL b 0=b0 at *
   generalize halfL a 1=a1 at *
   generalize halfL b 1=b1 at *
   clear hLA hLB e00 e01 e10 e11 h2 ih ha hb
   go_enter Tryz.func248,Tryz.ntmps248
   rcases hd with hd | ⟨hd,hd2⟩
   all_goals
    go_wp2_with fail
    refine HHA.out.mono ?_
    rintro e w1 ⟨v1,v1',rfl,o1,o1',b1⟩
    obtain ⟨a1_,m1,c1,rfl,HM1,_,_⟩:=o1.rd.formN
    obtain ⟨a1',m1',c1',rfl,HM1',_,_⟩:=o1'.rd.formN
    have B1:=b1
    go_wp2_with fail
    refine (HHB.out _ B1).mono ?_
    rintro e w2 ⟨v2,v2',rfl,o2,o2',b2⟩
    obtain ⟨a2_,m2,c2,rfl,HM2,_,_⟩:=o2.rd.formN
    obtain ⟨a2',m2',c2',rfl,HM2',_,_⟩:=o2'.rd.formN
    have B2:=B1.trans (b2.mono B1.size)
    have ra0:=o1.rd.below b2
    have ra1:=o1'.rd.below b2
    have rb0:=o2.rd
    have rb1:=o2'.rd
    clear o1 o1' o2 o2' b1 b2 B1 HHA HHB
    go_upto_region 8 with (first
     | (go_at_call 248;(with_reducible refine (H0.out _ _ _ ra0 rb0).mono ?_);rintro e w3 ⟨v3,rfl,o3,b3⟩;obtain ⟨a3,m3,c3,rfl,HM3,_,_⟩:=o3.formN;have ra1':=ra1.below b3;have rb1':=rb1.below b3)
     | (go_at_call 248;(with_reducible refine (H1.out _ _ _ ra1' rb1').mono ?_);rintro e w6 ⟨v6,rfl,o6,b6⟩;obtain ⟨a6,m6,c6,rfl,HM6,_,_⟩:=o6.formN;have o3':=o3.below b6;obtain ⟨r3,ov3,rp3⟩:=o3';obtain ⟨r6,ov6,rp6⟩:=o6;have b26:=b3.trans (b6.mono b3.size);have hm3:m3≤1310700:=(by have:=HM3.out;have:=HX.out;omega);have hm6:m6≤1310700:=(by have:=HM6.out;have:=HY.out;omega);have HL6:Hid (r3.length+r6.length=m3+m6):=(by have:=rp3.1;have:=rp6.1;have:=HM3.out;have:=HM6.out;rw [Hid];omega);have hs6:=b26.size)
     | (at_builtin;refine wpList_appn rfl _ _ 28 rfl elII ov3 ov6.rd rfl rfl rp6.one hs6 _ HL6.out (by omega) (by omega) ?_;intro b7 c7 w7 o7 g7 hat7))
    have o7p:=(OwnP.cat rp3 ov3 rp6 b3.size g7 o7).mono (B':=w.heap.size) B2.size
    have b27:=b26.grown g7 hs6 (fun r hr=>(ov3.lt r hr).1)
    have B7:=B2.trans (b27.mono B2.size)
    have hm7:m3+m6≤2621400:=by omega
    have HM7:Hid ((X++Y).length=m3+m6):=by rw [Hid,List.length_append,HM3.out,HM6.out]
    obtain ⟨m7,hmm⟩:∃ m7,m3+m6=m7:=⟨_,rfl⟩
    rw [hmm] at o7p hm7 HM7 ⊢
    replace ra0:=ra0.below b27
    replace ra1:=ra1.below b27
    replace rb0:=rb0.below b27
    replace rb1:=rb1.below b27
    have hA:=(Below.refl w7.heap.size w7).alloc (Nat.le_refl _) (.cells #[.slice a1_ m1 c1,.slice a2_ m2 c2] 23)
    have HC0:=Lib.hid (f_Concat _ _ _ (Rd2.of2 (heap_alloc_new w7 _) (ra0.below hA) (rb0.below hA)) (by simp [tot];obtain ⟨q1,q2,q3,q4⟩:=HL0.out;omega))
    clear ov3 ov6 rp3 rp6 o7 g7 hat7 hmm hm3 hm6 HM3 HM6 HL6 b26 hs6 b27 ra0 rb0 ra1' rb1' b3 b6 H0 H1 HX HY
    go_wp2_with (first
     | (go_at_call 143;(with_reducible refine HC0.out.mono ?_);clear HC0;rintro e w9 ⟨v9,rfl,o9,b9⟩;obtain ⟨b10,mv,c10,rfl,HV0,_,_⟩:=o9.rd.formN;have b79:=hA.trans (b9.mono hA.size);have hA2:=(Below.refl w9.heap.size w9).alloc (Nat.le_refl _) (.cells #[.slice a1' m1' c1',.slice a2' m2' c2'] 23))
     | (go_at_call 143;(with_reducible refine (f_Concat _ _ _ (Rd2.of2 (heap_alloc_new w9 _) ((ra1.below b79).below hA2) ((rb1.below b79).below hA2)) (by simp [tot];obtain ⟨q1,q2,q3,q4⟩:=HL0.out;omega)).mono ?_);rintro e w10 ⟨v10,rfl,o10',b10'⟩;obtain ⟨b13,mw,c13,rfl,HU0,_,_⟩:=o10'.rd.formN;have b910:=hA2.trans (b10'.mono hA2.size)))
    have b710:=b79.trans (b910.mono b79.size)
    have B13:=B7.trans (b710.mono B7.size)
    replace o7p:=o7p.below b710
    have o10:=(o9.below b910).mono (B':=0) (Nat.zero_le _)
    have o13:=o10'.mono (B':=0) (Nat.zero_le _)
    have e0:[a0,b0].flatten=a0++b0:=by simp
    have e1:[a1,b1].flatten=a1++b1:=by simp
    rw [e0] at o10 HV0
    rw [e1] at o13 HU0
    have hmv:mv≤32:=by have:=HV0.out;rw [List.length_append] at this;obtain ⟨q1,q2,q3,q4⟩:=HL0.out;omega
    have hmw:mw≤32:=by have:=HU0.out;rw [List.length_append] at this;obtain ⟨q1,q2,q3,q4⟩:=HL0.out;omega
    clear e0 e1 o9 o10' b9 b10' hA hA2 b79 b910 b710 B7 B2 ra1 rb1 HL0
    generalize a0++b0=V at *
    generalize a1++b1=U at *
    have HV:Hid (mv=V.length):=HV0
    have HU:Hid (mw=U.length):=HU0
    generalize X++Y=XY at *
    obtain ⟨K,hK⟩:∃ K,min mw (mv - 1)=K:=⟨_,rfl⟩
    have HR2:Hid (R=XY++cmpK V U K):=by rw [Hid,HR.out,cmpL,←HV.out,←HU.out,hK]
    have hK1:K≤mw∧K≤mv - 1∧(K < mw→mv - 1≤K):=by omega
    clear hK HR
    go_wp2_with fail
    go_loopg [9,12] K (fun gk vo iv wr=>∃ i:Nat,gk=K - i∧i≤K∧iv=.int .i64 i∧OwnP wr w.heap.size vo (XY++cmpK V U i)∧Hid ((XY++cmpK V U i).length≤2621400+i)∧Own wr 3 0 (.slice b10 mv c10) (ints V)∧Own wr 3 0 (.slice b13 mw c13) (ints U)∧Below w.heap.size w wr)
    case atStart=>exact ⟨0,rfl,Nat.zero_le _,rfl,by simpa [cmpK] using o7p,by (rw [Hid,List.length_append,cmpK_len];have:=HM7.out;omega),o10.mono (Nat.zero_le _),o13.mono (Nat.zero_le _),B13⟩
    case round =>
     clear o7p o10 o13 B13
     obtain ⟨i,hg,hi,rfl,ho,HLN,hV,hU,hB⟩:=hrel
     by_cases hlt:i < K
     · obtain ⟨pu,x,rfl,hcx,hx⟩:=hU.rd.int (k:=i) (by have:=HU.out;omega)
       obtain ⟨pv,y,rfl,hcy,hy⟩:=hV.rd.int (k:=i+1) (by have:=HV.out;omega)
       have HS:Hid (cmpK V U (i+1)=cmpK V U i++[[min x y,max x y]]):=cmpK_succ hx.out hy.out
       rw [add_succ] at hcy
       obtain ⟨rows,hov,hrp⟩:=ho
       obtain ⟨ao,co,rfl,_,_⟩:=hov.rd.form
       have hrl:rows.length≤2621500:=by have:=hrp.1;have:=HLN.out;omega
       have i1:i < mw:=by omega
       have i2:(i:Int)+1 < (mv:Int):=by omega
       have i3:IntKind.i64.wrap ((i:Int)+1)=(i:Int)+1:=IntWalk.i64_in _ (by omega)
       have i4:(0:Int)≤(i:Int)+1:=by omega
       have i5:((i:Int)+1).toNat=i+1:=by omega
       have hsz:=hB.size
       have HFIN:Hid (∀ (p q:Int) (b6:Option Addr) (c6:Nat) (w6:World),p=min x y→q=max x y→Own w6 23 w.heap.size (.slice b6 (rows.length+1) c6) (rows++[.slice (some ⟨wr.heap.size,0,none⟩) 2 2])→(wr.alloc (.cells #[.int .i64 p,.int .i64 q] 3)).grownBy w6 (Value.slice ao rows.length co).ownBlock →
        OwnP w6 w.heap.size (.slice b6 (rows.length+1) c6) (XY++cmpK V U (i+1))∧Hid ((XY++cmpK V U (i+1)).length≤2621400+(i+1))∧Own w6 3 0 (.slice (some pv) mv c10) (ints V)∧Own w6 3 0 (.slice (some pu) mw c13) (ints U)∧Below w.heap.size w w6∧w6.cell? (pu.add i)=some (.int .i64 x)∧w6.cell? ⟨pv.block,pv.off+(i+1),none⟩=some (.int .i64 y)):=fun p q b6 c6 w6 hp hq ho6 hg6=>by
        have hb1:Below wr.heap.size wr (wr.alloc (.cells #[.int .i64 p,.int .i64 q] 3)):=(Below.refl _ _).alloc (Nat.le_refl _) _
        have hov1:=hov.below hb1
        have hV1:=hV.below hb1
        have hU1:=hU.below hb1
        have hV6:=hV1.apart hg6 (fun k h1 h2=>hov1.elem_ne hV1 (by decide) k h2 h1)
        have hU6:=hU1.apart hg6 (fun k h1 h2=>hov1.elem_ne hU1 (by decide) k h2 h1)
        refine ⟨?_,?_,hV6,hU6,?_,hU6.rd.cell_i hx.out,by have:=hV6.rd.cell_i hy.out;rwa [add_succ] at this⟩
        · rw [HS.out,←List.append_assoc,←hp,←hq]
          exact OwnP.push (hrp.below hb1) hov1 (heap_alloc_new wr _) hg6 ho6 hsz
        · have:=HLN.out
          rw [Hid,List.length_append,cmpK_len]
          rw [List.length_append,cmpK_len] at this
          omega
        · exact (hB.trans (hb1.mono hsz)).grown hg6 (by simp;omega) (fun r hr=>(hov1.lt r hr).1)
       clear hrp hV hU hB HLN hx hy
       have hovA:=fun o=>hov.alloc o
       clear hov
       go_wp2_with fail
       go_region_held3 (fun wx=>wx.cell? (pu.add i)=some (.int .i64 x)∧wx.cell? ⟨pv.block,pv.off+(i+1),none⟩=some (.int .i64 y)) (first | exact ⟨k1,k2⟩ | go_keep)
        ((first
          | (refine step_app1 (by rfl) _ _ _ (by rfl) elII (by rfl) (hovA _) (by show Value.slice (some ⟨wr.heap.size+1,0,none⟩) 1 1=_;simp) (by rfl) (by simp;omega) (by omega) (by omega) ?_;intro b6 c6 w6 ho6 hg6 hat6;obtain ⟨f1,f2,f3,f4,f5,k1,k2⟩:=HFIN.out _ _ _ _ _ (min_if2 x y) (max_if2 x y) ho6 hg6)))
       all_goals go_wp2_with fail
       all_goals
        go_roundg (K - (i+1))
        case measure=>omega
        case rel=>exact ⟨i+1,rfl,hlt,by go_num,f1,f2,f3,f4,f5⟩
     · obtain rfl:i=K:=by omega
       have hlast:¬ i < mw∨(i < mw∧¬ (i:Int)+1 < (mv:Int)):=by omega
       rcases hlast with hl1 | ⟨hl1,hl2⟩
       all_goals
        go_wp2_with fail
        go_ret
        exact ⟨_,rfl,by rw [HR2.out];exact ho,hB⟩
theorem i_setStep (h:Nat) (hh:2≤h) (hh4:h≤4) (R:(Nat→Nat)→List Int) (hR:∀ x,(R x).length≤100)
 (IH:∀ (v:Value) (x:Nat→Nat) (w:World),Rd w v (ints (natA h x))→Ord h x→Calls Tryz.prog 93 #[v] w (RetOwn 3 (ints (R x)) w))
 (v:Value) (x:Nat→Nat) (w:World) (hr:Rd w v (ints (natA (2 * h) x))) (H:Ord (2 * h) x) :
 Calls Tryz.prog 93 #[v] w (RetOwn 3 (ints (natA h (finS h x).first++R (finS h x).up++R (finS h x).low++natA h (finS h x).last)) w):=by
 obtain ⟨a,c,rfl,hnc,hc⟩:=hr.formi
 rw [natA_len] at hr hnc ⊢
 obtain ⟨ad,rfl,_⟩:=hr.cell (k:=0) (by rw [ints_length,natA_len];omega)
 obtain ⟨RES,hRES⟩:∃ RES,natA h (finS h x).first++R (finS h x).up++R (finS h x).low++natA h (finS h x).last=RES:=⟨_,rfl⟩
 rw [hRES]
 have HRES:=Lib.hid hRES
 clear hRES
 have HI:=Lib.hid (i_inverse _ _ x w hr H (by omega))
 have d1:((((2 * h:Nat):Int)) == 1)=false:=by rw [beq_eq_false_iff_ne];omega
 have d2:((((2 * h:Nat):Int)) == 2)=false:=by rw [beq_eq_false_iff_ne];omega
 have d3:(((2 * h:Nat):Int)) / 2=(h:Int):=by omega
 obtain ⟨n,hn⟩:∃ n,2 * h=n:=⟨_,rfl⟩
 rw [hn] at hr d1 d2 d3 HI ⊢
 have HNN:=Lib.hid hn
 clear hn
 have hn8:n≤8:=by have:=HNN.out;omega
 go_enter Tryz.func93,Tryz.ntmps93
 go_upto_region 9 with (go_at_call 145;refine HI.out.mono ?_;rintro e w1 ⟨v1,rfl,ho1,hb1⟩;obtain ⟨a1,n1,c1,rfl,HN1,_,_⟩:=ho1.rd.formN)
 have h1n:n1=n:=by have:=HN1.out;rw [natA_len] at this;exact this
 subst h1n
 obtain ⟨ba,rfl⟩:=ho1.some_of (by rw [ints_length,natA_len];omega)
 have hO:OwnsL w1 3 w.heap.size [(.slice (some ba) n1 c1,natA n1 (invF n1 x))]:=by simpa using OwnsL.snoc (OwnsL.nil w 3 w.heap.size) hb1 (Nat.le_refl _) ho1
 have hsz:=hb1.size
 obtain ⟨Z,hZl,hmk⟩:=mk_ints h (by omega)
 have hZs:Z.size=h:=by have:=congrArg List.length hZl;simpa using this
 rw [natA_zero] at hZl
 have hh8:8 * h≤281474976710656:=by omega
 have hh9:h≤9223372036854775807:=by omega
 go_cut [6,7] (fun v6 v7 wx=>∃ b6 b7:Addr,v6=.slice (some b6) h h∧v7=.slice (some b7) h h∧OwnsL wx 3 w.heap.size [(.slice (some ba) n1 c1,natA n1 (invF n1 x)),(.slice (some b6) h h,natA h fun _=>0),(.slice (some b7) h h,natA h fun _=>0)]∧Below w.heap.size w wx)
 case first =>
  have hbD:Below w.heap.size w (((w1.alloc (.cells Z 3)).alloc (.cells Z 3)).drew):=((hb1.alloc hsz _).alloc (by simp;omega) _).drew
  have hOD:=OwnsL.mk2 hO hsz hZl hZs (by omega)
  go_region
  · go_wp2_with (fail)
    go_meet
    exact ⟨_,_,rfl,rfl,OwnsL.of_heap hOD rfl,hbD⟩
  · go_wp2_with (fail)
    go_meet
    exact ⟨_,_,rfl,rfl,OwnsL.of_heap hOD.swap12 rfl,hbD⟩
 case rest =>
 obtain ⟨b6,b7,rfl,rfl,hO2,hb2⟩:=hcut
 clear hO hb1 ho1
 have hsz2:=hb2.size
 go_upto_region 10 with (fail)
 go_cut [8,9] (fun v8 v9 wx=>∃ b8 b9:Addr,v8=.slice (some b8) h h∧v9=.slice (some b9) h h∧OwnsL wx 3 w.heap.size [(.slice (some ba) n1 c1,natA n1 (invF n1 x)),(.slice (some b6) h h,natA h fun _=>0),(.slice (some b7) h h,natA h fun _=>0),(.slice (some b8) h h,natA h fun _=>0),(.slice (some b9) h h,natA h fun _=>0)]∧Below w.heap.size w wx)
 case first =>
  have hbD:Below w.heap.size w (((wc.alloc (.cells Z 3)).alloc (.cells Z 3)).drew):=((hb2.alloc hsz2 _).alloc (by simp;omega) _).drew
  have hOD:=OwnsL.mk2 hO2 hsz2 hZl hZs (by omega)
  go_region
  · go_wp2_with (fail)
    go_meet
    exact ⟨_,_,rfl,rfl,OwnsL.of_heap hOD rfl,hbD⟩
  · go_wp2_with (fail)
    go_meet
    exact ⟨_,_,rfl,rfl,OwnsL.of_heap hOD.swap34 rfl,hbD⟩
 case rest =>
 obtain ⟨b8,b9,rfl,rfl,hO3,hb3⟩:=hcut
 clear hO2 hb2 hsz2 hsz
 have hsz3:=hb3.size
 go_wp2_with (at_make;refine wpList_mk (n:=h) (B:=w.heap.size) rfl _ _ 127 rfl elB rfl rfl hsz3 (by omega) (by omega) ?_;intro bs w4 hbs4 hos4 hgs4)
 rw [boolA_zero] at hos4
 have hb34:Below wc.heap.size wc w4:=(Below.refl _ _).grown hgs4 (Nat.le_refl _) (fun _ h=>by cases h)
 have HF0:FMs 3 4 w.heap.size ba b6 b7 b8 b9 bs n1 h c1 x (cycs h x 0) w w4:=⟨hO3.below hb34,hos4,hb3.trans (hb34.mono hsz3)⟩
 clear hO3 hos4 hb34 hb3 hbs4 hgs4 hsz3 hmk hZl hZs
 go_loopg [43] h (fun g jv wr=>∃ j:Nat,g=h - j∧j≤h∧jv=.int .i64 j∧FMs 3 4 w.heap.size ba b6 b7 b8 b9 bs n1 h c1 x (cycs h x j) w wr)
 case atStart=>exact ⟨0,rfl,Nat.zero_le _,rfl,HF0⟩
 case round =>
  clear HF0
  obtain ⟨j,hg,hj,rfl,HF⟩:=hrel
  by_cases hlt:j < h
  · have HCY:Hid (cyc (2 * h) x (cntU h (cycs h x j)) (2 * j+0) (cycs h x j)=cycs h x (j+1)):=rfl
    generalize cycs h x j=s0 at HF HCY
    obtain ⟨sE,hsE⟩:∃ sE,cycs h x (j+1)=sE:=⟨_,rfl⟩
    have HSE:=Lib.hid hsE
    rw [hsE] at HCY
    clear hsE
    go_wp2
    go_loopg [12,13] (cntU h s0) (fun g kv cv wr=>∃ (K C:Nat) (s:FS),g=cntU h s∧K < h∧C < 2∧kv=.int .i64 K∧cv=.int .i64 C∧Hid (cyc (2 * h) x (cntU h s) (2 * K+C) s=sE)∧FMs 3 4 w.heap.size ba b6 b7 b8 b9 bs n1 h c1 x s w wr)
    case atStart=>exact ⟨j,0,s0,rfl,hlt,by omega,rfl,rfl,HCY,HF⟩
    case round =>
     clear HF HCY
     obtain ⟨K,C,s,hgk,hK,hC,rfl,rfl,HCY,HF⟩:=hrel
     have hcS:=HF.set.rd.boolc (boolA_get s.set hK)
     have hfS:=HF.set.frozen rfl K
     cases hset:s.set K
     · rw [hset] at hcS
       obtain ⟨o,ho⟩:∃ o,2 * K+C=o:=⟨_,rfl⟩
       have hon:o < n1:=by have:=HNN.out;omega
       have hoK:o / 2=K:=by omega
       have hoC:o % 2=C:=by omega
       have hX8:x o < n1:=by have:=HNN.out;have:=H.lx o (by omega);omega
       have hXP:par (x o) < n1:=by have:=HNN.out;have:=par_lt (a:=x o) (h:=h) (by omega);omega
       have hPn:tt n1 x o < n1:=by have h1:=HNN.out;have h2:=H.tt_lt (o:=o) (by omega);rw [h1] at h2;exact h2
       have HCO:Hid (∀ W:World,Below w.heap.size w W→W.cell? (ad.add o)=some (.int .i64 ((x o:Nat):Int))):=fun W hW=>(hr.below hW).cell_int' (natA_get x hon)
       have hAt:=HF.own.o0.rd
       dsimp only at hAt
       have hxx:=xor_par (x o) (by omega)
       have HPUT:Hid (fput (2 * h) x s o=⟨upd s.set K true,upd s.last K C,upd s.first (x o / 2) (x o % 2),upd s.up K (x o / 2),upd s.low (tt n1 x o / 2) (x o / 2)⟩):=by
        rw [Hid,fput,hoK,hoC,ff,par_half,HNN.out]
       have HGO:Hid (cyc (2 * h) x (cntU h s) o s=cyc (2 * h) x (cntU h (fput (2 * h) x s o)) (par (tt n1 x o)) (fput (2 * h) x s o)):=by
        have:=cyc_go (n:=2 * h) (x:=x) (o:=o) (s:=s) (h:=h) (by omega) (by rw [hoK];exact hset)
        rw [ff,HNN.out] at this
        rw [Hid,HNN.out]
        exact this
       have HCN:Hid (cntU h (fput (2 * h) x s o)+1=cntU h s):=cnt_put (by omega) (by rw [hoK];exact hset)
       have hPc:(natA n1 (invF n1 x))[par (x o)]?=some ((tt n1 x o:Nat):Int):=natA_get _ hXP
       generalize tt n1 x o=P at hPn HPUT HGO hPc
       generalize hXe:x o=X at hX8 hXP HCO hxx HPUT hPc
       generalize hXPe:par X=XP at hXP hxx hPc
       generalize fput (2 * h) x s o=s' at HPUT HGO HCN
       have ho2:(2 * (K:Int)+(C:Int))=(o:Int):=by omega
       obtain ⟨X2,hX2⟩:∃ X2,X / 2=X2:=⟨_,rfl⟩
       obtain ⟨XM,hXM⟩:∃ XM,X % 2=XM:=⟨_,rfl⟩
       obtain ⟨P2,hP2⟩:∃ P2,P / 2=P2:=⟨_,rfl⟩
       obtain ⟨PC,hPC⟩:∃ PC,1 - P % 2=PC:=⟨_,rfl⟩
       rw [hX2,hXM,hP2] at HPUT
       have e1:(X:Int) / 2=(X2:Int):=by omega
       have e2:(X:Int) % 2=(XM:Int):=by omega
       have e3:(P:Int) / 2=(P2:Int):=by omega
       have e4:1 - (P:Int) % 2=(PC:Int):=by omega
       have hX2h:X2 < h:=by have:=HNN.out;omega
       have hP2h:P2 < h:=by have:=HNN.out;omega
       have hPC2:PC < 2:=by omega
       have HPP:Hid (par P=2 * P2+PC):=by rw [Hid,par];omega
       clear hset hXe hXPe hX2 hXM hP2 hPC
       have H1:=FM.stS HF (by decide) (show K < (boolA h s.set).length by rw [boolA_len];exact hK) true
       have H2:=FM.stL H1 (by decide) (show K < (natA h s.last).length by rw [natA_len];exact hK) (C:Int)
       have H3:=FM.stU H2 (by decide) (show K < (natA h s.up).length by rw [natA_len];exact hK) (X2:Int)
       have H4:=FM.stF H3 (by decide) (show X2 < (natA h s.first).length by rw [natA_len];exact hX2h) (XM:Int)
       have H5:=FM.stW H4 (by decide) (show P2 < (natA h s.low).length by rw [natA_len];exact hP2h) (X2:Int)
       have cL:=H1.own.o2.rd.cell_int' (natA_get s.last hK)
       have fL:=H1.own.o2.frozen rfl K
       have cO:=HCO.out _ H2.bel
       have cU:=H2.own.o3.rd.cell_int' (natA_get s.up hK)
       have fU:=H2.own.o3.frozen rfl K
       have cF:=H3.own.o1.rd.cell_int' (natA_get s.first hX2h)
       have fF:=H3.own.o1.frozen rfl X2
       have cA:=H4.own.o0.rd.cell_int' hPc
       have cW:=H4.own.o4.rd.cell_int' (natA_get s.low hP2h)
       have fW:=H4.own.o4.frozen rfl P2
       have HH5:Hid (FMs 3 4 w.heap.size ba b6 b7 b8 b9 bs n1 h c1 x s' w (((((wr.setCell (bs.add K) (.bool true)).setCell (b7.add K) (.int .i64 (C:Int))).setCell (b8.add K) (.int .i64 (X2:Int))).setCell (b6.add X2) (.int .i64 (XM:Int))).setCell (b9.add P2) (.int .i64 (X2:Int)))):=by
        have:=H5
        rw [natA_set,natA_set,natA_set,natA_set,boolA_set] at this
        rw [Hid,HPUT.out]
        exact this
       clear H1 H2 H3 H4 H5 HPUT
       have HCY2:Hid (cyc (2 * h) x (cntU h s') (2 * P2+PC) s'=sE):=by rw [Hid,←HPP.out,←HGO.out,←ho,HCY.out]
       have hcn:cntU h s' < cntU h s:=by have:=HCN.out;omega
       go_wp2
       go_roundg (cntU h s')
       case measure=>omega
       case rel=>exact ⟨P2,PC,s',rfl,hP2h,hPC2,rfl,rfl,HCY2,HH5.out⟩
     · rw [hset] at hcS
       have HE:Hid (s=sE):=by rw [Hid,←HCY.out,cyc_stop _ (by rw [show (2 * K+C) / 2=K by omega];exact hset)]
       clear hset
       go_wp2
       go_roundg (h - (j+1))
       case measure=>omega
       case rel=>exact ⟨j+1,rfl,by omega,by go_num,by rw [HSE.out,←HE.out];exact HF⟩
  · obtain rfl:j=h:=Nat.le_antisymm hj (Nat.le_of_not_lt hlt)
    have HFD:=Lib.hid (fin_up H (cycs_FD H j (Nat.le_refl _)).1 (cycs_FD H j (Nat.le_refl _)).2)
    have HZ:Hid (finS j x=cycs j x j):=rfl
    rw [HZ.out] at HRES
    generalize cycs j x j=z at HF HFD HRES
    clear HZ
    have hru:=HF.own.o3.rd
    have hrw:=HF.own.o4.rd
    have hrf:=HF.own.o1.rd
    have hrl:=HF.own.o2.rd
    dsimp only at hru hrw hrf hrl
    have hbw:=HF.bel
    have HU:=Lib.hid (fun (W:World) (hW:Below wr.heap.size wr W)=>IH _ z.up W ((hru.keep fun p hp _=>hW.cell hp)) HFD.out.1)
    have HW:=Lib.hid (fun (W:World) (hW:Below wr.heap.size wr W)=>IH _ z.low W ((hrw.keep fun p hp _=>hW.cell hp)) HFD.out.2)
    have hUl:=hR z.up
    have hWl:=hR z.low
    have HFL:Hid ([natA j z.first,R z.up,R z.low,natA j z.last].flatten=RES):=by rw [Hid,←HRES.out];simp
    have HTT:Hid (tot [natA j z.first,R z.up,R z.low,natA j z.last]≤1000000):=by simp [Hid,tot,natA_len];omega
    clear HF IH HFD hR H HRES
    generalize R z.up=RU at *
    generalize R z.low=RL at *
    go_wp2_with (first
     | (go_at_call 93;(with_reducible refine (HU.out _ (Below.refl _ _)).mono ?_);rintro e w5 ⟨v5,rfl,ho5,hb5⟩;obtain ⟨a5,m5,c5,rfl,_,_,_⟩:=ho5.rd.formN)
     | (go_at_call 93;(with_reducible refine (HW.out _ hb5).mono ?_);rintro e w6 ⟨v6,rfl,ho6,hb6⟩;obtain ⟨a6,m6,c6,rfl,_,_,_⟩:=ho6.rd.formN;have hb56:=hb5.trans (hb6.mono hb5.size);have hA:=(Below.refl w6.heap.size w6).alloc (Nat.le_refl _) (.cells #[.slice (some b6) j j,.slice a5 m5 c5,.slice a6 m6 c6,.slice (some b7) j j] 23)))
    refine (f_Concat _ _ _ (Rd2.of4 (heap_alloc_new w6 _) ((hrf.below hb56).below hA) ((ho5.rd.below hb6).below hA) (ho6.rd.below hA) ((hrl.below hb56).below hA)) HTT.out).mono ?_
    rintro e w8 ⟨v8,rfl,ho8,hb8⟩
    go_wp2_with fail
    have hb58:=hb56.trans ((hA.mono hb56.size).trans (hb8.mono (by have:=hb56.size;simp;omega)))
    go_ret
    exact ⟨_,rfl,by rw [←HFL.out];exact ho8.mono (by have:=hbw.size;have:=hb56.size;simp;omega),hbw.trans (hb58.mono hbw.size)⟩
theorem i_setTwo (v:Value) (x:Nat→Nat) (w:World) (hr:Rd w v (ints (natA 2 x))):Calls Tryz.prog 93 #[v] w (RetOwn 3 (ints [((x 0:Nat):Int)]) w):=by
 obtain ⟨a,c,rfl,hnc,hc⟩:=hr.formi
 rw [natA_len] at hr hnc ⊢
 obtain ⟨ad,rfl,_⟩:=hr.cell (k:=0) (by rw [ints_length,natA_len];omega)
 have hx:=hr.cell_int' (natA_get x (show 0 < 2 by omega))
 have hx':w.cell? ad=some (.int .i64 ((x 0:Nat):Int)):=by simpa [Addr.add] using hx
 generalize x 0=X at hx hx' ⊢
 go_enter Tryz.func93,Tryz.ntmps93
 go_wp2
 go_ret
 exact ⟨_,rfl,Own.lit w 3 w.heap.size #[.int .i64 (X:Int)] (Nat.le_refl _) (by simp),(Below.refl _ _).alloc (Nat.le_refl _) _⟩
theorem setL_len:∀ (d:Nat) (x:Nat→Nat),d≤2→(setL d x).length≤20
 | 0,x,_=>by simp [setL]
 | 1,x,_=>by simp [setL,atL_length]
 | 2,x,_=>by simp [setL,atL_length]
 | d+3,x,h=>by omega
theorem i_settingsFor:∀ (d:Nat),d≤2→∀ (v:Value) (x:Nat→Nat) (w:World),Rd w v (ints (natA (2 ^ (d+1)) x))→Ord (2 ^ (d+1)) x→Calls Tryz.prog 93 #[v] w (RetOwn 3 (ints (setL d x)) w)
 | 0,_,v,x,w,hr,_=>i_setTwo v x w hr
 | d+1,hd,v,x,w,hr,H=>by
   have e:2 ^ (d+1+1)=2 * 2 ^ (d+1):=by rw [Nat.pow_succ];omega
   rw [e] at hr H
   have h2:2≤2 ^ (d+1)∧2 ^ (d+1)≤4:=by
    match d,hd with
    | 0,_=>decide
    | 1,_=>decide
    | d+2,h=>omega
   exact i_setStep (2 ^ (d+1)) h2.1 h2.2 (setL d) (fun x=>by have:=setL_len d x (by omega);omega) (fun v x w h1 h2=>i_settingsFor d (by omega) v x w h1 h2) v x w hr H
structure FG (E EB B:Nat) (ba bf bl bs:Addr) (n h ca:Nat) (A F L:List Int) (S:List Bool) (w0 w:World):Prop where
 own:OwnsL w E B [(.slice (some ba) n ca,A),(.slice (some bf) h h,F),(.slice (some bl) h h,L)]
 set:Own w EB B (.slice (some bs) h h) (bools S)
 bel:Below B w0 w
section
variable {E EB B n h ca k:Nat} {ba bf bl bs:Addr} {A F L:List Int} {S:List Bool} {w0 w:World}
theorem FG.stS (H:FG E EB B ba bf bl bs n h ca A F L S w0 w) (hne:E≠EB) (hk:k < S.length) (b:Bool):FG E EB B ba bf bl bs n h ca A F L (S.set k b) w0 (w.setCell (bs.add k) (.bool b)):=by
 have hs:=H.set.set rfl (show k < (bools S).length by rw [bools_len];exact hk) (.bool b)
 rw [bools_set] at hs
 refine ⟨H.own.setB H.set hne k _,hs.1,H.bel.setCell ?_ _⟩
 rw [block_of_add]
 exact (H.set.lt _ rfl).1
theorem FG.stF (H:FG E EB B ba bf bl bs n h ca A F L S w0 w) (hne:E≠EB) (hk:k < F.length) (y:Int):FG E EB B ba bf bl bs n h ca A (F.set k y) L S w0 (w.setCell (bf.add k) (.int .i64 y)):=by
 refine ⟨H.own.st1 hk y,H.set.setCell (fun e=>H.set.elem_ne H.own.o1 hne.symm _ e (by rw [block_of_add];rfl)) _,H.bel.setCell ?_ _⟩
 rw [block_of_add]
 exact (H.own.o1.lt _ rfl).1
theorem FG.stL (H:FG E EB B ba bf bl bs n h ca A F L S w0 w) (hne:E≠EB) (hk:k < L.length) (y:Int):FG E EB B ba bf bl bs n h ca A F (L.set k y) S w0 (w.setCell (bl.add k) (.int .i64 y)):=by
 refine ⟨H.own.st2 hk y,H.set.setCell (fun e=>H.set.elem_ne H.own.o2 hne.symm _ e (by rw [block_of_add];rfl)) _,H.bel.setCell ?_ _⟩
 rw [block_of_add]
 exact (H.own.o2.lt _ rfl).1
end
def stgK (n:Nat):Nat:=if n=2 then 1 else if n=4 then 2 else if n=8 then 3 else 0
theorem stgK_ok {n:Nat} (h:0 < stgK n):Stg n (stgK n):=by
 unfold stgK at *
 unfold Stg
 split at h
 · simp_all
 · split at h
   · simp_all
   · split at h
     · simp_all
     · omega
def stgI (n:Nat):Int:=if stgK n=0 then -1 else (stgK n:Int)
def stagedB (xs:List Int):Bool:=decide (0 < stgK xs.length) && ordB xs.length xs
def passB (n k:Nat) (x:Nat→Nat):Bool:=(List.range n).all fun i=>(List.range i).all fun j=>!meetB n k (x i) i (x j) j
theorem passB_no {n k i j:Nat} {x:Nat→Nat} (hi:i < n) (hj:j < i) (h:meetB n k (x i) i (x j) j=true):passB n k x=false:=by
 cases e:passB n k x
 · rfl
 · rw [passB,List.all_eq_true] at e
   have h1:=e i (List.mem_range.2 hi)
   rw [List.all_eq_true] at h1
   have h2:=h1 j (List.mem_range.2 hj)
   rw [h] at h2
   cases h2
theorem passB_yes {n k:Nat} {x:Nat→Nat} (h:∀ i,i < n→∀ j,j < i→meetB n k (x i) i (x j) j=false):passB n k x=true:=by
 rw [passB,List.all_eq_true]
 intro i hi
 rw [List.all_eq_true]
 intro j hj
 rw [h i (List.mem_range.1 hi) j (List.mem_range.1 hj)]
 rfl
def frB (n k:Nat) (x:Nat→Nat) (i:Nat) (r:List Int):Bool:=!r.any fun q=>meetB n k (x i) i (x q.toNat) q.toNat
def rStep (p:List Int→Bool) (i:Nat) (R:List (List Int)):List (List Int) :=
 if idxOf2 p R < 0 then R++[[(i:Int)]] else R.set (idxOf2 p R).toNat (R.getD (idxOf2 p R).toNat []++[(i:Int)])
def rK (n k:Nat) (x:Nat→Nat):Nat→List (List Int)
 | 0=>[]
 | i+1=>rStep (frB n k x i) i (rK n k x i)
theorem idxOf2_cases (p:List Int→Bool) (R:List (List Int)):(idxOf2 p R = -1∧∀ r∈R,p r=false)∨∃ (j:Nat) (xs:List Int),idxOf2 p R=(j:Int)∧R[j]?=some xs∧p xs=true∧∀ (q:Nat) y,q < j→R[q]?=some y→p y=false:=by
 unfold idxOf2
 cases h:R.any p
 · left
   refine ⟨rfl,fun r hr=>?_⟩
   cases hp:p r
   · rfl
   · have : R.any p=true:=List.any_eq_true.2 ⟨r,hr,hp⟩
     rw [h] at this;cases this
 · right
   obtain ⟨r,hr,hp⟩:=List.any_eq_true.1 h
   have hl:R.findIdx p < R.length:=List.findIdx_lt_length_of_exists ⟨r,hr,hp⟩
   refine ⟨R.findIdx p,R[R.findIdx p],rfl,List.getElem?_eq_getElem hl,List.findIdx_getElem (w:=hl),fun q y hq hy=>?_⟩
   have h2:=List.not_of_lt_findIdx hq
   obtain ⟨hq2,e⟩:=List.getElem?_eq_some_iff.1 hy
   rw [←e]
   simpa using h2
theorem rStep_new {p:List Int→Bool} {i:Nat} {R:List (List Int)} (h:idxOf2 p R = -1):rStep p i R=R++[[(i:Int)]]:=by rw [rStep,h,if_pos (by omega)]
theorem rStep_in {p:List Int→Bool} {i j:Nat} {R:List (List Int)} {xs:List Int} (h:idxOf2 p R=(j:Int)) (hx:R[j]?=some xs):rStep p i R=R.set j (xs++[(i:Int)]):=by
 rw [rStep,h,if_neg (by omega),Int.toNat_natCast,List.getD_eq_getElem?_getD,hx]
 rfl
theorem rK_inv (n k:Nat) (x:Nat→Nat):∀ i,(rK n k x i).length≤i∧∀ r∈rK n k x i,r.length≤i∧∀ q∈r,∃ j:Nat,q=j∧j < i
 | 0=>⟨Nat.le_refl _,fun r hr=>(by cases hr)⟩
 | i+1=>by
   obtain ⟨h1,h2⟩:=rK_inv n k x i
   rw [rK]
   rcases idxOf2_cases (frB n k x i) (rK n k x i) with ⟨e,_⟩ | ⟨j,xs,e,hx,_,_⟩
   · rw [rStep_new e]
     refine ⟨by simp;omega,fun r hr=>?_⟩
     rcases List.mem_append.1 hr with hr | hr
     · obtain ⟨a,b⟩:=h2 r hr
       exact ⟨by omega,fun q hq=>by obtain ⟨j,e,h⟩:=b q hq;exact ⟨j,e,by omega⟩⟩
     · rw [List.mem_singleton] at hr
       subst hr
       exact ⟨by simp,fun q hq=>by rw [List.mem_singleton] at hq;exact ⟨i,hq,by omega⟩⟩
   · rw [rStep_in e hx]
     refine ⟨by simp;omega,fun r hr=>?_⟩
     rcases List.mem_or_eq_of_mem_set hr with hr | hr
     · obtain ⟨a,b⟩:=h2 r hr
       exact ⟨by omega,fun q hq=>by obtain ⟨j,e,h⟩:=b q hq;exact ⟨j,e,by omega⟩⟩
     · subst hr
       obtain ⟨a,b⟩:=h2 xs (List.mem_of_getElem? hx)
       refine ⟨by simp;omega,fun q hq=>?_⟩
       rcases List.mem_append.1 hq with hq | hq
       · obtain ⟨j,e,h⟩:=b q hq;exact ⟨j,e,by omega⟩
       · rw [List.mem_singleton] at hq;exact ⟨i,hq,by omega⟩
theorem i_stages (n:Nat) (w:World):Calls Tryz.prog 144 #[.int .i64 (n:Int)] w fun e w'=>e=.returned (.int .i64 (stgI n))∧w=w':=by
 by_cases h2:n=2
 · subst h2
   go_enter Tryz.func144,Tryz.ntmps144
   go_wp2
   go_ret
   exact ⟨rfl,rfl⟩
 · by_cases h4:n=4
   · subst h4
     go_enter Tryz.func144,Tryz.ntmps144
     go_wp2
     go_ret
     exact ⟨rfl,rfl⟩
   · by_cases h8:n=8
     · subst h8
       go_enter Tryz.func144,Tryz.ntmps144
       go_wp2
       go_ret
       exact ⟨rfl,rfl⟩
     · have HR:Hid (stgI n = -1):=by simp [Hid,stgI,stgK,h2,h4,h8]
       have d2:((n:Int) == 2)=false:=by rw [beq_eq_false_iff_ne];omega
       have d4:((n:Int) == 4)=false:=by rw [beq_eq_false_iff_ne];omega
       have d8:((n:Int) == 8)=false:=by rw [beq_eq_false_iff_ne];omega
       clear h2 h4 h8
       go_enter Tryz.func144,Tryz.ntmps144
       go_wp2
       go_ret
       exact ⟨ret_int HR.out.symm,rfl⟩
theorem i_isStaged (v:Value) (xs:List Int) (w:World) (h:Rd w v (ints xs)):Calls Tryz.prog 92 #[v] w (RetB (.bool (stagedB xs)) w):=by
 obtain ⟨a,n,c,rfl,HN,hnc,hc⟩:=h.formN
 have HS:=Lib.hid (fun W=>i_stages n W)
 by_cases h0:0 < stgK n
 · have hk3:=stgK_ok h0
   have hn8:n≤8∧stgK n≤3:=by rcases hk3 with ⟨e,e2⟩ | ⟨e,e2⟩ | ⟨e,e2⟩ <;> omega
   have HK:=i_isOrder _ xs w h (by have:=HN.out;omega)
   rw [←HN.out] at HK
   have HR:Hid (stagedB xs=ordB n xs):=by rw [Hid,stagedB,←HN.out];simp [h0]
   have HK2:=Lib.hid HK
   rw [stgI,if_neg (by omega)] at HS
   clear HK hk3
   generalize stgK n=k at h0 hn8 HS
   have i1:(k:Int) > 0:=by omega
   go_enter Tryz.func92,Tryz.ntmps92
   go_wp2_with (first
    | (go_at_call 144;refine (HS.out _).mono ?_;rintro e w' ⟨rfl,rfl⟩)
    | (go_at_call 136;refine HK2.out.mono ?_;rintro e w' ⟨rfl,hb⟩))
   go_ret
   exact ⟨by rw [HR.out];rfl,hb⟩
 · have HR:Hid (stagedB xs=false):=by rw [Hid,stagedB,←HN.out];simp [h0]
   rw [stgI,if_pos (by omega)] at HS
   clear h0
   go_enter Tryz.func92,Tryz.ntmps92
   go_wp2_with (go_at_call 144;refine (HS.out _).mono ?_;rintro e w' ⟨rfl,rfl⟩)
   go_ret
   exact ⟨ret_bool HR.out.symm,Below.refl _ _⟩
theorem i_canPass (v:Value) (n k:Nat) (x:Nat→Nat) (w:World) (hs:Stg n k) (H:Ord n x) (h:Rd w v (ints (natA n x))):Calls Tryz.prog 94 #[v] w (RetB (.bool (passB n k x)) w):=by
 obtain ⟨a,c,rfl,hnc,hc⟩:=h.formi
 rw [natA_len] at h hnc ⊢
 have hn8:2≤n∧n≤8:=by rcases hs with ⟨rfl,_⟩ | ⟨rfl,_⟩ | ⟨rfl,_⟩ <;> omega
 obtain ⟨ad,rfl,_⟩:=h.cell (k:=0) (by rw [ints_length,natA_len];omega)
 have HM:=Lib.hid (fun (i j:Nat) (hi:i < n) (hj:j < n) W=>i_meet n k (x i) i (x j) j W hs (H.lx i hi) hi (H.lx j hj) hj)
 have HC:=Lib.hid (fun (W:World) (hW:Below w.heap.size w W) (i:Nat) (hi:i < n)=>(h.below hW).cell_int' (natA_get x hi))
 have HY:Hid ((∀ i,i < n→∀ j,j < i→meetB n k (x i) i (x j) j=false)→passB n k x=true):=passB_yes
 have HN:Hid (∀ i j,i < n→j < i→meetB n k (x i) i (x j) j=true→passB n k x=false):=fun i j=>passB_no
 generalize passB n k x=r at HY HN ⊢
 go_enter Tryz.func94,Tryz.ntmps94
 go_wp2
 go_loopg [8] n (fun g iv wr=>∃ i:Nat,g=n - i∧i≤n∧iv=.int .i64 i∧Hid (∀ i',i' < i→∀ j,j < i'→meetB n k (x i') i' (x j) j=false)∧Below w.heap.size w wr)
 case atStart=>exact ⟨0,rfl,Nat.zero_le _,rfl,fun i h=>by omega,Below.refl _ _⟩
 case round =>
  obtain ⟨i,hg,hi,rfl,HI,hb⟩:=hrel
  by_cases hlt:i < n
  · have c1:=HC.out wr hb i hlt
    have HXI:Hid (x i=x i):=rfl
    go_wp2
    clear c1
    go_loopg [14] i (fun g jv wr=>∃ j:Nat,g=i - j∧j≤i∧jv=.int .i64 j∧Hid (∀ j',j' < j→meetB n k (x i) i (x j') j'=false)∧Below w.heap.size w wr)
    case atStart=>exact ⟨0,rfl,Nat.zero_le _,rfl,fun i h=>by omega,hb⟩
    case round =>
     clear hb
     obtain ⟨j,hgj,hj,rfl,HJ,hb⟩:=hrel
     by_cases hltj:j < i
     · have c2:=HC.out wr hb j (by omega)
       have hcall:=Lib.hid (HM.out i j hlt (by omega))
       cases hm:meetB n k (x i) i (x j) j
       · rw [hm] at hcall
         have HJ2:Hid (∀ j',j' < j+1→meetB n k (x i) i (x j') j'=false):=fun j' hj'=>by
          by_cases e:j'=j
          · subst e;exact hm
          · exact HJ.out j' (by omega)
         clear hm
         go_wp2_with (go_at_call 146;refine (hcall.out _).mono ?_;rintro e w2 ⟨rfl,hb2⟩)
         go_roundg (i - (j+1))
         case measure=>omega
         case rel=>exact ⟨j+1,rfl,by omega,by go_num,HJ2,hb.trans (hb2.mono hb.size)⟩
       · rw [hm] at hcall
         have HE:=Lib.hid (HN.out i j hlt hltj hm)
         clear hm
         go_wp2_with (go_at_call 146;refine (hcall.out _).mono ?_;rintro e w2 ⟨rfl,hb2⟩)
         go_ret
         exact ⟨ret_bool HE.out.symm,hb.trans (hb2.mono hb.size)⟩
     · obtain rfl:j=i:=Nat.le_antisymm hj (Nat.le_of_not_lt hltj)
       have HI2:Hid (∀ i',i' < j+1→∀ q,q < i'→meetB n k (x i') i' (x q) q=false):=fun i' hi'=>by
        by_cases e:i'=j
        · subst e;exact HJ.out
        · exact HI.out i' (by omega)
       go_wp2
       go_roundg (n - (j+1))
       case measure=>omega
       case rel=>exact ⟨j+1,rfl,by omega,by go_num,HI2,hb⟩
  · obtain rfl:i=n:=Nat.le_antisymm hi (Nat.le_of_not_lt hlt)
    have HE:=Lib.hid (HY.out HI.out)
    go_wp2
    go_ret
    exact ⟨ret_bool HE.out.symm,hb⟩
theorem k_RN11:Known 149:=known Tryz.func149 (by kernel_rfl) (by kernel_rfl)
theorem k_RN1:Known 148:=known Tryz.func148 (by kernel_rfl) (by kernel_rfl)
theorem i_RN11 (n k i q:Nat) (x:Nat→Nat) (ad:Addr) (c b1 b2 b3:Nat) (w:World) (hs:Stg n k) (H:Ord n x) (hi:i < n) (hq:q < n) (c1:w.cell? ⟨b1,0,none⟩=some (.slice (some ad) n c)) (c2:w.cell? ⟨b2,0,none⟩=some (.int .i64 ((x i:Nat):Int))) (c3:w.cell? ⟨b3,0,none⟩=some (.int .i64 (i:Int))) (cq:w.cell? (ad.add q)=some (.int .i64 ((x q:Nat):Int))) :
 Calls Tryz.prog 149 #[.int .i64 (q:Int),.pointer (some ⟨b1,0,none⟩),.pointer (some ⟨b2,0,none⟩),.pointer (some ⟨b3,0,none⟩)] w (RetB (.bool (meetB n k (x i) i (x q) q)) w):=by
 have KM:Hid (∀ W:World,Below w.heap.size w W→Calls Tryz.prog 146 #[.int .i64 (n:Int),.int .i64 ((x i:Nat):Int),.int .i64 (i:Int),.int .i64 ((x q:Nat):Int),.int .i64 (q:Int)] W fun e w'=>e=.returned (.bool (meetB n k (x i) i (x q) q))∧Below w.heap.size w w'):=fun W hW=>(i_meet n k (x i) i (x q) q W hs (H.lx i hi) hi (H.lx q hq) hq).mono fun e w' h=>⟨h.1,hW.trans (h.2.mono hW.size)⟩
 have hn8:n≤8:=by rcases hs with ⟨rfl,_⟩ | ⟨rfl,_⟩ | ⟨rfl,_⟩ <;> omega
 generalize meetB n k (x i) i (x q) q=m at KM ⊢
 generalize x i=xi at KM c2
 generalize x q=xq at KM cq
 have HT:Hid (∀ wx:World,Below w.heap.size w wx→Below w.heap.size w wx∧wx.cell? ⟨b1,0,none⟩=some (.slice (some ad) n c)∧wx.cell? ⟨b2,0,none⟩=some (.int .i64 (xi:Int))∧wx.cell? ⟨b3,0,none⟩=some (.int .i64 (i:Int))∧wx.cell? (ad.add q)=some (.int .i64 (xq:Int))):=fun wx hb =>
  ⟨hb,(hb.cell (World.block_lt_of_cell? _ _ c1)).trans c1,(hb.cell (World.block_lt_of_cell? _ _ c2)).trans c2,(hb.cell (World.block_lt_of_cell? _ _ c3)).trans c3,(hb.cell (World.block_lt_of_cell? _ _ cq)).trans cq⟩
 go_enter Tryz.func149,Tryz.ntmps149
 go_wp2_with fail
 go_region_held3 (fun wx=>Below w.heap.size w wx∧wx.cell? ⟨b1,0,none⟩=some (.slice (some ad) n c)∧wx.cell? ⟨b2,0,none⟩=some (.int .i64 (xi:Int))∧wx.cell? ⟨b3,0,none⟩=some (.int .i64 (i:Int))∧wx.cell? (ad.add q)=some (.int .i64 (xq:Int)))
  (first | exact HT.out _ gM | exact HT.out _ (by exact ⟨rfl,rfl,rfl,Nat.le_refl _,fun _ _=>rfl⟩) | go_keep)
  ((go_at_call 146;refine (KM.out _ (by exact (show _∧_∧_ from by assumption).1)).mono ?_;rintro e wM ⟨rfl,gM⟩))
 all_goals
  go_wp2_with fail
  go_ret
  exact ⟨rfl,gM⟩
theorem i_RN1 (n k i:Nat) (x:Nat→Nat) (ad:Addr) (c b1 b2 b3:Nat) (vr:Value) (r:List Int) (w:World) (hs:Stg n k) (H:Ord n x) (hi:i < n) (c1:w.cell? ⟨b1,0,none⟩=some (.slice (some ad) n c)) (c2:w.cell? ⟨b2,0,none⟩=some (.int .i64 ((x i:Nat):Int))) (c3:w.cell? ⟨b3,0,none⟩=some (.int .i64 (i:Int))) (ho:Rd w (.slice (some ad) n c) (ints (natA n x)))
 (hr:Rd w vr (ints r)) (hq:∀ q∈r,∃ j:Nat,q=j∧j < n) :
 Calls Tryz.prog 148 #[vr,.pointer (some ⟨b1,0,none⟩),.pointer (some ⟨b2,0,none⟩),.pointer (some ⟨b3,0,none⟩)] w (RetB (.bool (frB n k x i r)) w):=by
 have HC:=f_ContainsFuncB (fun q=>meetB n k (x i) i (x q.toNat) q.toNat) 149 #[.pointer (some ⟨b1,0,none⟩),.pointer (some ⟨b2,0,none⟩),.pointer (some ⟨b3,0,none⟩)] k_RN11 vr r w hr fun wr y hw hy=>by
  obtain ⟨j,rfl,hj⟩:=hq y hy
  have c:=(ho.below hw).cell_int' (natA_get x hj)
  exact i_RN11 n k i j x ad _ b1 b2 b3 wr hs H hi hj ((hw.cell (World.block_lt_of_cell? _ _ c1)).trans c1) ((hw.cell (World.block_lt_of_cell? _ _ c2)).trans c2) ((hw.cell (World.block_lt_of_cell? _ _ c3)).trans c3) c
 have HR:Hid (frB n k x i r = !(r.any fun q=>meetB n k (x i) i (x q.toNat) q.toNat)):=rfl
 generalize (r.any fun q=>meetB n k (x i) i (x q.toNat) q.toNat)=m at HC HR
 have HCC:=Lib.hid HC
 obtain ⟨ar,nr,cr,rfl,_,_,_⟩:=hr.formN
 clear HC
 go_enter Tryz.func148,Tryz.ntmps148
 go_wp2_with (go_at_call 119;refine HCC.out.mono ?_;rintro e w2 ⟨rfl,hb2⟩)
 go_ret
 exact ⟨ret_bool HR.out.symm,hb2⟩
theorem i_RoundsNeeded (v:Value) (n k:Nat) (x:Nat→Nat) (w:World) (hs:Stg n k) (H:Ord n x) (hst:stagedB (natA n x)=true) (h:Rd w v (ints (natA n x))):Calls Tryz.prog 95 #[v] w (RetB (.int .i64 ((rK n k x n).length:Nat)) w):=by
 obtain ⟨a,c,rfl,hnc,hc⟩:=h.formi
 rw [natA_len] at h hnc ⊢
 have hn8:2≤n∧n≤8:=by rcases hs with ⟨rfl,_⟩ | ⟨rfl,_⟩ | ⟨rfl,_⟩ <;> omega
 obtain ⟨ad,rfl,_⟩:=h.cell (k:=0) (by rw [ints_length,natA_len];omega)
 have HX:=Lib.hid (fun (W:World) (hW:Below w.heap.size w W)=>h.below hW)
 have HC:=Lib.hid (fun (W:World) (hW:Below w.heap.size w W) (i:Nat) (hi:i < n)=>(h.below hW).cell_int' (natA_get x hi))
 obtain ⟨w0,hw0⟩:∃ w0,w.alloc (.cells #[.slice (some ad) n c] 23)=w0:=⟨_,rfl⟩
 have hb0:Below w.heap.size w w0:=by rw [←hw0];exact (Below.refl _ _).alloc (Nat.le_refl _) _
 have hz0:w0.heap.size=w.heap.size+1:=by rw [←hw0];simp
 have c0:w0.cell? ⟨w.heap.size,0,none⟩=some (.slice (some ad) n c):=by rw [←hw0];exact (cell_of_row _ _ 0 _ _ (0,0) (heap_alloc_new w _)).trans rfl
 have C0:=Lib.hid c0
 have HIS:=Lib.hid (hst ▸ i_isStaged _ _ w0 (h.below hb0))
 have HR:Hid (rK n k x n=rK n k x n):=rfl
 have HRI:=Lib.hid (fun i=>rK_inv n k x i)
 have HRS:Hid (∀ i,rK n k x (i+1)=rStep (frB n k x i) i (rK n k x i)):=fun i=>rfl
 have HCL:=Lib.hid (fun (i:Nat) (hi:i < n) (b2 b3:Nat) (vr:Value) (r:List Int) (W:World) (hW:Below w.heap.size w W) (c1:W.cell? ⟨w.heap.size,0,none⟩=some (.slice (some ad) n c)) (c2:W.cell? ⟨b2,0,none⟩=some (.int .i64 ((x i:Nat):Int))) (c3:W.cell? ⟨b3,0,none⟩=some (.int .i64 (i:Int))) (hr:Rd W vr (ints r)) (hq:∀ q∈r,∃ j:Nat,q=j∧j < n)=>i_RN1 n k i x ad c w.heap.size b2 b3 vr r W hs H hi c1 c2 c3 (h.below hW) hr hq)
 go_enter Tryz.func95,Tryz.ntmps95
 go_wp2_with (fail)
 refine HIS.out.mono ?_
 rintro e w1 ⟨rfl,hb1⟩
 have hs1:=hb1.size
 have hO1:Own2 (w1.alloc (.cells #[] 23)) 23 3 (w.heap.size+1) (w1.alloc (.cells #[] 23)).heap.size (.slice (some ⟨w1.heap.size,0,none⟩) 0 0) []:=by
  refine ⟨[],by simpa [ints] using Own.lit0 w1 23 (B:=w.heap.size+1) (by omega),fun g hg=>?_,RowsOwn.nil _ _ _ _⟩
  simp [Value.ownBlock] at hg
  simp
  omega
 have hB1:Below (w.heap.size+1) w0 (w1.alloc (.cells #[] 23)):=(hb1.mono (by omega)).alloc (by omega) _
 have c1:=(hb1.cell (show w.heap.size < w0.heap.size by omega)).trans C0.out
 have c1a:=(((Below.refl w1.heap.size w1).alloc (Nat.le_refl _) (.cells #[] 23)).cell (show w.heap.size < w1.heap.size by omega)).trans c1
 go_wp2_with (fail)
 clear c1 c1a c0
 go_loopg [3,13] n (fun g vo iv wr=>∃ i:Nat,g=n - i∧i≤n∧iv=.int .i64 i∧Own2 wr 23 3 (w.heap.size+1) wr.heap.size vo (rK n k x i)∧Below (w.heap.size+1) w0 wr)
 case atStart=>exact ⟨0,rfl,Nat.zero_le _,rfl,hO1,hB1⟩
 case round =>
  clear hO1 hB1 hb1 hs1
  obtain ⟨i,hg,hi,rfl,ho,hb⟩:=hrel
  obtain ⟨R,hRe⟩:∃ R,rK n k x i=R:=⟨_,rfl⟩
  have HI:=Lib.hid (HRI.out i)
  have HS1:=Lib.hid (HRS.out i)
  rw [hRe] at ho HI HS1
  by_cases hlt:i < n
  · have hbw:=hb0.trans (hb.mono (by omega))
    have cx:=HC.out wr hbw i hlt
    clear hRe
    obtain ⟨ao,co,rfl,_,_⟩:=ho.form
    have hRl:R.length≤8:=by have:=HI.out.1;omega
    obtain ⟨m,hm⟩:∃ m,R.length=m:=⟨_,rfl⟩
    have HMR:=Lib.hid hm
    rw [hm] at ho hRl ⊢
    clear hm
    go_upto_region 7 with (fail)
    clear cx
    obtain ⟨w5,hw5⟩:∃ w5,(wr.alloc (.cells #[.int .i64 (i:Int)] 3)).alloc (.cells #[.int .i64 ((x i:Nat):Int)] 3)=w5:=⟨_,rfl⟩
    have hb5:Below wr.heap.size wr w5:=by rw [←hw5];exact ((Below.refl _ _).alloc (Nat.le_refl _) _).alloc (by simp) _
    have hz5:w5.heap.size=wr.heap.size+2:=by rw [←hw5];simp
    have d1:w5.cell? ⟨wr.heap.size,0,none⟩=some (.int .i64 (i:Int)):=by
     have e1:(wr.alloc (.cells #[.int .i64 (i:Int)] 3)).cell? ⟨wr.heap.size,0,none⟩=some (.int .i64 (i:Int)):=(cell_of_row _ _ 0 _ _ (0,0) (heap_alloc_new wr _)).trans rfl
     rw [←hw5]
     exact (World.cell?_alloc_lt _ _ _ (by simp)).trans e1
    have d2:w5.cell? ⟨wr.heap.size+1,0,none⟩=some (.int .i64 ((x i:Nat):Int)):=by
     have:=(cell_of_row _ _ 0 _ _ (0,0) (heap_alloc_new (wr.alloc (.cells #[.int .i64 (i:Int)] 3)) (.cells #[.int .i64 ((x i:Nat):Int)] 3))).trans rfl
     rw [←hw5]
     simp
    have hsr:=hb.size
    have d0:w5.cell? ⟨w.heap.size,0,none⟩=some (.slice (some ad) n c):=(hb5.cell (show w.heap.size < wr.heap.size by omega)).trans ((hb.cell (Nat.lt_succ_self _)).trans C0.out)
    obtain ⟨rows,hov,hTT,hrows⟩:=ho
    have hbw5:=hbw.trans (hb5.mono hbw.size)
    have ho5:Own2 w5 23 3 (w.heap.size+1) wr.heap.size (.slice ao m co) R:=⟨rows,hov.below hb5,hTT,hrows.below hb5⟩
    have HIX:=Lib.hid (f_IndexFunc2B (frB n k x i) 148 #[.pointer (some ⟨w.heap.size,0,none⟩),.pointer (some ⟨wr.heap.size+1,0,none⟩),.pointer (some ⟨wr.heap.size,0,none⟩)] k_RN1 (.slice ao m co) R w5 ho5.rd fun W r xs hW hxs hr =>
     HCL.out i hlt (wr.heap.size+1) wr.heap.size r xs W (hbw5.trans (hW.mono hbw5.size)) ((hW.cell (World.block_lt_of_cell? _ _ d0)).trans d0) ((hW.cell (World.block_lt_of_cell? _ _ d2)).trans d2) ((hW.cell (World.block_lt_of_cell? _ _ d1)).trans d1) hr fun q hq=>by
      obtain ⟨j,e,hj⟩:=(HI.out.2 xs hxs).2 q hq
      exact ⟨j,e,by omega⟩)
    clear d2
    rcases idxOf2_cases (frB n k x i) R with ⟨he,_⟩ | ⟨j,xs,he,hxj,_,_⟩
    · have HRN:Hid (rK n k x (i+1)=R++[[(i:Int)]]):=by rw [Hid,HS1.out,rStep_new he]
      rw [he] at HIX
      clear he
      go_upto_region 9 with (go_at_call 147;refine HIX.out.mono ?_;rintro e w6 ⟨rfl,hb6⟩)
      have d6:=(hb6.cell (World.block_lt_of_cell? _ _ d1)).trans d1
      obtain ⟨rows,hov,hTT,hrows⟩:=ho5
      have hb67:Below w6.heap.size w6 (w6.alloc (.cells #[.int .i64 (i:Int)] 3)):=(Below.refl _ _).alloc (Nat.le_refl _) _
      have hs6:=hb6.size
      have hrow:Own (w6.alloc (.cells #[.int .i64 (i:Int)] 3)) 3 w6.heap.size (.slice (some ⟨w6.heap.size,0,none⟩) 1 1) (ints [(i:Int)]):=Own.lit w6 3 w6.heap.size #[.int .i64 (i:Int)] (Nat.le_refl _) (by simp)
      have hov7:=(hov.below hb6).below hb67
      have hrows7:=(hrows.below hb6).below hb67
      have hB7:w.heap.size+1≤(w6.alloc (.cells #[.int .i64 (i:Int)] 3)).heap.size:=by simp;omega
      have HRL:Hid (rows.length=m):=by rw [Hid,hrows.1,HMR.out]
      go_wp2_with (at_builtin;(refine wpList_app1m rfl _ _ 28 rfl elII ?_ hov7 ?_ ?_ hB7 m HRL.out (by omega) (by omega) ?_);(focus exact rfl);(focus (simp [Act.eval]));(focus exact rfl);intro bn cn' w8 ho8 hg8 hat8)
      have ho9:=Own2.app (hrows7.snoc (hrow.mono (show w.heap.size+1≤w6.heap.size by omega)) (fun k hk=>by simp [Value.ownBlock] at hk;simp;omega) (show wr.heap.size≤(w6.alloc (.cells #[.int .i64 (i:Int)] 3)).heap.size by simp;omega)) hov7 (by decide) hg8 ho8 hg8.size
      have hb8:=((hb.trans (hb5.mono (by omega))).trans ((hb6.mono (by omega)).trans (hb67.mono (by omega)))).grown hg8 hB7 fun r hr=>(hov7.lt r hr).1
      go_roundg (n - (i+1))
      case measure=>omega
      case rel=>exact ⟨i+1,rfl,by omega,by go_num,by rw [HRN.out];exact ho9,hb8⟩
    · have HRN:Hid (rK n k x (i+1)=R.set j (xs++[(i:Int)])):=by rw [Hid,HS1.out,rStep_in he hxj]
      rw [he] at HIX
      have hjm:j < m:=by have:=(List.getElem?_eq_some_iff.1 hxj).1;rw [←HMR.out];exact this
      have hxl:xs.length≤8:=by have:=(HI.out.2 xs (List.mem_of_getElem? hxj)).1;omega
      clear he
      have i0:¬ ((j:Int) < 0):=by omega
      go_upto_region 10 with (go_at_call 147;refine HIX.out.mono ?_;rintro e w6 ⟨rfl,hb6⟩)
      have d6:=(hb6.cell (World.block_lt_of_cell? _ _ d1)).trans d1
      have d7:=(((Below.refl w6.heap.size w6).alloc (Nat.le_refl _) (.cells #[.int .i64 (i:Int)] 3)).cell (World.block_lt_of_cell? _ _ d6)).trans d6
      obtain ⟨rows,hov,hTT,hrows⟩:=ho5
      have hs6:=hb6.size
      have ho:=hov.below hb6
      have hR:=hrows.below hb6
      have HRL:Hid (rows.length=m):=by rw [Hid,hrows.1,HMR.out]
      obtain ⟨r,hr⟩:∃ r,rows[j]?=some r:=⟨_,List.getElem?_eq_getElem (by rw [HRL.out];exact hjm)⟩
      obtain ⟨xs',hx',hor,hrT⟩:=hR.2.1 j r hr
      obtain rfl:xs=xs':=by rw [hxj] at hx';exact Option.some.inj hx'
      obtain ⟨ar,mr,cr,rfl,HNR,_,_⟩:=hor.rd.formN
      have hmr:mr≤8:=by have:=HNR.out;omega
      have HLR:Hid ((ints xs).length=mr):=by rw [Hid,ints_length,HNR.out]
      obtain ⟨bo,rfl⟩:=ho.some_of (by rw [HRL.out];omega)
      have HRR:=Lib.hid hr
      have HCE:Hid (∀ wx:World,Own wx 23 (w.heap.size+1) (.slice (some bo) m co) rows→wx.cell? (bo.add j)=some (.slice ar mr cr)):=fun wx hx=>by
       obtain ⟨ad2,e,hc2⟩:=hx.rd.cell (k:=j) (by rw [HRL.out];exact hjm)
       have h2:=HRR.out
       injection e with e
       rw [List.getElem?_eq_getElem (by rw [HRL.out];exact hjm)] at h2
       injection h2 with h2
       rw [e,hc2,h2]
      have hcq:=HCE.out _ ho
      have hcqA:=HCE.out _ (ho.alloc (.cells #[.int .i64 (i:Int)] 3))
      have hsb:w.heap.size+1≤w6.heap.size:=by omega
      have i2:(j:Int) < (m:Int):=by omega
      clear hr hxj hx'
      go_region_law ((refine step_app1 (by rfl) _ _ _ (by rfl) elI (by rfl) hor (by rfl) (by rfl) hsb (by rw [HLR.out];omega) (by rw [HLR.out];omega) ?_;intro b7 c7 w7 ho7 hg7 hat7;have hoo7:=ho.apart hg7 (ho.elem_ne hor (by decide));have hcq7:=HCE.out _ hoo7;have hfq7:=hoo7.frozen rfl j))
      all_goals
       have hj9:j < rows.length:=by rw [HRL.out];exact hjm
       have hR7:=hR.set (ys:=xs++[(i:Int)]) HRR.out hg7 (by rw [ints_append];exact ho7) (Nat.le_trans (show wr.heap.size≤w6.heap.size by omega) hg7.size) (fun g hg=>by
        rcases hat_of hat7 g hg with e | e
        · exact .inl e
        · exact .inr (by omega)) (fun g hg=>(ho7.lt g hg).2)
       have hb7:=((hb.trans (hb5.mono (by omega))).trans (hb6.mono (by omega))).grown hg7 hsb (fun r hr=>(hor.lt r hr).1)
       have hst:=hoo7.set rfl hj9 (.slice b7 ((ints xs).length+1) c7)
       have hR8:=hR7.outer hst.2 hoo7 (by decide)
       rw [←HRN.out] at hR8
       have hb8:=hb7.grown hst.2 (by have:=hb7.size;omega) (fun r hr=>(hoo7.lt r hr).1)
       clear hor hcq hcqA hoo7 hg7 hat7 ho7 hR7 hb7
       go_wp2_with fail
       go_roundg (n - (i+1))
       case measure=>omega
       case rel=>exact ⟨i+1,rfl,by omega,by go_num,⟨_,hst.1,fun g hg=>(hst.1.lt g hg).2,hR8.mono (Nat.le_refl _) (by simp)⟩,⟨hb8.os,hb8.tape,hb8.output,hb8.size,hb8.block⟩⟩
  · obtain rfl:i=n:=Nat.le_antisymm hi (Nat.le_of_not_lt hlt)
    have HRE:=Lib.hid hRe
    clear hRe
    obtain ⟨ao,co,rfl,_,_⟩:=ho.form
    go_wp2
    go_ret
    exact ⟨ret_int (by rw [HRE.out]),hb0.trans (hb.mono (by omega))⟩
end Go.Proofs.YtggblfnajeikjaaGreatDoor
