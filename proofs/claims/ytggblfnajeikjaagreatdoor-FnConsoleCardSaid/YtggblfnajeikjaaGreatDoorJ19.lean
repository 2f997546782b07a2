/- Joined texts of the proof: DrawsP, DrawsO, DrawsT. -/
import Derived.Test.YtggblfnajeikjaaGreatDoorJ9
import Derived.Test.YtggblfnajeikjaaGreatDoorJ13
namespace Go.Proofs.YtggblfnajeikjaaGreatDoor
open Go.RowKit
set_option linter.unusedVariables false
set_option linter.unusedSimpArgs false
set_option maxRecDepth 100000
set_option maxHeartbeats 16000000
theorem Own2.appp {w w':World} {EO E B T:Nat} {v v':Value} {rows rows':List Value} {xss':List (List Int)} (hr:RowsOwn w E B T rows' xss') (ho:Own w EO B v rows) (hne:EO≠E) (hg:w.grownBy w' v.ownBlock) (ho':Own w' EO B v' rows') (hT:T≤w'.heap.size):Own2 w' EO E B w'.heap.size v' xss' :=
 ⟨rows',ho',fun k hk=>(ho'.lt k hk).2,(hr.outer hg ho hne).mono (Nat.le_refl _) hT⟩
theorem Own2.apartp {w w':World} {EO E B T:Nat} {v:Value} {xss:List (List Int)} {row:Option Nat} (h:Own2 w EO E B T v xss) (hg:w.grownBy w' row) (hne:∀ g,row=some g→g < B∨T≤g):Own2 w' EO E B T v xss:=by
 cases row with
 | none=>exact h.chg (C:=T) (D:=T) (Chg.row hg (fun k hk=>by cases hk)) (.inl (Nat.le_refl _))
 | some g=>exact h.chg (C:=g) (D:=g+1) (Chg.row hg (fun k hk=>by cases hk;omega)) (by have:=hne g rfl;omega)
theorem Own2.litp {E B:Nat} (w:World) (EO:Nat) (hB:B≤w.heap.size):Own2 (w.alloc (.cells #[] EO)) EO E B (w.alloc (.cells #[] EO)).heap.size (.slice (some ⟨w.heap.size,0,none⟩) 0 0) []:=by
 refine ⟨[],?_,fun k hk=>?_,RowsOwn.nil _ _ _ _⟩
 · simpa [ints] using Own.lit0 w EO hB
 · have : w.heap.size=k:=Option.some.inj hk
   simp
   omega
theorem own_pair {W:World} {g E B:Nat} {a b:Int} (h:W.heap[g]?=some (.cells #[.int .i64 a,.int .i64 b] E (0,0))) (hB:B≤g):Own W E B (.slice (some ⟨g,0,none⟩) 2 2) (ints [a,b]) :=
 .inr ⟨g,0,2,_,rfl,hB,h,by simp [ints],by omega,by simp,fun j u hu=>by simpa [ints] using hu⟩
theorem box_ltp {w:World} {g F:Nat} {cur:Array Value} (hb:w.heap[g]?=some (.cells cur F (0,0))):g < w.heap.size:=(Array.getElem?_eq_some_iff.1 hb).1
theorem netRow_mk {n a b:Int} (ha:0≤a∧a≤n - 1) (hb:0≤b∧b≤n - 1) (h:a≠b):netRow n [a,b]=true:=by
 simp [netRow,inB_iff,ha,hb,h]
theorem turn_ne {n a m:Int} (hn:2≤n) (hn8:n≤8) (ha:0≤a∧a≤n - 1) (hm:0≤m∧m≤n - 2):0≤(a+1+m) % n∧(a+1+m) % n≤n - 1∧a≠(a+1+m) % n:=by
 have : n=2∨n=3∨n=4∨n=5∨n=6∨n=7∨n=8:=by omega
 rcases this with rfl | rfl | rfl | rfl | rfl | rfl | rfl <;> omega
def upRow (up:Bool) (r:List Int):Prop:=up=true→∀ a b,r=[a,b]→a < b
def RetP (n most g:Nat) (up:Bool) (vb:Value) (xs:List Int) (w:World) (e:Ending) (w':World):Prop :=
 ∃ (xss:List (List Int)) (v:Value),xss.length≤most∧(∀ r∈xss,netRow n r=true∧upRow up r)∧e=.returned v∧Own2 w' 23 3 w.heap.size w'.heap.size v xss∧Cur w' g vb xs∧w.grownBy w' (some g)
theorem s_l02Pairs (g:Nat) (vb:Value) (xs:List Int) (hxb:∀ x∈xs,0≤x∧x≤255) (n most:Nat) (hn1:1≤n) (hn8:n≤8) (hm:most≤50) (up:Bool) (w:World) (hC:Cur w g vb xs) :
 Calls Tryz.prog 50 #[.pointer (some ⟨g,0,none⟩),.int .i64 n,.int .i64 most,.bool up] w (RetP n most g up vb xs w):=by
 have HB:=Lib.hid (fun (n:Int) (h1:1≤n) (h2:n≤1000000000) (wx:World) (hx:Cur wx g vb xs)=>s_l01Below g vb xs hxb n h1 h2 wx hx)
 clear hxb
 have hgl:=hC.lt
 have HUP:=Lib.hid (fun (w6:World) (hg:w.grownBy w6 (some g))=>hC.up hg)
 go_enter Tryz.func50,Tryz.ntmps50
 go_wp2_with fail
 refine (HB.out ((most:Int)+1) (by omega) (by omega) _ (hC.alloc _)).mono ?_
 rintro e w1 ⟨x,rfl,hx0,hx1,hC1,hg1⟩
 have ho1:=(Own2.litp (E:=3) (B:=w.heap.size) w 23 (Nat.le_refl _)).apartp hg1 (fun q hq=>by cases hq;exact .inl hgl)
 have hgg1:w.grownBy w1 (some g):=gb_trans (gb_alloc (World.grownBy.refl _ _) _) hg1
 replace ho1:=ho1.mono (Nat.le_refl _) hg1.size
 clear hC
 go_wp2_with fail
 go_loopw [9,10,11,12] (fun vl k _ _ wr=>∃ (q:Nat) (xss:List (List Int)),k=.int .i64 q∧q≤most∧Hid (xss.length+q≤most)∧Hid (∀ r∈xss,netRow n r=true∧upRow up r)∧Own2 wr 23 3 w.heap.size wr.heap.size vl xss∧Cur wr g vb xs∧w.grownBy wr (some g)) (fun _ k _ _ _=>(intOf k).toNat)
 case atStart=>exact ⟨x.toNat,[],by congr 1;omega,by omega,(by rw [Hid,List.length_nil];omega),(fun y hy=>by cases hy),ho1,hC1,hgg1⟩
 case round =>
  clear ho1 hC1 hgg1 hg1
  obtain ⟨q,xss,rfl,hq6,HQ,HR,ho,hC,hg⟩:=hrel
  cases q with
  | zero =>
    go_wp2_with fail
    go_ret
    exact ⟨xss,_,by have:=HQ.out;omega,HR.out,rfl,ho,hC,hg⟩
  | succ r =>
    have i1:(0:Int) < (r:Int)+1:=by omega
    by_cases hn2:1 < n
    · have hsz:=hg.size
      have i2:(1:Int) < (n:Int):=by omega
      go_wp2_with fail
      refine (HB.out (n:Int) (by omega) (by omega) _ hC).mono ?_
      rintro e w2 ⟨a,rfl,ha0,ha1,hC2,hg2⟩
      have ho2:=(ho.apartp hg2 (fun q hq=>by cases hq;exact .inl hgl)).mono (Nat.le_refl _) hg2.size
      have hgg2:=gb_trans hg hg2
      clear ho hC
      go_wp2_with fail
      refine (HB.out ((n:Int) - 1) (by omega) (by omega) _ hC2).mono ?_
      rintro e w3 ⟨m,rfl,hm0,hm1,hC3,hg3⟩
      have ho3:=(ho2.apartp hg3 (fun q hq=>by cases hq;exact .inl hgl)).mono (Nat.le_refl _) hg3.size
      have hgg3:=gb_trans hgg2 hg3
      clear ho2 hC2 hg2
      have HT:=Lib.hid (turn_ne (n:=(n:Int)) (a:=a) (m:=m) (by omega) (by omega) ⟨ha0,ha1⟩ ⟨hm0,by omega⟩)
      have n0:¬ (n:Int)=0:=by omega
      go_upto_region 7 with (fail)
      obtain ⟨b,hb⟩:∃ b,(a+1+m) % (n:Int)=b:=⟨_,rfl⟩
      rw [hb] at HT
      simp only [hb]
      clear hb
      obtain ⟨hb0,hb1,hab⟩:=HT.out
      obtain ⟨rows,hov,hT,hrows⟩:=ho3
      have hrl:rows.length≤50:=by have:=hrows.1;have:=HQ.out;omega
      obtain ⟨ao,co,rfl,_,_⟩:=hov.rd.form
      obtain ⟨mo,hmo⟩:∃ mo,rows.length=mo:=⟨_,rfl⟩
      have hov':=hov
      rw [hmo] at hov' hrl ⊢
      have HMO:=Lib.hid hmo
      have HAB:=Lib.hid hab
      clear hmo HT hab
      have hz3:=hgg3.size
      have step:∀ (c d:Int),Hid (netRow n [c,d]=true∧upRow up [c,d])→∀ b6 c6 w6,Own w6 23 w.heap.size (.slice b6 (mo+1) c6) (rows++[.slice (some ⟨w3.heap.size,0,none⟩) 2 2])→(w3.alloc (.cells #[.int .i64 c,.int .i64 d] 3)).grownBy w6 (Value.slice ao mo co).ownBlock →
       Hid (∀ r∈xss++[[c,d]],netRow n r=true∧upRow up r)∧Own2 w6 23 3 w.heap.size w6.heap.size (.slice b6 (mo+1) c6) (xss++[[c,d]])∧Cur w6 g vb xs∧w.grownBy w6 (some g):=fun c d hcd b6 c6 w6 ho6 hg6=>by
       have hgA:=gb_alloc hgg3 (.cells #[.int .i64 c,.int .i64 d] 3)
       have hovA:=hov'.alloc (.cells #[.int .i64 c,.int .i64 d] 3)
       have hrowA:=own_pair (B:=w.heap.size) (heap_alloc_new w3 (.cells #[.int .i64 c,.int .i64 d] 3)) hz3
       have hR1:=(hrows.alloc (.cells #[.int .i64 c,.int .i64 d] 3)).snoc (T':=w3.heap.size+1) hrowA (fun g hg=>by
        have : w3.heap.size=g:=Option.some.inj hg
        omega) (by omega)
       have hz6:=hg6.size
       have ho7:=Own2.appp hR1 hovA (by decide) hg6 ho6 (by simp at hz6;omega)
       have hg7:=gb_up hgA hg6 (fun b hb=>(hovA.lt b hb).1)
       have hC7:=(hC3.alloc (.cells #[.int .i64 c,.int .i64 d] 3)).turn hg6 (fun e=>by have:=(hovA.lt g e).1;omega) (HUP.out _ hg7)
       exact ⟨fun z hz=>by
        rcases List.mem_append.1 hz with hz | hz
        · exact HR.out z hz
        · rw [List.mem_singleton] at hz
          subst hz
          exact hcd.out,ho7,hC7,hg7⟩
      have STEP:=Lib.hid step
      have hovA:=fun o=>hov'.alloc o
      clear step hov
      by_cases hgt:up=true∧b < a
      · obtain ⟨rfl,hlt⟩:=hgt
        have i3:decide (a > b)=true:=by simp;omega
        have hNR:Hid (netRow n [b,a]=true∧upRow true [b,a]):=⟨netRow_mk ⟨hb0,hb1⟩ ⟨ha0,ha1⟩ (fun e=>HAB.out e.symm),fun _ x y e=>by
         injection e with e1 e2
         injection e2 with e2 _
         omega⟩
        go_wp2_with (at_builtin;refine wpList_app1m rfl _ _ 28 rfl elII rfl (hovA _) (by show Value.slice (some ⟨w3.heap.size+1,0,none⟩) 1 1=_;simp) rfl (by simp;omega) _ HMO.out (by omega) (by omega) ?_;intro b6 c6 w6 ho6 hg6 hat6)
        obtain ⟨q1,q2,q3,q4⟩:=STEP.out b a hNR _ _ _ ho6 hg6
        go_roundw
        case rel=>exact ⟨r,xss++[[b,a]],by go_num,by omega,by have:=HQ.out;rw [Hid,List.length_append,List.length_singleton];omega,q1,q2,q3,q4⟩
        case measure=>simp [intOf]
      · have hNR:Hid (netRow n [a,b]=true∧upRow up [a,b]):=⟨netRow_mk ⟨ha0,ha1⟩ ⟨hb0,hb1⟩ HAB.out,fun hu x y e=>by
         injection e with e1 e2
         injection e2 with e2 _
         have h1:=HAB.out
         have h2:¬ b < a:=fun h=>hgt ⟨hu,h⟩
         omega⟩
        have hcase:up=false∨(up=true∧decide (a > b)=false):=by
         cases up
         · exact .inl rfl
         · refine .inr ⟨rfl,?_⟩
           simp only [true_and] at hgt
           simpa using hgt
        clear hgt
        rcases hcase with rfl | ⟨rfl,i3⟩
        all_goals
         go_wp2_with (at_builtin;refine wpList_app1m rfl _ _ 28 rfl elII rfl (hovA _) (by show Value.slice (some ⟨w3.heap.size+1,0,none⟩) 1 1=_;simp) rfl (by simp;omega) _ HMO.out (by omega) (by omega) ?_;intro b6 c6 w6 ho6 hg6 hat6)
         obtain ⟨q1,q2,q3,q4⟩:=STEP.out a b hNR _ _ _ ho6 hg6
         go_roundw
         case rel=>exact ⟨r,xss++[[a,b]],by go_num,by omega,by have:=HQ.out;rw [Hid,List.length_append,List.length_singleton];omega,q1,q2,q3,q4⟩
         case measure=>simp [intOf]
    · have i2:decide ((1:Int) < (n:Int))=false:=by simp;omega
      have i3:¬ (1:Int) < (n:Int):=by omega
      go_wp2_with fail
      go_ret
      exact ⟨xss,_,by have:=HQ.out;omega,HR.out,rfl,ho,hC,hg⟩
theorem s_l02Draw (g:Nat) (vb:Value) (xs:List Int) (hxb:∀ x∈xs,0≤x∧x≤255) (w:World) (hC:Cur w g vb xs) :
 Calls Tryz.prog 152 #[.pointer (some ⟨g,0,none⟩),.int .i64 6] w fun e w'=>∃ (n:Nat) (xss:List (List Int)) (v:Value),1≤n∧n≤6∧xss.length≤12∧(∀ r∈xss,netRow n r=true)∧e=.returned (.agg #[.int .i64 n,v])∧Own2 w' 23 3 w.heap.size w'.heap.size v xss∧Cur w' g vb xs∧w.grownBy w' (some g):=by
 have HB:=Lib.hid (fun (n:Int) (h1:1≤n) (h2:n≤1000000000) (wx:World) (hx:Cur wx g vb xs)=>s_l01Below g vb xs hxb n h1 h2 wx hx)
 have HP:=Lib.hid (fun (n:Nat) (h1:1≤n) (h2:n≤8) (up:Bool) (wx:World) (hx:Cur wx g vb xs)=>s_l02Pairs g vb xs hxb n 12 h1 h2 (by omega) up wx hx)
 clear hxb
 have hgl:=hC.lt
 have HUP:=Lib.hid (fun (w6:World) (hg:w.grownBy w6 (some g))=>hC.up hg)
 go_enter Tryz.func152,Tryz.ntmps152
 go_wp2_with fail
 refine (HB.out 6 (by omega) (by omega) _ (hC.alloc _)).mono ?_
 rintro e w1 ⟨x,rfl,hx0,hx1,hC1,hg1⟩
 obtain ⟨n,hn⟩:∃ n:Nat,1+x=n:=⟨(1+x).toNat,by omega⟩
 have hgg1:w.grownBy w1 (some g):=gb_trans (gb_alloc (World.grownBy.refl _ _) _) hg1
 go_upto_region 2 with (fail)
 have hn1:1≤n∧n≤6:=by omega
 clear hn hx0 hx1
 have hg0:w.heap.size≠g:=by omega
 have hA1:=(hg1.block w.heap.size (by simp) (fun e=>hg0 (Option.some.inj e))).trans (heap_alloc_new w (.cells #[.int .i64 0,.slice none 0 0] 30))
 have hz1:=box_ltp hA1
 go_wp2_with (first
  | (go_at_call 49;refine (HB.out 4 (by omega) (by omega) _ hC1).mono ?_;rintro e w2 ⟨y,rfl,hy0,hy1,hC2,hg2⟩
     have hA2:=(hg2.block w.heap.size hz1 (fun e=>hg0 (Option.some.inj e))).trans hA1
     have hz2:=box_ltp hA2
     have hgg2:=gb_trans hgg1 hg2)
  | (go_at_call 50;refine (HP.out n (by omega) (by omega) _ _ hC2).mono ?_;rintro e w3 ⟨xss,v3,hx1,hx2,rfl,ho3,hC3,hg3⟩
     obtain ⟨a3,c3,rfl,_,_⟩:=ho3.form
     have hA3:=(hg3.block w.heap.size hz2 (fun e=>hg0 (Option.some.inj e))).trans hA2
     have hgg3:=gb_trans hgg2 hg3
     have c0:=cell_of_row w3 w.heap.size 0 _ _ (0,0) hA3
     have c1:=cell_of_row w3 w.heap.size 1 _ _ (0,0) hA3
     have f0:=frozen_of_row w3 w.heap.size 0 _ _ hA3
     have f1:=frozen_of_row w3 w.heap.size 1 _ _ hA3))
 have e1:=heap_setCell_same w3 w.heap.size 0 _ _ (.int .i64 n) hA3
 have e2:=heap_setCell_same _ w.heap.size 1 _ _ (.slice a3 xss.length c3) e1
 obtain ⟨wz,hwz⟩:∃ wz,(w3.setCell ⟨w.heap.size,0,none⟩ (.int .i64 n)).setCell ⟨w.heap.size,1,none⟩ (.slice a3 xss.length c3)=wz:=⟨_,rfl⟩
 have hgz:w3.grownBy wz (some w.heap.size):=by
  rw [←hwz]
  exact ⟨rfl,rfl,rfl,by simp,fun i _ hi=>(heap_setCell_other _ ⟨w.heap.size,1,none⟩ i _ (fun e=>hi (by rw [e]))).trans (heap_setCell_other w3 ⟨w.heap.size,0,none⟩ i _ (fun e=>hi (by rw [e])))⟩
 rw [hwz] at e2 ⊢
 have ea:(((#[Value.int .i64 0,.slice none 0 0]:Array Value).setIfInBounds 0 (.int .i64 n)).setIfInBounds 1 (.slice a3 xss.length c3))=#[.int .i64 n,.slice a3 xss.length c3]:=rfl
 rw [ea] at e2
 have q0:=cell_of_row wz w.heap.size 0 _ _ (0,0) e2
 have q1:=cell_of_row wz w.heap.size 1 _ _ (0,0) e2
 have hoz:=(ho3.apartp hgz (fun q hq=>by cases hq;exact .inl hz2)).mono (Nat.le_of_lt hz2) hgz.size
 have hgf:=gb_up hgg3 hgz (fun b hb=>by cases hb;exact Nat.le_refl _)
 have hCz:=hC3.turn hgz (fun e=>hg0 (Option.some.inj e)) (HUP.out _ hgf)
 exact bodyPost_ret (v:=.agg #[.int .i64 n,.slice a3 xss.length c3]) (by simp [results,Tryz.results152,go_sem,q0,q1]) rfl ⟨n,xss,_,hn1.1,hn1.2,hx1,fun r hr=>(hx2 r hr).1,rfl,hoz,hCz,hgf⟩
theorem s_l20Draw (g:Nat) (vb:Value) (xs:List Int) (hxb:∀ x∈xs,0≤x∧x≤255) (w:World) (hC:Cur w g vb xs) :
 Calls Tryz.prog 75 #[.pointer (some ⟨g,0,none⟩)] w fun e w'=>∃ (ys:List Int) (v:Value),ys.length≤6∧(∀ y∈ys,1≤y∧y≤12)∧e=.returned v∧Own w' 3 w.heap.size v (ints ys)∧Cur w' g vb xs∧w.grownBy w' (some g):=by
 have HB:=Lib.hid (fun (n:Int) (h1:1≤n) (h2:n≤1000000000) (wx:World) (hx:Cur wx g vb xs)=>s_l01Below g vb xs hxb n h1 h2 wx hx)
 have hgl:=hC.lt
 have HUP:=Lib.hid (fun (w6:World) (hg:w.grownBy w6 (some g))=>hC.up hg)
 clear hxb
 go_enter Tryz.func75,Tryz.ntmps75
 go_wp2_with fail
 refine (HB.out 7 (by omega) (by omega) _ (hC.alloc _)).mono ?_
 rintro e w1 ⟨x,rfl,hx0,hx1,hC1,hg1⟩
 obtain ⟨n,rfl⟩:=Int.eq_ofNat_of_zero_le hx0
 have hg0:w.grownBy w1 (some g):=gb_trans (gb_alloc (World.grownBy.refl _ _) _) hg1
 have ho0:Own w1 3 w.heap.size (.slice (some ⟨w.heap.size,0,none⟩) 0 0) (ints []):=(Own.lit0 w 3 (Nat.le_refl _)).apart hg1 (fun k h1 h2=>(Own.lit0 w 3 (Nat.le_refl _)).neg hgl (by rw [h1,h2]))
 have hn:n≤6:=by omega
 clear hC hg1 hx0 hx1
 go_wp2_with fail
 go_loopg [3,4] n (fun gq vl k wr=>∃ (q:Nat) (ys:List Int),gq=q∧k=.int .i64 q∧Hid (ys.length+q=n)∧Hid (∀ y∈ys,1≤y∧y≤12)∧Own wr 3 w.heap.size vl (ints ys)∧Cur wr g vb xs∧w.grownBy wr (some g))
 case atStart=>exact ⟨n,[],rfl,rfl,by simp [Hid],(fun y hy=>by cases hy),ho0,hC1,hg0⟩
 case round =>
  clear hC1 ho0 hg0
  obtain ⟨q,ys,hgq,rfl,HL,HY,ho,hC,hg⟩:=hrel
  by_cases hq0:0 < q
  · obtain ⟨r,rfl⟩:∃ r,q=r+1:=⟨q - 1,by omega⟩
    have d0:decide (((r+1:Nat):Int) > 0)=true:=by simp
    have hr13:r≤13:=by have:=HL.out;omega
    obtain ⟨al,ml,cl,rfl,HML,_,_⟩:=ho.rd.formN
    have hml:ml≤6:=by have:=HML.out;have:=HL.out;omega
    have HYM:Hid ((ints ys).length=ml):=by rw [Hid,ints_length,HML.out]
    go_wp2_with (first
     | (go_at_call 49;refine (HB.out 12 (by omega) (by omega) _ hC).mono ?_;rintro e w3 ⟨m,rfl,hm0,hm1,hC3,hg3⟩
        have ho3:=ho.apart hg3 (fun k h1 h2=>ho.neg hgl (by rw [h1,h2]))
        have hgg3:=gb_trans hg hg3)
     | (at_builtin;refine wpList_app1m rfl _ _ 23 rfl elI rfl ho3 (by show Value.slice (some ⟨w3.heap.size,0,none⟩) 1 1=_;simp) rfl hgg3.size _ HYM.out (by omega) (by omega) ?_;intro b6 c6 w6 ho6 hg6 hat6))
    have hg7:=gb_up hgg3 hg6 (fun b hb=>(ho3.lt b hb).1)
    have hC6:=hC3.turn hg6 (ho3.neg hgl) (HUP.out _ hg7)
    go_roundg r
    case measure=>omega
    case rel =>
     refine ⟨r,ys++[_],rfl,by go_num,by rw [Hid,List.length_append];have:=HL.out;simp;omega,(fun z hz=>?_),by rw [ints_append];exact ho6,hC6,hg7⟩
     rcases List.mem_append.1 hz with hz | hz
     · exact HY.out z hz
     · rw [List.mem_singleton] at hz
       subst hz
       omega
  · obtain rfl:q=0:=by omega
    go_wp2_with fail
    go_ret
    exact ⟨ys,_,by have:=HL.out;omega,HY.out,rfl,ho,hC,hg⟩
theorem PermN.ins {n k:Nat} {ys:List Int} (h:PermN n ys) (hk:k≤n):PermN (n+1) (ys.take k++[(n:Int)]++ys.drop k):=by
 obtain ⟨h1,h2,h3⟩:=h
 have hp:(ys.take k++[(n:Int)]++ys.drop k).Perm ((n:Int) :: ys):=by
  have : (ys.take k++(n:Int) :: ys.drop k).Perm ((n:Int) :: (ys.take k++ys.drop k)):=List.perm_middle
  rw [List.take_append_drop] at this
  simpa using this
 refine ⟨by rw [hp.length_eq];simp [h1],fun x hx=>?_,hp.nodup_iff.2 (List.nodup_cons.2 ⟨fun hm=>by have:=h2 _ hm;omega,h3⟩)⟩
 rcases List.mem_cons.1 (hp.mem_iff.1 hx) with e | e
 · subst e;omega
 · have:=h2 x e;omega
theorem s_l02Order (g:Nat) (vb:Value) (xs:List Int) (hxb:∀ x∈xs,0≤x∧x≤255) (n:Nat) (hn:n≤16) (w:World) (hC:Cur w g vb xs) :
 Calls Tryz.prog 74 #[.pointer (some ⟨g,0,none⟩),.int .i64 n] w fun e w'=>∃ (ys:List Int) (v:Value),PermN n ys∧e=.returned v∧Own w' 3 w.heap.size v (ints ys)∧Cur w' g vb xs∧w.grownBy w' (some g):=by
 have HB:=Lib.hid (fun (n:Int) (h1:1≤n) (h2:n≤1000000000) (wx:World) (hx:Cur wx g vb xs)=>s_l01Below g vb xs hxb n h1 h2 wx hx)
 have hgl:=hC.lt
 have HUP:=Lib.hid (fun (w6:World) (hg:w.grownBy w6 (some g))=>hC.up hg)
 clear hxb
 go_enter Tryz.func74,Tryz.ntmps74
 go_wp2_with fail
 go_loopg [5,6] n (fun gq vl k wr=>∃ (q:Nat) (ys:List Int) (ap:Addr) (cp:Nat),gq=n - q∧q≤n∧k=.int .i64 q∧vl=.slice (some ap) q cp∧Hid (PermN q ys)∧Own wr 3 w.heap.size (.slice (some ap) q cp) (ints ys)∧Cur wr g vb xs∧w.grownBy wr (some g))
 case atStart=>exact ⟨0,[],_,0,rfl,Nat.zero_le _,rfl,rfl,by (refine ⟨rfl,?_,List.nodup_nil⟩;intro x hx;cases hx),Own.lit0 w 3 (Nat.le_refl _),hC.alloc _,gb_alloc (World.grownBy.refl _ _) _⟩
 case round =>
  clear hC
  obtain ⟨q,ys,ap,cp,hgq,hqn,rfl,rfl,HP,ho,hC,hg⟩:=hrel
  by_cases hlt:q < n
  · go_wp2_with fail
    refine (HB.out ((q:Int)+1) (by omega) (by omega) _ hC).mono ?_
    rintro e w3 ⟨m,rfl,hm0,hm1,hC3,hg3⟩
    obtain ⟨j,rfl⟩:=Int.eq_ofNat_of_zero_le hm0
    have hj:j≤q:=by omega
    have ho3:=ho.apart hg3 (fun k h1 h2=>ho.neg hgl (by rw [h1,h2]))
    have hgg3:=gb_trans hg hg3
    have hLq:ys.length=q:=HP.out.1
    have HL:=Lib.hid hLq
    have hsb:=hgg3.size
    obtain ⟨ao,co,hfo,hco,hco2⟩:=ho3.rd.form
    simp only [Value.slice.injEq] at hfo
    obtain ⟨hf1,hf2,rfl⟩:=hfo
    have hcq:q≤cp:=by rw [hf2];exact hco
    have hrT:Rd w3 (.slice (some ap) j cp) (ints (ys.take j)):=by rw [←ints_take];exact ho3.rd.take hj
    have hrC:Rd w3 (.slice (if cp=j then some ap else some (ap.add j)) (q - j) (cp - j)) (ints (ys.drop j)):=by rw [←ints_drop];exact ho3.rd.cut hj
    have HT1:Hid ((ints (ys.take j)).length=j):=by rw [Hid,ints_length,List.length_take];omega
    have HT2:Hid ((ints (ys.drop j)).length=q - j):=by rw [Hid,ints_length,List.length_drop];omega
    have HFIN:Hid (∀ (W:World) (b:Option Addr) (m' c':Nat),Below w3.heap.size w3 W→Own W 3 w3.heap.size (.slice b m' c') (ints (ys.take j)++[.int .i64 (q:Int)]++ints (ys.drop j)) →
     PermN (q+1) (ys.take j++[(q:Int)]++ys.drop j)∧m'=q+1∧(∃ p,b=some p)∧Own W 3 w.heap.size (.slice b m' c') (ints (ys.take j++[(q:Int)]++ys.drop j))∧Cur W g vb xs∧w.grownBy W (some g)):=fun W b m' c' hW hO=>by
     have hP2:=HP.out.ins hj
     have hO2:Own W 3 w.heap.size (.slice b m' c') (ints (ys.take j++[(q:Int)]++ys.drop j)):=by
      have:=hO.mono (B':=w.heap.size) hsb
      simpa [ints] using this
     obtain ⟨a9,m9,c9,e9,h9,_,_⟩:=hO2.rd.formN
     simp only [Value.slice.injEq] at e9
     obtain ⟨rfl,rfl,rfl⟩:=e9
     have hm:m'=q+1:=by rw [h9.out];exact hP2.1
     obtain ⟨p,hp⟩:=hO2.some_of (by rw [ints_length,hP2.1];omega)
     exact ⟨hP2,hm,⟨p,hp⟩,hO2,hC3.below hW,gb_below hgg3 hW⟩
    have i1:(j:Int)≤(cp:Int):=by omega
    have i2:(j:Int)≤(q:Int):=by omega
    clear hf1 hf2 hLq hm0 hm1 HP ho ho3 hC hg hg3 hgg3 hco
    go_wp2_with (first
     | (at_builtin;(refine wpList_copy (B:=w3.heap.size) rfl _ _ 23 rfl elI hrT rfl rfl (oneCell_ints1 _) (Nat.le_refl _) _ HT1.out (by omega) (by omega) ?_);intro b1 c1 w1 ho1 hb1)
     | (at_builtin;refine wpList_app1m rfl _ _ 23 rfl elI rfl ho1 (by show Value.slice (some ⟨w1.heap.size,0,none⟩) 1 1=_;simp) rfl hb1.size _ HT1.out (by omega) (by omega) ?_;intro b2 c2 w2 ho2 hg2 hat2;have hb2:=hb1.grown hg2 hb1.size (fun r hr=>(ho1.lt r hr).1))
     | (at_builtin;refine wpList_appn rfl _ _ 23 rfl elI ho2 (hrC.below hb2) rfl (by first | rfl | simp) (oneCell_ints1 _) hb2.size (q+1) (by rw [List.length_append,HT1.out,HT2.out];simp;omega) (by omega) (by omega) ?_;intro b3 c3 w4 ho4 hg4 hat4;have hb4:=hb2.grown hg4 hb2.size (fun r hr=>(ho2.lt r hr).1)))
    all_goals
     obtain ⟨f1,f2,⟨p,f3⟩,f4,f5,f6⟩:=HFIN.out _ _ _ _ hb4 ho4
     subst f3
     go_roundg (n - (q+1))
     case measure=>omega
     case rel=>exact ⟨q+1,_,p,_,rfl,hlt,by go_num,rfl,f1,f4,f5,f6⟩
  · obtain rfl:q=n:=by omega
    go_wp2_with fail
    go_ret
    exact ⟨ys,_,HP.out,rfl,ho,hC,hg⟩
theorem s_l24Draw (g:Nat) (vb:Value) (xs:List Int) (hxb:∀ x∈xs,0≤x∧x≤255) (w:World) (hC:Cur w g vb xs) :
 Calls Tryz.prog 76 #[.pointer (some ⟨g,0,none⟩)] w fun e w'=>∃ (ys:List Int) (v:Value),ys.length≤11∧(∀ y∈ys,0≤y∧y≤36)∧e=.returned v∧Own w' 3 w.heap.size v (ints ys)∧Cur w' g vb xs∧w.grownBy w' (some g):=by
 have HB:=Lib.hid (fun (n:Int) (h1:1≤n) (h2:n≤1000000000) (wx:World) (hx:Cur wx g vb xs)=>s_l01Below g vb xs hxb n h1 h2 wx hx)
 have HPK:=Lib.hid (fun (vl:Value) (wx:World) (hx:Cur wx g vb xs) (hr:Rd wx vl (ints [0,0,0,1,2,5,9])) (hne:vl.ownBlock≠some g)=>s_l01Pick g vb xs hxb vl [0,0,0,1,2,5,9] (by simp) (by simp) wx hx hr hne)
 have hgl:=hC.lt
 have HUP:=Lib.hid (fun (w6:World) (hg:w.grownBy w6 (some g))=>hC.up hg)
 clear hxb
 go_enter Tryz.func76,Tryz.ntmps76
 go_wp2_with fail
 refine (HB.out 12 (by omega) (by omega) _ (hC.alloc _)).mono ?_
 rintro e w1 ⟨x,rfl,hx0,hx1,hC1,hg1⟩
 obtain ⟨n,rfl⟩:=Int.eq_ofNat_of_zero_le hx0
 have hg0:w.grownBy w1 (some g):=gb_trans (gb_alloc (World.grownBy.refl _ _) _) hg1
 have ho0:Own w1 3 w.heap.size (.slice (some ⟨w.heap.size,0,none⟩) 0 0) (ints []):=(Own.lit0 w 3 (Nat.le_refl _)).apart hg1 (fun k h1 h2=>(Own.lit0 w 3 (Nat.le_refl _)).neg hgl (by rw [h1,h2]))
 have hn:n≤11:=by omega
 clear hC hg1 hx0 hx1
 go_wp2_with fail
 go_loopg [3,4,5] n (fun gq vl vt k wr=>∃ (q:Nat) (ys:List Int) (t:Int),gq=q∧k=.int .i64 q∧vt=.int .i64 t∧3≤t∧t+3 * (q:Int)≤36∧Hid (ys.length+q=n)∧Hid (∀ y∈ys,0≤y∧y≤36)∧Own wr 3 w.heap.size vl (ints ys)∧Cur wr g vb xs∧w.grownBy wr (some g))
 case atStart=>exact ⟨n,[],3,rfl,rfl,rfl,by omega,by omega,by simp [Hid],(fun y hy=>by cases hy),ho0,hC1,hg0⟩
 case round =>
  clear hC1 ho0 hg0
  obtain ⟨q,ys,t,hgq,rfl,rfl,ht0,ht1,HL,HY,ho,hC,hg⟩:=hrel
  by_cases hq0:0 < q
  · obtain ⟨r,rfl⟩:∃ r,q=r+1:=⟨q - 1,by omega⟩
    have d0:decide (((r+1:Nat):Int) > 0)=true:=by simp
    obtain ⟨al,ml,cl,rfl,HML,_,_⟩:=ho.rd.formN
    have hml:ml≤11:=by have:=HML.out;have:=HL.out;omega
    have HYM:Hid ((ints ys).length=ml):=by rw [Hid,ints_length,HML.out]
    go_upto_region 7 with (go_at_call 49;refine (HB.out 4 (by omega) (by omega) _ hC).mono ?_;rintro e w2 ⟨x,rfl,hx0,hx1,hC2,hg2⟩)
    have ho2:=ho.apart hg2 (fun k h1 h2=>ho.neg hgl (by rw [h1,h2]))
    have hgg2:=gb_trans hg hg2
    have hsz2:=hgg2.size
    have hgw:=hC2.lt
    obtain ⟨t2,ht2⟩:∃ t2,t+x=t2:=⟨_,rfl⟩
    rw [ht2]
    have hb2:3≤t2∧t2+3 * (r:Int)≤36:=by omega
    clear ht2 ht0 ht1 hC ho hg hg2
    have hbA:Below w2.heap.size w2 (w2.alloc (.cells #[.int .i64 0,.int .i64 0,.int .i64 0,.int .i64 1,.int .i64 2,.int .i64 5,.int .i64 9] 3)):=(Below.refl _ _).alloc (Nat.le_refl _) _
    have hCA:=hC2.below hbA
    have hoA:=ho2.below hbA
    have hggA:=gb_below hgg2 hbA
    have hlit:Rd (w2.alloc (.cells #[.int .i64 0,.int .i64 0,.int .i64 0,.int .i64 1,.int .i64 2,.int .i64 5,.int .i64 9] 3)) (.slice (some ⟨w2.heap.size,0,none⟩) 7 7) (ints [0,0,0,1,2,5,9]):=by
     have:=(Own.lit w2 3 w2.heap.size #[.int .i64 0,.int .i64 0,.int .i64 0,.int .i64 1,.int .i64 2,.int .i64 5,.int .i64 9] (Nat.le_refl _) (by simp)).rd
     simpa [ints] using this
    have hneL:(Value.slice (some ⟨w2.heap.size,0,none⟩) 7 7).ownBlock≠some g:=fun e=>by have : w2.heap.size=g:=Option.some.inj e;omega
    go_wp2_with (first
     | (go_at_call 126;refine (HPK.out _ _ hCA hlit hneL).mono ?_;rintro e w3 ⟨m,hm,rfl,hC3,hg3⟩
        have hm1:0≤m∧m≤9:=by simp only [List.mem_cons,List.not_mem_nil,or_false] at hm;omega
        have ho3:=hoA.apart hg3 (fun k h1 h2=>hoA.neg hgl (by rw [h1,h2]))
        have hgg3:=gb_trans hggA hg3)
     | (at_builtin;refine wpList_app1m rfl _ _ 23 rfl elI rfl ho3 (by show Value.slice (some ⟨w3.heap.size,0,none⟩) 1 1=_;simp) rfl hgg3.size _ HYM.out (by omega) (by omega) ?_;intro b6 c6 w6 ho6 hg6 hat6))
    all_goals
     have hg7:=gb_up hgg3 hg6 (fun b hb=>(ho3.lt b hb).1)
     have hC6:=hC3.turn hg6 (ho3.neg hgl) (HUP.out _ hg7)
     go_roundg r
     case measure=>omega
     case rel =>
      refine ⟨r,ys++[_],t2,rfl,by go_num,rfl,hb2.1,hb2.2,by rw [Hid,List.length_append];have:=HL.out;simp;omega,(fun z hz=>?_),by rw [ints_append];exact ho6,hC6,hg7⟩
      rcases List.mem_append.1 hz with hz | hz
      · exact HY.out z hz
      · rw [List.mem_singleton] at hz
        subst hz
        omega
  · obtain rfl:q=0:=by omega
    go_wp2_with fail
    go_ret
    exact ⟨ys,_,by have:=HL.out;omega,HY.out,rfl,ho,hC,hg⟩
end Go.Proofs.YtggblfnajeikjaaGreatDoor
