/- Joined texts of the proof: MergeC, PlainCm, MergeB, DisR. -/
import Derived.Deep.RegionWith
import Derived.Deep.DeepCutAuto
import Derived.Test.YtggblfnajeikjaaGreatDoorJ8
namespace Go.Proofs.YtggblfnajeikjaaGreatDoor
open Go.RowKit
set_option linter.unusedVariables false
set_option linter.unusedSimpArgs false
set_option maxRecDepth 100000
set_option maxHeartbeats 16000000
theorem sumL_perm {a b:List Int} (h:a.Perm b):sumL a=sumL b:=by
 induction h with
 | nil=>rfl
 | cons x _ ih=>simp only [sumL,ih]
 | swap x y l=>simp only [sumL];omega
 | trans _ _ h1 h2=>rw [h1,h2]
def cmL:Nat→List Int→Int
 | f+1,a :: b :: t=>(a+b)+cmL f (srt (t++[a+b]))
 | _,_=>0
def cm (xs:List Int):Int:=cmL xs.length (srt xs)
def RunsL (S:Int) (s:List Int):Prop:=sumL s=S∧s.length≤8∧∀ x∈s,1≤x
theorem RunsL.srt {S:Int} {s:List Int} (h:RunsL S s):RunsL S (srt s) :=
 ⟨(sumL_perm (srt_perm s)).trans h.1,by rw [srt_length];exact h.2.1,fun x hx=>h.2.2 x ((srt_perm s).mem_iff.1 hx)⟩
theorem sumL_nonneg:∀ {s:List Int},(∀ x∈s,1≤x)→0≤sumL s
 | [],_=>by simp [sumL]
 | x :: t,h=>by
   have h1:=h x (by simp)
   have h2:=sumL_nonneg (s:=t) fun y hy=>h y (by simp [hy])
   simp only [sumL]
   omega
theorem RunsL.pair {S a b:Int} {t:List Int} (h:RunsL S (a :: b :: t)):1≤a∧1≤b∧a+b≤S∧RunsL S (t++[a+b]):=by
 obtain ⟨h1,h2,h3⟩:=h
 have ha:=h3 a (by simp)
 have hb:=h3 b (by simp)
 have ht:=sumL_nonneg (s:=t) fun y hy=>h3 y (by simp [hy])
 simp only [sumL] at h1
 refine ⟨ha,hb,by omega,⟨?_,?_,fun y hy=>?_⟩⟩
 · rw [sumL_append];simp only [sumL];omega
 · simp only [List.length_cons] at h2;simp;omega
 · rcases List.mem_append.1 hy with hy | hy
   · exact h3 y (by simp [hy])
   · rw [List.mem_singleton] at hy;omega
theorem RunsL.of {xs:List Int} (h:lensB xs=true):RunsL (sumL xs) xs∧0≤sumL xs∧sumL xs≤8000:=by
 obtain ⟨h1,h2⟩:=lensB_iff.1 h
 have:=sumL_bd xs h2
 exact ⟨⟨rfl,h1,fun x hx=>(h2 x hx).1⟩,by omega,by omega⟩
theorem cmL_short {f:Nat} {s:List Int} (h:s.length≤1):cmL f s=0:=by
 match f,s,h with
 | 0,_,_=>rfl
 | f+1,[],_=>rfl
 | f+1,[_],_=>rfl
def bk (ws:List Int):Nat→Nat
 | 0=>0
 | k+1=>if ws.getD k 0 < ws.getD (bk ws k) 0 then k else bk ws k
theorem bk_ok {ws:List Int} (h0:0 < ws.length):∀ k,k≤ws.length→bk ws k < ws.length∧∀ j,j < k→ws.getD (bk ws k) 0≤ws.getD j 0
 | 0,_=>⟨h0,fun j hj=>by omega⟩
 | k+1,hk=>by
   obtain ⟨h1,h2⟩:=bk_ok h0 k (by omega)
   rw [bk]
   split
   · rename_i hlt
     refine ⟨by omega,fun j hj=>?_⟩
     by_cases e:j=k
     · subst e;exact Int.le_refl _
     · have:=h2 j (by omega);omega
   · rename_i hge
     refine ⟨h1,fun j hj=>?_⟩
     by_cases e:j=k
     · subst e;omega
     · exact h2 j (by omega)
def minI (ws:List Int):Nat:=bk ws ws.length
def minV (ws:List Int):Int:=ws.getD (minI ws) 0
theorem minI_lt {ws:List Int} (h:0 < ws.length):minI ws < ws.length:=(bk_ok h _ (Nat.le_refl _)).1
theorem minV_get {ws:List Int} (h:0 < ws.length):ws[minI ws]?=some (minV ws):=by
 rw [minV,List.getD_eq_getElem?_getD,List.getElem?_eq_getElem (minI_lt h)];rfl
theorem minV_le {ws:List Int} (h:0 < ws.length):∀ x∈ws,minV ws≤x:=fun x hx=>by
 obtain ⟨j,hj,rfl⟩:=List.getElem_of_mem hx
 have:=(bk_ok h _ (Nat.le_refl _)).2 j hj
 rw [List.getD_eq_getElem?_getD (l:=ws) (i:=j),List.getElem?_eq_getElem hj] at this
 exact this
theorem erase_perm {l:List Int} {i:Nat} (h:i < l.length):(l[i] :: l.eraseIdx i).Perm l:=by
 have e:l=l.take i++l[i] :: l.drop (i+1):=by rw [←List.drop_eq_getElem_cons h,List.take_append_drop]
 rw [List.eraseIdx_eq_take_drop_succ]
 exact (List.perm_middle.symm).trans (List.Perm.of_eq e.symm)
def restL (ws:List Int):List Int:=ws.eraseIdx (minI ws)
theorem restL_perm {ws:List Int} (h:0 < ws.length):(minV ws :: restL ws).Perm ws:=by
 have h1:=minI_lt h
 have h2:ws[minI ws]=minV ws:=by
  have:=minV_get h
  rw [List.getElem?_eq_getElem h1] at this
  exact Option.some.inj this
 have:=erase_perm h1
 rw [h2] at this
 exact this
theorem restL_len {ws:List Int} (h:0 < ws.length):(restL ws).length+1=ws.length:=by
 have:=(restL_perm h).length_eq
 simpa using this
theorem srt_min {ws:List Int} (h:0 < ws.length):srt ws=minV ws :: srt (restL ws):=by
 symm
 refine srt_unique ?_ ?_
 · exact ((srt_perm _).cons _).trans (restL_perm h)
 · refine List.pairwise_cons.2 ⟨fun y hy=>?_,srt_pair _⟩
   have h1:=(srt_perm _).mem_iff.1 hy
   exact minV_le h y ((restL_perm h).mem_iff.1 (List.mem_cons_of_mem _ h1))
def icL:Nat→List Int→Int
 | 0,_=>0
 | f+1,ws=>if 1 < ws.length then (minV ws+minV (restL ws))+icL f (restL (restL ws)++[minV ws+minV (restL ws)]) else 0
theorem icL_cmL:∀ (f:Nat) (ws:List Int),icL f ws=cmL f (srt ws)
 | 0,ws=>rfl
 | f+1,ws=>by
   rw [icL]
   split
   · rename_i h
     have h1:=restL_len (ws:=ws) (by omega)
     rw [srt_min (ws:=ws) (by omega),srt_min (ws:=restL ws) (by omega),cmL,icL_cmL f]
     congr 2
     exact srt_congr ((srt_perm _).symm.append_right _)
   · rename_i h
     rw [cmL_short (by rw [srt_length];omega)]
theorem icL_short {f:Nat} {ws:List Int} (h:ws.length≤1):icL f ws=0:=by rw [icL_cmL,cmL_short (by rw [srt_length];exact h)]
theorem nb_small {f:Nat} {xs:List Int} (h:xs.length < 2):nb f xs=0:=by
 cases f with
 | zero=>rfl
 | succ f=>rw [nb,if_pos h]
theorem nbK_step {g:List Int→Int} {xs:List Int} {i:Nat} (h:1≤i):nbK g xs i=nbS (nbK g xs (i - 1)) (g (xs.take i)+g (xs.drop i)):=by
 obtain ⟨k,rfl⟩:∃ k,i=k+1:=⟨i - 1,by omega⟩
 rfl
theorem i_nb:∀ (f:Nat) (v:Value) (xs:List Int) (w:World),Rd w v (ints xs)→xs.length≤f→f≤8→(∀ x∈xs,1≤x∧x≤1000)→Calls Tryz.prog 89 #[v] w (RetQ (.int .i64 (nb f xs)) w):=by
 intro f
 induction f with
 | zero =>
   intro v xs w h hl hf hb
   have HV:Hid (nb 0 xs=0):=rfl
   obtain ⟨a,n,c,rfl,HN,hnc,hc⟩:=h.formN
   have hn:n < 2:=by have:=HN.out;omega
   generalize nb 0 xs=R at HV ⊢
   clear hb hl
   go_enter Tryz.func89,Tryz.ntmps89
   go_wp2
   go_ret
   exact ⟨ret_int (by rw [HV.out]),Dr.refl _⟩
 | succ f ih =>
   intro v xs w h hl hf hb
   by_cases h2:xs.length < 2
   · have HV:=Lib.hid (nb_small (f:=f+1) h2)
     obtain ⟨a,n,c,rfl,HN,hnc,hc⟩:=h.formN
     have hn:n < 2:=by have:=HN.out;omega
     generalize nb (f+1) xs=R at HV ⊢
     clear hb hl h2 ih
     go_enter Tryz.func89,Tryz.ntmps89
     go_wp2
     go_ret
     exact ⟨ret_int (by rw [HV.out]),Dr.refl _⟩
   · have hnt:=nbTop_le f (by omega)
     have HG:=Lib.hid (fun (ys:List Int) (hy:∀ y∈ys,y∈xs) (hyl:ys.length≤xs.length)=>nb_bd f ys (by omega) (fun y hm=>hb y (hy y hm)) (by omega))
     have HKB:=Lib.hid (fun k=>nbK_bd (xs:=xs) hnt.1 HG.out k)
     have HKS:=Lib.hid (fun i (h1:1≤i)=>nbK_step (g:=nb f) (xs:=xs) h1)
     have HV:Hid (nb (f+1) xs=nbK (nb f) xs (xs.length - 1)+sumL xs):=by rw [Hid,nb,if_neg h2]
     have HIT:=Lib.hid (fun (v:Value) (i:Nat) (W:World) (hW:Rd W v (ints (xs.take i))) (hi:i < xs.length)=>ih v (xs.take i) W hW (by simp;omega) (by omega) (fun x hx=>hb x (List.mem_of_mem_take hx)))
     have HID:=Lib.hid (fun (v:Value) (i:Nat) (W:World) (hW:Rd W v (ints (xs.drop i))) (hi:1≤i)=>ih v (xs.drop i) W hW (by simp;omega) (by omega) (fun x hx=>hb x (List.mem_of_mem_drop hx)))
     have HBT:=Lib.hid (fun i=>HG.out (xs.take i) (fun y hy=>List.mem_of_mem_take hy) (by simp;omega))
     have HBD:=Lib.hid (fun i=>HG.out (xs.drop i) (fun y hy=>List.mem_of_mem_drop hy) (by simp))
     have HZ0:Hid (nbK (nb f) xs (1 - 1) = -1):=rfl
     have hsum:=sumL_bd xs hb
     have HB:=Lib.hid hb
     have HSB:=Lib.hid (fun k=>sumL_bd (xs.take k) fun x hx=>hb x (List.mem_of_mem_take hx))
     generalize nb (f+1) xs=R at HV ⊢
     generalize nb f=g at HKB HKS HV HIT HID HBT HBD HZ0
     obtain ⟨T,hT⟩:∃ T,nbTop f=T:=⟨_,rfl⟩
     rw [hT] at hnt HBT HBD HKB
     obtain ⟨hT0,hT1⟩:=hnt
     obtain ⟨a,n,c,rfl,HN,hnc,hc⟩:=h.formN
     have hn:¬ n < 2:=by have:=HN.out;omega
     have hn8:n≤8:=by have:=HN.out;omega
     rw [←HN.out] at HV HIT hsum
     have HALL:Hid (sumL (xs.take n)=sumL xs):=by rw [Hid,HN.out,List.take_length]
     obtain ⟨hs0,hs1⟩:=hsum
     clear HG hT hl hf hb h2 ih
     go_enter Tryz.func89,Tryz.ntmps89
     go_wp2
     go_loopg [3,4] (n - 1) (fun gk bv iv wr=>∃ (i:Nat) (z:Int),gk=n - i∧1≤i∧i≤n∧bv=.int .i64 z∧iv=.int .i64 i∧Hid (nbK g xs (i - 1)=z)∧Dr w wr)
     case atStart=>exact ⟨1,-1,rfl,Nat.le_refl _,by omega,rfl,rfl,HZ0,Dr.refl _⟩
     case round =>
      obtain ⟨i,z,hg,hi1,hi,rfl,rfl,HZ,hdr⟩:=hrel
      have hz:=HKB.out (i - 1)
      rw [HZ.out] at hz
      obtain ⟨hz0,hz1⟩:=hz
      have hr:=h.dr hdr
      by_cases hlt:i < n
      · obtain ⟨ad,x0,rfl,_,_⟩:=hr.int (k:=0) (by have:=HN.out;omega)
        have hrT:Rd wr (.slice (some ad) i c) (ints (xs.take i)):=by rw [←ints_take];exact hr.take (by omega)
        have hrD:Rd wr (.slice (if c=i then some ad else some (ad.add i)) (n - i) (c - i)) (ints (xs.drop i)):=by rw [←ints_drop];exact hr.cut (by omega)
        have hci:¬ c=i:=by omega
        rw [if_neg hci] at hrD
        have HIT1:=Lib.hid (fun (W:World) hW=>HIT.out (.slice (some ad) i c) i W hW hlt)
        have HID1:=Lib.hid (fun (W:World) hW=>HID.out (.slice (some (ad.add i)) (n - i) (c - i)) i W hW hi1)
        have HST:=Lib.hid (HKS.out i hi1)
        have hbT:=HBT.out i
        have hbD:=HBD.out i
        obtain ⟨p,hp⟩:∃ p,g (xs.take i)=p:=⟨_,rfl⟩
        obtain ⟨q,hq⟩:∃ q,g (xs.drop i)=q:=⟨_,rfl⟩
        rw [hp] at HIT1 HST hbT
        rw [hq] at HID1 HST hbD
        obtain ⟨hp0,hp1⟩:=hbT
        obtain ⟨hq0,hq1⟩:=hbD
        have HST2:Hid (nbK g xs i=nbS z (p+q)):=by rw [Hid,HST.out,HZ.out]
        have i1:(i:Int) < (n:Int):=by omega
        have i2:(i:Int)≤(n:Int):=by omega
        have i3:(i:Int)≤(c:Int):=by omega
        clear hp hq HST
        go_wp2_with fail
        go_quiet ((first
         | (go_at_call_of 89 (Value.slice (some ad) i c);exact quietQ (HIT1.out _ (hrT.drewN _)))
         | (go_at_call_of 89 (Value.slice (some (ad.add i)) (n - i) (c - i));exact quietQ (HID1.out _ (hrD.drewN _)))))
        have hdr2:Dr w wr.drew:=hdr.step _
        by_cases hz2:z < 0
        · have HST3:Hid (nbK g xs (i+1 - 1)=p+q):=by rw [Hid,Nat.add_sub_cancel,HST2.out,nbS,if_pos (.inl hz2)]
          go_wp2_with fail
          go_roundg (n - (i+1))
          case measure=>omega
          case rel=>exact ⟨i+1,p+q,rfl,by omega,by omega,rfl,by go_num,HST3,by first | exact hdr.step _ | exact hdr.trans ⟨_,rfl⟩⟩
        · by_cases hz3:p+q < z
          · have HST3:Hid (nbK g xs (i+1 - 1)=p+q):=by rw [Hid,Nat.add_sub_cancel,HST2.out,nbS,if_pos (.inr hz3)]
            go_wp2_with fail
            go_roundg (n - (i+1))
            case measure=>omega
            case rel=>exact ⟨i+1,p+q,rfl,by omega,by omega,rfl,by go_num,HST3,by first | exact hdr.step _ | exact hdr.trans ⟨_,rfl⟩⟩
          · have HST3:Hid (nbK g xs (i+1 - 1)=z):=by rw [Hid,Nat.add_sub_cancel,HST2.out,nbS,if_neg (by omega)]
            go_wp2_with fail
            go_roundg (n - (i+1))
            case measure=>omega
            case rel=>exact ⟨i+1,z,rfl,by omega,by omega,rfl,by go_num,HST3,by first | exact hdr.step _ | exact hdr.trans ⟨_,rfl⟩⟩
      · obtain rfl:i=n:=by omega
        have HV2:Hid (R=z+sumL xs):=by rw [Hid,HV.out,HZ.out]
        obtain ⟨wo,rfl⟩:∃ wo:World,wo=wr:=⟨_,rfl⟩
        rw [←HALL.out] at HV2
        go_wp2
        go_loopg [3,36] (i+1) (fun gk sv jv wr=>∃ (j:Nat) (y:Int),gk=i+1 - j∧j≤i∧sv=.int .i64 y∧jv=.int .i64 j∧Hid (z+sumL (xs.take j)=y)∧wo=wr)
        case atStart=>exact ⟨0,z,rfl,Nat.zero_le _,rfl,rfl,by simp [Hid,sumL],rfl⟩
        case round =>
         obtain ⟨j,y,hg,hj,rfl,rfl,HY,rfl⟩:=hrel
         have hy : -1≤y∧y≤4088000:=by have h1:=HSB.out j;have h2:=HY.out;simp at h1;omega
         obtain ⟨hy0,hy1⟩:=hy
         by_cases hlt2:j < i
         · obtain ⟨ad,x,rfl,hcx,hx⟩:=hr.int (k:=j) (by have:=HN.out;omega)
           obtain ⟨hx0,hx1⟩:=HB.out x (List.mem_of_getElem? hx.out)
           have HS:Hid (z+sumL (xs.take (j+1))=y+x):=by rw [Hid,sumL_take hx.out,←HY.out];omega
           go_wp2
           go_roundg (i+1 - (j+1))
           case measure=>omega
           case rel=>exact ⟨j+1,y+x,rfl,by omega,rfl,by go_num,HS,rfl⟩
         · obtain rfl:j=i:=by omega
           have HV3:Hid (R=y):=by rw [Hid,HV2.out];exact HY.out
           go_wp2
           go_ret
           exact ⟨ret_int (by rw [HV3.out]),hdr⟩
def RetLen (n:Nat) (w:World) (e:Ending) (w':World):Prop:=∃ a c,e=.returned (.slice a n c)∧Below w.heap.size w w'
theorem small8 {m:Nat} (h:m≤12):(m+1) * 8≤140737488355328∧m+1≤9223372036854775807:=by omega
theorem small24 {m:Nat} (h:m≤12):(m+1) * 24≤140737488355328∧m+1≤9223372036854775807:=by omega
theorem i_rising (v:Value) (xs:List Int) (w:World) (h:Rd w v (ints xs)) (hl:xs.length≤12):Calls Tryz.prog 113 #[v] w (RetLen (runN xs xs.length) w):=by
 obtain ⟨a,n,c,rfl,HN,hnc,hc⟩:=h.formN
 have h12:n≤12:=by have:=HN.out;omega
 rw [←HN.out]
 have hA:Own (w.alloc (.cells #[] 23)) 23 w.heap.size (.slice (some ⟨w.heap.size,0,none⟩) 0 0) []:=by simpa [ints] using Own.lit0 w 23 (Nat.le_refl _)
 have hb0:Below w.heap.size w (w.alloc (.cells #[] 23)):=(Below.refl _ _).alloc (Nat.le_refl _) _
 go_enter Tryz.func113,Tryz.ntmps113
 go_wp2
 go_loopg [3,9] n (fun g vo iv wr=>∃ (i:Nat) (rows:List Value),g=n - i∧i≤n∧iv=.int .i64 i∧Hid (rows.length=runN xs i)∧Own wr 23 w.heap.size vo rows∧Below w.heap.size w wr∧(i=0∨∃ (r0:List Value) (r:Value) (ys:List Int),rows=r0++[r]∧Own wr 3 w.heap.size r (ints ys)∧ys.length≤i))
 case atStart=>exact ⟨0,[],rfl,Nat.zero_le _,rfl,rfl,hA,hb0,.inl rfl⟩
 case round =>
  clear hA hb0
  obtain ⟨i,rows,hg,hi,rfl,HRN,ho,hb,hlast⟩:=hrel
  obtain ⟨ao,co,rfl,hmc,_⟩:=ho.rd.form
  obtain ⟨m,hm⟩:∃ m,rows.length=m:=⟨_,rfl⟩
  rw [hm] at ho hmc ⊢
  have hmi:m≤i:=by have:=HRN.out;have:=runN_le xs i;omega
  have hm24:=small24 (Nat.le_trans hmi (Nat.le_trans hi h12))
  by_cases hlt:i < n
  · obtain ⟨ad,x,rfl,hcx,hx⟩:=(h.below hb).int (k:=i) (by have:=HN.out;omega)
    have i1:(i:Int) < (n:Int):=by omega
    have hcase:(∃ (b:Bool),runB xs i=b∧((i=0∧b=true)∨(∃ (K:Nat) (y:Int),i=K+1∧xs[K]?=some y∧b=decide (x < y)))):=by
     refine ⟨_,rfl,?_⟩
     rcases Nat.eq_zero_or_pos i with h0 | h0
     · exact .inl ⟨h0,by simp [runB,h0]⟩
     · obtain ⟨K,rfl⟩:∃ K,i=K+1:=⟨i - 1,by omega⟩
       have hK:K < xs.length:=by have:=HN.out;omega
       refine .inr ⟨K,_,rfl,List.getElem?_eq_getElem hK,?_⟩
       rw [runB,Nat.add_sub_cancel,getD_ok hx.out,getD_ok (List.getElem?_eq_getElem hK)]
       simp
    obtain ⟨rb,hrb,hcase⟩:=hcase
    have HRS:Hid (runN xs (i+1)=runN xs i+(if rb=true then 1 else 0)):=by rw [Hid,runN,hrb]
    clear hrb
    cases rb with
    | true =>
      have hA:Own (wr.alloc (.cells #[] 3)) 23 w.heap.size (.slice ao m co) rows:=ho.alloc _
      have hE:Own (wr.alloc (.cells #[] 3)) 3 w.heap.size (.slice (some ⟨wr.heap.size,0,none⟩) 0 0) (ints []):=Own.lit0 wr 3 hb.size
      have hbA:Below w.heap.size w (wr.alloc (.cells #[] 3)):=hb.alloc hb.size _
      have hsA:=hbA.size
      rcases hcase with ⟨h0,_⟩ | ⟨K,y,hK,hy,hxy⟩
      all_goals first
       | (have d0:((i:Int) == 0)=true:=by simp [h0]
          clear h0)
       | (subst hK
          have hcy:=(h.below hb).cell_i hy
          rw [add_succ] at hcx
          have i2:(K:Int)+1 < (n:Int):=by omega
          have i5:((K:Int)+1).toNat=K+1:=by omega
          have d0:(((K+1:Nat):Int) == 0)=false:=by simp;omega
          have d0':((K:Int)+1 == 0)=false:=by simp;omega
          have d2:decide (y > x)=true:=hxy.symm
          have i3:(K:Int) < (n:Int):=by omega
          clear hxy hy)
      all_goals
       go_upto_region 7 with (at_builtin;(refine wpList_app1m rfl _ _ 28 rfl elII ?_ hA ?_ ?_ ?_ m ?_ ?_ ?_ ?_);(focus exact rfl);(focus (simp [Act.eval]));(focus exact rfl);(focus exact hsA);(focus exact hm);(focus exact hm24.1);(focus exact hm24.2);intro b5 c5 w5 ho5 hg5 hat5)
       have hE5:=hE.apart hg5 (fun k h1 h2=>hA.elem_ne hE (by decide) k h2 h1)
       have hb5:=hbA.grown hg5 hsA (fun r hr=>(hA.lt r hr).1)
       have HR2:=HRS.out.trans (congrArg (· + 1) (HRN.out.symm.trans hm))
       clear hA hE hbA hsA hg5 hat5 hlast ho hb
       obtain ⟨vE,hvE⟩:∃ vE,Value.slice (some ⟨wr.heap.size,0,none⟩) 0 0=vE:=⟨_,rfl⟩
       rw [hvE] at hE5 ho5
       clear hvE
       obtain ⟨ar,mr,cr,rfl,HMR,_,_⟩:=hE5.rd.formN
       have hOut:=ho5
       have hRow:=hE5
       have hbW:=hb5
       have hgt:(rows++[Value.slice ar mr cr])[m]?=some (Value.slice ar mr cr):=by rw [←hm];simp
       have hPl:m < (rows++[Value.slice ar mr cr]).length:=by simp;omega
       obtain ⟨po,hpo,hcR⟩:=hOut.rd.cell hPl
       have hcr:w5.cell? (po.add m)=some (.slice ar mr cr):=by
        obtain ⟨_,e⟩:=List.getElem?_eq_some_iff.1 hgt
        rw [hcR,e]
       subst hpo
       have hmr:mr≤12:=by have:=HMR.out;first | omega | (simp at this;omega)
       have hy24:=small8 hmr
       have HLy:Hid ((ints ([]:List Int)).length=mr):=by rw [Hid,ints_length];exact HMR.out.symm
       have hsW:w.heap.size≤w5.heap.size:=hbW.size
       have e1:(m:Int) < (m:Int)+1:=by omega
       have e5:IntKind.i64.wrap (m:Int)=(m:Int):=IntWalk.i64_in _ (by omega)
       clear hgt hcR
       go_wp2_with (at_builtin;(refine wpList_app1m rfl _ _ 23 rfl elI ?_ hRow ?_ ?_ ?_ mr ?_ ?_ ?_ ?_);(focus exact rfl);(focus (simp [Act.eval]));(focus exact rfl);(focus exact hsW);(focus exact HLy.out);(focus exact hy24.1);(focus exact hy24.2);intro b7 c7 w7 ho7 hg7 hat7;have hOut7:=hOut.apart hg7 (fun k h1 h2=>hOut.elem_ne hRow (by decide) k h1 h2);have hfz7:=hOut7.frozen rfl m;obtain ⟨po7,hpo7,hcz7⟩:=hOut7.rd.cell hPl;obtain rfl:=Option.some.inj hpo7)
       have hb7:=hbW.grown hg7 hsW (fun r hr=>(hRow.lt r hr).1)
       have hst:=hOut7.set rfl hPl (.slice b7 (mr+1) c7)
       have hne:=hOut7.elem_ne ho7 (by decide)
       have hRow8:=ho7.setCell (p:=po.add m) (fun e=>hne po.block rfl (by rw [e,block_of_add])) (.slice b7 (mr+1) c7)
       have hset:(rows++[Value.slice ar mr cr]).set m (.slice b7 (mr+1) c7)=rows++[.slice b7 (mr+1) c7]:=by rw [←hm];simp
       have hOut8:=hst.1
       rw [hset] at hOut8
       have hb8:=hb7.grown hst.2 hb7.size (fun r hr=>(hOut7.lt r hr).1)
       first | go_roundg (n - (i+1)) | go_roundg (n - (K+1+1))
       case measure=>omega
       case rel=>exact ⟨_,_,rfl,by omega,by go_num,by rw [Hid,HR2];simp [hm],hOut8,hb8,.inr ⟨rows,_,([]:List Int)++[x],rfl,by rw [ints_append];exact hRow8,by simp <;> omega⟩⟩
    | false =>
      rcases hcase with ⟨_,h0⟩ | ⟨K,y,hK,hy,hxy⟩
      · cases h0
      · rcases hlast with h0 | ⟨r0,r,ys,rfl,hRow,hys⟩
        · omega
        obtain ⟨ρ,hρ⟩:∃ ρ,r0.length=ρ:=⟨_,rfl⟩
        have hmρ:m=ρ+1:=by rw [←hm,←hρ];simp
        subst hmρ
        have HR2:Hid (ρ+1=runN xs (i+1)):=by have:=HRS.out;have:=HRN.out;rw [Hid];simp at *;omega
        obtain ⟨ar,mr,cr,rfl,HMR,_,_⟩:=hRow.rd.formN
        subst hK
        have hcy:=(h.below hb).cell_i hy
        rw [add_succ] at hcx
        have i2:(K:Int)+1 < (n:Int):=by omega
        have i5:((K:Int)+1).toNat=K+1:=by omega
        have d0:(((K+1:Nat):Int) == 0)=false:=by simp;omega
        have d0':((K:Int)+1 == 0)=false:=by simp;omega
        have d2:decide (y > x)=false:=hxy.symm
        have i3:(K:Int) < (n:Int):=by omega
        have hOut:=ho
        have hbW:=hb
        clear hxy hy
        have hgt:(r0++[Value.slice ar mr cr])[ρ]?=some (Value.slice ar mr cr):=by rw [←hρ];simp
        have hPl:ρ < (r0++[Value.slice ar mr cr]).length:=by simp;omega
        obtain ⟨po,hpo,hcR⟩:=hOut.rd.cell hPl
        have hcr:wr.cell? (po.add ρ)=some (.slice ar mr cr):=by
         obtain ⟨_,e⟩:=List.getElem?_eq_some_iff.1 hgt
         rw [hcR,e]
        subst hpo
        have hmr:mr≤12:=by have:=HMR.out;first | omega | (simp at this;omega)
        have hy24:=small8 hmr
        have HLy:Hid ((ints ys).length=mr):=by rw [Hid,ints_length];exact HMR.out.symm
        have hsW:w.heap.size≤wr.heap.size:=hbW.size
        have e1:(ρ:Int) < (ρ:Int)+1:=by omega
        have e5:IntKind.i64.wrap (ρ:Int)=(ρ:Int):=IntWalk.i64_in _ (by omega)
        clear hgt hcR
        go_wp2_with (at_builtin;(refine wpList_app1m rfl _ _ 23 rfl elI ?_ hRow ?_ ?_ ?_ mr ?_ ?_ ?_ ?_);(focus exact rfl);(focus (simp [Act.eval]));(focus exact rfl);(focus exact hsW);(focus exact HLy.out);(focus exact hy24.1);(focus exact hy24.2);intro b7 c7 w7 ho7 hg7 hat7;have hOut7:=hOut.apart hg7 (fun k h1 h2=>hOut.elem_ne hRow (by decide) k h1 h2);have hfz7:=hOut7.frozen rfl ρ;obtain ⟨po7,hpo7,hcz7⟩:=hOut7.rd.cell hPl;obtain rfl:=Option.some.inj hpo7)
        have hb7:=hbW.grown hg7 hsW (fun r hr=>(hRow.lt r hr).1)
        have hst:=hOut7.set rfl hPl (.slice b7 (mr+1) c7)
        have hne:=hOut7.elem_ne ho7 (by decide)
        have hRow8:=ho7.setCell (p:=po.add ρ) (fun e=>hne po.block rfl (by rw [e,block_of_add])) (.slice b7 (mr+1) c7)
        have hset:(r0++[Value.slice ar mr cr]).set ρ (.slice b7 (mr+1) c7)=r0++[.slice b7 (mr+1) c7]:=by rw [←hρ];simp
        have hOut8:=hst.1
        rw [hset] at hOut8
        have hb8:=hb7.grown hst.2 hb7.size (fun r hr=>(hOut7.lt r hr).1)
        go_roundg (n - (K+1+1))
        case measure=>omega
        case rel=>exact ⟨K+1+1,_,rfl,by omega,by go_num,by have:=HR2.out;rw [Hid];simp;omega,hOut8,hb8,.inr ⟨r0,_,ys++[x],rfl,by rw [ints_append];exact hRow8,by simp <;> omega⟩⟩
  · obtain rfl:i=n:=by omega
    go_wp2
    go_ret
    exact ⟨_,_,by rw [←HRN.out,hm];rfl,hb⟩
theorem i_RunsOf (v:Value) (xs:List Int) (w:World) (h:Rd w v (ints xs)) (hl:xs.length≤12):Calls Tryz.prog 58 #[v] w (RetB (.int .i64 (runN xs xs.length:Nat)) w):=by
 have HO:=i_isTwelve v xs w h
 rw [show decide (xs.length≤12)=true by simpa using hl] at HO
 have HOK:=Lib.hid HO
 have HC:=Lib.hid (i_rising v xs w h hl)
 obtain ⟨a,n,c,rfl,HN,hnc,hc⟩:=h.formN
 clear HO
 generalize runN xs xs.length=z at *
 go_enter Tryz.func58,Tryz.ntmps58
 go_wp2_with (first
  | (go_at_call 56;refine HOK.out.mono ?_;rintro e w' ⟨rfl,rfl⟩)
  | (go_at_call 113;refine HC.out.mono ?_;rintro e w2 ⟨a2,c2,rfl,hb2⟩))
 go_ret
 exact ⟨rfl,hb2⟩
end Go.Proofs.YtggblfnajeikjaaGreatDoor
