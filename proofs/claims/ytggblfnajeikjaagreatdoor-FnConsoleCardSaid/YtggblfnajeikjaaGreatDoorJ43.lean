/- Joined texts of the proof: ConF, ConN, ConU, ConW. -/
import Derived.Test.YtggblfnajeikjaaGreatDoorJ30
import Derived.Test.YtggblfnajeikjaaGreatDoorJ39
namespace Go.Proofs.YtggblfnajeikjaaGreatDoor
open Go.RowKit
set_option linter.unusedVariables false
set_option linter.unusedSimpArgs false
set_option maxRecDepth 100000
set_option maxHeartbeats 16000000
theorem fmtK_len {n:Int} {X:List (List Int)} (hn:1≤n∧n≤8) (h:∀ p∈X,netRow n p=true):∀ k,k≤X.length→(fmtK n X k).length≤21+42 * k
 | 0,_=>by have:=(itoa_len (n:=n) (by unfold I64;omega)).2;simp only [fmtK,List.length_append,List.length_singleton];omega
 | k+1,hk=>by
   have ih:=fmtK_len hn h k (by omega)
   obtain ⟨a,b,e,ha,hb,_⟩:=netRow_iff (h X[k] (List.getElem_mem _))
   have l1:=(itoa_len (n:=a) (by unfold I64;omega)).2
   have l2:=(itoa_len (n:=b) (by unfold I64;omega)).2
   have e2:X.getD k []=[a,b]:=by rw [List.getD_eq_getElem?_getD,List.getElem?_eq_getElem (by omega),e];rfl
   rw [fmtK,e2]
   simp only [fmtPair,List.length_append,List.length_singleton,List.getD_cons_zero,List.getD_cons_succ]
   omega
theorem i_FormatNetwork (n:Int) (hn:I64 n) (v:Value) (xss:List (List Int)) (w:World) (h:Rd2 w v xss) (hok:netOk n xss=true) (ht:Tab w) :
 Calls Tryz.prog 43 #[.agg #[.int .i64 n,v]] w (RetB (.string (bstr (fmtNet (n,xss)))) w):=by
 obtain ⟨hn8,hl,hrows⟩:=netOk_iff.1 hok
 obtain ⟨a,c,rfl,hlc,hc⟩:=h.form
 obtain ⟨m,hm⟩:∃ m,xss.length=m:=⟨_,rfl⟩
 have HFE:Hid (fmtNet (n,xss)=fmtK n xss m):=by rw [Hid,←hm];rfl
 have HLN:=Lib.hid (fmtK_len hn8 hrows)
 rw [hm] at h hlc hl HLN
 have HM:=Lib.hid hm
 have HR:=Lib.hid hrows
 have HNK:=Lib.hid (fun (W:World) (hW:Rd2 W (.slice a m c) xss)=>hok ▸ i_NetworkOk n _ xss W hW hn)
 obtain ⟨wa,bx,hwa,hbx,hXa,hza,hba⟩:=newBox w (.cells #[.int .i64 n,.slice a m c] 30)
 have HWA:=Lib.hid hwa
 have HBX:=Lib.hid hbx
 have h0:=h.below hba
 have q0:=box_cell hXa 0
 have q1:=box_cell hXa 1
 have HFI:Hid (∀ (x:Int),0≤x→x≤8→∀ W,Below wa.heap.size wa W→Calls Tryz.prog 14 #[.int .i64 x] W (RetB (.string (bstr (Lib.itoa x))) W)):=fun x h1 h2 W hW=>I_FormatInt W x (by unfold I64;omega) ((ht.below hba).below hW)
 rw [hm]
 clear hm hrows hok hwa hbx
 go_enter Tryz.func43,Tryz.ntmps43
 go_upto_region 1 with (fail)
 rw [HWA.out,HBX.out]
 go_upto_region 3 with (go_at_call 40;refine (HNK.out _ h0).mono ?_;rintro e w1 ⟨rfl,b1⟩)
 have hX1:w1.heap[bx]?=_:=(b1.block bx hza).trans hXa
 have p0:=box_cell hX1 0
 have p1:=box_cell hX1 1
 obtain ⟨N,hN⟩:∃ N,bstr (Lib.itoa n)=N:=⟨_,rfl⟩
 have hNs:N.size≤20:=by rw [←hN,bstr_size];exact (itoa_len ⟨by omega,by omega⟩).2
 have HFN:=HFI.out n (by omega) (by omega)
 rw [hN] at HFN
 have HFN:=Lib.hid HFN
 have HNN:=Lib.hid hN
 clear hN q0 q1
 go_upto_region 4 with (go_at_call 14;refine (HFN.out _ b1).mono ?_;rintro e w2 ⟨rfl,b2⟩)
 have hX2:w2.heap[bx]?=_:=(b2.block bx (box_lt hX1)).trans hX1
 have b12:=b1.trans (b2.mono b1.size)
 have bt2:=hba.trans (b12.mono hba.size)
 have h2:=h.below bt2
 have p2:=box_cell hX2 1
 have HS0:Hid (N++⟨#[58]⟩=bstr (fmtK n xss 0)):=by rw [Hid,←HNN.out];exact str_app _ [58]
 obtain ⟨S0,hS⟩:∃ S0,N++(⟨#[58]⟩:ByteArray)=S0:=⟨_,rfl⟩
 rw [hS] at HS0 ⊢
 clear hS HFN p0 p1 b1 b2
 go_wp2_with fail
 go_loopg [3,16] m (fun gq vs iv wr=>∃ (k:Nat) (S:ByteArray),gq=m - k∧k≤m∧iv=.int .i64 (k:Int)∧vs=.string S∧Hid (S=bstr (fmtK n xss k))∧Below w2.heap.size w2 wr)
 case atStart=>exact ⟨0,S0,rfl,Nat.zero_le _,rfl,rfl,HS0,Below.refl _ _⟩
 case round =>
  clear HS0 p2
  obtain ⟨k,S,hgq,hk,rfl,rfl,HS,hb⟩:=hrel
  have hSs:S.size≤2600:=by have:=HLN.out k hk;rw [HS.out,bstr_size];omega
  by_cases hlt:k < m
  · have i0:(k:Int) < (m:Int):=by omega
    have hkx:k < xss.length:=by have:=HM.out;omega
    obtain ⟨x,y,hxy,hx,hy,_⟩:=netRow_iff (HR.out _ (List.getElem_mem hkx))
    have hxk:xss[k]?=some [x,y]:=by rw [List.getElem?_eq_getElem hkx,hxy]
    obtain ⟨ad,z,d,rfl,hcr,hcx,hcy⟩:=(h2.below hb).two hxk
    obtain ⟨X,hX⟩:∃ X,bstr (Lib.itoa x)=X:=⟨_,rfl⟩
    obtain ⟨Y,hY⟩:∃ Y,bstr (Lib.itoa y)=Y:=⟨_,rfl⟩
    have hXs:X.size≤20:=by rw [←hX,bstr_size];exact (itoa_len ⟨by omega,by omega⟩).2
    have hYs:Y.size≤20:=by rw [←hY,bstr_size];exact (itoa_len ⟨by omega,by omega⟩).2
    have HFX:=HFI.out x (by omega) (by omega)
    have HFY:=HFI.out y (by omega) (by omega)
    rw [hX] at HFX
    rw [hY] at HFY
    have HFX:=Lib.hid HFX
    have HFY:=Lib.hid HFY
    have HST:Hid (S++((⟨#[32]⟩:ByteArray)++X++(⟨#[45]⟩:ByteArray)++Y)=bstr (fmtK n xss (k+1))):=by
     have e:xss.getD k []=[x,y]:=by rw [List.getD_eq_getElem?_getD,hxk];rfl
     rw [Hid,HS.out,←hX,←hY,fmtK,e]
     show bstr _++(bstr [32]++bstr _++bstr [45]++bstr _)=_
     rw [bstr_app,bstr_app,bstr_app,bstr_app]
     simp [fmtPair]
    have b02:Below wa.heap.size wa wr:=b12.trans (hb.mono b12.size)
    have HT:Hid (∀ wx:World,Below wr.heap.size wr wx→wx.cell? z=some (.int .i64 x)∧wx.cell? ⟨z.block,z.off+(0+1),none⟩=some (.int .i64 y)∧Below wa.heap.size wa wx):=fun wx hbx=>⟨(hbx.cell (World.block_lt_of_cell? _ _ hcx)).trans hcx,(hbx.cell (World.block_lt_of_cell? _ _ hcy)).trans hcy,b02.trans (hbx.mono b02.size)⟩
    have b02d:Below wa.heap.size wa wr.drew:=⟨b02.os,b02.tape,b02.output,b02.size,b02.block⟩
    clear hX hY hxy hxk hx hy
    have l1:¬ 9223372036854775807 < 1+X.size:=by omega
    have l2:¬ 9223372036854775807 < 1+X.size+1:=by omega
    have l3:¬ 9223372036854775807 < 1+X.size+1+Y.size:=by omega
    have l4:¬ 9223372036854775807 < S.size+(1+X.size+1+Y.size):=by omega
    go_upto_region 7 with (fail)
    go_region_held3 (fun wx=>wx.cell? z=some (.int .i64 x)∧wx.cell? ⟨z.block,z.off+(0+1),none⟩=some (.int .i64 y)∧Below wa.heap.size wa wx)
     (first | exact HT.out _ g6 | exact HT.out _ g5 | go_keep)
     (first
      | (go_at_call 14;(with_reducible refine (HFX.out _ (show _∧_∧_ from by assumption).2.2).mono ?_);rintro e w5 ⟨rfl,hb5⟩;have g5:Below wr.heap.size wr w5:=(by first | exact ⟨hb5.os,hb5.tape,hb5.output,hb5.size,hb5.block⟩ | exact g6.trans ((show Below w6.heap.size w6 w5 from ⟨hb5.os,hb5.tape,hb5.output,hb5.size,hb5.block⟩).mono g6.size)))
      | (go_at_call 14;(with_reducible refine (HFY.out _ (show _∧_∧_ from by assumption).2.2).mono ?_);rintro e w6 ⟨rfl,hb6⟩;have g6:Below wr.heap.size wr w6:=(by first | exact ⟨hb6.os,hb6.tape,hb6.output,hb6.size,hb6.block⟩ | exact g5.trans ((show Below w5.heap.size w5 w6 from ⟨hb6.os,hb6.tape,hb6.output,hb6.size,hb6.block⟩).mono g5.size))))
    all_goals
     go_wp2_with fail
     go_roundg (m - (k+1))
     case measure=>omega
     case rel =>
      first
       | exact ⟨k+1,_,rfl,by omega,by go_num,rfl,HST,hb.trans (Below.mono ⟨g6.os,g6.tape,g6.output,g6.size,g6.block⟩ hb.size)⟩
       | exact ⟨k+1,_,rfl,by omega,by go_num,rfl,HST,hb.trans (Below.mono ⟨g5.os,g5.tape,g5.output,g5.size,g5.block⟩ hb.size)⟩
  · obtain rfl:k=m:=by omega
    go_wp2_with fail
    go_ret
    exact ⟨by rw [HFE.out,←HS.out];rfl,bt2.trans (hb.mono bt2.size)⟩
theorem i_FormatNetworkNo (n:Int) (hn:I64 n) (v:Value) (xss:List (List Int)) (w:World) (h:Rd2 w v xss) (hok:netOk n xss=false) :
 Calls Tryz.prog 43 #[.agg #[.int .i64 n,v]] w (RetB (.string ⟨#[]⟩) w):=by
 obtain ⟨a,c,rfl,hlc,hc⟩:=h.form
 obtain ⟨m,hm⟩:∃ m,xss.length=m:=⟨_,rfl⟩
 rw [hm] at h
 have HNK:=Lib.hid (fun (W:World) (hW:Rd2 W (.slice a m c) xss)=>hok ▸ i_NetworkOk n _ xss W hW hn)
 obtain ⟨wa,bx,hwa,hbx,hXa,hza,hba⟩:=newBox w (.cells #[.int .i64 n,.slice a m c] 30)
 have HWA:=Lib.hid hwa
 have HBX:=Lib.hid hbx
 have h0:=h.below hba
 have q0:=box_cell hXa 0
 have q1:=box_cell hXa 1
 rw [hm]
 clear hm hwa hbx hok
 go_enter Tryz.func43,Tryz.ntmps43
 go_upto_region 1 with (fail)
 rw [HWA.out,HBX.out]
 go_wp2_with (go_at_call 40;refine (HNK.out _ h0).mono ?_;rintro e w1 ⟨rfl,b1⟩)
 go_ret
 exact ⟨rfl,hba.trans (b1.mono hba.size)⟩
theorem f_Split (s:ByteArray) (hs:s.size≤1048576) (c:UInt8) (W:World) (ht:TabE W):Calls Tryz.prog 47 #[.string s,.string ⟨#[c]⟩] W fun e w'=>∃ v,e=.returned v∧Own w' 9 W.heap.size v (strs (splitR c s.data.toList))∧Below W.heap.size W w':=by
 obtain ⟨m,hm⟩:=ht.max
 obtain ⟨ws,hws⟩:∃ ws,splitR c s.data.toList=ws:=⟨_,rfl⟩
 have hwl:ws.length≤1048577:=by have:=splitR_length_le c s.data.toList;rw [hws,bytes_len] at this;omega
 refine (Tryz.strings_Split s ⟨#[c]⟩ m W (by omega) hm (Nat.le_refl _)).mono fun e w' h=>?_
 obtain ⟨rfl,rfl⟩:=h
 have hc:Lib.countB s ⟨#[c]⟩=s.data.toList.count c:=Lib.count_one c _
 have hd:(Lib.splitB ⟨#[c]⟩ 0 (Lib.countB s ⟨#[c]⟩) s).map (·.data.toList)=ws:=by
  rw [Lib.splitB_data,hc,←hws]
  exact splitK_eq c _
 have hv:(Lib.splitB ⟨#[c]⟩ 0 (Lib.countB s ⟨#[c]⟩) s).map Value.string=strs ws:=by
  rw [←hd,strs,List.map_map]
  exact List.map_congr_left fun x _=>by simp [bstr]
 have hl:Lib.countB s ⟨#[c]⟩+1=ws.length:=by
  have h1:=Lib.splitB_all ⟨#[c]⟩ (Nat.le_refl _) 0 (Lib.countB s ⟨#[c]⟩) s rfl
  rw [←h1,←hd,List.length_map]
 rw [hv,hl,hws]
 exact ⟨_,rfl,own_strs ws (heap_alloc_new W _) (Nat.le_refl _) (by omega),(Below.refl _ _).alloc (Nat.le_refl _) _⟩
theorem f_Trim (x:List UInt8) (hx:x.length≤1048576) (W:World):Calls Tryz.prog 228 #[.string (bstr x),.string ⟨#[58]⟩] W fun e w'=>e=.returned (.string (bstr (Lib.trimSuffix x [58])))∧w'=W:=by
 have:=Tryz.strings_TrimSuffix (bstr x) ⟨#[58]⟩ W (by rw [bstr_size];omega)
 simpa [bstr] using this
theorem f_Cut (x:List UInt8) (hx:x.length≤1048576) (W:World) (ht:TabE W):Calls Tryz.prog 229 #[.string (bstr x),.string ⟨#[45]⟩] W fun e w'=>e=.returned (.tuple #[.string (bstr (Lib.cut x [45]).1),.string (bstr (Lib.cut x [45]).2.1),.bool (Lib.cut x [45]).2.2])∧Below W.heap.size W w':=by
 obtain ⟨m,hm⟩:=ht.max
 refine (Tryz.strings_Cut (bstr x) ⟨#[45]⟩ m W (by rw [bstr_size];omega) hm).mono fun e w' h=>?_
 obtain ⟨rfl,n,rfl⟩:=h
 refine ⟨by simp [bstr],⟨rfl,rfl,rfl,Nat.le_refl _,fun _ _=>rfl⟩⟩
theorem cut_le (x:List UInt8):(Lib.cut x [45]).1.length≤x.length∧(Lib.cut x [45]).2.1.length≤x.length:=by
 unfold Lib.cut
 split
 · simp only [List.length_take,List.length_drop];omega
 · simp
theorem readPairs_snoc:∀ {a:List (List UInt8)} {x:List UInt8} {p:List Int} {X:List (List Int)},readPairs a=some X→readPair x=some p→readPairs (a++[x])=some (X++[p])
 | [],x,p,X,h,h2=>by cases h;simp [readPairs,h2]
 | y :: r,x,p,X,h,h2=>by
   rw [readPairs] at h
   split at h
   · rename_i q ps h3 h4
     cases h
     rw [List.cons_append,readPairs,h3,readPairs_snoc h4 h2]
     rfl
   · cases h
theorem readPairs_no:∀ {a:List (List UInt8)} {x:List UInt8},x∈a→readPair x=none→readPairs a=none
 | y :: r,x,h,h2=>by
   rw [readPairs]
   rcases List.mem_cons.1 h with rfl | h
   · rw [h2]
   · rw [readPairs_no h h2]
     cases readPair y <;> rfl
theorem readPairs_len:∀ {a:List (List UInt8)} {X:List (List Int)},readPairs a=some X→X.length=a.length
 | [],X,h=>by cases h;rfl
 | y :: r,X,h=>by
   rw [readPairs] at h
   split at h
   · rename_i q ps h3 h4
     cases h
     simp [readPairs_len h4]
   · cases h
theorem parseNet_no {l h:List UInt8} {t:List (List UInt8)} (e:splitR 32 l=h :: t) (h2:parseI (Lib.trimSuffix h [58])=none∨readPairs t=none):parseNet l=none:=by
 rw [parseNet,e]
 simp only [List.headD_cons,List.tail_cons]
 rcases h2 with h2 | h2
 · rw [h2]
 · rw [h2]
   cases parseI (Lib.trimSuffix h [58]) <;> rfl
theorem parseNet_yes {l h:List UInt8} {t:List (List UInt8)} {n:Int} {X:List (List Int)} (e:splitR 32 l=h :: t) (h2:parseI (Lib.trimSuffix h [58])=some n) (h3:readPairs t=some X):parseNet l=if netOk n X=true∧fmtNet (n,X)=l then some (n,X) else none:=by
 rw [parseNet,e]
 simp only [List.headD_cons,List.tail_cons,h2,h3]
theorem i_ParseI (x:List UInt8) (hx:x.length≤1048576) (W:World) (ht:TabE W):Calls Tryz.prog 48 #[.string (bstr x)] W (RetPI (parseI x) W):=by
 have:=i_ParseInt (bstr x) (by rw [bstr_size];omega) W ht
 simpa [bstr] using this
theorem i_ParseNetwork (s:ByteArray) (hs:s.size≤10000) (w:World) (ht:TabE w):Calls Tryz.prog 196 #[.string s] w (RetM (parseNet s.data.toList) w):=by
 obtain ⟨h0,t0,hws⟩:=splitR_ne 32 s.data.toList
 have HWM:Hid (∀ x∈h0 :: t0,x.length≤10000):=by
  have h1:=splitR_mem 32 s.data.toList
  rw [hws,bytes_len] at h1
  exact fun x hx=>Nat.le_trans (h1 x hx) hs
 have htl:t0.length≤10000:=by have:=splitR_length_le 32 s.data.toList;rw [hws,bytes_len] at this;simp at this;omega
 have HSP:=Lib.hid (fun (W:World) (hW:TabE W)=>f_Split s (by omega) 32 W hW)
 rw [hws] at HSP
 have HNO:=Lib.hid (fun h2=>parseNet_no hws h2)
 have HYS:=Lib.hid (fun (n:Int) (X:List (List Int)) h2 h3=>parseNet_yes (n:=n) (X:=X) hws h2 h3)
 clear hws
 generalize hpl:parseNet s.data.toList=R at *
 clear hpl
 obtain ⟨w0,B,hw0,hB,hA0,hz0,hb0⟩:=newBox w (.cells #[.int .i64 0,.slice none 0 0] 30)
 have HW0:=Lib.hid hw0
 have HBB:=Lib.hid hB
 have ht0:=ht.below hb0
 clear hw0 hB
 go_enter Tryz.func196,Tryz.ntmps196
 go_upto_region 1 with (fail)
 rw [HW0.out,HBB.out]
 go_upto_region 2 with (go_at_call 47;refine (HSP.out _ ht0).mono ?_;rintro e w1 ⟨v1,rfl,o1,b1⟩)
 obtain ⟨a1,n1,c1,rfl,HN1,hnc,hc9⟩:=o1.rd.formS
 have hn1:n1=t0.length+1:=HN1.out
 obtain ⟨ad,x0,rfl,hc0,hx0⟩:=o1.rd.text (k:=0) (by simp)
 obtain rfl:x0=h0:=by have:=hx0.out;simpa using this.symm
 replace hc0:w1.cell? ad=some (.string (bstr x0)):=by simpa [Addr.add] using hc0
 have hA1:w1.heap[B]?=_:=(b1.block B hz0).trans hA0
 have bt1:=hb0.trans (b1.mono hb0.size)
 have ht1:=ht.below bt1
 have HTR:=Lib.hid (f_Trim x0 (by have:=HWM.out x0 (.head _);omega) w1)
 have HPI:=Lib.hid (i_ParseI (Lib.trimSuffix x0 [58]) (by have:=HWM.out x0 (.head _);have:=Lib.trimSuffix_le x0 [58];omega) w1 ht1)
 have i0:(0:Int) < (n1:Int):=by omega
 have zB:=box_lt hA1
 cases hp:parseI (Lib.trimSuffix x0 [58]) with
 | none =>
   rw [hp] at HPI
   obtain rfl:=HNO.out (.inl hp)
   clear hp HNO HYS
   go_upto_if 28 with (first
    | (go_at_call 228;refine HTR.out.mono ?_;rintro e w' ⟨rfl,rfl⟩)
    | (go_at_call 48;refine HPI.out.mono ?_;rintro e w2 ⟨rfl,b2⟩))
   have hA2:w2.heap[B]?=_:=(b2.block B zB).trans hA1
   obtain ⟨c0,c1,f0,f1,r0,r1,oz,bz⟩:=netRes (n:=0) hA2 (OwnP.nil _ _) (Nat.le_of_eq HBB.out) (bt1.trans (b2.mono bt1.size))
   go_wp2_with fail
   exact bodyPost_ret (v:=.tuple #[.agg #[.int .i64 0,.slice none 0 0],.bool false]) (by simp [results,Tryz.results196,go_sem,r0,r1]) rfl ⟨_,_,_,rfl,oz,bz⟩
 | some n =>
   rw [hp] at HPI
   have hnI:I64 n:=(parseI_iff.1 hp).1
   replace HNO:Hid (readPairs t0=none→none=R):=fun h=>(HNO.out (.inr h)).symm
   have HYS2:Hid (∀ X,readPairs t0=some X→R=if netOk n X=true∧fmtNet (n,X)=s.data.toList then some (n,X) else none):=fun X hX=>HYS.out n X hp hX
   clear hp HYS
   obtain ⟨m,hm⟩:∃ m,t0.length=m:=⟨_,rfl⟩
   rw [hm] at hn1 htl
   have HM:=Lib.hid hm
   clear hm
   subst hn1
   go_upto_region 5 with (first
    | (go_at_call 228;refine HTR.out.mono ?_;rintro e w' ⟨rfl,rfl⟩)
    | (go_at_call 48;refine HPI.out.mono ?_;rintro e w2 ⟨rfl,b2⟩))
   have hA2:w2.heap[B]?=_:=(b2.block B zB).trans hA1
   have bt2:=bt1.trans (b2.mono bt1.size)
   have o2:=o1.below b2
   obtain ⟨w3,bo,hw3,hbo,hO3,hz3,hb3⟩:=newBox w2 (.cells #[.int .i64 n,.slice none 0 0] 30)
   have HW3:=Lib.hid hw3
   have HBO:=Lib.hid hbo
   have hBo:B < bo:=by have:=box_lt hA2;omega
   have hwo:w.heap.size≤bo:=by have:=bt2.size;omega
   have hA3:w3.heap[B]?=_:=(hb3.block B (box_lt hA2)).trans hA2
   have bt3:=bt2.trans (hb3.mono bt2.size)
   have hnc':1≤c1:=by omega
   clear hw3 hbo o1 b1 b2 hA1 hA2 HTR HPI hc0 bt1 ht1 ht0
   go_upto_region 6 with (fail)
   rw [HW3.out,HBO.out]
   go_wp2_with fail
   all_goals
    have ot:=(o2.cut (k:=1) (by omega)).rd
    rw [show (strs (x0 :: t0)).drop 1=strs t0 from rfl,show m+1 - 1=m by omega] at ot
    first
     | (rw [if_neg h,Option.map_some,add_succ,show (⟨ad.block,ad.off+(0+1),none⟩:Addr)=⟨ad.block,ad.off+1,none⟩ from rfl] at ot
        obtain ⟨p1,hp1⟩:∃ p,(some (⟨ad.block,ad.off+1,none⟩:Addr))=p:=⟨_,rfl⟩)
     | (rw [if_pos h] at ot
        simp only [h,Nat.sub_self] at ot
        obtain ⟨p1,hp1⟩:∃ p,some ad=p:=⟨_,rfl⟩)
    rw [hp1] at ot ⊢
    clear hp1 h
    go_loopg [35] m (fun g iv wr=>∃ (q:Nat) (ao:Option Addr) (mo co:Nat) (X:List (List Int)),g=m - q∧q≤m∧iv=.int .i64 (q:Int)∧Hid (readPairs (t0.take q)=some X)∧wr.heap[bo]?=some (.cells #[.int .i64 n,.slice ao mo co] 30 (0,0))∧OwnP wr (bo+1) (.slice ao mo co) X∧Below bo w3 wr)
    case atStart=>exact ⟨0,none,0,0,[],rfl,Nat.zero_le _,rfl,rfl,hO3,OwnP.nil _ _,Below.refl _ _⟩
    case round =>
     clear hO3
     obtain ⟨wl,rfl⟩:∃ wl:World,wl=wr:=⟨_,rfl⟩
     obtain ⟨q,ao,mo,co,X,hg,hq,rfl,HX,hO,ho,hb⟩:=hrel
     have hb2r:Below w2.heap.size w2 wl:=hb3.trans (by rw [HBO.out];exact hb)
     have be:=bt3.trans (hb.mono hwo)
     have htl':=ht.below be
     have hAl:wl.heap[B]?=_:=(hb.block B hBo).trans hA3
     obtain ⟨rows,hov,hrp,HLR,HMO⟩:=OwnP.rowsOf ho
     have hXl:=readPairs_len HX.out
     have hmo:mo≤10000:=by have h1:=HMO.out;have h2:=HM.out;rw [hXl,List.length_take] at h1;omega
     clear ho hXl
     by_cases hlt:q < m
     · obtain ⟨adx,x,rfl,hcx,hx⟩:=(ot.below hb2r).text (k:=q) (by have:=HM.out;omega)
       have hxm:x∈t0:=List.mem_of_getElem? hx.out
       have hxl:=HWM.out x (.tail _ hxm)
       have HTK:Hid (t0.take (q+1)=t0.take q++[x]):=take_snoc' hx.out
       have hcl:=cut_le x
       have HCU:=Lib.hid (f_Cut x (by omega) wl htl')
       obtain ⟨ca,hca⟩:∃ ca,(Lib.cut x [45]).1=ca:=⟨_,rfl⟩
       obtain ⟨cb,hcb⟩:∃ cb,(Lib.cut x [45]).2.1=cb:=⟨_,rfl⟩
       obtain ⟨cf,hcf⟩:∃ cf,(Lib.cut x [45]).2.2=cf:=⟨_,rfl⟩
       have HRP:Hid (readPair x=match parseI ca,parseI cb with | some a,some b=>some [a,b] | _,_=>none):=by rw [Hid,←hca,←hcb];rfl
       rw [hca,hcb,hcf] at HCU
       rw [hca,hcb] at hcl
       have HPA:=Lib.hid (fun (W:World) (hW:Below w.heap.size w W)=>i_ParseI ca (by omega) W (ht.below hW))
       have HPB:=Lib.hid (fun (W:World) (hW:Below w.heap.size w W)=>i_ParseI cb (by omega) W (ht.below hW))
       have HNX:Hid (readPair x=none→none=R):=fun h=>HNO.out (readPairs_no hxm h)
       have i1:(q:Int) < (m:Int):=by omega
       have HBL:Hid (∀ W,Below wl.heap.size wl W→W.heap[B]?=some (.cells #[.int .i64 0,.slice none 0 0] 30 (0,0))∧Below w.heap.size w W):=fun W hW=>⟨(hW.block B (box_lt hAl)).trans hAl,be.trans (hW.mono be.size)⟩
       clear hca hcb hcf hxm hx hcl hxl HNO hAl
       cases hA:parseI ca with
       | none =>
         rw [hA] at HPA HRP
         obtain rfl:=HNX.out HRP.out
         obtain ⟨z0,hz0'⟩:∃ z,(parseI cb).getD 0=z:=⟨_,rfl⟩
         obtain ⟨d0,hd0'⟩:∃ z,(parseI cb).isSome=z:=⟨_,rfl⟩
         unfold RetPI at HPB
         rw [hz0',hd0'] at HPB
         clear hA hz0' hd0' HRP HNX HYS2
         go_upto_region 13 with (first
          | (go_at_call 229;refine HCU.out.mono ?_;rintro e w4 ⟨rfl,b4⟩;have g4:=be.trans (b4.mono be.size))
          | (go_at_call 48;(with_reducible refine (HPA.out _ g4).mono ?_);rintro e w5 ⟨rfl,b5⟩;have b45:=b4.trans (b5.mono b4.size);have g5:=be.trans (b45.mono be.size))
          | (go_at_call 48;(with_reducible refine (HPB.out _ g5).mono ?_);rintro e w6 ⟨rfl,b6⟩;have b46:=b45.trans (b6.mono b45.size)))
         obtain ⟨hA6,be6⟩:=HBL.out _ b46
         obtain ⟨c0,c1',f0,f1,r0,r1,oz,bz⟩:=netRes (n:=0) hA6 (OwnP.nil _ _) (Nat.le_of_eq HBB.out) be6
         go_wp2_with fail
         exact bodyPost_ret (v:=.tuple #[.agg #[.int .i64 0,.slice none 0 0],.bool false]) (by simp [results,Tryz.results196,go_sem,r0,r1]) rfl ⟨_,_,_,rfl,oz,bz⟩
       | some a =>
         rw [hA] at HPA HRP
         clear hA
         cases hB':parseI cb with
         | none =>
           rw [hB'] at HPB HRP
           obtain rfl:=HNX.out HRP.out
           clear hB' HRP HNX HYS2
           go_upto_region 13 with (first
            | (go_at_call 229;refine HCU.out.mono ?_;rintro e w4 ⟨rfl,b4⟩;have g4:=be.trans (b4.mono be.size))
            | (go_at_call 48;(with_reducible refine (HPA.out _ g4).mono ?_);rintro e w5 ⟨rfl,b5⟩;have b45:=b4.trans (b5.mono b4.size);have g5:=be.trans (b45.mono be.size))
            | (go_at_call 48;(with_reducible refine (HPB.out _ g5).mono ?_);rintro e w6 ⟨rfl,b6⟩;have b46:=b45.trans (b6.mono b45.size)))
           obtain ⟨hA6,be6⟩:=HBL.out _ b46
           obtain ⟨c0,c1',f0,f1,r0,r1,oz,bz⟩:=netRes (n:=0) hA6 (OwnP.nil _ _) (Nat.le_of_eq HBB.out) be6
           go_wp2_with fail
           exact bodyPost_ret (v:=.tuple #[.agg #[.int .i64 0,.slice none 0 0],.bool false]) (by simp [results,Tryz.results196,go_sem,r0,r1]) rfl ⟨_,_,_,rfl,oz,bz⟩
         | some b =>
           rw [hB'] at HPB HRP
           have HX2:Hid (readPairs (t0.take (q+1))=some (X++[[a,b]])):=by rw [Hid,HTK.out];exact readPairs_snoc HX.out HRP.out
           clear hB' HRP HNX HX HTK
           go_upto_region 14 with (first
            | (go_at_call 229;refine HCU.out.mono ?_;rintro e w4 ⟨rfl,b4⟩;have g4:=be.trans (b4.mono be.size))
            | (go_at_call 48;(with_reducible refine (HPA.out _ g4).mono ?_);rintro e w5 ⟨rfl,b5⟩;have b45:=b4.trans (b5.mono b4.size);have g5:=be.trans (b45.mono be.size))
            | (go_at_call 48;(with_reducible refine (HPB.out _ g5).mono ?_);rintro e w6 ⟨rfl,b6⟩;have b46:=b45.trans (b6.mono b45.size)))
           have zOl:=box_lt hO
           have hO6:w6.heap[bo]?=_:=(b46.block bo (box_lt hO)).trans hO
           obtain ⟨k1,k2,k3⟩:=pushFacts hO6 a b
           have hov6:=hov.below b46
           have hrp6:=hrp.below b46
           clear hov hrp hO hcx HPA HPB HCU
           have zO6:=box_lt hO6
           go_wp2_with (at_builtin;refine listPush (by rfl) _ _ _ (by rfl) elII (by rfl) (by rfl) (by decide) hO6 (by decide) (by decide) hov6 hrp6 HLR.out (by omega) ?_;rintro b7 c7 w7 ⟨k6,kf6,hO7,o7,b7'⟩)
           go_roundg (m - (q+1))
           case measure=>omega
           case rel=>exact ⟨q+1,_,_,_,_,rfl,hlt,by go_num,HX2,hO7,o7,hb.trans ((b46.mono (by omega)).trans b7')⟩
     · obtain rfl:q=m:=by omega
       have HXT:Hid (readPairs t0=some X):=by have:=HX.out;rwa [List.take_of_length_le (by have:=HM.out;omega)] at this
       have HRE:=Lib.hid (HYS2.out X HXT.out)
       have hR:Rd2 wl (.slice ao mo co) X:=(show OwnP wl (bo+1) (.slice ao mo co) X from ⟨rows,hov,hrp⟩).rd2
       have oz0:OwnP wl (B+1) (.slice ao mo co) X:=(show OwnP wl (bo+1) (.slice ao mo co) X from ⟨rows,hov,hrp⟩).mono (by omega)
       obtain ⟨F,HF,HFE⟩:∃ F:ByteArray,Hid (Calls Tryz.prog 43 #[.agg #[.int .i64 n,.slice ao mo co]] wl (RetB (.string F) wl))∧Hid (netOk n X=true→F=bstr (fmtNet (n,X))):=by
        cases hk:netOk n X
        · exact ⟨_,i_FormatNetworkNo n hnI _ X wl hR hk,fun h=>by cases h⟩
        · exact ⟨_,i_FormatNetwork n hnI _ X wl hR hk htl'.tab,fun _=>rfl⟩
       have HCK:=Lib.hid (fun (W:World) (hW:Below wl.heap.size wl W)=>i_checked n hnI ao mo co X W (hR.below hW))
       have p0:=box_cell hO 0
       have p1':=box_cell hO 1
       clear hov hrp HX hR
       cases he:(F.toList == s.toList)
       · have HR0:Hid (R=none):=by
          rw [Hid,HRE.out,if_neg]
          rintro ⟨h1,h2⟩
          rw [HFE.out h1] at he
          rw [beq_eq_false_iff_ne] at he
          exact he (by rw [ByteArray.toList_eq,ByteArray.toList_eq,←h2];simp [bstr])
         obtain rfl:=HR0.out
         go_upto_region 17 with (go_at_call 43;refine HF.out.mono ?_;rintro e w6 ⟨rfl,b6⟩)
         have hA6:w6.heap[B]?=_:=(b6.block B (box_lt hAl)).trans hAl
         obtain ⟨c0,c1',f0,f1,r0,r1,oz,bz⟩:=netRes (n:=0) hA6 (OwnP.nil _ _) (Nat.le_of_eq HBB.out) (be.trans (b6.mono be.size))
         go_wp2_with fail
         exact bodyPost_ret (v:=.tuple #[.agg #[.int .i64 0,.slice none 0 0],.bool false]) (by simp [results,Tryz.results196,go_sem,r0,r1]) rfl ⟨_,_,_,rfl,oz,bz⟩
       · have he2:netOk n X=true→fmtNet (n,X)=s.data.toList:=fun h1=>by
          rw [HFE.out h1] at he
          have:=eq_of_beq he
          rw [ByteArray.toList_eq,ByteArray.toList_eq] at this
          simpa [bstr] using this
         have hO6:Hid (∀ W,Below wl.heap.size wl W→W.cell? ⟨bo,0,none⟩=some (.int .i64 n)∧W.cell? ⟨bo,1,none⟩=some (.slice ao mo co)∧W.heap[B]?=some (.cells #[.int .i64 0,.slice none 0 0] 30 (0,0))∧Below w.heap.size w W∧OwnP W (B+1) (.slice ao mo co) X):=fun W hW=>by
          have hOW:=(hW.block bo (box_lt hO)).trans hO
          exact ⟨box_cell hOW 0,box_cell hOW 1,(hW.block B (box_lt hAl)).trans hAl,be.trans (hW.mono be.size),oz0.below hW⟩
         cases hk:netOk n X
         · rw [hk] at HCK
           have HR0:Hid (R=none):=by rw [Hid,HRE.out,if_neg (by rw [hk];simp)]
           obtain rfl:=HR0.out
           clear hk he2
           go_upto_region 18 with (go_at_call 43;refine HF.out.mono ?_;rintro e w6 ⟨rfl,b6⟩;obtain ⟨q0,q1,-,-,-⟩:=hO6.out _ b6)
           go_wp2_with (go_at_call 230;refine (HCK.out _ b6).mono ?_;rintro e w7 ⟨rfl,b7⟩;have b67:=b6.trans (b7.mono b6.size);obtain ⟨-,-,hA7,be7,-⟩:=hO6.out _ b67;obtain ⟨c0,c1',f0,f1,r0,r1,oz,bz⟩:=netRes (n:=0) hA7 (OwnP.nil _ _) (Nat.le_of_eq HBB.out) be7)
           exact bodyPost_ret (v:=.tuple #[.agg #[.int .i64 0,.slice none 0 0],.bool false]) (by simp [results,Tryz.results196,go_sem,r0,r1]) rfl ⟨_,_,_,rfl,oz,bz⟩
         · rw [hk] at HCK
           have HR0:Hid (R=some (n,X)):=by rw [Hid,HRE.out,if_pos ⟨hk,he2 hk⟩]
           obtain rfl:=HR0.out
           clear hk he2
           go_upto_region 18 with (go_at_call 43;refine HF.out.mono ?_;rintro e w6 ⟨rfl,b6⟩;obtain ⟨q0,q1,-,-,-⟩:=hO6.out _ b6)
           go_wp2_with (go_at_call 230;refine (HCK.out _ b6).mono ?_;rintro e w7 ⟨rfl,b7⟩;have b67:=b6.trans (b7.mono b6.size);obtain ⟨-,-,hA7,be7,ox⟩:=hO6.out _ b67;obtain ⟨c0,c1',f0,f1,r0,r1,oz,bz⟩:=netRes (n:=n) hA7 ox (Nat.le_of_eq HBB.out) be7)
           exact bodyPost_ret (v:=.tuple #[.agg #[.int .i64 n,.slice ao mo co],.bool true]) (by simp [results,Tryz.results196,go_sem,r0,r1]) rfl ⟨_,_,_,rfl,oz,bz⟩
def Con (w:World) (g:Nat) (p:NetV):Prop:=∃ (a:Option Addr) (m c:Nat),w.heap[g]?=some (.cells #[.int .i64 p.1,.slice a m c] 97 (0,0))∧OwnP w 0 (.slice a m c) p.2
def TabG (w:World) (g:Nat):Prop:=∃ w0,TabE w0∧Below w0.heap.size w0 w∧w0.heap.size≤g
theorem TabG.tab {w:World} {g:Nat} (h:TabG w g):TabE w:=by
 obtain ⟨w0,h1,h2,_⟩:=h
 exact h1.below h2
theorem TabG.grown {w w':World} {g:Nat} (h:TabG w g) (hg:w.grownBy w' (some g)):TabG w' g:=by
 obtain ⟨w0,h1,h2,h3⟩:=h
 exact ⟨w0,h1,h2.grown hg h2.size (fun r hr=>by cases hr;exact h3),h3⟩
theorem gb_of {w w':World} {row:Option Nat} (h:Below w.heap.size w w'):w.grownBy w' row:=⟨h.os,h.tape,h.output,h.size,fun k hk _=>h.block k hk⟩
theorem gb_trC {w w' w'':World} {row:Option Nat} (h:w.grownBy w' row) (h2:w'.grownBy w'' row):w.grownBy w'' row :=
 ⟨h2.os.trans h.os,h2.tape.trans h.tape,h2.output.trans h.output,Nat.le_trans h.size h2.size,fun k hk hne=>(h2.block k (Nat.lt_of_lt_of_le hk h.size) hne).trans (h.block k hk hne)⟩
theorem TabG.below {w w':World} {g:Nat} (h:TabG w g) (hb:Below w.heap.size w w'):TabG w' g:=h.grown (gb_of hb)
theorem Con.below {w w':World} {g:Nat} {p:NetV} (h:Con w g p) (hb:Below w.heap.size w w'):Con w' g p:=by
 obtain ⟨a,m,c,h1,h2⟩:=h
 exact ⟨a,m,c,(hb.block g (box_lt h1)).trans h1,h2.below hb⟩
def noneS:List UInt8:=[110,111,110,101]
def unkS:List UInt8:=[117,110,107,110,111,119,110,32,99,111,109,109,97,110,100]
def takeM (p:NetV) (r:Option NetV):NetV × List UInt8:=match r with
 | some q=>(q,fmtNet q)
 | none=>(p,noneS)
def RetC (g:Nat) (q:NetV × List UInt8) (w:World) (e:Ending) (w':World):Prop:=e=.returned (.string (bstr q.2))∧Con w' g q.1∧w.grownBy w' (some g)
theorem RetC.up {g:Nat} {q:NetV × List UInt8} {w w1 w':World} {e:Ending} (h:RetC g q w1 e w') (hb:w.grownBy w1 (some g)):RetC g q w e w':=⟨h.1,h.2.1,gb_trC hb h.2.2⟩
theorem i_takeC (g:Nat) (p:NetV) (r:Option NetV) (hr:∀ q,r=some q→netOk q.1 q.2=true) (a:Option Addr) (m c B:Nat) (w:World) (hc:Con w g p) (ho:OwnP w B (.slice a m c) (netX r)) (hB:g < B) (ht:TabG w g) :
 Calls Tryz.prog 195 #[.pointer (some ⟨g,0,none⟩),.agg #[.int .i64 (netN r),.slice a m c],.bool r.isSome] w (RetC g (takeM p r) w):=by
 obtain ⟨wa,bx,hwa,hbx,hXa,hza,hba⟩:=newBox w (.cells #[.int .i64 (netN r),.slice a m c] 30)
 have HWA:=Lib.hid hwa
 have HBX:=Lib.hid hbx
 have hca:=hc.below hba
 cases r with
 | none =>
   simp only [netN,Option.isSome_none] at *
   clear hwa hbx
   go_enter Tryz.func195,Tryz.ntmps195
   go_upto_region 1 with (fail)
   rw [HWA.out,HBX.out]
   go_wp2_with fail
   go_ret
   exact ⟨rfl,hca,gb_of hba⟩
 | some q =>
   have hok:=hr q rfl
   simp only [netN,netX,Option.isSome_some] at *
   obtain ⟨a0,m0,c0,hG,_⟩:=hca
   have q0:=box_cell hXa 0
   have q1:=box_cell hXa 1
   have g0:=box_cell hG 0
   have g1:=box_cell hG 1
   have f0:=frozen_of_row wa g 0 _ _ hG
   have f1:=frozen_of_row wa g 1 _ _ hG
   have hG2:=box2 (x:=.int .i64 q.1) (y:=.slice a m c) hG
   have hgs:wa.grownBy ((wa.setCell ⟨g,0,none⟩ (.int .i64 q.1)).setCell ⟨g,1,none⟩ (.slice a m c)) (some g) :=
    ⟨rfl,rfl,rfl,by simp,fun i _ hi=>(heap_setCell_other _ ⟨g,1,none⟩ i _ (fun e=>hi (by rw [e]))).trans (heap_setCell_other wa ⟨g,0,none⟩ i _ (fun e=>hi (by rw [e])))⟩
   have hne:bx≠g:=by have:=box_lt (show w.heap[g]?=_ from hc.choose_spec.choose_spec.choose_spec.1);omega
   have hX2:((wa.setCell ⟨g,0,none⟩ (.int .i64 q.1)).setCell ⟨g,1,none⟩ (.slice a m c)).heap[bx]?=_:=(hgs.block bx hza (fun e=>by injection e;omega)).trans hXa
   have oP:=(ho.below hba).under hgs (fun k hk=>by cases hk;exact hB)
   have htb:=((ht.below hba).grown hgs).tab
   have hgw:=gb_trC (gb_of hba) hgs
   obtain ⟨w2,hw2⟩:∃ w2,(wa.setCell ⟨g,0,none⟩ (.int .i64 q.1)).setCell ⟨g,1,none⟩ (.slice a m c)=w2:=⟨_,rfl⟩
   rw [hw2] at hG2 hX2 oP htb hgw
   have s0:=box_cell hX2 0
   have s1:=box_cell hX2 1
   have HF:=Lib.hid (i_FormatNetwork q.1 (by have:=(netOk_iff.1 hok).1;unfold I64;omega) _ q.2 w2 oP.rd2 hok htb.tab)
   have HW2:=Lib.hid hw2
   clear hwa hbx hgs hw2 hc hr ho
   go_enter Tryz.func195,Tryz.ntmps195
   go_upto_region 1 with (fail)
   rw [HWA.out,HBX.out]
   go_upto_region 4 with (fail)
   rw [HW2.out]
   go_wp2_with (go_at_call 43;refine HF.out.mono ?_;rintro e w3 ⟨rfl,b3⟩)
   go_ret
   exact ⟨rfl,⟨a,m,c,(b3.block g (box_lt hG2)).trans hG2,(oP.mono (Nat.zero_le _)).below b3⟩,gb_trC hgw (gb_of b3)⟩
theorem toLc (L:List UInt8):(bstr L).toList=L:=by rw [ByteArray.toList_eq];simp [bstr]
theorem strNe {S:ByteArray} {wd L:List UInt8} (hS:bstr wd=S) (h:¬ wd=L):(S.toList == L)=false:=by rw [←hS,toLc,beq_eq_false_iff_ne];exact h
theorem strEq {S:ByteArray} {wd L:List UInt8} (hS:bstr wd=S) (h:wd=L):(S.toList == L)=true:=by rw [←hS,toLc,h];exact beq_self_eq_true _
def wiresM (n:Int):Option NetV:=if netOk n []=true then some (n,[]) else none
def bitsS (p:NetV) (n:Int):List UInt8:=if 0≤bitsI p.1.toNat p.2 n then Lib.itoa (bitsI p.1.toNat p.2 n) else noneS
def numberM (p:NetV) (wd:List UInt8) (n:Int):NetV × List UInt8 :=
 if wd=[119,105,114,101,115] then takeM p (wiresM n)
 else if wd=[100,114,111,112] then takeM p (dropM p.1 p.2 n)
 else if wd=[98,117,98,98,108,101] then takeM p (bubM n)
 else if wd=[98,97,116,99,104,101,114] then takeM p (batM n)
 else if wd=[98,105,116,111,110,105,99] then takeM p (bitM n)
 else if wd=[108,105,118,101] then takeM p (liveM p.1 p.2 n)
 else if wd=[98,105,116,115] then (p,bitsS p n)
 else (p,unkS)
theorem wiresM_ok {n:Int} {q:NetV} (h:wiresM n=some q):netOk q.1 q.2=true:=by
 unfold wiresM at h
 split at h
 · cases h;assumption
 · cases h
theorem dropM_ok {n:Int} {X:List (List Int)} {i:Int} {q:NetV} (hk:netOk n X=true) (h:dropM n X i=some q):netOk q.1 q.2=true:=by
 unfold dropM at h
 split at h
 · cases h;exact netOk_erase hk _
 · cases h
theorem bitsI_bd {N:Nat} {X:List (List Int)} {k:Int} (hk:netOk (N:Int) X=true) : -1≤bitsI N X k∧bitsI N X k < 256:=by
 unfold bitsI
 split
 · rename_i h
   obtain ⟨j,rfl⟩:=Int.eq_ofNat_of_zero_le h.1
   have hj:j < 2 ^ N:=by exact_mod_cast h.2
   have h1:=runM_lt hk hj X.length
   have h8:N≤8:=by have:=(netOk_iff.1 hk).1;omega
   have h2:2 ^ N≤2 ^ 8:=Nat.pow_le_pow_right (by omega) h8
   have h3:outM X (j:Int).toNat < 256:=by
    show outM X j < 256
    exact Nat.lt_of_lt_of_le h1 h2
   omega
 · omega
theorem conNet {p:NetV} (hk:netOk p.1 p.2=true):∃ (N:Nat) (X:List (List Int)),p=((N:Int),X)∧1≤N∧N≤8∧netOk (N:Int) X=true:=by
 obtain ⟨n,X⟩:=p
 obtain ⟨h1,_,_⟩:=netOk_iff.1 hk
 simp only at h1
 obtain ⟨N,rfl⟩:=Int.eq_ofNat_of_zero_le (show 0≤n by omega)
 exact ⟨N,X,rfl,by omega,by omega,hk⟩
theorem i_number (g:Nat) (p:NetV) (wd:List UInt8) (n:Int) (w:World) (hc:Con w g p) (hk:netOk p.1 p.2=true) (hn:I64 n) (ht:TabG w g) :
 Calls Tryz.prog 197 #[.pointer (some ⟨g,0,none⟩),.string (bstr wd),.int .i64 n] w (RetC g (numberM p wd n) w):=by
 obtain ⟨N,X,rfl,hN1,hN8,hk⟩:=conNet hk
 obtain ⟨a0,m0,c0,hG,hR⟩:=hc
 have hc:Con w g ((N:Int),X):=⟨a0,m0,c0,hG,hR⟩
 simp only at hG hR
 replace hR:=hR.rd2
 have hg:=box_lt hG
 have g0:=box_cell hG 0
 have g1:=box_cell hG 1
 obtain ⟨S,hS⟩:∃ S,bstr wd=S:=⟨_,rfl⟩
 have HM:Hid (numberM ((N:Int),X) wd n=_):=rfl
 unfold numberM at HM
 simp only at HM
 by_cases h0:wd=[119,105,114,101,115]
 · have e0:=strEq hS h0
   have HR:Hid (numberM ((N:Int),X) wd n=takeM ((N:Int),X) (wiresM n)):=by rw [Hid,numberM,if_pos h0]
   rw [HR.out,hS]
   clear HM HR hS h0
   have HCK:=Lib.hid (fun (W:World)=>i_checked n hn none 0 0 [] W (Rd2.nil W))
   cases hw:netOk n []
   · rw [hw] at HCK
     have HV:Hid (wiresM n=none):=by rw [Hid,wiresM,hw];rfl
     rw [HV.out]
     go_enter Tryz.func197,Tryz.ntmps197
     go_wp2_with (first
      | (go_at_call 230;refine (HCK.out _).mono ?_;rintro e w1 ⟨rfl,b1⟩)
      | (go_at_call 195;refine (i_takeC g ((N:Int),X) (none) (fun q hq=>by cases hq) none 0 0 w.heap.size w1 (hc.below b1) (OwnP.nil _ _) hg (ht.below b1)).mono ?_;rintro e w2 ⟨rfl,k2,g2⟩))
     go_ret
     exact ⟨rfl,k2,gb_trC (gb_of b1) g2⟩
   · rw [hw] at HCK
     have HV:Hid (wiresM n=some (n,[])):=by rw [Hid,wiresM,hw];rfl
     rw [HV.out]
     go_enter Tryz.func197,Tryz.ntmps197
     go_wp2_with (first
      | (go_at_call 230;refine (HCK.out _).mono ?_;rintro e w1 ⟨rfl,b1⟩)
      | (go_at_call 195;refine (i_takeC g ((N:Int),X) (some (n,[])) (fun q hq=>by cases hq;exact hw) none 0 0 w.heap.size w1 (hc.below b1) (OwnP.nil _ _) hg (ht.below b1)).mono ?_;rintro e w2 ⟨rfl,k2,g2⟩))
     go_ret
     exact ⟨rfl,k2,gb_trC (gb_of b1) g2⟩
 have e0:=strNe hS h0
 by_cases h1:wd=[100,114,111,112]
 · have e1:=strEq hS h1
   have HR:Hid (numberM ((N:Int),X) wd n=takeM ((N:Int),X) (dropM (N:Int) X n)):=by rw [Hid,numberM,if_neg h0,if_pos h1]
   rw [HR.out,hS]
   clear HM HR hS h0 h1
   have HX:=Lib.hid (i_DropPair (N:Int) (by unfold I64;omega) _ X n w hR hk)
   have okR:∀ q,dropM (N:Int) X n=some q→netOk q.1 q.2=true:=fun q hq=>dropM_ok hk hq
   generalize dropM (N:Int) X n=R at *
   go_enter Tryz.func197,Tryz.ntmps197
   go_wp2_with (first
    | (go_at_call 231;refine HX.out.mono ?_;rintro e w1 ⟨a1,m1,c1,rfl,o1,b1⟩)
    | (go_at_call 195;refine (i_takeC g ((N:Int),X) (R) (fun q hq=>okR q hq) a1 m1 c1 w.heap.size w1 (hc.below b1) o1 hg (ht.below b1)).mono ?_;rintro e w2 ⟨rfl,k2,g2⟩))
   go_ret
   exact ⟨rfl,k2,gb_trC (gb_of b1) g2⟩
 have e1:=strNe hS h1
 by_cases h2:wd=[98,117,98,98,108,101]
 · have e2:=strEq hS h2
   have HR:Hid (numberM ((N:Int),X) wd n=takeM ((N:Int),X) (bubM n)):=by rw [Hid,numberM,if_neg h0,if_neg h1,if_pos h2]
   rw [HR.out,hS]
   clear HM HR hS h0 h1 h2
   have HX:=Lib.hid (i_BubbleM n hn w)
   have okR:∀ q,bubM n=some q→netOk q.1 q.2=true:=fun q hq=>bubM_ok hq
   generalize bubM n=R at *
   go_enter Tryz.func197,Tryz.ntmps197
   go_wp2_with (first
    | (go_at_call 232;refine HX.out.mono ?_;rintro e w1 ⟨a1,m1,c1,rfl,o1,b1⟩)
    | (go_at_call 195;refine (i_takeC g ((N:Int),X) (R) (fun q hq=>okR q hq) a1 m1 c1 w.heap.size w1 (hc.below b1) o1 hg (ht.below b1)).mono ?_;rintro e w2 ⟨rfl,k2,g2⟩))
   go_ret
   exact ⟨rfl,k2,gb_trC (gb_of b1) g2⟩
 have e2:=strNe hS h2
 by_cases h3:wd=[98,97,116,99,104,101,114]
 · have e3:=strEq hS h3
   have HR:Hid (numberM ((N:Int),X) wd n=takeM ((N:Int),X) (batM n)):=by rw [Hid,numberM,if_neg h0,if_neg h1,if_neg h2,if_pos h3]
   rw [HR.out,hS]
   clear HM HR hS h0 h1 h2 h3
   have HX:=Lib.hid (i_BatcherM n hn w)
   have okR:∀ q,batM n=some q→netOk q.1 q.2=true:=fun q hq=>batM_ok hq
   generalize batM n=R at *
   go_enter Tryz.func197,Tryz.ntmps197
   go_wp2_with (first
    | (go_at_call 233;refine HX.out.mono ?_;rintro e w1 ⟨a1,m1,c1,rfl,o1,b1⟩)
    | (go_at_call 195;refine (i_takeC g ((N:Int),X) (R) (fun q hq=>okR q hq) a1 m1 c1 w.heap.size w1 (hc.below b1) o1 hg (ht.below b1)).mono ?_;rintro e w2 ⟨rfl,k2,g2⟩))
   go_ret
   exact ⟨rfl,k2,gb_trC (gb_of b1) g2⟩
 have e3:=strNe hS h3
 by_cases h4:wd=[98,105,116,111,110,105,99]
 · have e4:=strEq hS h4
   have HR:Hid (numberM ((N:Int),X) wd n=takeM ((N:Int),X) (bitM n)):=by rw [Hid,numberM,if_neg h0,if_neg h1,if_neg h2,if_neg h3,if_pos h4]
   rw [HR.out,hS]
   clear HM HR hS h0 h1 h2 h3 h4
   have HX:=Lib.hid (i_BitonicM n hn w)
   have okR:∀ q,bitM n=some q→netOk q.1 q.2=true:=fun q hq=>bitM_ok hq
   generalize bitM n=R at *
   go_enter Tryz.func197,Tryz.ntmps197
   go_wp2_with (first
    | (go_at_call 234;refine HX.out.mono ?_;rintro e w1 ⟨a1,m1,c1,rfl,o1,b1⟩)
    | (go_at_call 195;refine (i_takeC g ((N:Int),X) (R) (fun q hq=>okR q hq) a1 m1 c1 w.heap.size w1 (hc.below b1) o1 hg (ht.below b1)).mono ?_;rintro e w2 ⟨rfl,k2,g2⟩))
   go_ret
   exact ⟨rfl,k2,gb_trC (gb_of b1) g2⟩
 have e4:=strNe hS h4
 by_cases h5:wd=[108,105,118,101]
 · have e5:=strEq hS h5
   have HR:Hid (numberM ((N:Int),X) wd n=takeM ((N:Int),X) (liveM (N:Int) X n)):=by rw [Hid,numberM,if_neg h0,if_neg h1,if_neg h2,if_neg h3,if_neg h4,if_pos h5]
   rw [HR.out,hS]
   clear HM HR hS h0 h1 h2 h3 h4 h5
   have hb1:Below w.heap.size w (w.alloc (.cells #[.int .i64 n] 3)):=(Below.refl _ _).alloc (Nat.le_refl _) _
   have hS1:Rd (w.alloc (.cells #[.int .i64 n] 3)) (.slice (some ⟨w.heap.size,0,none⟩) 1 1) (ints [n]):=by simpa [ints] using (Own.lit w 3 w.heap.size #[.int .i64 n] (Nat.le_refl _) (by simp)).rd
   have HX:=Lib.hid (i_LiveM N _ _ X n _ (hR.below hb1) hk hS1)
   have okR:∀ q,liveM (N:Int) X n=some q→netOk q.1 q.2=true:=fun q hq=>liveM_ok hk hq
   generalize liveM (N:Int) X n=R at *
   clear hS1
   go_enter Tryz.func197,Tryz.ntmps197
   go_wp2_with (first
    | (go_at_call 235;refine HX.out.mono ?_;rintro e w1 ⟨a1,m1,c1,rfl,o1',b1'⟩;have b1:=hb1.trans (b1'.mono hb1.size);have o1:=o1'.mono hb1.size)
    | (go_at_call 195;refine (i_takeC g ((N:Int),X) (R) (fun q hq=>okR q hq) a1 m1 c1 w.heap.size w1 (hc.below b1) o1 hg (ht.below b1)).mono ?_;rintro e w2 ⟨rfl,k2,g2⟩))
   go_ret
   exact ⟨rfl,k2,gb_trC (gb_of b1) g2⟩
 have e5:=strNe hS h5
 by_cases h6:wd=[98,105,116,115]
 · have e6:=strEq hS h6
   have HR:Hid (numberM ((N:Int),X) wd n=(((N:Int),X),bitsS ((N:Int),X) n)):=by rw [Hid,numberM,if_neg h0,if_neg h1,if_neg h2,if_neg h3,if_neg h4,if_neg h5,if_pos h6]
   rw [HR.out,hS]
   clear HM HR hS h0 h1 h2 h3 h4 h5 h6
   have HAB:=Lib.hid (i_ApplyBits N _ X n w hR hk)
   obtain ⟨z1,z2⟩:=bitsI_bd (N:=N) (X:=X) (k:=n) hk
   have HZ:Hid (bitsS ((N:Int),X) n=if 0≤bitsI N X n then Lib.itoa (bitsI N X n) else noneS):=rfl
   generalize bitsI N X n=z at *
   have HFI:=Lib.hid (fun (W:World) (hW:TabG W g)=>I_FormatInt W z (by unfold I64;omega) hW.tab.tab)
   by_cases hz:0≤z
   · have hz2:decide (z ≥ 0)=true:=by simpa using hz
     rw [HZ.out,if_pos hz]
     go_enter Tryz.func197,Tryz.ntmps197
     go_wp2_with (first
      | (go_at_call 236;refine HAB.out.mono ?_;rintro e w1 ⟨rfl,b1⟩)
      | (go_at_call 14;refine (HFI.out _ (ht.below b1)).mono ?_;rintro e w2 ⟨rfl,b2⟩;have b12:=b1.trans (b2.mono b1.size)))
     go_ret
     exact ⟨rfl,hc.below b12,gb_of b12⟩
   · have hz2:decide (z ≥ 0)=false:=by simpa using hz
     rw [HZ.out,if_neg hz]
     go_enter Tryz.func197,Tryz.ntmps197
     go_wp2_with (go_at_call 236;refine HAB.out.mono ?_;rintro e w1 ⟨rfl,b1⟩)
     go_ret
     exact ⟨rfl,hc.below b1,gb_of b1⟩
 have e6:=strNe hS h6
 have HR:Hid (numberM ((N:Int),X) wd n=(((N:Int),X),unkS)):=by rw [Hid,numberM,if_neg h0,if_neg h1,if_neg h2,if_neg h3,if_neg h4,if_neg h5,if_neg h6]
 rw [HR.out,hS]
 clear HM HR hS h0 h1 h2 h3 h4 h5 h6
 go_enter Tryz.func197,Tryz.ntmps197
 go_wp2_with fail
 go_ret
 exact ⟨rfl,hc,gb_of (Below.refl _ _)⟩
end Go.Proofs.YtggblfnajeikjaaGreatDoor
