/- Joined texts of the proof: FabLine, OrderLine, TestLine. -/
import Derived.Test.YtggblfnajeikjaaGreatDoorJ22
import Derived.Test.YtggblfnajeikjaaGreatDoorJ25
import Derived.Test.YtggblfnajeikjaaGreatDoorJ34
import Derived.Test.YtggblfnajeikjaaGreatDoorJ35
namespace Go.Proofs.YtggblfnajeikjaaGreatDoor
open Go.RowKit
set_option linter.unusedVariables false
set_option linter.unusedSimpArgs false
set_option maxRecDepth 100000
set_option maxHeartbeats 16000000
def fabX (xs:List Int):Nat→Nat:=fun o=>(xs.getD o 0).toNat
theorem fabX_ok {xs:List Int} (h:stagedB xs=true):Stg xs.length (stgK xs.length)∧Ord xs.length (fabX xs)∧natA xs.length (fabX xs)=xs:=by
 simp only [stagedB,Bool.and_eq_true,decide_eq_true_eq] at h
 obtain ⟨x,hx,H⟩:=ord_of rfl (ordB_iff.1 h.2)
 have e:∀ o,o < xs.length→fabX xs o=x o:=fun o ho=>by
  have h1:xs[o]?=some ((x o:Nat):Int):=by
   have:=natA_get (n:=xs.length) x ho
   rw [←hx] at this
   exact this
  rw [fabX,List.getD_eq_getElem?_getD,h1]
  simp
 refine ⟨stgK_ok h.1,⟨fun o ho=>by rw [e o ho];exact H.lx o ho,fun o p ho hp h2=>H.inj o p ho hp (by rw [←e o ho,←e p hp];exact h2),fun v hv=>?_⟩,(natA_congr e).trans hx.symm⟩
 obtain ⟨o,ho,h2⟩:=H.sur v hv
 exact ⟨o,ho,by rw [e o ho];exact h2⟩
theorem cyc_two (n:Nat) (x:Nat→Nat):∀ (f o:Nat) (s:FS),(∀ k,s.first k < 2∧s.last k < 2)→∀ k,(cyc n x f o s).first k < 2∧(cyc n x f o s).last k < 2
 | 0,_,_,h=>h
 | f+1,o,s,h=>by
   rw [cyc]
   split
   · exact h
   · refine cyc_two n x f _ _ fun k=>?_
     simp only [fput,upd]
     have:=h k
     constructor
     · split <;> omega
     · split <;> omega
theorem cycs_two (h:Nat) (x:Nat→Nat):∀ j k,(cycs h x j).first k < 2∧(cycs h x j).last k < 2
 | 0,k=>⟨Nat.zero_lt_two,Nat.zero_lt_two⟩
 | j+1,k=>cyc_two _ _ _ _ _ (cycs_two h x j) k
theorem setL_bd:∀ (d:Nat) (x:Nat→Nat),Ord (2 ^ (d+1)) x→∀ v∈setL d x,0≤v∧v < 2
 | 0,x,H,v,hv=>by
   have h1:=H.lx 0 (by decide)
   simp only [setL,List.mem_singleton] at hv
   subst hv
   have : x 0 < 2:=h1
   omega
 | d+1,x,H,v,hv=>by
   have e:2 ^ (d+1+1)=2 * 2 ^ (d+1):=by rw [Nat.pow_succ];omega
   rw [e] at H
   have hF:=fin_up H (cycs_FD H _ (Nat.le_refl _)).1 (cycs_FD H _ (Nat.le_refl _)).2
   have h2:=cycs_two (2 ^ (d+1)) x (2 ^ (d+1))
   simp only [setL,List.mem_append] at hv
   rcases hv with ((hv | hv) | hv) | hv
   · simp only [atL,List.mem_map,List.mem_range] at hv
     obtain ⟨k,_,rfl⟩:=hv
     have:=(h2 k).1
     simp only [finS]
     omega
   · exact setL_bd d _ hF.1 v hv
   · exact setL_bd d _ hF.2 v hv
   · simp only [atL,List.mem_map,List.mem_range] at hv
     obtain ⟨k,_,rfl⟩:=hv
     have:=(h2 k).2
     simp only [finS]
     omega
def fabSet (xs:List Int):List Int:=setL (stgK xs.length - 1) (fabX xs)
def fabLine (xs:List Int):List UInt8 :=
 if stagedB xs then (if passB xs.length (stgK xs.length) (fabX xs) then [115,101,116,32]++numsB (fabSet xs)++[32,112,97,115,115,101,115]
  else [115,101,116,32]++numsB (fabSet xs)++[32,114,111,117,110,100,115,32]++Lib.itoa ((rK xs.length (stgK xs.length) (fabX xs) xs.length).length:Nat)) else [110,111,110,101]
theorem fabSet_bd {xs:List Int} (h:stagedB xs=true):I64s (fabSet xs)∧(fabSet xs).length≤20:=by
 obtain ⟨hs,H,_⟩:=fabX_ok h
 have hd:xs.length=2 ^ (stgK xs.length - 1+1)∧stgK xs.length - 1≤2:=by
  rcases hs with ⟨a,b⟩ | ⟨a,b⟩ | ⟨a,b⟩ <;> rw [b] <;> exact ⟨a,by omega⟩
 rw [hd.1] at H
 refine ⟨fun v hv=>?_,?_⟩
 · have:=setL_bd _ _ H v hv
   unfold I64
   omega
 · have : ∀ (d:Nat) (x:Nat→Nat),d≤2→(setL d x).length≤20:=fun d x h=>by
    match d,h with
    | 0,_=>simp [setL]
    | 1,_=>simp [setL,atL_length]
    | 2,_=>simp [setL,atL_length]
    | d+3,h=>omega
   exact this _ _ hd.2
theorem I_FabricLine (w:World) (v:Value) (xs:List Int) (h:Rd w v (ints xs)) (_:I64s xs) (_:xs.length≤1048576) (ht:Tab w):Calls Tryz.prog 36 #[v] w (RetB (.string (bstr (fabLine xs))) w):=by
 have HO:=i_isStaged v xs w h
 obtain ⟨a,n,c,rfl,HN,hnc,hc⟩:=h.formN
 cases hs:stagedB xs
 · rw [hs] at HO
   have HR:Hid (fabLine xs=[110,111,110,101]):=by rw [Hid,fabLine,hs];rfl
   have HOK:=Lib.hid HO
   clear HO hs
   go_enter Tryz.func36,Tryz.ntmps36
   go_wp2_with (go_at_call 92;refine HOK.out.mono ?_;rintro e w' ⟨rfl,hb1⟩)
   go_ret
   exact ⟨by rw [HR.out];rfl,hb1⟩
 rw [hs] at HO
 have HOK:=Lib.hid HO
 obtain ⟨hst,H,hx⟩:=fabX_ok hs
 obtain ⟨hfi,hfl⟩:=fabSet_bd hs
 have hd:xs.length=2 ^ (stgK xs.length - 1+1)∧stgK xs.length - 1≤2:=by
  rcases hst with ⟨a,b⟩ | ⟨a,b⟩ | ⟨a,b⟩ <;> rw [b] <;> exact ⟨a,by omega⟩
 have hxN:∀ W,Below w.heap.size w W→Rd W (.slice a n c) (ints (natA xs.length (fabX xs))):=fun W hW=>by rw [hx];exact h.below hW
 have HSET:=Lib.hid (fun (W:World) (hW:Below w.heap.size w W)=>i_settingsFor (stgK xs.length - 1) hd.2 (.slice a n c) (fabX xs) W (by rw [←hd.1];exact hxN W hW) (by rw [←hd.1];exact H))
 have hst2:stagedB (natA xs.length (fabX xs))=true:=by rw [hx];exact hs
 have HCP:=Lib.hid (fun (W:World) (hW:Below w.heap.size w W)=>i_canPass (.slice a n c) xs.length (stgK xs.length) (fabX xs) W hst H (hxN W hW))
 have HRN:=Lib.hid (fun (W:World) (hW:Below w.heap.size w W)=>i_RoundsNeeded (.slice a n c) xs.length (stgK xs.length) (fabX xs) W hst H hst2 (hxN W hW))
 have hrk:=(rK_inv xs.length (stgK xs.length) (fabX xs) xs.length).1
 have hn8:xs.length≤8:=by rcases hst with ⟨e,_⟩ | ⟨e,_⟩ | ⟨e,_⟩ <;> omega
 have HRX:Hid (fabLine xs=if passB xs.length (stgK xs.length) (fabX xs) then [115,101,116,32]++numsB (fabSet xs)++[32,112,97,115,115,101,115] else [115,101,116,32]++numsB (fabSet xs)++[32,114,111,117,110,100,115,32]++Lib.itoa ((rK xs.length (stgK xs.length) (fabX xs) xs.length).length:Nat)):=by rw [Hid,fabLine,if_pos hs]
 have HFS:Hid (setL (stgK xs.length - 1) (fabX xs)=fabSet xs):=rfl
 rw [HFS.out] at HSET
 generalize fabSet xs=fs at HSET HRX hfi hfl
 generalize (rK xs.length (stgK xs.length) (fabX xs) xs.length).length=rl at HRN HRX hrk
 generalize passB xs.length (stgK xs.length) (fabX xs)=pb at HCP HRX
 have hzn:=numsB_le hfi hfl
 have HF0:=fun (W:World) (u:Value) (hu:Rd W u (ints fs)) (hW:Tab W)=>i_numbers W u _ hu hfi (by omega) hW
 have KI0:=Lib.hid (fun (W:World) (hW:Below w.heap.size w W)=>I_FormatInt W (rl:Int) (by unfold I64;omega) (ht.below hW))
 have zA:=(itoa_len (n:=(rl:Int)) (by unfold I64;omega)).2
 have HFN:=Lib.hid HF0
 obtain ⟨F,hF⟩:∃ F,numsB fs=F:=⟨_,rfl⟩
 obtain ⟨A,hA⟩:∃ A,Lib.itoa (rl:Int)=A:=⟨_,rfl⟩
 rw [hF] at HFN hzn HRX
 rw [hA] at KI0 zA HRX
 have GL1:=Lib.hid (fun W=>i_line2 [115,101,116] F (by simp) (by omega) W)
 have GL2:=Lib.hid (fun W=>i_line2 ([115,101,116]++[32]++F) [112,97,115,115,101,115] (by simp;omega) (by simp) W)
 have GL3:=Lib.hid (fun W=>i_line3 ([115,101,116]++[32]++F) [114,111,117,110,100,115] A (by simp;omega) (by simp) (by omega) W)
 have HR1:Hid (fabLine xs=if pb then [115,101,116]++[32]++F++[32]++[112,97,115,115,101,115] else [115,101,116]++[32]++F++[32]++[114,111,117,110,100,115]++[32]++A):=by
  rw [Hid,HRX.out]
  cases pb <;> simp
 generalize hL1:[115,101,116]++[32]++F=L1 at GL1 GL2 GL3 HR1
 have K1:Hid (∀ W:World,Calls Tryz.prog 61 #[.slice (some ⟨W.heap.size,0,none⟩) 2 2] (W.alloc (.cells #[.string ⟨#[115,101,116]⟩,.string (bstr F)] 9)) fun e w'=>e=.returned (.string (bstr L1))∧Below W.heap.size W w'):=fun W=>GL1.out W
 have K2:Hid (∀ W:World,Calls Tryz.prog 61 #[.slice (some ⟨W.heap.size,0,none⟩) 2 2] (W.alloc (.cells #[.string (bstr L1),.string ⟨#[112,97,115,115,101,115]⟩] 9)) fun e w'=>e=.returned (.string (bstr (L1++[32]++[112,97,115,115,101,115])))∧Below W.heap.size W w'):=fun W=>GL2.out W
 have K3:Hid (∀ W:World,Calls Tryz.prog 61 #[.slice (some ⟨W.heap.size,0,none⟩) 3 3] (W.alloc (.cells #[.string (bstr L1),.string ⟨#[114,111,117,110,100,115]⟩,.string (bstr A)] 9)) fun e w'=>e=.returned (.string (bstr (L1++[32]++[114,111,117,110,100,115]++[32]++A)))∧Below W.heap.size W w'):=fun W=>GL3.out W
 clear HO hs hst H hx hd hxN hst2 HFS HF0 hzn hfi hfl zA hA hF HRX hrk hn8 GL1 GL2 GL3 hL1
 generalize L1++[32]++[112,97,115,115,101,115]=R2 at K2 HR1
 generalize L1++[32]++[114,111,117,110,100,115]++[32]++A=R3 at K3 HR1
 go_enter Tryz.func36,Tryz.ntmps36
 cases pb
 · go_wp2_with (first
    | (go_at_call 92;refine HOK.out.mono ?_;rintro e w' ⟨rfl,hb1⟩)
    | (go_at_call 93;refine (HSET.out _ hb1).mono ?_;rintro e w2 ⟨v2,rfl,ho2,hb2⟩;have hb2':=hb1.trans (hb2.mono hb1.size))
    | (go_at_call 46;refine (HFN.out _ _ ho2.rd (ht.below hb2')).mono ?_;rintro e w3 ⟨rfl,hb3⟩;have hb3':=hb2'.trans (hb3.mono hb2'.size))
    | (go_at_call 61;(with_reducible refine (K1.out w3).mono ?_);rintro e w4 ⟨rfl,hb4⟩;have hb4':=hb3'.trans (hb4.mono hb3'.size))
    | (go_at_call 94;refine (HCP.out _ hb4').mono ?_;rintro e w5 ⟨rfl,hb5⟩;have hb5':=hb4'.trans (hb5.mono hb4'.size))
    | (go_at_call 95;refine (HRN.out _ hb5').mono ?_;rintro e w6 ⟨rfl,hb6⟩;have hb6':=hb5'.trans (hb6.mono hb5'.size))
    | (go_at_call 14;refine (KI0.out _ hb6').mono ?_;rintro e w7 ⟨rfl,hb7⟩;have hb7':=hb6'.trans (hb7.mono hb6'.size))
    | (go_at_call 61;(with_reducible refine (K3.out w7).mono ?_);rintro e w8 ⟨rfl,hb8⟩))
   go_ret
   exact ⟨by rw [HR1.out];rfl,hb7'.trans (hb8.mono hb7'.size)⟩
 · go_wp2_with (first
    | (go_at_call 92;refine HOK.out.mono ?_;rintro e w' ⟨rfl,hb1⟩)
    | (go_at_call 93;refine (HSET.out _ hb1).mono ?_;rintro e w2 ⟨v2,rfl,ho2,hb2⟩;have hb2':=hb1.trans (hb2.mono hb1.size))
    | (go_at_call 46;refine (HFN.out _ _ ho2.rd (ht.below hb2')).mono ?_;rintro e w3 ⟨rfl,hb3⟩;have hb3':=hb2'.trans (hb3.mono hb2'.size))
    | (go_at_call 61;(with_reducible refine (K1.out w3).mono ?_);rintro e w4 ⟨rfl,hb4⟩;have hb4':=hb3'.trans (hb4.mono hb3'.size))
    | (go_at_call 94;refine (HCP.out _ hb4').mono ?_;rintro e w5 ⟨rfl,hb5⟩;have hb5':=hb4'.trans (hb5.mono hb4'.size))
    | (go_at_call 61;(with_reducible refine (K2.out w5).mono ?_);rintro e w8 ⟨rfl,hb8⟩))
   go_ret
   exact ⟨by rw [HR1.out];rfl,hb5'.trans (hb8.mono hb5'.size)⟩
def orderLine (n:Int) (xss:List (List Int)):List UInt8 :=
 if netOk n xss then [107,110,111,119,110,32]++Lib.itoa (knownL n xss).length++[32,114,101,115,117,108,116,115,32]++Lib.itoa (resL n xss).length++[32,105,100,108,101,32]++numsB (idleL n xss) else [110,111,110,101]
theorem orderLine_no {n:Int} {xss:List (List Int)} (h:netOk n xss=false):orderLine n xss=[110,111,110,101]:=by rw [orderLine,if_neg (by simp [h])]
theorem orderLine_ok {n:Int} {xss:List (List Int)} (h:netOk n xss=true):orderLine n xss=[107,110,111,119,110,32]++Lib.itoa (knownL n xss).length++[32,114,101,115,117,108,116,115,32]++Lib.itoa (resL n xss).length++[32,105,100,108,101,32]++numsB (idleL n xss):=by rw [orderLine,if_pos h]
theorem resL_len (n:Int) (xss:List (List Int)):(resL n xss).length≤256:=by
 cases hk:netOk n xss
 · rw [resL_no hk];simp
 · obtain ⟨N,rfl,_,h8,_⟩:=netOk_n hk
   rw [resN_nats hk,natsI_len]
   have:=resN_len (N:Int) xss
   have:=pow_le8 h8
   simp only [Int.toNat_natCast] at *
   omega
theorem I_OrderLine (w:World) (n:Int) (hn:I64 n) (v:Value) (xss:List (List Int)) (h:Rd2 w v xss) (_:I64ss xss) (_:SzOk xss) (ht:Tab w):Calls Tryz.prog 17 #[.agg #[.int .i64 n,v]] w (RetB (.string (bstr (orderLine n xss))) w):=by
 obtain ⟨a,c,rfl,h2,h3⟩:=h.form
 obtain ⟨w0,hw0,hb0,hz0,c0,c1⟩:=net_box w (.int .i64 n) (.slice a xss.length c) 30
 have h':=h.below hb0
 have HN:=i_NetworkOk n _ xss _ h' hn
 have C1:=Lib.hid c1
 cases hk:netOk n xss
 · rw [hk] at HN
   have HR:=Lib.hid (orderLine_no hk)
   go_enter Tryz.func17,Tryz.ntmps17
   go_wp2_with (go_at_call 40;refine HN.mono ?_;rintro e w2 ⟨rfl,hb2⟩)
   go_ret
   exact ⟨by rw [HR.out];rfl,hb0.trans (hb2.mono (by omega))⟩
 rw [hk] at HN
 have HR:=Lib.hid (orderLine_ok hk)
 have GH:=Lib.hid (fun (W:World) (hW:Below w.heap.size w W)=>i_KnownOrder n _ xss W (h.below hW) hn hk)
 have GR:=Lib.hid (fun (W:World) (hW:Below w.heap.size w W)=>i_ResultsOf n _ xss W (h.below hW) hn)
 have GG:=Lib.hid (fun (W:World) (hW:Below w.heap.size w W)=>i_IdleOf n _ xss W (h.below hW) hn)
 have hhl:=knownL_len n xss
 have hrl:=resL_len n xss
 obtain ⟨hgi,hgl⟩:=idleL_bd n xss
 obtain ⟨hs,hhs⟩:∃ hs,knownL n xss=hs:=⟨_,rfl⟩
 obtain ⟨rs,hrs⟩:∃ rs,resL n xss=rs:=⟨_,rfl⟩
 obtain ⟨gs,hgs⟩:∃ gs,idleL n xss=gs:=⟨_,rfl⟩
 rw [hhs] at GH HR hhl
 rw [hrs] at GR HR hrl
 rw [hgs] at GG HR hgi hgl
 have hzn:=numsB_le hgi hgl
 have g0:fmtNums gs=numsB gs:=by rw [fmtNums,if_neg (by omega)]
 have HF0:=fun (W:World) (u:Value) (hu:Rd W u (ints gs)) (hW:Tab W)=>I_FormatNumbers W u _ hu hgi (by omega) hW
 rw [g0] at HF0
 have zA:=(itoa_len (n:=(hs.length:Int)) (show I64 _ by unfold I64;omega)).2
 have KI0:=Lib.hid (fun (W:World) (hW:Tab W)=>I_FormatInt W (hs.length:Int) (by unfold I64;omega) hW)
 have zE:=(itoa_len (n:=(rs.length:Int)) (show I64 _ by unfold I64;omega)).2
 have KJ0:=Lib.hid (fun (W:World) (hW:Tab W)=>I_FormatInt W (rs.length:Int) (by unfold I64;omega) hW)
 have GL:=Lib.hid (fun W=>i_line6 [107,110,111,119,110] (Lib.itoa hs.length) [114,101,115,117,108,116,115] (Lib.itoa rs.length) [105,100,108,101] (numsB gs) (by simp) (by omega) (by simp) (by omega) (by simp) (by omega) W)
 have HRB:Hid (orderLine n xss=[107,110,111,119,110]++[32]++Lib.itoa hs.length++[32]++[114,101,115,117,108,116,115]++[32]++Lib.itoa rs.length++[32]++[105,100,108,101]++[32]++numsB gs):=by simp [HR.out,Hid]
 have HFN:=Lib.hid HF0
 rw [←HRB.out] at GL
 generalize numsB gs=F at HFN GL
 generalize Lib.itoa (hs.length:Int)=A at KI0 GL
 generalize Lib.itoa (rs.length:Int)=E at KJ0 GL
 obtain ⟨R,hR⟩:∃ R,orderLine n xss=R:=⟨_,rfl⟩
 rw [hR] at GL ⊢
 clear HRB hR
 obtain ⟨hl,hhl2⟩:∃ hl,hs.length=hl:=⟨_,rfl⟩
 rw [hhl2] at KI0 hhl
 have HHL:=Lib.hid hhl2
 obtain ⟨rl,hrl2⟩:∃ rl,rs.length=rl:=⟨_,rfl⟩
 rw [hrl2] at KJ0 hrl
 have HRL:=Lib.hid hrl2
 have C0:=Lib.hid c0
 clear hk HF0 g0 hzn zA zE hgi hgl hhs hrs hgs hhl2 hrl2 HR
 go_enter Tryz.func17,Tryz.ntmps17
 go_wp2_with (go_at_call 40;refine HN.mono ?_;rintro e w2 ⟨rfl,hb2⟩;have hbw2:Below w.heap.size w w2:=hb0.trans (hb2.mono (by omega));obtain ⟨c0,c1⟩:=Below.cells2 hb2 (show w.heap.size < w0.heap.size by omega) C0.out C1.out)
 have HT:=keep_box c0 c1
 have K0:Hid (∀ W:World,Below w2.heap.size w2 W→Calls Tryz.prog 14 #[.int .i64 (hl:Int)] W fun e w'=>e=.returned (.string (bstr A))∧Below w2.heap.size w2 w'∧Below W.heap.size W w'):=fun W hW=>(KI0.out W (ht.below (hbw2.trans (hW.mono hbw2.size)))).mono fun e w' h=>⟨h.1,hW.trans (h.2.mono hW.size),h.2⟩
 have J0:Hid (∀ W:World,Below w2.heap.size w2 W→Calls Tryz.prog 14 #[.int .i64 (rl:Int)] W fun e w'=>e=.returned (.string (bstr E))∧Below w2.heap.size w2 w'∧Below W.heap.size W w'):=fun W hW=>(KJ0.out W (ht.below (hbw2.trans (hW.mono hbw2.size)))).mono fun e w' h=>⟨h.1,hW.trans (h.2.mono hW.size),h.2⟩
 have K1:Hid (∀ W:World,Below w2.heap.size w2 W→Calls Tryz.prog 66 #[.agg #[.int .i64 n,.slice a xss.length c]] W fun e w'=>(∃ aq cq,e=.returned (.slice aq hl cq))∧Below w2.heap.size w2 w'∧Below W.heap.size W w'):=fun W hW=>(GH.out W (hbw2.trans (hW.mono hbw2.size))).mono fun e w' h=>by
  obtain ⟨vq,rfl,ho,hb⟩:=h
  obtain ⟨aq,cq,rfl,_,_⟩:=ho.form
  exact ⟨⟨aq,cq,by rw [HHL.out]⟩,hW.trans (hb.mono hW.size),hb⟩
 have J1:Hid (∀ W:World,Below w2.heap.size w2 W→Calls Tryz.prog 67 #[.agg #[.int .i64 n,.slice a xss.length c]] W fun e w'=>(∃ aq cq,e=.returned (.slice aq rl cq))∧Below w2.heap.size w2 w'∧Below W.heap.size W w'):=fun W hW=>(GR.out W (hbw2.trans (hW.mono hbw2.size))).mono fun e w' h=>by
  obtain ⟨vq,rfl,ho,hb⟩:=h
  obtain ⟨aq,cq,rfl,_,_⟩:=ho.rd.formi
  exact ⟨⟨aq,cq,by rw [HRL.out]⟩,hW.trans (hb.mono hW.size),hb⟩
 have K2:Hid (∀ W:World,Below w2.heap.size w2 W→Calls Tryz.prog 18 #[.agg #[.int .i64 n,.slice a xss.length c]] W fun e w'=>∃ v,e=.returned v∧Rd w' v (ints gs)∧Below w2.heap.size w2 w'∧Below W.heap.size W w'):=fun W hW=>(GG.out W (hbw2.trans (hW.mono hbw2.size))).mono fun e w' h=>by
  obtain ⟨vq,rfl,ho,hb⟩:=h
  exact ⟨vq,rfl,ho.rd,hW.trans (hb.mono hW.size),hb⟩
 have K3:Hid (∀ (W:World) (u:Value),Below w2.heap.size w2 W→Rd W u (ints gs)→Calls Tryz.prog 6 #[u] W fun e w'=>e=.returned (.string (bstr F))∧Below w2.heap.size w2 w'∧Below W.heap.size W w'):=fun W u hW hu=>(HFN.out W u hu (ht.below (hbw2.trans (hW.mono hbw2.size)))).mono fun e w' h=>⟨h.1,hW.trans (h.2.mono hW.size),h.2⟩
 have K4:Hid (∀ W:World,Below w2.heap.size w2 W→Calls Tryz.prog 61 #[.slice (some ⟨W.heap.size,0,none⟩) 6 6] (W.alloc (.cells #[.string ⟨#[107,110,111,119,110]⟩,.string (bstr A),.string ⟨#[114,101,115,117,108,116,115]⟩,.string (bstr E),.string ⟨#[105,100,108,101]⟩,.string (bstr F)] 9)) fun e w'=>e=.returned (.string (bstr R))∧Below w2.heap.size w2 w'):=fun W hW=>(GL.out W).mono fun e w' h=>⟨h.1,hW.trans (h.2.mono hW.size)⟩
 have BW2:=Lib.hid hbw2
 clear KI0 KJ0 GH GR GG HFN GL c0 c1 C0 C1 HN hbw2 hb2 hb0 h h' HHL HRL
 go_region_held3 (fun wx=>Below w2.heap.size w2 wx∧wx.cell? ⟨w.heap.size,0,none⟩=some (.int .i64 n)∧wx.cell? ⟨w.heap.size,1,none⟩=some (.slice a xss.length c))
  (first | exact HT.out _ gL | exact HT.out _ gN | exact HT.out _ (gN.alloc gN.size _) | exact HT.out _ gG | exact HT.out _ gJ | exact HT.out _ gR | exact HT.out _ gI | exact HT.out _ gH | exact HT.out _ (by exact ⟨rfl,rfl,rfl,Nat.le_refl _,fun _ _=>rfl⟩) | go_keep)
  (first
   | (go_at_call 66;(with_reducible refine (K1.out _ (by exact (show _∧_∧_ from by assumption).1)).mono ?_);rintro e wH ⟨⟨aq,cq,rfl⟩,gH,rH⟩)
   | (go_at_call 14;(with_reducible refine (K0.out _ (by exact (show _∧_∧_ from by assumption).1)).mono ?_);rintro e wI ⟨rfl,gI,rI⟩)
   | (go_at_call 67;(with_reducible refine (J1.out _ (by exact (show _∧_∧_ from by assumption).1)).mono ?_);rintro e wR ⟨⟨aq2,cq2,rfl⟩,gR,rR⟩)
   | (go_at_call 14;(with_reducible refine (J0.out _ (by exact (show _∧_∧_ from by assumption).1)).mono ?_);rintro e wJ ⟨rfl,gJ,rJ⟩)
   | (go_at_call 18;(with_reducible refine (K2.out _ (by exact (show _∧_∧_ from by assumption).1)).mono ?_);rintro e wG ⟨vg,rfl,rdG,gG,rG⟩;obtain ⟨ag,cg,rfl,_,_⟩:=rdG.formi)
   | (go_at_call 6;refine (K3.out _ _ (by exact (show _∧_∧_ from by assumption).1) (by first | exact rdG | exact rdG.below rH | exact rdG.below rI)).mono ?_;rintro e wN ⟨rfl,gN,rN⟩)
   | (go_at_call 61;(refine (K4.out wN gN).mono ?_);rintro e wL ⟨rfl,gL⟩))
 all_goals
  go_wp2_with fail
  go_ret
  exact ⟨rfl,BW2.out.trans (gL.mono BW2.out.size)⟩
def testLine (n:Int) (xss:List (List Int)):List UInt8 :=
 if netOk n xss && decide (xss.length≤20) then [104,105,100,100,101,110,32]++Lib.itoa (hiddenL n xss).length++[32,116,101,115,116,115,32]++numsB (greedyL n xss) else [110,111,110,101]
theorem testLine_no {n:Int} {xss:List (List Int)} (h:netOk n xss=false∨20 < xss.length):testLine n xss=[110,111,110,101]:=by
 unfold testLine
 rcases h with h | h
 · simp [h]
 · rw [if_neg]
   simp only [Bool.and_eq_true,decide_eq_true_eq]
   rintro ⟨_,h2⟩
   omega
theorem testLine_ok {n:Int} {xss:List (List Int)} (h:netOk n xss=true) (h2:xss.length≤20):testLine n xss=[104,105,100,100,101,110,32]++Lib.itoa (hiddenL n xss).length++[32,116,101,115,116,115,32]++numsB (greedyL n xss):=by
 unfold testLine
 rw [h,if_pos]
 simpa using h2
theorem I_TestLine (w:World) (n:Int) (hn:I64 n) (v:Value) (xss:List (List Int)) (h:Rd2 w v xss) (_:I64ss xss) (_:SzOk xss) (ht:Tab w):Calls Tryz.prog 19 #[.agg #[.int .i64 n,v]] w (RetB (.string (bstr (testLine n xss))) w):=by
 obtain ⟨a,c,rfl,h2,h3⟩:=h.form
 obtain ⟨w0,hw0,hb0,hz0,c0,c1⟩:=net_box w (.int .i64 n) (.slice a xss.length c) 30
 have h':=h.below hb0
 have HN:=i_NetworkOk n _ xss _ h' hn
 have C1:=Lib.hid c1
 cases hk:netOk n xss
 · rw [hk] at HN
   have HR:=Lib.hid (testLine_no (.inl hk))
   go_enter Tryz.func19,Tryz.ntmps19
   go_wp2_with (go_at_call 40;refine HN.mono ?_;rintro e w2 ⟨rfl,hb2⟩;have c1:=(hb2.cell (show w.heap.size < w0.heap.size by omega)).trans C1.out)
   go_ret
   exact ⟨by rw [HR.out];rfl,hb0.trans (hb2.mono (by omega))⟩
 rw [hk] at HN
 by_cases hl20:xss.length≤20
 case neg =>
  have HR:=Lib.hid (testLine_no (n:=n) (xss:=xss) (.inr (by omega)))
  have d0:decide ((xss.length:Int) > 20)=true:=by simp;omega
  go_enter Tryz.func19,Tryz.ntmps19
  go_wp2_with (go_at_call 40;refine HN.mono ?_;rintro e w2 ⟨rfl,hb2⟩;have c1:=(hb2.cell (show w.heap.size < w0.heap.size by omega)).trans C1.out)
  go_ret
  exact ⟨by rw [HR.out];rfl,hb0.trans (hb2.mono (by omega))⟩
 have HR:=Lib.hid (testLine_ok hk hl20)
 have d0:decide ((xss.length:Int) > 20)=false:=by simp;omega
 have GH:=Lib.hid (fun (W:World) (hW:Below w.heap.size w W)=>i_HiddenFaults n _ xss W (h.below hW) hn)
 have GG:=Lib.hid (fun (W:World) (hW:Below w.heap.size w W)=>i_GreedyTests n _ xss W (h.below hW) hn)
 have hhl:=hiddenL_len n xss
 obtain ⟨hgi,hgl⟩:=greedyL_bd n xss
 obtain ⟨hs,hhs⟩:∃ hs,hiddenL n xss=hs:=⟨_,rfl⟩
 obtain ⟨gs,hgs⟩:∃ gs,greedyL n xss=gs:=⟨_,rfl⟩
 rw [hhs] at GH HR hhl
 rw [hgs] at GG HR hgi hgl
 have hzn:=numsB_le hgi hgl
 have g0:fmtNums gs=numsB gs:=by rw [fmtNums,if_neg (by omega)]
 have HF0:=fun (W:World) (u:Value) (hu:Rd W u (ints gs)) (hW:Tab W)=>I_FormatNumbers W u _ hu hgi (by omega) hW
 rw [g0] at HF0
 have zA:=(itoa_len (n:=(hs.length:Int)) (show I64 _ by unfold I64;omega)).2
 have KI0:=Lib.hid (fun (W:World) (hW:Tab W)=>I_FormatInt W (hs.length:Int) (by unfold I64;omega) hW)
 have GL:=Lib.hid (fun W=>i_line4 [104,105,100,100,101,110] (Lib.itoa hs.length) [116,101,115,116,115] (numsB gs) (by simp) (by omega) (by simp) (by omega) W)
 have HRB:Hid (testLine n xss=[104,105,100,100,101,110]++[32]++Lib.itoa hs.length++[32]++[116,101,115,116,115]++[32]++numsB gs):=by simp [HR.out,Hid]
 have HFN:=Lib.hid HF0
 rw [←HRB.out] at GL
 generalize numsB gs=F at HFN GL
 generalize Lib.itoa (hs.length:Int)=A at KI0 GL
 obtain ⟨R,hR⟩:∃ R,testLine n xss=R:=⟨_,rfl⟩
 rw [hR] at GL ⊢
 clear HRB hR
 obtain ⟨hl,hhl2⟩:∃ hl,hs.length=hl:=⟨_,rfl⟩
 rw [hhl2] at KI0 hhl
 have HHL:=Lib.hid hhl2
 have C0:=Lib.hid c0
 clear hk HF0 g0 hzn zA hgi hgl hhs hgs hhl2 hl20 HR
 go_enter Tryz.func19,Tryz.ntmps19
 go_wp2_with (go_at_call 40;refine HN.mono ?_;rintro e w2 ⟨rfl,hb2⟩;have hbw2:Below w.heap.size w w2:=hb0.trans (hb2.mono (by omega));obtain ⟨c0,c1⟩:=Below.cells2 hb2 (show w.heap.size < w0.heap.size by omega) C0.out C1.out)
 have HT:=keep_box c0 c1
 have K0:Hid (∀ W:World,Below w2.heap.size w2 W→Calls Tryz.prog 14 #[.int .i64 (hl:Int)] W fun e w'=>e=.returned (.string (bstr A))∧Below w2.heap.size w2 w'∧Below W.heap.size W w'):=fun W hW=>(KI0.out W (ht.below (hbw2.trans (hW.mono hbw2.size)))).mono fun e w' h=>⟨h.1,hW.trans (h.2.mono hW.size),h.2⟩
 have K1:Hid (∀ W:World,Below w2.heap.size w2 W→Calls Tryz.prog 20 #[.agg #[.int .i64 n,.slice a xss.length c]] W fun e w'=>(∃ aq cq,e=.returned (.slice aq hl cq))∧Below w2.heap.size w2 w'∧Below W.heap.size W w'):=fun W hW=>(GH.out W (hbw2.trans (hW.mono hbw2.size))).mono fun e w' h=>by
  obtain ⟨vq,rfl,ho,hb⟩:=h
  obtain ⟨aq,cq,rfl,_,_⟩:=ho.form
  exact ⟨⟨aq,cq,by rw [HHL.out]⟩,hW.trans (hb.mono hW.size),hb⟩
 have K2:Hid (∀ W:World,Below w2.heap.size w2 W→Calls Tryz.prog 21 #[.agg #[.int .i64 n,.slice a xss.length c]] W fun e w'=>∃ v,e=.returned v∧Rd w' v (ints gs)∧Below w2.heap.size w2 w'∧Below W.heap.size W w'):=fun W hW=>(GG.out W (hbw2.trans (hW.mono hbw2.size))).mono fun e w' h=>by
  obtain ⟨vq,rfl,ho,hb⟩:=h
  exact ⟨vq,rfl,ho.rd,hW.trans (hb.mono hW.size),hb⟩
 have K3:Hid (∀ (W:World) (u:Value),Below w2.heap.size w2 W→Rd W u (ints gs)→Calls Tryz.prog 6 #[u] W fun e w'=>e=.returned (.string (bstr F))∧Below w2.heap.size w2 w'∧Below W.heap.size W w'):=fun W u hW hu=>(HFN.out W u hu (ht.below (hbw2.trans (hW.mono hbw2.size)))).mono fun e w' h=>⟨h.1,hW.trans (h.2.mono hW.size),h.2⟩
 have K4:Hid (∀ W:World,Below w2.heap.size w2 W→Calls Tryz.prog 61 #[.slice (some ⟨W.heap.size,0,none⟩) 4 4] (W.alloc (.cells #[.string ⟨#[104,105,100,100,101,110]⟩,.string (bstr A),.string ⟨#[116,101,115,116,115]⟩,.string (bstr F)] 9)) fun e w'=>e=.returned (.string (bstr R))∧Below w2.heap.size w2 w'):=fun W hW=>(GL.out W).mono fun e w' h=>⟨h.1,hW.trans (h.2.mono hW.size)⟩
 have BW2:=Lib.hid hbw2
 clear KI0 GH GG HFN GL c0 c1 C0 C1 HN hbw2 hb2 hb0 h h' HHL
 go_region_held3 (fun wx=>Below w2.heap.size w2 wx∧wx.cell? ⟨w.heap.size,0,none⟩=some (.int .i64 n)∧wx.cell? ⟨w.heap.size,1,none⟩=some (.slice a xss.length c))
  (first | exact HT.out _ gL | exact HT.out _ gN | exact HT.out _ gI | exact HT.out _ (gN.alloc gN.size _) | exact HT.out _ (gI.alloc gI.size _) | exact HT.out _ gH | exact HT.out _ gG | exact HT.out _ (by exact ⟨rfl,rfl,rfl,Nat.le_refl _,fun _ _=>rfl⟩) | go_keep)
  (first
   | (go_at_call 20;(with_reducible refine (K1.out _ (by exact (show _∧_∧_ from by assumption).1)).mono ?_);rintro e wH ⟨⟨aq,cq,rfl⟩,gH,rH⟩)
   | (go_at_call 14;(with_reducible refine (K0.out _ (by exact (show _∧_∧_ from by assumption).1)).mono ?_);rintro e wI ⟨rfl,gI,rI⟩)
   | (go_at_call 21;(with_reducible refine (K2.out _ (by exact (show _∧_∧_ from by assumption).1)).mono ?_);rintro e wG ⟨vg,rfl,rdG,gG,rG⟩;obtain ⟨ag,cg,rfl,_,_⟩:=rdG.formi)
   | (go_at_call 6;refine (K3.out _ _ (by exact (show _∧_∧_ from by assumption).1) (by first | exact rdG | exact rdG.below rH | exact rdG.below rI | exact (rdG.below rH).below rI)).mono ?_;rintro e wN ⟨rfl,gN,rN⟩)
   | (go_at_call 61;(refine (K4.out wN gN).mono ?_);rintro e wL ⟨rfl,gL⟩)
   | (go_at_call 61;(refine (K4.out wI gI).mono ?_);rintro e wL ⟨rfl,gL⟩))
 all_goals
  go_wp2_with fail
  go_ret
  exact ⟨rfl,BW2.out.trans (gL.mono BW2.out.size)⟩
end Go.Proofs.YtggblfnajeikjaaGreatDoor
