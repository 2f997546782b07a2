/- Joined texts of the proof: MergeLine, MergeLineI, StackC, StackD, NetLine. -/
import Derived.Test.YtggblfnajeikjaaGreatDoorJ13
import Derived.Test.YtggblfnajeikjaaGreatDoorJ14
import Derived.Test.YtggblfnajeikjaaGreatDoorJ34
namespace Go.Proofs.YtggblfnajeikjaaGreatDoor
open Go.RowKit
set_option linter.unusedVariables false
set_option linter.unusedSimpArgs false
set_option maxRecDepth 100000
set_option maxHeartbeats 16000000
theorem cmL_bd {S:Int} (h0:0≤S) (h1:S≤8000):∀ (f:Nat) (s:List Int),RunsL S s→0≤cmL f s∧cmL f s≤8000 * (f:Int)
 | 0,s,_=>by simp [cmL]
 | f+1,[],_=>by simp [cmL];omega
 | f+1,[_],_=>by simp [cmL];omega
 | f+1,a :: b :: t,h=>by
   obtain ⟨ha,hb,hab,h2⟩:=h.pair
   have:=cmL_bd h0 h1 f _ h2.srt
   simp only [cmL]
   omega
def nbAll (xs:List Int):Int:=nb xs.length xs
theorem cm_I64 {xs:List Int} (h:lensB xs=true):I64 (cm xs)∧I64 (nbAll xs):=by
 obtain ⟨hR,h0,h1⟩:=RunsL.of h
 obtain ⟨h8,hb⟩:=lensB_iff.1 h
 have h2:=cmL_bd h0 h1 xs.length _ hR.srt
 have h3:=nb_bd xs.length xs h8 hb h8
 have h4:=(nbTop_le xs.length h8).2
 refine ⟨?_,?_⟩
 · unfold I64 cm;omega
 · unfold I64 nbAll;omega
def mergeLine (xs:List Int):List UInt8 :=
 if lensB xs then [97,110,121,32]++Lib.itoa (cm xs)++[32,110,101,105,103,104,98,111,114,115,32]++Lib.itoa (nbAll xs) else [110,111,110,101]
def RetCh (z:Int) (w:World) (e:Ending) (w':World):Prop:=∃ v,e=.returned (.tuple #[.int .i64 z,v])∧Below w.heap.size w w'
theorem i_CheapestMergeOf (HCH:∀ (v:Value) (xs:List Int) (w:World),Rd w v (ints xs)→lensB xs=true→Calls Tryz.prog 90 #[v] w (RetCh (cm xs) w))
 (v:Value) (xs:List Int) (w:World) (h:Rd w v (ints xs)) (hs:lensB xs=true):Calls Tryz.prog 31 #[v] w (RetB (.int .i64 (cm xs)) w):=by
 have HL:=Lib.hid (hs ▸ i_LengthsOk v xs w h)
 have HC:=Lib.hid (HCH v xs w h hs)
 generalize cm xs=Z at HC ⊢
 obtain ⟨a,n,c,rfl,HN,hnc,hc⟩:=h.formN
 clear HCH hs
 go_enter Tryz.func31,Tryz.ntmps31
 go_wp2_with (first
  | (go_at_call 88;refine HL.out.mono ?_;rintro e w' ⟨rfl,rfl⟩)
  | (go_at_call 90;refine HC.out.mono ?_;rintro e w1 ⟨v1,rfl,hb1⟩))
 go_ret
 exact ⟨rfl,hb1⟩
theorem I_MergeLineOf (HCM:∀ (v:Value) (xs:List Int) (w:World),Rd w v (ints xs)→lensB xs=true→Calls Tryz.prog 31 #[v] w (RetB (.int .i64 (cm xs)) w))
 (w:World) (v:Value) (xs:List Int) (h:Rd w v (ints xs)) (_:I64s xs) (_:xs.length≤1048576) (ht:Tab w):Calls Tryz.prog 30 #[v] w (RetB (.string (bstr (mergeLine xs))) w):=by
 have HO:=i_LengthsOk v xs w h
 cases hs:lensB xs
 · rw [hs] at HO
   have HR:Hid (mergeLine xs=[110,111,110,101]):=by rw [Hid,mergeLine,hs];rfl
   have HOK:=Lib.hid HO
   obtain ⟨a,n,c,rfl,HN,hnc,hc⟩:=h.formN
   generalize mergeLine xs=R at HR ⊢
   clear HO hs HCM
   go_enter Tryz.func30,Tryz.ntmps30
   go_wp2_with (go_at_call 88;refine HOK.out.mono ?_;rintro e w' ⟨rfl,rfl⟩)
   go_ret
   exact ⟨by rw [HR.out];rfl,Below.refl _ _⟩
 rw [hs] at HO
 have HOK:=Lib.hid HO
 obtain ⟨h8,hb⟩:=lensB_iff.1 hs
 obtain ⟨hi1,hi2⟩:=cm_I64 hs
 have HC:=Lib.hid (HCM v xs w h hs)
 have HNB:=Lib.hid (fun (W:World) (hW:Below w.heap.size w W)=>i_nb xs.length v xs W (h.below hW) (Nat.le_refl _) h8 hb)
 have HE:Hid (nb xs.length xs=nbAll xs):=rfl
 rw [HE.out] at HNB
 have HRX:Hid (mergeLine xs=[97,110,121,32]++Lib.itoa (cm xs)++[32,110,101,105,103,104,98,111,114,115,32]++Lib.itoa (nbAll xs)):=by rw [Hid,mergeLine,if_pos hs]
 generalize cm xs=p at hi1 HC HRX
 generalize nbAll xs=q at hi2 HNB HRX HE
 have HP:=Lib.hid (fun (W:World) (hW:Below w.heap.size w W)=>I_FormatInt W p hi1 (ht.below hW))
 have HQ:=Lib.hid (fun (W:World) (hW:Below w.heap.size w W)=>I_FormatInt W q hi2 (ht.below hW))
 have zP:=(itoa_len hi1).2
 have zQ:=(itoa_len hi2).2
 have HR1:Hid (mergeLine xs=[97,110,121]++[32]++Lib.itoa p++[32]++[110,101,105,103,104,98,111,114,115]++[32]++Lib.itoa q):=by rw [Hid,HRX.out];simp
 obtain ⟨A,hA⟩:∃ A,Lib.itoa p=A:=⟨_,rfl⟩
 obtain ⟨B,hB⟩:∃ B,Lib.itoa q=B:=⟨_,rfl⟩
 rw [hA] at HP zP HR1
 rw [hB] at HQ zQ HR1
 have GL:=Lib.hid (fun W=>i_line4 [97,110,121] A [110,101,105,103,104,98,111,114,115] B (by simp) (by omega) (by simp) (by omega) W)
 generalize [97,110,121]++[32]++A++[32]++[110,101,105,103,104,98,111,114,115]++[32]++B=R4 at GL HR1
 have K4:Hid (∀ W:World,Calls Tryz.prog 61 #[.slice (some ⟨W.heap.size,0,none⟩) 4 4] (W.alloc (.cells #[.string ⟨#[97,110,121]⟩,.string (bstr A),.string ⟨#[110,101,105,103,104,98,111,114,115]⟩,.string (bstr B)] 9)) fun e w'=>e=.returned (.string (bstr R4))∧Below W.heap.size W w'):=fun W=>GL.out W
 obtain ⟨a,n,c,rfl,HN,hnc,hc⟩:=h.formN
 generalize mergeLine xs=R at HR1 ⊢
 clear HO hs h HRX zP zQ hA hB hi1 hi2 GL h8 hb HE HCM
 go_enter Tryz.func30,Tryz.ntmps30
 go_wp2_with (first
  | (go_at_call 88;refine HOK.out.mono ?_;rintro e w' ⟨rfl,rfl⟩)
  | (go_at_call 31;refine HC.out.mono ?_;rintro e w1 ⟨rfl,hb1⟩)
  | (go_at_call_of 14 p;refine (HP.out _ hb1).mono ?_;rintro e w2 ⟨rfl,hb2⟩;have hb2':=hb1.trans (hb2.mono hb1.size))
  | (go_at_call 89;refine (HNB.out _ hb2').mono ?_;rintro e w3 ⟨rfl,hd3⟩;have hb3':=hb2'.trans (hd3.below _))
  | (go_at_call_of 14 q;refine (HQ.out _ hb3').mono ?_;rintro e w4 ⟨rfl,hb4⟩;have hb4':=hb3'.trans (hb4.mono hb3'.size))
  | (go_at_call 61;(with_reducible refine (K4.out w4).mono ?_);rintro e w5 ⟨rfl,hb5⟩;have hb5':=hb4'.trans (hb5.mono hb4'.size)))
 go_ret
 exact ⟨by rw [HR1.out];rfl,hb5'⟩
theorem popA_stop {x a:Int} (h:¬ a < x) (o r:List Int) (w:List UInt8):popA x o (a :: r) w=(o,a :: r,w):=by rw [popA,if_neg h]
theorem popA_go {x a:Int} (h:a < x) (o r:List Int) (w:List UInt8):popA x o (a :: r) w=popA x (o++[a]) r (w++[116]):=by rw [popA,if_pos h]
theorem stk_of {xs:List Int} {k:Nat} {x:Int} {O R O2 R2:List Int} {W W2:List UInt8} (hx:xs[k]?=some x) (h:stkR xs k=(O,R,W)) (hp:popA x O2 R2 W2=popA x O R W) (hs:popA x O2 R2 W2=(O2,R2,W2)) :
 stkR xs (k+1)=(O2,x :: R2,W2++[112]):=by
 rw [stkR_succ hx,h,stk1,←hp,hs]
theorem rev_top (a:Int) (r:List Int):(a :: r).reverse[r.length]?=some a:=by
 rw [List.reverse_cons,List.getElem?_append_right (by simp)]
 simp
def RetWord (u:List UInt8) (b:Bool) (w:World) (e:Ending) (w':World):Prop:=e=.returned (.tuple #[.string (bstr u),.bool b])∧Below w.heap.size w w'
def wordOf (xs:List Int):List UInt8:=if shortB xs && canB xs then stkW xs else []
theorem bstr_snoc {A:ByteArray} {W:List UInt8} (h:A=bstr W) (x:UInt8):A++(⟨#[x]⟩:ByteArray)=bstr (W++[x]):=by
 rw [h]
 exact bstr_app W [x]
theorem stkR_bd {xs:List Int} {k:Nat} {O R:List Int} {W:List UInt8} (hk:k≤xs.length) (h:stkR xs k=(O,R,W)):O.length+R.length=k∧W.length=k+O.length:=by
 have:=stkR_len xs k hk
 rw [h] at this
 exact this
theorem own_pop {w:World} {E B n c ρ:Nat} {a:Option Addr} {x:Int} {r:List Int} (h:Own w E B (.slice a n c) (ints (x :: r).reverse)) (hn:ρ≤n) (hr:ρ=r.length):Own w E B (.slice a ρ c) (ints r.reverse):=by
 have ho:=h.take hn
 rw [ints_take,List.reverse_cons,List.take_append_of_le_length (by simp;omega),List.take_of_length_le (by simp;omega)] at ho
 exact ho
def netHead (n:Int) (xss:List (List Int)):List UInt8:=[112,97,105,114,115,32]++Lib.itoa xss.length++[32,100,101,112,116,104,32]++Lib.itoa (depthOf n xss)
def netLine (n:Int) (xss:List (List Int)):List UInt8 :=
 if netOk n xss then (if failsB n xss then netHead n xss++[32,102,97,105,108,115,32]++numsB (failLs n xss) else netHead n xss++[32,115,111,114,116,115]) else [110,111,110,101]
theorem I_NetworkLine (w:World) (n:Int) (hn:I64 n) (v:Value) (xss:List (List Int)) (h:Rd2 w v xss) (_:I64ss xss) (_:SzOk xss) (ht:Tab w):Calls Tryz.prog 13 #[.agg #[.int .i64 n,v]] w (RetB (.string (bstr (netLine n xss))) w):=by
 obtain ⟨a,c,rfl,h2,h3⟩:=h.form
 obtain ⟨w0,hw0,hb0,hz0,c0,c1⟩:=net_box w (.int .i64 n) (.slice a xss.length c) 30
 have h':=h.below hb0
 have HN:=i_NetworkOk n _ xss _ h' hn
 cases hk:netOk n xss
 · rw [hk] at HN
   have HR:Hid (netLine n xss=[110,111,110,101]):=by simp [netLine,hk,Hid]
   go_enter Tryz.func13,Tryz.ntmps13
   go_wp2_with (go_at_call 40;refine HN.mono ?_;rintro e w2 ⟨rfl,hb2⟩)
   go_ret
   exact ⟨by rw [HR.out];rfl,hb0.trans (hb2.mono (by omega))⟩
 rw [hk] at HN
 have hdb:=depthOf_bound hk
 obtain ⟨N,rfl,hN1,hN8,hL60⟩:=netOk_n hk
 obtain ⟨hi,hl8⟩:=failLs_ok (n:=(N:Int)) (xss:=xss)
 have GF:=Lib.hid (fun (W:World) (hW:Below w.heap.size w W)=>i_FailingList (N:Int) _ xss W (h.below hW) hn)
 have GD:=Lib.hid (fun (W:World) (hW:Below w.heap.size w W)=>i_DepthOf (N:Int) _ xss W (h.below hW) hn)
 have hzn:=numsB_le hi hl8
 have HFN:=Lib.hid (fun (W:World) (u:Value) (hu:Rd W u (ints (failLs (N:Int) xss))) (hW:Tab W)=>i_numbers W u _ hu hi (by omega) hW)
 have HR:Hid ((failsB (N:Int) xss=true→netLine (N:Int) xss=netHead (N:Int) xss++[32]++[102,97,105,108,115]++[32]++numsB (failLs (N:Int) xss))∧(failsB (N:Int) xss=false→netLine (N:Int) xss=netHead (N:Int) xss++[32]++[115,111,114,116,115])):=⟨fun h=>by simp [netLine,hk,h],fun h=>by simp [netLine,hk,h]⟩
 have HH:Hid ([112,97,105,114,115]++[32]++Lib.itoa xss.length++[32]++[100,101,112,116,104]++[32]++Lib.itoa (depthOf (N:Int) xss)=netHead (N:Int) xss):=by simp [netHead,Hid]
 obtain ⟨D,hD⟩:∃ D,depthOf (N:Int) xss=D:=⟨_,rfl⟩
 rw [hD] at GD hdb HH
 have zA:=(itoa_len (n:=(xss.length:Int)) (show I64 _ by unfold I64;omega)).2
 have zB:=(itoa_len (n:=D) (show I64 _ by unfold I64;omega)).2
 have zH:(netHead (N:Int) xss).length≤100:=by rw [←HH.out];simp;omega
 have KI0:=Lib.hid (fun (W:World) (hW:Tab W)=>I_FormatInt W (xss.length:Int) (by unfold I64;omega) hW)
 have KI1:=Lib.hid (fun (W:World) (hW:Tab W)=>I_FormatInt W D (by unfold I64;omega) hW)
 have GL:=Lib.hid (fun W=>i_line4 [112,97,105,114,115] (Lib.itoa xss.length) [100,101,112,116,104] (Lib.itoa D) (by simp) (by omega) (by simp) (by omega) W)
 rw [HH.out] at GL
 have GL2:=Lib.hid (fun W=>i_line2 (netHead (N:Int) xss) [115,111,114,116,115] (by omega) (by simp) W)
 have GL3:=Lib.hid (fun W=>i_line3 (netHead (N:Int) xss) [102,97,105,108,115] (numsB (failLs (N:Int) xss)) (by omega) (by simp) (by omega) W)
 obtain ⟨H,hH⟩:∃ H,netHead (N:Int) xss=H:=⟨_,rfl⟩
 rw [hH] at GL GL2 GL3 HR
 generalize Lib.itoa (xss.length:Int)=A at KI0 GL
 generalize Lib.itoa D=B at KI1 GL
 have C0:=Lib.hid c0
 have C1:=Lib.hid c1
 obtain ⟨bf,hbf⟩:∃ bf,failsB (N:Int) xss=bf:=⟨_,rfl⟩
 rw [hbf] at GF HR
 clear hk hD hzn zA zB hi hl8 hbf HH hdb hH zH
 go_enter Tryz.func13,Tryz.ntmps13
 go_wp2_with (go_at_call 40;refine HN.mono ?_;rintro e w2 ⟨rfl,hb2⟩;have hbw2:Below w.heap.size w w2:=hb0.trans (hb2.mono (by omega));obtain ⟨c0,c1⟩:=Below.cells2 hb2 (show w.heap.size < w0.heap.size by omega) C0.out C1.out)
 have HT:=keep_box c0 c1
 have K0:Hid (∀ W:World,Below w2.heap.size w2 W→Calls Tryz.prog 14 #[.int .i64 (xss.length:Int)] W fun e w'=>e=.returned (.string (bstr A))∧Below w2.heap.size w2 w'):=fun W hW=>(KI0.out W (ht.below (hbw2.trans (hW.mono hbw2.size)))).mono fun e w' h=>⟨h.1,hW.trans (h.2.mono hW.size)⟩
 have K1:Hid (∀ W:World,Below w2.heap.size w2 W→Calls Tryz.prog 14 #[.int .i64 D] W fun e w'=>e=.returned (.string (bstr B))∧Below w2.heap.size w2 w'):=fun W hW=>(KI1.out W (ht.below (hbw2.trans (hW.mono hbw2.size)))).mono fun e w' h=>⟨h.1,hW.trans (h.2.mono hW.size)⟩
 have K2:Hid (∀ W:World,Below w2.heap.size w2 W→Calls Tryz.prog 15 #[.agg #[.int .i64 N,.slice a xss.length c]] W fun e w'=>e=.returned (.int .i64 D)∧Below w2.heap.size w2 w'):=fun W hW=>(GD.out W (hbw2.trans (hW.mono hbw2.size))).mono fun e w' h=>⟨h.1,hW.trans (h.2.mono hW.size)⟩
 have K3:Hid (∀ W:World,Below w2.heap.size w2 W→Calls Tryz.prog 61 #[.slice (some ⟨W.heap.size,0,none⟩) 4 4] (W.alloc (.cells #[.string ⟨#[112,97,105,114,115]⟩,.string (bstr A),.string ⟨#[100,101,112,116,104]⟩,.string (bstr B)] 9)) fun e w'=>e=.returned (.string (bstr H))∧Below w2.heap.size w2 w'):=fun W hW=>(GL.out W).mono fun e w' h=>⟨h.1,hW.trans (h.2.mono hW.size)⟩
 have BW2:=Lib.hid hbw2
 clear KI0 KI1 GD c0 c1 C0 C1 HN hbw2 hb2 hb0 h h' GL
 go_region_held3 (fun wx=>Below w2.heap.size w2 wx∧wx.cell? ⟨w.heap.size,0,none⟩=some (.int .i64 N)∧wx.cell? ⟨w.heap.size,1,none⟩=some (.slice a xss.length c))
  (first | exact HT.out _ g3 | exact HT.out _ (g3.alloc g3.size _) | exact HT.out _ (by exact ⟨rfl,rfl,rfl,Nat.le_refl _,fun _ _=>rfl⟩) | go_keep)
  (first
   | (go_at_call 14;(with_reducible refine (K0.out _ (by exact (show _∧_∧_ from by assumption).1)).mono ?_);rintro e w3 ⟨rfl,g3⟩)
   | (go_at_call 14;(with_reducible refine (K1.out _ (by exact (show _∧_∧_ from by assumption).1)).mono ?_);rintro e w3 ⟨rfl,g3⟩)
   | (go_at_call 15;(with_reducible refine (K2.out _ (by exact (show _∧_∧_ from by assumption).1)).mono ?_);rintro e w3 ⟨rfl,g3⟩)
   | (go_at_call 61;(refine (K3.out w3 g3).mono ?_);rintro e w3 ⟨rfl,g3⟩))
 all_goals
  have bt:Below w.heap.size w w3:=BW2.out.trans (g3.mono BW2.out.size)
  obtain ⟨_,d0,d1⟩:=HT.out _ g3
  have KF:=GF.out w3 bt
  cases bf
  · go_wp2_with (first
     | (go_at_call 16;refine KF.mono ?_;rintro e w4 ⟨vo,rfl,ho4,hb4⟩;obtain ⟨ao,no,co,rfl,_,_,_⟩:=ho4.rd.formN)
     | (go_at_call 61;refine (GL2.out w4).mono ?_;rintro e w5 ⟨rfl,hb5⟩))
    go_ret
    exact ⟨by rw [HR.out.2 (by trivial)];simp only [List.append_assoc];rfl,bt.trans ((hb4.trans (hb5.mono hb4.size)).mono bt.size)⟩
  · have tt:=ht.below bt
    go_wp2_with (first
     | (go_at_call 16;refine KF.mono ?_;rintro e w4 ⟨vo,rfl,ho4,hb4⟩;obtain ⟨ao,no,co,rfl,_,_,_⟩:=ho4.rd.formN)
     | (go_at_call 46;refine (HFN.out _ _ ho4.rd (tt.below hb4)).mono ?_;rintro e w5 ⟨rfl,hb5⟩)
     | (go_at_call 61;refine (GL3.out w5).mono ?_;rintro e w6 ⟨rfl,hb6⟩))
    go_ret
    exact ⟨by rw [HR.out.1 (by trivial)];simp only [List.append_assoc];rfl,bt.trans ((hb4.trans ((hb5.trans (hb6.mono hb5.size)).mono hb4.size)).mono bt.size)⟩
end Go.Proofs.YtggblfnajeikjaaGreatDoor
