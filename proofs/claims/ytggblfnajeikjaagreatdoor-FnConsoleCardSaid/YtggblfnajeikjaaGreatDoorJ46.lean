/- Joined texts of the proof: ConQ, ConA, ConSes, LawFnConsole. -/
import Derived.Test.YtggblfnajeikjaaGreatDoorJ32
import Derived.Test.YtggblfnajeikjaaGreatDoorJ42
import Derived.Test.YtggblfnajeikjaaGreatDoorJ44
import Derived.Test.YtggblfnajeikjaaGreatDoorJ45
namespace Go.Proofs.YtggblfnajeikjaaGreatDoor
open Go.RowKit
set_option linter.unusedVariables false
set_option linter.unusedSimpArgs false
set_option maxRecDepth 100000
set_option maxHeartbeats 16000000
def bareM (p:NetV) (wd:List UInt8):NetV × List UInt8 :=
 if wd=[115,116,97,110,100,97,114,100] then takeM p (stdM p.1.toNat p.2)
 else if wd=[109,105,114,114,111,114] then takeM p (mirM p.1.toNat p.2)
 else if wd=[108,101,118,101,108,115] then takeM p (bylM p.1.toNat p.2)
 else if wd=[108,101,97,110] then takeM p (leanM p.1.toNat p.2)
 else if wd=[115,104,111,119] then (p,fmtNet p)
 else if wd=[99,104,101,99,107] then (p,netLine p.1 p.2)
 else if wd=[111,114,100,101,114] then (p,orderLine p.1 p.2)
 else if wd=[116,101,115,116,115] then (p,testLine p.1 p.2)
 else (p,unkS)
theorem tot_bndC {xss:List (List Int)} {B:Nat} (h:∀ xs∈xss,xs.length≤B):tot xss≤xss.length * B:=by
 induction xss with
 | nil=>simp [tot]
 | cons x t ih =>
   have h1:=ih (fun xs hx=>h xs (List.mem_cons_of_mem _ hx))
   have h2:=h x (List.mem_cons_self ..)
   simp only [tot,List.foldr_cons,List.length_cons] at *
   rw [Nat.add_mul]
   omega
theorem netOk_I64C {N:Nat} {xss:List (List Int)} (hk:netOk (N:Int) xss=true):I64ss xss∧SzOk xss:=by
 obtain ⟨N',hN',h1,h8,h60⟩:=netOk_n hk
 have hr:∀ xs∈xss,∃ a b:Nat,xs=[(a:Int),(b:Int)]∧a < N∧b < N∧a≠b:=fun xs hx=>by
  obtain ⟨k,hx⟩:=List.getElem?_of_mem hx
  exact netOk_row hk hx
 refine ⟨fun xs hx y hy=>?_,by omega,?_⟩
 · obtain ⟨a,b,rfl,ha,hb,_⟩:=hr xs hx
   have : y=(a:Int)∨y=(b:Int):=by simpa using hy
   unfold I64
   omega
 · have:=tot_bndC (B:=2) (fun xs hx=>by obtain ⟨a,b,rfl,_⟩:=hr xs hx;simp)
   omega
theorem leanM_ok {N:Nat} {X:List (List Int)} {q:NetV} (hk:netOk (N:Int) X=true) (h:leanM N X=some q):netOk q.1 q.2=true:=by
 unfold leanM at h
 split at h
 · cases h;exact leanL_ok _ _ _ (Nat.le_refl _) hk
 · cases h
theorem i_bare:BareOk bareM:=by
 intro g p wd w hc hk h60 hwl ht
 obtain ⟨N,X,rfl,hN1,hN8,hk⟩:=conNet hk
 obtain ⟨a0,m0,c0,hG,hR⟩:=hc
 have hc:Con w g ((N:Int),X):=⟨a0,m0,c0,hG,hR⟩
 simp only at hG hR h60
 replace hR:=hR.rd2
 have hg:=box_lt hG
 have g0:=box_cell hG 0
 have g1:=box_cell hG 1
 have htb:=ht.tab.tab
 have hn:I64 (N:Int):=by unfold I64;omega
 obtain ⟨fx,sx⟩:=netOk_I64C hk
 clear h60
 obtain ⟨S,hS⟩:∃ S,bstr wd=S:=⟨_,rfl⟩
 by_cases h0:wd=[115,116,97,110,100,97,114,100]
 · have e0:=strEq hS h0
   have HR:Hid (bareM ((N:Int),X) wd=takeM ((N:Int),X) (stdM N X)):=by rw [Hid,bareM,if_pos h0] <;> try rfl
   rw [HR.out,hS]
   clear HR hS h0
   have HX:=Lib.hid (i_StandardOf N _ X w hR hk)
   have okR:∀ q,stdM N X=some q→netOk q.1 q.2=true:=fun q hq=>stdM_ok hk hq
   unfold stdM at *
   generalize stdR (fun j=>(j:Int)) X=Y at *
   have HTK:Hid (∀ (a1:Option Addr) (m1 c1:Nat) (w1:World),Below w.heap.size w w1→OwnP w1 w.heap.size (.slice a1 m1 c1) Y→Calls Tryz.prog 195 #[.pointer (some ⟨g,0,none⟩),.agg #[.int .i64 (N:Int),.slice a1 m1 c1],.bool true] w1 (RetC g (takeM ((N:Int),X) (some ((N:Int),Y))) w1)):=fun a1 m1 c1 w1 b1 o1=>i_takeC g ((N:Int),X) (some ((N:Int),Y)) (fun q hq=>okR q hq) a1 m1 c1 w.heap.size w1 (hc.below b1) o1 hg (ht.below b1)
   go_enter Tryz.func164,Tryz.ntmps164
   go_wp2_with (first
    | (go_at_call 199;refine HX.out.mono ?_;rintro e w1 ⟨a1,m1,c1,u1,rfl,o1,b1⟩)
    | (go_at_call 195;refine (HTK.out _ _ _ _ (b1.alloc b1.size _) (o1.below ((Below.refl _ _).alloc (Nat.le_refl _) _))).mono ?_;rintro e w2 ⟨rfl,k2,g2⟩))
   go_ret
   exact ⟨rfl,k2,gb_trC (gb_of (b1.alloc b1.size _)) g2⟩
 have e0:=strNe hS h0
 by_cases h1:wd=[109,105,114,114,111,114]
 · have e1:=strEq hS h1
   have HR:Hid (bareM ((N:Int),X) wd=takeM ((N:Int),X) (mirM N X)):=by rw [Hid,bareM,if_neg h0,if_pos h1] <;> try rfl
   rw [HR.out,hS]
   clear HR hS h0 h1
   have HX:=Lib.hid (i_MirrorNetwork N _ X w hR hk)
   have okR:∀ q,mirM N X=some q→netOk q.1 q.2=true:=fun q hq=>mirM_ok hk hq
   generalize mirM N X=R at *
   go_enter Tryz.func164,Tryz.ntmps164
   go_wp2_with (first
    | (go_at_call 200;refine HX.out.mono ?_;rintro e w1 ⟨a1,m1,c1,rfl,o1,b1⟩)
    | (go_at_call 195;refine (i_takeC g ((N:Int),X) (R) (fun q hq=>okR q hq) a1 m1 c1 w.heap.size w1 (hc.below b1) o1 hg (ht.below b1)).mono ?_;rintro e w2 ⟨rfl,k2,g2⟩))
   go_ret
   exact ⟨rfl,k2,gb_trC (gb_of b1) g2⟩
 have e1:=strNe hS h1
 by_cases h2:wd=[108,101,118,101,108,115]
 · have e2:=strEq hS h2
   have HR:Hid (bareM ((N:Int),X) wd=takeM ((N:Int),X) (bylM N X)):=by rw [Hid,bareM,if_neg h0,if_neg h1,if_pos h2] <;> try rfl
   rw [HR.out,hS]
   clear HR hS h0 h1 h2
   have HX:=Lib.hid (i_ByLevels N _ X w hR hk)
   have okR:∀ q,bylM N X=some q→netOk q.1 q.2=true:=fun q hq=>bylM_ok hk hq
   generalize bylM N X=R at *
   go_enter Tryz.func164,Tryz.ntmps164
   go_wp2_with (first
    | (go_at_call 201;refine HX.out.mono ?_;rintro e w1 ⟨a1,m1,c1,rfl,o1,b1⟩)
    | (go_at_call 195;refine (i_takeC g ((N:Int),X) (R) (fun q hq=>okR q hq) a1 m1 c1 w.heap.size w1 (hc.below b1) o1 hg (ht.below b1)).mono ?_;rintro e w2 ⟨rfl,k2,g2⟩))
   go_ret
   exact ⟨rfl,k2,gb_trC (gb_of b1) g2⟩
 have e2:=strNe hS h2
 by_cases h3:wd=[108,101,97,110]
 · have e3:=strEq hS h3
   have HR:Hid (bareM ((N:Int),X) wd=takeM ((N:Int),X) (leanM N X)):=by rw [Hid,bareM,if_neg h0,if_neg h1,if_neg h2,if_pos h3] <;> try rfl
   rw [HR.out,hS]
   clear HR hS h0 h1 h2 h3
   have HX:=Lib.hid (i_LeanNetwork N _ X w hR hk)
   have okR:∀ q,leanM N X=some q→netOk q.1 q.2=true:=fun q hq=>leanM_ok hk hq
   generalize leanM N X=R at *
   go_enter Tryz.func164,Tryz.ntmps164
   go_wp2_with (first
    | (go_at_call 202;refine HX.out.mono ?_;rintro e w1 ⟨a1,m1,c1,rfl,o1,b1⟩)
    | (go_at_call 195;refine (i_takeC g ((N:Int),X) (R) (fun q hq=>okR q hq) a1 m1 c1 w.heap.size w1 (hc.below b1) o1 hg (ht.below b1)).mono ?_;rintro e w2 ⟨rfl,k2,g2⟩))
   go_ret
   exact ⟨rfl,k2,gb_trC (gb_of b1) g2⟩
 have e3:=strNe hS h3
 by_cases h4:wd=[115,104,111,119]
 · have e4:=strEq hS h4
   have HR:Hid (bareM ((N:Int),X) wd=(((N:Int),X),fmtNet ((N:Int),X))):=by rw [Hid,bareM,if_neg h0,if_neg h1,if_neg h2,if_neg h3,if_pos h4] <;> try rfl
   rw [HR.out,hS]
   clear HR hS h0 h1 h2 h3 h4
   have HX:=Lib.hid (i_FormatNetwork (N:Int) hn _ X w hR hk htb)
   generalize hZ:fmtNet ((N:Int),X)=Z at *
   clear hZ
   go_enter Tryz.func164,Tryz.ntmps164
   go_wp2_with (go_at_call 43;refine HX.out.mono ?_;rintro e w1 ⟨rfl,b1⟩)
   go_ret
   exact ⟨rfl,hc.below b1,gb_of b1⟩
 have e4:=strNe hS h4
 by_cases h5:wd=[99,104,101,99,107]
 · have e5:=strEq hS h5
   have HR:Hid (bareM ((N:Int),X) wd=(((N:Int),X),netLine (N:Int) X)):=by rw [Hid,bareM,if_neg h0,if_neg h1,if_neg h2,if_neg h3,if_neg h4,if_pos h5] <;> try rfl
   rw [HR.out,hS]
   clear HR hS h0 h1 h2 h3 h4 h5
   have HX:=Lib.hid (I_NetworkLine w (N:Int) hn _ X hR fx sx htb)
   generalize netLine (N:Int) X=Z at *
   go_enter Tryz.func164,Tryz.ntmps164
   go_wp2_with (go_at_call 13;refine HX.out.mono ?_;rintro e w1 ⟨rfl,b1⟩)
   go_ret
   exact ⟨rfl,hc.below b1,gb_of b1⟩
 have e5:=strNe hS h5
 by_cases h6:wd=[111,114,100,101,114]
 · have e6:=strEq hS h6
   have HR:Hid (bareM ((N:Int),X) wd=(((N:Int),X),orderLine (N:Int) X)):=by rw [Hid,bareM,if_neg h0,if_neg h1,if_neg h2,if_neg h3,if_neg h4,if_neg h5,if_pos h6] <;> try rfl
   rw [HR.out,hS]
   clear HR hS h0 h1 h2 h3 h4 h5 h6
   have HX:=Lib.hid (I_OrderLine w (N:Int) hn _ X hR fx sx htb)
   generalize orderLine (N:Int) X=Z at *
   go_enter Tryz.func164,Tryz.ntmps164
   go_wp2_with (go_at_call 17;refine HX.out.mono ?_;rintro e w1 ⟨rfl,b1⟩)
   go_ret
   exact ⟨rfl,hc.below b1,gb_of b1⟩
 have e6:=strNe hS h6
 by_cases h7:wd=[116,101,115,116,115]
 · have e7:=strEq hS h7
   have HR:Hid (bareM ((N:Int),X) wd=(((N:Int),X),testLine (N:Int) X)):=by rw [Hid,bareM,if_neg h0,if_neg h1,if_neg h2,if_neg h3,if_neg h4,if_neg h5,if_neg h6,if_pos h7] <;> try rfl
   rw [HR.out,hS]
   clear HR hS h0 h1 h2 h3 h4 h5 h6 h7
   have HX:=Lib.hid (I_TestLine w (N:Int) hn _ X hR fx sx htb)
   generalize testLine (N:Int) X=Z at *
   go_enter Tryz.func164,Tryz.ntmps164
   go_wp2_with (go_at_call 19;refine HX.out.mono ?_;rintro e w1 ⟨rfl,b1⟩)
   go_ret
   exact ⟨rfl,hc.below b1,gb_of b1⟩
 have e7:=strNe hS h7
 have HR:Hid (bareM ((N:Int),X) wd=(((N:Int),X),unkS)):=by rw [Hid,bareM,if_neg h0,if_neg h1,if_neg h2,if_neg h3,if_neg h4,if_neg h5,if_neg h6,if_neg h7]
 rw [HR.out,hS]
 clear HR hS h0 h1 h2 h3 h4 h5 h6 h7
 go_enter Tryz.func164,Tryz.ntmps164
 go_wp2_with fail
 go_ret
 exact ⟨rfl,hc,gb_of (Below.refl _ _)⟩
def Ans (l:List UInt8):Prop:=1≤l.length∧l.length≤10000
theorem numsB_pos {xs:List Int} (fx:I64s xs):1≤(numsB xs).length:=by
 rw [numsB]
 split
 · simp
 · rename_i h
   cases xs with
   | nil=>simp at h
   | cons x r =>
     have h0:=(itoa_len (fx x (.head _))).1
     have h1:∀ (ls:List (List UInt8)) (k:Nat),1≤(joinK [44] (Lib.itoa x :: ls) (k+1)).length:=by
      intro ls k
      induction k with
      | zero=>simpa [joinK] using h0
      | succ k ih =>
        rw [joinK]
        simp only [List.length_append]
        omega
     exact h1 _ _
theorem ans_nums {xs:List Int} {B:Nat} (fx:I64s xs) (hl:xs.length≤B) (hB:B≤200):Ans (numsB xs):=⟨numsB_pos fx,by have:=numsB_le fx hl;omega⟩
theorem ans_none:Ans [110,111,110,101]:=by unfold Ans;simp
theorem ans_unk:Ans unkS:=by unfold Ans;simp [unkS]
theorem ans_itoa {n:Int} (h:I64 n):Ans (Lib.itoa n):=by have:=itoa_len h;unfold Ans;omega
theorem ans_fmt {p:NetV} (h:netOk p.1 p.2=true):Ans (fmtNet p):=by
 obtain ⟨c,r,e,_⟩:=fmtNet_head h
 have:=fmtNet_len h
 refine ⟨by rw [e];simp,by omega⟩
theorem ans_net {n:Int} {X:List (List Int)} (hk:netOk n X=true):Ans (netLine n X):=by
 obtain ⟨h1,h60,_⟩:=netOk_iff.1 hk
 have hd:=depthOf_bound hk
 obtain ⟨hi,hl8⟩:=failLs_ok (n:=n) (xss:=X)
 have h2:=numsB_le hi hl8
 have zA:=(itoa_len (n:=(X.length:Int)) (by unfold I64;omega)).2
 have zB:=(itoa_len (n:=depthOf n X) (by unfold I64;omega)).2
 unfold Ans netLine netHead
 rw [if_pos hk]
 split <;> simp only [List.length_append,List.length_cons,List.length_nil] <;> omega
theorem ans_order {n:Int} {X:List (List Int)} (hk:netOk n X=true):Ans (orderLine n X):=by
 obtain ⟨hgi,hgl⟩:=idleL_bd n X
 have h2:=numsB_le hgi hgl
 have hk1:=knownL_len n X
 have hr1:=resL_len n X
 have zA:=(itoa_len (n:=((knownL n X).length:Int)) (by unfold I64;omega)).2
 have zB:=(itoa_len (n:=((resL n X).length:Int)) (by unfold I64;omega)).2
 unfold Ans orderLine
 rw [if_pos hk]
 simp only [List.length_append,List.length_cons,List.length_nil]
 omega
theorem ans_test {n:Int} {X:List (List Int)} : Ans (testLine n X):=by
 obtain ⟨hgi,hgl⟩:=greedyL_bd n X
 have h2:=numsB_le hgi hgl
 have hr1:=hiddenL_len n X
 have zB:=(itoa_len (n:=((hiddenL n X).length:Int)) (by unfold I64;omega)).2
 unfold Ans testLine
 split
 · simp only [List.length_append,List.length_cons,List.length_nil]
   omega
 · simp
theorem ans_fab {xs:List Int} : Ans (fabLine xs):=by
 unfold fabLine
 split
 · rename_i h
   obtain ⟨hi,hl⟩:=fabSet_bd h
   have h2:=numsB_le hi hl
   obtain ⟨hst,_,_⟩:=fabX_ok h
   have hn8:xs.length≤8:=by rcases hst with ⟨e,_⟩ | ⟨e,_⟩ | ⟨e,_⟩ <;> omega
   have hrk:=(rK_inv xs.length (stgK xs.length) (fabX xs) xs.length).1
   have zB:=(itoa_len (n:=(((rK xs.length (stgK xs.length) (fabX xs) xs.length).length:Nat):Int)) (by unfold I64;omega)).2
   unfold Ans
   split <;> simp only [List.length_append,List.length_cons,List.length_nil] <;> omega
 · exact ans_none
theorem ans_merge {xs:List Int} : Ans (mergeLine xs):=by
 unfold mergeLine
 split
 · rename_i h
   obtain ⟨h1,h2⟩:=cm_I64 h
   have zA:=(itoa_len h1).2
   have zB:=(itoa_len h2).2
   unfold Ans
   simp only [List.length_append,List.length_cons,List.length_nil]
   omega
 · exact ans_none
theorem ans_flip {xs:List Int} : Ans (flipLine xs):=by
 unfold flipLine
 split
 · rename_i h
   obtain ⟨h1,h2⟩:=grL_bd h
   have z1:=numsB_le h1 h2
   split
   · rename_i h3
     obtain ⟨h4,h5⟩:=bestL_bd h3
     have z2:=numsB_le h4 h5
     unfold Ans
     simp only [List.length_append,List.length_cons,List.length_nil]
     omega
   · unfold Ans
     simp only [List.length_append,List.length_cons,List.length_nil]
     omega
 · exact ans_none
theorem ans_stack {xs:List Int} : Ans (stackLine xs):=by
 unfold stackLine
 split
 · rename_i h
   obtain ⟨h8,_⟩:=shortB_iff.1 h
   have z1:=stkW_len (xs:=xs)
   have z2:=(itoa_len (rnd_I64 xs)).2
   unfold Ans
   split <;> simp only [List.length_append,List.length_cons,List.length_nil] <;> omega
 · exact ans_none
theorem ans_dis {xs:List Int} : Ans (disLine xs):=by
 unfold disLine
 split
 · rename_i h
   exact ans_nums (disL_I64 h) (B:=4) (by simp [disL]) (by omega)
 · exact ans_none
theorem ans_late {T:List Int} {s:Int} : Ans (lateLine T s):=by
 unfold lateLine
 split
 · rename_i h
   obtain ⟨h1,h2⟩:=late_I64 h
   obtain ⟨h3,h4,_,_⟩:=late_lens h
   have z1:=numsB_le h1 h3
   have z2:=numsB_le h2 h4
   unfold Ans
   simp only [List.length_append,List.length_cons,List.length_nil]
   omega
 · unfold Ans;simp [noneB]
theorem ans_orS {ok:Bool} {ys:List Int} (hi:ok=true→I64s ys∧ys.length≤200):Ans (orS ok ys):=by
 cases ok
 · exact ans_none
 · exact ans_nums (hi rfl).1 (hi rfl).2 (Nat.le_refl _)
structure LineOk (p:NetV) (q:NetV × List UInt8):Prop where
 net:netOk q.1.1 q.1.2=true
 ans:Ans q.2
 same:q.2=noneS∨q.2=unkS→q.1=p
theorem LineOk.ask {p:NetV} {l:List UInt8} (hk:netOk p.1 p.2=true) (h:Ans l):LineOk p (p,l):=⟨hk,h,fun _=>rfl⟩
theorem LineOk.take {p:NetV} {r:Option NetV} (hk:netOk p.1 p.2=true) (hr:∀ q,r=some q→netOk q.1 q.2=true):LineOk p (takeM p r):=by
 cases r with
 | none=>exact LineOk.ask hk ans_none
 | some q =>
   refine ⟨hr q rfl,ans_fmt (hr q rfl),fun h=>?_⟩
   obtain ⟨c,t,e,hc⟩:=fmtNet_head (hr q rfl)
   have e2:(takeM p (some q)).2=c :: t:=e
   rw [e2] at h
   rcases h with h | h <;> (simp only [noneS,unkS,List.cons.injEq] at h;rw [h.1] at hc;exact absurd hc (by decide))
theorem bareM_ok {p:NetV} (hk:netOk p.1 p.2=true) (wd:List UInt8):LineOk p (bareM p wd):=by
 obtain ⟨N,X,rfl,_,_,hk⟩:=conNet hk
 unfold bareM
 simp only [Int.toNat_natCast]
 repeat' split
 · exact .take hk fun q h=>stdM_ok hk h
 · exact .take hk fun q h=>mirM_ok hk h
 · exact .take hk fun q h=>bylM_ok hk h
 · exact .take hk fun q h=>leanM_ok hk h
 · exact .ask hk (ans_fmt hk)
 · exact .ask hk (ans_net hk)
 · exact .ask hk (ans_order hk)
 · exact .ask hk ans_test
 · exact .ask hk ans_unk
theorem numberM_ok {p:NetV} (hk:netOk p.1 p.2=true) (wd:List UInt8) (n:Int):LineOk p (numberM p wd n):=by
 obtain ⟨N,X,rfl,_,_,hk⟩:=conNet hk
 unfold numberM
 simp only
 repeat' split
 · exact .take hk fun q h=>wiresM_ok h
 · exact .take hk fun q h=>dropM_ok hk h
 · exact .take hk fun q h=>bubM_ok h
 · exact .take hk fun q h=>batM_ok h
 · exact .take hk fun q h=>bitM_ok h
 · exact .take hk fun q h=>liveM_ok hk h
 · refine .ask hk ?_
   unfold bitsS
   simp only [Int.toNat_natCast]
   split
   · obtain ⟨h1,h2⟩:=bitsI_bd (k:=n) hk
     exact ans_itoa (by unfold I64;omega)
   · exact ans_none
 · exact .ask hk ans_unk
theorem listS_ok {p:NetV} (hk:netOk p.1 p.2=true) (wd:List UInt8) {xs:List Int} (hx:I64s xs):Ans (listS p wd xs):=by
 obtain ⟨N,X,rfl,_,h8,hk⟩:=conNet hk
 unfold listS
 simp only [Int.toNat_natCast]
 repeat' split
 · refine ans_orS fun h=>⟨appL_I64 hx,?_⟩
   have h1:xs.length=N:=by simpa [appB] using h
   have:=appL_len (N:=N) (X:=X) (xs:=xs)
   omega
 · refine ans_orS fun h=>⟨ctOk_I64,?_⟩
   have h1:xs.length=N:=by
    simp only [tokB,Bool.and_eq_true,decide_eq_true_eq] at h
    exact h.1
   have:=ctOk_len (N:=N) (X:=X) (xs:=xs)
   omega
 · exact ans_fab
 · exact ans_merge
 · exact ans_flip
 · exact ans_stack
 · exact ans_dis
 · exact ans_unk
theorem oneM_ok {p:NetV} (hk:netOk p.1 p.2=true) (wd a:List UInt8):LineOk p (oneM p wd a):=by
 unfold oneM
 split
 · exact .take hk fun q h=>parseNet_ok h
 · split
   · cases parseI a with
     | none=>exact .ask hk ans_unk
     | some n=>exact numberM_ok hk wd n
   · cases h:parseNums a with
     | none=>exact .ask hk ans_unk
     | some l=>exact .ask hk (listS_ok hk wd (parseNums_I64 h))
theorem twoM_ok {p:NetV} (hk:netOk p.1 p.2=true) (wd a b:List UInt8):LineOk p (twoM p wd a b):=by
 unfold twoM
 cases parseI b with
 | none=>exact .ask hk ans_unk
 | some n =>
   simp only
   split
   · cases parseNums a with
     | none=>exact .ask hk ans_unk
     | some ts=>exact .ask hk ans_late
   · cases parseI a with
     | none=>exact .ask hk ans_unk
     | some m =>
       simp only
       repeat' split
       · exact .take hk fun q h=>joinM_ok h
       · exact .take hk fun q h=>brickM_ok h
       · exact .take hk fun q h=>mergeM_ok h
       · exact .ask hk ans_unk
theorem lineM_ok {p:NetV} (hk:netOk p.1 p.2=true) (l:List UInt8):LineOk p (lineM bareM p l):=by
 unfold lineM
 split
 · exact oneM_ok hk _ _
 · split
   · exact bareM_ok hk _
   · exact oneM_ok hk _ _
   · exact twoM_ok hk _ _ _
   · exact .ask hk ans_unk
def textK (ls:List (List UInt8)):Nat→List UInt8
 | 0=>[]
 | k+1=>if k=0 then ls.getD 0 [] else textK ls k++[10]++ls.getD k []
theorem textK_tails {ls:List (List UInt8)} {a:List UInt8} {r:List (List UInt8)} (e:ls=a :: r):∀ k,k≤r.length→textK ls (k+1)=a++tails 10 (r.take k)
 | 0,_=>by rw [textK,if_pos rfl,e];simp [tails]
 | k+1,h=>by
   have hk:k < r.length:=by omega
   have h1:r.take (k+1)=r.take k++[r[k]]:=by rw [List.take_add_one,List.getElem?_eq_getElem hk];rfl
   have h2:ls.getD (k+1) []=r[k]:=by rw [e,List.getD_eq_getElem?_getD,List.getElem?_cons_succ,List.getElem?_eq_getElem hk];rfl
   rw [textK,if_neg (by omega),textK_tails e k (by omega),h1,h2,tails_app]
   simp [tails]
theorem textK_split {ls:List (List UInt8)} (h1:1≤ls.length) (hn:∀ l∈ls,∀ x∈l,x≠10):splitR 10 (textK ls ls.length)=ls:=by
 cases ls with
 | nil=>simp at h1
 | cons a r =>
   rw [List.length_cons,textK_tails rfl r.length (Nat.le_refl _),List.take_length]
   exact splitR_tails r a (hn a (.head _)) (fun w hw=>hn w (.tail _ hw))
theorem textK_len {ls:List (List UInt8)} (hl:∀ l∈ls,l.length≤5000):∀ k,(textK ls k).length≤5001 * k:=by
 have hg:∀ i,(ls.getD i []).length≤5000:=fun i=>by
  rw [List.getD_eq_getElem?_getD]
  cases e:ls[i]? with
  | none=>simp
  | some y=>exact hl y (List.mem_of_getElem? e)
 intro k
 induction k with
 | zero=>simp [textK]
 | succ k ih =>
   rw [textK]
   split
   · have:=hg 0;omega
   · have:=hg k
     simp only [List.length_append,List.length_cons,List.length_nil]
     omega
theorem con0_okS:netOk (4:Int) con0=true:=by decide
theorem sesK_ok (ls:List (List UInt8)):∀ k,netOk (sesK bareM ls k).1.1 (sesK bareM ls k).1.2=true
 | 0=>con0_okS
 | k+1=>by
   have ih:=sesK_ok ls k
   rw [sesK]
   split
   · exact ih
   · exact (lineM_ok ih _).net
theorem ses_good {ls:List (List UInt8)} {n:Nat} (hl:∀ l∈ls,l.length≤5000):∀ k,k < n→(ls.getD k []).length≤10000∧netOk (sesK bareM ls k).1.1 (sesK bareM ls k).1.2=true∧(sesK bareM ls k).1.2.length≤60∧(lineM bareM (sesK bareM ls k).1 (ls.getD k [])).2.length≤100000:=by
 intro k _
 have h1:(ls.getD k []).length≤5000:=by
  rw [List.getD_eq_getElem?_getD]
  cases e:ls[k]? with
  | none=>simp
  | some y=>exact hl y (List.mem_of_getElem? e)
 have h2:=sesK_ok ls k
 have h3:=(lineM_ok h2 (ls.getD k [])).ans.2
 exact ⟨by omega,h2,(netOk_iff.1 h2).2.1,by omega⟩
theorem sesK_len (ls:List (List UInt8)):∀ k,(sesK bareM ls k).2.length≤10001 * k
 | 0=>by simp [sesK]
 | k+1=>by
   have ih:=sesK_len ls k
   have h3:=(lineM_ok (sesK_ok ls k) (ls.getD k [])).ans.2
   rw [sesK]
   split
   · omega
   · simp only [List.length_append,List.length_cons,List.length_nil];omega
def showS:List UInt8:=[115,104,111,119]
def pair0S:List UInt8:=[112,97,105,114,32,48,32,48]
def netS:List UInt8:=[110,101,116,32]
theorem line_show (p:NetV):lineM bareM p showS=(p,fmtNet p):=rfl
theorem join_no {n:Int} {X:List (List Int)} : joinM n X [[0,0]]=none:=by
 unfold joinM
 have h:netOk n [[0,0]]=false:=by
  rw [Bool.eq_false_iff]
  intro h
  have:=(netOk_iff.1 h).2.2 [0,0] (.head _)
  simp [netRow] at this
 first
  | (rw [if_neg (by simp [h])])
  | (split
     · rename_i h2;simp [h] at h2
     · rfl)
theorem line_pair (p:NetV):lineM bareM p pair0S=(p,noneS):=by
 have h1:lineM bareM p pair0S=twoM p [112,97,105,114] [48] [48]:=rfl
 have h0:Lib.itoa 0=[48]:=by decide +kernel
 have h2:parseI [48]=some 0:=by rw [←h0];exact parseI_itoa (n:=0) (by unfold I64;omega)
 rw [h1,twoM,h2]
 simp only
 rw [if_neg (by decide),if_pos trivial,join_no]
 rfl
theorem line_net {p:NetV} (hk:netOk p.1 p.2=true):lineM bareM p (netS++fmtNet p)=(p,fmtNet p):=by
 have h1:Lib.hasPrefix (netS++fmtNet p) [110,101,116,32]=true:=by simp [Lib.hasPrefix,netS,List.isPrefixOf]
 have h2:(netS++fmtNet p).drop 4=fmtNet p:=rfl
 rw [lineM,if_pos h1,h2,oneM,if_pos rfl,parseNet_fmt hk]
 rfl
def manyK:Nat→List UInt8
 | 0=>[]
 | k+1=>manyK k++[35,32,120,10]
theorem manyK_len:∀ k,(manyK k).length=4 * k
 | 0=>rfl
 | k+1=>by rw [manyK,List.length_append,manyK_len k];simp;omega
def manyL:List (List UInt8):=splitR 10 (manyK 45)
theorem manyL_len:manyL.length=46:=by decide +kernel
theorem many_good {n:Nat} (hn:n≤45):∀ k,k < n→(manyL.getD k []).length≤10000∧netOk (sesK bareM manyL k).1.1 (sesK bareM manyL k).1.2=true∧(sesK bareM manyL k).1.2.length≤60∧(lineM bareM (sesK bareM manyL k).1 (manyL.getD k [])).2.length≤100000:=by
 have h5:∀ l∈manyL,l.length≤5000:=by decide +kernel
 exact ses_good h5
theorem textK_first (ls:List (List UInt8)):(⟨#[]⟩:ByteArray)++bstr (ls.getD 0 [])=bstr (textK ls 1):=by
 rw [textK,if_pos rfl]
 show bstr []++bstr _=_
 rw [bstr_app,List.nil_append]
theorem textK_next (ls:List (List UInt8)) {k:Nat} (hk:k≠0):bstr (textK ls k)++⟨#[10]⟩++bstr (ls.getD k [])=bstr (textK ls (k+1)):=by
 rw [textK,if_neg hk]
 show bstr _++bstr [10]++bstr _=_
 rw [bstr_app,bstr_app]
theorem take1 {c:UInt8} {r:List UInt8} : ((bstr (c :: r)).extract 0 1).toList=[c]:=by
 rw [ByteArray.toList_eq,Lib.extract_data]
 simp [bstr]
theorem law_FnConsole (w:World) (v:Value) (xs:List Int) (h:Rd w v (bytesV xs)) (hxb:∀ n∈xs,0≤n∧n≤255) (ht:TabE w):Calls Tryz.prog 4 #[v] w (Law w):=by
 obtain ⟨ab,nb,cb,rfl,HNB,hn1,hn2⟩:=h.formB
 by_cases hl:nb≤1048576
 case neg =>
  have hd:decide ((nb:Int) > 1048576)=true:=by simp;omega
  go_enter Tryz.func4,Tryz.ntmps4
  go_wp2_with fail
  go_ret
  exact ⟨rfl,Below.refl _ _⟩
 have hl':xs.length≤1048576:=by have:=HNB.out;omega
 have hd:decide ((nb:Int) > 1048576)=false:=by simp;omega
 have HMK:=Lib.hid (s_MakeLines _ xs hxb hl' w h)
 have HNC:=Lib.hid (fun W=>i_NewConsole W)
 clear hxb
 go_enter Tryz.func4,Tryz.ntmps4
 go_upto_region 4 with (go_at_call 37;refine HMK.out.mono ?_;rintro e w1 ⟨ls,vl,hl1,hl8,hls,rfl,ol,b1⟩;obtain ⟨al,nl,cl,rfl,HNL,_,_⟩:=ol.rd.formS)
 clear HMK
 go_upto_region 5 with (go_at_call 38;refine (HNC.out _).mono ?_;rintro e w2 ⟨v2,rfl,o2,b2⟩;have oc:=OwnP.of_own2 o2;obtain ⟨a2,m2,c2,rfl,HM2,_,_⟩:=oc.formN)
 obtain ⟨w3,bx,hw3,hbx,hX3,hz3,hb3⟩:=newBox w2 (.cells #[.int .i64 4,.slice a2 m2 c2] 30)
 have HW3:=Lib.hid hw3
 have HBX:=Lib.hid hbx
 rw [HW3.out,HBX.out]
 have b03:=b1.trans ((b2.trans (hb3.mono b2.size)).mono b1.size)
 have hwx:w.heap.size≤bx:=by have:=b1.size;have:=b2.size;omega
 have r3:=ol.rd.below (b2.trans (hb3.mono b2.size))
 have hw1x:w1.heap.size≤bx:=by have:=b2.size;omega
 have r3x:Hid (∀ W,Below bx w3 W→Rd W (.slice al nl cl) (strs ls)):=fun W hW=>(ol.rd.below b2).below (by
  have h4:=hb3.trans (hW.mono (by omega):Below w2.heap.size w3 W)
  exact h4)
 have oc3:=(oc.mono (Nat.zero_le _)).below hb3
 have HT3:Hid (∀ W,Below bx w3 W→Below w.heap.size w W∧TabE W):=fun W hW=>by
  have:=b03.trans (hW.mono hwx)
  exact ⟨this,ht.below this⟩
 have HLS:=Lib.hid hls
 have hnl:1≤nl∧nl≤8:=by have:=HNL.out;omega
 have HTL:=Lib.hid (textK_len (ls:=ls) (fun l hl=>(hls l hl).1))
 have HSL:=Lib.hid (sesK_len ls)
 have HSO:=Lib.hid (sesK_ok ls)
 have HRL:=Lib.hid (fun (p:NetV) (v:Value) (l:List UInt8) (W:World) (h:Rd2 W v p.2) (hk:netOk p.1 p.2=true) (hl:l.length≤10000) (ht:TabE W)=>i_RunLine i_bare p v l W h hk (netOk_iff.1 hk).2.1 hl ht)
 have HT0:Hid ((⟨#[]⟩:ByteArray)=bstr (textK ls 0)):=rfl
 have HW0:Hid ((⟨#[]⟩:ByteArray)=bstr (sesK bareM ls 0).2):=rfl
 clear hw3 hbx ol oc o2 hls hl1 hl8 r3 b1 b2
 go_wp2_with fail
 go_loopg [5,6,38] nl (fun gq vt vw iv wr=>∃ (k:Nat) (T W:ByteArray) (am:Option Addr) (mm cm:Nat),gq=nl - k∧k≤nl∧iv=.int .i64 (k:Int)∧vt=.string T∧vw=.string W∧Hid (T=bstr (textK ls k))∧Hid (W=bstr (sesK bareM ls k).2)∧wr.heap[bx]?=some (.cells #[.int .i64 (sesK bareM ls k).1.1,.slice am mm cm] 30 (0,0))∧OwnP wr 0 (.slice am mm cm) (sesK bareM ls k).1.2∧Below bx w3 wr)
 case atStart=>exact ⟨0,_,_,a2,m2,c2,rfl,Nat.zero_le _,rfl,rfl,rfl,HT0,HW0,hX3,oc3,Below.refl _ _⟩
 case round =>
  clear hX3 oc3 HT0 HW0
  obtain ⟨k,T,W,am,mm,cm,hgq,hk,rfl,rfl,rfl,HT,HW,hX,oX,hb⟩:=hrel
  obtain ⟨be,hte⟩:=HT3.out _ hb
  by_cases hlt:k < nl
  · have i0:(k:Int) < (nl:Int):=by omega
    obtain ⟨ad,x,rfl,hcx,hx⟩:=(r3x.out _ hb).text (k:=k) (by rw [←HNL.out];exact hlt)
    have hgd:ls.getD k []=x:=by rw [List.getD_eq_getElem?_getD,hx.out];rfl
    have hxl:=HLS.out x (List.mem_of_getElem? hx.out)
    have hTs:T.size≤50000:=by have:=HTL.out k;rw [HT.out,bstr_size];omega
    have hWs:W.size≤100000:=by have:=HSL.out k;rw [HW.out,bstr_size];omega
    obtain ⟨X,hX0⟩:∃ X,bstr x=X:=⟨_,rfl⟩
    have hXs:X.size≤5000:=by rw [←hX0,bstr_size];exact hxl.1
    rw [hX0] at hcx
    have HXB:=Lib.hid hX0
    have HGD:=Lib.hid hgd
    have HTN:Hid (k≠0→T++⟨#[10]⟩++X=bstr (textK ls (k+1))):=fun h=>by rw [HT.out,←hX0,←hgd];exact textK_next ls h
    have HTF:Hid (k=0→T++X=bstr (textK ls (k+1))):=fun h=>by rw [HT.out,←hX0,←hgd,h];exact textK_first ls
    clear hgd hxl hx hX0
    go_upto_if 44 with (fail)
    go_cut [5] (fun vt wx=>wr=wx∧∃ T1:ByteArray,vt=.string T1∧T1.size≤50001∧Hid (T1++X=bstr (textK ls (k+1))))
    case first =>
     by_cases k0:k=0
     · have d0:decide ((k:Int) > 0)=false:=by simp;omega
       go_wp2_with fail
       go_meet
       exact ⟨rfl,T,rfl,by omega,HTF.out k0⟩
     · have d0:decide ((k:Int) > 0)=true:=by simp;omega
       have q0:¬ 9223372036854775807 < T.size+1:=by omega
       go_wp2_with fail
       go_meet
       exact ⟨rfl,_,rfl,by rw [ByteArray.size_append];show T.size+1≤50001;omega,HTN.out k0⟩
    case rest =>
    obtain ⟨rfl,T1,rfl,hT1,HT1⟩:=hcut
    clear HTN HTF hTs HT
    have q1:¬ 9223372036854775807 < T1.size+X.size:=by omega
    by_cases hskip:skipB x=true
    · have HSK:Hid (sesK bareM ls (k+1)=sesK bareM ls k):=by rw [Hid,sesK,HGD.out,if_pos hskip]
      cases x with
      | nil =>
        have x1:X.toList.isEmpty=true:=by rw [←HXB.out,toLc];rfl
        have x2:X.toList=[]:=by rw [←HXB.out,toLc]
        clear hskip
        go_wp2_with fail
        go_roundg (nl - (k+1))
        case measure=>omega
        case rel=>exact ⟨k+1,_,W,am,mm,cm,rfl,by omega,by go_num,rfl,rfl,HT1,by rw [HSK.out];exact HW,by rw [HSK.out];exact hX,by rw [HSK.out];exact oX,hb⟩
      | cons c r =>
        have hc35:c=35:=by simpa [skipB] using hskip
        have x1:X.toList.isEmpty=false:=by rw [←HXB.out,toLc];rfl
        have x2:¬ X.toList=[]:=by rw [←HXB.out,toLc];simp
        have x3:1≤X.size:=by rw [←HXB.out,bstr_size];simp
        have x4:((X.extract 0 1).toList == [35])=true:=by rw [←HXB.out,take1,hc35];rfl
        have x5:(1:Int)≤(X.size:Int):=by omega
        clear hskip hc35
        go_wp2_with fail
        go_roundg (nl - (k+1))
        case measure=>omega
        case rel=>exact ⟨k+1,_,W,am,mm,cm,rfl,by omega,by go_num,rfl,rfl,HT1,by rw [HSK.out];exact HW,by rw [HSK.out];exact hX,by rw [HSK.out];exact oX,hb⟩
    · obtain ⟨c,r,rfl⟩:∃ c r,x=c :: r:=by
       cases x with
       | nil=>exact absurd rfl hskip
       | cons c r=>exact ⟨c,r,rfl⟩
      have hc35:¬ c=35:=fun e=>hskip (by rw [e];rfl)
      have x1:X.toList.isEmpty=false:=by rw [←HXB.out,toLc];rfl
      have x2:¬ X.toList=[]:=by rw [←HXB.out,toLc];simp
      have x3:1≤X.size:=by rw [←HXB.out,bstr_size];simp
      have x4:((X.extract 0 1).toList == [35])=false:=by rw [←HXB.out,take1,beq_eq_false_iff_ne];simpa using hc35
      have x5:(1:Int)≤(X.size:Int):=by omega
      have HSK:Hid (sesK bareM ls (k+1)=((lineM bareM (sesK bareM ls k).1 (c :: r)).1,(sesK bareM ls k).2++(lineM bareM (sesK bareM ls k).1 (c :: r)).2++[10])):=by rw [Hid,sesK,HGD.out,if_neg hskip]
      have hok:=HSO.out k
      have LOK:=lineM_ok hok (c :: r)
      have HRX:=Lib.hid (fun (W:World) (hW:Rd2 W (.slice am mm cm) (sesK bareM ls k).1.2) (hT:TabE W)=>HRL.out (sesK bareM ls k).1 (.slice am mm cm) (c :: r) W hW hok (by rw [←bstr_size,HXB.out];omega) hT)
      rw [HXB.out] at HRX
      generalize hR:lineM bareM (sesK bareM ls k).1 (c :: r)=R at *
      obtain ⟨R1,A0⟩:=R
      simp only at HSK LOK
      obtain ⟨Ln,La,Ls⟩:=LOK
      simp only at Ln La Ls
      have HLN:=Lib.hid Ln
      have HLS2:=Lib.hid Ls
      obtain ⟨A,hA⟩:∃ A,bstr A0=A:=⟨_,rfl⟩
      have hAs:1≤A.size∧A.size≤10000:=by rw [←hA,bstr_size];exact La
      have HAB:=Lib.hid hA
      have HW2:Hid (W++A++⟨#[10]⟩=bstr ((sesK bareM ls k).2++A0++[10])):=by
       rw [Hid,HW.out,←hA]
       show bstr _++bstr _++bstr [10]=_
       rw [bstr_app,bstr_app]
      have y1:A.toList.isEmpty=false:=by
       rw [←hA,toLc]
       cases A0 with
       | nil=>simp [Ans] at La
       | cons z t=>rfl
      have y2:¬ A.toList=[]:=by intro e;rw [e] at y1;cases y1
      have q2:¬ 9223372036854775807 < W.size+A.size:=by omega
      have q3:¬ 9223372036854775807 < W.size+A.size+1:=by omega
      have c0:=box_cell hX 0
      have c1:=box_cell hX 1
      have HRD:=Lib.hid (oX.rd2)
      have HK1:=Lib.hid hok
      clear Ln La Ls hA hskip hc35 hR hok
      go_upto_region 15 with (go_at_call 39;refine (HRX.out _ HRD.out hte).mono ?_;rintro e w4 ⟨a4,m4,c4,rfl,o4,b4⟩;simp only [HAB.out])
      obtain ⟨w5,bw,hw5,hbw,hY5,hz5,hb5⟩:=newBox w4 (.cells #[.int .i64 R1.1,.slice a4 m4 c4] 30)
      have HW5:=Lib.hid hw5
      have HBW:=Lib.hid hbw
      rw [HW5.out,HBW.out]
      have b45:=b4.trans (hb5.mono b4.size)
      have HX5:Hid (∀ W,Below w5.heap.size w5 W→W.heap[bx]?=some (.cells #[.int .i64 (sesK bareM ls k).1.1,.slice am mm cm] 30 (0,0))∧W.heap[bw]?=some (.cells #[.int .i64 R1.1,.slice a4 m4 c4] 30 (0,0))∧OwnP W 0 (.slice am mm cm) (sesK bareM ls k).1.2∧OwnP W 0 (.slice a4 m4 c4) R1.2∧Below bx w3 W):=fun W hW=>by
       have hbW:=b45.trans (hW.mono b45.size)
       exact ⟨(hbW.block bx (box_lt hX)).trans hX,(hW.block bw hz5).trans hY5,oX.below hbW,(o4.below hb5).below hW,hb.trans (hbW.mono (Nat.le_of_lt (box_lt hX)))⟩
      obtain ⟨t1,t2,t3,t4,t5⟩:=HX5.out _ (Below.refl _ _)
      have g0:=box_cell t1 0
      have g1:=box_cell t1 1
      have h0:=box_cell t2 0
      have h1:=box_cell t2 1
      have HNK:=Lib.hid (fun (W:World) (hW:Rd2 W (.slice a4 m4 c4) R1.2)=>HLN.out ▸ i_NetworkOk R1.1 _ R1.2 W hW (by have:=(netOk_iff.1 HLN.out).1;unfold I64;omega))
      have HR4:=Lib.hid t4.rd2
      clear hw5 hbw hX oX o4 b4 hb5 hY5 b45 c0 c1 t1 t2 t3 t4 t5 HRX hb be
      go_upto_region 17 with (go_at_call 40;refine (HNK.out _ HR4.out).mono ?_;rintro e w6 ⟨rfl,b6⟩)
      obtain ⟨t1,t2,t3,t4,t5⟩:=HX5.out _ b6
      have g0':=box_cell t1 0
      have g1':=box_cell t1 1
      have h0':=box_cell t2 0
      have h1':=box_cell t2 1
      clear g0 g1 h0 h1
      have HR6:=Lib.hid t4.rd2
      have HQ6:=Lib.hid t3.rd2
      clear t3 t4 t5
      go_cut [86] (fun vt wx=>vt=.bool false∧Below w5.heap.size w5 wx)
      case first =>
       have tt:∀ L:List UInt8,(A.toList == L)=(A0 == L):=fun L=>by rw [←HAB.out,toLc]
       have u1:=tt [110,111,110,101]
       have u2:=tt [117,110,107,110,111,119,110,32,99,111,109,109,97,110,100]
       by_cases hn:A0=noneS
       · have hp:=HLS2.out (.inl hn)
         have v1:(A.toList == [110,111,110,101])=true:=by rw [u1,hn];rfl
         subst hp
         have HSM:=Lib.hid (i_SameT (sesK bareM ls k).1.1 (by have:=(netOk_iff.1 HK1.out).1;unfold I64;omega) _ _ (sesK bareM ls k).1.2 w6 HQ6.out HR6.out HK1.out)
         clear u1 u2 tt
         go_wp2_with (go_at_call 41;refine HSM.out.mono ?_;rintro e w7 ⟨rfl,b7⟩)
         go_meet
         exact ⟨rfl,b6.trans (b7.mono b6.size)⟩
       · have v1:(A.toList == [110,111,110,101])=false:=by rw [u1,beq_eq_false_iff_ne];exact hn
         by_cases hn2:A0=unkS
         · have hp:=HLS2.out (.inr hn2)
           have v2:(A.toList == [117,110,107,110,111,119,110,32,99,111,109,109,97,110,100])=true:=by rw [u2,hn2];rfl
           subst hp
           have HSM:=Lib.hid (i_SameT (sesK bareM ls k).1.1 (by have:=(netOk_iff.1 HK1.out).1;unfold I64;omega) _ _ (sesK bareM ls k).1.2 w6 HQ6.out HR6.out HK1.out)
           clear u1 u2 tt
           go_wp2_with (go_at_call 41;refine HSM.out.mono ?_;rintro e w7 ⟨rfl,b7⟩)
           go_meet
           exact ⟨rfl,b6.trans (b7.mono b6.size)⟩
         · have v2:(A.toList == [117,110,107,110,111,119,110,32,99,111,109,109,97,110,100])=false:=by rw [u2,beq_eq_false_iff_ne];exact hn2
           clear u1 u2 tt
           go_wp2_with fail
           go_meet
           exact ⟨rfl,b6⟩
      case rest =>
      obtain ⟨rfl,b7⟩:=hcut
      clear g0' g1' h0' h1' HR6 HQ6 t1 t2 b6
      obtain ⟨t1,t2,t3,t4,t5⟩:=HX5.out _ b7
      have g0:=box_cell t1 0
      have g1:=box_cell t1 1
      have h0:=box_cell t2 0
      have h1:=box_cell t2 1
      have f0:=frozen_of_row wc bx 0 _ _ t1
      have f1:=frozen_of_row wc bx 1 _ _ t1
      have t1':=box2 (x:=.int .i64 R1.1) (y:=.slice a4 m4 c4) t1
      have o7:OwnP ((wc.setCell ⟨bx,0,none⟩ (.int .i64 R1.1)).setCell ⟨bx,1,none⟩ (.slice a4 m4 c4)) 0 (.slice a4 m4 c4) R1.2:=(t4.setBox (q:=bx) (o:=0) t1 (by decide) (by decide) _).setBox (q:=bx) (o:=1) (heap_setCell_same wc bx 0 _ _ _ t1) (by decide) (by decide) _
      have hb7:Below bx w3 ((wc.setCell ⟨bx,0,none⟩ (.int .i64 R1.1)).setCell ⟨bx,1,none⟩ (.slice a4 m4 c4)):=(t5.setCell (Nat.le_refl bx) _).setCell (Nat.le_refl bx) _
      clear t1 t2 t3 t4 t5
      go_wp2_with fail
      go_roundg (nl - (k+1))
      case measure=>omega
      case rel=>exact ⟨k+1,_,_,a4,m4,c4,rfl,by omega,by go_num,rfl,rfl,HT1,by rw [HSK.out];exact HW2,by rw [HSK.out];exact t1',by rw [HSK.out];exact o7,hb7⟩
  · obtain rfl:k=nl:=by omega
    have hok:=HSO.out k
    have hlen:ls.length=k:=HNL.out.symm
    have hsp:splitR 10 (textK ls k)=ls:=by rw [←hlen];exact textK_split (by omega) (fun l hl=>(HLS.out l hl).2)
    have HRS:=Lib.hid (fun (W:World) (hW:TabE W)=>i_RunSession i_bare (textK ls k) ls k W hsp (by have:=HTL.out k;omega) (by omega) hW (ses_good (fun l hl=>(HLS.out l hl).1)))
    rw [←HT.out,←HW.out] at HRS
    obtain ⟨p,hp⟩:∃ p,(sesK bareM ls k).1=p:=⟨_,rfl⟩
    rw [hp] at hX oX hok
    obtain ⟨F,hF⟩:∃ F,bstr (fmtNet p)=F:=⟨_,rfl⟩
    have hFs:F.size≤4000:=by rw [←hF,bstr_size];exact fmtNet_len hok
    obtain ⟨NN,hNN⟩:∃ NN,bstr noneS=NN:=⟨_,rfl⟩
    have nn1:(NN.toList == [110,111,110,101])=true:=by rw [←hNN,toLc];rfl
    have HSH:Hid (∀ (W:World),Rd2 W (.slice am mm cm) p.2→TabE W→Calls Tryz.prog 39 #[.agg #[.int .i64 p.1,.slice am mm cm],.string ⟨#[115,104,111,119]⟩] W fun e w'=>∃ (a:Option Addr) (m c:Nat),e=.returned (.tuple #[.agg #[.int .i64 p.1,.slice a m c],.string F,.bool true])∧OwnP w' 0 (.slice a m c) p.2∧Below W.heap.size W w'):=fun W hW hT=>by
     have:=HRL.out p (.slice am mm cm) showS W hW hok (by decide) hT
     rw [line_show] at this
     rw [←hF]
     exact this
    have HPA:Hid (∀ (W:World),Rd2 W (.slice am mm cm) p.2→TabE W→Calls Tryz.prog 39 #[.agg #[.int .i64 p.1,.slice am mm cm],.string ⟨#[112,97,105,114,32,48,32,48]⟩] W fun e w'=>∃ (a:Option Addr) (m c:Nat),e=.returned (.tuple #[.agg #[.int .i64 p.1,.slice a m c],.string NN,.bool true])∧OwnP w' 0 (.slice a m c) p.2∧Below W.heap.size W w'):=fun W hW hT=>by
     have:=HRL.out p (.slice am mm cm) pair0S W hW hok (by decide) hT
     rw [line_pair] at this
     rw [←hNN]
     exact this
    have HNE:Hid (∀ (W:World),Rd2 W (.slice am mm cm) p.2→TabE W→Calls Tryz.prog 39 #[.agg #[.int .i64 p.1,.slice am mm cm],.string (⟨#[110,101,116,32]⟩++F)] W fun e w'=>∃ (a:Option Addr) (m c:Nat),e=.returned (.tuple #[.agg #[.int .i64 p.1,.slice a m c],.string F,.bool true])∧OwnP w' 0 (.slice a m c) p.2∧Below W.heap.size W w'):=fun W hW hT=>by
     have:=HRL.out p (.slice am mm cm) (netS++fmtNet p) W hW hok (by have:=fmtNet_len hok;rw [List.length_append];simp only [netS,List.length_cons,List.length_nil];omega) hT
     rw [line_net hok,←bstr_app] at this
     rw [←hF]
     exact this
    have hI:I64 p.1:=by have:=(netOk_iff.1 hok).1;unfold I64;omega
    have HFM:Hid (∀ (W:World),Rd2 W (.slice am mm cm) p.2→Tab W→Calls Tryz.prog 43 #[.agg #[.int .i64 p.1,.slice am mm cm]] W (RetB (.string F) W)):=fun W hW hT=>by
     have:=i_FormatNetwork p.1 hI (.slice am mm cm) p.2 W hW hok hT
     rw [←hF]
     exact this
    have HSM:Hid (∀ (v:Value) (W:World),Rd2 W v p.2→Rd2 W (.slice am mm cm) p.2→Calls Tryz.prog 41 #[.agg #[.int .i64 p.1,v],.agg #[.int .i64 p.1,.slice am mm cm]] W (RetB (.bool true) W)):=fun v W h1 h2=>i_SameT p.1 hI v _ p.2 W h1 h2 hok
    have HRM:Hid (∀ (W:World),TabE W→Calls Tryz.prog 42 #[.string (bstr (manyK 45))] W fun e w'=>∃ G:ByteArray,e=.returned (.tuple #[.string G,.int .i64 40])∧Below W.heap.size W w'):=fun W hW=>by
     have:=i_RunSession i_bare (manyK 45) manyL 40 W rfl (by rw [manyK_len];omega) (by rw [manyL_len];rfl) hW (many_good (by omega))
     exact this.mono fun e w' hh=>⟨_,hh.1,hh.2⟩
    have HB:Hid (∀ W,Below wr.heap.size wr W→W.heap[bx]?=some (.cells #[.int .i64 p.1,.slice am mm cm] 30 (0,0))∧Rd2 W (.slice am mm cm) p.2∧Below w.heap.size w W∧TabE W):=fun W hW=>by
     have h4:=hb.trans (hW.mono (Nat.le_of_lt (box_lt hX)))
     exact ⟨(hW.block bx (box_lt hX)).trans hX,(oX.below hW).rd2,(HT3.out _ h4).1,(HT3.out _ h4).2⟩
    clear hsp hF hNN hok hlen HLS HTL HSL HSO HRL HT HW hX oX hb hp r3x HT3 HNC
    go_upto_region 23 with (go_at_call 42;refine (HRS.out _ hte).mono ?_;rintro e w4 ⟨rfl,b4⟩)
    obtain ⟨t1,t2,t3,t4⟩:=HB.out _ b4
    have c0:=box_cell t1 0
    have c1:=box_cell t1 1
    go_upto_region 24 with (go_at_call 39;refine (HSH.out _ t2 t4).mono ?_;rintro e w5 ⟨a5,m5,c5,rfl,o5,b5⟩)
    obtain ⟨w6,bz,hw6,hbz,hZ6,hz6,hb6⟩:=newBox w5 (.cells #[.int .i64 p.1,.slice a5 m5 c5] 30)
    have HW6:=Lib.hid hw6
    have HBZ:=Lib.hid hbz
    rw [HW6.out,HBZ.out]
    have b46:=b5.trans (hb6.mono b5.size)
    have b06:=b4.trans (b46.mono b4.size)
    have HZ:Hid (∀ W,Below w6.heap.size w6 W→W.heap[bz]?=some (.cells #[.int .i64 p.1,.slice a5 m5 c5] 30 (0,0))∧Rd2 W (.slice a5 m5 c5) p.2∧Below wr.heap.size wr W):=fun W hW=>⟨(hW.block bz hz6).trans hZ6,((o5.below hb6).below hW).rd2,b06.trans (hW.mono b06.size)⟩
    clear hw6 hbz hZ6 hz6 hb6 o5 b5 b46 c0 c1 t1 t2 t3 t4
    obtain ⟨t1,t2,t3,t4⟩:=HB.out _ b06
    have c0:=box_cell t1 0
    have c1:=box_cell t1 1
    go_upto_region 25 with (go_at_call 39;refine (HPA.out _ t2 t4).mono ?_;rintro e w7 ⟨a7,m7,c7,rfl,o7,b7⟩)
    obtain ⟨w8,bp,hw8,hbp,hP8,hz8,hb8⟩:=newBox w7 (.cells #[.int .i64 p.1,.slice a7 m7 c7] 30)
    have HW8:=Lib.hid hw8
    have HBP:=Lib.hid hbp
    rw [HW8.out,HBP.out]
    have b68:=b7.trans (hb8.mono b7.size)
    have HPP:Hid (∀ W,Below w8.heap.size w8 W→W.heap[bp]?=some (.cells #[.int .i64 p.1,.slice a7 m7 c7] 30 (0,0))∧Rd2 W (.slice a7 m7 c7) p.2∧Below w6.heap.size w6 W):=fun W hW=>⟨(hW.block bp hz8).trans hP8,((o7.below hb8).below hW).rd2,b68.trans (hW.mono b68.size)⟩
    have b08:=(HZ.out _ b68).2.2
    clear hw8 hbp hP8 hz8 hb8 o7 b7 c0 c1 t1 t2 t3 t4
    obtain ⟨t1,t2,t3,t4⟩:=HB.out _ b08
    have c0:=box_cell t1 0
    have c1:=box_cell t1 1
    have q1:¬ 9223372036854775807 < 4+F.size:=by omega
    go_upto_region 26 with (go_at_call 39;refine (HNE.out _ t2 t4).mono ?_;rintro e w9 ⟨a9,m9,c9,rfl,o9,b9⟩)
    obtain ⟨w10,bn,hw10,hbn,hN10,hz10,hb10⟩:=newBox w9 (.cells #[.int .i64 p.1,.slice a9 m9 c9] 30)
    have HW10:=Lib.hid hw10
    have HBN:=Lib.hid hbn
    rw [HW10.out,HBN.out]
    have b810:=b9.trans (hb10.mono b9.size)
    have HV:Hid (∀ W,Below w10.heap.size w10 W→W.heap[bn]?=some (.cells #[.int .i64 p.1,.slice a9 m9 c9] 30 (0,0))∧Rd2 W (.slice a9 m9 c9) p.2∧Below w8.heap.size w8 W):=fun W hW=>⟨(hW.block bn hz10).trans hN10,((o9.below hb10).below hW).rd2,b810.trans (hW.mono b810.size)⟩
    have HALL:Hid (∀ W,Below w10.heap.size w10 W→(W.heap[bx]?=some (.cells #[.int .i64 p.1,.slice am mm cm] 30 (0,0))∧W.heap[bz]?=some (.cells #[.int .i64 p.1,.slice a5 m5 c5] 30 (0,0))∧W.heap[bp]?=some (.cells #[.int .i64 p.1,.slice a7 m7 c7] 30 (0,0))∧W.heap[bn]?=some (.cells #[.int .i64 p.1,.slice a9 m9 c9] 30 (0,0)))∧(Rd2 W (.slice am mm cm) p.2∧Rd2 W (.slice a5 m5 c5) p.2∧Rd2 W (.slice a7 m7 c7) p.2∧Rd2 W (.slice a9 m9 c9) p.2)∧Below w.heap.size w W∧TabE W):=fun W hW=>by
     obtain ⟨n1,n2,n3⟩:=HV.out _ hW
     obtain ⟨p1,p2,p3⟩:=HPP.out _ n3
     obtain ⟨z1,z2,z3⟩:=HZ.out _ p3
     obtain ⟨x1,x2,x3,x4⟩:=HB.out _ z3
     exact ⟨⟨x1,z1,p1,n1⟩,⟨x2,z2,p2,n2⟩,x3,x4⟩
    clear hw10 hbn hN10 hz10 hb10 o9 b9 c0 c1 t1 t2 t3 t4 HV HPP HZ HB b08 b68 b06 b4 b810 q1
    have HM0:Hid ((⟨#[]⟩:ByteArray)=bstr (manyK 0)):=rfl
    go_wp2_with fail
    go_loopg [23,24] 45 (fun g vm iv wx=>∃ (j:Nat) (M:ByteArray),g=45 - j∧j≤45∧iv=.int .i64 (j:Int)∧vm=.string M∧Hid (M=bstr (manyK j))∧w10=wx)
    case atStart=>exact ⟨0,_,rfl,Nat.zero_le _,rfl,rfl,HM0,rfl⟩
    case round =>
     clear HM0
     obtain ⟨j,M,hgj,hj,rfl,rfl,HM,rfl⟩:=hrel
     by_cases hj45:j < 45
     · have i1:(j:Int) < 45:=by omega
       have hMs:M.size≤200:=by rw [HM.out,bstr_size,manyK_len];omega
       have q4:¬ 9223372036854775807 < M.size+4:=by omega
       have HM2:Hid (M++⟨#[35,32,120,10]⟩=bstr (manyK (j+1))):=by
        rw [Hid,HM.out,manyK,←bstr_app]
        rfl
       go_wp2_with fail
       go_roundg (45 - (j+1))
       case measure=>omega
       case rel=>exact ⟨j+1,_,rfl,by omega,by go_num,rfl,HM2,rfl⟩
     · obtain rfl:j=45:=by omega
       have HRM2:=HRM.out
       rw [←HM.out] at HRM2
       have HRM3:=Lib.hid HRM2
       clear HM HRM HRM2
       go_upto_region 32 with (go_at_call 42;refine (HRM3.out _ (HALL.out _ (Below.refl _ _)).2.2.2).mono ?_;rintro e w11 ⟨G,rfl,b11⟩)
       go_upto_region 33 with (go_at_call 39;refine (i_RunLine0 _ w11).mono ?_;rintro e w12 ⟨a12,m12,c12,S12,rfl,b12⟩)
       obtain ⟨w13,bq,hw13,hbq,-,-,hb13⟩:=newBox w12 (.cells #[.int .i64 0,.slice a12 m12 c12] 30)
       rw [hw13]
       have b13:=b11.trans ((b12.trans (hb13.mono b12.size)).mono b11.size)
       clear hw13 b11 b12 hb13 HRM3 HRS HSH HPA HNE
       obtain ⟨⟨x1,z1,p1,n1⟩,⟨x2,z2,p2,n2⟩,-,-⟩:=HALL.out _ b13
       have cx0:=box_cell x1 0
       have cx1:=box_cell x1 1
       have cz0:=box_cell z1 0
       have cz1:=box_cell z1 1
       clear x1 z1 p1 n1
       go_wp2_with (first
        | (go_at_call 41;(with_reducible refine (HSM.out _ w13 z2 x2).mono ?_);rintro e w14 ⟨rfl,b14⟩
           have c14:=b13.trans (b14.mono b13.size)
           obtain ⟨⟨x1,-,p1,-⟩,⟨x3,-,p3,-⟩,-,-⟩:=HALL.out _ c14
           have dx0:=box_cell x1 0
           have dx1:=box_cell x1 1
           have dp0:=box_cell p1 0
           have dp1:=box_cell p1 1
           clear x1 p1)
        | (go_at_call 41;(with_reducible refine (HSM.out _ w14 p3 x3).mono ?_);rintro e w15 ⟨rfl,b15⟩
           have c15:=c14.trans (b15.mono c14.size)
           obtain ⟨⟨x1,-,-,n1⟩,⟨x4,-,-,n4⟩,-,-⟩:=HALL.out _ c15
           have ex0:=box_cell x1 0
           have ex1:=box_cell x1 1
           have en0:=box_cell n1 0
           have en1:=box_cell n1 1
           clear x1 n1)
        | (go_at_call 41;(with_reducible refine (HSM.out _ w15 n4 x4).mono ?_);rintro e w16 ⟨rfl,b16⟩
           have c16:=c15.trans (b16.mono c15.size)
           obtain ⟨⟨x1,-,-,-⟩,⟨x5,-,-,-⟩,-,tt⟩:=HALL.out _ c16
           have fx0:=box_cell x1 0
           have fx1:=box_cell x1 1
           clear x1)
        | (go_at_call 43;refine (HFM.out _ x5 tt.tab).mono ?_;rintro e w17 ⟨rfl,b17⟩;have c17:=c16.trans (b17.mono c16.size)))
       go_ret
       exact ⟨rfl,(HALL.out _ c17).2.2.1⟩
end Go.Proofs.YtggblfnajeikjaaGreatDoor
