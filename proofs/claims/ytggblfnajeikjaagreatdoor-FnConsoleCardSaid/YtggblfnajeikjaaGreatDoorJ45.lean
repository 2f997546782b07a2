/- Joined texts of the proof: ConX, ConY, ConR, ConV2, ConZ. -/
import Derived.Test.YtggblfnajeikjaaGreatDoorJ37
import Derived.Test.YtggblfnajeikjaaGreatDoorJ38
import Derived.Test.YtggblfnajeikjaaGreatDoorJ40
import Derived.Test.YtggblfnajeikjaaGreatDoorJ41
import Derived.Test.YtggblfnajeikjaaGreatDoorJ43
namespace Go.Proofs.YtggblfnajeikjaaGreatDoor
open Go.RowKit
set_option linter.unusedVariables false
set_option linter.unusedSimpArgs false
set_option maxRecDepth 100000
set_option maxHeartbeats 16000000
theorem apM_allC {P:Int→Prop} (h0:P 0) {xss:List (List Int)} {xs:List Int} (h:∀ x∈xs,P x):∀ k,∀ x∈apM xss xs k,P x
 | 0,x,hx=>h x hx
 | k+1,x,hx=>by
   have ih:=apM_allC h0 (xss:=xss) h k
   have hg:∀ i,P ((apM xss xs k).getD i 0):=fun i=>by
    rw [List.getD_eq_getElem?_getD]
    cases e:(apM xss xs k)[i]? with
    | none=>exact h0
    | some y=>exact ih y (List.mem_of_getElem? e)
   simp only [apM] at hx
   split at hx
   · rename_i a b _
     rcases List.mem_or_eq_of_mem_set hx with h1 | h1
     · rcases List.mem_or_eq_of_mem_set h1 with h2 | h2
       · exact ih x h2
       · rw [h2]
         rcases Int.le_total ((apM xss xs k).getD a.toNat 0) ((apM xss xs k).getD b.toNat 0) with h3 | h3
         · rw [Int.min_eq_left h3];exact hg _
         · rw [Int.min_eq_right h3];exact hg _
     · rw [h1]
       rcases Int.le_total ((apM xss xs k).getD a.toNat 0) ((apM xss xs k).getD b.toNat 0) with h3 | h3
       · rw [Int.max_eq_right h3];exact hg _
       · rw [Int.max_eq_left h3];exact hg _
   · exact ih x hx
def orS (ok:Bool) (ys:List Int):List UInt8:=if ok then numsB ys else noneS
theorem appL_I64 {N:Nat} {X:List (List Int)} {xs:List Int} (h:I64s xs):I64s (appL N X xs):=by
 unfold appL
 split
 · exact apM_allC (P:=I64) ⟨by omega,by omega⟩ h _
 · intro y hy;cases hy
theorem appL_len {N:Nat} {X:List (List Int)} {xs:List Int} : (appL N X xs).length≤xs.length:=by
 unfold appL
 split
 · rw [apM_length];exact Nat.le_refl _
 · simp
theorem ctOk_I64 {N:Nat} {X:List (List Int)} {xs:List Int} : I64s (ctOk N X xs):=by
 unfold ctOk
 split
 · rename_i h
   have hb:∀ y∈xs,0≤y∧y≤1000:=fun y hy=>by
    simp only [tokB,Bool.and_eq_true,List.all_eq_true,decide_eq_true_eq] at h
    exact h.2 y hy
   intro y hy
   have:=ctM_bd X hb _ y hy
   unfold I64
   omega
 · intro y hy;cases hy
theorem ctOk_len {N:Nat} {X:List (List Int)} {xs:List Int} : (ctOk N X xs).length≤xs.length:=by
 unfold ctOk
 split
 · rw [ctM_length];exact Nat.le_refl _
 · simp
def listS (p:NetV) (wd:List UInt8) (xs:List Int):List UInt8 :=
 if wd=[97,112,112,108,121] then orS (appB p.1.toNat xs) (appL p.1.toNat p.2 xs)
 else if wd=[116,111,107,101,110,115] then orS (tokB p.1.toNat xs) (ctOk p.1.toNat p.2 xs)
 else if wd=[102,97,98,114,105,99] then fabLine xs
 else if wd=[114,117,110,115] then mergeLine xs
 else if wd=[102,108,105,112,115] then flipLine xs
 else if wd=[115,116,97,99,107] then stackLine xs
 else if wd=[100,105,115,111,114,100,101,114] then disLine xs
 else unkS
theorem i_numbersOr (v:Value) (ys:List Int) (ok:Bool) (w:World) (h:Rd w v (ints ys)) (hy:I64s ys) (hl:ys.length≤1000) (ht:Tab w):Calls Tryz.prog 237 #[v,.bool ok] w (RetB (.string (bstr (orS ok ys))) w):=by
 have HN:=Lib.hid (i_numbers w v ys h hy hl ht)
 cases ok
 · go_enter Tryz.func237,Tryz.ntmps237
   go_wp2_with fail
   go_ret
   exact ⟨rfl,Below.refl _ _⟩
 · go_enter Tryz.func237,Tryz.ntmps237
   go_wp2_with (go_at_call 46;refine HN.out.mono ?_;rintro e w2 ⟨rfl,b2⟩)
   go_ret
   exact ⟨rfl,b2⟩
theorem i_list (g:Nat) (p:NetV) (wd:List UInt8) (v:Value) (xs:List Int) (w:World) (hc:Con w g p) (hk:netOk p.1 p.2=true) (hv:Rd w v (ints xs)) (hx:I64s xs) (hl:xs.length≤1000) (ht:TabG w g) :
 Calls Tryz.prog 198 #[.pointer (some ⟨g,0,none⟩),.string (bstr wd),v] w (RetC g (p,listS p wd xs) w):=by
 obtain ⟨N,X,rfl,hN1,hN8,hk⟩:=conNet hk
 obtain ⟨a0,m0,c0,hG,hR⟩:=hc
 have hc:Con w g ((N:Int),X):=⟨a0,m0,c0,hG,hR⟩
 simp only at hG hR
 replace hR:=hR.rd2
 have g0:=box_cell hG 0
 have g1:=box_cell hG 1
 have htb:=ht.tab.tab
 obtain ⟨S,hS⟩:∃ S,bstr wd=S:=⟨_,rfl⟩
 by_cases h0:wd=[97,112,112,108,121]
 · have e0:=strEq hS h0
   have HR:Hid (listS ((N:Int),X) wd xs=orS (appB N xs) (appL N X xs)):=by rw [Hid,listS,if_pos h0];rfl
   rw [HR.out,hS]
   clear HR hS h0
   have HX:=Lib.hid (i_ApplyM N _ v X xs w hR hv hk)
   have hZ:I64s (appL N X xs):=appL_I64 hx
   have hZl:(appL N X xs).length≤1000:=Nat.le_trans appL_len hl
   generalize appL N X xs=Z at *
   generalize appB N xs=ok at *
   go_enter Tryz.func198,Tryz.ntmps198
   go_wp2_with (first
    | (go_at_call 238;refine HX.out.mono ?_;rintro e w1 ⟨v1,rfl,r1,b1⟩)
    | (go_at_call 237;refine (i_numbersOr v1 Z ok w1 r1 hZ hZl (htb.below b1)).mono ?_;rintro e w2 ⟨rfl,b2⟩;have b12:=b1.trans (b2.mono b1.size)))
   go_ret
   exact ⟨rfl,hc.below b12,gb_of b12⟩
 have e0:=strNe hS h0
 by_cases h1:wd=[116,111,107,101,110,115]
 · have e1:=strEq hS h1
   have HR:Hid (listS ((N:Int),X) wd xs=orS (tokB N xs) (ctOk N X xs)):=by rw [Hid,listS,if_neg h0,if_pos h1];rfl
   rw [HR.out,hS]
   clear HR hS h0 h1
   have HX:=Lib.hid (i_CountTokens N _ v X xs w hR hv hk)
   have hZ:I64s (ctOk N X xs):=ctOk_I64
   have hZl:(ctOk N X xs).length≤1000:=Nat.le_trans ctOk_len hl
   generalize ctOk N X xs=Z at *
   generalize tokB N xs=ok at *
   go_enter Tryz.func198,Tryz.ntmps198
   go_wp2_with (first
    | (go_at_call 239;refine HX.out.mono ?_;rintro e w1 ⟨v1,rfl,o1,b1⟩;have r1:=o1.rd)
    | (go_at_call 237;refine (i_numbersOr v1 Z ok w1 r1 hZ hZl (htb.below b1)).mono ?_;rintro e w2 ⟨rfl,b2⟩;have b12:=b1.trans (b2.mono b1.size)))
   go_ret
   exact ⟨rfl,hc.below b12,gb_of b12⟩
 have e1:=strNe hS h1
 by_cases h2:wd=[102,97,98,114,105,99]
 · have e2:=strEq hS h2
   have HR:Hid (listS ((N:Int),X) wd xs=fabLine xs):=by rw [Hid,listS,if_neg h0,if_neg h1,if_pos h2]
   rw [HR.out,hS]
   clear HR hS h0 h1 h2
   have HX:=Lib.hid (I_FabricLine w v xs hv hx (by omega) htb)
   generalize fabLine xs=Z at *
   go_enter Tryz.func198,Tryz.ntmps198
   go_wp2_with (go_at_call 36;refine HX.out.mono ?_;rintro e w1 ⟨rfl,b1⟩)
   go_ret
   exact ⟨rfl,hc.below b1,gb_of b1⟩
 have e2:=strNe hS h2
 by_cases h3:wd=[114,117,110,115]
 · have e3:=strEq hS h3
   have HR:Hid (listS ((N:Int),X) wd xs=mergeLine xs):=by rw [Hid,listS,if_neg h0,if_neg h1,if_neg h2,if_pos h3]
   rw [HR.out,hS]
   clear HR hS h0 h1 h2 h3
   have HX:=Lib.hid (I_MergeLine w v xs hv hx (by omega) htb)
   generalize mergeLine xs=Z at *
   go_enter Tryz.func198,Tryz.ntmps198
   go_wp2_with (go_at_call 30;refine HX.out.mono ?_;rintro e w1 ⟨rfl,b1⟩)
   go_ret
   exact ⟨rfl,hc.below b1,gb_of b1⟩
 have e3:=strNe hS h3
 by_cases h4:wd=[102,108,105,112,115]
 · have e4:=strEq hS h4
   have HR:Hid (listS ((N:Int),X) wd xs=flipLine xs):=by rw [Hid,listS,if_neg h0,if_neg h1,if_neg h2,if_neg h3,if_pos h4]
   rw [HR.out,hS]
   clear HR hS h0 h1 h2 h3 h4
   have HX:=Lib.hid (I_FlipLine w v xs hv hx (by omega) htb)
   generalize flipLine xs=Z at *
   go_enter Tryz.func198,Tryz.ntmps198
   go_wp2_with (go_at_call 34;refine HX.out.mono ?_;rintro e w1 ⟨rfl,b1⟩)
   go_ret
   exact ⟨rfl,hc.below b1,gb_of b1⟩
 have e4:=strNe hS h4
 by_cases h5:wd=[115,116,97,99,107]
 · have e5:=strEq hS h5
   have HR:Hid (listS ((N:Int),X) wd xs=stackLine xs):=by rw [Hid,listS,if_neg h0,if_neg h1,if_neg h2,if_neg h3,if_neg h4,if_pos h5]
   rw [HR.out,hS]
   clear HR hS h0 h1 h2 h3 h4 h5
   have HX:=Lib.hid (I_StackLine w v xs hv hx (by omega) htb)
   generalize stackLine xs=Z at *
   go_enter Tryz.func198,Tryz.ntmps198
   go_wp2_with (go_at_call 29;refine HX.out.mono ?_;rintro e w1 ⟨rfl,b1⟩)
   go_ret
   exact ⟨rfl,hc.below b1,gb_of b1⟩
 have e5:=strNe hS h5
 by_cases h6:wd=[100,105,115,111,114,100,101,114]
 · have e6:=strEq hS h6
   have HR:Hid (listS ((N:Int),X) wd xs=disLine xs):=by rw [Hid,listS,if_neg h0,if_neg h1,if_neg h2,if_neg h3,if_neg h4,if_neg h5,if_pos h6]
   rw [HR.out,hS]
   clear HR hS h0 h1 h2 h3 h4 h5 h6
   have HX:=Lib.hid (I_DisorderLine w v xs hv hx (by omega) htb)
   generalize disLine xs=Z at *
   go_enter Tryz.func198,Tryz.ntmps198
   go_wp2_with (go_at_call 11;refine HX.out.mono ?_;rintro e w1 ⟨rfl,b1⟩)
   go_ret
   exact ⟨rfl,hc.below b1,gb_of b1⟩
 have e6:=strNe hS h6
 have HR:Hid (listS ((N:Int),X) wd xs=unkS):=by rw [Hid,listS,if_neg h0,if_neg h1,if_neg h2,if_neg h3,if_neg h4,if_neg h5,if_neg h6]
 rw [HR.out,hS]
 clear HR hS h0 h1 h2 h3 h4 h5 h6
 go_enter Tryz.func198,Tryz.ntmps198
 go_wp2_with fail
 go_ret
 exact ⟨rfl,hc,gb_of (Below.refl _ _)⟩
def oneM (p:NetV) (wd a:List UInt8):NetV × List UInt8 :=
 if wd=[110,101,116] then takeM p (parseNet a)
 else if wd=[119,105,114,101,115]∨wd=[100,114,111,112]∨wd=[98,117,98,98,108,101]∨wd=[98,97,116,99,104,101,114]∨wd=[98,105,116,111,110,105,99]∨wd=[108,105,118,101]∨wd=[98,105,116,115] then (match parseI a with | some n=>numberM p wd n | none=>(p,unkS))
 else (match parseNums a with | some l=>(p,listS p wd l) | none=>(p,unkS))
def twoM (p:NetV) (wd a b:List UInt8):NetV × List UInt8 :=
 match parseI b with
 | none=>(p,unkS)
 | some n =>
   if wd=[108,97,116,101] then (match parseNums a with | some ts=>(p,lateLine ts n) | none=>(p,unkS))
   else match parseI a with
    | none=>(p,unkS)
    | some m=>if wd=[112,97,105,114] then takeM p (joinM p.1 p.2 [[m,n]]) else if wd=[98,114,105,99,107] then takeM p (brickM m n) else if wd=[109,101,114,103,101] then takeM p (mergeM m n) else (p,unkS)
theorem joinM_ok {n:Int} {X Y:List (List Int)} {q:NetV} (h:joinM n X Y=some q):netOk q.1 q.2=true:=by
 unfold joinM at h
 split at h
 · split at h
   · cases h;assumption
   · cases h
 · cases h
theorem parseNums_I64 {l:List UInt8} {xs:List Int} (h:parseNums l=some xs):I64s xs:=by
 unfold parseNums at h
 split at h
 · cases h;intro x hx;cases hx
 · split at h
   · split at h
     · cases h
     · cases h
       rename_i hh _
       exact numsOf_I64 _ _ hh
   · cases h
theorem i_ParseNs (x:List UInt8) (hx:x.length≤1048576) (W:World) (ht:TabE W):Calls Tryz.prog 7 #[.string (bstr x)] W (RetOwnB 3 (ints ((parseNums x).getD [])) (parseNums x).isSome W):=by
 have:=I_ParseNumbers W (bstr x) (by rw [bstr_size];simp only [maxLen];omega) (by rw [bstr_size];omega) ht
 have e:(bstr x).data.toList=x:=by simp [bstr]
 rw [pn0,pn1,e] at this
 exact this
theorem i_one (g:Nat) (p:NetV) (wd a:List UInt8) (w:World) (hc:Con w g p) (hk:netOk p.1 p.2=true) (ha:a.length≤10000) (ht:TabG w g) :
 Calls Tryz.prog 163 #[.pointer (some ⟨g,0,none⟩),.string (bstr wd),.string (bstr a)] w (RetC g (oneM p wd a) w):=by
 have hg:g < w.heap.size:=box_lt hc.choose_spec.choose_spec.choose_spec.1
 have HPI:=Lib.hid (i_ParseI a (by omega) w ht.tab)
 have HPN:=Lib.hid (i_ParseNs a (by omega) w ht.tab)
 obtain ⟨A,hA⟩:∃ A,bstr a=A:=⟨_,rfl⟩
 obtain ⟨S,hS⟩:∃ S,bstr wd=S:=⟨_,rfl⟩
 by_cases h0:wd=[110,101,116]
 · have e0:=strEq hS h0
   have HR:Hid (oneM p wd a=takeM p (parseNet a)):=by rw [Hid,oneM,if_pos h0]
   have HX:=Lib.hid (i_ParseNetwork (bstr a) (by rw [bstr_size];omega) w ht.tab)
   rw [show (bstr a).data.toList=a by simp [bstr]] at HX
   have okR:∀ q,parseNet a=some q→netOk q.1 q.2=true:=fun q hq=>parseNet_ok hq
   rw [HR.out,hS,hA]
   rw [hA] at HX
   generalize parseNet a=R at *
   clear HR hS hA h0 HPI HPN
   go_enter Tryz.func163,Tryz.ntmps163
   go_wp2_with (first
    | (go_at_call 196;refine HX.out.mono ?_;rintro e w1 ⟨a1,m1,c1,rfl,o1,b1⟩)
    | (go_at_call 195;refine (i_takeC g p R okR a1 m1 c1 w.heap.size w1 (hc.below b1) o1 hg (ht.below b1)).mono ?_;rintro e w2 ⟨rfl,k2,g2⟩))
   go_ret
   exact ⟨rfl,k2,gb_trC (gb_of b1) g2⟩
 have e0:=strNe hS h0
 by_cases h1:wd=[119,105,114,101,115]
 · have e1:=strEq hS h1
   have HR:Hid (oneM p wd a=(match parseI a with | some n=>numberM p wd n | none=>(p,unkS))):=by rw [Hid,oneM,if_neg h0,if_pos (by simp [h1])]
   cases hp:parseI a with
   | none =>
     rw [hp] at HR HPI
     rw [HR.out,hS,hA]
     rw [hA] at HPI
     clear HR hS hA hp HPN h0 h1
     go_enter Tryz.func163,Tryz.ntmps163
     go_wp2_with (go_at_call 48;refine HPI.out.mono ?_;rintro e w1 ⟨rfl,b1⟩)
     go_ret
     exact ⟨rfl,hc.below b1,gb_of b1⟩
   | some n =>
     have hn:I64 n:=(parseI_iff.1 hp).1
     have HN:=Lib.hid (fun (W:World) (h1:Con W g p) (h2:TabG W g)=>i_number g p wd n W h1 hk hn h2)
     rw [hp] at HR HPI
     simp only at HR
     rw [HR.out,hS,hA]
     rw [hA] at HPI
     rw [hS] at HN
     generalize numberM p wd n=R at *
     clear HR hS hA hp HPN h0 h1
     go_enter Tryz.func163,Tryz.ntmps163
     go_wp2_with (first
      | (go_at_call 48;refine HPI.out.mono ?_;rintro e w1 ⟨rfl,b1⟩)
      | (go_at_call 197;refine (HN.out _ (hc.below b1) (ht.below b1)).mono ?_;rintro e w2 ⟨rfl,k2,g2⟩))
     go_ret
     exact ⟨rfl,k2,gb_trC (gb_of b1) g2⟩
 have e1:=strNe hS h1
 by_cases h2:wd=[100,114,111,112]
 · have e2:=strEq hS h2
   have HR:Hid (oneM p wd a=(match parseI a with | some n=>numberM p wd n | none=>(p,unkS))):=by rw [Hid,oneM,if_neg h0,if_pos (by simp [h2])]
   cases hp:parseI a with
   | none =>
     rw [hp] at HR HPI
     rw [HR.out,hS,hA]
     rw [hA] at HPI
     clear HR hS hA hp HPN h0 h1 h2
     go_enter Tryz.func163,Tryz.ntmps163
     go_wp2_with (go_at_call 48;refine HPI.out.mono ?_;rintro e w1 ⟨rfl,b1⟩)
     go_ret
     exact ⟨rfl,hc.below b1,gb_of b1⟩
   | some n =>
     have hn:I64 n:=(parseI_iff.1 hp).1
     have HN:=Lib.hid (fun (W:World) (h1:Con W g p) (h2:TabG W g)=>i_number g p wd n W h1 hk hn h2)
     rw [hp] at HR HPI
     simp only at HR
     rw [HR.out,hS,hA]
     rw [hA] at HPI
     rw [hS] at HN
     generalize numberM p wd n=R at *
     clear HR hS hA hp HPN h0 h1 h2
     go_enter Tryz.func163,Tryz.ntmps163
     go_wp2_with (first
      | (go_at_call 48;refine HPI.out.mono ?_;rintro e w1 ⟨rfl,b1⟩)
      | (go_at_call 197;refine (HN.out _ (hc.below b1) (ht.below b1)).mono ?_;rintro e w2 ⟨rfl,k2,g2⟩))
     go_ret
     exact ⟨rfl,k2,gb_trC (gb_of b1) g2⟩
 have e2:=strNe hS h2
 by_cases h3:wd=[98,117,98,98,108,101]
 · have e3:=strEq hS h3
   have HR:Hid (oneM p wd a=(match parseI a with | some n=>numberM p wd n | none=>(p,unkS))):=by rw [Hid,oneM,if_neg h0,if_pos (by simp [h3])]
   cases hp:parseI a with
   | none =>
     rw [hp] at HR HPI
     rw [HR.out,hS,hA]
     rw [hA] at HPI
     clear HR hS hA hp HPN h0 h1 h2 h3
     go_enter Tryz.func163,Tryz.ntmps163
     go_wp2_with (go_at_call 48;refine HPI.out.mono ?_;rintro e w1 ⟨rfl,b1⟩)
     go_ret
     exact ⟨rfl,hc.below b1,gb_of b1⟩
   | some n =>
     have hn:I64 n:=(parseI_iff.1 hp).1
     have HN:=Lib.hid (fun (W:World) (h1:Con W g p) (h2:TabG W g)=>i_number g p wd n W h1 hk hn h2)
     rw [hp] at HR HPI
     simp only at HR
     rw [HR.out,hS,hA]
     rw [hA] at HPI
     rw [hS] at HN
     generalize numberM p wd n=R at *
     clear HR hS hA hp HPN h0 h1 h2 h3
     go_enter Tryz.func163,Tryz.ntmps163
     go_wp2_with (first
      | (go_at_call 48;refine HPI.out.mono ?_;rintro e w1 ⟨rfl,b1⟩)
      | (go_at_call 197;refine (HN.out _ (hc.below b1) (ht.below b1)).mono ?_;rintro e w2 ⟨rfl,k2,g2⟩))
     go_ret
     exact ⟨rfl,k2,gb_trC (gb_of b1) g2⟩
 have e3:=strNe hS h3
 by_cases h4:wd=[98,97,116,99,104,101,114]
 · have e4:=strEq hS h4
   have HR:Hid (oneM p wd a=(match parseI a with | some n=>numberM p wd n | none=>(p,unkS))):=by rw [Hid,oneM,if_neg h0,if_pos (by simp [h4])]
   cases hp:parseI a with
   | none =>
     rw [hp] at HR HPI
     rw [HR.out,hS,hA]
     rw [hA] at HPI
     clear HR hS hA hp HPN h0 h1 h2 h3 h4
     go_enter Tryz.func163,Tryz.ntmps163
     go_wp2_with (go_at_call 48;refine HPI.out.mono ?_;rintro e w1 ⟨rfl,b1⟩)
     go_ret
     exact ⟨rfl,hc.below b1,gb_of b1⟩
   | some n =>
     have hn:I64 n:=(parseI_iff.1 hp).1
     have HN:=Lib.hid (fun (W:World) (h1:Con W g p) (h2:TabG W g)=>i_number g p wd n W h1 hk hn h2)
     rw [hp] at HR HPI
     simp only at HR
     rw [HR.out,hS,hA]
     rw [hA] at HPI
     rw [hS] at HN
     generalize numberM p wd n=R at *
     clear HR hS hA hp HPN h0 h1 h2 h3 h4
     go_enter Tryz.func163,Tryz.ntmps163
     go_wp2_with (first
      | (go_at_call 48;refine HPI.out.mono ?_;rintro e w1 ⟨rfl,b1⟩)
      | (go_at_call 197;refine (HN.out _ (hc.below b1) (ht.below b1)).mono ?_;rintro e w2 ⟨rfl,k2,g2⟩))
     go_ret
     exact ⟨rfl,k2,gb_trC (gb_of b1) g2⟩
 have e4:=strNe hS h4
 by_cases h5:wd=[98,105,116,111,110,105,99]
 · have e5:=strEq hS h5
   have HR:Hid (oneM p wd a=(match parseI a with | some n=>numberM p wd n | none=>(p,unkS))):=by rw [Hid,oneM,if_neg h0,if_pos (by simp [h5])]
   cases hp:parseI a with
   | none =>
     rw [hp] at HR HPI
     rw [HR.out,hS,hA]
     rw [hA] at HPI
     clear HR hS hA hp HPN h0 h1 h2 h3 h4 h5
     go_enter Tryz.func163,Tryz.ntmps163
     go_wp2_with (go_at_call 48;refine HPI.out.mono ?_;rintro e w1 ⟨rfl,b1⟩)
     go_ret
     exact ⟨rfl,hc.below b1,gb_of b1⟩
   | some n =>
     have hn:I64 n:=(parseI_iff.1 hp).1
     have HN:=Lib.hid (fun (W:World) (h1:Con W g p) (h2:TabG W g)=>i_number g p wd n W h1 hk hn h2)
     rw [hp] at HR HPI
     simp only at HR
     rw [HR.out,hS,hA]
     rw [hA] at HPI
     rw [hS] at HN
     generalize numberM p wd n=R at *
     clear HR hS hA hp HPN h0 h1 h2 h3 h4 h5
     go_enter Tryz.func163,Tryz.ntmps163
     go_wp2_with (first
      | (go_at_call 48;refine HPI.out.mono ?_;rintro e w1 ⟨rfl,b1⟩)
      | (go_at_call 197;refine (HN.out _ (hc.below b1) (ht.below b1)).mono ?_;rintro e w2 ⟨rfl,k2,g2⟩))
     go_ret
     exact ⟨rfl,k2,gb_trC (gb_of b1) g2⟩
 have e5:=strNe hS h5
 by_cases h6:wd=[108,105,118,101]
 · have e6:=strEq hS h6
   have HR:Hid (oneM p wd a=(match parseI a with | some n=>numberM p wd n | none=>(p,unkS))):=by rw [Hid,oneM,if_neg h0,if_pos (by simp [h6])]
   cases hp:parseI a with
   | none =>
     rw [hp] at HR HPI
     rw [HR.out,hS,hA]
     rw [hA] at HPI
     clear HR hS hA hp HPN h0 h1 h2 h3 h4 h5 h6
     go_enter Tryz.func163,Tryz.ntmps163
     go_wp2_with (go_at_call 48;refine HPI.out.mono ?_;rintro e w1 ⟨rfl,b1⟩)
     go_ret
     exact ⟨rfl,hc.below b1,gb_of b1⟩
   | some n =>
     have hn:I64 n:=(parseI_iff.1 hp).1
     have HN:=Lib.hid (fun (W:World) (h1:Con W g p) (h2:TabG W g)=>i_number g p wd n W h1 hk hn h2)
     rw [hp] at HR HPI
     simp only at HR
     rw [HR.out,hS,hA]
     rw [hA] at HPI
     rw [hS] at HN
     generalize numberM p wd n=R at *
     clear HR hS hA hp HPN h0 h1 h2 h3 h4 h5 h6
     go_enter Tryz.func163,Tryz.ntmps163
     go_wp2_with (first
      | (go_at_call 48;refine HPI.out.mono ?_;rintro e w1 ⟨rfl,b1⟩)
      | (go_at_call 197;refine (HN.out _ (hc.below b1) (ht.below b1)).mono ?_;rintro e w2 ⟨rfl,k2,g2⟩))
     go_ret
     exact ⟨rfl,k2,gb_trC (gb_of b1) g2⟩
 have e6:=strNe hS h6
 by_cases h7:wd=[98,105,116,115]
 · have e7:=strEq hS h7
   have HR:Hid (oneM p wd a=(match parseI a with | some n=>numberM p wd n | none=>(p,unkS))):=by rw [Hid,oneM,if_neg h0,if_pos (by simp [h7])]
   cases hp:parseI a with
   | none =>
     rw [hp] at HR HPI
     rw [HR.out,hS,hA]
     rw [hA] at HPI
     clear HR hS hA hp HPN h0 h1 h2 h3 h4 h5 h6 h7
     go_enter Tryz.func163,Tryz.ntmps163
     go_wp2_with (go_at_call 48;refine HPI.out.mono ?_;rintro e w1 ⟨rfl,b1⟩)
     go_ret
     exact ⟨rfl,hc.below b1,gb_of b1⟩
   | some n =>
     have hn:I64 n:=(parseI_iff.1 hp).1
     have HN:=Lib.hid (fun (W:World) (h1:Con W g p) (h2:TabG W g)=>i_number g p wd n W h1 hk hn h2)
     rw [hp] at HR HPI
     simp only at HR
     rw [HR.out,hS,hA]
     rw [hA] at HPI
     rw [hS] at HN
     generalize numberM p wd n=R at *
     clear HR hS hA hp HPN h0 h1 h2 h3 h4 h5 h6 h7
     go_enter Tryz.func163,Tryz.ntmps163
     go_wp2_with (first
      | (go_at_call 48;refine HPI.out.mono ?_;rintro e w1 ⟨rfl,b1⟩)
      | (go_at_call 197;refine (HN.out _ (hc.below b1) (ht.below b1)).mono ?_;rintro e w2 ⟨rfl,k2,g2⟩))
     go_ret
     exact ⟨rfl,k2,gb_trC (gb_of b1) g2⟩
 have e7:=strNe hS h7
 have HR:Hid (oneM p wd a=(match parseNums a with | some l=>(p,listS p wd l) | none=>(p,unkS))):=by rw [Hid,oneM,if_neg h0,if_neg (by simp [h1,h2,h3,h4,h5,h6,h7])]
 cases hp:parseNums a with
 | none =>
   rw [hp] at HR HPN
   rw [HR.out,hS,hA]
   rw [hA] at HPN
   clear HR hS hA hp HPI h0 h1 h2 h3 h4 h5 h6 h7
   go_enter Tryz.func163,Tryz.ntmps163
   go_wp2_with (go_at_call 7;refine HPN.out.mono ?_;rintro e w1 ⟨v1,rfl,o1,b1⟩)
   go_ret
   exact ⟨rfl,hc.below b1,gb_of b1⟩
 | some l =>
   have hl:=parseNums_len hp
   have hI:=parseNums_I64 hp
   rw [hp] at HR HPN
   simp only at HR
   have HL:=Lib.hid (fun (v:Value) (W:World) (h1:Con W g p) (hv:Rd W v (ints l)) (h2:TabG W g)=>i_list g p wd v l W h1 hk hv hI (by omega) h2)
   rw [HR.out,hS,hA]
   rw [hA] at HPN
   rw [hS] at HL
   generalize listS p wd l=R at *
   clear HR hS hA hp HPI h0 h1 h2 h3 h4 h5 h6 h7
   go_enter Tryz.func163,Tryz.ntmps163
   go_wp2_with (first
    | (go_at_call 7;refine HPN.out.mono ?_;rintro e w1 ⟨v1,rfl,o1,b1⟩)
    | (go_at_call 198;refine (HL.out _ _ (hc.below b1) o1.rd (ht.below b1)).mono ?_;rintro e w2 ⟨rfl,k2,g2⟩))
   go_ret
   exact ⟨rfl,k2,gb_trC (gb_of b1) g2⟩
theorem i_two (g:Nat) (p:NetV) (wd a c:List UInt8) (w:World) (hc:Con w g p) (hk:netOk p.1 p.2=true) (ha:a.length≤10000) (hcl:c.length≤10000) (ht:TabG w g) :
 Calls Tryz.prog 165 #[.pointer (some ⟨g,0,none⟩),.string (bstr wd),.string (bstr a),.string (bstr c)] w (RetC g (twoM p wd a c) w):=by
 have hg:g < w.heap.size:=box_lt hc.choose_spec.choose_spec.choose_spec.1
 have HPC:=Lib.hid (i_ParseI c (by omega) w ht.tab)
 have HPA:=Lib.hid (fun (W:World) (hW:TabG W g)=>i_ParseI a (by omega) W hW.tab)
 have HPN:=Lib.hid (fun (W:World) (hW:TabG W g)=>i_ParseNs a (by omega) W hW.tab)
 have HR0:Hid (twoM p wd a c=match parseI c with
 | none=>(p,unkS)
 | some n =>
   if wd=[108,97,116,101] then (match parseNums a with | some ts=>(p,lateLine ts n) | none=>(p,unkS))
   else match parseI a with
    | none=>(p,unkS)
    | some m=>if wd=[112,97,105,114] then takeM p (joinM p.1 p.2 [[m,n]]) else if wd=[98,114,105,99,107] then takeM p (brickM m n) else if wd=[109,101,114,103,101] then takeM p (mergeM m n) else (p,unkS)):=rfl
 obtain ⟨A,hA⟩:∃ A,bstr a=A:=⟨_,rfl⟩
 obtain ⟨C,hC⟩:∃ C,bstr c=C:=⟨_,rfl⟩
 obtain ⟨S,hS⟩:∃ S,bstr wd=S:=⟨_,rfl⟩
 rw [hA] at HPA HPN
 rw [hC] at HPC
 rw [hA,hC,hS]
 cases hp:parseI c with
 | none =>
   rw [hp] at HR0 HPC
   rw [HR0.out]
   clear HR0 hS hA hC hp HPN HPA
   go_enter Tryz.func165,Tryz.ntmps165
   go_wp2_with (go_at_call 48;refine HPC.out.mono ?_;rintro e w1 ⟨rfl,b1⟩)
   go_ret
   exact ⟨rfl,hc.below b1,gb_of b1⟩
 | some n =>
   have hn:I64 n:=(parseI_iff.1 hp).1
   rw [hp] at HR0 HPC
   simp only at HR0
   clear hp hC
   by_cases h0:wd=[108,97,116,101]
   · have e0:=strEq hS h0
     rw [if_pos h0] at HR0
     cases hq:parseNums a with
     | none =>
       rw [hq] at HR0 HPN
       rw [HR0.out]
       clear HR0 hS hA hq HPA h0
       go_enter Tryz.func165,Tryz.ntmps165
       go_wp2_with (first
        | (go_at_call 48;refine HPC.out.mono ?_;rintro e w1 ⟨rfl,b1⟩)
        | (go_at_call 7;refine (HPN.out _ (ht.below b1)).mono ?_;rintro e w2 ⟨v2,rfl,o2,b2⟩;have b12:=b1.trans (b2.mono b1.size)))
       go_ret
       exact ⟨rfl,hc.below b12,gb_of b12⟩
     | some ts =>
       have hl:=parseNums_len hq
       have hI:=parseNums_I64 hq
       have HL:=Lib.hid (fun (v:Value) (W:World) (hv:Rd W v (ints ts)) (h2:TabG W g)=>I_LateLine W v ts hv hI (by omega) n hn h2.tab.tab)
       rw [hq] at HR0 HPN
       simp only at HR0
       rw [HR0.out]
       generalize lateLine ts n=R at *
       clear HR0 hS hA hq HPA h0
       go_enter Tryz.func165,Tryz.ntmps165
       go_wp2_with (first
        | (go_at_call 48;refine HPC.out.mono ?_;rintro e w1 ⟨rfl,b1⟩)
        | (go_at_call 7;refine (HPN.out _ (ht.below b1)).mono ?_;rintro e w2 ⟨v2,rfl,o2,b2⟩;have b12:=b1.trans (b2.mono b1.size))
        | (go_at_call 33;refine (HL.out _ _ o2.rd (ht.below b12)).mono ?_;rintro e w3 ⟨rfl,b3⟩;have b13:=b12.trans (b3.mono b12.size)))
       go_ret
       exact ⟨rfl,hc.below b13,gb_of b13⟩
   have e0:=strNe hS h0
   rw [if_neg h0] at HR0
   clear HPN
   cases hq:parseI a with
   | none =>
     rw [hq] at HR0 HPA
     rw [HR0.out]
     clear HR0 hS hA hq h0
     go_enter Tryz.func165,Tryz.ntmps165
     go_wp2_with (first
      | (go_at_call 48;(with_reducible refine HPC.out.mono ?_);rintro e w1 ⟨rfl,b1⟩)
      | (go_at_call 48;(with_reducible refine (HPA.out _ (ht.below b1)).mono ?_);rintro e w2 ⟨rfl,b2⟩;have b12:=b1.trans (b2.mono b1.size)))
     go_ret
     exact ⟨rfl,hc.below b12,gb_of b12⟩
   | some m =>
     have hm:I64 m:=(parseI_iff.1 hq).1
     rw [hq] at HR0 HPA
     simp only at HR0
     clear hq hA
     by_cases h1:wd=[112,97,105,114]
     · have e1:=strEq hS h1
       rw [if_pos h1] at HR0
       obtain ⟨N,X,rfl,hN1,hN8,hk⟩:=conNet hk
       simp only at HR0
       have okR:∀ q,joinM (N:Int) X [[m,n]]=some q→netOk q.1 q.2=true:=fun q hq=>joinM_ok hq
       have HJ:=Lib.hid (fun (v u:Value) (W:World) (h:Rd2 W v X) (hy:Rd2 W u [[m,n]])=>i_JoinNetworks (N:Int) (by unfold I64;omega) v u X [[m,n]] W h hy hk)
       rw [HR0.out]
       generalize joinM (N:Int) X [[m,n]]=R at *
       clear HR0 hS h0 h1
       go_enter Tryz.func165,Tryz.ntmps165
       go_upto_region 14 with (first
        | (go_at_call 48;(with_reducible refine HPC.out.mono ?_);rintro e w1 ⟨rfl,b1⟩)
        | (go_at_call 48;(with_reducible refine (HPA.out _ (ht.below b1)).mono ?_);rintro e w2 ⟨rfl,b2⟩;have b12:=b1.trans (b2.mono b1.size)))
       obtain ⟨a0,m0,c0,hG,hR⟩:=hc.below b12
       simp only at hG hR
       replace hR:=hR.rd2
       have g0:=box_cell hG 0
       have g1:=box_cell hG 1
       have oy:OwnP ((w2.alloc (.cells #[.int .i64 m,.int .i64 n] 3)).alloc (.cells #[.slice (some ⟨w2.heap.size,0,none⟩) 2 2] 23)) w2.heap.size (.slice (some ⟨w2.heap.size+1,0,none⟩) 1 1) [[m,n]]:=OwnP.lit1 (Nat.le_refl _) m n
       have by_:Below w2.heap.size w2 ((w2.alloc (.cells #[.int .i64 m,.int .i64 n] 3)).alloc (.cells #[.slice (some ⟨w2.heap.size,0,none⟩) 2 2] 23)):=((Below.refl _ _).alloc (Nat.le_refl _) _).alloc (by simp) _
       have hG1:(w2.alloc (.cells #[.int .i64 m,.int .i64 n] 3)).heap[g]?=_:=(Below.heap_alloc _ _ _ (box_lt hG)).trans hG
       have hG2:=(by_.block g (box_lt hG)).trans hG
       have g2:=box_cell hG1 0
       have g3:=box_cell hG1 1
       have g4:=box_cell hG2 0
       have g5:=box_cell hG2 1
       have bd:Below w2.heap.size w2 (((w2.alloc (.cells #[.int .i64 m,.int .i64 n] 3)).alloc (.cells #[.slice (some ⟨w2.heap.size,0,none⟩) 2 2] 23))).drew:=⟨by_.os,by_.tape,by_.output,by_.size,by_.block⟩
       have HJ1:=Lib.hid (HJ.out (.slice a0 m0 c0) _ _ (hR.below by_) oy.rd2)
       have HJ2:=Lib.hid (HJ.out (.slice a0 m0 c0) _ (((w2.alloc (.cells #[.int .i64 m,.int .i64 n] 3)).alloc (.cells #[.slice (some ⟨w2.heap.size,0,none⟩) 2 2] 23))).drew (hR.below bd) (oy.of_heap rfl).rd2)
       have HC2:Hid (∀ W,Below w2.heap.size w2 W→Con W g ((N:Int),X)∧TabG W g∧Below w.heap.size w W):=fun W hW=>⟨(hc.below b12).below hW,(ht.below b12).below hW,b12.trans (hW.mono b12.size)⟩
       have hz2:=b12.size
       clear HPC HPA HJ oy hR hG hG1 hG2 hc ht
       go_region_law (first
        | (go_simp;go_at_call 203;(with_reducible refine HJ2.out.mono ?_);rintro e w3 ⟨a3,m3,c3,rfl,o3,b3⟩;have b23:=bd.trans (b3.mono bd.size);obtain ⟨k3,t3,b13⟩:=HC2.out _ b23;have o3':=o3.mono (B':=w.heap.size) (Nat.le_trans hz2 bd.size))
        | (go_simp;go_at_call 203;(with_reducible refine HJ1.out.mono ?_);rintro e w3 ⟨a3,m3,c3,rfl,o3,b3⟩;have b23:=by_.trans (b3.mono by_.size);obtain ⟨k3,t3,b13⟩:=HC2.out _ b23;have o3':=o3.mono (B':=w.heap.size) (Nat.le_trans hz2 by_.size))
        | (go_simp;go_at_call 195;(refine (i_takeC g ((N:Int),X) R okR a3 m3 c3 w.heap.size w3 k3 o3' hg t3).mono ?_);rintro e w4 ⟨rfl,k4,g4'⟩))
       all_goals
        go_wp2_with fail
        go_ret
        exact ⟨rfl,k4,gb_trC (gb_of b13) g4'⟩
     have e1:=strNe hS h1
     rw [if_neg h1] at HR0
     by_cases h2:wd=[98,114,105,99,107]
     · have e2:=strEq hS h2
       rw [if_pos h2] at HR0
       have HX:=Lib.hid (fun (W:World)=>i_BrickM m n hm hn W)
       have okR:∀ q,brickM m n=some q→netOk q.1 q.2=true:=fun q hq=>brickM_ok hq
       rw [HR0.out]
       generalize brickM m n=R at *
       clear HR0 hS h0 h1 h2
       go_enter Tryz.func165,Tryz.ntmps165
       go_wp2_with (first
        | (go_at_call 48;(with_reducible refine HPC.out.mono ?_);rintro e w1 ⟨rfl,b1⟩)
        | (go_at_call 48;(with_reducible refine (HPA.out _ (ht.below b1)).mono ?_);rintro e w2 ⟨rfl,b2⟩;have b12:=b1.trans (b2.mono b1.size))
        | (go_at_call 204;refine (HX.out _).mono ?_;rintro e w3 ⟨a3,m3,c3,rfl,o3,b3⟩;have b13:=b12.trans (b3.mono b12.size);have o3':=o3.mono b12.size)
        | (go_at_call 195;refine (i_takeC g p R okR a3 m3 c3 w.heap.size w3 (hc.below b13) o3' hg (ht.below b13)).mono ?_;rintro e w4 ⟨rfl,k4,g4⟩))
       go_ret
       exact ⟨rfl,k4,gb_trC (gb_of b13) g4⟩
     have e2:=strNe hS h2
     rw [if_neg h2] at HR0
     by_cases h3:wd=[109,101,114,103,101]
     · have e3:=strEq hS h3
       rw [if_pos h3] at HR0
       have HX:=Lib.hid (fun (W:World)=>i_MergeM m n hm hn W)
       have okR:∀ q,mergeM m n=some q→netOk q.1 q.2=true:=fun q hq=>mergeM_ok hq
       rw [HR0.out]
       generalize mergeM m n=R at *
       clear HR0 hS h0 h1 h2 h3
       go_enter Tryz.func165,Tryz.ntmps165
       go_wp2_with (first
        | (go_at_call 48;(with_reducible refine HPC.out.mono ?_);rintro e w1 ⟨rfl,b1⟩)
        | (go_at_call 48;(with_reducible refine (HPA.out _ (ht.below b1)).mono ?_);rintro e w2 ⟨rfl,b2⟩;have b12:=b1.trans (b2.mono b1.size))
        | (go_at_call 205;refine (HX.out _).mono ?_;rintro e w3 ⟨a3,m3,c3,rfl,o3,b3⟩;have b13:=b12.trans (b3.mono b12.size);have o3':=o3.mono b12.size)
        | (go_at_call 195;refine (i_takeC g p R okR a3 m3 c3 w.heap.size w3 (hc.below b13) o3' hg (ht.below b13)).mono ?_;rintro e w4 ⟨rfl,k4,g4⟩))
       go_ret
       exact ⟨rfl,k4,gb_trC (gb_of b13) g4⟩
     have e3:=strNe hS h3
     rw [if_neg h3] at HR0
     rw [HR0.out]
     clear HR0 hS h0 h1 h2 h3
     go_enter Tryz.func165,Tryz.ntmps165
     go_wp2_with (first
      | (go_at_call 48;(with_reducible refine HPC.out.mono ?_);rintro e w1 ⟨rfl,b1⟩)
      | (go_at_call 48;(with_reducible refine (HPA.out _ (ht.below b1)).mono ?_);rintro e w2 ⟨rfl,b2⟩;have b12:=b1.trans (b2.mono b1.size)))
     go_ret
     exact ⟨rfl,hc.below b12,gb_of b12⟩
def lineM (bareM:NetV→List UInt8→NetV × List UInt8) (p:NetV) (l:List UInt8):NetV × List UInt8 :=
 if Lib.hasPrefix l [110,101,116,32]=true then oneM p [110,101,116] (l.drop 4)
 else match splitR 32 l with
  | [a]=>bareM p a
  | [a,b]=>oneM p a b
  | [a,b,c]=>twoM p a b c
  | _=>(p,unkS)
def BareOk (bareM:NetV→List UInt8→NetV × List UInt8):Prop:=∀ (g:Nat) (p:NetV) (wd:List UInt8) (w:World),Con w g p→netOk p.1 p.2=true→p.2.length≤60→wd.length≤10000→TabG w g →
 Calls Tryz.prog 164 #[.pointer (some ⟨g,0,none⟩),.string (bstr wd)] w (RetC g (bareM p wd) w)
theorem words1 {w:World} {v:Value} {x:List UInt8} (h:Rd w v (strs [x])):∃ (ad:Addr) (c:Nat),v=.slice (some ad) 1 c∧w.cell? ad=some (.string (bstr x)):=by
 obtain ⟨a,c,e,_,_⟩:=h.form
 subst e
 obtain ⟨ad,y,rfl,hc,hy⟩:=h.text (k:=0) (by simp)
 have:=hy.out
 simp at this
 subst this
 exact ⟨ad,c,rfl,by simpa [Addr.add] using hc⟩
theorem words2 {w:World} {v:Value} {x y:List UInt8} (h:Rd w v (strs [x,y])):∃ (ad:Addr) (c:Nat),v=.slice (some ad) 2 c∧w.cell? ad=some (.string (bstr x))∧w.cell? ⟨ad.block,ad.off+1,none⟩=some (.string (bstr y)):=by
 obtain ⟨a,c,e,_,_⟩:=h.form
 subst e
 obtain ⟨ad,x',rfl,hc,hx⟩:=h.text (k:=0) (by simp)
 obtain ⟨ad',y',e2,hc2,hy⟩:=h.text (k:=1) (by simp)
 obtain rfl:ad=ad':=by injection e2
 have h1:=hx.out
 have h2:=hy.out
 simp at h1 h2
 subst h1 h2
 rw [add_succ] at hc2
 exact ⟨ad,c,rfl,by simpa [Addr.add] using hc,hc2⟩
theorem words3 {w:World} {v:Value} {x y z:List UInt8} (h:Rd w v (strs [x,y,z])):∃ (ad:Addr) (c:Nat),v=.slice (some ad) 3 c∧w.cell? ad=some (.string (bstr x))∧w.cell? ⟨ad.block,ad.off+1,none⟩=some (.string (bstr y))∧w.cell? ⟨ad.block,ad.off+2,none⟩=some (.string (bstr z)):=by
 obtain ⟨a,c,e,_,_⟩:=h.form
 subst e
 obtain ⟨ad,x',rfl,hc,hx⟩:=h.text (k:=0) (by simp)
 obtain ⟨ad',y',e2,hc2,hy⟩:=h.text (k:=1) (by simp)
 obtain rfl:ad=ad':=by injection e2
 obtain ⟨ad',z',e3,hc3,hz⟩:=h.text (k:=2) (by simp)
 obtain rfl:ad=ad':=by injection e3
 have h1:=hx.out
 have h2:=hy.out
 have h3:=hz.out
 simp at h1 h2 h3
 subst h1 h2 h3
 rw [add_succ] at hc2 hc3
 exact ⟨ad,c,rfl,by simpa [Addr.add] using hc,hc2,hc3⟩
theorem splitR_le (c:UInt8) (l:List UInt8):∀ x∈splitR c l,x.length≤l.length:=splitR_mem c l
theorem i_run {bareM:NetV→List UInt8→NetV × List UInt8} (HB0:BareOk bareM) (g:Nat) (p:NetV) (l:List UInt8) (w:World) (hc:Con w g p) (hk:netOk p.1 p.2=true) (h40:p.2.length≤60) (hl:l.length≤10000) (ht:TabG w g) :
 Calls Tryz.prog 99 #[.pointer (some ⟨g,0,none⟩),.string (bstr l)] w (RetC g (lineM bareM p l) w):=by
 have HPX:=Lib.hid (Tryz.strings_HasPrefix (bstr l) ⟨#[110,101,116,32]⟩ w)
 rw [show (bstr l).data.toList=l by simp [bstr]] at HPX
 have HSP:=Lib.hid (f_Split (bstr l) (by rw [bstr_size];omega) 32 w ht.tab)
 rw [show (bstr l).data.toList=l by simp [bstr]] at HSP
 have HWL:=Lib.hid (splitR_le 32 l)
 cases hp:Lib.hasPrefix l [110,101,116,32]
 · rw [show (([110,101,116,32]:List UInt8))=(⟨#[110,101,116,32]⟩:ByteArray).data.toList from rfl] at hp
   rw [hp] at HPX
   have HR:Hid (lineM bareM p l=match splitR 32 l with
    | [a]=>bareM p a
    | [a,b]=>oneM p a b
    | [a,b,c]=>twoM p a b c
    | _=>(p,unkS)):=by rw [Hid,lineM,if_neg (by intro hh;rw [show Lib.hasPrefix l [110,101,116,32]=false from hp] at hh;cases hh)]
   rw [HR.out]
   clear HR hp
   generalize splitR 32 l=ws at *
   obtain ⟨T,hT⟩:∃ T,bstr l=T:=⟨_,rfl⟩
   rw [hT] at HPX HSP ⊢
   clear hT
   match ws,HSP,HWL with
   | [],HSP,HWL =>
     go_enter Tryz.func99,Tryz.ntmps99
     go_wp2_with (first
      | (go_at_call 162;refine HPX.out.mono ?_;rintro e w1 ⟨rfl,rfl⟩)
      | (go_at_call 47;refine HSP.out.mono ?_;rintro e w2 ⟨v2,rfl,o2,b2⟩;obtain ⟨a2,c2,rfl,_,_⟩:=o2.rd.form))
     go_ret
     exact ⟨rfl,hc.below b2,gb_of b2⟩
   | [x],HSP,HWL =>
     have HBX:=Lib.hid (fun (W:World) (h1:Con W g p) (h2:TabG W g)=>HB0 g p x W h1 hk h40 (Nat.le_trans (HWL.out x (.head _)) hl) h2)
     simp only
     generalize bareM p x=R at *
     go_enter Tryz.func99,Tryz.ntmps99
     go_wp2_with (first
      | (go_at_call 162;refine HPX.out.mono ?_;rintro e w1 ⟨rfl,rfl⟩)
      | (go_at_call 47;refine HSP.out.mono ?_;rintro e w2 ⟨v2,rfl,o2,b2⟩;obtain ⟨ad,c2,rfl,cx⟩:=words1 o2.rd)
      | (go_at_call 164;refine (HBX.out _ (hc.below b2) (ht.below b2)).mono ?_;rintro e w3 ⟨rfl,k3,g3⟩))
     go_ret
     exact ⟨rfl,k3,gb_trC (gb_of b2) g3⟩
   | [x,y],HSP,HWL =>
     have HBX:=Lib.hid (fun (W:World) (h1:Con W g p) (h2:TabG W g)=>i_one g p x y W h1 hk (Nat.le_trans (HWL.out y (.tail _ (.head _))) hl) h2)
     simp only
     generalize oneM p x y=R at *
     go_enter Tryz.func99,Tryz.ntmps99
     go_upto_region 8 with (first
      | (go_at_call 162;refine HPX.out.mono ?_;rintro e w1 ⟨rfl,rfl⟩)
      | (go_at_call 47;refine HSP.out.mono ?_;rintro e w2 ⟨v2,rfl,o2,b2⟩;obtain ⟨ad,c2,rfl,cx,cy⟩:=words2 o2.rd))
     have k2:=hc.below b2
     have t2:=ht.below b2
     have k2d:Con w2.drew g p:=by obtain ⟨a,m,c,h1,h2⟩:=k2;exact ⟨a,m,c,h1,h2.of_heap rfl⟩
     have t2d:TabG w2.drew g:=t2.grown ⟨rfl,rfl,rfl,Nat.le_refl _,fun _ _ _=>rfl⟩
     have HB2:=Lib.hid (HBX.out w2.drew k2d t2d)
     clear k2 k2d t2 t2d o2
     go_region_law (first
      | (go_simp;go_at_call 163;refine HB2.out.mono ?_;rintro e w3 ⟨rfl,k3,g3⟩))
     all_goals
      go_wp2_with fail
      go_ret
      exact ⟨rfl,k3,gb_trC (gb_of b2) ⟨g3.os,g3.tape,g3.output,g3.size,g3.block⟩⟩
   | [x,y,z],HSP,HWL =>
     have HBX:=Lib.hid (fun (W:World) (h1:Con W g p) (h2:TabG W g)=>i_two g p x y z W h1 hk (Nat.le_trans (HWL.out y (.tail _ (.head _))) hl) (Nat.le_trans (HWL.out z (.tail _ (.tail _ (.head _)))) hl) h2)
     simp only
     generalize twoM p x y z=R at *
     go_enter Tryz.func99,Tryz.ntmps99
     go_upto_region 10 with (first
      | (go_at_call 162;refine HPX.out.mono ?_;rintro e w1 ⟨rfl,rfl⟩)
      | (go_at_call 47;refine HSP.out.mono ?_;rintro e w2 ⟨v2,rfl,o2,b2⟩;obtain ⟨ad,c2,rfl,cx,cy,cz⟩:=words3 o2.rd))
     have k2:=hc.below b2
     have t2:=ht.below b2
     have k2d:Con w2.drew g p:=by obtain ⟨a,m,c,h1,h2⟩:=k2;exact ⟨a,m,c,h1,h2.of_heap rfl⟩
     have t2d:TabG w2.drew g:=t2.grown ⟨rfl,rfl,rfl,Nat.le_refl _,fun _ _ _=>rfl⟩
     have HB2:=Lib.hid (HBX.out w2.drew k2d t2d)
     clear k2 k2d t2 t2d o2
     go_region_law (first
      | (go_simp;go_at_call 165;refine HB2.out.mono ?_;rintro e w3 ⟨rfl,k3,g3⟩))
     all_goals
      go_wp2_with fail
      go_ret
      exact ⟨rfl,k3,gb_trC (gb_of b2) ⟨g3.os,g3.tape,g3.output,g3.size,g3.block⟩⟩
   | x :: y :: z :: u :: r,HSP,HWL =>
     simp only
     obtain ⟨n,hn⟩:∃ n,(x :: y :: z :: u :: r).length=n:=⟨_,rfl⟩
     have hn4:4≤n:=by rw [←hn];simp
     have n1:((n:Int) == 1)=false:=by rw [beq_eq_false_iff_ne];omega
     have n2:((n:Int) == 2)=false:=by rw [beq_eq_false_iff_ne];omega
     have n3:((n:Int) == 3)=false:=by rw [beq_eq_false_iff_ne];omega
     have HN:=Lib.hid hn
     clear hn
     go_enter Tryz.func99,Tryz.ntmps99
     go_wp2_with (first
      | (go_at_call 162;refine HPX.out.mono ?_;rintro e w1 ⟨rfl,rfl⟩)
      | (go_at_call 47;refine HSP.out.mono ?_;rintro e w2 ⟨v2,rfl,o2,b2⟩;obtain ⟨a2,m2,c2,rfl,HM2,_,_⟩:=o2.rd.formS;obtain rfl:m2=n:=HM2.out.trans HN.out))
     go_ret
     exact ⟨rfl,hc.below b2,gb_of b2⟩
 · rw [show (([110,101,116,32]:List UInt8))=(⟨#[110,101,116,32]⟩:ByteArray).data.toList from rfl] at hp
   rw [hp] at HPX
   have hl4:4≤l.length:=by
    have : ([110,101,116,32]:List UInt8) <+: l:=by simpa [Lib.hasPrefix,List.isPrefixOf_iff_prefix] using hp
    exact this.length_le
   have HR:Hid (lineM bareM p l=oneM p [110,101,116] (l.drop 4)):=by rw [Hid,lineM,if_pos hp]
   have HBX:=Lib.hid (i_one g p [110,101,116] (l.drop 4) w hc hk (by rw [List.length_drop];omega) ht)
   have hsz:4≤(bstr l).size:=by rw [bstr_size];exact hl4
   have hex:(bstr l).extract 4 (bstr l).size=bstr (l.drop 4):=by
    apply ByteArray.ext
    apply Array.ext'
    rw [Lib.extract_data,bstr_size]
    show List.take (l.length - 4) (List.drop 4 l)=List.drop 4 l
    exact List.take_of_length_le (by rw [List.length_drop];exact Nat.le_refl _)
   rw [HR.out]
   generalize oneM p [110,101,116] (l.drop 4)=R at *
   obtain ⟨T,hT⟩:∃ T,bstr l=T:=⟨_,rfl⟩
   rw [hT] at HPX hsz hex ⊢
   rw [←hex] at HBX
   have HS:=Lib.hid hsz
   clear HR hp hT hex HSP HWL hl4
   go_enter Tryz.func99,Tryz.ntmps99
   go_wp2_with (first
    | (go_at_call 162;refine HPX.out.mono ?_;rintro e w1 ⟨rfl,rfl⟩)
    | (go_at_call 163;refine HBX.out.mono ?_;rintro e w3 ⟨rfl,k3,g3⟩))
   go_ret
   exact ⟨rfl,k3,g3⟩
def RetRL (q:NetV × List UInt8) (w:World) (e:Ending) (w':World):Prop:=∃ (a:Option Addr) (m c:Nat),e=.returned (.tuple #[.agg #[.int .i64 q.1.1,.slice a m c],.string (bstr q.2),.bool true])∧OwnP w' 0 (.slice a m c) q.1.2∧Below w.heap.size w w'
theorem i_RunLine {bareM:NetV→List UInt8→NetV × List UInt8} (HB0:BareOk bareM) (p:NetV) (v:Value) (l:List UInt8) (w:World) (h:Rd2 w v p.2) (hk:netOk p.1 p.2=true) (h40:p.2.length≤60) (hl:l.length≤10000) (ht:TabE w) :
 Calls Tryz.prog 39 #[.agg #[.int .i64 p.1,v],.string (bstr l)] w (RetRL (lineM bareM p l) w):=by
 obtain ⟨a,c,rfl,hmc,hc9⟩:=h.form
 have hn:I64 p.1:=by have:=(netOk_iff.1 hk).1;unfold I64;omega
 have HNK:=Lib.hid (fun (W:World) (hW:Rd2 W (.slice a p.2.length c) p.2)=>hk ▸ i_NetworkOk p.1 _ p.2 W hW hn)
 have HOW:=Lib.hid (fun (W:World) (hW:Rd2 W (.slice a p.2.length c) p.2)=>i_own p.1 _ p.2 W hW (by omega) (netRows hk))
 have HRU:=Lib.hid (fun (g:Nat) (W:World) (h1:Con W g p) (h2:TabG W g)=>i_run HB0 g p l W h1 hk h40 hl h2)
 obtain ⟨m,hm⟩:∃ m,p.2.length=m:=⟨_,rfl⟩
 rw [hm] at h HNK HOW ⊢
 generalize lineM bareM p l=R at *
 obtain ⟨T,hT⟩:∃ T,bstr l=T:=⟨_,rfl⟩
 rw [hT] at HRU ⊢
 clear hm hk hT
 obtain ⟨wa,bx,hwa,hbx,hXa,hza,hba⟩:=newBox w (.cells #[.int .i64 p.1,.slice a m c] 30)
 obtain ⟨w0,B,hw0,hB,hA0,hz0,hb0⟩:=newBox wa (.cells #[.int .i64 0,.slice none 0 0] 30)
 have hX0:w0.heap[bx]?=_:=(hb0.block bx hza).trans hXa
 have bt0:=hba.trans (hb0.mono hba.size)
 have HWA:=Lib.hid hwa
 have HBX:=Lib.hid hbx
 have HW0:=Lib.hid hw0
 have HBB:Hid (w.heap.size+1=B):=by rw [Hid,←hB,←hwa];simp
 have h0:=h.below bt0
 have q0:=box_cell hX0 0
 have q1:=box_cell hX0 1
 have HT:Hid (∀ W,Below w0.heap.size w0 W→W.cell? ⟨bx,0,none⟩=some (.int .i64 p.1)∧W.cell? ⟨bx,1,none⟩=some (.slice a m c)∧W.heap[B]?=some (.cells #[.int .i64 0,.slice none 0 0] 30 (0,0))∧Below w.heap.size w W∧Rd2 W (.slice a m c) p.2):=fun W hW=>by
  have hX:=(hW.block bx (box_lt hX0)).trans hX0
  exact ⟨box_cell hX 0,box_cell hX 1,(hW.block B hz0).trans hA0,bt0.trans (hW.mono bt0.size),h0.below hW⟩
 clear hwa hbx hw0 hB hXa hza hba hb0
 go_enter Tryz.func39,Tryz.ntmps39
 go_upto_region 1 with (fail)
 rw [HWA.out,HW0.out,HBB.out,HBX.out]
 go_upto_region 3 with (go_at_call 40;refine (HNK.out _ h0).mono ?_;rintro e w1 ⟨rfl,b1⟩;obtain ⟨k0,k1,-,-,h1⟩:=HT.out _ b1)
 go_upto_region 4 with (go_at_call 98;refine (HOW.out _ h1).mono ?_;rintro e w2 ⟨a2,m2,c2,rfl,o2,b2⟩)
 obtain ⟨w3,g,hw3,hg3,hG3,hz3,hb3⟩:=newBox w2 (.cells #[.int .i64 p.1,.slice a2 m2 c2] 97)
 have HW3:=Lib.hid hw3
 have HG3:=Lib.hid hg3
 rw [HW3.out,HG3.out]
 have b12:=b1.trans (b2.mono b1.size)
 have b13:=b12.trans (hb3.mono b12.size)
 obtain ⟨-,-,hA3,be3,-⟩:=HT.out _ b13
 have hcon:Con w3 g p:=⟨a2,m2,c2,hG3,(o2.mono (Nat.zero_le _)).below hb3⟩
 have hwg:w.heap.size≤g:=by have:=(HT.out _ b12).2.2.2.1.size;omega
 have htg:TabG w3 g:=⟨w,ht,be3,hwg⟩
 have hBg:B < g:=by have:=box_lt (HT.out _ b12).2.2.1;omega
 clear hw3 hg3 k0 k1 h1 q0 q1
 go_upto_region 5 with (go_at_call 99;refine (HRU.out g _ hcon htg).mono ?_;rintro e w4 ⟨rfl,⟨a4,m4,c4,hG4,r4⟩,g4⟩)
 have hA4:w4.heap[B]?=_:=(g4.block B (box_lt hA3) (fun e=>by injection e;omega)).trans hA3
 have be4:Below w.heap.size w w4:=be3.grown g4 be3.size (fun r hr=>by cases hr;exact hwg)
 have s0:=box_cell hG4 0
 have s1:=box_cell hG4 1
 obtain ⟨c0,c1,f0,f1,r0,r1',bz⟩:=boxSet (x:=.int .i64 R.1.1) (y:=.slice a4 m4 c4) hA4 (by have:=HBB.out;omega) be4
 have rz:OwnP ((w4.setCell ⟨B,0,none⟩ (.int .i64 R.1.1)).setCell ⟨B,1,none⟩ (.slice a4 m4 c4)) 0 (.slice a4 m4 c4) R.1.2:=by
  exact ((r4.setBox (q:=B) (o:=0) hA4 (by decide) (by decide) _).setBox (q:=B) (o:=1) (heap_setCell_same w4 B 0 _ _ _ hA4) (by decide) (by decide) _)
 go_wp2_with fail
 exact bodyPost_ret (v:=.tuple #[.agg #[.int .i64 R.1.1,.slice a4 m4 c4],.string (bstr R.2),.bool true]) (by simp [results,Tryz.results39,go_sem,r0,r1']) rfl ⟨_,_,_,rfl,rz,bz⟩
def RetRL0 (w:World) (e:Ending) (w':World):Prop:=∃ (a:Option Addr) (m c:Nat) (S:ByteArray),e=.returned (.tuple #[.agg #[.int .i64 0,.slice a m c],.string S,.bool false])∧Below w.heap.size w w'
theorem netOk_zero:netOk 0 []=false:=by decide
theorem i_RunLine0 (T:ByteArray) (w:World):Calls Tryz.prog 39 #[.agg #[.int .i64 0,.slice none 0 0],.string T] w (RetRL0 w):=by
 have HNK:=Lib.hid (fun (W:World)=>netOk_zero ▸ i_NetworkOk 0 _ [] W (Rd2.nil W) (by unfold I64;omega))
 have HOW:=Lib.hid (fun (W:World)=>i_own 0 _ [] W (Rd2.nil W) (by simp) (fun xs hx=>by cases hx))
 obtain ⟨wa,bx,hwa,hbx,hXa,hza,hba⟩:=newBox w (.cells #[.int .i64 0,.slice none 0 0] 30)
 obtain ⟨w0,B,hw0,hB,hA0,hz0,hb0⟩:=newBox wa (.cells #[.int .i64 0,.slice none 0 0] 30)
 have hX0:w0.heap[bx]?=_:=(hb0.block bx hza).trans hXa
 have bt0:=hba.trans (hb0.mono hba.size)
 have HWA:=Lib.hid hwa
 have HBX:=Lib.hid hbx
 have HW0:=Lib.hid hw0
 have HBB:Hid (w.heap.size+1=B):=by rw [Hid,←hB,←hwa];simp
 have q0:=box_cell hX0 0
 have q1:=box_cell hX0 1
 have HT:Hid (∀ W,Below w0.heap.size w0 W→W.cell? ⟨bx,0,none⟩=some (.int .i64 0)∧W.cell? ⟨bx,1,none⟩=some (.slice none 0 0)∧W.heap[B]?=some (.cells #[.int .i64 0,.slice none 0 0] 30 (0,0))∧Below w.heap.size w W):=fun W hW=>by
  have hX:=(hW.block bx (box_lt hX0)).trans hX0
  exact ⟨box_cell hX 0,box_cell hX 1,(hW.block B hz0).trans hA0,bt0.trans (hW.mono bt0.size)⟩
 clear hwa hbx hw0 hB hXa hza hba hb0
 go_enter Tryz.func39,Tryz.ntmps39
 go_upto_region 1 with (fail)
 rw [HWA.out,HW0.out,HBB.out,HBX.out]
 go_upto_region 2 with (go_at_call 40;refine (HNK.out _).mono ?_;rintro e w1 ⟨rfl,b1⟩;obtain ⟨k0,k1,-,-⟩:=HT.out _ b1)
 clear q0 q1
 go_wp2_with (go_at_call 98;refine (HOW.out _).mono ?_;rintro e w2 ⟨a2,m2,c2,rfl,o2,b2⟩
              have b12:=b1.trans (b2.mono b1.size)
              obtain ⟨-,-,hA3,be3⟩:=HT.out _ b12
              obtain ⟨c0,c1,f0,f1,r0,r1,bz⟩:=boxSet (x:=.int .i64 0) (y:=.slice a2 m2 c2) hA3 (by have:=HBB.out;omega) be3)
 exact bodyPost_ret (v:=.tuple #[.agg #[.int .i64 0,.slice a2 m2 c2],.string ⟨#[]⟩,.bool false]) (by simp [results,Tryz.results39,go_sem,r0,r1]) rfl ⟨_,_,_,_,rfl,bz⟩
def skipB:List UInt8→Bool
 | []=>true
 | c :: _=>decide (c=35)
def sesK (bareM:NetV→List UInt8→NetV × List UInt8) (ls:List (List UInt8)):Nat→NetV × List UInt8
 | 0=>(((4:Int),con0),[])
 | k+1=>if skipB (ls.getD k []) then sesK bareM ls k else ((lineM bareM (sesK bareM ls k).1 (ls.getD k [])).1,(sesK bareM ls k).2++(lineM bareM (sesK bareM ls k).1 (ls.getD k [])).2++[10])
theorem i_RunSession {bareM:NetV→List UInt8→NetV × List UInt8} (HB0:BareOk bareM) (t:List UInt8) (ls:List (List UInt8)) (n:Nat) (w:World) (hls:splitR 10 t=ls) (htl:t.length≤100000) (hn:min ls.length 40=n) (ht:TabE w)
 (HG0:∀ k,k < n→(ls.getD k []).length≤10000∧netOk (sesK bareM ls k).1.1 (sesK bareM ls k).1.2=true∧(sesK bareM ls k).1.2.length≤60∧(lineM bareM (sesK bareM ls k).1 (ls.getD k [])).2.length≤100000) :
 Calls Tryz.prog 42 #[.string (bstr t)] w (RetB (.tuple #[.string (bstr (sesK bareM ls n).2),.int .i64 (n:Int)]) w):=by
 have HG:=Lib.hid HG0
 have HSP:=Lib.hid (fun (W:World) (hW:TabE W)=>f_Split (bstr t) (by rw [bstr_size];omega) 10 W hW)
 rw [show (bstr t).data.toList=t by simp [bstr],hls] at HSP
 have HRU:=Lib.hid (fun (g k:Nat) (W:World) (hk:k < n) (h1:Con W g (sesK bareM ls k).1) (h2:TabG W g)=>i_run HB0 g (sesK bareM ls k).1 (ls.getD k []) W h1 (HG0 k hk).2.1 (HG0 k hk).2.2.1 (HG0 k hk).1 h2)
 have HNC:=Lib.hid (i_NewConsole w)
 obtain ⟨n0,hn0⟩:∃ n0,ls.length=n0:=⟨_,rfl⟩
 have HN0:=Lib.hid hn0
 rw [hn0] at hn
 have hn40:n≤40:=by omega
 have hnn:n≤n0:=by omega
 have HMN:Hid (min n0 40=n):=hn
 obtain ⟨T,hT⟩:∃ T,bstr t=T:=⟨_,rfl⟩
 rw [hT] at HSP ⊢
 clear HG0 hls hn0 hn hT
 go_enter Tryz.func42,Tryz.ntmps42
 go_upto_region 2 with (go_at_call 38;refine HNC.out.mono ?_;rintro e w1 ⟨v1,rfl,o1,b1⟩;have oc:=OwnP.of_own2 o1;obtain ⟨a1,m1,c1,rfl,HM1,_,_⟩:=oc.formN)
 obtain ⟨w2,g,hw2,hg2,hG2,hz2,hb2⟩:=newBox w1 (.cells #[.int .i64 4,.slice a1 m1 c1] 97)
 have HW2:=Lib.hid hw2
 have HG2:=Lib.hid hg2
 rw [HW2.out,HG2.out]
 have b02:=b1.trans (hb2.mono b1.size)
 have hcon:Con w2 g (sesK bareM ls 0).1:=⟨a1,m1,c1,hG2,(oc.mono (Nat.zero_le _)).below hb2⟩
 have hwg:w.heap.size≤g:=by have:=b1.size;omega
 have htg:TabG w2 g:=⟨w,ht,b02,hwg⟩
 clear hw2 hg2 oc o1 hG2 HNC
 go_upto_region 4 with (go_at_call 47;refine (HSP.out _ htg.tab).mono ?_;rintro e w3 ⟨v3,rfl,o3,b3⟩;obtain ⟨a3,m3,c3,rfl,HM3,hmc3,hc9⟩:=o3.rd.formS;obtain rfl:m3=n0:=HM3.out.trans HN0.out)
 have k3:=hcon.below b3
 have t3:=htg.below b3
 have b03:=b02.trans (b3.mono b02.size)
 have o3':=o3.mono (B':=g+1) (by omega)
 clear hcon htg o3 b3 HSP
 have hmn:(min (m3:Int) 40).toNat=n:=by have:=HMN.out;omega
 go_upto_region 5 with (fail)
 clear hmn
 have h3r:=(o3'.rd.take (k:=n) (by have:=HMN.out;omega))
 obtain ⟨S0,hS0⟩:∃ S0,(⟨#[]⟩:ByteArray)=S0:=⟨_,rfl⟩
 have HS0:Hid (S0=bstr (sesK bareM ls 0).2):=by rw [Hid,←hS0];rfl
 have HSZ:Hid (∀ k,k < n→(ls.getD k []).length≤10000):=fun k hk=>(HG.out k hk).1
 have HAZ:Hid (∀ k,k≤n→(sesK bareM ls k).2.length≤100001 * k):=by
  intro k
  induction k with
  | zero=>intro _;simp [sesK]
  | succ k ih =>
    intro hk
    have i1:=ih (by omega)
    have i2:=(HG.out k (by omega)).2.2.2
    rw [sesK]
    split
    · omega
    · simp only [List.length_append,List.length_cons,List.length_nil];omega
 have HNL:Hid (n≤ls.length):=by have h1:=HMN.out;have h2:=HM3.out;have h3:=HN0.out;rw [Hid];omega
 go_wp2_with fail
 go_loopg [5,21] n (fun gq vs iv wr=>∃ (k:Nat) (S:ByteArray),gq=n - k∧k≤n∧iv=.int .i64 (k:Int)∧vs=.string S∧Hid (S=bstr (sesK bareM ls k).2)∧Con wr g (sesK bareM ls k).1∧w3.grownBy wr (some g))
 case atStart=>exact ⟨0,S0,rfl,Nat.zero_le _,rfl,by rw [←hS0],HS0,k3,gb_of (Below.refl _ _)⟩
 case round =>
  clear HS0 k3 hS0
  obtain ⟨k,S,hgq,hk,rfl,rfl,HS,hc,hg⟩:=hrel
  have ht':=t3.grown hg
  have h3g:Rd wr (.slice a3 n c3) ((strs ls).take n):=(o3'.apart hg (fun k h1 h2=>by injection h2 with h2;subst h2;have:=(o3'.lt _ h1).1;omega)).rd.take (k:=n) (by have:=HMN.out;omega)
  by_cases hlt:k < n
  · have i0:(k:Int) < (n:Int):=by omega
    rw [show (strs ls).take n=strs (ls.take n) from by simp [strs,List.map_take]] at h3g
    obtain ⟨ad,x,rfl,hcx,hx⟩:=h3g.text (k:=k) (by rw [List.length_take];have:=HNL.out;omega)
    have hxl:ls[k]?=some x:=by have:=hx.out;rwa [List.getElem?_take_of_lt hlt] at this
    have hgd:ls.getD k []=x:=by rw [List.getD_eq_getElem?_getD,hxl];rfl
    have hSs:S.size≤4000040:=by have:=HAZ.out k hk;rw [HS.out,bstr_size];omega
    obtain ⟨X,hX⟩:∃ X,bstr x=X:=⟨_,rfl⟩
    rw [hX] at hcx
    by_cases hxe:x=[]
    · have HSK:Hid (sesK bareM ls (k+1)=sesK bareM ls k):=by rw [Hid,sesK,hgd,hxe];rfl
      have x1:(!X.toList.isEmpty)=false:=by rw [←hX,toLc,hxe];rfl
      have x2:X.toList=[]:=by rw [←hX,toLc,hxe]
      clear hX hxe hgd hxl hx
      go_wp2_with fail
      go_roundg (n - (k+1))
      case measure=>omega
      case rel=>exact ⟨k+1,S,rfl,by omega,by go_num,rfl,by rw [HSK.out];exact HS,by rw [HSK.out];exact hc,hg⟩
    · obtain ⟨c,r,rfl⟩:∃ c r,x=c :: r:=List.exists_cons_of_ne_nil hxe
      have x1:(!X.toList.isEmpty)=true:=by rw [←hX,toLc];rfl
      have x2:¬ X.toList=[]:=by rw [←hX,toLc];simp
      have x3:0 < X.size:=by rw [←hX,bstr_size];simp
      by_cases hc35:c=35
      · have HSK:Hid (sesK bareM ls (k+1)=sesK bareM ls k):=by rw [Hid,sesK,hgd,hc35];rfl
        have x5:X[0]=c:=by subst hX;rfl
        have x4:((X[0].toNat:Int) != 35)=false:=by rw [x5,hc35];rfl
        clear hX hxe hgd hxl hx x5
        go_wp2_with fail
        go_roundg (n - (k+1))
        case measure=>omega
        case rel=>exact ⟨k+1,S,rfl,by omega,by go_num,rfl,by rw [HSK.out];exact HS,by rw [HSK.out];exact hc,hg⟩
      · have HSK:Hid (sesK bareM ls (k+1)=((lineM bareM (sesK bareM ls k).1 (ls.getD k [])).1,(sesK bareM ls k).2++(lineM bareM (sesK bareM ls k).1 (ls.getD k [])).2++[10])):=by rw [Hid,sesK,if_neg (by rw [hgd];simp [skipB,hc35])]
        have x5:X[0]=c:=by subst hX;rfl
        have x4:((X[0].toNat:Int) != 35)=true:=by
         rw [x5,bne_iff_ne]
         intro e
         exact hc35 (by apply UInt8.toNat_inj.1;rw [show (35:UInt8).toNat=35 from rfl];omega)
        have HCC:=Lib.hid (HRU.out g k wr hlt hc ht')
        have hRl:=(HG.out k hlt).2.2.2
        generalize hR:lineM bareM (sesK bareM ls k).1 (ls.getD k [])=R at *
        rw [hgd,hX] at HCC
        clear hX hxe hgd hxl hx hR x5
        obtain ⟨A,hA⟩:∃ A,bstr R.2=A:=⟨_,rfl⟩
        have hAs:A.size≤100000:=by rw [←hA,bstr_size];exact hRl
        have HST:Hid (S++(A++(⟨#[10]⟩:ByteArray))=bstr ((sesK bareM ls k).2++R.2++[10])):=by
         rw [Hid,HS.out,←hA]
         show bstr _++(bstr _++bstr [10])=_
         rw [bstr_app,bstr_app,List.append_assoc]
        have l1:¬ 9223372036854775807 < A.size+1:=by omega
        have l2:¬ 9223372036854775807 < S.size+(A.size+1):=by omega
        go_wp2_with (go_at_call 99;refine HCC.out.mono ?_;rintro e w5 ⟨rfl,k5,g5⟩;rw [hA])
        go_roundg (n - (k+1))
        case measure=>omega
        case rel=>exact ⟨k+1,_,rfl,by omega,by go_num,rfl,by rw [HSK.out];exact HST,by rw [HSK.out];exact k5,gb_trC hg g5⟩
  · have hkn:k=n:=by omega
    subst hkn
    go_wp2_with fail
    exact bodyPost_ret (v:=.tuple #[.string S,.int .i64 (k:Int)]) (by simp [results,Tryz.results42,go_sem]) rfl ⟨by rw [HS.out],b03.grown hg b03.size (fun r hr=>by cases hr;exact hwg)⟩
end Go.Proofs.YtggblfnajeikjaaGreatDoor
