/- Joined texts of the proof: Fmt, Strs. -/
import Derived.Lib.ItoaNum
import Derived.Deep.LoopGhost
import Derived.Deep.RegionHeld3
import Derived.Deep.RegionWith
import Derived.IntWalk
import Derived.Lib.Join
import Derived.Test.YtggblfnajeikjaaGreatDoorJ5
namespace Go.Proofs.YtggblfnajeikjaaGreatDoor
open Go.RowKit
set_option linter.unusedVariables false
set_option linter.unusedSimpArgs false
set_option maxRecDepth 100000
set_option maxHeartbeats 16000000
def str (l:List UInt8):Value:=.string ⟨l.toArray⟩
theorem str_app (a b:List UInt8):(⟨a.toArray⟩:ByteArray)++⟨b.toArray⟩=⟨(a++b).toArray⟩:=by
 apply ByteArray.ext
 simp
theorem run_one (w:World) (x:Nat) (hx:x≤255) (v:Int) (hv:v=(x:Int)):(convert 22 9 (.slice (some ⟨w.heap.size,0,none⟩) 1 1)).run Tryz.prog (w.alloc (.cells #[.int .u8 v] 5))=.ok (.string ⟨[UInt8.ofNat x].toArray⟩) (w.alloc (.cells #[.int .u8 v] 5)):=by
 subst hv
 have e:x % 256=x:=Nat.mod_eq_of_lt (by omega)
 refine run_convert_bytes_back (P:=Tryz.prog) (w.alloc (.cells #[.int .u8 (x:Int)] 5)) 22 9 5 ⟨w.heap.size,0,none⟩ 1 [UInt8.ofNat x] Tryz.underlying22 Tryz.underlying5 Tryz.underlying9 fun j hj=>?_
 obtain rfl:j=0:=by simp at hj;exact hj
 simp [Addr.add,e]
theorem decDigits_len:∀ k u,u < 10 ^ (k+1)→(Lib.decDigits u).length≤k+1
 | 0,u,h=>by
   rw [Lib.decDigits,dif_pos (by simpa using h)]
   simp
 | k+1,u,h=>by
   rw [Lib.decDigits]
   split
   · simp
   · have:=decDigits_len k (u / 10) (by rw [Nat.div_lt_iff_lt_mul (by omega)];rw [Nat.pow_succ] at h;omega)
     simp
     omega
theorem decDigits_19 {n:Nat} (hn:n≤9223372036854775808):(Lib.decDigits n).length≤19:=decDigits_len 18 n (by
 have : (10:Nat) ^ (18+1)=10000000000000000000:=by decide
 omega)
theorem decDigits_pos (n:Nat):1≤(Lib.decDigits n).length:=by
 rw [Lib.decDigits]
 split <;> simp
theorem decDigits_big {u:Nat} (h:9 < u):Lib.decDigits u=Lib.decDigits (u / 10)++[UInt8.ofNat (48+u % 10)]:=by
 rw [Lib.decDigits,dif_neg (by omega)]
theorem decDigits_small {u:Nat} (h:¬ 9 < u):Lib.decDigits u=[UInt8.ofNat (48+u)]:=by
 rw [Lib.decDigits,dif_pos (by omega)]
theorem byte_add (x:Nat):(48:UInt8)+UInt8.ofNat x=UInt8.ofNat (48+x):=by
 rw [UInt8.ofNat_add];rfl
theorem s_FormatInt0 (n:Nat) (hn:n≤9223372036854775807) (w:World):Calls Tryz.prog 153 #[.int .i64 n] w (RetB (str (Lib.decDigits n)) w):=by
 have HN9:=Lib.hid (decDigits_19 (n:=n) (by omega))
 go_enter Tryz.func153,Tryz.ntmps153
 go_wp2
 go_loopg [0,3] n (fun gq vn vs wr=>∃ (u:Nat) (l:List UInt8),gq=u∧u≤n∧vn=.int .i64 (u:Int)∧vs=.string ⟨l.toArray⟩∧Hid (Lib.decDigits u++l=Lib.decDigits n)∧Below w.heap.size w wr)
 case atStart=>exact ⟨n,[],rfl,Nat.le_refl _,rfl,rfl,by simp [Hid],Below.refl _ _⟩
 case round =>
  obtain ⟨u,l,hg,hu,rfl,rfl,HD,hb⟩:=hrel
  have hl:l.length≤19:=by
   have h1:=congrArg List.length HD.out
   rw [List.length_append] at h1
   have:=HN9.out
   omega
  by_cases h9:9 < u
  · have i0:(u:Int) > 9:=by omega
    have hcv:=run_one wr (48+u % 10) (by omega) (48+(u:Int) % 10) (by omega)
    have HD2:Hid (Lib.decDigits (u / 10)++(UInt8.ofNat (48+u % 10) :: l)=Lib.decDigits n):=by
     rw [Hid,←HD.out,decDigits_big h9];simp
    go_wp2
    go_roundg (u / 10)
    case measure=>omega
    case rel=>exact ⟨u / 10,_,rfl,by omega,by go_num,by rw [byte_add];exact congrArg Value.string (str_app [_] l),HD2,hb.alloc hb.size _⟩
  · have i0:¬ (u:Int) > 9:=by omega
    have hcv:=run_one wr (48+u) (by omega) (48+(u:Int)) (by omega)
    have HD2:Hid (UInt8.ofNat (48+u) :: l=Lib.decDigits n):=by
     rw [Hid,←HD.out,decDigits_small h9];rfl
    go_wp2
    go_ret
    exact ⟨by rw [byte_add,←HD2.out];exact congrArg (fun s=>Ending.returned (.string s)) (str_app [_] l),hb.alloc hb.size _⟩
theorem run_oneA (W:World) (a:Addr) (x:Nat) (hx:x≤255) (v:Int) (hv:v=(x:Int)) (hc:W.cell? a=some (.int .u8 v)):(convert 22 9 (.slice (some a) 1 1)).run Tryz.prog W=.ok (.string ⟨[UInt8.ofNat x].toArray⟩) W:=by
 subst hv
 have e:x % 256=x:=Nat.mod_eq_of_lt (by omega)
 refine run_convert_bytes_back (P:=Tryz.prog) W 22 9 5 a 1 [UInt8.ofNat x] Tryz.underlying22 Tryz.underlying5 Tryz.underlying9 fun j hj=>?_
 obtain rfl:j=0:=by simp at hj;exact hj
 simpa [Addr.add,e] using hc
theorem cell_kept {w w5:World} {v:Value} {E:Nat} (hb:Below (w.alloc (.cells #[v] E)).drew.heap.size (w.alloc (.cells #[v] E)).drew w5):w5.cell? ⟨w.heap.size,0,none⟩=some v:=by
 refine (hb.cell (p:=⟨w.heap.size,0,none⟩) (by simp)).trans ?_
 simp
theorem s_FormatIntN:∀ (f:Nat) (m:Nat) (x:Int) (w:World),m≤f→1≤m→m≤9223372036854775808→x = -(m:Int)→Calls Tryz.prog 153 #[.int .i64 x] w (RetB (str (45 :: Lib.decDigits m)) w)
 | 0,m,x,w,h,h1,_,_=>by omega
 | f+1,m,x,w,h,h1,h2,hx=>by
   have hx0:x < 0:=by omega
   have ht:x.tdiv 10 = -((m / 10:Nat):Int):=by rw [hx,Int.neg_tdiv];rfl
   have hm:x.tmod 10 = -((m % 10:Nat):Int):=by rw [hx,Int.neg_tmod];rfl
   have hlo : -9223372036854775808≤x:=by omega
   by_cases h9:m / 10=0
   · have hm9:¬ 9 < m:=by omega
     have HD:Hid ((45:UInt8) :: Lib.decDigits m=[45]++[UInt8.ofNat (48+m)]):=by rw [Hid,decDigits_small hm9];rfl
     have hq:x.tdiv 10=0:=by rw [ht,h9];rfl
     have hcv:=run_one w (48+m) (by omega) (48 - x) (by omega)
     have hxb : -10 < x:=by omega
     rw [HD.out]
     clear hm ht hx h9
     go_enter Tryz.func153,Tryz.ntmps153
     go_wp2
     go_ret
     exact ⟨by rw [byte_add];exact congrArg (fun s=>Ending.returned (.string s)) (str_app [_] [_]),(Below.refl _ _).alloc (Nat.le_refl _) _⟩
   · have hm9:9 < m:=by omega
     obtain ⟨y,hy⟩:∃ y,x.tdiv 10=y:=⟨_,rfl⟩
     obtain ⟨r,hr⟩:∃ r,x.tmod 10=r:=⟨_,rfl⟩
     have hy0:y≠0:=by omega
     have hyb : -922337203685477580≤y∧y < 0:=by omega
     have hrb : -9≤r∧r≤0:=by omega
     have ih:=Lib.hid (fun wx=>s_FormatIntN f (m / 10) y wx (by omega) (by omega) (by omega) (by omega))
     have HD:Hid ((45:UInt8) :: Lib.decDigits m=(45 :: Lib.decDigits (m / 10))++[UInt8.ofNat (48+m % 10)]):=by rw [Hid,decDigits_big hm9];rfl
     obtain ⟨S,hS⟩:∃ S:ByteArray,S=⟨((45:UInt8) :: Lib.decDigits (m / 10)).toArray⟩:=⟨_,rfl⟩
     have hSz:S.size≤20:=by
      have h1:=decDigits_19 (n:=m / 10) (by omega)
      rw [hS]
      show ((45:UInt8) :: Lib.decDigits (m / 10)).toArray.size≤20
      simp
      omega
     have HSTR:Hid (str ((45:UInt8) :: Lib.decDigits (m / 10))=.string S):=by rw [Hid,hS];rfl
     have HS:=Lib.hid hS
     clear hS
     have HCV:=fun (W:World) (a:Addr) (hc:W.cell? a=some (.int .u8 (48 - r)))=>run_oneA W a (48+m % 10) (by omega) (48 - r) (by omega) hc
     have hwr:IntKind.i64.wrap (48 - r)=48 - r:=IntWalk.i64_in _ (by omega)
     have hw8:IntKind.u8.wrap (48 - r)=48 - r:=by unfold IntKind.wrap;simp [IntKind.signed,IntKind.bits];omega
     have hwy:IntKind.i64.wrap y=y:=IntWalk.i64_in _ (by omega)
     have hwr2:IntKind.i64.wrap r=r:=IntWalk.i64_in _ (by omega)
     have b0:(y == 0)=false:=by simp;omega
     have b1:decide (y=0)=false:=by simp;omega
     rw [HD.out]
     clear hm ht hx h9
     go_enter Tryz.func153,Tryz.ntmps153
     go_wp2_with fail
     go_region_with ((first
      | (go_at_call 153;(refine (ih.out _).mono ?_);rintro e w5 ⟨rfl,hb5⟩;rw [HSTR.out];(first | have hc5:=cell_kept hb5 | skip);have hb6:Below w.heap.size w w5:=(by exact ⟨hb5.os,hb5.tape,hb5.output,by have:=hb5.size;simp at this;omega,fun k hk=>by first | exact hb5.block k hk | exact (hb5.block k (by simp;omega)).trans (Below.heap_alloc _ _ k hk)⟩))))
     all_goals
      go_wp2_with fail
      go_ret
      refine ⟨?_,?_⟩
      · rw [byte_add,HS.out]
        exact congrArg (fun s=>Ending.returned (.string s)) (str_app (_ :: _) [_])
      · first
         | exact hb6
         | exact hb6.alloc hb6.size _
theorem S_FormatInt (w:World) (n:Int) (h:I64 n):Calls Tryz.prog 153 #[.int .i64 n] w (RetB (str (Lib.itoa n)) w):=by
 unfold I64 at h
 by_cases h0:n < 0
 · have:=s_FormatIntN n.natAbs n.natAbs n w (Nat.le_refl _) (by omega) (by omega) (by omega)
   rw [Lib.itoa,if_pos h0]
   exact this
 · have:=s_FormatInt0 n.toNat (by omega) w
   rw [Int.toNat_of_nonneg (by omega)] at this
   rw [Lib.itoa,if_neg h0]
   exact this
theorem itoa_len {n:Int} (h:I64 n):1≤(Lib.itoa n).length∧(Lib.itoa n).length≤20:=by
 unfold I64 at h
 unfold Lib.itoa
 have h1:=decDigits_19 (n:=n.natAbs) (by omega)
 have h2:=decDigits_19 (n:=n.toNat) (by omega)
 have h3:=decDigits_pos n.toNat
 split
 · simp;omega
 · omega
def bstr (l:List UInt8):ByteArray:=⟨l.toArray⟩
theorem bstr_size (l:List UInt8):(bstr l).size=l.length:=by show l.toArray.size=_;simp
theorem bstr_app (a b:List UInt8):bstr a++bstr b=bstr (a++b):=by
 apply ByteArray.ext
 simp [bstr]
def strs (ls:List (List UInt8)):List Value:=ls.map fun l=>Value.string (bstr l)
theorem strs_length (ls:List (List UInt8)):(strs ls).length=ls.length:=by simp [strs]
theorem strs_append (a b:List (List UInt8)):strs (a++b)=strs a++strs b:=by simp [strs]
theorem strs_get {ls:List (List UInt8)} {k:Nat} {x:List UInt8} (h:ls[k]?=some x):(strs ls)[k]?=some (.string (bstr x)):=by simp [strs,h]
theorem Rd.formS {w:World} {v:Value} {ls:List (List UInt8)} (h:Rd w v (strs ls)):∃ (a:Option Addr) (m c:Nat),v=.slice a m c∧Hid (m=ls.length)∧m≤c∧c≤9223372036854775807:=by
 obtain ⟨a,c,h1,h2,h3⟩:=h.form
 exact ⟨a,_,c,h1,strs_length ls,h2,h3⟩
theorem Rd.text {w:World} {a:Option Addr} {n c k:Nat} {ls:List (List UInt8)} (h:Rd w (.slice a n c) (strs ls)) (hk:k < ls.length):∃ ad x,a=some ad∧w.cell? (ad.add k)=some (.string (bstr x))∧Hid (ls[k]?=some x):=by
 obtain ⟨ad,h1,h2⟩:=h.cell (k:=k) (by simpa [strs] using hk)
 refine ⟨ad,ls[k],h1,by rw [h2];simp [strs],List.getElem?_eq_getElem hk⟩
def joinK (sep:List UInt8) (ls:List (List UInt8)):Nat→List UInt8
 | 0=>[]
 | k+1=>joinK sep ls k++(if 0 < k then sep else [])++ls.getD k []
theorem joinK_cons (sep x:List UInt8) (ls:List (List UInt8)):∀ k,joinK sep (x :: ls) (k+1)=x++(if 0 < k then sep else [])++joinK sep ls k
 | 0=>by simp [joinK]
 | k+1=>by
   have ih:=joinK_cons sep x ls k
   rw [joinK,ih]
   cases k with
   | zero=>simp [joinK]
   | succ k =>
     rw [show joinK sep ls (k+1+1)=joinK sep ls (k+1)++(if 0 < k+1 then sep else [])++ls.getD (k+1) [] from rfl]
     simp [List.append_assoc]
theorem join_joinK (sep:List UInt8):∀ ls:List (List UInt8),Lib.join ls sep=joinK sep ls ls.length
 | []=>rfl
 | [x]=>by simp [Lib.join,List.intercalate,joinK]
 | x :: y :: r=>by
   have ih:=join_joinK sep (y :: r)
   rw [List.length_cons,joinK_cons,←ih]
   simp [Lib.join,List.intercalate]
theorem elS:ElemOk Tryz.prog 50 9 16 (.string ByteArray.empty):=by
 obtain ⟨i,hi,h0,h1,h2⟩:=info_parts (show (Tryz.prog.info? 9).map (fun i=>(i.zero,i.size,i.bytes))=some (some (.string ByteArray.empty),1,16) by kernel_rfl)
 exact ⟨i,Tryz.underlying50,hi,h0,h1,h2,rfl⟩
theorem s_Join (v:Value) (ls:List (List UInt8)) (sep:List UInt8) (w:World) (h:Rd w v (strs ls)) (hl:ls.length≤1000000) (hx:∀ x∈ls,x.length≤1000) (hs:sep.length≤100) :
 Calls Tryz.prog 192 #[v,.string (bstr sep)] w fun e w'=>e=.returned (.string (bstr (joinK sep ls ls.length)))∧w=w':=by
 obtain ⟨a,n,c,rfl,HN,hnc,hc⟩:=h.formS
 have hn:n≤1000000:=by have:=HN.out;omega
 have HX:=Lib.hid hx
 obtain ⟨SP,hSP⟩:∃ SP,bstr sep=SP:=⟨_,rfl⟩
 have hspz:SP.size≤100:=by rw [←hSP,bstr_size];exact hs
 have HSP:=Lib.hid hSP
 rw [hSP,←HN.out]
 clear hSP hx
 go_enter Tryz.func192,Tryz.ntmps192
 go_wp2
 go_loop [5,6,7,10] (fun vs _ _ vi=>∃ (k:Nat) (S:ByteArray),k≤n∧vi=.int .i64 (k:Int)∧vs=.string S∧Hid (S=bstr (joinK sep ls k))∧S.size≤2000 * k) (fun _ _ _ vi=>n - (intOf vi).toNat)
 case atStart=>exact ⟨0,_,Nat.zero_le _,rfl,rfl,rfl,Nat.le_refl _⟩
 case round =>
  obtain ⟨k,S,hk,rfl,rfl,HS,hsz⟩:=hrel
  by_cases hlt:k < n
  · have i0:(k:Int) < (n:Int):=by omega
    obtain ⟨ad,x,rfl,hcx,hx⟩:=h.text (k:=k) (by have:=HN.out;omega)
    obtain ⟨X,hX⟩:∃ X,bstr x=X:=⟨_,rfl⟩
    have hXs:X.size≤1000:=by rw [←hX,bstr_size];exact HX.out x (List.mem_of_getElem? hx.out)
    rw [hX] at hcx
    have HST:Hid (S++(if 0 < k then SP else bstr [])++X=bstr (joinK sep ls (k+1))):=by
     have e:ls.getD k []=x:=by rw [List.getD_eq_getElem?_getD,hx.out];rfl
     rw [Hid,joinK,e,HS.out,←hX,←HSP.out]
     split <;> simp [bstr_app]
    clear hX
    by_cases h0:0 < k
    · rw [if_pos h0] at HST
      have i1:(k:Int) > 0:=by omega
      have hz1:(S++SP).size=S.size+SP.size:=ByteArray.size_append
      have hz2:(S++SP++X).size=S.size+SP.size+X.size:=by rw [ByteArray.size_append,hz1]
      have hb:(S++SP++X).size≤2000 * (k+1):=by omega
      have l1:¬ 9223372036854775807 < S.size+SP.size:=by omega
      have l2:¬ 9223372036854775807 < S.size+SP.size+X.size:=by omega
      clear hz1 hz2
      go_wp2
      go_round
      case rel=>exact ⟨k+1,_,by omega,by go_num,rfl,HST,hb⟩
      case measure=>simp [intOf];omega
    · obtain rfl:k=0:=by omega
      rw [if_neg h0] at HST
      have HST2:Hid (S++X=bstr (joinK sep ls (0+1))):=by
       rw [Hid,←HST.out,HS.out,joinK,bstr_app];rfl
      have hz2:(S++X).size=S.size+X.size:=ByteArray.size_append
      have hb:(S++X).size≤2000 * (0+1):=by omega
      have l2:¬ 9223372036854775807 < S.size+X.size:=by omega
      have hcx0:w.cell? ad=some (.string X):=by simpa [Addr.add] using hcx
      clear hz2 HST h0
      go_wp2
      go_round
      case rel=>exact ⟨0+1,_,by omega,by go_num,rfl,HST2,hb⟩
      case measure=>simp [intOf];omega
  · obtain rfl:k=n:=by omega
    go_wp2
    go_ret
    exact ⟨congrArg (fun s=>Ending.returned (.string s)) HS.out,rfl⟩
def numsB (xs:List Int):List UInt8:=if xs.length=0 then [45] else joinK [44] (xs.map Lib.itoa) xs.length
def fmtNums (xs:List Int):List UInt8:=if 60 < xs.length then [] else numsB xs
theorem S_FormatNumbers (w:World) (v:Value) (xs:List Int) (h:Rd w v (ints xs)) (fx:I64s xs) (_:xs.length≤1048576) :
 Calls Tryz.prog 156 #[v] w (RetB (.string (bstr (fmtNums xs))) w):=by
 obtain ⟨a,n,c,rfl,HN,hnc,hc⟩:=h.formN
 by_cases h60:n≤60
 case neg =>
  have hd:decide ((n:Int) > 60)=true:=by simp;omega
  have e:fmtNums xs=[]:=by rw [fmtNums,if_pos (by have:=HN.out;omega)]
  rw [e]
  go_enter Tryz.func156,Tryz.ntmps156
  go_wp2_with fail
  go_ret
  exact ⟨rfl,Below.refl _ _⟩
 have hd:decide ((n:Int) > 60)=false:=by simp;omega
 have HF:Hid (∀ (x:Int),I64 x→∀ W,Calls Tryz.prog 153 #[.int .i64 x] W (RetB (.string (bstr (Lib.itoa x))) W)):=fun x h1 W=>S_FormatInt W x h1
 have HFX:=Lib.hid fx
 have HE:Hid (fmtNums xs=if n=0 then [45] else joinK [44] (xs.map Lib.itoa) n):=by rw [Hid,fmtNums,if_neg (by have:=HN.out;omega),numsB,←HN.out]
 clear fx
 go_enter Tryz.func156,Tryz.ntmps156
 go_wp2_with fail
 go_loopw [3,5,12] (fun vl _ vi wr=>∃ k:Nat,k≤n∧vi=.int .i64 (k:Int)∧Own wr 9 w.heap.size vl (strs ((xs.map Lib.itoa).take k))∧Below w.heap.size w wr) (fun _ _ vi _=>n - (intOf vi).toNat)
 case atStart=>exact ⟨0,Nat.zero_le _,rfl,by simpa [strs,ints] using Own.lit0 w 9 (Nat.le_refl _),(Below.refl _ _).alloc (Nat.le_refl _) _⟩
 case round =>
  obtain ⟨k,hk,rfl,ho,hb⟩:=hrel
  obtain ⟨al,ml,cl,rfl,HML,_,_⟩:=ho.rd.formS
  have hml:ml=k:=by
   have h1:=HML.out
   have h2:=HN.out
   rw [List.length_take,List.length_map] at h1
   omega
  subst hml
  by_cases hlt:ml < n
  · have i0:(ml:Int) < (n:Int):=by omega
    obtain ⟨ad,x,rfl,hcx,hx⟩:=(h.below hb).int (k:=ml) (by have:=HN.out;omega)
    have HFx:=Lib.hid (HF.out x (HFX.out x (List.mem_of_getElem? hx.out)))
    have HSL:Hid ((strs ((xs.map Lib.itoa).take ml)).length=ml):=by rw [Hid,strs_length];exact HML.out.symm
    have HNX:Hid ((xs.map Lib.itoa).take (ml+1)=(xs.map Lib.itoa).take ml++[Lib.itoa x]):=take_snoc' (by rw [List.getElem?_map,hx.out];rfl)
    have hsz:=hb.size
    go_wp2_with (first
     | (go_at_call 153;refine (HFx.out _).mono ?_;rintro e w3 ⟨rfl,hb3⟩
        have ho3:=ho.below hb3
        have hbb:=hb.trans (hb3.mono hsz))
     | (at_builtin;refine wpList_app1m rfl _ _ 50 rfl elS rfl ho3 (by show Value.slice (some ⟨w3.heap.size,0,none⟩) 1 1=_;simp) rfl hbb.size _ HSL.out (by omega) (by omega) ?_;intro b6 c6 w6 ho6 hg6 hat6))
    have hb7:=hbb.grown hg6 hbb.size (fun r hr=>(ho3.lt r hr).1)
    go_roundw
    case rel=>exact ⟨ml+1,by omega,by go_num,by rw [HNX.out,strs_append];exact ho6,hb7⟩
    case measure=>simp [intOf];omega
  · obtain rfl:ml=n:=by omega
    have HTK:Hid ((xs.map Lib.itoa).take ml=xs.map Lib.itoa):=List.take_of_length_le (by have:=HN.out;simp;omega)
    rw [HTK.out] at ho
    have HJ:=Lib.hid (fun (W:World) (hW:Rd W (.slice al ml cl) (strs (xs.map Lib.itoa)))=>s_Join _ (xs.map Lib.itoa) [44] W hW (by have:=HN.out;simp;omega) (fun y hy=>by
     obtain ⟨x,hx,rfl⟩:=List.mem_map.1 hy
     have:=itoa_len (HFX.out x hx)
     omega) (by simp))
    rw [List.length_map,←HN.out] at HJ
    by_cases h0:ml=0
    · have e0:((ml:Int) == 0)=true:=by simp [h0]
      have HE2:Hid (fmtNums xs=[45]):=by rw [Hid,HE.out,if_pos h0]
      clear h0
      go_wp2_with fail
      go_ret
      exact ⟨by rw [HE2.out];rfl,hb⟩
    · have e0:((ml:Int) == 0)=false:=by simp [h0]
      have HE2:Hid (fmtNums xs=joinK [44] (xs.map Lib.itoa) ml):=by rw [Hid,HE.out,if_neg h0]
      clear h0
      go_wp2_with (go_at_call 192;refine (HJ.out _ ho.rd).mono ?_;rintro e w3 ⟨rfl,rfl⟩)
      go_ret
      exact ⟨by rw [HE2.out];rfl,hb⟩
end Go.Proofs.YtggblfnajeikjaaGreatDoor
