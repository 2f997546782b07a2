/- Joined texts of the proof: Bits, StackA, MergeA, StackB, DisA, DisB. -/
import Derived.Deep.LoopGhost
import Derived.Test.YtggblfnajeikjaaGreatDoorJ5
namespace Go.Proofs.YtggblfnajeikjaaGreatDoor
open Go.RowKit
set_option linter.unusedVariables false
set_option linter.unusedSimpArgs false
set_option maxRecDepth 100000
set_option maxHeartbeats 16000000
def bitsB (m:Nat):List Bool:=(List.range 8).map fun i=>m.testBit i
def onesN (m:Nat):Nat:=(bitsB m).countP fun b=>b
theorem f_OnesCount64 (m:Nat) (hm:m < 256) (w:World):Calls Tryz.prog 182 #[.int .u64 (m:Int)] w fun e w'=>e=.returned (.int .i64 (onesN m:Nat))∧w=w':=by
 go_enter Tryz.func182,Tryz.ntmps182
 go_wp2
 go_ret
 refine ⟨congrArg (fun z=>Ending.returned (Value.int .i64 z)) ?_,rfl⟩
 revert m
 decide +kernel
theorem f_OnesCount (m:Nat) (hm:m < 256) (w:World):Calls Tryz.prog 118 #[.int .u64 (m:Int)] w fun e w'=>e=.returned (.int .i64 (onesN m:Nat))∧w=w':=by
 have HK:=Lib.hid (f_OnesCount64 m hm w)
 go_enter Tryz.func118,Tryz.ntmps118
 go_wp2_with (go_at_call 182;refine HK.out.mono ?_;rintro e w' ⟨rfl,rfl⟩)
 go_ret
 exact ⟨rfl,rfl⟩
theorem i_ones (m:Nat) (hm:m < 256) (w:World):Calls Tryz.prog 65 #[.int .i64 (m:Int)] w fun e w'=>e=.returned (.int .i64 (onesN m:Nat))∧w=w':=by
 have HK:=Lib.hid (f_OnesCount m hm w)
 have e1:IntKind.u64.wrap (m:Int)=(m:Int):=by
  revert m;intro m hm _
  exact (by decide +kernel:∀ m:Nat,m < 256→IntKind.u64.wrap (m:Int)=(m:Int)) m hm
 go_enter Tryz.func65,Tryz.ntmps65
 go_wp2_with (go_at_call 118;refine HK.out.mono ?_;rintro e w' ⟨rfl,rfl⟩)
 go_ret
 exact ⟨rfl,rfl⟩
def stepN (m i k:Nat):Nat:=if m.testBit i && !m.testBit k then (m ^^^ (1 <<< i)) ^^^ (1 <<< k) else m
theorem bit_of:∀ m:Nat,m < 256→∀ i:Nat,i < 8→bits BinOp.and IntKind.i64 ((m:Int) / 2 ^ i) 1=(if m.testBit i then 1 else 0):=by decide +kernel
theorem xor_of:∀ m:Nat,m < 256→∀ i:Nat,i < 8→bits BinOp.xor IntKind.i64 (m:Int) (wrap64 (2 ^ i))=((m ^^^ (1 <<< i):Nat):Int)∧m ^^^ (1 <<< i) < 256:=by decide +kernel
theorem i_step (m i k:Nat) (hm:m < 256) (hi:i < 8) (hk:k < 8) (w:World):Calls Tryz.prog 124 #[.int .i64 (m:Int),.int .i64 (i:Int),.int .i64 (k:Int)] w fun e w'=>e=.returned (.int .i64 (stepN m i k:Nat))∧Dr w w':=by
 have b1:=bit_of m hm i hi
 have b2:=bit_of m hm k hk
 cases h1:m.testBit i
 · have HR:Hid (stepN m i k=m):=by rw [Hid,stepN,h1];rfl
   rw [h1] at b1
   have c1:bits BinOp.and IntKind.i64 ((m:Int) / 2 ^ i) 1=0:=b1
   clear b1 b2 h1
   go_enter Tryz.func124,Tryz.ntmps124
   go_wp2
   go_ret
   exact ⟨by rw [HR.out];rfl,Dr.refl _⟩
 · cases h2:m.testBit k
   · have HR:Hid (stepN m i k=(m ^^^ (1 <<< i)) ^^^ (1 <<< k)):=by rw [Hid,stepN,h1,h2];rfl
     rw [h1] at b1
     rw [h2] at b2
     have c1:bits BinOp.and IntKind.i64 ((m:Int) / 2 ^ i) 1=1:=b1
     have c2:bits BinOp.and IntKind.i64 ((m:Int) / 2 ^ k) 1=0:=b2
     clear b1 b2
     go_enter Tryz.func124,Tryz.ntmps124
     go_wp2
     go_quiet (fail)
     go_wp2
     go_ret
     have x1:=xor_of m hm i hi
     have x2:=xor_of _ x1.2 k hk
     exact ⟨by rw [HR.out,←x2.1,←x1.1];rfl,(Dr.refl _).step _⟩
   · have HR:Hid (stepN m i k=m):=by rw [Hid,stepN,h1,h2];rfl
     rw [h1] at b1
     rw [h2] at b2
     have c1:bits BinOp.and IntKind.i64 ((m:Int) / 2 ^ i) 1=1:=b1
     have c2:bits BinOp.and IntKind.i64 ((m:Int) / 2 ^ k) 1=1:=b2
     clear b1 b2 h1 h2
     go_enter Tryz.func124,Tryz.ntmps124
     go_wp2
     go_ret
     exact ⟨by rw [HR.out];rfl,Dr.refl _⟩
def sortedN (n k:Nat):Nat:=(2 ^ k - 1) * 2 ^ (n - k)
theorem sorted_of:∀ k:Nat,k < 9→∀ d:Nat,d < 9→k+d < 9→wrap64 (wrap64 (wrap64 (2 ^ k) - 1) * 2 ^ (k+d - k))=((sortedN (k+d) k:Nat):Int):=by decide +kernel
theorem i_sorted (n m:Nat) (hm:m < 256) (hn:n≤8) (hk:onesN m≤n) (w:World):Calls Tryz.prog 180 #[.int .i64 (n:Int),.int .i64 (m:Int)] w fun e w'=>e=.returned (.int .i64 (sortedN n (onesN m):Nat))∧w=w':=by
 have HK:=Lib.hid (i_ones m hm w)
 generalize onesN m=k at *
 obtain ⟨d,rfl⟩:∃ d,n=k+d:=⟨n - k,by omega⟩
 go_enter Tryz.func180,Tryz.ntmps180
 go_wp2_with (go_at_call 65;refine HK.out.mono ?_;rintro e w' ⟨rfl,rfl⟩)
 go_ret
 exact ⟨by rw [←sorted_of k (by omega) d (by omega) (by omega)];rfl,rfl⟩
theorem elB:ElemOk Tryz.prog 127 4 1 (.bool false):=by
 obtain ⟨i,hi,h0,h1,h2⟩:=info_parts (show (Tryz.prog.info? 4).map (fun i=>(i.zero,i.size,i.bytes))=some (some (.bool false),1,1) by kernel_rfl)
 exact ⟨i,Tryz.underlying127,hi,h0,h1,h2,rfl⟩
def bools (bs:List Bool):List Value:=bs.map Value.bool
theorem bools_set (bs:List Bool) (k:Nat) (b:Bool):(bools bs).set k (.bool b)=bools (bs.set k b):=by simp [bools,List.map_set]
theorem bools_len (bs:List Bool):(bools bs).length=bs.length:=by simp [bools]
theorem Rd.boolc {w:World} {p:Addr} {n c k:Nat} {S:List Bool} {b:Bool} (h:Rd w (.slice (some p) n c) (bools S)) (hb:S[k]?=some b):w.cell? (p.add k)=some (.bool b):=by
 obtain ⟨hk,e⟩:=List.getElem?_eq_some_iff.1 hb
 obtain ⟨ad,had,hc⟩:=h.cell (k:=k) (by rw [bools_len];exact hk)
 injection had with had
 subst had
 rw [hc]
 simp [bools,e]
theorem i_isOrder (v:Value) (xs:List Int) (w:World) (h:Rd w v (ints xs)) (hl:xs.length≤1000) :
 Calls Tryz.prog 136 #[v,.int .i64 (xs.length:Int)] w (RetB (.bool (ordB xs.length xs)) w):=by
 obtain ⟨a,n,c,rfl,HN,hnc,hc⟩:=h.formN
 rw [←HN.out] at hl ⊢
 have H0:Hid (SeenP n xs 0 (List.replicate n false)):=SeenP.start n xs
 go_enter Tryz.func136,Tryz.ntmps136
 go_wp2_with (at_make;refine wpList_mk rfl _ _ 127 rfl elB rfl rfl (Nat.le_refl _) (by omega) (by omega) ?_;intro b w1 hb1 hown1 hg1)
 go_loopg [16] n (fun g i wr=>∃ (k:Nat) (S:List Bool),g=n - k∧k≤n∧i=.int .i64 k∧Hid (SeenP n xs k S)∧Own wr 4 w.heap.size (.slice (some b) n n) (bools S)∧Below w.heap.size w wr)
 case atStart=>exact ⟨0,_,rfl,Nat.zero_le _,rfl,H0,by simpa [bools] using hown1,(Below.refl _ _).grown hg1 (Nat.le_refl _) (fun _ h=>by cases h)⟩
 case round =>
  clear H0 hown1
  obtain ⟨k,S,hg,hk,rfl,HS,hown,hbel⟩:=hrel
  by_cases hlt:k < n
  · obtain ⟨ad,x,rfl,hcx,hx⟩:=(h.below hbel).int (k:=k) (by have:=HN.out;omega)
    have i1:(k:Int) < (n:Int):=by omega
    by_cases hin:0≤x∧x < (n:Int)
    · obtain ⟨X,rfl⟩:=Int.eq_ofNat_of_zero_le hin.1
      have hXn:X < n:=by omega
      have hXS:X < S.length:=by rw [HS.out.1];exact hXn
      obtain ⟨bq,hbq⟩:∃ bq,S[X]?=some bq:=⟨_,List.getElem?_eq_getElem hXS⟩
      have hcb:=hown.rd.boolc hbq
      have hfz:=hown.frozen rfl X
      have i2:(X:Int) < (n:Int):=hin.2
      have i3:¬ (X:Int) < 0:=by omega
      have HBQ:=Lib.hid hbq
      have hs:=hown.set rfl (show X < (bools S).length by rw [bools_len];exact hXS) (.bool true)
      have hb2:=hbel.grown hs.2 hbel.size (fun r hr=>(hown.lt r hr).1)
      have hs1:=hs.1
      rw [bools_set] at hs1
      clear hbq hs hin
      cases bq with
      | false =>
        have HS2:Hid (SeenP n xs (k+1) (S.set X true)):=HS.out.next hx.out hXn HBQ.out
        go_wp2
        go_roundg (n - (k+1))
        case measure=>omega
        case rel=>exact ⟨k+1,_,rfl,by omega,by go_num,HS2,hs1,hb2⟩
      | true =>
        have HR:Hid (ordB n xs=false):=HS.out.twice hx.out HBQ.out
        clear hs1 hb2
        go_wp2
        go_ret
        exact ⟨ret_bool HR.out.symm,hbel⟩
    · have HR:Hid (ordB n xs=false):=HS.out.out hx.out hin
      by_cases h0:x < 0
      · go_wp2
        go_ret
        exact ⟨ret_bool HR.out.symm,hbel⟩
      · have i3:¬ x < (n:Int):=by omega
        go_wp2
        go_ret
        exact ⟨ret_bool HR.out.symm,hbel⟩
  · obtain rfl:k=n:=by omega
    have HR:Hid (ordB k xs=true):=by have:=HS.out;rw [HN.out] at this;rw [Hid,HN.out];exact this.fin
    go_wp2
    go_ret
    exact ⟨ret_bool HR.out.symm,hbel⟩
theorem i_isShortOrder (v:Value) (xs:List Int) (w:World) (h:Rd w v (ints xs)):Calls Tryz.prog 81 #[v] w (RetB (.bool (shortB xs)) w):=by
 obtain ⟨a,n,c,rfl,HN,hnc,hc⟩:=h.formN
 by_cases h8:n≤8
 · have HK:=i_isOrder _ xs w h (by have:=HN.out;omega)
   rw [←HN.out] at HK
   have HR:Hid (shortB xs=ordB n xs):=by rw [Hid,shortB,←HN.out];simp [h8]
   have HK2:=Lib.hid HK
   clear HK
   have i1:(n:Int)≤8:=by omega
   go_enter Tryz.func81,Tryz.ntmps81
   go_wp2_with (go_at_call 136;refine HK2.out.mono ?_;rintro e w' ⟨rfl,hb⟩)
   go_ret
   exact ⟨by rw [HR.out];rfl,hb⟩
 · have HR:Hid (shortB xs=false):=by rw [Hid,shortB,←HN.out];simp [h8]
   have i1:¬ (n:Int)≤8:=by omega
   go_enter Tryz.func81,Tryz.ntmps81
   go_wp2
   go_ret
   exact ⟨ret_bool HR.out.symm,Below.refl _ _⟩
def lenB (x:Int):Bool:=inB x 1 1000
def lensB (xs:List Int):Bool:=decide (xs.length≤8) && xs.all lenB
theorem lensB_iff {xs:List Int} : lensB xs=true↔xs.length≤8∧∀ x∈xs,1≤x∧x≤1000:=by
 simp [lensB,lenB,inB_iff]
def sumL:List Int→Int
 | []=>0
 | x :: t=>x+sumL t
theorem sumL_append (a b:List Int):sumL (a++b)=sumL a+sumL b:=by
 induction a with
 | nil=>simp [sumL]
 | cons x t ih=>simp only [List.cons_append,sumL,ih];omega
theorem sumL_take {xs:List Int} {k:Nat} {x:Int} (h:xs[k]?=some x):sumL (xs.take (k+1))=sumL (xs.take k)+x:=by
 rw [take_snoc' h,sumL_append];simp [sumL]
theorem sumL_bd:∀ (xs:List Int),(∀ x∈xs,1≤x∧x≤1000)→0≤sumL xs∧sumL xs≤1000 * (xs.length:Int)
 | [],_=>by simp [sumL]
 | x :: t,h=>by
   have h1:=h x (by simp)
   have h2:=sumL_bd t fun y hy=>h y (by simp [hy])
   simp only [sumL,List.length_cons]
   omega
def nbS (b t:Int):Int:=if b < 0∨t < b then t else b
def nbK (g:List Int→Int) (xs:List Int):Nat→Int
 | 0=>-1
 | k+1=>nbS (nbK g xs k) (g (xs.take (k+1))+g (xs.drop (k+1)))
def nb:Nat→List Int→Int
 | 0,_=>0
 | f+1,xs=>if xs.length < 2 then 0 else nbK (nb f) xs (xs.length - 1)+sumL xs
def nbTop:Nat→Int
 | 0=>0
 | f+1=>2 * nbTop f+8000
theorem nbTop_le:∀ f,f≤8→0≤nbTop f∧nbTop f≤2040000
 | 0,_=>by decide
 | 1,_=>by decide
 | 2,_=>by decide
 | 3,_=>by decide
 | 4,_=>by decide
 | 5,_=>by decide
 | 6,_=>by decide
 | 7,_=>by decide
 | 8,_=>by decide
theorem nbK_bd {g:List Int→Int} {T:Int} {xs:List Int} (hT:0≤T) (hg:∀ ys,(∀ y∈ys,y∈xs)→ys.length≤xs.length→0≤g ys∧g ys≤T):∀ k,-1≤nbK g xs k∧nbK g xs k≤2 * T
 | 0=>by simp [nbK];omega
 | k+1=>by
   have h1:=nbK_bd hT hg k
   have h2:=hg (xs.take (k+1)) (fun y hy=>List.mem_of_mem_take hy) (by simp;omega)
   have h3:=hg (xs.drop (k+1)) (fun y hy=>List.mem_of_mem_drop hy) (by simp)
   simp only [nbK,nbS]
   split <;> omega
theorem nbK_pos {g:List Int→Int} {T:Int} {xs:List Int} (hT:0≤T) (hg:∀ ys,(∀ y∈ys,y∈xs)→ys.length≤xs.length→0≤g ys∧g ys≤T) (k:Nat):0≤nbK g xs (k+1):=by
 have h1:=nbK_bd hT hg k
 have h2:=hg (xs.take (k+1)) (fun y hy=>List.mem_of_mem_take hy) (by simp;omega)
 have h3:=hg (xs.drop (k+1)) (fun y hy=>List.mem_of_mem_drop hy) (by simp)
 simp only [nbK,nbS]
 split <;> omega
theorem nb_bd:∀ (f:Nat) (xs:List Int),xs.length≤8→(∀ x∈xs,1≤x∧x≤1000)→f≤8→0≤nb f xs∧nb f xs≤nbTop f
 | 0,xs,_,_,_=>by simp [nb,nbTop]
 | f+1,xs,hl,h,hf=>by
   have hT:=(nbTop_le f (by omega)).1
   have hg:∀ ys,(∀ y∈ys,y∈xs)→ys.length≤xs.length→0≤nb f ys∧nb f ys≤nbTop f:=fun ys hy hyl=>nb_bd f ys (by omega) (fun y hm=>h y (hy y hm)) (by omega)
   have hs:=sumL_bd xs h
   rw [nb,nbTop]
   split
   · omega
   · have h1:=nbK_bd hT hg (xs.length - 1)
     have h2:=nbK_pos hT hg (xs.length - 2)
     rw [show xs.length - 2+1=xs.length - 1 by omega] at h2
     omega
theorem k_LengthsOk1:Known 140:=known Tryz.func140 (by kernel_rfl) (by kernel_rfl)
theorem i_LengthsOk1 (x:Int) (w:World):Calls Tryz.prog 140 #[.int .i64 x] w fun e w'=>e=.returned (.bool (!lenB x))∧w=w':=by
 by_cases h:x < 1
 · have H:Hid ((!lenB x)=true):=by rw [Hid,lenB,inB,decide_eq_false (by omega)];rfl
   have h1:decide (x < 1)=true:=by simpa using h
   go_enter Tryz.func140,Tryz.ntmps140
   go_wp2
   go_ret
   exact ⟨ret_bool (by rw [H.out]),rfl⟩
 · have H:Hid ((!lenB x)=decide (x > 1000)):=by
    rw [Hid,lenB,inB,decide_eq_true (p:=1≤x) (by omega)]
    by_cases h2:x≤1000
    · simp [h2]
    · simp [h2] <;> omega
   have h1:decide (x < 1)=false:=by simpa using h
   go_enter Tryz.func140,Tryz.ntmps140
   go_wp2
   go_ret
   exact ⟨ret_bool H.out.symm,rfl⟩
theorem i_LengthsOk (v:Value) (xs:List Int) (w:World) (h:Rd w v (ints xs)):Calls Tryz.prog 88 #[v] w fun e w'=>e=.returned (.bool (lensB xs))∧w=w':=by
 obtain ⟨a,c,rfl,h2,h3⟩:=h.formi
 have HF:=Lib.hid (f_ContainsFunc (fun x=>!lenB x) 140 #[] k_LengthsOk1 _ xs w h (fun x _=>by simpa using i_LengthsOk1 x w))
 have HR:Hid (lensB xs=(decide (xs.length≤8) && !(xs.any fun x=>!lenB x))):=by
  show _=_
  rw [List.not_any_eq_all_not]
  simp [lensB]
 generalize (xs.any fun x=>!lenB x)=r at HF HR
 by_cases h16:xs.length≤8
 · have HR2:Hid (lensB xs = !r):=by rw [Hid,HR.out,decide_eq_true h16];rfl
   go_enter Tryz.func88,Tryz.ntmps88
   go_wp2_with (go_at_call 119;refine HF.out.mono ?_;rintro e w' ⟨rfl,rfl⟩)
   go_ret
   exact ⟨ret_bool (by rw [HR2.out]),rfl⟩
 · have HR2:Hid (lensB xs=false):=by rw [Hid,HR.out,decide_eq_false h16];rfl
   have hd:decide ((xs.length:Int)≤8)=false:=by simp;omega
   go_enter Tryz.func88,Tryz.ntmps88
   go_wp2
   go_ret
   exact ⟨ret_bool (by rw [HR2.out]),rfl⟩
theorem getD_eq {T:List Int} {k:Nat} {t:Int} (h:T[k]?=some t):T.getD k 0=t:=by rw [List.getD_eq_getElem?_getD,h];rfl
theorem tri_hit {xs:List Int} {i j k:Nat} {x y z:Int} (hij:i < j) (hjk:j < k) (hx:xs[i]?=some x) (hy:xs[j]?=some y) (hz:xs[k]?=some z) (h1:z < x) (h2:x < y):canB xs=false :=
 canB_no (i:=i) (j:=j) (k:=k) ⟨hij,hjk,(List.getElem?_eq_some_iff.1 hz).1,by rw [getD_eq hx,getD_eq hz];exact h1,by rw [getD_eq hx,getD_eq hy];exact h2⟩
theorem tri_miss {xs:List Int} {i j k:Nat} {x y z:Int} (hx:xs[i]?=some x) (hy:xs[j]?=some y) (hz:xs[k]?=some z) (h:¬ (z < x∧x < y)):¬ Tri xs i j k:=by
 rintro ⟨_,_,_,h4,h5⟩
 rw [getD_eq hx,getD_eq hz] at h4
 rw [getD_eq hx,getD_eq hy] at h5
 exact h ⟨h4,h5⟩
theorem i_canStackSort (v:Value) (xs:List Int) (w:World) (hR:Rd w v (ints xs)) (hl:xs.length≤1000) :
 Calls Tryz.prog 134 #[v] w (RetB (.bool (canB xs)) w):=by
 obtain ⟨a,n,c,rfl,HN,hnc,hc⟩:=hR.formN
 rw [←HN.out] at hl
 go_enter Tryz.func134,Tryz.ntmps134
 go_wp2
 go_loopg [10] n (fun g iv wr=>∃ i:Nat,g=n - i∧i≤n∧iv=.int .i64 i∧w=wr∧Hid (∀ i' j k,i' < i→¬ Tri xs i' j k))
 case atStart=>exact ⟨0,rfl,Nat.zero_le _,rfl,rfl,fun _ _ _ h=>absurd h (Nat.not_lt_zero _)⟩
 case round =>
  obtain ⟨i,hg,hi,rfl,rfl,HI⟩:=hrel
  by_cases hlt:i < n
  · obtain ⟨ad,x,rfl,hcx,hx⟩:=hR.int (k:=i) (by have:=HN.out;omega)
    have i1:(i:Int) < (n:Int):=by omega
    go_wp2
    go_loopg [5] (n - (i+1)) (fun g jv wr=>∃ j:Nat,g=n - j∧i+1≤j∧j≤n∧jv=.int .i64 j∧w=wr∧Hid (∀ j' k,j' < j→¬ Tri xs i j' k))
    case atStart=>exact ⟨i+1,rfl,Nat.le_refl _,by omega,by go_num,rfl,fun j' k h h2=>by have:=h2.1;omega⟩
    case round =>
     obtain ⟨j,hgj,hij,hj,rfl,rfl,HJ⟩:=hrel
     by_cases hltj:j < n
     · obtain ⟨ad2,y,had2,hcy,hy⟩:=hR.int (k:=j) (by have:=HN.out;omega)
       obtain rfl:ad=ad2:=by injection had2
       clear had2
       have j1:(j:Int) < (n:Int):=by omega
       have j2:(j:Int)+1≤(n:Int):=by omega
       have j3:(j:Int)+1≤(c:Int):=by omega
       have j5:((j:Int)+1).toNat=j+1:=by omega
       have hrC:Rd w (.slice (if c=j+1 then some ad else some (ad.add (j+1))) (n - (j+1)) (c - (j+1))) (ints (xs.drop (j+1))):=by rw [←ints_drop];exact hR.cut (show j+1≤n by omega)
       obtain ⟨m,hm⟩:∃ m,n - (j+1)=m:=⟨_,rfl⟩
       obtain ⟨cC,hcC⟩:∃ cC,c - (j+1)=cC:=⟨_,rfl⟩
       rw [hm,hcC] at hrC
       have hrC1:c=j+1→Rd w (.slice (some ad) m cC) (ints (xs.drop (j+1))):=fun e=>by rw [if_pos e] at hrC;exact hrC
       have hrC2:¬ c=j+1→Rd w (.slice (some ⟨ad.block,ad.off+(j+1),none⟩) m cC) (ints (xs.drop (j+1))):=fun e=>by rw [if_neg e,add_succ] at hrC;exact hrC
       clear hrC
       go_wp2
       all_goals first
        | (have hrC:=hrC1 (by assumption);rw [←h];clear h)
        | (have hrC:=hrC2 (by assumption);clear h)
       all_goals (
       go_loopg [28] m (fun g qv wr=>∃ q:Nat,g=m - q∧q≤m∧qv=.int .i64 q∧w=wr∧Hid (∀ k,k < j+1+q→¬ Tri xs i j k))
       case atStart=>exact ⟨0,rfl,Nat.zero_le _,rfl,rfl,fun k hk h2=>by have:=h2.2.1;omega⟩
       case round =>
        obtain ⟨q,hgq,hq,rfl,rfl,HQ⟩:=hrel
        by_cases hltq:q < m
        · obtain ⟨adC,z,had3,hcz,hz⟩:=hrC.int (k:=q) (by rw [List.length_drop,←HN.out];omega)
          have hz':xs[j+1+q]?=some z:=by have:=hz.out;rw [List.getElem?_drop] at this;exact this
          have q1:(q:Int) < (m:Int):=by omega
          obtain rfl:=Option.some.inj had3
          clear had3
          try rw [Addr.add_lit] at hcz
          by_cases h1:z < x
          · by_cases h2:x < y
            · have HR:Hid (canB xs=false):=tri_hit (by omega) (by omega) hx.out hy.out hz' h1 h2
              clear hz'
              go_wp2
              go_ret
              exact ⟨ret_bool HR.out.symm,Below.refl _ _⟩
            · have HM:Hid (∀ k,k < j+1+(q+1)→¬ Tri xs i j k):=fun k hk=>by
               by_cases e:k=j+1+q
               · subst e;exact tri_miss hx.out hy.out hz' (fun hh=>h2 hh.2)
               · exact HQ.out k (by omega)
              clear hz'
              go_wp2
              go_roundg (m - (q+1))
              case measure=>omega
              case rel=>exact ⟨q+1,rfl,by omega,by go_num,rfl,HM⟩
          · have HM:Hid (∀ k,k < j+1+(q+1)→¬ Tri xs i j k):=fun k hk=>by
             by_cases e:k=j+1+q
             · subst e;exact tri_miss hx.out hy.out hz' (fun hh=>h1 hh.1)
             · exact HQ.out k (by omega)
            clear hz'
            go_wp2
            go_roundg (m - (q+1))
            case measure=>omega
            case rel=>exact ⟨q+1,rfl,by omega,by go_num,rfl,HM⟩
        · have HM:Hid (∀ j' k,j' < j+1→¬ Tri xs i j' k):=fun j' k hj' h2=>by
           by_cases e:j'=j
           · subst e
             have:=h2.2.2.1
             exact HQ.out k (by have:=HN.out;omega) h2
           · exact HJ.out j' k (by omega) h2
          go_wp2
          go_roundg (n - (j+1))
          case measure=>omega
          case rel=>exact ⟨j+1,rfl,by omega,by omega,by go_num,rfl,HM⟩)
     · have HM:Hid (∀ i' j k,i' < i+1→¬ Tri xs i' j k):=fun i' j' k hi' h2=>by
        by_cases e:i'=i
        · subst e
          have:=h2.2.1
          have:=h2.2.2.1
          exact HJ.out j' k (by have:=HN.out;omega) h2
        · exact HI.out i' j' k (by omega) h2
       go_wp2
       go_roundg (n - (i+1))
       case measure=>omega
       case rel=>exact ⟨i+1,rfl,by omega,by go_num,rfl,HM⟩
  · have HR:Hid (canB xs=true):=canB_yes fun i' j k h2=>by
     have h3:=h2.1
     have h4:=h2.2.1
     have h5:=h2.2.2.1
     exact HI.out i' j k (by have:=HN.out;omega) h2
    go_wp2
    go_ret
    exact ⟨ret_bool HR.out.symm,Below.refl _ _⟩
theorem I_CanStackSort (v:Value) (xs:List Int) (w:World) (h:Rd w v (ints xs)):Calls Tryz.prog 79 #[v] w (RetB (.bool (shortB xs && canB xs)) w):=by
 have HS:=i_isShortOrder v xs w h
 obtain ⟨a,n,c,rfl,HN,hnc,hc⟩:=h.formN
 cases hs:shortB xs
 · rw [hs] at HS
   have HK:=Lib.hid HS
   clear HS hs
   go_enter Tryz.func79,Tryz.ntmps79
   go_wp2_with (go_at_call 81;refine HK.out.mono ?_;rintro e w' ⟨rfl,hb⟩)
   go_ret
   exact ⟨rfl,hb⟩
 · have h8:=(shortB_iff.1 hs).1
   rw [hs] at HS
   have HK:=Lib.hid HS
   have HC:=Lib.hid (fun w (h:Rd w _ (ints xs))=>i_canStackSort (.slice a n c) xs w h (by omega))
   generalize canB xs=cb at *
   clear HS hs
   go_enter Tryz.func79,Tryz.ntmps79
   go_wp2_with (first | (go_at_call 81;refine HK.out.mono ?_;rintro e w' ⟨rfl,hb⟩) | (go_at_call 134;refine (HC.out _ (h.below hb)).mono ?_;rintro e w2 ⟨rfl,hb2⟩))
   go_ret
   exact ⟨rfl,hb.trans (hb2.mono hb.size)⟩
theorem i_isTwelve (v:Value) (xs:List Int) (w:World) (h:Rd w v (ints xs)):Calls Tryz.prog 56 #[v] w fun e w'=>e=.returned (.bool (decide (xs.length≤12)))∧w=w':=by
 obtain ⟨a,n,c,rfl,HN,hnc,hc⟩:=h.formN
 have HB:Hid (decide (xs.length≤12)=decide (n≤12)):=by rw [Hid,HN.out]
 by_cases h12:n≤12
 · have d:decide ((n:Int)≤12)=true:=by simp;omega
   go_enter Tryz.func56,Tryz.ntmps56
   go_wp2
   go_ret
   exact ⟨ret_bool (by rw [HB.out];simp [h12]),rfl⟩
 · have d:decide ((n:Int)≤12)=false:=by simp;omega
   go_enter Tryz.func56,Tryz.ntmps56
   go_wp2
   go_ret
   exact ⟨ret_bool (by rw [HB.out];simp [h12]),rfl⟩
theorem i_inversions (v:Value) (xs:List Int) (w:World) (hR:Rd w v (ints xs)) (hl:xs.length≤12):Calls Tryz.prog 112 #[v] w (RetB (.int .i64 (invN xs:Nat)) w):=by
 obtain ⟨a,n,c,rfl,HN,hnc,hc⟩:=hR.formN
 have h12:n≤12:=by have:=HN.out;omega
 have hzb:invN xs≤144:=by
  have h1:=invN_le xs
  exact Nat.le_trans h1 (Nat.mul_le_mul hl hl)
 have HZB:=Lib.hid hzb
 clear hzb
 go_enter Tryz.func112,Tryz.ntmps112
 go_wp2
 go_loopg [3,10] n (fun g sv iv wr=>∃ (i:Nat) (z:Nat),g=n - i∧i≤n∧iv=.int .i64 i∧sv=.int .i64 z∧w=wr∧Hid (z+invN (xs.drop i)=invN xs))
 case atStart=>exact ⟨0,0,rfl,Nat.zero_le _,rfl,rfl,rfl,by rw [Hid,List.drop_zero,Nat.zero_add]⟩
 case round =>
  obtain ⟨i,z,hg,hi,rfl,rfl,rfl,HZ⟩:=hrel
  by_cases hlt:i < n
  · obtain ⟨ad,x,rfl,hcx,hx⟩:=hR.int (k:=i) (by have:=HN.out;omega)
    have i1:(i:Int) < (n:Int):=by omega
    have j2:(i:Int)+1≤(n:Int):=by omega
    have j3:(i:Int)+1≤(c:Int):=by omega
    have j5:((i:Int)+1).toNat=i+1:=by omega
    have HD:Hid (invN (xs.drop i)=(xs.drop (i+1)).countP (fun y=>decide (y < x))+invN (xs.drop (i+1))):=by rw [Hid,drop_ok hx.out];rfl
    have hrC:Rd w (.slice (if c=i+1 then some ad else some (ad.add (i+1))) (n - (i+1)) (c - (i+1))) (ints (xs.drop (i+1))):=by rw [←ints_drop];exact hR.cut (show i+1≤n by omega)
    obtain ⟨m,hm⟩:∃ m,n - (i+1)=m:=⟨_,rfl⟩
    obtain ⟨cC,hcC⟩:∃ cC,c - (i+1)=cC:=⟨_,rfl⟩
    rw [hm,hcC] at hrC
    have hrC1:c=i+1→Rd w (.slice (some ad) m cC) (ints (xs.drop (i+1))):=fun e=>by rw [if_pos e] at hrC;exact hrC
    have hrC2:¬ c=i+1→Rd w (.slice (some ⟨ad.block,ad.off+(i+1),none⟩) m cC) (ints (xs.drop (i+1))):=fun e=>by rw [if_neg e,add_succ] at hrC;exact hrC
    clear hrC
    go_wp2
    all_goals first
     | (have hrC:=hrC1 (by assumption);rw [←h];clear h)
     | (have hrC:=hrC2 (by assumption);clear h)
    all_goals (
     go_loopg [3,20] m (fun g sv qv wr=>∃ (q:Nat) (t:Nat),g=m - q∧q≤m∧qv=.int .i64 q∧sv=.int .i64 (t:Int)∧w=wr∧Hid (t=z+((xs.drop (i+1)).take q).countP (fun y=>decide (y < x))))
     case atStart=>exact ⟨0,z,rfl,Nat.zero_le _,rfl,rfl,rfl,rfl⟩
     case round =>
      obtain ⟨q,t,hgq,hq,rfl,rfl,rfl,HT⟩:=hrel
      have htb:t≤144:=by
       have h1:=HT.out
       have h2:=HZ.out
       have h3:=HD.out
       have h4:=HZB.out
       have h5:((xs.drop (i+1)).take q).countP (fun y=>decide (y < x))≤(xs.drop (i+1)).countP (fun y=>decide (y < x)):=(List.take_sublist _ _).countP_le
       omega
      by_cases hltq:q < m
      · obtain ⟨adC,y,had3,hcz,hy⟩:=hrC.int (k:=q) (by rw [List.length_drop,←HN.out];omega)
        have q1:(q:Int) < (m:Int):=by omega
        obtain rfl:=Option.some.inj had3
        clear had3
        try rw [Addr.add_lit] at hcz
        by_cases hxy:y < x
        · have d1:decide (x > y)=true:=by simpa using hxy
          have HT2:Hid (t+1=z+((xs.drop (i+1)).take (q+1)).countP (fun y=>decide (y < x))):=by rw [Hid,countP_take _ hy.out,←Nat.add_assoc,←HT.out];simp [hxy]
          go_wp2
          go_roundg (m - (q+1))
          case measure=>omega
          case rel=>exact ⟨q+1,t+1,rfl,by omega,by go_num,by go_num,rfl,HT2⟩
        · have d1:decide (x > y)=false:=by simpa using hxy
          have HT2:Hid (t=z+((xs.drop (i+1)).take (q+1)).countP (fun y=>decide (y < x))):=by rw [Hid,countP_take _ hy.out,←Nat.add_assoc,←HT.out];simp [hxy]
          go_wp2
          go_roundg (m - (q+1))
          case measure=>omega
          case rel=>exact ⟨q+1,t,rfl,by omega,by go_num,rfl,rfl,HT2⟩
      · have HT2:Hid (t+invN (xs.drop (i+1))=invN xs):=by
         have h1:=HT.out
         rw [List.take_of_length_le (by rw [List.length_drop,←HN.out];omega)] at h1
         have h2:=HZ.out
         have h3:=HD.out
         rw [Hid];omega
        go_wp2
        go_roundg (n - (i+1))
        case measure=>omega
        case rel=>exact ⟨i+1,t,rfl,by omega,by go_num,rfl,rfl,HT2⟩)
  · have HZ2:Hid (invN xs=z):=by
     have:=HZ.out
     rw [List.drop_eq_nil_of_le (by rw [←HN.out];omega)] at this
     rw [Hid,←this];rfl
    go_wp2
    go_ret
    exact ⟨by rw [HZ2.out];rfl,Below.refl _ _⟩
theorem i_InversionsOf (v:Value) (xs:List Int) (w:World) (h:Rd w v (ints xs)) (hl:xs.length≤12):Calls Tryz.prog 57 #[v] w (RetB (.int .i64 (invN xs:Nat)) w):=by
 have HO:=i_isTwelve v xs w h
 rw [show decide (xs.length≤12)=true by simpa using hl] at HO
 have HOK:=Lib.hid HO
 have HC:=Lib.hid (i_inversions v xs w h hl)
 obtain ⟨a,n,c,rfl,HN,hnc,hc⟩:=h.formN
 clear HO
 generalize invN xs=z at *
 go_enter Tryz.func57,Tryz.ntmps57
 go_wp2_with (first
  | (go_at_call 56;refine HOK.out.mono ?_;rintro e w' ⟨rfl,rfl⟩)
  | (go_at_call 112;refine HC.out.mono ?_;rintro e w2 ⟨rfl,hb2⟩))
 go_ret
 exact ⟨rfl,hb2⟩
theorem i_follows (x y:Int) (w:World):Calls Tryz.prog 177 #[.int .i64 x,.int .i64 y] w fun e w'=>e=.returned (.bool (decide (x≤y)))∧w=w':=by
 obtain ⟨b,hb⟩:∃ b,decide (x≤y)=b:=⟨_,rfl⟩
 rw [hb]
 go_enter Tryz.func177,Tryz.ntmps177
 go_wp2
 go_ret
 exact ⟨rfl,rfl⟩
theorem i_longest (v:Value) (xs:List Int) (w:World) (h:Rd w v (ints xs)) (hl:xs.length≤12):Calls Tryz.prog 176 #[v,.func (.func 177) #[] #[]] w (RetB (.int .i64 (dpB xs xs.length)) w):=by
 obtain ⟨a,n,c,rfl,HN,hnc,hc⟩:=h.formN
 have h12:n≤12:=by have:=HN.out;omega
 rw [←HN.out]
 have hA:Own (w.alloc (.cells #[] 3)) 3 w.heap.size (.slice (some ⟨w.heap.size,0,none⟩) 0 0) (ints (dpL xs 0)):=Own.lit0 w 3 (Nat.le_refl _)
 have hb0:Below w.heap.size w (w.alloc (.cells #[] 3)):=(Below.refl _ _).alloc (Nat.le_refl _) _
 go_enter Tryz.func176,Tryz.ntmps176
 go_wp2
 go_loopg [5,6,15] n (fun g sv vo iv wr=>∃ (i:Nat) (z:Int),g=n - i∧i≤n∧iv=.int .i64 i∧sv=.int .i64 z∧0≤z∧z≤i∧Hid (z=dpB xs i)∧Own wr 3 w.heap.size vo (ints (dpL xs i))∧Below w.heap.size w wr)
 case atStart=>exact ⟨0,0,rfl,Nat.zero_le _,rfl,rfl,Int.le_refl _,Int.le_refl _,rfl,hA,hb0⟩
 case round =>
  clear hA hb0
  obtain ⟨i,z,hg,hi,rfl,rfl,hz0,hzi,HZ,ho,hb⟩:=hrel
  obtain ⟨ao,mo,co,rfl,HMO,_,_⟩:=ho.rd.formN
  have hmo:mo=i:=by have:=HMO.out;rw [dpL_len] at this;exact this
  subst hmo
  by_cases hlt:mo < n
  · obtain ⟨ad,x,rfl,hcx,hx⟩:=(h.below hb).int (k:=mo) (by have:=HN.out;omega)
    have i1:(mo:Int) < (n:Int):=by omega
    have i2:(mo:Int)≤(c:Int):=by omega
    go_wp2
    go_loopg [9,24] mo (fun g nv qv wx=>∃ (q:Nat) (t:Int),g=mo - q∧q≤mo∧qv=.int .i64 q∧nv=.int .i64 t∧1≤t∧t≤(mo:Int)+1∧wr=wx∧Hid (t=dpIn xs (dpL xs mo) x q))
    case atStart=>exact ⟨0,1,rfl,Nat.zero_le _,rfl,rfl,Int.le_refl _,by omega,rfl,rfl⟩
    case round =>
     obtain ⟨q,t,hgq,hq,rfl,rfl,ht1,ht2,rfl,HT⟩:=hrel
     by_cases hlq:q < mo
     · obtain ⟨ad2,y,had2,hcy,hy⟩:=(h.below hb).int (k:=q) (by have:=HN.out;omega)
       obtain rfl:ad=ad2:=by injection had2
       clear had2
       obtain ⟨po,l,rfl,hcl,hl9⟩:=ho.rd.int (k:=q) (by rw [dpL_len];exact hlq)
       have hlb:=dpL_bd xs mo l (List.mem_of_getElem? hl9.out)
       have hl0 : -1≤l:=by
        have h9:=hl9.out
        have h8:∀ i,∀ v∈dpL xs i,(1:Int)≤v:=by
         intro i
         induction i with
         | zero=>simp [dpL]
         | succ i ih =>
           intro v hv
           rw [dpL,List.mem_append,List.mem_singleton] at hv
           rcases hv with hv | rfl
           · exact ih v hv
           · exact (dpIn_bd (dpL_bd xs i) (by omega) i).1
        have:=h8 mo l (List.mem_of_getElem? h9)
        omega
       have q1:(q:Int) < (mo:Int):=by omega
       have HF:=Lib.hid (i_follows y x wr)
       by_cases hxy:y≤x
       · have d1:decide (y≤x)=true:=by simpa using hxy
         rw [d1] at HF
         have HT2:Hid (max t (l+1)=dpIn xs (dpL xs mo) x (q+1)):=by rw [Hid,dpIn,getD_ok hy.out,getD_ok hl9.out,if_pos hxy,←HT.out]
         go_wp2_with (go_at_call 177;refine HF.out.mono ?_;rintro e w' ⟨rfl,rfl⟩)
         all_goals (
          go_roundg (mo - (q+1))
          case measure=>omega
          case rel=>exact ⟨q+1,_,rfl,by omega,by go_num,rfl,by omega,by omega,rfl,by have:=HT2.out;rw [Hid,←this];omega⟩)
       · have d1:decide (y≤x)=false:=by simpa using hxy
         rw [d1] at HF
         have HT2:Hid (t=dpIn xs (dpL xs mo) x (q+1)):=by rw [Hid,dpIn,getD_ok hy.out,if_neg hxy,←HT.out]
         go_wp2_with (go_at_call 177;refine HF.out.mono ?_;rintro e w' ⟨rfl,rfl⟩)
         go_roundg (mo - (q+1))
         case measure=>omega
         case rel=>exact ⟨q+1,t,rfl,by omega,by go_num,rfl,ht1,ht2,rfl,HT2⟩
     · obtain rfl:q=mo:=by omega
       have hsb:=hb.size
       have HLo:Hid ((ints (dpL xs q)).length=q):=by rw [Hid,ints_length,dpL_len]
       have HC:Hid (ints (dpL xs (q+1))=ints (dpL xs q)++[.int .i64 t]):=by rw [Hid,dpL,ints_append,getD_ok hx.out,HT.out];rfl
       have HZ2:Hid (max z t=dpB xs (q+1)):=by rw [Hid,dpB,getD_ok hx.out,←HT.out,←HZ.out]
       go_wp2_with (at_builtin;refine wpList_app1m rfl _ _ 23 rfl elI rfl ho (by show Value.slice (some ⟨wr.heap.size,0,none⟩) 1 1=_;simp) rfl hsb _ HLo.out (by omega) (by omega) ?_;intro b5 c5 w5 ho5 hg5 hat5)
       all_goals (
        go_roundg (n - (q+1))
        case measure=>omega
        case rel=>exact ⟨q+1,_,rfl,by omega,by go_num,rfl,by omega,by omega,by have:=HZ2.out;rw [Hid,←this];omega,by rw [HC.out];exact ho5,hb.grown hg5 hsb (fun r hr=>(ho.lt r hr).1)⟩)
  · obtain rfl:mo=n:=by omega
    go_wp2
    go_ret
    exact ⟨by rw [←HZ.out];rfl,hb⟩
theorem i_LongestRising (v:Value) (xs:List Int) (w:World) (h:Rd w v (ints xs)) (hl:xs.length≤12):Calls Tryz.prog 114 #[v] w (RetB (.int .i64 (dpB xs xs.length)) w):=by
 have HO:=i_isTwelve v xs w h
 rw [show decide (xs.length≤12)=true by simpa using hl] at HO
 have HOK:=Lib.hid HO
 have HC:=Lib.hid (i_longest v xs w h hl)
 obtain ⟨a,n,c,rfl,HN,hnc,hc⟩:=h.formN
 clear HO
 generalize dpB xs xs.length=z at *
 go_enter Tryz.func114,Tryz.ntmps114
 go_wp2_with (first
  | (go_at_call 56;refine HOK.out.mono ?_;rintro e w' ⟨rfl,rfl⟩)
  | (go_at_call 176;refine HC.out.mono ?_;rintro e w2 ⟨rfl,hb2⟩))
 go_ret
 exact ⟨rfl,hb2⟩
theorem i_RemoveLeast (v:Value) (xs:List Int) (w:World) (h:Rd w v (ints xs)) (hl:xs.length≤12):Calls Tryz.prog 59 #[v] w (RetB (.int .i64 ((xs.length:Int) - dpB xs xs.length)) w):=by
 have HO:=i_isTwelve v xs w h
 rw [show decide (xs.length≤12)=true by simpa using hl] at HO
 have HOK:=Lib.hid HO
 have HC:=Lib.hid (i_LongestRising v xs w h hl)
 have hz:=dpB_bd xs xs.length
 obtain ⟨a,n,c,rfl,HN,hnc,hc⟩:=h.formN
 rw [←HN.out] at hz hl HC ⊢
 clear HO
 generalize dpB xs n=z at *
 go_enter Tryz.func59,Tryz.ntmps59
 go_wp2_with (first
  | (go_at_call 56;refine HOK.out.mono ?_;rintro e w' ⟨rfl,rfl⟩)
  | (go_at_call 114;refine HC.out.mono ?_;rintro e w2 ⟨rfl,hb2⟩))
 go_ret
 exact ⟨rfl,hb2⟩
end Go.Proofs.YtggblfnajeikjaaGreatDoor
