/- Joined texts of the proof: DrawsK, DrawsL, DrawsM, DrawsQ. -/
import Derived.Test.YtggblfnajeikjaaGreatDoorJ29
import Derived.Test.YtggblfnajeikjaaGreatDoorJ34
namespace Go.Proofs.YtggblfnajeikjaaGreatDoor
open Go.RowKit
set_option linter.unusedVariables false
set_option linter.unusedSimpArgs false
set_option maxRecDepth 100000
set_option maxHeartbeats 16000000
def Txt (K:Nat) (B:ByteArray):Prop:=B.size≤K∧∀ x∈B.data.toList,x≠10
theorem Txt.app {a b:Nat} {A B:ByteArray} (h:Txt a A) (k:Txt b B):Txt (a+b) (A++B):=by
 refine ⟨by rw [ByteArray.size_append];have:=h.1;have:=k.1;omega,fun x hx=>?_⟩
 rw [ByteArray.data_append,Array.toList_append,List.mem_append] at hx
 rcases hx with hx | hx
 · exact h.2 x hx
 · exact k.2 x hx
theorem Txt.mono {a b:Nat} {A:ByteArray} (h:Txt a A) (hab:a≤b):Txt b A:=⟨Nat.le_trans h.1 hab,h.2⟩
theorem Txt.of {l:List UInt8} {K:Nat} (h:l.length≤K) (k:∀ x∈l,x≠10):Txt K (bstr l):=⟨by rw [bstr_size];exact h,fun x hx=>k x (by simpa [bstr] using hx)⟩
theorem itoa_nl {n:Int} (h:I64 n):∀ x∈Lib.itoa n,x≠10:=by
 intro x hx
 unfold Lib.itoa at hx
 have hd:∀ m:Nat,∀ c∈Lib.decDigits m,c≠10:=fun m c hc=>by
  have:=isDg_iff.1 (dec_digit m c hc)
  rintro rfl
  revert this
  decide
 split at hx
 · rcases List.mem_cons.1 hx with rfl | hx
   · decide
   · exact hd _ x hx
 · exact hd _ x hx
theorem Txt.int {n:Int} (h:I64 n):Txt 20 (bstr (Lib.itoa n)):=.of (itoa_len h).2 (itoa_nl h)
theorem joinK_nl {sep:List UInt8} (hs:∀ x∈sep,x≠10) {ls:List (List UInt8)} (h:∀ l∈ls,∀ x∈l,x≠10):∀ k,∀ x∈joinK sep ls k,x≠10:=by
 have hg:∀ i,∀ x∈ls.getD i [],x≠10:=fun i x hx=>by
  rw [List.getD_eq_getElem?_getD] at hx
  cases e:ls[i]? with
  | none=>rw [e] at hx;cases hx
  | some y=>rw [e] at hx;exact h y (List.mem_of_getElem? e) x hx
 intro k
 induction k with
 | zero=>intro x hx;simp [joinK] at hx
 | succ k ih =>
   intro x hx
   cases k with
   | zero=>exact hg 0 x (by simpa [joinK] using hx)
   | succ k =>
     rw [joinK] at hx
     simp only [List.mem_append] at hx
     rcases hx with (hx | hx) | hx
     · exact ih x hx
     · exact hs x hx
     · exact hg _ x hx
theorem Txt.nums {ys:List Int} (h:I64s ys) (hl:ys.length≤40):Txt 2000 (bstr (fmtNums ys)):=by
 rw [fmtNums,if_neg (by omega)]
 refine .of (by have:=numsB_le h hl;omega) ?_
 rw [numsB]
 split
 · intro x hx;simp at hx;subst hx;decide
 · exact joinK_nl (by intro x hx;simp at hx;subst hx;decide) (fun l hl x hx=>by
    obtain ⟨y,hy,rfl⟩:=List.mem_map.1 hl
    exact itoa_nl (h y hy) x hx) _
def RetDS (K g:Nat) (vb:Value) (xs:List Int) (w:World) (e:Ending) (w':World):Prop :=
 ∃ B:ByteArray,Txt K B∧e=.returned (.string B)∧Cur w' g vb xs∧w.grownBy w' (some g)
def RetDL (K g:Nat) (vb:Value) (xs:List Int) (w:World) (e:Ending) (w':World):Prop :=
 ∃ (ys:List Int) (v:Value),ys.length≤K∧I64s ys∧e=.returned v∧Own w' 3 w.heap.size v (ints ys)∧Cur w' g vb xs∧w.grownBy w' (some g)
theorem s_l30Small (g:Nat) (vb:Value) (xs:List Int) (hxb:∀ x∈xs,0≤x∧x≤255) (w:World) (hC:Cur w g vb xs) :
 Calls Tryz.prog 150 #[.pointer (some ⟨g,0,none⟩)] w (RetDS 20 g vb xs w):=by
 have HB:=Lib.hid (s_l01Below g vb xs hxb 9 (by omega) (by omega) w hC)
 have HF:Hid (∀ (x:Int),I64 x→∀ W,Calls Tryz.prog 153 #[.int .i64 x] W (RetB (.string (bstr (Lib.itoa x))) W)):=fun x h W=>S_FormatInt W x h
 go_enter Tryz.func150,Tryz.ntmps150
 go_wp2_with (first
  | (go_at_call 49;refine HB.out.mono ?_;rintro e w2 ⟨x,rfl,hx0,hx1,hC2,hg2⟩;have hx:I64 x:=(by unfold I64;omega))
  | (go_at_call 153;refine (HF.out x hx _).mono ?_;rintro e w3 ⟨rfl,b3⟩))
 go_ret
 exact ⟨_,.int hx,rfl,hC2.below b3,gb_below hg2 b3⟩
theorem s_l01Near (g:Nat) (vb:Value) (xs:List Int) (hxb:∀ x∈xs,0≤x∧x≤255) (lo hi:Int) (h1:0≤lo) (h2:lo≤hi) (h3:hi≤100) (w:World) (hC:Cur w g vb xs) :
 Calls Tryz.prog 154 #[.pointer (some ⟨g,0,none⟩),.int .i64 lo,.int .i64 hi] w (RetD (-9223372036854775808) 9223372036854775807 g vb xs w):=by
 have HB:=Lib.hid (fun (n:Int) (h1:1≤n) (h2:n≤1000000000) (wx:World) (hx:Cur wx g vb xs)=>s_l01Below g vb xs hxb n h1 h2 wx hx)
 have HPK:=Lib.hid (fun (vl:Value) (wx:World) (hx:Cur wx g vb xs) (hr:Rd wx vl (ints [9223372036854775807,-9223372036854775808,-1,0,1000000000])) (hne:vl.ownBlock≠some g)=>s_l01Pick g vb xs hxb vl [9223372036854775807,-9223372036854775808,-1,0,1000000000] (by simp) (by simp) wx hx hr hne)
 clear hxb
 go_enter Tryz.func154,Tryz.ntmps154
 go_wp2_with fail
 refine (HB.out 12 (by omega) (by omega) _ hC).mono ?_
 rintro e w1 ⟨x,rfl,hx0,hx1,hC1,hg1⟩
 clear hC
 rcases (show x=0∨x=1∨x=2∨x=3∨x=4∨5≤x by omega) with rfl | rfl | rfl | rfl | rfl | h5
 · go_wp2_with fail
   go_ret
   exact ⟨_,rfl,by omega,by omega,hC1,hg1⟩
 · go_wp2_with fail
   go_ret
   exact ⟨_,rfl,by omega,by omega,hC1,hg1⟩
 · go_wp2_with fail
   go_ret
   exact ⟨_,rfl,by omega,by omega,hC1,hg1⟩
 · go_wp2_with fail
   go_ret
   exact ⟨_,rfl,by omega,by omega,hC1,hg1⟩
 · have hbA:Below w1.heap.size w1 (w1.alloc (.cells #[.int .i64 9223372036854775807,.int .i64 (-9223372036854775808),.int .i64 (-1),.int .i64 0,.int .i64 1000000000] 3)):=(Below.refl _ _).alloc (Nat.le_refl _) _
   have hCA:=hC1.below hbA
   have hlit:Rd (w1.alloc (.cells #[.int .i64 9223372036854775807,.int .i64 (-9223372036854775808),.int .i64 (-1),.int .i64 0,.int .i64 1000000000] 3)) (.slice (some ⟨w1.heap.size,0,none⟩) 5 5) (ints [9223372036854775807,-9223372036854775808,-1,0,1000000000]):=by
    have:=(Own.lit w1 3 w1.heap.size #[.int .i64 9223372036854775807,.int .i64 (-9223372036854775808),.int .i64 (-1),.int .i64 0,.int .i64 1000000000] (Nat.le_refl _) (by simp)).rd
    simpa [ints] using this
   have hgw:=hC1.lt
   have hneL:(Value.slice (some ⟨w1.heap.size,0,none⟩) 5 5).ownBlock≠some g:=fun e=>by have : w1.heap.size=g:=Option.some.inj e;omega
   go_wp2_with (go_at_call 126;refine (HPK.out _ _ hCA hlit hneL).mono ?_;rintro e w3 ⟨m,hm,rfl,hC3,hg3⟩)
   go_ret
   refine ⟨_,rfl,?_,?_,hC3,gb_trans (gb_below hg1 hbA) hg3⟩ <;> (simp only [List.mem_cons,List.not_mem_nil,or_false] at hm;omega)
 · have e0:(x == 0)=false:=by rw [beq_eq_false_iff_ne];omega
   have e1:(x == 1)=false:=by rw [beq_eq_false_iff_ne];omega
   have e2:(x == 2)=false:=by rw [beq_eq_false_iff_ne];omega
   have e3:(x == 3)=false:=by rw [beq_eq_false_iff_ne];omega
   have e4:(x == 4)=false:=by rw [beq_eq_false_iff_ne];omega
   go_wp2_with (go_at_call 49;refine (HB.out (hi - lo+1) (by omega) (by omega) _ hC1).mono ?_;rintro e w3 ⟨m,rfl,hm0,hm1,hC3,hg3⟩)
   go_ret
   exact ⟨_,rfl,by omega,by omega,hC3,gb_trans hg1 hg3⟩
theorem s_l01Str (g:Nat) (vb:Value) (xs:List Int) (hxb:∀ x∈xs,0≤x∧x≤255) (vl:Value) (l:List (List UInt8)) (hl1:1≤l.length) (hl2:l.length≤1000) (w:World) (hC:Cur w g vb xs) (hr:Rd w vl (strs l)) (hne:vl.ownBlock≠some g) :
 Calls Tryz.prog 155 #[.pointer (some ⟨g,0,none⟩),vl] w fun e w'=>∃ x,x∈l∧e=.returned (.string (bstr x))∧Cur w' g vb xs∧w.grownBy w' (some g):=by
 obtain ⟨a,m,c,rfl,HM,h2,h3⟩:=hr.formS
 have hm1:1≤m:=by have:=HM.out;omega
 have hm2:m≤1000:=by have:=HM.out;omega
 have HB:=Lib.hid (s_l01Below g vb xs hxb (m:Int) (by omega) (by omega) w hC)
 go_enter Tryz.func155,Tryz.ntmps155
 go_wp2_with (go_at_call 49;refine HB.out.mono ?_;rintro e w2 ⟨x,rfl,hx0,hx1,hC2,hg2⟩;have hr2:=hr.grown hg2 (.inl hne);obtain ⟨k,rfl⟩:=Int.eq_ofNat_of_zero_le hx0;obtain ⟨ad,y,rfl,hcy,hy⟩:=hr2.text (k:=k) (by have:=HM.out;omega);have i1:(k:Int) < (m:Int):=by omega)
 go_ret
 exact ⟨y,List.mem_of_getElem? hy.out,rfl,hC2,hg2⟩
theorem s_l13Tokens (g:Nat) (vb:Value) (xs:List Int) (hxb:∀ x∈xs,0≤x∧x≤255) (n:Nat) (hn:n≤16) (w:World) (hC:Cur w g vb xs) :
 Calls Tryz.prog 157 #[.pointer (some ⟨g,0,none⟩),.int .i64 n] w (RetDL 16 g vb xs w):=by
 have HB:=Lib.hid (fun (wx:World) (hx:Cur wx g vb xs)=>s_l01Below g vb xs hxb 7 (by omega) (by omega) wx hx)
 have hgl:=hC.lt
 have HUP:=Lib.hid (fun (w6:World) (hg:w.grownBy w6 (some g))=>hC.up hg)
 clear hxb
 go_enter Tryz.func157,Tryz.ntmps157
 go_wp2
 go_loopw [5,6] (fun vl k wr=>∃ (q:Nat) (ys:List Int),k=.int .i64 q∧q≤n∧Hid (ys.length=q)∧Hid (I64s ys)∧Own wr 3 w.heap.size vl (ints ys)∧Cur wr g vb xs∧w.grownBy wr (some g)) (fun _ k _=>n - (intOf k).toNat)
 case atStart=>exact ⟨0,[],rfl,Nat.zero_le _,rfl,(fun y hy=>by cases hy),Own.lit0 w 3 (Nat.le_refl _),hC.alloc _,gb_alloc (World.grownBy.refl _ _) _⟩
 case round =>
  clear hC
  obtain ⟨q,ys,rfl,hq,HL,HY,ho,hC,hg⟩:=hrel
  by_cases hqn:q < n
  · have i1:(q:Int) < (n:Int):=by omega
    obtain ⟨al,ml,cl,rfl,HML,_,_⟩:=ho.rd.formN
    have hml:ml≤1000:=by have:=HML.out;have:=HL.out;omega
    have HYM:Hid ((ints ys).length=ml):=by rw [Hid,ints_length,HML.out]
    have hsz:=hg.size
    go_wp2_with (first
     | (go_at_call 49;refine (HB.out _ hC).mono ?_;rintro e w3 ⟨m,rfl,hm0,hm1,hC3,hg3⟩
        have ho3:=ho.apart hg3 (fun k h1 h2=>ho.neg hgl (by rw [h1,h2]))
        have hgg3:=gb_trans hg hg3)
     | (at_builtin;refine wpList_app1m rfl _ _ 23 rfl elI rfl ho3 (by show Value.slice (some ⟨w3.heap.size,0,none⟩) 1 1=_;simp) rfl hgg3.size _ HYM.out (by omega) (by omega) ?_;intro b6 c6 w6 ho6 hg6 hat6))
    have hg7:=gb_up hgg3 hg6 (fun b hb=>(ho3.lt b hb).1)
    have hC6:=hC3.turn hg6 (ho3.neg hgl) (HUP.out _ hg7)
    go_roundw
    case rel=>exact ⟨q+1,ys++[m],by go_num,by omega,by rw [Hid,List.length_append,HL.out];rfl,(fun z hz=>by
     rcases List.mem_append.1 hz with hz | hz
     · exact HY.out z hz
     · rw [List.mem_singleton] at hz
       subst hz
       unfold I64
       omega),by rw [ints_append];exact ho6,hC6,hg7⟩
    case measure=>simp [intOf];omega
  · obtain rfl:q=n:=by omega
    go_wp2
    go_ret
    exact ⟨ys,_,by have:=HL.out;omega,HY.out,rfl,ho,hC,hg⟩
theorem setFirst {w0 w:World} {g:Nat} {vb:Value} {xs ys:List Int} {ad:Addr} {m c:Nat} (ho:Own w 3 w0.heap.size (.slice (some ad) m c) (ints ys)) (h0:0 < ys.length) (hC:Cur w g vb xs) (hgl:g < w0.heap.size) (hg:w0.grownBy w (some g))
 (HUP:∀ w6,w0.grownBy w6 (some g)→Rd w6 vb (bytesV xs)) (z:Int) :
 (∃ y,w.cell? ad=some (.int .i64 y))∧w.frozen? ad=false∧Own (w.setCell ad (.int .i64 z)) 3 w0.heap.size (.slice (some ad) m c) (ints (ys.set 0 z))∧Cur (w.setCell ad (.int .i64 z)) g vb xs∧w0.grownBy (w.setCell ad (.int .i64 z)) (some g):=by
 have e0:ad.add 0=ad:=rfl
 obtain ⟨ad',y,e,hc,_⟩:=ho.rd.int (k:=0) h0
 obtain rfl:ad=ad':=by injection e
 have hf:=ho.frozen rfl 0
 obtain ⟨h1,h2⟩:=ho.set rfl (k:=0) (by rw [ints_length];exact h0) (.int .i64 z)
 rw [←ints_set] at h1
 rw [e0] at hc hf h1 h2
 have hne:some ad.block≠some g:=ho.neg hgl
 have hg7:=gb_up hg h2 (fun b hb=>by cases hb;exact (ho.lt _ rfl).1)
 exact ⟨⟨y,hc⟩,hf,h1,hC.turn h2 hne (HUP _ hg7),hg7⟩
theorem I64s.set {ys:List Int} (h:I64s ys) {z:Int} (hz:I64 z) (k:Nat):I64s (ys.set k z):=by
 intro x hx
 rcases List.mem_or_eq_of_mem_set hx with hx | rfl
 · exact h x hx
 · exact hz
theorem PermN.I64s {n:Nat} {ys:List Int} (h:PermN n ys) (hn:n≤16):I64s ys:=fun x hx=>by
 have:=h.2.1 x hx
 unfold I64
 omega
theorem s_l22Draw (g:Nat) (vb:Value) (xs:List Int) (hxb:∀ x∈xs,0≤x∧x≤255) (w:World) (hC:Cur w g vb xs) :
 Calls Tryz.prog 159 #[.pointer (some ⟨g,0,none⟩),.int .i64 5] w (RetDL 16 g vb xs w):=by
 have HB:=Lib.hid (s_l01Below g vb xs hxb 6 (by omega) (by omega) w hC)
 have HO:=Lib.hid (fun (n:Nat) (hn:n≤16) (wx:World) (hx:Cur wx g vb xs)=>s_l02Order g vb xs hxb n hn wx hx)
 have HON:=Lib.hid (fun (wx:World) (hx:Cur wx g vb xs)=>s_l01Once g vb xs hxb 14 (by omega) (by omega) wx hx)
 have HNE:=Lib.hid (fun (wx:World) (hx:Cur wx g vb xs)=>s_l01Near g vb xs hxb 0 4 (by omega) (by omega) (by omega) wx hx)
 have hgl:=hC.lt
 have HUP:=Lib.hid (fun (w6:World) (hg:w.grownBy w6 (some g))=>hC.up hg)
 clear hxb
 go_enter Tryz.func159,Tryz.ntmps159
 go_wp2_with fail
 refine HB.out.mono ?_
 rintro e w1 ⟨x,rfl,hx0,hx1,hC1,hg1⟩
 obtain ⟨n,rfl⟩:=Int.eq_ofNat_of_zero_le hx0
 go_wp2_with fail
 refine (HO.out n (by omega) _ hC1).mono ?_
 rintro e w2 ⟨ys,v,hP,rfl,ho,hC2,hg2⟩
 have ho2:=ho.mono (B':=w.heap.size) hg1.size
 have hgg2:=gb_trans hg1 hg2
 have HI:=Lib.hid (hP.I64s (by omega))
 have HL:Hid (ys.length≤16):=by rw [Hid,hP.1];omega
 obtain ⟨a,m,c,rfl,HM,_,_⟩:=ho2.rd.formN
 clear hP ho hC hC1 hg1 hg2 hx0 hx1 HB HO
 by_cases hm:0 < m
 · have d0:decide ((m:Int) > 0)=true:=by simp;omega
   obtain ⟨ad,y,rfl,_,_⟩:=ho2.rd.int (k:=0) (by rw [←HM.out];exact hm)
   go_wp2_with fail
   refine (HON.out _ hC2).mono ?_
   rintro e w3 ⟨⟨b,rfl⟩,hC3,hg3⟩
   have ho3:=ho2.apart hg3 (fun k h1 h2=>ho2.neg hgl (by rw [h1,h2]))
   have hgg3:=gb_trans hgg2 hg3
   clear ho2 hgg2 hg3 hC2
   cases b
   · go_wp2_with fail
     go_ret
     exact ⟨ys,_,HL.out,HI.out,rfl,ho3,hC3,hgg3⟩
   · go_wp2_with (go_at_call 154;refine (HNE.out _ hC3).mono ?_;rintro e w4 ⟨z,rfl,hz0,hz1,hC4,hg4⟩
                  have ho4:=ho3.apart hg4 (fun k h1 h2=>ho3.neg hgl (by rw [h1,h2]))
                  have hgg4:=gb_trans hgg3 hg4
                  obtain ⟨⟨y4,c4⟩,f4,o5,C5,g5⟩:=setFirst ho4 (by rw [←HM.out];exact hm) hC4 hgl hgg4 HUP.out z)
     go_ret
     exact ⟨ys.set 0 z,_,by rw [List.length_set];exact HL.out,HI.out.set ⟨hz0,hz1⟩ 0,rfl,o5,C5,g5⟩
 · have d0:decide ((m:Int) > 0)=false:=by simp;omega
   go_wp2_with fail
   go_ret
   exact ⟨ys,_,HL.out,HI.out,rfl,ho2,hC2,hgg2⟩
theorem s_l21Draw (g:Nat) (vb:Value) (xs:List Int) (hxb:∀ x∈xs,0≤x∧x≤255) (w:World) (hC:Cur w g vb xs) :
 Calls Tryz.prog 160 #[.pointer (some ⟨g,0,none⟩)] w (RetDL 16 g vb xs w):=by
 have HB:=Lib.hid (fun (n:Int) (h1:1≤n) (h2:n≤1000000000) (wx:World) (hx:Cur wx g vb xs)=>s_l01Below g vb xs hxb n h1 h2 wx hx)
 have HO:=Lib.hid (fun (n:Nat) (hn:n≤16) (wx:World) (hx:Cur wx g vb xs)=>s_l02Order g vb xs hxb n hn wx hx)
 have HON:=Lib.hid (fun (q:Int) (h1:1≤q) (h2:q≤1000000000) (wx:World) (hx:Cur wx g vb xs)=>s_l01Once g vb xs hxb q h1 h2 wx hx)
 have HNE:=Lib.hid (fun (wx:World) (hx:Cur wx g vb xs)=>s_l01Near g vb xs hxb 0 4 (by omega) (by omega) (by omega) wx hx)
 have hgl:=hC.lt
 have HUP:=Lib.hid (fun (w6:World) (hg:w.grownBy w6 (some g))=>hC.up hg)
 clear hxb
 go_enter Tryz.func160,Tryz.ntmps160
 go_wp2_with fail
 refine (HB.out 8 (by omega) (by omega) _ hC).mono ?_
 rintro e w1 ⟨x,rfl,hx0,hx1,hC1,hg1⟩
 obtain ⟨n,rfl⟩:=Int.eq_ofNat_of_zero_le hx0
 go_wp2_with fail
 refine (HO.out n (by omega) _ hC1).mono ?_
 rintro e w2 ⟨ys,v,hP,rfl,ho,hC2,hg2⟩
 have ho2:=ho.mono (B':=w.heap.size) hg1.size
 have hgg2:=gb_trans hg1 hg2
 have HI:=Lib.hid (hP.I64s (by omega))
 have HL:Hid (ys.length≤16):=by rw [Hid,hP.1];omega
 obtain ⟨a,m,c,rfl,HM,_,_⟩:=ho2.rd.formN
 clear hP ho hC hC1 hg1 hg2 hx0 hx1
 go_upto_region 2 with (fail)
 go_cut [14] (fun vt wx=>∃ b:Bool,vt=.bool b∧(b=true→0 < m)∧Own wx 3 w.heap.size (.slice a m c) (ints ys)∧Cur wx g vb xs∧w.grownBy wx (some g))
 case first =>
  by_cases hm:0 < m
  · have d0:decide ((m:Int) > 0)=true:=by simp;omega
    go_wp2_with (go_at_call 53;refine (HON.out 12 (by omega) (by omega) _ hC2).mono ?_;rintro e w3 ⟨⟨b,rfl⟩,hC3,hg3⟩)
    go_meet
    exact ⟨b,rfl,fun _=>hm,ho2.apart hg3 (fun k h1 h2=>ho2.neg hgl (by rw [h1,h2])),hC3,gb_trans hgg2 hg3⟩
  · have d0:decide ((m:Int) > 0)=false:=by simp;omega
    go_wp2_with fail
    go_meet
    exact ⟨false,rfl,(fun h=>by cases h),ho2,hC2,hgg2⟩
 case rest =>
 clear ho2 hgg2 hC2
 obtain ⟨b,rfl,hbm,ho3,hC3,hgg3⟩:=hcut
 go_upto_if 14 with (fail)
 go_cut [] (fun wx=>∃ zs:List Int,Hid (zs.length≤16)∧Hid (I64s zs)∧Own wx 3 w.heap.size (.slice a m c) (ints zs)∧Cur wx g vb xs∧w.grownBy wx (some g))
 case first =>
  cases b
  · go_wp2_with fail
    go_meet
    exact ⟨ys,HL,HI,ho3,hC3,hgg3⟩
  · have hm:=hbm rfl
    obtain ⟨ad,y,rfl,_,_⟩:=ho3.rd.int (k:=0) (by rw [←HM.out];exact hm)
    go_wp2_with (go_at_call 154;refine (HNE.out _ hC3).mono ?_;rintro e w4 ⟨z,rfl,hz0,hz1,hC4,hg4⟩
                 have ho4:=ho3.apart hg4 (fun k h1 h2=>ho3.neg hgl (by rw [h1,h2]))
                 have hgg4:=gb_trans hgg3 hg4
                 obtain ⟨⟨y4,c4⟩,f4,o5,C5,g5⟩:=setFirst ho4 (by rw [←HM.out];exact hm) hC4 hgl hgg4 HUP.out z)
    go_meet
    exact ⟨ys.set 0 z,by rw [Hid,List.length_set];exact HL.out,HI.out.set ⟨hz0,hz1⟩ 0,o5,C5,g5⟩
 case rest =>
  clear ho3 hgg3 hC3 HL HI hbm
  obtain ⟨zs,HL,HI,ho2,hC2,hgg2⟩:=hcut
  go_upto_if 20 with (go_at_call 53;refine (HON.out 20 (by omega) (by omega) _ hC2).mono ?_;rintro e w3 ⟨⟨b,rfl⟩,hC3,hg3⟩)
  have ho3:=ho2.apart hg3 (fun k h1 h2=>ho2.neg hgl (by rw [h1,h2]))
  have hgg3:=gb_trans hgg2 hg3
  clear ho2 hgg2 hg3 hC2
  cases b
  · go_wp2_with fail
    go_ret
    exact ⟨zs,_,HL.out,HI.out,rfl,ho3,hC3,hgg3⟩
  · go_wp2_with fail
    refine (HB.out 2 (by omega) (by omega) _ hC3).mono ?_
    rintro e w4 ⟨x,rfl,hx0,hx1,hC4,hg4⟩
    obtain ⟨q,hq⟩:∃ q:Nat,8+x=(q:Int):=⟨(8+x).toNat,by omega⟩
    have hq9:q≤9:=by omega
    have hgg4:=gb_trans hgg3 hg4
    go_wp2_with fail
    try rw [hq]
    refine (HO.out q (by omega) _ hC4).mono ?_
    rintro e w5 ⟨us,v,hP,rfl,ho5,hC5,hg5⟩
    go_wp2_with fail
    go_ret
    exact ⟨us,_,by rw [hP.1];omega,hP.I64s (by omega),rfl,ho5.mono hgg4.size,hC5,gb_trans hgg4 hg5⟩
theorem s_l19Any (g:Nat) (vb:Value) (xs:List Int) (hxb:∀ x∈xs,0≤x∧x≤255) (w:World) (hC:Cur w g vb xs) :
 Calls Tryz.prog 161 #[.pointer (some ⟨g,0,none⟩)] w (RetDL 16 g vb xs w):=by
 have HB:=Lib.hid (fun (n:Int) (h1:1≤n) (h2:n≤1000000000) (wx:World) (hx:Cur wx g vb xs)=>s_l01Below g vb xs hxb n h1 h2 wx hx)
 have HO:=Lib.hid (fun (n:Nat) (hn:n≤16) (wx:World) (hx:Cur wx g vb xs)=>s_l02Order g vb xs hxb n hn wx hx)
 have HLI:=Lib.hid (fun (n:Nat) (hn:n≤16) (wx:World) (hx:Cur wx g vb xs)=>s_l02List g vb xs hxb n (by omega) wx hx)
 have HON:=Lib.hid (fun (q:Int) (h1:1≤q) (h2:q≤1000000000) (wx:World) (hx:Cur wx g vb xs)=>s_l01Once g vb xs hxb q h1 h2 wx hx)
 clear hxb
 go_enter Tryz.func161,Tryz.ntmps161
 go_wp2_with fail
 refine (HB.out 9 (by omega) (by omega) _ hC).mono ?_
 rintro e w1 ⟨x,rfl,hx0,hx1,hC1,hg1⟩
 clear hC
 go_upto_if 7 with (go_at_call 53;refine (HON.out 14 (by omega) (by omega) _ hC1).mono ?_;rintro e w2 ⟨⟨b,rfl⟩,hC2,hg2⟩)
 go_cut [3] (fun vn wx=>∃ q:Nat,vn=.int .i64 (q:Int)∧q≤13∧Cur wx g vb xs∧w.grownBy wx (some g))
 case first =>
  have hgg2:=gb_trans hg1 hg2
  cases b
  · go_wp2_with fail
    go_meet
    exact ⟨x.toNat,by congr 1;omega,by omega,hC2,hgg2⟩
  · go_wp2_with (go_at_call 49;refine (HB.out 3 (by omega) (by omega) _ hC2).mono ?_;rintro e w3 ⟨y,rfl,hy0,hy1,hC3,hg3⟩)
    go_meet
    exact ⟨(11+y).toNat,by congr 1;omega,by omega,hC3,gb_trans hgg2 hg3⟩
 case rest =>
  clear hC1 hg1 hC2 hg2
  obtain ⟨q,rfl,hq,hC2,hgg2⟩:=hcut
  go_upto_if 12 with (go_at_call 53;refine (HON.out 3 (by omega) (by omega) _ hC2).mono ?_;rintro e w3 ⟨⟨b2,rfl⟩,hC3,hg3⟩)
  have hgg3:=gb_trans hgg2 hg3
  clear hC2 hgg2 hg3
  cases b2
  · go_wp2_with fail
    refine (HLI.out q (by omega) _ hC3).mono ?_
    rintro e w5 ⟨us,v,hL,hY,rfl,ho5,hC5,hg5⟩
    go_wp2_with fail
    go_ret
    exact ⟨us,_,by omega,fun z hz=>by have:=hY z hz;unfold I64;omega,rfl,ho5.mono hgg3.size,hC5,gb_trans hgg3 hg5⟩
  · go_wp2_with fail
    refine (HO.out q (by omega) _ hC3).mono ?_
    rintro e w5 ⟨us,v,hP,rfl,ho5,hC5,hg5⟩
    go_wp2_with fail
    go_ret
    exact ⟨us,_,by rw [hP.1];omega,hP.I64s (by omega),rfl,ho5.mono hgg3.size,hC5,gb_trans hgg3 hg5⟩
theorem s_l15Ns (n k:Nat) (hs:Stg n k) (w:World):Calls Tryz.prog 274 #[.int .i64 (n:Int)] w fun e w'=>e=.returned (.bool true)∧w=w':=by
 rcases hs with ⟨rfl,_⟩ | ⟨rfl,_⟩ | ⟨rfl,_⟩
 all_goals
  go_enter Tryz.func274,Tryz.ntmps274
  go_wp2_with fail
  go_ret
  exact ⟨rfl,rfl⟩
theorem xor_two:∀ q:Nat,q < 8→∀ s:Nat,s < 2→bits BinOp.xor IntKind.i64 (q:Int) (s:Int)=((q ^^^ s:Nat):Int):=by decide +kernel
theorem xor_stg {n k q s:Nat} (hs:Stg n k) (hq:q < n) (h2:s < 2):q ^^^ s < n:=by
 have h:∀ q:Nat,q < 8→∀ s:Nat,s < 2→(q < 2→q ^^^ s < 2)∧(q < 4→q ^^^ s < 4)∧q ^^^ s < 8:=by decide
 have:=h q (by rcases hs with ⟨rfl,_⟩ | ⟨rfl,_⟩ | ⟨rfl,_⟩ <;> omega) s h2
 rcases hs with ⟨rfl,_⟩ | ⟨rfl,_⟩ | ⟨rfl,_⟩
 · exact this.1 hq
 · exact this.2.1 hq
 · exact this.2.2
theorem s_RunStages (n k:Nat) (hs:Stg n k) (v:Value) (X:List (List Int)) (w:World) (h:Rd2 w v X) (hX:X.length=k) (hr:∀ r∈X,r.length=n / 2∧∀ y∈r,y=0∨y=1) :
 Calls Tryz.prog 227 #[.int .i64 n,v] w fun e w'=>∃ (ys:List Int) (u:Value),ys.length=n∧I64s ys∧e=.returned u∧Own w' 3 w.heap.size u (ints ys)∧Below w.heap.size w w':=by
 obtain ⟨a,c,rfl,hmc,hc9⟩:=h.form
 rw [hX] at h hmc ⊢
 have hn8:2≤n∧n≤8:=by rcases hs with ⟨rfl,_⟩ | ⟨rfl,_⟩ | ⟨rfl,_⟩ <;> omega
 have HN:=Lib.hid (s_l15Ns n k hs)
 have HST:=Lib.hid (fun W=>s_l15Stages n k W hs)
 have HSH:=Lib.hid (fun (p:Nat) (hp:p < n) (W:World)=>s_l15Shuffle n k p W hs hp)
 have HFI:=Lib.hid (s_l04First n w (by omega))
 have HIN:=Lib.hid (fun (s:Nat) (h:s < 2) (W:World)=>(show inB (s:Int) 0 1=true by rw [inB_iff];omega) ▸ s_l01In (s:Int) 0 1 W)
 have HSL:=Lib.hid (fun (p:Nat) (hp:p < n)=>shf_lt hs hp)
 have HXO:=Lib.hid (fun (q s:Nat) (hq:q < n) (h2:s < 2)=>(⟨xor_two q (by omega) s h2,xor_stg hs hq h2⟩:_∧_))
 have HX:=Lib.hid hX
 have HR:=Lib.hid hr
 have nn:((k:Int) != (k:Int))=false:=by simp
 have hev:Hid (n / 2+n / 2=n):=by rcases hs with ⟨rfl,_⟩ | ⟨rfl,_⟩ | ⟨rfl,_⟩ <;> rfl
 obtain ⟨hh,hhh⟩:∃ hh,n / 2=hh:=⟨_,rfl⟩
 have hq2:(n:Int) / 2=(hh:Int):=by omega
 have HHH:=Lib.hid hhh
 clear hX hr hs hhh
 go_enter Tryz.func227,Tryz.ntmps227
 go_upto_if 22 with (first
  | (go_at_call 274;refine (HN.out _).mono ?_;rintro e w1 ⟨rfl,rfl⟩)
  | (go_at_call 226;refine (HST.out _).mono ?_;rintro e w1 ⟨rfl,rfl⟩))
 go_wp2_with (go_at_call 275;refine HFI.out.mono ?_;rintro e w1 ⟨vn,rfl,on,b1⟩;obtain ⟨an,mn,cn,rfl,HMN,_,_⟩:=on.rd.formN;obtain rfl:mn=n:=(HMN.out.trans (stairs_length n)))
 have HS0:Hid ((stairs mn).length=mn):=stairs_length mn
 have HS1:Hid (∀ y∈stairs mn,0≤y∧y≤8):=fun y hy=>by
  obtain ⟨j,hj⟩:=List.getElem?_of_mem hy
  have:=stairs_get hj
  omega
 go_loopg [5,27] k (fun g vn iv wr=>∃ (q:Nat) (ys:List Int) (ap:Option Addr) (cp:Nat),g=k - q∧q≤k∧iv=.int .i64 (q:Int)∧vn=.slice ap mn cp∧Hid (ys.length=mn)∧Hid (∀ y∈ys,0≤y∧y≤8)∧Own wr 3 w.heap.size (.slice ap mn cp) (ints ys)∧Below w.heap.size w wr)
 case atStart=>exact ⟨0,stairs mn,an,cn,rfl,Nat.zero_le _,rfl,rfl,HS0,HS1,on,b1⟩
 case round =>
  clear on b1 HS0 HS1
  obtain ⟨q,ys,ap,cp,hg,hq,rfl,rfl,HL,HY,ho,hb⟩:=hrel
  by_cases hlt:q < k
  · have i0:(q:Int) < (k:Int):=by omega
    obtain ⟨ad,b,m',d,row,rfl,hcr,hx,hm,hmd,hd,rr⟩:=(h.below hb).row (k:=q) (by rw [HX.out];exact hlt)
    have hrow:=HR.out row (List.mem_of_getElem? hx.out)
    obtain rfl:m'=hh:=by have:=hm.out;have:=HHH.out;omega
    have HRB:=Lib.hid hrow.2
    have HRL:Hid (row.length=m'):=hm.out.symm
    have n2:((m':Int) != (m':Int))=false:=by simp
    clear hrow hx hm
    go_wp2_with (at_make;refine wpList_mk rfl _ _ 23 rfl elI rfl rfl (Nat.le_refl _) (by omega) (by omega) ?_;intro bn w4 hb4 ho4 hg4)
    have HZ0:Hid ((List.replicate mn (Value.int .i64 0))=ints (List.replicate mn 0)):=by simp [ints,Hid]
    rw [HZ0.out] at ho4
    have bb4:Below wr.heap.size wr w4:=(Below.refl _ _).grown hg4 (Nat.le_refl _) (fun _ h=>by cases h)
    go_loopg [40] mn (fun g pv wx=>∃ (p:Nat) (zs:List Int),g=mn - p∧p≤mn∧pv=.int .i64 (p:Int)∧Hid (zs.length=mn)∧Hid (∀ y∈zs,0≤y∧y≤8)∧Own wx 3 wr.heap.size (.slice (some bn) mn mn) (ints zs)∧Below wr.heap.size wr wx)
    case atStart=>exact ⟨0,_,rfl,Nat.zero_le _,rfl,by simp [Hid],(fun y hy=>by rw [List.eq_of_mem_replicate hy];omega),ho4,bb4⟩
    case round =>
     clear ho4 bb4 hg4
     obtain ⟨p,zs,hgp,hp,rfl,HZL,HZY,hoz,hbz⟩:=hrel
     by_cases hpl:p < mn
     · have i1:(p:Int) < (mn:Int):=by omega
       obtain ⟨ad2,y,rfl,hcy,hy⟩:=(ho.rd.below hbz).int (k:=p) (by rw [HL.out];exact hpl)
       have hyb:=HY.out y (List.mem_of_getElem? hy.out)
       have hsl:=HSL.out p hpl
       have HSP:=Lib.hid (HSH.out p hpl)
       obtain ⟨t,ht⟩:∃ t,shf mn p=t:=⟨_,rfl⟩
       rw [ht] at hsl HSP
       have ht2:(t:Int) / 2=((t / 2:Nat):Int):=by omega
       obtain ⟨u,hu⟩:∃ u,t / 2=u:=⟨_,rfl⟩
       rw [hu] at ht2
       have hul:u < m':=by have:=hev.out;have:=HHH.out;omega
       obtain ⟨ad3,s0,rfl,hcs,hs0⟩:=(rr.below hbz).int (k:=u) (by rw [HRL.out];exact hul)
       obtain ⟨s,rfl,hs2⟩:∃ s:Nat,s0=(s:Int)∧s < 2:=by
        rcases HRB.out s0 (List.mem_of_getElem? hs0.out) with rfl | rfl
        · exact ⟨0,rfl,by omega⟩
        · exact ⟨1,rfl,by omega⟩
       obtain ⟨hxo,hxl⟩:=HXO.out t s hsl hs2
       obtain ⟨r,hrr⟩:∃ r,t ^^^ s=r:=⟨_,rfl⟩
       rw [hrr] at hxo hxl
       have HIS:=Lib.hid (HIN.out s hs2)
       have hl:r < zs.length:=by rw [HZL.out];exact hxl
       have fz:=hoz.frozen rfl r
       obtain ⟨adz,yz,hez,hcz,_⟩:=hoz.rd.int (k:=r) hl
       obtain rfl:bn=adz:=by injection hez
       have hsz:=(hoz.seti rfl hl y).1
       have hbs:=hoz.below_set rfl hl (.int .i64 y) hbz (Nat.le_refl _)
       have i2:(u:Int) < (m':Int):=by omega
       have i3:(r:Int) < (mn:Int):=by omega
       have HZ3:Hid (∀ z∈zs.set r y,0≤z∧z≤8):=fun z hz=>by
        rcases List.mem_or_eq_of_mem_set hz with hz | rfl
        · exact HZY.out z hz
        · exact hyb
       have HZ4:Hid ((zs.set r y).length=mn):=by rw [Hid,List.length_set];exact HZL.out
       clear hs0 hy ht hu hrr hez hl
       go_wp2_with (first
        | (go_at_call 276;refine (HSP.out _).mono ?_;rintro e w5 ⟨rfl,rfl⟩)
        | (go_at_call 175;refine (HIS.out _).mono ?_;rintro e w5 ⟨rfl,rfl⟩))
       go_roundg (mn - (p+1))
       case measure=>omega
       case rel=>exact ⟨p+1,_,rfl,by omega,by go_num,HZ4,HZ3,hsz,hbs⟩
     · obtain rfl:p=mn:=by omega
       go_wp2_with fail
       go_roundg (k - (q+1))
       case measure=>omega
       case rel=>exact ⟨q+1,zs,_,_,rfl,by omega,by go_num,rfl,HZL,HZY,hoz.mono hb.size,hb.trans (hbz.mono hb.size)⟩
  · obtain rfl:q=k:=by omega
    go_wp2_with fail
    go_ret
    exact ⟨ys,_,HL.out,fun y hy=>by have:=HY.out y hy;unfold I64;omega,rfl,ho,hb⟩
theorem s_l15Draw (g:Nat) (vb:Value) (xs:List Int) (hxb:∀ x∈xs,0≤x∧x≤255) (w:World) (hC:Cur w g vb xs) :
 Calls Tryz.prog 193 #[.pointer (some ⟨g,0,none⟩)] w fun e w'=>∃ (ys:List Int) (v:Value),1≤ys.length∧ys.length≤8∧I64s ys∧e=.returned v∧Own w' 3 w.heap.size v (ints ys)∧Cur w' g vb xs∧w.grownBy w' (some g):=by
 have HB:=Lib.hid (fun (wx:World) (hx:Cur wx g vb xs)=>s_l01Below g vb xs hxb 2 (by omega) (by omega) wx hx)
 have HPK:=Lib.hid (fun (vl:Value) (wx:World) (hx:Cur wx g vb xs) (hr:Rd wx vl (ints [2,4,8])) (hne:vl.ownBlock≠some g)=>s_l01Pick g vb xs hxb vl [2,4,8] (by simp) (by simp) wx hx hr hne)
 have HO:=Lib.hid (fun (n:Nat) (hn:n≤16) (wx:World) (hx:Cur wx g vb xs)=>s_l02Order g vb xs hxb n hn wx hx)
 have HON:=Lib.hid (fun (wx:World) (hx:Cur wx g vb xs)=>s_l01Once g vb xs hxb 2 (by omega) (by omega) wx hx)
 have hgl:=hC.lt
 have HUP:=Lib.hid (fun (w6:World) (hg:w.grownBy w6 (some g))=>hC.up hg)
 clear hxb
 have hbA:Below w.heap.size w (w.alloc (.cells #[.int .i64 2,.int .i64 4,.int .i64 8] 3)):=(Below.refl _ _).alloc (Nat.le_refl _) _
 have hCA:=hC.below hbA
 have hlit:Rd (w.alloc (.cells #[.int .i64 2,.int .i64 4,.int .i64 8] 3)) (.slice (some ⟨w.heap.size,0,none⟩) 3 3) (ints [2,4,8]):=by
  have:=(Own.lit w 3 w.heap.size #[.int .i64 2,.int .i64 4,.int .i64 8] (Nat.le_refl _) (by simp)).rd
  simpa [ints] using this
 have hneL:(Value.slice (some ⟨w.heap.size,0,none⟩) 3 3).ownBlock≠some g:=fun e=>by have : w.heap.size=g:=Option.some.inj e;omega
 go_enter Tryz.func193,Tryz.ntmps193
 go_wp2_with fail
 refine (HPK.out _ _ hCA hlit hneL).mono ?_
 rintro e w1 ⟨n0,hn0,rfl,hC1,hg1⟩
 obtain ⟨n,k,rfl,hs⟩:∃ n k:Nat,n0=(n:Int)∧Stg n k:=by
  simp only [List.mem_cons,List.not_mem_nil,or_false] at hn0
  rcases hn0 with rfl | rfl | rfl
  · exact ⟨2,1,rfl,.inl ⟨rfl,rfl⟩⟩
  · exact ⟨4,2,rfl,.inr (.inl ⟨rfl,rfl⟩)⟩
  · exact ⟨8,3,rfl,.inr (.inr ⟨rfl,rfl⟩)⟩
 have hn8:2≤n∧n≤8∧k≤3:=by rcases hs with ⟨rfl,rfl⟩ | ⟨rfl,rfl⟩ | ⟨rfl,rfl⟩ <;> omega
 have hgg1:=gb_trans (gb_below (World.grownBy.refl _ _) hbA) hg1
 clear hn0 hCA hlit hneL hg1 hbA hC
 go_wp2_with fail
 refine (HON.out _ hC1).mono ?_
 rintro e w2 ⟨⟨b,rfl⟩,hC2,hg2⟩
 have hgg2:=gb_trans hgg1 hg2
 clear hC1 hgg1 hg2
 cases b
 · go_wp2_with fail
   refine (HO.out n (by omega) _ hC2).mono ?_
   rintro e w5 ⟨us,v,hP,rfl,ho5,hC5,hg5⟩
   go_wp2_with fail
   go_ret
   exact ⟨us,_,by rw [hP.1];omega,by rw [hP.1];omega,hP.I64s (by omega),rfl,ho5.mono hgg2.size,hC5,gb_trans hgg2 hg5⟩
 · have HST:=Lib.hid (fun W=>s_l15Stages n k W hs)
   have HRS:=Lib.hid (fun (v:Value) (X:List (List Int)) (W:World) (h:Rd2 W v X) (hX:X.length=k) (hr:∀ r∈X,r.length=n / 2∧∀ y∈r,y=0∨y=1)=>s_RunStages n k hs v X W h hX hr)
   obtain ⟨hh,hhh⟩:∃ hh,n / 2=hh:=⟨_,rfl⟩
   have hq2:(n:Int) / 2=(hh:Int):=by omega
   have hh4:hh≤4:=by omega
   rw [hhh] at HRS
   clear hhh
   have hoS:=OwnP.lit0 (B:=w.heap.size) w2 hgg2.size
   have hCS:=hC2.alloc (.cells #[] 23)
   have hgS:=gb_alloc hgg2 (.cells #[] 23)
   clear hs hC2 hgg2
   go_wp2_with fail
   go_loopg [4,5] k (fun gq vl iv wr=>∃ (q:Nat) (X:List (List Int)) (a3:Option Addr) (m3 c3:Nat),gq=k - q∧q≤k∧iv=.int .i64 (q:Int)∧vl=.slice a3 m3 c3∧Hid (X.length=q)∧Hid (∀ r∈X,r.length=hh∧∀ y∈r,y=0∨y=1)∧OwnP wr w.heap.size (.slice a3 m3 c3) X∧Cur wr g vb xs∧w.grownBy wr (some g))
   case atStart=>exact ⟨0,[],_,_,_,rfl,Nat.zero_le _,rfl,rfl,rfl,(fun r hr=>by cases hr),hoS,hCS,hgS⟩
   case round =>
    clear hoS hCS hgS
    obtain ⟨q,X,a3,m3,c3,hgq,hq,rfl,rfl,HXL,HXR,ho,hC,hg⟩:=hrel
    by_cases hlt:q < k
    · have i0:(q:Int) < (k:Int):=by omega
      have hsz:=hg.size
      have hbB:Below wr.heap.size wr (wr.alloc (.cells #[] 3)):=(Below.refl _ _).alloc (Nat.le_refl _) _
      have hCB:=hC.below hbB
      have hl0:=Own.lit0 (B:=wr.heap.size) wr 3 (Nat.le_refl _)
      have hgwr:=hC.lt
      go_wp2_with (go_at_call 226;refine (HST.out _).mono ?_;rintro e w3 ⟨rfl,rfl⟩)
      go_loopg [6,7] hh (fun gp vr kv wx=>∃ (p:Nat) (ys:List Int),gp=hh - p∧p≤hh∧kv=.int .i64 (p:Int)∧Hid (ys.length=p)∧Hid (∀ y∈ys,y=0∨y=1)∧Own wx 3 wr.heap.size vr (ints ys)∧Cur wx g vb xs∧wr.grownBy wx (some g))
      case atStart=>exact ⟨0,[],rfl,Nat.zero_le _,rfl,rfl,(fun r hr=>by cases hr),hl0,hCB,gb_below (World.grownBy.refl _ _) hbB⟩
      case round =>
       clear hl0 hCB hbB
       obtain ⟨p,ys,hgp,hp,rfl,HYL,HYB,hoy,hCx,hgx⟩:=hrel
       by_cases hpl:p < hh
       · have i1:(p:Int) < (hh:Int):=by omega
         obtain ⟨al,ml,cl,rfl,HML,_,_⟩:=hoy.rd.formN
         have hml:ml≤8:=by have:=HML.out;have:=HYL.out;omega
         have HYM:Hid ((ints ys).length=ml):=by rw [Hid,ints_length,HML.out]
         go_wp2_with (first
          | (go_at_call 49;refine (HB.out _ hCx).mono ?_;rintro e w3 ⟨m,rfl,hm0,hm1,hC3,hg3⟩
             have hoy3:=hoy.apart hg3 (fun k h1 h2=>by injection h2 with h2;have:=(hoy.lt k h1).1;omega)
             have hgg3:=gb_trans hgx hg3)
          | (at_builtin;refine wpList_app1m rfl _ _ 23 rfl elI rfl hoy3 (by show Value.slice (some ⟨w3.heap.size,0,none⟩) 1 1=_;simp) rfl hgg3.size _ HYM.out (by omega) (by omega) ?_;intro b6 c6 w6 ho6 hg6 hat6))
         have hg7:=gb_up hgg3 hg6 (fun b hb=>(hoy3.lt b hb).1)
         have hC6:=hC3.turn hg6 (fun e=>by have:=(hoy3.lt g e).1;omega) (HUP.out _ (gb_trans hg hg7))
         go_roundg (hh - (p+1))
         case measure=>omega
         case rel =>
          refine ⟨p+1,ys++[m],rfl,by omega,by go_num,by rw [Hid,List.length_append,HYL.out];rfl,(fun z hz=>?_),by rw [ints_append];exact ho6,hC6,hg7⟩
          rcases List.mem_append.1 hz with hz | hz
          · exact HYB.out z hz
          · rw [List.mem_singleton] at hz
            subst hz
            omega
       · obtain rfl:p=hh:=by omega
         obtain ⟨a5,m5,c5,rfl,_,_,_⟩:=hoy.rd.formN
         obtain ⟨rows,hov,hrp⟩:=ho.under hgx (fun k hk=>by injection hk with hk;omega)
         have HLR:Hid (rows.length=m3):=by
          obtain ⟨p1,q1,e1,_,_⟩:=hov.rd.form
          injection e1 with _ e2 _
          exact e2.symm
         have hmo:m3≤8:=by have h1:=HLR.out;have h2:=HXL.out;have h3:=hrp.1;omega
         have hgw:=gb_trans hg hgx
         go_wp2_with (at_builtin;refine wpList_app1m rfl _ _ 28 rfl elII rfl hov (by show Value.slice (some ⟨_,0,none⟩) 1 1=_;simp) rfl hgw.size _ HLR.out (by omega) (by omega) ?_;intro b6 c6 w6 ho6 hg6 hat6)
         have hg7:=gb_up hgw hg6 (fun b hb=>(hov.lt b hb).1)
         have hC6:=hCx.turn hg6 (fun e=>by have:=(hov.lt g e).1;omega) (HUP.out _ hg7)
         have ho7:OwnP w6 w.heap.size (.slice b6 (m3+1) c6) (X++[ys]):=⟨_,ho6,(hrp.app (RowsP.single (hoy.mono hsz))).outer hg6 hov⟩
         go_roundg (k - (q+1))
         case measure=>omega
         case rel =>
          refine ⟨q+1,X++[ys],_,_,_,rfl,by omega,by go_num,rfl,by rw [Hid,List.length_append,HXL.out];rfl,(fun r hr=>?_),ho7,hC6,hg7⟩
          rcases List.mem_append.1 hr with hr | hr
          · exact HXR.out r hr
          · rw [List.mem_singleton] at hr
            subst hr
            exact ⟨HYL.out,HYB.out⟩
    · obtain rfl:q=k:=by omega
      go_wp2_with (first
       | (go_at_call 226;refine (HST.out _).mono ?_;rintro e w3 ⟨rfl,rfl⟩)
       | (go_at_call 227;refine (HRS.out _ X _ ho.rd2 HXL.out HXR.out).mono ?_;rintro e w4 ⟨ys,u,hyl,hyi,rfl,o4,b4⟩))
      go_ret
      exact ⟨ys,_,by omega,by omega,hyi,rfl,o4.mono hg.size,hC.below b4,gb_below hg b4⟩
theorem s_l15Any (g:Nat) (vb:Value) (xs:List Int) (hxb:∀ x∈xs,0≤x∧x≤255) (w:World) (hC:Cur w g vb xs) :
 Calls Tryz.prog 158 #[.pointer (some ⟨g,0,none⟩)] w (RetDL 16 g vb xs w):=by
 have HD:=Lib.hid (s_l15Draw g vb xs hxb w hC)
 have HON:=Lib.hid (fun (wx:World) (hx:Cur wx g vb xs)=>s_l01Once g vb xs hxb 12 (by omega) (by omega) wx hx)
 have HNE:=Lib.hid (fun (wx:World) (hx:Cur wx g vb xs)=>s_l01Near g vb xs hxb 0 3 (by omega) (by omega) (by omega) wx hx)
 have hgl:=hC.lt
 have HUP:=Lib.hid (fun (w6:World) (hg:w.grownBy w6 (some g))=>hC.up hg)
 clear hxb
 go_enter Tryz.func158,Tryz.ntmps158
 go_wp2_with fail
 refine HD.out.mono ?_
 rintro e w2 ⟨ys,v,hy1,hy8,hyi,rfl,ho2,hC2,hgg2⟩
 have HI:=Lib.hid hyi
 obtain ⟨a,m,c,rfl,HM,_,_⟩:=ho2.rd.formN
 have hm:0 < m:=by have:=HM.out;omega
 obtain ⟨ad,y,rfl,_,_⟩:=ho2.rd.int (k:=0) (by rw [←HM.out];exact hm)
 have HL:Hid (ys.length≤16):=by rw [Hid];omega
 clear hC hyi hy1 hy8 HD
 go_wp2_with fail
 refine (HON.out _ hC2).mono ?_
 rintro e w3 ⟨⟨b,rfl⟩,hC3,hg3⟩
 have ho3:=ho2.apart hg3 (fun k h1 h2=>ho2.neg hgl (by rw [h1,h2]))
 have hgg3:=gb_trans hgg2 hg3
 clear ho2 hgg2 hg3 hC2
 cases b
 · go_wp2_with fail
   go_ret
   exact ⟨ys,_,HL.out,HI.out,rfl,ho3,hC3,hgg3⟩
 · go_wp2_with (go_at_call 154;refine (HNE.out _ hC3).mono ?_;rintro e w4 ⟨z,rfl,hz0,hz1,hC4,hg4⟩
                have ho4:=ho3.apart hg4 (fun k h1 h2=>ho3.neg hgl (by rw [h1,h2]))
                have hgg4:=gb_trans hgg3 hg4
                obtain ⟨⟨y4,c4⟩,f4,o5,C5,g5⟩:=setFirst ho4 (by rw [←HM.out];exact hm) hC4 hgl hgg4 HUP.out z)
   go_ret
   exact ⟨ys.set 0 z,_,by rw [List.length_set];exact HL.out,HI.out.set ⟨hz0,hz1⟩ 0,rfl,o5,C5,g5⟩
theorem Txt.lit {l:Array UInt8} {K:Nat} (h:(decide (l.size≤K) && l.toList.all (fun x=>x != 10))=true):Txt K ⟨l⟩:=by
 simp only [Bool.and_eq_true,decide_eq_true_eq,List.all_eq_true,bne_iff_ne] at h
 exact h
theorem s_l30Line (g:Nat) (vb:Value) (xs:List Int) (hxb:∀ x∈xs,0≤x∧x≤255) (w:World) (hC:Cur w g vb xs) :
 Calls Tryz.prog 97 #[.pointer (some ⟨g,0,none⟩)] w (RetDS 5000 g vb xs w):=by
 have HSM:=Lib.hid (s_l30Small g vb xs hxb w hC)
 have HB:=Lib.hid (fun (n:Int) (h1:1≤n) (h2:n≤1000000000) (wx:World) (hx:Cur wx g vb xs)=>s_l01Below g vb xs hxb n h1 h2 wx hx)
 have HNW:=Lib.hid (fun (wx:World) (hx:Cur wx g vb xs)=>s_l02Draw g vb xs hxb wx hx)
 have HNE:=Lib.hid (fun (wx:World) (hx:Cur wx g vb xs)=>s_l01Near g vb xs hxb 1 8 (by omega) (by omega) (by omega) wx hx)
 have HST:=Lib.hid (fun (l:List (List UInt8)) (h1:1≤l.length) (h2:l.length≤1000) (vl:Value) (wx:World) (hx:Cur wx g vb xs) (hr:Rd wx vl (strs l)) (hne:vl.ownBlock≠some g)=>s_l01Str g vb xs hxb vl l h1 h2 wx hx hr hne)
 have HLI:=Lib.hid (fun (n:Nat) (hn:n≤16) (wx:World) (hx:Cur wx g vb xs)=>s_l02List g vb xs hxb n (by omega) wx hx)
 have HTK:=Lib.hid (fun (n:Nat) (hn:n≤16) (wx:World) (hx:Cur wx g vb xs)=>s_l13Tokens g vb xs hxb n hn wx hx)
 have H15:=Lib.hid (fun (wx:World) (hx:Cur wx g vb xs)=>s_l15Any g vb xs hxb wx hx)
 have H20:=Lib.hid (fun (wx:World) (hx:Cur wx g vb xs)=>s_l20Draw g vb xs hxb wx hx)
 have H22:=Lib.hid (fun (wx:World) (hx:Cur wx g vb xs)=>s_l22Draw g vb xs hxb wx hx)
 have H21:=Lib.hid (fun (wx:World) (hx:Cur wx g vb xs)=>s_l21Draw g vb xs hxb wx hx)
 have H19:=Lib.hid (fun (wx:World) (hx:Cur wx g vb xs)=>s_l19Any g vb xs hxb wx hx)
 have H24:=Lib.hid (fun (wx:World) (hx:Cur wx g vb xs)=>s_l24Draw g vb xs hxb wx hx)
 have HFI:Hid (∀ (x:Int),I64 x→∀ W,Calls Tryz.prog 153 #[.int .i64 x] W (RetB (.string (bstr (Lib.itoa x))) W)):=fun x h W=>S_FormatInt W x h
 have HFN:Hid (∀ (ys:List Int) (v:Value) (W:World),Rd W v (ints ys)→I64s ys→ys.length≤40→Calls Tryz.prog 156 #[v] W fun e w'=>∃ B,Txt 2000 B∧e=.returned (.string B)∧Below W.heap.size W w'):=fun ys v W h fx hl =>
  (S_FormatNumbers W v ys h fx (by omega)).mono fun e w' hh=>⟨_,.nums fx hl,hh.1,hh.2⟩
 have HFW:Hid (∀ (n:Nat) (X:List (List Int)) (v:Value) (W:World),Rd2 W v X→1≤n→n≤6→X.length≤12→(∀ r∈X,netRow n r=true)→Calls Tryz.prog 151 #[.agg #[.int .i64 n,v]] W fun e w'=>∃ B,Txt 4000 B∧e=.returned (.string B)∧Below W.heap.size W w'):=fun n X v W h h1 h2 h3 h4=>by
  have hk:netOk (n:Int) X=true:=netOk_iff.2 ⟨⟨by omega,by omega⟩,by omega,h4⟩
  exact (s_FormatNetworkOk n v X W h hk).mono fun e w' hh=>⟨_,.of (fmtNet_len (p:=((n:Int),X)) hk) (fmtNet_nl (p:=((n:Int),X)) hk),hh.1,hh.2⟩
 have hgl:=hC.lt
 clear hxb
 go_enter Tryz.func97,Tryz.ntmps97
 go_wp2_with fail
 refine HSM.out.mono ?_
 rintro e w1 ⟨D,hD,rfl,hC1,hg1⟩
 go_wp2_with fail
 refine (HB.out 30 (by omega) (by omega) _ hC1).mono ?_
 rintro e w2 ⟨x,rfl,hx0,hx1,hC2,hg2⟩
 obtain ⟨n,rfl⟩:=Int.eq_ofNat_of_zero_le hx0
 have hn:n < 30:=by omega
 have hgg2:=gb_trans hg1 hg2
 have HD:=Lib.hid hD
 have hDs:=hD.1
 clear hC hC1 hg1 hg2 hx0 hx1 hD HSM
 have hgw:=hC2.lt
 match n,hn with
 | 0,_ =>
   go_wp2_with (first
    | (go_at_call 152;refine (HNW.out _ hC2).mono ?_;rintro e w3 ⟨m,X,v3,h1,h6,h12,hr,rfl,o3,hC3,hg3⟩)
    | (go_at_call 151;refine (HFW.out m X v3 _ o3.rd h1 h6 h12 hr).mono ?_;rintro e w4 ⟨F,hT,rfl,b4⟩;have hC4:=hC3.below b4;have hg4:=gb_below (gb_trans hgg2 hg3) b4;have hFs:=hT.1;have q3:¬ 9223372036854775807 < 4+F.size:=(by omega)))
   go_ret
   exact ⟨_,(Txt.app (.lit (K:=4) (by decide)) hT).mono (by omega),rfl,hC4,hg4⟩
 | 1,_ =>
   go_wp2_with (first
    | (go_at_call 154;refine (HNE.out _ hC2).mono ?_;rintro e w3 ⟨y,rfl,hy0,hy1,hC3,hg3⟩;have hy:I64 y:=⟨hy0,hy1⟩)
    | (go_at_call 153;refine (HFI.out y hy _).mono ?_;rintro e w4 ⟨rfl,b4⟩;have hC4:=hC3.below b4;have hg4:=gb_below (gb_trans hgg2 hg3) b4;obtain ⟨F,hF⟩:∃ F,bstr (Lib.itoa y)=F:=⟨_,rfl⟩;have hT:Txt 20 F:=(by rw [←hF];exact .int hy);have hFs:=hT.1;rw [hF];have q3:¬ 9223372036854775807 < 6+F.size:=(by omega)))
   go_ret
   exact ⟨_,(Txt.app (.lit (K:=6) (by decide)) hT).mono (by omega),rfl,hC4,hg4⟩
 | 2,_ =>
   have q1:¬ 9223372036854775807 < 5+D.size:=by omega
   have q2:¬ 9223372036854775807 < 5+D.size+1:=by omega
   go_wp2_with (first
    | (go_at_call 49;refine (HB.out 5 (by omega) (by omega) _ hC2).mono ?_;rintro e w3 ⟨y,rfl,hy0,hy1,hC3,hg3⟩;have hy:I64 y:=(by unfold I64;omega))
    | (go_at_call 153;refine (HFI.out y hy _).mono ?_;rintro e w4 ⟨rfl,b4⟩;have hC4:=hC3.below b4;have hg4:=gb_below (gb_trans hgg2 hg3) b4;obtain ⟨F,hF⟩:∃ F,bstr (Lib.itoa y)=F:=⟨_,rfl⟩;have hT:Txt 20 F:=(by rw [←hF];exact .int hy);have hFs:=hT.1;rw [hF];have q3:¬ 9223372036854775807 < 5+D.size+1+F.size:=(by omega)))
   go_ret
   exact ⟨_,(((Txt.app (.lit (K:=5) (by decide)) HD.out).app (.lit (K:=1) (by decide))).app hT).mono (by omega),rfl,hC4,hg4⟩
 | 3,_ =>
   have q1:¬ 9223372036854775807 < 5+D.size:=by omega
   have q2:¬ 9223372036854775807 < 5+D.size+1:=by omega
   go_wp2_with (first
    | (go_at_call 49;refine (HB.out 5 (by omega) (by omega) _ hC2).mono ?_;rintro e w3 ⟨y,rfl,hy0,hy1,hC3,hg3⟩;have hy:I64 y:=(by unfold I64;omega))
    | (go_at_call 153;refine (HFI.out y hy _).mono ?_;rintro e w4 ⟨rfl,b4⟩;have hC4:=hC3.below b4;have hg4:=gb_below (gb_trans hgg2 hg3) b4;obtain ⟨F,hF⟩:∃ F,bstr (Lib.itoa y)=F:=⟨_,rfl⟩;have hT:Txt 20 F:=(by rw [←hF];exact .int hy);have hFs:=hT.1;rw [hF];have q3:¬ 9223372036854775807 < 5+D.size+1+F.size:=(by omega)))
   go_ret
   exact ⟨_,(((Txt.app (.lit (K:=5) (by decide)) HD.out).app (.lit (K:=1) (by decide))).app hT).mono (by omega),rfl,hC4,hg4⟩
 | 4,_ =>
   have q1:¬ 9223372036854775807 < 5+D.size:=by omega
   have q2:¬ 9223372036854775807 < 5+D.size+1:=by omega
   go_wp2_with (first
    | (go_at_call 49;refine (HB.out 5 (by omega) (by omega) _ hC2).mono ?_;rintro e w3 ⟨y,rfl,hy0,hy1,hC3,hg3⟩;have hy:I64 y:=(by unfold I64;omega))
    | (go_at_call 153;refine (HFI.out y hy _).mono ?_;rintro e w4 ⟨rfl,b4⟩;have hC4:=hC3.below b4;have hg4:=gb_below (gb_trans hgg2 hg3) b4;obtain ⟨F,hF⟩:∃ F,bstr (Lib.itoa y)=F:=⟨_,rfl⟩;have hT:Txt 20 F:=(by rw [←hF];exact .int hy);have hFs:=hT.1;rw [hF];have q3:¬ 9223372036854775807 < 5+D.size+1+F.size:=(by omega)))
   go_ret
   exact ⟨_,(((Txt.app (.lit (K:=5) (by decide)) HD.out).app (.lit (K:=1) (by decide))).app hT).mono (by omega),rfl,hC4,hg4⟩
 | 5,_ =>
   have q1:¬ 9223372036854775807 < 5+D.size:=by omega
   go_wp2_with fail
   go_ret
   exact ⟨_,(Txt.app (.lit (K:=5) (by decide)) HD.out).mono (by omega),rfl,hC2,hgg2⟩
 | 6,_ =>
   have q1:¬ 9223372036854775807 < 7+D.size:=by omega
   go_wp2_with fail
   go_ret
   exact ⟨_,(Txt.app (.lit (K:=7) (by decide)) HD.out).mono (by omega),rfl,hC2,hgg2⟩
 | 7,_ =>
   have q1:¬ 9223372036854775807 < 6+D.size:=by omega
   have q2:¬ 9223372036854775807 < 6+D.size+1:=by omega
   go_wp2_with (first
    | (go_at_call 49;refine (HB.out 5 (by omega) (by omega) _ hC2).mono ?_;rintro e w3 ⟨y,rfl,hy0,hy1,hC3,hg3⟩;have hy:I64 y:=(by unfold I64;omega))
    | (go_at_call 153;refine (HFI.out y hy _).mono ?_;rintro e w4 ⟨rfl,b4⟩;have hC4:=hC3.below b4;have hg4:=gb_below (gb_trans hgg2 hg3) b4;obtain ⟨F,hF⟩:∃ F,bstr (Lib.itoa y)=F:=⟨_,rfl⟩;have hT:Txt 20 F:=(by rw [←hF];exact .int hy);have hFs:=hT.1;rw [hF];have q3:¬ 9223372036854775807 < 6+D.size+1+F.size:=(by omega)))
   go_ret
   exact ⟨_,(((Txt.app (.lit (K:=6) (by decide)) HD.out).app (.lit (K:=1) (by decide))).app hT).mono (by omega),rfl,hC4,hg4⟩
 | 8,_ =>
   have q1:¬ 9223372036854775807 < 8+D.size:=by omega
   go_wp2_with fail
   go_ret
   exact ⟨_,(Txt.app (.lit (K:=8) (by decide)) HD.out).mono (by omega),rfl,hC2,hgg2⟩
 | 9,_ =>
   have q1:¬ 9223372036854775807 < 8+D.size:=by omega
   go_wp2_with fail
   go_ret
   exact ⟨_,(Txt.app (.lit (K:=8) (by decide)) HD.out).mono (by omega),rfl,hC2,hgg2⟩
 | 10,_ =>
   have q1:¬ 9223372036854775807 < 6+D.size:=by omega
   have q2:¬ 9223372036854775807 < 6+D.size+1:=by omega
   go_wp2_with (first
    | (go_at_call 49;refine (HB.out 4 (by omega) (by omega) _ hC2).mono ?_;rintro e w3 ⟨y,rfl,hy0,hy1,hC3,hg3⟩;have hy:I64 y:=(by unfold I64;omega))
    | (go_at_call 153;refine (HFI.out y hy _).mono ?_;rintro e w4 ⟨rfl,b4⟩;have hC4:=hC3.below b4;have hg4:=gb_below (gb_trans hgg2 hg3) b4;obtain ⟨F,hF⟩:∃ F,bstr (Lib.itoa y)=F:=⟨_,rfl⟩;have hT:Txt 20 F:=(by rw [←hF];exact .int hy);have hFs:=hT.1;rw [hF];have q3:¬ 9223372036854775807 < 6+D.size+1+F.size:=(by omega)))
   go_ret
   exact ⟨_,(((Txt.app (.lit (K:=6) (by decide)) HD.out).app (.lit (K:=1) (by decide))).app hT).mono (by omega),rfl,hC4,hg4⟩
 | 11,_ =>
   have hbA:Below w2.heap.size w2 (w2.alloc (.cells #[.string ⟨#[115,116,97,110,100,97,114,100]⟩,.string ⟨#[109,105,114,114,111,114]⟩,.string ⟨#[108,101,118,101,108,115]⟩,.string ⟨#[108,101,97,110]⟩] 9)):=(Below.refl _ _).alloc (Nat.le_refl _) _
   have hCA:=hC2.below hbA
   have hlit:Rd (w2.alloc (.cells #[.string ⟨#[115,116,97,110,100,97,114,100]⟩,.string ⟨#[109,105,114,114,111,114]⟩,.string ⟨#[108,101,118,101,108,115]⟩,.string ⟨#[108,101,97,110]⟩] 9)) (.slice (some ⟨w2.heap.size,0,none⟩) 4 4) (strs [[115,116,97,110,100,97,114,100],[109,105,114,114,111,114],[108,101,118,101,108,115],[108,101,97,110]]):=by
    have:=(Own.lit w2 9 w2.heap.size #[.string ⟨#[115,116,97,110,100,97,114,100]⟩,.string ⟨#[109,105,114,114,111,114]⟩,.string ⟨#[108,101,118,101,108,115]⟩,.string ⟨#[108,101,97,110]⟩] (Nat.le_refl _) (by simp)).rd
    simpa [strs,bstr] using this
   have hneL:(Value.slice (some ⟨w2.heap.size,0,none⟩) 4 4).ownBlock≠some g:=fun e=>by have : w2.heap.size=g:=Option.some.inj e;omega
   go_wp2_with (go_at_call 155;refine (HST.out [[115,116,97,110,100,97,114,100],[109,105,114,114,111,114],[108,101,118,101,108,115],[108,101,97,110]] (by simp) (by simp) _ _ hCA hlit hneL).mono ?_;rintro e w3 ⟨z,hz,rfl,hC3,hg3⟩)
   go_ret
   refine ⟨_,?_,rfl,hC3,gb_trans (gb_below hgg2 hbA) hg3⟩
   have hz2:∀ l∈([[115,116,97,110,100,97,114,100],[109,105,114,114,111,114],[108,101,118,101,108,115],[108,101,97,110]]:List (List UInt8)),l.length≤5000∧∀ x∈l,x≠10:=by decide
   exact .of (hz2 z hz).1 (hz2 z hz).2
 | 12,_ =>
   have q1:¬ 9223372036854775807 < 5+D.size:=by omega
   go_wp2_with fail
   go_ret
   exact ⟨_,(Txt.app (.lit (K:=5) (by decide)) HD.out).mono (by omega),rfl,hC2,hgg2⟩
 | 13,_ =>
   go_wp2_with fail
   go_ret
   exact ⟨_,.lit (by decide),rfl,hC2,hgg2⟩
 | 14,_ =>
   go_wp2_with fail
   go_ret
   exact ⟨_,.lit (by decide),rfl,hC2,hgg2⟩
 | 15,_ =>
   have hbA:Below w2.heap.size w2 (w2.alloc (.cells #[.string ⟨#[111,114,100,101,114]⟩,.string ⟨#[116,101,115,116,115]⟩] 9)):=(Below.refl _ _).alloc (Nat.le_refl _) _
   have hCA:=hC2.below hbA
   have hlit:Rd (w2.alloc (.cells #[.string ⟨#[111,114,100,101,114]⟩,.string ⟨#[116,101,115,116,115]⟩] 9)) (.slice (some ⟨w2.heap.size,0,none⟩) 2 2) (strs [[111,114,100,101,114],[116,101,115,116,115]]):=by
    have:=(Own.lit w2 9 w2.heap.size #[.string ⟨#[111,114,100,101,114]⟩,.string ⟨#[116,101,115,116,115]⟩] (Nat.le_refl _) (by simp)).rd
    simpa [strs,bstr] using this
   have hneL:(Value.slice (some ⟨w2.heap.size,0,none⟩) 2 2).ownBlock≠some g:=fun e=>by have : w2.heap.size=g:=Option.some.inj e;omega
   go_wp2_with (go_at_call 155;refine (HST.out [[111,114,100,101,114],[116,101,115,116,115]] (by simp) (by simp) _ _ hCA hlit hneL).mono ?_;rintro e w3 ⟨z,hz,rfl,hC3,hg3⟩)
   go_ret
   refine ⟨_,?_,rfl,hC3,gb_trans (gb_below hgg2 hbA) hg3⟩
   have hz2:∀ l∈([[111,114,100,101,114],[116,101,115,116,115]]:List (List UInt8)),l.length≤5000∧∀ x∈l,x≠10:=by decide
   exact .of (hz2 z hz).1 (hz2 z hz).2
 | 16,_ =>
   go_wp2_with (first
    | (go_at_call 49;refine (HB.out 4 (by omega) (by omega) _ hC2).mono ?_;rintro e wA ⟨u,rfl,hu0,hu1,hCA,hgA⟩;have hggA:=gb_trans hgg2 hgA;obtain ⟨q,hq⟩:∃ q:Nat,2+u=(q:Int):=⟨(2+u).toNat,by omega⟩;have hq9:q≤16:=(by omega))
    | (go_at_call 104;refine (HLI.out q (by omega) _ hCA).mono ?_;rintro e w3 ⟨ys,v3,hl,hyy,rfl,o3,hC3,hg3⟩;have hY:I64s ys:=(fun z hz=>by have:=hyy z hz;unfold I64;omega);have hYl:ys.length≤40:=(by omega))
    | (go_at_call 156;refine (HFN.out ys _ _ o3.rd hY hYl).mono ?_;rintro e w4 ⟨F,hT,rfl,b4⟩;have hC4:=hC3.below b4;have hg4:=gb_below (gb_trans hggA hg3) b4;have hFs:=hT.1;have q3:¬ 9223372036854775807 < 6+F.size:=(by omega)))
   go_ret
   exact ⟨_,(Txt.app (.lit (K:=6) (by decide)) hT).mono (by omega),rfl,hC4,hg4⟩
 | 17,_ =>
   go_wp2_with (first
    | (go_at_call 49;refine (HB.out 4 (by omega) (by omega) _ hC2).mono ?_;rintro e wA ⟨u,rfl,hu0,hu1,hCA,hgA⟩;have hggA:=gb_trans hgg2 hgA;obtain ⟨q,hq⟩:∃ q:Nat,2+u=(q:Int):=⟨(2+u).toNat,by omega⟩;have hq9:q≤16:=(by omega))
    | (go_at_call 104;refine (HLI.out q (by omega) _ hCA).mono ?_;rintro e w3 ⟨ys,v3,hl,hyy,rfl,o3,hC3,hg3⟩;have hY:I64s ys:=(fun z hz=>by have:=hyy z hz;unfold I64;omega);have hYl:ys.length≤40:=(by omega))
    | (go_at_call 156;refine (HFN.out ys _ _ o3.rd hY hYl).mono ?_;rintro e w4 ⟨F,hT,rfl,b4⟩;have hC4:=hC3.below b4;have hg4:=gb_below (gb_trans hggA hg3) b4;have hFs:=hT.1;have q3:¬ 9223372036854775807 < 6+F.size:=(by omega)))
   go_ret
   exact ⟨_,(Txt.app (.lit (K:=6) (by decide)) hT).mono (by omega),rfl,hC4,hg4⟩
 | 18,_ =>
   go_wp2_with (first
    | (go_at_call 49;refine (HB.out 4 (by omega) (by omega) _ hC2).mono ?_;rintro e wA ⟨u,rfl,hu0,hu1,hCA,hgA⟩;have hggA:=gb_trans hgg2 hgA;obtain ⟨q,hq⟩:∃ q:Nat,2+u=(q:Int):=⟨(2+u).toNat,by omega⟩;have hq9:q≤16:=(by omega))
    | (go_at_call 157;refine (HTK.out q (by omega) _ hCA).mono ?_;rintro e w3 ⟨ys,v3,hl,hyy,rfl,o3,hC3,hg3⟩;have hY:I64s ys:=hyy;have hYl:ys.length≤40:=(by omega))
    | (go_at_call 156;refine (HFN.out ys _ _ o3.rd hY hYl).mono ?_;rintro e w4 ⟨F,hT,rfl,b4⟩;have hC4:=hC3.below b4;have hg4:=gb_below (gb_trans hggA hg3) b4;have hFs:=hT.1;have q3:¬ 9223372036854775807 < 7+F.size:=(by omega)))
   go_ret
   exact ⟨_,(Txt.app (.lit (K:=7) (by decide)) hT).mono (by omega),rfl,hC4,hg4⟩
 | 19,_ =>
   go_wp2_with (first
    | (go_at_call 49;refine (HB.out 20 (by omega) (by omega) _ hC2).mono ?_;rintro e w3 ⟨y,rfl,hy0,hy1,hC3,hg3⟩;have hy:I64 y:=(by unfold I64;omega))
    | (go_at_call 153;refine (HFI.out y hy _).mono ?_;rintro e w4 ⟨rfl,b4⟩;have hC4:=hC3.below b4;have hg4:=gb_below (gb_trans hgg2 hg3) b4;obtain ⟨F,hF⟩:∃ F,bstr (Lib.itoa y)=F:=⟨_,rfl⟩;have hT:Txt 20 F:=(by rw [←hF];exact .int hy);have hFs:=hT.1;rw [hF];have q3:¬ 9223372036854775807 < 5+F.size:=(by omega)))
   go_ret
   exact ⟨_,(Txt.app (.lit (K:=5) (by decide)) hT).mono (by omega),rfl,hC4,hg4⟩
 | 20,_ =>
   go_wp2_with (first
    | (go_at_call 158;refine (H15.out _ hC2).mono ?_;rintro e w3 ⟨ys,v3,hl,hyy,rfl,o3,hC3,hg3⟩;have hY:I64s ys:=hyy;have hYl:ys.length≤40:=(by omega))
    | (go_at_call 156;refine (HFN.out ys _ _ o3.rd hY hYl).mono ?_;rintro e w4 ⟨F,hT,rfl,b4⟩;have hC4:=hC3.below b4;have hg4:=gb_below (gb_trans hgg2 hg3) b4;have hFs:=hT.1;have q3:¬ 9223372036854775807 < 7+F.size:=(by omega)))
   go_ret
   exact ⟨_,(Txt.app (.lit (K:=7) (by decide)) hT).mono (by omega),rfl,hC4,hg4⟩
 | 21,_ =>
   go_wp2_with (first
    | (go_at_call 75;refine (H20.out _ hC2).mono ?_;rintro e w3 ⟨ys,v3,hl,hyy,rfl,o3,hC3,hg3⟩;have hY:I64s ys:=(fun z hz=>by have:=hyy z hz;unfold I64;omega);have hYl:ys.length≤40:=(by omega))
    | (go_at_call 156;refine (HFN.out ys _ _ o3.rd hY hYl).mono ?_;rintro e w4 ⟨F,hT,rfl,b4⟩;have hC4:=hC3.below b4;have hg4:=gb_below (gb_trans hgg2 hg3) b4;have hFs:=hT.1;have q3:¬ 9223372036854775807 < 5+F.size:=(by omega)))
   go_ret
   exact ⟨_,(Txt.app (.lit (K:=5) (by decide)) hT).mono (by omega),rfl,hC4,hg4⟩
 | 22,_ =>
   go_wp2_with (first
    | (go_at_call 159;refine (H22.out _ hC2).mono ?_;rintro e w3 ⟨ys,v3,hl,hyy,rfl,o3,hC3,hg3⟩;have hY:I64s ys:=hyy;have hYl:ys.length≤40:=(by omega))
    | (go_at_call 156;refine (HFN.out ys _ _ o3.rd hY hYl).mono ?_;rintro e w4 ⟨F,hT,rfl,b4⟩;have hC4:=hC3.below b4;have hg4:=gb_below (gb_trans hgg2 hg3) b4;have hFs:=hT.1;have q3:¬ 9223372036854775807 < 6+F.size:=(by omega)))
   go_ret
   exact ⟨_,(Txt.app (.lit (K:=6) (by decide)) hT).mono (by omega),rfl,hC4,hg4⟩
 | 23,_ =>
   go_wp2_with (first
    | (go_at_call 160;refine (H21.out _ hC2).mono ?_;rintro e w3 ⟨ys,v3,hl,hyy,rfl,o3,hC3,hg3⟩;have hY:I64s ys:=hyy;have hYl:ys.length≤40:=(by omega))
    | (go_at_call 156;refine (HFN.out ys _ _ o3.rd hY hYl).mono ?_;rintro e w4 ⟨F,hT,rfl,b4⟩;have hC4:=hC3.below b4;have hg4:=gb_below (gb_trans hgg2 hg3) b4;have hFs:=hT.1;have q3:¬ 9223372036854775807 < 6+F.size:=(by omega)))
   go_ret
   exact ⟨_,(Txt.app (.lit (K:=6) (by decide)) hT).mono (by omega),rfl,hC4,hg4⟩
 | 24,_ =>
   go_wp2_with (first
    | (go_at_call 161;refine (H19.out _ hC2).mono ?_;rintro e w3 ⟨ys,v3,hl,hyy,rfl,o3,hC3,hg3⟩;have hY:I64s ys:=hyy;have hYl:ys.length≤40:=(by omega))
    | (go_at_call 156;refine (HFN.out ys _ _ o3.rd hY hYl).mono ?_;rintro e w4 ⟨F,hT,rfl,b4⟩;have hC4:=hC3.below b4;have hg4:=gb_below (gb_trans hgg2 hg3) b4;have hFs:=hT.1;have q3:¬ 9223372036854775807 < 9+F.size:=(by omega)))
   go_ret
   exact ⟨_,(Txt.app (.lit (K:=9) (by decide)) hT).mono (by omega),rfl,hC4,hg4⟩
 | 25,_ =>
   go_wp2_with (first
    | (go_at_call 76;refine (H24.out _ hC2).mono ?_;rintro e w3 ⟨ys,v3,hl,hyy,rfl,o3,hC3,hg3⟩;have hY:I64s ys:=(fun z hz=>by have:=hyy z hz;unfold I64;omega);have hYl:ys.length≤40:=(by omega))
    | (go_at_call 156;refine (HFN.out ys _ _ o3.rd hY hYl).mono ?_;rintro e w4 ⟨F,hT,rfl,b4⟩;have hC4:=hC3.below b4;have hg4:=gb_below (gb_trans hgg2 hg3) b4;have hFs:=hT.1;have q3:¬ 9223372036854775807 < 5+F.size:=(by omega);have q4:¬ 9223372036854775807 < 5+F.size+1:=(by omega);have q5:¬ 9223372036854775807 < 5+F.size+1+D.size:=(by omega)))
   go_ret
   exact ⟨_,(((Txt.app (.lit (K:=5) (by decide)) hT).app (.lit (K:=1) (by decide))).app HD.out).mono (by omega),rfl,hC4,hg4⟩
 | 26,_ =>
   have hbA:Below w2.heap.size w2 (w2.alloc (.cells #[.string ⟨#[]⟩,.string ⟨#[35,32,110,111,116,101]⟩,.string ⟨#[115,104,111,119,32,49]⟩,.string ⟨#[112,97,105,114,32,48]⟩,.string ⟨#[112,97,105,114,32,48,32,120]⟩,.string ⟨#[97,112,112,108,121,32,120]⟩,.string ⟨#[119,104,97,116]⟩,.string ⟨#[97,112,112,108,121,32,49,32,50]⟩,.string ⟨#[110,101,116,32,120]⟩] 9)):=(Below.refl _ _).alloc (Nat.le_refl _) _
   have hCA:=hC2.below hbA
   have hlit:Rd (w2.alloc (.cells #[.string ⟨#[]⟩,.string ⟨#[35,32,110,111,116,101]⟩,.string ⟨#[115,104,111,119,32,49]⟩,.string ⟨#[112,97,105,114,32,48]⟩,.string ⟨#[112,97,105,114,32,48,32,120]⟩,.string ⟨#[97,112,112,108,121,32,120]⟩,.string ⟨#[119,104,97,116]⟩,.string ⟨#[97,112,112,108,121,32,49,32,50]⟩,.string ⟨#[110,101,116,32,120]⟩] 9)) (.slice (some ⟨w2.heap.size,0,none⟩) 9 9) (strs [[],[35,32,110,111,116,101],[115,104,111,119,32,49],[112,97,105,114,32,48],[112,97,105,114,32,48,32,120],[97,112,112,108,121,32,120],[119,104,97,116],[97,112,112,108,121,32,49,32,50],[110,101,116,32,120]]):=by
    have:=(Own.lit w2 9 w2.heap.size #[.string ⟨#[]⟩,.string ⟨#[35,32,110,111,116,101]⟩,.string ⟨#[115,104,111,119,32,49]⟩,.string ⟨#[112,97,105,114,32,48]⟩,.string ⟨#[112,97,105,114,32,48,32,120]⟩,.string ⟨#[97,112,112,108,121,32,120]⟩,.string ⟨#[119,104,97,116]⟩,.string ⟨#[97,112,112,108,121,32,49,32,50]⟩,.string ⟨#[110,101,116,32,120]⟩] (Nat.le_refl _) (by simp)).rd
    simpa [strs,bstr] using this
   have hneL:(Value.slice (some ⟨w2.heap.size,0,none⟩) 9 9).ownBlock≠some g:=fun e=>by have : w2.heap.size=g:=Option.some.inj e;omega
   go_wp2_with (go_at_call 155;refine (HST.out [[],[35,32,110,111,116,101],[115,104,111,119,32,49],[112,97,105,114,32,48],[112,97,105,114,32,48,32,120],[97,112,112,108,121,32,120],[119,104,97,116],[97,112,112,108,121,32,49,32,50],[110,101,116,32,120]] (by simp) (by simp) _ _ hCA hlit hneL).mono ?_;rintro e w3 ⟨z,hz,rfl,hC3,hg3⟩)
   go_ret
   refine ⟨_,?_,rfl,hC3,gb_trans (gb_below hgg2 hbA) hg3⟩
   have hz2:∀ l∈([[],[35,32,110,111,116,101],[115,104,111,119,32,49],[112,97,105,114,32,48],[112,97,105,114,32,48,32,120],[97,112,112,108,121,32,120],[119,104,97,116],[97,112,112,108,121,32,49,32,50],[110,101,116,32,120]]:List (List UInt8)),l.length≤5000∧∀ x∈l,x≠10:=by decide
   exact .of (hz2 z hz).1 (hz2 z hz).2
 | 27,_ =>
   go_wp2_with fail
   go_ret
   exact ⟨_,.lit (by decide),rfl,hC2,hgg2⟩
 | 28,_ =>
   go_wp2_with fail
   go_ret
   exact ⟨_,.lit (by decide),rfl,hC2,hgg2⟩
 | 29,_ =>
   go_wp2_with fail
   go_ret
   exact ⟨_,.lit (by decide),rfl,hC2,hgg2⟩
 | n+30,hn=>omega
theorem Own.lit0S (w:World) {B:Nat} (hB:B≤w.heap.size):Own (w.alloc (.cells #[] 9)) 9 B (.slice (some ⟨w.heap.size,0,none⟩) 0 0) (strs []):=by
 have:=Own.lit w 9 B #[] hB (by simp)
 simpa [strs] using this
theorem s_MakeLines (vb:Value) (xs:List Int) (hxb:∀ x∈xs,0≤x∧x≤255) (hl:xs.length≤1048576) (w:World) (h:Rd w vb (bytesV xs)) :
 Calls Tryz.prog 37 #[vb] w fun e w'=>∃ (ls:List (List UInt8)) (v:Value),1≤ls.length∧ls.length≤8∧(∀ l∈ls,l.length≤5000∧∀ x∈l,x≠10)∧e=.returned v∧Own w' 9 w.heap.size v (strs ls)∧Below w.heap.size w w':=by
 have HN:=Lib.hid (s_l01New vb xs hxb hl w h)
 have HB:=Lib.hid (fun (g:Nat) (wx:World) (hx:Cur wx g vb xs)=>s_l01Below g vb xs hxb 8 (by omega) (by omega) wx hx)
 have HL:=Lib.hid (fun (g:Nat) (wx:World) (hx:Cur wx g vb xs)=>s_l30Line g vb xs hxb wx hx)
 clear hxb
 go_enter Tryz.func37,Tryz.ntmps37
 go_wp2_with fail
 refine HN.out.mono ?_
 rintro e w1 ⟨g,rfl,hg,hC1,hb1⟩
 have hgl:=hC1.lt
 have HUP:=Lib.hid (fun (w6:World) (hg:w1.grownBy w6 (some g))=>hC1.up hg)
 have ho1:=Own.lit0S (B:=w1.heap.size) w1 (Nat.le_refl _)
 have hCA:=hC1.alloc (.cells #[] 9)
 have hgA:=gb_alloc (World.grownBy.refl w1 (some g)) (.cells #[] 9)
 go_wp2_with fail
 refine (HB.out g _ hCA).mono ?_
 rintro e w2 ⟨x,rfl,hx0,hx1,hC2,hg2⟩
 obtain ⟨n,hn⟩:∃ n:Nat,1+x=(n:Int):=⟨(1+x).toNat,by omega⟩
 have hn8:1≤n∧n≤8:=by omega
 have ho2:=ho1.apart hg2 (fun k h1 h2=>by injection h2 with h2;have:=(ho1.lt k h1).1;omega)
 have hgg2:=gb_trans hgA hg2
 clear hC1 hCA hgA hg2 ho1 hx0 hx1
 go_wp2_with fail
 try rw [hn]
 clear hn
 go_loopg [4,5] n (fun gq vl k wr=>∃ (q:Nat) (ls:List (List UInt8)) (a3:Option Addr) (m3 c3:Nat),gq=q∧k=.int .i64 (q:Int)∧vl=.slice a3 m3 c3∧Hid (ls.length+q=n)∧Hid (∀ l∈ls,l.length≤5000∧∀ x∈l,x≠10)∧Own wr 9 w1.heap.size (.slice a3 m3 c3) (strs ls)∧Cur wr g vb xs∧w1.grownBy wr (some g))
 case atStart=>exact ⟨n,[],_,_,_,rfl,rfl,rfl,by simp [Hid],(fun y hy=>by cases hy),ho2,hC2,hgg2⟩
 case round =>
  clear hC2 ho2 hgg2
  obtain ⟨q,ls,a3,m3,c3,hgq,rfl,rfl,HLn,HLs,ho,hC,hgr⟩:=hrel
  by_cases hq0:0 < q
  · obtain ⟨r,rfl⟩:∃ r,q=r+1:=⟨q - 1,by omega⟩
    have d0:decide (((r+1:Nat):Int) > 0)=true:=by simp
    have hr8:r≤8:=by have:=HLn.out;omega
    have HYM:Hid ((strs ls).length=m3):=by
     obtain ⟨p1,q1,e1,_,_⟩:=ho.rd.form
     injection e1 with _ e2 _
     exact e2.symm
    have hml:m3≤8:=by have:=HYM.out;rw [strs_length] at this;have:=HLn.out;omega
    go_wp2_with (first
     | (go_at_call 97;refine (HL.out g _ hC).mono ?_;rintro e w3 ⟨F,hT,rfl,hC3,hg3⟩
        have ho3:=ho.apart hg3 (fun k h1 h2=>by injection h2 with h2;have:=(ho.lt k h1).1;omega)
        have hgg3:=gb_trans hgr hg3)
     | (at_builtin;refine wpList_app1m rfl _ _ 50 rfl elS rfl ho3 (by show Value.slice (some ⟨w3.heap.size,0,none⟩) 1 1=_;simp) rfl hgg3.size _ HYM.out (by omega) (by omega) ?_;intro b6 c6 w6 ho6 hg6 hat6))
    have hg7:=gb_up hgg3 hg6 (fun b hb=>(ho3.lt b hb).1)
    have hC6:=hC3.turn hg6 (fun e=>by have:=(ho3.lt g e).1;omega) (HUP.out _ hg7)
    have HF:Hid (strs ls++[.string F]=strs (ls++[F.data.toList])):=by simp [Hid,strs,bstr]
    rw [HF.out] at ho6
    go_roundg r
    case measure=>omega
    case rel =>
     refine ⟨r,ls++[F.data.toList],_,_,_,rfl,by go_num,rfl,by rw [Hid,List.length_append];have:=HLn.out;simp;omega,(fun z hz=>?_),ho6,hC6,hg7⟩
     rcases List.mem_append.1 hz with hz | hz
     · exact HLs.out z hz
     · rw [List.mem_singleton] at hz
       subst hz
       exact ⟨hT.1,hT.2⟩
  · obtain rfl:q=0:=by omega
    go_wp2_with fail
    go_ret
    exact ⟨ls,_,by have:=HLn.out;omega,by have:=HLn.out;omega,HLs.out,rfl,ho.mono hb1.size,hb1.grown hgr hb1.size (fun r hr=>by cases hr;exact hg)⟩
end Go.Proofs.YtggblfnajeikjaaGreatDoor
