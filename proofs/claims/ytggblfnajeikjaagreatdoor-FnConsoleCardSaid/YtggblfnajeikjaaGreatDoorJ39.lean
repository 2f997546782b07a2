/- Joined texts of the proof: ParseN. -/
import Derived.Lib.AtoiErrMem
import Derived.Test.YtggblfnajeikjaaGreatDoorJ3
import Derived.Test.YtggblfnajeikjaaGreatDoorJ26
import Derived.Test.YtggblfnajeikjaaGreatDoorJ34
namespace Go.Proofs.YtggblfnajeikjaaGreatDoor
open Go.RowKit
set_option linter.unusedVariables false
set_option linter.unusedSimpArgs false
set_option maxRecDepth 100000
set_option maxHeartbeats 16000000
structure TabE (w:World):Prop where
 tab:Tab w
 syn : ∃ tp p, w.var? Tryz.prog "strconv.ErrSyntax" = some #[.iface tp p]
 ran : ∃ tp p, w.var? Tryz.prog "strconv.ErrRange" = some #[.iface tp p]
 max:∃ m:Int,w.cell? ⟨0,0,none⟩=some (.int .i64 m)
theorem synVar : Tryz.prog.globalNamed "strconv.ErrSyntax" = some 1 := by kernel_rfl
theorem ranVar : Tryz.prog.globalNamed "strconv.ErrRange" = some 2 := by kernel_rfl
theorem TabE.below {w w':World} (h:TabE w) (hb:Below w.heap.size w w'):TabE w':=by
 obtain ⟨t1,p1,h1⟩:=h.syn
 obtain ⟨t2,p2,h2⟩:=h.ran
 obtain ⟨m,h3⟩:=h.max
 exact ⟨h.tab.below hb,⟨t1,p1,Joins.var_stays synVar h1 hb (Nat.le_refl _)⟩,⟨t2,p2,Joins.var_stays ranVar h2 hb (Nat.le_refl _)⟩,⟨m,(hb.cell (World.block_lt_of_cell? _ _ h3)).trans h3⟩⟩
theorem atoi_end (l:List UInt8):(∃ v,Lib.atoiAll l=.ok v)∨(parseI l=none∧∀ (s:ByteArray),s.size≤281474976710656→s.data.toList=l→∀ w:World,TabE w→Calls Tryz.prog 109 #[.string s] w fun e w'=>∃ n T N,e=.returned (.tuple #[.int .i64 n,.iface T (.pointer (some ⟨N,0,none⟩))])∧Below w.heap.size w w'):=by
 cases e:Lib.atoiAll l
 · exact .inl ⟨_,rfl⟩
 · refine .inr ⟨by rw [parseI,e],fun s hs hl w ht=>?_⟩
   obtain ⟨tp,p,h⟩:=ht.syn
   exact (Any.strconv_Atoi_syntax_var Tryz.laysC172 s hs (by rw [hl];exact e) tp p w h).mono fun e w' ⟨N,h1,_,_,h4⟩=>⟨_,_,N,h1,h4⟩
 · refine .inr ⟨by rw [parseI,e],fun s hs hl w ht=>?_⟩
   obtain ⟨tp,p,h⟩:=ht.ran
   exact (Any.strconv_Atoi_range_var Tryz.laysC172 s hs (by rw [hl];exact e) tp p w h).mono fun e w' ⟨N,h1,_,_,h4⟩=>⟨_,_,N,h1,h4⟩
theorem i_ParseInt (s:ByteArray) (hs:s.size≤1048576) (w:World) (ht:TabE w):Calls Tryz.prog 48 #[.string s] w (RetPI (parseI s.data.toList) w):=by
 rcases atoi_end s.data.toList with ⟨v,hv⟩ | ⟨hn,hc⟩
 · have HA:=Lib.hid (Tryz.strconv_Atoi_ok s (by omega) v hv w)
   have hvI:I64 v:=Lib.atoiAll_bounds hv
   have HF:=Lib.hid (fun (W:World) (hW:Below w.heap.size w W)=>I_FormatInt W v hvI (ht.tab.below hW))
   obtain ⟨X,hX⟩:∃ X,bstr (Lib.itoa v)=X:=⟨_,rfl⟩
   rw [hX] at HF
   by_cases e:Lib.itoa v=s.data.toList
   · have HP:Hid (parseI s.data.toList=some v):=by
      rw [Hid,parseI,hv]
      simp only [e,if_true]
     have e1:(X.toList == s.toList)=true:=by
      rw [←hX,ByteArray.toList_eq,ByteArray.toList_eq,←e]
      simp [bstr]
     clear e hX hv hvI
     go_enter Tryz.func48,Tryz.ntmps48
     go_wp2_with (first
      | (go_at_call 109;refine HA.out.mono ?_;rintro e w2 ⟨rfl,hw2⟩
         have hb2:Below w.heap.size w w2:=(by rcases hw2 with rfl | ⟨t,rfl⟩;exact Below.refl _ _;exact Lib.bytesWorld_below _ _ _)
         clear hw2)
      | (go_at_call 14;refine (HF.out _ hb2).mono ?_;rintro e w3 ⟨rfl,hb3⟩))
     go_ret2
     exact retPI_some HP.out (hb2.trans (hb3.mono hb2.size))
   · have HP:Hid (parseI s.data.toList=none):=by
      rw [Hid,parseI,hv]
      simp only [e,if_false]
     have e1:(X.toList == s.toList)=false:=by
      rw [←hX,ByteArray.toList_eq,ByteArray.toList_eq,beq_eq_false_iff_ne]
      intro h
      refine e ?_
      rw [←h]
      simp [bstr]
     clear e hX hv hvI
     go_enter Tryz.func48,Tryz.ntmps48
     go_wp2_with (first
      | (go_at_call 109;refine HA.out.mono ?_;rintro e w2 ⟨rfl,hw2⟩
         have hb2:Below w.heap.size w w2:=(by rcases hw2 with rfl | ⟨t,rfl⟩;exact Below.refl _ _;exact Lib.bytesWorld_below _ _ _)
         clear hw2)
      | (go_at_call 14;refine (HF.out _ hb2).mono ?_;rintro e w3 ⟨rfl,hb3⟩))
     go_ret2
     exact retPI_none HP.out (hb2.trans (hb3.mono hb2.size))
 · have HA:=Lib.hid (hc s (by omega) rfl w ht)
   have HP:=Lib.hid hn
   clear hn hc
   go_enter Tryz.func48,Tryz.ntmps48
   go_wp2_with (go_at_call 109;refine HA.out.mono ?_;rintro e w2 ⟨n,T,N,rfl,hb2⟩)
   go_ret2
   exact retPI_none HP.out hb2
def numsOf:List (List UInt8)→Option (List Int)
 | []=>some []
 | x :: r=>match parseI x,numsOf r with
   | some n,some ns=>some (n :: ns)
   | _,_=>none
theorem numsOf_append:∀ (a b:List (List UInt8)),numsOf (a++b)=match numsOf a,numsOf b with | some xs,some ys=>some (xs++ys) | _,_=>none
 | [],b=>by cases h:numsOf b <;> simp [numsOf,h]
 | x :: r,b=>by
   rw [List.cons_append,numsOf,numsOf,numsOf_append r b]
   cases parseI x <;> cases numsOf r <;> cases numsOf b <;> rfl
theorem numsOf_len:∀ (a:List (List UInt8)) (xs:List Int),numsOf a=some xs→xs.length=a.length
 | [],xs,h=>by cases h;rfl
 | x :: r,xs,h=>by
   rw [numsOf] at h
   split at h
   · rename_i n ns _ h2
     cases h
     rw [List.length_cons,List.length_cons,numsOf_len r ns h2]
   · cases h
theorem numsOf_none {a:List (List UInt8)} {k:Nat} {x:List UInt8} (h:a[k]?=some x) (hx:parseI x=none):numsOf a=none:=by
 have e:a=a.take k++x :: a.drop (k+1):=by
  obtain ⟨h1,h2⟩:=List.getElem?_eq_some_iff.1 h
  rw [←h2,←List.drop_eq_getElem_cons,List.take_append_drop]
 rw [e,numsOf_append,numsOf,hx]
 cases numsOf (a.take k) <;> rfl
def parseNums (l:List UInt8):Option (List Int):=if l=[45] then some [] else match numsOf (splitR 44 l) with | some xs=>if 60 < xs.length then none else some xs | none=>none
theorem numsOf_I64:∀ (a:List (List UInt8)) (xs:List Int),numsOf a=some xs→I64s xs
 | [],xs,h=>by cases h;intro x hx;cases hx
 | x :: r,xs,h=>by
   rw [numsOf] at h
   split at h
   · rename_i n ns h1 h2
     cases h
     intro y hy
     rcases List.mem_cons.1 hy with rfl | hy
     · exact (parseI_iff.1 h1).1
     · exact numsOf_I64 r ns h2 y hy
   · cases h
theorem parseNums_len {l:List UInt8} {xs:List Int} (h:parseNums l=some xs):xs.length≤60:=by
 unfold parseNums at h
 split at h
 · cases h;simp
 · split at h
   · split at h
     · cases h
     · cases h;omega
   · cases h
def pn0 (s:ByteArray):List Int:=(parseNums s.data.toList).getD []
def pn1 (s:ByteArray):Bool:=(parseNums s.data.toList).isSome
theorem retNone {w w':World} {s:ByteArray} (h:parseNums s.data.toList=none) (hb:Below w.heap.size w w'):RetOwnB 3 (ints (pn0 s)) (pn1 s) w (.returned (.tuple #[.slice none 0 0,.bool false])) w' :=
 ⟨_,by rw [pn1,h];rfl,by rw [pn0,h];exact Own.nil _ _ _,hb⟩
theorem retSome {w w':World} {s:ByteArray} {v:Value} {xs:List Int} (h:parseNums s.data.toList=some xs) (ho:Own w' 3 w.heap.size v (ints xs)) (hb:Below w.heap.size w w'):RetOwnB 3 (ints (pn0 s)) (pn1 s) w (.returned (.tuple #[v,.bool true])) w' :=
 ⟨_,by rw [pn1,h];rfl,by rw [pn0,h];exact ho,hb⟩
theorem I_ParseNumbers (w:World) (s:ByteArray) (hss:s.size≤maxLen) (hs:s.size≤1048576) (ht:TabE w):Calls Tryz.prog 7 #[.string s] w (RetOwnB 3 (ints (pn0 s)) (pn1 s) w):=by
 clear hss
 by_cases h45:s.data.toList=[45]
 · have e1:(s.toList == [45])=true:=by rw [ByteArray.toList_eq,h45];rfl
   have HP:Hid (parseNums s.data.toList=some []):=by rw [Hid,parseNums,if_pos h45]
   clear h45
   go_enter Tryz.func7,Tryz.ntmps7
   go_wp2_with fail
   go_ret2
   exact retSome HP.out (Own.lit0 w 3 (Nat.le_refl _)) ((Below.refl _ _).alloc (Nat.le_refl _) _)
 · have e1:(s.toList == [45])=false:=by rw [ByteArray.toList_eq,beq_eq_false_iff_ne];exact h45
   obtain ⟨ws,hws⟩:∃ ws,splitR 44 s.data.toList=ws:=⟨_,rfl⟩
   have HPN:Hid (parseNums s.data.toList=match numsOf ws with | some xs=>if 60 < xs.length then none else some xs | none=>none):=by rw [Hid,parseNums,if_neg h45,hws]
   have hwl:ws.length≤1048577:=by have:=splitR_length_le 44 s.data.toList;rw [hws,bytes_len] at this;omega
   have HWM:Hid (∀ x∈ws,x.length≤1048576):=by
    have h1:=splitR_mem 44 s.data.toList
    rw [hws,bytes_len] at h1
    exact fun x hx=>Nat.le_trans (h1 x hx) hs
   have HSP:Hid (∀ W,Below w.heap.size w W→Calls Tryz.prog 47 #[.string s,.string ⟨#[44]⟩] W fun e w'=>∃ v,e=.returned v∧Own w' 9 W.heap.size v (strs ws)∧Below W.heap.size W w'):=fun W hW=>by
    obtain ⟨m,hm⟩:=(ht.below hW).max
    refine (Tryz.strings_Split s ⟨#[44]⟩ m W (by omega) hm (Nat.le_refl _)).mono fun e w' h=>?_
    obtain ⟨rfl,rfl⟩:=h
    have hc:Lib.countB s ⟨#[44]⟩=s.data.toList.count 44:=Lib.count_one 44 _
    have hd:(Lib.splitB ⟨#[44]⟩ 0 (Lib.countB s ⟨#[44]⟩) s).map (·.data.toList)=ws:=by
     rw [Lib.splitB_data,hc,←hws]
     exact splitK_eq 44 _
    have hv:(Lib.splitB ⟨#[44]⟩ 0 (Lib.countB s ⟨#[44]⟩) s).map Value.string=strs ws:=by
     rw [←hd,strs,List.map_map]
     exact List.map_congr_left fun x _=>by simp [bstr]
    have hl:Lib.countB s ⟨#[44]⟩+1=ws.length:=by
     have h1:=Lib.splitB_all ⟨#[44]⟩ (Nat.le_refl _) 0 (Lib.countB s ⟨#[44]⟩) s rfl
     rw [←h1,←hd,List.length_map]
    rw [hv,hl]
    exact ⟨_,rfl,own_strs ws (heap_alloc_new W _) (Nat.le_refl _) (by omega),(Below.refl _ _).alloc (Nat.le_refl _) _⟩
   have HPI:Hid (∀ (x:List UInt8),x.length≤1048576→∀ W,Below w.heap.size w W→Calls Tryz.prog 48 #[.string (bstr x)] W (RetPI (parseI x) W)):=fun x hx W hW=>by
    have:=i_ParseInt (bstr x) (by rw [bstr_size];omega) W (ht.below hW)
    simpa [bstr] using this
   clear h45 hws
   go_enter Tryz.func7,Tryz.ntmps7
   go_wp2_with fail
   have hbA:Below w.heap.size w (w.alloc (.cells #[] 3)):=(Below.refl _ _).alloc (Nat.le_refl _) _
   refine (HSP.out _ hbA).mono ?_
   rintro e w2 ⟨v2,rfl,ov,b2⟩
   obtain ⟨a,n,c,rfl,HN,hnc,hc⟩:=ov.rd.formS
   have hn:n≤1048577:=by have:=HN.out;omega
   have hb2:=hbA.trans (b2.mono hbA.size)
   have hl0:=(Own.lit0 w 3 (Nat.le_refl _)).below b2
   replace ov:=ov.mono (B':=w.heap.size) hbA.size
   clear b2 hbA
   go_wp2_with fail
   go_loopw [4,6,7,8,16] (fun vl _ _ _ vi wr=>∃ (k:Nat) (xs:List Int),k≤n∧vi=.int .i64 (k:Int)∧Hid (numsOf (ws.take k)=some xs)∧Own wr 3 w.heap.size vl (ints xs)∧Own wr 9 w.heap.size (.slice a n c) (strs ws)∧Below w.heap.size w wr) (fun _ _ _ _ vi _=>n - (intOf vi).toNat)
   case atStart=>exact ⟨0,[],Nat.zero_le _,rfl,rfl,hl0,ov,hb2⟩
   case round =>
    clear hl0 ov hb2
    obtain ⟨k,xs,hk,rfl,HX,ho,ov,hb⟩:=hrel
    have hxl:=numsOf_len _ _ HX.out
    rw [List.length_take] at hxl
    obtain ⟨al,ml,cl,rfl,HML,_,_⟩:=ho.rd.formN
    have hml:ml=k:=by have h1:=HML.out;have h2:=HN.out;omega
    subst hml
    have HYM:Hid ((ints xs).length=ml):=by rw [Hid,ints_length,HML.out]
    clear hxl
    have hsz:=hb.size
    by_cases hlt:ml < n
    · have i0:(ml:Int) < (n:Int):=by omega
      obtain ⟨ad,x,rfl,hcx,hx⟩:=ov.rd.text (k:=ml) (by have:=HN.out;omega)
      have HQ:=Lib.hid (HPI.out x (HWM.out x (List.mem_of_getElem? hx.out)) wr hb)
      cases hp:parseI x with
      | none =>
        rw [hp] at HQ
        have HR:Hid (parseNums s.data.toList=none):=by rw [Hid,HPN.out,numsOf_none hx.out hp]
        clear hp
        go_wp2_with (go_at_call 48;refine HQ.out.mono ?_;rintro e w3 ⟨rfl,hb3⟩)
        go_ret2
        exact retNone HR.out (hb.trans (hb3.mono hsz))
      | some y =>
        rw [hp] at HQ
        have HX2:Hid (numsOf (ws.take (ml+1))=some (xs++[y])):=by
         rw [Hid,take_snoc' hx.out,numsOf_append,HX.out,numsOf,hp];rfl
        clear hp
        go_wp2_with (first
         | (go_at_call 48;refine HQ.out.mono ?_;rintro e w3 ⟨rfl,hb3⟩
            have ho3:=ho.below hb3
            have ov3:=ov.below hb3
            have hbb:=hb.trans (hb3.mono hsz)
            have hz3:=hbb.size)
         | (at_builtin;refine wpList_app1m rfl _ _ 23 rfl elI rfl ho3 (by show Value.slice (some ⟨w3.heap.size,0,none⟩) 1 1=_;simp) rfl (by omega) _ HYM.out (by omega) (by omega) ?_;intro b6 c6 w6 ho6 hg6 hat6))
        have hb7:=hbb.grown hg6 hbb.size (fun r hr=>(ho3.lt r hr).1)
        have ov7:=ov3.apart hg6 (fun k h1 h2=>ho3.elem_ne ov3 (by decide) k h2 h1)
        go_roundw
        case rel=>exact ⟨ml+1,xs++[y],by omega,by go_num,HX2,by rw [ints_append];exact ho6,ov7,hb7⟩
        case measure=>simp [intOf];omega
    · obtain rfl:ml=n:=by omega
      have HX3:Hid (numsOf ws=some xs):=by
       have h1:=HX.out
       rwa [List.take_of_length_le (by have:=HN.out;omega)] at h1
      by_cases h60:60 < ml
      · have HR:Hid (parseNums s.data.toList=none):=by
         rw [Hid,HPN.out,HX3.out]
         simp only
         rw [if_pos (by have:=HML.out;omega)]
        have i1:decide ((ml:Int) > 60)=true:=by simp;omega
        go_wp2_with fail
        go_ret2
        exact retNone HR.out hb
      · have HR:Hid (parseNums s.data.toList=some xs):=by
         rw [Hid,HPN.out,HX3.out]
         simp only
         rw [if_neg (by have:=HML.out;omega)]
        have i1:decide ((ml:Int) > 60)=false:=by simp;omega
        go_wp2_with fail
        go_ret2
        exact retSome HR.out ho hb
end Go.Proofs.YtggblfnajeikjaaGreatDoor
