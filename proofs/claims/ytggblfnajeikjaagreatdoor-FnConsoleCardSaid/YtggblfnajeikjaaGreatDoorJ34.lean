/- Joined texts of the proof: StrsI, LineI. -/
import Derived.Lib.SmallJoins
import Derived.Test.YtggblfnajeikjaaGreatDoorJ23
import Derived.Test.YtggblfnajeikjaaGreatDoorJ33
namespace Go.Proofs.YtggblfnajeikjaaGreatDoor
open Go.RowKit
set_option linter.unusedVariables false
set_option linter.unusedSimpArgs false
set_option maxRecDepth 100000
set_option maxHeartbeats 16000000
def Tab (w : World) : Prop := Lib.TabIs Tryz.prog w "internal/strconv.uint64pow10" .u64 Lib.pow10Tab
theorem tabVar : Tryz.prog.globalNamed "internal/strconv.uint64pow10" = some 3 := by kernel_rfl
theorem Tab.below {w w':World} (h:Tab w) (hb:Below w.heap.size w w'):Tab w':=Joins.tab_stays tabVar h hb (Nat.le_refl _)
theorem below_grow (os:Array Obj) (w:World) (B:Nat) (hB:B≤w.heap.size):Below B w (Sort.grow w os) :=
 ⟨rfl,rfl,rfl,by simp [Sort.grow],fun k hk=>by
  show (w.heap++os)[k]?=w.heap[k]?
  rw [Array.getElem?_append_left (by omega)]⟩
theorem I_FormatInt (w:World) (n:Int) (h:I64 n) (ht:Tab w):Calls Tryz.prog 14 #[.int .i64 n] w (RetB (.string (bstr (Lib.itoa n))) w):=by
 have HI:=Lib.hid (Tryz.strconv_Itoa n h.1 h.2 w ht)
 go_enter Tryz.func14,Tryz.ntmps14
 go_wp2_with (go_at_call 62;refine HI.out.mono ?_;rintro e w2 ⟨rfl,k,os,rfl⟩)
 go_ret
 exact ⟨rfl,(⟨rfl,rfl,rfl,Nat.le_refl _,fun _ _=>rfl⟩:Below w.heap.size w (w.drewN k)).trans (below_grow os _ _ (Nat.le_refl _))⟩
theorem joinK_le {sep:List UInt8} {ls:List (List UInt8)} {B:Nat} (hs:sep.length≤B) (h:∀ x∈ls,x.length≤B):∀ k,(joinK sep ls k).length≤2 * B * k
 | 0=>by simp [joinK]
 | k+1=>by
   have ih:=joinK_le hs h k
   have hx:(ls.getD k []).length≤B:=by
    rw [List.getD_eq_getElem?_getD]
    cases e:ls[k]? with
    | none=>simp
    | some x=>exact h x (List.mem_of_getElem? e)
   have h1:(if 0 < k then sep else []).length≤B:=by split <;> simp [hs]
   have h2:2 * B * (k+1)=2 * B * k+2 * B:=by rw [Nat.mul_add,Nat.mul_one]
   rw [joinK,List.length_append,List.length_append]
   omega
theorem i_Join {E B:Nat} (v:Value) (ls:List (List UInt8)) (sep:List UInt8) (w:World) (h:Own w E B v (strs ls)) (hl:ls.length≤1000000) (hx:∀ x∈ls,x.length≤10000) (hs:sep.length≤10000) :
 Calls Tryz.prog 107 #[v,.string (bstr sep)] w (RetB (.string (bstr (joinK sep ls ls.length))) w):=by
 rcases h with ⟨rfl,h⟩ | ⟨g,o,c,cur,rfl,hB,hh,h1,h2,h3,h4⟩
 · have e:ls=[]:=by simpa [strs] using h
   subst e
   exact (Tryz.strings_Join_none none 0 (bstr sep) w).mono fun e w' ⟨he,hw⟩=>⟨he,hw ▸ Below.refl _ _⟩
 · have hm:(ls.map bstr).map (·.data.toList)=ls:=by
    rw [List.map_map]
    exact (List.map_congr_left fun x _=>by simp [bstr]).trans (List.map_id _)
   have hd:(bstr sep).data.toList=sep:=by simp [bstr]
   have hj:=join_joinK sep ls
   have hg:g < w.heap.size:=(Array.getElem?_eq_some_iff.1 hh).1
   have hk:=joinK_le (B:=10000) hs hx ls.length
   have:=Tryz.strings_Join g o c (ls.map bstr) (bstr sep) w (fun j x hx=>by
    rw [List.getElem?_map] at hx
    cases e:ls[j]? with
    | none=>rw [e] at hx;cases hx
    | some y =>
      rw [e] at hx
      obtain rfl:bstr y=x:=Option.some.inj hx
      exact (cell_of_row w g (o+j) cur E (0,0) hh).trans (h4 j _ (strs_get e)))
    hg (by rw [List.length_map];omega) (by rw [List.length_map,←strs_length];omega) (by rw [hm,hd,hj];omega)
   rw [hm,hd,hj,List.length_map] at this
   rw [strs_length]
   exact this
theorem i_numbers (w:World) (v:Value) (xs:List Int) (h:Rd w v (ints xs)) (fx:I64s xs) (hl:xs.length≤1000) (ht:Tab w) :
 Calls Tryz.prog 46 #[v] w (RetB (.string (bstr (numsB xs))) w):=by
 obtain ⟨a,n,c,rfl,HN,hnc,hc⟩:=h.formN
 have hn:n≤1000:=by have:=HN.out;omega
 by_cases h0:n=0
 · have e0:((n:Int) == 0)=true:=by simp [h0]
   have e:numsB xs=[45]:=by rw [numsB,if_pos (by have:=HN.out;omega)]
   rw [e]
   clear h0
   go_enter Tryz.func46,Tryz.ntmps46
   go_wp2_with fail
   go_ret
   exact ⟨rfl,Below.refl _ _⟩
 have e0:((n:Int) == 0)=false:=by simp [h0]
 have HE:Hid (numsB xs=joinK [44] (xs.map Lib.itoa) n):=by rw [Hid,numsB,if_neg (by have:=HN.out;omega),←HN.out]
 have HF:Hid (∀ (x:Int),I64 x→∀ W,Below w.heap.size w W→Calls Tryz.prog 14 #[.int .i64 x] W (RetB (.string (bstr (Lib.itoa x))) W)):=fun x h1 W hW=>I_FormatInt W x h1 (ht.below hW)
 have HFX:=Lib.hid fx
 clear fx h0
 go_enter Tryz.func46,Tryz.ntmps46
 go_wp2_with fail
 go_loopw [3,5,12] (fun vl _ vi wr=>∃ k:Nat,k≤n∧vi=.int .i64 (k:Int)∧Own wr 9 w.heap.size vl (strs ((xs.map Lib.itoa).take k))∧Below w.heap.size w wr) (fun _ _ vi _=>n - (intOf vi).toNat)
 case atStart=>exact ⟨0,Nat.zero_le _,rfl,by simpa [strs,ints] using Own.lit0 w 9 (Nat.le_refl _),(Below.refl _ _).alloc (Nat.le_refl _) _⟩
 case round =>
  obtain ⟨k,hk,rfl,ho,hb⟩:=hrel
  obtain ⟨al,ml,cl,rfl,HML,_,_⟩:=ho.rd.formS
  have hml:ml=k:=by
   have h1:=HML.out
   have h2:=HN.out
   rw [List.length_take,List.length_map] at h1
   omega
  subst hml
  by_cases hlt:ml < n
  · have i0:(ml:Int) < (n:Int):=by omega
    obtain ⟨ad,x,rfl,hcx,hx⟩:=(h.below hb).int (k:=ml) (by have:=HN.out;omega)
    have HFx:=Lib.hid (HF.out x (HFX.out x (List.mem_of_getElem? hx.out)))
    have HSL:Hid ((strs ((xs.map Lib.itoa).take ml)).length=ml):=by rw [Hid,strs_length];exact HML.out.symm
    have HNX:Hid ((xs.map Lib.itoa).take (ml+1)=(xs.map Lib.itoa).take ml++[Lib.itoa x]):=take_snoc' (by rw [List.getElem?_map,hx.out];rfl)
    have hsz:=hb.size
    go_wp2_with (first
     | (go_at_call 14;refine (HFx.out _ hb).mono ?_;rintro e w3 ⟨rfl,hb3⟩
        have ho3:=ho.below hb3
        have hbb:=hb.trans (hb3.mono hsz))
     | (at_builtin;refine wpList_app1m rfl _ _ 50 rfl elS rfl ho3 (by show Value.slice (some ⟨w3.heap.size,0,none⟩) 1 1=_;simp) rfl hbb.size _ HSL.out (by omega) (by omega) ?_;intro b6 c6 w6 ho6 hg6 hat6))
    have hb7:=hbb.grown hg6 hbb.size (fun r hr=>(ho3.lt r hr).1)
    go_roundw
    case rel=>exact ⟨ml+1,by omega,by go_num,by rw [HNX.out,strs_append];exact ho6,hb7⟩
    case measure=>simp [intOf];omega
  · obtain rfl:ml=n:=by omega
    have HTK:Hid ((xs.map Lib.itoa).take ml=xs.map Lib.itoa):=List.take_of_length_le (by have:=HN.out;simp;omega)
    rw [HTK.out] at ho
    have HJ:=Lib.hid (fun (W:World) (hW:Own W 9 w.heap.size (.slice al ml cl) (strs (xs.map Lib.itoa)))=>i_Join _ (xs.map Lib.itoa) [44] W hW (by have:=HN.out;simp;omega) (fun y hy=>by
     obtain ⟨x,hx,rfl⟩:=List.mem_map.1 hy
     have:=itoa_len (HFX.out x hx)
     omega) (by simp))
    rw [List.length_map,←HN.out] at HJ
    go_wp2_with (go_at_call 107;refine (HJ.out _ ho).mono ?_;rintro e w3 ⟨rfl,hb3⟩)
    go_ret
    exact ⟨by rw [HE.out];rfl,hb.trans (hb3.mono hb.size)⟩
theorem I_FormatNumbers (w:World) (v:Value) (xs:List Int) (h:Rd w v (ints xs)) (fx:I64s xs) (_:xs.length≤1048576) (ht:Tab w) :
 Calls Tryz.prog 6 #[v] w (RetB (.string (bstr (fmtNums xs))) w):=by
 obtain ⟨a,n,c,rfl,HN,hnc,hc⟩:=h.formN
 by_cases h60:n≤60
 case neg =>
  have hd:decide ((n:Int) > 60)=true:=by simp;omega
  have e:fmtNums xs=[]:=by rw [fmtNums,if_pos (by have:=HN.out;omega)]
  rw [e]
  go_enter Tryz.func6,Tryz.ntmps6
  go_wp2_with fail
  go_ret
  exact ⟨rfl,Below.refl _ _⟩
 have hd:decide ((n:Int) > 60)=false:=by simp;omega
 have HE:Hid (fmtNums xs=numsB xs):=by rw [Hid,fmtNums,if_neg (by have:=HN.out;omega)]
 have HNB:=Lib.hid (i_numbers w _ xs h fx (by have:=HN.out;omega) ht)
 go_enter Tryz.func6,Tryz.ntmps6
 go_wp2_with (go_at_call 46;refine HNB.out.mono ?_;rintro e w3 ⟨rfl,hb3⟩)
 go_ret
 exact ⟨by rw [HE.out];rfl,hb3⟩
theorem own_strs {W:World} {g E B:Nat} (ls:List (List UInt8)) (h:W.heap[g]?=some (.cells (strs ls).toArray E (0,0))) (hB:B≤g) (hm:ls.length≤9223372036854775807):Own W E B (.slice (some ⟨g,0,none⟩) ls.length ls.length) (strs ls) :=
 .inr ⟨g,0,ls.length,_,by rw [strs_length],hB,h,by rw [strs_length];exact Nat.le_refl _,by omega,by simp [strs_length],fun j u hu=>by simpa using hu⟩
theorem i_lineOwn {E B:Nat} (v:Value) (ls:List (List UInt8)) (w:World) (h:Own w E B v (strs ls)) (hl:ls.length≤1000000) (hx:∀ x∈ls,x.length≤10000) :
 Calls Tryz.prog 61 #[v] w (RetB (.string (bstr (joinK [32] ls ls.length))) w):=by
 have HJ:=Lib.hid (i_Join v ls [32] w h hl hx (by simp))
 obtain ⟨a,n,c,rfl,HN,_,_⟩:=h.rd.formS
 go_enter Tryz.func61,Tryz.ntmps61
 go_wp2_with (go_at_call 107;refine HJ.out.mono ?_;rintro e w3 ⟨rfl,hb3⟩)
 go_ret
 exact ⟨rfl,hb3⟩
def RetLine (l:List UInt8) (W:World) (e:Ending) (w':World):Prop:=e=.returned (.string (bstr l))∧Below W.heap.size W w'
theorem i_lineLit (ls:List (List UInt8)) (n:Nat) (hn:ls.length=n) (hl:n≤1000) (hx:∀ x∈ls,x.length≤10000) (W:World) :
 Calls Tryz.prog 61 #[.slice (some ⟨W.heap.size,0,none⟩) n n] (W.alloc (.cells (strs ls).toArray 9)) (RetLine (joinK [32] ls n) W):=by
 subst hn
 refine (i_lineOwn _ ls _ (own_strs ls (heap_alloc_new W _) (Nat.le_refl _) (by omega)) (by omega) hx).mono ?_
 rintro e w' ⟨rfl,hb⟩
 have hA:Below W.heap.size W (W.alloc (.cells (strs ls).toArray 9)):=(Below.refl _ _).alloc (Nat.le_refl _) _
 exact ⟨rfl,hA.trans (hb.mono hA.size)⟩
theorem i_line2 (a b:List UInt8) (ha:a.length≤10000) (hb:b.length≤10000) (W:World) :
 Calls Tryz.prog 61 #[.slice (some ⟨W.heap.size,0,none⟩) 2 2] (W.alloc (.cells #[.string (bstr a),.string (bstr b)] 9)) (RetLine (a++[32]++b) W):=by
 have:=i_lineLit [a,b] 2 rfl (by omega) (by simp [ha,hb]) W
 simpa [joinK,strs] using this
theorem i_line3 (a b c:List UInt8) (ha:a.length≤10000) (hb:b.length≤10000) (hc:c.length≤10000) (W:World) :
 Calls Tryz.prog 61 #[.slice (some ⟨W.heap.size,0,none⟩) 3 3] (W.alloc (.cells #[.string (bstr a),.string (bstr b),.string (bstr c)] 9)) (RetLine (a++[32]++b++[32]++c) W):=by
 have:=i_lineLit [a,b,c] 3 rfl (by omega) (by simp [ha,hb,hc]) W
 simpa [joinK,strs,List.append_assoc] using this
theorem i_line4 (a b c d:List UInt8) (ha:a.length≤10000) (hb:b.length≤10000) (hc:c.length≤10000) (hd:d.length≤10000) (W:World) :
 Calls Tryz.prog 61 #[.slice (some ⟨W.heap.size,0,none⟩) 4 4] (W.alloc (.cells #[.string (bstr a),.string (bstr b),.string (bstr c),.string (bstr d)] 9)) (RetLine (a++[32]++b++[32]++c++[32]++d) W):=by
 have:=i_lineLit [a,b,c,d] 4 rfl (by omega) (by simp [ha,hb,hc,hd]) W
 simpa [joinK,strs,List.append_assoc] using this
theorem i_line6 (a b c d x y:List UInt8) (ha:a.length≤10000) (hb:b.length≤10000) (hc:c.length≤10000) (hd:d.length≤10000) (hx:x.length≤10000) (hy:y.length≤10000) (W:World) :
 Calls Tryz.prog 61 #[.slice (some ⟨W.heap.size,0,none⟩) 6 6] (W.alloc (.cells #[.string (bstr a),.string (bstr b),.string (bstr c),.string (bstr d),.string (bstr x),.string (bstr y)] 9)) (RetLine (a++[32]++b++[32]++c++[32]++d++[32]++x++[32]++y) W):=by
 have:=i_lineLit [a,b,c,d,x,y] 6 rfl (by omega) (by simp [ha,hb,hc,hd,hx,hy]) W
 simpa [joinK,strs,List.append_assoc] using this
theorem numsB_le {xs:List Int} {B:Nat} (fx:I64s xs) (hl:xs.length≤B):(numsB xs).length≤40 * B+1:=by
 rw [numsB]
 split
 · simp
 · have:=joinK_le (sep:=[44]) (ls:=xs.map Lib.itoa) (B:=20) (by simp) (fun y hy=>by
    obtain ⟨x,hx,rfl⟩:=List.mem_map.1 hy
    exact (itoa_len (fx x hx)).2) xs.length
   omega
end Go.Proofs.YtggblfnajeikjaaGreatDoor
