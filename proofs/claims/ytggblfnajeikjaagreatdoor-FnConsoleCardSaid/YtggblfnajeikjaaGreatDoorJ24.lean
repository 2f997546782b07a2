/- Joined texts of the proof: DisC, DisD. -/
import Derived.Test.YtggblfnajeikjaaGreatDoorJ14
import Derived.Test.YtggblfnajeikjaaGreatDoorJ21
namespace Go.Proofs.YtggblfnajeikjaaGreatDoor
open Go.RowKit
set_option linter.unusedVariables false
set_option linter.unusedSimpArgs false
set_option maxRecDepth 100000
set_option maxHeartbeats 16000000
def ordK (T:List Int) (k:Nat):List Int:=srtS (ltK T) ((List.range k).map fun (i:Nat)=>(i:Int))
theorem ordK_len (T:List Int) (k:Nat):(ordK T k).length=k:=by rw [ordK,srtS_length];simp
theorem ordK_mem {T:List Int} {k:Nat} {x:Int} (h:x∈ordK T k):∃ j:Nat,j < k∧x=j:=by
 rw [ordK,srtS_mem] at h
 obtain ⟨j,hj,rfl⟩:=List.mem_map.1 h
 exact ⟨j,List.mem_range.1 hj,rfl⟩
theorem i_wiresN (n:Nat) (w:World) (hn:n≤1000000):Calls Tryz.prog 138 #[.int .i64 0,.int .i64 (n:Int)] w (RetOwn 3 (ints ((List.range n).map fun (i:Nat)=>(i:Int))) w):=by
 have hA:Own (w.alloc (.cells #[] 3)) 3 w.heap.size (.slice (some ⟨w.heap.size,0,none⟩) 0 0) (ints ((List.range 0).map fun (i:Nat)=>(i:Int))):=Own.lit0 w 3 (Nat.le_refl _)
 have hb0:Below w.heap.size w (w.alloc (.cells #[] 3)):=(Below.refl _ _).alloc (Nat.le_refl _) _
 go_enter Tryz.func138,Tryz.ntmps138
 go_wp2
 go_loopg [5,6] n (fun g vo i wr=>∃ j:Nat,g=n - j∧j≤n∧i=.int .i64 j∧Own wr 3 w.heap.size vo (ints ((List.range j).map fun (i:Nat)=>(i:Int)))∧Below w.heap.size w wr)
 case atStart=>exact ⟨0,rfl,Nat.zero_le _,rfl,hA,hb0⟩
 case round =>
  clear hA hb0
  obtain ⟨j,hg,hj,rfl,ho,hb⟩:=hrel
  obtain ⟨ao,mo,co,rfl,HMO,_,_⟩:=ho.rd.formN
  have hmo:mo=j:=by have:=HMO.out;simpa using this
  subst hmo
  by_cases hlt:mo < n
  · have hsb:=hb.size
    have i1:(mo:Int) < (n:Int):=by omega
    have HLo:Hid ((ints ((List.range mo).map fun (i:Nat)=>(i:Int))).length=mo):=by rw [Hid,ints_length];simp
    go_wp2_with (at_builtin;refine wpList_app1m rfl _ _ 23 rfl elI rfl ho (by show Value.slice (some ⟨wr.heap.size,0,none⟩) 1 1=_;simp) rfl hsb _ HLo.out (by omega) (by omega) ?_;intro b5 c5 w5 ho5 hg5 hat5)
    go_roundg (n - (mo+1))
    case measure=>omega
    case rel=>exact ⟨mo+1,rfl,by omega,by go_num,by rw [List.range_succ,List.map_append,ints_append];exact ho5,hb.grown hg5 hsb (fun r hr=>(ho.lt r hr).1)⟩
  · obtain rfl:mo=n:=by omega
    go_wp2
    go_ret
    exact ⟨_,rfl,ho,hb⟩
theorem k_stable1:Known 178:=known Tryz.func178 (by kernel_rfl) (by kernel_rfl)
theorem i_stable1 (T:List Int) (v:Value) (q:Addr) (w:World) (hq:w.cell? q=some v) (h:Rd w v (ints T)) (X Y:Nat) (hX:X < T.length) (hY:Y < T.length) :
 Calls Tryz.prog 178 (#[.int .i64 X,.int .i64 Y]++#[.pointer (some q)]) w (RetQ (.int .i64 (cmpV (ltK T) X Y)) w):=by
 obtain ⟨a,n,c,rfl,HN,hnc,hc⟩:=h.formN
 obtain ⟨ad,x,rfl,hcx,hx⟩:=h.int hX
 obtain ⟨ad2,y,had2,hcy,hy⟩:=h.int hY
 obtain rfl:ad=ad2:=by injection had2
 clear had2
 have i1:(X:Int) < (n:Int):=by have:=HN.out;omega
 have i2:(Y:Int) < (n:Int):=by have:=HN.out;omega
 have hE:cmpV (ltK T) X Y=if x < y then -1 else if y < x then 1 else 0:=by
  rw [cmpV,ltK_nat,ltK_nat,getD_of hx.out,getD_of hy.out]
 by_cases h1:x < y
 · have HE:Hid (cmpV (ltK T) X Y = -1):=by rw [Hid,hE,if_pos h1]
   have d1:decide (x < y)=true:=by simpa using h1
   clear hE
   go_enter Tryz.func178,Tryz.ntmps178
   go_wp2
   go_quiet (fail)
   go_wp2
   go_ret
   exact ⟨ret_int HE.out.symm,(Dr.refl _).step _⟩
 · have d1:decide (x < y)=false:=by simpa using h1
   by_cases h2:y < x
   · have HE:Hid (cmpV (ltK T) X Y=1):=by rw [Hid,hE,if_neg h1,if_pos h2]
     have d2:decide (x > y)=true:=by simpa using h2
     clear hE
     go_enter Tryz.func178,Tryz.ntmps178
     go_wp2
     go_quiet (fail)
     go_wp2
     go_quiet (fail)
     go_wp2
     go_ret
     exact ⟨ret_int HE.out.symm,((Dr.refl _).step _).step _⟩
   · have HE:Hid (cmpV (ltK T) X Y=0):=by rw [Hid,hE,if_neg h1,if_neg h2]
     have d2:decide (x > y)=false:=by simpa using h2
     clear hE
     go_enter Tryz.func178,Tryz.ntmps178
     go_wp2
     go_quiet (fail)
     go_wp2
     go_quiet (fail)
     go_wp2
     go_ret
     exact ⟨ret_int HE.out.symm,((Dr.refl _).step _).step _⟩
theorem i_stable (v:Value) (T:List Int) (w:World) (h:Rd w v (ints T)) (hl:T.length≤12):Calls Tryz.prog 115 #[v] w (RetOwn 3 (ints (ordK T T.length)) w):=by
 obtain ⟨a,n,c,rfl,HN,hnc,hc⟩:=h.formN
 have h12:n≤12:=by have:=HN.out;omega
 rw [←HN.out]
 obtain ⟨w1,hw1⟩:∃ w1,w.alloc (.cells #[.slice a n c] 23)=w1:=⟨_,rfl⟩
 have hbx:w1.heap[w.heap.size]?=some (.cells #[.slice a n c] 23 (0,0)):=by rw [←hw1];exact heap_alloc_new w _
 have hs1:w1.heap.size=w.heap.size+1:=by rw [←hw1];simp
 have hb1:Below w.heap.size w w1:=by rw [←hw1];exact (Below.refl _ _).alloc (Nat.le_refl _) _
 have hcell:=box_cell hbx 0
 have HW:=Lib.hid (i_wiresN n w1 (by omega))
 have HS:=Lib.hid (fun (w2:World) (v2:Value) (ho2:Own w2 3 w1.heap.size v2 (ints ((List.range n).map fun (i:Nat)=>(i:Int)))) (hb2:Below w1.heap.size w1 w2) =>
  f_SortStable40 (ltK T) (fun x=>∃ j:Nat,j < n∧x=j) 178 #[.pointer (some ⟨w.heap.size,0,none⟩)] k_stable1 v2 ((List.range n).map fun (i:Nat)=>(i:Int)) n w1.heap.size w2 ho2 (by simp) (by omega)
   (fun x hx=>by
    obtain ⟨j,hj,rfl⟩:=List.mem_map.1 hx
    exact ⟨j,List.mem_range.1 hj,rfl⟩)
   (fun wx x y hg hx hy=>by
    obtain ⟨X,hX,rfl⟩:=hx
    obtain ⟨Y,hY,rfl⟩:=hy
    have hlt:=fun r (hr:v2.ownBlock=some r)=>(ho2.lt r hr).1
    have hbw:Below w.heap.size w wx:=(hb1.trans (hb2.mono hb1.size)).grown hg (by have:=hb1.size;have:=hb2.size;omega) (fun r hr=>by have:=hlt r hr;omega)
    have hc:wx.heap[w.heap.size]?=some (.cells #[.slice a n c] 23 (0,0)) :=
     (hg.block w.heap.size (by have:=hb2.size;omega) (fun e=>by have:=hlt w.heap.size e.symm;omega)).trans ((hb2.block w.heap.size (by omega)).trans hbx)
    exact i_stable1 T _ ⟨w.heap.size,0,none⟩ wx (box_cell hc 0) (h.below hbw) X Y (by have:=HN.out;omega) (by have:=HN.out;omega)))
 go_enter Tryz.func115,Tryz.ntmps115
 go_upto_region 1 with (fail)
 try rw [hw1]
 go_wp2_with (first
  | (go_at_call 138;refine HW.out.mono ?_;rintro e w2 ⟨v2,rfl,ho2,hb2⟩)
  | (go_at_call 129;refine (HS.out w2 v2 ho2 hb2).mono ?_;rintro e w3 ⟨rfl,ho3,hg3⟩))
 go_ret
 exact ⟨_,rfl,ho3.mono (by omega),(hb1.trans (hb2.mono hb1.size)).grown hg3 (by have:=hb1.size;have:=hb2.size;omega) (fun r hr=>by have:=(ho2.lt r hr).1;omega)⟩
end Go.Proofs.YtggblfnajeikjaaGreatDoor
