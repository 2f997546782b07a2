/- Joined texts of the proof: ConfC, ConfD, ConfE, Console. -/
import Derived.Test.YtggblfnajeikjaaGreatDoorJ25
import Derived.Test.YtggblfnajeikjaaGreatDoorJ27
namespace Go.Proofs.YtggblfnajeikjaaGreatDoor
open Go.RowKit
set_option linter.unusedVariables false
set_option linter.unusedSimpArgs false
set_option maxRecDepth 100000
set_option maxHeartbeats 16000000
theorem netRes {w wo:World} {B:Nat} {n:Int} {a:Option Addr} {m c T:Nat} {x0 x1:Value} {xss:List (List Int)} (hA:wo.heap[B]?=some (.cells #[x0,x1] T (0,0))) (ho:OwnP wo (B+1) (.slice a m c) xss) (hB:w.heap.size≤B) (hb:Below w.heap.size w wo) :
 wo.cell? ⟨B,0,none⟩=some x0∧wo.cell? ⟨B,1,none⟩=some x1∧wo.frozen? ⟨B,0,none⟩=false∧wo.frozen? ⟨B,1,none⟩=false ∧
 ((wo.setCell ⟨B,0,none⟩ (.int .i64 n)).setCell ⟨B,1,none⟩ (.slice a m c)).cell? ⟨B,0,none⟩=some (.int .i64 n)∧((wo.setCell ⟨B,0,none⟩ (.int .i64 n)).setCell ⟨B,1,none⟩ (.slice a m c)).cell? ⟨B,1,none⟩=some (.slice a m c) ∧
 OwnP ((wo.setCell ⟨B,0,none⟩ (.int .i64 n)).setCell ⟨B,1,none⟩ (.slice a m c)) w.heap.size (.slice a m c) xss∧Below w.heap.size w ((wo.setCell ⟨B,0,none⟩ (.int .i64 n)).setCell ⟨B,1,none⟩ (.slice a m c)):=by
 have e2:=box2 (x:=.int .i64 n) (y:=.slice a m c) hA
 have hgz:wo.grownBy ((wo.setCell ⟨B,0,none⟩ (.int .i64 n)).setCell ⟨B,1,none⟩ (.slice a m c)) (some B) :=
  ⟨rfl,rfl,rfl,by simp,fun i _ hi=>(heap_setCell_other _ ⟨B,1,none⟩ i _ (fun e=>hi (by rw [e]))).trans (heap_setCell_other wo ⟨B,0,none⟩ i _ (fun e=>hi (by rw [e])))⟩
 exact ⟨box_cell hA 0,box_cell hA 1,frozen_of_row wo B 0 _ _ hA,frozen_of_row wo B 1 _ _ hA,box_cell e2 0,box_cell e2 1,(ho.under hgz (fun q hq=>by cases hq;omega)).mono (by omega),hb.grown hgz hb.size (fun r hr=>by cases hr;omega)⟩
theorem newBox (w:World) (o:Obj):∃ w0 B,w.alloc o=w0∧w.heap.size=B∧w0.heap[B]?=some o∧B < w0.heap.size∧Below w.heap.size w w0 :=
 ⟨_,_,rfl,rfl,heap_alloc_new w o,by simp,(Below.refl _ _).alloc (Nat.le_refl _) _⟩
theorem i_wiresF (f n s:Nat) (hs:f+n=s) (h9:s≤1000) (w:World):Calls Tryz.prog 138 #[.int .i64 (f:Int),.int .i64 (s:Int)] w (RetOwn 3 (ints (wiresL f n)) w):=by
 have HS:=Lib.hid hs
 go_enter Tryz.func138,Tryz.ntmps138
 go_wp2_with fail
 go_loopg [5,6] n (fun gk vo iv wr=>∃ (k q:Nat),gk=n - k∧k≤n∧iv=.int .i64 (q:Int)∧Hid (q=f+k)∧q≤1000∧Own wr 3 w.heap.size vo (ints (wiresL f k))∧Below w.heap.size w wr)
 case atStart=>exact ⟨0,f,rfl,Nat.zero_le _,rfl,rfl,by omega,Own.lit0 w 3 (Nat.le_refl _),(Below.refl _ _).alloc (Nat.le_refl _) _⟩
 case round =>
  clear hs
  obtain ⟨k,q,hg,hk,rfl,HQ,hq9,ho,hb⟩:=hrel
  by_cases hlt:q < s
  · obtain ⟨ao,mo,co,rfl,HMO,_,_⟩:=ho.rd.formN
    have hkn:k < n:=by have:=HQ.out;have:=HS.out;omega
    have hmo:mo≤1000:=by have h1:=HMO.out;have h2:=HS.out;rw [wiresL_len] at h1;omega
    have HL:Hid ((ints (wiresL f k)).length=mo):=by rw [Hid,ints_length];exact HMO.out.symm
    have hsz:=hb.size
    have HSS:Hid (ints (wiresL f (k+1))=ints (wiresL f k)++[.int .i64 (q:Int)]):=by rw [Hid,wiresL_succ,ints_append,HQ.out];rfl
    have HQ2:Hid (q+1=f+(k+1)):=by have:=HQ.out;rw [Hid];omega
    have hq2:q+1≤1000:=by omega
    go_wp2_with (at_builtin;refine wpList_app1m rfl _ _ 23 rfl elI rfl ho (by show Value.slice (some ⟨wr.heap.size,0,none⟩) 1 1=_;simp) rfl hsz _ HL.out (by omega) (by omega) ?_;intro b6 c6 w6 ho6 hg6 hat6)
    go_roundg (n - (k+1))
    case measure=>omega
    case rel=>exact ⟨k+1,q+1,rfl,hkn,by go_num,HQ2,hq2,by rw [HSS.out];exact ho6,hb.grown hg6 hsz fun r hr=>(ho.lt r hr).1⟩
  · obtain rfl:k=n:=by have:=HQ.out;have:=HS.out;omega
    go_wp2_with fail
    go_ret
    exact ⟨_,rfl,ho,hb⟩
theorem i_OddEvenMerge (m n s:Nat) (hs:m+n=s) (h3:1≤s) (h4:s≤8) (w:World):Calls Tryz.prog 205 #[.int .i64 (m:Int),.int .i64 (n:Int)] w (RetNetB (s:Int) (mrg s (wiresL 0 m) (wiresL m n)) w):=by
 have HA:=Lib.hid (fun W=>i_areParts m n (by omega) (by omega) (by omega) (by omega) W)
 have HW0:Hid (∀ W:World,Calls Tryz.prog 138 #[.int .i64 0,.int .i64 (m:Int)] W (RetOwn 3 (ints (wiresL 0 m)) W)):=fun W=>i_wiresF 0 m m (by omega) (by omega) W
 have HW1:=Lib.hid (fun W=>i_wiresF m n s hs (by omega) W)
 have HO:=Lib.hid (fun (v u:Value) (W:World) (h:Rd W v (ints (wiresL 0 m))) (h':Rd W u (ints (wiresL m n)))=>i_oddEven s v u _ _ W h h' (by rw [wiresL_len,wiresL_len];omega) (by omega))
 have k1:IntKind.i64.wrap ((m:Int)+(n:Int))=(s:Int):=by rw [IntKind.wrap_i64];omega
 obtain ⟨w0,B,hw0,hB,hA0,hz0,hb0⟩:=newBox w (.cells #[.int .i64 0,.slice none 0 0] 30)
 have HWB:=Lib.hid hw0
 have HBB:=Lib.hid hB
 generalize mrg s (wiresL 0 m) (wiresL m n)=X at *
 clear hs hw0 hB
 go_enter Tryz.func205,Tryz.ntmps205
 go_upto_region 3 with (first
  | (go_at_call 247;rw [HWB.out,HBB.out];refine (HA.out _).mono ?_;rintro e w' ⟨rfl,rfl⟩))
 go_wp2_with (first
  | (go_at_call 138;(with_reducible refine (HW0.out _).mono ?_);rintro e w1 ⟨v1,rfl,o1,b1⟩)
  | (go_at_call 138;(with_reducible refine (HW1.out _).mono ?_);rintro e w2 ⟨v2,rfl,o2,b2⟩)
  | (go_at_call 248;refine (HO.out _ _ _ (o1.rd.below b2) o2.rd).mono ?_;rintro e w3 ⟨v3,rfl,o3,b3⟩;obtain ⟨a3,m3,c3,rfl,HM3,_,_⟩:=o3.formN;have b03:=(b1.trans (b2.mono b1.size)).trans (b3.mono (Nat.le_trans b1.size b2.size));have hA3:=(b03.block B hz0).trans hA0;have hR:=netRes (n:=(s:Int)) hA3 (o3.mono (by have:=b1.size;have:=b2.size;omega)) (Nat.le_of_eq HBB.out) (hb0.trans (b03.mono hb0.size));obtain ⟨c0,c1,f0,f1,q0,q1,oz,bz⟩:=hR))
 exact bodyPost_ret (v:=.tuple #[.agg #[.int .i64 (s:Int),.slice a3 m3 c3],.bool true]) (by simp [results,Tryz.results205,go_sem,q0,q1]) rfl ⟨_,_,_,rfl,oz,bz⟩
theorem i_batcher:∀ (f:Nat) (v:Value) (xs:List Int) (w:World),Rd w v (ints xs)→1≤xs.length→xs.length≤f+1→f≤15→Calls Tryz.prog 280 #[v] w (RetOwnP (batI f xs) w):=by
 intro f
 induction f with
 | zero =>
   intro v xs w h h0 hl hf
   obtain ⟨a,n,c,rfl,HN,_,_⟩:=h.formN
   obtain rfl:n=1:=by have:=HN.out;omega
   go_enter Tryz.func280,Tryz.ntmps280
   go_wp2_with fail
   go_ret
   exact ⟨_,rfl,OwnP.nil w _,Below.refl _ _⟩
 | succ f ih =>
   intro v xs w h h0 hl hf
   obtain ⟨a,n,c,rfl,HN,hnc,hc9⟩:=h.formN
   by_cases h1:n=1
   · have HR:Hid (batI (f+1) xs=[]):=by rw [Hid,batI,if_pos (by rw [←HN.out];omega)]
     subst h1
     clear ih
     go_enter Tryz.func280,Tryz.ntmps280
     go_wp2_with fail
     go_ret
     exact ⟨_,rfl,by rw [HR.out];exact OwnP.nil w _,Below.refl _ _⟩
   have d1:((n:Int) == 1)=false:=by rw [beq_eq_false_iff_ne];omega
   have hn16:n≤16:=by have:=HN.out;omega
   have hxl:=HN.out
   have HR:Hid (batI (f+1) xs=batI f (xs.take ((n+1) / 2))++batI f (xs.drop ((n+1) / 2))++mrg n (xs.take ((n+1) / 2)) (xs.drop ((n+1) / 2))):=by
    rw [Hid,batI,if_neg (by omega),hxl]
   obtain ⟨hh,hhh⟩:∃ hh,(n+1) / 2=hh:=⟨_,rfl⟩
   rw [hhh] at HR
   have hq:((n:Int)+1) / 2=(hh:Int):=by omega
   obtain ⟨ad,x0,rfl,_,_⟩:=h.int (k:=0) (by omega)
   have hch:¬ c=hh:=by omega
   have hT:=h.take (k:=hh) (by omega)
   have hD:Rd w (.slice (some (ad.add hh)) (n - hh) (c - hh)) (ints (xs.drop hh)):=by
    have:=h.cut (k:=hh) (by omega)
    rw [ints_drop,if_neg hch] at this
    exact this
   rw [ints_take] at hT
   have hlt:(xs.take hh).length=hh:=by rw [List.length_take];omega
   have hld:(xs.drop hh).length=n - hh:=by rw [List.length_drop];omega
   have H0:=Lib.hid (fun (W:World) (hW:Below w.heap.size w W)=>RetOwnP.bat (ih _ _ W (hT.below hW) (by omega) (by omega) (by omega)) hW)
   have H1:=Lib.hid (fun (W:World) (hW:Below w.heap.size w W)=>RetOwnP.bat (ih _ _ W (hD.below hW) (by omega) (by omega) (by omega)) hW)
   have HM:=Lib.hid (fun (W:World) (hW:Below w.heap.size w W)=>RetOwnP.bat (i_oddEven n _ _ _ _ W (hT.below hW) (hD.below hW) (by omega) (by omega)) hW)
   have HX:Hid ((batI f (xs.take hh)).length≤100000000000):=batI_le (by omega) (by omega)
   have HY:Hid ((batI f (xs.drop hh)).length≤100000000000):=batI_le (by omega) (by omega)
   have HZ:Hid ((mrg n (xs.take hh) (xs.drop hh)).length≤1310700):=mrg_le (by omega) (by omega)
   generalize batI (f+1) xs=R at HR ⊢
   generalize batI f (xs.take hh)=X at HX HR H0
   generalize batI f (xs.drop hh)=Y at HY HR H1
   generalize mrg n (xs.take hh) (xs.drop hh)=Z at HZ HR HM
   have i1:(hh:Int)≤(n:Int):=by omega
   have i2:(hh:Int)≤(c:Int):=by omega
   have i3:hh≤n:=by omega
   have i4:hh≤c:=by omega
   have i5:(n:Int)≤(c:Int):=by omega
   have i6:(0:Int)≤(hh:Int):=by omega
   clear hT hD hlt hld hxl hhh ih h
   go_enter Tryz.func280,Tryz.ntmps280
   go_upto_region 4 with (fail)
   rw [hq]
   clear hq
   go_cut [4] (fun vb wx=>∃ (a4:Option Addr) (m4 c4:Nat),vb=.slice a4 m4 c4∧OwnP wx w.heap.size (.slice a4 m4 c4) (X++Y)∧Below w.heap.size w wx)
   case first =>
    have hB0:Below w.heap.size w w:=Below.refl _ _
    go_region_held3 (fun wx=>Below w.heap.size w wx∧w.heap.size≤wx.heap.size)
     (first | exact ⟨g8,Below.size g8⟩ | exact ⟨g7,Below.size g7⟩ | exact ⟨g6,Below.size g6⟩ | exact ⟨Below.refl _ _,Nat.le_refl _⟩ | exact ⟨(Below.refl _ _).drew,Nat.le_refl _⟩)
     (first
      | (obtain ⟨r6,ov6,rp6⟩:=o6';obtain ⟨r7,ov7,rp7⟩:=o7;have hx6:=rp6.1;have hx7:=rp7.1;have hX9:=HX.out;have hY9:=HY.out;refine step_app (by rfl) _ _ _ (by rfl) elII (by rfl) ov6 (by rfl) ov7.rd rp7.one (Below.size g7) (by omega) (by omega) ?_;clear hx6 hx7 hX9 hY9;intro b8 c8 w8 ho8 hg8 hat8;have o8:=OwnP.cat rp6 ov6 rp7 (Nat.le_refl _) hg8 ho8;have g8:=Below.grown g7 hg8 (Below.size g7) (fun r hr=>(ov6.lt r hr).1))
      | (obtain ⟨r6,ov6,rp6⟩:=o6;obtain ⟨r7,ov7,rp7⟩:=o7';have hx6:=rp6.1;have hx7:=rp7.1;have hX9:=HX.out;have hY9:=HY.out;refine step_app (by rfl) _ _ _ (by rfl) elII (by rfl) ov6 (by rfl) ov7.rd rp7.one (Below.size g6) (by omega) (by omega) ?_;clear hx6 hx7 hX9 hY9;intro b8 c8 w8 ho8 hg8 hat8;have o8:=OwnP.cat rp6 ov6 rp7 (Nat.le_refl _) hg8 ho8;have g8:=Below.grown g6 hg8 (Below.size g6) (fun r hr=>(ov6.lt r hr).1))
      | (go_at_call 280;(with_reducible refine (H0.out _ (by exact (show _∧_ from by assumption).1)).mono ?_);rintro e w6 ⟨a6,m6,c6,rfl,o6,b6,g6⟩;(try have o7':=o7.below b6))
      | (go_at_call 280;(with_reducible refine (H1.out _ (by exact (show _∧_ from by assumption).1)).mono ?_);rintro e w7 ⟨a7,m7,c7,rfl,o7,b7,g7⟩;(try have o6':=o6.below b7)))
    all_goals go_wp2_with (fail)
    all_goals
     go_meet
     exact ⟨_,_,_,rfl,o8,g8⟩
   case rest =>
   obtain ⟨a4,m4,c4,rfl,o4,g4⟩:=hcut
   have HXY:Hid ((X++Y).length≤200000000000):=by have:=HX.out;have:=HY.out;rw [Hid,List.length_append];omega
   generalize X++Y=XY at *
   clear HX HY H0 H1
   go_wp2_with fail
   go_region_held3 (fun wx=>Below w.heap.size w wx∧w.heap.size≤wx.heap.size)
    (first | exact ⟨g8,Below.size g8⟩ | exact ⟨g7,Below.size g7⟩ | exact ⟨Below.drew g4,Below.size g4⟩ | exact ⟨Below.drew g4,Below.size (Below.drew g4)⟩)
    (first
     | (obtain ⟨r6,ov6,rp6⟩:=o6';obtain ⟨r7,ov7,rp7⟩:=o7;have hx6:=rp6.1;have hx7:=rp7.1;have hX9:=HXY.out;have hZ9:=HZ.out;refine step_app (by rfl) _ _ _ (by rfl) elII (by rfl) ov6 (by rfl) ov7.rd rp7.one (Below.size g7) (by omega) (by omega) ?_;clear hx6 hx7 hX9 hZ9;intro b8 c8 w8 ho8 hg8 hat8;have o8:=OwnP.cat rp6 ov6 rp7 (Nat.le_refl _) hg8 ho8;have g8:=Below.grown g7 hg8 (Below.size g7) (fun r hr=>(ov6.lt r hr).1))
     | (go_at_call 248;(with_reducible refine (HM.out _ (by exact (show _∧_ from by assumption).1)).mono ?_);rintro e w7 ⟨a7,m7,c7,rfl,o7,b7,g7⟩;have o6':=OwnP.below (by first | exact o4 | exact o4.below ((Below.refl _ _).drew)) b7))
   all_goals go_wp2_with (fail)
   all_goals
    go_ret
    exact ⟨_,rfl,by rw [HR.out];exact o8,g8⟩
theorem i_BatcherNetwork (n:Nat) (h1:1≤n) (h8:n≤8) (w:World):Calls Tryz.prog 233 #[.int .i64 (n:Int)] w (RetNetB n (batI 8 (wiresL 0 n)) w):=by
 have HI0:=fun W=>i_isWires (n:Int) W
 rw [inB_iff.2 ⟨by omega,by omega⟩] at HI0
 have HI:=Lib.hid HI0
 have HW:Hid (∀ W:World,Calls Tryz.prog 138 #[.int .i64 0,.int .i64 (n:Int)] W (RetOwn 3 (ints (wiresL 0 n)) W)):=fun W=>i_wiresF 0 n n (by omega) (by omega) W
 have HB:=Lib.hid (fun (v:Value) (W:World) (h:Rd W v (ints (wiresL 0 n)))=>i_batcher 8 v _ W h (by rw [wiresL_len];omega) (by rw [wiresL_len];omega) (by omega))
 obtain ⟨w0,B,hw0,hB,hA0,hz0,hb0⟩:=newBox w (.cells #[.int .i64 0,.slice none 0 0] 30)
 have HWB:=Lib.hid hw0
 have HBB:=Lib.hid hB
 generalize batI 8 (wiresL 0 n)=X at *
 clear hw0 hB HI0
 go_enter Tryz.func233,Tryz.ntmps233
 go_upto_region 3 with (go_at_call 100;rw [HWB.out,HBB.out];refine (HI.out _).mono ?_;rintro e w' ⟨rfl,rfl⟩)
 go_wp2_with (first
  | (go_at_call 138;refine (HW.out _).mono ?_;rintro e w1 ⟨v1,rfl,o1,b1⟩)
  | (go_at_call 280;refine (HB.out _ _ o1.rd).mono ?_;rintro e w3 ⟨v3,rfl,o3,b3⟩;obtain ⟨a3,m3,c3,rfl,HM3,_,_⟩:=o3.formN;have b03:=b1.trans (b3.mono b1.size);have hA3:=(b03.block B hz0).trans hA0;have hR:=netRes (n:=(n:Int)) hA3 (o3.mono (by have:=b1.size;omega)) (Nat.le_of_eq HBB.out) (hb0.trans (b03.mono hb0.size));obtain ⟨c0,c1,f0,f1,q0,q1,oz,bz⟩:=hR))
 exact bodyPost_ret (v:=.tuple #[.agg #[.int .i64 (n:Int),.slice a3 m3 c3],.bool true]) (by simp [results,Tryz.results233,go_sem,q0,q1]) rfl ⟨_,_,_,rfl,oz,bz⟩
def bmRow (at_ h k:Nat):List (List Int):=(List.range k).map fun (i:Nat)=>[(at_:Int)+(i:Int),(at_:Int)+(i:Int)+(h:Int)]
def bmL:Nat→Nat→List (List Int)
 | 0,_=>[]
 | d+1,at_=>bmRow at_ (2 ^ d) (2 ^ d)++bmL d at_++bmL d (at_+2 ^ d)
def btRow (at_ n k:Nat):List (List Int):=(List.range k).map fun (i:Nat)=>[(at_:Int)+(i:Int),(at_:Int)+(n:Int) - 1 - (i:Int)]
def btL:Nat→Nat→List (List Int)
 | 0,_=>[]
 | d+1,at_=>btL d at_++btL d (at_+2 ^ d)++btRow at_ (2 ^ (d+1)) (2 ^ d)++bmL d at_++bmL d (at_+2 ^ d)
theorem bmRow_succ (a h k:Nat):bmRow a h (k+1)=bmRow a h k++[[(a:Int)+(k:Int),(a:Int)+(k:Int)+(h:Int)]]:=by simp [bmRow,List.range_succ]
theorem btRow_succ (a n k:Nat):btRow a n (k+1)=btRow a n k++[[(a:Int)+(k:Int),(a:Int)+(n:Int) - 1 - (k:Int)]]:=by simp [btRow,List.range_succ]
theorem bmRow_len (a h k:Nat):(bmRow a h k).length=k:=by simp [bmRow]
theorem btRow_len (a n k:Nat):(btRow a n k).length=k:=by simp [btRow]
theorem bmL_len:∀ (d a:Nat),d≤3→(bmL d a).length≤20
 | 0,_,_=>by simp [bmL]
 | 1,_,_=>by simp [bmL,bmRow]
 | 2,_,_=>by simp [bmL,bmRow]
 | 3,_,_=>by simp [bmL,bmRow]
 | d+4,_,h=>by omega
theorem btL_len:∀ (d a:Nat),d≤3→(btL d a).length≤40
 | 0,_,_=>by simp [btL]
 | 1,_,_=>by simp [btL,btRow,bmL]
 | 2,_,_=>by simp [btL,btRow,bmL,bmRow]
 | 3,_,_=>by simp [btL,btRow,bmL,bmRow]
 | d+4,_,h=>by omega
theorem pow3 {d:Nat} (h:d≤3):1≤2 ^ d∧2 ^ d≤8:=by
 have h1:=Nat.pow_le_pow_right (n:=2) (by omega) h
 have h2:=Nat.one_le_two_pow (n:=d)
 omega
section
variable {w wr w6:World} {rows rows2:List Value} {vo:Value} {xss yss:List (List Int)} {x y:Int} {b6:Option Addr} {m c6 B2:Nat}
theorem pushP (hov:Own wr 23 w.heap.size vo rows) (hrp:RowsP wr w.heap.size rows xss) (hb:Below w.heap.size w wr) (ho6:Own w6 23 w.heap.size (.slice b6 (m+1) c6) (rows++[.slice (some ⟨wr.heap.size,0,none⟩) 2 2]))
 (hg6:(wr.alloc (.cells #[.int .i64 x,.int .i64 y] 3)).grownBy w6 vo.ownBlock):OwnP w6 w.heap.size (.slice b6 (m+1) c6) (xss++[[x,y]])∧Below w.heap.size w w6:=by
 have hsz:=hb.size
 have hb1:Below wr.heap.size wr (wr.alloc (.cells #[.int .i64 x,.int .i64 y] 3)):=(Below.refl _ _).alloc (Nat.le_refl _) _
 have hov1:=hov.below hb1
 exact ⟨OwnP.push (hrp.below hb1) hov1 (heap_alloc_new wr _) hg6 ho6 hsz,(hb.trans (hb1.mono hsz)).grown hg6 (by simp;omega) (fun r hr=>(hov1.lt r hr).1)⟩
theorem catP (hov:Own wr 23 w.heap.size vo rows) (hrp:RowsP wr w.heap.size rows xss) (hb:Below w.heap.size w wr) (hr2:RowsP wr B2 rows2 yss) (hB2:w.heap.size≤B2) (hg6:wr.grownBy w6 vo.ownBlock) (ho6:Own w6 23 w.heap.size (.slice b6 m c6) (rows++rows2)) :
 OwnP w6 w.heap.size (.slice b6 m c6) (xss++yss)∧Below w.heap.size w w6 :=
 ⟨OwnP.cat hrp hov hr2 hB2 hg6 ho6,hb.grown hg6 hb.size (fun r hr=>(hov.lt r hr).1)⟩
theorem OwnP.parts {w wr:World} {B:Nat} (h:OwnP wr B vo xss):∃ (a:Option Addr) (m c:Nat) (rows:List Value),vo=.slice a m c∧Own wr 23 B (.slice a m c) rows∧RowsP wr B rows xss∧Hid (rows.length=m)∧Hid (m=xss.length):=by
 obtain ⟨rows,hov,hrp⟩:=h
 obtain ⟨a,c,rfl,_,_⟩:=hov.rd.form
 exact ⟨a,rows.length,c,rows,rfl,hov,hrp,rfl,hrp.1⟩
theorem OwnP.rowsOf {wr:World} {B:Nat} {a:Option Addr} {m c:Nat} (h:OwnP wr B (.slice a m c) xss):∃ rows:List Value,Own wr 23 B (.slice a m c) rows∧RowsP wr B rows xss∧Hid (rows.length=m)∧Hid (m=xss.length):=by
 obtain ⟨rows,hov,hrp⟩:=h
 obtain ⟨p,q,e,_,_⟩:=hov.rd.form
 simp only [Value.slice.injEq] at e
 exact ⟨rows,hov,hrp,e.2.1.symm,e.2.1.trans hrp.1⟩
end
theorem i_bitonicMerge:∀ (d a n:Nat) (w:World),d≤3→a+n≤100→n=2 ^ d→Calls Tryz.prog 302 #[.int .i64 (a:Int),.int .i64 (n:Int)] w (RetOwnP (bmL d a) w):=by
 intro d
 induction d with
 | zero =>
   intro a n w hd ha hn
   obtain rfl:n=1:=hn
   go_enter Tryz.func302,Tryz.ntmps302
   go_wp2_with fail
   go_ret
   exact ⟨_,rfl,OwnP.lit0 w (Nat.le_refl _),(Below.refl _ _).alloc (Nat.le_refl _) _⟩
 | succ d ih =>
   intro a n w hd ha hn
   have hp:=pow3 (d:=d) (by omega)
   have HR:Hid (bmL (d+1) a=bmRow a (2 ^ d) (2 ^ d)++bmL d a++bmL d (a+2 ^ d)):=rfl
   have hn2:n=2 * 2 ^ d:=by rw [hn,Nat.pow_succ];omega
   have H0:=Lib.hid (fun (W:World)=>ih a (2 ^ d) W (by omega) (by omega) rfl)
   have H1:=Lib.hid (fun (W:World)=>ih (a+2 ^ d) (2 ^ d) W (by omega) (by omega) rfl)
   have l0:=bmL_len d a (by omega)
   have l1:=bmL_len d (a+2 ^ d) (by omega)
   generalize bmL (d+1) a=R at *
   generalize bmL d a=X at *
   generalize bmL d (a+2 ^ d)=Y at *
   generalize 2 ^ d=h at *
   clear hn ih
   obtain ⟨a1,ha1⟩:∃ a1,a+h=a1:=⟨_,rfl⟩
   rw [ha1] at H1
   have k1:IntKind.i64.wrap ((a:Int)+(h:Int))=(a1:Int):=by rw [IntKind.wrap_i64];omega
   have d1:((n:Int) == 1)=false:=by rw [beq_eq_false_iff_ne];omega
   have hq:(n:Int) / 2=(h:Int):=by omega
   clear hn2 ha1
   go_enter Tryz.func302,Tryz.ntmps302
   go_wp2_with fail
   go_loopg [5,13] h (fun gk vo iv wr=>∃ k:Nat,gk=h - k∧k≤h∧iv=.int .i64 (k:Int)∧OwnP wr w.heap.size vo (bmRow a h k)∧Below w.heap.size w wr)
   case atStart=>exact ⟨0,rfl,Nat.zero_le _,rfl,OwnP.lit0 w (Nat.le_refl _),(Below.refl _ _).alloc (Nat.le_refl _) _⟩
   case round =>
    obtain ⟨k,hg,hk,rfl,ho,hb⟩:=hrel
    obtain ⟨ao,mo,co,rows,rfl,hov,hrp,HLR,HMO⟩:=OwnP.parts (w:=w) ho
    have hmo:mo≤8:=by have:=HMO.out;rw [bmRow_len] at this;omega
    have hsz:=hb.size
    by_cases hlt:k < h
    · have HS:=Lib.hid (bmRow_succ a h k)
      have hovA:=fun o=>hov.alloc o
      have hB6:w.heap.size≤(wr.alloc (.cells #[.int .i64 ((a:Int)+(k:Int)),.int .i64 ((a:Int)+(k:Int)+(h:Int))] 3)).heap.size:=by simp;omega
      go_wp2_with (at_builtin;refine wpList_app1m rfl _ _ 28 rfl elII rfl (hovA _) (by show Value.slice (some ⟨wr.heap.size+1,0,none⟩) 1 1=_;simp) rfl hB6 _ HLR.out (by omega) (by omega) ?_;intro b6 c6 w6 ho6 hg6 hat6;obtain ⟨q1,q2⟩:=pushP hov hrp hb ho6 hg6)
      go_roundg (h - (k+1))
      case measure=>omega
      case rel=>exact ⟨k+1,rfl,hlt,by go_num,by rw [HS.out];exact q1,q2⟩
    · obtain rfl:k=h:=by omega
      clear ho
      go_wp2_with (first
       | (go_at_call 302;(with_reducible refine (H0.out _).mono ?_);clear H0;rintro e w7 ⟨v7,rfl,o7,b7⟩;obtain ⟨a7,m7,c7,r7,rfl,ov7,rp7,HL7,HM7⟩:=OwnP.parts (w:=w) o7;have hov7:=hov.below b7;have hrp7:=hrp.below b7;have hb7:=hb.trans (b7.mono hb.size);have HLR7:Hid (rows.length+r7.length=mo+m7):=(by rw [Hid,HLR.out,HL7.out]);have hs7:=hb7.size;have hm7:m7≤20:=(by have:=HM7.out;omega))
       | (at_builtin;refine wpList_appn rfl _ _ 28 rfl elII hov7 ov7.rd rfl rfl rp7.one hs7 _ HLR7.out (by omega) (by omega) ?_;clear hs7;intro b8 c8 w8 ho8 hg8 hat8;obtain ⟨o8,hb8⟩:=catP hov7 hrp7 hb7 rp7 hb.size hg8 ho8;clear hov7 hrp7 ho8 hg8;obtain ⟨r8,ov8,rp8,HL8,HM8⟩:=OwnP.rowsOf o8)
       | (go_at_call 302;(with_reducible refine (H1.out _).mono ?_);clear H1;rintro e w9 ⟨v9,rfl,o9,b9⟩;obtain ⟨a9,m9,c9,r9,rfl,ov9,rp9,HL9,HM9⟩:=OwnP.parts (w:=w) o9;have hov9:=ov8.below b9;have hrp9:=rp8.below b9;have hb9:=hb8.trans (b9.mono hb8.size);have HLR9:Hid (r8.length+r9.length=mo+m7+m9):=(by rw [Hid,HL8.out,HL9.out]);have hs9:=hb9.size;have hm9:m9≤20:=(by have:=HM9.out;omega))
       | (at_builtin;refine wpList_appn rfl _ _ 28 rfl elII hov9 ov9.rd rfl rfl rp9.one hs9 _ HLR9.out (by omega) (by omega) ?_;intro b10 c10 w10 ho10 hg10 hat10;obtain ⟨o10,hb10⟩:=catP hov9 hrp9 hb9 rp9 hb8.size hg10 ho10))
      go_ret
      exact ⟨_,rfl,by rw [HR.out];exact o10,hb10⟩
theorem i_bitonic:∀ (d a n:Nat) (w:World),d≤3→a+n≤100→n=2 ^ d→Calls Tryz.prog 282 #[.int .i64 (a:Int),.int .i64 (n:Int)] w (RetOwnP (btL d a) w):=by
 intro d
 induction d with
 | zero =>
   intro a n w hd ha hn
   obtain rfl:n=1:=hn
   go_enter Tryz.func282,Tryz.ntmps282
   go_wp2_with fail
   go_ret
   exact ⟨_,rfl,OwnP.nil w _,Below.refl _ _⟩
 | succ d ih =>
   intro a n w hd ha hn
   have hp:=pow3 (d:=d) (by omega)
   have hn2:n=2 * 2 ^ d:=by rw [hn,Nat.pow_succ];omega
   have HR:Hid (btL (d+1) a=btL d a++btL d (a+2 ^ d)++btRow a n (2 ^ d)++bmL d a++bmL d (a+2 ^ d)):=by rw [hn];rfl
   have H0:=Lib.hid (fun (W:World)=>ih a (2 ^ d) W (by omega) (by omega) rfl)
   have H1:=Lib.hid (fun (W:World)=>ih (a+2 ^ d) (2 ^ d) W (by omega) (by omega) rfl)
   have H2:=Lib.hid (fun (W:World)=>i_bitonicMerge d a (2 ^ d) W (by omega) (by omega) rfl)
   have H3:=Lib.hid (fun (W:World)=>i_bitonicMerge d (a+2 ^ d) (2 ^ d) W (by omega) (by omega) rfl)
   have l0:=btL_len d a (by omega)
   have l1:=btL_len d (a+2 ^ d) (by omega)
   have l2:=bmL_len d a (by omega)
   have l3:=bmL_len d (a+2 ^ d) (by omega)
   generalize btL (d+1) a=R at *
   generalize btL d a=X at *
   generalize btL d (a+2 ^ d)=Y at *
   generalize bmL d a=Z at *
   generalize bmL d (a+2 ^ d)=V at *
   generalize 2 ^ d=h at *
   clear hn ih
   obtain ⟨a1,ha1⟩:∃ a1,a+h=a1:=⟨_,rfl⟩
   rw [ha1] at H1 H3
   have k1:IntKind.i64.wrap ((a:Int)+(h:Int))=(a1:Int):=by rw [IntKind.wrap_i64];omega
   have d1:((n:Int) == 1)=false:=by rw [beq_eq_false_iff_ne];omega
   have hq:(n:Int) / 2=(h:Int):=by omega
   have hn16:n≤16:=by omega
   clear hn2 ha1
   go_enter Tryz.func282,Tryz.ntmps282
   go_wp2_with (first
    | (go_at_call 282;(with_reducible refine (H0.out _).mono ?_);clear H0;rintro e w1 ⟨v1,rfl,o1,b1⟩;obtain ⟨p1,m1,c1,r1,rfl,ov1,rp1,HL1,HM1⟩:=OwnP.parts (w:=w) o1;have hm1:m1≤40:=(by have:=HM1.out;omega))
    | (go_at_call 282;(with_reducible refine (H1.out _).mono ?_);clear H1;rintro e w2 ⟨v2,rfl,o2,b2⟩;obtain ⟨p2,m2,c2,r2,rfl,ov2,rp2,HL2,HM2⟩:=OwnP.parts (w:=w) o2;have hov2:=ov1.below b2;have hrp2:=rp1.below b2;have hb2:=b1.trans (b2.mono b1.size);have HLR2:Hid (r1.length+r2.length=m1+m2):=(by rw [Hid,HL1.out,HL2.out]);have hs2:=hb2.size;have hm2:m2≤40:=(by have:=HM2.out;omega))
    | (at_builtin;refine wpList_appn rfl _ _ 28 rfl elII hov2 ov2.rd rfl rfl rp2.one hs2 _ HLR2.out (by omega) (by omega) ?_;clear hs2;intro b3 c3 w3 ho3 hg3 hat3;obtain ⟨o3,hb3⟩:=catP hov2 hrp2 hb2 rp2 b1.size hg3 ho3))
   have HXY:Hid ((X++Y).length≤80):=by rw [Hid,List.length_append];omega
   have o3':OwnP w3 w.heap.size (.slice b3 (m1+m2) c3) (X++Y++btRow a n 0):=by simpa [btRow] using o3
   clear o3
   go_loopg [5,23] h (fun gk vo iv wr=>∃ k:Nat,gk=h - k∧k≤h∧iv=.int .i64 (k:Int)∧OwnP wr w.heap.size vo (X++Y++btRow a n k)∧Below w.heap.size w wr)
   case atStart=>exact ⟨0,rfl,Nat.zero_le _,rfl,o3',hb3⟩
   case round =>
    clear o3' hb3
    obtain ⟨k,hg,hk,rfl,ho,hb⟩:=hrel
    obtain ⟨ao,mo,co,rows,rfl,hov,hrp,HLR,HMO⟩:=OwnP.parts (w:=w) ho
    have hmo:mo≤100:=by have h1:=HMO.out;have h2:=HXY.out;rw [List.length_append,btRow_len] at h1;omega
    have hsz:=hb.size
    by_cases hlt:k < h
    · have HS:Hid (X++Y++btRow a n (k+1)=(X++Y++btRow a n k)++[[(a:Int)+(k:Int),(a:Int)+(n:Int) - 1 - (k:Int)]]):=by rw [Hid,btRow_succ,List.append_assoc (X++Y)]
      have hovA:=fun o=>hov.alloc o
      have hB6:w.heap.size≤(wr.alloc (.cells #[.int .i64 ((a:Int)+(k:Int)),.int .i64 ((a:Int)+(n:Int) - 1 - (k:Int))] 3)).heap.size:=by simp;omega
      go_wp2_with (at_builtin;refine wpList_app1m rfl _ _ 28 rfl elII rfl (hovA _) (by show Value.slice (some ⟨wr.heap.size+1,0,none⟩) 1 1=_;simp) rfl hB6 _ HLR.out (by omega) (by omega) ?_;intro b6 c6 w6 ho6 hg6 hat6;obtain ⟨q1,q2⟩:=pushP hov hrp hb ho6 hg6)
      go_roundg (h - (k+1))
      case measure=>omega
      case rel=>exact ⟨k+1,rfl,hlt,by go_num,by rw [HS.out];exact q1,q2⟩
    · obtain rfl:k=h:=by omega
      clear ho
      go_wp2_with (first
       | (go_at_call 302;(with_reducible refine (H2.out _).mono ?_);clear H2;rintro e w7 ⟨v7,rfl,o7,b7⟩;obtain ⟨a7,m7,c7,r7,rfl,ov7,rp7,HL7,HM7⟩:=OwnP.parts (w:=w) o7;have hov7:=hov.below b7;have hrp7:=hrp.below b7;have hb7:=hb.trans (b7.mono hb.size);have HLR7:Hid (rows.length+r7.length=mo+m7):=(by rw [Hid,HLR.out,HL7.out]);have hs7:=hb7.size;have hm7:m7≤20:=(by have:=HM7.out;omega))
       | (at_builtin;refine wpList_appn rfl _ _ 28 rfl elII hov7 ov7.rd rfl rfl rp7.one hs7 _ HLR7.out (by omega) (by omega) ?_;clear hs7;intro b8 c8 w8 ho8 hg8 hat8;obtain ⟨o8,hb8⟩:=catP hov7 hrp7 hb7 rp7 hb.size hg8 ho8;clear hov7 hrp7 ho8 hg8;obtain ⟨r8,ov8,rp8,HL8,HM8⟩:=OwnP.rowsOf o8)
       | (go_at_call 302;(with_reducible refine (H3.out _).mono ?_);clear H3;rintro e w9 ⟨v9,rfl,o9,b9⟩;obtain ⟨a9,m9,c9,r9,rfl,ov9,rp9,HL9,HM9⟩:=OwnP.parts (w:=w) o9;have hov9:=ov8.below b9;have hrp9:=rp8.below b9;have hb9:=hb8.trans (b9.mono hb8.size);have HLR9:Hid (r8.length+r9.length=mo+m7+m9):=(by rw [Hid,HL8.out,HL9.out]);have hs9:=hb9.size;have hm9:m9≤20:=(by have:=HM9.out;omega))
       | (at_builtin;refine wpList_appn rfl _ _ 28 rfl elII hov9 ov9.rd rfl rfl rp9.one hs9 _ HLR9.out (by omega) (by omega) ?_;intro b10 c10 w10 ho10 hg10 hat10;obtain ⟨o10,hb10⟩:=catP hov9 hrp9 hb9 rp9 hb8.size hg10 ho10))
      go_ret
      exact ⟨_,rfl,by rw [HR.out];exact o10,hb10⟩
theorem i_isPowerD (d:Nat) (hd:d≤3) (w:World):Calls Tryz.prog 281 #[.int .i64 ((2 ^ d:Nat):Int)] w fun e w'=>e=.returned (.bool true)∧w=w':=by
 obtain rfl | rfl | rfl | rfl:d=0∨d=1∨d=2∨d=3:=by omega
 all_goals
  go_enter Tryz.func281,Tryz.ntmps281
  go_wp2
  go_ret
  exact ⟨rfl,rfl⟩
theorem i_BitonicNetwork (d n:Nat) (hd:d≤3) (hn:n=2 ^ d) (w:World):Calls Tryz.prog 234 #[.int .i64 (n:Int)] w (RetNetB n (btL d 0) w):=by
 have hp:=pow3 hd
 have HI:=Lib.hid (fun W=>i_isPowerD d hd W)
 rw [←hn] at HI
 have HB:Hid (∀ W:World,Calls Tryz.prog 282 #[.int .i64 0,.int .i64 (n:Int)] W (RetOwnP (btL d 0) W)):=fun W=>i_bitonic d 0 n W hd (by omega) hn
 obtain ⟨w0,B,hw0,hB,hA0,hz0,hb0⟩:=newBox w (.cells #[.int .i64 0,.slice none 0 0] 30)
 have HWB:=Lib.hid hw0
 have HBB:=Lib.hid hB
 generalize btL d 0=X at *
 clear hw0 hB hn hp
 go_enter Tryz.func234,Tryz.ntmps234
 go_upto_region 3 with (go_at_call 281;rw [HWB.out,HBB.out];refine (HI.out _).mono ?_;rintro e w' ⟨rfl,rfl⟩)
 go_wp2_with (first
  | (go_at_call 282;refine (HB.out _).mono ?_;rintro e w3 ⟨v3,rfl,o3,b3⟩;obtain ⟨a3,m3,c3,rfl,HM3,_,_⟩:=o3.formN;have hA3:=(b3.block B hz0).trans hA0;have hR:=netRes (n:=(n:Int)) hA3 (o3.mono (by omega)) (Nat.le_of_eq HBB.out) (hb0.trans (b3.mono hb0.size));obtain ⟨c0,c1,f0,f1,q0,q1,oz,bz⟩:=hR))
 exact bodyPost_ret (v:=.tuple #[.agg #[.int .i64 (n:Int),.slice a3 m3 c3],.bool true]) (by simp [results,Tryz.results234,go_sem,q0,q1]) rfl ⟨_,_,_,rfl,oz,bz⟩
def updW (W:Nat→Bool) (a b:Nat):Nat→Bool:=fun j=>if j=a∨j=b then true else W j
def liW (W0:Nat→Bool):List (List Int)→Nat→Bool
 | []=>W0
 | p :: t=>if liW W0 t (p.getD 0 0).toNat || liW W0 t (p.getD 1 0).toNat then updW (liW W0 t) (p.getD 0 0).toNat (p.getD 1 0).toNat else liW W0 t
def liK (W0:Nat→Bool):List (List Int)→List Bool
 | []=>[]
 | p :: t=>(liW W0 t (p.getD 0 0).toNat || liW W0 t (p.getD 1 0).toNat) :: liK W0 t
def keptL:List (List Int)→List Bool→List (List Int)
 | p :: t,b :: bs=>if b then p :: keptL t bs else keptL t bs
 | _,_=>[]
def liveL (k:Nat) (xss:List (List Int)):List (List Int):=keptL xss (liK (fun j=>decide (j=k)) xss)
def boolL (n:Nat) (f:Nat→Bool):List Bool:=(List.range n).map f
theorem boolL_len (n:Nat) (f:Nat→Bool):(boolL n f).length=n:=by simp [boolL]
theorem boolL_get {n i:Nat} (f:Nat→Bool) (h:i < n):(boolL n f)[i]?=some (f i):=by simp [boolL,h]
theorem boolL_two {n a b:Nat} (f:Nat→Bool) (ha:a < n) (hb:b < n):((boolL n f).set a true).set b true=boolL n (updW f a b):=by
 apply List.ext_getElem?
 intro j
 simp only [boolL,updW,List.getElem?_set,List.getElem?_map,List.length_set,List.length_map,List.length_range]
 by_cases hj:j < n
 · simp only [List.getElem?_range hj,Option.map_some]
   by_cases e1:b=j
   · subst e1;simp [updW,hb]
   · by_cases e2:a=j
     · subst e2;simp [updW,e1,ha]
     · simp [updW,e1,e2,Ne.symm e1,Ne.symm e2]
 · simp only [List.getElem?_eq_none (show (List.range n).length≤j by simp;omega),Option.map_none]
   rw [if_neg (by omega),if_neg (by omega)]
theorem liK_len (W0:Nat→Bool):∀ xss,(liK W0 xss).length=xss.length
 | []=>rfl
 | p :: t=>by simp [liK,liK_len W0 t]
theorem keptL_sub:∀ (xss:List (List Int)) (bs:List Bool),(keptL xss bs).Sublist xss
 | [],bs=>by cases bs <;> simp [keptL]
 | p :: t,[]=>by simp [keptL]
 | p :: t,b :: bs=>by
   rw [keptL]
   split
   · exact (keptL_sub t bs).cons_cons p
   · exact (keptL_sub t bs).cons p
theorem rep_no (j:Nat) (K:List Bool):List.replicate (j+1) false++K=List.replicate j false++false :: K:=by rw [List.replicate_succ',List.append_assoc];rfl
theorem rep_set (j:Nat) (K:List Bool):(List.replicate (j+1) false++K).set j true=List.replicate j false++true :: K:=by
 rw [rep_no,List.set_append_right _ _ (by simp)]
 simp
theorem keptL_take:∀ (xss:List (List Int)) (bs:List Bool) (k:Nat) (p:List Int) (b:Bool),xss[k]?=some p→bs[k]?=some b→keptL (xss.take (k+1)) (bs.take (k+1))=if b then keptL (xss.take k) (bs.take k)++[p] else keptL (xss.take k) (bs.take k)
 | [],bs,k,p,b,h,_=>by simp at h
 | q :: t,[],k,p,b,_,h=>by simp at h
 | q :: t,c :: bs,0,p,b,h,h2=>by
   simp at h h2
   subst h h2
   simp [keptL]
 | q :: t,c :: bs,k+1,p,b,h,h2=>by
   have:=keptL_take t bs k p b (by simpa using h) (by simpa using h2)
   simp only [List.take_succ_cons,keptL] at this ⊢
   rw [this]
   cases c <;> cases b <;> simp
section
variable {w wr:World} {bx B D m nq:Nat} {X R:Array Value} {bw bk:Addr} {T S:List Bool} {F EW EK:Nat}
structure LvF (F EW EK:Nat) (w:World) (bx B D m:Nat) (X R:Array Value) (bw bk:Addr) (T S:List Bool) (wr:World):Prop where
 hx:wr.heap[bx]?=some (.cells X F (0,0))
 hr:wr.heap[B]?=some (.cells R F (0,0))
 ow:Own wr EW D (.slice (some bw) 8 8) (bools T)
 ok:Own wr EK D (.slice (some bk) m m) (bools S)
 be:Below w.heap.size w wr
 lo:w.heap.size≤D
theorem LvF.drewN (h:LvF F EW EK w bx B D m X R bw bk T S wr) (n:Nat):LvF F EW EK w bx B D m X R bw bk T S (wr.drewN n) :=
 ⟨h.hx,h.hr,h.ow.drewN n,h.ok.drewN n,⟨h.be.os,h.be.tape,h.be.output,h.be.size,h.be.block⟩,h.lo⟩
theorem LvF.keep (h:LvF F EW EK w bx B D m X R bw bk T S wr) (hne:EW≠EK) (hF:F≠EK) {k:Nat} (hk:k < S.length):LvF F EW EK w bx B D m X R bw bk T (S.set k true) (wr.setCell (bk.add k) (.bool true)):=by
 have hs:=h.ok.set rfl (show k < (bools S).length by rw [bools_len];exact hk) (.bool true)
 have hn:∀ q,(Value.slice (some bk) m m).ownBlock=some q→q=bk.block:=fun q e=>by cases e;rfl
 have n1:=own_ne_box h.ok h.hx hF
 have n2:=own_ne_box h.ok h.hr hF
 refine ⟨(heap_setCell_other wr _ _ _ (by rw [block_of_add];intro e;exact n1 (by rw [e];rfl))).trans h.hx,(heap_setCell_other wr _ _ _ (by rw [block_of_add];intro e;exact n2 (by rw [e];rfl))).trans h.hr,h.ow.setCell (by rw [block_of_add];exact fun e=>h.ow.elem_ne h.ok hne _ e rfl) _,by rw [←bools_set];exact hs.1,h.be.setCell (by rw [block_of_add];have:=(h.ok.lt _ rfl).1;have:=h.lo;omega) _,h.lo⟩
theorem LvF.want (h:LvF F EW EK w bx B D m X R bw bk T S wr) (hne:EW≠EK) (hF:F≠EW) {k:Nat} (hk:k < T.length):LvF F EW EK w bx B D m X R bw bk (T.set k true) S (wr.setCell (bw.add k) (.bool true)):=by
 have hs:=h.ow.set rfl (show k < (bools T).length by rw [bools_len];exact hk) (.bool true)
 have n1:=own_ne_box h.ow h.hx hF
 have n2:=own_ne_box h.ow h.hr hF
 refine ⟨(heap_setCell_other wr _ _ _ (by rw [block_of_add];intro e;exact n1 (by rw [e];rfl))).trans h.hx,(heap_setCell_other wr _ _ _ (by rw [block_of_add];intro e;exact n2 (by rw [e];rfl))).trans h.hr,by rw [←bools_set];exact hs.1,h.ok.setCell (by rw [block_of_add];exact fun e=>h.ow.elem_ne h.ok hne _ rfl e) _,h.be.setCell (by rw [block_of_add];have:=(h.ow.lt _ rfl).1;have:=h.lo;omega) _,h.lo⟩
end
theorem i_LiveNetwork (N k0:Nat) (v u:Value) (xss:List (List Int)) (w:World) (h:Rd2 w v xss) (hk:netOk (N:Int) xss=true) (hu:Rd w u (ints [(k0:Int)])) (hkN:k0 < N):Calls Tryz.prog 235 #[.agg #[.int .i64 N,v],u] w (RetNetB N (liveL k0 xss) w):=by
 obtain ⟨N',e,hN1,hN8,hL60⟩:=netOk_n hk
 obtain rfl:N=N':=by omega
 clear e
 have HK:=Lib.hid (fun k xs=>netOk_row (k:=k) (xs:=xs) hk)
 obtain ⟨a,c,rfl,hmc,hc9⟩:=h.form
 obtain ⟨m,hm⟩:∃ m,xss.length=m:=⟨_,rfl⟩
 have HM:=Lib.hid hm
 obtain ⟨pu,y0,cu,rfl,hu0⟩:∃ (pu:Addr) (y0:Int) (cu:Nat),u=.slice (some pu) 1 cu∧w.cell? pu=some (.int .i64 (k0:Int)):=by
  obtain ⟨au,nu,cu,rfl,HU,_,_⟩:=hu.formN
  obtain rfl:nu=1:=HU.out
  obtain ⟨p,x,rfl,hc,hx⟩:=hu.int (k:=0) (by simp)
  have:=hx.out
  simp at this
  exact ⟨p,x,cu,rfl,by rw [this];simpa [Addr.add] using hc⟩
 rw [hm] at h hmc hL60 ⊢
 clear hm
 have HNK:=Lib.hid (fun (W:World) (hW:Rd2 W (.slice a m c) xss)=>hk ▸ i_NetworkOk (N:Int) _ xss W hW (by unfold I64;omega))
 clear hk hu
 obtain ⟨wa,bx,hwa,hbx,hXa,hza,hba⟩:=newBox w (.cells #[.int .i64 N,.slice a m c] 30)
 obtain ⟨w0,B,hw0,hB,hA0,hz0,hb0⟩:=newBox wa (.cells #[.int .i64 0,.slice none 0 0] 30)
 have hX0:w0.heap[bx]?=_:=(hb0.block bx hza).trans hXa
 have hb0':=hba.trans (hb0.mono hba.size)
 have hxB:bx < B:=by omega
 have HWA:=Lib.hid hwa
 have HBX:=Lib.hid hbx
 have HW0:=Lib.hid hw0
 have HBB:Hid (w.heap.size+1=B):=by rw [Hid,←hB,←hwa];simp
 have h0:=h.below hb0'
 have q0:=box_cell hX0 0
 have q1:=box_cell hX0 1
 clear hwa hbx hw0 hB hXa hza hba hb0
 go_enter Tryz.func235,Tryz.ntmps235
 go_upto_region 1 with (fail)
 rw [HWA.out,HW0.out,HBB.out,HBX.out]
 go_upto_region 3 with (go_at_call 40;refine (HNK.out _ h0).mono ?_;rintro e w1 ⟨rfl,b1⟩)
 have hX1:w1.heap[bx]?=_:=(b1.block bx (box_lt hX0)).trans hX0
 have hA1:w1.heap[B]?=_:=(b1.block B hz0).trans hA0
 have bt1:=hb0'.trans (b1.mono hb0'.size)
 have h1:=h.below bt1
 have z1:B < w1.heap.size:=box_lt hA1
 obtain ⟨w2,D,hw2,hD,hD2,hz2,hb2⟩:=newBox w1 (.cells #[.bool false,.bool false,.bool false,.bool false,.bool false,.bool false,.bool false,.bool false] 213)
 have HW2:=Lib.hid hw2
 have HD:=Lib.hid hD
 clear hw2 hD
 go_upto_region 4 with (fail)
 rw [HW2.out,HD.out]
 have hX2:w2.heap[bx]?=_:=(hb2.block bx (box_lt hX1)).trans hX1
 have hA2:w2.heap[B]?=_:=(hb2.block B z1).trans hA1
 have bt2:=bt1.trans (hb2.mono bt1.size)
 have hDl:w.heap.size≤D:=by have:=bt1.size;have:=HD.out;omega
 have hxD:B < D:=by have:=HD.out;omega
 obtain ⟨bw,hbw⟩:∃ bw:Addr,(⟨D,0,none⟩:Addr)=bw:=⟨_,rfl⟩
 have oW:Own w2 213 D (.slice (some ⟨D,0,none⟩) 8 8) (bools (List.replicate 8 false)) :=
  .inr ⟨D,0,8,_,rfl,Nat.le_refl _,hD2,by simp [bools],by omega,by simp,fun j u hu=>by simpa [bools,List.replicate] using hu⟩
 rw [hbw] at oW ⊢
 have hDb:D≤bw.block:=by rw [←hbw];exact Nat.le_refl _
 have hW00:(List.replicate 8 false).set k0 true=boolL 8 (fun j=>decide (j=k0)):=by
  obtain rfl | rfl | rfl | rfl | rfl | rfl | rfl | rfl:k0=0∨k0=1∨k0=2∨k0=3∨k0=4∨k0=5∨k0=6∨k0=7:=by omega
  all_goals decide
 have HW00:=Lib.hid hW00
 clear hbw hW00
 have hu2:=(bt2.cell (World.block_lt_of_cell? _ _ hu0)).trans hu0
 have HIW:=Lib.hid (fun (W:World)=>i_isWire (N:Int) (k0:Int) (.slice a m c) W)
 rw [inB_iff.2 (by omega)] at HIW
 have q2:=box_cell hX2 0
 have q3:=box_cell hX2 1
 clear hX0 hX1 hA0 hA1 hb0' b1 bt1 h1 z1 hb2 hD2 h0 hu0 q0 q1
 go_wp2_with fail
 go_loopg [23] 1 (fun g iv wr=>(g=1∧iv=.int .i64 0∧w2=wr)∨(g=0∧iv=.int .i64 1∧wr.heap[bx]?=some (.cells #[.int .i64 N,.slice a m c] 30 (0,0))∧wr.heap[B]?=some (.cells #[.int .i64 0,.slice none 0 0] 30 (0,0))∧Own wr 213 D (.slice (some bw) 8 8) (bools (boolL 8 (fun j=>decide (j=k0))))∧Below w.heap.size w wr))
 case atStart=>exact .inl ⟨rfl,rfl,rfl⟩
 case round =>
  rcases hrel with ⟨hg,rfl,rfl⟩ | ⟨hg,rfl,hX,hA,oW,bt⟩
  · have STEP:Hid (∀ w3:World,Below w2.heap.size w2 w3→w3.cell? (bw.add k0)=some (.bool false)∧w3.frozen? (bw.add k0)=false∧(w3.setCell (bw.add k0) (.bool true)).heap[bx]?=some (.cells #[.int .i64 N,.slice a m c] 30 (0,0))∧(w3.setCell (bw.add k0) (.bool true)).heap[B]?=some (.cells #[.int .i64 0,.slice none 0 0] 30 (0,0))∧Own (w3.setCell (bw.add k0) (.bool true)) 213 D (.slice (some bw) 8 8) (bools (boolL 8 (fun j=>decide (j=k0))))∧Below w.heap.size w (w3.setCell (bw.add k0) (.bool true))):=fun w3 b3=>by
     have o3:=oW.below b3
     have hs:=(o3.set rfl (show k0 < (bools (List.replicate 8 false)).length by simp [bools];omega) (.bool true)).1
     rw [bools_set,HW00.out] at hs
     refine ⟨o3.rd.boolc (by rw [List.getElem?_replicate,if_pos (by omega)]),o3.frozen rfl k0,(heap_setCell_other _ _ _ _ (by rw [block_of_add];omega)).trans ((b3.block bx (box_lt hX2)).trans hX2),(heap_setCell_other _ _ _ _ (by rw [block_of_add];omega)).trans ((b3.block B (box_lt hA2)).trans hA2),hs,(bt2.trans (b3.mono bt2.size)).setCell (by rw [block_of_add];omega) _⟩
    have i1:(k0:Int) < 8:=by omega
    clear oW hX2 hA2 bt2
    go_wp2_with (go_at_call 101;refine (HIW.out _).mono ?_;rintro e w3 ⟨rfl,b3⟩;obtain ⟨f1,f2,f3,f4,f5,f6⟩:=STEP.out w3 b3)
    go_roundg 0
    case measure=>omega
    case rel=>exact .inr ⟨rfl,rfl,f3,f4,f5,f6⟩
  · clear HIW HW00 hu2 q2 q3 hX2 hA2 bt2
    obtain ⟨wo,rfl⟩:∃ wo:World,wo=wr:=⟨_,rfl⟩
    have q0:=box_cell hX 0
    have q1:=box_cell hX 1
    have hsD:D≤wo.heap.size:=by have:=(oW.lt _ rfl).2;omega
    go_upto_region 13 with (at_make;refine wpList_mk (n:=m) (B:=D) rfl _ _ 127 rfl elB rfl rfl hsD (by omega) (by omega) ?_;intro bk w4 hbk4 hok4 hgk4;have b4:Below wo.heap.size wo w4:=(Below.refl _ _).grown hgk4 (Nat.le_refl _) (fun _ h=>by cases h);have hX4:w4.heap[bx]?=some (.cells #[.int .i64 N,.slice a m c] 30 (0,0)):=(b4.block bx (box_lt hX)).trans hX;have q4:=box_cell hX4 1)
    have hL4:LvF 30 213 4 w bx B D m #[.int .i64 N,.slice a m c] #[.int .i64 0,.slice none 0 0] bw bk (boolL 8 (liW (fun j=>decide (j=k0)) (xss.drop m))) (List.replicate m false++liK (fun j=>decide (j=k0)) (xss.drop m)) w4 :=
     ⟨hX4,(b4.block B (box_lt hA)).trans hA,by rw [List.drop_of_length_le (by have:=HM.out;omega)];exact oW.below b4,by rw [List.drop_of_length_le (by have:=HM.out;omega)];simpa [bools,liK] using hok4,bt.trans (b4.mono bt.size),hDl⟩
    clear hX hA oW bt q0 q1 hsD hgk4 hok4 b4 hX4 q4 hbk4
    go_loopg [10] m (fun g kv wr=>∃ (k:Nat) (z:Int),g=k∧k≤m∧kv=.int .i64 z∧Hid (z=(k:Int) - 1)∧-1≤z∧z≤60∧LvF 30 213 4 w bx B D m #[.int .i64 N,.slice a m c] #[.int .i64 0,.slice none 0 0] bw bk (boolL 8 (liW (fun j=>decide (j=k0)) (xss.drop k))) (List.replicate k false++liK (fun j=>decide (j=k0)) (xss.drop k)) wr)
    case atStart=>exact ⟨m,(m:Int) - 1,rfl,Nat.le_refl _,rfl,rfl,by omega,by omega,hL4⟩
    case round =>
     clear hL4
     obtain ⟨wl,rfl⟩:∃ wl:World,wl=wr:=⟨_,rfl⟩
     obtain ⟨k,z,hg,hkm,rfl,HZ,hz1,hz2,hL⟩:=hrel
     by_cases hz0:0≤z
     · obtain ⟨j,rfl⟩:=Int.eq_ofNat_of_zero_le hz0
       obtain rfl:k=j+1:=by have:=HZ.out;omega
       have hjm:j < m:=by omega
       have hjx:j < xss.length:=by have:=HM.out;omega
       obtain ⟨x,y,hp,hxN,hyN,hxy⟩:=HK.out j _ (List.getElem?_eq_getElem hjx)
       have hxj:xss[j]?=some [(x:Int),(y:Int)]:=by rw [List.getElem?_eq_getElem hjx,hp]
       have hdr:xss.drop j=[(x:Int),(y:Int)] :: xss.drop (j+1):=by rw [List.drop_eq_getElem_cons hjx,hp]
       obtain ⟨W,hW⟩:∃ W,liW (fun j=>decide (j=k0)) (xss.drop (j+1))=W:=⟨_,rfl⟩
       obtain ⟨K,hKK⟩:∃ K,liK (fun j=>decide (j=k0)) (xss.drop (j+1))=K:=⟨_,rfl⟩
       have HSW:Hid (liW (fun j=>decide (j=k0)) (xss.drop j)=if W x || W y then updW W x y else W):=by rw [Hid,hdr,liW,hW];rfl
       have HSK:Hid (liK (fun j=>decide (j=k0)) (xss.drop j)=(W x || W y) :: K):=by rw [Hid,hdr,liK,hW,hKK];rfl
       rw [hW,hKK] at hL
       obtain ⟨ad,zr,d,rfl,e0,e1,e2⟩:=(h.below hL.be).two hxj
       have q1:=box_cell hL.hx 1
       have i1:(j:Int) < (m:Int):=by omega
       have i2:(x:Int) < 8:=by omega
       have i3:(y:Int) < 8:=by omega
       clear hp hxj hdr hW hKK
       go_wp2
       go_quiet (fail)
       rename_i nq
       clear e0 e1 e2 q1
       replace hL:=hL.drewN nq
       obtain ⟨wv,hwv⟩:∃ wv,wl.drewN nq=wv:=⟨_,rfl⟩
       rw [hwv] at hL ⊢
       clear hwv
       have gx:=boolL_get (n:=8) (i:=x) W (by omega)
       have gy:=boolL_get (n:=8) (i:=y) W (by omega)
       have cx:=hL.ow.rd.boolc gx
       have cy:=hL.ow.rd.boolc gy
       have fk:=hL.ok.frozen rfl j
       have ck:=hL.ok.rd.boolc (show (List.replicate (j+1) false++K)[j]?=some false by rw [rep_no,List.getElem?_append_right (by simp)];simp)
       have L1:=hL.keep (by decide) (by decide) (k:=j) (by simp;omega)
       rw [rep_set] at L1
       have cx1:=L1.ow.rd.boolc gx
       have fx1:=L1.ow.frozen rfl x
       have L2:=L1.want (by decide) (by decide) (k:=x) (by rw [boolL_len];omega)
       obtain ⟨wy,hwy⟩:∃ b,((boolL 8 W).set x true)[y]?=some b:=⟨_,List.getElem?_eq_getElem (by rw [List.length_set,boolL_len];omega)⟩
       have cy2:=L2.ow.rd.boolc hwy
       have fy2:=L2.ow.frozen rfl y
       have L3:=L2.want (by decide) (by decide) (k:=y) (by rw [List.length_set,boolL_len];omega)
       rw [boolL_two W (by omega) (by omega)] at L3
       rw [rep_no] at hL
       have hz3 : -1≤(j:Int) - 1∧(j:Int) - 1≤60:=by omega
       clear L1 L2 hwy gx gy
       have LF:=Lib.hid hL
       have LT:=Lib.hid L3
       clear hL L3
       cases hp:W x
       · cases hq:W y
         · rw [hp] at cx HSW HSK
           rw [hq] at cy HSW HSK
           clear cx1 fx1 cy2 fy2 fk ck hp hq
           go_wp2
           go_roundg j
           case measure=>omega
           case rel=>exact ⟨j,(j:Int) - 1,rfl,by omega,by go_num,rfl,hz3.1,hz3.2,by rw [HSW.out,HSK.out];exact LF.out⟩
         · rw [hp] at cx cx1 HSW HSK
           rw [hq] at cy HSW HSK
           clear hp hq
           go_wp2
           go_roundg j
           case measure=>omega
           case rel=>exact ⟨j,(j:Int) - 1,rfl,by omega,by go_num,rfl,hz3.1,hz3.2,by rw [HSW.out,HSK.out];exact LT.out⟩
       · rw [hp] at cx cx1 HSW HSK
         clear hp cy
         go_wp2
         go_roundg j
         case measure=>omega
         case rel=>exact ⟨j,(j:Int) - 1,rfl,by omega,by go_num,rfl,hz3.1,hz3.2,by rw [HSW.out,HSK.out];exact LT.out⟩
     · obtain rfl:k=0:=by have:=HZ.out;omega
       have hx3:=hL.hx
       have hr3:=hL.hr
       have ok3:=hL.ok
       have be3:=hL.be
       simp only [List.drop_zero,List.replicate_zero,List.nil_append] at ok3
       have HR:Hid (liveL k0 xss=keptL xss (liK (fun j=>decide (j=k0)) xss)):=rfl
       have HKL:Hid ((liK (fun j=>decide (j=k0)) xss).length=m):=by rw [Hid,liK_len];exact HM.out
       generalize liK (fun j=>decide (j=k0)) xss=KB at *
       obtain ⟨w5,bo,hw5,hbo,hO5,hz5,hb5⟩:=newBox wl (.cells #[.int .i64 N,.slice none 0 0] 30)
       have HW5:=Lib.hid hw5
       have HBO:=Lib.hid hbo
       have q0:=box_cell hx3 0
       have q1:=box_cell hx3 1
       have hX5:w5.heap[bx]?=_:=(hb5.block bx (box_lt hx3)).trans hx3
       have hA5:w5.heap[B]?=_:=(hb5.block B (box_lt hr3)).trans hr3
       have ok5:=ok3.below hb5
       have be5:=be3.trans (hb5.mono be3.size)
       have hBo:B < bo:=by have:=box_lt hr3;omega
       have hDo:bk.block < bo:=by have:=(ok3.lt _ rfl).2;omega
       have hwo:w.heap.size≤bo:=by have:=be3.size;omega
       have q5:=box_cell hX5 1
       clear hL hw5 hbo HZ hz1 hz2
       go_upto_region 19 with (fail)
       rw [HW5.out,HBO.out]
       clear q0 q1 hx3 hr3 ok3 be3 hb5
       go_wp2_with fail
       go_loopg [82] m (fun g iv wr=>∃ (q:Nat) (ao:Option Addr) (mo co:Nat),g=m - q∧q≤m∧iv=.int .i64 (q:Int)∧wr.heap[bo]?=some (.cells #[.int .i64 N,.slice ao mo co] 30 (0,0))∧OwnP wr (bo+1) (.slice ao mo co) (keptL (xss.take q) (KB.take q))∧Below bo w5 wr)
       case atStart=>exact ⟨0,none,0,0,rfl,Nat.zero_le _,rfl,hO5,by rw [List.take_zero];exact OwnP.nil _ _,Below.refl _ _⟩
       case round =>
        clear hO5 q5
        obtain ⟨wl2,rfl⟩:∃ wl2:World,wl2=wr:=⟨_,rfl⟩
        obtain ⟨q,ao,mo,co,hg,hq,rfl,hO,ho,hb⟩:=hrel
        have okq:=ok5.keep (w':=wl2) (fun k hk e=>hb.block k (by cases e;exact hDo))
        have be:=be5.trans (hb.mono hwo)
        obtain ⟨rows,hov,hrp,HLR,HMO⟩:=OwnP.rowsOf ho
        have hmo:mo≤60:=by have h1:=HMO.out;have h2:=(keptL_sub (xss.take q) (KB.take q)).length_le;rw [List.length_take] at h2;omega
        clear ho
        by_cases hlt:q < m
        · have hqx:q < xss.length:=by have:=HM.out;omega
          obtain ⟨x,y,hp,hxN,hyN,hxy⟩:=HK.out q _ (List.getElem?_eq_getElem hqx)
          have hxq:xss[q]?=some [(x:Int),(y:Int)]:=by rw [List.getElem?_eq_getElem hqx,hp]
          obtain ⟨b,hbq⟩:∃ b,KB[q]?=some b:=⟨_,List.getElem?_eq_getElem (by rw [HKL.out];exact hlt)⟩
          have HS:=Lib.hid (keptL_take xss KB q _ b hxq hbq)
          obtain ⟨ad,zr,d,rfl,e0,e1,e2⟩:=(h.below be).two hxq
          have ck:=okq.rd.boolc hbq
          have i1:(q:Int) < (m:Int):=by omega
          clear hp hxq hbq
          cases b with
          | false =>
            go_wp2_with fail
            go_roundg (m - (q+1))
            case measure=>omega
            case rel=>exact ⟨q+1,ao,mo,co,rfl,hlt,by go_num,hO,by rw [HS.out];exact ⟨rows,hov,hrp⟩,hb⟩
          | true =>
            have hzb:bo+1≤wl2.heap.size:=box_lt hO
            have cb:=box_cell hO 1
            have hoA:=hov.alloc (.cells #[.int .i64 (x:Int),.int .i64 (y:Int)] 3)
            have hsA:bo+1≤(wl2.alloc (.cells #[.int .i64 (x:Int),.int .i64 (y:Int)] 3)).heap.size:=by simp;omega
            have hBA:(wl2.alloc (.cells #[.int .i64 (x:Int),.int .i64 (y:Int)] 3)).heap[bo]?=some (.cells #[.int .i64 N,.slice ao mo co] 30 (0,0)):=(Below.heap_alloc _ _ _ (box_lt hO)).trans hO
            have cbA:=box_cell hBA 1
            have cbB:=box_cell ((Below.heap_alloc (wl2.alloc (.cells #[.int .i64 (x:Int),.int .i64 (y:Int)] 3)) (.cells #[.slice (some ⟨wl2.heap.size,0,none⟩) 2 2] 23) bo (box_lt hBA)).trans hBA) 1
            go_upto_region 23 with (fail)
            go_region_law ((refine step_app1 (w:=wl2.alloc (.cells #[.int .i64 (x:Int),.int .i64 (y:Int)] 3)) (by rfl) _ _ _ (by rfl) elII (by rfl) hoA (by show Value.slice (some ⟨wl2.heap.size+1,0,none⟩) 1 1=_;simp) (by rfl) hsA (by rw [HLR.out];omega) (by rw [HLR.out];omega) ?_;intro b6 c6 w6 ho6 hg6 hat6;rw [HLR.out] at ho6;obtain ⟨k6,kf6,hO7,o7,z7,b7⟩:=boxPush hO (by decide) (by decide) hov hrp ho6 hg6))
            all_goals
             rw [show rows.length=mo from HLR.out]
             clear k6 kf6 ho6 hg6 hat6 hoA hBA cbA cbB cb
             go_wp2_with fail
             go_roundg (m - (q+1))
             case measure=>omega
             case rel=>exact ⟨q+1,_,_,_,rfl,hlt,by go_num,hO7,by rw [HS.out,if_pos trivial];exact o7,hb.trans b7⟩
        · obtain rfl:q=m:=by omega
          have hAw:wl2.heap[B]?=_:=(hb.block B hBo).trans hA5
          obtain ⟨c0,c1,f0,f1,r0,r1,oz,bz⟩:=netRes (n:=(N:Int)) hAw ((show OwnP wl2 (bo+1) (.slice ao mo co) _ from ⟨rows,hov,hrp⟩).mono (by omega)) (by have:=HBB.out;omega) be
          rw [List.take_of_length_le (by have:=HM.out;omega),List.take_of_length_le (by have:=HKL.out;omega),←HR.out] at oz
          have p0:=box_cell hO 0
          have p1:=box_cell hO 1
          clear hov hrp hO hAw okq
          go_wp2_with fail
          exact bodyPost_ret (v:=.tuple #[.agg #[.int .i64 (N:Int),.slice ao mo co],.bool true]) (by simp [results,Tryz.results235,go_sem,r0,r1]) rfl ⟨_,_,_,rfl,oz,bz⟩
def con0:List (List Int):=[[0,1],[2,3],[0,2],[1,3],[1,2]]
theorem own_two {W:World} {g E B:Nat} {a b:Int} (h:W.heap[g]?=some (.cells #[.int .i64 a,.int .i64 b] E (0,0))) (hB:B≤g):Own W E B (.slice (some ⟨g,0,none⟩) 2 2) (ints [a,b]) :=
 .inr ⟨g,0,2,_,rfl,hB,h,by simp [ints],by omega,by simp,fun j u hu=>by simpa [ints] using hu⟩
theorem own_many {W:World} {g E B n:Nat} {cs:Array Value} (h:W.heap[g]?=some (.cells cs E (0,0))) (hB:B≤g) (hn:cs.size=n) (hm:n≤1000):Own W E B (.slice (some ⟨g,0,none⟩) n n) cs.toList :=
 .inr ⟨g,0,n,cs,by rw [Array.length_toList,hn],hB,h,by simp [hn],by omega,by omega,fun j u hu=>by simpa using hu⟩
theorem con0_own (w:World) (o:Obj) (W:World)
 (hW:((((((w.alloc o).alloc (.cells #[.int .i64 0,.int .i64 1] 3)).alloc (.cells #[.int .i64 2,.int .i64 3] 3)).alloc (.cells #[.int .i64 0,.int .i64 2] 3)).alloc (.cells #[.int .i64 1,.int .i64 3] 3)).alloc (.cells #[.int .i64 1,.int .i64 2] 3)).alloc
  (.cells #[.slice (some ⟨w.heap.size+1,0,none⟩) 2 2,.slice (some ⟨w.heap.size+1+1,0,none⟩) 2 2,.slice (some ⟨w.heap.size+1+1+1,0,none⟩) 2 2,.slice (some ⟨w.heap.size+1+1+1+1,0,none⟩) 2 2,.slice (some ⟨w.heap.size+1+1+1+1+1,0,none⟩) 2 2] 23)=W) :
 Own2 W 23 3 w.heap.size W.heap.size (.slice (some ⟨w.heap.size+1+1+1+1+1+1,0,none⟩) 5 5) con0:=by
 have hh:W.heap=w.heap++(#[o,(.cells #[.int .i64 0,.int .i64 1] 3),(.cells #[.int .i64 2,.int .i64 3] 3),(.cells #[.int .i64 0,.int .i64 2] 3),(.cells #[.int .i64 1,.int .i64 3] 3),(.cells #[.int .i64 1,.int .i64 2] 3),(.cells #[.slice (some ⟨w.heap.size+1,0,none⟩) 2 2,.slice (some ⟨w.heap.size+1+1,0,none⟩) 2 2,.slice (some ⟨w.heap.size+1+1+1,0,none⟩) 2 2,.slice (some ⟨w.heap.size+1+1+1+1,0,none⟩) 2 2,.slice (some ⟨w.heap.size+1+1+1+1+1,0,none⟩) 2 2] 23)]:Array Obj):=by
  rw [←hW]
  have e:∀ (a:Array Obj) (o0 o1 o2 o3 o4 o5 o6:Obj),((((((a.push o0).push o1).push o2).push o3).push o4).push o5).push o6=a++#[o0,o1,o2,o3,o4,o5,o6]:=fun a _ _ _ _ _ _ _=>by
   apply Array.ext'
   simp
  exact e _ _ _ _ _ _ _ _
 have hs:W.heap.size=w.heap.size+7:=by rw [hh];simp
 have g1:W.heap[w.heap.size+1]?=some (.cells #[.int .i64 0,.int .i64 1] 3 (0,0)):=by
  show W.heap[w.heap.size+1]?=_
  rw [hh,Array.getElem?_append_right (by omega),Nat.add_sub_cancel_left]
  rfl
 have g2:W.heap[w.heap.size+1+1]?=some (.cells #[.int .i64 2,.int .i64 3] 3 (0,0)):=by
  show W.heap[w.heap.size+2]?=_
  rw [hh,Array.getElem?_append_right (by omega),Nat.add_sub_cancel_left]
  rfl
 have g3:W.heap[w.heap.size+1+1+1]?=some (.cells #[.int .i64 0,.int .i64 2] 3 (0,0)):=by
  show W.heap[w.heap.size+3]?=_
  rw [hh,Array.getElem?_append_right (by omega),Nat.add_sub_cancel_left]
  rfl
 have g4:W.heap[w.heap.size+1+1+1+1]?=some (.cells #[.int .i64 1,.int .i64 3] 3 (0,0)):=by
  show W.heap[w.heap.size+4]?=_
  rw [hh,Array.getElem?_append_right (by omega),Nat.add_sub_cancel_left]
  rfl
 have g5:W.heap[w.heap.size+1+1+1+1+1]?=some (.cells #[.int .i64 1,.int .i64 2] 3 (0,0)):=by
  show W.heap[w.heap.size+5]?=_
  rw [hh,Array.getElem?_append_right (by omega),Nat.add_sub_cancel_left]
  rfl
 have g6:W.heap[w.heap.size+1+1+1+1+1+1]?=some (.cells #[.slice (some ⟨w.heap.size+1,0,none⟩) 2 2,.slice (some ⟨w.heap.size+1+1,0,none⟩) 2 2,.slice (some ⟨w.heap.size+1+1+1,0,none⟩) 2 2,.slice (some ⟨w.heap.size+1+1+1+1,0,none⟩) 2 2,.slice (some ⟨w.heap.size+1+1+1+1+1,0,none⟩) 2 2] 23 (0,0)):=by
  show W.heap[w.heap.size+6]?=_
  rw [hh,Array.getElem?_append_right (by omega),Nat.add_sub_cancel_left]
  rfl
 refine ⟨_,own_many g6 (by omega) rfl (by omega),fun k hk=>by simp [Value.ownBlock] at hk;omega,?_⟩
 have r0:=RowsOwn.nil W 3 w.heap.size (w.heap.size+1)
 have r1:=r0.snoc (T':=w.heap.size+2) (own_two g1 (by omega)) (fun k hk=>by simp [Value.ownBlock] at hk;omega) (by omega)
 have r2:=r1.snoc (T':=w.heap.size+3) (own_two g2 (by omega)) (fun k hk=>by simp [Value.ownBlock] at hk;omega) (by omega)
 have r3:=r2.snoc (T':=w.heap.size+4) (own_two g3 (by omega)) (fun k hk=>by simp [Value.ownBlock] at hk;omega) (by omega)
 have r4:=r3.snoc (T':=w.heap.size+5) (own_two g4 (by omega)) (fun k hk=>by simp [Value.ownBlock] at hk;omega) (by omega)
 have r5:=r4.snoc (T':=w.heap.size+6) (own_two g5 (by omega)) (fun k hk=>by simp [Value.ownBlock] at hk;omega) (by omega)
 exact r5.mono (Nat.le_refl _) (by omega)
theorem i_NewConsole (w:World):Calls Tryz.prog 38 #[] w (RetNet 4 con0 w):=by
 go_enter Tryz.func38,Tryz.ntmps38
 go_wp2
 have hO:=con0_own w (.cells #[.int .i64 4,.slice (some ⟨w.heap.size+1+1+1+1+1+1,0,none⟩) 5 5] 30) _ rfl
 refine bodyPost_ret (v:=.agg #[.int .i64 4,.slice (some ⟨w.heap.size+1+1+1+1+1+1,0,none⟩) 5 5]) (by simp [results,Tryz.results38,go_sem]) rfl ⟨_,rfl,hO,?_⟩
 exact ((((((Below.refl _ _).alloc (Nat.le_refl _) _).alloc (by simp) _).alloc (by simp;omega) _).alloc (by simp;omega) _).alloc (by simp;omega) _).alloc (by simp;omega) _ |>.alloc (by simp;omega) _
end Go.Proofs.YtggblfnajeikjaaGreatDoor
