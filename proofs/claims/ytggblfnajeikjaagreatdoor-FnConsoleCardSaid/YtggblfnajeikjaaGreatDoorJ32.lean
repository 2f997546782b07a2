/- Joined texts of the proof: ConBL, ConBM. -/
import Derived.Test.YtggblfnajeikjaaGreatDoorJ21
import Derived.Test.YtggblfnajeikjaaGreatDoorJ30
namespace Go.Proofs.YtggblfnajeikjaaGreatDoor
open Go.RowKit
set_option linter.unusedVariables false
set_option linter.unusedSimpArgs false
set_option maxRecDepth 100000
set_option maxHeartbeats 16000000
theorem f_Or2 (a b:Int) (z:Addr) (c:Nat) (w:World) (h0:w.cell? z=some (.int .i64 a)) (h1:w.cell? ⟨z.block,z.off+1,none⟩=some (.int .i64 b)) :
 Calls Tryz.prog 243 #[.slice (some z) 2 c] w fun e w'=>e=.returned (.int .i64 (if a=0 then b else a))∧w=w':=by
 obtain ⟨R,hR⟩:∃ R,(if a=0 then b else a)=R:=⟨_,rfl⟩
 rw [hR]
 have HR:=Lib.hid hR
 clear hR
 go_enter Tryz.func243,Tryz.ntmps243
 go_wp2_with fail
 go_loopg [8] 2 (fun g iv wr=>∃ (k:Nat),g=2 - k∧k≤2∧iv=.int .i64 (k:Int)∧(1≤k→a=0)∧(2≤k→b=0)∧w=wr)
 case atStart=>exact ⟨0,by omega,by omega,rfl,by omega,by omega,rfl⟩
 case round =>
  obtain ⟨k,hg,hk,rfl,ha,hb,rfl⟩:=hrel
  by_cases k0:k=0
  · subst k0
    by_cases a0:a=0
    · go_wp2_with fail
      go_roundg 1
      case measure=>omega
      case rel=>exact ⟨1,by omega,by omega,by go_num,fun _=>a0,by omega,rfl⟩
    · have HE:Hid (a=R):=by rw [Hid,←HR.out,if_neg a0]
      go_wp2_with fail
      go_ret
      exact ⟨ret_int HE.out,rfl⟩
  · by_cases k1:k=1
    · subst k1
      have a0:=ha (by omega)
      have HE:Hid (b=R):=by rw [Hid,←HR.out,if_pos a0]
      by_cases b0:b=0
      · go_wp2_with fail
        go_roundg 0
        case measure=>omega
        case rel=>exact ⟨2,by omega,by omega,by go_num,fun _=>a0,fun _=>b0,rfl⟩
      · go_wp2_with fail
        go_ret
        exact ⟨ret_int HE.out,rfl⟩
    · obtain rfl:k=2:=by omega
      have HE:Hid (0=R):=by rw [Hid,←HR.out,if_pos (ha (by omega)),hb (by omega)]
      go_wp2_with fail
      go_ret
      exact ⟨ret_int HE.out,rfl⟩
theorem f_Min2 (a b:Int) (z:Addr) (c:Nat) (w:World) (h0:w.cell? z=some (.int .i64 a)) (h1:w.cell? ⟨z.block,z.off+1,none⟩=some (.int .i64 b)) :
 Calls Tryz.prog 244 #[.slice (some z) 2 c] w fun e w'=>e=.returned (.int .i64 (min a b))∧w=w':=by
 obtain ⟨R,hR⟩:∃ R,min a b=R:=⟨_,rfl⟩
 rw [hR]
 have HR:=Lib.hid hR
 clear hR
 go_enter Tryz.func244,Tryz.ntmps244
 go_wp2_with fail
 go_loopg [3,4] 1 (fun g mv iv wr=>(g=1∧iv=.int .i64 1∧mv=.int .i64 a∧w=wr)∨(g=0∧iv=.int .i64 2∧mv=.int .i64 R∧w=wr))
 case atStart=>exact .inl ⟨rfl,rfl,rfl,rfl⟩
 case round =>
  rcases hrel with ⟨hg,rfl,rfl,rfl⟩ | ⟨hg,rfl,rfl,rfl⟩
  · by_cases hab:a≤b
    · have HE:Hid (a=R):=by rw [Hid,←HR.out];omega
      go_wp2_with fail
      all_goals
       go_roundg 0
       case measure=>omega
       case rel=>exact .inr ⟨rfl,rfl,by first | rw [HE.out] | (have:=HE.out;have:=HR.out;simp only [Value.int.injEq,true_and];omega),rfl⟩
    · have HE:Hid (b=R):=by rw [Hid,←HR.out];omega
      go_wp2_with fail
      all_goals
       go_roundg 0
       case measure=>omega
       case rel=>exact .inr ⟨rfl,rfl,by first | rw [HE.out] | (have:=HE.out;have:=HR.out;simp only [Value.int.injEq,true_and];omega),rfl⟩
  · go_wp2_with fail
    go_ret
    exact ⟨rfl,rfl⟩
def lvK (LV:List Int) (X:List (List Int)) (k:Int):Int:=LV.getD k.toNat 0 * 10+min ((X.getD k.toNat []).getD 0 0) ((X.getD k.toNat []).getD 1 0)
theorem k_ByL1:Known 242:=known Tryz.func242 (by kernel_rfl) (by kernel_rfl)
theorem cmpV_two {l1 l2 m1 m2 k1 k2:Int} (h1:k1=l1 * 10+m1) (h2:k2=l2 * 10+m2) (a1:0≤m1) (b1:m1 < 10) (a2:0≤m2) (b2:m2 < 10) :
 (if cmpV id l1 l2=0 then cmpV id m1 m2 else cmpV id l1 l2)=if k1 < k2 then -1 else if k2 < k1 then 1 else 0:=by
 simp only [cmpV,id]
 rcases Int.lt_trichotomy l1 l2 with h | h | h
 · rw [if_pos h,if_neg (by omega),if_pos (by omega)]
 · subst h
   rw [if_neg (Int.lt_irrefl l1),if_neg (Int.lt_irrefl l1),if_pos rfl]
   by_cases c1:m1 < m2
   · rw [if_pos c1,if_pos (by omega)]
   · rw [if_neg c1,if_neg (show ¬ k1 < k2 by omega)]
     by_cases c2:m2 < m1
     · rw [if_pos c2,if_pos (by omega)]
     · rw [if_neg c2,if_neg (by omega)]
 · rw [if_neg (by omega),if_pos h,if_neg (by omega),if_neg (by omega),if_pos (by omega)]
theorem i_ByL1 {N:Nat} (LV:List Int) (X:List (List Int)) (al ax:Option Addr) (ml cl m c pl g:Nat) (hN:N≤8) (hrow:∀ (k:Nat) (p:List Int),X[k]?=some p→∃ a b:Nat,p=[(a:Int),(b:Int)]∧a < N∧b < N∧a≠b) (hLV:LV.length=X.length) (w:World) (hpl:w.cell? ⟨pl,0,none⟩=some (.slice al ml cl)) (hl:Rd w (.slice al ml cl) (ints LV))
 (hpx:w.cell? ⟨g,1,none⟩=some (.slice ax m c)) (h:Rd2 w (.slice ax m c) X) (x y:Nat) (hx:x < X.length) (hy:y < X.length) :
 Calls Tryz.prog 242 (#[.int .i64 x,.int .i64 y]++#[.pointer (some ⟨pl,0,none⟩),.pointer (some ⟨g,0,none⟩)]) w (RetQB (.int .i64 (cmpV (lvK LV X) x y)) w):=by
 obtain ⟨x0,x1,ex,hx0,hx1,hxn⟩:=hrow x _ (List.getElem?_eq_getElem hx)
 obtain ⟨y0,y1,ey,hy0,hy1,hyn⟩:=hrow y _ (List.getElem?_eq_getElem hy)
 obtain ⟨lx,hlx⟩:∃ v,LV[x]?=some v:=⟨_,List.getElem?_eq_getElem (by omega)⟩
 obtain ⟨ly,hly⟩:∃ v,LV[y]?=some v:=⟨_,List.getElem?_eq_getElem (by omega)⟩
 have hxx:X[x]?=some [(x0:Int),(x1:Int)]:=by rw [List.getElem?_eq_getElem hx,ex]
 have hyy:X[y]?=some [(y0:Int),(y1:Int)]:=by rw [List.getElem?_eq_getElem hy,ey]
 have hml:ml=LV.length:=by
  obtain ⟨a',c',e,_,_⟩:=hl.form
  injection e with _ e2 _
  rw [e2,ints_length]
 have hmm:m=X.length:=by
  obtain ⟨a',c',e,_,_⟩:=h.form
  injection e
 obtain ⟨adl,lz,rfl,hcz,hlz⟩:=hl.int (k:=x) (by omega)
 clear hcz hlz
 have cl1:=hl.cell_i hlx
 have cl2:=hl.cell_i hly
 obtain ⟨adx,zx,dx,rfl,ex0,ex1,ex2⟩:=h.two hxx
 obtain ⟨ady,zy,dy,hady,ey0,ey1,ey2⟩:=h.two hyy
 obtain rfl:adx=ady:=by injection hady
 rw [show zx.off+(0+1)=zx.off+1 from rfl] at ex2
 rw [show zy.off+(0+1)=zy.off+1 from rfl] at ey2
 clear hady
 have HE:Hid ((if cmpV id lx ly=0 then cmpV id (min (x0:Int) (x1:Int)) (min (y0:Int) (y1:Int)) else cmpV id lx ly)=cmpV (lvK LV X) x y):=by
  have gx:X.getD x []=[(x0:Int),(x1:Int)]:=by rw [List.getD_eq_getElem?_getD,hxx];rfl
  have gy:X.getD y []=[(y0:Int),(y1:Int)]:=by rw [List.getD_eq_getElem?_getD,hyy];rfl
  have lx':LV.getD x 0=lx:=by rw [List.getD_eq_getElem?_getD,hlx];rfl
  have ly':LV.getD y 0=ly:=by rw [List.getD_eq_getElem?_getD,hly];rfl
  have e1:lvK LV X (x:Int)=lx * 10+min (x0:Int) (x1:Int):=by rw [lvK,Int.toNat_natCast,lx',gx];rfl
  have e2:lvK LV X (y:Int)=ly * 10+min (y0:Int) (y1:Int):=by rw [lvK,Int.toNat_natCast,ly',gy];rfl
  rw [Hid,cmpV_two e1 e2 (by omega) (by omega) (by omega) (by omega)]
  rfl
 obtain ⟨mx,hmx⟩:∃ v,min (x0:Int) (x1:Int)=v:=⟨_,rfl⟩
 obtain ⟨my,hmy⟩:∃ v,min (y0:Int) (y1:Int)=v:=⟨_,rfl⟩
 have HMX:=Lib.hid (fun (W:World) (h1:W.cell? zx=some (.int .i64 (x0:Int))) (h2:W.cell? ⟨zx.block,zx.off+1,none⟩=some (.int .i64 (x1:Int)))=>f_Min2 (x0:Int) (x1:Int) zx dx W h1 h2)
 have HMY:=Lib.hid (fun (W:World) (h1:W.cell? zy=some (.int .i64 (y0:Int))) (h2:W.cell? ⟨zy.block,zy.off+1,none⟩=some (.int .i64 (y1:Int)))=>f_Min2 (y0:Int) (y1:Int) zy dy W h1 h2)
 have HC1:=Lib.hid (fun W=>f_Compare lx ly W)
 have HC2:=Lib.hid (fun W=>f_Compare mx my W)
 rw [hmx] at HMX HE
 rw [hmy] at HMY HE
 obtain ⟨r1,hr1⟩:∃ v,cmpV id lx ly=v:=⟨_,rfl⟩
 obtain ⟨r2,hr2⟩:∃ v,cmpV id mx my=v:=⟨_,rfl⟩
 rw [hr1] at HC1 HE
 rw [hr2] at HC2 HE
 have HOR:=Lib.hid (fun (W:World) (q:Nat) (h1:W.cell? ⟨q,0,none⟩=some (.int .i64 r1)) (h2:W.cell? ⟨q,0+1,none⟩=some (.int .i64 r2))=>f_Or2 r1 r2 ⟨q,0,none⟩ 2 W h1 h2)
 obtain ⟨R,hR⟩:∃ R,cmpV (lvK LV X) x y=R:=⟨_,rfl⟩
 rw [hR] at HE ⊢
 rw [HE.out] at HOR
 clear hR HE
 have i1:(x:Int) < (ml:Int):=by omega
 have i2:(y:Int) < (ml:Int):=by omega
 have i3:(x:Int) < (m:Int):=by omega
 have i4:(y:Int) < (m:Int):=by omega
 have HW:Hid (∀ W,Below w.heap.size w W→Below w.heap.size w W∧W.cell? zx=some (.int .i64 (x0:Int))∧W.cell? ⟨zx.block,zx.off+1,none⟩=some (.int .i64 (x1:Int))∧W.cell? zy=some (.int .i64 (y0:Int))∧W.cell? ⟨zy.block,zy.off+1,none⟩=some (.int .i64 (y1:Int))):=fun W hW =>
  ⟨hW,(hW.cell (World.block_lt_of_cell? _ _ ex1)).trans ex1,(hW.cell (World.block_lt_of_cell? _ _ ex2)).trans ex2,(hW.cell (World.block_lt_of_cell? _ _ ey1)).trans ey1,(hW.cell (World.block_lt_of_cell? _ _ ey2)).trans ey2⟩
 have HB:Hid (∀ W,Below w.heap.size w W→Below w.heap.size w W∧W.cell? ⟨pl,0,none⟩=some (.slice (some adl) ml cl)∧W.cell? ⟨g,1,none⟩=some (.slice (some adx) m c)∧W.cell? (adl.add x)=some (.int .i64 lx)∧W.cell? (adl.add y)=some (.int .i64 ly)∧W.cell? (adx.add x)=some (.slice (some zx) 2 dx)∧W.cell? (adx.add y)=some (.slice (some zy) 2 dy)):=fun W hW =>
  ⟨hW,(hW.cell (World.block_lt_of_cell? _ _ hpl)).trans hpl,(hW.cell (World.block_lt_of_cell? _ _ hpx)).trans hpx,(hW.cell (World.block_lt_of_cell? _ _ cl1)).trans cl1,(hW.cell (World.block_lt_of_cell? _ _ cl2)).trans cl2,(hW.cell (World.block_lt_of_cell? _ _ ex0)).trans ex0,(hW.cell (World.block_lt_of_cell? _ _ ey0)).trans ey0⟩
 have HB0:Below w.heap.size w w.drew:=⟨rfl,rfl,rfl,Nat.le_refl _,fun _ _=>rfl⟩
 have HB1:∀ o,Below w.heap.size w (w.alloc o).drew:=fun o=>by
  have b:=(Below.refl w.heap.size w).alloc (Nat.le_refl _) o
  exact ⟨b.os,b.tape,b.output,b.size,b.block⟩
 clear hrow hLV hl h hx hy hx0 hx1 hxn hy0 hy1 hyn ex ey hlx hly hxx hyy hml hmm hmx hmy hr1 hr2
 go_enter Tryz.func242,Tryz.ntmps242
 go_upto_region 1 with (fail)
 go_region_held3 (fun wx=>Below w.heap.size w wx∧wx.cell? ⟨pl,0,none⟩=some (.slice (some adl) ml cl)∧wx.cell? ⟨g,1,none⟩=some (.slice (some adx) m c)∧wx.cell? (adl.add x)=some (.int .i64 lx)∧wx.cell? (adl.add y)=some (.int .i64 ly)∧wx.cell? (adx.add x)=some (.slice (some zx) 2 dx)∧wx.cell? (adx.add y)=some (.slice (some zy) 2 dy))
  (first | with_reducible exact HB.out _ HB0 | with_reducible exact HB.out _ (HB1 _) | go_keep)
  (first
   | (go_at_call 131;(with_reducible refine (HC1.out _).mono ?_);rintro e w5 ⟨rfl,rfl⟩)
   | (go_at_call 131;(with_reducible refine (HC2.out _).mono ?_);rintro e w5 ⟨rfl,rfl⟩)
   | (go_at_call 244;(with_reducible refine (HMX.out _ (HW.out _ (show _∧_ from by assumption).1).2.1 (HW.out _ (show _∧_ from by assumption).1).2.2.1).mono ?_);rintro e w5 ⟨rfl,rfl⟩)
   | (go_at_call 244;(with_reducible refine (HMY.out _ (HW.out _ (show _∧_ from by assumption).1).2.2.2.1 (HW.out _ (show _∧_ from by assumption).1).2.2.2.2).mono ?_);rintro e w5 ⟨rfl,rfl⟩)
   | (go_at_call 243;refine (HOR.out _ _ (by simp) (by simp)).mono ?_;rintro e w5 ⟨rfl,rfl⟩))
 go_wp2_with fail
 go_ret
 exact ⟨rfl,HB1 _⟩
theorem lvM_lenC {N:Nat} {X:List (List Int)} (hk:netOk (N:Int) X=true):∀ k,k≤X.length→(lvM X k).2.length=k
 | 0,_=>rfl
 | k+1,h=>by
   obtain ⟨a,b,e,_,_,_⟩:=netOk_row (k:=k) (xs:=X[k]) hk (List.getElem?_eq_getElem (by omega))
   have h2:X[k]?=some [(a:Int),(b:Int)]:=by rw [List.getElem?_eq_getElem (by omega),e]
   rw [lvM_succ h2]
   simp only [List.length_append,List.length_cons,List.length_nil]
   rw [lvM_lenC hk k (by omega)]
def bylO (X:List (List Int)):List Int:=srtS (lvK (lvM X X.length).2 X) (stairs X.length)
def bylM (N:Nat) (X:List (List Int)):Option NetV:=some ((N:Int),(bylO X).map fun k=>X.getD k.toNat [])
theorem bylO_len (X:List (List Int)):(bylO X).length=X.length:=by rw [bylO,srtS_length,stairs_length]
theorem bylO_mem {X:List (List Int)} {k:Int} (h:k∈bylO X):∃ j:Nat,k=(j:Int)∧j < X.length:=by
 have h1:=(srtS_mem _ _).1 h
 obtain ⟨i,hi⟩:=List.getElem?_of_mem h1
 obtain ⟨rfl,h2⟩:=stairs_get hi
 exact ⟨i,rfl,h2⟩
theorem bylM_ok {N:Nat} {X:List (List Int)} {q:NetV} (hk:netOk (N:Int) X=true) (h:bylM N X=some q):netOk q.1 q.2=true:=by
 cases h
 obtain ⟨h1,h2,h3⟩:=netOk_iff.1 hk
 refine netOk_iff.2 ⟨h1,by simp only [List.length_map,bylO_len];exact h2,fun xs hx=>?_⟩
 obtain ⟨k,hk2,rfl⟩:=List.mem_map.1 hx
 obtain ⟨j,rfl,hj⟩:=bylO_mem hk2
 rw [Int.toNat_natCast,List.getD_eq_getElem?_getD,List.getElem?_eq_getElem hj]
 exact h3 _ (List.getElem_mem hj)
theorem i_ByLevels (N:Nat) (v:Value) (X:List (List Int)) (w:World) (h:Rd2 w v X) (hk:netOk (N:Int) X=true):Calls Tryz.prog 201 #[.agg #[.int .i64 N,v]] w (RetM (bylM N X) w):=by
 obtain ⟨a,c,rfl,hmc,hc9⟩:=h.form
 obtain ⟨h18,hl60,hrows⟩:=netOk_iff.1 hk
 have HNK:=Lib.hid (fun (W:World) (hW:Rd2 W (.slice a X.length c) X)=>hk ▸ i_NetworkOk (N:Int) _ X W hW (by unfold I64;omega))
 have HLV:=Lib.hid (fun (W:World) (hW:Rd2 W (.slice a X.length c) X)=>i_levels N _ X W hW hk)
 have HRW:∀ (k:Nat) (p:List Int),X[k]?=some p→∃ a b:Nat,p=[(a:Int),(b:Int)]∧a < N∧b < N∧a≠b:=fun k p hp=>netOk_row hk hp
 have hLL:=lvM_lenC hk X.length (Nat.le_refl _)
 have HRS:=Lib.hid hrows
 have HMM:Hid (bylM N X=some ((N:Int),(bylO X).map fun k=>X.getD k.toNat [])):=rfl
 have HBM:=Lib.hid (fun k (h:k∈bylO X)=>bylO_mem h)
 have HBL:=Lib.hid (bylO_len X)
 have HBO0:Hid (bylO X=srtS (lvK (lvM X X.length).2 X) (stairs X.length)):=rfl
 rw [HMM.out]
 generalize bylO X=S at *
 obtain ⟨LV,hLV⟩:∃ LV,(lvM X X.length).2=LV:=⟨_,rfl⟩
 rw [hLV] at HLV hLL HBO0
 have HCB:=Lib.hid (fun (pl g:Nat) (al ax:Option Addr) (ml cl m c:Nat) (W:World) (hpl:W.cell? ⟨pl,0,none⟩=some (.slice al ml cl)) (hl:Rd W (.slice al ml cl) (ints LV)) (hpx:W.cell? ⟨g,1,none⟩=some (.slice ax m c)) (h:Rd2 W (.slice ax m c) X) (x y:Nat) (hx:x < X.length) (hy:y < X.length) =>
  i_ByL1 (N:=N) LV X al ax ml cl m c pl g (by omega) HRW hLL W hpl hl hpx h x y hx hy)
 obtain ⟨m,hm⟩:∃ m,X.length=m:=⟨_,rfl⟩
 have HM:=Lib.hid hm
 rw [hm] at h HNK HLV HCB HBL HBO0 hLL hmc hl60 ⊢
 have HSO:=Lib.hid (fun (fn:Nat) (cap:Array Value) (hkn:Known fn) (vo:Value) (B:Nat) (W:World) (ho:Own W 3 B vo (ints (stairs m))) (hc:CmpOkB (lvK LV X) (fun k=>∃ j:Nat,k=(j:Int)∧j < m) fn cap vo.ownBlock W) =>
  f_SortStableC (lvK LV X) (fun k=>∃ j:Nat,k=(j:Int)∧j < m) fn cap hkn vo (stairs m) m B W ho (stairs_length m) (by omega) (fun x hx=>by obtain ⟨i,hi⟩:=List.getElem?_of_mem hx;obtain ⟨rfl,h2⟩:=stairs_get hi;exact ⟨i,rfl,h2⟩) hc)
 rw [←HBO0.out] at HSO
 clear hm hk hrows HMM HRW hLV HBO0
 obtain ⟨wa,bx,hwa,hbx,hXa,hza,hba⟩:=newBox w (.cells #[.int .i64 N,.slice a m c] 30)
 obtain ⟨w0,B,hw0,hB,hA0,hz0,hb0⟩:=newBox wa (.cells #[.int .i64 0,.slice none 0 0] 30)
 have hX0:w0.heap[bx]?=_:=(hb0.block bx hza).trans hXa
 have bt0:=hba.trans (hb0.mono hba.size)
 have HWA:=Lib.hid hwa
 have HBX:=Lib.hid hbx
 have HW0:=Lib.hid hw0
 have HBB:Hid (w.heap.size+1=B):=by rw [Hid,←hB,←hwa];simp
 have hwB:w.heap.size≤B:=by have:=HBB.out;omega
 have h0:=h.below bt0
 have q0:=box_cell hX0 0
 have q1:=box_cell hX0 1
 have HT:Hid (∀ W,Below w0.heap.size w0 W→W.cell? ⟨bx,0,none⟩=some (.int .i64 (N:Int))∧W.cell? ⟨bx,1,none⟩=some (.slice a m c)∧W.heap[B]?=some (.cells #[.int .i64 0,.slice none 0 0] 30 (0,0))∧Below w.heap.size w W∧Rd2 W (.slice a m c) X):=fun W hW=>by
  have hX:=(hW.block bx (box_lt hX0)).trans hX0
  exact ⟨box_cell hX 0,box_cell hX 1,(hW.block B hz0).trans hA0,bt0.trans (hW.mono bt0.size),h0.below hW⟩
 clear hwa hbx hw0 hB hXa hza hba hb0
 go_enter Tryz.func201,Tryz.ntmps201
 go_upto_region 1 with (fail)
 rw [HWA.out,HW0.out,HBB.out,HBX.out]
 go_upto_region 3 with (go_at_call 40;refine (HNK.out _ h0).mono ?_;rintro e w1 ⟨rfl,b1⟩;obtain ⟨k0,k1,-,-,h1⟩:=HT.out _ b1)
 clear q0 q1
 go_upto_region 4 with (go_at_call 63;refine (HLV.out _ h1).mono ?_;rintro e w2 ⟨v2,rfl,o2,b2⟩;obtain ⟨al,ml,cl,rfl,HML,_,_⟩:=o2.rd.formN)
 obtain ⟨w3,pl,hw3,hpl,hP3,hz3,hb3⟩:=newBox w2 (.cells #[.slice al ml cl] 23)
 have HW3:=Lib.hid hw3
 have HPL:=Lib.hid hpl
 rw [HW3.out,HPL.out]
 have b12:=b1.trans (b2.mono b1.size)
 have b13:=b12.trans (hb3.mono b12.size)
 have r3:=o2.rd.below hb3
 have HQ:Hid (∀ W,Below w3.heap.size w3 W→W.cell? ⟨pl,0,none⟩=some (.slice al ml cl)∧Rd W (.slice al ml cl) (ints LV)∧W.cell? ⟨bx,0,none⟩=some (.int .i64 (N:Int))∧W.cell? ⟨bx,1,none⟩=some (.slice a m c)∧W.heap[B]?=some (.cells #[.int .i64 0,.slice none 0 0] 30 (0,0))∧Below w.heap.size w W∧Rd2 W (.slice a m c) X):=fun W hW=>by
  have hb:=b13.trans (hW.mono b13.size)
  obtain ⟨t1,t2,t3,t4,t5⟩:=HT.out _ hb
  exact ⟨box_cell ((hW.block pl hz3).trans hP3) 0,r3.below hW,t1,t2,t3,t4,t5⟩
 have hB3:B < w3.heap.size:=box_lt (HQ.out _ (Below.refl _ _)).2.2.2.2.1
 have hw3w:w.heap.size≤w3.heap.size:=by omega
 clear hw3 hpl k0 k1 h1 o2 b2 b12 hb3 hP3 hz3 r3
 have e3:=(HQ.out _ ((Below.refl _ _).alloc (Nat.le_refl _) (.cells #[] 3))).2.2.2.1
 have ol:=Own.lit0 w3 3 (Nat.le_refl w3.heap.size)
 have bl:=(Below.refl w3.heap.size w3).alloc (Nat.le_refl _) (.cells #[] 3)
 have hs0:stairs 0=[]:=rfl
 go_wp2_with fail
 go_loopg [5,20] m (fun g vo iv wr=>∃ (q:Nat) (ao:Option Addr) (co:Nat),g=m - q∧q≤m∧iv=.int .i64 (q:Int)∧vo=.slice ao q co∧Own wr 3 w3.heap.size (.slice ao q co) (ints (stairs q))∧Below w3.heap.size w3 wr)
 case atStart=>exact ⟨0,_,_,rfl,Nat.zero_le _,rfl,rfl,by rw [hs0];exact ol,bl⟩
 case round =>
  clear ol bl e3
  obtain ⟨q,ao,co,hg,hq,rfl,rfl,ho,hb⟩:=hrel
  by_cases hlt:q < m
  · have i0:(q:Int) < (m:Int):=by omega
    have HYM:Hid ((ints (stairs q)).length=q):=by rw [Hid,ints_length,stairs_length]
    have HSS:Hid (ints (stairs q)++[.int .i64 (q:Int)]=ints (stairs (q+1))):=by rw [Hid,stairs_succ,ints_append];rfl
    go_wp2_with (at_builtin;refine wpList_app1m rfl _ _ 23 rfl elI rfl ho (by show Value.slice (some ⟨wr.heap.size,0,none⟩) 1 1=_;simp) rfl hb.size _ HYM.out (by omega) (by omega) ?_;intro b6 c6 w6 ho6 hg6 hat6;rw [HSS.out] at ho6)
    have b6':=hb.grown hg6 hb.size (fun r hr=>(ho.lt r hr).1)
    go_roundg (m - (q+1))
    case measure=>omega
    case rel=>exact ⟨q+1,_,_,rfl,by omega,by go_num,rfl,ho6,b6'⟩
  · obtain rfl:q=m:=by omega
    have HCM:Hid (CmpOkB (lvK LV X) (fun k=>∃ j:Nat,k=(j:Int)∧j < q) 242 #[.pointer (some ⟨pl,0,none⟩),.pointer (some ⟨bx,0,none⟩)] (Value.slice ao q co).ownBlock wr):=by
     intro wx x y hgx hx hy
     obtain ⟨j1,rfl,hj1⟩:=hx
     obtain ⟨j2,rfl,hj2⟩:=hy
     have hbx:=hb.grown hgx hb.size (fun r hr=>(ho.lt r hr).1)
     obtain ⟨t1,t2,t3,t4,t5,t6,t7⟩:=HQ.out _ hbx
     exact HCB.out pl bx al a ml cl q c wx t1 t2 t4 t7 j1 j2 hj1 hj2
    have HSC:=Lib.hid (HSO.out 242 #[.pointer (some ⟨pl,0,none⟩),.pointer (some ⟨bx,0,none⟩)] k_ByL1 (.slice ao q co) w3.heap.size wr ho HCM.out)
    go_upto_region 11 with (go_at_call 129;refine HSC.out.mono ?_;rintro e w5 ⟨rfl,o5,g5⟩)
    have b5:=hb.grown g5 hb.size (fun r hr=>(ho.lt r hr).1)
    obtain ⟨t1,t2,t3,t4,t5,t6,t7⟩:=HQ.out _ b5
    clear HCM HSC HSO HCB ho hb t1 t2 t5
    go_upto_region 12 with (fail)
    obtain ⟨w7,bo,hw7,hbo,hO7,hz7,hb7⟩:=newBox w5 (.cells #[.int .i64 N,.slice none 0 0] 30)
    have HW7:=Lib.hid hw7
    have HBO:=Lib.hid hbo
    rw [HW7.out,HBO.out]
    have b7:=b5.trans (hb7.mono b5.size)
    have r7:Hid (∀ W,Below bo w7 W→Rd W (.slice ao q co) (ints S)):=fun W hW=>o5.rd.below (hb7.trans (hW.mono (by omega)))
    have h3o:w3.heap.size≤bo:=by have:=b5.size;omega
    clear hw7 hbo o5 hb7 t3 t4 t6 t7
    go_wp2_with fail
    go_loopg [36] q (fun g iv wr=>∃ (j:Nat) (an:Option Addr) (mo cn:Nat),g=q - j∧j≤q∧iv=.int .i64 (j:Int)∧wr.heap[bo]?=some (.cells #[.int .i64 N,.slice an mo cn] 30 (0,0))∧OwnP wr (bo+1) (.slice an mo cn) ((S.take j).map fun k=>X.getD k.toNat [])∧Below bo w7 wr)
    case atStart=>exact ⟨0,none,0,0,rfl,Nat.zero_le _,rfl,hO7,by rw [List.take_zero];exact OwnP.nil _ _,Below.refl _ _⟩
    case round =>
     clear hO7
     obtain ⟨wl,rfl⟩:∃ wl:World,wl=wr:=⟨_,rfl⟩
     obtain ⟨j,an,mo,cn,hg,hj,rfl,hO,ho,hb⟩:=hrel
     have be3:=b7.trans (hb.mono h3o)
     obtain ⟨t1,t2,t3,t4,t5,t6,t7⟩:=HQ.out _ be3
     obtain ⟨rows,hov,hrp,HLR,HMO⟩:=OwnP.rowsOf ho
     have hmo:mo≤100:=by have h1:=HMO.out;have h2:=HBL.out;rw [List.length_map,List.length_take] at h1;omega
     clear ho t1 t2 t3
     by_cases hlt:j < q
     · obtain ⟨ado,kk,rfl,hck,hkk⟩:=(r7.out _ hb).int (k:=j) (by rw [HBL.out];exact hlt)
       obtain ⟨k,rfl,hkq⟩:=HBM.out kk (List.mem_of_getElem? hkk.out)
       obtain ⟨ad,b,mr,d,row,rfl,hcr,hrow,hmr,hmd,hd9,rr⟩:=t7.row (k:=k) hkq
       have hrl:row.length≤2:=by
        obtain ⟨x,y,e,_⟩:=netRow_iff (HRS.out row (List.mem_of_getElem? hrow.out))
        rw [e];simp
       have HS:Hid ((S.take (j+1)).map (fun k=>X.getD k.toNat [])=(S.take j).map (fun k=>X.getD k.toNat [])++[row]):=by
        rw [Hid,take_snoc' hkk.out,List.map_append,List.map_cons,List.map_nil,Int.toNat_natCast,List.getD_eq_getElem?_getD,hrow.out]
        rfl
       have HCL:=Lib.hid (fun (W:World) (hW:Below wl.heap.size wl W)=>f_Clone _ row W (rr.below hW) (by omega))
       have i1:(j:Int) < (q:Int):=by omega
       have i2:(k:Int) < (q:Int):=by have:=HM.out;omega
       have cb:=box_cell hO 1
       have HK:Hid (∀ W:World,Below wl.heap.size wl W→W.cell? ⟨bo,1,none⟩=some (.slice an mo cn)):=fun W hW=>box_cell ((hW.block bo (box_lt hO)).trans hO) 1
       have hsz:bo+1≤wl.heap.size:=box_lt hO
       clear hkk hrow hmr
       go_upto_region 15 with (fail)
       go_region_law (first
        | (go_simp;go_at_call 85;(with_reducible refine (HCL.out _ (by first | exact Below.refl _ _ | exact ⟨rfl,rfl,rfl,Nat.le_refl _,fun _ _=>rfl⟩)).mono ?_);rintro e w8 ⟨v5,rfl,o8,b8⟩;have g8:Below wl.heap.size wl w8:=⟨b8.os,b8.tape,b8.output,b8.size,b8.block⟩;have k5:=HK.out _ g8;obtain ⟨a5,m5,c5,rfl,_,_,_⟩:=o8.rd.formN;have k5b:=HK.out _ (g8.alloc g8.size (.cells #[.slice a5 m5 c5] 23)))
        | (refine step_app1 (w:=w8) (by rfl) _ _ _ (by rfl) elII (by rfl) (hov.below g8) (by show Value.slice (some ⟨w8.heap.size,0,none⟩) 1 1=_;simp) (by rfl) (Nat.le_trans hsz g8.size) (by rw [HLR.out];omega) (by rw [HLR.out];omega) ?_;intro b6 c6 w6 ho6 hg6 hat6;rw [HLR.out] at ho6;obtain ⟨k6,kf6,hO7,o7,z7,b9⟩:=boxPushR hO (by decide) (by decide) hov hrp g8 o8 ho6 hg6)
        | (refine step_app1nC (w:=w8) (by rfl) _ _ _ (by rfl) elII (by rfl) (hov.below g8) (by show Value.slice (some ⟨w8.heap.size,0,none⟩) 1 1=_;simp) (by rfl) (Nat.le_trans hsz g8.size) (by rw [HLR.out];omega) (by rw [HLR.out];omega) ?_;intro b6 c6 w6 ho6 hg6 hat6;rw [HLR.out] at ho6;obtain ⟨k6,kf6,hO7,o7,z7,b9⟩:=boxPushR hO (by decide) (by decide) hov hrp g8 o8 ho6 hg6))
       all_goals
        rw [show rows.length=mo from HLR.out]
        go_wp2_with fail
        go_roundg (q - (j+1))
        case measure=>omega
        case rel=>exact ⟨j+1,_,_,_,rfl,by omega,by go_num,hO7,by rw [HS.out];exact o7,hb.trans b9⟩
     · obtain rfl:j=q:=by omega
       obtain ⟨c0,c1,f0,f1,r0,r1,oz,bz⟩:=netRes (n:=(N:Int)) t5 ((show OwnP wl (bo+1) (.slice an mo cn) _ from ⟨rows,hov,hrp⟩).mono (by omega)) hwB t6
       rw [List.take_of_length_le (by rw [HBL.out];exact Nat.le_refl _)] at oz
       have p0:=box_cell hO 0
       have p1:=box_cell hO 1
       clear hov hrp hO
       go_wp2_with fail
       exact bodyPost_ret (v:=.tuple #[.agg #[.int .i64 N,.slice an mo cn],.bool true]) (by simp [results,Tryz.results201,go_sem,r0,r1]) rfl ⟨_,_,_,rfl,oz,bz⟩
end Go.Proofs.YtggblfnajeikjaaGreatDoor
