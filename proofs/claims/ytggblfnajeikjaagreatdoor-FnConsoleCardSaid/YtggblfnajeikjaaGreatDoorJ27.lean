/- Joined texts of the proof: FmtNet, DrawsD, BoxP. -/
import Derived.Deep.RegionLaw
import Derived.Test.YtggblfnajeikjaaGreatDoorJ17
import Derived.Test.YtggblfnajeikjaaGreatDoorJ19
import Derived.Test.YtggblfnajeikjaaGreatDoorJ23
namespace Go.Proofs.YtggblfnajeikjaaGreatDoor
open Go.RowKit
set_option linter.unusedVariables false
set_option linter.unusedSimpArgs false
set_option maxRecDepth 100000
set_option maxHeartbeats 16000000
def fmtPair (p:List Int):List UInt8:=[32]++Lib.itoa (p.getD 0 0)++[45]++Lib.itoa (p.getD 1 0)
def fmtK (n:Int) (xss:List (List Int)):Nat→List UInt8
 | 0=>Lib.itoa n++[58]
 | k+1=>fmtK n xss k++fmtPair (xss.getD k [])
theorem netRow_iff {n:Int} {xs:List Int} (h:netRow n xs=true):∃ x y,xs=[x,y]∧(0≤x∧x≤n - 1)∧(0≤y∧y≤n - 1)∧x≠y:=by
 unfold netRow at h
 split at h
 · rename_i x y
   simp [inB_iff] at h
   exact ⟨x,y,rfl,h.1.1,h.1.2,h.2⟩
 · cases h
theorem netOk_iff {n:Int} {xss:List (List Int)} : netOk n xss=true↔(1≤n∧n≤8)∧xss.length≤60∧∀ xs∈xss,netRow n xs=true:=by
 simp [netOk,inB_iff,and_assoc]
theorem s_FormatNetworkOk (n:Int) (v:Value) (xss:List (List Int)) (w:World) (h:Rd2 w v xss) (hok:netOk n xss=true) :
 Calls Tryz.prog 151 #[.agg #[.int .i64 n,v]] w (RetB (.string (bstr (fmtK n xss xss.length))) w):=by
 obtain ⟨hn,hl,hrows⟩:=netOk_iff.1 hok
 obtain ⟨a,c,rfl,hlc,hc⟩:=h.form
 have hbA:Below w.heap.size w (w.alloc (.cells #[.int .i64 n,.slice a xss.length c] 30)):=(Below.refl _ _).alloc (Nat.le_refl _) _
 have hbx:=box_cells w (.int .i64 n) (.slice a xss.length c) 30
 have HBX:=Lib.hid hbx
 have HOK:=Lib.hid (s_NetworkOk n _ xss _ (h.below hbA) ⟨by omega,by omega⟩)
 rw [hok] at HOK
 have HR:=Lib.hid hrows
 have HF:Hid (∀ (x:Int),-9223372036854775808≤x→x≤9223372036854775807→∀ W,Calls Tryz.prog 153 #[.int .i64 x] W (RetB (.string (bstr (Lib.itoa x))) W)):=fun x h1 h2 W=>S_FormatInt W x ⟨h1,h2⟩
 obtain ⟨m,hm⟩:∃ m,xss.length=m:=⟨_,rfl⟩
 rw [hm] at h HOK hlc hl hbA HBX ⊢
 have HM:=Lib.hid hm
 clear hm hrows hok hbx
 go_enter Tryz.func151,Tryz.ntmps151
 go_upto_region 3 with (go_at_call 191;refine HOK.out.mono ?_;rintro e w2 ⟨rfl,hb2⟩;have c0:=(hb2.cell (p:=⟨w.heap.size,0,none⟩) (by simp)).trans HBX.out.1;have c1:=(hb2.cell (p:=⟨w.heap.size,1,none⟩) (by simp)).trans HBX.out.2)
 have hb2':=hbA.trans (hb2.mono hbA.size)
 have hz2:w.heap.size < w2.heap.size:=by have:=hb2.size;simp at this;omega
 obtain ⟨N,hN⟩:∃ N,bstr (Lib.itoa n)=N:=⟨_,rfl⟩
 have hNs:N.size≤20:=by rw [←hN,bstr_size];exact (itoa_len ⟨by omega,by omega⟩).2
 have HFN:=HF.out n (by omega) (by omega)
 rw [hN] at HFN
 have HFN:=Lib.hid HFN
 have HNN:=Lib.hid hN
 clear hN
 go_upto_region 4 with (go_at_call 153;refine (HFN.out _).mono ?_;rintro e w3 ⟨rfl,hb3⟩;have c1':=(hb3.cell (p:=⟨w.heap.size,1,none⟩) (by simp;omega)).trans c1)
 have hb3':=hb2'.trans (hb3.mono hb2'.size)
 have HS0:Hid (N++⟨#[58]⟩=bstr (fmtK n xss 0)):=by rw [Hid,←HNN.out];exact str_app _ [58]
 have hS0:(N++(⟨#[58]⟩:ByteArray)).size≤40:=by rw [ByteArray.size_append];show N.size+1≤40;omega
 obtain ⟨S0,hS⟩:∃ S0,N++(⟨#[58]⟩:ByteArray)=S0:=⟨_,rfl⟩
 rw [hS] at HS0 hS0 ⊢
 clear hS hb3 hb2 c0 c1 HBX HOK HFN
 have hR:=h.below hb3'
 go_wp2_with fail
 go_loopg [3,16] m (fun gq vs iv wr=>∃ (k:Nat) (S:ByteArray),gq=m - k∧k≤m∧iv=.int .i64 (k:Int)∧vs=.string S∧Hid (S=bstr (fmtK n xss k))∧S.size≤40+60 * k∧Below w3.heap.size w3 wr)
 case atStart=>exact ⟨0,S0,rfl,Nat.zero_le _,rfl,rfl,HS0,by omega,Below.refl _ _⟩
 case round =>
  clear hS0 HS0
  obtain ⟨k,S,hgq,hk,rfl,rfl,HS,hSs,hb⟩:=hrel
  by_cases hlt:k < m
  · have i0:(k:Int) < (m:Int):=by omega
    obtain ⟨ad,b,mr,d,row,rfl,hcr,hrow,hmr,hmd,hd9,rr⟩:=(hR.below hb).row (k:=k) (by have:=HM.out;omega)
    obtain ⟨x,y,hxy,hx,hy,_⟩:=netRow_iff (HR.out row (List.mem_of_getElem? hrow.out))
    obtain rfl:mr=2:=by have:=hmr.out;rw [hxy] at this;exact this
    obtain ⟨z,x',rfl,hcx,hx'⟩:=rr.int (k:=0) (by rw [hxy];simp)
    obtain ⟨z2,y',hz2,hcy,hy'⟩:=rr.int (k:=1) (by rw [hxy];simp)
    obtain rfl:z=z2:=by injection hz2
    clear hz2
    have hxx:x'=x:=by have:=hx'.out;rw [hxy] at this;simpa using this.symm
    have hyy:y'=y:=by have:=hy'.out;rw [hxy] at this;simpa using this.symm
    subst hxx
    subst hyy
    replace hcx:wr.cell? z=some (.int .i64 x'):=by simpa [Addr.add] using hcx
    rw [add_succ] at hcy
    obtain ⟨X,hX⟩:∃ X,bstr (Lib.itoa x')=X:=⟨_,rfl⟩
    obtain ⟨Y,hY⟩:∃ Y,bstr (Lib.itoa y')=Y:=⟨_,rfl⟩
    have hXs:X.size≤20:=by rw [←hX,bstr_size];exact (itoa_len ⟨by omega,by omega⟩).2
    have hYs:Y.size≤20:=by rw [←hY,bstr_size];exact (itoa_len ⟨by omega,by omega⟩).2
    have HFX:=HF.out x' (by omega) (by omega)
    have HFY:=HF.out y' (by omega) (by omega)
    rw [hX] at HFX
    rw [hY] at HFY
    have HFX:=Lib.hid HFX
    have HFY:=Lib.hid HFY
    have HST:Hid (S++(⟨#[32]⟩:ByteArray)++X++(⟨#[45]⟩:ByteArray)++Y=bstr (fmtK n xss (k+1))):=by
     have e:xss.getD k []=[x',y']:=by rw [List.getD_eq_getElem?_getD,hrow.out,hxy];rfl
     rw [Hid,HS.out,←hX,←hY,fmtK,e]
     show bstr _++bstr [32]++bstr _++bstr [45]++bstr _=_
     rw [bstr_app,bstr_app,bstr_app,bstr_app]
     simp [fmtPair]
    have hsz2:(S++(⟨#[32]⟩:ByteArray)++X++(⟨#[45]⟩:ByteArray)++Y).size≤40+60 * (k+1):=by
     simp only [ByteArray.size_append]
     show S.size+1+X.size+1+Y.size≤_
     omega
    have HT:Hid (∀ wx:World,Below wr.heap.size wr wx→wx.cell? z=some (.int .i64 x')∧wx.cell? ⟨z.block,z.off+(0+1),none⟩=some (.int .i64 y')):=fun wx hbx=>⟨(hbx.cell (World.block_lt_of_cell? _ _ hcx)).trans hcx,(hbx.cell (World.block_lt_of_cell? _ _ hcy)).trans hcy⟩
    clear hX hY hxy hrow hx' hy'
    have l1:¬ 9223372036854775807≤S.size:=by omega
    have l1b:¬ 9223372036854775807 < S.size+1:=by omega
    have l2:¬ 9223372036854775807 < S.size+1+X.size:=by omega
    have l3:¬ 9223372036854775807 < S.size+1+X.size+1:=by omega
    have l3b:¬ 9223372036854775807≤S.size+1+X.size:=by omega
    have l4:¬ 9223372036854775807 < S.size+1+X.size+1+Y.size:=by omega
    go_upto_region 7 with (fail)
    go_region_held3 (fun wx=>wx.cell? z=some (.int .i64 x')∧wx.cell? ⟨z.block,z.off+(0+1),none⟩=some (.int .i64 y'))
     (first | exact HT.out _ g6 | exact HT.out _ g5 | go_keep)
     (first
      | (go_at_call 153;(with_reducible refine (HFX.out _).mono ?_);rintro e w5 ⟨rfl,hb5⟩;have g5:Below wr.heap.size wr w5:=(by first | exact ⟨hb5.os,hb5.tape,hb5.output,hb5.size,hb5.block⟩ | exact g6.trans ((show Below w6.heap.size w6 w5 from ⟨hb5.os,hb5.tape,hb5.output,hb5.size,hb5.block⟩).mono g6.size)))
      | (go_at_call 153;(with_reducible refine (HFY.out _).mono ?_);rintro e w6 ⟨rfl,hb6⟩;have g6:Below wr.heap.size wr w6:=(by first | exact ⟨hb6.os,hb6.tape,hb6.output,hb6.size,hb6.block⟩ | exact g5.trans ((show Below w5.heap.size w5 w6 from ⟨hb6.os,hb6.tape,hb6.output,hb6.size,hb6.block⟩).mono g5.size))))
    all_goals
     have hb9:Below w3.heap.size w3 wr:=hb
     go_wp2_with fail
     go_roundg (m - (k+1))
     case measure=>omega
     case rel =>
      first
       | exact ⟨k+1,_,rfl,by omega,by go_num,rfl,HST,hsz2,hb.trans (Below.mono ⟨g6.os,g6.tape,g6.output,g6.size,g6.block⟩ hb.size)⟩
       | exact ⟨k+1,_,rfl,by omega,by go_num,rfl,HST,hsz2,hb.trans (Below.mono ⟨g5.os,g5.tape,g5.output,g5.size,g5.block⟩ hb.size)⟩
  · obtain rfl:k=m:=by omega
    go_wp2_with fail
    go_ret
    exact ⟨by rw [HS.out];rfl,hb3'.trans (hb.mono hb3'.size)⟩
def RetNetB (n:Int) (xss:List (List Int)) (w:World) (e:Ending) (w':World):Prop :=
 ∃ (a:Option Addr) (m c:Nat),e=.returned (.tuple #[.agg #[.int .i64 n,.slice a m c],.bool true])∧OwnP w' w.heap.size (.slice a m c) xss∧Below w.heap.size w w'
theorem Cur.low {w w':World} {g B:Nat} {vb:Value} {xs:List Int} (hC:Cur w g vb xs) (hb:Below B w w') (hg:g < B) (hrd:Rd w' vb (bytesV xs)):Cur w' g vb xs:=by
 obtain ⟨⟨i,hh,hi,c0,c1,c2,f1,f2⟩,_,hn⟩:=hC
 have hb:=hb.block g hg
 exact ⟨⟨i,hh,hi,(World.cell?_of_block (w:=w) (a:=⟨g,0,none⟩) hb).trans c0,(World.cell?_of_block (w:=w) (a:=⟨g,1,none⟩) hb).trans c1,(World.cell?_of_block (w:=w) (a:=⟨g,2,none⟩) hb).trans c2,(World.frozen?_of_block (w:=w) (a:=⟨g,1,none⟩) hb).trans f1,(World.frozen?_of_block (w:=w) (a:=⟨g,2,none⟩) hb).trans f2⟩,hrd,hn⟩
section
variable {wr w6:World} {F bx m c c6:Nat} {n:Value} {a b6:Option Addr} {rows:List Value} {xss:List (List Int)} {x y:Int}
theorem boxPush (HX:wr.heap[bx]?=some (.cells #[n,.slice a m c] F (0,0))) (hF:F≠23) (hF2:F≠3) (hov:Own wr 23 (bx+1) (.slice a m c) rows) (hrp:RowsP wr (bx+1) rows xss)
 (ho6:Own w6 23 (bx+1) (.slice b6 (m+1) c6) (rows++[.slice (some ⟨wr.heap.size,0,none⟩) 2 2])) (hg6:(wr.alloc (.cells #[.int .i64 x,.int .i64 y] 3)).grownBy w6 (Value.slice a m c).ownBlock) :
 w6.cell? ⟨bx,1,none⟩=some (.slice a m c)∧w6.frozen? ⟨bx,1,none⟩=false∧(w6.setCell ⟨bx,1,none⟩ (.slice b6 (m+1) c6)).heap[bx]?=some (.cells #[n,.slice b6 (m+1) c6] F (0,0)) ∧
  OwnP (w6.setCell ⟨bx,1,none⟩ (.slice b6 (m+1) c6)) (bx+1) (.slice b6 (m+1) c6) (xss++[[x,y]])∧bx+1≤(w6.setCell ⟨bx,1,none⟩ (.slice b6 (m+1) c6)).heap.size∧Below bx wr (w6.setCell ⟨bx,1,none⟩ (.slice b6 (m+1) c6)):=by
 have hsz:bx+1≤wr.heap.size:=box_lt HX
 have hb1:Below wr.heap.size wr (wr.alloc (.cells #[.int .i64 x,.int .i64 y] 3)):=(Below.refl _ _).alloc (Nat.le_refl _) _
 have hov1:=hov.below hb1
 have hne6:∀ q,q≤bx→some q≠(Value.slice a m c).ownBlock:=fun q hq e=>by have:=(hov1.lt q e.symm).1;omega
 have hX6:w6.heap[bx]?=_:=(hg6.block bx (by simp;omega) (hne6 bx (Nat.le_refl _))).trans ((Below.heap_alloc _ _ _ (by omega)).trans HX)
 have hz6:=hg6.size
 simp at hz6
 have hgs:w6.grownBy (w6.setCell ⟨bx,1,none⟩ (.slice b6 (m+1) c6)) (some bx):=⟨rfl,rfl,rfl,by simp,fun q _ hq=>heap_setCell_other w6 ⟨bx,1,none⟩ q _ (fun e=>hq (by rw [e]))⟩
 refine ⟨box_cell hX6 1,frozen_of_row w6 bx 1 _ _ hX6,heap_setCell_same w6 bx 1 _ _ _ hX6,(OwnP.push (hrp.below hb1) hov1 (heap_alloc_new wr _) hg6 ho6 hsz).under hgs (fun q hq=>by cases hq;omega),by simp;omega,?_⟩
 have hB6:Below bx wr w6:=(hb1.mono (by omega)).grown hg6 (by simp;omega) (fun r hr=>by have:=(hov1.lt r hr).1;omega)
 exact hB6.setCell (by show bx≤bx;omega) _
end
end Go.Proofs.YtggblfnajeikjaaGreatDoor
