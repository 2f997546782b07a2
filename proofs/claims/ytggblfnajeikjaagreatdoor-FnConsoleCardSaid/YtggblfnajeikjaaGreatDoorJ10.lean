/- Joined texts of the proof: Bits2, Bits3. -/
import Derived.Test.YtggblfnajeikjaaGreatDoorJ7
import Derived.Test.YtggblfnajeikjaaGreatDoorJ8
namespace Go.Proofs.YtggblfnajeikjaaGreatDoor
open Go.RowKit
set_option linter.unusedVariables false
set_option linter.unusedSimpArgs false
set_option maxRecDepth 100000
set_option maxHeartbeats 16000000
def runM (xss:List (List Int)) (m:Nat):Nat→Nat
 | 0=>m
 | k+1=>match xss[k]? with
   | some [a,b]=>stepN (runM xss m k) a.toNat b.toNat
   | _=>runM xss m k
theorem runM_succ {xss:List (List Int)} {m k a b:Nat} (h:xss[k]?=some [(a:Int),(b:Int)]):runM xss m (k+1)=stepN (runM xss m k) a b:=by
 simp only [runM,h,Int.toNat_natCast]
theorem stepN_lt:∀ n:Nat,n < 9→∀ m:Nat,m < 2 ^ n→∀ i:Nat,i < n→∀ k:Nat,k < n→stepN m i k < 2 ^ n:=by decide +kernel
theorem onesN_le':∀ n:Nat,n < 9→∀ m:Nat,m < 2 ^ n→onesN m≤n:=by decide +kernel
theorem pow_le8 {n:Nat} (h:n≤8):2 ^ n≤256:=Nat.pow_le_pow_right (by decide) h
theorem runM_lt {N m:Nat} {xss:List (List Int)} (hk:netOk (N:Int) xss=true) (hm:m < 2 ^ N):∀ k,runM xss m k < 2 ^ N
 | 0=>hm
 | k+1=>by
   have ih:=runM_lt hk hm k
   obtain ⟨N',e,hN1,hN8,_⟩:=netOk_n hk
   cases hx:xss[k]? with
   | none=>simp only [runM,hx];exact ih
   | some xs =>
     obtain ⟨a,b,rfl,ha,hb,_⟩:=netOk_row hk hx
     rw [runM_succ hx]
     exact stepN_lt N (by omega) _ ih a ha b hb
def outM (xss:List (List Int)) (m:Nat):Nat:=runM xss m xss.length
def okM (n:Nat) (xss:List (List Int)) (m:Nat):Bool:=decide (outM xss m=sortedN n (onesN m))
def unsN (n:Nat) (xss:List (List Int)) (M:Nat):List Int:=((List.range M).filter fun m=>!okM n xss m).map fun (m:Nat)=>(m:Int)
theorem unsN_yes {n:Nat} {xss:List (List Int)} {m:Nat} (h:okM n xss m=true):unsN n xss (m+1)=unsN n xss m:=by
 simp [unsN,List.range_succ,h]
theorem unsN_no {n:Nat} {xss:List (List Int)} {m:Nat} (h:okM n xss m=false):unsN n xss (m+1)=unsN n xss m++[(m:Int)]:=by
 simp [unsN,List.range_succ,h]
theorem unsN_len (n:Nat) (xss:List (List Int)) (M:Nat):(unsN n xss M).length≤M:=by
 rw [unsN,List.length_map]
 exact Nat.le_trans (List.length_filter_le _ _) (by simp)
def firstU (n:Nat) (xss:List (List Int)):Int:=match unsN n xss (2 ^ n) with | []=>-1 | m :: _=>m
def firstUns (n:Int) (xss:List (List Int)):Int:=if netOk n xss then firstU n.toNat xss else -1
theorem Rd2.pair {w:World} {N k:Nat} {a:Option Addr} {n c:Nat} {xss:List (List Int)} (h:Rd2 w (.slice a n c) xss) (hk:netOk (N:Int) xss=true) (hlt:k < xss.length) :
 ∃ (ad z:Addr) (d x y:Nat),a=some ad∧w.cell? (ad.add k)=some (.slice (some z) 2 d)∧w.cell? z=some (.int .i64 (x:Int))∧w.cell? ⟨z.block,z.off+(0+1),none⟩=some (.int .i64 (y:Int))∧x < N∧y < N∧x≠y∧Hid (xss[k]?=some [(x:Int),(y:Int)]):=by
 obtain ⟨ad,b,m,d,xs,rfl,hc,hx,hm,hmd,hd,hr⟩:=h.row hlt
 obtain ⟨x,y,rfl,hxN,hyN,hxy⟩:=netOk_row hk hx.out
 obtain rfl:m=2:=hm.out
 obtain ⟨z,x',rfl,hcx,hxx⟩:=hr.int (k:=0) (by simp)
 obtain ⟨z',y',hz,hcy,hyy⟩:=hr.int (k:=1) (by simp)
 obtain rfl:z=z':=by injection hz
 have e1:=hxx.out
 have e2:=hyy.out
 simp only [List.getElem?_cons_zero,List.getElem?_cons_succ,Option.some.injEq] at e1 e2
 subst e1 e2
 rw [add_succ] at hcy
 exact ⟨ad,z,d,x,y,rfl,hc,by simpa [Addr.add] using hcx,hcy,hxN,hyN,hxy,hx⟩
theorem i_bits (N:Nat) (v:Value) (xss:List (List Int)) (m:Nat) (w:World) (h:Rd2 w v xss) (hk:netOk (N:Int) xss=true) (hm:m < 2 ^ N) :
 Calls Tryz.prog 123 #[.agg #[.int .i64 N,v],.int .i64 m] w (RetB (.int .i64 (outM xss m:Nat)) w):=by
 obtain ⟨N',e,hN1,hN8,hL60⟩:=netOk_n hk
 obtain rfl:N=N':=by omega
 clear e
 have hp:=pow_le8 hN8
 obtain ⟨a,c,rfl,_,_⟩:=h.form
 have hbA:Below w.heap.size w (w.alloc (.cells #[.int .i64 N,.slice a xss.length c] 30)):=(Below.refl _ _).alloc (Nat.le_refl _) _
 have h':=h.alloc (.cells #[.int .i64 N,.slice a xss.length c] 30)
 have HL:=Lib.hid (fun k=>runM_lt hk hm k)
 have HP:=Lib.hid (fun (W:World) (hW:Rd2 W (.slice a xss.length c) xss) (k:Nat) (hlt:k < xss.length)=>hW.pair hk hlt)
 clear hk
 go_enter Tryz.func123,Tryz.ntmps123
 go_wp2
 go_loopg [1,10] xss.length (fun g mv iv wr=>∃ (k r:Nat),g=xss.length - k∧k≤xss.length∧iv=.int .i64 k∧mv=.int .i64 (r:Int)∧Dr (w.alloc (.cells #[.int .i64 N,.slice a xss.length c] 30)) wr∧Hid (r=runM xss m k))
 case atStart=>exact ⟨0,m,rfl,Nat.zero_le _,rfl,rfl,Dr.refl _,rfl⟩
 case round =>
  obtain ⟨k,r,hg,hkl,rfl,rfl,hdr,HR⟩:=hrel
  by_cases hlt:k < xss.length
  · obtain ⟨ad,z,d,x,y,rfl,hc,hcx,hcy,hxN,hyN,hxy,hx⟩:=HP.out _ (h'.dr hdr) k hlt
    have hr:r < 256:=by have:=HL.out k;rw [←HR.out] at this;omega
    have HS:Hid (stepN r x y=runM xss m (k+1)):=by rw [Hid,runM_succ hx.out,←HR.out]
    have HK:=Lib.hid (fun W=>i_step r x y hr (by omega) (by omega) W)
    clear hx
    go_wp2
    go_quiet ((go_at_call 124;exact Calls.quiet_of ((HK.out _).mono fun _ _ hh=>⟨hh.1,hh.2.imp fun _ e=>e.symm⟩)))
    go_wp2
    go_roundg (xss.length - (k+1))
    case measure=>omega
    case rel=>exact ⟨k+1,stepN r x y,rfl,by omega,by go_num,rfl,hdr.step _,HS⟩
  · obtain rfl:xss.length=k:=by omega
    go_wp2
    go_ret
    exact ⟨by rw [HR.out];rfl,hbA.trans (hdr.below _)⟩
theorem shl_of:∀ n:Nat,n < 9→wrap64 (2 ^ n)=((2 ^ n:Nat):Int):=by decide +kernel
theorem i_unsorted (N:Nat) (v:Value) (xss:List (List Int)) (w:World) (h:Rd2 w v xss) (hk:netOk (N:Int) xss=true) :
 Calls Tryz.prog 117 #[.agg #[.int .i64 N,v]] w (RetOwn 3 (ints (unsN N xss (2 ^ N))) w):=by
 obtain ⟨N',e,hN1,hN8,hL60⟩:=netOk_n hk
 obtain rfl:N=N':=by omega
 clear e
 have hp:=pow_le8 hN8
 have e2:=shl_of N (by omega)
 obtain ⟨M,hM⟩:∃ M,2 ^ N=M:=⟨_,rfl⟩
 rw [hM] at hp e2 ⊢
 obtain ⟨a,c,rfl,_,_⟩:=h.form
 have HB:=Lib.hid (fun (m:Nat) (hm:m < M) (W:World) (hW:Below w.heap.size w W)=>i_bits N _ xss m W (h.below hW) hk (by omega))
 have HS:=Lib.hid (fun (m:Nat) (hm:m < M) (W:World)=>i_sorted N m (by omega) hN8 (onesN_le' N (by omega) m (by omega)) W)
 have HLN:=Lib.hid (fun M=>unsN_len N xss M)
 clear hk
 obtain ⟨w0,hw0⟩:∃ w0,w.alloc (.cells #[.int .i64 N,.slice a xss.length c] 30)=w0:=⟨_,rfl⟩
 have bx:=box_cells w (.int .i64 N) (.slice a xss.length c) 30
 have hb0:Below w.heap.size w w0:=by rw [←hw0];exact (Below.refl _ _).alloc (Nat.le_refl _) _
 have hz0:w0.heap.size=w.heap.size+1:=by rw [←hw0];simp
 rw [hw0] at bx
 go_enter Tryz.func117,Tryz.ntmps117
 go_wp2
 try rw [hw0]
 clear hw0
 obtain ⟨c0,c1⟩:=bx
 have C0:=Lib.hid c0
 have C1:=Lib.hid c1
 clear c0 c1
 try rw [e2]
 clear e2
 have hb1:Below (w.heap.size+1) w0 (w0.alloc (.cells #[] 3)):=(Below.refl _ _).alloc (by omega) _
 clear hM
 go_loopg [3,9] M (fun g vo iv wr=>∃ k:Nat,g=M - k∧k≤M∧iv=.int .i64 k∧Own wr 3 (w.heap.size+1) vo (ints (unsN N xss k))∧Below (w.heap.size+1) w0 wr)
 case atStart=>exact ⟨0,rfl,Nat.zero_le _,rfl,by have:=Own.lit0 (B:=w.heap.size+1) w0 3 (by omega);rw [hz0] at this;exact this,hb1⟩
 case round =>
  obtain ⟨k,hg,hkl,rfl,ho,hb⟩:=hrel
  obtain ⟨ao,no,co,rfl,HN,_,_⟩:=ho.rd.formN
  by_cases hlt:k < M
  · have hok:okM N xss k=decide (outM xss k=sortedN N (onesN k)):=rfl
    have HB1:=Lib.hid (fun (W:World) (hW:Below w.heap.size w W)=>HB.out k hlt W hW)
    have HS1:=Lib.hid (fun (W:World)=>HS.out k hlt W)
    obtain ⟨r,hr⟩:∃ r,outM xss k=r:=⟨_,rfl⟩
    obtain ⟨s,hs⟩:∃ s,sortedN N (onesN k)=s:=⟨_,rfl⟩
    rw [hr] at hok HB1
    rw [hs] at hok HS1
    have hbw:Below w.heap.size w wr:=hb0.trans (hb.mono (by omega))
    have g0:wr.cell? ⟨w.heap.size,0,none⟩=some (.int .i64 N):=(hb.cell (Nat.lt_succ_self _)).trans C0.out
    have g1:wr.cell? ⟨w.heap.size,1,none⟩=some (.slice a xss.length c):=(hb.cell (Nat.lt_succ_self _)).trans C1.out
    have HT:Hid (∀ wx:World,Below wr.heap.size wr wx→Below wr.heap.size wr wx∧wx.cell? ⟨w.heap.size,0,none⟩=some (.int .i64 N)∧wx.cell? ⟨w.heap.size,1,none⟩=some (.slice a xss.length c)) :=
     fun wx hx=>⟨hx,(hx.cell (World.block_lt_of_cell? _ _ g0)).trans g0,(hx.cell (World.block_lt_of_cell? _ _ g1)).trans g1⟩
    have K0:Hid (∀ W:World,Below wr.heap.size wr W→Calls Tryz.prog 123 #[.agg #[.int .i64 N,.slice a xss.length c],.int .i64 k] W fun e w'=>e=.returned (.int .i64 (r:Nat))∧Below wr.heap.size wr w') :=
     fun W hW=>(HB1.out W (hbw.trans (hW.mono hbw.size))).mono fun e w' hh=>⟨hh.1,hW.trans (hh.2.mono hW.size)⟩
    have hsz:=hb.size
    clear g0 g1 HB1 hr hs
    have key:∀ q:Bool,((r:Int) != (s:Int))=q→okM N xss k = !q:=fun q hq=>by
     rw [hok,←hq]
     by_cases e:r=s
     · subst e;simp
     · have : ¬ (r:Int)=(s:Int):=by omega
       simp [e,this]
    cases hq:((r:Int) != (s:Int))
    · have HU:=Lib.hid (unsN_yes (key _ hq))
      clear key hok
      go_wp2
      go_region_held3 (fun wx=>Below wr.heap.size wr wx∧wx.cell? ⟨w.heap.size,0,none⟩=some (.int .i64 N)∧wx.cell? ⟨w.heap.size,1,none⟩=some (.slice a xss.length c))
       (first | exact HT.out _ g4 | exact HT.out _ (by exact ⟨rfl,rfl,rfl,Nat.le_refl _,fun _ _=>rfl⟩) | go_keep)
       (first
        | (go_at_call 123;(with_reducible refine (K0.out _ (by exact (show _∧_∧_ from by assumption).1)).mono ?_);rintro e w4 ⟨rfl,g4⟩)
        | (go_at_call 180;(with_reducible refine (HS1.out _).mono ?_);rintro e w5 ⟨rfl,rfl⟩))
      all_goals
       go_wp2
       go_roundg (M - (k+1))
       case measure=>omega
       case rel=>exact ⟨k+1,rfl,by omega,by go_num,by rw [HU.out];exact ho.below g4,hb.trans (g4.mono (by omega))⟩
    · have HU:=Lib.hid (unsN_no (key _ hq))
      clear key hok
      have hln:=HLN.out k
      have HLo:Hid ((ints (unsN N xss k)).length=no):=by rw [Hid,ints_length,HN.out]
      have hno:no≤256:=by have:=HN.out;omega
      go_wp2
      go_region_held3 (fun wx=>Below wr.heap.size wr wx∧wx.cell? ⟨w.heap.size,0,none⟩=some (.int .i64 N)∧wx.cell? ⟨w.heap.size,1,none⟩=some (.slice a xss.length c))
       (first | exact HT.out _ g4 | exact HT.out _ (by exact ⟨rfl,rfl,rfl,Nat.le_refl _,fun _ _=>rfl⟩) | go_keep)
       (first
        | (go_at_call 123;(with_reducible refine (K0.out _ (by exact (show _∧_∧_ from by assumption).1)).mono ?_);rintro e w4 ⟨rfl,g4⟩)
        | (go_at_call 180;(with_reducible refine (HS1.out _).mono ?_);rintro e w5 ⟨rfl,rfl⟩))
      all_goals
       have ho4:=ho.below g4
       have hz4:=g4.size
       have hs4:w.heap.size+1≤w4.heap.size:=by omega
       go_wp2_with (at_builtin;refine wpList_app1m rfl _ _ 23 rfl elI rfl ho4 (by show Value.slice (some ⟨w4.heap.size,0,none⟩) 1 1=_;simp) rfl hs4 no HLo.out (by omega) (by omega) ?_;intro bn cn' w6 ho6 hg6 hat6)
       have hb6:Below (w.heap.size+1) w0 w6:=(hb.trans (g4.mono (by omega))).grown hg6 hs4 fun r hr=>(ho4.lt r hr).1
       go_roundg (M - (k+1))
       case measure=>omega
       case rel=>exact ⟨k+1,rfl,by omega,by go_num,by rw [HU.out,ints_append];exact ho6,hb6⟩
  · obtain rfl:M=k:=by omega
    go_wp2
    go_ret
    exact ⟨_,rfl,ho.mono (by omega),hb0.trans (hb.mono (by omega))⟩
end Go.Proofs.YtggblfnajeikjaaGreatDoor
