/- Joined texts of the proof: Bits4, Bits5, FabA, FabP, Flt, Flt3, FabQ, PlainFlip, Idle. -/
import Derived.Deep.DeepCutAuto
import Derived.Test.YtggblfnajeikjaaGreatDoorJ10
namespace Go.Proofs.YtggblfnajeikjaaGreatDoor
open Go.RowKit
set_option linter.unusedVariables false
set_option linter.unusedSimpArgs false
set_option maxRecDepth 100000
set_option maxHeartbeats 16000000
theorem net_box (w:World) (x y:Value) (T:Nat):∃ w0,w.alloc (.cells #[x,y] T)=w0∧Below w.heap.size w w0∧w0.heap.size=w.heap.size+1∧w0.cell? ⟨w.heap.size,0,none⟩=some x∧w0.cell? ⟨w.heap.size,1,none⟩=some y :=
 ⟨_,rfl,(Below.refl _ _).alloc (Nat.le_refl _) _,by simp,(box_cells w x y T).1,(box_cells w x y T).2⟩
theorem keep_box {wr:World} {p:Nat} {x y:Value} (g0:wr.cell? ⟨p,0,none⟩=some x) (g1:wr.cell? ⟨p,1,none⟩=some y) :
 Hid (∀ wx:World,Below wr.heap.size wr wx→Below wr.heap.size wr wx∧wx.cell? ⟨p,0,none⟩=some x∧wx.cell? ⟨p,1,none⟩=some y) :=
 fun wx hx=>⟨hx,(hx.cell (World.block_lt_of_cell? _ _ g0)).trans g0,(hx.cell (World.block_lt_of_cell? _ _ g1)).trans g1⟩
theorem Below.cells2 {w w':World} {B p:Nat} {x y:Value} (h:Below B w w') (hp:p < B) (g0:w.cell? ⟨p,0,none⟩=some x) (g1:w.cell? ⟨p,1,none⟩=some y):w'.cell? ⟨p,0,none⟩=some x∧w'.cell? ⟨p,1,none⟩=some y :=
 ⟨(h.cell hp).trans g0,(h.cell hp).trans g1⟩
theorem firstU_nil {n:Nat} {xss:List (List Int)} (h:(unsN n xss (2 ^ n)).length=0):firstU n xss = -1:=by
 rw [firstU,List.length_eq_zero_iff.1 h]
theorem firstU_cons {n:Nat} {xss:List (List Int)} {x:Int} (h:(unsN n xss (2 ^ n))[0]?=some x):firstU n xss=x:=by
 rw [firstU]
 cases hh:unsN n xss (2 ^ n) with
 | nil=>rw [hh] at h;simp at h
 | cons y t=>rw [hh] at h;simp only [List.getElem?_cons_zero,Option.some.injEq] at h;exact h
theorem firstU_bound (n:Nat) (xss:List (List Int)):firstU n xss = -1∨∃ m:Nat,firstU n xss=m∧m < 2 ^ n:=by
 rw [firstU]
 cases hh:unsN n xss (2 ^ n) with
 | nil=>exact .inl rfl
 | cons y t =>
   have hy:y∈unsN n xss (2 ^ n):=by rw [hh];simp
   simp only [unsN,List.mem_map,List.mem_filter,List.mem_range] at hy
   obtain ⟨m,⟨hm,_⟩,rfl⟩:=hy
   exact .inr ⟨m,rfl,hm⟩
theorem i_FirstUnsorted (n:Int) (v:Value) (xss:List (List Int)) (w:World) (h:Rd2 w v xss) (hn:I64 n):Calls Tryz.prog 64 #[.agg #[.int .i64 n,v]] w (RetB (.int .i64 (firstUns n xss)) w):=by
 obtain ⟨a,c,rfl,h2,h3⟩:=h.form
 obtain ⟨w0,hw0,hb0,hz0,c0,c1⟩:=net_box w (.int .i64 n) (.slice a xss.length c) 30
 have h':=h.below hb0
 have HN:=i_NetworkOk n _ xss _ h' hn
 cases hk:netOk n xss
 · rw [hk] at HN
   have HR:Hid (firstUns n xss = -1):=by simp [firstUns,hk,Hid]
   go_enter Tryz.func64,Tryz.ntmps64
   go_wp2_with (go_at_call 40;refine HN.mono ?_;rintro e w2 ⟨rfl,hb2⟩)
   go_ret
   exact ⟨ret_int HR.out.symm,hb0.trans (hb2.mono (by omega))⟩
 rw [hk] at HN
 obtain ⟨N,rfl,hN1,hN8,hL60⟩:=netOk_n hk
 have HR:Hid (firstUns (N:Int) xss=firstU N xss):=by simp [firstUns,hk,Hid]
 have HD:=Lib.hid (fun (wq:World) (hq:Below w.heap.size w wq)=>i_unsorted N _ xss wq (h.below hq) hk)
 have C0:=Lib.hid c0
 have C1:=Lib.hid c1
 have HNIL:Hid ((unsN N xss (2 ^ N)).length=0→firstU N xss = -1):=firstU_nil
 have HCONS:Hid (∀ x,(unsN N xss (2 ^ N))[0]?=some x→firstU N xss=x):=fun x=>firstU_cons
 obtain ⟨us,hus⟩:∃ us,unsN N xss (2 ^ N)=us:=⟨_,rfl⟩
 rw [hus] at HD HNIL HCONS
 clear hk hus
 go_enter Tryz.func64,Tryz.ntmps64
 go_upto_region 4 with (first
  | (go_at_call 40;(refine HN.mono ?_;rintro e w2 ⟨rfl,hb2⟩;have hbw2:Below w.heap.size w w2:=hb0.trans (hb2.mono (by omega));obtain ⟨c0,c1⟩:=Below.cells2 hb2 (show w.heap.size < w0.heap.size by omega) C0.out C1.out))
  | (go_at_call 117;refine (HD.out _ hbw2).mono ?_;rintro e w3 ⟨vo,rfl,ho3,hb3⟩;obtain ⟨ao,no,co,rfl,HNo,_,_⟩:=ho3.rd.formN))
 rcases Nat.eq_zero_or_pos no with hz | hz
 · subst hz
   go_wp2
   go_ret
   exact ⟨ret_int (by rw [HR.out];exact (HNIL.out HNo.out.symm).symm),hbw2.trans (hb3.mono hbw2.size)⟩
 · obtain ⟨ad,x,rfl,hc,hx⟩:=ho3.rd.int (k:=0) (by have:=HNo.out;omega)
   have hc':w3.cell? ad=some (.int .i64 x):=by simpa [Addr.add] using hc
   clear hc
   have d0:((no:Int) == 0)=false:=by rw [beq_eq_false_iff_ne];omega
   have d1:(0:Int) < (no:Int):=by omega
   go_wp2
   go_ret
   exact ⟨ret_int (by rw [HR.out];exact (HCONS.out _ hx.out).symm),hbw2.trans (hb3.mono hbw2.size)⟩
def zK (m:Nat):Nat→Nat
 | 0=>0
 | k+1=>if m.testBit k then zK m k else zK m k+1
theorem zK_le (m:Nat):∀ k,zK m k≤k
 | 0=>Nat.le_refl _
 | k+1=>by have:=zK_le m k;simp only [zK];split <;> omega
theorem zK_ones:∀ n:Nat,n < 9→∀ m:Nat,m < 2 ^ n→zK m n=n - onesN m:=by decide +kernel
def failE (n m j:Nat):Nat:=if m.testBit j then zK m n+(j - zK m j) else zK m j
def failL (n m k:Nat):List Int:=(List.range k).map fun j=>((failE n m j:Nat):Int)
theorem failL_succ (n m k:Nat):failL n m (k+1)=failL n m k++[((failE n m k:Nat):Int)]:=by simp [failL,List.range_succ]
theorem failL_len (n m k:Nat):(failL n m k).length=k:=by simp [failL]
def failLs (n:Int) (xss:List (List Int)):List Int:=if firstUns n xss < 0 then [] else failL n.toNat (firstUns n xss).toNat n.toNat
def failsB (n:Int) (xss:List (List Int)):Bool:=decide (0≤firstUns n xss)
theorem firstUns_pos {n:Int} {xss:List (List Int)} (h:0≤firstUns n xss):netOk n xss=true∧∃ m:Nat,firstUns n xss=m∧m < 2 ^ n.toNat:=by
 unfold firstUns at h ⊢
 cases hk:netOk n xss
 · simp [hk] at h
 · simp only [hk,if_true] at h ⊢
   rcases firstU_bound n.toNat xss with e | ⟨m,e,hm⟩
   · omega
   · exact ⟨trivial,m,e,hm⟩
theorem failLs_ok {n:Int} {xss:List (List Int)} : I64s (failLs n xss)∧(failLs n xss).length≤8:=by
 unfold failLs
 split
 · exact ⟨fun x hx=>by simp at hx,by simp⟩
 · rename_i h
   obtain ⟨hk,m,e,hm⟩:=firstUns_pos (show 0≤firstUns n xss by omega)
   obtain ⟨N,rfl,hN1,hN8,_⟩:=netOk_n hk
   rw [e]
   simp only [Int.toNat_natCast]
   refine ⟨fun x hx=>?_,by rw [failL_len];omega⟩
   simp only [failL,List.mem_map,List.mem_range] at hx
   obtain ⟨j,hj,rfl⟩:=hx
   have h1:=zK_le m N
   have h2:=zK_le m j
   unfold I64 failE
   split <;> omega
theorem i_FailingList (n:Int) (v:Value) (xss:List (List Int)) (w:World) (h:Rd2 w v xss) (hn:I64 n):Calls Tryz.prog 16 #[.agg #[.int .i64 n,v]] w (RetOwnB 3 (ints (failLs n xss)) (failsB n xss) w):=by
 obtain ⟨a,c,rfl,h2,h3⟩:=h.form
 obtain ⟨w0,hw0,hb0,hz0,c0,c1⟩:=net_box w (.int .i64 n) (.slice a xss.length c) 30
 have h':=h.below hb0
 have HF:=i_FirstUnsorted n _ xss _ h' hn
 by_cases hf:firstUns n xss < 0
 · have HR:Hid (failLs n xss=[]∧failsB n xss=false):=⟨by simp [failLs,hf],by simp [failsB];omega⟩
   generalize firstUns n xss=z at HF hf
   have d0:decide (z < 0)=true:=by simpa using hf
   clear hf
   go_enter Tryz.func16,Tryz.ntmps16
   go_wp2_with (go_at_call 64;refine HF.mono ?_;rintro e w2 ⟨rfl,hb2⟩)
   go_ret2
   rw [HR.out.1,HR.out.2]
   exact ⟨_,rfl,Own.nil _ _ _,hb0.trans (hb2.mono (by omega))⟩
 · obtain ⟨hk,m,e,hm⟩:=firstUns_pos (show 0≤firstUns n xss by omega)
   obtain ⟨N,rfl,hN1,hN8,_⟩:=netOk_n hk
   have HR:Hid (failLs (N:Int) xss=failL N m N∧failsB (N:Int) xss=true):=⟨by simp [failLs,e];omega,by simp [failsB,e]⟩
   rw [e] at HF
   simp only [Int.toNat_natCast] at hm
   have hp:=pow_le8 hN8
   have HO:=Lib.hid (fun W=>i_ones m (by omega) W)
   have hol:=onesN_le' N (by omega) m hm
   have hz:=zK_ones N (by omega) m hm
   obtain ⟨o,ho⟩:∃ o,onesN m=o:=⟨_,rfl⟩
   rw [ho] at HO hol hz
   have HZ:Hid ((N:Int) - (o:Int)=((zK m N:Nat):Int)):=by rw [Hid,hz];omega
   have iw:IntKind.i64.wrap ((N:Int) - (o:Int))=((zK m N:Nat):Int):=by rw [HZ.out];exact IntWalk.i64_in _ (by omega)
   have C0:=Lib.hid c0
   have C1:=Lib.hid c1
   have hm256:m < 256:=by omega
   have d0:decide ((m:Int) < 0)=false:=by simp
   clear hf hk e ho hz hm
   go_enter Tryz.func16,Tryz.ntmps16
   go_wp2_with (go_at_call 64;refine HF.mono ?_;rintro e w2 ⟨rfl,hb2⟩;have hbw2:Below w.heap.size w w2:=hb0.trans (hb2.mono (by omega));obtain ⟨c0,c1⟩:=Below.cells2 hb2 (show w.heap.size < w0.heap.size by omega) C0.out C1.out)
   go_quiet ((go_at_call 65;exact Calls.quiet_of_same ((HO.out _).mono fun _ _ hh=>⟨hh.1,hh.2.symm⟩)))
   obtain ⟨w4,hw4⟩:∃ w4,(w2.drewN nq).alloc (.cells #[] 3)=w4:=⟨_,rfl⟩
   have e0:w4.cell? ⟨w.heap.size,0,none⟩=some (.int .i64 N):=by rw [←hw4];exact (World.cell?_alloc_lt _ _ _ (World.block_lt_of_cell? _ _ c0)).trans c0
   have hb4:Below w.heap.size w w4:=by rw [←hw4];exact (hbw2.trans (((Dr.refl w2).step nq).below _)).alloc hbw2.size _
   have ho4:Own w4 3 w.heap.size (.slice (some ⟨w2.heap.size,0,none⟩) 0 0) (ints []):=by rw [←hw4];exact Own.lit0 (w2.drewN nq) _ hbw2.size
   go_wp2
   clear hw4 e0 c0 c1 C0 C1 iw
   go_loopg [5,6,7,21] N (fun g zv ov vo iv wr=>∃ k:Nat,g=N - k∧k≤N∧iv=.int .i64 k∧zv=.int .i64 (zK m k:Nat)∧ov=.int .i64 (zK m N+(k - zK m k):Nat)∧Own wr 3 w.heap.size vo (ints (failL N m k))∧Below w.heap.size w wr)
   case atStart=>exact ⟨0,rfl,Nat.zero_le _,rfl,rfl,rfl,ho4,hb4⟩
   case round =>
    obtain ⟨k,hg,hkl,rfl,rfl,rfl,ho,hb⟩:=hrel
    obtain ⟨ao,no,co,rfl,HNo,_,_⟩:=ho.rd.formN
    by_cases hlt:k < N
    · have HLo:Hid ((ints (failL N m k)).length=no):=by rw [Hid,ints_length,HNo.out]
      have hno:no≤8:=by have:=HNo.out;rw [failL_len] at this;omega
      have hzk:=zK_le m k
      have hzN:=zK_le m N
      have b1:=bit_of m hm256 k (by omega)
      have hsb:=hb.size
      have HE:=Lib.hid (failL_succ N m k)
      cases t1:m.testBit k
      · have HK:Hid (zK m (k+1)=zK m k+1∧failE N m k=zK m k):=⟨by simp [zK,t1],by simp [failE,t1]⟩
        rw [t1] at b1
        have q1:bits BinOp.and IntKind.i64 ((m:Int) / 2 ^ k) 1=0:=b1
        rw [HK.out.2] at HE
        clear b1 t1
        go_wp2_with (at_builtin;refine wpList_app1m rfl _ _ 23 rfl elI rfl ho (by show Value.slice (some ⟨wr.heap.size,0,none⟩) 1 1=_;simp) rfl hsb no HLo.out (by omega) (by omega) ?_;intro bn cn' w6 ho6 hg6 hat6)
        have hb6:=hb.grown hg6 hsb fun r hr=>(ho.lt r hr).1
        go_roundg (N - (k+1))
        case measure=>omega
        case rel=>exact ⟨k+1,rfl,by omega,by go_num,by rw [HK.out.1];go_num,by rw [HK.out.1,show k+1 - (zK m k+1)=k - zK m k by omega];simp,by rw [HE.out,ints_append];exact ho6,hb6⟩
      · have HK:Hid (zK m (k+1)=zK m k∧failE N m k=zK m N+(k - zK m k)):=⟨by simp [zK,t1],by simp [failE,t1]⟩
        rw [t1] at b1
        have q1:bits BinOp.and IntKind.i64 ((m:Int) / 2 ^ k) 1=1:=b1
        rw [HK.out.2] at HE
        clear b1 t1
        go_wp2_with (at_builtin;refine wpList_app1m rfl _ _ 23 rfl elI rfl ho (by show Value.slice (some ⟨wr.heap.size,0,none⟩) 1 1=_;simp) rfl hsb no HLo.out (by omega) (by omega) ?_;intro bn cn' w6 ho6 hg6 hat6)
        have hb6:=hb.grown hg6 hsb fun r hr=>(ho.lt r hr).1
        go_roundg (N - (k+1))
        case measure=>omega
        case rel=>exact ⟨k+1,rfl,by omega,by go_num,by rw [HK.out.1],by rw [HK.out.1,show zK m N+(k+1 - zK m k)=zK m N+(k - zK m k)+1 by omega];go_num,by rw [HE.out,ints_append];exact ho6,hb6⟩
    · obtain rfl:N=k:=by omega
      go_wp2
      go_ret2
      rw [HR.out.1,HR.out.2]
      exact ⟨_,rfl,ho,hb⟩
theorem atL_set {n k:Nat} {f g:Nat→Int} {v:Int} (hv:k < n→g k=v) (hg:∀ j,j≠k→g j=f j):(atL n f).set k v=atL n g:=by
 apply List.ext_getElem?
 intro q
 rw [List.getElem?_set]
 by_cases hq:q < n
 · rw [atL_get _ hq,atL_get _ hq,atL_length]
   by_cases e:k=q
   · subst e;simp [hq,hv hq]
   · simp [e,hg q (fun h=>e h.symm)]
 · have e1:(atL n f)[q]?=none:=List.getElem?_eq_none (by rw [atL_length];omega)
   have e2:(atL n g)[q]?=none:=List.getElem?_eq_none (by rw [atL_length];omega)
   rw [e1,e2,atL_length]
   by_cases e:k=q
   · subst e;simp [hq]
   · simp [e]
def natA (n:Nat) (x:Nat→Nat):List Int:=atL n fun o=>(x o:Int)
theorem natA_len (n:Nat) (x:Nat→Nat):(natA n x).length=n:=atL_length _ _
theorem natA_get {n i:Nat} (x:Nat→Nat) (h:i < n):(natA n x)[i]?=some ((x i:Nat):Int):=atL_get _ h
theorem natA_set {n k:Nat} (x:Nat→Nat) (v:Nat):(natA n x).set k (v:Int)=natA n (upd x k v) :=
 atL_set (fun _=>by rw [upd_at]) fun j hj=>by rw [upd_off _ _ hj]
theorem natA_congr {n:Nat} {x y:Nat→Nat} (h:∀ i,i < n→x i=y i):natA n x=natA n y:=by
 unfold natA atL
 apply List.map_congr_left
 intro i hi
 rw [h i (List.mem_range.1 hi)]
theorem natA_zero (n:Nat):List.replicate n (Value.int .i64 0)=ints (natA n fun _=>0):=by
 symm
 rw [List.eq_replicate_iff]
 simp [natA,atL,ints]
theorem ord_of {n:Nat} {xs:List Int} (hl:xs.length=n) (h:OrdP n xs):∃ x,xs=natA n x∧Ord n x:=by
 have hx:xs=natA n fun o=>(xs.getD o 0).toNat:=by
  apply List.ext_getElem?
  intro i
  by_cases hi:i < n
  · rw [natA_get _ hi,List.getD_eq_getElem?_getD,List.getElem?_eq_getElem (by omega)]
    have:=h.1 xs[i] (List.getElem_mem _)
    simp
    omega
  · rw [List.getElem?_eq_none (by omega),List.getElem?_eq_none (by rw [natA_len];omega)]
 refine ⟨_,hx,?_⟩
 have hg:∀ o,o < n→∃ (ho:o < xs.length),((xs.getD o 0).toNat:Int)=xs[o]:=fun o ho=>by
  refine ⟨by omega,?_⟩
  rw [List.getD_eq_getElem?_getD,List.getElem?_eq_getElem (by omega)]
  have:=h.1 xs[o] (List.getElem_mem _)
  simp
  omega
 have hlx:∀ o,o < n→(xs.getD o 0).toNat < n:=fun o ho=>by
  obtain ⟨h1,h2⟩:=hg o ho
  have:=h.1 xs[o] (List.getElem_mem _)
  omega
 have hinj:∀ o p,o < n→p < n→(xs.getD o 0).toNat=(xs.getD p 0).toNat→o=p:=fun o p ho hp e=>by
  obtain ⟨h1,h2⟩:=hg o ho
  obtain ⟨h3,h4⟩:=hg p hp
  have h5:xs[o]=xs[p]:=by omega
  have h6:=List.pairwise_iff_getElem.1 h.2
  rcases Nat.lt_trichotomy o p with l | l | l
  · exact absurd h5 (h6 o p h1 h3 l)
  · exact l
  · exact absurd h5.symm (h6 p o h3 h1 l)
 refine ⟨hlx,hinj,fun v hv=>?_⟩
 have hn:((List.range n).map fun o=>(xs.getD o 0).toNat).Nodup:=by
  rw [List.Nodup,List.pairwise_map]
  refine List.Pairwise.imp_of_mem (fun {a b} ha hb hne e=>?_) (List.nodup_range (n:=n))
  exact hne (hinj a b (List.mem_range.1 ha) (List.mem_range.1 hb) e)
 have:=all_mem hn (fun x hx=>by
  obtain ⟨o,ho,rfl⟩:=List.mem_map.1 hx
  exact hlx o (List.mem_range.1 ho)) (by simp) hv
 obtain ⟨o,ho,e⟩:=List.mem_map.1 this
 exact ⟨o,List.mem_range.1 ho,e⟩
def invK (n:Nat) (x:Nat→Nat) (k v:Nat):Nat:=if invF n x v < k then invF n x v else 0
theorem invK_zero (n:Nat) (x:Nat→Nat):invK n x 0=fun _=>0:=by funext v;simp [invK]
theorem invK_succ {n k:Nat} {x:Nat→Nat} (H:Ord n x) (hk:k < n):(natA n (invK n x k)).set (x k) (k:Int)=natA n (invK n x (k+1)):=by
 refine atL_set (fun _=>?_) fun j hj=>?_
 · rw [invK,H.yx hk,if_pos (by omega)]
 · rw [invK,invK]
   by_cases e:invF n x j=k
   · have:=invF_at (n:=n) (x:=x) (v:=j) (by omega)
     rw [e] at this
     exact absurd this.symm hj
   · by_cases e2:invF n x j < k
     · rw [if_pos e2,if_pos (by omega)]
     · rw [if_neg e2,if_neg (by omega)]
theorem invK_all {n:Nat} {x:Nat→Nat} (H:Ord n x):natA n (invK n x n)=natA n (invF n x):=natA_congr fun v hv=>by rw [invK,if_pos (H.ly hv)]
theorem i_inverse (v:Value) (n:Nat) (x:Nat→Nat) (w:World) (h:Rd w v (ints (natA n x))) (H:Ord n x) (hn:n≤1000):Calls Tryz.prog 145 #[v] w (RetOwn 3 (ints (natA n (invF n x))) w):=by
 obtain ⟨a,c,rfl,hnc,hc⟩:=h.formi
 rw [natA_len] at h hnc ⊢
 have HS:=Lib.hid (fun k hk=>invK_succ (k:=k) H hk)
 have HA:=Lib.hid (invK_all H)
 have HX:=Lib.hid (fun k hk=>H.lx k hk)
 go_enter Tryz.func145,Tryz.ntmps145
 go_wp2_with (at_make;refine wpList_mk rfl _ _ 23 rfl elI rfl rfl (Nat.le_refl _) (by omega) (by omega) ?_;intro b w1 hb1 hown1 hg1)
 rw [natA_zero,←invK_zero n x] at hown1
 go_loopg [11] n (fun g i wr=>∃ k:Nat,g=n - k∧k≤n∧i=.int .i64 k∧Own wr 3 w.heap.size (.slice (some b) n n) (ints (natA n (invK n x k)))∧Below w.heap.size w wr)
 case atStart=>exact ⟨0,rfl,Nat.zero_le _,rfl,hown1,(Below.refl _ _).grown hg1 (Nat.le_refl _) (fun _ h=>by cases h)⟩
 case round =>
  clear hown1
  obtain ⟨k,hg,hk,rfl,ho,hb⟩:=hrel
  by_cases hlt:k < n
  · obtain ⟨ad,y,hal,hcx,hy⟩:=(h.below hb).int (k:=k) (by rw [natA_len];exact hlt)
    subst hal
    obtain rfl:y=((x k:Nat):Int):=by have:=hy.out;rw [natA_get _ hlt] at this;cases this;rfl
    have hxk:=HX.out k hlt
    have HSK:=Lib.hid (HS.out k hlt)
    clear hy
    generalize x k=X at hcx hxk HSK
    have hl:X < (natA n (invK n x k)).length:=by rw [natA_len];exact hxk
    have fz:=ho.frozen rfl X
    have hta:=ho.rd.cell_int' (natA_get (invK n x k) hxk)
    have hs:=(ho.seti rfl hl (k:Int)).1
    have hbs:=ho.below_set rfl hl (.int .i64 (k:Int)) hb (Nat.le_refl _)
    rw [HSK.out] at hs
    have i1:(X:Int) < (n:Int):=by omega
    go_wp2
    go_roundg (n - (k+1))
    case measure=>omega
    case rel=>exact ⟨k+1,rfl,by omega,by go_num,hs,hbs⟩
  · obtain rfl:k=n:=by omega
    rw [HA.out] at ho
    go_wp2
    go_ret
    exact ⟨_,rfl,ho,hb⟩
def Stg (n k:Nat):Prop:=(n=2∧k=1)∨(n=4∧k=2)∨(n=8∧k=3)
def shf (n p:Nat):Nat:=if p < n / 2 then 2 * p else 2 * p+1 - n
def bitK (k tg s:Nat):Nat:=tg / 2 ^ (k - 1 - s) % 2
def pos (n k fr tg:Nat):Nat→Nat
 | 0=>fr
 | s+1=>shf n (pos n k fr tg s) - shf n (pos n k fr tg s) % 2+bitK k tg s
def pathL (n k fr tg s:Nat):List Int:=(List.range s).map fun j=>((pos n k fr tg (j+1):Nat):Int)
theorem pathL_succ (n k fr tg s:Nat):pathL n k fr tg (s+1)=pathL n k fr tg s++[((pos n k fr tg (s+1):Nat):Int)]:=by simp [pathL,List.range_succ]
theorem pathL_len (n k fr tg s:Nat):(pathL n k fr tg s).length=s:=by simp [pathL]
theorem pathL_get {n k fr tg s j:Nat} (h:j < s):(pathL n k fr tg s)[j]?=some ((pos n k fr tg (j+1):Nat):Int):=by simp [pathL,h]
theorem shf_lt {n k p:Nat} (hs:Stg n k) (hp:p < n):shf n p < n:=by
 rcases hs with ⟨rfl,_⟩ | ⟨rfl,_⟩ | ⟨rfl,_⟩ <;> unfold shf <;> split <;> omega
theorem pos_lt {n k fr tg:Nat} (hs:Stg n k) (hf:fr < n):∀ s,pos n k fr tg s < n
 | 0=>hf
 | s+1=>by
   have h1:=shf_lt hs (pos_lt (tg:=tg) hs hf s)
   have h2:bitK k tg s < 2:=Nat.mod_lt _ (by omega)
   rw [pos]
   generalize shf n (pos n k fr tg s)=q at h1 ⊢
   generalize bitK k tg s=b at h2 ⊢
   rcases hs with ⟨rfl,_⟩ | ⟨rfl,_⟩ | ⟨rfl,_⟩ <;> omega
theorem fab1 {n k p:Nat} (hs:Stg n k) (hp:p < n):bits BinOp.or IntKind.i64 (bits BinOp.and IntKind.i64 ((p:Int) * 2) ((n:Int) - 1)) ((p:Int) / 2 ^ (k - 1))=((shf n p:Nat):Int):=by
 rcases hs with ⟨rfl,rfl⟩ | ⟨rfl,rfl⟩ | ⟨rfl,rfl⟩
 · exact (show ∀ p:Nat,p < 2→bits BinOp.or IntKind.i64 (bits BinOp.and IntKind.i64 ((p:Int) * 2) (((2:Nat):Int) - 1)) ((p:Int) / 2 ^ (1 - 1))=((shf 2 p:Nat):Int) by decide +kernel) p hp
 · exact (show ∀ p:Nat,p < 4→bits BinOp.or IntKind.i64 (bits BinOp.and IntKind.i64 ((p:Int) * 2) (((4:Nat):Int) - 1)) ((p:Int) / 2 ^ (2 - 1))=((shf 4 p:Nat):Int) by decide +kernel) p hp
 · exact (show ∀ p:Nat,p < 8→bits BinOp.or IntKind.i64 (bits BinOp.and IntKind.i64 ((p:Int) * 2) (((8:Nat):Int) - 1)) ((p:Int) / 2 ^ (3 - 1))=((shf 8 p:Nat):Int) by decide +kernel) p hp
theorem fab2 {t e:Nat} (ht:t < 8) (he:e < 3):bits BinOp.and IntKind.i64 ((t:Int) / 2 ^ e) 1=((t / 2 ^ e % 2:Nat):Int) :=
 (show ∀ t:Nat,t < 8→∀ e:Nat,e < 3→bits BinOp.and IntKind.i64 ((t:Int) / 2 ^ e) 1=((t / 2 ^ e % 2:Nat):Int) by decide +kernel) t ht e he
theorem fab3 {q b:Nat} (hq:q < 8) (hb:b < 2):bits BinOp.or IntKind.i64 (bits BinOp.andNot IntKind.i64 (q:Int) 1) (b:Int)=((q - q % 2+b:Nat):Int) :=
 (show ∀ q:Nat,q < 8→∀ b:Nat,b < 2→bits BinOp.or IntKind.i64 (bits BinOp.andNot IntKind.i64 (q:Int) 1) (b:Int)=((q - q % 2+b:Nat):Int) by decide +kernel) q hq b hb
theorem i_path (n k fr tg:Nat) (w:World) (hs:Stg n k) (hf:fr < n) (ht:tg < n):Calls Tryz.prog 190 #[.int .i64 (n:Int),.int .i64 (fr:Int),.int .i64 (tg:Int)] w
 fun e w'=>∃ v1 v2,e=.returned (.tuple #[v1,v2])∧Own w' 3 w.heap.size v1 (ints (pathL n k fr tg k))∧Below w.heap.size w w':=by
 have hk:1≤k∧k≤3:=by rcases hs with ⟨_,rfl⟩ | ⟨_,rfl⟩ | ⟨_,rfl⟩ <;> omega
 have hST:Calls Tryz.prog 144 #[.int .i64 (n:Int)] w fun e w'=>e=.returned (.int .i64 (k:Int))∧w=w':=by
  rcases hs with ⟨rfl,rfl⟩ | ⟨rfl,rfl⟩ | ⟨rfl,rfl⟩ <;>
  · go_enter Tryz.func144,Tryz.ntmps144
    go_wp2
    go_ret
    exact ⟨rfl,rfl⟩
 have HST:=Lib.hid hST
 have HPL:=Lib.hid (fun s=>pos_lt (tg:=tg) hs hf s)
 have HSG:=Lib.hid hs
 have hn8:2≤n∧n≤8:=by rcases hs with ⟨rfl,_⟩ | ⟨rfl,_⟩ | ⟨rfl,_⟩ <;> omega
 have hO:OwnsL ((w.alloc (.cells #[] 3)).alloc (.cells #[] 3)) 3 w.heap.size [(.slice (some ⟨w.heap.size,0,none⟩) 0 0,[]),(.slice (some ⟨w.heap.size+1,0,none⟩) 0 0,[])]:=by
  have h1:=OwnsL.snoc (OwnsL.nil w 3 w.heap.size) ((Below.refl _ _).alloc (Nat.le_refl _) (.cells #[] 3)) (Nat.le_refl _) (Own.lit0 w 3 (Nat.le_refl _))
  have h2:=OwnsL.snoc h1 ((Below.refl _ _).alloc (Nat.le_refl _) (.cells #[] 3)) (by simp) (Own.lit0 _ 3 (Nat.le_refl _))
  simpa using h2
 have hB:Below w.heap.size w ((w.alloc (.cells #[] 3)).alloc (.cells #[] 3)):=((Below.refl _ _).alloc (Nat.le_refl _) _).alloc (by simp) _
 clear hST hs
 go_enter Tryz.func190,Tryz.ntmps190
 go_wp2_with (go_at_call 144;refine HST.out.mono ?_;rintro e w1 ⟨rfl,rfl⟩)
 go_loopg [1,9,10,19] k (fun g fv vp vc iv wr=>∃ (s:Nat) (ys:List Int),g=k - s∧s≤k∧iv=.int .i64 s∧fv=.int .i64 ((pos n k fr tg s:Nat):Int)∧Hid (ys.length=s)∧OwnsL wr 3 w.heap.size [(vp,pathL n k fr tg s),(vc,ys)]∧Below w.heap.size w wr)
 case atStart=>exact ⟨0,[],rfl,Nat.zero_le _,rfl,rfl,rfl,hO,hB⟩
 case round =>
  clear hO hB
  obtain ⟨s,ys,hg,hsk,rfl,rfl,HYL,hO,hb⟩:=hrel
  by_cases hlt:s < k
  · have hp:=HPL.out s
    obtain ⟨p,hpe⟩:∃ p,pos n k fr tg s=p:=⟨_,rfl⟩
    rw [hpe] at hp ⊢
    have i1:(k:Int) - 1 ≥ 0:=by omega
    have i2:(k:Int) - 1 - (s:Int) ≥ 0:=by omega
    have f1:=fab1 HSG.out hp
    have hq8:shf n p < 8:=by have:=shf_lt HSG.out hp;omega
    have f2:=fab2 (t:=tg) (e:=k - 1 - s) (by omega) (by omega)
    have f3:=fab3 hq8 (b:=tg / 2 ^ (k - 1 - s) % 2) (Nat.mod_lt _ (by omega))
    have HPS:Hid (pos n k fr tg (s+1)=shf n p - shf n p % 2+tg / 2 ^ (k - 1 - s) % 2):=by rw [Hid,pos,hpe];rfl
    have HPP:=Lib.hid (pathL_succ n k fr tg s)
    rw [HPS.out] at HPP
    generalize hbe:tg / 2 ^ (k - 1 - s) % 2=b at f2 f3 HPS HPP
    generalize shf n p=q at f1 f3 HPS HPP
    generalize q - q % 2+b=r at f3 HPS HPP
    obtain ⟨ap,np,cp,rfl,HNP,_,_⟩:=hO.o0.rd.formN
    obtain ⟨ac,nc,cc,rfl,HNC,_,_⟩:=hO.o1.rd.formN
    have hnp:np=s:=by have:=HNP.out;rw [pathL_len] at this;exact this
    have hnc:nc=s:=by have:=HNC.out;rw [HYL.out] at this;exact this
    subst hnp
    subst hnc
    have HLC:Hid ((ints ys).length=nc):=by rw [Hid,ints_length,HYL.out]
    have HLP:Hid ((ints (pathL n k fr tg nc)).length=nc):=by rw [Hid,ints_length,pathL_len]
    have hsb:=hb.size
    have hs3:nc≤3:=by omega
    clear hpe
    go_upto_region 10 with (at_builtin;(refine wpList_app1m rfl _ _ 23 rfl elI ?_ hO.o1 ?_ ?_ hsb nc HLC.out (by omega) (by omega) ?_);(focus exact rfl);(focus (simp [Act.eval]));(focus exact rfl);intro b5 c5 w5 ho5 hg5 hat5)
    obtain ⟨yn,hyn⟩:∃ yn,bits BinOp.xor IntKind.i64 (bits BinOp.and IntKind.i64 (q:Int) 1) (b:Int)=yn:=⟨_,rfl⟩
    rw [hyn] at ho5
    have hO5:=hO.t1 hg5 (ys:=ys++[yn]) (by rw [ints_append];exact ho5) (hat_of hat5)
    have hb5:=hb.grown hg5 hsb (fun r hr=>(hO.o1.lt r hr).1)
    have hs5:=hb5.size
    have hYL:Hid ((ys++[yn]).length=nc+1):=by rw [Hid,List.length_append,HYL.out];rfl
    clear hO hb hg5 hat5 ho5 hyn
    go_wp2_with (at_builtin;(refine wpList_app1m rfl _ _ 23 rfl elI ?_ hO5.o0 ?_ ?_ hs5 nc HLP.out (by omega) (by omega) ?_);(focus exact rfl);(focus (simp [Act.eval]));(focus exact rfl);intro b6 c6 w6 ho6 hg6 hat6)
    have hO6:=hO5.t0 hg6 (ys:=pathL n k fr tg (nc+1)) (by rw [HPP.out,ints_append];exact ho6) (hat_of hat6)
    have hb6:=hb5.grown hg6 hs5 (fun r hr=>(hO5.o0.lt r hr).1)
    go_roundg (k - (nc+1))
    case measure=>omega
    case rel=>exact ⟨nc+1,ys++[yn],rfl,by omega,by go_num,by rw [HPS.out],hYL,hO6,hb6⟩
  · obtain rfl:s=k:=Nat.le_antisymm hsk (Nat.le_of_not_lt hlt)
    have ho:=hO.o0
    dsimp only at ho
    go_wp2
    go_ret2
    exact ⟨_,_,rfl,ho,hb⟩
def meetB (n k a b c d:Nat):Bool:=(List.range k).any fun j=>decide (pos n k a b (j+1)=pos n k c d (j+1))
theorem meetB_yes {n k a b c d j:Nat} (hj:j < k) (h:pos n k a b (j+1)=pos n k c d (j+1)):meetB n k a b c d=true:=by
 rw [meetB,List.any_eq_true]
 exact ⟨j,List.mem_range.2 hj,by simpa using h⟩
theorem meetB_no {n k a b c d:Nat} (h:∀ j,j < k→pos n k a b (j+1)≠pos n k c d (j+1)):meetB n k a b c d=false:=by
 cases e:meetB n k a b c d
 · rfl
 · rw [meetB,List.any_eq_true] at e
   obtain ⟨j,hj,he⟩:=e
   exact absurd (by simpa using he) (h j (List.mem_range.1 hj))
theorem i_meet (n k a b c d:Nat) (w:World) (hs:Stg n k) (ha:a < n) (hb:b < n) (hc:c < n) (hd:d < n):Calls Tryz.prog 146 #[.int .i64 (n:Int),.int .i64 (a:Int),.int .i64 (b:Int),.int .i64 (c:Int),.int .i64 (d:Int)] w (RetB (.bool (meetB n k a b c d)) w):=by
 have hk:1≤k∧k≤3:=by rcases hs with ⟨_,rfl⟩ | ⟨_,rfl⟩ | ⟨_,rfl⟩ <;> omega
 have HP1:=Lib.hid (fun W=>i_path n k a b W hs ha hb)
 have HP2:=Lib.hid (fun W=>i_path n k c d W hs hc hd)
 have HY:Hid (∀ j,j < k→pos n k a b (j+1)=pos n k c d (j+1)→meetB n k a b c d=true):=fun j=>meetB_yes
 have HN:Hid ((∀ j,j < k→pos n k a b (j+1)≠pos n k c d (j+1))→meetB n k a b c d=false):=meetB_no
 have HG1:Hid (∀ j,j < k→(pathL n k a b k)[j]?=some ((pos n k a b (j+1):Nat):Int)):=fun j hj=>pathL_get hj
 have HG2:Hid (∀ j,j < k→(pathL n k c d k)[j]?=some ((pos n k c d (j+1):Nat):Int)):=fun j hj=>pathL_get hj
 have HL1:Hid ((pathL n k a b k).length=k):=pathL_len _ _ _ _ _
 have HL2:Hid ((pathL n k c d k).length=k):=pathL_len _ _ _ _ _
 generalize pathL n k a b k=P1 at HP1 HG1 HL1
 generalize pathL n k c d k=P2 at HP2 HG2 HL2
 generalize pos n k a b=p1 at HY HN HG1
 generalize pos n k c d=p2 at HY HN HG2
 generalize meetB n k a b c d=m at HY HN ⊢
 go_enter Tryz.func146,Tryz.ntmps146
 go_wp2_with (first
  | (go_at_call 190;(with_reducible refine (HP1.out _).mono ?_);rintro e w1 ⟨v1,v2,rfl,ho1,hb1⟩)
  | (go_at_call 190;(with_reducible refine (HP2.out _).mono ?_);rintro e w2 ⟨v3,v4,rfl,ho2,hb2⟩;have h12:=ho1.below hb2;obtain ⟨a1,n1,c1,rfl,HN1,_,_⟩:=h12.rd.formN;obtain ⟨a2,n2,c2,rfl,HN2,_,_⟩:=ho2.rd.formN))
 have hn1:n1=k:=by have:=HN1.out;rw [HL1.out] at this;exact this
 have hn2:n2=k:=by have:=HN2.out;rw [HL2.out] at this;exact this
 subst hn1
 subst hn2
 have hbw:=hb1.trans (hb2.mono hb1.size)
 have hr1:=h12.rd
 have hr2:=ho2.rd
 clear h12 ho1 ho2 hb1 hb2
 go_loopg [32] n2 (fun g iv wr=>∃ j:Nat,g=n2 - j∧j≤n2∧iv=.int .i64 j∧Hid (∀ i,i < j→p1 (i+1)≠p2 (i+1))∧Dr w2 wr)
 case atStart=>exact ⟨0,rfl,Nat.zero_le _,rfl,fun i h=>by omega,Dr.refl _⟩
 case round =>
  obtain ⟨j,hg,hj,rfl,HNO,hdr⟩:=hrel
  by_cases hlt:j < n2
  · obtain ⟨ad1,y1,hal1,hc1,hy1⟩:=(hr1.dr hdr).int (k:=j) (by rw [HL1.out];exact hlt)
    obtain ⟨ad2,y2,hal2,hc2,hy2⟩:=(hr2.dr hdr).int (k:=j) (by rw [HL2.out];exact hlt)
    subst hal1
    subst hal2
    obtain rfl:y1=((p1 (j+1):Nat):Int):=by have:=hy1.out;rw [HG1.out j hlt] at this;cases this;rfl
    obtain rfl:y2=((p2 (j+1):Nat):Int):=by have:=hy2.out;rw [HG2.out j hlt] at this;cases this;rfl
    clear hy1 hy2
    by_cases he:p1 (j+1)=p2 (j+1)
    · have hm:=Lib.hid (HY.out j hlt he)
      rw [he] at hc1
      clear he
      generalize p2 (j+1)=q2 at hc1 hc2
      go_wp2
      go_quiet (fail)
      go_wp2
      go_ret
      exact ⟨ret_bool hm.out.symm,hbw.trans ((hdr.step _).below _)⟩
    · have HNO2:Hid (∀ i,i < j+1→p1 (i+1)≠p2 (i+1)):=fun i hi=>by
       by_cases e:i=j
       · subst e;exact he
       · exact HNO.out i (by omega)
      have d0:(((p1 (j+1):Nat):Int) == ((p2 (j+1):Nat):Int))=false:=by rw [beq_eq_false_iff_ne];omega
      clear he
      generalize p1 (j+1)=q1 at hc1 d0
      generalize p2 (j+1)=q2 at hc2 d0
      go_wp2
      go_quiet (fail)
      go_wp2
      go_roundg (n2 - (j+1))
      case measure=>omega
      case rel=>exact ⟨j+1,rfl,by omega,by go_num,HNO2,hdr.step _⟩
  · obtain rfl:j=n2:=Nat.le_antisymm hj (Nat.le_of_not_lt hlt)
    have hm:=Lib.hid (HN.out HNO.out)
    go_wp2
    go_ret
    exact ⟨ret_bool hm.out.symm,hbw.trans (hdr.below _)⟩
def swpBt (m i k:Nat):Nat:=if m.testBit i != m.testBit k then (m ^^^ (1 <<< i)) ^^^ (1 <<< k) else m
def fltN (r a b kind:Nat):Nat:=if kind=2 then stepN r b a else if kind=1 then swpBt r a b else r
def fltM (xss:List (List Int)) (idx kind m:Nat):Nat→Nat
 | 0=>m
 | k+1=>match xss[k]? with
   | some [a,b]=>if k=idx then fltN (fltM xss idx kind m k) a.toNat b.toNat kind else stepN (fltM xss idx kind m k) a.toNat b.toNat
   | _=>fltM xss idx kind m k
theorem fltM_at {xss:List (List Int)} {idx kind m k a b:Nat} (h:xss[k]?=some [(a:Int),(b:Int)]) (e:k=idx):fltM xss idx kind m (k+1)=fltN (fltM xss idx kind m k) a b kind:=by
 simp only [fltM,h,Int.toNat_natCast,if_pos e]
theorem fltM_off {xss:List (List Int)} {idx kind m k a b:Nat} (h:xss[k]?=some [(a:Int),(b:Int)]) (e:k≠idx):fltM xss idx kind m (k+1)=stepN (fltM xss idx kind m k) a b:=by
 simp only [fltM,h,Int.toNat_natCast,if_neg e]
theorem swpBt_lt:∀ n:Nat,n < 9→∀ m:Nat,m < 2 ^ n→∀ i:Nat,i < n→∀ k:Nat,k < n→swpBt m i k < 2 ^ n:=by decide +kernel
theorem fltM_lt {N idx kind m:Nat} {xss:List (List Int)} (hk:netOk (N:Int) xss=true) (hm:m < 2 ^ N):∀ k,fltM xss idx kind m k < 2 ^ N
 | 0=>hm
 | k+1=>by
   have ih:=fltM_lt (idx:=idx) (kind:=kind) hk hm k
   obtain ⟨N',e,hN1,hN8,_⟩:=netOk_n hk
   cases hx:xss[k]? with
   | none=>simp only [fltM,hx];exact ih
   | some xs =>
     obtain ⟨a,b,rfl,ha,hb,_⟩:=netOk_row hk hx
     by_cases e:k=idx
     · rw [fltM_at hx e,fltN]
       split
       · exact stepN_lt N (by omega) _ ih b hb a ha
       · split
         · exact swpBt_lt N (by omega) _ ih a ha b hb
         · exact ih
     · rw [fltM_off hx e]
       exact stepN_lt N (by omega) _ ih a ha b hb
def outF11 (xss:List (List Int)) (idx kind m:Nat):Nat:=fltM xss idx kind m xss.length
def findsB (xss:List (List Int)) (idx kind m:Nat):Bool:=decide (outF11 xss idx kind m≠outM xss m)
def testsL (xss:List (List Int)) (idx kind M:Nat):List Int:=((List.range M).filter fun m=>findsB xss idx kind m).map fun (m:Nat)=>(m:Int)
theorem testsL_yes {xss:List (List Int)} {idx kind m:Nat} (h:findsB xss idx kind m=true):testsL xss idx kind (m+1)=testsL xss idx kind m++[(m:Int)]:=by
 simp [testsL,List.range_succ,h]
theorem testsL_no {xss:List (List Int)} {idx kind m:Nat} (h:findsB xss idx kind m=false):testsL xss idx kind (m+1)=testsL xss idx kind m:=by
 simp [testsL,List.range_succ,h]
theorem testsL_len (xss:List (List Int)) (idx kind M:Nat):(testsL xss idx kind M).length≤M:=by
 rw [testsL,List.length_map]
 exact Nat.le_trans (List.length_filter_le _ _) (by simp)
theorem xorr_of':∀ m:Nat,m < 256→∀ i:Nat,i < 8→∀ k:Nat,k < 8→(i == k || decide (bits BinOp.xor IntKind.i64 (m:Int) (bits BinOp.or IntKind.i64 (wrap64 (2 ^ i)) (wrap64 (2 ^ k)))=(((m ^^^ (1 <<< i)) ^^^ (1 <<< k):Nat):Int)))=true:=by decide +kernel
theorem xorr_of {m i k:Nat} (hm:m < 256) (hi:i < 8) (hk:k < 8) (hik:i≠k):bits BinOp.xor IntKind.i64 (m:Int) (bits BinOp.or IntKind.i64 (wrap64 (2 ^ i)) (wrap64 (2 ^ k)))=(((m ^^^ (1 <<< i)) ^^^ (1 <<< k):Nat):Int):=by
 have:=xorr_of' m hm i hi k hk
 simpa [hik] using this
theorem i_faulty (N:Nat) (v:Value) (xss:List (List Int)) (idx kind m:Nat) (w:World) (h:Rd2 w v xss) (hk:netOk (N:Int) xss=true) (hm:m < 2 ^ N) (hkd:kind≤2) :
 Calls Tryz.prog 125 #[.agg #[.int .i64 N,v],.int .i64 idx,.int .i64 kind,.int .i64 m] w (RetB (.int .i64 (outF11 xss idx kind m:Nat)) w):=by
 obtain ⟨N',e,hN1,hN8,hL60⟩:=netOk_n hk
 obtain rfl:N=N':=by omega
 clear e
 have hp:=pow_le8 hN8
 obtain ⟨a,c,rfl,_,_⟩:=h.form
 obtain ⟨w0,hw0,hb0,hz0,c0,c1⟩:=net_box w (.int .i64 N) (.slice a xss.length c) 30
 have h':=h.below hb0
 have HL:=Lib.hid (fun k=>fltM_lt (idx:=idx) (kind:=kind) hk hm k)
 have HP:=Lib.hid (fun (W:World) (hW:Rd2 W (.slice a xss.length c) xss) (k:Nat) (hlt:k < xss.length)=>hW.pair hk hlt)
 clear hk
 go_enter Tryz.func125,Tryz.ntmps125
 go_wp2
 clear c0 c1 hw0
 go_loopg [3,14] xss.length (fun g mv iv wr=>∃ (k r:Nat),g=xss.length - k∧k≤xss.length∧iv=.int .i64 k∧mv=.int .i64 (r:Int)∧Dr w0 wr∧Hid (r=fltM xss idx kind m k))
 case atStart=>exact ⟨0,m,rfl,Nat.zero_le _,rfl,rfl,Dr.refl _,rfl⟩
 case round =>
  obtain ⟨k,r,hg,hkl,rfl,rfl,hdr,HR⟩:=hrel
  by_cases hlt:k < xss.length
  · obtain ⟨ad,z,d,x,y,rfl,hc,hcx,hcy,hxN,hyN,hxy,hx⟩:=HP.out _ (h'.dr hdr) k hlt
    have hr:r < 256:=by have:=HL.out k;rw [←HR.out] at this;omega
    by_cases hki:k=idx
    · have q0:((k:Int) != (idx:Int))=false:=by simp [hki]
      have HS:Hid (fltN r x y kind=fltM xss idx kind m (k+1)):=by rw [Hid,fltM_at hx.out hki,←HR.out]
      have HK:=Lib.hid (fun W=>i_step r y x hr (by omega) (by omega) W)
      have b1:=bit_of r hr x (by omega)
      have b2:=bit_of r hr y (by omega)
      have hx3:=xorr_of (m:=r) (i:=x) (k:=y) hr (by omega) (by omega) hxy
      clear hx hki
      rcases (show kind=0∨kind=1∨kind=2 by omega) with rfl | rfl | rfl
      · have HE:Hid (fltN r x y 0=r):=rfl
        clear b1 b2 hx3
        go_wp2
        go_quiet (fail)
        go_wp2
        go_roundg (xss.length - (k+1))
        case measure=>omega
        case rel=>exact ⟨k+1,r,rfl,by omega,by go_num,rfl,hdr.step _,by rw [Hid,←HS.out,HE.out]⟩
      · by_cases hq:r.testBit x=r.testBit y
        · have HE:Hid (fltN r x y 1=r):=by simp [Hid,fltN,swpBt,hq]
          have q1:(bits BinOp.and IntKind.i64 ((r:Int) / 2 ^ x) 1 != bits BinOp.and IntKind.i64 ((r:Int) / 2 ^ y) 1)=false:=by rw [b1,b2,hq];simp
          clear b1 b2 hx3 hq
          go_wp2
          go_quiet (fail)
          go_wp2
          go_roundg (xss.length - (k+1))
          case measure=>omega
          case rel=>exact ⟨k+1,r,rfl,by omega,by go_num,rfl,hdr.step _,by rw [Hid,←HS.out,HE.out]⟩
        · have HE:Hid (fltN r x y 1=(r ^^^ (1 <<< x)) ^^^ (1 <<< y)):=by simp [Hid,fltN,swpBt,hq]
          have q1:(bits BinOp.and IntKind.i64 ((r:Int) / 2 ^ x) 1 != bits BinOp.and IntKind.i64 ((r:Int) / 2 ^ y) 1)=true:=by
           rw [b1,b2]
           exact (by decide:∀ p q:Bool,p≠q→((if p=true then (1:Int) else 0) != (if q=true then 1 else 0))=true) _ _ hq
          clear b1 b2 hq
          go_wp2
          go_quiet (fail)
          go_wp2
          go_quiet (fail)
          go_wp2
          go_roundg (xss.length - (k+1))
          case measure=>omega
          case rel=>exact ⟨k+1,_,rfl,by omega,by go_num,rfl,hdr.step _,by rw [Hid,←HS.out,HE.out]⟩
      · have HE:Hid (fltN r x y 2=stepN r y x):=rfl
        clear b1 b2 hx3
        go_wp2
        go_quiet ((go_at_call 124;exact Calls.quiet_of ((HK.out _).mono fun _ _ hh=>⟨hh.1,hh.2.imp fun _ e=>e.symm⟩)))
        go_wp2
        go_roundg (xss.length - (k+1))
        case measure=>omega
        case rel=>exact ⟨k+1,_,rfl,by omega,by go_num,rfl,hdr.step _,by rw [Hid,←HS.out,HE.out]⟩
    · have q0:((k:Int) != (idx:Int))=true:=by rw [bne_iff_ne];omega
      have HS:Hid (stepN r x y=fltM xss idx kind m (k+1)):=by rw [Hid,fltM_off hx.out hki,←HR.out]
      have HK:=Lib.hid (fun W=>i_step r x y hr (by omega) (by omega) W)
      clear hx hki
      go_wp2
      go_quiet ((go_at_call 124;exact Calls.quiet_of ((HK.out _).mono fun _ _ hh=>⟨hh.1,hh.2.imp fun _ e=>e.symm⟩)))
      go_wp2
      go_roundg (xss.length - (k+1))
      case measure=>omega
      case rel=>exact ⟨k+1,_,rfl,by omega,by go_num,rfl,hdr.step _,HS⟩
  · obtain rfl:xss.length=k:=by omega
    go_wp2
    go_ret
    exact ⟨by rw [HR.out];rfl,hb0.trans (hdr.below _)⟩
theorem i_finds (N:Nat) (v:Value) (xss:List (List Int)) (idx kind m:Nat) (w:World) (h:Rd2 w v xss) (hk:netOk (N:Int) xss=true) (hm:m < 2 ^ N) (hkd:kind≤2) :
 Calls Tryz.prog 73 #[.agg #[.int .i64 N,v],.int .i64 idx,.int .i64 kind,.int .i64 m] w (RetB (.bool (findsB xss idx kind m)) w):=by
 obtain ⟨a,c,rfl,_,_⟩:=h.form
 obtain ⟨w0,hw0,hb0,hz0,c0,c1⟩:=net_box w (.int .i64 N) (.slice a xss.length c) 30
 have K0:Hid (∀ W:World,Below w0.heap.size w0 W→Calls Tryz.prog 125 #[.agg #[.int .i64 N,.slice a xss.length c],.int .i64 idx,.int .i64 kind,.int .i64 m] W fun e w'=>e=.returned (.int .i64 (outF11 xss idx kind m:Nat))∧Below w0.heap.size w0 w') :=
  fun W hW=>(i_faulty N _ xss idx kind m W (h.below (hb0.trans (hW.mono hb0.size))) hk hm hkd).mono fun e w' hh=>⟨hh.1,hW.trans (hh.2.mono hW.size)⟩
 have K1:Hid (∀ W:World,Below w0.heap.size w0 W→Calls Tryz.prog 123 #[.agg #[.int .i64 N,.slice a xss.length c],.int .i64 m] W fun e w'=>e=.returned (.int .i64 (outM xss m:Nat))∧Below w0.heap.size w0 w') :=
  fun W hW=>(i_bits N _ xss m W (h.below (hb0.trans (hW.mono hb0.size))) hk hm).mono fun e w' hh=>⟨hh.1,hW.trans (hh.2.mono hW.size)⟩
 have HR:Hid (findsB xss idx kind m=((outF11 xss idx kind m:Int) != (outM xss m:Int))):=by
  rw [Hid,findsB]
  by_cases e:outF11 xss idx kind m=outM xss m
  · simp [e]
  · have : ¬ (outF11 xss idx kind m:Int)=(outM xss m:Int):=by omega
    simp [e,this]
 have HT:=keep_box c0 c1
 clear hk hm hkd
 generalize outF11 xss idx kind m=r1 at *
 generalize outM xss m=r2 at *
 go_enter Tryz.func73,Tryz.ntmps73
 go_wp2
 go_region_held3 (fun wx=>Below w0.heap.size w0 wx∧wx.cell? ⟨w.heap.size,0,none⟩=some (.int .i64 N)∧wx.cell? ⟨w.heap.size,1,none⟩=some (.slice a xss.length c))
  (first | exact HT.out _ g3 | exact HT.out _ (by exact ⟨rfl,rfl,rfl,Nat.le_refl _,fun _ _=>rfl⟩) | go_keep)
  (first
   | (go_at_call 125;(with_reducible refine (K0.out _ (by exact (show _∧_∧_ from by assumption).1)).mono ?_);rintro e w3 ⟨rfl,g3⟩)
   | (go_at_call 123;(with_reducible refine (K1.out _ (by exact (show _∧_∧_ from by assumption).1)).mono ?_);rintro e w3 ⟨rfl,g3⟩))
 all_goals
  go_wp2
  go_ret
  exact ⟨ret_bool HR.out.symm,hb0.trans (g3.mono hb0.size)⟩
theorem i_tests (N:Nat) (v:Value) (xss:List (List Int)) (idx kind:Nat) (w:World) (h:Rd2 w v xss) (hk:netOk (N:Int) xss=true) (hkd:kind≤2) :
 Calls Tryz.prog 71 #[.agg #[.int .i64 N,v],.int .i64 idx,.int .i64 kind] w (RetOwn 3 (ints (testsL xss idx kind (2 ^ N))) w):=by
 obtain ⟨N',e,hN1,hN8,hL60⟩:=netOk_n hk
 obtain rfl:N=N':=by omega
 clear e
 have hp:=pow_le8 hN8
 have e2:=shl_of N (by omega)
 obtain ⟨M,hM⟩:∃ M,2 ^ N=M:=⟨_,rfl⟩
 rw [hM] at hp e2 ⊢
 obtain ⟨a,c,rfl,_,_⟩:=h.form
 have HB:=Lib.hid (fun (m:Nat) (hm:m < M) (W:World) (hW:Below w.heap.size w W)=>i_finds N _ xss idx kind m W (h.below hW) hk (by omega) hkd)
 have HLN:=Lib.hid (fun M=>testsL_len xss idx kind M)
 obtain ⟨w0,hw0,hb0,hz0,c0,c1⟩:=net_box w (.int .i64 N) (.slice a xss.length c) 30
 have C0:=Lib.hid c0
 have C1:=Lib.hid c1
 clear hk
 go_enter Tryz.func71,Tryz.ntmps71
 have hb1:Below (w.heap.size+1) w0 (w0.alloc (.cells #[] 3)):=(Below.refl _ _).alloc (by omega) _
 have e0:(w0.alloc (.cells #[] 3)).cell? ⟨w.heap.size,0,none⟩=some (.int .i64 N):=(World.cell?_alloc_lt _ _ _ (World.block_lt_of_cell? _ _ c0)).trans c0
 go_wp2
 clear c0 c1 hM hw0 e0
 try rw [e2]
 clear e2
 go_loopg [7,13] M (fun g vo iv wr=>∃ k:Nat,g=M - k∧k≤M∧iv=.int .i64 k∧Own wr 3 (w.heap.size+1) vo (ints (testsL xss idx kind k))∧Below (w.heap.size+1) w0 wr)
 case atStart=>exact ⟨0,rfl,Nat.zero_le _,rfl,by have:=Own.lit0 (B:=w.heap.size+1) w0 3 (by omega);rw [hz0] at this;exact this,hb1⟩
 case round =>
  obtain ⟨k,hg,hkl,rfl,ho,hb⟩:=hrel
  obtain ⟨ao,no,co,rfl,HN,_,_⟩:=ho.rd.formN
  by_cases hlt:k < M
  · have hbw:Below w.heap.size w wr:=hb0.trans (hb.mono (by omega))
    have HB1:=HB.out k hlt wr hbw
    have g0:wr.cell? ⟨w.heap.size,0,none⟩=some (.int .i64 N):=(hb.cell (Nat.lt_succ_self _)).trans C0.out
    have g1:wr.cell? ⟨w.heap.size,1,none⟩=some (.slice a xss.length c):=(hb.cell (Nat.lt_succ_self _)).trans C1.out
    have hsz:=hb.size
    cases hq:findsB xss idx kind k
    · have HU:=Lib.hid (testsL_no hq)
      rw [hq] at HB1
      clear hq
      go_wp2_with (go_at_call 73;refine HB1.mono ?_;rintro e w4 ⟨rfl,g4⟩)
      go_roundg (M - (k+1))
      case measure=>omega
      case rel=>exact ⟨k+1,rfl,by omega,by go_num,by rw [HU.out];exact ho.below g4,hb.trans (g4.mono (by omega))⟩
    · have HU:=Lib.hid (testsL_yes hq)
      rw [hq] at HB1
      clear hq
      have hln:=HLN.out k
      have HLo:Hid ((ints (testsL xss idx kind k)).length=no):=by rw [Hid,ints_length,HN.out]
      have hno:no≤256:=by have:=HN.out;omega
      go_wp2_with (first
       | (go_at_call 73;refine HB1.mono ?_;rintro e w4 ⟨rfl,g4⟩;have ho4:=ho.below g4;have hz4:=g4.size;have hs4:w.heap.size+1≤w4.heap.size:=by omega)
       | (at_builtin;refine wpList_app1m rfl _ _ 23 rfl elI rfl ho4 (by show Value.slice (some ⟨w4.heap.size,0,none⟩) 1 1=_;simp) rfl hs4 no HLo.out (by omega) (by omega) ?_;intro bn cn' w6 ho6 hg6 hat6))
      have hb6:Below (w.heap.size+1) w0 w6:=(hb.trans (g4.mono (by omega))).grown hg6 hs4 fun r hr=>(ho4.lt r hr).1
      go_roundg (M - (k+1))
      case measure=>omega
      case rel=>exact ⟨k+1,rfl,by omega,by go_num,by rw [HU.out,ints_append];exact ho6,hb6⟩
  · obtain rfl:M=k:=by omega
    go_wp2
    go_ret
    exact ⟨_,rfl,ho.mono (by omega),hb0.trans (hb.mono (by omega))⟩
def fltAt (p:Nat→Nat→Bool) (i k:Nat):List (List Int):=((List.range k).filter (p i)).map fun (kd:Nat)=>[(i:Int),(kd:Int)]
def faultsL (p:Nat→Nat→Bool):Nat→List (List Int)
 | 0=>[]
 | i+1=>faultsL p i++fltAt p i 3
theorem fltAt_yes {p:Nat→Nat→Bool} {i k:Nat} (h:p i k=true):fltAt p i (k+1)=fltAt p i k++[[(i:Int),(k:Int)]]:=by simp [fltAt,List.range_succ,h]
theorem fltAt_no {p:Nat→Nat→Bool} {i k:Nat} (h:p i k=false):fltAt p i (k+1)=fltAt p i k:=by simp [fltAt,List.range_succ,h]
theorem fltAt_len (p:Nat→Nat→Bool) (i k:Nat):(fltAt p i k).length≤k:=by
 rw [fltAt,List.length_map]
 exact Nat.le_trans (List.length_filter_le _ _) (by simp)
theorem faultsL_len (p:Nat→Nat→Bool):∀ i,(faultsL p i).length≤3 * i
 | 0=>Nat.le_refl _
 | i+1=>by
   have:=faultsL_len p i
   have:=fltAt_len p i 3
   simp only [faultsL,List.length_append]
   omega
def hidB (N:Nat) (xss:List (List Int)) (i kd:Nat):Bool:=decide ((testsL xss i kd (2 ^ N)).length=0)
def hiddenL (n:Int) (xss:List (List Int)):List (List Int):=if netOk n xss then faultsL (hidB n.toNat xss) xss.length else []
theorem row2_own (w:World) (x y:Int) (B:Nat) (hB:B≤w.heap.size) (E:Nat):Own (w.alloc (.cells #[.int .i64 x,.int .i64 y] E)) E B (.slice (some ⟨w.heap.size,0,none⟩) 2 2) (ints [x,y]):=Own.lit w E B #[.int .i64 x,.int .i64 y] hB (by simp)
theorem i_faults (p:Nat→Nat→Bool) (fn:Nat) (cap:Array Value) (hkn:Known fn) (n:Int) (v:Value) (xss:List (List Int)) (w:World) (h:Rd2 w v xss) (hl:xss.length≤60)
 (hf:∀ (i kd:Nat) (W:World),i < xss.length→kd < 3→Below w.heap.size w W→Calls Tryz.prog fn (#[.int .i64 i,.int .i64 kd]++cap) W (RetB (.bool (p i kd)) W)) :
 Calls Tryz.prog 69 #[.agg #[.int .i64 n,v],.func (.func fn) #[] cap] w (RetOwn2 (faultsL p xss.length) w):=by
 obtain ⟨a,c,rfl,_,_⟩:=h.form
 obtain ⟨w0,hw0,hb0,hz0,c0,c1⟩:=net_box w (.int .i64 n) (.slice a xss.length c) 30
 have HF0:=Lib.hid hf
 have C1:=Lib.hid c1
 obtain ⟨L,hL⟩:∃ L,xss.length=L:=⟨_,rfl⟩
 rw [hL] at hl HF0 c1 C1 hw0 h ⊢
 clear hf hL
 go_enter Tryz.func69,Tryz.ntmps69
 have e1:(w0.alloc (.cells #[] 23)).cell? ⟨w.heap.size,1,none⟩=some (.slice a L c):=(World.cell?_alloc_lt _ _ _ (World.block_lt_of_cell? _ _ c1)).trans c1
 have hb1:Below (w.heap.size+1) w0 (w0.alloc (.cells #[] 23)):=(Below.refl _ _).alloc (by omega) _
 go_wp2
 clear c0 c1 hw0 e1
 go_loopg [5,12] L (fun g vo iv wr=>∃ i:Nat,g=L - i∧i≤L∧iv=.int .i64 i∧Own2 wr 23 3 (w.heap.size+1) wr.heap.size vo (faultsL p i)∧Below (w.heap.size+1) w0 wr)
 case atStart=>exact ⟨0,rfl,Nat.zero_le _,rfl,by
  refine ⟨[],?_,fun k hk=>?_,RowsOwn.nil _ _ _ _⟩
  · have:=Own.lit0 (B:=w.heap.size+1) w0 23 (by omega)
    rw [hz0] at this
    exact this
  · simp [Value.ownBlock] at hk
    simp
    omega,hb1⟩
 case round =>
  clear hb1
  obtain ⟨i,hg,hil,rfl,ho,hb⟩:=hrel
  obtain ⟨ao,co,rfl,_,_⟩:=ho.form
  by_cases hlt:i < L
  · go_wp2
    rename_i wo
    obtain ⟨no,hno⟩:∃ no,(faultsL p i).length=no:=⟨_,rfl⟩
    rw [hno] at ho ⊢
    clear hno
    go_loopg [5,7] 3 (fun g vo kv wr=>∃ kd:Nat,g=3 - kd∧kd≤3∧kv=.int .i64 kd∧Own2 wr 23 3 (w.heap.size+1) wr.heap.size vo (faultsL p i++fltAt p i kd)∧Below (w.heap.size+1) w0 wr)
    case atStart=>exact ⟨0,rfl,Nat.zero_le _,rfl,by simpa [fltAt] using ho,hb⟩
    case round =>
     clear ho hb
     obtain ⟨kd,hgk,hkl,rfl,ho,hb⟩:=hrel
     by_cases hltk:kd < 3
     · have d0:decide ((kd:Int)≤2)=true:=by simp;omega
       have hbw:Below w.heap.size w wr:=hb0.trans (hb.mono (by omega))
       have HF:=Lib.hid (HF0.out i kd wr hlt hltk hbw)
       have hcall:=hkn (#[.int .i64 i,.int .i64 kd]++cap) wr
       cases hp:p i kd
       · rw [hp] at HF
         have HA:=Lib.hid (fltAt_no hp)
         clear hp
         go_wp2_with ((with_reducible refine (HF.out).mono ?_);rintro e w2 ⟨rfl,hb2⟩)
         go_roundg (3 - (kd+1))
         case measure=>omega
         case rel=>exact ⟨kd+1,rfl,by omega,by go_num,by rw [HA.out];exact (ho.below hb2).mono (Nat.le_refl _) hb2.size,hb.trans (hb2.mono hb.size |>.mono (by have:=hb.size;omega))⟩
       · rw [hp] at HF
         have HA:=Lib.hid (fltAt_yes hp)
         clear hp
         obtain ⟨rows,hov,hT,hrows⟩:=ho
         have hrl:rows.length≤200:=by
          have e1:=hrows.1
          have e2:=faultsL_len p i
          have e3:=fltAt_len p i kd
          rw [List.length_append] at e1
          omega
         obtain ⟨aq,cq,rfl,_,_⟩:=hov.rd.form
         obtain ⟨nr,hnr⟩:∃ nr,rows.length=nr:=⟨_,rfl⟩
         have HNR:=Lib.hid hnr
         rw [hnr] at hov hrl ⊢
         clear hnr
         have hsb:=hb.size
         go_upto_region 9 with ((with_reducible refine (HF.out).mono ?_);rintro e w2 ⟨rfl,hb2⟩)
         obtain ⟨w3,hw3⟩:∃ w3,w2.alloc (.cells #[.int .i64 i,.int .i64 kd] 3)=w3:=⟨_,rfl⟩
         have hs2:=hb2.size
         have hs3:w3.heap.size=w2.heap.size+1:=by rw [←hw3];simp
         have hb3:Below wr.heap.size wr w3:=by rw [←hw3];exact hb2.alloc hb2.size _
         have hrow:Own w3 3 w2.heap.size (.slice (some ⟨w2.heap.size,0,none⟩) 2 2) (ints [(i:Int),(kd:Int)]):=by rw [←hw3];exact row2_own w2 _ _ _ (Nat.le_refl _) _
         have hov3:=hov.below hb3
         have hB3:w.heap.size+1≤w3.heap.size:=by omega
         have hn1:(nr+1) * 24≤140737488355328:=by omega
         have hn2:nr+1≤9223372036854775807:=by omega
         go_wp2_with (at_builtin;(refine wpList_app1m rfl _ _ 28 rfl elII ?_ hov3 ?_ ?_ hB3 nr HNR.out hn1 hn2 ?_);(focus exact rfl);(focus (simp [Act.eval]));(focus exact rfl);intro bn cn' w6 ho6 hg6 hat6)
         have ho7:=Own2.app ((hrows.below hb3).snoc (hrow.mono (show w.heap.size+1≤w2.heap.size by omega)) (fun k hk=>by simp [Value.ownBlock] at hk;omega) (show wr.heap.size≤w3.heap.size by omega)) hov3 (by decide) hg6 ho6 hg6.size
         have hb7:=(hb.trans (hb3.mono (by omega))).grown hg6 hB3 fun r hr=>(hov3.lt r hr).1
         go_roundg (3 - (kd+1))
         case measure=>omega
         case rel=>exact ⟨kd+1,rfl,by omega,by go_num,by rw [HA.out,←List.append_assoc];exact ho7,hb7⟩
     · obtain rfl:kd=3:=by omega
       go_wp2
       go_roundg (L - (i+1))
       case measure=>omega
       case rel=>exact ⟨i+1,rfl,by omega,by go_num,ho,hb⟩
  · obtain rfl:L=i:=by omega
    go_wp2
    go_ret
    exact ⟨_,rfl,ho.mono (by omega) (Nat.le_refl _),hb0.trans (hb.mono (by omega))⟩
theorem k_Hid1:Known 70:=known Tryz.func70 (by kernel_rfl) (by kernel_rfl)
theorem i_Hid1 (N:Nat) (a:Option Addr) (c b:Nat) (xss:List (List Int)) (idx kind:Nat) (w:World) (h:Rd2 w (.slice a xss.length c) xss) (hk:netOk (N:Int) xss=true) (hkd:kind≤2)
 (c0:w.cell? ⟨b,0,none⟩=some (.int .i64 N)) (c1:w.cell? ⟨b,1,none⟩=some (.slice a xss.length c)) :
 Calls Tryz.prog 70 #[.int .i64 idx,.int .i64 kind,.pointer (some ⟨b,0,none⟩)] w (RetB (.bool (hidB N xss idx kind)) w):=by
 have HT:=i_tests N _ xss idx kind w h hk hkd
 have HR:Hid (hidB N xss idx kind=decide ((testsL xss idx kind (2 ^ N)).length=0)):=rfl
 obtain ⟨ts,hts⟩:∃ ts,testsL xss idx kind (2 ^ N)=ts:=⟨_,rfl⟩
 rw [hts] at HT HR
 clear hts hk
 go_enter Tryz.func70,Tryz.ntmps70
 go_wp2_with (go_at_call 71;refine HT.mono ?_;rintro e w2 ⟨vo,rfl,ho,hb⟩;obtain ⟨ao,no,co,rfl,HN,_,_⟩:=ho.rd.formN)
 go_ret
 exact ⟨ret_bool (by
  rw [HR.out,←HN.out]
  by_cases e:no=0
  · simp [e]
  · have : ¬ (no:Int)=0:=by omega
    simp [e,this]),hb⟩
theorem hiddenL_ok {n:Int} {xss:List (List Int)} (h:netOk n xss=true):hiddenL n xss=faultsL (hidB n.toNat xss) xss.length:=by rw [hiddenL,if_pos h]
theorem hiddenL_no {n:Int} {xss:List (List Int)} (h:netOk n xss=false):hiddenL n xss=[]:=by rw [hiddenL,if_neg (by simp [h])]
theorem hiddenL_len (n:Int) (xss:List (List Int)):(hiddenL n xss).length≤180:=by
 cases hk:netOk n xss
 · rw [hiddenL_no hk];simp
 · rw [hiddenL_ok hk]
   obtain ⟨N,rfl,_,_,h60⟩:=netOk_n hk
   have:=faultsL_len (hidB (N:Int).toNat xss) xss.length
   omega
theorem i_HiddenFaults (n:Int) (v:Value) (xss:List (List Int)) (w:World) (h:Rd2 w v xss) (hn:I64 n):Calls Tryz.prog 20 #[.agg #[.int .i64 n,v]] w (RetOwn2 (hiddenL n xss) w):=by
 obtain ⟨a,c,rfl,h2,h3⟩:=h.form
 obtain ⟨w0,hw0,hb0,hz0,c0,c1⟩:=net_box w (.int .i64 n) (.slice a xss.length c) 30
 have h':=h.below hb0
 have HN:=i_NetworkOk n _ xss _ h' hn
 cases hk:netOk n xss
 · rw [hk] at HN
   have HR:=Lib.hid (hiddenL_no hk)
   go_enter Tryz.func20,Tryz.ntmps20
   go_wp2_with (go_at_call 40;refine HN.mono ?_;rintro e w2 ⟨rfl,hb2⟩)
   go_ret
   rw [HR.out]
   exact ⟨_,rfl,Own2.nil _ _ _ _ _,hb0.trans (hb2.mono (by omega))⟩
 rw [hk] at HN
 have HR:=Lib.hid (hiddenL_ok hk)
 obtain ⟨N,rfl,hN1,hN8,hL60⟩:=netOk_n hk
 have C0:=Lib.hid c0
 have C1:=Lib.hid c1
 have HF:Hid (∀ w2:World,Below w.heap.size w w2→w2.cell? ⟨w.heap.size,0,none⟩=some (.int .i64 N)→w2.cell? ⟨w.heap.size,1,none⟩=some (.slice a xss.length c)→Calls Tryz.prog 69 #[.agg #[.int .i64 N,.slice a xss.length c],.func (.func 70) #[] #[.pointer (some ⟨w.heap.size,0,none⟩)]] w2 (RetOwn2 (faultsL (hidB N xss) xss.length) w2)):=fun w2 hb d0 d1 =>
  i_faults (hidB N xss) 70 #[.pointer (some ⟨w.heap.size,0,none⟩)] k_Hid1 N _ xss w2 (h.below hb) hL60 fun i kd W hi hkd hW =>
   i_Hid1 N a c w.heap.size xss i kd W (h.below (hb.trans (hW.mono hb.size))) hk (by omega) ((hW.cell (World.block_lt_of_cell? _ _ d0)).trans d0) ((hW.cell (World.block_lt_of_cell? _ _ d1)).trans d1)
 clear hk
 go_enter Tryz.func20,Tryz.ntmps20
 go_wp2_with (first
  | (go_at_call 40;refine HN.mono ?_;rintro e w2 ⟨rfl,hb2⟩;have hbw2:Below w.heap.size w w2:=hb0.trans (hb2.mono (by omega));obtain ⟨c0,c1⟩:=Below.cells2 hb2 (show w.heap.size < w0.heap.size by omega) C0.out C1.out)
  | (go_at_call 69;refine (HF.out _ hbw2 c0 c1).mono ?_;rintro e w3 ⟨vo,rfl,ho,hb3⟩;obtain ⟨ao,co,rfl,_,_⟩:=ho.form))
 go_ret
 rw [HR.out]
 exact ⟨_,rfl,ho.mono hbw2.size (Nat.le_refl _),hbw2.trans (hb3.mono hbw2.size)⟩
theorem s_l15Stages (n k:Nat) (w:World) (hs:Stg n k):Calls Tryz.prog 226 #[.int .i64 (n:Int)] w fun e w'=>e=.returned (.int .i64 (k:Int))∧w=w':=by
 have hk:1≤k∧k≤3:=by rcases hs with ⟨_,rfl⟩ | ⟨_,rfl⟩ | ⟨_,rfl⟩ <;> omega
 have hnk:n=2 ^ k:=by rcases hs with ⟨rfl,rfl⟩ | ⟨rfl,rfl⟩ | ⟨rfl,rfl⟩ <;> rfl
 have HW:=Lib.hid (fun (j:Nat) (hj:j≤k)=>shl_of j (by omega))
 have HLT:Hid (∀ j,j < k→2 ^ j < n):=fun j hj=>by rw [hnk];exact Nat.pow_lt_pow_right (by omega) hj
 have HEQ:=Lib.hid hnk
 clear hs hnk
 go_enter Tryz.func226,Tryz.ntmps226
 go_wp2
 go_loopg [3] k (fun g jv wr=>∃ j:Nat,g=k - j∧j≤k∧jv=.int .i64 j∧w=wr)
 case atStart=>exact ⟨0,rfl,Nat.zero_le _,rfl,rfl⟩
 case round =>
  obtain ⟨j,hg,hj,rfl,rfl⟩:=hrel
  have e1:=HW.out j hj
  by_cases hlt:j < k
  · have e2:=HLT.out j hlt
    generalize 2 ^ j=M at e1 e2
    have i1:(M:Int) < (n:Int):=by omega
    go_wp2
    try rw [e1]
    go_roundg (k - (j+1))
    case measure=>omega
    case rel=>exact ⟨j+1,rfl,by omega,by go_num,rfl⟩
  · obtain rfl:j=k:=Nat.le_antisymm hj (Nat.le_of_not_lt hlt)
    have e2:=HEQ.out
    rw [←e2] at e1
    have i1:¬ (n:Int) < (n:Int):=by omega
    go_wp2
    go_ret
    exact ⟨rfl,rfl⟩
theorem s_l15Shuffle (n k p:Nat) (w:World) (hs:Stg n k) (hp:p < n):Calls Tryz.prog 276 #[.int .i64 (n:Int),.int .i64 (p:Int)] w fun e w'=>e=.returned (.int .i64 ((shf n p:Nat):Int))∧w=w':=by
 have hn8:2≤n∧n≤8:=by rcases hs with ⟨rfl,_⟩ | ⟨rfl,_⟩ | ⟨rfl,_⟩ <;> omega
 have hev:n % 2=0:=by rcases hs with ⟨rfl,_⟩ | ⟨rfl,_⟩ | ⟨rfl,_⟩ <;> rfl
 by_cases h:p < n / 2
 · have HR:Hid (((shf n p:Nat):Int)=2 * (p:Int)):=by rw [Hid,shf,if_pos h];omega
   have i1:(p:Int) < (n:Int) / 2:=by omega
   go_enter Tryz.func276,Tryz.ntmps276
   go_wp2
   go_ret
   exact ⟨ret_int HR.out.symm,rfl⟩
 · have HR:Hid (((shf n p:Nat):Int)=2 * (p:Int)+1 - (n:Int)):=by rw [Hid,shf,if_neg h];omega
   have i1:¬ (p:Int) < (n:Int) / 2:=by omega
   go_enter Tryz.func276,Tryz.ntmps276
   go_wp2
   go_ret
   exact ⟨ret_int HR.out.symm,rfl⟩
def flipL (xs:List Int) (k:Nat):List Int:=(xs.take k).reverse++xs.drop k
theorem flipL_len (xs:List Int) (k:Nat):(flipL xs k).length=xs.length:=by simp [flipL];omega
theorem flipL_flipL {xs:List Int} {k:Nat} (hk:k≤xs.length):flipL (flipL xs k) k=xs:=by
 have hl:(xs.take k).reverse.length=k:=by simp;omega
 unfold flipL
 rw [List.take_left' hl,List.drop_left' hl,List.reverse_reverse,List.take_append_drop]
theorem flipL_perm (xs:List Int) (k:Nat):(flipL xs k).Perm xs:=by
 have h:=(List.reverse_perm (xs.take k)).append_right (xs.drop k)
 rwa [List.take_append_drop] at h
theorem flipL_one {xs:List Int} {k:Nat} (hk:k≤1):flipL xs k=xs:=by
 unfold flipL
 match k,hk with
 | 0,_=>simp
 | 1,_ =>
   cases xs with
   | nil=>rfl
   | cons a t=>simp
theorem flipL_lo {xs:List Int} {k i:Nat} (hk:k≤xs.length) (hi:i < k):(flipL xs k)[i]?=xs[k - 1 - i]?:=by
 have hl:(xs.take k).reverse.length=k:=by simp;omega
 rw [flipL,List.getElem?_append_left (by omega),List.getElem?_reverse (by simp;omega),List.length_take,Nat.min_eq_left hk,List.getElem?_take,if_pos (by omega)]
theorem flipL_hi {xs:List Int} {k i:Nat} (hk:k≤xs.length) (hi:k≤i):(flipL xs k)[i]?=xs[i]?:=by
 have hl:(xs.take k).reverse.length=k:=by simp;omega
 rw [flipL,List.getElem?_append_right (by omega),hl,List.getElem?_drop]
 congr 1
 omega
def PermN (n:Nat) (xs:List Int):Prop:=xs.length=n∧OrdP n xs
def idL (n:Nat):List Int:=(List.range n).map fun (i:Nat)=>(i:Int)
theorem PermN.flip {n k:Nat} {xs:List Int} (h:PermN n xs):PermN n (flipL xs k):=by
 obtain ⟨h1,h2,h3⟩:=h
 have hp:=flipL_perm xs k
 exact ⟨by rw [flipL_len,h1],fun x hx=>h2 x (hp.mem_iff.1 hx),hp.nodup_iff.2 h3⟩
theorem idL_get {n i:Nat} (h:i < n):(idL n)[i]?=some (i:Int):=by simp [idL,h]
theorem PermN.idL (n:Nat):PermN n (idL n):=by
 refine ⟨by simp [Go.Proofs.YtggblfnajeikjaaGreatDoor.idL],fun x hx=>?_,?_⟩
 · simp only [Go.Proofs.YtggblfnajeikjaaGreatDoor.idL,List.mem_map,List.mem_range] at hx
   obtain ⟨i,hi,rfl⟩:=hx
   omega
 · rw [List.Nodup,Go.Proofs.YtggblfnajeikjaaGreatDoor.idL,List.pairwise_map]
   refine List.Pairwise.imp (fun {a b} hne e=>?_) (List.nodup_range (n:=n))
   exact hne (by omega)
theorem PermN.eq_of_get {n:Nat} {xs ys:List Int} (h:xs.length=n) (h2:ys.length=n) (he:∀ i,i < n→xs[i]?=ys[i]?):xs=ys:=by
 apply List.ext_getElem?
 intro i
 by_cases hi:i < n
 · exact he i hi
 · rw [List.getElem?_eq_none (by omega),List.getElem?_eq_none (by omega)]
theorem PermN.at {n v:Nat} {xs:List Int} (h:PermN n xs) (hv:v < n):∃ p,p < n∧xs[p]?=some (v:Int):=by
 obtain ⟨x,hx,H⟩:=ord_of h.1 h.2
 obtain ⟨o,ho,e⟩:=H.sur v hv
 exact ⟨o,ho,by rw [hx,natA_get x ho,e]⟩
theorem PermN.inj {n p q:Nat} {v:Int} {xs:List Int} (h:PermN n xs) (h1:xs[p]?=some v) (h2:xs[q]?=some v):p=q:=by
 obtain ⟨hp,e1⟩:=List.getElem?_eq_some_iff.1 h1
 obtain ⟨hq,e2⟩:=List.getElem?_eq_some_iff.1 h2
 have h6:=List.pairwise_iff_getElem.1 h.2.2
 rcases Nat.lt_trichotomy p q with l | l | l
 · exact absurd (e1.trans e2.symm) (h6 p q hp hq l)
 · exact l
 · exact absurd (e2.trans e1.symm) (h6 q p hq hp l)
theorem PermN.reach {n:Nat} (T:List Int→Prop) (h0:T (Go.Proofs.YtggblfnajeikjaaGreatDoor.idL n)) (hf:∀ xs k,PermN n xs→T xs→2≤k→k≤n→T (flipL xs k)):∀ m,m≤n→∀ xs,PermN n xs→(∀ i,m≤i→i < n→xs[i]?=some (i:Int))→T xs
 | 0,_,xs,h,hi=>by
   have : xs=Go.Proofs.YtggblfnajeikjaaGreatDoor.idL n:=PermN.eq_of_get h.1 (by simp [Go.Proofs.YtggblfnajeikjaaGreatDoor.idL]) fun i h2=>by rw [hi i (Nat.zero_le _) h2,idL_get h2]
   rw [this]
   exact h0
 | m+1,hm,xs,h,hi=>by
   have hf':∀ xs k,PermN n xs→T xs→k≤n→T (flipL xs k):=fun xs k h hT hk=>by
    by_cases e:2≤k
    · exact hf xs k h hT e hk
    · rw [flipL_one (by omega)];exact hT
   obtain ⟨p,hp,hpx⟩:=h.at (v:=m) (by omega)
   have hpm:p≤m:=by
    by_cases e:p≤m
    · exact e
    · have:=hi p (by omega) hp
      rw [hpx] at this
      injection this with this
      omega
   have h1:PermN n (flipL xs (p+1)):=h.flip
   have h2:PermN n (flipL (flipL xs (p+1)) (m+1)):=h1.flip
   have hT2:T (flipL (flipL xs (p+1)) (m+1)):=by
    refine PermN.reach T h0 hf m (by omega) _ h2 fun i hmi hin=>?_
    by_cases e:i=m
    · subst e
      rw [flipL_lo (by rw [h1.1];omega) (by omega),flipL_lo (by rw [h.1];omega) (by omega)]
      have : p+1 - 1 - (i+1 - 1 - i)=p:=by omega
      rw [this]
      exact hpx
    · rw [flipL_hi (by rw [h1.1];omega) (by omega),flipL_hi (by rw [h.1];omega) (by omega)]
      exact hi i (by omega) hin
   have h3:=hf' _ (m+1) h2 hT2 (by omega)
   rw [flipL_flipL (by rw [h1.1];omega)] at h3
   have h4:=hf' _ (p+1) h1 h3 (by omega)
   rwa [flipL_flipL (by rw [h.1];omega)] at h4
theorem PermN.all {n:Nat} (T:List Int→Prop) (h0:T (Go.Proofs.YtggblfnajeikjaaGreatDoor.idL n)) (hf:∀ xs k,PermN n xs→T xs→2≤k→k≤n→T (flipL xs k)) (xs:List Int) (h:PermN n xs):T xs :=
 PermN.reach T h0 hf n (Nat.le_refl _) xs h fun i h1 h2=>by omega
theorem adjB_id (n:Nat):adjB (idL n)=true:=adjB_iff.2 fun i a b ha hb=>by
 have hl:=(List.getElem?_eq_some_iff.1 hb).1
 have hl2:i+1 < n:=by simpa [idL] using hl
 rw [idL_get (by omega)] at ha hb
 cases ha
 cases hb
 omega
theorem adjB_perm {n:Nat} {xs:List Int} (h:PermN n xs) (ha:adjB xs=true):xs=idL n:=by
 have hA:=adjB_iff.1 ha
 obtain ⟨x,hx,H⟩:=ord_of h.1 h.2
 have hst:∀ i,i+1 < n→x i < x (i+1):=fun i hi=>by
  have:=hA i _ _ (by rw [hx];exact natA_get x (by omega)) (by rw [hx];exact natA_get x hi)
  have : x i≠x (i+1):=fun e=>by have:=H.inj i (i+1) (by omega) hi e;omega
  omega
 have hge:∀ i,i < n→i≤x i:=fun i=>by
  induction i with
  | zero=>intro _;exact Nat.zero_le _
  | succ i ih=>intro hi;have:=hst i hi;have:=ih (by omega);omega
 have hle:∀ j,j < n→x (n - 1 - j)≤n - 1 - j:=fun j=>by
  induction j with
  | zero=>intro hj;have:=H.lx (n - 1) (by omega);simp;omega
  | succ j ih =>
    intro hj
    have h1:=ih (by omega)
    have h2:=hst (n - 1 - (j+1)) (by omega)
    have e:n - 1 - (j+1)+1=n - 1 - j:=by omega
    rw [e] at h2
    omega
 refine PermN.eq_of_get h.1 (by simp [idL]) fun i hi=>?_
 rw [idL_get hi,hx,natA_get x hi]
 have h1:=hge i hi
 have h2:=hle (n - 1 - i) (by omega)
 have e:n - 1 - (n - 1 - i)=i:=by omega
 rw [e] at h2
 have : x i=i:=by omega
 rw [this]
def gp (a b:Int):Nat:=if b - a≠1∧a - b≠1 then 1 else 0
theorem gp_comm (a b:Int):gp a b=gp b a:=by unfold gp;congr 1;simp only [eq_iff_iff];constructor <;> rintro ⟨h1,h2⟩ <;> exact ⟨h2,h1⟩
theorem gp_le (a b:Int):gp a b≤1:=by unfold gp;split <;> omega
def adjG:List Int→Nat
 | a :: b :: t=>gp a b+adjG (b :: t)
 | _=>0
theorem adjG_snoc (l:List Int) (b a:Int):adjG (l++[b,a])=adjG (l++[b])+gp b a:=by
 induction l with
 | nil=>simp [adjG]
 | cons c t ih =>
   cases t with
   | nil=>simp [adjG]
   | cons d t=>simp only [List.cons_append,adjG] at ih ⊢;omega
theorem adjG_reverse:∀ l:List Int,adjG l.reverse=adjG l
 | []=>rfl
 | [a]=>rfl
 | a :: b :: t=>by
   have e:(a :: b :: t).reverse=t.reverse++[b,a]:=by simp
   have e2:(b :: t).reverse=t.reverse++[b]:=by simp
   rw [e,adjG_snoc,←e2,adjG_reverse (b :: t),adjG,gp_comm b a]
   omega
theorem adjG_append:∀ (l r:List Int),adjG l+adjG r≤adjG (l++r)∧adjG (l++r)≤adjG l+adjG r+1
 | [],r=>by simp [adjG]
 | [a],r=>by
   cases r with
   | nil=>simp [adjG]
   | cons b t=>have:=gp_le a b;simp only [List.cons_append,List.nil_append,adjG];omega
 | a :: b :: t,r=>by
   have:=adjG_append (b :: t) r
   simp only [List.cons_append,adjG] at this ⊢
   omega
def gapsN (xs:List Int):Nat:=adjG (xs++[(xs.length:Int)])
theorem gaps_flip (xs:List Int) (k:Nat):gapsN (flipL xs k)≤gapsN xs+1:=by
 unfold gapsN
 rw [flipL_len,flipL,List.append_assoc]
 have h1:=adjG_append (xs.take k).reverse (xs.drop k++[(xs.length:Int)])
 have h2:=adjG_append (xs.take k) (xs.drop k++[(xs.length:Int)])
 rw [←List.append_assoc,List.take_append_drop] at h2
 rw [adjG_reverse] at h1
 omega
theorem gaps_id (n:Nat):gapsN (idL n)=0:=by
 have e:idL n++[((idL n).length:Int)]=idL (n+1):=by simp [idL,List.range_succ]
 rw [gapsN,e]
 have : ∀ m,adjG (idL m)=0:=fun m=>by
  induction m with
  | zero=>rfl
  | succ m ih =>
    cases m with
    | zero=>rfl
    | succ m =>
      have e:idL (m+1+1)=(List.range m).map (fun (i:Nat)=>(i:Int))++[(m:Int),((m+1:Nat):Int)]:=by simp [idL,List.range_succ]
      have e2:idL (m+1)=(List.range m).map (fun (i:Nat)=>(i:Int))++[(m:Int)]:=by simp [idL,List.range_succ]
      rw [e,adjG_snoc,←e2,ih]
      unfold gp
      rw [if_neg (by omega)]
 exact this _
structure Dist (n:Nat) (D:List Int→Nat):Prop where
 zero:D (idL n)=0
 pos:∀ xs,PermN n xs→xs≠idL n→0 < D xs
 flip:∀ xs k,PermN n xs→2≤k→k≤n→D (flipL xs k)≤D xs+1
 down:∀ xs,PermN n xs→xs≠idL n→∃ k,2≤k∧k≤n∧D (flipL xs k)+1=D xs
 bd:∀ xs,PermN n xs→D xs < 1000000
def fstSome {α:Type} (p:Nat→Option α):Nat→Option α
 | 0=>none
 | m+1=>(fstSome p m).or (p m)
theorem fstSome_none {α:Type} {p:Nat→Option α} : ∀ {m:Nat},(∀ j,j < m→p j=none)→fstSome p m=none
 | 0,_=>rfl
 | m+1,h=>by rw [fstSome,fstSome_none fun j hj=>h j (by omega),h m (by omega)];rfl
theorem fstSome_some {α:Type} {p:Nat→Option α} {k:Nat} {y:α} (h:∀ j,j < k→p j=none) (hk:p k=some y):∀ {m:Nat},k < m→fstSome p m=some y
 | m+1,hm=>by
   by_cases e:k=m
   · subst e
     rw [fstSome,fstSome_none h,hk];rfl
   · rw [fstSome,fstSome_some h hk (show k < m by omega)];rfl
def findE:Nat→List Int→Option (List Int)
 | 0,_=>none
 | e+1,xs=>if adjB xs then (if e=0 then some [] else none) else if e < gapsN xs then none else
   fstSome (fun k=>if k < 2 then none else (findE e (flipL xs k)).map fun r=>(k:Int) :: r) (xs.length+1)
def bestL (xs:List Int):List Int:=(fstSome (fun e=>findE e xs) 1000002).getD []
section
variable {n:Nat} {D:List Int→Nat}
theorem Dist.back (H:Dist n D) {xs:List Int} {k:Nat} (h:PermN n xs) (h2:2≤k) (hk:k≤n):D xs≤D (flipL xs k)+1:=by
 have:=H.flip (flipL xs k) k h.flip h2 hk
 rwa [flipL_flipL (by rw [h.1];exact hk)] at this
theorem Dist.gaps (H:Dist n D):∀ (d:Nat) (xs:List Int),PermN n xs→D xs≤d→gapsN xs≤D xs
 | 0,xs,h,hd=>by
   by_cases e:xs=idL n
   · subst e;rw [gaps_id];exact Nat.zero_le _
   · have:=H.pos xs h e;omega
 | d+1,xs,h,hd=>by
   by_cases e:xs=idL n
   · subst e;rw [gaps_id];exact Nat.zero_le _
   · obtain ⟨k,h2,hk,he⟩:=H.down xs h e
     have h3:=H.gaps d (flipL xs k) h.flip (by omega)
     have h4:=gaps_flip (flipL xs k) k
     rw [flipL_flipL (by rw [h.1];exact hk)] at h4
     omega
theorem Dist.none (H:Dist n D):∀ (e:Nat) (xs:List Int),PermN n xs→e≤D xs→findE e xs=.none
 | 0,_,_,_=>rfl
 | e+1,xs,h,he=>by
   have hne:adjB xs=false:=by
    cases ha:adjB xs
    · rfl
    · have:=adjB_perm h ha
      rw [this,H.zero] at he
      omega
   rw [findE,if_neg (by rw [hne];simp)]
   split
   · rfl
   · refine fstSome_none fun j hj=>?_
     by_cases h2:j < 2
     · rw [if_pos h2]
     · rw [if_neg h2,H.none e (flipL xs j) h.flip (by have:=H.back h (k:=j) (by omega) (by rw [h.1] at hj;omega);omega)]
       rfl
theorem Dist.some (H:Dist n D) {xs:List Int} {k:Nat} {l:List Int} (h:PermN n xs) (h2:2≤k) (hk:k≤n) (hd:D (flipL xs k) < D xs) (hno:∀ j,j < k→¬ D (flipL xs j) < D xs) (hl:findE (D (flipL xs k)+1) (flipL xs k)=.some l):findE (D xs+1) xs=.some ((k:Int) :: l):=by
 have hb:=H.back h h2 hk
 have e1:D xs=D (flipL xs k)+1:=by omega
 have hne:adjB xs=false:=by
  cases ha:adjB xs
  · rfl
  · have:=adjB_perm h ha
    rw [this,H.zero] at hd
    omega
 have hg:=H.gaps _ xs h (Nat.le_refl _)
 rw [findE,if_neg (by rw [hne];simp),if_neg (by omega)]
 refine fstSome_some (k:=k) (fun j hj=>?_) ?_ (by rw [h.1];omega)
 · by_cases h3:j < 2
   · rw [if_pos h3]
   · have:=hno j hj
     rw [if_neg h3,H.none _ _ h.flip (by omega)]
     rfl
 · rw [if_neg (by omega),e1,hl]
   rfl
theorem Dist.least (H:Dist n D) {xs:List Int} (h:PermN n xs) (hs:xs≠idL n):∃ k,2≤k∧k≤n∧D (flipL xs k) < D xs∧∀ j,j < k→¬ D (flipL xs j) < D xs:=by
 obtain ⟨k,h2,hk,he⟩:=H.down xs h hs
 have go:∀ m k,k≤m→2≤k→k≤n→D (flipL xs k) < D xs→∃ k,2≤k∧k≤n∧D (flipL xs k) < D xs∧∀ j,j < k→¬ D (flipL xs j) < D xs:=by
  intro m
  induction m with
  | zero=>intro k hkm h2;omega
  | succ m ih =>
    intro k hkm h2 hk he
    by_cases hex:∃ j,j < k∧D (flipL xs j) < D xs
    · obtain ⟨j,hj,hd⟩:=hex
      by_cases h3:2≤j
      · exact ih j (by omega) h3 (by omega) hd
      · rw [flipL_one (by omega)] at hd
        omega
    · exact ⟨k,h2,hk,he,fun j hj hd=>hex ⟨j,hj,hd⟩⟩
 exact go k k (Nat.le_refl _) h2 hk (by omega)
theorem Dist.found (H:Dist n D):∀ (d:Nat) (xs:List Int),PermN n xs→D xs=d→∃ l,findE (d+1) xs=.some l∧l.length=d∧∀ x∈l,2≤x∧x≤(n:Int)
 | 0,xs,h,hd=>by
   have : xs=idL n:=by
    by_cases e:xs=idL n
    · exact e
    · have:=H.pos xs h e;omega
   subst this
   exact ⟨[],by rw [findE,adjB_id];rfl,rfl,fun x hx=>by cases hx⟩
 | d+1,xs,h,hd=>by
   have hs:xs≠idL n:=fun e=>by rw [e,H.zero] at hd;omega
   obtain ⟨k,h2,hk,hlt,hno⟩:=H.least h hs
   have hb:=H.back h h2 hk
   obtain ⟨l,hl,hll,hlx⟩:=H.found d (flipL xs k) h.flip (by omega)
   have e:D (flipL xs k)=d:=by omega
   have:=H.some h h2 hk hlt hno (by rw [e];exact hl)
   rw [hd] at this
   exact ⟨_,this,by simp [hll],fun x hx=>by
    rcases List.mem_cons.1 hx with rfl | hx
    · omega
    · exact hlx x hx⟩
theorem Dist.best (H:Dist n D) {xs l:List Int} (h:PermN n xs) (hl:findE (D xs+1) xs=.some l):bestL xs=l:=by
 have hb:=H.bd xs h
 rw [bestL,fstSome_some (k:=D xs+1) (fun j hj=>H.none j xs h (by omega)) hl (by omega)]
 rfl
end
def chgB (xss:List (List Int)) (m k:Nat):Bool:=decide (runM xss m (k+1)≠runM xss m k)
def useC (xss:List (List Int)) (M j:Nat):Nat:=((List.range M).filter fun m=>chgB xss m j).length
theorem useC_le (xss:List (List Int)) (M j:Nat):useC xss M j≤M:=Nat.le_trans (List.length_filter_le _ _) (by simp)
theorem useC_succ (xss:List (List Int)) (m j:Nat):useC xss (m+1) j=useC xss m j+(if chgB xss m j then 1 else 0):=by
 simp only [useC,List.range_succ,List.filter_append,List.length_append]
 cases h:chgB xss m j <;> simp [h]
def useS (xss:List (List Int)) (m k j:Nat):Int:=((useC xss m j+(if decide (j < k) && chgB xss m j then 1 else 0):Nat):Int)
theorem useS_zero (xss:List (List Int)) (L:Nat):atL L (useS xss 0 0)=List.replicate L 0:=by
 rw [List.eq_replicate_iff]
 simp [atL,useS,useC]
theorem useS_next (xss:List (List Int)) (L m:Nat):atL L (useS xss m L)=atL L (useS xss (m+1) 0):=by
 unfold atL
 apply List.map_congr_left
 intro j hj
 simp only [List.mem_range] at hj
 simp only [useS,useC_succ,hj]
 cases chgB xss m j <;> simp
theorem useS_no {xss:List (List Int)} {L m k:Nat} (h:chgB xss m k=false):atL L (useS xss m k)=atL L (useS xss m (k+1)):=by
 unfold atL
 apply List.map_congr_left
 intro j hj
 simp only [useS]
 by_cases e:j=k
 · subst e;simp [h]
 · have : decide (j < k+1)=decide (j < k):=by rw [decide_eq_decide];omega
   rw [this]
theorem useS_yes {xss:List (List Int)} {L m k:Nat} (h:chgB xss m k=true):(atL L (useS xss m k)).set k (useS xss m k k+1)=atL L (useS xss m (k+1)):=by
 apply List.ext_getElem?
 intro q
 rw [List.getElem?_set]
 by_cases hq:q < L
 · rw [atL_get _ hq,atL_get _ hq,atL_length]
   by_cases e:k=q
   · subst e;simp [hq,useS,h]
   · have : decide (q < k+1)=decide (q < k):=by rw [decide_eq_decide];omega
     simp only [useS,this]
     simp [e]
 · have e1:(atL L (useS xss m k))[q]?=none:=List.getElem?_eq_none (by rw [atL_length];omega)
   have e2:(atL L (useS xss m (k+1)))[q]?=none:=List.getElem?_eq_none (by rw [atL_length];omega)
   rw [e1,e2,atL_length]
   by_cases e:k=q
   · subst e;simp [hq]
   · simp [e]
theorem useS_bd (xss:List (List Int)) (m k j:Nat):0≤useS xss m k j∧useS xss m k j≤m+1:=by
 have:=useC_le xss m j
 unfold useS
 split <;> omega
def useL (xss:List (List Int)) (M:Nat):List Int:=atL xss.length (useS xss M 0)
def idleK (xss:List (List Int)) (M k:Nat):List Int:=((List.range k).filter fun j=>decide (useC xss M j=0)).map fun (j:Nat)=>(j:Int)
theorem idleK_yes {xss:List (List Int)} {M k:Nat} (h:useC xss M k=0):idleK xss M (k+1)=idleK xss M k++[(k:Int)]:=by simp [idleK,List.range_succ,h]
theorem idleK_no {xss:List (List Int)} {M k:Nat} (h:useC xss M k≠0):idleK xss M (k+1)=idleK xss M k:=by simp [idleK,List.range_succ,h]
theorem idleK_len (xss:List (List Int)) (M k:Nat):(idleK xss M k).length≤k:=by
 rw [idleK,List.length_map]
 exact Nat.le_trans (List.length_filter_le _ _) (by simp)
def idleL (n:Int) (xss:List (List Int)):List Int:=if netOk n xss then idleK xss (2 ^ n.toNat) xss.length else []
theorem idleL_no {n:Int} {xss:List (List Int)} (h:netOk n xss=false):idleL n xss=[]:=by rw [idleL,if_neg (by simp [h])]
theorem idleL_ok {n:Int} {xss:List (List Int)} (h:netOk n xss=true):idleL n xss=idleK xss (2 ^ n.toNat) xss.length:=by rw [idleL,if_pos h]
theorem idleL_bd (n:Int) (xss:List (List Int)):I64s (idleL n xss)∧(idleL n xss).length≤60:=by
 cases hk:netOk n xss
 · rw [idleL_no hk];exact ⟨fun x hx=>(by cases hx),by simp⟩
 · rw [idleL_ok hk]
   obtain ⟨N,rfl,_,h8,h60⟩:=netOk_n hk
   refine ⟨fun x hx=>?_,by have:=idleK_len xss (2 ^ (N:Int).toNat) xss.length;omega⟩
   simp only [idleK,List.mem_map,List.mem_filter,List.mem_range] at hx
   obtain ⟨j,⟨hj,_⟩,rfl⟩:=hx
   unfold I64
   omega
theorem i_uses (N:Nat) (v:Value) (xss:List (List Int)) (w:World) (h:Rd2 w v xss) (hk:netOk (N:Int) xss=true) :
 Calls Tryz.prog 68 #[.agg #[.int .i64 N,v]] w (RetOwn 3 (ints (useL xss (2 ^ N))) w):=by
 obtain ⟨N',e,hN1,hN8,hL60⟩:=netOk_n hk
 obtain rfl:N=N':=by omega
 clear e
 have hp:=pow_le8 hN8
 have e2:=shl_of N (by omega)
 obtain ⟨a,c,rfl,_,_⟩:=h.form
 obtain ⟨w0,hw0,hb0,hz0,c0,c1⟩:=net_box w (.int .i64 N) (.slice a xss.length c) 30
 have h':=h.below hb0
 have HL:=Lib.hid (fun m (hm:m < 2 ^ N) k=>runM_lt hk hm k)
 have HP:=Lib.hid (fun (W:World) (hW:Rd2 W (.slice a xss.length c) xss) (k:Nat) (hlt:k < xss.length)=>hW.pair hk hlt)
 have C0:=Lib.hid c0
 have C1:=Lib.hid c1
 obtain ⟨M,hM⟩:∃ M,2 ^ N=M:=⟨_,rfl⟩
 rw [hM] at hp e2 HL ⊢
 have HU:Hid (useL xss M=atL xss.length (useS xss M 0)):=rfl
 obtain ⟨L,hLe⟩:∃ L,xss.length=L:=⟨_,rfl⟩
 rw [hLe] at hL60 c1 C1 HP h' HU hw0
 have H':=Lib.hid h'
 clear hk hM
 go_enter Tryz.func68,Tryz.ntmps68
 rw [hLe]
 go_upto_region 2 with (at_make;(refine wpList_mk (n:=L) (B:=w.heap.size+1) rfl _ _ 23 rfl elI ?_ ?_ (by omega) (by omega) (by omega) ?_);(focus exact rfl);(focus exact rfl);intro b w4 hb4 ho4 hg4)
 have hb04:Below (w.heap.size+1) w0 w4:=(Below.refl _ _).grown hg4 (by omega) (fun _ h=>by cases h)
 have ho5:Own w4 3 (w.heap.size+1) (.slice (some b) L L) (ints (atL L (useS xss 0 0))):=by
  rw [useS_zero]
  have : ints (List.replicate L 0)=List.replicate L (Value.int .i64 0):=by simp [ints]
  rw [this]
  exact ho4
 obtain ⟨g0,g1⟩:=Below.cells2 hb04 (Nat.lt_succ_self _) c0 c1
 clear c0 c1 hw0 hb4 hg4 ho4
 go_wp2
 try rw [e2]
 clear e2 g0 g1
 go_loopg [15] M (fun g mv wr=>∃ m:Nat,g=M - m∧m≤M∧mv=.int .i64 m∧Own wr 3 (w.heap.size+1) (.slice (some b) L L) (ints (atL L (useS xss m 0)))∧Below (w.heap.size+1) w0 wr)
 case atStart=>exact ⟨0,rfl,Nat.zero_le _,rfl,ho5,hb04⟩
 case round =>
  clear ho5 hb04
  obtain ⟨m,hg,hml,rfl,ho,hb⟩:=hrel
  by_cases hlt:m < M
  · obtain ⟨wo,rfl⟩:∃ wo:World,wo=wr:=⟨_,rfl⟩
    have g1:wo.cell? ⟨w.heap.size,1,none⟩=some (.slice a L c):=(hb.cell (Nat.lt_succ_self _)).trans C1.out
    have HLm:=Lib.hid (fun k=>HL.out m hlt k)
    have HNX:Hid (atL L (useS xss m L)=atL L (useS xss (m+1) 0)):=useS_next xss L m
    go_wp2
    clear g1
    go_loopg [4,21] L (fun g rv kv wr=>∃ k r:Nat,g=L - k∧k≤L∧kv=.int .i64 k∧rv=.int .i64 (r:Int)∧Own wr 3 (w.heap.size+1) (.slice (some b) L L) (ints (atL L (useS xss m k)))∧Below (w.heap.size+1) w0 wr∧Hid (r=runM xss m k))
    case atStart=>exact ⟨0,m,rfl,Nat.zero_le _,rfl,rfl,ho,hb,rfl⟩
    case round =>
     clear ho hb
     obtain ⟨k,r,hgk,hkl,rfl,rfl,ho,hb,HRr⟩:=hrel
     by_cases hltk:k < L
     · obtain ⟨ad,z,d,x,y,hal,hc,hcx,hcy,hxN,hyN,hxy,hx⟩:=HP.out wr (H'.out.below (by rw [hz0];exact hb)) k hltk
       subst hal
       have hr:r < 256:=by have:=HLm.out k;rw [←HRr.out] at this;omega
       have HSX:Hid (stepN r x y=runM xss m (k+1)):=by rw [Hid,runM_succ hx.out,←HRr.out]
       have HCG:Hid (chgB xss m k=((stepN r x y:Int) != (r:Int))):=by
        rw [Hid,chgB,←HSX.out,←HRr.out]
        by_cases e:stepN r x y=r
        · simp [e]
        · have : ¬ (stepN r x y:Int)=(r:Int):=by omega
          simp [e,this]
       have HK:=Lib.hid (fun W=>i_step r x y hr (by omega) (by omega) W)
       clear hx
       generalize stepN r x y=s at HSX HCG HK
       cases hq:((s:Int) != (r:Int))
       · have HV:Hid (atL L (useS xss m k)=atL L (useS xss m (k+1))):=useS_no (by rw [HCG.out,hq])
         go_wp2
         go_quiet ((go_at_call 124;exact Calls.quiet_of ((HK.out _).mono fun _ _ hh=>⟨hh.1,hh.2.imp fun _ e=>e.symm⟩)))
         rename_i nq
         have ho2:=ho.drewN nq
         have hb2:Below (w.heap.size+1) w0 (wr.drewN nq):=hb.trans (Dr.below ((Dr.refl _).step _) _)
         go_wp2
         go_roundg (L - (k+1))
         case measure=>omega
         case rel=>exact ⟨k+1,s,rfl,by omega,by go_num,rfl,by rw [←HV.out];exact ho2,hb2,HSX⟩
       · have HV:Hid ((atL L (useS xss m k)).set k (useS xss m k k+1)=atL L (useS xss m (k+1))):=useS_yes (by rw [HCG.out,hq])
         have hbd:=useS_bd xss m k k
         have hta:=ho.rd.cell_int' (atL_get (useS xss m k) hltk)
         have fz:=ho.frozen rfl k
         have hL2:=atL_length L (useS xss m k)
         have HOS:=Lib.hid (fun (nq:Nat)=>by
          have hoW:=ho.drewN nq
          have hs:=(hoW.seti rfl (show k < (atL L (useS xss m k)).length by omega) (useS xss m k k+1)).1
          have hbs:=hoW.below_set rfl (show k < (atL L (useS xss m k)).length by omega) (.int .i64 (useS xss m k k+1)) (hb.trans (Dr.below ((Dr.refl wr).step nq) _)) (Nat.le_refl _)
          rw [HV.out] at hs
          exact (⟨hs,hbs⟩:Own ((wr.drewN nq).setCell (b.add k) (.int .i64 (useS xss m k k+1))) 3 (w.heap.size+1) (.slice (some b) L L) (ints (atL L (useS xss m (k+1))))∧Below (w.heap.size+1) w0 ((wr.drewN nq).setCell (b.add k) (.int .i64 (useS xss m k k+1)))))
         generalize useS xss m k k=u at hbd hta HOS
         clear HV hL2
         go_wp2
         go_quiet ((go_at_call 124;exact Calls.quiet_of ((HK.out _).mono fun _ _ hh=>⟨hh.1,hh.2.imp fun _ e=>e.symm⟩)))
         rename_i nq
         obtain ⟨o1,o2⟩:=HOS.out nq
         have iw:IntKind.i64.wrap (u+1)=u+1:=IntWalk.i64_in _ (by omega)
         go_wp2
         go_roundg (L - (k+1))
         case measure=>omega
         case rel=>exact ⟨k+1,s,rfl,by omega,by go_num,rfl,o1,o2,HSX⟩
     · obtain rfl:L=k:=by omega
       rw [HNX.out] at ho
       go_wp2
       go_roundg (M - (m+1))
       case measure=>omega
       case rel=>exact ⟨m+1,rfl,by omega,by go_num,ho,hb⟩
  · obtain rfl:M=m:=by omega
    go_wp2
    go_ret
    exact ⟨_,rfl,by rw [HU.out];exact ho.mono (by omega),hb0.trans (hb.mono (by omega))⟩
theorem i_IdleOf (n:Int) (v:Value) (xss:List (List Int)) (w:World) (h:Rd2 w v xss) (hn:I64 n):Calls Tryz.prog 18 #[.agg #[.int .i64 n,v]] w (RetOwn 3 (ints (idleL n xss)) w):=by
 obtain ⟨a,c,rfl,h2,h3⟩:=h.form
 obtain ⟨w0,hw0,hb0,hz0,c0,c1⟩:=net_box w (.int .i64 n) (.slice a xss.length c) 30
 have h':=h.below hb0
 have HN:=i_NetworkOk n _ xss _ h' hn
 cases hk:netOk n xss
 · rw [hk] at HN
   have HR:=Lib.hid (idleL_no hk)
   go_enter Tryz.func18,Tryz.ntmps18
   go_wp2_with (go_at_call 40;refine HN.mono ?_;rintro e w2 ⟨rfl,hb2⟩)
   go_ret
   rw [HR.out]
   exact ⟨_,rfl,Own.nil _ _ _,hb0.trans (hb2.mono (by omega))⟩
 rw [hk] at HN
 have HR:=Lib.hid (idleL_ok hk)
 obtain ⟨N,rfl,hN1,hN8,hL60⟩:=netOk_n hk
 rw [Int.toNat_natCast] at HR
 have C0:=Lib.hid c0
 have C1:=Lib.hid c1
 have HU:=Lib.hid (fun (W:World) (hW:Below w.heap.size w W)=>i_uses N _ xss W (h.below hW) hk)
 have HUL:Hid (useL xss (2 ^ N)=atL xss.length (useS xss (2 ^ N) 0)):=rfl
 obtain ⟨M,hM⟩:∃ M,2 ^ N=M:=⟨_,rfl⟩
 rw [hM] at HR HU HUL
 obtain ⟨L,hLe⟩:∃ L,xss.length=L:=⟨_,rfl⟩
 rw [hLe] at hL60 c1 C1 HUL HU HR hw0 HN
 clear hk hM
 go_enter Tryz.func18,Tryz.ntmps18
 rw [hLe]
 go_wp2_with (first
  | (go_at_call 40;refine HN.mono ?_;rintro e w2 ⟨rfl,hb2⟩;have hbw2:Below w.heap.size w w2:=hb0.trans (hb2.mono (by omega));obtain ⟨c0,c1⟩:=Below.cells2 hb2 (show w.heap.size < w0.heap.size by omega) C0.out C1.out
     obtain ⟨wa,hwa⟩:∃ wa,w2.alloc (.cells #[] 3)=wa:=⟨_,rfl⟩
     have hza:wa.heap.size=w2.heap.size+1:=by rw [←hwa];simp
     have hba:Below w2.heap.size w2 wa:=by rw [←hwa];exact (Below.refl _ _).alloc (Nat.le_refl _) _
     have hbwa:Below w.heap.size w wa:=hbw2.trans (hba.mono hbw2.size)
     have hsz2:=hb2.size
     have g0:wa.cell? ⟨w.heap.size,0,none⟩=some (.int .i64 N):=(hba.cell (show w.heap.size < w2.heap.size by omega)).trans c0
     have g1:wa.cell? ⟨w.heap.size,1,none⟩=some (.slice a L c):=(hba.cell (show w.heap.size < w2.heap.size by omega)).trans c1
     have hlit:Own wa 3 w.heap.size (.slice (some ⟨w2.heap.size,0,none⟩) 0 0) (ints []):=by rw [←hwa];exact Own.lit0 w2 3 (by omega)
     have hap:∀ g,(Value.slice (some ⟨w2.heap.size,0,none⟩) 0 0).ownBlock=some g→g < wa.heap.size:=fun g hg=>by
      simp [Value.ownBlock] at hg
      omega)
  | (go_at_call 68;refine (HU.out _ hbwa).mono ?_;rintro e w3 ⟨vs,rfl,hos,hb3⟩;obtain ⟨as_,ns,cs,rfl,HNS,_,_⟩:=hos.rd.formN))
 have hnsL:ns=L:=by have:=HNS.out;rw [HUL.out,atL_length] at this;exact this
 subst hnsL
 rw [HUL.out] at hos
 have hlit3:=hlit.below hb3
 have hb3':Below w.heap.size w w3:=hbwa.trans (hb3.mono hbwa.size)
 have hap3:∀ g,(Value.slice (some ⟨w2.heap.size,0,none⟩) 0 0).ownBlock=some g→(Value.slice as_ ns cs).ownBlock≠some g:=fun g h1 h2=>by
  have:=hap g h1
  have:=(hos.lt g h2).1
  omega
 have hset:=hos.mono (B':=w.heap.size) hbwa.size
 clear c0 c1 g0 g1 hos hb2 hba hb3 hbw2 hbwa hwa hza hsz2 hlit HU HN hw0 HNS hap
 go_loopg [3,13] ns (fun g vo iv wr=>∃ k:Nat,g=ns - k∧k≤ns∧iv=.int .i64 k∧Own wr 3 w.heap.size vo (ints (idleK xss M k))∧Own wr 3 w.heap.size (.slice as_ ns cs) (ints (atL ns (useS xss M 0)))∧(∀ g,vo.ownBlock=some g→(Value.slice as_ ns cs).ownBlock≠some g)∧Below w.heap.size w wr)
 case atStart=>exact ⟨0,rfl,Nat.zero_le _,rfl,hlit3,hset,hap3,hb3'⟩
 case round =>
  clear hlit3 hset hap3 hb3'
  obtain ⟨k,hg,hkl,rfl,ho,hset,hap,hb⟩:=hrel
  obtain ⟨ao,no,co,rfl,HNO,_,_⟩:=ho.rd.formN
  by_cases hlt:k < ns
  · obtain ⟨ad,y,hal,hc,hy⟩:=hset.rd.int (k:=k) (by rw [atL_length];exact hlt)
    subst hal
    have hyv:=hy.out
    rw [atL_get _ hlt] at hyv
    obtain rfl:useS xss M 0 k=y:=by injection hyv
    have huv:useS xss M 0 k=(useC xss M k:Nat):=by simp [useS]
    rw [huv] at hc
    have HY:Hid (useC xss M k=0→idleK xss M (k+1)=idleK xss M k++[(k:Int)]):=idleK_yes
    have HNy:Hid (useC xss M k≠0→idleK xss M (k+1)=idleK xss M k):=idleK_no
    clear hy hyv huv
    generalize useC xss M k=u at hc HY HNy
    by_cases hu:u=0
    · subst hu
      have HS:=Lib.hid (HY.out rfl)
      have HLo:Hid ((ints (idleK xss M k)).length=no):=by rw [Hid,ints_length,HNO.out]
      have hno:no≤60:=by have:=HNO.out;have:=idleK_len xss M k;omega
      have hsb:=hb.size
      have hn1:(no+1) * 8≤140737488355328:=by omega
      have hn2:no+1≤9223372036854775807:=by omega
      clear HY HNy
      go_wp2_with (at_builtin;(refine wpList_app1m rfl _ _ 23 rfl elI ?_ ho ?_ ?_ hsb no HLo.out hn1 hn2 ?_);(focus exact rfl);(focus (simp [Act.eval]));(focus exact rfl);intro bn cn' w6 ho6 hg6 hat6)
      have hset6:=hset.apart hg6 fun g h2 h3=>hap g h3 h2
      have hb6:=hb.grown hg6 hsb fun r hr=>(ho.lt r hr).1
      go_roundg (ns - (k+1))
      case measure=>omega
      case rel=>exact ⟨k+1,rfl,by omega,by go_num,by rw [HS.out,ints_append];exact ho6,hset6,fun g h2 h3=>by
       rcases hat6 with e | ⟨q,hq,e⟩
       · exact hap g (e ▸ h2) h3
       · rw [e] at h2
         cases h2
         have:=(hset.lt _ h3).2
         omega,hb6⟩
    · have HS:=Lib.hid (HNy.out hu)
      have d0:((u:Int) == 0)=false:=by rw [beq_eq_false_iff_ne];omega
      clear HY HNy
      go_wp2
      go_roundg (ns - (k+1))
      case measure=>omega
      case rel=>exact ⟨k+1,rfl,by omega,by go_num,by rw [HS.out];exact ho,hset,hap,hb⟩
  · obtain rfl:ns=k:=by omega
    go_wp2
    go_ret
    rw [HR.out]
    exact ⟨_,rfl,ho,hb⟩
end Go.Proofs.YtggblfnajeikjaaGreatDoor
