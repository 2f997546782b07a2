/- Joined texts of the proof: GreedyI. -/
import Derived.Test.YtggblfnajeikjaaGreatDoorJ2
import Derived.Test.YtggblfnajeikjaaGreatDoorJ13
namespace Go.Proofs.YtggblfnajeikjaaGreatDoor
open Go.RowKit
set_option linter.unusedVariables false
set_option linter.unusedSimpArgs false
set_option maxRecDepth 100000
set_option maxHeartbeats 16000000
def RowsIn (w:World) (E B T:Nat) (rows:List Value) (xss:List (List Int)):Prop :=
 rows.length=xss.length∧∀ (i:Nat) (r:Value),rows[i]?=some r→∃ xs:List Int,xss[i]?=some xs∧Own w E B r (ints xs)∧∀ k,r.ownBlock=some k→k < T
section
variable {w w':World} {E B T:Nat} {rows:List Value} {xss:List (List Int)}
theorem RowsIn.of (h:RowsOwn w E B T rows xss):RowsIn w E B T rows xss:=⟨h.1,h.2.1⟩
theorem RowsIn.nil (w:World) (E B T:Nat):RowsIn w E B T [] []:=⟨rfl,fun i r h=>by simp at h⟩
theorem RowsIn.keep (h:RowsIn w E B T rows xss) (hk:∀ k,k < w.heap.size→B≤k→k < T→w'.heap[k]?=w.heap[k]?):RowsIn w' E B T rows xss :=
 ⟨h.1,fun i r hr=>by
  obtain ⟨xs,h1,h2,h3⟩:=h.2 i r hr
  exact ⟨xs,h1,h2.keep fun k hk1 hk2=>hk k hk1 ((h2.lt k hk2.symm).1) (h3 k hk2.symm),h3⟩⟩
theorem RowsIn.below (h:RowsIn w E B T rows xss) (hb:Below w.heap.size w w'):RowsIn w' E B T rows xss:=h.keep fun k hk _ _=>hb.block k hk
theorem RowsIn.grown {row:Option Nat} (h:RowsIn w E B T rows xss) (hg:w.grownBy w' row) (hne:∀ k,row=some k→k < B∨T≤k):RowsIn w' E B T rows xss :=
 h.keep fun k hk h1 h2=>hg.block k hk fun e=>by have:=hne k e.symm;omega
theorem RowsIn.snoc {r:Value} {xs:List Int} (h:RowsIn w E B T rows xss) (hr:Own w E B r (ints xs)) (ht:∀ k,r.ownBlock=some k→k < T):RowsIn w E B T (rows++[r]) (xss++[xs]):=by
 refine ⟨by simp [h.1],fun i s hs=>?_⟩
 rw [List.getElem?_append] at hs
 by_cases e:i < rows.length
 · rw [if_pos e] at hs
   obtain ⟨ys,h1,h2,h3⟩:=h.2 i s hs
   exact ⟨ys,by rw [List.getElem?_append_left (by rw [←h.1];exact e)];exact h1,h2,h3⟩
 · rw [if_neg e] at hs
   have h1:i - rows.length=0:=by
    have:=(List.getElem?_eq_some_iff.1 hs).1
    simp at this
    omega
   rw [h1] at hs
   simp at hs
   subst hs
   exact ⟨xs,by rw [List.getElem?_append_right (by rw [←h.1];omega),←h.1,h1];rfl,hr,ht⟩
theorem RowsIn.two {a:Option Addr} {n c k:Nat} {x y:Int} (h:RowsIn w E B T rows xss) (ho:Rd w (.slice a n c) rows) (hx:xss[k]?=some [x,y]) :
 ∃ (ad z:Addr) (d:Nat),a=some ad∧w.cell? (ad.add k)=some (.slice (some z) 2 d)∧w.cell? z=some (.int .i64 x)∧w.cell? ⟨z.block,z.off+(0+1),none⟩=some (.int .i64 y)∧Own w E B (.slice (some z) 2 d) (ints [x,y])∧(∀ k,(Value.slice (some z) 2 d).ownBlock=some k→k < T):=by
 have hk:k < rows.length:=by rw [h.1];exact (List.getElem?_eq_some_iff.1 hx).1
 obtain ⟨ad,e,hc⟩:=ho.cell (k:=k) hk
 obtain ⟨xs,h1,h2,h3⟩:=h.2 k _ (List.getElem?_eq_getElem hk)
 rw [hx] at h1
 cases h1
 have hr:=h2.rd
 obtain ⟨b,d,hv,_,_⟩:=hr.formi
 rw [hv] at hc hr h2 h3
 obtain ⟨z,x',rfl,hcx,hxx⟩:=hr.int (k:=0) (by simp)
 obtain ⟨z',y',hz,hcy,hyy⟩:=hr.int (k:=1) (by simp)
 obtain rfl:z=z':=by injection hz
 have e1:=hxx.out
 have e2:=hyy.out
 simp only [List.getElem?_cons_zero,List.getElem?_cons_succ,Option.some.injEq] at e1 e2
 subst e1 e2
 rw [add_succ] at hcy
 exact ⟨ad,z,d,e,hc,by simpa [Addr.add] using hcx,hcy,h2,h3⟩
end
def fjB (xss:List (List Int)) (m j:Nat):Bool:=findsB xss (j / 3) (j % 3) m
theorem faultsL_true:∀ L,faultsL (fun _ _=>true) L=(List.range (3 * L)).map rowJ
 | 0=>rfl
 | L+1=>by
   rw [faultsL,faultsL_true L,show 3 * (L+1)=3 * L+1+1+1 by omega,List.range_succ,List.range_succ,List.range_succ]
   simp only [List.map_append,List.map_cons,List.map_nil,List.append_assoc,List.cons_append,List.nil_append]
   congr 1
   simp only [fltAt,List.range_succ,List.range_zero,List.nil_append,List.filter_cons,List.filter_nil,List.cons_append,if_true,List.map_cons,List.map_nil,rowJ]
   have e0:3 * L / 3=L:=by omega
   have e1:(3 * L+1) / 3=L:=by omega
   have e2:(3 * L+1+1) / 3=L:=by omega
   have m0:3 * L % 3=0:=by omega
   have m1:(3 * L+1) % 3=1:=by omega
   have m2:(3 * L+1+1) % 3=2:=by omega
   rw [e0,e1,e2,m0,m1,m2]
def greedyL (n:Int) (xss:List (List Int)):List Int:=if netOk n xss && decide (xss.length≤20) then greedyG (fjB xss) (2 ^ n.toNat) (List.range (3 * xss.length)) else []
theorem greedyL_no {n:Int} {xss:List (List Int)} (h:netOk n xss=false∨20 < xss.length):greedyL n xss=[]:=by
 unfold greedyL
 rcases h with h | h
 · simp [h]
 · rw [if_neg]
   simp only [Bool.and_eq_true,decide_eq_true_eq]
   rintro ⟨_,h2⟩
   omega
theorem greedyL_ok {n:Int} {xss:List (List Int)} (h:netOk n xss=true) (h2:xss.length≤20):greedyL n xss=greedyG (fjB xss) (2 ^ n.toNat) (List.range (3 * xss.length)):=by
 unfold greedyL
 rw [h]
 simp [h2]
theorem greedyL_bd (n:Int) (xss:List (List Int)):I64s (greedyL n xss)∧(greedyL n xss).length≤60:=by
 unfold greedyL
 split
 · rename_i h
   simp only [Bool.and_eq_true,decide_eq_true_eq] at h
   obtain ⟨N,rfl,_,h8,_⟩:=netOk_n h.1
   have h1:=greedyG_len (fjB xss) (2 ^ N) (3 * xss.length) (List.range (3 * xss.length)) (by simp)
   have hp:=pow_le8 h8
   simp only [Int.toNat_natCast]
   refine ⟨fun x hx=>?_,by have:=h1.1;simp only [List.length_range] at this;omega⟩
   have:=h1.2 x hx
   unfold I64
   omega
 · exact ⟨fun x hx=>(by cases hx),by simp⟩
theorem takeF_yes {p:Nat→Bool} {left:List Nat} {i j:Nat} (hx:left[i]?=some j) (h:p j=true):(left.take (i+1)).filter p=(left.take i).filter p++[j]:=by
 rw [take_snoc' hx,List.filter_append]
 simp [h]
theorem takeF_no {p:Nat→Bool} {left:List Nat} {i j:Nat} (hx:left[i]?=some j) (h:p j=false):(left.take (i+1)).filter p=(left.take i).filter p:=by
 rw [take_snoc' hx,List.filter_append]
 simp [h]
theorem bestG_yes {f:Nat→Nat→Bool} {left:List Nat} {m:Nat} (h:(bestG f left m).2 < cntG f left m):bestG f left (m+1)=(m,cntG f left m):=by rw [bestG,if_pos h]
theorem bestG_no {f:Nat→Nat→Bool} {left:List Nat} {m:Nat} (h:¬ (bestG f left m).2 < cntG f left m):bestG f left (m+1)=bestG f left m:=by rw [bestG,if_neg h]
theorem k_Gr1:Known 72:=known Tryz.func72 (by kernel_rfl) (by kernel_rfl)
theorem i_Gr1 (idx kind:Int) (w:World):Calls Tryz.prog 72 #[.int .i64 idx,.int .i64 kind] w (RetB (.bool true) w):=by
 go_enter Tryz.func72,Tryz.ntmps72
 go_wp2
 go_ret
 exact ⟨rfl,Below.refl _ _⟩
theorem i_GreedyTests (n:Int) (v:Value) (xss:List (List Int)) (w:World) (h:Rd2 w v xss) (hn:I64 n):Calls Tryz.prog 21 #[.agg #[.int .i64 n,v]] w (RetOwn 3 (ints (greedyL n xss)) w):=by
 obtain ⟨a,c,rfl,h2,h3⟩:=h.form
 obtain ⟨w0,hw0,hb0,hz0,c0,c1⟩:=net_box w (.int .i64 n) (.slice a xss.length c) 30
 have h':=h.below hb0
 have HN:=i_NetworkOk n _ xss _ h' hn
 have C1:=Lib.hid c1
 cases hk:netOk n xss
 · rw [hk] at HN
   have HR:=Lib.hid (greedyL_no (.inl hk))
   go_enter Tryz.func21,Tryz.ntmps21
   go_wp2_with (go_at_call 40;refine HN.mono ?_;rintro e w2 ⟨rfl,hb2⟩;have c1:=(hb2.cell (show w.heap.size < w0.heap.size by omega)).trans C1.out)
   go_ret
   rw [HR.out]
   exact ⟨_,rfl,Own.nil _ _ _,hb0.trans (hb2.mono (by omega))⟩
 rw [hk] at HN
 by_cases hl20:xss.length≤20
 case neg =>
  have HR:=Lib.hid (greedyL_no (n:=n) (xss:=xss) (.inr (by omega)))
  have d0:decide ((xss.length:Int) > 20)=true:=by simp;omega
  go_enter Tryz.func21,Tryz.ntmps21
  go_wp2_with (go_at_call 40;refine HN.mono ?_;rintro e w2 ⟨rfl,hb2⟩;have c1:=(hb2.cell (show w.heap.size < w0.heap.size by omega)).trans C1.out)
  go_ret
  rw [HR.out]
  exact ⟨_,rfl,Own.nil _ _ _,hb0.trans (hb2.mono (by omega))⟩
 have HR:=Lib.hid (greedyL_ok hk hl20)
 obtain ⟨N,rfl,hN1,hN8,hL60⟩:=netOk_n hk
 rw [Int.toNat_natCast] at HR
 have d0:decide ((xss.length:Int) > 20)=false:=by simp;omega
 have C0:=Lib.hid c0
 have hp:=pow_le8 hN8
 have E2:=Lib.hid (shl_of N (by omega))
 obtain ⟨M,hM⟩:∃ M,2 ^ N=M:=⟨_,rfl⟩
 have HFi:Hid (∀ (j m:Nat) (W:World),m < M→Below w.heap.size w W→Calls Tryz.prog 73 #[.agg #[.int .i64 N,.slice a xss.length c],.int .i64 (j / 3:Nat),.int .i64 (j % 3:Nat),.int .i64 m] W (RetB (.bool (fjB xss m j)) W)):=fun j m W hm hW =>
  i_finds N _ xss (j / 3) (j % 3) m W (h.below hW) hk (by omega) (by omega)
 have HFa:Hid (∀ W:World,Below w.heap.size w W→Calls Tryz.prog 69 #[.agg #[.int .i64 N,.slice a xss.length c],.func (.func 72) #[] #[]] W (RetOwn2 ((List.range (3 * xss.length)).map rowJ) W)):=fun W hW=>by
  have:=i_faults (fun _ _=>true) 72 #[] k_Gr1 N _ xss W (h.below hW) hL60 fun i kd W' _ _ _=>i_Gr1 i kd W'
  rwa [faultsL_true] at this
 rw [hM] at hp E2 HR
 obtain ⟨L,hL⟩:∃ L,xss.length=L:=⟨_,rfl⟩
 rw [hL] at hl20 hL60 HFi HFa HR c1 C1 hw0 h HN d0
 obtain ⟨f,hf⟩:∃ f,fjB xss=f:=⟨_,rfl⟩
 rw [hf] at HFi HR
 have HBC:=Lib.hid (fun left=>bestG_cnt f left M)
 clear hk hM hf
 go_enter Tryz.func21,Tryz.ntmps21
 rw [hL]
 go_wp2_with (first
  | (go_at_call 40;refine HN.mono ?_;rintro e w2 ⟨rfl,hb2⟩;have hbw2:Below w.heap.size w w2:=hb0.trans (hb2.mono (by omega));obtain ⟨c0,c1⟩:=Below.cells2 hb2 (show w.heap.size < w0.heap.size by omega) C0.out C1.out
     obtain ⟨w3,hw3⟩:∃ w3,w2.alloc (.cells #[] 3)=w3:=⟨_,rfl⟩
     have hz3:w3.heap.size=w2.heap.size+1:=by rw [←hw3];simp
     have hs2:=hb2.size
     have hb3:Below (w.heap.size+1) w0 w3:=by rw [←hw3];exact Below.alloc' (hb2.mono (by omega)) (by omega) _
     have hbw3:Below w.heap.size w w3:=hb0.trans (hb3.mono (by omega))
     have g0:w3.cell? ⟨w.heap.size,0,none⟩=some (.int .i64 N):=(hb3.cell (Nat.lt_succ_self _)).trans C0.out
     have g1:w3.cell? ⟨w.heap.size,1,none⟩=some (.slice a L c):=(hb3.cell (Nat.lt_succ_self _)).trans C1.out
     have ho3:Own w3 3 (w.heap.size+1) (.slice (some ⟨w2.heap.size,0,none⟩) 0 0) (ints []):=by rw [←hw3];exact Own.lit0 w2 _ (by omega))
  | (go_at_call 69;refine (HFa.out _ hbw3).mono ?_;rintro e w4 ⟨vl,rfl,hl4,hb4⟩;obtain ⟨al,cl,rfl,_,_⟩:=hl4.form))
 obtain ⟨rows4,hlo4,_,hlr4⟩:=hl4
 rw [List.length_map,List.length_range] at hlo4
 have hR4:=RowsIn.of hlr4
 have ho4:=ho3.below hb4
 have hb4':Below (w.heap.size+1) w0 w4:=hb3.trans (hb4.mono (by omega))
 have hb03:∀ k,(Value.slice (some ⟨w2.heap.size,0,none⟩) 0 0).ownBlock=some k→k < w3.heap.size∨w4.heap.size≤k:=fun k hk=>by
  simp [Value.ownBlock] at hk
  omega
 have hB0:w.heap.size+1≤w3.heap.size:=by omega
 obtain ⟨B0,hB0e⟩:∃ B0,w3.heap.size=B0:=⟨_,rfl⟩
 obtain ⟨T0,hT0e⟩:∃ T0,w4.heap.size=T0:=⟨_,rfl⟩
 rw [hB0e] at hlo4 hR4 hb03 hB0
 rw [hT0e] at hR4 hb03
 have hT4:T0≤w4.heap.size:=by omega
 have HG:Hid ([]++greedyG f M (List.range (3 * L))=greedyL (N:Int) xss):=by rw [Hid,HR.out,List.nil_append]
 have hl60:([]:List Int).length+(List.range (3 * L)).length≤60:=by simp;omega
 clear c0 c1 g0 g1 hw0 hw3 ho3 hb3 hb4 hlr4 hz3 hs2 hbw2 hbw3 hb2 HFa HN hT0e hB0e
 obtain ⟨e2',hE2'⟩:∃ e:Bool,e=true:=⟨_,rfl⟩
 clear e2' hE2'
 go_loopg [3,4] (3 * L) (fun g ov lv wr=>∃ (o:List Int) (left:List Nat) (rows:List Value),g=left.length∧o.length+left.length≤60∧Own wr 3 (w.heap.size+1) ov (ints o)∧(∀ k,ov.ownBlock=some k→k < B0∨T0≤k)∧Own wr 23 B0 lv rows∧RowsIn wr 3 B0 T0 rows (left.map rowJ)∧T0≤wr.heap.size∧Below (w.heap.size+1) w0 wr∧Hid (o++greedyG f M left=greedyL (N:Int) xss))
 case atStart=>exact ⟨[],List.range (3 * L),rows4,by simp,hl60,ho4,hb03,hlo4,hR4,hT4,hb4',HG⟩
 case round =>
  clear ho4 hb03 hlo4 hR4 hT4 hb4' HG hl60
  obtain ⟨o,left,rows,hg,hol,ho,hob,hlo,hR,hT,hb,HG⟩:=hrel
  obtain ⟨ao,no,co,rfl,HNO,_,_⟩:=ho.rd.formN
  obtain ⟨al',cl',rfl,_,_⟩:=hlo.rd.form
  have hrl:rows.length=left.length:=by rw [hR.1,List.length_map]
  obtain ⟨nl,hnl⟩:∃ nl,rows.length=nl:=⟨_,rfl⟩
  have HNL:Hid (left.length=nl):=hrl.symm.trans hnl
  rw [hnl] at hlo ⊢
  have HNR:=Lib.hid hnl
  have hnl60:nl≤60:=by omega
  clear hrl hnl
  have g0:wr.cell? ⟨w.heap.size,0,none⟩=some (.int .i64 N):=(hb.cell (Nat.lt_succ_self _)).trans C0.out
  have g1:wr.cell? ⟨w.heap.size,1,none⟩=some (.slice a L c):=(hb.cell (Nat.lt_succ_self _)).trans C1.out
  have G0:=Lib.hid g0
  have G1:=Lib.hid g1
  have hbw:Below w.heap.size w wr:=hb0.trans (hb.mono (by omega))
  have e2:=E2.out
  obtain ⟨wo,rfl⟩:∃ wo:World,wo=wr:=⟨_,rfl⟩
  go_wp2
  try rw [e2]
  clear e2 g0 g1
  have HCL:Hid (∀ (W:World) (i:Nat),Below wo.heap.size wo W→i < nl→∃ (j:Nat) (ad z:Addr) (d:Nat),al'=some ad∧W.cell? (ad.add i)=some (.slice (some z) 2 d)∧W.cell? z=some (.int .i64 (j / 3:Nat))∧W.cell? ⟨z.block,z.off+(0+1),none⟩=some (.int .i64 (j % 3:Nat))∧Own W 3 B0 (.slice (some z) 2 d) (ints (rowJ j))∧(∀ k,(Value.slice (some z) 2 d).ownBlock=some k→k < T0)∧Hid (left[i]?=some j)):=fun W i hW hi=>by
   obtain ⟨j,hj⟩:∃ j,left[i]?=some j:=⟨_,List.getElem?_eq_getElem (by rw [HNL.out];exact hi)⟩
   have hx:(left.map rowJ)[i]?=some [((j / 3:Nat):Int),((j % 3:Nat):Int)]:=by rw [List.getElem?_map,hj];rfl
   obtain ⟨ad,z,d,q1,q2,q3,q4,q5,q6⟩:=RowsIn.two (hR.below hW) (hlo.rd.below hW) hx
   exact ⟨j,ad,z,d,q1,q2,q3,q4,q5,q6,hj⟩
  go_loopg [5,6,29] M (fun g bv mv kv wr=>∃ k:Nat,g=M - k∧k≤M∧kv=.int .i64 k∧bv=.int .i64 ((bestG f left k).1:Nat)∧mv=.int .i64 ((bestG f left k).2:Nat)∧Below wo.heap.size wo wr)
  case atStart=>exact ⟨0,rfl,Nat.zero_le _,rfl,rfl,rfl,Below.refl _ _⟩
  case round =>
   obtain ⟨k,hgk,hkl,rfl,rfl,rfl,hq⟩:=hrel
   have hbl:=bestG_le f left k
   by_cases hlt:k < M
   · go_wp2
     go_loopg [8,34] nl (fun g cv iv wr=>∃ i:Nat,g=nl - i∧i≤nl∧iv=.int .i64 i∧cv=.int .i64 (((left.take i).filter (f k)).length:Nat)∧Below wo.heap.size wo wr)
     case atStart=>exact ⟨0,rfl,Nat.zero_le _,rfl,by simp,hq⟩
     case round =>
      clear hq
      obtain ⟨i,hgi,hil,rfl,rfl,hq⟩:=hrel
      obtain ⟨wy,rfl⟩:∃ wy:World,wy=wr:=⟨_,rfl⟩
      by_cases hlti:i < nl
      · obtain ⟨j,ad,z,d,hal,q1,q2,q3,_,_,HJ⟩:=HCL.out wy i hq hlti
        subst hal
        have hcl:((left.take i).filter (f k)).length≤60:=by
         have h1:=List.length_filter_le (f k) (left.take i)
         have h2:(left.take i).length≤i:=List.length_take_le _ _
         omega
        have g0:wy.cell? ⟨w.heap.size,0,none⟩=some (.int .i64 N):=(hq.cell (World.block_lt_of_cell? _ _ G0.out)).trans G0.out
        have g1:wy.cell? ⟨w.heap.size,1,none⟩=some (.slice a L c):=(hq.cell (World.block_lt_of_cell? _ _ G1.out)).trans G1.out
        have HT:Hid (∀ wx:World,Below wy.heap.size wy wx→Below wy.heap.size wy wx∧wx.cell? ⟨w.heap.size,0,none⟩=some (.int .i64 N)∧wx.cell? ⟨w.heap.size,1,none⟩=some (.slice a L c)∧wx.cell? z=some (.int .i64 (j / 3:Nat))∧wx.cell? ⟨z.block,z.off+(0+1),none⟩=some (.int .i64 (j % 3:Nat))) :=
         fun wx hx=>⟨hx,(hx.cell (World.block_lt_of_cell? _ _ g0)).trans g0,(hx.cell (World.block_lt_of_cell? _ _ g1)).trans g1,(hx.cell (World.block_lt_of_cell? _ _ q2)).trans q2,(hx.cell (World.block_lt_of_cell? _ _ q3)).trans q3⟩
        have hbq:Below w.heap.size w wy:=hbw.trans (hq.mono hbw.size)
        have hTY:=HT.out wy (Below.refl _ _)
        have hsq:=hq.size
        have hYes:=fun h=>takeF_yes (p:=f k) HJ.out h
        have hNo:=fun h=>takeF_no (p:=f k) HJ.out h
        have K0:Hid (∀ W:World,Below wy.heap.size wy W→Calls Tryz.prog 73 #[.agg #[.int .i64 N,.slice a L c],.int .i64 (j / 3:Nat),.int .i64 (j % 3:Nat),.int .i64 k] W fun e w'=>e=.returned (.bool (f k j))∧Below wy.heap.size wy w') :=
         fun W hW=>(HFi.out j k W hlt (hbq.trans (hW.mono hbq.size))).mono fun e w' hh=>⟨hh.1,hW.trans (hh.2.mono hW.size)⟩
        generalize f k j=b at K0 hYes hNo
        obtain ⟨cN,hcN⟩:∃ cN,((left.take i).filter (f k)).length=cN:=⟨_,rfl⟩
        rw [hcN] at hcl ⊢
        have HST:Hid (((left.take (i+1)).filter (f k)).length=if b then cN+1 else cN):=by
         cases b
         · rw [Hid,hNo rfl,hcN];rfl
         · rw [Hid,hYes rfl,List.length_append,hcN];rfl
        clear hYes hNo hcN
        obtain ⟨x1,hx1⟩:∃ x1:Int,((j / 3:Nat):Int)=x1:=⟨_,rfl⟩
        obtain ⟨x2,hx2⟩:∃ x2:Int,((j % 3:Nat):Int)=x2:=⟨_,rfl⟩
        rw [hx1] at HT hTY q2 K0
        rw [hx2] at HT hTY q3 K0
        clear hx1 hx2
        go_wp2
        clear g0 g1 q2 q3
        go_region_held3 (fun wx=>Below wy.heap.size wy wx∧wx.cell? ⟨w.heap.size,0,none⟩=some (.int .i64 N)∧wx.cell? ⟨w.heap.size,1,none⟩=some (.slice a L c)∧wx.cell? z=some (.int .i64 x1)∧wx.cell? ⟨z.block,z.off+(0+1),none⟩=some (.int .i64 x2))
         (first | exact HT.out _ g3 | exact HT.out _ (by exact ⟨rfl,rfl,rfl,Nat.le_refl _,fun _ _=>rfl⟩) | go_keep)
         (first
          | (go_at_call 73;(with_reducible refine (K0.out _ (by exact (show _∧_∧_∧_∧_ from by assumption).1)).mono ?_);rintro e w3 ⟨rfl,g3⟩))
        all_goals
         cases b
         · go_wp2
           go_roundg (nl - (i+1))
           case measure=>omega
           case rel=>exact ⟨i+1,rfl,by omega,by go_num,by rw [HST.out];rfl,hq.trans (g3.mono hsq)⟩
         · go_wp2
           go_roundg (nl - (i+1))
           case measure=>omega
           case rel=>exact ⟨i+1,rfl,by omega,by go_num,by rw [HST.out];go_num,hq.trans (g3.mono hsq)⟩
      · obtain rfl:nl=i:=by omega
        have hcn:(left.take nl).filter (f k)=left.filter (f k):=by rw [←HNL.out,List.take_length]
        rw [hcn]
        clear hcn
        have hcb:(left.filter (f k)).length≤60:=by
         have:=List.length_filter_le (f k) left
         have:=HNL.out
         omega
        have hYes:=fun h=>bestG_yes (f:=f) (left:=left) (m:=k) h
        have hNo:=fun h=>bestG_no (f:=f) (left:=left) (m:=k) h
        unfold cntG at hYes hNo
        generalize (left.filter (f k)).length=cN at hcb hYes hNo ⊢
        generalize bestG f left k=bg at hbl hYes hNo ⊢
        obtain ⟨b1,m1⟩:=bg
        by_cases hgt:m1 < cN
        · have HU:=Lib.hid (hYes hgt)
          clear hYes hNo
          go_wp2
          go_roundg (M - (k+1))
          case measure=>omega
          case rel=>exact ⟨k+1,rfl,by omega,by go_num,by rw [HU.out],by rw [HU.out],hq⟩
        · have HU:=Lib.hid (hNo hgt)
          clear hYes hNo
          go_wp2
          go_roundg (M - (k+1))
          case measure=>omega
          case rel=>exact ⟨k+1,rfl,by omega,by go_num,by rw [HU.out],by rw [HU.out],hq⟩
   · obtain rfl:M=k:=by omega
     have hbc:=HBC.out left
     by_cases hz:(bestG f left M).2=0
     · have HE:Hid (o=greedyL (N:Int) xss):=by rw [Hid,←HG.out,greedyG_end f hz,List.append_nil]
       have d1:(((bestG f left M).2:Int) == 0)=true:=by simp [hz]
       clear hz hbc
       have ho9:=ho.below hq
       go_wp2
       go_ret
       exact ⟨_,rfl,by rw [←HE.out];exact ho9.mono (by omega),hbw.trans (hq.mono hbw.size)⟩
     · obtain ⟨_,hb1⟩:=hbc hz
       have HE:Hid ((o++[((bestG f left M).1:Int)])++greedyG f M (nextG f M left)=greedyL (N:Int) xss):=by rw [Hid,←HG.out,greedyG_step f hz,List.append_assoc];rfl
       have HLT:=Lib.hid (greedy_lt f hz)
       have HNX:Hid (nextG f M left=left.filter fun j=>!f (bestG f left M).1 j):=rfl
       have d1:(((bestG f left M).2:Int) == 0)=false:=by rw [beq_eq_false_iff_ne];omega
       clear hz hbc
       generalize (bestG f left M).2=m1 at d1 hbl
       obtain ⟨bm,hbm⟩:∃ bm,(bestG f left M).1=bm:=⟨_,rfl⟩
       rw [hbm] at HE HLT HNX hb1 ⊢
       clear hbm
       obtain ⟨wz,rfl⟩:∃ wz:World,wz=wr:=⟨_,rfl⟩
       have ho9:=ho.below hq
       have hlo9:=hlo.below hq
       have hR9:=RowsIn.below hR hq
       have hs9:=hq.size
       have hsb:=hb.size
       have hB9:w.heap.size+1≤wz.heap.size:=by omega
       have HLo:Hid ((ints o).length=no):=by rw [Hid,ints_length,HNO.out]
       have hno:no≤60:=by have:=HNO.out;omega
       have hn1:(no+1) * 8≤140737488355328:=by omega
       have hn2:no+1≤9223372036854775807:=by omega
       go_upto_region 22 with (at_builtin;(refine wpList_app1m rfl _ _ 23 rfl elI ?_ ho9 ?_ ?_ hB9 no HLo.out hn1 hn2 ?_);(focus exact rfl);(focus (simp [Act.eval]));(focus exact rfl);intro bn cn' w6 ho6 hg6 hat6)
       have hlo6:=hlo9.apart hg6 fun g h2 h3=>Own.elem_ne hlo9 ho9 (by decide) g h2 h3
       have hR6:=RowsIn.grown hR9 hg6 fun k hk=>hob k hk
       have hs6:=hg6.size
       have hob6:∀ k,(Value.slice bn (no+1) cn').ownBlock=some k→k < B0∨T0≤k:=fun k hk=>by
        rcases hat6 with e | ⟨q,hq',e⟩
        · exact hob k (e ▸ hk)
        · rw [e] at hk
          cases hk
          omega
       have hb6:Below (w.heap.size+1) w0 w6:=(hb.trans (hq.mono (by omega))).grown hg6 (by omega) fun r hr=>(ho9.lt r hr).1
       have hbw6:Below w.heap.size w w6:=hb0.trans (hb6.mono (by omega))
       have hT6:T0≤w6.heap.size:=by omega
       have hB6:B0≤w6.heap.size:=by
        rcases Nat.lt_or_ge w6.heap.size B0 with h | h
        · rcases Nat.eq_zero_or_pos nl with hz | hz
          · have h1:=HLT.out
            have h2:=HNL.out
            omega
          · obtain ⟨ad,hal⟩:=hlo6.some_of (by have:=HNR.out;omega)
            subst hal
            have h1:=hlo6.lt ad.block rfl
            omega
        · exact h
       have hrest:Own (w6.alloc (.cells #[] 23)) 23 B0 (.slice (some ⟨w6.heap.size,0,none⟩) 0 0) []:=Own.lit0 w6 23 hB6
       have hbA:Below w6.heap.size w6 (w6.alloc (.cells #[] 23)):=(Below.refl _ _).alloc (Nat.le_refl _) _
       have G06:Hid (w6.cell? ⟨w.heap.size,0,none⟩=some (.int .i64 N)):=(hb6.cell (Nat.lt_succ_self _)).trans C0.out
       have G16:Hid (w6.cell? ⟨w.heap.size,1,none⟩=some (.slice a L c)):=(hb6.cell (Nat.lt_succ_self _)).trans C1.out
       have HCL6:Hid (∀ (W:World) (i:Nat),Below w6.heap.size w6 W→i < nl→∃ (j:Nat) (ad z:Addr) (d:Nat),al'=some ad∧W.cell? (ad.add i)=some (.slice (some z) 2 d)∧W.cell? z=some (.int .i64 (j / 3:Nat))∧W.cell? ⟨z.block,z.off+(0+1),none⟩=some (.int .i64 (j % 3:Nat))∧Own W 3 B0 (.slice (some z) 2 d) (ints (rowJ j))∧(∀ k,(Value.slice (some z) 2 d).ownBlock=some k→k < T0)∧Hid (left[i]?=some j)):=fun W i hW hi=>by
        obtain ⟨j,hj⟩:∃ j,left[i]?=some j:=⟨_,List.getElem?_eq_getElem (by rw [HNL.out];exact hi)⟩
        have hx:(left.map rowJ)[i]?=some [((j / 3:Nat):Int),((j % 3:Nat):Int)]:=by rw [List.getElem?_map,hj];rfl
        obtain ⟨ad,z,d,q1,q2,q3,q4,q5,q6⟩:=RowsIn.two (hR6.below hW) (hlo6.rd.below hW) hx
        exact ⟨j,ad,z,d,q1,q2,q3,q4,q5,q6,hj⟩
       clear hR9 hlo9 ho9 hR hlo ho HCL hq G0 G1 hg6 hat6 hob hb hbw hlo6 hR6
       obtain ⟨p,hp⟩:∃ p:Nat→Bool,(fun j=>!f bm j)=p:=⟨_,rfl⟩
       have HPJ:Hid (∀ j,p j = !f bm j):=fun j=>by rw [←hp]
       rw [hp] at HNX HLT
       clear hp
       go_wp2
       go_loopg [11,66] nl (fun g rv iv wr=>∃ (i:Nat) (rr:List Value),g=nl - i∧i≤nl∧iv=.int .i64 i∧Own wr 23 B0 rv rr∧RowsIn wr 3 B0 T0 rr (((left.take i).filter p).map rowJ)∧(∀ k,rv.ownBlock=some k→w6.heap.size≤k)∧Below w6.heap.size w6 wr)
       case atStart=>exact ⟨0,[],rfl,Nat.zero_le _,rfl,hrest,by simpa using RowsIn.nil _ _ _ _,fun k hk=>by simp [Value.ownBlock] at hk;omega,hbA⟩
       case round =>
        clear hrest hbA
        obtain ⟨i,rr,hgi,hil,rfl,hrv,hrr,hrb,hq⟩:=hrel
        obtain ⟨wy,rfl⟩:∃ wy:World,wy=wr:=⟨_,rfl⟩
        obtain ⟨av,cv,rfl,_,_⟩:=hrv.rd.form
        have hrl:rr.length≤60:=by
         rw [hrr.1,List.length_map]
         have h1:=List.length_filter_le p (left.take i)
         have h2:(left.take i).length≤i:=List.length_take_le _ _
         omega
        obtain ⟨nv,hnv⟩:∃ nv,rr.length=nv:=⟨_,rfl⟩
        have HNV:=Lib.hid hnv
        rw [hnv] at hrv hrl hrb ⊢
        clear hnv
        by_cases hlti:i < nl
        · obtain ⟨j,ad,z,d,hal,q1,q2,q3,q5,q6,HJ⟩:=HCL6.out wy i hq hlti
          subst hal
          have g0:wy.cell? ⟨w.heap.size,0,none⟩=some (.int .i64 N):=(hq.cell (World.block_lt_of_cell? _ _ G06.out)).trans G06.out
          have g1:wy.cell? ⟨w.heap.size,1,none⟩=some (.slice a L c):=(hq.cell (World.block_lt_of_cell? _ _ G16.out)).trans G16.out
          have HT:Hid (∀ wx:World,Below wy.heap.size wy wx→Below wy.heap.size wy wx∧wx.cell? ⟨w.heap.size,0,none⟩=some (.int .i64 N)∧wx.cell? ⟨w.heap.size,1,none⟩=some (.slice a L c)∧wx.cell? z=some (.int .i64 (j / 3:Nat))∧wx.cell? ⟨z.block,z.off+(0+1),none⟩=some (.int .i64 (j % 3:Nat))) :=
           fun wx hx=>⟨hx,(hx.cell (World.block_lt_of_cell? _ _ g0)).trans g0,(hx.cell (World.block_lt_of_cell? _ _ g1)).trans g1,(hx.cell (World.block_lt_of_cell? _ _ q2)).trans q2,(hx.cell (World.block_lt_of_cell? _ _ q3)).trans q3⟩
          have hbq:Below w.heap.size w wy:=hbw6.trans (hq.mono hbw6.size)
          have hsq:=hq.size
          have hYes:=fun h=>takeF_yes (p:=p) HJ.out h
          have hNo:=fun h=>takeF_no (p:=p) HJ.out h
          have K0:Hid (∀ W:World,Below wy.heap.size wy W→Calls Tryz.prog 73 #[.agg #[.int .i64 N,.slice a L c],.int .i64 (j / 3:Nat),.int .i64 (j % 3:Nat),.int .i64 bm] W fun e w'=>e=.returned (.bool (f bm j))∧Below wy.heap.size wy w') :=
           fun W hW=>(HFi.out j bm W hb1 (hbq.trans (hW.mono hbq.size))).mono fun e w' hh=>⟨hh.1,hW.trans (hh.2.mono hW.size)⟩
          rw [HPJ.out j] at hYes hNo
          have hrow:rowJ j=[((j / 3:Nat):Int),((j % 3:Nat):Int)]:=rfl
          have HRJ:Hid (Own wy 3 B0 (.slice (some z) 2 d) (ints (rowJ j))):=q5
          clear q5 hrow
          generalize f bm j=b at K0 hYes hNo
          obtain ⟨x1,hx1⟩:∃ x1:Int,((j / 3:Nat):Int)=x1:=⟨_,rfl⟩
          obtain ⟨x2,hx2⟩:∃ x2:Int,((j % 3:Nat):Int)=x2:=⟨_,rfl⟩
          rw [hx1] at HT q2 K0
          rw [hx2] at HT q3 K0
          clear hx1 hx2
          cases b
          · have HY:=Lib.hid (hYes rfl)
            clear hYes hNo
            go_wp2
            clear g0 g1 q2 q3
            go_region_held3 (fun wx=>Below wy.heap.size wy wx∧wx.cell? ⟨w.heap.size,0,none⟩=some (.int .i64 N)∧wx.cell? ⟨w.heap.size,1,none⟩=some (.slice a L c)∧wx.cell? z=some (.int .i64 x1)∧wx.cell? ⟨z.block,z.off+(0+1),none⟩=some (.int .i64 x2))
             (first | exact HT.out _ g3 | exact HT.out _ (by exact ⟨rfl,rfl,rfl,Nat.le_refl _,fun _ _=>rfl⟩) | go_keep)
             (first
              | (go_at_call 73;(with_reducible refine (K0.out _ (by exact (show _∧_∧_∧_∧_ from by assumption).1)).mono ?_);rintro e w3 ⟨rfl,g3⟩))
            all_goals
             have hrv3:=hrv.below g3
             have hs3:=g3.size
             have hB3:B0≤w3.heap.size:=by omega
             have hn3:(nv+1) * 24≤140737488355328:=by omega
             have hn4:nv+1≤9223372036854775807:=by omega
             go_wp2_with (at_builtin;(refine wpList_app1m rfl _ _ 28 rfl elII ?_ hrv3 ?_ ?_ hB3 nv HNV.out hn3 hn4 ?_);(focus exact rfl);(focus (simp [Act.eval]));(focus exact rfl);intro bv cv' w8 ho8 hg8 hat8)
             have hrr8:=(RowsIn.grown (hrr.below g3) hg8 fun k hk=>by have:=hrb k hk;omega)
             have hs8:=hg8.size
             have hb8:Below w6.heap.size w6 w8:=(hq.trans (g3.mono hsq)).grown hg8 (by omega) hrb
             have hown:Own w8 3 B0 (.slice (some z) 2 d) (ints (rowJ j)):=(HRJ.out.below g3).keep fun k hk he=>hg8.block k hk fun e=>by
              have h1:=hrb k e.symm
              have h2:=q6 k he.symm
              omega
             go_roundg (nl - (i+1))
             case measure=>omega
             case rel=>exact ⟨i+1,rr++[.slice (some z) 2 d],rfl,by omega,by go_num,ho8,by rw [HY.out,List.map_append];exact hrr8.snoc hown q6,fun k hk=>by
              rcases hat8 with e | ⟨q,hq',e⟩
              · exact hrb k (e ▸ hk)
              · rw [e] at hk
                cases hk
                omega,hb8⟩
          · have HY:=Lib.hid (hNo rfl)
            clear hYes hNo
            go_wp2
            clear g0 g1 q2 q3
            go_region_held3 (fun wx=>Below wy.heap.size wy wx∧wx.cell? ⟨w.heap.size,0,none⟩=some (.int .i64 N)∧wx.cell? ⟨w.heap.size,1,none⟩=some (.slice a L c)∧wx.cell? z=some (.int .i64 x1)∧wx.cell? ⟨z.block,z.off+(0+1),none⟩=some (.int .i64 x2))
             (first | exact HT.out _ g3 | exact HT.out _ (by exact ⟨rfl,rfl,rfl,Nat.le_refl _,fun _ _=>rfl⟩) | go_keep)
             (first
              | (go_at_call 73;(with_reducible refine (K0.out _ (by exact (show _∧_∧_∧_∧_ from by assumption).1)).mono ?_);rintro e w3 ⟨rfl,g3⟩))
            all_goals
             go_wp2
             go_roundg (nl - (i+1))
             case measure=>omega
             case rel=>exact ⟨i+1,rr,rfl,by omega,by go_num,hrv.below g3,by rw [HY.out];exact hrr.below g3,hrb,hq.trans (g3.mono hsq)⟩
        · obtain rfl:nl=i:=by omega
          have hcn:(left.take nl).filter p=nextG f M left:=by rw [←HNL.out,List.take_length,HNX.out]
          rw [hcn] at hrr
          clear hcn
          have ho7:=ho6.below hq
          go_wp2
          go_roundg (nextG f M left).length
          case measure=>rw [hg,HNX.out];exact HLT.out
          case rel=>exact ⟨o++[(bm:Int)],nextG f M left,rr,rfl,by have h1:=HLT.out;rw [HNX.out,List.length_append,List.length_singleton];omega,by rw [ints_append];exact ho7,hob6,hrv,hrr,by have:=hq.size;omega,hb6.trans (hq.mono (by omega)),HE⟩
end Go.Proofs.YtggblfnajeikjaaGreatDoor
