/- Joined texts of the proof: StackE, StackF, StackG, DisE, LineLate. -/
import Derived.Test.YtggblfnajeikjaaGreatDoorJ24
import Derived.Test.YtggblfnajeikjaaGreatDoorJ36
namespace Go.Proofs.YtggblfnajeikjaaGreatDoor
open Go.RowKit
set_option linter.unusedVariables false
set_option linter.unusedSimpArgs false
set_option maxRecDepth 100000
set_option maxHeartbeats 16000000
structure SS (B bo bs bw:Nat) (w:World) (vo vs:Value) (O R:List Int) (A:ByteArray):Prop where
 ob:w.heap[bo]?=some (.cells #[vo] 23 (0,0))
 sb:w.heap[bs]?=some (.cells #[vs] 23 (0,0))
 wb:w.heap[bw]?=some (.cells #[.string A] 9 (0,0))
 ow:OwnsL w 3 B [(vo,O),(vs,R.reverse)]
 h0:B≤bo
 h1:bo < bs
 h2:bs < bw
section
variable {B bo bs bw:Nat} {w w' w0:World} {vo vs v1:Value} {O R O1 R1:List Int} {A A1:ByteArray}
theorem SS.below (h:SS B bo bs bw w vo vs O R A) (hb:Below w.heap.size w w'):SS B bo bs bw w' vo vs O R A :=
 ⟨(hb.block bo (box_lt h.ob)).trans h.ob,(hb.block bs (box_lt h.sb)).trans h.sb,(hb.block bw (box_lt h.wb)).trans h.wb,h.ow.below hb,h.h0,h.h1,h.h2⟩
theorem SS.grow {p:Value × List Int} (h:SS B bo bs bw w vo vs O R A) (hp:p∈[(vo,O),(vs,R.reverse)]) (hg:w.grownBy w' p.1.ownBlock) :
 w'.heap[bo]?=some (.cells #[vo] 23 (0,0))∧w'.heap[bs]?=some (.cells #[vs] 23 (0,0))∧w'.heap[bw]?=some (.cells #[.string A] 9 (0,0)) :=
 ⟨(hg.block bo (box_lt h.ob) fun e=>own_ne_box (h.ow.own p hp) h.ob (by decide) e.symm).trans h.ob,(hg.block bs (box_lt h.sb) fun e=>own_ne_box (h.ow.own p hp) h.sb (by decide) e.symm).trans h.sb,
   (hg.block bw (box_lt h.wb) fun e=>own_ne_box (h.ow.own p hp) h.wb (by decide) e.symm).trans h.wb⟩
theorem SS.outs (h:SS B bo bs bw w vo vs O R A) (hg:w.grownBy w' vo.ownBlock) (ho:Own w' 3 B v1 (ints O1)) (hat:∀ g,v1.ownBlock=some g→vo.ownBlock=some g∨w.heap.size≤g) :
 SS B bo bs bw (w'.setCell ⟨bo,0,none⟩ v1) v1 vs O1 R A:=by
 obtain ⟨e1,e2,e3⟩:=h.grow (p:=(vo,O)) (by simp) hg
 have:=h.h1
 have:=h.h2
 exact ⟨heap_setCell_same w' bo 0 _ _ v1 e1,(heap_setCell_other w' _ bs v1 (by show bs≠bo;omega)).trans e2,(heap_setCell_other w' _ bw v1 (by show bw≠bo;omega)).trans e3,(h.ow.t0 hg ho hat).setBox e1 (by decide) _,h.h0,h.h1,h.h2⟩
theorem SS.push (h:SS B bo bs bw w vo vs O R A) (hg:w.grownBy w' vs.ownBlock) (ho:Own w' 3 B v1 (ints R1.reverse)) (hat:∀ g,v1.ownBlock=some g→vs.ownBlock=some g∨w.heap.size≤g) :
 SS B bo bs bw (w'.setCell ⟨bs,0,none⟩ v1) vo v1 O R1 A:=by
 obtain ⟨e1,e2,e3⟩:=h.grow (p:=(vs,R.reverse)) (by simp) hg
 have:=h.h1
 have:=h.h2
 exact ⟨(heap_setCell_other w' _ bo v1 (by show bo≠bs;omega)).trans e1,heap_setCell_same w' bs 0 _ _ v1 e2,(heap_setCell_other w' _ bw v1 (by show bw≠bs;omega)).trans e3,(h.ow.t1 hg ho hat).setBox e2 (by decide) _,h.h0,h.h1,h.h2⟩
theorem SS.word (h:SS B bo bs bw w vo vs O R A) (A1:ByteArray):SS B bo bs bw (w.setCell ⟨bw,0,none⟩ (.string A1)) vo vs O R A1:=by
 have:=h.h1
 have:=h.h2
 exact ⟨(heap_setCell_other w _ bo _ (by show bo≠bw;omega)).trans h.ob,(heap_setCell_other w _ bs _ (by show bs≠bw;omega)).trans h.sb,heap_setCell_same w bw 0 _ _ _ h.wb,h.ow.setBox h.wb (by decide) _,h.h0,h.h1,h.h2⟩
theorem SS.cells (h:SS B bo bs bw w vo vs O R A):w.cell? ⟨bo,0,none⟩=some vo∧w.cell? ⟨bs,0,none⟩=some vs∧w.cell? ⟨bw,0,none⟩=some (.string A) ∧
 (∀ i,w.frozen? ⟨bo,i,none⟩=false)∧(∀ i,w.frozen? ⟨bs,i,none⟩=false)∧(∀ i,w.frozen? ⟨bw,i,none⟩=false) :=
 ⟨box_cell h.ob 0,box_cell h.sb 0,box_cell h.wb 0,fun i=>frozen_of_row w bo i _ _ h.ob,fun i=>frozen_of_row w bs i _ _ h.sb,fun i=>frozen_of_row w bw i _ _ h.wb⟩
end
theorem SS_init (w:World) :
 SS w.heap.size (w.heap.size+1+1) (w.heap.size+1+1+1) (w.heap.size+1+1+1+1)
  (((((w.alloc (.cells #[] 3)).alloc (.cells #[] 3)).alloc (.cells #[.slice (some ⟨w.heap.size,0,none⟩) 0 0] 23)).alloc (.cells #[.slice (some ⟨w.heap.size+1,0,none⟩) 0 0] 23)).alloc (.cells #[.string ⟨#[]⟩] 9))
  (.slice (some ⟨w.heap.size,0,none⟩) 0 0) (.slice (some ⟨w.heap.size+1,0,none⟩) 0 0) [] [] ⟨#[]⟩ ∧
 Below w.heap.size w (((((w.alloc (.cells #[] 3)).alloc (.cells #[] 3)).alloc (.cells #[.slice (some ⟨w.heap.size,0,none⟩) 0 0] 23)).alloc (.cells #[.slice (some ⟨w.heap.size+1,0,none⟩) 0 0] 23)).alloc (.cells #[.string ⟨#[]⟩] 9)):=by
 have hA1:=(OwnsL.nil w 3 w.heap.size).snoc ((Below.refl _ _).alloc (Nat.le_refl _) (.cells #[] 3)) (Nat.le_refl _) (Own.lit0 w 3 (Nat.le_refl _))
 have hA2:=hA1.snoc ((Below.refl _ _).alloc (Nat.le_refl _) (.cells #[] 3)) (by simp) (Own.lit0 _ 3 (Nat.le_refl _))
 have hb2:Below w.heap.size w ((w.alloc (.cells #[] 3)).alloc (.cells #[] 3)):=((Below.refl _ _).alloc (Nat.le_refl _) _).alloc (by simp) _
 have hs2:((w.alloc (.cells #[] 3)).alloc (.cells #[] 3)).heap.size=w.heap.size+1+1:=by simp
 have hO2:OwnsL ((w.alloc (.cells #[] 3)).alloc (.cells #[] 3)) 3 w.heap.size [(.slice (some ⟨w.heap.size,0,none⟩) 0 0,[]),(.slice (some ⟨w.heap.size+1,0,none⟩) 0 0,([]:List Int).reverse)]:=by simpa using hA2
 clear hA1 hA2
 generalize ((w.alloc (.cells #[] 3)).alloc (.cells #[] 3))=w2 at *
 generalize Value.slice (some ⟨w.heap.size,0,none⟩) 0 0=v1 at *
 generalize Value.slice (some ⟨w.heap.size+1,0,none⟩) 0 0=v2 at *
 have r2:=heap_alloc_new w2 (.cells #[v1] 23)
 have hs3:(w2.alloc (.cells #[v1] 23)).heap.size=w.heap.size+1+1+1:=by simp [hs2]
 rw [hs2] at r2
 have hb3:=hb2.alloc hb2.size (.cells #[v1] 23)
 have hO3:=hO2.below ((Below.refl _ _).alloc (Nat.le_refl _) (.cells #[v1] 23))
 generalize w2.alloc (.cells #[v1] 23)=w3 at *
 have r3:=heap_alloc_new w3 (.cells #[v2] 23)
 have q2:=(Below.heap_alloc w3 (.cells #[v2] 23) (w.heap.size+1+1) (by omega)).trans r2
 have hs4:(w3.alloc (.cells #[v2] 23)).heap.size=w.heap.size+1+1+1+1:=by simp [hs3]
 rw [hs3] at r3
 have hb4:=hb3.alloc hb3.size (.cells #[v2] 23)
 have hO4:=hO3.below ((Below.refl _ _).alloc (Nat.le_refl _) (.cells #[v2] 23))
 generalize w3.alloc (.cells #[v2] 23)=w4 at *
 have r4:=heap_alloc_new w4 (.cells #[.string ⟨#[]⟩] 9)
 have q3:=(Below.heap_alloc w4 (.cells #[.string ⟨#[]⟩] 9) (w.heap.size+1+1) (by omega)).trans q2
 have p3:=(Below.heap_alloc w4 (.cells #[.string ⟨#[]⟩] 9) (w.heap.size+1+1+1) (by omega)).trans r3
 rw [hs4] at r4
 exact ⟨⟨q3,p3,r4,hO4.below ((Below.refl _ _).alloc (Nat.le_refl _) (.cells #[.string ⟨#[]⟩] 9)),by omega,by omega,by omega⟩,hb4.alloc hb4.size _⟩
def RetTake (B bo bs bw:Nat) (O R:List Int) (A:ByteArray) (w0:World) (e:Ending) (w':World):Prop :=
 e=.returned (.tuple #[])∧∃ vo vs,SS B bo bs bw w' vo vs O R A∧Below B w0 w'
theorem i_take (w0 w:World) (B bo bs bw:Nat) (vo vs:Value) (O r:List Int) (y:Int) (A:ByteArray) (h:SS B bo bs bw w vo vs O (y :: r) A) (hb:Below B w0 w) (hB:B≤w0.heap.size) (hO:O.length≤8) (hr:r.length≤8) (hA:A.size≤20) :
 Calls Tryz.prog 135 #[.pointer (some ⟨bo,0,none⟩),.pointer (some ⟨bs,0,none⟩),.pointer (some ⟨bw,0,none⟩)] w (RetTake B bo bs bw (O++[y]) r (A++(⟨#[116]⟩:ByteArray)) w0):=by
 obtain ⟨ao,mo,co,rfl,HMO,_,_⟩:=h.ow.o0.rd.formN
 obtain ⟨aS,ms,cs,rfl,HMS,hmcs,_⟩:=h.ow.o1.rd.formN
 obtain ⟨ρ,hρ⟩:∃ ρ,r.length=ρ:=⟨_,rfl⟩
 have hmsρ:ms=ρ+1:=by have:=HMS.out;simp at this;omega
 subst hmsρ
 have hmo:mo≤8:=by have:=HMO.out;dsimp only at this;omega
 have HLo:Hid ((ints O).length=mo):=by rw [Hid,ints_length];exact HMO.out.symm
 obtain ⟨ps,y',rfl,hcy,hy⟩:=h.ow.o1.rd.int (k:=ρ) (by simp;omega)
 have hya:y'=y:=by have:=hy.out;rw [←hρ,rev_top] at this;injection this with this;exact this.symm
 subst hya
 have d1:(ρ:Int) < (ρ:Int)+1:=by omega
 have d2:(ρ:Int)≤(cs:Int):=by omega
 have d4:(0:Int)≤(ρ:Int):=by omega
 have d5:IntKind.i64.wrap (ρ:Int)=(ρ:Int):=IntWalk.i64_in _ (by omega)
 have hsb:B≤w.heap.size:=Nat.le_trans hB hb.size
 have q1:¬ 9223372036854775807 < A.size+1:=by omega
 have q2:¬ 9223372036854775807≤A.size:=by omega
 obtain ⟨c0,c1,c2,f0,f1,f2⟩:=h.cells
 have hbA:Below w.heap.size w (w.alloc (.cells #[.int .i64 y'] 3)):=(Below.refl _ _).alloc (Nat.le_refl _) _
 have cA0:=(h.below hbA).cells.1
 have cA1:=(h.below hbA).cells.2.1
 have how:=h.ow.o0
 dsimp only at how
 clear hbA
 go_enter Tryz.func135,Tryz.ntmps135
 go_upto_region 0 with (fail)
 go_region_law ((refine step_app1 (by rfl) _ _ _ (by rfl) elI (by rfl) how (by rfl) (by rfl) hsb (by rw [HLo.out];omega) (by rw [HLo.out];omega) ?_;intro b6 c6 w6 ho6 hg6 hat6;have hgr:=h.grow (.head _) hg6;have hc6:=box_cell hgr.1 0;have hf6:=frozen_of_row w6 bo 0 _ _ hgr.1))
 all_goals
  have h6:=h.outs (O1:=O++[y']) hg6 (by rw [ints_append];exact ho6) (hat_of hat6)
  have hb6:=(hb.grown hg6 hsb (fun r hr=>(how.lt r hr).1)).setCell (p:=⟨bo,0,none⟩) h.h0 (.slice b6 ((ints O).length+1) c6)
  clear hgr hc6 hf6 c0 c1 c2 f0 f1 f2 cA0 cA1 h how hb hg6 ho6 hat6 hcy hsb
  obtain ⟨v6,hv6⟩:∃ v6,Value.slice b6 ((ints O).length+1) c6=v6:=⟨_,rfl⟩
  rw [hv6] at h6 hb6 ⊢
  obtain ⟨w7,hw7⟩:∃ w7,w6.setCell ⟨bo,0,none⟩ v6=w7:=⟨_,rfl⟩
  rw [hw7] at h6 hb6 ⊢
  clear hv6 hw7
  obtain ⟨c0,c1,c2,f0,f1,f2⟩:=h6.cells
  go_upto_region 2 with (fail)
  have hpo:=h6.ow.o1
  dsimp only at hpo
  have h8:=h6.push (w':=w7) (R1:=r) (v1:=.slice (some ps) ρ cs) (World.grownBy.refl w7 _) (own_pop hpo (by omega) hρ.symm) (fun g hg=>.inl hg)
  have hb8:=hb6.setCell (p:=⟨bs,0,none⟩) (by have:=h6.h0;have:=h6.h1;show B≤bs;omega) (.slice (some ps) ρ cs)
  obtain ⟨w8,hw8⟩:∃ w8,w7.setCell ⟨bs,0,none⟩ (.slice (some ps) ρ cs)=w8:=⟨_,rfl⟩
  rw [hw8] at h8 hb8 ⊢
  clear hw8 c0 c1 c2 f0 f1 f2 h6 hb6 hpo
  obtain ⟨c0,c1,c2,f0,f1,f2⟩:=h8.cells
  go_wp2_with fail
  go_end0
  exact ⟨rfl,_,_,h8.word _,hb8.setCell (p:=⟨bw,0,none⟩) (by have:=h8.h0;have:=h8.h1;have:=h8.h2;show B≤bw;omega) _⟩
def RetSW (ys:List Int) (u:List UInt8) (w:World) (e:Ending) (w':World):Prop:=∃ v,e=.returned (.tuple #[v,.string (bstr u)])∧Own w' 3 w.heap.size v (ints ys)∧Below w.heap.size w w'
theorem i_stackSort (v:Value) (xs:List Int) (w:World) (h:Rd w v (ints xs)) (hl:xs.length≤8):Calls Tryz.prog 80 #[v] w (RetSW (stkS xs) (stkW xs) w):=by
 obtain ⟨aT,n,cT,rfl,HN,hnc,hc⟩:=h.formN
 have h8:n≤8:=by have:=HN.out;omega
 obtain ⟨hS,hb⟩:=SS_init w
 have HSL:Hid (∀ k,k≤xs.length→(stkR xs k).1.length+(stkR xs k).2.1.length=k∧(stkR xs k).2.2.length=k+(stkR xs k).1.length):=stkR_len xs
 go_enter Tryz.func80,Tryz.ntmps80
 go_upto_region 4 with (fail)
 obtain ⟨w8,hw8⟩:∃ w8,(((((w.alloc (.cells #[] 3)).alloc (.cells #[] 3)).alloc (.cells #[.slice (some ⟨w.heap.size,0,none⟩) 0 0] 23)).alloc (.cells #[.slice (some ⟨w.heap.size+1,0,none⟩) 0 0] 23)).alloc (.cells #[.string ⟨#[]⟩] 9))=w8:=⟨_,rfl⟩
 rw [hw8] at hS hb ⊢
 clear hw8
 obtain ⟨v1,hv1⟩:∃ v1,Value.slice (some ⟨w.heap.size,0,none⟩) 0 0=v1:=⟨_,rfl⟩
 obtain ⟨v2,hv2⟩:∃ v2,Value.slice (some ⟨w.heap.size+1,0,none⟩) 0 0=v2:=⟨_,rfl⟩
 rw [hv1,hv2] at hS
 rw [hv1,hv2]
 clear hv1 hv2
 obtain ⟨bw,hbw⟩:∃ bw,w.heap.size+1+1+1+1=bw:=⟨_,rfl⟩
 obtain ⟨bs,hbs⟩:∃ bs,w.heap.size+1+1+1=bs:=⟨_,rfl⟩
 obtain ⟨bo,hbo⟩:∃ bo,w.heap.size+1+1=bo:=⟨_,rfl⟩
 rw [hbw,hbs,hbo] at hS
 rw [hbw,hbs,hbo]
 clear hbw hbs hbo
 have HA0:Hid ((⟨#[]⟩:ByteArray)=bstr []):=rfl
 go_wp2
 go_loopg [15] n (fun g iv wr=>∃ (k:Nat) (O R:List Int) (W:List UInt8) (A:ByteArray) (vo vs:Value),g=n - k∧k≤n∧iv=.int .i64 k∧Hid (A=bstr W)∧Hid (stkR xs k=(O,R,W))∧SS w.heap.size bo bs bw wr vo vs O R A∧Below w.heap.size w wr)
 case atStart=>exact ⟨0,_,_,_,_,_,_,rfl,Nat.zero_le _,rfl,HA0,rfl,hS,hb⟩
 case round =>
  clear hS hb HA0
  obtain ⟨k,O,R,W,A,vo,vs,hg,hk,rfl,HA,HK,hS,hb⟩:=hrel
  have HLK:=Lib.hid (stkR_bd (by rw [←HN.out];exact hk) HK.out)
  by_cases hlt:k < n
  · obtain ⟨ad,x,rfl,hcx,hx⟩:=(h.below hb).int (k:=k) (by have:=HN.out;omega)
    have i1:(k:Int) < (n:Int):=by omega
    go_wp2
    clear hcx
    go_loopg [33] R.length (fun g iv wr=>∃ (O2 R2:List Int) (W2:List UInt8) (A:ByteArray) (vo vs:Value),g=R2.length∧Hid (A=bstr W2)∧Hid (popA x O2 R2 W2=popA x O R W)∧Hid (O2.length+R2.length=k∧W2.length=k+O2.length)∧SS w.heap.size bo bs bw wr vo vs O2 R2 A∧Below w.heap.size w wr)
    case atStart=>exact ⟨_,_,_,_,_,_,rfl,HA,rfl,HLK,hS,hb⟩
    case round =>
     clear hS hb HA
     obtain ⟨O2,R2,W2,A,vo,vs,hg2,HA,HP,HL2,hS,hb⟩:=hrel
     obtain ⟨aS,ms,cs,rfl,HMS,hmcs,_⟩:=hS.ow.o1.rd.formN
     have hsb:=hb.size
     have hms:ms≤8:=by have:=HMS.out;have:=HL2.out;simp at *;omega
     have HLs:Hid ((ints R2.reverse).length=ms):=by rw [Hid,ints_length];exact HMS.out.symm
     have hAs:A.size≤16:=by rw [HA.out,bstr_size];have:=HL2.out;omega
     have q1:¬ 9223372036854775807 < A.size+1:=by omega
     have q2:¬ 9223372036854775807≤A.size:=by omega
     obtain ⟨c0,c1,c2,f0,f1,f2⟩:=hS.cells
     have hcase:R2=[]∨∃ a r,R2=a :: r:=by cases R2 with | nil=>exact .inl rfl | cons a r=>exact .inr ⟨a,r,rfl⟩
     by_cases hpop:∃ a r,R2=a :: r∧a < x
     · obtain ⟨y,r,rfl,hyx⟩:=hpop
       clear hcase
       obtain ⟨ρ,hρ⟩:∃ ρ,r.length=ρ:=⟨_,rfl⟩
       have hmsρ:ms=ρ+1:=by have:=HMS.out;simp at this;omega
       subst hmsρ
       obtain ⟨ps,y',rfl,hcy,hy⟩:=hS.ow.o1.rd.int (k:=ρ) (by simp;omega)
       have hya:y'=y:=by have:=hy.out;rw [←hρ,rev_top] at this;injection this with this;exact this.symm
       subst hya
       have d0:decide (((ρ+1:Nat):Int) > 0)=true:=by simp
       have d1:(ρ:Int) < (ρ:Int)+1:=by omega
       have d2:(ρ:Int)≤(cs:Int):=by omega
       have d4:(0:Int) < (ρ:Int)+1:=by omega
       have d3:decide (y' < x)=true:=by simpa using hyx
       have HP2:=Lib.hid ((popA_go hyx O2 r W2).symm.trans HP.out)
       have HE:=Lib.hid (i_take w wr w.heap.size bo bs bw _ _ O2 r y' A hS hb (Nat.le_refl _) (by have:=HL2.out;omega) (by have:=HL2.out;simp at this;omega) (by omega))
       go_wp2_with (go_at_call 135;refine HE.out.mono ?_;rintro e w9 ⟨rfl,vo9,vs9,hS9,hb9⟩)
       go_roundg r.length
       case measure=>simp at hg2;omega
       case rel=>exact ⟨_,_,_,_,_,_,rfl,bstr_snoc HA.out 116,HP2,by have:=HL2.out;rw [Hid];simp at *;omega,hS9,hb9⟩
     · have hstop:popA x O2 R2 W2=(O2,R2,W2):=by
        rcases hcase with rfl | ⟨a,r,rfl⟩
        · rfl
        · exact popA_stop (fun hlt=>hpop ⟨a,r,rfl,hlt⟩) _ _ _
       have HNX:=Lib.hid (stk_of hx.out HK.out HP.out hstop)
       have htail:∃ d0:Bool,decide ((ms:Int) > 0)=d0∧(d0=true→∃ (ps:Addr) (y:Int) (ρ:Nat),aS=some ps∧ms=ρ+1∧wr.cell? (ps.add ρ)=some (.int .i64 y)∧¬ y < x):=by
        refine ⟨_,rfl,fun hd=>?_⟩
        rcases hcase with rfl | ⟨a,r,rfl⟩
        · have:=HMS.out;simp at this;subst this;simp at hd
        · have hmsρ:ms=r.length+1:=by have:=HMS.out;simp at this;omega
          obtain ⟨ps,y',hps,hcy,hy⟩:=hS.ow.o1.rd.int (k:=r.length) (by simp)
          have hya:y'=a:=by have:=hy.out;rw [rev_top] at this;injection this with this;exact this.symm
          exact ⟨ps,y',r.length,hps,hmsρ,hcy,fun hlt=>hpop ⟨a,r,rfl,by rw [←hya];exact hlt⟩⟩
       clear hstop hcase hpop
       obtain ⟨d0,hd0,htop⟩:=htail
       cases d0
       all_goals first
        | (have d1:¬ (0:Int) < (ms:Int):=by simpa using hd0
           clear htop)
        | (obtain ⟨ps,y,ρ,rfl,rfl,hcy,hyx⟩:=htop rfl
           have d1:(ρ:Int) < (ρ:Int)+1:=by omega
           have d4:(0:Int) < (ρ:Int)+1:=by omega
           have d3:decide (y < x)=false:=by simpa using hyx
           clear htop)
       all_goals
        go_upto_region 10 with (at_builtin;refine wpList_app1m rfl _ _ 23 rfl elI rfl hS.ow.o1 (by show Value.slice (some ⟨wr.heap.size,0,none⟩) 1 1=_;simp) rfl hsb _ HLs.out (by omega) (by omega) ?_;intro b5 c5 w5 ho5 hg5 hat5;have hgr:=hS.grow (.tail _ (.head _)) hg5;have hc5:=box_cell hgr.2.1 0;have hf5:=frozen_of_row w5 bs 0 _ _ hgr.2.1)
        have h6:=hS.push (R1:=x :: R2) hg5 (by rw [List.reverse_cons (a:=x),ints_append];exact ho5) (hat_of hat5)
        have hb6:=fun (u:Value)=>(hb.grown hg5 hsb (fun r hr=>(hS.ow.o1.lt r hr).1)).setCell (p:=⟨bs,0,none⟩) (by have:=hS.h0;have:=hS.h1;show w.heap.size≤bs;omega) u
        clear hgr hc5 hf5 c0 c1 c2 f0 f1 f2 hS hb ho5 hg5 hat5
        obtain ⟨c0,c1,c2,f0,f1,f2⟩:=h6.cells
        go_wp2_with fail
        go_roundg (n - (k+1))
        case measure=>omega
        case rel=>exact ⟨k+1,_,_,_,_,_,_,rfl,by omega,by go_num,bstr_snoc HA.out 112,HNX,h6.word _,(hb6 _).setCell (p:=⟨bw,0,none⟩) (by have:=h6.h0;have:=h6.h1;have:=h6.h2;show w.heap.size≤bw;omega) _⟩
  · obtain rfl:k=n:=by omega
    have HF1:Hid (O++R=stkS xs):=by rw [Hid,stkS,←HN.out,HK.out]
    have HF2:Hid (W++List.replicate R.length 116=stkW xs):=by rw [Hid,stkW,←HN.out,HK.out]
    go_wp2
    go_loopg [45] R.length (fun g iv wr=>∃ (O2 R2:List Int) (W2:List UInt8) (A:ByteArray) (vo vs:Value),g=R2.length∧Hid (A=bstr W2)∧Hid (O2++R2=stkS xs)∧Hid (W2++List.replicate R2.length 116=stkW xs)∧Hid (O2.length+R2.length=k∧W2.length=k+O2.length)∧SS w.heap.size bo bs bw wr vo vs O2 R2 A∧Below w.heap.size w wr)
    case atStart=>exact ⟨_,_,_,_,_,_,rfl,HA,HF1,HF2,HLK,hS,hb⟩
    case round =>
     clear hS hb HA HF1 HF2
     obtain ⟨O2,R2,W2,A,vo,vs,hg2,HA,HF1,HF2,HL2,hS,hb⟩:=hrel
     obtain ⟨aS,ms,cs,rfl,HMS,hmcs,_⟩:=hS.ow.o1.rd.formN
     obtain ⟨c0,c1,c2,f0,f1,f2⟩:=hS.cells
     have hAs:A.size≤16:=by rw [HA.out,bstr_size];have:=HL2.out;omega
     have hcase:R2=[]∨∃ a r,R2=a :: r:=by cases R2 with | nil=>exact .inl rfl | cons a r=>exact .inr ⟨a,r,rfl⟩
     rcases hcase with rfl | ⟨y,r,rfl⟩
     · have hms0:ms=0:=by have:=HMS.out;simpa using this
       subst hms0
       have HX1:Hid (O2=stkS xs):=by have:=HF1.out;rw [List.append_nil] at this;exact this
       have HX2:Hid (W2=stkW xs):=by have:=HF2.out;simp at this;exact this
       obtain ⟨ao,mo,co,rfl,HMO,_,_⟩:=hS.ow.o0.rd.formN
       have ho:=hS.ow.o0
       dsimp only at ho
       rw [HX1.out] at ho
       clear hS
       go_wp2
       go_quiet (fail)
       go_wp2
       go_ret2
       exact ⟨.slice ao mo co,by rw [←HX2.out,←HA.out];rfl,ho.drewN _,⟨hb.os,hb.tape,hb.output,hb.size,hb.block⟩⟩
     · have hmsρ:ms=r.length+1:=by have:=HMS.out;simp at this;omega
       have d0:(0:Int) < (ms:Int):=by omega
       have HE:=Lib.hid (i_take w wr w.heap.size bo bs bw _ _ O2 r y A hS hb (Nat.le_refl _) (by have:=HL2.out;omega) (by have:=HL2.out;simp at this;omega) (by omega))
       clear hmsρ
       go_wp2_with (go_at_call 135;refine HE.out.mono ?_;rintro e w9 ⟨rfl,vo9,vs9,hS9,hb9⟩)
       go_roundg r.length
       case measure=>simp at hg2;omega
       case rel=>exact ⟨_,_,_,_,_,_,rfl,bstr_snoc HA.out 116,by have:=HF1.out;rw [Hid,←this];simp,by have:=HF2.out;rw [Hid,←this];simp [List.replicate_succ],by have:=HL2.out;rw [Hid];simp at *;omega,hS9,hb9⟩
theorem I_StackWord (v:Value) (xs:List Int) (w:World) (h:Rd w v (ints xs)):Calls Tryz.prog 26 #[v] w (RetWord (wordOf xs) (shortB xs && canB xs) w):=by
 have HS0:=I_CanStackSort v xs w h
 obtain ⟨aT,n,cT,rfl,HN,hnc,hc⟩:=h.formN
 cases hcan:(shortB xs && canB xs)
 · rw [hcan] at HS0
   have HR:Hid (wordOf xs=[]):=by rw [Hid,wordOf,hcan];rfl
   have HS:=Lib.hid HS0
   clear HS0 hcan
   go_enter Tryz.func26,Tryz.ntmps26
   go_wp2_with (go_at_call 79;refine HS.out.mono ?_;rintro e w1 ⟨rfl,hb1⟩)
   go_ret2
   exact ⟨by rw [HR.out];rfl,hb1⟩
 · rw [hcan] at HS0
   have HR:Hid (wordOf xs=stkW xs):=by rw [Hid,wordOf,hcan];rfl
   have h8:=(shortB_iff.1 (Bool.and_eq_true_iff.1 hcan).1).1
   have HS:=Lib.hid HS0
   have HT:=Lib.hid (fun (W:World) (hW:Below w.heap.size w W)=>i_stackSort _ xs W (h.below hW) h8)
   clear HS0 hcan
   go_enter Tryz.func26,Tryz.ntmps26
   go_wp2_with (first
    | (go_at_call 79;refine HS.out.mono ?_;rintro e w1 ⟨rfl,hb1⟩)
    | (go_at_call 80;refine (HT.out _ hb1).mono ?_;rintro e w2 ⟨v2,rfl,ho2,hb2⟩))
   go_ret2
   exact ⟨by rw [HR.out];rfl,hb1.trans (hb2.mono hb1.size)⟩
theorem I_StackRounds (v:Value) (xs:List Int) (w:World) (h:Rd w v (ints xs)) (hs:shortB xs=true):Calls Tryz.prog 27 #[v] w (RetB (.int .i64 (rndN 9 xs:Nat)) w):=by
 have HS0:=i_isShortOrder v xs w h
 rw [hs] at HS0
 have HS:=Lib.hid HS0
 have H0:Hid (Rnd 0 xs):=Rnd.start (shortB_iff.1 hs).2.2 (shortB_iff.1 hs).1
 have HSH:=Lib.hid hs
 clear HS0 hs
 go_enter Tryz.func27,Tryz.ntmps27
 go_wp2_with (go_at_call 81;refine HS.out.mono ?_;rintro e w1 ⟨rfl,hb1⟩)
 have h1:=h.below hb1
 go_loopg [0,3] 9 (fun g vn iv wr=>∃ (k:Nat) (ys:List Int),g=9 - k∧k≤8∧iv=.int .i64 k∧Rd wr vn (ints ys)∧Below w.heap.size w wr∧Hid (Rnd k ys)∧Hid (shortB ys=true)∧Hid (rndN 9 xs=k+rndN (9 - k) ys))
 case atStart=>exact ⟨0,_,rfl,Nat.zero_le _,rfl,h1,hb1,H0,HSH,by rw [Hid,Nat.zero_add]⟩
 case round =>
  clear h1 hb1
  obtain ⟨k,ys,hg,hk,rfl,hr,hb,HRN,HSY,HE⟩:=hrel
  have hA:=f_IsSorted _ ys wr hr
  cases hadj:adjB ys
  · rw [hadj] at hA
    have HAD:=Lib.hid hA
    obtain ⟨hk8,hst⟩:=HRN.out.step hadj
    have HST:=Lib.hid hst
    have HE2:Hid (rndN 9 xs=(k+1)+rndN (9 - (k+1)) (stkS ys)):=by
     have:=HE.out
     rw [show 9 - k=(9 - (k+1))+1 by omega,rndN_no hadj] at this
     rw [Hid,this];omega
    have HSP:Hid (shortB (stkS ys)=true):=shortB_perm (stkS_perm ys) HSY.out
    have HT:=Lib.hid (fun (W:World) (hW:Dr wr W)=>i_stackSort _ ys W (hr.dr hW) (shortB_iff.1 HSY.out).1)
    clear hA hadj hst HE HRN
    go_wp2_with (first
     | (go_at_call 82;refine HAD.out.mono ?_;rintro e w2 ⟨rfl,hd2⟩)
     | (go_at_call 80;refine (HT.out _ hd2).mono ?_;rintro e w3 ⟨v3,rfl,ho3,hb3⟩))
    have hb4:=hb.trans (((hd2.below _).trans (hb3.mono (hd2.below wr.heap.size).size)).mono hb.size)
    go_roundg (9 - (k+1))
    case measure=>omega
    case rel=>exact ⟨k+1,_,rfl,by omega,by go_num,ho3.rd,hb4,HST,HSP,HE2⟩
  · rw [hadj] at hA
    have HAD:=Lib.hid hA
    have HE2:Hid (rndN 9 xs=k):=by have:=HE.out;rw [rndN_yes hadj] at this;exact this
    clear hA hadj
    go_wp2_with (go_at_call 82;refine HAD.out.mono ?_;rintro e w2 ⟨rfl,hd2⟩)
    go_ret
    exact ⟨by rw [HE2.out];rfl,hb.trans ((hd2.below _).mono hb.size)⟩
def stackLine (xs:List Int):List UInt8 :=
 if shortB xs then (if canB xs then [119,111,114,100,32]++stkW xs else [114,111,117,110,100,115,32]++Lib.itoa (rndN 9 xs:Nat)) else [110,111,110,101]
theorem stkW_len {xs:List Int} : (stkW xs).length≤2 * xs.length:=by
 have:=stkR_len xs xs.length (Nat.le_refl _)
 simp only [stkW,List.length_append,List.length_replicate]
 omega
theorem rnd_I64 (xs:List Int):I64 ((rndN 9 xs:Nat):Int):=by
 have:=rndN_le 9 xs
 unfold I64
 omega
theorem I_StackLine (w:World) (v:Value) (xs:List Int) (h:Rd w v (ints xs)) (_:I64s xs) (_:xs.length≤1048576) (ht:Tab w):Calls Tryz.prog 29 #[v] w (RetB (.string (bstr (stackLine xs))) w):=by
 have HO:=i_isShortOrder v xs w h
 have HW0:=fun (W:World) (hW:Below w.heap.size w W)=>I_StackWord v xs W (h.below hW)
 cases hs:shortB xs
 · rw [hs] at HO
   have HR:Hid (stackLine xs=[110,111,110,101]):=by rw [Hid,stackLine,hs];rfl
   have HOK:=Lib.hid HO
   clear HO hs HW0
   obtain ⟨a,n,c,rfl,HN,hnc,hc⟩:=h.formN
   go_enter Tryz.func29,Tryz.ntmps29
   go_wp2_with (go_at_call 81;refine HOK.out.mono ?_;rintro e w' ⟨rfl,hb1⟩)
   go_ret
   exact ⟨by rw [HR.out];rfl,hb1⟩
 · rw [hs] at HO HW0
   have HOK:=Lib.hid HO
   have h8:=(shortB_iff.1 hs).1
   cases hcan:canB xs
   · rw [hcan] at HW0
     have HR:Hid (stackLine xs=[114,111,117,110,100,115,32]++Lib.itoa (rndN 9 xs:Nat)):=by rw [Hid,stackLine,hs,hcan];rfl
     have HWK:=Lib.hid HW0
     have HRK:=Lib.hid (fun (W:World) (hW:Below w.heap.size w W)=>I_StackRounds v xs W (h.below hW) hs)
     have HFI:=Lib.hid (fun (W:World) (hW:Below w.heap.size w W)=>I_FormatInt W _ (rnd_I64 xs) (ht.below hW))
     have hlen:=(itoa_len (rnd_I64 xs)).2
     obtain ⟨A,hA⟩:∃ A,bstr (Lib.itoa ((rndN 9 xs:Nat):Int))=A:=⟨_,rfl⟩
     have hAs:A.size≤20:=by rw [←hA,bstr_size];exact hlen
     have HR1:Hid (bstr (stackLine xs)=(⟨#[114,111,117,110,100,115,32]⟩:ByteArray)++A):=by rw [Hid,HR.out,←hA];exact (bstr_app _ _).symm
     have HFI2:Hid (∀ (W:World) (hW:Below w.heap.size w W),Calls Tryz.prog 14 #[.int .i64 ((rndN 9 xs:Nat):Int)] W (RetB (.string A) W)):=by rw [←hA];exact HFI.out
     have q1:¬ 9223372036854775807 < 7+A.size:=by omega
     generalize rndN 9 xs=rr at *
     clear HO hs hcan HW0 hA HFI hlen
     obtain ⟨a,n,c,rfl,HN,hnc,hc⟩:=h.formN
     go_enter Tryz.func29,Tryz.ntmps29
     go_wp2_with (first
      | (go_at_call 81;refine HOK.out.mono ?_;rintro e w' ⟨rfl,hb1⟩)
      | (go_at_call 26;refine (HWK.out _ hb1).mono ?_;rintro e w2 ⟨rfl,hb2⟩;have hb2':=hb1.trans (hb2.mono hb1.size))
      | (go_at_call 27;refine (HRK.out _ hb2').mono ?_;rintro e w3 ⟨rfl,hb3⟩;have hb3':=hb2'.trans (hb3.mono hb2'.size))
      | (go_at_call 14;refine (HFI2.out _ hb3').mono ?_;rintro e w4 ⟨rfl,hb4⟩))
     go_ret
     exact ⟨by rw [HR1.out];rfl,hb3'.trans (hb4.mono hb3'.size)⟩
   · rw [hcan] at HW0
     have HR:Hid (stackLine xs=[119,111,114,100,32]++wordOf xs):=by rw [Hid,stackLine,wordOf,hs,hcan];rfl
     have HWK:=Lib.hid HW0
     have hlen:=stkW_len (xs:=xs)
     obtain ⟨A,hA⟩:∃ A,bstr (wordOf xs)=A:=⟨_,rfl⟩
     have hAs:A.size≤20:=by rw [←hA,bstr_size,wordOf,hs,hcan];show (stkW xs).length≤20;omega
     have HR1:Hid (bstr (stackLine xs)=(⟨#[119,111,114,100,32]⟩:ByteArray)++A):=by rw [Hid,HR.out,←hA];exact (bstr_app _ _).symm
     have HWK2:Hid (∀ (W:World) (hW:Below w.heap.size w W),Calls Tryz.prog 26 #[v] W fun e w'=>e=.returned (.tuple #[.string A,.bool true])∧Below W.heap.size W w'):=by rw [←hA];exact HWK.out
     have q1:¬ 9223372036854775807 < 5+A.size:=by omega
     clear HO hs hcan HW0 hA hlen HWK
     obtain ⟨a,n,c,rfl,HN,hnc,hc⟩:=h.formN
     go_enter Tryz.func29,Tryz.ntmps29
     go_wp2_with (first
      | (go_at_call 81;refine HOK.out.mono ?_;rintro e w' ⟨rfl,hb1⟩)
      | (go_at_call 26;refine (HWK2.out _ hb1).mono ?_;rintro e w2 ⟨rfl,hb2⟩;have hb2':=hb1.trans (hb2.mono hb1.size)))
     go_ret
     exact ⟨by rw [HR1.out];rfl,hb2'⟩
theorem i_FarthestMove (v:Value) (xs:List Int) (w:World) (h:Rd w v (ints xs)) (hl:xs.length≤12):Calls Tryz.prog 60 #[v] w (RetB (.int .i64 (farN (ordK xs xs.length) xs.length)) w):=by
 have HO:=i_isTwelve v xs w h
 rw [show decide (xs.length≤12)=true by simpa using hl] at HO
 have HOK:=Lib.hid HO
 have HC:=Lib.hid (i_stable v xs w h hl)
 obtain ⟨a,n,c,rfl,HN,hnc,hc⟩:=h.formN
 have h12:n≤12:=by have:=HN.out;omega
 rw [←HN.out] at HC ⊢
 clear HO
 have hq:∀ y∈ordK xs n,0≤y∧y < (n:Int):=fun y hy=>by obtain ⟨j,hj,rfl⟩:=ordK_mem hy;omega
 have hqL:=ordK_len xs n
 obtain ⟨q,hqe⟩:∃ q,ordK xs n=q:=⟨_,rfl⟩
 rw [hqe] at HC hq hqL ⊢
 clear hqe
 have HQ:=Lib.hid hq
 have HQL:=Lib.hid hqL
 clear hq hqL
 go_enter Tryz.func60,Tryz.ntmps60
 go_wp2_with (first
  | (go_at_call 56;refine HOK.out.mono ?_;rintro e w' ⟨rfl,rfl⟩)
  | (go_at_call 115;refine HC.out.mono ?_;rintro e w2 ⟨v2,rfl,ho2,hb2⟩;obtain ⟨a2,m2,c2,rfl,HM2,_,_⟩:=ho2.rd.formN))
 have hm2:m2=n:=by have:=HM2.out;have:=HQL.out;omega
 subst hm2
 have hr2:=ho2.rd
 go_loopg [3,12] m2 (fun g sv iv wr=>∃ (k:Nat) (z:Int),g=m2 - k∧k≤m2∧iv=.int .i64 k∧sv=.int .i64 z∧0≤z∧z≤m2∧w2=wr∧Hid (z=farN q k))
 case atStart=>exact ⟨0,0,rfl,Nat.zero_le _,rfl,rfl,Int.le_refl _,by omega,rfl,rfl⟩
 case round =>
  obtain ⟨k,z,hg,hk,rfl,rfl,hz0,hz1,rfl,HZ⟩:=hrel
  by_cases hlt:k < m2
  · obtain ⟨ad,y,rfl,hcy,hy⟩:=hr2.int (k:=k) (by rw [HQL.out];exact hlt)
    have hyb:=HQ.out y (List.mem_of_getElem? hy.out)
    have HT2:Hid (max z (max ((k:Int) - y) (y - (k:Int)))=farN q (k+1)):=by rw [Hid,farN,getD_ok hy.out,←HZ.out]
    have i1:(k:Int) < (m2:Int):=by omega
    go_wp2
    all_goals (
     go_roundg (m2 - (k+1))
     case measure=>omega
     case rel=>exact ⟨k+1,_,rfl,by omega,by go_num,rfl,by omega,by omega,rfl,by have:=HT2.out;rw [Hid,←this] <;> omega⟩)
  · obtain rfl:k=m2:=by omega
    go_wp2
    go_ret
    exact ⟨by rw [←HZ.out];rfl,hb2⟩
def disL (xs:List Int):List Int:=[((invN xs:Nat):Int),((runN xs xs.length:Nat):Int),(xs.length:Int) - dpB xs xs.length,farN (ordK xs xs.length) xs.length]
def disLine (xs:List Int):List UInt8:=if xs.length≤12 then numsB (disL xs) else [110,111,110,101]
theorem disL_I64 {xs:List Int} (hl:xs.length≤12):I64s (disL xs):=by
 have h1:invN xs≤144:=Nat.le_trans (invN_le xs) (Nat.mul_le_mul hl hl)
 have h2:=runN_le xs xs.length
 have h3:=dpB_bd xs xs.length
 have h4:=farN_bd (q:=ordK xs xs.length) (m:=(xs.length:Int)) (fun y hy=>by obtain ⟨j,hj,rfl⟩:=ordK_mem hy;omega) (by omega) xs.length (Int.le_refl _)
 intro x hx
 simp only [disL,List.mem_cons,List.not_mem_nil,or_false] at hx
 unfold I64
 rcases hx with rfl | rfl | rfl | rfl <;> omega
theorem i_DisorderOf (v:Value) (xs:List Int) (w:World) (h:Rd w v (ints xs)) (hl:xs.length≤12):Calls Tryz.prog 12 #[v] w (RetOwn 3 (ints (disL xs)) w):=by
 have HO:=i_isTwelve v xs w h
 rw [show decide (xs.length≤12)=true by simpa using hl] at HO
 have HOK:=Lib.hid HO
 have H1:=Lib.hid (fun (W:World) (hW:Below w.heap.size w W)=>i_InversionsOf v xs W (h.below hW) hl)
 have H2:=Lib.hid (fun (W:World) (hW:Below w.heap.size w W)=>i_RunsOf v xs W (h.below hW) hl)
 have H3:=Lib.hid (fun (W:World) (hW:Below w.heap.size w W)=>i_RemoveLeast v xs W (h.below hW) hl)
 have H4:=Lib.hid (fun (W:World) (hW:Below w.heap.size w W)=>i_FarthestMove v xs W (h.below hW) hl)
 have HD:Hid (ints (disL xs)=[.int .i64 (invN xs:Nat),.int .i64 (runN xs xs.length:Nat),.int .i64 ((xs.length:Int) - dpB xs xs.length),.int .i64 (farN (ordK xs xs.length) xs.length)]):=rfl
 obtain ⟨a,n,c,rfl,HN,hnc,hc⟩:=h.formN
 clear HO
 generalize ((xs.length:Int) - dpB xs xs.length)=z3 at *
 generalize farN (ordK xs xs.length) xs.length=z4 at *
 generalize invN xs=z1 at *
 generalize runN xs xs.length=z2 at *
 go_enter Tryz.func12,Tryz.ntmps12
 go_wp2_with (first
  | (go_at_call 56;refine HOK.out.mono ?_;rintro e w' ⟨rfl,rfl⟩;have b0:Below w.heap.size w w:=Below.refl _ _)
  | (go_at_call 57;refine (H1.out _ b0).mono ?_;rintro e w1 ⟨rfl,hb1⟩)
  | (go_at_call 58;refine (H2.out _ hb1).mono ?_;rintro e w2 ⟨rfl,hb2⟩;have hb2':=hb1.trans (hb2.mono hb1.size))
  | (go_at_call 59;refine (H3.out _ hb2').mono ?_;rintro e w3 ⟨rfl,hb3⟩;have hb3':=hb2'.trans (hb3.mono hb2'.size))
  | (go_at_call 60;refine (H4.out _ hb3').mono ?_;rintro e w4 ⟨rfl,hb4⟩;have hb4':=hb3'.trans (hb4.mono hb3'.size)))
 go_ret
 have hlit:=Own.lit w4 3 w.heap.size #[.int .i64 (z1:Int),.int .i64 (z2:Int),.int .i64 z3,.int .i64 z4] hb4'.size (by simp)
 exact ⟨_,rfl,by rw [HD.out];exact hlit,hb4'.alloc hb4'.size _⟩
theorem I_DisorderLine (w:World) (v:Value) (xs:List Int) (h:Rd w v (ints xs)) (_:I64s xs) (_:xs.length≤1048576) (ht:Tab w):Calls Tryz.prog 11 #[v] w (RetB (.string (bstr (disLine xs))) w):=by
 have HO:=i_isTwelve v xs w h
 by_cases hl:xs.length≤12
 · rw [show decide (xs.length≤12)=true by simpa using hl] at HO
   have HOK:=Lib.hid HO
   have HD:=Lib.hid (i_DisorderOf v xs w h hl)
   have hi:=disL_I64 hl
   have hn4:(disL xs).length=4:=rfl
   have HR:Hid (disLine xs=numsB (disL xs)):=by rw [Hid,disLine,if_pos hl]
   have HF0:=fun (W:World) (u:Value) (hu:Rd W u (ints (disL xs))) (hW:Tab W)=>i_numbers W u _ hu hi (by omega) hW
   have HF:=Lib.hid HF0
   obtain ⟨a,n,c,rfl,HN,hnc,hc⟩:=h.formN
   clear HO hi hn4 HF0 hl
   go_enter Tryz.func11,Tryz.ntmps11
   go_wp2_with (first
    | (go_at_call 56;refine HOK.out.mono ?_;rintro e w' ⟨rfl,rfl⟩)
    | (go_at_call 12;refine HD.out.mono ?_;rintro e w2 ⟨v2,rfl,ho2,hb2⟩)
    | (go_at_call 46;(with_reducible refine (HF.out _ _ ho2.rd (ht.below hb2)).mono ?_);rintro e w3 ⟨rfl,hb3⟩))
   go_ret
   exact ⟨by rw [HR.out];rfl,hb2.trans (hb3.mono hb2.size)⟩
 · rw [show decide (xs.length≤12)=false by simpa using hl] at HO
   have HOK:=Lib.hid HO
   have HR:Hid (disLine xs=[110,111,110,101]):=by rw [Hid,disLine,if_neg hl]
   obtain ⟨a,n,c,rfl,HN,hnc,hc⟩:=h.formN
   clear HO hl
   go_enter Tryz.func11,Tryz.ntmps11
   go_wp2_with (go_at_call 56;refine HOK.out.mono ?_;rintro e w' ⟨rfl,rfl⟩)
   go_ret
   exact ⟨by rw [HR.out];rfl,Below.refl _ _⟩
def noneB:List UInt8:=[110,111,110,101]
def lateLine (T:List Int) (s:Int):List UInt8:=if lateOkB T s then numsB (lateOut T s)++[32]++numsB (lateLate T s) else noneB
theorem late_I64 {T:List Int} {s:Int} (h:lateOkB T s=true):I64s (lateOut T s)∧I64s (lateLate T s):=by
 obtain ⟨⟨ha,hb⟩,hc⟩:=lateOkB_iff.1 h
 obtain ⟨f1,f2,f3,f4,f5,f6,f7,f8,f9,f10⟩:=late_facts (T:=T) (s:=s) hb hc
 refine ⟨fun x hx=>?_,fun x hx=>?_⟩
 · obtain ⟨i,p,rfl,hip,hp,_⟩:=f8 x hx
   unfold I64
   omega
 · obtain ⟨i,rfl,_,hin,_⟩:=f9 x hx
   unfold I64
   omega
theorem I_LateLine (w:World) (v:Value) (xs:List Int) (h:Rd w v (ints xs)) (fx:I64s xs) (lx:xs.length≤1048576) (s:Int) (hs:I64 s) (ht:Tab w):Calls Tryz.prog 33 #[v,.int .i64 s] w (RetB (.string (bstr (lateLine xs s))) w):=by
 have HO:=i_isLate v xs s w h
 cases hok:lateOkB xs s
 · rw [hok] at HO
   have HR0:Hid (lateLine xs s=noneB):=by rw [Hid,lateLine,hok];rfl
   have HOK:=Lib.hid HO
   clear HO hok
   obtain ⟨a,c,rfl,h2,h3⟩:=h.formi
   go_enter Tryz.func33,Tryz.ntmps33
   go_wp2_with (go_at_call 77;refine HOK.out.mono ?_;rintro e w' ⟨rfl,rfl⟩)
   go_ret
   exact ⟨by rw [HR0.out];rfl,Below.refl _ _⟩
 · rw [hok] at HO
   have HR0:Hid (lateLine xs s=numsB (lateOut xs s)++[32]++numsB (lateLate xs s)):=by rw [Hid,lateLine,hok];rfl
   obtain ⟨⟨ha,hb⟩,hc⟩:=lateOkB_iff.1 hok
   have HE:=Lib.hid (i_emit v xs s w h ha hb hc)
   obtain ⟨l0,l1,_⟩:=late_lens hok
   obtain ⟨i0,i1⟩:=late_I64 hok
   have z0:=numsB_le i0 l0
   have z1:=numsB_le i1 l1
   have HL:=Lib.hid (fun W=>i_line2 (numsB (lateOut xs s)) (numsB (lateLate xs s)) (by omega) (by omega) W)
   have GF0:=Lib.hid (fun (W:World) (hW:Tab W) (u:Value) (hu:Rd W u (ints (lateOut xs s)))=>i_numbers W u _ hu i0 (by omega) hW)
   have GF1:=Lib.hid (fun (W:World) (hW:Tab W) (u:Value) (hu:Rd W u (ints (lateLate xs s)))=>i_numbers W u _ hu i1 (by omega) hW)
   have HOK:=Lib.hid HO
   clear HO hok l0 l1 i0 i1 z0 z1 ha hb hc
   obtain ⟨a,c,rfl,h2,h3⟩:=h.formi
   go_enter Tryz.func33,Tryz.ntmps33
   go_upto_region 4 with (first
    | (go_at_call 77;refine HOK.out.mono ?_;rintro e w' ⟨rfl,rfl⟩)
    | (go_at_call 78;refine HE.out.mono ?_;rintro e w2 ⟨vo,vl,vm,vd,rfl,hO,hb⟩;obtain ⟨ao,no,co,rfl,_,_,_⟩:=hO.o0.rd.formN;obtain ⟨al,nl,cl,rfl,_,_,_⟩:=hO.o1.rd.formN;obtain ⟨am,nm,cm,rfl,_,_,_⟩:=hO.o2.rd.formN;obtain ⟨ad,nd,cd,rfl,_,_,_⟩:=hO.o3.rd.formN))
   have ro:=hO.o0.rd
   have rl:=hO.o1.rd
   obtain ⟨wB,hwB⟩:∃ wB,w2.alloc (.cells #[.slice ao no co,.slice al nl cl,.slice am nm cm,.slice ad nd cd,.int .i64 (lateMost xs s)] 83)=wB:=⟨_,rfl⟩
   have hbB:Below w2.heap.size w2 wB:=by rw [←hwB];exact (Below.refl _ _).alloc (Nat.le_refl _) _
   have c0:wB.cell? ⟨w2.heap.size,0,none⟩=some (.slice ao no co):=by rw [←hwB];exact (cell_of_row _ _ 0 _ _ (0,0) (heap_alloc_new w2 _)).trans rfl
   have c1:wB.cell? ⟨w2.heap.size,1,none⟩=some (.slice al nl cl):=by rw [←hwB];exact (cell_of_row _ _ 1 _ _ (0,0) (heap_alloc_new w2 _)).trans rfl
   rw [hwB]
   clear hwB
   have bt:=hb.trans (hbB.mono hb.size)
   replace ro:=ro.below hbB
   replace rl:=rl.below hbB
   have tB:=ht.below bt
   have HT:Hid (∀ wx:World,Below wB.heap.size wB wx→Below wB.heap.size wB wx∧wx.cell? ⟨w2.heap.size,0,none⟩=some (.slice ao no co)∧wx.cell? ⟨w2.heap.size,1,none⟩=some (.slice al nl cl)):=fun wx hb=>⟨hb,(hb.cell (World.block_lt_of_cell? _ _ c0)).trans c0,(hb.cell (World.block_lt_of_cell? _ _ c1)).trans c1⟩
   have K0:Hid (∀ W:World,Below wB.heap.size wB W→Calls Tryz.prog 46 #[.slice ao no co] W fun e w'=>e=.returned (.string (bstr (numsB (lateOut xs s))))∧Below wB.heap.size wB w'):=fun W hW=>(GF0.out W (tB.below hW) _ (ro.below hW)).mono fun e w' h=>⟨h.1,hW.trans (h.2.mono hW.size)⟩
   have K1:Hid (∀ W:World,Below wB.heap.size wB W→Calls Tryz.prog 46 #[.slice al nl cl] W fun e w'=>e=.returned (.string (bstr (numsB (lateLate xs s))))∧Below wB.heap.size wB w'):=fun W hW=>(GF1.out W (tB.below hW) _ (rl.below hW)).mono fun e w' h=>⟨h.1,hW.trans (h.2.mono hW.size)⟩
   have K2:Hid (∀ W:World,Below wB.heap.size wB W→Calls Tryz.prog 61 #[.slice (some ⟨W.heap.size,0,none⟩) 2 2] (W.alloc (.cells #[.string (bstr (numsB (lateOut xs s))),.string (bstr (numsB (lateLate xs s)))] 9)) fun e w'=>e=.returned (.string (bstr (numsB (lateOut xs s)++[32]++numsB (lateLate xs s))))∧Below wB.heap.size wB w'):=fun W hW=>(HL.out W).mono fun e w' h=>⟨h.1,hW.trans (h.2.mono hW.size)⟩
   have BT:=Lib.hid bt
   clear hO hb GF0 GF1 HL HE HOK c0 c1 hbB ro rl tB bt
   go_region_held3 (fun wx=>Below wB.heap.size wB wx∧wx.cell? ⟨w2.heap.size,0,none⟩=some (.slice ao no co)∧wx.cell? ⟨w2.heap.size,1,none⟩=some (.slice al nl cl))
    (first | exact HT.out _ g4 | exact HT.out _ g3 | exact HT.out _ (g4.alloc g4.size _) | exact HT.out _ (g3.alloc g3.size _) | exact HT.out _ g5 | exact HT.out _ (by exact ⟨rfl,rfl,rfl,Nat.le_refl _,fun _ _=>rfl⟩) | go_keep)
    (first
     | (go_at_call 46;(with_reducible refine (K0.out _ (by exact (show _∧_∧_ from by assumption).1)).mono ?_);rintro e w3 ⟨rfl,g3⟩)
     | (go_at_call 46;(with_reducible refine (K1.out _ (by exact (show _∧_∧_ from by assumption).1)).mono ?_);rintro e w4 ⟨rfl,g4⟩)
     | (go_at_call 61;(refine (K2.out w4 g4).mono ?_);rintro e w5 ⟨rfl,g5⟩)
     | (go_at_call 61;(refine (K2.out w3 g3).mono ?_);rintro e w5 ⟨rfl,g5⟩))
   all_goals
    go_wp2_with fail
    go_ret
    exact ⟨by rw [HR0.out,List.append_assoc];rfl,BT.out.trans (Below.mono ⟨g5.os,g5.tape,g5.output,g5.size,g5.block⟩ BT.out.size)⟩
end Go.Proofs.YtggblfnajeikjaaGreatDoor
