/- Joined texts of the proof: Cat, FabB. -/
import Derived.Lib.AppendZeros
import Derived.Test.YtggblfnajeikjaaGreatDoorJ13
namespace Go.Proofs.YtggblfnajeikjaaGreatDoor
open Go.RowKit
set_option linter.unusedVariables false
set_option linter.unusedSimpArgs false
set_option maxRecDepth 100000
set_option maxHeartbeats 16000000
theorem f_GrowNil (n:Nat) (w:World) (hn:n≤1000000):Calls Tryz.prog 189 #[.slice none 0 0,.int .i64 (n:Int)] w (RetOwn 3 (ints []) w):=by
 have i0:¬ (n:Int) < 0:=by omega
 rcases Nat.eq_zero_or_pos n with h0 | h0
 · subst h0
   go_enter Tryz.func189,Tryz.ntmps189
   go_wp2
   go_ret
   exact ⟨_,rfl,Own.nil _ _ _,Below.refl _ _⟩
 · obtain ⟨i,hu,hi,hz,hs1,hby,hzc⟩:=elI.ex
   have hr:=fun ty=>Lib.run_append_nil_zeros (P:=Tryz.prog) w 23 3 ty 3 i _ .i64 .i64 hu Tryz.underlying3 hi hz n h0 (by omega) (by omega) (by rw [hby];omega)
   have hge:=grownCap_ge w n 0 3
   have hcm:grownCap w n 0 3≤maxLen:=grownCap_le_maxLen w _ _ 3 (by simp only [maxLen];omega)
   generalize grownCap w n 0 3=c at hr hge hcm
   simp only [maxLen] at hcm
   have ho:Own (w.drew.alloc (.cells (Builtin.zeroCells (Value.int .i64 0).cells n++Builtin.zeroCells (Value.int .i64 0).cells (c - n)) 3)) 3 w.heap.size (.slice (some ⟨w.heap.size,0,none⟩) 0 c) (ints []):=by
    refine .inr ⟨w.heap.size,0,c,_,by simp [ints],Nat.le_refl _,heap_alloc_new w.drew _,by simp [ints],by omega,?_,fun j u hu=>by simp [ints] at hu⟩
    simp only [Array.size_append,size_zeroCells,hzc]
    simp
    omega
   have hb:Below w.heap.size w (w.drew.alloc (.cells (Builtin.zeroCells (Value.int .i64 0).cells n++Builtin.zeroCells (Value.int .i64 0).cells (c - n)) 3)):=((Below.refl _ _).drew).alloc (Nat.le_refl _) _
   obtain ⟨w2,hw2⟩:∃ w2,w.drew.alloc (.cells (Builtin.zeroCells (Value.int .i64 0).cells n++Builtin.zeroCells (Value.int .i64 0).cells (c - n)) 3)=w2:=⟨_,rfl⟩
   rw [hw2] at hr ho hb
   have i1:(n:Int) > 0:=by omega
   go_enter Tryz.func189,Tryz.ntmps189
   go_wp2_with (at_builtin;refine Lib.wpList_append_run _ rfl _ _ _ _ rfl _ _ rfl rfl _ _ (hr _) ?_)
   go_ret
   exact ⟨_,rfl,ho,hb⟩
theorem flat_len (xss:List (List Int)):xss.flatten.length=tot xss:=by
 induction xss with
 | nil=>rfl
 | cons x t ih=>simp [tot] at ih ⊢;omega
theorem flat_take {xss:List (List Int)} {xs:List Int} {k:Nat} (h:xss[k]?=some xs):(xss.take (k+1)).flatten=(xss.take k).flatten++xs:=by
 rw [take_snoc' h];simp
theorem tot_take {xss:List (List Int)} {xs:List Int} {k:Nat} (h:xss[k]?=some xs):tot (xss.take (k+1))=tot (xss.take k)+xs.length:=by
 rw [take_snoc' h,tot_append,tot_one]
theorem f_Concat (v:Value) (xss:List (List Int)) (w:World) (h:Rd2 w v xss) (ht:tot xss≤1000000):Calls Tryz.prog 143 #[v] w (RetOwn 3 (ints xss.flatten) w):=by
 obtain ⟨a,c,rfl,hnc,hc9⟩:=h.form
 obtain ⟨n,hn⟩:∃ n,xss.length=n:=⟨_,rfl⟩
 rw [hn] at h hnc ⊢
 have HN:=Lib.hid hn
 have HTT:=Lib.hid (fun k=>tot_take_le xss k)
 have HFI:Hid (xss.flatten=(xss.take n).flatten):=by rw [Hid,←hn,List.take_length]
 clear hn
 go_enter Tryz.func143,Tryz.ntmps143
 go_wp2
 go_loopg [3,11] n (fun g sv iv wr=>∃ k s:Nat,g=n - k∧k≤n∧iv=.int .i64 k∧sv=.int .i64 (s:Int)∧Hid (s=tot (xss.take k))∧w=wr)
 case atStart=>exact ⟨0,0,rfl,Nat.zero_le _,rfl,rfl,rfl,rfl⟩
 case round =>
  obtain ⟨k,s,hg,hk,rfl,rfl,HS,rfl⟩:=hrel
  have hs1:s≤1000000:=by have:=HTT.out k;have:=HS.out;omega
  by_cases hlt:k < n
  · obtain ⟨ad,b,m,d,xs,rfl,hcr,HX,HM,hmd,hd,hrr⟩:=h.row (k:=k) (by rw [HN.out];exact hlt)
    have HS2:Hid (s+m=tot (xss.take (k+1))):=by rw [Hid,tot_take HX.out,HS.out,HM.out]
    have hs2:s+m≤1000000:=by have:=HTT.out (k+1);have:=HS2.out;omega
    have i1:¬ (s:Int)+(m:Int) < 0:=by omega
    go_wp2
    go_roundg (n - (k+1))
    case measure=>omega
    case rel=>exact ⟨k+1,s+m,rfl,by omega,by go_num,by go_num,HS2,rfl⟩
  · obtain rfl:k=n:=by omega
    go_wp2_with (go_at_call 189;refine (f_GrowNil s _ hs1).mono ?_;rintro e w3 ⟨v3,rfl,ho3,hb3⟩)
    go_loopg [6,27] k (fun g vo iv wr=>∃ q:Nat,g=k - q∧q≤k∧iv=.int .i64 q∧Own wr 3 w.heap.size vo (ints (xss.take q).flatten)∧Below w.heap.size w wr)
    case atStart=>exact ⟨0,rfl,Nat.zero_le _,rfl,by simpa using ho3,hb3⟩
    case round =>
     clear ho3 hb3
     obtain ⟨q,hg,hq,rfl,ho,hb⟩:=hrel
     obtain ⟨ao,no,co,rfl,HNO,_,_⟩:=ho.rd.formN
     by_cases hlt:q < k
     · obtain ⟨ad,b,m,d,xs,rfl,hcr,HX,HM,hmd,hd,hrr⟩:=(h.below hb).row (k:=q) (by rw [HN.out];exact hlt)
       have HLN:Hid ((ints (xss.take q).flatten).length+(ints xs).length=no+m):=by rw [Hid,ints_length,ints_length,HNO.out,HM.out]
       have HVV:Hid (ints (xss.take q).flatten++ints xs=ints (xss.take (q+1)).flatten):=by rw [Hid,flat_take HX.out,ints_append]
       have hs2:no+m≤1000000:=by
        have h1:=tot_take HX.out
        have h2:=HTT.out (q+1)
        have h3:=HNO.out
        rw [flat_len] at h3
        have h4:=HM.out
        omega
       have hsb:=hb.size
       have hn1:(no+m) * 8≤140737488355328:=by omega
       have hn2:no+m≤9223372036854775807:=by omega
       go_wp2_with (at_builtin;(refine wpList_appn rfl _ _ 23 rfl elI ho hrr ?_ ?_ (oneCell_ints1 xs) hsb (no+m) HLN.out hn1 hn2 ?_);(focus (simp [Act.eval]));(focus (simp [Act.eval]));intro bn cn' w6 ho6 hg6 hat6)
       go_roundg (k - (q+1))
       case measure=>omega
       case rel=>exact ⟨q+1,rfl,by omega,by go_num,by rw [←HVV.out];exact ho6,hb.grown hg6 hsb fun r hr=>(ho.lt r hr).1⟩
     · obtain rfl:q=k:=by omega
       go_wp2
       go_ret
       exact ⟨_,rfl,by rw [HFI.out];exact ho,hb⟩
theorem mk_ints (h:Nat) (hh:h≤1000):∃ Z:Array Value,Z.toList=List.replicate h (.int .i64 0)∧∀ W:World,(Instr.makeSlice 23 (.int .i64 (h:Int)) (.int .i64 (h:Int))).run Tryz.prog W=.ok (.slice (some ⟨W.heap.size,0,none⟩) h h) (W.alloc (.cells Z 3)):=by
 obtain ⟨i,hu,hi,hz,hs1,hby,hzs⟩:=elI.ex
 have hb':(i.bytes:Int) * (h:Int)≤281474976710656:=by rw [hby];omega
 refine ⟨madeCells (Value.int .i64 0).cells (h * i.size),by rw [hzs,hs1,Nat.mul_one,toList_madeCells_one],fun W=>?_⟩
 have hr:=run_make (P:=Tryz.prog) W 23 3 i _ hu hi hz .i64 .i64 h h (by omega) (Int.le_refl _) hb' (by omega)
 simpa only [Int.toNat_natCast] using hr
theorem OwnsL.mk2 {w:World} {E B h:Nat} {L:List (Value × List Int)} {Z:Array Value} {xs:List Int} (H:OwnsL w E B L) (hB:B≤w.heap.size) (hZ:Z.toList=ints xs) (hs:Z.size=h) (hh:h≤1000) :
 OwnsL ((w.alloc (.cells Z E)).alloc (.cells Z E)) E B (L++[(.slice (some ⟨w.heap.size,0,none⟩) h h,xs),(.slice (some ⟨w.heap.size+1,0,none⟩) h h,xs)]):=by
 have o1:=Own.lit w E w.heap.size Z (Nat.le_refl _) (by omega)
 rw [hZ,hs] at o1
 have h1:=H.snoc ((Below.refl _ _).alloc (Nat.le_refl _) (.cells Z E)) hB o1
 have o2:=Own.lit (w.alloc (.cells Z E)) E (w.alloc (.cells Z E)).heap.size Z (Nat.le_refl _) (by omega)
 rw [hZ,hs] at o2
 have h2:=h1.snoc ((Below.refl _ _).alloc (Nat.le_refl _) (.cells Z E)) (by simp;omega) o2
 simpa [List.append_assoc] using h2
theorem OwnsL.swap12 {w:World} {E B:Nat} {p0 p1 p2:Value × List Int} (H:OwnsL w E B [p0,p1,p2]):OwnsL w E B [p0,p2,p1]:=by
 obtain ⟨h1,h2⟩:=H
 refine ⟨fun p hp=>h1 p (by simp at hp ⊢;rcases hp with e | e | e <;> simp [e]),?_⟩
 simp only [List.pairwise_cons,List.mem_cons,List.not_mem_nil,or_false,forall_eq_or_imp,forall_eq] at h2 ⊢
 obtain ⟨⟨a,b⟩,c,d⟩:=h2
 exact ⟨⟨b,a⟩,fun g x y=>c g y x,by simp⟩
theorem OwnsL.swap34 {w:World} {E B:Nat} {p0 p1 p2 p3 p4:Value × List Int} (H:OwnsL w E B [p0,p1,p2,p3,p4]):OwnsL w E B [p0,p1,p2,p4,p3]:=by
 obtain ⟨h1,h2⟩:=H
 refine ⟨fun p hp=>h1 p (by simp at hp ⊢;rcases hp with e | e | e | e | e <;> simp [e]),?_⟩
 simp only [List.pairwise_cons,List.mem_cons,List.not_mem_nil,or_false,forall_eq_or_imp,forall_eq] at h2 ⊢
 obtain ⟨⟨a1,a2,a3,a4⟩,⟨b1,b2,b3⟩,⟨c1,c2⟩,d,_⟩:=h2
 exact ⟨⟨a1,a2,a4,a3⟩,⟨b1,b3,b2⟩,⟨c2,c1⟩,fun g x y=>d g y x,by simp⟩
theorem OwnsL.of_heap {w w':World} {E B:Nat} {L:List (Value × List Int)} (H:OwnsL w E B L) (e:w'.heap=w.heap):OwnsL w' E B L:=⟨fun p hp=>(H.own p hp).keep fun k _ _=>by rw [e],H.ap⟩
section
variable {w w':World} {E F B:Nat} {L:List (Value × List Int)} {b:Addr} {n c k:Nat} {xs:List Int} {p0 p1 p2 p3:Value × List Int}
theorem OwnsL.st1 (h:OwnsL w E B (p0 :: (.slice (some b) n c,xs) :: L)) (hk:k < xs.length) (y:Int):OwnsL (w.setCell (b.add k) (.int .i64 y)) E B (p0 :: (.slice (some b) n c,xs.set k y) :: L) :=
 h.t1 (h.o1.seti rfl hk y).2 (h.o1.seti rfl hk y).1 fun g hg=>.inl hg
theorem OwnsL.st2 (h:OwnsL w E B (p0 :: p1 :: (.slice (some b) n c,xs) :: L)) (hk:k < xs.length) (y:Int):OwnsL (w.setCell (b.add k) (.int .i64 y)) E B (p0 :: p1 :: (.slice (some b) n c,xs.set k y) :: L) :=
 h.t2 (h.o2.seti rfl hk y).2 (h.o2.seti rfl hk y).1 fun g hg=>.inl hg
theorem OwnsL.st3 (h:OwnsL w E B (p0 :: p1 :: p2 :: (.slice (some b) n c,xs) :: L)) (hk:k < xs.length) (y:Int):OwnsL (w.setCell (b.add k) (.int .i64 y)) E B (p0 :: p1 :: p2 :: (.slice (some b) n c,xs.set k y) :: L) :=
 h.t3 (h.o3.seti rfl hk y).2 (h.o3.seti rfl hk y).1 fun g hg=>.inl hg
theorem OwnsL.st4 (h:OwnsL w E B (p0 :: p1 :: p2 :: p3 :: (.slice (some b) n c,xs) :: L)) (hk:k < xs.length) (y:Int):OwnsL (w.setCell (b.add k) (.int .i64 y)) E B (p0 :: p1 :: p2 :: p3 :: (.slice (some b) n c,xs.set k y) :: L) :=
 h.t4 (h.o4.seti rfl hk y).2 (h.o4.seti rfl hk y).1 fun g hg=>.inl hg
theorem OwnsL.setB {S:List Value} {m d B2:Nat} (h:OwnsL w E B L) (hs:Own w F B2 (.slice (some b) m d) S) (hne:E≠F) (k:Nat) (u:Value):OwnsL (w.setCell (b.add k) u) E B L :=
 ⟨fun p hp=>(h.own p hp).setCell (fun e=>(h.own p hp).elem_ne hs hne _ e (by rw [block_of_add];rfl)) u,h.ap⟩
end
structure FM (E EB B:Nat) (ba bf bl bu bw bs:Addr) (n h ca:Nat) (A F L U W:List Int) (S:List Bool) (w0 w:World):Prop where
 own:OwnsL w E B [(.slice (some ba) n ca,A),(.slice (some bf) h h,F),(.slice (some bl) h h,L),(.slice (some bu) h h,U),(.slice (some bw) h h,W)]
 set:Own w EB B (.slice (some bs) h h) (bools S)
 bel:Below B w0 w
section
variable {E EB B n h ca k:Nat} {ba bf bl bu bw bs:Addr} {A F L U W:List Int} {S:List Bool} {w0 w:World}
theorem FM.stS (H:FM E EB B ba bf bl bu bw bs n h ca A F L U W S w0 w) (hne:E≠EB) (hk:k < S.length) (b:Bool):FM E EB B ba bf bl bu bw bs n h ca A F L U W (S.set k b) w0 (w.setCell (bs.add k) (.bool b)):=by
 have hs:=H.set.set rfl (show k < (bools S).length by rw [bools_len];exact hk) (.bool b)
 rw [bools_set] at hs
 refine ⟨H.own.setB H.set hne k _,hs.1,H.bel.setCell ?_ _⟩
 rw [block_of_add]
 exact (H.set.lt _ rfl).1
theorem FM.stF (H:FM E EB B ba bf bl bu bw bs n h ca A F L U W S w0 w) (hne:E≠EB) (hk:k < F.length) (y:Int):FM E EB B ba bf bl bu bw bs n h ca A (F.set k y) L U W S w0 (w.setCell (bf.add k) (.int .i64 y)):=by
 refine ⟨H.own.st1 hk y,H.set.setCell (fun e=>H.set.elem_ne H.own.o1 hne.symm _ e (by rw [block_of_add];rfl)) _,H.bel.setCell ?_ _⟩
 rw [block_of_add]
 exact (H.own.o1.lt _ rfl).1
theorem FM.stL (H:FM E EB B ba bf bl bu bw bs n h ca A F L U W S w0 w) (hne:E≠EB) (hk:k < L.length) (y:Int):FM E EB B ba bf bl bu bw bs n h ca A F (L.set k y) U W S w0 (w.setCell (bl.add k) (.int .i64 y)):=by
 refine ⟨H.own.st2 hk y,H.set.setCell (fun e=>H.set.elem_ne H.own.o2 hne.symm _ e (by rw [block_of_add];rfl)) _,H.bel.setCell ?_ _⟩
 rw [block_of_add]
 exact (H.own.o2.lt _ rfl).1
theorem FM.stU (H:FM E EB B ba bf bl bu bw bs n h ca A F L U W S w0 w) (hne:E≠EB) (hk:k < U.length) (y:Int):FM E EB B ba bf bl bu bw bs n h ca A F L (U.set k y) W S w0 (w.setCell (bu.add k) (.int .i64 y)):=by
 refine ⟨H.own.st3 hk y,H.set.setCell (fun e=>H.set.elem_ne H.own.o3 hne.symm _ e (by rw [block_of_add];rfl)) _,H.bel.setCell ?_ _⟩
 rw [block_of_add]
 exact (H.own.o3.lt _ rfl).1
theorem FM.stW (H:FM E EB B ba bf bl bu bw bs n h ca A F L U W S w0 w) (hne:E≠EB) (hk:k < W.length) (y:Int):FM E EB B ba bf bl bu bw bs n h ca A F L U (W.set k y) S w0 (w.setCell (bw.add k) (.int .i64 y)):=by
 refine ⟨H.own.st4 hk y,H.set.setCell (fun e=>H.set.elem_ne H.own.o4 hne.symm _ e (by rw [block_of_add];rfl)) _,H.bel.setCell ?_ _⟩
 rw [block_of_add]
 exact (H.own.o4.lt _ rfl).1
end
def boolA (n:Nat) (f:Nat→Bool):List Bool:=(List.range n).map f
theorem boolA_len (n:Nat) (f:Nat→Bool):(boolA n f).length=n:=by simp [boolA]
theorem boolA_get {n i:Nat} (f:Nat→Bool) (h:i < n):(boolA n f)[i]?=some (f i):=by simp [boolA,h]
theorem boolA_set (n k:Nat) (f:Nat→Bool) (b:Bool):(boolA n f).set k b=boolA n (upd f k b):=by
 apply List.ext_getElem?
 intro q
 rw [List.getElem?_set]
 by_cases hq:q < n
 · rw [boolA_get _ hq,boolA_get _ hq,boolA_len]
   by_cases e:k=q
   · subst e;simp [hq,upd]
   · simp only [upd]
     rw [if_neg e,if_neg (fun h=>e h.symm)]
 · have e1:(boolA n f)[q]?=none:=List.getElem?_eq_none (by rw [boolA_len];omega)
   have e2:(boolA n (upd f k b))[q]?=none:=List.getElem?_eq_none (by rw [boolA_len];omega)
   rw [e1,e2,boolA_len]
   by_cases e:k=q
   · subst e;simp [hq]
   · simp [e]
theorem boolA_zero (n:Nat):List.replicate n (Value.bool false)=bools (boolA n fun _=>false):=by
 symm
 rw [List.eq_replicate_iff]
 simp [bools,boolA]
theorem xor_par:∀ m:Nat,m < 8→bits BinOp.xor IntKind.i64 (m:Int) 1=((par m:Nat):Int):=by decide +kernel
def FMs (E EB B:Nat) (ba bf bl bu bw bs:Addr) (n h ca:Nat) (x:Nat→Nat) (s:FS) (w0 w:World):Prop :=
 FM E EB B ba bf bl bu bw bs n h ca (natA n (invF n x)) (natA h s.first) (natA h s.last) (natA h s.up) (natA h s.low) (boolA h s.set) w0 w
theorem Rd2.of4 {W:World} {g E:Nat} {r0 r1 r2 r3:Value} {x0 x1 x2 x3:List Int} (h:W.heap[g]?=some (.cells #[r0,r1,r2,r3] E (0,0))) (h0:Rd W r0 (ints x0)) (h1:Rd W r1 (ints x1)) (h2:Rd W r2 (ints x2)) (h3:Rd W r3 (ints x3)) :
 Rd2 W (.slice (some ⟨g,0,none⟩) 4 4) [x0,x1,x2,x3]:=by
 have hO:Own W E g (.slice (some ⟨g,0,none⟩) 4 4) [r0,r1,r2,r3]:=.inr ⟨g,0,4,_,rfl,Nat.le_refl _,h,by simp,by omega,by simp,fun j u hu=>by simpa using hu⟩
 refine ⟨[r0,r1,r2,r3],hO.rd,rfl,fun i r hr=>?_⟩
 match i,hr with
 | 0,hr=>cases hr;exact ⟨x0,rfl,h0⟩
 | 1,hr=>cases hr;exact ⟨x1,rfl,h1⟩
 | 2,hr=>cases hr;exact ⟨x2,rfl,h2⟩
 | 3,hr=>cases hr;exact ⟨x3,rfl,h3⟩
 | n+4,hr=>simp at hr
end Go.Proofs.YtggblfnajeikjaaGreatDoor
