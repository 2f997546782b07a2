/- Joined texts of the proof: OutLate, OutLate2, OutLate3, LateFns. -/
import Derived.Test.YtggblfnajeikjaaGreatDoorJ15
import Derived.Test.YtggblfnajeikjaaGreatDoorJ16
namespace Go.Proofs.YtggblfnajeikjaaGreatDoor
open Go.RowKit
set_option linter.unusedVariables false
set_option linter.unusedSimpArgs false
set_option maxRecDepth 100000
set_option maxHeartbeats 16000000
section
variable {w w':World} {E B:Nat} {L L1 L2:List (Value × List Int)}
theorem OwnsL.setBox {F g off:Nat} {cur:Array Value} (h:OwnsL w E B L) (hb:w.heap[g]?=some (.cells cur F (0,0))) (hne:F≠E) (u:Value):OwnsL (w.setCell ⟨g,off,none⟩ u) E B L :=
 ⟨fun p hp=>(h.own p hp).setCell (own_ne_box (h.own p hp) hb hne) u,h.ap⟩
theorem OwnsL.o5 {p0 p1 p2 p3 p4 p5:Value × List Int} (h:OwnsL w E B (p0 :: p1 :: p2 :: p3 :: p4 :: p5 :: L)):Own w E B p5.1 (ints p5.2):=h.own p5 (by simp)
theorem OwnsL.sub (h:OwnsL w E B L) (hs:List.Sublist L1 L):OwnsL w E B L1:=⟨fun p hp=>h.own p (hs.subset hp),h.ap.sublist hs⟩
end
structure St (K:Nat→Prop) (be bw:Nat) (w:World) (vo vl vm vd vw:Value) (O Lt Mk D W:List Int) (ms:Int) (X:List (Value × List Int)):Prop where
 eb:w.heap[be]?=some (.cells #[vo,vl,vm,vd,.int .i64 ms] 83 (0,0))
 wb:w.heap[bw]?=some (.cells #[vw] 23 (0,0))
 ow:OwnsL w 3 0 ((vo,O) :: (vl,Lt) :: (vm,Mk) :: (vd,D) :: (vw,W) :: X)
 nk:∀ p∈(vo,O) :: (vl,Lt) :: (vm,Mk) :: (vd,D) :: (vw,W) :: X,∀ g,p.1.ownBlock=some g→¬ K g
section
variable {K:Nat→Prop} {be bw:Nat} {w w':World} {vo vl vm vd vw v1 vr:Value} {O Lt Mk D W O1 R R1:List Int} {ms:Int} {X:List (Value × List Int)}
theorem St.ebn (h:St K be bw w vo vl vm vd vw O Lt Mk D W ms X) {p:Value × List Int} (hp:p∈(vo,O) :: (vl,Lt) :: (vm,Mk) :: (vd,D) :: (vw,W) :: X):p.1.ownBlock≠some be:=own_ne_box (h.ow.own p hp) h.eb (by decide)
theorem St.wbn (h:St K be bw w vo vl vm vd vw O Lt Mk D W ms X) {p:Value × List Int} (hp:p∈(vo,O) :: (vl,Lt) :: (vm,Mk) :: (vd,D) :: (vw,W) :: X):p.1.ownBlock≠some bw:=own_ne_box (h.ow.own p hp) h.wb (by decide)
theorem St.grow (h:St K be bw w vo vl vm vd vw O Lt Mk D W ms X) {p:Value × List Int} (hp:p∈(vo,O) :: (vl,Lt) :: (vm,Mk) :: (vd,D) :: (vw,W) :: X) (hg:w.grownBy w' p.1.ownBlock) :
 w'.heap[be]?=some (.cells #[vo,vl,vm,vd,.int .i64 ms] 83 (0,0))∧w'.heap[bw]?=some (.cells #[vw] 23 (0,0)) :=
 ⟨(hg.block be (box_lt h.eb) fun e=>h.ebn hp e.symm).trans h.eb,(hg.block bw (box_lt h.wb) fun e=>h.wbn hp e.symm).trans h.wb⟩
theorem St.below (h:St K be bw w vo vl vm vd vw O Lt Mk D W ms X) (hb:Below w.heap.size w w'):St K be bw w' vo vl vm vd vw O Lt Mk D W ms X :=
 ⟨(hb.block be (box_lt h.eb)).trans h.eb,(hb.block bw (box_lt h.wb)).trans h.wb,h.ow.below hb,h.nk⟩
theorem St.mono {K':Nat→Prop} (h:St K be bw w vo vl vm vd vw O Lt Mk D W ms X) (hK:∀ k,k < w.heap.size→K' k→K k):St K' be bw w vo vl vm vd vw O Lt Mk D W ms X :=
 ⟨h.eb,h.wb,h.ow,fun p hp g hg hk=>h.nk p hp g hg (hK g ((h.ow.own p hp).lt g hg).2 hk)⟩
theorem St.appO (h:St K be bw w vo vl vm vd vw O Lt Mk D W ms X) (hKe:¬ K be) (hew:be≠bw) (hK:∀ k,K k→k < w.heap.size) (hg:w.grownBy w' vo.ownBlock) (ho:Own w' 3 0 v1 (ints O1)) (hat:∀ g,v1.ownBlock=some g→vo.ownBlock=some g∨w.heap.size≤g) :
 St K be bw (w'.setCell ⟨be,0,none⟩ v1) v1 vl vm vd vw O1 Lt Mk D W ms X∧Fr K w (w'.setCell ⟨be,0,none⟩ v1):=by
 obtain ⟨e1,e2⟩:=h.grow (p:=(vo,O)) (by simp) hg
 refine ⟨⟨heap_setCell_same w' be 0 _ _ v1 e1,(heap_setCell_other w' _ bw v1 fun e=>hew e.symm).trans e2,(h.ow.t0 hg ho hat).setBox e1 (by decide) _,fun p hp g hg2=>?_⟩,(Fr.row hg (h.nk (vo,O) (by simp)) hK).trans (Fr.setCell hKe _)⟩
 simp only [List.mem_cons] at hp
 rcases hp with rfl | hp
 · rcases hat g hg2 with h3 | h3
   · exact h.nk (vo,O) (by simp) g h3
   · exact fun hk=>by have:=hK g hk;omega
 · exact h.nk p (by simp only [List.mem_cons];exact .inr hp) g hg2
theorem St.appL (h:St K be bw w vo vl vm vd vw O Lt Mk D W ms X) (hKe:¬ K be) (hew:be≠bw) (hK:∀ k,K k→k < w.heap.size) (hg:w.grownBy w' vl.ownBlock) (ho:Own w' 3 0 v1 (ints O1)) (hat:∀ g,v1.ownBlock=some g→vl.ownBlock=some g∨w.heap.size≤g) :
 St K be bw (w'.setCell ⟨be,1,none⟩ v1) vo v1 vm vd vw O O1 Mk D W ms X∧Fr K w (w'.setCell ⟨be,1,none⟩ v1):=by
 obtain ⟨e1,e2⟩:=h.grow (p:=(vl,Lt)) (by simp) hg
 refine ⟨⟨heap_setCell_same w' be 1 _ _ v1 e1,(heap_setCell_other w' _ bw v1 fun e=>hew e.symm).trans e2,(h.ow.t1 hg ho hat).setBox e1 (by decide) _,fun p hp g hg2=>?_⟩,(Fr.row hg (h.nk (vl,Lt) (by simp)) hK).trans (Fr.setCell hKe _)⟩
 simp only [List.mem_cons] at hp
 rcases hp with hp | rfl | hp
 · exact h.nk p (by simp only [List.mem_cons];exact .inl hp) g hg2
 · rcases hat g hg2 with h3 | h3
   · exact h.nk (vl,Lt) (by simp) g h3
   · exact fun hk=>by have:=hK g hk;omega
 · exact h.nk p (by simp only [List.mem_cons];exact .inr (.inr hp)) g hg2
theorem St.appM (h:St K be bw w vo vl vm vd vw O Lt Mk D W ms X) (hKe:¬ K be) (hew:be≠bw) (hK:∀ k,K k→k < w.heap.size) (hg:w.grownBy w' vm.ownBlock) (ho:Own w' 3 0 v1 (ints O1)) (hat:∀ g,v1.ownBlock=some g→vm.ownBlock=some g∨w.heap.size≤g) :
 St K be bw (w'.setCell ⟨be,2,none⟩ v1) vo vl v1 vd vw O Lt O1 D W ms X∧Fr K w (w'.setCell ⟨be,2,none⟩ v1):=by
 obtain ⟨e1,e2⟩:=h.grow (p:=(vm,Mk)) (by simp) hg
 refine ⟨⟨heap_setCell_same w' be 2 _ _ v1 e1,(heap_setCell_other w' _ bw v1 fun e=>hew e.symm).trans e2,(h.ow.t2 hg ho hat).setBox e1 (by decide) _,fun p hp g hg2=>?_⟩,(Fr.row hg (h.nk (vm,Mk) (by simp)) hK).trans (Fr.setCell hKe _)⟩
 simp only [List.mem_cons] at hp
 rcases hp with hp | hp | rfl | hp
 · exact h.nk p (by simp only [List.mem_cons];exact .inl hp) g hg2
 · exact h.nk p (by simp only [List.mem_cons];exact .inr (.inl hp)) g hg2
 · rcases hat g hg2 with h3 | h3
   · exact h.nk (vm,Mk) (by simp) g h3
   · exact fun hk=>by have:=hK g hk;omega
 · exact h.nk p (by simp only [List.mem_cons];exact .inr (.inr (.inr hp))) g hg2
theorem St.setD {ad:Addr} {n c Y:Nat} (h:St K be bw w vo vl vm (.slice (some ad) n c) vw O Lt Mk D W ms X) (hK:∀ k,K k→k < w.heap.size) (hY:Y < D.length) (x:Int) :
 St K be bw (w.setCell (ad.add Y) (.int .i64 x)) vo vl vm (.slice (some ad) n c) vw O Lt Mk (D.set Y x) W ms X∧Fr K w (w.setCell (ad.add Y) (.int .i64 x)):=by
 have hs:=h.ow.o3.seti rfl hY x
 obtain ⟨e1,e2⟩:=h.grow (p:=(.slice (some ad) n c,D)) (by simp) hs.2
 refine ⟨⟨e1,e2,h.ow.t3 hs.2 hs.1 (fun g hg=>.inl hg),fun p hp g hg2=>?_⟩,Fr.row hs.2 (h.nk (.slice (some ad) n c,D) (by simp)) hK⟩
 simp only [List.mem_cons] at hp
 rcases hp with hp | hp | hp | rfl | hp
 · exact h.nk p (by simp only [List.mem_cons];exact .inl hp) g hg2
 · exact h.nk p (by simp only [List.mem_cons];exact .inr (.inl hp)) g hg2
 · exact h.nk p (by simp only [List.mem_cons];exact .inr (.inr (.inl hp))) g hg2
 · exact h.nk (.slice (some ad) n c,D) (by simp) g hg2
 · exact h.nk p (by simp only [List.mem_cons];exact .inr (.inr (.inr (.inr hp)))) g hg2
theorem St.sort (h:St K be bw w vo vl vm vd vw O Lt Mk D W ms X) (hK:∀ k,K k→k < w.heap.size) (hg:w.grownBy w' vw.ownBlock) (ho:Own w' 3 0 vw (ints O1)) :
 St K be bw w' vo vl vm vd vw O Lt Mk D O1 ms X∧Fr K w w':=by
 obtain ⟨e1,e2⟩:=h.grow (p:=(vw,W)) (by simp) hg
 refine ⟨⟨e1,e2,h.ow.t4 hg ho (fun g hg=>.inl hg),fun p hp g hg2=>?_⟩,Fr.row hg (h.nk (vw,W) (by simp)) hK⟩
 simp only [List.mem_cons] at hp
 rcases hp with hp | hp | hp | hp | rfl | hp
 · exact h.nk p (by simp only [List.mem_cons];exact .inl hp) g hg2
 · exact h.nk p (by simp only [List.mem_cons];exact .inr (.inl hp)) g hg2
 · exact h.nk p (by simp only [List.mem_cons];exact .inr (.inr (.inl hp))) g hg2
 · exact h.nk p (by simp only [List.mem_cons];exact .inr (.inr (.inr (.inl hp)))) g hg2
 · exact h.nk (vw,W) (by simp) g hg2
 · exact h.nk p (by simp only [List.mem_cons];exact .inr (.inr (.inr (.inr (.inr hp))))) g hg2
theorem St.appW (h:St K be bw w vo vl vm vd vw O Lt Mk D W ms X) (hKw:¬ K bw) (hew:be≠bw) (hK:∀ k,K k→k < w.heap.size) (hg:w.grownBy w' vw.ownBlock) (ho:Own w' 3 0 v1 (ints O1)) (hat:∀ g,v1.ownBlock=some g→vw.ownBlock=some g∨w.heap.size≤g) :
 St K be bw (w'.setCell ⟨bw,0,none⟩ v1) vo vl vm vd v1 O Lt Mk D O1 ms X∧Fr K w (w'.setCell ⟨bw,0,none⟩ v1):=by
 obtain ⟨e1,e2⟩:=h.grow (p:=(vw,W)) (by simp) hg
 refine ⟨⟨(heap_setCell_other w' _ be v1 hew).trans e1,heap_setCell_same w' bw 0 _ _ v1 e2,(h.ow.t4 hg ho hat).setBox e2 (by decide) _,fun p hp g hg2=>?_⟩,(Fr.row hg (h.nk (vw,W) (by simp)) hK).trans (Fr.setCell hKw _)⟩
 simp only [List.mem_cons] at hp
 rcases hp with hp | hp | hp | hp | rfl | hp
 · exact h.nk p (by simp only [List.mem_cons];exact .inl hp) g hg2
 · exact h.nk p (by simp only [List.mem_cons];exact .inr (.inl hp)) g hg2
 · exact h.nk p (by simp only [List.mem_cons];exact .inr (.inr (.inl hp))) g hg2
 · exact h.nk p (by simp only [List.mem_cons];exact .inr (.inr (.inr (.inl hp)))) g hg2
 · rcases hat g hg2 with h3 | h3
   · exact h.nk (vw,W) (by simp) g h3
   · exact fun hk=>by have:=hK g hk;omega
 · exact h.nk p (by simp only [List.mem_cons];exact .inr (.inr (.inr (.inr (.inr hp))))) g hg2
theorem St.more (h:St K be bw w vo vl vm vd vw O Lt Mk D W ms []) (hK:∀ k,K k→k < w.heap.size) (hb:Below w.heap.size w w') (ho:Own w' 3 w.heap.size vr (ints R)) :
 St K be bw w' vo vl vm vd vw O Lt Mk D W ms [(vr,R)]:=by
 refine ⟨(h.below hb).eb,(h.below hb).wb,h.ow.snoc hb (Nat.zero_le _) ho,fun p hp g hg=>?_⟩
 by_cases e:p=(vr,R)
 · subst e
   have:=(ho.lt g hg).1
   exact fun hk=>by have:=hK g hk;omega
 · exact h.nk p (by simp only [List.mem_cons,List.not_mem_nil,or_false] at hp ⊢;rcases hp with h1 | h1 | h1 | h1 | h1 | h1 <;> simp_all) g hg
theorem St.appR (h:St K be bw w vo vl vm vd vw O Lt Mk D W ms [(vr,R)]) (hK:∀ k,K k→k < w.heap.size) (hg:w.grownBy w' vr.ownBlock) (ho:Own w' 3 0 v1 (ints R1)) (hat:∀ g,v1.ownBlock=some g→vr.ownBlock=some g∨w.heap.size≤g) :
 St K be bw w' vo vl vm vd vw O Lt Mk D W ms [(v1,R1)]∧Fr K w w':=by
 obtain ⟨e1,e2⟩:=h.grow (p:=(vr,R)) (by simp) hg
 refine ⟨⟨e1,e2,OwnsL.turn (L1:=[(vo,O),(vl,Lt),(vm,Mk),(vd,D),(vw,W)]) (L2:=[]) h.ow hg ho hat,fun p hp g hg2=>?_⟩,Fr.row hg (h.nk (vr,R) (by simp)) hK⟩
 by_cases e:p=(v1,R1)
 · subst e
   rcases hat g hg2 with h3 | h3
   · exact h.nk (vr,R) (by simp) g h3
   · exact fun hk=>by have:=hK g hk;omega
 · exact h.nk p (by simp only [List.mem_cons,List.not_mem_nil,or_false] at hp ⊢;rcases hp with h1 | h1 | h1 | h1 | h1 | h1 <;> simp_all) g hg2
theorem St.putR (h:St K be bw w vo vl vm vd vw O Lt Mk D W ms [(vr,R)]) (hKw:¬ K bw) (hew:be≠bw) :
 St K be bw (w.setCell ⟨bw,0,none⟩ vr) vo vl vm vd vr O Lt Mk D R ms []∧Fr K w (w.setCell ⟨bw,0,none⟩ vr):=by
 refine ⟨⟨(heap_setCell_other w _ be vr hew).trans h.eb,heap_setCell_same w bw 0 _ _ vr h.wb,(h.ow.sub ?_).setBox h.wb (by decide) _,fun p hp g hg2=>?_⟩,Fr.setCell hKw _⟩
 · exact (((((List.Sublist.refl _).cons _).cons_cons _).cons_cons _).cons_cons _).cons_cons _
 · exact h.nk p (by simp only [List.mem_cons,List.not_mem_nil,or_false] at hp ⊢;rcases hp with h1 | h1 | h1 | h1 | h1 <;> simp [h1]) g hg2
theorem St.setMs (h:St K be bw w vo vl vm vd vw O Lt Mk D W ms X) (hKe:¬ K be) (hew:be≠bw) (m2:Int) :
 St K be bw (w.setCell ⟨be,4,none⟩ (.int .i64 m2)) vo vl vm vd vw O Lt Mk D W m2 X∧Fr K w (w.setCell ⟨be,4,none⟩ (.int .i64 m2)) :=
 ⟨⟨heap_setCell_same w be 4 _ _ _ h.eb,(heap_setCell_other w _ bw _ fun e=>hew e.symm).trans h.wb,h.ow.setBox h.eb (by decide) _,h.nk⟩,Fr.setCell hKe _⟩
theorem St.cells (h:St K be bw w vo vl vm vd vw O Lt Mk D W ms X):(w.cell? ⟨be,0,none⟩=some vo∧w.cell? ⟨be,1,none⟩=some vl∧w.cell? ⟨be,2,none⟩=some vm∧w.cell? ⟨be,3,none⟩=some vd∧w.cell? ⟨be,4,none⟩=some (.int .i64 ms))∧w.cell? ⟨bw,0,none⟩=some vw ∧
 (∀ i,w.frozen? ⟨be,i,none⟩=false)∧(∀ i,w.frozen? ⟨bw,i,none⟩=false) :=
 ⟨⟨box_cell h.eb 0,box_cell h.eb 1,box_cell h.eb 2,box_cell h.eb 3,box_cell h.eb 4⟩,box_cell h.wb 0,fun i=>frozen_of_row w be i _ _ h.eb,fun i=>frozen_of_row w bw i _ _ h.wb⟩
end
theorem f_isNaN1 (x:Int) (w:World):Calls Tryz.prog 188 #[.int .i64 x] w fun e w'=>e=.returned (.bool false)∧w=w':=by
 go_enter Tryz.func188,Tryz.ntmps188
 go_wp2
 go_ret
 exact ⟨rfl,rfl⟩
theorem f_Compare (x y:Int) (w:World):Calls Tryz.prog 131 #[.int .i64 x,.int .i64 y] w fun e w'=>e=.returned (.int .i64 (cmpV id x y))∧w=w':=by
 by_cases h1:x < y
 · have HE:Hid (cmpV id x y = -1):=by rw [Hid,cmpV];exact if_pos h1
   go_enter Tryz.func131,Tryz.ntmps131
   go_wp2_with (go_at_call 188;refine (f_isNaN1 _ _).mono ?_;rintro e w' ⟨rfl,rfl⟩)
   go_ret
   exact ⟨ret_int HE.out.symm,rfl⟩
 · by_cases h2:y < x
   · have HE:Hid (cmpV id x y=1):=by rw [Hid,cmpV];exact (if_neg h1).trans (if_pos h2)
     go_enter Tryz.func131,Tryz.ntmps131
     go_wp2_with (go_at_call 188;refine (f_isNaN1 _ _).mono ?_;rintro e w' ⟨rfl,rfl⟩)
     go_ret
     exact ⟨ret_int HE.out.symm,rfl⟩
   · have HE:Hid (cmpV id x y=0):=by rw [Hid,cmpV];exact (if_neg h1).trans (if_neg h2)
     go_enter Tryz.func131,Tryz.ntmps131
     go_wp2_with (go_at_call 188;refine (f_isNaN1 _ _).mono ?_;rintro e w' ⟨rfl,rfl⟩)
     go_ret
     exact ⟨ret_int HE.out.symm,rfl⟩
theorem k_emit11:Known 130:=known Tryz.func130 (by kernel_rfl) (by kernel_rfl)
theorem k_emit2:Known 132:=known Tryz.func132 (by kernel_rfl) (by kernel_rfl)
theorem k_emit3:Known 133:=known Tryz.func133 (by kernel_rfl) (by kernel_rfl)
theorem i_emit11 (T:List Int) (v:Value) (q:Addr) (w:World) (hq:w.cell? q=some v) (h:Rd w v (ints T)) (X Y:Nat) (hX:X < T.length) (hY:Y < T.length) :
 Calls Tryz.prog 130 (#[.int .i64 X,.int .i64 Y]++#[.pointer (some q)]) w (RetQ (.int .i64 (cmpV (ltK T) X Y)) w):=by
 obtain ⟨a,n,c,rfl,HN,hnc,hc⟩:=h.formN
 obtain ⟨ad,x,rfl,hcx,hx⟩:=h.int hX
 obtain ⟨ad2,y,had2,hcy,hy⟩:=h.int hY
 obtain rfl:ad=ad2:=by injection had2
 clear had2
 have HE:Hid (cmpV (ltK T) X Y=cmpV id x y):=by
  rw [Hid,cmpV,cmpV,ltK_nat,ltK_nat,getD_of hx.out,getD_of hy.out];rfl
 have HK:=Lib.hid (fun wx=>f_Compare x y wx)
 have i1:(X:Int) < (n:Int):=by have:=HN.out;omega
 have i2:(Y:Int) < (n:Int):=by have:=HN.out;omega
 generalize cmpV id x y=kr at *
 go_enter Tryz.func130,Tryz.ntmps130
 go_wp2
 go_quiet ((go_at_call 131;exact Calls.quiet_of_same ((HK.out _).mono fun _ _ hh=>⟨hh.1,hh.2.symm⟩)))
 go_wp2
 go_ret
 exact ⟨ret_int HE.out.symm,(Dr.refl _).step _⟩
theorem i_emit2 (t mk:Int) (q:Addr) (w:World) (hq:w.cell? q=some (.int .i64 mk)) :
 Calls Tryz.prog 132 (#[.int .i64 t]++#[.pointer (some q)]) w (RetQ (.bool (decide (t≤mk))) w):=by
 obtain ⟨b,hb⟩:∃ b,decide (t≤mk)=b:=⟨_,rfl⟩
 rw [hb]
 go_enter Tryz.func132,Tryz.ntmps132
 go_wp2
 go_ret
 exact ⟨rfl,Dr.refl _⟩
theorem i_emit3 (t:Int) (w:World):Calls Tryz.prog 133 (#[.int .i64 t]++#[]) w (RetQ (.bool true) w):=by
 go_enter Tryz.func133,Tryz.ntmps133
 go_wp2
 go_ret
 exact ⟨rfl,Dr.refl _⟩
def duo (T:List Int) (pr:Int→Bool) (x:Int):Bool:=pr (ltK T x)
theorem filter_snoc_pos {p:Int→Bool} {Q:List Int} {j:Nat} {y:Int} (hy:Q[j]?=some y) (h:p y=true):(Q.take (j+1)).filter p=(Q.take j).filter p++[y]:=by
 rw [take_snoc' hy,List.filter_append];simp [h]
theorem filter_snoc_neg {p:Int→Bool} {Q:List Int} {j:Nat} {y:Int} (hy:Q[j]?=some y) (h:p y=false):(Q.take (j+1)).filter p=(Q.take j).filter p:=by
 rw [take_snoc' hy,List.filter_append];simp [h]
def RetSt (K:Nat→Prop) (be bw:Nat) (vl vm vd:Value) (O Lt Mk D W:List Int) (ms:Int) (w:World) (e:Ending) (w':World):Prop :=
 e=.returned (.tuple #[])∧∃ vo vw,St K be bw w' vo vl vm vd vw O Lt Mk D W ms []∧Fr K w w'
theorem i_emit1 (pr:Int→Bool) (fn:Nat) (cap:Array Value) (hknown:Known fn) (K:Nat→Prop) (be bw bt:Nat) (vT:Value) (T:List Int) (n:Nat) (at_:Int) (w:World)
 (vo vl vm vw:Value) (ad:Addr) (cd:Nat) (O Lt Mk D W:List Int) (ms:Int) (hKe:¬ K be) (hKw:¬ K bw) (hew:be≠bw) (hKs:∀ k,K k→k < w.heap.size) (hKt:K bt) (hbt:w.heap[bt]?=some (.cells #[vT] 23 (0,0)))
 (hT:Rd w vT (ints T)) (hTK:0 < T.length→∀ k,vT.ownBlock=some k→K k) (hTn:T.length=n) (hn:n≤30) (hSt:St K be bw w vo vl vm (.slice (some ad) n cd) vw O Lt Mk D W ms [])
 (hW:∀ x∈W,∃ j:Nat,j < n∧x=j) (hWl:W.length≤30) (hOl:O.length≤60) (hDl:D.length=n) (hat : -1≤at_∧at_≤30)
 (his:∀ wx t,Fr K w wx→t∈T→Calls Tryz.prog fn (#[.int .i64 t]++cap) wx (RetQ (.bool (pr t)) wx)) :
 Calls Tryz.prog 128 (#[.int .i64 at_,.func (.func fn) #[] cap]++#[.pointer (some ⟨bw,0,none⟩),.pointer (some ⟨bt,0,none⟩),.pointer (some ⟨be,0,none⟩)]) w
  (RetSt K be bw vl vm (.slice (some ad) n cd) (O++(srtS (ltK T) W).filter (duo T pr)) Lt Mk (setAll D ((srtS (ltK T) W).filter (duo T pr)) at_) ((srtS (ltK T) W).filter fun x=>!duo T pr x) ms w):=by
 have HTN:=Lib.hid hTn
 obtain ⟨aw,nw,cw,rfl,HNW,_,_⟩:=hSt.ow.o4.rd.formN
 have hnw:nw≤30:=by have:=HNW.out;dsimp only at this;omega
 have HS:=Lib.hid (f_SortStable40 (ltK T) (fun x=>∃ j:Nat,j < n∧x=j) 130 #[.pointer (some ⟨bt,0,none⟩)] k_emit11 (.slice aw nw cw) W nw 0 w hSt.ow.o4 HNW.out.symm (by omega) hW
  (fun wx x y hg hx hy=>by
   obtain ⟨X,hX,rfl⟩:=hx
   obtain ⟨Y,hY,rfl⟩:=hy
   have hf:Fr K w wx:=Fr.row hg (hSt.nk (.slice aw nw cw,W) (by simp)) hKs
   exact i_emit11 T vT ⟨bt,0,none⟩ wx ((box_cell ((hf.block bt hKt).trans hbt) 0)) (hf.rd hT hTK) X Y (by omega) (by omega)))
 obtain ⟨Q,hQ⟩:∃ Q,srtS (ltK T) W=Q:=⟨_,rfl⟩
 have HQL:Hid (Q.length=nw):=by rw [Hid,←hQ,srtS_length];exact HNW.out.symm
 have HQW:Hid (∀ x∈Q,∃ j:Nat,j < n∧x=j):=fun x hx=>hW x (by rw [←hQ] at hx;exact (srtS_mem _ _).1 hx)
 rw [hQ] at HS ⊢
 clear hQ hW hWl
 have HIS:=Lib.hid his
 have HKS:=Lib.hid hKs
 have HTK:=Lib.hid hTK
 have HDL:=Lib.hid hDl
 have HBT:=Lib.hid hbt
 clear his hKs hTK hTn hDl hbt
 have c0:=hSt.cells.2.1
 go_enter Tryz.func128,Tryz.ntmps128
 go_wp2_with (go_at_call 129;refine HS.out.mono ?_;rintro e w1 ⟨rfl,ho1,hg1⟩;have hS1:=hSt.sort HKS.out hg1 ho1;have hb1:Below w1.heap.size w1 (w1.alloc (.cells #[] 3)):=(Below.refl _ _).alloc (Nat.le_refl _) (.cells #[] 3);have hS2:=hS1.1.more (fun k hk=>by have:=HKS.out k hk;have:=hS1.2.size;omega) hb1 (Own.lit0 w1 3 (Nat.le_refl _));have c2:=hS2.cells.2.1)
 have hF2:Fr K w (w1.alloc (.cells #[] 3)):=hS1.2.trans (Fr.below hb1 (fun k hk=>by have:=HKS.out k hk;have:=hS1.2.size;omega))
 have hS3:∀ (p0 p1:Int→Bool) (A:Value) (V:List Int) (DD:List Int),St K be bw (w1.alloc (.cells #[] 3)) vo vl vm (.slice (some ad) n cd) A O Lt Mk D V ms [(.slice (some ⟨w1.heap.size,0,none⟩) 0 0,[])]→St K be bw (w1.alloc (.cells #[] 3)) vo vl vm (.slice (some ad) n cd) A (O++(Q.take 0).filter p0) Lt Mk (setAll D ((Q.take 0).filter p0) at_) V ms [(.slice (some ⟨w1.heap.size,0,none⟩) 0 0,(Q.take 0).filter p1)]:=fun p0 p1 A V DD h=>by simpa [setAll_nil] using h
 replace hS2:=hS3 (duo T pr) (fun x=>!duo T pr x) _ _ [] hS2
 clear hS1 hb1 hS3 c2 hg1 ho1 c0 hSt HS
 go_loopg [7,16] nw (fun gj vr iv wr=>∃ (j:Nat) (vo':Value),gj=nw - j∧j≤nw∧iv=.int .i64 (j:Int)∧St K be bw wr vo' vl vm (.slice (some ad) n cd) (.slice aw nw cw) (O++(Q.take j).filter (duo T pr)) Lt Mk (setAll D ((Q.take j).filter (duo T pr)) at_) Q ms [(vr,(Q.take j).filter fun x=>!duo T pr x)]∧Fr K w wr)
 case atStart=>exact ⟨0,vo,rfl,Nat.zero_le _,rfl,hS2,hF2⟩
 case round =>
  clear hS2 hF2
  obtain ⟨j,vo',hgj,hj,rfl,hSt,hF⟩:=hrel
  by_cases hlt:j < nw
  · have i0:(j:Int) < (nw:Int):=by omega
    obtain ⟨y,hy⟩:∃ y,Q[j]?=some y:=⟨_,List.getElem?_eq_getElem (show j < Q.length by have:=HQL.out;omega)⟩
    obtain ⟨p,rfl⟩:∃ p,aw=some p:=hSt.ow.o4.some_of (by rw [ints_length];have:=HQL.out;show 0 < Q.length;omega)
    have how:=hSt.ow.o4
    dsimp only at how
    have hcy:=how.rd.cell_i hy
    obtain ⟨Y,hYk,rfl⟩:=HQW.out y (List.mem_of_getElem? hy)
    have HY:=Lib.hid hy
    obtain ⟨aT,nT,cT,rfl,HN,hnc,hc⟩:=hT.formN
    obtain ⟨aT,t,rfl,hct,ht⟩:=(hF.rd hT HTK.out).int (k:=Y) (by have:=HTN.out;omega)
    have i1:(Y:Int) < (nT:Int):=by have:=HN.out;have:=HTN.out;omega
    have cb:=box_cell ((hF.block bt hKt).trans HBT.out) 0
    obtain ⟨⟨c0,c1,c2,c3,c4⟩,cw0,fe,fw⟩:=hSt.cells
    have HIY:=Lib.hid (HIS.out wr t hF (List.mem_of_getElem? ht.out))
    have hcall:∀ W,(callFunc fn (#[.int .i64 t]++cap)).run Tryz.prog W=.ok (.enter fn (#[.int .i64 t]++cap)) W:=fun W=>hknown _ W
    have HTY:Hid (duo T pr (Y:Int)=pr t):=by rw [Hid,duo,ltK_nat,getD_of ht.out]
    clear hy how ht hT c1 c2 c4 cw0 fw
    obtain ⟨ar,mr,cr,rfl,HMR,_,_⟩:=hSt.ow.o5.rd.formN
    have hmr:mr≤30:=by
     have h1:=HMR.out
     dsimp only at h1
     have h2:=List.length_filter_le (fun x=>!duo T pr x) (Q.take j)
     rw [List.length_take] at h2
     omega
    obtain ⟨ao,mo,co,rfl,HMO,_,_⟩:=hSt.ow.o0.rd.formN
    have hmo:mo≤90:=by
     have h1:=HMO.out
     dsimp only at h1
     rw [List.length_append] at h1
     have h2:=List.length_filter_le (duo T pr) (Q.take j)
     rw [List.length_take] at h2
     omega
    have HLR:Hid ((ints ((Q.take j).filter fun x=>!duo T pr x)).length=mr):=by rw [Hid,ints_length];exact HMR.out.symm
    have HLO:Hid ((ints (O++(Q.take j).filter (duo T pr))).length=mo):=by rw [Hid,ints_length];exact HMO.out.symm
    have hKr:∀ k,K k→k < wr.heap.size:=fun k hk=>by have:=HKS.out k hk;have:=hF.size;omega
    have HKR:=Lib.hid hKr
    clear hKr
    cases hp:pr t
    · rw [hp] at HIY HTY
      have HP1:Hid ((Q.take (j+1)).filter (duo T pr)=(Q.take j).filter (duo T pr)):=filter_snoc_neg HY.out HTY.out
      have HP2:Hid (((Q.take (j+1)).filter fun x=>!duo T pr x)=((Q.take j).filter fun x=>!duo T pr x)++[(Y:Int)]):=filter_snoc_pos HY.out (by rw [HTY.out];rfl)
      clear hp
      go_wp2_with (first
       | ((with_reducible refine (HIY.out).mono ?_);rintro e w5 ⟨rfl,d5⟩;have hb5:=d5.below wr.heap.size;have hS5:=hSt.below hb5)
       | (at_builtin;refine wpList_app1m rfl _ _ 23 rfl elI rfl hS5.ow.o5 (by show Value.slice (some ⟨w5.heap.size,0,none⟩) 1 1=_;simp) rfl (Nat.zero_le _) _ HLR.out (by omega) (by omega) ?_;intro b7 c7 w7 ho7 hg7 hat7))
      have h9:=hS5.appR (R1:=(Q.take (j+1)).filter fun x=>!duo T pr x) (fun k hk=>by have:=HKR.out k hk;have:=hb5.size;omega) hg7 (by rw [HP2.out,ints_append];exact ho7) (hat_of hat7)
      rw [←HP1.out] at h9
      go_roundg (nw - (j+1))
      case measure=>omega
      case rel=>exact ⟨j+1,_,rfl,by omega,by go_num,h9.1,hF.trans ((Fr.below hb5 HKR.out).trans h9.2)⟩
    · rw [hp] at HIY HTY
      have HP1:Hid ((Q.take (j+1)).filter (duo T pr)=(Q.take j).filter (duo T pr)++[(Y:Int)]):=filter_snoc_pos HY.out HTY.out
      have HP2:Hid (((Q.take (j+1)).filter fun x=>!duo T pr x)=((Q.take j).filter fun x=>!duo T pr x)):=filter_snoc_neg HY.out (by rw [HTY.out];rfl)
      clear hp
      go_upto_region 7 with (first
       | ((with_reducible refine (HIY.out).mono ?_);rintro e w5 ⟨rfl,d5⟩;have hb5:=d5.below wr.heap.size;have hS5:=hSt.below hb5;have c0':=hS5.cells.1.1)
       | (at_builtin;refine wpList_app1m rfl _ _ 23 rfl elI rfl hS5.ow.o0 (by show Value.slice (some ⟨w5.heap.size,0,none⟩) 1 1=_;simp) rfl (Nat.zero_le _) _ HLO.out (by omega) (by omega) ?_;intro b7 c7 w7 ho7 hg7 hat7;have hgr:=hS5.grow (.head _) hg7;have hc7:=box_cell hgr.1 0;have hf7:=frozen_of_row w7 be 0 _ _ hgr.1))
      have h8:=hS5.appO (O1:=O++(Q.take (j+1)).filter (duo T pr)) hKe hew (fun k hk=>by have:=HKR.out k hk;have:=hb5.size;omega) hg7 (by rw [HP1.out,←List.append_assoc,ints_append (O++_)];exact ho7) (hat_of hat7)
      obtain ⟨v7,hv7⟩:∃ v,Value.slice b7 (mo+1) c7=v:=⟨_,rfl⟩
      rw [hv7] at h8 ⊢
      obtain ⟨w8,hw8⟩:∃ w8,w7.setCell ⟨be,0,none⟩ v7=w8:=⟨_,rfl⟩
      rw [hw8] at h8 ⊢
      have hF8:=hF.trans ((Fr.below hb5 HKR.out).trans h8.2)
      have hS8:=h8.1
      have c3':=hS8.cells.1.2.2.2.1
      have hDL:Y < (setAll D ((Q.take j).filter (duo T pr)) at_).length:=by rw [setAll_length,HDL.out];exact hYk
      obtain ⟨zY,hzY⟩:∃ z,(setAll D ((Q.take j).filter (duo T pr)) at_)[Y]?=some z:=⟨_,List.getElem?_eq_getElem hDL⟩
      have hcd:=hS8.ow.o3.rd.cell_i hzY
      have hfd:=hS8.ow.o3.frozen rfl Y
      have hnn:n≤cd:=by
       obtain ⟨_,mD,cD,eD,hmD,hmcD,_⟩:=hS8.ow.o3.rd.formN
       injection eD with e1 e2 e3
       omega
      have i5:(Y:Int) < (n:Int):=by omega
      have h9:=hS8.setD (fun k hk=>by have:=HKR.out k hk;have:=hb5.size;have:=h8.2.size;omega) hDL (at_ - (Y:Int))
      have HDT:Hid ((setAll D ((Q.take j).filter (duo T pr)) at_).set Y (at_ - (Y:Int))=setAll D ((Q.take (j+1)).filter (duo T pr)) at_):=by rw [Hid,HP1.out,setAll_snoc];simp
      rw [HDT.out,←HP2.out] at h9
      clear hv7 hw8 h8 hg7 ho7 hat7 hgr hc7 hf7 hS5 hb5 c0 c3 hzY hDL
      go_wp2_with fail
      go_roundg (nw - (j+1))
      case measure=>omega
      case rel=>exact ⟨j+1,_,rfl,by omega,by go_num,h9.1,hF8.trans h9.2⟩
  · have hQt:Hid (Q.take j=Q):=by rw [Hid];exact List.take_of_length_le (by have:=HQL.out;omega)
    rw [hQt.out] at hSt
    obtain ⟨ar,mr,cr,rfl,_,_,_⟩:=hSt.ow.o5.rd.formN
    obtain ⟨_,cw0,fe,fw⟩:=hSt.cells
    have h9:=hSt.putR hKw hew
    go_wp2_with fail
    go_end0
    exact ⟨rfl,_,_,h9.1,hF.trans h9.2⟩
def RetEm (T:List Int) (s:Int) (w:World) (e:Ending) (w':World):Prop :=
 ∃ vo vl vm vd,e=.returned (.agg #[vo,vl,vm,vd,.int .i64 (lateMost T s)])∧OwnsL w' 3 w.heap.size [(vo,lateOut T s),(vl,lateLate T s),(vm,lateMarks T s),(vd,lateDel T s)]∧Below w.heap.size w w'
def K0 (w:World) (g:Nat):Prop:=g≤w.heap.size+1
theorem K0b (w:World):K0 w w.heap.size:=Nat.le_succ _
theorem StK0 {w:World} {K:Nat→Prop} {be bw:Nat} {wr:World} {vo vl vm vd vw:Value} {O Lt Mk D W:List Int} {ms:Int} (h:St (K0 w) be bw wr vo vl vm vd vw O Lt Mk D W ms []) :
 OwnsL wr 3 w.heap.size [(vo,O),(vl,Lt),(vm,Mk),(vd,D)] :=
 ⟨fun p hp=>(h.ow.own p (by simp only [List.mem_cons,List.not_mem_nil,or_false] at hp ⊢;rcases hp with h1 | h1 | h1 | h1 <;> simp [h1])).raise fun k hk=>by
  have:=h.nk p (by simp only [List.mem_cons,List.not_mem_nil,or_false] at hp ⊢;rcases hp with h1 | h1 | h1 | h1 <;> simp [h1]) k hk
  unfold K0 at this
  omega,
  (OwnsL.left (L1:=[(vo,O),(vl,Lt),(vm,Mk),(vd,D)]) h.ow).ap⟩
theorem i_emit (v:Value) (T:List Int) (s:Int) (w:World) (h:Rd w v (ints T)) (hn30:T.length≤30) (hT:∀ t∈T,0≤t∧t≤1000) (hs:0≤s∧s≤1000) :
 Calls Tryz.prog 78 #[v,.int .i64 s] w (RetEm T s w):=by
 obtain ⟨aT,n,cT,rfl,HN,hnc,hc⟩:=h.formN
 have hn:n≤30:=by have:=HN.out;omega
 have HINV:=Lib.hid (fun k (hk:k≤T.length)=>lrun_inv hT hs k hk)
 have HTR:=Lib.hid hT
 have hTK:0 < T.length→∀ k,(Value.slice aT n cT).ownBlock=some k→K0 w k:=fun h0 k hk=>by
  obtain ⟨ad,x,rfl,hcx,_⟩:=h.int h0
  have:=World.block_lt_of_cell? _ _ hcx
  rw [block_of_add] at this
  simp only [Value.ownBlock,Option.some.injEq] at hk
  unfold K0
  omega
 have HTK:=Lib.hid hTK
 clear hT hn30 hTK
 go_enter Tryz.func78,Tryz.ntmps78
 go_upto_region 5 with (at_make;refine wpList_mk (B:=w.heap.size+2) rfl _ _ 23 rfl elI rfl rfl (by simp) (by omega) (by omega) ?_;intro bd wd hbd hown hgd)
 have hBd:w.heap.size+2≤wd.heap.size:=by have:=hgd.size;simp at this;omega
 have hbdb:bd.block=w.heap.size+2:=by simpa using hbd
 have hbl:bd.block < wd.heap.size:=(hown.lt _ rfl).2
 obtain ⟨wA,hwA⟩:∃ wA,((wd.alloc (.cells #[.slice none 0 0,.slice none 0 0,.slice none 0 0,.slice (some bd) n n,.int .i64 0] 83)).alloc (.cells #[] 3)).alloc (.cells #[.slice (some ⟨wd.heap.size+1,0,none⟩) 0 0] 23)=wA:=⟨_,rfl⟩
 have hbA:Below wd.heap.size wd wA:=by rw [←hwA];exact (((Below.refl _ _).alloc (Nat.le_refl _) _).alloc (by simp) _).alloc (by simp;omega) _
 have hbw0:Below (w.heap.size+2) ((w.alloc (.cells #[.slice aT n cT] 23)).alloc (.cells #[.slice none 0 0,.slice none 0 0,.slice none 0 0,.slice none 0 0,.int .i64 0] 83)) wA:=by
  have h1:Below (w.heap.size+2) ((w.alloc (.cells #[.slice aT n cT] 23)).alloc (.cells #[.slice none 0 0,.slice none 0 0,.slice none 0 0,.slice none 0 0,.int .i64 0] 83)) wd:=(Below.refl _ _).grown hgd (by simp) (fun _ h=>by cases h)
  exact h1.trans (hbA.mono (by omega))
 have hbt:wA.heap[w.heap.size]?=some (.cells #[.slice aT n cT] 23 (0,0)):=(hbw0.block _ (by omega)).trans ((Below.heap_alloc _ _ _ (by simp)).trans (heap_alloc_new w _))
 have hbr:wA.heap[w.heap.size+1]?=some (.cells #[.slice none 0 0,.slice none 0 0,.slice none 0 0,.slice none 0 0,.int .i64 0] 83 (0,0)):=(hbw0.block _ (by omega)).trans (by
  have:=heap_alloc_new (w.alloc (.cells #[.slice aT n cT] 23)) (.cells #[.slice none 0 0,.slice none 0 0,.slice none 0 0,.slice none 0 0,.int .i64 0] 83)
  rwa [show (w.alloc (.cells #[.slice aT n cT] 23)).heap.size=w.heap.size+1 by simp] at this)
 have hbB:Below w.heap.size w wA:=(((Below.refl _ _).alloc (Nat.le_refl _) _).alloc (by simp) _).trans (hbw0.mono (by omega))
 have hSt:St (K0 w) wd.heap.size (wd.heap.size+1+1) wA (.slice none 0 0) (.slice none 0 0) (.slice none 0 0) (.slice (some bd) n n) (.slice (some ⟨wd.heap.size+1,0,none⟩) 0 0) [] [] [] (List.replicate n 0) [] 0 []:=by
  have e0:Own wA 3 0 (.slice (some bd) n n) (ints (List.replicate n 0)):=by
   have : ints (List.replicate n 0)=List.replicate n (.int .i64 0):=by simp [ints]
   rw [this]
   exact (hown.below hbA).mono (Nat.zero_le _)
  have e1:Own wA 3 0 (.slice (some ⟨wd.heap.size+1,0,none⟩) 0 0) (ints []):=by
   rw [←hwA]
   have:=Own.lit0 (B:=0) (wd.alloc (.cells #[.slice none 0 0,.slice none 0 0,.slice none 0 0,.slice (some bd) n n,.int .i64 0] 83)) 3 (Nat.zero_le _)
   exact (by simpa using this:Own _ 3 0 (.slice (some ⟨wd.heap.size+1,0,none⟩) 0 0) (ints [])).alloc _
  refine ⟨?_,?_,⟨fun p hp=>?_,?_⟩,fun p hp g hg=>?_⟩
  · rw [←hwA]
    rw [Below.heap_alloc _ _ _ (by simp;omega),Below.heap_alloc _ _ _ (by simp)]
    exact heap_alloc_new wd _
  · rw [←hwA]
    have:=heap_alloc_new ((wd.alloc (.cells #[.slice none 0 0,.slice none 0 0,.slice none 0 0,.slice (some bd) n n,.int .i64 0] 83)).alloc (.cells #[] 3)) (.cells #[.slice (some ⟨wd.heap.size+1,0,none⟩) 0 0] 23)
    simpa using this
  · simp only [List.mem_cons,List.not_mem_nil,or_false] at hp
    rcases hp with h1 | h1 | h1 | h1 | h1 <;> subst h1
    · exact Own.nil _ _ _
    · exact Own.nil _ _ _
    · exact Own.nil _ _ _
    · exact e0
    · exact e1
  · simp [Value.ownBlock]
    omega
  · simp only [List.mem_cons,List.not_mem_nil,or_false] at hp
    unfold K0
    rcases hp with h1 | h1 | h1 | h1 | h1 <;> subst h1 <;> simp [Value.ownBlock] at hg <;> omega
 have hR:Rd wA (.slice aT n cT) (ints T):=h.below hbB
 have hKA:∀ k,K0 w k→k < wA.heap.size:=fun k hk=>by have:=hbw0.size;simp at this;unfold K0 at hk;omega
 have hKe:¬ K0 w wd.heap.size:=by unfold K0;omega
 have hKw:¬ K0 w (wd.heap.size+1+1):=by unfold K0;omega
 have hew:wd.heap.size≠wd.heap.size+1+1:=by omega
 rw [hwA]
 obtain ⟨va,hva⟩:∃ va,Value.slice (some ⟨wd.heap.size+1,0,none⟩) 0 0=va:=⟨_,rfl⟩
 rw [hva] at hSt ⊢
 obtain ⟨bw,hbw⟩:∃ bw,wd.heap.size+1+1=bw:=⟨_,rfl⟩
 rw [hbw] at hSt hKw hew ⊢
 obtain ⟨be,hbe⟩:∃ be,wd.heap.size=be:=⟨_,rfl⟩
 rw [hbe] at hSt hKe hew ⊢
 have HBT:=Lib.hid hbt
 have HBRES:=Lib.hid hbr
 have HKA:=Lib.hid hKA
 have hct:=box_cell hbt 0
 clear hva hbw hbe hwA hbw0 hbA hbl hbdb hBd hown hgd hbt hbr hKA
 have HL0:Hid (lrun T s 0=⟨[],[],[],List.replicate n 0,[],0,-1001⟩):=by rw [Hid,lrun,lS0,HN.out]
 go_wp2_with fail
 go_loopg [7,20] n (fun gq vg iv wr=>∃ (k:Nat) (L:LS) (g:Int) (vo vl vm vw:Value),gq=n - k∧k≤n∧iv=.int .i64 (k:Int)∧vg=.int .i64 g∧0≤g∧g≤1000∧Hid ((k=0∧g=0∧L.mark = -1001)∨(0 < k∧L.mark=g - s))∧Hid (lrun T s k=L)∧St (K0 w) be bw wr vo vl vm (.slice (some bd) n n) vw L.out L.late L.marks L.del L.w L.most []∧Fr (K0 w) wA wr)
 case atStart=>exact ⟨0,_,0,_,_,_,_,rfl,Nat.zero_le _,rfl,rfl,by omega,by omega,.inl ⟨rfl,rfl,rfl⟩,HL0,hSt,Fr.refl _ _⟩
 case round =>
  clear hSt HL0
  obtain ⟨k,⟨W,O,Lt,D,Mk,ms,mk⟩,g,vo,vl,vm,vw,hgk,hk,rfl,rfl,hg0,hg1,HG,HL,hSt,hF⟩:=hrel
  dsimp only at hSt HL HG
  have HI:Hid (LInv T s k ⟨W,O,Lt,D,Mk,ms,mk⟩):=by have:=HINV.out k (by have:=HN.out;omega);rw [HL.out] at this;exact this
  have hmk:=HI.out.mkb
  have hms:=HI.out.most0
  dsimp only at hmk hms
  have HLEN:Hid (W.length+O.length+Lt.length=k):=HI.out.len
  have HML:Hid (Mk.length=k):=HI.out.marks
  have HBR:Hid (wr.heap[w.heap.size]?=some (.cells #[.slice aT n cT] 23 (0,0))):=(hF.block _ (K0b w)).trans HBT.out
  have hctr:=box_cell HBR.out 0
  have hKR:∀ k,K0 w k→k < wr.heap.size:=fun k hk=>by have:=HKA.out k hk;have:=hF.size;omega
  have HKR:=Lib.hid hKR
  clear hKR
  by_cases hlt:k < n
  · have i0:(k:Int) < (n:Int):=by omega
    have hRr:Rd wr (.slice aT n cT) (ints T):=hF.rd hR HTK.out
    obtain ⟨ad,t,rfl,hcx,ht⟩:=hRr.int (k:=k) (by have:=HN.out;omega)
    have htb:=HTR.out t (List.mem_of_getElem? ht.out)
    have HTKK:Hid (T.getD k 0=t):=getD_of ht.out
    have HSTEP:Hid (lrun T s (k+1)=lstep T s ⟨W,O,Lt,D,Mk,ms,mk⟩ k):=by rw [Hid,lrun,HL.out]
    have hDl:Hid (D.length=n):=by have:=HI.out.del;rw [Hid,HN.out];exact this
    obtain ⟨mk2,hmk2⟩:∃ mk2,max mk (t - s)=mk2:=⟨_,rfl⟩
    have HMK:Hid (lmk T s ⟨W,O,Lt,D,Mk,ms,mk⟩ k=mk2):=by rw [Hid,lmk,HTKK.out];exact hmk2
    obtain ⟨ao,mo,co,rfl,HMO,_,_⟩:=hSt.ow.o0.rd.formN
    obtain ⟨al,ml,cl,rfl,HMLt,_,_⟩:=hSt.ow.o1.rd.formN
    obtain ⟨am,mm,cm,rfl,HMM,_,_⟩:=hSt.ow.o2.rd.formN
    obtain ⟨aw,mw,cw,rfl,HMW,_,_⟩:=hSt.ow.o4.rd.formN
    have hml:ml≤k:=by have:=HLEN.out;have:=HMLt.out;dsimp only at this;omega
    have hmw:mw≤k:=by have:=HLEN.out;have:=HMW.out;dsimp only at this;omega
    have hmm:mm≤k:=by have:=HML.out;have:=HMM.out;dsimp only at this;omega
    have HLe:Hid ((ints Lt).length=ml):=by rw [Hid,ints_length];exact HMLt.out.symm
    have HLw:Hid ((ints W).length=mw):=by rw [Hid,ints_length];exact HMW.out.symm
    have HLm:Hid ((ints Mk).length=mm):=by rw [Hid,ints_length];exact HMM.out.symm
    obtain ⟨⟨c0,c1,c2,c3,c4⟩,cw0,fe,fw⟩:=hSt.cells
    obtain ⟨zD,hzD⟩:∃ z,D[k]?=some z:=⟨_,List.getElem?_eq_getElem (show k < D.length by have:=hDl.out;omega)⟩
    have HZD:=Lib.hid hzD
    have HG2:Hid ((k=0→t - s=mk2)∧(0 < k→mk=g - s)):=by
     rw [Hid]
     rcases HG.out with ⟨h1,h2,h3⟩ | ⟨h1,h2⟩
     · exact ⟨fun _=>by omega,fun h=>by omega⟩
     · exact ⟨fun h=>by omega,fun _=>h2⟩
    have hlate0:t < mk→0 < k:=fun hh=>by
     rcases HG.out with ⟨h1,h2,h3⟩ | ⟨h1,h2⟩
     · omega
     · exact h1
    have HMK2:=Lib.hid hmk2
    have HLT0:=Lib.hid hlate0
    clear hzD hmk2 hlate0
    obtain ⟨lb,hlb⟩:∃ lb,decide (t < mk)=lb:=⟨_,rfl⟩
    have HLB:=Lib.hid hlb
    clear hlb
    go_upto_region 8 with (fail)
    go_cut [33] (fun vb wx=>vb=.bool lb∧wr=wx)
    case first =>
     rcases Nat.eq_zero_or_pos k with hk0 | hk0
     · have hl:lb=false:=by
        rw [←HLB.out]
        exact decide_eq_false fun hh=>by have:=HLT0.out hh;omega
       subst hk0
       subst hl
       have d0:decide (((0:Nat):Int) > 0)=false:=rfl
       go_wp2_with fail
       go_meet
       exact ⟨rfl,rfl⟩
     · have hgs:=HG2.out.2 hk0
       have hl:decide (t < g - s)=lb:=by rw [←HLB.out,hgs]
       have HL9:=Lib.hid hl
       have i1:(k:Int) > 0:=by omega
       have d0:decide ((k:Int) > 0)=true:=by simp;omega
       clear hgs hl
       go_wp2_with fail
       go_meet
       exact ⟨by rw [←HL9.out],rfl⟩
    case rest =>
     obtain ⟨rfl,rfl⟩:=hcut
     go_upto_if 33 with (fail)
     go_cut [7] (fun vg wx=>vg=.int .i64 g∧∃ (vl1 vw1:Value) (Lt1 D1 W1:List Int),St (K0 w) be bw wx (.slice ao mo co) vl1 (.slice am mm cm) (.slice (some bd) n n) vw1 O Lt1 Mk D1 W1 ms []∧Fr (K0 w) wr wx∧Hid (srtS (ltK T) W1=lq T ⟨W,O,Lt,D,Mk,ms,mk⟩ k)∧Hid ((lstep T s ⟨W,O,Lt,D,Mk,ms,mk⟩ k).late=Lt1∧(if T.getD k 0 < mk then D.set k (-1) else D)=D1)∧Hid (W1.length≤30∧∀ x∈W1,∃ j:Nat,j < n∧x=j))
     case first =>
      by_cases hlate:t < mk
      · have hl:lb=true:=by rw [←HLB.out];exact decide_eq_true hlate
        subst hl
        have HLA:Hid ((lstep T s ⟨W,O,Lt,D,Mk,ms,mk⟩ k).late=Lt++[(k:Int)]∧(if T.getD k 0 < mk then D.set k (-1) else D)=D.set k (-1)):=by rw [Hid,HTKK.out];exact ⟨(if_pos (by rw [HTKK.out];exact hlate)),if_pos hlate⟩
        have HQ:Hid (srtS (ltK T) W=lq T ⟨W,O,Lt,D,Mk,ms,mk⟩ k):=by
         rw [Hid,lq,HTKK.out,srtS_self HI.out.asc];exact (if_pos hlate).symm
        clear hlate
        go_upto_region 10 with (at_builtin;refine wpList_app1m rfl _ _ 23 rfl elI rfl hSt.ow.o1 (by show Value.slice (some ⟨wr.heap.size,0,none⟩) 1 1=_;simp) rfl (Nat.zero_le _) _ HLe.out (by omega) (by omega) ?_;intro b7 c7 w7 ho7 hg7 hat7;have hgr:=hSt.grow (.tail _ (.head _)) hg7;have hc7:=box_cell hgr.1 1;have hf7:=frozen_of_row w7 be 1 _ _ hgr.1)
        have h8:=hSt.appL (O1:=Lt++[(k:Int)]) hKe hew HKR.out hg7 (by rw [ints_append];exact ho7) (hat_of hat7)
        obtain ⟨v7,hv7⟩:∃ v,Value.slice b7 (ml+1) c7=v:=⟨_,rfl⟩
        rw [hv7] at h8 ⊢
        obtain ⟨w8,hw8⟩:∃ w8,w7.setCell ⟨be,1,none⟩ v7=w8:=⟨_,rfl⟩
        rw [hw8] at h8 ⊢
        have hS8:=h8.1
        have c3':=hS8.cells.1.2.2.2.1
        have hcd:=hS8.ow.o3.rd.cell_i HZD.out
        have hfd:=hS8.ow.o3.frozen rfl k
        have h9:=hS8.setD (fun k hk=>by have:=HKR.out k hk;have:=h8.2.size;omega) (show k < D.length by rw [hDl.out];exact hlt) (-1)
        clear hv7 hw8 hg7 ho7 hat7 hgr hc7 hf7 c0 c1 c2 c3 c4
        go_wp2_with fail
        go_meet
        exact ⟨rfl,_,_,_,_,_,h9.1,h8.2.trans h9.2,HQ,HLA,⟨by have:=HLEN.out;have:=HMW.out;omega,fun x hx=>by obtain ⟨j,hj,e⟩:=HI.out.wlt x hx;exact ⟨j,by omega,e⟩⟩⟩
      · have hl:lb=false:=by rw [←HLB.out];exact decide_eq_false hlate
        subst hl
        have HLA:Hid ((lstep T s ⟨W,O,Lt,D,Mk,ms,mk⟩ k).late=Lt∧(if T.getD k 0 < mk then D.set k (-1) else D)=D):=by rw [Hid,HTKK.out];exact ⟨(if_neg (by rw [HTKK.out];exact hlate)),if_neg hlate⟩
        have HQ:Hid (srtS (ltK T) (W++[(k:Int)])=lq T ⟨W,O,Lt,D,Mk,ms,mk⟩ k):=by
         rw [Hid,lq,HTKK.out];exact (if_neg hlate).symm
        clear hlate
        go_wp2_with (at_builtin;refine wpList_app1m rfl _ _ 23 rfl elI rfl hSt.ow.o4 (by show Value.slice (some ⟨wr.heap.size,0,none⟩) 1 1=_;simp) rfl (Nat.zero_le _) _ HLw.out (by omega) (by omega) ?_;intro b7 c7 w7 ho7 hg7 hat7;have hgr:=hSt.grow (.tail _ (.tail _ (.tail _ (.tail _ (.head _))))) hg7;have hc7:=box_cell hgr.2 0;have hf7:=frozen_of_row w7 bw 0 _ _ hgr.2)
        have h8:=hSt.appW (O1:=W++[(k:Int)]) hKw hew HKR.out hg7 (by rw [ints_append];exact ho7) (hat_of hat7)
        go_meet
        exact ⟨rfl,_,_,_,_,_,h8.1,h8.2,HQ,HLA,⟨by have:=HLEN.out;have:=HMW.out;simp;omega,fun x hx=>by
         rcases List.mem_append.1 hx with hx | hx
         · obtain ⟨j,hj,e⟩:=HI.out.wlt x hx;exact ⟨j,by omega,e⟩
         · exact ⟨k,hlt,by simpa using hx⟩⟩⟩
     case rest =>
      obtain ⟨rfl,vl1,vw1,Lt1,D1,W1,hSt1,hF1,HQ,HLA,HW1⟩:=hcut
      clear hSt c0 c1 c2 c3 c4 cw0 fe fw hctr
      replace hF1:Fr (K0 w) wA wc:=hF.trans hF1
      have hctr:=box_cell ((hF1.block _ (K0b w)).trans HBT.out:wc.heap[w.heap.size]?=_) 0
      go_upto_if 49 with (fail)
      go_cut [7] (fun vg wx=>wc=wx∧∃ g1,vg=.int .i64 g1∧0≤g1∧g1≤1000∧Hid (max g1 t - s=mk2))
      case first =>
       rcases Nat.eq_zero_or_pos k with hk0 | hk0
       · have hx:Hid (max t t - s=mk2):=by have:=HG2.out.1 hk0;rw [Hid];omega
         subst hk0
         have d0:(((0:Nat):Int) == 0)=true:=rfl
         go_wp2_with fail
         go_meet
         exact ⟨rfl,t,rfl,htb.1,htb.2,hx⟩
       · have hx:Hid (max g t - s=mk2):=by have:=HG2.out.2 hk0;have:=HMK2.out;rw [Hid];omega
         have d0:((k:Int) == 0)=false:=by simp;omega
         go_wp2_with fail
         go_meet
         exact ⟨rfl,g,rfl,hg0,hg1,hx⟩
      case rest =>
       obtain ⟨rfl,g1,rfl,hg10,hg11,HX1⟩:=hcut
       go_upto_region 14 with (fail)
       go_cut [7] (fun vg wx=>wc=wx∧∃ g2,vg=.int .i64 g2∧0≤g2∧g2≤1000∧Hid (g2 - s=mk2))
       case first =>
        go_wp2_with fail
        all_goals
         go_meet
         exact ⟨rfl,_,rfl,by omega,by omega,by have:=HX1.out;rw [Hid];omega⟩
       case rest =>
        obtain ⟨rfl,g2,rfl,hg20,hg21,HX2⟩:=hcut
        clear HX1 hg0 hg1
        go_upto_region 16 with (fail)
        have hmk2b : -1001≤mk2∧mk2≤1000:=by have:=HX2.out;omega
        have hE2:=HX2.out
        obtain ⟨wM,hwM⟩:∃ wM,wc.alloc (.cells #[.int .i64 (g2 - s)] 3)=wM:=⟨_,rfl⟩
        have hbM:Below wc.heap.size wc wM:=by rw [←hwM];exact (Below.refl _ _).alloc (Nat.le_refl _) _
        have hmM:wM.heap[wc.heap.size]?=some (.cells #[.int .i64 mk2] 3 (0,0)):=by rw [←hwM,hE2];exact heap_alloc_new wc _
        have hbel:=box_lt hSt1.eb
        have hbwl:=box_lt hSt1.wb
        have hbms:wc.heap.size < wM.heap.size:=box_lt hmM
        have hK1c:∀ k,K0 w k→k < wc.heap.size:=fun k hk=>by have:=HKA.out k hk;have:=hF1.size;omega
        have hStM:=(hSt1.mono (K':=fun k=>K0 w k∨k=wc.heap.size) (fun k hk h=>h.resolve_right (by omega))).below hbM
        have hK1e:¬ (K0 w be∨be=wc.heap.size):=by rintro (h1 | h1);exact hKe h1;omega
        have hK1w:¬ (K0 w bw∨bw=wc.heap.size):=by rintro (h1 | h1);exact hKw h1;omega
        have hK1M:∀ k,(K0 w k∨k=wc.heap.size)→k < wM.heap.size:=fun k hk=>by
         rcases hk with h1 | h1
         · have:=hK1c k h1;omega
         · omega
        have HFM:Fr (K0 w) wA wM:=hF1.trans (Fr.below hbM hK1c)
        rw [hwM]
        obtain ⟨bm,hbm⟩:∃ bm,wc.heap.size=bm:=⟨_,rfl⟩
        rw [hbm] at hmM hStM hK1e hK1w hK1M ⊢
        have HK1M:=Lib.hid hK1M
        have HMM0:=Lib.hid hmM
        have hcm:=box_cell hmM 0
        obtain ⟨⟨c0,c1,c2,c3,c4⟩,cw0,fe,fw⟩:=hStM.cells
        clear hE2 hwM hbM hbm hbel hbwl hbms hK1c hK1M hmM hSt1 hF1 hctr
        have hctM:=box_cell ((HFM.block _ (K0b w)).trans HBT.out:wM.heap[w.heap.size]?=_) 0
        go_upto_region 17 with (at_builtin;refine wpList_app1m rfl _ _ 23 rfl elI rfl hStM.ow.o2 (by show Value.slice (some ⟨wM.heap.size,0,none⟩) 1 1=_;simp) rfl (Nat.zero_le _) _ HLm.out (by omega) (by omega) ?_;intro b7 c7 w7 ho7 hg7 hat7;have hgr:=hStM.grow (.tail _ (.tail _ (.head _))) hg7;have hc7:=box_cell hgr.1 2;have hf7:=frozen_of_row w7 be 2 _ _ hgr.1)
        have h8:=hStM.appM (O1:=Mk++[mk2]) hK1e hew HK1M.out hg7 (by rw [ints_append];exact ho7) (hat_of hat7)
        obtain ⟨v7,hv7⟩:∃ v,Value.slice b7 (mm+1) c7=v:=⟨_,rfl⟩
        rw [hv7] at h8 ⊢
        obtain ⟨w8,hw8⟩:∃ w8,w7.setCell ⟨be,2,none⟩ v7=w8:=⟨_,rfl⟩
        rw [hw8] at h8 ⊢
        have hS8:=h8.1
        have hF8:Fr (fun k=>K0 w k∨k=bm) wM w8:=h8.2
        have hFA8:Fr (K0 w) wA w8:=HFM.trans (hF8.mono fun k hk=>.inl hk)
        clear hv7 hw8 hg7 ho7 hat7 hgr hc7 hf7 c0 c1 c2 c3 c4 cw0 fe fw h8 hctM hcm
        have hbt8:=(hFA8.block _ (K0b w)).trans HBT.out
        have hR8:Rd w8 (.slice (some ad) n cT) (ints T):=hFA8.rd hR HTK.out
        have HE:Hid (Calls Tryz.prog 128 #[.int .i64 (k:Int),.func (.func 132) #[] #[.pointer (some ⟨bm,0,none⟩)],.pointer (some ⟨bw,0,none⟩),.pointer (some ⟨w.heap.size,0,none⟩),.pointer (some ⟨be,0,none⟩)] w8 (RetSt (fun k=>K0 w k∨k=bm) be bw vl1 v7 (.slice (some bd) n n) (O++(lq T ⟨W,O,Lt,D,Mk,ms,mk⟩ k).filter (due T mk2)) Lt1 (Mk++[mk2]) (setAll D1 ((lq T ⟨W,O,Lt,D,Mk,ms,mk⟩ k).filter (due T mk2)) k) ((lq T ⟨W,O,Lt,D,Mk,ms,mk⟩ k).filter fun x=>!due T mk2 x) ms w8)):=by
         have hOl:O.length≤60:=by have:=HLEN.out;omega
         have hD1:D1.length=n:=by
          rw [←HLA.out.2]
          split
          · rw [List.length_set];exact hDl.out
          · exact hDl.out
         have:=i_emit1 (fun t=>decide (t≤mk2)) 132 #[.pointer (some ⟨bm,0,none⟩)] k_emit2 (fun k=>K0 w k∨k=bm) be bw w.heap.size (.slice (some ad) n cT) T n k w8 _ _ _ _ bd n O Lt1 (Mk++[mk2]) D1 W1 ms hK1e hK1w hew
          (fun k hk=>by have:=HK1M.out k hk;have:=hF8.size;omega) (.inl (K0b w)) hbt8 hR8 (fun h k hk=>.inl (HTK.out h k hk)) HN.out.symm hn hS8 HW1.out.2 HW1.out.1 hOl hD1 (by omega)
          (fun wx t hf ht=>i_emit2 t mk2 _ wx (box_cell ((hf.block bm (.inr rfl)).trans ((hF8.block bm (.inr rfl)).trans HMM0.out)) 0))
         rw [HQ.out] at this
         exact this
        clear hbt8 hR8
        go_upto_region 18 with (go_at_call 128;refine HE.out.mono ?_;rintro e w9 ⟨rfl,vo9,vw9,hS9,hF9⟩)
        have hF:Fr (K0 w) wA w9:=hFA8.trans (hF9.mono fun k hk=>.inl hk)
        replace hS9:=hS9.mono (K':=K0 w) (fun k _ hk=>.inl hk)
        obtain ⟨L2,hL2⟩:∃ L2,(lq T ⟨W,O,Lt,D,Mk,ms,mk⟩ k).filter (fun x=>!due T mk2 x)=L2:=⟨_,rfl⟩
        have HFIN:Hid (lrun T s (k+1)=⟨L2,O++(lq T ⟨W,O,Lt,D,Mk,ms,mk⟩ k).filter (due T mk2),Lt1,setAll D1 ((lq T ⟨W,O,Lt,D,Mk,ms,mk⟩ k).filter (due T mk2)) (k:Int),Mk++[mk2],max ms (L2.length:Int),mk2⟩):=by
         have e1:=HSTEP.out
         have e2:=HLA.out
         rw [Hid,e1]
         have e3:lstep T s ⟨W,O,Lt,D,Mk,ms,mk⟩ k=⟨(lq T ⟨W,O,Lt,D,Mk,ms,mk⟩ k).filter fun x=>!due T (lmk T s ⟨W,O,Lt,D,Mk,ms,mk⟩ k) x,O++(lq T ⟨W,O,Lt,D,Mk,ms,mk⟩ k).filter (due T (lmk T s ⟨W,O,Lt,D,Mk,ms,mk⟩ k)),(lstep T s ⟨W,O,Lt,D,Mk,ms,mk⟩ k).late,setAll (if T.getD k 0 < mk then D.set k (-1) else D) ((lq T ⟨W,O,Lt,D,Mk,ms,mk⟩ k).filter (due T (lmk T s ⟨W,O,Lt,D,Mk,ms,mk⟩ k))) (k:Int),Mk++[lmk T s ⟨W,O,Lt,D,Mk,ms,mk⟩ k],max ms (((lq T ⟨W,O,Lt,D,Mk,ms,mk⟩ k).filter fun x=>!due T (lmk T s ⟨W,O,Lt,D,Mk,ms,mk⟩ k) x).length:Int),lmk T s ⟨W,O,Lt,D,Mk,ms,mk⟩ k⟩:=rfl
         rw [e3,e2.1,e2.2,HMK.out,hL2]
        rw [hL2] at hS9
        obtain ⟨a9,m9,c9,rfl,HM9,_,_⟩:=hS9.ow.o4.rd.formN
        have HM9':Hid (m9=L2.length):=HM9
        obtain ⟨⟨c0,c1,c2,c3,c4⟩,cw0,fe,fw⟩:=hS9.cells
        have hcase:(ms < (m9:Int)∧max ms (L2.length:Int)=m9)∨(¬ ms < (m9:Int)∧max ms (L2.length:Int)=ms):=by have:=HM9'.out;omega
        clear hL2 HE
        rcases hcase with ⟨hx,hxe⟩ | ⟨hx,hxe⟩
        · have hS10:=hS9.setMs hKe hew (m9:Int)
          rw [hxe] at HFIN
          clear hxe
          go_wp2_with fail
          go_roundg (n - (k+1))
          case measure=>omega
          case rel=>exact ⟨k+1,_,g2,_,_,_,_,rfl,by omega,by go_num,rfl,hg20,hg21,.inr ⟨by omega,HX2.out.symm⟩,HFIN,hS10.1,hF.trans hS10.2⟩
        · have hS10:=hS9.setMs hKe hew ms
          rw [hxe] at HFIN
          clear hxe
          go_wp2_with fail
          go_roundg (n - (k+1))
          case measure=>omega
          case rel=>exact ⟨k+1,_,g2,_,_,_,_,rfl,by omega,by go_num,rfl,hg20,hg21,.inr ⟨by omega,HX2.out.symm⟩,HFIN,hS10.1,hF.trans hS10.2⟩
  · have HKN:Hid (k=T.length):=by rw [Hid];have:=HN.out;omega
    have hkn:k=n:=by omega
    subst hkn
    have hRr:Rd wr (.slice aT k cT) (ints T):=hF.rd hR HTK.out
    have HDl:Hid (D.length=k):=by have:=HI.out.del;rw [Hid,HKN.out];exact this
    have HE:Hid (Calls Tryz.prog 128 #[.int .i64 ((k:Int) - 1),.func (.func 133) #[] #[],.pointer (some ⟨bw,0,none⟩),.pointer (some ⟨w.heap.size,0,none⟩),.pointer (some ⟨be,0,none⟩)] wr (RetSt (K0 w) be bw vl vm (.slice (some bd) k k) (O++W) Lt Mk (setAll D W ((k:Int) - 1)) [] ms wr)):=by
     have:=i_emit1 (fun _=>true) 133 #[] k_emit3 (K0 w) be bw w.heap.size (.slice aT k cT) T k ((k:Int) - 1) wr _ _ _ _ bd k O Lt Mk D W ms hKe hKw hew
      HKR.out (K0b w) HBR.out hRr HTK.out HKN.out.symm hn hSt HI.out.wlt (by have:=HLEN.out;omega) (by have:=HLEN.out;omega) HDl.out (by omega)
      (fun wx t hf ht=>i_emit3 t wx)
     have e1:(srtS (ltK T) W).filter (duo T fun _=>true)=W:=by
      rw [srtS_self HI.out.asc]
      exact List.filter_eq_self.2 fun _ _=>rfl
     have e2:((srtS (ltK T) W).filter fun x=>!duo T (fun _=>true) x)=[]:=List.filter_eq_nil_iff.2 fun _ _=>by simp [duo]
     rw [e1,e2] at this
     exact this
    have HF:Hid (lateOut T s=O++W∧lateLate T s=Lt∧lateDel T s=setAll D W ((k:Int) - 1)∧lateMost T s=ms∧lateMarks T s=Mk):=by
     have h1:=HL.out
     rw [HKN.out] at h1
     rw [Hid,lateOut,lateLate,lateDel,lateMost,lateMarks,h1,←HKN.out]
     exact ⟨rfl,rfl,rfl,rfl,rfl⟩
    clear hRr hlt
    go_upto_region 21 with (go_at_call 128;refine HE.out.mono ?_;rintro e w9 ⟨rfl,vo9,vw9,hS9,hF9⟩)
    obtain ⟨⟨c0,c1,c2,c3,c4⟩,cw0,fe,fw⟩:=hS9.cells
    have hbr9:w9.heap[w.heap.size+1]?=some (.cells #[.slice none 0 0,.slice none 0 0,.slice none 0 0,.slice none 0 0,.int .i64 0] 83 (0,0)):=(hF9.block _ (Nat.le_refl _)).trans ((hF.block _ (Nat.le_refl _)).trans HBRES.out)
    have r0:=box_cell hbr9 0
    have r1:=box_cell hbr9 1
    have r2:=box_cell hbr9 2
    have r3:=box_cell hbr9 3
    have r4:=box_cell hbr9 4
    have rf:=fun i=>frozen_of_row w9 (w.heap.size+1) i _ _ hbr9
    have HBR9:=Lib.hid hbr9
    have hew1:be≠w.heap.size+1:=fun e=>hKe (by unfold K0;omega)
    have hbw1:bw≠w.heap.size+1:=fun e=>hKw (by unfold K0;omega)
    clear hbr9
    obtain ⟨ao,mo,co,rfl,HMO,_,_⟩:=hS9.ow.o0.rd.formN
    obtain ⟨al,ml,cl,rfl,HMLt,_,_⟩:=hS9.ow.o1.rd.formN
    obtain ⟨am,mm,cm,rfl,HMM,_,_⟩:=hS9.ow.o2.rd.formN
    go_wp2_with fail
    have e1:=heap_setCell_same w9 (w.heap.size+1) 0 _ _ (.slice ao mo co) HBR9.out
    have e2:=heap_setCell_same _ (w.heap.size+1) 1 _ _ (.slice al ml cl) e1
    have e3:=heap_setCell_same _ (w.heap.size+1) 2 _ _ (.slice am mm cm) e2
    have e4:=heap_setCell_same _ (w.heap.size+1) 3 _ _ (.slice (some bd) k k) e3
    have e5:=heap_setCell_same _ (w.heap.size+1) 4 _ _ (.int .i64 ms) e4
    have ow5:=(((((StK0 (K:=K0 w) hS9).setBox (off:=0) HBR9.out (by decide) (.slice ao mo co)).setBox (off:=1) e1 (by decide) (.slice al ml cl)).setBox (off:=2) e2 (by decide) (.slice am mm cm)).setBox (off:=3) e3 (by decide) (.slice (some bd) k k)).setBox (off:=4) e4 (by decide) (.int .i64 ms)
    have hb9:Below w.heap.size w w9:=hbB.trans ((hF.trans hF9).to_below fun k hk=>by unfold K0;omega)
    have hb5:=((((hb9.setCell (p:=⟨w.heap.size+1,0,none⟩) (by simp) (.slice ao mo co)).setCell (p:=⟨w.heap.size+1,1,none⟩) (by simp) (.slice al ml cl)).setCell (p:=⟨w.heap.size+1,2,none⟩) (by simp) (.slice am mm cm)).setCell (p:=⟨w.heap.size+1,3,none⟩) (by simp) (.slice (some bd) k k)).setCell (p:=⟨w.heap.size+1,4,none⟩) (by simp) (.int .i64 ms)
    obtain ⟨wz,hwz⟩:∃ wz,((((w9.setCell ⟨w.heap.size+1,0,none⟩ (.slice ao mo co)).setCell ⟨w.heap.size+1,1,none⟩ (.slice al ml cl)).setCell ⟨w.heap.size+1,2,none⟩ (.slice am mm cm)).setCell ⟨w.heap.size+1,3,none⟩ (.slice (some bd) k k)).setCell ⟨w.heap.size+1,4,none⟩ (.int .i64 ms)=wz:=⟨_,rfl⟩
    rw [hwz] at e5 ow5 hb5 ⊢
    have q0:=box_cell e5 0
    have q1:=box_cell e5 1
    have q2:=box_cell e5 2
    have q3:=box_cell e5 3
    have q4:=box_cell e5 4
    have hq:∀ i:Nat,i < 5→(((((#[Value.slice none 0 0,.slice none 0 0,.slice none 0 0,.slice none 0 0,.int .i64 0]:Array Value).setIfInBounds 0 (.slice ao mo co)).setIfInBounds 1 (.slice al ml cl)).setIfInBounds 2 (.slice am mm cm)).setIfInBounds 3 (.slice (some bd) k k)).setIfInBounds 4 (.int .i64 ms)=#[.slice ao mo co,.slice al ml cl,.slice am mm cm,.slice (some bd) k k,.int .i64 ms]:=fun _ _=>rfl
    rw [hq 0 (by omega)] at q0 q1 q2 q3 q4
    refine bodyPost_ret (v:=.agg #[.slice ao mo co,.slice al ml cl,.slice am mm cm,.slice (some bd) k k,.int .i64 ms]) (by simp [results,Tryz.results78,go_sem,q0,q1,q2,q3,q4]) rfl ⟨_,_,_,_,by rw [HF.out.2.2.2.1],?_,hb5⟩
    rw [HF.out.1,HF.out.2.1,HF.out.2.2.1,HF.out.2.2.2.2]
    exact ow5
def tB (t:Int):Bool:=decide (0≤t) && decide (t≤1000)
theorem timesOk_eq (T:List Int):timesOk T=(decide (T.length≤30) && T.all tB):=rfl
theorem k_TimesOk1:Known 186:=known Tryz.func186 (by kernel_rfl) (by kernel_rfl)
theorem i_TimesOk1 (x:Int) (w:World):Calls Tryz.prog 186 #[.int .i64 x] w fun e w'=>e=.returned (.bool (!tB x))∧w=w':=by
 by_cases h1:x < 0
 · have H:Hid (tB x=false):=by rw [Hid,tB];simp;omega
   go_enter Tryz.func186,Tryz.ntmps186
   go_wp2
   go_ret
   exact ⟨ret_bool (by rw [H.out];rfl),rfl⟩
 · by_cases h2:x > 1000
   · have H:Hid (tB x=false):=by rw [Hid,tB];simp;omega
     go_enter Tryz.func186,Tryz.ntmps186
     go_wp2
     go_ret
     exact ⟨ret_bool (by rw [H.out];simp <;> omega),rfl⟩
   · have H:Hid (tB x=true):=by rw [Hid,tB];simp;omega
     go_enter Tryz.func186,Tryz.ntmps186
     go_wp2
     go_ret
     exact ⟨ret_bool (by rw [H.out];simp <;> omega),rfl⟩
theorem i_TimesOk (v:Value) (xs:List Int) (w:World) (h:Rd w v (ints xs)) :
 Calls Tryz.prog 127 #[v] w fun e w'=>e=.returned (.bool (timesOk xs))∧w=w':=by
 obtain ⟨a,c,rfl,h2,h3⟩:=h.formi
 have HF:=f_ContainsFunc (fun x=>!tB x) 186 #[] k_TimesOk1 _ xs w h (fun x _=>by simpa using i_TimesOk1 x w)
 have HR:Hid (timesOk xs=(decide (xs.length≤30) && !(xs.any fun x=>!tB x))):=by
  show _=_
  rw [List.not_any_eq_all_not,timesOk_eq]
  simp
 generalize (xs.any fun x=>!tB x)=r at *
 by_cases h16:xs.length≤30
 · have hd:decide ((xs.length:Int)≤30)=true:=by simp;omega
   go_enter Tryz.func127,Tryz.ntmps127
   go_wp2_with (go_at_call 119;refine HF.mono ?_;rintro e w' ⟨rfl,rfl⟩)
   go_ret
   exact ⟨ret_bool (by rw [HR.out];simp [h16]),rfl⟩
 · have hd:decide ((xs.length:Int)≤30)=false:=by simp;omega
   go_enter Tryz.func127,Tryz.ntmps127
   go_wp2
   go_ret
   exact ⟨ret_bool (by rw [HR.out];simp [h16]),rfl⟩
theorem i_isLate (v:Value) (xs:List Int) (s:Int) (w:World) (h:Rd w v (ints xs)) :
 Calls Tryz.prog 77 #[v,.int .i64 s] w fun e w'=>e=.returned (.bool (lateOkB xs s))∧w=w':=by
 have HT:=i_TimesOk v xs w h
 obtain ⟨a,c,rfl,h2,h3⟩:=h.formi
 have HR:Hid (lateOkB xs s=(timesOk xs && (decide (0≤s) && decide (s≤1000)))):=rfl
 cases ht:timesOk xs
 · rw [ht] at HT HR
   clear ht
   go_enter Tryz.func77,Tryz.ntmps77
   go_wp2_with (go_at_call 127;refine HT.mono ?_;rintro e w' ⟨rfl,rfl⟩)
   go_ret
   exact ⟨ret_bool (by rw [HR.out];rfl),rfl⟩
 · rw [ht] at HT HR
   clear ht
   by_cases h1:0≤s
   · have d1:decide (s ≥ 0)=true:=by simpa using h1
     go_enter Tryz.func77,Tryz.ntmps77
     go_wp2_with (go_at_call 127;refine HT.mono ?_;rintro e w' ⟨rfl,rfl⟩)
     go_ret
     exact ⟨ret_bool (by rw [HR.out];simp [h1] <;> omega),rfl⟩
   · have d1:decide (s ≥ 0)=false:=by simpa using h1
     go_enter Tryz.func77,Tryz.ntmps77
     go_wp2_with (go_at_call 127;refine HT.mono ?_;rintro e w' ⟨rfl,rfl⟩)
     go_ret
     exact ⟨ret_bool (by rw [HR.out];simp [h1] <;> omega),rfl⟩
theorem late_lens {T:List Int} {s:Int} (h:lateOkB T s=true):(lateOut T s).length≤30∧(lateLate T s).length≤30∧(lateDel T s).length=T.length∧(lateMarks T s).length=T.length:=by
 obtain ⟨⟨h1,h2⟩,h3⟩:=lateOkB_iff.1 h
 have H:=lrun_inv h2 h3 T.length (Nat.le_refl _)
 have:=H.len
 refine ⟨?_,?_,?_,?_⟩
 · rw [lateOut,List.length_append];omega
 · rw [lateLate];omega
 · rw [lateDel,setAll_length];exact H.del
 · exact H.marks
end Go.Proofs.YtggblfnajeikjaaGreatDoor
