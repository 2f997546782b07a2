/- Joined texts of the proof: Clone, Apply, Apply2. -/
import Derived.Lib.LazyBuf
import Derived.Test.YtggblfnajeikjaaGreatDoorJ7
namespace Go.Proofs.YtggblfnajeikjaaGreatDoor
open Go.RowKit
set_option linter.unusedVariables false
set_option linter.unusedSimpArgs false
set_option maxRecDepth 100000
set_option maxHeartbeats 16000000
theorem oneCell_ints (xs:List Int):∀ u∈ints xs,u.oneCell'=true:=by
 intro u hu
 simp only [ints,List.mem_map] at hu
 obtain ⟨x,_,rfl⟩:=hu
 rfl
theorem f_Clone (v:Value) (xs:List Int) (w:World) (h:Rd w v (ints xs)) (hl:xs.length≤2000000) :
 Calls Tryz.prog 85 #[v] w (RetOwn 3 (ints xs) w):=by
 obtain ⟨a,c,rfl,h2,h3⟩:=h.formi
 cases a with
 | none =>
   have hx:xs=[]:=by
    cases xs with
    | nil=>rfl
    | cons y t=>obtain ⟨ad,x,e,_⟩:=h.int (k:=0) (by simp);cases e
   subst hx
   have q:∀ W,(binOp .eql 23 (.slice none 0 c) (.slice none 0 0)).run Tryz.prog W=.ok (.bool true) W:=fun W=>run_eql_slice_nil W _ _ none 0 c Tryz.underlying23
   go_enter Tryz.func85,Tryz.ntmps85
   go_wp2
   go_ret
   exact RetOwn.nil w _
 | some ad =>
   have h':=h.alloc (.cells #[] 3)
   have HL:=Lib.hid hl
   clear hl
   have q:∀ W,(binOp .eql 23 (.slice (some ad) xs.length c) (.slice none 0 0)).run Tryz.prog W=.ok (.bool false) W:=fun W=>run_eql_slice_nil W _ _ (some ad) xs.length c Tryz.underlying23
   go_enter Tryz.func85,Tryz.ntmps85
   go_wp2_with (at_builtin;refine wpList_app (B:=w.heap.size) rfl _ _ 23 rfl elI rfl (Own.lit0 w 3 (Nat.le_refl _)) rfl h' (oneCell_ints _) (by simp) (by simp only [ints_length,List.length_nil];have:=HL.out;omega) (by simp only [ints_length,List.length_nil];have:=HL.out;omega) ?_;intro b cc w2 ho2 hg2 hat2;have hb2:=((Below.refl w.heap.size w).alloc (Nat.le_refl _) (.cells #[] 3)).grown hg2 (by simp) (fun r hr=>((Own.lit0 w 3 (Nat.le_refl _)).lt r hr).1))
   go_ret
   exact ⟨_,rfl,ho2,hb2⟩
theorem f_IndexFunc2B (p:List Int→Bool) (fn:Nat) (cap:Array Value) (hk:Known fn) (v:Value) (xss:List (List Int)) (w:World) (h:Rd2 w v xss)
 (hf:∀ (wr:World) (r:Value) (xs:List Int),Below w.heap.size w wr→xs∈xss→Rd wr r (ints xs)→Calls Tryz.prog fn (#[r]++cap) wr (RetB (.bool (p xs)) wr)) :
 Calls Tryz.prog 147 #[v,.func (.func fn) #[] cap] w (RetB (.int .i64 (idxOf2 p xss)) w):=by
 obtain ⟨a,c,rfl,h2,h3⟩:=h.form
 have HF0:=Lib.hid hf
 clear hf
 go_enter Tryz.func147,Tryz.ntmps147
 go_wp2
 go_loopw [8] (fun i wr=>∃ k:Nat,k≤xss.length∧i=.int .i64 k∧Below w.heap.size w wr∧Hid (∀ (j:Nat) y,j < k→xss[j]?=some y→p y=false)) (fun i _=>xss.length - (intOf i).toNat)
 case atStart=>exact ⟨0,Nat.zero_le _,rfl,Below.refl _ _,fun j y hj=>by omega⟩
 case round =>
  obtain ⟨k,hkl,rfl,hdr,HN⟩:=hrel
  by_cases hlt:k < xss.length
  · obtain ⟨ad,b,m,d,xs,rfl,hc,hx,hm,hmd,hd,hr⟩:=(h.below hdr).row hlt
    have HF:=Lib.hid (HF0.out wr _ xs hdr (List.mem_of_getElem? hx.out) hr)
    have hcall:=hk (#[.slice b m d]++cap) wr
    cases hp:p xs
    · rw [hp] at HF
      go_wp2_with ((with_reducible refine (HF.out).mono ?_);rintro e w2 ⟨rfl,hd2⟩)
      go_roundw
      case rel=>exact ⟨k+1,by omega,by go_num,hdr.trans (hd2.mono hdr.size),fun j y hj hy=>by
       by_cases e:j=k
       · subst e
         rw [hx.out] at hy
         cases hy
         exact hp
       · exact HN.out j y (by omega) hy⟩
      case measure=>simp [intOf];omega
    · rw [hp] at HF
      go_wp2_with ((with_reducible refine (HF.out).mono ?_);rintro e w2 ⟨rfl,hd2⟩)
      go_ret
      exact ⟨ret_int (idxOf2_yes hx.out hp HN.out).symm,hdr.trans (hd2.mono hdr.size)⟩
  · obtain rfl:xss.length=k:=by omega
    go_wp2
    go_ret
    exact ⟨ret_int (idxOf2_no HN.out).symm,hdr⟩
def swM (l:List Int) (a b:Nat):List Int:=(l.set a (min (l.getD a 0) (l.getD b 0))).set b (max (l.getD a 0) (l.getD b 0))
def apM (xss:List (List Int)) (xs:List Int):Nat→List Int
 | 0=>xs
 | k+1=>match xss[k]? with
   | some [a,b]=>swM (apM xss xs k) a.toNat b.toNat
   | _=>apM xss xs k
theorem swM_length (l:List Int) (a b:Nat):(swM l a b).length=l.length:=by simp [swM]
theorem apM_length (xss:List (List Int)) (xs:List Int):∀ k,(apM xss xs k).length=xs.length
 | 0=>rfl
 | k+1=>by
   have ih:=apM_length xss xs k
   simp only [apM]
   split
   · rw [swM_length];exact ih
   · exact ih
theorem apM_succ {xss:List (List Int)} {xs:List Int} {k a b:Nat} {x y:Int} (h:xss[k]?=some [(a:Int),(b:Int)]) (hx:(apM xss xs k)[a]?=some x) (hy:(apM xss xs k)[b]?=some y) :
 apM xss xs (k+1)=((apM xss xs k).set a (if y < x then y else x)).set b (if x < y then y else x):=by
 simp only [apM,h,Int.toNat_natCast,swM,List.getD_eq_getElem?_getD,hx,hy,Option.getD_some]
 congr 1
 · congr 1
   split <;> omega
 · split <;> omega
def Pairs (N:Nat) (xss:List (List Int)):Prop:=∀ (k:Nat) (xs:List Int),xss[k]?=some xs→∃ a b:Nat,xs=[(a:Int),(b:Int)]∧a < N∧b < N∧a≠b
theorem i_apply (N:Nat) (n:Int) (v u:Value) (xss:List (List Int)) (xs:List Int) (w:World) (h:Rd2 w v xss) (hu:Rd w u (ints xs)) (hN:xs.length=N) (hl:N≤2000000) (HW:Hid (Pairs N xss)) :
 Calls Tryz.prog 284 #[.agg #[.int .i64 n,v],u] w (RetOwn 3 (ints (apM xss xs xss.length)) w):=by
 obtain ⟨a0,c0,rfl,_,_⟩:=h.form
 obtain ⟨au,cu,rfl,hu2,hu3⟩:=hu.formi
 have HLn:=Lib.hid hN
 clear hN
 have hlx:xs.length≤2000000:=by have:=HLn.out;omega
 have hbA:Below w.heap.size w (w.alloc (.cells #[.int .i64 n,.slice a0 xss.length c0] 30)):=(Below.refl _ _).alloc (Nat.le_refl _) _
 have hu':=hu.alloc (.cells #[.int .i64 n,.slice a0 xss.length c0] 30)
 have bx:=Lib.hid (box_cells w (.int .i64 n) (.slice a0 xss.length c0) 30)
 go_enter Tryz.func284,Tryz.ntmps284
 go_wp2_with (go_at_call 85;refine (f_Clone _ xs _ hu' hlx).mono ?_;rintro e w2 ⟨vo,rfl,ho2,hb2⟩;obtain ⟨b,cc,rfl,_,_⟩:=ho2.rd.formi;have c1:w2.cell? ⟨w.heap.size,1,none⟩=some (.slice a0 xss.length c0):=(hb2.cell (by simp)).trans bx.out.2)
 have hz2:w.heap.size+1≤w2.heap.size:=by have:=hb2.size;simp at this;omega
 replace hb2:=hbA.trans (hb2.mono hbA.size)
 have e0:ints xs=ints (apM xss xs 0):=rfl
 replace ho2:=ho2.mono (B':=w.heap.size) (by simp)
 rw [e0] at ho2
 clear hu' e0 bx hz2 c1
 go_loopw [15] (fun i wr=>∃ k:Nat,k≤xss.length∧i=.int .i64 k∧Own wr 3 w.heap.size (.slice b xs.length cc) (ints (apM xss xs k))∧Below w.heap.size w wr)
  (fun i _=>xss.length - (intOf i).toNat)
 case atStart=>exact ⟨0,Nat.zero_le _,rfl,ho2,hb2⟩
 case round =>
  clear ho2 hb2
  obtain ⟨k,hkl,rfl,ho,hb⟩:=hrel
  by_cases hlt:k < xss.length
  · obtain ⟨ad,bx,m,d,row,rfl,hc0,hx,hm,hmd,hd,hr⟩:=h.row hlt
    obtain ⟨x,y,rfl,hxN,hyN,hxy⟩:=HW.out k row hx.out
    obtain rfl:m=2:=hm.out
    obtain ⟨z,x',rfl,hcx,hxx⟩:=hr.int (k:=0) (by simp)
    obtain ⟨z',y',hz,hcy,hyy⟩:=hr.int (k:=1) (by simp)
    obtain rfl:z=z':=by injection hz
    clear hz
    have e1:=hxx.out
    have e2:=hyy.out
    simp only [List.getElem?_cons_zero,List.getElem?_cons_succ,Option.some.injEq] at e1 e2
    subst e1 e2
    rw [add_succ] at hcy
    have hcx':w.cell? z=some (.int .i64 x):=by simpa [Addr.add] using hcx
    clear hcx
    have HSS:Hid (∀ wx:World,Below w.heap.size w wx→wx.cell? (ad.add k)=some (.slice (some z) 2 d)∧wx.cell? z=some (.int .i64 x)∧wx.cell? ⟨z.block,z.off+(0+1),none⟩=some (.int .i64 y)):=by
     intro wx hbx
     exact ⟨(hbx.cell (World.block_lt_of_cell? w _ hc0)).trans hc0,(hbx.cell (World.block_lt_of_cell? w _ hcx')).trans hcx',(hbx.cell (World.block_lt_of_cell? w _ hcy)).trans hcy⟩
    clear hc0 hcx' hcy
    obtain ⟨q1,q2,q3⟩:=HSS.out _ hb
    have HLk:Hid ((apM xss xs k).length=N):=by rw [Hid,apM_length];exact HLn.out
    have HA:=Lib.hid (fun (p q:Int)=>apM_succ (xs:=xs) (x:=p) (y:=q) hx.out)
    obtain ⟨l,hl0⟩:∃ l,apM xss xs k=l:=⟨_,rfl⟩
    rw [hl0] at ho HLk HA
    clear hl0
    obtain ⟨bo,p,rfl,hcp,hp⟩:=ho.rd.int (k:=x) (by rw [HLk.out];omega)
    obtain ⟨bo',q,hbo,hcq,hq⟩:=ho.rd.int (k:=y) (by rw [HLk.out];omega)
    obtain rfl:bo=bo':=by injection hbo
    clear hbo
    have HS:=Lib.hid (HA.out p q hp.out hq.out)
    clear HA
    have hx1:x < l.length:=by rw [HLk.out];omega
    have hy1:y < l.length:=by rw [HLk.out];omega
    have i2:(x:Int) < (xs.length:Int):=by have:=HLn.out;omega
    have i4:(y:Int) < (xs.length:Int):=by have:=HLn.out;omega
    go_wp2
    go_quiet (fail)
    clear q1 q2 q3 hcp hcq
    rename_i nq
    have hb1:Below w.heap.size w (wr.drewN nq):=hb.trans (Dr.below ((Dr.refl _).step _) _)
    obtain ⟨wv,hwv⟩:∃ wv,wr.drewN nq=wv:=⟨_,rfl⟩
    have ho1:=ho.drewN nq
    rw [hwv] at hb1 ho1 ⊢
    clear hwv ho hb
    obtain ⟨q1,q2,q3⟩:=HSS.out _ hb1
    have fz1:=ho1.frozen rfl x
    have fz0:=ho1.frozen rfl y
    have hta:=ho1.rd.cell_int' hp.out
    have htb:=ho1.rd.cell_int' hq.out
    have ht2:=(ho1.seti rfl hx1 (if q < p then q else p)).1
    have hb2:=ho1.below_set rfl hx1 (.int .i64 (if q < p then q else p)) hb1 (Nat.le_refl _)
    obtain ⟨r1,r2,r3⟩:=HSS.out _ hb2
    have fz3:=ht2.frozen rfl y
    have hy2:y < (l.set x (if q < p then q else p)).length:=by rw [List.length_set];exact hy1
    have htb2:=ht2.rd.cell_int' (show (l.set x (if q < p then q else p))[y]?=some q by rw [List.getElem?_set_ne (by omega)];exact hq.out)
    have ht3:=(ht2.seti rfl hy2 (if p < q then q else p)).1
    have hb3:=ht2.below_set rfl hy2 (.int .i64 (if p < q then q else p)) hb2 (Nat.le_refl _)
    obtain ⟨s1,s2,s3⟩:=HSS.out _ hb3
    go_wp2
    go_region_held3 (fun wx=>wx.cell? z=some (.int .i64 x)∧wx.cell? ⟨z.block,z.off+(0+1),none⟩=some (.int .i64 y)∧wx.frozen? (bo.add x)=false∧wx.frozen? (bo.add y)=false)
     (first | go_keep | (refine ⟨r2,r3,?_,?_⟩ <;> go_keep) | (refine ⟨s2,s3,?_,?_⟩ <;> go_keep))
     (fail)
    all_goals
     go_wp2
     go_roundw
     case rel=>exact ⟨k+1,by omega,by go_num,by rw [HS.out];exact ht3,⟨hb3.os,hb3.tape,hb3.output,hb3.size,hb3.block⟩⟩
     case measure=>simp [intOf];omega
  · obtain rfl:xss.length=k:=by omega
    go_wp2
    go_ret
    exact ⟨_,rfl,ho,hb⟩
end Go.Proofs.YtggblfnajeikjaaGreatDoor
