/- Joined texts of the proof: Nets, Nets2, Levels, Depth, Levels2, Depth2, CountReg, NetLaw, PlainFab, Tree, Play, Stable. -/
import Derived.Deep.RegionHeld3
import Derived.Test.YtggblfnajeikjaaGreatDoorJ5
namespace Go.Proofs.YtggblfnajeikjaaGreatDoor
open Go.RowKit
set_option linter.unusedVariables false
set_option linter.unusedSimpArgs false
set_option maxRecDepth 100000
set_option maxHeartbeats 16000000
def netRow (n:Int) (xs:List Int):Bool:=match xs with | [x,y]=>inB x 0 (n - 1) && inB y 0 (n - 1) && !decide (x=y) | _=>false
def netOk (n:Int) (xss:List (List Int)):Bool:=inB n 1 8 && decide (xss.length≤60) && xss.all (netRow n)
theorem Dr.cell {w w':World} (h:Dr w w') (p:Addr):w'.cell? p=w.cell? p:=by
 obtain ⟨n,rfl⟩:=h
 rfl
theorem netOk_no {n:Int} {xss:List (List Int)} {xs:List Int} (hx:xs∈xss) (h:netRow n xs=false):netOk n xss=false:=by
 unfold netOk
 rw [List.all_eq_false.2 ⟨xs,hx,by simp [h]⟩]
 simp
theorem s_NetworkOk (n:Int) (v:Value) (xss:List (List Int)) (w:World) (h:Rd2 w v xss) (hn:I64 n):Calls Tryz.prog 191 #[.agg #[.int .i64 n,v]] w (RetB (.bool (netOk n xss)) w):=by
 obtain ⟨a,c,rfl,h2,h3⟩:=h.form
 have hbA:Below w.heap.size w (w.alloc (.cells #[.int .i64 n,.slice a xss.length c] 30)):=(Below.refl _ _).alloc (Nat.le_refl _) _
 have h':=h.alloc (.cells #[.int .i64 n,.slice a xss.length c] 30)
 cases h1:inB n 1 8
 · have HR:Hid (netOk n xss=false):=by simp [netOk,h1,Hid]
   go_enter Tryz.func191,Tryz.ntmps191
   go_wp2_with (go_at_call 175;refine (s_l01In _ _ _ _).mono ?_;rintro e w' ⟨rfl,rfl⟩)
   go_ret
   exact ⟨ret_bool HR.out.symm,hbA⟩
 have hn8:=inB_iff.1 h1
 by_cases hl:xss.length≤60
 · have hd60:decide ((xss.length:Int) > 60)=false:=by simp;omega
   have HR:Hid (netOk n xss=xss.all (netRow n)):=by simp [netOk,h1,hl,Hid]
   have HNO:Hid (∀ xs,xs∈xss→netRow n xs=false→netOk n xss=false):=fun xs=>netOk_no
   generalize netOk n xss=r at HR HNO ⊢
   have iw:IntKind.i64.wrap (n - 1)=n - 1:=IntWalk.i64_in _ (by omega)
   go_enter Tryz.func191,Tryz.ntmps191
   go_wp2_with (go_at_call 175;refine (s_l01In _ _ _ _).mono ?_;rintro e w' ⟨rfl,rfl⟩)
   go_loopw [18] (fun i wr=>∃ k:Nat,k≤xss.length∧i=.int .i64 k∧Dr (w.alloc (.cells #[.int .i64 n,.slice a xss.length c] 30)) wr∧Hid (∀ (j:Nat) y,j < k→xss[j]?=some y→netRow n y=true)) (fun i _=>xss.length - (intOf i).toNat)
   case atStart=>exact ⟨0,Nat.zero_le _,rfl,Dr.refl _,fun j y hj=>by omega⟩
   case round =>
    obtain ⟨k,hkl,rfl,hdr,HN⟩:=hrel
    by_cases hlt:k < xss.length
    · obtain ⟨ad,b,m,d,xs,rfl,hc,hx,hm,hmd,hd,hr⟩:=(h'.dr hdr).row hlt
      have hb0:wr.cell? ⟨w.heap.size,0,none⟩=some (.int .i64 n):=(hdr.cell _).trans (by go_simp)
      have hmem:=List.mem_of_getElem? hx.out
      by_cases hm2:m=2
      · subst hm2
        obtain ⟨x,y,rfl⟩:∃ x y,xs=[x,y]:=by
         have:=hm.out
         match xs,this with
         | [x,y],_=>exact ⟨x,y,rfl⟩
        obtain ⟨z,x',rfl,hcx,hxx⟩:=hr.int (k:=0) (by simp)
        obtain ⟨z',y',hz,hcy,hyy⟩:=hr.int (k:=1) (by simp)
        obtain rfl:z=z':=by injection hz
        clear hz
        have e1:=hxx.out
        have e2:=hyy.out
        simp only [List.getElem?_cons_zero,List.getElem?_cons_succ,Option.some.injEq] at e1 e2
        subst e1 e2
        rw [add_succ] at hcy
        have hcx':wr.cell? z=some (.int .i64 x):=by simpa [Addr.add] using hcx
        clear hcx
        have HRW:Hid (netRow n [x,y]=(inB x 0 (n - 1) && inB y 0 (n - 1) && !decide (x=y))):=rfl
        have HX:=Lib.hid (fun wq=>s_l01In x 0 (n - 1) wq)
        have HY:=Lib.hid (fun wq=>s_l01In y 0 (n - 1) wq)
        cases hix:inB x 0 (n - 1)
        · rw [hix] at HX
          have HE:Hid (r=false):=HNO.out _ hmem (by rw [HRW.out,hix];rfl)
          clear hix
          go_wp2
          go_quiet (first | (go_at_call 175;exact Calls.quiet_of_same ((HX.out _).mono fun _ _ hh=>⟨hh.1,hh.2.symm⟩)))
          go_wp2
          go_ret
          exact ⟨ret_bool HE.out.symm,hbA.trans ((hdr.step _).below _)⟩
        · rw [hix] at HX
          cases hiy:inB y 0 (n - 1)
          · rw [hiy] at HY
            have HE:Hid (r=false):=HNO.out _ hmem (by rw [HRW.out,hix,hiy];rfl)
            go_wp2
            go_quiet ((go_at_call 175;exact Calls.quiet_of_same ((s_l01In _ _ _ _).mono fun _ _ hh=>⟨hh.1,hh.2.symm⟩)))
            go_wp2
            go_ret
            exact ⟨ret_bool HE.out.symm,hbA.trans ((hdr.step _).below _)⟩
          · rw [hiy] at HY
            by_cases hxy:x=y
            · subst hxy
              have HE:Hid (r=false):=HNO.out _ hmem (by rw [HRW.out,hix];simp)
              go_wp2
              go_quiet ((go_at_call 175;exact Calls.quiet_of_same ((s_l01In _ _ _ _).mono fun _ _ hh=>⟨hh.1,hh.2.symm⟩)))
              go_wp2
              go_ret
              exact ⟨ret_bool HE.out.symm,hbA.trans ((hdr.step _).below _)⟩
            · have HE:Hid (netRow n [x,y]=true):=by show _=_;rw [HRW.out,hix,hiy];simp [hxy]
              have hxb:(x == y)=false:=by rw [beq_eq_false_iff_ne];exact hxy
              go_wp2
              go_quiet ((go_at_call 175;exact Calls.quiet_of_same ((s_l01In _ _ _ _).mono fun _ _ hh=>⟨hh.1,hh.2.symm⟩)))
              go_wp2
              go_roundw
              case rel=>exact ⟨k+1,by omega,by go_num,hdr.step _,fun j y' hj hy'=>by
               by_cases e:j=k
               · subst e
                 rw [hx.out] at hy'
                 cases hy'
                 exact HE.out
               · exact HN.out j y' (by omega) hy'⟩
              case measure=>simp [intOf];omega
      · have hd2:((m:Int) == 2)=false:=by rw [beq_eq_false_iff_ne];omega
        have hd3:((m:Int) != 2)=true:=by rw [bne_iff_ne];omega
        have HE:Hid (r=false):=HNO.out _ hmem (by
         have:=hm.out
         match xs,this with
         | [],_=>rfl
         | [x],_=>rfl
         | [x,y],h=>exact absurd h (by simpa using hm2)
         | x :: y :: z :: t,_=>rfl)
        go_wp2
        go_quiet (fail)
        go_wp2
        go_ret
        exact ⟨ret_bool HE.out.symm,hbA.trans ((hdr.step _).below _)⟩
    · obtain rfl:xss.length=k:=by omega
      go_wp2
      go_ret
      refine ⟨ret_bool ?_,hbA.trans (hdr.below _)⟩
      rw [HR.out]
      symm
      rw [List.all_eq_true]
      intro x hx
      obtain ⟨j,hj,rfl⟩:=List.getElem_of_mem hx
      exact HN.out j _ hj (List.getElem?_eq_getElem hj)
 · have hd60:decide ((xss.length:Int) > 60)=true:=by simp;omega
   have HR:Hid (netOk n xss=false):=by simp [netOk,hl,Hid]
   go_enter Tryz.func191,Tryz.ntmps191
   go_wp2_with (go_at_call 175;refine (s_l01In _ _ _ _).mono ?_;rintro e w' ⟨rfl,rfl⟩)
   go_ret
   exact ⟨ret_bool HR.out.symm,hbA⟩
theorem box_cells (w:World) (x y:Value) (T:Nat):(w.alloc (.cells #[x,y] T)).cell? ⟨w.heap.size,0,none⟩=some x∧(w.alloc (.cells #[x,y] T)).cell? ⟨w.heap.size,1,none⟩=some y:=⟨by go_simp,by go_simp⟩
theorem i_isWires (n:Int) (w:World):Calls Tryz.prog 100 #[.int .i64 n] w fun e w'=>e=.returned (.bool (inB n 1 8))∧w=w':=by
 by_cases h1:n ≥ 1
 · have d1:decide (n ≥ 1)=true:=by simpa using h1
   go_enter Tryz.func100,Tryz.ntmps100
   go_wp2
   go_ret
   exact ⟨ret_bool (by rw [Bool.eq_iff_iff,inB_iff];simp;omega),rfl⟩
 · have d1:decide (n ≥ 1)=false:=by simpa using h1
   go_enter Tryz.func100,Tryz.ntmps100
   go_wp2
   go_ret
   exact ⟨ret_bool (by rw [inB_no.2 (by omega)]),rfl⟩
theorem i_isWire (n k:Int) (v:Value) (w:World):Calls Tryz.prog 101 #[.agg #[.int .i64 n,v],.int .i64 k] w (RetB (.bool (inB k 0 (n - 1))) w):=by
 by_cases h1:k ≥ 0
 · have d1:decide (k ≥ 0)=true:=by simpa using h1
   go_enter Tryz.func101,Tryz.ntmps101
   go_wp2
   go_ret
   exact ⟨ret_bool (by rw [Bool.eq_iff_iff,inB_iff];simp;omega),(Below.refl _ _).alloc (Nat.le_refl _) _⟩
 · have d1:decide (k ≥ 0)=false:=by simpa using h1
   go_enter Tryz.func101,Tryz.ntmps101
   go_wp2
   go_ret
   exact ⟨ret_bool (by rw [inB_no.2 (by omega)]),(Below.refl _ _).alloc (Nat.le_refl _) _⟩
theorem i_NetworkOk (n:Int) (v:Value) (xss:List (List Int)) (w:World) (h:Rd2 w v xss) (hn:I64 n):Calls Tryz.prog 40 #[.agg #[.int .i64 n,v]] w (RetB (.bool (netOk n xss)) w):=by
 obtain ⟨a,c,rfl,h2,h3⟩:=h.form
 have hbA:Below w.heap.size w (w.alloc (.cells #[.int .i64 n,.slice a xss.length c] 30)):=(Below.refl _ _).alloc (Nat.le_refl _) _
 have h':=h.alloc (.cells #[.int .i64 n,.slice a xss.length c] 30)
 cases h1:inB n 1 8
 · have HR:Hid (netOk n xss=false):=by simp [netOk,h1,Hid]
   go_enter Tryz.func40,Tryz.ntmps40
   go_wp2_with (go_at_call 100;refine (i_isWires _ _).mono ?_;rintro e w' ⟨rfl,rfl⟩)
   go_ret
   exact ⟨ret_bool HR.out.symm,hbA⟩
 have hn8:=inB_iff.1 h1
 by_cases hl:xss.length≤60
 · have hd60:decide ((xss.length:Int) > 60)=false:=by simp;omega
   have HR:Hid (netOk n xss=xss.all (netRow n)):=by simp [netOk,h1,hl,Hid]
   have HNO:Hid (∀ xs,xs∈xss→netRow n xs=false→netOk n xss=false):=fun xs=>netOk_no
   generalize netOk n xss=r at HR HNO ⊢
   go_enter Tryz.func40,Tryz.ntmps40
   go_wp2_with (go_at_call 100;refine (i_isWires _ _).mono ?_;rintro e w' ⟨rfl,rfl⟩)
   obtain ⟨w0,hw0⟩:∃ w0,w.alloc (.cells #[.int .i64 n,.slice a xss.length c] 30)=w0:=⟨_,rfl⟩
   have hz0:w0.heap.size=w.heap.size+1:=by rw [←hw0];simp
   have hc0:w0.cell? ⟨w.heap.size,0,none⟩=some (.int .i64 n):=by rw [←hw0];exact (box_cells _ _ _ _).1
   have hc1:w0.cell? ⟨w.heap.size,1,none⟩=some (.slice a xss.length c):=by rw [←hw0];exact (box_cells _ _ _ _).2
   rw [hw0] at h' hbA ⊢
   have HZ0:=Lib.hid hz0
   have HC0:=Lib.hid hc0
   have HC1:=Lib.hid hc1
   clear hz0 hc0 hc1 hw0
   go_loopw [18] (fun i wr=>∃ k:Nat,k≤xss.length∧i=.int .i64 k∧Below w0.heap.size w0 wr∧Hid (∀ (j:Nat) y,j < k→xss[j]?=some y→netRow n y=true)) (fun i _=>xss.length - (intOf i).toNat)
   case atStart=>exact ⟨0,Nat.zero_le _,rfl,Below.refl _ _,fun j y hj=>by omega⟩
   case round =>
    obtain ⟨k,hkl,rfl,hb,HN⟩:=hrel
    by_cases hlt:k < xss.length
    · obtain ⟨ad,b,m,d,xs,rfl,hc,hx,hm,hmd,hd,hr⟩:=(h'.below hb).row hlt
      have hmem:=List.mem_of_getElem? hx.out
      by_cases hm2:m=2
      · subst hm2
        obtain ⟨x,y,rfl⟩:∃ x y,xs=[x,y]:=by
         have:=hm.out
         match xs,this with
         | [x,y],_=>exact ⟨x,y,rfl⟩
        obtain ⟨z,x',rfl,hcx,hxx⟩:=hr.int (k:=0) (by simp)
        obtain ⟨z',y',hz,hcy,hyy⟩:=hr.int (k:=1) (by simp)
        obtain rfl:z=z':=by injection hz
        clear hz
        have e1:=hxx.out
        have e2:=hyy.out
        simp only [List.getElem?_cons_zero,List.getElem?_cons_succ,Option.some.injEq] at e1 e2
        subst e1 e2
        rw [add_succ] at hcy
        have hcx':wr.cell? z=some (.int .i64 x):=by simpa [Addr.add] using hcx
        clear hcx
        have HRW:Hid (netRow n [x,y]=(inB x 0 (n - 1) && inB y 0 (n - 1) && !decide (x=y))):=rfl
        by_cases hxy:x=y
        · subst hxy
          have HE:Hid (r=false):=HNO.out _ hmem (by rw [HRW.out];simp)
          go_wp2
          go_quiet (fail)
          go_wp2
          go_ret
          exact ⟨ret_bool HE.out.symm,hbA.trans ((hb.trans (Dr.below ((Dr.refl _).step _) _)).mono hbA.size)⟩
        · have hxb:(x == y)=false:=by rw [beq_eq_false_iff_ne];exact hxy
          have HX:=Lib.hid (fun wq=>i_isWire n x (.slice (some ad) xss.length c) wq)
          have HY:=Lib.hid (fun wq=>i_isWire n y (.slice (some ad) xss.length c) wq)
          have HS:Hid (∀ wx:World,Below wr.heap.size wr wx→wx.cell? ⟨w.heap.size,0,none⟩=some (.int .i64 n)∧wx.cell? ⟨w.heap.size,1,none⟩=some (.slice (some ad) xss.length c)∧wx.cell? z=some (.int .i64 x)∧wx.cell? ⟨z.block,z.off+(0+1),none⟩=some (.int .i64 y)):=by
           intro wx hbx
           have hs:=hb.size
           have hz:=HZ0.out
           have g0:wr.cell? ⟨w.heap.size,0,none⟩=some (.int .i64 n):=(hb.cell (show w.heap.size < w0.heap.size by omega)).trans HC0.out
           have g1:wr.cell? ⟨w.heap.size,1,none⟩=some (.slice (some ad) xss.length c):=(hb.cell (show w.heap.size < w0.heap.size by omega)).trans HC1.out
           exact ⟨(hbx.cell (World.block_lt_of_cell? _ _ g0)).trans g0,(hbx.cell (World.block_lt_of_cell? _ _ g1)).trans g1,(hbx.cell (World.block_lt_of_cell? _ _ hcx')).trans hcx',(hbx.cell (World.block_lt_of_cell? _ _ hcy)).trans hcy⟩
          obtain ⟨g0,g1,_,_⟩:=HS.out wr (Below.refl _ _)
          cases hix:inB x 0 (n - 1)
          · rw [hix] at HX
            have HE:Hid (r=false):=HNO.out _ hmem (by rw [HRW.out,hix];rfl)
            clear hix
            go_wp2
            refine wp_region_noPanic ?_
            refine wp_region_held_drew (S:=(fun wx=>wx.cell? ⟨w.heap.size,0,none⟩=some (.int .i64 n)∧wx.cell? ⟨w.heap.size,1,none⟩=some (.slice (some ad) xss.length c)∧wx.cell? z=some (.int .i64 x)∧wx.cell? ⟨z.block,z.off+(0+1),none⟩=some (.int .i64 y))) (by kernel_rfl) (HS.out _ (Below.drew (Below.refl _ _))) (fun hHeld=>?_)
            refine wpAnyH_take (i:=0) (v:=?v0) rfl (by kernel_rfl) (by kernel_rfl) (by kernel_rfl) (fun _ _ _ h=>h) (Or.inl ⟨by rfl,?hy0⟩) (by assumption) ?rest0
            case hy0=>(intro wx hSw;(try dsimp only at hSw);go_simp;try (with_reducible rfl))
            simp only [List.getElem_toArray,List.getElem_cons_zero,List.getElem_cons_succ,Act.put,List.setIfInBounds_toArray,List.set_cons_zero,List.set_cons_succ]
            refine wpAnyH_take (i:=1) (v:=?v1) rfl (by kernel_rfl) (by kernel_rfl) (by kernel_rfl) (fun _ _ _ h=>h) (Or.inl ⟨by rfl,?hy1⟩) (by assumption) ?rest1
            case hy1=>(intro wx hSw;(try dsimp only at hSw);go_simp;try (with_reducible rfl))
            simp only [List.getElem_toArray,List.getElem_cons_zero,List.getElem_cons_succ,Act.put,List.setIfInBounds_toArray,List.set_cons_zero,List.set_cons_succ]
            refine wpAnyH_take (i:=2) (v:=?v2) rfl (by kernel_rfl) (by kernel_rfl) (by kernel_rfl) (fun _ _ _ h=>h) (Or.inl ⟨by rfl,?hy2⟩) (by assumption) ?rest2
            case hy2=>(intro wx hSw;(try dsimp only at hSw);go_simp;try (with_reducible rfl))
            simp only [List.getElem_toArray,List.getElem_cons_zero,List.getElem_cons_succ,Act.put,List.setIfInBounds_toArray,List.set_cons_zero,List.set_cons_succ]
            refine wpAnyH_take (i:=3) (v:=?v3) rfl (by kernel_rfl) (by kernel_rfl) (by kernel_rfl) (fun _ _ _ h=>h) (Or.inl ⟨by rfl,?hy3⟩) (by assumption) ?rest3
            case hy3=>(intro wx hSw;(try dsimp only at hSw);go_simp;try (with_reducible rfl))
            simp only [List.getElem_toArray,List.getElem_cons_zero,List.getElem_cons_succ,Act.put,List.setIfInBounds_toArray,List.set_cons_zero,List.set_cons_succ]
            refine wpAnyH_take (i:=4) (v:=?v4) rfl (by kernel_rfl) (by kernel_rfl) (by kernel_rfl) (fun _ _ _ h=>h) (Or.inl ⟨by rfl,?hy4⟩) (by assumption) ?rest4
            case hy4=>(intro wx hSw;(try dsimp only at hSw);go_simp;try (with_reducible rfl))
            simp only [List.getElem_toArray,List.getElem_cons_zero,List.getElem_cons_succ,Act.put,List.setIfInBounds_toArray,List.set_cons_zero,List.set_cons_succ]
            refine wpAnyH_take (i:=5) (v:=?v5) rfl (by kernel_rfl) (by kernel_rfl) (by kernel_rfl) (fun _ _ _ h=>h) (Or.inl ⟨by rfl,?hy5⟩) (by assumption) ?rest5
            case hy5=>(intro wx hSw;(try dsimp only at hSw);go_simp;try (with_reducible rfl))
            simp only [List.getElem_toArray,List.getElem_cons_zero,List.getElem_cons_succ,Act.put,List.setIfInBounds_toArray,List.set_cons_zero,List.set_cons_succ]
            refine wpAnyH_take (i:=6) (v:=?v6) rfl (by kernel_rfl) (by kernel_rfl) (by kernel_rfl) (fun _ _ _ h=>h) (Or.inl ⟨by rfl,?hy6⟩) (by assumption) ?rest6
            case hy6=>(intro wx hSw;(try dsimp only at hSw);go_simp;try (with_reducible rfl))
            simp only [List.getElem_toArray,List.getElem_cons_zero,List.getElem_cons_succ,Act.put,List.setIfInBounds_toArray,List.set_cons_zero,List.set_cons_succ]
            refine wpAnyH_take (i:=7) (v:=?v7) rfl (by kernel_rfl) (by kernel_rfl) (by kernel_rfl) (fun _ _ _ h=>h) (Or.inl ⟨by rfl,?hy7⟩) (by assumption) ?rest7
            case hy7=>(intro wx hSw;(try dsimp only at hSw);go_simp;try (with_reducible rfl))
            simp only [List.getElem_toArray,List.getElem_cons_zero,List.getElem_cons_succ,Act.put,List.setIfInBounds_toArray,List.set_cons_zero,List.set_cons_succ]
            refine wpAnyH_take (i:=8) (v:=?v8) rfl (by kernel_rfl) (by kernel_rfl) (by kernel_rfl) (fun _ _ _ h=>h) (Or.inl ⟨by rfl,?hy8⟩) (by assumption) ?rest8
            case hy8=>(intro wx hSw;(try dsimp only at hSw);go_simp;try (with_reducible rfl))
            simp only [List.getElem_toArray,List.getElem_cons_zero,List.getElem_cons_succ,Act.put,List.setIfInBounds_toArray,List.set_cons_zero,List.set_cons_succ]
            refine wpAnyH_take (i:=9) (v:=?v9) rfl (by kernel_rfl) (by kernel_rfl) (by kernel_rfl) (fun _ _ _ h=>h) (Or.inl ⟨by rfl,?hy9⟩) (by assumption) ?rest9
            case hy9=>(intro wx hSw;(try dsimp only at hSw);go_simp;try (with_reducible rfl))
            simp only [List.getElem_toArray,List.getElem_cons_zero,List.getElem_cons_succ,Act.put,List.setIfInBounds_toArray,List.set_cons_zero,List.set_cons_succ]
            refine wpAnyH_take (i:=10) (v:=?v10) rfl (by kernel_rfl) (by kernel_rfl) (by kernel_rfl) (fun _ _ _ h=>h) (Or.inl ⟨by rfl,?hy10⟩) (by assumption) ?rest10
            case hy10=>(intro wx hSw;(try dsimp only at hSw);go_simp;try (with_reducible rfl))
            simp only [List.getElem_toArray,List.getElem_cons_zero,List.getElem_cons_succ,Act.put,List.setIfInBounds_toArray,List.set_cons_zero,List.set_cons_succ]
            refine wpAnyH_take (i:=11) (v:=?v11) rfl (by kernel_rfl) (by kernel_rfl) (by kernel_rfl) (fun _ _ _ h=>h) (Or.inl ⟨by rfl,?hy11⟩) (by assumption) ?rest11
            case hy11=>(intro wx hSw;(try dsimp only at hSw);go_simp;try (with_reducible rfl))
            simp only [List.getElem_toArray,List.getElem_cons_zero,List.getElem_cons_succ,Act.put,List.setIfInBounds_toArray,List.set_cons_zero,List.set_cons_succ]
            refine wpAnyH_take (i:=12) (v:=?v12) rfl (by kernel_rfl) (by kernel_rfl) (by kernel_rfl) (fun _ _ _ h=>h) (Or.inl ⟨by rfl,?hy12⟩) (by assumption) ?rest12
            case hy12=>(intro wx hSw;(try dsimp only at hSw);go_simp;try (with_reducible rfl))
            simp only [List.getElem_toArray,List.getElem_cons_zero,List.getElem_cons_succ,Act.put,List.setIfInBounds_toArray,List.set_cons_zero,List.set_cons_succ]
            refine wpAnyH_take (i:=13) (v:=?v13) rfl (by kernel_rfl) (by kernel_rfl) (by kernel_rfl) (fun _ _ _ h=>h) (Or.inl ⟨by rfl,?hy13⟩) (by assumption) ?rest13
            case hy13=>(intro wx hSw;(try dsimp only at hSw);go_simp;try (with_reducible rfl))
            simp only [List.getElem_toArray,List.getElem_cons_zero,List.getElem_cons_succ,Act.put,List.setIfInBounds_toArray,List.set_cons_zero,List.set_cons_succ]
            refine wpAnyH_take (i:=14) (v:=?v14) rfl (by kernel_rfl) (by kernel_rfl) (by kernel_rfl) (fun _ _ _ h=>h) (Or.inl ⟨by rfl,?hy14⟩) (by assumption) ?rest14
            case hy14=>(intro wx hSw;(try dsimp only at hSw);go_simp;try (with_reducible rfl))
            simp only [List.getElem_toArray,List.getElem_cons_zero,List.getElem_cons_succ,Act.put,List.setIfInBounds_toArray,List.set_cons_zero,List.set_cons_succ]
            refine wpAnyH_take (i:=15) (v:=?v15) rfl (by kernel_rfl) (by kernel_rfl) (by kernel_rfl) (fun _ _ _ h=>h) (Or.inl ⟨by rfl,?hy15⟩) (by assumption) ?rest15
            case hy15=>(intro wx hSw;(try dsimp only at hSw);go_simp;try (with_reducible rfl))
            simp only [List.getElem_toArray,List.getElem_cons_zero,List.getElem_cons_succ,Act.put,List.setIfInBounds_toArray,List.set_cons_zero,List.set_cons_succ]
            refine wpAnyH_take (i:=16) (v:=?v16) rfl (by kernel_rfl) (by kernel_rfl) (by kernel_rfl) (fun _ _ _ h=>h) (Or.inl ⟨by rfl,?hy16⟩) (by assumption) ?rest16
            case hy16=>(intro wx hSw;(try dsimp only at hSw);go_simp;try (with_reducible rfl))
            simp only [List.getElem_toArray,List.getElem_cons_zero,List.getElem_cons_succ,Act.put,List.setIfInBounds_toArray,List.set_cons_zero,List.set_cons_succ]
            refine wpAnyH_ready (rs:=[17]) (by kernel_rfl) (by simp) ?_
            refine AllReadyH.cons rfl (fun K hK=>?_) AllReadyH.nil
            go_simp
            go_at_call 101
            (with_reducible refine (HX.out _).mono ?_)
            rintro e w5 ⟨rfl,hb5⟩
            have hw5:Below wr.heap.size wr w5:=(by exact ⟨hb5.os,hb5.tape,hb5.output,hb5.size,hb5.block⟩)
            go_wp2_with fail
            refine hK.out _ _ (HS.out _ hw5) (fun hHeld2=>?_)
            clear hK K
            (try simp only [List.getElem_toArray,List.getElem_cons_zero,List.getElem_cons_succ,Act.put,List.setIfInBounds_toArray,List.set_cons_zero,List.set_cons_succ])
            refine wpAnyH_take (i:=18) (v:=?v18) rfl (by kernel_rfl) (by kernel_rfl) (by kernel_rfl) (fun _ _ _ h=>h) (Or.inl ⟨by rfl,?hy18⟩) (by assumption) ?rest18
            case hy18=>(intro wx hSw;(try dsimp only at hSw);go_simp;try (with_reducible rfl))
            simp only [List.getElem_toArray,List.getElem_cons_zero,List.getElem_cons_succ,Act.put,List.setIfInBounds_toArray,List.set_cons_zero,List.set_cons_succ]
            refine wpAnyH_take (i:=19) (v:=?v19) rfl (by kernel_rfl) (by kernel_rfl) (by kernel_rfl) (fun _ _ _ h=>h) (Or.inl ⟨by rfl,?hy19⟩) (by assumption) ?rest19
            case hy19=>(intro wx hSw;(try dsimp only at hSw);go_simp;try (with_reducible rfl))
            simp only [List.getElem_toArray,List.getElem_cons_zero,List.getElem_cons_succ,Act.put,List.setIfInBounds_toArray,List.set_cons_zero,List.set_cons_succ]
            refine wpAnyH_take (i:=20) (v:=?v20) rfl (by kernel_rfl) (by kernel_rfl) (by kernel_rfl) (fun _ _ _ h=>h) (Or.inl ⟨by rfl,?hy20⟩) (by assumption) ?rest20
            case hy20=>(intro wx hSw;(try dsimp only at hSw);go_simp;try (with_reducible rfl))
            simp only [List.getElem_toArray,List.getElem_cons_zero,List.getElem_cons_succ,Act.put,List.setIfInBounds_toArray,List.set_cons_zero,List.set_cons_succ]
            refine wpAnyH_take (i:=21) (v:=undef) rfl (by kernel_rfl) (by kernel_rfl) (by kernel_rfl) (fun _ _ _ h=>h) (Or.inr ⟨by rfl,rfl⟩) (by assumption) ?_
            simp only [List.getElem_toArray,List.getElem_cons_zero,List.getElem_cons_succ,Act.put,List.setIfInBounds_toArray,List.set_cons_zero,List.set_cons_succ]
            refine wpAnyH_take (i:=22) (v:=undef) rfl (by kernel_rfl) (by kernel_rfl) (by kernel_rfl) (fun _ _ _ h=>h) (Or.inr ⟨by rfl,rfl⟩) (by assumption) ?_
            simp only [List.getElem_toArray,List.getElem_cons_zero,List.getElem_cons_succ,Act.put,List.setIfInBounds_toArray,List.set_cons_zero,List.set_cons_succ]
            refine wpAnyH_take (i:=23) (v:=undef) rfl (by kernel_rfl) (by kernel_rfl) (by kernel_rfl) (fun _ _ _ h=>h) (Or.inr ⟨by rfl,rfl⟩) (by assumption) ?_
            simp only [List.getElem_toArray,List.getElem_cons_zero,List.getElem_cons_succ,Act.put,List.setIfInBounds_toArray,List.set_cons_zero,List.set_cons_succ]
            refine wpAnyH_take (i:=24) (v:=undef) rfl (by kernel_rfl) (by kernel_rfl) (by kernel_rfl) (fun _ _ _ h=>h) (Or.inr ⟨by rfl,rfl⟩) (by assumption) ?_
            simp only [List.getElem_toArray,List.getElem_cons_zero,List.getElem_cons_succ,Act.put,List.setIfInBounds_toArray,List.set_cons_zero,List.set_cons_succ]
            refine wpAnyH_take (i:=25) (v:=undef) rfl (by kernel_rfl) (by kernel_rfl) (by kernel_rfl) (fun _ _ _ h=>h) (Or.inr ⟨by rfl,rfl⟩) (by assumption) ?_
            simp only [List.getElem_toArray,List.getElem_cons_zero,List.getElem_cons_succ,Act.put,List.setIfInBounds_toArray,List.set_cons_zero,List.set_cons_succ]
            refine wpAnyH_take (i:=26) (v:=undef) rfl (by kernel_rfl) (by kernel_rfl) (by kernel_rfl) (fun _ _ _ h=>h) (Or.inr ⟨by rfl,rfl⟩) (by assumption) ?_
            simp only [List.getElem_toArray,List.getElem_cons_zero,List.getElem_cons_succ,Act.put,List.setIfInBounds_toArray,List.set_cons_zero,List.set_cons_succ]
            refine wpAnyH_take (i:=27) (v:=?v27) rfl (by kernel_rfl) (by kernel_rfl) (by kernel_rfl) (fun _ _ _ h=>h) (Or.inl ⟨by rfl,?hy27⟩) (by assumption) ?rest27
            case hy27=>(intro wx hSw;(try dsimp only at hSw);go_simp;try (with_reducible rfl))
            simp only [List.getElem_toArray,List.getElem_cons_zero,List.getElem_cons_succ,Act.put,List.setIfInBounds_toArray,List.set_cons_zero,List.set_cons_succ]
            refine wpAnyH_done (by kernel_rfl) ?_ _
            refine NoPanic.normal ?_
            go_wp2
            go_ret
            exact ⟨ret_bool HE.out.symm,hbA.trans ((hb.trans (hw5.mono hb.size)).mono hbA.size)⟩
          · rw [hix] at HX
            cases hiy:inB y 0 (n - 1)
            · rw [hiy] at HY
              have HE:Hid (r=false):=HNO.out _ hmem (by rw [HRW.out,hix,hiy];rfl)
              clear hix hiy
              go_wp2
              go_region_held3 (fun wx=>wx.cell? ⟨w.heap.size,0,none⟩=some (.int .i64 n)∧wx.cell? ⟨w.heap.size,1,none⟩=some (.slice (some ad) xss.length c)∧wx.cell? z=some (.int .i64 x)∧wx.cell? ⟨z.block,z.off+(0+1),none⟩=some (.int .i64 y))
               (first | exact HS.out _ hw6 | exact HS.out _ hw5 | go_keep)
               (first
                | (go_at_call 101;(with_reducible refine (HX.out _).mono ?_);rintro e w5 ⟨rfl,hb5⟩;have hw5:Below wr.heap.size wr w5:=(by exact ⟨hb5.os,hb5.tape,hb5.output,hb5.size,hb5.block⟩))
                | (go_at_call 101;(with_reducible refine (HY.out _).mono ?_);rintro e w6 ⟨rfl,hb6⟩;have hw6:Below wr.heap.size wr w6:=hw5.trans (Below.mono (by exact ⟨hb6.os,hb6.tape,hb6.output,hb6.size,hb6.block⟩) hw5.size)))
              go_wp2
              go_ret
              exact ⟨ret_bool HE.out.symm,hbA.trans ((hb.trans (hw6.mono hb.size)).mono hbA.size)⟩
            · rw [hiy] at HY
              have HE:Hid (netRow n [x,y]=true):=by show _=_;rw [HRW.out,hix,hiy];simp [hxy]
              clear hix hiy
              go_wp2
              go_region_held3 (fun wx=>wx.cell? ⟨w.heap.size,0,none⟩=some (.int .i64 n)∧wx.cell? ⟨w.heap.size,1,none⟩=some (.slice (some ad) xss.length c)∧wx.cell? z=some (.int .i64 x)∧wx.cell? ⟨z.block,z.off+(0+1),none⟩=some (.int .i64 y))
               (first | exact HS.out _ hw6 | exact HS.out _ hw5 | go_keep)
               (first
                | (go_at_call 101;(with_reducible refine (HX.out _).mono ?_);rintro e w5 ⟨rfl,hb5⟩;have hw5:Below wr.heap.size wr w5:=(by exact ⟨hb5.os,hb5.tape,hb5.output,hb5.size,hb5.block⟩))
                | (go_at_call 101;(with_reducible refine (HY.out _).mono ?_);rintro e w6 ⟨rfl,hb6⟩;have hw6:Below wr.heap.size wr w6:=hw5.trans (Below.mono (by exact ⟨hb6.os,hb6.tape,hb6.output,hb6.size,hb6.block⟩) hw5.size)))
              go_wp2
              go_roundw
              case rel=>exact ⟨k+1,by omega,by go_num,hb.trans (hw6.mono hb.size),fun j y' hj hy'=>by
               by_cases e:j=k
               · subst e
                 rw [hx.out] at hy'
                 cases hy'
                 exact HE.out
               · exact HN.out j y' (by omega) hy'⟩
              case measure=>simp [intOf];omega
      · have hd2:((m:Int) == 2)=false:=by rw [beq_eq_false_iff_ne];omega
        have hd3:((m:Int) != 2)=true:=by rw [bne_iff_ne];omega
        have HE:Hid (r=false):=HNO.out _ hmem (by
         have:=hm.out
         match xs,this with
         | [],_=>rfl
         | [x],_=>rfl
         | [x,y],h=>exact absurd h (by simpa using hm2)
         | x :: y :: z :: t,_=>rfl)
        go_wp2
        go_quiet (fail)
        go_wp2
        go_ret
        exact ⟨ret_bool HE.out.symm,hbA.trans ((hb.trans (Dr.below ((Dr.refl _).step _) _)).mono hbA.size)⟩
    · obtain rfl:xss.length=k:=by omega
      go_wp2
      go_ret
      refine ⟨ret_bool ?_,hbA.trans (hb.mono hbA.size)⟩
      rw [HR.out]
      symm
      rw [List.all_eq_true]
      intro x hx
      obtain ⟨j,hj,rfl⟩:=List.getElem_of_mem hx
      exact HN.out j _ hj (List.getElem?_eq_getElem hj)
 · have hd60:decide ((xss.length:Int) > 60)=true:=by simp;omega
   have HR:Hid (netOk n xss=false):=by simp [netOk,hl,Hid]
   go_enter Tryz.func40,Tryz.ntmps40
   go_wp2_with (go_at_call 100;refine (i_isWires _ _).mono ?_;rintro e w' ⟨rfl,rfl⟩)
   go_ret
   exact ⟨ret_bool HR.out.symm,hbA⟩
def lvM (xss:List (List Int)):Nat→(Nat→Int) × List Int
 | 0=>(fun _=>0,[])
 | k+1=>match xss[k]? with
   | some [a,b]=>(fun i=>if i=a.toNat∨i=b.toNat then 1+max ((lvM xss k).1 a.toNat) ((lvM xss k).1 b.toNat) else (lvM xss k).1 i,(lvM xss k).2++[1+max ((lvM xss k).1 a.toNat) ((lvM xss k).1 b.toNat)])
   | _=>lvM xss k
theorem lvM_succ {xss:List (List Int)} {k a b:Nat} (h:xss[k]?=some [(a:Int),(b:Int)]) :
 lvM xss (k+1)=(fun i=>if i=a∨i=b then 1+max ((lvM xss k).1 a) ((lvM xss k).1 b) else (lvM xss k).1 i,(lvM xss k).2++[1+max ((lvM xss k).1 a) ((lvM xss k).1 b)]):=by
 simp only [lvM,h,Int.toNat_natCast]
theorem lvM_bound (xss:List (List Int)):∀ (k i:Nat),0≤(lvM xss k).1 i∧(lvM xss k).1 i≤k
 | 0,i=>by simp [lvM]
 | k+1,i=>by
   have ih:=lvM_bound xss k
   simp only [lvM]
   split
   · rename_i a b _
     have h1:=ih a.toNat
     have h2:=ih b.toNat
     have h3:=ih i
     dsimp only
     split <;> omega
   · have:=ih i
     omega
theorem lvM_length (xss:List (List Int)):∀ k,(lvM xss k).2.length≤k
 | 0=>by simp [lvM]
 | k+1=>by
   have ih:=lvM_length xss k
   simp only [lvM]
   split
   · simp only [List.length_append,List.length_cons,List.length_nil];omega
   · omega
def atL (n:Nat) (f:Nat→Int):List Int:=(List.range n).map f
theorem atL_length (n:Nat) (f:Nat→Int):(atL n f).length=n:=by simp [atL]
theorem atL_get {n i:Nat} (f:Nat→Int) (h:i < n):(atL n f)[i]?=some (f i):=by simp [atL,h]
theorem atL_two {n a b:Nat} (f:Nat→Int) (m:Int) (ha:a < n) (hb:b < n):((atL n f).set a m).set b m=atL n (fun i=>if i=a∨i=b then m else f i):=by
 apply List.ext_getElem?
 intro q
 simp only [List.getElem?_set,List.length_set,atL_length]
 by_cases hq:q < n
 · rw [atL_get _ hq,atL_get _ hq]
   grind
 · have e1:(atL n f)[q]?=none:=List.getElem?_eq_none (by rw [atL_length];omega)
   have e2:(atL n (fun i=>if i=a∨i=b then m else f i))[q]?=none:=List.getElem?_eq_none (by rw [atL_length];omega)
   rw [e1,e2]
   grind
theorem netOk_n {n:Int} {xss:List (List Int)} (h:netOk n xss=true):∃ N:Nat,n=N∧1≤N∧N≤8∧xss.length≤60:=by
 simp only [netOk,Bool.and_eq_true,inB_iff,decide_eq_true_eq] at h
 exact ⟨n.toNat,by omega,by omega,by omega,h.1.2⟩
theorem netOk_row {N k:Nat} {xss:List (List Int)} {xs:List Int} (h:netOk (N:Int) xss=true) (hx:xss[k]?=some xs):∃ a b:Nat,xs=[(a:Int),(b:Int)]∧a < N∧b < N∧a≠b:=by
 simp only [netOk,Bool.and_eq_true,List.all_eq_true] at h
 have h2:=h.2 xs (List.mem_of_getElem? hx)
 match xs,h2 with
 | [x,y],h2 =>
   simp only [netRow,Bool.and_eq_true,inB_iff,Bool.not_eq_true',decide_eq_false_iff_not] at h2
   exact ⟨x.toNat,y.toNat,by simp;omega,by omega,by omega,by omega⟩
 | [],h2=>simp [netRow] at h2
 | [x],h2=>simp [netRow] at h2
 | x :: y :: z :: t,h2=>simp [netRow] at h2
theorem Rd.cell_int' {w:World} {p:Addr} {n c k:Nat} {xs:List Int} {x:Int} (h:Rd w (.slice (some p) n c) (ints xs)) (hx:xs[k]?=some x):w.cell? (p.add k)=some (.int .i64 x):=by
 obtain ⟨_,_,e,_,_⟩:=h.formi
 injection e with e1 e2 e3
 subst e2
 obtain ⟨ad,y,had,hc,hy⟩:=h.int (List.getElem?_eq_some_iff.1 hx).1
 injection had with had
 subst had
 rw [hy.out] at hx
 cases hx
 exact hc
def mostL (xs:List Int):Nat→Int
 | 0=>0
 | k+1=>max (mostL xs k) (xs.getD k 0)
theorem mostL_succ {xs:List Int} {k:Nat} {x:Int} (h:xs[k]?=some x):mostL xs (k+1)=max (mostL xs k) x:=by
 rw [mostL,List.getD_eq_getElem?_getD,h]
 rfl
theorem max_if (a b:Int):Value.int .i64 (if a < b then b else a)=.int .i64 (max a b):=by
 congr 1
 split <;> omega
def depthOf (n:Int) (xss:List (List Int)):Int:=if netOk n xss then mostL (lvM xss xss.length).2 (lvM xss xss.length).2.length else -1
theorem i_levels (N:Nat) (v:Value) (xss:List (List Int)) (w:World) (h:Rd2 w v xss) (hk:netOk (N:Int) xss=true):Calls Tryz.prog 63 #[.agg #[.int .i64 N,v]] w (RetOwn 3 (ints (lvM xss xss.length).2) w):=by
 obtain ⟨N',e,hN1,hN8,hL60⟩:=netOk_n hk
 obtain rfl:N=N':=by omega
 clear e
 have HK:=Lib.hid (fun k xs=>netOk_row (k:=k) (xs:=xs) hk)
 clear hk
 obtain ⟨a0,c0,rfl,_,_⟩:=h.form
 have bx:=box_cells w (.int .i64 N) (.slice a0 xss.length c0) 30
 go_enter Tryz.func63,Tryz.ntmps63
 go_wp2
 have bX:Below w.heap.size w (((w.alloc (.cells #[.int .i64 N,.slice a0 xss.length c0] 30)).alloc (.cells #[.int .i64 0,.int .i64 0,.int .i64 0,.int .i64 0,.int .i64 0,.int .i64 0,.int .i64 0,.int .i64 0] 109)).alloc (.cells #[] 3)):=(((Below.refl _ _).alloc (Nat.le_refl _) _).alloc (by simp) _).alloc (by simp <;> omega) _
 have htA:Own ((w.alloc (.cells #[.int .i64 N,.slice a0 xss.length c0] 30)).alloc (.cells #[.int .i64 0,.int .i64 0,.int .i64 0,.int .i64 0,.int .i64 0,.int .i64 0,.int .i64 0,.int .i64 0] 109)) 109 w.heap.size (.slice (some ⟨(w.alloc (.cells #[.int .i64 N,.slice a0 xss.length c0] 30)).heap.size,0,none⟩) 8 8) (ints (atL 8 (lvM xss 0).1)):=Own.lit _ 109 _ #[.int .i64 0,.int .i64 0,.int .i64 0,.int .i64 0,.int .i64 0,.int .i64 0,.int .i64 0,.int .i64 0] (by simp) (by simp)
 rw [show (w.alloc (.cells #[.int .i64 N,.slice a0 xss.length c0] 30)).heap.size=w.heap.size+1 by simp] at htA
 have hoA:=Own.lit0 (B:=w.heap.size) ((w.alloc (.cells #[.int .i64 N,.slice a0 xss.length c0] 30)).alloc (.cells #[.int .i64 0,.int .i64 0,.int .i64 0,.int .i64 0,.int .i64 0,.int .i64 0,.int .i64 0,.int .i64 0] 109)) 3 (by simp <;> omega)
 rw [show ((w.alloc (.cells #[.int .i64 N,.slice a0 xss.length c0] 30)).alloc (.cells #[.int .i64 0,.int .i64 0,.int .i64 0,.int .i64 0,.int .i64 0,.int .i64 0,.int .i64 0,.int .i64 0] 109)).heap.size=w.heap.size+1+1 by simp] at hoA
 obtain ⟨b,hbb⟩:∃ b:Addr,(⟨w.heap.size+1,0,none⟩:Addr)=b:=⟨_,rfl⟩
 have hbn:b.block=w.heap.size+1:=by rw [←hbb]
 rw [hbb] at htA ⊢
 have HBN:=Lib.hid hbn
 clear hbb hbn bx
 go_loopw [4,13] (fun vo i wr=>∃ k:Nat,k≤xss.length∧i=.int .i64 k∧Own wr 3 w.heap.size vo (ints (lvM xss k).2)∧Own wr 109 w.heap.size (.slice (some b) 8 8) (ints (atL 8 (lvM xss k).1))∧(∀ g,vo.ownBlock=some g→(Value.slice (some b) 8 8).ownBlock≠some g)∧Below w.heap.size w wr)
  (fun _ i _=>xss.length - (intOf i).toNat)
 case atStart=>exact ⟨0,Nat.zero_le _,rfl,hoA,htA.alloc _,fun g h2 h3=>by
  have:=HBN.out
  simp [Value.ownBlock] at h2 h3
  omega,bX⟩
 case round =>
  obtain ⟨k,hkl,rfl,ho,ht,hap,hb⟩:=hrel
  obtain ⟨ao,co,rfl,_,hco⟩:=ho.rd.formi
  have hLl:=lvM_length xss k
  by_cases hlt:k < xss.length
  · obtain ⟨ad,bx,m,d,xs,rfl,hc0,hx,hm,hmd,hd,hr⟩:=h.row hlt
    obtain ⟨x,y,rfl,hxN,hyN,hxy⟩:=HK.out k xs hx.out
    obtain rfl:m=2:=hm.out
    obtain ⟨z,x',rfl,hcx,hxx⟩:=hr.int (k:=0) (by simp)
    obtain ⟨z',y',hz,hcy,hyy⟩:=hr.int (k:=1) (by simp)
    obtain rfl:z=z':=by injection hz
    clear hz
    have e1:=hxx.out
    have e2:=hyy.out
    simp only [List.getElem?_cons_zero,List.getElem?_cons_succ,Option.some.injEq] at e1 e2
    subst e1 e2
    rw [add_succ] at hcy
    have hcx':w.cell? z=some (.int .i64 x):=by simpa [Addr.add] using hcx
    clear hcx
    have HSS:Hid (∀ wx:World,Below w.heap.size w wx→wx.cell? (ad.add k)=some (.slice (some z) 2 d)∧wx.cell? z=some (.int .i64 x)∧wx.cell? ⟨z.block,z.off+(0+1),none⟩=some (.int .i64 y)):=by
     intro wx hbx
     exact ⟨(hbx.cell (World.block_lt_of_cell? w _ hc0)).trans hc0,(hbx.cell (World.block_lt_of_cell? w _ hcx')).trans hcx',(hbx.cell (World.block_lt_of_cell? w _ hcy)).trans hcy⟩
    have hcW:=hcx'
    clear hc0 hcx' hcy
    obtain ⟨q1,q2,q3⟩:=HSS.out _ hb
    have HS:=Lib.hid (lvM_succ hx.out)
    have hbx:=lvM_bound xss k x
    have hby:=lvM_bound xss k y
    obtain ⟨f,hf⟩:∃ f,(lvM xss k).1=f:=⟨_,rfl⟩
    obtain ⟨os,hos⟩:∃ os,(lvM xss k).2=os:=⟨_,rfl⟩
    rw [hf] at ht hbx hby HS
    rw [hos] at ho HS hLl hap
    rw [hos]
    have hta:=ht.rd.cell_int' (atL_get (n:=8) (i:=x) f (by omega))
    have htb:=ht.rd.cell_int' (atL_get (n:=8) (i:=y) f (by omega))
    clear hf hos
    have i1:(0:Int)≤(x:Int):=by omega
    have i2:(x:Int) < 8:=by omega
    have i3:(0:Int)≤(y:Int):=by omega
    have i4:(y:Int) < 8:=by omega
    have iw:IntKind.i64.wrap (1+if f x < f y then f y else f x)=1+if f x < f y then f y else f x:=IntWalk.i64_in _ (by split <;> omega)
    go_wp2
    go_quiet (fail)
    clear iw q1 q2 q3 hta htb
    rename_i nq
    obtain ⟨M0,hM0⟩:∃ M0,(if f x < f y then f y else f x)=M0:=⟨_,rfl⟩
    rw [hM0]
    obtain ⟨M,hM⟩:∃ M,1+M0=M:=⟨_,rfl⟩
    rw [hM]
    have hMx:1+max (f x) (f y)=M:=by rw [←hM,←hM0];split <;> omega
    rw [hMx] at HS
    clear hM hMx hM0
    have hb1:Below w.heap.size w (wr.drewN nq):=hb.trans (Dr.below ((Dr.refl _).step _) _)
    obtain ⟨wv,hwv⟩:∃ wv,wr.drewN nq=wv:=⟨_,rfl⟩
    have ht1:=ht.drewN nq
    have ho1:=ho.drewN nq
    rw [hwv] at hb1 ht1 ho1 ⊢
    clear hwv ht ho hb
    obtain ⟨q1,q2,q3⟩:=HSS.out _ hb1
    have fz1:=ht1.frozen rfl x
    have fz2:=ht1.frozen rfl y
    have hta:=ht1.rd.cell_int' (atL_get (n:=8) (i:=x) f (by omega))
    have htb:=ht1.rd.cell_int' (atL_get (n:=8) (i:=y) f (by omega))
    have hzb:z.block≠b.block:=by
     have e1:=HBN.out
     have e2:=World.block_lt_of_cell? w _ hcW
     omega
    have hL:=atL_length 8 f
    have ht2:=(ht1.seti rfl (show x < (atL 8 f).length by omega) M).1
    have hb2:=ht1.below_set rfl (show x < (atL 8 f).length by omega) (.int .i64 M) hb1 (Nat.le_refl _)
    obtain ⟨r1,r2,r3⟩:=HSS.out _ hb2
    have fz3:=ht2.frozen rfl y
    have hL2:((atL 8 f).set x M).length=8:=by rw [List.length_set];exact hL
    have htb2:=ht2.rd.cell_int' (show ((atL 8 f).set x M)[y]?=some (f y) by rw [List.getElem?_set_ne (by omega)];exact atL_get f (by omega))
    have ht3:=(ht2.seti rfl (show y < ((atL 8 f).set x M).length by omega) M).1
    have hb3:=ht2.below_set rfl (show y < ((atL 8 f).set x M).length by omega) (.int .i64 M) hb2 (Nat.le_refl _)
    obtain ⟨s1,s2,s3⟩:=HSS.out _ hb3
    have ho3:=(ho1.setCell (p:=b.add x) (by rw [block_of_add];intro e;exact hap _ e rfl) (.int .i64 M)).setCell (p:=b.add y) (by rw [block_of_add];intro e;exact hap _ e rfl) (.int .i64 M)
    rw [atL_two f M (show x < 8 by omega) (show y < 8 by omega)] at ht3
    have hlo:=ints_length os
    clear hL hL2
    go_wp2
    go_region_held3 (fun wx=>wx.cell? z=some (.int .i64 x)∧wx.cell? ⟨z.block,z.off+(0+1),none⟩=some (.int .i64 y)∧wx.frozen? (b.add x)=false∧wx.frozen? (b.add y)=false)
     (first | go_keep | (refine ⟨r2,r3,?_,?_⟩ <;> go_keep) | (refine ⟨s2,s3,?_,?_⟩ <;> go_keep))
     (fail)
    have ho4:=ho3.drew
    have ht4:=ht3.drew
    have hb4:=Below.drew hb3
    clear ho3 ht3 hb3 ht1 ht2 ho1 hb2 r1 r2 r3 s1 s2 s3 q1 q2 q3 fz1 fz2 fz3 hta htb htb2
    go_wp2_with (at_builtin;refine wpList_app1 rfl _ _ 23 rfl elI rfl ho4 (by show Value.slice (some ⟨wv.heap.size,0,none⟩) 1 1=_;simp) rfl hb4.size (by omega) (by omega) ?_;intro bn cn' w6 ho6 hg6 hat6)
    simp only [ints_length] at ho6 hat6
    have ht6:=ht4.apart hg6 fun g h2 h3=>hap g h3 h2
    go_roundw
    case rel=>exact ⟨k+1,by omega,by go_num,by rw [HS.out,ints_append];exact ho6,by rw [HS.out];exact ht6,fun g h2 h3=>by
     rcases hat6 with e | ⟨q,hq,e⟩
     · exact hap g (e ▸ h2) h3
     · rw [e] at h2
       cases h2
       have:=(ht4.lt _ h3).2
       omega,hb4.grown hg6 hb4.size fun r hr=>(ho4.lt r hr).1⟩
    case measure=>simp [intOf];omega
  · obtain rfl:xss.length=k:=by omega
    go_wp2
    go_ret
    exact ⟨_,rfl,ho,hb⟩
theorem i_DepthOf (n:Int) (v:Value) (xss:List (List Int)) (w:World) (h:Rd2 w v xss) (hn:I64 n):Calls Tryz.prog 15 #[.agg #[.int .i64 n,v]] w (RetB (.int .i64 (depthOf n xss)) w):=by
 obtain ⟨a,c,rfl,h2,h3⟩:=h.form
 have hbA:Below w.heap.size w (w.alloc (.cells #[.int .i64 n,.slice a xss.length c] 30)):=(Below.refl _ _).alloc (Nat.le_refl _) _
 have h':=h.alloc (.cells #[.int .i64 n,.slice a xss.length c] 30)
 have HN:=i_NetworkOk n _ xss _ h' hn
 cases hk:netOk n xss
 · rw [hk] at HN
   have HR:Hid (depthOf n xss = -1):=by simp [depthOf,hk,Hid]
   go_enter Tryz.func15,Tryz.ntmps15
   go_wp2_with (go_at_call 40;refine HN.mono ?_;rintro e w2 ⟨rfl,hb2⟩)
   go_ret
   exact ⟨ret_int HR.out.symm,hbA.trans (hb2.mono (by simp))⟩
 rw [hk] at HN
 obtain ⟨N,rfl,hN1,hN8,hL60⟩:=netOk_n hk
 obtain ⟨xs,hxs⟩:∃ xs,(lvM xss xss.length).2=xs:=⟨_,rfl⟩
 have HR:Hid (depthOf (N:Int) xss=mostL xs xs.length):=by simp [depthOf,hk,hxs,Hid]
 have HL:=Lib.hid (fun (wq:World) (hq:Below w.heap.size w wq)=>i_levels N _ xss wq (h.below hq) hk)
 rw [hxs] at HL
 clear hk hxs
 have bx:=box_cells w (.int .i64 N) (.slice a xss.length c) 30
 go_enter Tryz.func15,Tryz.ntmps15
 go_wp2_with (first
  | (go_at_call 40;refine HN.mono ?_;rintro e w2 ⟨rfl,hb2⟩
     have c0:w2.cell? ⟨w.heap.size,0,none⟩=some (.int .i64 N):=(hb2.cell (by simp)).trans bx.1
     have c1:w2.cell? ⟨w.heap.size,1,none⟩=some (.slice a xss.length c):=(hb2.cell (by simp)).trans bx.2
     have hbB:Below w.heap.size w w2:=hbA.trans (hb2.mono (by simp)))
  | (go_at_call 63;refine (HL.out _ hbB).mono ?_;rintro e w3 ⟨vo,rfl,ho3,hb3⟩;obtain ⟨ao,co,rfl,_,_⟩:=ho3.rd.formi))
 have hbC:Below w.heap.size w w3:=hbB.trans (hb3.mono hbB.size)
 clear c0 c1 hb2 bx HN
 go_loopw [3,12] (fun m i wr=>∃ k:Nat,k≤xs.length∧i=.int .i64 k∧m=.int .i64 (mostL xs k)∧Dr w3 wr) (fun _ i _=>xs.length - (intOf i).toNat)
 case atStart=>exact ⟨0,Nat.zero_le _,rfl,rfl,Dr.refl _⟩
 case round =>
  obtain ⟨k,hkl,rfl,rfl,hdr⟩:=hrel
  by_cases hlt:k < xs.length
  · obtain ⟨ad,x,rfl,hc,hx⟩:=(ho3.rd.dr hdr).int hlt
    have HM:=Lib.hid (mostL_succ hx.out)
    go_wp2
    go_roundw
    case rel=>exact ⟨k+1,by omega,by go_num,by rw [HM.out];exact max_if _ _,hdr⟩
    case measure=>simp [intOf];omega
  · obtain rfl:xs.length=k:=by omega
    go_wp2
    go_ret
    exact ⟨ret_int HR.out.symm,hbC.trans (hdr.below _)⟩
theorem lvM_mem (xss:List (List Int)):∀ (k:Nat),∀ x∈(lvM xss k).2,0≤x∧x≤k
 | 0,x,hx=>by simp [lvM] at hx
 | k+1,x,hx=>by
   have ih:=lvM_mem xss k
   simp only [lvM] at hx
   split at hx
   · rename_i a b _
     have h1:=lvM_bound xss k a.toNat
     have h2:=lvM_bound xss k b.toNat
     simp only [List.mem_append,List.mem_cons,List.not_mem_nil,or_false] at hx
     rcases hx with hx | rfl
     · have:=ih x hx;omega
     · omega
   · have:=ih x hx;omega
theorem mostL_bound {xs:List Int} {B:Int} (hB:0≤B) (h:∀ x∈xs,0≤x∧x≤B):∀ k,0≤mostL xs k∧mostL xs k≤B
 | 0=>⟨Int.le_refl _,hB⟩
 | k+1=>by
   have ih:=mostL_bound hB h k
   have hg:0≤xs.getD k 0∧xs.getD k 0≤B:=by
    rw [List.getD_eq_getElem?_getD]
    cases hx:xs[k]? with
    | none=>exact ⟨Int.le_refl _,hB⟩
    | some x=>exact h x (List.mem_of_getElem? hx)
   simp only [mostL]
   omega
theorem depthOf_bound {n:Int} {xss:List (List Int)} (h:netOk n xss=true):0≤depthOf n xss∧depthOf n xss≤60:=by
 obtain ⟨N,rfl,_,_,h60⟩:=netOk_n h
 unfold depthOf
 rw [if_pos h]
 exact mostL_bound (by omega) (fun x hx=>by have:=lvM_mem xss _ x hx;omega) _
theorem Chg.cell {B T:Nat} {w w':World} (h:Chg B T w w') {p:Addr} (hp:p.block < w.heap.size) (hd:p.block < B∨T≤p.block):w'.cell? p=w.cell? p:=by
 have:=h.block _ hp hd
 simp only [World.cell?,this]
def par (a:Nat):Nat:=a+1 - 2 * (a % 2)
theorem par_par (a:Nat):par (par a)=a:=by unfold par;omega
theorem par_ne (a:Nat):par a≠a:=by unfold par;omega
theorem par_half (a:Nat):par a / 2=a / 2:=by unfold par;omega
theorem par_mod (a:Nat):par a % 2=1 - a % 2:=by unfold par;omega
theorem par_lt {a h:Nat} (ha:a < 2 * h):par a < 2 * h:=by unfold par;omega
theorem half_eq {a b:Nat} (h:a / 2=b / 2):a=b∨a=par b:=by unfold par;omega
theorem len_bd:∀ (n:Nat) (l:List Nat),l.Nodup→(∀ x∈l,x < n)→l.length≤n
 | 0,l,_,h=>by
   cases l with
   | nil=>simp
   | cons a t=>have:=h a (by simp);omega
 | n+1,l,hn,h=>by
   by_cases hm:n∈l
   · have h1:=len_bd n (l.erase n) (hn.erase n) fun x hx=>by
      have h2:=(List.Nodup.mem_erase_iff hn).1 hx
      have:=h x h2.2
      have:=h2.1
      omega
     rw [List.length_erase_of_mem hm] at h1
     omega
   · have h1:=len_bd n l hn fun x hx=>by
      have:=h x hx
      have : x≠n:=fun e=>hm (e ▸ hx)
      omega
     omega
theorem all_mem {n:Nat} {l:List Nat} (hn:l.Nodup) (h:∀ x∈l,x < n) (hl:l.length=n) {v:Nat} (hv:v < n):v∈l:=by
 by_cases hm:v∈l
 · exact hm
 · have:=len_bd n (v :: l) (List.nodup_cons.2 ⟨hm,hn⟩) fun x hx=>by
    rcases List.mem_cons.1 hx with rfl | hx
    · exact hv
    · exact h x hx
   simp at this
   omega
structure Ord (n:Nat) (x:Nat→Nat):Prop where
 lx:∀ o,o < n→x o < n
 inj:∀ o p,o < n→p < n→x o=x p→o=p
 sur:∀ v,v < n→∃ o,o < n∧x o=v
def invF (n:Nat) (x:Nat→Nat) (v:Nat):Nat:=((List.range n).map x).idxOf v
section
variable {n h:Nat} {x:Nat→Nat}
theorem Ord.ly (H:Ord n x) {v:Nat} (hv:v < n):invF n x v < n:=by
 obtain ⟨o,ho,e⟩:=H.sur v hv
 have:=List.idxOf_lt_length_of_mem (a:=v) (l:=(List.range n).map x) (List.mem_map.2 ⟨o,by simpa using ho,e⟩)
 simpa [invF] using this
theorem invF_at {v:Nat} (hl:invF n x v < n):x (invF n x v)=v:=by
 have h1:List.idxOf v ((List.range n).map x) < ((List.range n).map x).length:=by simpa [invF] using hl
 have h2:=List.getElem_idxOf h1
 rw [List.getElem_map,List.getElem_range] at h2
 exact h2
theorem Ord.xy (H:Ord n x) {v:Nat} (hv:v < n):x (invF n x v)=v:=invF_at (H.ly hv)
theorem Ord.yx (H:Ord n x) {o:Nat} (ho:o < n):invF n x (x o)=o:=H.inj _ _ (H.ly (H.lx o ho)) ho (H.xy (H.lx o ho))
def tt (n:Nat) (x:Nat→Nat) (o:Nat):Nat:=invF n x (par (x o))
def ff (n:Nat) (x:Nat→Nat) (o:Nat):Nat:=par (tt n x o)
theorem Ord.tt_lt (H:Ord (2 * h) x) {o:Nat} (ho:o < 2 * h):tt (2 * h) x o < 2 * h:=H.ly (par_lt (H.lx o ho))
theorem Ord.x_tt (H:Ord (2 * h) x) {o:Nat} (ho:o < 2 * h):x (tt (2 * h) x o)=par (x o):=H.xy (par_lt (H.lx o ho))
theorem Ord.tt_tt (H:Ord (2 * h) x) {o:Nat} (ho:o < 2 * h):tt (2 * h) x (tt (2 * h) x o)=o:=by
 have : tt (2 * h) x (tt (2 * h) x o)=invF (2 * h) x (par (x (tt (2 * h) x o))):=rfl
 rw [this,H.x_tt ho,par_par,H.yx ho]
theorem Ord.tt_ne (H:Ord (2 * h) x) {o:Nat} (ho:o < 2 * h):tt (2 * h) x o≠o:=fun e=>by
 have:=H.x_tt ho
 rw [e] at this
 exact par_ne _ this.symm
theorem Ord.ff_lt (H:Ord (2 * h) x) {o:Nat} (ho:o < 2 * h):ff (2 * h) x o < 2 * h:=par_lt (H.tt_lt ho)
theorem Ord.ff_inj (H:Ord (2 * h) x) {o p:Nat} (ho:o < 2 * h) (hp:p < 2 * h) (e:ff (2 * h) x o=ff (2 * h) x p):o=p:=by
 have e2:tt (2 * h) x o=tt (2 * h) x p:=by rw [←par_par (tt (2 * h) x o),←par_par (tt (2 * h) x p)];exact congrArg par e
 rw [←H.tt_tt ho,e2,H.tt_tt hp]
end
def upd {α:Type} (f:Nat→α) (k:Nat) (v:α):Nat→α:=fun i=>if i=k then v else f i
theorem upd_at {α:Type} (f:Nat→α) (k:Nat) (v:α):upd f k v k=v:=by simp [upd]
theorem upd_off {α:Type} (f:Nat→α) {k i:Nat} (v:α) (h:i≠k):upd f k v i=f i:=by simp [upd,h]
structure FS where
 set:Nat→Bool
 last:Nat→Nat
 first:Nat→Nat
 up:Nat→Nat
 low:Nat→Nat
def fput (n:Nat) (x:Nat→Nat) (s:FS) (o:Nat):FS :=
 ⟨upd s.set (o / 2) true,upd s.last (o / 2) (o % 2),upd s.first (x o / 2) (x o % 2),upd s.up (o / 2) (x o / 2),upd s.low (ff n x o / 2) (x o / 2)⟩
def FS.V (s:FS) (o:Nat):Prop:=s.set (o / 2)=true∧s.last (o / 2)=o % 2
structure FB (h:Nat) (x:Nat→Nat) (s:FS):Prop where
 lb:∀ k,k < h→s.set k=true→s.last k < 2
 up:∀ k,k < h→s.set k=true→s.up k=x (2 * k+s.last k) / 2
structure FD (h:Nat) (x:Nat→Nat) (s:FS):Prop where
 base:FB h x s
 low:∀ k,k < h→s.set k=true→s.low k=x (2 * k+1 - s.last k) / 2
 c2:∀ p,p < 2 * h→s.V p→s.V (ff (2 * h) x p)
 c3:∀ q,q < 2 * h→s.V q→∃ p,p < 2 * h∧s.V p∧ff (2 * h) x p=q
structure FR0 (h:Nat) (x:Nat→Nat) (s:FS) (j c:Nat):Prop where
 base:FB h x s
 jh:j < h
 ch:c < 2 * h
 vc:s.V c
 sj:s.set j=true
 lj:s.last j=0
 c2:∀ p,p < 2 * h→s.V p→p≠c→s.V (ff (2 * h) x p)
 c3:∀ q,q < 2 * h→s.V q→q≠2 * j→∃ p,p < 2 * h∧s.V p∧p≠c∧ff (2 * h) x p=q
structure FR (h:Nat) (x:Nat→Nat) (s:FS) (j c:Nat):Prop where
 r0:FR0 h x s j c
 pend:s.low (ff (2 * h) x c / 2)=x (tt (2 * h) x c) / 2
 low:∀ k,k < h→s.set k=true→k≠j→s.low k=x (2 * k+1 - s.last k) / 2
section
variable {h j c o:Nat} {x:Nat→Nat} {s:FS}
theorem V_conf {o:Nat} (h1:s.V o) (h2:s.V (par o)):False:=by
 obtain ⟨_,a⟩:=h1
 obtain ⟨_,b⟩:=h2
 rw [par_half,par_mod] at b
 omega
theorem FR0.claim (H:Ord (2 * h) x) (R:FR0 h x s j c) (hs:s.set (ff (2 * h) x c / 2)=true):ff (2 * h) x c=2 * j:=by
 have hfl:=H.ff_lt R.ch
 obtain ⟨k,hk⟩:∃ k,ff (2 * h) x c / 2=k:=⟨_,rfl⟩
 rw [hk] at hs
 have hkh:k < h:=by omega
 have hlb:=R.base.lb k hkh hs
 have hv:s.V (2 * k+s.last k):=by
  have e1:(2 * k+s.last k) / 2=k:=by omega
  refine ⟨by rw [e1];exact hs,by rw [e1];omega⟩
 have hvl:2 * k+s.last k < 2 * h:=by omega
 obtain ⟨q,hq⟩:∃ q,2 * k+s.last k=q:=⟨_,rfl⟩
 rw [hq] at hv hvl
 rcases half_eq (a:=ff (2 * h) x c) (b:=q) (by omega) with e | e
 · by_cases e2:q=2 * j
   · rw [e,e2]
   · obtain ⟨p,hp,hvp,hpc,he⟩:=R.c3 q hvl hv e2
     exact absurd (H.ff_inj hp R.ch (he.trans e.symm)) hpc
 · have e2:tt (2 * h) x c=q:=by rw [←par_par (tt (2 * h) x c),←par_par q];exact congrArg par e
   have e3:c=tt (2 * h) x q:=by rw [←e2,H.tt_tt R.ch]
   by_cases e4:q=c
   · exact absurd (e2.trans e4) (H.tt_ne R.ch)
   · have h1:=R.c2 q hvl hv e4
     rw [ff,←e3] at h1
     exact (V_conf R.vc h1).elim
theorem V_put {n:Nat} (o p:Nat) (h1:(fput n x s o).V p) (hs:s.set (o / 2)=false):p=o∨(s.V p∧p≠o):=by
 by_cases e:p / 2=o / 2
 · obtain ⟨_,b⟩:=h1
   simp only [fput,e,upd_at] at b
   left
   omega
 · obtain ⟨a,b⟩:=h1
   simp only [fput,upd_off _ _ e] at a b
   exact .inr ⟨⟨a,b⟩,fun e2=>e (by rw [e2])⟩
theorem V_keep {n:Nat} {o p:Nat} (h1:s.V p) (hs:s.set (o / 2)=false):(fput n x s o).V p:=by
 have e:p / 2≠o / 2:=fun e=>by
  have:=h1.1
  rw [e,hs] at this
  cases this
 exact ⟨by simp only [fput,upd_off _ _ e];exact h1.1,by simp only [fput,upd_off _ _ e];exact h1.2⟩
theorem V_new (n o:Nat):(fput n x s o).V o:=⟨by simp [fput,upd_at],by simp [fput,upd_at]⟩
theorem FB.put (n:Nat) (B:FB h x s) (o:Nat):FB h x (fput n x s o):=by
 refine ⟨fun k hk hs=>?_,fun k hk hs=>?_⟩
 · by_cases e:k=o / 2
   · simp only [fput,e,upd_at];omega
   · simp only [fput,upd_off _ _ e] at hs ⊢
     exact B.lb k hk hs
 · by_cases e:k=o / 2
   · simp only [fput,e,upd_at]
     rw [show 2 * (o / 2)+o % 2=o by omega]
   · simp only [fput,upd_off _ _ e] at hs ⊢
     exact B.up k hk hs
theorem FR.of0 (H:Ord (2 * h) x) (R:FR0 h x (fput (2 * h) x s o) j o) (hlow:∀ k,k < h→(fput (2 * h) x s o).set k=true→k≠j→s.low k=x (2 * k+1 - (fput (2 * h) x s o).last k) / 2):FR h x (fput (2 * h) x s o) j o:=by
 refine ⟨R,?_,fun k hk hs hj=>?_⟩
 · simp only [fput,upd_at]
   rw [H.x_tt R.ch,par_half]
 · have e:k≠ff (2 * h) x o / 2:=fun e=>by
    rw [e] at hs
    have:=R.claim H hs
    omega
   rw [←hlow k hk hs hj]
   simp only [fput,upd_off _ _ e]
theorem FD.start (H:Ord (2 * h) x) (D:FD h x s) (hj:j < h) (hs:s.set j=false):FR h x (fput (2 * h) x s (2 * j)) j (2 * j):=by
 have e1:2 * j / 2=j:=by omega
 have hs':s.set (2 * j / 2)=false:=by rw [e1];exact hs
 refine FR.of0 H ⟨D.base.put _ _,hj,by omega,V_new _ _,by simp [fput,e1,upd_at],by simp [fput,e1,upd_at],fun p hp hv hne=>?_,fun q hq hv hne=>?_⟩ fun k hk hk2 hkj=>?_
 · rcases V_put _ _ hv hs' with e | ⟨h1,_⟩
   · exact absurd e hne
   · exact V_keep (D.c2 p hp h1) hs'
 · rcases V_put _ _ hv hs' with e | ⟨h1,_⟩
   · exact absurd e hne
   · obtain ⟨p,hp,hvp,he⟩:=D.c3 q hq h1
     refine ⟨p,hp,V_keep hvp hs',fun e=>?_,he⟩
     have:=hvp.1
     rw [e,hs'] at this
     cases this
 · have e:k≠2 * j / 2:=by omega
   simp only [fput,upd_off _ _ e] at hk2 ⊢
   exact D.low k hk hk2
theorem FR.next (H:Ord (2 * h) x) (R:FR h x s j c) (ho:ff (2 * h) x c=o) (hs:s.set (o / 2)=false):FR h x (fput (2 * h) x s o) j o:=by
 have hol:o < 2 * h:=by rw [←ho];exact H.ff_lt R.r0.ch
 have hjo:j≠o / 2:=fun e=>by
  have:=R.r0.sj
  rw [e,hs] at this
  cases this
 have hvo:¬ s.V o:=fun hv=>by
  have:=hv.1
  rw [hs] at this
  cases this
 refine FR.of0 H ⟨R.r0.base.put _ _,R.r0.jh,hol,V_new _ _,by simp only [fput,upd_off _ _ hjo];exact R.r0.sj,by simp only [fput,upd_off _ _ hjo];exact R.r0.lj,fun p hp hv hne=>?_,fun q hq hv hne=>?_⟩ fun k hk hk2 hkj=>?_
 · rcases V_put _ _ hv hs with e | ⟨h1,_⟩
   · exact absurd e hne
   · by_cases e:p=c
     · subst e
       rw [ho]
       exact V_new _ _
     · exact V_keep (R.r0.c2 p hp h1 e) hs
 · rcases V_put _ _ hv hs with e | ⟨h1,_⟩
   · subst e
     exact ⟨c,R.r0.ch,V_keep R.r0.vc hs,fun e=>hvo (e ▸ R.r0.vc),ho⟩
   · obtain ⟨p,hp,hvp,hpc,he⟩:=R.r0.c3 q hq h1 hne
     exact ⟨p,hp,V_keep hvp hs,fun e=>hvo (e ▸ hvp),he⟩
 · by_cases e:k=o / 2
   · have hp:=R.pend
     rw [ho] at hp
     simp only [fput,e,upd_at]
     rw [hp]
     have e2:2 * (o / 2)+1 - o % 2=par o:=by unfold par;omega
     rw [e2,←ho,ff,par_par]
   · simp only [fput,upd_off _ _ e] at hk2 ⊢
     exact R.low k hk hk2 hkj
theorem FR.done (H:Ord (2 * h) x) (R:FR h x s j c) (hs:s.set (ff (2 * h) x c / 2)=true):FD h x s:=by
 have hc:=R.r0.claim H hs
 refine ⟨R.r0.base,fun k hk hk2=>?_,fun p hp hv=>?_,fun q hq hv=>?_⟩
 · by_cases e:k=j
   · subst e
     have hp:=R.pend
     rw [hc,show 2 * k / 2=k by omega] at hp
     rw [hp,R.r0.lj]
     have : tt (2 * h) x c=2 * k+1 - 0:=by
      rw [←par_par (tt (2 * h) x c)]
      have : par (tt (2 * h) x c)=2 * k:=hc
      rw [this]
      unfold par
      omega
     rw [this]
   · exact R.low k hk hk2 e
 · by_cases e:p=c
   · subst e
     rw [hc]
     exact ⟨by rw [show 2 * j / 2=j by omega];exact R.r0.sj,by rw [show 2 * j / 2=j by omega,R.r0.lj];omega⟩
   · exact R.r0.c2 p hp hv e
 · by_cases e:q=2 * j
   · exact ⟨c,R.r0.ch,R.r0.vc,hc.trans e.symm⟩
   · obtain ⟨p,hp,hvp,_,he⟩:=R.r0.c3 q hq hv e
     exact ⟨p,hp,hvp,he⟩
end
def cntU (h:Nat) (s:FS):Nat:=((List.range h).filter fun k=>!s.set k).length
def cyc (n:Nat) (x:Nat→Nat):Nat→Nat→FS→FS
 | 0,_,s=>s
 | f+1,o,s=>if s.set (o / 2)=true then s else cyc n x f (ff n x o) (fput n x s o)
def cycs (h:Nat) (x:Nat→Nat):Nat→FS
 | 0=>⟨fun _=>false,fun _=>0,fun _=>0,fun _=>0,fun _=>0⟩
 | j+1=>cyc (2 * h) x (cntU h (cycs h x j)) (2 * j) (cycs h x j)
section
variable {h j c o:Nat} {x:Nat→Nat} {s:FS}
theorem filter_one (p q:Nat→Bool) (k:Nat) (hk:p k=true) (hq:∀ i,q i=(p i && decide (i≠k))):∀ h,k < h→((List.range h).filter q).length+1=((List.range h).filter p).length
 | 0,hk2=>by omega
 | h+1,hk2=>by
   rw [List.range_succ,List.filter_append,List.filter_append,List.length_append,List.length_append]
   by_cases e:k=h
   · subst e
     have h0:(List.range k).filter q=(List.range k).filter p:=List.filter_congr fun i hi=>by
      rw [List.mem_range] at hi
      rw [hq i,decide_eq_true (by omega:i≠k),Bool.and_true]
     rw [h0]
     simp [hk,hq k]
   · have:=filter_one p q k hk hq h (by omega)
     have h1:q h=p h:=by rw [hq h,decide_eq_true (by omega:h≠k),Bool.and_true]
     have : (List.filter q [h]).length=(List.filter p [h]).length:=by simp only [List.filter_cons,List.filter_nil,h1]
     omega
theorem cnt_put {n:Nat} (ho:o / 2 < h) (hs:s.set (o / 2)=false):cntU h (fput n x s o)+1=cntU h s:=by
 refine filter_one (fun k=>!s.set k) (fun k=>!(fput n x s o).set k) (o / 2) (by simp [hs]) (fun i=>?_) h ho
 by_cases e:i=o / 2
 · simp [fput,e,upd_at]
 · simp [fput,upd_off _ _ e,e]
theorem cyc_stop {n:Nat} (f:Nat) (hs:s.set (o / 2)=true):cyc n x f o s=s:=by
 cases f with
 | zero=>rfl
 | succ f=>rw [cyc,if_pos hs]
theorem cyc_go {n:Nat} (ho:o / 2 < h) (hs:s.set (o / 2)=false):cyc n x (cntU h s) o s=cyc n x (cntU h (fput n x s o)) (ff n x o) (fput n x s o):=by
 rw [←cnt_put (n:=n) (x:=x) ho hs,cyc,if_neg (by rw [hs];simp)]
theorem cyc_FD (H:Ord (2 * h) x):∀ (f:Nat) (s:FS) (c:Nat),cntU h s≤f→FR h x s j c→FD h x (cyc (2 * h) x (cntU h s) (ff (2 * h) x c) s)∧∀ k,s.set k=true→(cyc (2 * h) x (cntU h s) (ff (2 * h) x c) s).set k=true
 | f,s,c,hf,R=>by
   have hol:=H.ff_lt R.r0.ch
   cases hs:s.set (ff (2 * h) x c / 2)
   · have h2:=cnt_put (n:=2 * h) (x:=x) (show ff (2 * h) x c / 2 < h by omega) hs
     match f with
     | 0=>omega
     | f+1 =>
       rw [cyc_go (by omega) hs]
       obtain ⟨a,b⟩:=cyc_FD H f _ _ (by omega) (R.next H rfl hs)
       refine ⟨a,fun k hk=>b k ?_⟩
       simp only [fput,upd]
       split
       · rfl
       · exact hk
   · rw [cyc_stop _ hs]
     exact ⟨R.done H hs,fun k hk=>hk⟩
theorem cycs_FD (H:Ord (2 * h) x):∀ j,j≤h→FD h x (cycs h x j)∧∀ k,k < j→(cycs h x j).set k=true
 | 0,_=>⟨⟨⟨fun k _ h=>(by cases h),fun k _ h=>(by cases h)⟩,fun k _ h=>(by cases h),fun p _ h=>(by cases h.1),fun p _ h=>(by cases h.1)⟩,fun k h=>by omega⟩
 | j+1,hj=>by
   obtain ⟨D,hall⟩:=cycs_FD H j (by omega)
   rw [cycs]
   generalize cycs h x j=s at D hall ⊢
   have e1:2 * j / 2=j:=by omega
   cases hs:s.set j
   · have hs':s.set (2 * j / 2)=false:=by rw [e1];exact hs
     rw [cyc_go (by omega) hs']
     obtain ⟨a,b⟩:=cyc_FD H _ _ _ (Nat.le_refl _) (D.start H (by omega) hs)
     refine ⟨a,fun k hk=>b k ?_⟩
     simp only [fput,upd,e1]
     split
     · rfl
     · exact hall k (by omega)
   · have hs':s.set (2 * j / 2)=true:=by rw [e1];exact hs
     rw [cyc_stop _ hs']
     refine ⟨D,fun k hk=>?_⟩
     by_cases e:k=j
     · rw [e];exact hs
     · exact hall k (by omega)
theorem fin_up (H:Ord (2 * h) x) (D:FD h x s) (ha:∀ k,k < h→s.set k=true):Ord h s.up∧Ord h s.low:=by
 have hV:∀ o,o < 2 * h→(s.V o∨s.V (par o)):=fun o ho=>by
  have h1:=ha (o / 2) (by omega)
  have h2:=D.base.lb _ (by omega) h1
  by_cases e:s.last (o / 2)=o % 2
  · exact .inl ⟨h1,e⟩
  · exact .inr ⟨by rw [par_half];exact h1,by rw [par_half,par_mod];omega⟩
 have hu:∀ k,k < h→∃ u,u < 2 * h∧s.V u∧u / 2=k∧s.up k=x u / 2∧s.low k=x (par u) / 2:=fun k hk=>by
  have h1:=ha k hk
  have h2:=D.base.lb k hk h1
  have e1:(2 * k+s.last k) / 2=k:=by omega
  refine ⟨2 * k+s.last k,by omega,⟨by rw [e1];exact h1,by rw [e1];omega⟩,e1,D.base.up k hk h1,?_⟩
  rw [D.low k hk h1,show 2 * k+1 - s.last k=par (2 * k+s.last k) by unfold par;omega]
 have hup:∀ o,o < 2 * h→s.V o→s.up (o / 2)=x o / 2:=fun o ho hv=>by
  rw [D.base.up _ (by omega) hv.1,hv.2,show 2 * (o / 2)+o % 2=o by omega]
 have hlow:∀ o,o < 2 * h→s.V (par o)→s.low (o / 2)=x o / 2:=fun o ho hv=>by
  have h1:=hv.1
  have h2:=hv.2
  rw [par_half] at h1 h2
  rw [D.low _ (by omega) h1,h2,par_mod,show 2 * (o / 2)+1 - (1 - o % 2)=o by omega]
 have htt:∀ o,o < 2 * h→s.V o→¬ s.V (tt (2 * h) x o):=fun o ho hv hv2=>V_conf (o:=tt (2 * h) x o) hv2 (D.c2 o ho hv)
 have htt2:∀ o,o < 2 * h→s.V (par o)→s.V (tt (2 * h) x o):=fun o ho hv=>by
  rcases hV _ (H.tt_lt ho) with h1 | h1
  · exact h1
  · obtain ⟨p,hp,hvp,he⟩:=D.c3 (ff (2 * h) x o) (H.ff_lt ho) h1
    have:=H.ff_inj hp ho he
    subst this
    exact (V_conf hvp hv).elim
 refine ⟨⟨fun k hk=>?_,fun k l hk hl e=>?_,fun v hv=>?_⟩,⟨fun k hk=>?_,fun k l hk hl e=>?_,fun v hv=>?_⟩⟩
 · obtain ⟨u,hul,_,_,e,_⟩:=hu k hk
   have:=H.lx u hul
   omega
 · obtain ⟨u,hul,hv1,e1,a1,_⟩:=hu k hk
   obtain ⟨u2,hul2,hv2,e2,a2,_⟩:=hu l hl
   rcases half_eq (a:=x u2) (b:=x u) (by omega) with e3 | e3
   · have:=H.inj _ _ hul2 hul e3
     omega
   · have : u2=tt (2 * h) x u:=H.inj _ _ hul2 (H.tt_lt hul) (by rw [H.x_tt hul];exact e3)
     exact absurd (this ▸ hv2) (htt u hul hv1)
 · obtain ⟨o,ho,e⟩:=H.sur (2 * v) (by omega)
   rcases hV o ho with h1 | h1
   · exact ⟨o / 2,by omega,by rw [hup o ho h1,e];omega⟩
   · have h2:=H.tt_lt ho
     refine ⟨tt (2 * h) x o / 2,by omega,?_⟩
     rw [hup _ h2 (htt2 o ho h1),H.x_tt ho,par_half,e]
     omega
 · obtain ⟨u,hul,_,_,_,e⟩:=hu k hk
   have:=H.lx _ (par_lt hul)
   omega
 · obtain ⟨u,hul,hv1,e1,_,a1⟩:=hu k hk
   obtain ⟨u2,hul2,hv2,e2,_,a2⟩:=hu l hl
   rcases half_eq (a:=x (par u2)) (b:=x (par u)) (by omega) with e3 | e3
   · have:=H.inj _ _ (par_lt hul2) (par_lt hul) e3
     have : u2=u:=by rw [←par_par u2,this,par_par]
     omega
   · have h3:par u2=tt (2 * h) x (par u):=H.inj _ _ (par_lt hul2) (H.tt_lt (par_lt hul)) (by rw [H.x_tt (par_lt hul)];exact e3)
     have h4:=htt2 (par u) (par_lt hul) (by rw [par_par];exact hv1)
     rw [←h3] at h4
     exact (V_conf hv2 h4).elim
 · obtain ⟨o,ho,e⟩:=H.sur (2 * v) (by omega)
   rcases hV o ho with h1 | h1
   · have h2:=H.tt_lt ho
     have h3:=htt o ho h1
     rcases hV _ h2 with h4 | h4
     · exact absurd h4 h3
     · refine ⟨tt (2 * h) x o / 2,by omega,?_⟩
       rw [hlow _ h2 h4,H.x_tt ho,par_half,e]
       omega
   · exact ⟨o / 2,by omega,by rw [hlow o ho h1,e];omega⟩
end
def finS (h:Nat) (x:Nat→Nat):FS:=cycs h x h
def setL:Nat→(Nat→Nat)→List Int
 | 0,x=>[(x 0:Int)]
 | d+1,x=>atL (2 ^ (d+1)) (fun k=>((finS (2 ^ (d+1)) x).first k:Int))++setL d (finS (2 ^ (d+1)) x).up++setL d (finS (2 ^ (d+1)) x).low++atL (2 ^ (d+1)) (fun k=>((finS (2 ^ (d+1)) x).last k:Int))
theorem TK.at {xss:List (List Int)} {t:List Int} (h:TK xss t) {a:Nat} {n:Int} {xs:List Int} (hn:t[a]?=some n) (hx:xss[a]?=some xs):∃ k:Nat,n=(k:Int)∧k≤xs.length:=by
 have:=h.2 a n xs hn hx
 exact ⟨n.toNat,by omega,by omega⟩
def Ap (a b:Value):Prop:=∀ g,a.ownBlock=some g→b.ownBlock≠some g
theorem Ap.symm {a b:Value} (h:Ap a b):Ap b a:=fun g h1 h2=>h g h2 h1
theorem Ap.left {w:World} {E B:Nat} {a b a':Value} {ys:List Value} (h:Ap a b) (hb:Own w E B b ys) (hat:a'.ownBlock=a.ownBlock∨∃ k,w.heap.size≤k∧a'.ownBlock=some k):Ap a' b:=by
 intro g hg e
 rcases hat with hat | ⟨k,hk,hat⟩
 · exact h g (hat ▸ hg) e
 · rw [hat] at hg
   cases hg
   have:=(hb.lt _ e).2
   omega
theorem Ap.right {w:World} {E B:Nat} {a b b':Value} {ys:List Value} (h:Ap a b) (ha:Own w E B a ys) (hat:b'.ownBlock=b.ownBlock∨∃ k,w.heap.size≤k∧b'.ownBlock=some k):Ap a b':=(h.symm.left ha hat).symm
theorem Ap.fresh {w:World} {E B:Nat} {a:Value} {ys:List Value} (ha:Own w E B a ys) (n c:Nat):Ap a (.slice (some ⟨w.heap.size,0,none⟩) n c):=by
 intro g hg e
 have:=(ha.lt _ hg).2
 simp [Value.ownBlock] at e
 omega
theorem Own.ap {w w':World} {E B:Nat} {a b:Value} {ys:List Value} (ha:Own w E B a ys) (hg:w.grownBy w' b.ownBlock) (h:Ap a b):Own w' E B a ys:=ha.apart hg h
theorem i_wires (n:Nat) (w:World) (hn:n≤1000000):Calls Tryz.prog 138 #[.int .i64 0,.int .i64 (n:Int)] w (RetOwn 3 (ints (stairs n)) w):=by
 go_enter Tryz.func138,Tryz.ntmps138
 go_wp2
 go_loopw [5,6] (fun vo i wr=>∃ j:Nat,j≤n∧i=.int .i64 j∧Own wr 3 w.heap.size vo (ints (stairs j))∧Below w.heap.size w wr)
  (fun _ i _=>n - (intOf i).toNat)
 case atStart=>exact ⟨0,Nat.zero_le _,rfl,Own.lit0 w _ (Nat.le_refl _),(Below.refl _ _).alloc (Nat.le_refl _) _⟩
 case round =>
  obtain ⟨j,hj,rfl,hs,hb⟩:=hrel
  obtain ⟨az,cs,rfl,_,hcs⟩:=hs.rd.formi
  have hL:=stairs_length j
  by_cases hlt:j < n
  · go_wp2_with (at_builtin;refine wpList_app1 rfl _ _ 23 rfl elI rfl hs rfl rfl hb.size (by rw [ints_length];omega) (by rw [ints_length];omega) ?_;intro bn cn' w2 hs2 hgrow hat)
    have hb2:=hb.grown hgrow hb.size fun r hr=>(hs.lt r hr).1
    go_roundw
    case rel=>exact ⟨j+1,by omega,by go_num,by rw [stairs_succ,ints_append];exact hs2,hb2⟩
    case measure=>simp [intOf];omega
  · obtain rfl:n=j:=by omega
    go_wp2
    go_ret
    exact ⟨_,rfl,hs,hb⟩
theorem s_l04First (n:Nat) (w:World) (hn:n≤1000000):Calls Tryz.prog 275 #[.int .i64 (n:Int)] w (RetOwn 3 (ints (stairs n)) w):=by
 go_enter Tryz.func275,Tryz.ntmps275
 go_wp2
 go_loopw [3,4] (fun vo i wr=>∃ j:Nat,j≤n∧i=.int .i64 j∧Own wr 3 w.heap.size vo (ints (stairs j))∧Below w.heap.size w wr)
  (fun _ i _=>n - (intOf i).toNat)
 case atStart=>exact ⟨0,Nat.zero_le _,rfl,Own.lit0 w _ (Nat.le_refl _),(Below.refl _ _).alloc (Nat.le_refl _) _⟩
 case round =>
  obtain ⟨j,hj,rfl,hs,hb⟩:=hrel
  obtain ⟨az,cs,rfl,_,hcs⟩:=hs.rd.formi
  have hL:=stairs_length j
  by_cases hlt:j < n
  · go_wp2_with (at_builtin;refine wpList_app1 rfl _ _ 23 rfl elI rfl hs rfl rfl hb.size (by rw [ints_length];omega) (by rw [ints_length];omega) ?_;intro bn cn' w2 hs2 hgrow hat)
    have hb2:=hb.grown hgrow hb.size fun r hr=>(hs.lt r hr).1
    go_roundw
    case rel=>exact ⟨j+1,by omega,by go_num,by rw [stairs_succ,ints_append];exact hs2,hb2⟩
    case measure=>simp [intOf];omega
  · obtain rfl:n=j:=by omega
    go_wp2
    go_ret
    exact ⟨_,rfl,hs,hb⟩
def Nows (n:Nat) (now:List Int):Prop:=now.Pairwise (· < ·)∧∀ x∈now,∃ k:Nat,k < n∧x=k
theorem Nows.round {n:Nat} {now:List Int} (h:Nows n now) (f:Int→Int):Nows n (playRound f now).1 :=
 ⟨h.1.sublist (playRound_sub f now),fun x hx=>h.2 x ((playRound_sub f now).mem hx)⟩
theorem Nows.stairs (n:Nat):Nows n (stairs n):=⟨stairs_sorted n,fun x hx=>stairs_mem.1 hx⟩
theorem Nows.two {n:Nat} {now:List Int} (h:Nows n now) {q:Nat} {x y:Int} (hx:now[q]?=some x) (hy:now[q+1]?=some y):∃ a b:Nat,x=a∧y=b∧a < b∧b < n:=by
 obtain ⟨h1,rfl⟩:=List.getElem?_eq_some_iff.1 hx
 obtain ⟨h2,rfl⟩:=List.getElem?_eq_some_iff.1 hy
 obtain ⟨a,ha,hea⟩:=h.2 _ (List.getElem_mem h1)
 obtain ⟨b,hb,heb⟩:=h.2 _ (List.getElem_mem h2)
 have:=List.pairwise_iff_getElem.1 h.1 q (q+1) h1 h2 (by omega)
 exact ⟨a,b,hea,heb,by omega,hb⟩
def cmpV (key:Int→Int) (x y:Int):Int:=if key x < key y then -1 else if key y < key x then 1 else 0
theorem sinkK_go {key:Int→Int} {ys:List Int} {k:Nat} {y z:Int} (hy:ys[k+1]?=some y) (hz:ys[k]?=some z) (h:key y < key z):sinkK key ys (k+1)=sinkK key ((ys.set (k+1) z).set k y) k:=by
 rw [sinkK,List.getD_eq_getElem?_getD,List.getD_eq_getElem?_getD,hy,hz]
 exact if_pos h
theorem sinkK_stop {key:Int→Int} {ys:List Int} {k:Nat} {y z:Int} (hy:ys[k+1]?=some y) (hz:ys[k]?=some z) (h:¬ key y < key z):sinkK key ys (k+1)=ys:=by
 rw [sinkK,List.getD_eq_getElem?_getD,List.getD_eq_getElem?_getD,hy,hz]
 exact if_neg h
theorem sinkK_mem' (key:Int→Int):∀ (j:Nat) (ys:List Int) (x:Int),j < ys.length→x∈sinkK key ys j→x∈ys
 | 0,ys,x,_,h=>h
 | j+1,ys,x,hj,h=>by
   rw [sinkK] at h
   split at h
   · have:=sinkK_mem' key j _ x (by simp;omega) h
     rcases List.mem_or_eq_of_mem_set this with hx | rfl
     · rcases List.mem_or_eq_of_mem_set hx with hx | rfl
       · exact hx
       · rw [List.getD_eq_getElem?_getD,List.getElem?_eq_getElem (by omega)];exact List.getElem_mem _
     · rw [List.getD_eq_getElem?_getD,List.getElem?_eq_getElem hj];exact List.getElem_mem _
   · exact h
theorem srtKK_mem (key:Int→Int) (xs:List Int):∀ (k:Nat) (x:Int),k < xs.length→x∈srtKK key xs k→x∈xs
 | 0,x,_,h=>h
 | k+1,x,hk,h=>srtKK_mem key xs k x (by omega) (sinkK_mem' key _ _ x (by rw [srtKK_length];exact hk) h)
end Go.Proofs.YtggblfnajeikjaaGreatDoor
