/- Joined texts of the proof: PlainSplit. -/
import Derived.Lib.SplitLaws
import Derived.Lib.Split
import Derived.Lib.IndexBytes
namespace Go.Proofs.YtggblfnajeikjaaGreatDoor
set_option linter.unusedVariables false
set_option linter.unusedSimpArgs false
set_option maxRecDepth 100000
set_option maxHeartbeats 16000000
section
open Go
def splitR (c:UInt8):List UInt8→List (List UInt8)
 | []=>[[]]
 | x :: r=>if x=c then [] :: splitR c r else match splitR c r with
   | []=>[[x]]
   | h :: t=>(x :: h) :: t
theorem splitR_ne (c:UInt8):∀ l,∃ h t,splitR c l=h :: t
 | []=>⟨[],[],rfl⟩
 | x :: r=>by
   rw [splitR]
   split
   · exact ⟨_,_,rfl⟩
   · split
     · exact ⟨_,_,rfl⟩
     · exact ⟨_,_,rfl⟩
def glue (p:List UInt8):List (List UInt8)→List (List UInt8)
 | []=>[p]
 | h :: t=>(p++h) :: t
def segK (c:UInt8) (l:List UInt8):Nat→List (List UInt8) × Nat
 | 0=>([],0)
 | k+1=>if l[k]?=some c then ((segK c l k).1++[(l.drop (segK c l k).2).take (k - (segK c l k).2)],k+1) else segK c l k
theorem segK_le (c:UInt8) (l:List UInt8):∀ k,(segK c l k).2≤k∧(segK c l k).1.length≤k
 | 0=>⟨Nat.le_refl _,Nat.le_refl _⟩
 | k+1=>by
   have:=segK_le c l k
   rw [segK]
   split
   · exact ⟨Nat.le_refl _,by simp only [List.length_append,List.length_singleton];omega⟩
   · omega
theorem segK_all (c:UInt8) (l:List UInt8):∀ k,k≤l.length→(segK c l k).1++glue ((l.drop (segK c l k).2).take (k - (segK c l k).2)) (splitR c (l.drop k))=splitR c l
 | 0,_=>by
   obtain ⟨h,t,e⟩:=splitR_ne c l
   rw [List.drop_zero,e]
   rfl
 | k+1,hk=>by
   have ih:=segK_all c l k (by omega)
   have hf:=(segK_le c l k).1
   have hd:l.drop k=l[k] :: l.drop (k+1):=(List.drop_eq_getElem_cons (by omega))
   rw [hd] at ih
   obtain ⟨h,t,e⟩:=splitR_ne c (l.drop (k+1))
   rw [segK]
   by_cases hc:l[k]=c
   · rw [if_pos (by rw [List.getElem?_eq_getElem (by omega),hc])]
     rw [splitR,if_pos hc,e] at ih
     rw [e,←ih,Nat.sub_self,List.take_zero]
     simp [glue]
   · rw [if_neg (by rw [List.getElem?_eq_getElem (by omega)];simpa using hc)]
     rw [splitR,if_neg hc,e] at ih
     rw [e,←ih]
     have h1:(l.drop (segK c l k).2).take (k+1 - (segK c l k).2)=(l.drop (segK c l k).2).take (k - (segK c l k).2)++[l[k]]:=by
      rw [show k+1 - (segK c l k).2=(k - (segK c l k).2)+1 by omega,List.take_add_one,List.getElem?_drop,show (segK c l k).2+(k - (segK c l k).2)=k by omega,List.getElem?_eq_getElem (by omega)]
      rfl
     rw [h1]
     simp [glue]
def segs (c:UInt8) (l:List UInt8):List (List UInt8):=(segK c l l.length).1++[l.drop (segK c l l.length).2]
theorem segs_eq (c:UInt8) (l:List UInt8):segs c l=splitR c l:=by
 have h:=segK_all c l l.length (Nat.le_refl _)
 rw [←h,segs]
 congr 1
 rw [List.drop_length]
 show _=[_++[]]
 rw [List.append_nil,List.take_of_length_le (by rw [List.length_drop];exact Nat.le_refl _)]
theorem splitK_eq (c:UInt8):∀ l:List UInt8,Lib.splitK [c] 0 (l.count c) l=splitR c l
 | []=>rfl
 | x :: r=>by
   have ih:=splitK_eq c r
   by_cases hx:x=c
   · subst hx
     rw [List.count_cons_self,Lib.splitK,splitR,if_pos rfl,←ih]
     have : Lib.index (x :: r) [x]=0:=by simp [Lib.index]
     rw [this]
     simp
   · have hc:(x :: r).count c=r.count c:=by rw [List.count_cons_of_ne hx]
     have hi:Lib.index (x :: r) [c]=if Lib.index r [c] == -1 then -1 else Lib.index r [c]+1:=by
      rw [Lib.index]
      have : [c].isPrefixOf (x :: r)=false:=by simp [List.isPrefixOf];exact fun h=>hx h.symm
      rw [this];rfl
     rw [hc,splitR,if_neg hx,←ih]
     cases hk:r.count c with
     | zero=>rfl
     | succ k =>
       have hge:=Lib.index_ge r [c]
       rw [Lib.splitK,Lib.splitK,hi]
       by_cases hm:Lib.index r [c] = -1
       · rw [hm];rfl
       · have e1:(Lib.index r [c] == -1)=false:=by simpa using hm
         have e2:(Lib.index r [c]+1 == -1)=false:=by simp;omega
         rw [e1]
         simp only [Bool.false_eq_true,if_false]
         rw [e2]
         simp only [Bool.false_eq_true,if_false]
         obtain ⟨i,hi2⟩:=Int.eq_ofNat_of_zero_le (show 0≤Lib.index r [c] by omega)
         rw [hi2]
         rw [show ((i:Int)+1).toNat=i+1 by omega,show (i:Int).toNat=i by omega]
         simp [List.take_succ_cons,List.drop_succ_cons]
theorem splitR_length_le (c:UInt8) (l:List UInt8):(splitR c l).length≤l.length+1:=by
 rw [←segs_eq,segs,List.length_append,List.length_singleton]
 have:=(segK_le c l l.length).2
 omega
theorem splitR_mem (c:UInt8) (l:List UInt8):∀ x∈splitR c l,x.length≤l.length:=by
 induction l with
 | nil=>intro x hx;simp [splitR] at hx;simp [hx]
 | cons y r ih =>
   intro x hx
   rw [splitR] at hx
   split at hx
   · rcases List.mem_cons.1 hx with rfl | h
     · simp
     · have:=ih x h;simp;omega
   · obtain ⟨h,t,e⟩:=splitR_ne c r
     rw [e] at hx ih
     rcases List.mem_cons.1 hx with rfl | h2
     · have:=ih h (.head _);simp;omega
     · have:=ih x (.tail _ h2);simp;omega
end
end Go.Proofs.YtggblfnajeikjaaGreatDoor
