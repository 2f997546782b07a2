/- Joined texts of the proof: PlainGreedy. -/
import Derived.IntWalk
import Derived.Laws.Bits64b
namespace Go.Proofs.YtggblfnajeikjaaGreatDoor
set_option linter.unusedVariables false
set_option linter.unusedSimpArgs false
set_option maxRecDepth 100000
set_option maxHeartbeats 16000000
def setB (p:Nat→Bool):Nat→Nat
 | 0=>0
 | n+1=>if p n then setB p n ||| (1 <<< n) else setB p n
section
variable (f:Nat→Nat→Bool)
def cntG (left:List Nat) (m:Nat):Nat:=(left.filter (f m)).length
def bestG (left:List Nat):Nat→Nat × Nat
 | 0=>(0,0)
 | m+1=>if (bestG left m).2 < cntG f left m then (m,cntG f left m) else bestG left m
theorem bestG_cnt (left:List Nat):∀ m,(bestG f left m).2≠0→(bestG f left m).2=cntG f left (bestG f left m).1∧(bestG f left m).1 < m
 | 0,h=>absurd rfl h
 | m+1,h=>by
   simp only [bestG] at h ⊢
   split
   · exact ⟨rfl,Nat.lt_succ_self _⟩
   · rename_i hh
     rw [if_neg hh] at h
     have:=bestG_cnt left m h
     exact ⟨this.1,by omega⟩
theorem bestG_le (left:List Nat):∀ m,(bestG f left m).2≤left.length
 | 0=>Nat.zero_le _
 | m+1=>by
   simp only [bestG]
   split
   · exact List.length_filter_le _ _
   · exact bestG_le left m
theorem filter_lens (left:List Nat) (p:Nat→Bool):(left.filter p).length+(left.filter fun j=>!p j).length=left.length:=by
 induction left with
 | nil=>rfl
 | cons x t ih=>cases h:p x <;> simp [h] <;> omega
theorem greedy_lt {left:List Nat} {M:Nat} (h:(bestG f left M).2≠0):(left.filter fun j=>!f (bestG f left M).1 j).length < left.length:=by
 have h1:=(bestG_cnt f left M h).1
 have h2:=filter_lens left (f (bestG f left M).1)
 unfold cntG at h1
 omega
def nextG (M:Nat) (left:List Nat):List Nat:=left.filter fun j=>!f (bestG f left M).1 j
def greedyG (M:Nat) (left:List Nat):List Int :=
 if h:(bestG f left M).2=0 then [] else ((bestG f left M).1:Int) :: greedyG M (nextG f M left)
termination_by left.length
decreasing_by exact greedy_lt f h
theorem greedyG_end {M:Nat} {left:List Nat} (h:(bestG f left M).2=0):greedyG f M left=[]:=by rw [greedyG,dif_pos h]
theorem greedyG_step {M:Nat} {left:List Nat} (h:(bestG f left M).2≠0):greedyG f M left=((bestG f left M).1:Int) :: greedyG f M (nextG f M left):=by rw [greedyG,dif_neg h]
theorem greedyG_len (M:Nat):∀ (n:Nat) (left:List Nat),left.length≤n→(greedyG f M left).length≤left.length∧∀ x∈greedyG f M left,0≤x∧x < M
 | n,left,hn=>by
   by_cases h:(bestG f left M).2=0
   · rw [greedyG_end f h];exact ⟨Nat.zero_le _,fun x hx=>by cases hx⟩
   · have h1:=greedy_lt f h
     have h2:=(bestG_cnt f left M h).2
     match n,hn with
     | 0,hn=>omega
     | n+1,hn =>
       have h3:(nextG f M left).length < left.length:=h1
       have ih:=greedyG_len M n (nextG f M left) (by omega)
       rw [greedyG_step f h]
       refine ⟨by simp only [List.length_cons];omega,fun x hx=>?_⟩
       rcases List.mem_cons.1 hx with rfl | hx
       · omega
       · exact ih.2 x hx
end
def rowJ (j:Nat):List Int:=[((j / 3:Nat):Int),((j % 3:Nat):Int)]
end Go.Proofs.YtggblfnajeikjaaGreatDoor
