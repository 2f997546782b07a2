/- Joined texts of the proof: Open. -/
import Derived.ProofKit
import Derived.ChangeOld
import Derived.Deep.Matrix
import Derived.Lib.SmallJoins
import Derived.Test.YtggblfnajeikjaaGreatDoorJ4
namespace Go.Proofs.YtggblfnajeikjaaGreatDoor
set_option linter.unusedVariables false
set_option linter.unusedSimpArgs false
set_option maxRecDepth 100000
set_option maxHeartbeats 16000000
section
open Go.ChangeShapes Go.WideShapes Go.RowKit
def bytes (xs:List Int):List Value:=xs.map (Value.int .u8)
section
variable {H:Type} {enc:TypeId × Value→H} {P:Program} {w:World} {base:Nat} {spare:Nat→Bool} {held:Bool}
theorem open_rd_kind {k:IntKind} {t e fuel:Nat} {a:Option Addr} {len cap:Nat} {x:DataW H × List MemPlace} (ht:P.underlying t=some (.slice e)) (he:P.underlying e=some (.int k)) (hc:P.cellsOf e=1)
 (hf:DataW.trod enc P w base (fun _=>true) held fuel t (Value.slice a len cap).cells.toList=some x):∃ zs:List Int,Rd w (.slice a len cap) (zs.map (Value.int k))∧∀ n∈zs,(Lit.int k n).wf=true:=by
 rcases open_ints ht he hc hf with ⟨hcs,_⟩ | ⟨ad,l,c,zs,hcs,_,hl,hm,hz,_,hcell,hwz⟩
 · simp [Value.cells] at hcs
   obtain ⟨rfl,rfl,rfl⟩:=hcs
   exact ⟨[],by simpa using Rd.nil w,by simp⟩
 · simp [Value.cells] at hcs
   obtain ⟨rfl,rfl,rfl⟩:=hcs
   simp only [if_true] at hz
   have hlen:(zs.take len).length=len:=by simp;omega
   refine ⟨zs.take len,⟨some ad,cap,by simp;omega,by simp;omega,by simp only [maxLen] at hm;omega,fun _=>⟨ad,rfl,fun j u hu=>?_⟩⟩,fun n hn=>hwz n (List.mem_of_mem_take hn)⟩
   have hj:=(List.getElem?_eq_some_iff.1 hu).1
   rw [List.length_map,hlen] at hj
   have h1:=hcell j (by omega)
   rw [h1,←hu,List.getElem?_map,List.getElem?_take,if_pos hj,List.getElem?_eq_getElem (by omega)]
   simp [List.getD,List.getElem?_eq_getElem (show j < zs.length by omega)]
theorem open_rd_bytes {t e fuel:Nat} {a:Option Addr} {len cap:Nat} {x:DataW H × List MemPlace} (ht:P.underlying t=some (.slice e)) (he:P.underlying e=some (.int .u8)) (hc:P.cellsOf e=1)
 (hf:DataW.trod enc P w base (fun _=>true) held fuel t (Value.slice a len cap).cells.toList=some x):∃ zs:List Int,Rd w (.slice a len cap) (bytes zs)∧∀ n∈zs,0≤n∧n≤255:=by
 obtain ⟨zs,h1,h2⟩:=open_rd_kind ht he hc hf
 refine ⟨zs,h1,fun n hn=>?_⟩
 have:=h2 n hn
 simp [Lit.wf,IntKind.min,IntKind.max,IntKind.signed,IntKind.bits] at this
 omega
end
end
end Go.Proofs.YtggblfnajeikjaaGreatDoor
