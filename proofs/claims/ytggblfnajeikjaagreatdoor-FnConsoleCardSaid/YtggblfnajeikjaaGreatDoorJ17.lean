/- Joined texts of the proof: DrawsB, DrawsC, ConfA. -/
import Derived.Deep.LoopGhost
import Derived.IntWalk
import Derived.Deep.DeepCutAuto
import Derived.Test.YtggblfnajeikjaaGreatDoorJ7
namespace Go.Proofs.YtggblfnajeikjaaGreatDoor
open Go.RowKit
set_option linter.unusedVariables false
set_option linter.unusedSimpArgs false
set_option maxRecDepth 100000
set_option maxHeartbeats 16000000
theorem min_if2 (x y:Int):(if y < x then y else x)=min x y:=by split <;> omega
theorem max_if2 (x y:Int):(if x < y then y else x)=max x y:=by split <;> omega
def RetBat (X:List (List Int)) (w W:World) (e:Ending) (w':World):Prop:=∃ (a:Option Addr) (m c:Nat),e=.returned (.slice a m c)∧OwnP w' w.heap.size (.slice a m c) X∧Below W.heap.size W w'∧Below w.heap.size w w'
theorem RetOwnP.bat {P:Program} {f:FuncId} {args:Array Value} {X:List (List Int)} {w W:World} (h:Calls P f args W (RetOwnP X W)) (hW:Below w.heap.size w W):Calls P f args W (RetBat X w W):=by
 refine h.mono ?_
 rintro e w' ⟨v,rfl,ho,hb⟩
 obtain ⟨a,m,c,rfl,_,_,_⟩:=ho.formN
 exact ⟨a,m,c,rfl,ho.mono hW.size,hb,hW.trans (hb.mono hW.size)⟩
theorem i_areParts (m n:Nat) (h1:m≤8) (h2:n≤8) (h3:1≤m+n) (h4:m+n≤8) (w:World):Calls Tryz.prog 247 #[.int .i64 (m:Int),.int .i64 (n:Int)] w fun e w'=>e=.returned (.bool true)∧w=w':=by
 have HI:=i_isWires ((m:Int)+(n:Int)) w
 rw [inB_iff.2 (by omega)] at HI
 have HI2:=Lib.hid HI
 have i1:(m:Int) ≥ 0:=by omega
 have i2:(n:Int) ≥ 0:=by omega
 go_enter Tryz.func247,Tryz.ntmps247
 go_wp2_with (go_at_call 100;refine HI2.out.mono ?_;rintro e w' ⟨rfl,rfl⟩)
 go_ret
 exact ⟨rfl,rfl⟩
end Go.Proofs.YtggblfnajeikjaaGreatDoor
