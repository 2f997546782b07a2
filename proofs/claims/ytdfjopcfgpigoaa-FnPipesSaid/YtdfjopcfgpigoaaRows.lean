/-
  No cell of these rows narrows 'for every input' (looked for: loops, veiled, ifaces, maps, wideKeys, modest, calm, conditions, laid).
  DERIVED. THE GIVEN ROWS OF THIS SEAT. 10 by the template 'for every input the law returns true; each argument reads behind the call as it read before'; 0 by the template 'total and deterministic' (their statements: YtdfjopcfgpigoaaTotals.lean).
  GIVEN WITH THE SEED: the statements are not yours to turn. If you find one false, say at which input.
  Laid BY PROGRAM, IN A SANDBOX (cutbox-rows.mjs): the forced cells as the released guide's own fill.sh prints them over the translation 75ea877ca7f9b9f8… (all of the seat's roots in one cut). By AI agents, Wed Nov 11 2026. No macro, syntax, notation, axiom, sorry.
-/
import Derived.Test.YtdfjopcfgpigoaaChecked
import GoSem.Claim
import GoSem.ClaimJoined
import GoSem.ClaimMapViews
import Derived.JoinedTies
import Derived.KernelRfl
namespace Go.Proofs.Ytdfjopcfgpigoaa
/- THE CELL 'sum', in the pinned program and in every row, IS THE sha256 OF THE DUMP (.gsa) THAT YtdfjopcfgpigoaaProg.lean LOADS. Nothing in Lean hashes anything: it is a label: what it is worth is what the hold of that sum in a sandbox is worth. -/
noncomputable def Try.pinned : Pinned := { name := "ytdfjopcfgpigoaa", sum := "75ea877ca7f9b9f83e559d3471e33f19f1c3120f26383af9a35d15299b7e4d95", checked := Try.checked }
namespace Rows
def none {H : Type} : Left H := { results := [], args := [] }

/-- 'laws.FnExactFillOf': WHATEVER THE INPUT: true; the input reads as it did. -/
def fnExactFillOfSpec : ChangeSpec := { name := "fnExactFillOf", fn := fun _ => fun
  | [d] => { results := [.lit (.bool true)], args := [d] }
  | _ => none }
def fnExactFillOfRow : OpenClaim := { program := "ytdfjopcfgpigoaa", sum := "75ea877ca7f9b9f83e559d3471e33f19f1c3120f26383af9a35d15299b7e4d95", func := "loop.example/g03207/laws.FnExactFillOf", spec := "fnExactFillOf", apart := false }
def FnExactFillOfSaid : Prop := fnExactFillOfRow.holds Try.pinned (OpenSpec.ofChange fnExactFillOfSpec)

/-- ITS FALSE NEIGHBOUR: 'it returns false'. Refute it at one input. -/
def fnExactFillOfWrong : ChangeSpec := { name := "fnExactFillOf", fn := fun _ => fun
  | [d] => { results := [.lit (.bool false)], args := [d] }
  | _ => none }
def FnExactFillOfWrongFalsely : Prop := fnExactFillOfRow.holds Try.pinned (OpenSpec.ofChange fnExactFillOfWrong)

/-- 'laws.FnExactCountRegisters': WHATEVER THE INPUT: true; the input reads as it did. -/
def fnExactCountRegistersSpec : ChangeSpec := { name := "fnExactCountRegisters", fn := fun _ => fun
  | [d] => { results := [.lit (.bool true)], args := [d] }
  | _ => none }
def fnExactCountRegistersRow : OpenClaim := { program := "ytdfjopcfgpigoaa", sum := "75ea877ca7f9b9f83e559d3471e33f19f1c3120f26383af9a35d15299b7e4d95", func := "loop.example/g03207/laws.FnExactCountRegisters", spec := "fnExactCountRegisters", apart := false }
def FnExactCountRegistersSaid : Prop := fnExactCountRegistersRow.holds Try.pinned (OpenSpec.ofChange fnExactCountRegistersSpec)

/-- ITS FALSE NEIGHBOUR: 'it returns false'. Refute it at one input. -/
def fnExactCountRegistersWrong : ChangeSpec := { name := "fnExactCountRegisters", fn := fun _ => fun
  | [d] => { results := [.lit (.bool false)], args := [d] }
  | _ => none }
def FnExactCountRegistersWrongFalsely : Prop := fnExactCountRegistersRow.holds Try.pinned (OpenSpec.ofChange fnExactCountRegistersWrong)

/-- 'laws.FnExactSpareRegisters': WHATEVER THE INPUT: true; the input reads as it did. -/
def fnExactSpareRegistersSpec : ChangeSpec := { name := "fnExactSpareRegisters", fn := fun _ => fun
  | [d] => { results := [.lit (.bool true)], args := [d] }
  | _ => none }
def fnExactSpareRegistersRow : OpenClaim := { program := "ytdfjopcfgpigoaa", sum := "75ea877ca7f9b9f83e559d3471e33f19f1c3120f26383af9a35d15299b7e4d95", func := "loop.example/g03207/laws.FnExactSpareRegisters", spec := "fnExactSpareRegisters", apart := false }
def FnExactSpareRegistersSaid : Prop := fnExactSpareRegistersRow.holds Try.pinned (OpenSpec.ofChange fnExactSpareRegistersSpec)

/-- ITS FALSE NEIGHBOUR: 'it returns false'. Refute it at one input. -/
def fnExactSpareRegistersWrong : ChangeSpec := { name := "fnExactSpareRegisters", fn := fun _ => fun
  | [d] => { results := [.lit (.bool false)], args := [d] }
  | _ => none }
def FnExactSpareRegistersWrongFalsely : Prop := fnExactSpareRegistersRow.holds Try.pinned (OpenSpec.ofChange fnExactSpareRegistersWrong)

/-- 'laws.FnExactPipeOk': WHATEVER THE INPUT: true; the input reads as it did. -/
def fnExactPipeOkSpec : ChangeSpec := { name := "fnExactPipeOk", fn := fun _ => fun
  | [d1, d2] => { results := [.lit (.bool true)], args := [d1, d2] }
  | _ => none }
def fnExactPipeOkRow : OpenClaim := { program := "ytdfjopcfgpigoaa", sum := "75ea877ca7f9b9f83e559d3471e33f19f1c3120f26383af9a35d15299b7e4d95", func := "loop.example/g03207/laws.FnExactPipeOk", spec := "fnExactPipeOk", unfollowed := true, recurses := true, apart := false }
def FnExactPipeOkSaid : Prop := fnExactPipeOkRow.holds Try.pinned (OpenSpec.ofChange fnExactPipeOkSpec)

/-- ITS FALSE NEIGHBOUR: 'it returns false'. Refute it at one input. -/
def fnExactPipeOkWrong : ChangeSpec := { name := "fnExactPipeOk", fn := fun _ => fun
  | [d1, d2] => { results := [.lit (.bool false)], args := [d1, d2] }
  | _ => none }
def FnExactPipeOkWrongFalsely : Prop := fnExactPipeOkRow.holds Try.pinned (OpenSpec.ofChange fnExactPipeOkWrong)

/-- 'laws.FnExactPipeStart': WHATEVER THE INPUT: true; the input reads as it did. -/
def fnExactPipeStartSpec : ChangeSpec := { name := "fnExactPipeStart", fn := fun _ => fun
  | [d] => { results := [.lit (.bool true)], args := [d] }
  | _ => none }
def fnExactPipeStartRow : OpenClaim := { program := "ytdfjopcfgpigoaa", sum := "75ea877ca7f9b9f83e559d3471e33f19f1c3120f26383af9a35d15299b7e4d95", func := "loop.example/g03207/laws.FnExactPipeStart", spec := "fnExactPipeStart", apart := false }
def FnExactPipeStartSaid : Prop := fnExactPipeStartRow.holds Try.pinned (OpenSpec.ofChange fnExactPipeStartSpec)

/-- ITS FALSE NEIGHBOUR: 'it returns false'. Refute it at one input. -/
def fnExactPipeStartWrong : ChangeSpec := { name := "fnExactPipeStart", fn := fun _ => fun
  | [d] => { results := [.lit (.bool false)], args := [d] }
  | _ => none }
def FnExactPipeStartWrongFalsely : Prop := fnExactPipeStartRow.holds Try.pinned (OpenSpec.ofChange fnExactPipeStartWrong)

/-- 'laws.FnExactLevelPairs': WHATEVER THE INPUT: true; the input reads as it did. -/
def fnExactLevelPairsSpec : ChangeSpec := { name := "fnExactLevelPairs", fn := fun _ => fun
  | [d1, d2] => { results := [.lit (.bool true)], args := [d1, d2] }
  | _ => none }
def fnExactLevelPairsRow : OpenClaim := { program := "ytdfjopcfgpigoaa", sum := "75ea877ca7f9b9f83e559d3471e33f19f1c3120f26383af9a35d15299b7e4d95", func := "loop.example/g03207/laws.FnExactLevelPairs", spec := "fnExactLevelPairs", apart := false }
def FnExactLevelPairsSaid : Prop := fnExactLevelPairsRow.holds Try.pinned (OpenSpec.ofChange fnExactLevelPairsSpec)

/-- ITS FALSE NEIGHBOUR: 'it returns false'. Refute it at one input. -/
def fnExactLevelPairsWrong : ChangeSpec := { name := "fnExactLevelPairs", fn := fun _ => fun
  | [d1, d2] => { results := [.lit (.bool false)], args := [d1, d2] }
  | _ => none }
def FnExactLevelPairsWrongFalsely : Prop := fnExactLevelPairsRow.holds Try.pinned (OpenSpec.ofChange fnExactLevelPairsWrong)

/-- 'laws.FnExactPipeStep': WHATEVER THE INPUT: true; the input reads as it did. -/
def fnExactPipeStepSpec : ChangeSpec := { name := "fnExactPipeStep", fn := fun _ => fun
  | [d1, d2, d3] => { results := [.lit (.bool true)], args := [d1, d2, d3] }
  | _ => none }
def fnExactPipeStepRow : OpenClaim := { program := "ytdfjopcfgpigoaa", sum := "75ea877ca7f9b9f83e559d3471e33f19f1c3120f26383af9a35d15299b7e4d95", func := "loop.example/g03207/laws.FnExactPipeStep", spec := "fnExactPipeStep", unfollowed := true, recurses := true, apart := false }
def FnExactPipeStepSaid : Prop := fnExactPipeStepRow.holds Try.pinned (OpenSpec.ofChange fnExactPipeStepSpec)

/-- ITS FALSE NEIGHBOUR: 'it returns false'. Refute it at one input. -/
def fnExactPipeStepWrong : ChangeSpec := { name := "fnExactPipeStep", fn := fun _ => fun
  | [d1, d2, d3] => { results := [.lit (.bool false)], args := [d1, d2, d3] }
  | _ => none }
def FnExactPipeStepWrongFalsely : Prop := fnExactPipeStepRow.holds Try.pinned (OpenSpec.ofChange fnExactPipeStepWrong)

/-- 'laws.FnExactRunPipe': WHATEVER THE INPUT: true; the input reads as it did. -/
def fnExactRunPipeSpec : ChangeSpec := { name := "fnExactRunPipe", fn := fun _ => fun
  | [d1, d2] => { results := [.lit (.bool true)], args := [d1, d2] }
  | _ => none }
def fnExactRunPipeRow : OpenClaim := { program := "ytdfjopcfgpigoaa", sum := "75ea877ca7f9b9f83e559d3471e33f19f1c3120f26383af9a35d15299b7e4d95", func := "loop.example/g03207/laws.FnExactRunPipe", spec := "fnExactRunPipe", unfollowed := true, recurses := true, apart := false }
def FnExactRunPipeSaid : Prop := fnExactRunPipeRow.holds Try.pinned (OpenSpec.ofChange fnExactRunPipeSpec)

/-- ITS FALSE NEIGHBOUR: 'it returns false'. Refute it at one input. -/
def fnExactRunPipeWrong : ChangeSpec := { name := "fnExactRunPipe", fn := fun _ => fun
  | [d1, d2] => { results := [.lit (.bool false)], args := [d1, d2] }
  | _ => none }
def FnExactRunPipeWrongFalsely : Prop := fnExactRunPipeRow.holds Try.pinned (OpenSpec.ofChange fnExactRunPipeWrong)

/-- 'laws.FnPipes': WHATEVER THE INPUT: true; the input reads as it did. -/
def fnPipesSpec : ChangeSpec := { name := "fnPipes", fn := fun _ => fun
  | [d] => { results := [.lit (.bool true)], args := [d] }
  | _ => none }
def fnPipesRow : OpenClaim := { program := "ytdfjopcfgpigoaa", sum := "75ea877ca7f9b9f83e559d3471e33f19f1c3120f26383af9a35d15299b7e4d95", func := "loop.example/g03207/laws.FnPipes", spec := "fnPipes", unfollowed := true, recurses := true, apart := false }
def FnPipesSaid : Prop := fnPipesRow.holds Try.pinned (OpenSpec.ofChange fnPipesSpec)

/-- ITS FALSE NEIGHBOUR: 'it returns false'. Refute it at one input. -/
def fnPipesWrong : ChangeSpec := { name := "fnPipes", fn := fun _ => fun
  | [d] => { results := [.lit (.bool false)], args := [d] }
  | _ => none }
def FnPipesWrongFalsely : Prop := fnPipesRow.holds Try.pinned (OpenSpec.ofChange fnPipesWrong)

/-- 'laws.FnExactNewConsole': WHATEVER THE INPUT: true; the input reads as it did. -/
def fnExactNewConsoleSpec : ChangeSpec := { name := "fnExactNewConsole", fn := fun _ => fun
  | [] => { results := [.lit (.bool true)], args := [] }
  | _ => none }
def fnExactNewConsoleRow : OpenClaim := { program := "ytdfjopcfgpigoaa", sum := "75ea877ca7f9b9f83e559d3471e33f19f1c3120f26383af9a35d15299b7e4d95", func := "loop.example/g03207/laws.FnExactNewConsole", spec := "fnExactNewConsole", recurses := true, apart := false }
def FnExactNewConsoleSaid : Prop := fnExactNewConsoleRow.holds Try.pinned (OpenSpec.ofChange fnExactNewConsoleSpec)

/-- ITS FALSE NEIGHBOUR: 'it returns false'. Refute it at one input. -/
def fnExactNewConsoleWrong : ChangeSpec := { name := "fnExactNewConsole", fn := fun _ => fun
  | [] => { results := [.lit (.bool false)], args := [] }
  | _ => none }
def FnExactNewConsoleWrongFalsely : Prop := fnExactNewConsoleRow.holds Try.pinned (OpenSpec.ofChange fnExactNewConsoleWrong)

/- THE SECOND FORM. 'bulk': how many values and letters a reading holds, each counted each time it is reached (what is shared counts as often as it is met; a slice's spare places count too). A statement '..UptoSaid' is the law's where the arguments, and the package variables that the reading takes, are together of bulk at most 1048576: NARROWER than '..Said'. Prove '..Said' where nothing that the law and all that it calls make is longer than what came in: it says more and counts as full. Else prove '..UptoSaid'. A law counts once. -/
mutual
def uptoBulk {H : Type} : DataW H → Nat
  | .lit (.string bytes) => bytes.length + 1
  | .lit _ => 1
  | .nil => 1
  | .ptr d => uptoBulk d + 1
  | .slice elems spare => uptoBulkAll elems + uptoBulkAll spare + 1
  | .agg parts => uptoBulkAll parts + 1
  | .iface _ d => uptoBulk d + 1
  | .map entries => uptoBulkEntries entries + 1
  | .held _ => 1
def uptoBulkAll {H : Type} : List (DataW H) → Nat
  | [] => 0
  | d :: r => uptoBulk d + uptoBulkAll r
def uptoBulkEntries {H : Type} : List (Lit × DataW H) → Nat
  | [] => 0
  | x :: r => uptoBulkEntry x + uptoBulkEntries r
def uptoBulkEntry {H : Type} : Lit × DataW H → Nat
  | (.string bytes, d) => bytes.length + uptoBulk d + 1
  | (_, d) => uptoBulk d + 1
 end
def uptoSmall : (H : Type) → List (DataW H) → Bool := fun _ ds => decide (uptoBulkAll ds ≤ 1048576)
def OpenSpec.upto (s : _root_.Go.ChangeSpec) : _root_.Go.OpenSpec := { _root_.Go.OpenSpec.ofChange s with cond := some uptoSmall }

/-- 'laws.FnExactFillOf', WHERE WHAT IT READS IS OF BULK AT MOST 1048576: true; the input reads as it did. -/
def fnExactFillOfUptoRow : OpenClaim := { program := "ytdfjopcfgpigoaa", sum := "75ea877ca7f9b9f83e559d3471e33f19f1c3120f26383af9a35d15299b7e4d95", func := "loop.example/g03207/laws.FnExactFillOf", spec := "fnExactFillOf", apart := false, narrowed := true }
def FnExactFillOfUptoSaid : Prop := fnExactFillOfUptoRow.holds Try.pinned (OpenSpec.upto fnExactFillOfSpec)

/-- 'laws.FnExactCountRegisters', WHERE WHAT IT READS IS OF BULK AT MOST 1048576: true; the input reads as it did. -/
def fnExactCountRegistersUptoRow : OpenClaim := { program := "ytdfjopcfgpigoaa", sum := "75ea877ca7f9b9f83e559d3471e33f19f1c3120f26383af9a35d15299b7e4d95", func := "loop.example/g03207/laws.FnExactCountRegisters", spec := "fnExactCountRegisters", apart := false, narrowed := true }
def FnExactCountRegistersUptoSaid : Prop := fnExactCountRegistersUptoRow.holds Try.pinned (OpenSpec.upto fnExactCountRegistersSpec)

/-- 'laws.FnExactSpareRegisters', WHERE WHAT IT READS IS OF BULK AT MOST 1048576: true; the input reads as it did. -/
def fnExactSpareRegistersUptoRow : OpenClaim := { program := "ytdfjopcfgpigoaa", sum := "75ea877ca7f9b9f83e559d3471e33f19f1c3120f26383af9a35d15299b7e4d95", func := "loop.example/g03207/laws.FnExactSpareRegisters", spec := "fnExactSpareRegisters", apart := false, narrowed := true }
def FnExactSpareRegistersUptoSaid : Prop := fnExactSpareRegistersUptoRow.holds Try.pinned (OpenSpec.upto fnExactSpareRegistersSpec)

/-- 'laws.FnExactPipeOk', WHERE WHAT IT READS IS OF BULK AT MOST 1048576: true; the input reads as it did. -/
def fnExactPipeOkUptoRow : OpenClaim := { program := "ytdfjopcfgpigoaa", sum := "75ea877ca7f9b9f83e559d3471e33f19f1c3120f26383af9a35d15299b7e4d95", func := "loop.example/g03207/laws.FnExactPipeOk", spec := "fnExactPipeOk", unfollowed := true, recurses := true, apart := false, narrowed := true }
def FnExactPipeOkUptoSaid : Prop := fnExactPipeOkUptoRow.holds Try.pinned (OpenSpec.upto fnExactPipeOkSpec)

/-- 'laws.FnExactPipeStart', WHERE WHAT IT READS IS OF BULK AT MOST 1048576: true; the input reads as it did. -/
def fnExactPipeStartUptoRow : OpenClaim := { program := "ytdfjopcfgpigoaa", sum := "75ea877ca7f9b9f83e559d3471e33f19f1c3120f26383af9a35d15299b7e4d95", func := "loop.example/g03207/laws.FnExactPipeStart", spec := "fnExactPipeStart", apart := false, narrowed := true }
def FnExactPipeStartUptoSaid : Prop := fnExactPipeStartUptoRow.holds Try.pinned (OpenSpec.upto fnExactPipeStartSpec)

/-- 'laws.FnExactLevelPairs', WHERE WHAT IT READS IS OF BULK AT MOST 1048576: true; the input reads as it did. -/
def fnExactLevelPairsUptoRow : OpenClaim := { program := "ytdfjopcfgpigoaa", sum := "75ea877ca7f9b9f83e559d3471e33f19f1c3120f26383af9a35d15299b7e4d95", func := "loop.example/g03207/laws.FnExactLevelPairs", spec := "fnExactLevelPairs", apart := false, narrowed := true }
def FnExactLevelPairsUptoSaid : Prop := fnExactLevelPairsUptoRow.holds Try.pinned (OpenSpec.upto fnExactLevelPairsSpec)

/-- 'laws.FnExactPipeStep', WHERE WHAT IT READS IS OF BULK AT MOST 1048576: true; the input reads as it did. -/
def fnExactPipeStepUptoRow : OpenClaim := { program := "ytdfjopcfgpigoaa", sum := "75ea877ca7f9b9f83e559d3471e33f19f1c3120f26383af9a35d15299b7e4d95", func := "loop.example/g03207/laws.FnExactPipeStep", spec := "fnExactPipeStep", unfollowed := true, recurses := true, apart := false, narrowed := true }
def FnExactPipeStepUptoSaid : Prop := fnExactPipeStepUptoRow.holds Try.pinned (OpenSpec.upto fnExactPipeStepSpec)

/-- 'laws.FnExactRunPipe', WHERE WHAT IT READS IS OF BULK AT MOST 1048576: true; the input reads as it did. -/
def fnExactRunPipeUptoRow : OpenClaim := { program := "ytdfjopcfgpigoaa", sum := "75ea877ca7f9b9f83e559d3471e33f19f1c3120f26383af9a35d15299b7e4d95", func := "loop.example/g03207/laws.FnExactRunPipe", spec := "fnExactRunPipe", unfollowed := true, recurses := true, apart := false, narrowed := true }
def FnExactRunPipeUptoSaid : Prop := fnExactRunPipeUptoRow.holds Try.pinned (OpenSpec.upto fnExactRunPipeSpec)

/-- 'laws.FnPipes', WHERE WHAT IT READS IS OF BULK AT MOST 1048576: true; the input reads as it did. -/
def fnPipesUptoRow : OpenClaim := { program := "ytdfjopcfgpigoaa", sum := "75ea877ca7f9b9f83e559d3471e33f19f1c3120f26383af9a35d15299b7e4d95", func := "loop.example/g03207/laws.FnPipes", spec := "fnPipes", unfollowed := true, recurses := true, apart := false, narrowed := true }
def FnPipesUptoSaid : Prop := fnPipesUptoRow.holds Try.pinned (OpenSpec.upto fnPipesSpec)

/-- 'laws.FnExactNewConsole', WHERE WHAT IT READS IS OF BULK AT MOST 1048576: true; the input reads as it did. -/
def fnExactNewConsoleUptoRow : OpenClaim := { program := "ytdfjopcfgpigoaa", sum := "75ea877ca7f9b9f83e559d3471e33f19f1c3120f26383af9a35d15299b7e4d95", func := "loop.example/g03207/laws.FnExactNewConsole", spec := "fnExactNewConsole", recurses := true, apart := false, narrowed := true }
def FnExactNewConsoleUptoSaid : Prop := fnExactNewConsoleUptoRow.holds Try.pinned (OpenSpec.upto fnExactNewConsoleSpec)

end Rows
end Go.Proofs.Ytdfjopcfgpigoaa
