/-
  No cell of these rows narrows 'for every input' (looked for: loops, veiled, ifaces, maps, wideKeys, modest, calm, conditions, laid).
  DERIVED. THE GIVEN ROWS OF THIS SEAT. 11 by the template 'for every input the law returns true; each argument reads behind the call as it read before'; 0 by the template 'total and deterministic' (their statements: YtnjdihbaofclbaaTotals.lean).
  GIVEN WITH THE SEED: the statements are not yours to turn. If you find one false, say at which input.
  Laid BY PROGRAM, IN A SANDBOX (cutbox-rows.mjs): the forced cells as the released guide's own fill.sh prints them over the translation 4cbeb9da10653c9d… (all of the seat's roots in one cut). By AI agents, Wed Nov 11 2026. No macro, syntax, notation, axiom, sorry.
-/
import Derived.Test.YtnjdihbaofclbaaChecked
import GoSem.Claim
import GoSem.ClaimJoined
import GoSem.ClaimMapViews
import Derived.JoinedTies
import Derived.KernelRfl
namespace Go.Proofs.Ytnjdihbaofclbaa
/- THE CELL 'sum', in the pinned program and in every row, IS THE sha256 OF THE DUMP (.gsa) THAT YtnjdihbaofclbaaProg.lean LOADS. Nothing in Lean hashes anything: it is a label: what it is worth is what the hold of that sum in a sandbox is worth. -/
noncomputable def Try.pinned : Pinned := { name := "ytnjdihbaofclbaa", sum := "4cbeb9da10653c9db9814da4ac1c3279c44c11cb4675e5d16f1ce6d00e2dbd8f", checked := Try.checked }
namespace Rows
def none {H : Type} : Left H := { results := [], args := [] }

/-- 'laws.FnExactMatchesBound': WHATEVER THE INPUT: true; the input reads as it did. -/
def fnExactMatchesBoundSpec : ChangeSpec := { name := "fnExactMatchesBound", fn := fun _ => fun
  | [d1, d2] => { results := [.lit (.bool true)], args := [d1, d2] }
  | _ => none }
def fnExactMatchesBoundRow : OpenClaim := { program := "ytnjdihbaofclbaa", sum := "4cbeb9da10653c9db9814da4ac1c3279c44c11cb4675e5d16f1ce6d00e2dbd8f", func := "loop.example/g03207/laws.FnExactMatchesBound", spec := "fnExactMatchesBound", apart := false }
def FnExactMatchesBoundSaid : Prop := fnExactMatchesBoundRow.holds Try.pinned (OpenSpec.ofChange fnExactMatchesBoundSpec)

/-- ITS FALSE NEIGHBOUR: 'it returns false'. Refute it at one input. -/
def fnExactMatchesBoundWrong : ChangeSpec := { name := "fnExactMatchesBound", fn := fun _ => fun
  | [d1, d2] => { results := [.lit (.bool false)], args := [d1, d2] }
  | _ => none }
def FnExactMatchesBoundWrongFalsely : Prop := fnExactMatchesBoundRow.holds Try.pinned (OpenSpec.ofChange fnExactMatchesBoundWrong)

/-- 'laws.FnExactDigitOf': WHATEVER THE INPUT: true; the input reads as it did. -/
def fnExactDigitOfSpec : ChangeSpec := { name := "fnExactDigitOf", fn := fun _ => fun
  | [d1, d2, d3] => { results := [.lit (.bool true)], args := [d1, d2, d3] }
  | _ => none }
def fnExactDigitOfRow : OpenClaim := { program := "ytnjdihbaofclbaa", sum := "4cbeb9da10653c9db9814da4ac1c3279c44c11cb4675e5d16f1ce6d00e2dbd8f", func := "loop.example/g03207/laws.FnExactDigitOf", spec := "fnExactDigitOf", apart := false }
def FnExactDigitOfSaid : Prop := fnExactDigitOfRow.holds Try.pinned (OpenSpec.ofChange fnExactDigitOfSpec)

/-- ITS FALSE NEIGHBOUR: 'it returns false'. Refute it at one input. -/
def fnExactDigitOfWrong : ChangeSpec := { name := "fnExactDigitOf", fn := fun _ => fun
  | [d1, d2, d3] => { results := [.lit (.bool false)], args := [d1, d2, d3] }
  | _ => none }
def FnExactDigitOfWrongFalsely : Prop := fnExactDigitOfRow.holds Try.pinned (OpenSpec.ofChange fnExactDigitOfWrong)

/-- 'laws.FnExactDigitsOk': WHATEVER THE INPUT: true; the input reads as it did. -/
def fnExactDigitsOkSpec : ChangeSpec := { name := "fnExactDigitsOk", fn := fun _ => fun
  | [d1, d2] => { results := [.lit (.bool true)], args := [d1, d2] }
  | _ => none }
def fnExactDigitsOkRow : OpenClaim := { program := "ytnjdihbaofclbaa", sum := "4cbeb9da10653c9db9814da4ac1c3279c44c11cb4675e5d16f1ce6d00e2dbd8f", func := "loop.example/g03207/laws.FnExactDigitsOk", spec := "fnExactDigitsOk", unfollowed := true, recurses := true, apart := false }
def FnExactDigitsOkSaid : Prop := fnExactDigitsOkRow.holds Try.pinned (OpenSpec.ofChange fnExactDigitsOkSpec)

/-- ITS FALSE NEIGHBOUR: 'it returns false'. Refute it at one input. -/
def fnExactDigitsOkWrong : ChangeSpec := { name := "fnExactDigitsOk", fn := fun _ => fun
  | [d1, d2] => { results := [.lit (.bool false)], args := [d1, d2] }
  | _ => none }
def FnExactDigitsOkWrongFalsely : Prop := fnExactDigitsOkRow.holds Try.pinned (OpenSpec.ofChange fnExactDigitsOkWrong)

/-- 'laws.FnExactPassesNeeded': WHATEVER THE INPUT: true; the input reads as it did. -/
def fnExactPassesNeededSpec : ChangeSpec := { name := "fnExactPassesNeeded", fn := fun _ => fun
  | [d1, d2] => { results := [.lit (.bool true)], args := [d1, d2] }
  | _ => none }
def fnExactPassesNeededRow : OpenClaim := { program := "ytnjdihbaofclbaa", sum := "4cbeb9da10653c9db9814da4ac1c3279c44c11cb4675e5d16f1ce6d00e2dbd8f", func := "loop.example/g03207/laws.FnExactPassesNeeded", spec := "fnExactPassesNeeded", unfollowed := true, recurses := true, apart := false }
def FnExactPassesNeededSaid : Prop := fnExactPassesNeededRow.holds Try.pinned (OpenSpec.ofChange fnExactPassesNeededSpec)

/-- ITS FALSE NEIGHBOUR: 'it returns false'. Refute it at one input. -/
def fnExactPassesNeededWrong : ChangeSpec := { name := "fnExactPassesNeeded", fn := fun _ => fun
  | [d1, d2] => { results := [.lit (.bool false)], args := [d1, d2] }
  | _ => none }
def FnExactPassesNeededWrongFalsely : Prop := fnExactPassesNeededRow.holds Try.pinned (OpenSpec.ofChange fnExactPassesNeededWrong)

/-- 'laws.FnExactIsDigitSorted': WHATEVER THE INPUT: true; the input reads as it did. -/
def fnExactIsDigitSortedSpec : ChangeSpec := { name := "fnExactIsDigitSorted", fn := fun _ => fun
  | [d1, d2, d3] => { results := [.lit (.bool true)], args := [d1, d2, d3] }
  | _ => none }
def fnExactIsDigitSortedRow : OpenClaim := { program := "ytnjdihbaofclbaa", sum := "4cbeb9da10653c9db9814da4ac1c3279c44c11cb4675e5d16f1ce6d00e2dbd8f", func := "loop.example/g03207/laws.FnExactIsDigitSorted", spec := "fnExactIsDigitSorted", unfollowed := true, recurses := true, apart := false }
def FnExactIsDigitSortedSaid : Prop := fnExactIsDigitSortedRow.holds Try.pinned (OpenSpec.ofChange fnExactIsDigitSortedSpec)

/-- ITS FALSE NEIGHBOUR: 'it returns false'. Refute it at one input. -/
def fnExactIsDigitSortedWrong : ChangeSpec := { name := "fnExactIsDigitSorted", fn := fun _ => fun
  | [d1, d2, d3] => { results := [.lit (.bool false)], args := [d1, d2, d3] }
  | _ => none }
def FnExactIsDigitSortedWrongFalsely : Prop := fnExactIsDigitSortedRow.holds Try.pinned (OpenSpec.ofChange fnExactIsDigitSortedWrong)

/-- 'laws.FnExactCountDigits': WHATEVER THE INPUT: true; the input reads as it did. -/
def fnExactCountDigitsSpec : ChangeSpec := { name := "fnExactCountDigits", fn := fun _ => fun
  | [d1, d2, d3] => { results := [.lit (.bool true)], args := [d1, d2, d3] }
  | _ => none }
def fnExactCountDigitsRow : OpenClaim := { program := "ytnjdihbaofclbaa", sum := "4cbeb9da10653c9db9814da4ac1c3279c44c11cb4675e5d16f1ce6d00e2dbd8f", func := "loop.example/g03207/laws.FnExactCountDigits", spec := "fnExactCountDigits", unfollowed := true, recurses := true, apart := false }
def FnExactCountDigitsSaid : Prop := fnExactCountDigitsRow.holds Try.pinned (OpenSpec.ofChange fnExactCountDigitsSpec)

/-- ITS FALSE NEIGHBOUR: 'it returns false'. Refute it at one input. -/
def fnExactCountDigitsWrong : ChangeSpec := { name := "fnExactCountDigits", fn := fun _ => fun
  | [d1, d2, d3] => { results := [.lit (.bool false)], args := [d1, d2, d3] }
  | _ => none }
def FnExactCountDigitsWrongFalsely : Prop := fnExactCountDigitsRow.holds Try.pinned (OpenSpec.ofChange fnExactCountDigitsWrong)

/-- 'laws.FnExactDigitPass': WHATEVER THE INPUT: true; the input reads as it did. -/
def fnExactDigitPassSpec : ChangeSpec := { name := "fnExactDigitPass", fn := fun _ => fun
  | [d1, d2, d3] => { results := [.lit (.bool true)], args := [d1, d2, d3] }
  | _ => none }
def fnExactDigitPassRow : OpenClaim := { program := "ytnjdihbaofclbaa", sum := "4cbeb9da10653c9db9814da4ac1c3279c44c11cb4675e5d16f1ce6d00e2dbd8f", func := "loop.example/g03207/laws.FnExactDigitPass", spec := "fnExactDigitPass", unfollowed := true, recurses := true, apart := false }
def FnExactDigitPassSaid : Prop := fnExactDigitPassRow.holds Try.pinned (OpenSpec.ofChange fnExactDigitPassSpec)

/-- ITS FALSE NEIGHBOUR: 'it returns false'. Refute it at one input. -/
def fnExactDigitPassWrong : ChangeSpec := { name := "fnExactDigitPass", fn := fun _ => fun
  | [d1, d2, d3] => { results := [.lit (.bool false)], args := [d1, d2, d3] }
  | _ => none }
def FnExactDigitPassWrongFalsely : Prop := fnExactDigitPassRow.holds Try.pinned (OpenSpec.ofChange fnExactDigitPassWrong)

/-- 'laws.FnExactDigitSort': WHATEVER THE INPUT: true; the input reads as it did. -/
def fnExactDigitSortSpec : ChangeSpec := { name := "fnExactDigitSort", fn := fun _ => fun
  | [d1, d2] => { results := [.lit (.bool true)], args := [d1, d2] }
  | _ => none }
def fnExactDigitSortRow : OpenClaim := { program := "ytnjdihbaofclbaa", sum := "4cbeb9da10653c9db9814da4ac1c3279c44c11cb4675e5d16f1ce6d00e2dbd8f", func := "loop.example/g03207/laws.FnExactDigitSort", spec := "fnExactDigitSort", unfollowed := true, recurses := true, apart := false }
def FnExactDigitSortSaid : Prop := fnExactDigitSortRow.holds Try.pinned (OpenSpec.ofChange fnExactDigitSortSpec)

/-- ITS FALSE NEIGHBOUR: 'it returns false'. Refute it at one input. -/
def fnExactDigitSortWrong : ChangeSpec := { name := "fnExactDigitSort", fn := fun _ => fun
  | [d1, d2] => { results := [.lit (.bool false)], args := [d1, d2] }
  | _ => none }
def FnExactDigitSortWrongFalsely : Prop := fnExactDigitSortRow.holds Try.pinned (OpenSpec.ofChange fnExactDigitSortWrong)

/-- 'laws.FnExactTopFirst': WHATEVER THE INPUT: true; the input reads as it did. -/
def fnExactTopFirstSpec : ChangeSpec := { name := "fnExactTopFirst", fn := fun _ => fun
  | [d1, d2, d3] => { results := [.lit (.bool true)], args := [d1, d2, d3] }
  | _ => none }
def fnExactTopFirstRow : OpenClaim := { program := "ytnjdihbaofclbaa", sum := "4cbeb9da10653c9db9814da4ac1c3279c44c11cb4675e5d16f1ce6d00e2dbd8f", func := "loop.example/g03207/laws.FnExactTopFirst", spec := "fnExactTopFirst", unfollowed := true, recurses := true, apart := false }
def FnExactTopFirstSaid : Prop := fnExactTopFirstRow.holds Try.pinned (OpenSpec.ofChange fnExactTopFirstSpec)

/-- ITS FALSE NEIGHBOUR: 'it returns false'. Refute it at one input. -/
def fnExactTopFirstWrong : ChangeSpec := { name := "fnExactTopFirst", fn := fun _ => fun
  | [d1, d2, d3] => { results := [.lit (.bool false)], args := [d1, d2, d3] }
  | _ => none }
def FnExactTopFirstWrongFalsely : Prop := fnExactTopFirstRow.holds Try.pinned (OpenSpec.ofChange fnExactTopFirstWrong)

/-- 'laws.FnDigits': WHATEVER THE INPUT: true; the input reads as it did. -/
def fnDigitsSpec : ChangeSpec := { name := "fnDigits", fn := fun _ => fun
  | [d] => { results := [.lit (.bool true)], args := [d] }
  | _ => none }
def fnDigitsRow : OpenClaim := { program := "ytnjdihbaofclbaa", sum := "4cbeb9da10653c9db9814da4ac1c3279c44c11cb4675e5d16f1ce6d00e2dbd8f", func := "loop.example/g03207/laws.FnDigits", spec := "fnDigits", unfollowed := true, recurses := true, apart := false }
def FnDigitsSaid : Prop := fnDigitsRow.holds Try.pinned (OpenSpec.ofChange fnDigitsSpec)

/-- ITS FALSE NEIGHBOUR: 'it returns false'. Refute it at one input. -/
def fnDigitsWrong : ChangeSpec := { name := "fnDigits", fn := fun _ => fun
  | [d] => { results := [.lit (.bool false)], args := [d] }
  | _ => none }
def FnDigitsWrongFalsely : Prop := fnDigitsRow.holds Try.pinned (OpenSpec.ofChange fnDigitsWrong)

/-- 'laws.FnExactOpponentsOf': WHATEVER THE INPUT: true; the input reads as it did. -/
def fnExactOpponentsOfSpec : ChangeSpec := { name := "fnExactOpponentsOf", fn := fun _ => fun
  | [d1, d2] => { results := [.lit (.bool true)], args := [d1, d2] }
  | _ => none }
def fnExactOpponentsOfRow : OpenClaim := { program := "ytnjdihbaofclbaa", sum := "4cbeb9da10653c9db9814da4ac1c3279c44c11cb4675e5d16f1ce6d00e2dbd8f", func := "loop.example/g03207/laws.FnExactOpponentsOf", spec := "fnExactOpponentsOf", apart := false }
def FnExactOpponentsOfSaid : Prop := fnExactOpponentsOfRow.holds Try.pinned (OpenSpec.ofChange fnExactOpponentsOfSpec)

/-- ITS FALSE NEIGHBOUR: 'it returns false'. Refute it at one input. -/
def fnExactOpponentsOfWrong : ChangeSpec := { name := "fnExactOpponentsOf", fn := fun _ => fun
  | [d1, d2] => { results := [.lit (.bool false)], args := [d1, d2] }
  | _ => none }
def FnExactOpponentsOfWrongFalsely : Prop := fnExactOpponentsOfRow.holds Try.pinned (OpenSpec.ofChange fnExactOpponentsOfWrong)

/- THE SECOND FORM. 'bulk': how many values and letters a reading holds, each counted each time it is reached (what is shared counts as often as it is met; a slice's spare places count too). A statement '..UptoSaid' is the law's where the arguments, and the package variables that the reading takes, are together of bulk at most 1048576: NARROWER than '..Said'. Prove '..Said' where nothing that the law and all that it calls make is longer than what came in: it says more and counts as full. Else prove '..UptoSaid'. A law counts once. -/
mutual
def uptoBulk {H : Type} : DataW H → Nat
  | .lit (.string bytes) => bytes.length + 1
  | .lit _ => 1
  | .nil => 1
  | .ptr d => uptoBulk d + 1
  | .slice elems spare => uptoBulkAll elems + uptoBulkAll spare + 1
  | .agg parts => uptoBulkAll parts + 1
  | .iface _ d => uptoBulk d + 1
  | .map entries => uptoBulkEntries entries + 1
  | .held _ => 1
def uptoBulkAll {H : Type} : List (DataW H) → Nat
  | [] => 0
  | d :: r => uptoBulk d + uptoBulkAll r
def uptoBulkEntries {H : Type} : List (Lit × DataW H) → Nat
  | [] => 0
  | x :: r => uptoBulkEntry x + uptoBulkEntries r
def uptoBulkEntry {H : Type} : Lit × DataW H → Nat
  | (.string bytes, d) => bytes.length + uptoBulk d + 1
  | (_, d) => uptoBulk d + 1
 end
def uptoSmall : (H : Type) → List (DataW H) → Bool := fun _ ds => decide (uptoBulkAll ds ≤ 1048576)
def OpenSpec.upto (s : _root_.Go.ChangeSpec) : _root_.Go.OpenSpec := { _root_.Go.OpenSpec.ofChange s with cond := some uptoSmall }

/-- 'laws.FnExactMatchesBound', WHERE WHAT IT READS IS OF BULK AT MOST 1048576: true; the input reads as it did. -/
def fnExactMatchesBoundUptoRow : OpenClaim := { program := "ytnjdihbaofclbaa", sum := "4cbeb9da10653c9db9814da4ac1c3279c44c11cb4675e5d16f1ce6d00e2dbd8f", func := "loop.example/g03207/laws.FnExactMatchesBound", spec := "fnExactMatchesBound", apart := false, narrowed := true }
def FnExactMatchesBoundUptoSaid : Prop := fnExactMatchesBoundUptoRow.holds Try.pinned (OpenSpec.upto fnExactMatchesBoundSpec)

/-- 'laws.FnExactDigitOf', WHERE WHAT IT READS IS OF BULK AT MOST 1048576: true; the input reads as it did. -/
def fnExactDigitOfUptoRow : OpenClaim := { program := "ytnjdihbaofclbaa", sum := "4cbeb9da10653c9db9814da4ac1c3279c44c11cb4675e5d16f1ce6d00e2dbd8f", func := "loop.example/g03207/laws.FnExactDigitOf", spec := "fnExactDigitOf", apart := false, narrowed := true }
def FnExactDigitOfUptoSaid : Prop := fnExactDigitOfUptoRow.holds Try.pinned (OpenSpec.upto fnExactDigitOfSpec)

/-- 'laws.FnExactDigitsOk', WHERE WHAT IT READS IS OF BULK AT MOST 1048576: true; the input reads as it did. -/
def fnExactDigitsOkUptoRow : OpenClaim := { program := "ytnjdihbaofclbaa", sum := "4cbeb9da10653c9db9814da4ac1c3279c44c11cb4675e5d16f1ce6d00e2dbd8f", func := "loop.example/g03207/laws.FnExactDigitsOk", spec := "fnExactDigitsOk", unfollowed := true, recurses := true, apart := false, narrowed := true }
def FnExactDigitsOkUptoSaid : Prop := fnExactDigitsOkUptoRow.holds Try.pinned (OpenSpec.upto fnExactDigitsOkSpec)

/-- 'laws.FnExactPassesNeeded', WHERE WHAT IT READS IS OF BULK AT MOST 1048576: true; the input reads as it did. -/
def fnExactPassesNeededUptoRow : OpenClaim := { program := "ytnjdihbaofclbaa", sum := "4cbeb9da10653c9db9814da4ac1c3279c44c11cb4675e5d16f1ce6d00e2dbd8f", func := "loop.example/g03207/laws.FnExactPassesNeeded", spec := "fnExactPassesNeeded", unfollowed := true, recurses := true, apart := false, narrowed := true }
def FnExactPassesNeededUptoSaid : Prop := fnExactPassesNeededUptoRow.holds Try.pinned (OpenSpec.upto fnExactPassesNeededSpec)

/-- 'laws.FnExactIsDigitSorted', WHERE WHAT IT READS IS OF BULK AT MOST 1048576: true; the input reads as it did. -/
def fnExactIsDigitSortedUptoRow : OpenClaim := { program := "ytnjdihbaofclbaa", sum := "4cbeb9da10653c9db9814da4ac1c3279c44c11cb4675e5d16f1ce6d00e2dbd8f", func := "loop.example/g03207/laws.FnExactIsDigitSorted", spec := "fnExactIsDigitSorted", unfollowed := true, recurses := true, apart := false, narrowed := true }
def FnExactIsDigitSortedUptoSaid : Prop := fnExactIsDigitSortedUptoRow.holds Try.pinned (OpenSpec.upto fnExactIsDigitSortedSpec)

/-- 'laws.FnExactCountDigits', WHERE WHAT IT READS IS OF BULK AT MOST 1048576: true; the input reads as it did. -/
def fnExactCountDigitsUptoRow : OpenClaim := { program := "ytnjdihbaofclbaa", sum := "4cbeb9da10653c9db9814da4ac1c3279c44c11cb4675e5d16f1ce6d00e2dbd8f", func := "loop.example/g03207/laws.FnExactCountDigits", spec := "fnExactCountDigits", unfollowed := true, recurses := true, apart := false, narrowed := true }
def FnExactCountDigitsUptoSaid : Prop := fnExactCountDigitsUptoRow.holds Try.pinned (OpenSpec.upto fnExactCountDigitsSpec)

/-- 'laws.FnExactDigitPass', WHERE WHAT IT READS IS OF BULK AT MOST 1048576: true; the input reads as it did. -/
def fnExactDigitPassUptoRow : OpenClaim := { program := "ytnjdihbaofclbaa", sum := "4cbeb9da10653c9db9814da4ac1c3279c44c11cb4675e5d16f1ce6d00e2dbd8f", func := "loop.example/g03207/laws.FnExactDigitPass", spec := "fnExactDigitPass", unfollowed := true, recurses := true, apart := false, narrowed := true }
def FnExactDigitPassUptoSaid : Prop := fnExactDigitPassUptoRow.holds Try.pinned (OpenSpec.upto fnExactDigitPassSpec)

/-- 'laws.FnExactDigitSort', WHERE WHAT IT READS IS OF BULK AT MOST 1048576: true; the input reads as it did. -/
def fnExactDigitSortUptoRow : OpenClaim := { program := "ytnjdihbaofclbaa", sum := "4cbeb9da10653c9db9814da4ac1c3279c44c11cb4675e5d16f1ce6d00e2dbd8f", func := "loop.example/g03207/laws.FnExactDigitSort", spec := "fnExactDigitSort", unfollowed := true, recurses := true, apart := false, narrowed := true }
def FnExactDigitSortUptoSaid : Prop := fnExactDigitSortUptoRow.holds Try.pinned (OpenSpec.upto fnExactDigitSortSpec)

/-- 'laws.FnExactTopFirst', WHERE WHAT IT READS IS OF BULK AT MOST 1048576: true; the input reads as it did. -/
def fnExactTopFirstUptoRow : OpenClaim := { program := "ytnjdihbaofclbaa", sum := "4cbeb9da10653c9db9814da4ac1c3279c44c11cb4675e5d16f1ce6d00e2dbd8f", func := "loop.example/g03207/laws.FnExactTopFirst", spec := "fnExactTopFirst", unfollowed := true, recurses := true, apart := false, narrowed := true }
def FnExactTopFirstUptoSaid : Prop := fnExactTopFirstUptoRow.holds Try.pinned (OpenSpec.upto fnExactTopFirstSpec)

/-- 'laws.FnDigits', WHERE WHAT IT READS IS OF BULK AT MOST 1048576: true; the input reads as it did. -/
def fnDigitsUptoRow : OpenClaim := { program := "ytnjdihbaofclbaa", sum := "4cbeb9da10653c9db9814da4ac1c3279c44c11cb4675e5d16f1ce6d00e2dbd8f", func := "loop.example/g03207/laws.FnDigits", spec := "fnDigits", unfollowed := true, recurses := true, apart := false, narrowed := true }
def FnDigitsUptoSaid : Prop := fnDigitsUptoRow.holds Try.pinned (OpenSpec.upto fnDigitsSpec)

/-- 'laws.FnExactOpponentsOf', WHERE WHAT IT READS IS OF BULK AT MOST 1048576: true; the input reads as it did. -/
def fnExactOpponentsOfUptoRow : OpenClaim := { program := "ytnjdihbaofclbaa", sum := "4cbeb9da10653c9db9814da4ac1c3279c44c11cb4675e5d16f1ce6d00e2dbd8f", func := "loop.example/g03207/laws.FnExactOpponentsOf", spec := "fnExactOpponentsOf", apart := false, narrowed := true }
def FnExactOpponentsOfUptoSaid : Prop := fnExactOpponentsOfUptoRow.holds Try.pinned (OpenSpec.upto fnExactOpponentsOfSpec)

end Rows
end Go.Proofs.Ytnjdihbaofclbaa
