/-
  No cell of these rows narrows 'for every input' (looked for: loops, veiled, ifaces, maps, wideKeys, modest, calm, conditions, laid).
  DERIVED. THE GIVEN ROWS OF THIS SEAT. 8 by the template 'for every input the law returns true; each argument reads behind the call as it read before'; 0 by the template 'total and deterministic' (their statements: YtkidbnlebeaikaaTotals.lean).
  GIVEN WITH THE SEED: the statements are not yours to turn. If you find one false, say at which input.
  Laid BY PROGRAM, IN A SANDBOX (cutbox-rows.mjs): the forced cells as the released guide's own fill.sh prints them over the translation ae0c2ba15c266b91… (all of the seat's roots in one cut). By AI agents, Wed Nov 11 2026. No macro, syntax, notation, axiom, sorry.
-/
import Derived.Test.YtkidbnlebeaikaaChecked
import GoSem.Claim
import GoSem.ClaimJoined
import GoSem.ClaimMapViews
import Derived.JoinedTies
import Derived.KernelRfl
namespace Go.Proofs.Ytkidbnlebeaikaa
/- THE CELL 'sum', in the pinned program and in every row, IS THE sha256 OF THE DUMP (.gsa) THAT YtkidbnlebeaikaaProg.lean LOADS. Nothing in Lean hashes anything: it is a label: what it is worth is what the hold of that sum in a sandbox is worth. -/
noncomputable def Try.pinned : Pinned := { name := "ytkidbnlebeaikaa", sum := "ae0c2ba15c266b91721db1bfeab9750809c51dfae9f5ccbd1d966592b0798a99", checked := Try.checked }
namespace Rows
def none {H : Type} : Left H := { results := [], args := [] }

/-- 'laws.FnExactListsOk': WHATEVER THE INPUT: true; the input reads as it did. -/
def fnExactListsOkSpec : ChangeSpec := { name := "fnExactListsOk", fn := fun _ => fun
  | [d] => { results := [.lit (.bool true)], args := [d] }
  | _ => none }
def fnExactListsOkRow : OpenClaim := { program := "ytkidbnlebeaikaa", sum := "ae0c2ba15c266b91721db1bfeab9750809c51dfae9f5ccbd1d966592b0798a99", func := "loop.example/g03207/laws.FnExactListsOk", spec := "fnExactListsOk", unfollowed := true, recurses := true, apart := false }
def FnExactListsOkSaid : Prop := fnExactListsOkRow.holds Try.pinned (OpenSpec.ofChange fnExactListsOkSpec)

/-- ITS FALSE NEIGHBOUR: 'it returns false'. Refute it at one input. -/
def fnExactListsOkWrong : ChangeSpec := { name := "fnExactListsOk", fn := fun _ => fun
  | [d] => { results := [.lit (.bool false)], args := [d] }
  | _ => none }
def FnExactListsOkWrongFalsely : Prop := fnExactListsOkRow.holds Try.pinned (OpenSpec.ofChange fnExactListsOkWrong)

/-- 'laws.FnExactTakenOk': WHATEVER THE INPUT: true; the input reads as it did. -/
def fnExactTakenOkSpec : ChangeSpec := { name := "fnExactTakenOk", fn := fun _ => fun
  | [d1, d2] => { results := [.lit (.bool true)], args := [d1, d2] }
  | _ => none }
def fnExactTakenOkRow : OpenClaim := { program := "ytkidbnlebeaikaa", sum := "ae0c2ba15c266b91721db1bfeab9750809c51dfae9f5ccbd1d966592b0798a99", func := "loop.example/g03207/laws.FnExactTakenOk", spec := "fnExactTakenOk", unfollowed := true, recurses := true, apart := false }
def FnExactTakenOkSaid : Prop := fnExactTakenOkRow.holds Try.pinned (OpenSpec.ofChange fnExactTakenOkSpec)

/-- ITS FALSE NEIGHBOUR: 'it returns false'. Refute it at one input. -/
def fnExactTakenOkWrong : ChangeSpec := { name := "fnExactTakenOk", fn := fun _ => fun
  | [d1, d2] => { results := [.lit (.bool false)], args := [d1, d2] }
  | _ => none }
def FnExactTakenOkWrongFalsely : Prop := fnExactTakenOkRow.holds Try.pinned (OpenSpec.ofChange fnExactTakenOkWrong)

/-- 'laws.FnExactWinnerOf': WHATEVER THE INPUT: true; the input reads as it did. -/
def fnExactWinnerOfSpec : ChangeSpec := { name := "fnExactWinnerOf", fn := fun _ => fun
  | [d1, d2] => { results := [.lit (.bool true)], args := [d1, d2] }
  | _ => none }
def fnExactWinnerOfRow : OpenClaim := { program := "ytkidbnlebeaikaa", sum := "ae0c2ba15c266b91721db1bfeab9750809c51dfae9f5ccbd1d966592b0798a99", func := "loop.example/g03207/laws.FnExactWinnerOf", spec := "fnExactWinnerOf", unfollowed := true, recurses := true, apart := false }
def FnExactWinnerOfSaid : Prop := fnExactWinnerOfRow.holds Try.pinned (OpenSpec.ofChange fnExactWinnerOfSpec)

/-- ITS FALSE NEIGHBOUR: 'it returns false'. Refute it at one input. -/
def fnExactWinnerOfWrong : ChangeSpec := { name := "fnExactWinnerOf", fn := fun _ => fun
  | [d1, d2] => { results := [.lit (.bool false)], args := [d1, d2] }
  | _ => none }
def FnExactWinnerOfWrongFalsely : Prop := fnExactWinnerOfRow.holds Try.pinned (OpenSpec.ofChange fnExactWinnerOfWrong)

/-- 'laws.FnExactTakenFrom': WHATEVER THE INPUT: true; the input reads as it did. -/
def fnExactTakenFromSpec : ChangeSpec := { name := "fnExactTakenFrom", fn := fun _ => fun
  | [d] => { results := [.lit (.bool true)], args := [d] }
  | _ => none }
def fnExactTakenFromRow : OpenClaim := { program := "ytkidbnlebeaikaa", sum := "ae0c2ba15c266b91721db1bfeab9750809c51dfae9f5ccbd1d966592b0798a99", func := "loop.example/g03207/laws.FnExactTakenFrom", spec := "fnExactTakenFrom", unfollowed := true, recurses := true, apart := false }
def FnExactTakenFromSaid : Prop := fnExactTakenFromRow.holds Try.pinned (OpenSpec.ofChange fnExactTakenFromSpec)

/-- ITS FALSE NEIGHBOUR: 'it returns false'. Refute it at one input. -/
def fnExactTakenFromWrong : ChangeSpec := { name := "fnExactTakenFrom", fn := fun _ => fun
  | [d] => { results := [.lit (.bool false)], args := [d] }
  | _ => none }
def FnExactTakenFromWrongFalsely : Prop := fnExactTakenFromRow.holds Try.pinned (OpenSpec.ofChange fnExactTakenFromWrong)

/-- 'laws.FnExactMergeAll': WHATEVER THE INPUT: true; the input reads as it did. -/
def fnExactMergeAllSpec : ChangeSpec := { name := "fnExactMergeAll", fn := fun _ => fun
  | [d] => { results := [.lit (.bool true)], args := [d] }
  | _ => none }
def fnExactMergeAllRow : OpenClaim := { program := "ytkidbnlebeaikaa", sum := "ae0c2ba15c266b91721db1bfeab9750809c51dfae9f5ccbd1d966592b0798a99", func := "loop.example/g03207/laws.FnExactMergeAll", spec := "fnExactMergeAll", unfollowed := true, recurses := true, apart := false }
def FnExactMergeAllSaid : Prop := fnExactMergeAllRow.holds Try.pinned (OpenSpec.ofChange fnExactMergeAllSpec)

/-- ITS FALSE NEIGHBOUR: 'it returns false'. Refute it at one input. -/
def fnExactMergeAllWrong : ChangeSpec := { name := "fnExactMergeAll", fn := fun _ => fun
  | [d] => { results := [.lit (.bool false)], args := [d] }
  | _ => none }
def FnExactMergeAllWrongFalsely : Prop := fnExactMergeAllRow.holds Try.pinned (OpenSpec.ofChange fnExactMergeAllWrong)

/-- 'laws.FnExactLosersOf': WHATEVER THE INPUT: true; the input reads as it did. -/
def fnExactLosersOfSpec : ChangeSpec := { name := "fnExactLosersOf", fn := fun _ => fun
  | [d1, d2] => { results := [.lit (.bool true)], args := [d1, d2] }
  | _ => none }
def fnExactLosersOfRow : OpenClaim := { program := "ytkidbnlebeaikaa", sum := "ae0c2ba15c266b91721db1bfeab9750809c51dfae9f5ccbd1d966592b0798a99", func := "loop.example/g03207/laws.FnExactLosersOf", spec := "fnExactLosersOf", unfollowed := true, recurses := true, apart := false }
def FnExactLosersOfSaid : Prop := fnExactLosersOfRow.holds Try.pinned (OpenSpec.ofChange fnExactLosersOfSpec)

/-- ITS FALSE NEIGHBOUR: 'it returns false'. Refute it at one input. -/
def fnExactLosersOfWrong : ChangeSpec := { name := "fnExactLosersOf", fn := fun _ => fun
  | [d1, d2] => { results := [.lit (.bool false)], args := [d1, d2] }
  | _ => none }
def FnExactLosersOfWrongFalsely : Prop := fnExactLosersOfRow.holds Try.pinned (OpenSpec.ofChange fnExactLosersOfWrong)

/-- 'laws.FnExactCountMatches': WHATEVER THE INPUT: true; the input reads as it did. -/
def fnExactCountMatchesSpec : ChangeSpec := { name := "fnExactCountMatches", fn := fun _ => fun
  | [d] => { results := [.lit (.bool true)], args := [d] }
  | _ => none }
def fnExactCountMatchesRow : OpenClaim := { program := "ytkidbnlebeaikaa", sum := "ae0c2ba15c266b91721db1bfeab9750809c51dfae9f5ccbd1d966592b0798a99", func := "loop.example/g03207/laws.FnExactCountMatches", spec := "fnExactCountMatches", unfollowed := true, recurses := true, apart := false }
def FnExactCountMatchesSaid : Prop := fnExactCountMatchesRow.holds Try.pinned (OpenSpec.ofChange fnExactCountMatchesSpec)

/-- ITS FALSE NEIGHBOUR: 'it returns false'. Refute it at one input. -/
def fnExactCountMatchesWrong : ChangeSpec := { name := "fnExactCountMatches", fn := fun _ => fun
  | [d] => { results := [.lit (.bool false)], args := [d] }
  | _ => none }
def FnExactCountMatchesWrongFalsely : Prop := fnExactCountMatchesRow.holds Try.pinned (OpenSpec.ofChange fnExactCountMatchesWrong)

/-- 'laws.FnLosers': WHATEVER THE INPUT: true; the input reads as it did. -/
def fnLosersSpec : ChangeSpec := { name := "fnLosers", fn := fun _ => fun
  | [d] => { results := [.lit (.bool true)], args := [d] }
  | _ => none }
def fnLosersRow : OpenClaim := { program := "ytkidbnlebeaikaa", sum := "ae0c2ba15c266b91721db1bfeab9750809c51dfae9f5ccbd1d966592b0798a99", func := "loop.example/g03207/laws.FnLosers", spec := "fnLosers", unfollowed := true, recurses := true, apart := false }
def FnLosersSaid : Prop := fnLosersRow.holds Try.pinned (OpenSpec.ofChange fnLosersSpec)

/-- ITS FALSE NEIGHBOUR: 'it returns false'. Refute it at one input. -/
def fnLosersWrong : ChangeSpec := { name := "fnLosers", fn := fun _ => fun
  | [d] => { results := [.lit (.bool false)], args := [d] }
  | _ => none }
def FnLosersWrongFalsely : Prop := fnLosersRow.holds Try.pinned (OpenSpec.ofChange fnLosersWrong)

/- THE SECOND FORM. 'bulk': how many values and letters a reading holds, each counted each time it is reached (what is shared counts as often as it is met; a slice's spare places count too). A statement '..UptoSaid' is the law's where the arguments, and the package variables that the reading takes, are together of bulk at most 1048576: NARROWER than '..Said'. Prove '..Said' where nothing that the law and all that it calls make is longer than what came in: it says more and counts as full. Else prove '..UptoSaid'. A law counts once. -/
mutual
def uptoBulk {H : Type} : DataW H → Nat
  | .lit (.string bytes) => bytes.length + 1
  | .lit _ => 1
  | .nil => 1
  | .ptr d => uptoBulk d + 1
  | .slice elems spare => uptoBulkAll elems + uptoBulkAll spare + 1
  | .agg parts => uptoBulkAll parts + 1
  | .iface _ d => uptoBulk d + 1
  | .map entries => uptoBulkEntries entries + 1
  | .held _ => 1
def uptoBulkAll {H : Type} : List (DataW H) → Nat
  | [] => 0
  | d :: r => uptoBulk d + uptoBulkAll r
def uptoBulkEntries {H : Type} : List (Lit × DataW H) → Nat
  | [] => 0
  | x :: r => uptoBulkEntry x + uptoBulkEntries r
def uptoBulkEntry {H : Type} : Lit × DataW H → Nat
  | (.string bytes, d) => bytes.length + uptoBulk d + 1
  | (_, d) => uptoBulk d + 1
 end
def uptoSmall : (H : Type) → List (DataW H) → Bool := fun _ ds => decide (uptoBulkAll ds ≤ 1048576)
def OpenSpec.upto (s : _root_.Go.ChangeSpec) : _root_.Go.OpenSpec := { _root_.Go.OpenSpec.ofChange s with cond := some uptoSmall }

/-- 'laws.FnExactListsOk', WHERE WHAT IT READS IS OF BULK AT MOST 1048576: true; the input reads as it did. -/
def fnExactListsOkUptoRow : OpenClaim := { program := "ytkidbnlebeaikaa", sum := "ae0c2ba15c266b91721db1bfeab9750809c51dfae9f5ccbd1d966592b0798a99", func := "loop.example/g03207/laws.FnExactListsOk", spec := "fnExactListsOk", unfollowed := true, recurses := true, apart := false, narrowed := true }
def FnExactListsOkUptoSaid : Prop := fnExactListsOkUptoRow.holds Try.pinned (OpenSpec.upto fnExactListsOkSpec)

/-- 'laws.FnExactTakenOk', WHERE WHAT IT READS IS OF BULK AT MOST 1048576: true; the input reads as it did. -/
def fnExactTakenOkUptoRow : OpenClaim := { program := "ytkidbnlebeaikaa", sum := "ae0c2ba15c266b91721db1bfeab9750809c51dfae9f5ccbd1d966592b0798a99", func := "loop.example/g03207/laws.FnExactTakenOk", spec := "fnExactTakenOk", unfollowed := true, recurses := true, apart := false, narrowed := true }
def FnExactTakenOkUptoSaid : Prop := fnExactTakenOkUptoRow.holds Try.pinned (OpenSpec.upto fnExactTakenOkSpec)

/-- 'laws.FnExactWinnerOf', WHERE WHAT IT READS IS OF BULK AT MOST 1048576: true; the input reads as it did. -/
def fnExactWinnerOfUptoRow : OpenClaim := { program := "ytkidbnlebeaikaa", sum := "ae0c2ba15c266b91721db1bfeab9750809c51dfae9f5ccbd1d966592b0798a99", func := "loop.example/g03207/laws.FnExactWinnerOf", spec := "fnExactWinnerOf", unfollowed := true, recurses := true, apart := false, narrowed := true }
def FnExactWinnerOfUptoSaid : Prop := fnExactWinnerOfUptoRow.holds Try.pinned (OpenSpec.upto fnExactWinnerOfSpec)

/-- 'laws.FnExactTakenFrom', WHERE WHAT IT READS IS OF BULK AT MOST 1048576: true; the input reads as it did. -/
def fnExactTakenFromUptoRow : OpenClaim := { program := "ytkidbnlebeaikaa", sum := "ae0c2ba15c266b91721db1bfeab9750809c51dfae9f5ccbd1d966592b0798a99", func := "loop.example/g03207/laws.FnExactTakenFrom", spec := "fnExactTakenFrom", unfollowed := true, recurses := true, apart := false, narrowed := true }
def FnExactTakenFromUptoSaid : Prop := fnExactTakenFromUptoRow.holds Try.pinned (OpenSpec.upto fnExactTakenFromSpec)

/-- 'laws.FnExactMergeAll', WHERE WHAT IT READS IS OF BULK AT MOST 1048576: true; the input reads as it did. -/
def fnExactMergeAllUptoRow : OpenClaim := { program := "ytkidbnlebeaikaa", sum := "ae0c2ba15c266b91721db1bfeab9750809c51dfae9f5ccbd1d966592b0798a99", func := "loop.example/g03207/laws.FnExactMergeAll", spec := "fnExactMergeAll", unfollowed := true, recurses := true, apart := false, narrowed := true }
def FnExactMergeAllUptoSaid : Prop := fnExactMergeAllUptoRow.holds Try.pinned (OpenSpec.upto fnExactMergeAllSpec)

/-- 'laws.FnExactLosersOf', WHERE WHAT IT READS IS OF BULK AT MOST 1048576: true; the input reads as it did. -/
def fnExactLosersOfUptoRow : OpenClaim := { program := "ytkidbnlebeaikaa", sum := "ae0c2ba15c266b91721db1bfeab9750809c51dfae9f5ccbd1d966592b0798a99", func := "loop.example/g03207/laws.FnExactLosersOf", spec := "fnExactLosersOf", unfollowed := true, recurses := true, apart := false, narrowed := true }
def FnExactLosersOfUptoSaid : Prop := fnExactLosersOfUptoRow.holds Try.pinned (OpenSpec.upto fnExactLosersOfSpec)

/-- 'laws.FnExactCountMatches', WHERE WHAT IT READS IS OF BULK AT MOST 1048576: true; the input reads as it did. -/
def fnExactCountMatchesUptoRow : OpenClaim := { program := "ytkidbnlebeaikaa", sum := "ae0c2ba15c266b91721db1bfeab9750809c51dfae9f5ccbd1d966592b0798a99", func := "loop.example/g03207/laws.FnExactCountMatches", spec := "fnExactCountMatches", unfollowed := true, recurses := true, apart := false, narrowed := true }
def FnExactCountMatchesUptoSaid : Prop := fnExactCountMatchesUptoRow.holds Try.pinned (OpenSpec.upto fnExactCountMatchesSpec)

/-- 'laws.FnLosers', WHERE WHAT IT READS IS OF BULK AT MOST 1048576: true; the input reads as it did. -/
def fnLosersUptoRow : OpenClaim := { program := "ytkidbnlebeaikaa", sum := "ae0c2ba15c266b91721db1bfeab9750809c51dfae9f5ccbd1d966592b0798a99", func := "loop.example/g03207/laws.FnLosers", spec := "fnLosers", unfollowed := true, recurses := true, apart := false, narrowed := true }
def FnLosersUptoSaid : Prop := fnLosersUptoRow.holds Try.pinned (OpenSpec.upto fnLosersSpec)

end Rows
end Go.Proofs.Ytkidbnlebeaikaa
