/-
  No cell of these rows narrows 'for every input' (looked for: loops, veiled, ifaces, maps, wideKeys, modest, calm, conditions, laid).
  DERIVED. THE GIVEN ROWS OF THIS SEAT. 11 by the template 'for every input the law returns true; each argument reads behind the call as it read before'; 0 by the template 'total and deterministic' (their statements: YtlbakbachcpifaaTotals.lean).
  GIVEN WITH THE SEED: the statements are not yours to turn. If you find one false, say at which input.
  Laid BY PROGRAM, IN A SANDBOX (cutbox-rows.mjs): the forced cells as the released guide's own fill.sh prints them over the translation 8a2ce6a34abef66b… (all of the seat's roots in one cut). By AI agents, Wed Nov 11 2026. No macro, syntax, notation, axiom, sorry.
-/
import Derived.Test.YtlbakbachcpifaaChecked
import GoSem.Claim
import GoSem.ClaimJoined
import GoSem.ClaimMapViews
import Derived.JoinedTies
import Derived.KernelRfl
namespace Go.Proofs.Ytlbakbachcpifaa
/- THE CELL 'sum', in the pinned program and in every row, IS THE sha256 OF THE DUMP (.gsa) THAT YtlbakbachcpifaaProg.lean LOADS. Nothing in Lean hashes anything: it is a label: what it is worth is what the hold of that sum in a sandbox is worth. -/
noncomputable def Try.pinned : Pinned := { name := "ytlbakbachcpifaa", sum := "8a2ce6a34abef66bb40ccb63a97e5206c796f8366a0b27af5e3cded9d9a7dcb3", checked := Try.checked }
namespace Rows
def none {H : Type} : Left H := { results := [], args := [] }

/-- 'laws.FnExactLateOf': WHATEVER THE INPUT: true; the input reads as it did. -/
def fnExactLateOfSpec : ChangeSpec := { name := "fnExactLateOf", fn := fun _ => fun
  | [d] => { results := [.lit (.bool true)], args := [d] }
  | _ => none }
def fnExactLateOfRow : OpenClaim := { program := "ytlbakbachcpifaa", sum := "8a2ce6a34abef66bb40ccb63a97e5206c796f8366a0b27af5e3cded9d9a7dcb3", func := "loop.example/g03207/laws.FnExactLateOf", spec := "fnExactLateOf", apart := false }
def FnExactLateOfSaid : Prop := fnExactLateOfRow.holds Try.pinned (OpenSpec.ofChange fnExactLateOfSpec)

/-- ITS FALSE NEIGHBOUR: 'it returns false'. Refute it at one input. -/
def fnExactLateOfWrong : ChangeSpec := { name := "fnExactLateOf", fn := fun _ => fun
  | [d] => { results := [.lit (.bool false)], args := [d] }
  | _ => none }
def FnExactLateOfWrongFalsely : Prop := fnExactLateOfRow.holds Try.pinned (OpenSpec.ofChange fnExactLateOfWrong)

/-- 'laws.FnLate': WHATEVER THE INPUT: true; the input reads as it did. -/
def fnLateSpec : ChangeSpec := { name := "fnLate", fn := fun _ => fun
  | [d] => { results := [.lit (.bool true)], args := [d] }
  | _ => none }
def fnLateRow : OpenClaim := { program := "ytlbakbachcpifaa", sum := "8a2ce6a34abef66bb40ccb63a97e5206c796f8366a0b27af5e3cded9d9a7dcb3", func := "loop.example/g03207/laws.FnLate", spec := "fnLate", unfollowed := true, recurses := true, apart := false }
def FnLateSaid : Prop := fnLateRow.holds Try.pinned (OpenSpec.ofChange fnLateSpec)

/-- ITS FALSE NEIGHBOUR: 'it returns false'. Refute it at one input. -/
def fnLateWrong : ChangeSpec := { name := "fnLate", fn := fun _ => fun
  | [d] => { results := [.lit (.bool false)], args := [d] }
  | _ => none }
def FnLateWrongFalsely : Prop := fnLateRow.holds Try.pinned (OpenSpec.ofChange fnLateWrong)

/-- 'laws.FnExactMostWaiting': WHATEVER THE INPUT: true; the input reads as it did. -/
def fnExactMostWaitingSpec : ChangeSpec := { name := "fnExactMostWaiting", fn := fun _ => fun
  | [d1, d2] => { results := [.lit (.bool true)], args := [d1, d2] }
  | _ => none }
def fnExactMostWaitingRow : OpenClaim := { program := "ytlbakbachcpifaa", sum := "8a2ce6a34abef66bb40ccb63a97e5206c796f8366a0b27af5e3cded9d9a7dcb3", func := "loop.example/g03207/laws.FnExactMostWaiting", spec := "fnExactMostWaiting", unfollowed := true, recurses := true, apart := false }
def FnExactMostWaitingSaid : Prop := fnExactMostWaitingRow.holds Try.pinned (OpenSpec.ofChange fnExactMostWaitingSpec)

/-- ITS FALSE NEIGHBOUR: 'it returns false'. Refute it at one input. -/
def fnExactMostWaitingWrong : ChangeSpec := { name := "fnExactMostWaiting", fn := fun _ => fun
  | [d1, d2] => { results := [.lit (.bool false)], args := [d1, d2] }
  | _ => none }
def FnExactMostWaitingWrongFalsely : Prop := fnExactMostWaitingRow.holds Try.pinned (OpenSpec.ofChange fnExactMostWaitingWrong)

/-- 'laws.FnExactDelaysOf': WHATEVER THE INPUT: true; the input reads as it did. -/
def fnExactDelaysOfSpec : ChangeSpec := { name := "fnExactDelaysOf", fn := fun _ => fun
  | [d1, d2] => { results := [.lit (.bool true)], args := [d1, d2] }
  | _ => none }
def fnExactDelaysOfRow : OpenClaim := { program := "ytlbakbachcpifaa", sum := "8a2ce6a34abef66bb40ccb63a97e5206c796f8366a0b27af5e3cded9d9a7dcb3", func := "loop.example/g03207/laws.FnExactDelaysOf", spec := "fnExactDelaysOf", unfollowed := true, recurses := true, apart := false }
def FnExactDelaysOfSaid : Prop := fnExactDelaysOfRow.holds Try.pinned (OpenSpec.ofChange fnExactDelaysOfSpec)

/-- ITS FALSE NEIGHBOUR: 'it returns false'. Refute it at one input. -/
def fnExactDelaysOfWrong : ChangeSpec := { name := "fnExactDelaysOf", fn := fun _ => fun
  | [d1, d2] => { results := [.lit (.bool false)], args := [d1, d2] }
  | _ => none }
def FnExactDelaysOfWrongFalsely : Prop := fnExactDelaysOfRow.holds Try.pinned (OpenSpec.ofChange fnExactDelaysOfWrong)

/-- 'laws.FnExactEmitOrder': WHATEVER THE INPUT: true; the input reads as it did. -/
def fnExactEmitOrderSpec : ChangeSpec := { name := "fnExactEmitOrder", fn := fun _ => fun
  | [d1, d2] => { results := [.lit (.bool true)], args := [d1, d2] }
  | _ => none }
def fnExactEmitOrderRow : OpenClaim := { program := "ytlbakbachcpifaa", sum := "8a2ce6a34abef66bb40ccb63a97e5206c796f8366a0b27af5e3cded9d9a7dcb3", func := "loop.example/g03207/laws.FnExactEmitOrder", spec := "fnExactEmitOrder", unfollowed := true, recurses := true, apart := false }
def FnExactEmitOrderSaid : Prop := fnExactEmitOrderRow.holds Try.pinned (OpenSpec.ofChange fnExactEmitOrderSpec)

/-- ITS FALSE NEIGHBOUR: 'it returns false'. Refute it at one input. -/
def fnExactEmitOrderWrong : ChangeSpec := { name := "fnExactEmitOrder", fn := fun _ => fun
  | [d1, d2] => { results := [.lit (.bool false)], args := [d1, d2] }
  | _ => none }
def FnExactEmitOrderWrongFalsely : Prop := fnExactEmitOrderRow.holds Try.pinned (OpenSpec.ofChange fnExactEmitOrderWrong)

/-- 'laws.FnBuffers': WHATEVER THE INPUT: true; the input reads as it did. -/
def fnBuffersSpec : ChangeSpec := { name := "fnBuffers", fn := fun _ => fun
  | [d] => { results := [.lit (.bool true)], args := [d] }
  | _ => none }
def fnBuffersRow : OpenClaim := { program := "ytlbakbachcpifaa", sum := "8a2ce6a34abef66bb40ccb63a97e5206c796f8366a0b27af5e3cded9d9a7dcb3", func := "loop.example/g03207/laws.FnBuffers", spec := "fnBuffers", recurses := true, apart := false }
def FnBuffersSaid : Prop := fnBuffersRow.holds Try.pinned (OpenSpec.ofChange fnBuffersSpec)

/-- ITS FALSE NEIGHBOUR: 'it returns false'. Refute it at one input. -/
def fnBuffersWrong : ChangeSpec := { name := "fnBuffers", fn := fun _ => fun
  | [d] => { results := [.lit (.bool false)], args := [d] }
  | _ => none }
def FnBuffersWrongFalsely : Prop := fnBuffersRow.holds Try.pinned (OpenSpec.ofChange fnBuffersWrong)

/-- 'laws.FnExactBufferSort': WHATEVER THE INPUT: true; the input reads as it did. -/
def fnExactBufferSortSpec : ChangeSpec := { name := "fnExactBufferSort", fn := fun _ => fun
  | [d1, d2] => { results := [.lit (.bool true)], args := [d1, d2] }
  | _ => none }
def fnExactBufferSortRow : OpenClaim := { program := "ytlbakbachcpifaa", sum := "8a2ce6a34abef66bb40ccb63a97e5206c796f8366a0b27af5e3cded9d9a7dcb3", func := "loop.example/g03207/laws.FnExactBufferSort", spec := "fnExactBufferSort", recurses := true, apart := false }
def FnExactBufferSortSaid : Prop := fnExactBufferSortRow.holds Try.pinned (OpenSpec.ofChange fnExactBufferSortSpec)

/-- ITS FALSE NEIGHBOUR: 'it returns false'. Refute it at one input. -/
def fnExactBufferSortWrong : ChangeSpec := { name := "fnExactBufferSort", fn := fun _ => fun
  | [d1, d2] => { results := [.lit (.bool false)], args := [d1, d2] }
  | _ => none }
def FnExactBufferSortWrongFalsely : Prop := fnExactBufferSortRow.holds Try.pinned (OpenSpec.ofChange fnExactBufferSortWrong)

/-- 'laws.FnExactDistinctBuffer': WHATEVER THE INPUT: true; the input reads as it did. -/
def fnExactDistinctBufferSpec : ChangeSpec := { name := "fnExactDistinctBuffer", fn := fun _ => fun
  | [d1, d2] => { results := [.lit (.bool true)], args := [d1, d2] }
  | _ => none }
def fnExactDistinctBufferRow : OpenClaim := { program := "ytlbakbachcpifaa", sum := "8a2ce6a34abef66bb40ccb63a97e5206c796f8366a0b27af5e3cded9d9a7dcb3", func := "loop.example/g03207/laws.FnExactDistinctBuffer", spec := "fnExactDistinctBuffer", recurses := true, apart := false }
def FnExactDistinctBufferSaid : Prop := fnExactDistinctBufferRow.holds Try.pinned (OpenSpec.ofChange fnExactDistinctBufferSpec)

/-- ITS FALSE NEIGHBOUR: 'it returns false'. Refute it at one input. -/
def fnExactDistinctBufferWrong : ChangeSpec := { name := "fnExactDistinctBuffer", fn := fun _ => fun
  | [d1, d2] => { results := [.lit (.bool false)], args := [d1, d2] }
  | _ => none }
def FnExactDistinctBufferWrongFalsely : Prop := fnExactDistinctBufferRow.holds Try.pinned (OpenSpec.ofChange fnExactDistinctBufferWrong)

/-- 'laws.FnExactBufferNeeded': WHATEVER THE INPUT: true; the input reads as it did. -/
def fnExactBufferNeededSpec : ChangeSpec := { name := "fnExactBufferNeeded", fn := fun _ => fun
  | [d] => { results := [.lit (.bool true)], args := [d] }
  | _ => none }
def fnExactBufferNeededRow : OpenClaim := { program := "ytlbakbachcpifaa", sum := "8a2ce6a34abef66bb40ccb63a97e5206c796f8366a0b27af5e3cded9d9a7dcb3", func := "loop.example/g03207/laws.FnExactBufferNeeded", spec := "fnExactBufferNeeded", recurses := true, apart := false }
def FnExactBufferNeededSaid : Prop := fnExactBufferNeededRow.holds Try.pinned (OpenSpec.ofChange fnExactBufferNeededSpec)

/-- ITS FALSE NEIGHBOUR: 'it returns false'. Refute it at one input. -/
def fnExactBufferNeededWrong : ChangeSpec := { name := "fnExactBufferNeeded", fn := fun _ => fun
  | [d] => { results := [.lit (.bool false)], args := [d] }
  | _ => none }
def FnExactBufferNeededWrongFalsely : Prop := fnExactBufferNeededRow.holds Try.pinned (OpenSpec.ofChange fnExactBufferNeededWrong)

/-- 'laws.FnExactTwoBuffers': WHATEVER THE INPUT: true; the input reads as it did. -/
def fnExactTwoBuffersSpec : ChangeSpec := { name := "fnExactTwoBuffers", fn := fun _ => fun
  | [d1, d2, d3] => { results := [.lit (.bool true)], args := [d1, d2, d3] }
  | _ => none }
def fnExactTwoBuffersRow : OpenClaim := { program := "ytlbakbachcpifaa", sum := "8a2ce6a34abef66bb40ccb63a97e5206c796f8366a0b27af5e3cded9d9a7dcb3", func := "loop.example/g03207/laws.FnExactTwoBuffers", spec := "fnExactTwoBuffers", recurses := true, apart := false }
def FnExactTwoBuffersSaid : Prop := fnExactTwoBuffersRow.holds Try.pinned (OpenSpec.ofChange fnExactTwoBuffersSpec)

/-- ITS FALSE NEIGHBOUR: 'it returns false'. Refute it at one input. -/
def fnExactTwoBuffersWrong : ChangeSpec := { name := "fnExactTwoBuffers", fn := fun _ => fun
  | [d1, d2, d3] => { results := [.lit (.bool false)], args := [d1, d2, d3] }
  | _ => none }
def FnExactTwoBuffersWrongFalsely : Prop := fnExactTwoBuffersRow.holds Try.pinned (OpenSpec.ofChange fnExactTwoBuffersWrong)

/-- 'laws.FnExactTraceBuffer': WHATEVER THE INPUT: true; the input reads as it did. -/
def fnExactTraceBufferSpec : ChangeSpec := { name := "fnExactTraceBuffer", fn := fun _ => fun
  | [d1, d2] => { results := [.lit (.bool true)], args := [d1, d2] }
  | _ => none }
def fnExactTraceBufferRow : OpenClaim := { program := "ytlbakbachcpifaa", sum := "8a2ce6a34abef66bb40ccb63a97e5206c796f8366a0b27af5e3cded9d9a7dcb3", func := "loop.example/g03207/laws.FnExactTraceBuffer", spec := "fnExactTraceBuffer", recurses := true, apart := false }
def FnExactTraceBufferSaid : Prop := fnExactTraceBufferRow.holds Try.pinned (OpenSpec.ofChange fnExactTraceBufferSpec)

/-- ITS FALSE NEIGHBOUR: 'it returns false'. Refute it at one input. -/
def fnExactTraceBufferWrong : ChangeSpec := { name := "fnExactTraceBuffer", fn := fun _ => fun
  | [d1, d2] => { results := [.lit (.bool false)], args := [d1, d2] }
  | _ => none }
def FnExactTraceBufferWrongFalsely : Prop := fnExactTraceBufferRow.holds Try.pinned (OpenSpec.ofChange fnExactTraceBufferWrong)

/- THE SECOND FORM. 'bulk': how many values and letters a reading holds, each counted each time it is reached (what is shared counts as often as it is met; a slice's spare places count too). A statement '..UptoSaid' is the law's where the arguments, and the package variables that the reading takes, are together of bulk at most 1048576: NARROWER than '..Said'. Prove '..Said' where nothing that the law and all that it calls make is longer than what came in: it says more and counts as full. Else prove '..UptoSaid'. A law counts once. -/
mutual
def uptoBulk {H : Type} : DataW H → Nat
  | .lit (.string bytes) => bytes.length + 1
  | .lit _ => 1
  | .nil => 1
  | .ptr d => uptoBulk d + 1
  | .slice elems spare => uptoBulkAll elems + uptoBulkAll spare + 1
  | .agg parts => uptoBulkAll parts + 1
  | .iface _ d => uptoBulk d + 1
  | .map entries => uptoBulkEntries entries + 1
  | .held _ => 1
def uptoBulkAll {H : Type} : List (DataW H) → Nat
  | [] => 0
  | d :: r => uptoBulk d + uptoBulkAll r
def uptoBulkEntries {H : Type} : List (Lit × DataW H) → Nat
  | [] => 0
  | x :: r => uptoBulkEntry x + uptoBulkEntries r
def uptoBulkEntry {H : Type} : Lit × DataW H → Nat
  | (.string bytes, d) => bytes.length + uptoBulk d + 1
  | (_, d) => uptoBulk d + 1
 end
def uptoSmall : (H : Type) → List (DataW H) → Bool := fun _ ds => decide (uptoBulkAll ds ≤ 1048576)
def OpenSpec.upto (s : _root_.Go.ChangeSpec) : _root_.Go.OpenSpec := { _root_.Go.OpenSpec.ofChange s with cond := some uptoSmall }

/-- 'laws.FnExactLateOf', WHERE WHAT IT READS IS OF BULK AT MOST 1048576: true; the input reads as it did. -/
def fnExactLateOfUptoRow : OpenClaim := { program := "ytlbakbachcpifaa", sum := "8a2ce6a34abef66bb40ccb63a97e5206c796f8366a0b27af5e3cded9d9a7dcb3", func := "loop.example/g03207/laws.FnExactLateOf", spec := "fnExactLateOf", apart := false, narrowed := true }
def FnExactLateOfUptoSaid : Prop := fnExactLateOfUptoRow.holds Try.pinned (OpenSpec.upto fnExactLateOfSpec)

/-- 'laws.FnLate', WHERE WHAT IT READS IS OF BULK AT MOST 1048576: true; the input reads as it did. -/
def fnLateUptoRow : OpenClaim := { program := "ytlbakbachcpifaa", sum := "8a2ce6a34abef66bb40ccb63a97e5206c796f8366a0b27af5e3cded9d9a7dcb3", func := "loop.example/g03207/laws.FnLate", spec := "fnLate", unfollowed := true, recurses := true, apart := false, narrowed := true }
def FnLateUptoSaid : Prop := fnLateUptoRow.holds Try.pinned (OpenSpec.upto fnLateSpec)

/-- 'laws.FnExactMostWaiting', WHERE WHAT IT READS IS OF BULK AT MOST 1048576: true; the input reads as it did. -/
def fnExactMostWaitingUptoRow : OpenClaim := { program := "ytlbakbachcpifaa", sum := "8a2ce6a34abef66bb40ccb63a97e5206c796f8366a0b27af5e3cded9d9a7dcb3", func := "loop.example/g03207/laws.FnExactMostWaiting", spec := "fnExactMostWaiting", unfollowed := true, recurses := true, apart := false, narrowed := true }
def FnExactMostWaitingUptoSaid : Prop := fnExactMostWaitingUptoRow.holds Try.pinned (OpenSpec.upto fnExactMostWaitingSpec)

/-- 'laws.FnExactDelaysOf', WHERE WHAT IT READS IS OF BULK AT MOST 1048576: true; the input reads as it did. -/
def fnExactDelaysOfUptoRow : OpenClaim := { program := "ytlbakbachcpifaa", sum := "8a2ce6a34abef66bb40ccb63a97e5206c796f8366a0b27af5e3cded9d9a7dcb3", func := "loop.example/g03207/laws.FnExactDelaysOf", spec := "fnExactDelaysOf", unfollowed := true, recurses := true, apart := false, narrowed := true }
def FnExactDelaysOfUptoSaid : Prop := fnExactDelaysOfUptoRow.holds Try.pinned (OpenSpec.upto fnExactDelaysOfSpec)

/-- 'laws.FnExactEmitOrder', WHERE WHAT IT READS IS OF BULK AT MOST 1048576: true; the input reads as it did. -/
def fnExactEmitOrderUptoRow : OpenClaim := { program := "ytlbakbachcpifaa", sum := "8a2ce6a34abef66bb40ccb63a97e5206c796f8366a0b27af5e3cded9d9a7dcb3", func := "loop.example/g03207/laws.FnExactEmitOrder", spec := "fnExactEmitOrder", unfollowed := true, recurses := true, apart := false, narrowed := true }
def FnExactEmitOrderUptoSaid : Prop := fnExactEmitOrderUptoRow.holds Try.pinned (OpenSpec.upto fnExactEmitOrderSpec)

/-- 'laws.FnBuffers', WHERE WHAT IT READS IS OF BULK AT MOST 1048576: true; the input reads as it did. -/
def fnBuffersUptoRow : OpenClaim := { program := "ytlbakbachcpifaa", sum := "8a2ce6a34abef66bb40ccb63a97e5206c796f8366a0b27af5e3cded9d9a7dcb3", func := "loop.example/g03207/laws.FnBuffers", spec := "fnBuffers", recurses := true, apart := false, narrowed := true }
def FnBuffersUptoSaid : Prop := fnBuffersUptoRow.holds Try.pinned (OpenSpec.upto fnBuffersSpec)

/-- 'laws.FnExactBufferSort', WHERE WHAT IT READS IS OF BULK AT MOST 1048576: true; the input reads as it did. -/
def fnExactBufferSortUptoRow : OpenClaim := { program := "ytlbakbachcpifaa", sum := "8a2ce6a34abef66bb40ccb63a97e5206c796f8366a0b27af5e3cded9d9a7dcb3", func := "loop.example/g03207/laws.FnExactBufferSort", spec := "fnExactBufferSort", recurses := true, apart := false, narrowed := true }
def FnExactBufferSortUptoSaid : Prop := fnExactBufferSortUptoRow.holds Try.pinned (OpenSpec.upto fnExactBufferSortSpec)

/-- 'laws.FnExactDistinctBuffer', WHERE WHAT IT READS IS OF BULK AT MOST 1048576: true; the input reads as it did. -/
def fnExactDistinctBufferUptoRow : OpenClaim := { program := "ytlbakbachcpifaa", sum := "8a2ce6a34abef66bb40ccb63a97e5206c796f8366a0b27af5e3cded9d9a7dcb3", func := "loop.example/g03207/laws.FnExactDistinctBuffer", spec := "fnExactDistinctBuffer", recurses := true, apart := false, narrowed := true }
def FnExactDistinctBufferUptoSaid : Prop := fnExactDistinctBufferUptoRow.holds Try.pinned (OpenSpec.upto fnExactDistinctBufferSpec)

/-- 'laws.FnExactBufferNeeded', WHERE WHAT IT READS IS OF BULK AT MOST 1048576: true; the input reads as it did. -/
def fnExactBufferNeededUptoRow : OpenClaim := { program := "ytlbakbachcpifaa", sum := "8a2ce6a34abef66bb40ccb63a97e5206c796f8366a0b27af5e3cded9d9a7dcb3", func := "loop.example/g03207/laws.FnExactBufferNeeded", spec := "fnExactBufferNeeded", recurses := true, apart := false, narrowed := true }
def FnExactBufferNeededUptoSaid : Prop := fnExactBufferNeededUptoRow.holds Try.pinned (OpenSpec.upto fnExactBufferNeededSpec)

/-- 'laws.FnExactTwoBuffers', WHERE WHAT IT READS IS OF BULK AT MOST 1048576: true; the input reads as it did. -/
def fnExactTwoBuffersUptoRow : OpenClaim := { program := "ytlbakbachcpifaa", sum := "8a2ce6a34abef66bb40ccb63a97e5206c796f8366a0b27af5e3cded9d9a7dcb3", func := "loop.example/g03207/laws.FnExactTwoBuffers", spec := "fnExactTwoBuffers", recurses := true, apart := false, narrowed := true }
def FnExactTwoBuffersUptoSaid : Prop := fnExactTwoBuffersUptoRow.holds Try.pinned (OpenSpec.upto fnExactTwoBuffersSpec)

/-- 'laws.FnExactTraceBuffer', WHERE WHAT IT READS IS OF BULK AT MOST 1048576: true; the input reads as it did. -/
def fnExactTraceBufferUptoRow : OpenClaim := { program := "ytlbakbachcpifaa", sum := "8a2ce6a34abef66bb40ccb63a97e5206c796f8366a0b27af5e3cded9d9a7dcb3", func := "loop.example/g03207/laws.FnExactTraceBuffer", spec := "fnExactTraceBuffer", recurses := true, apart := false, narrowed := true }
def FnExactTraceBufferUptoSaid : Prop := fnExactTraceBufferUptoRow.holds Try.pinned (OpenSpec.upto fnExactTraceBufferSpec)

end Rows
end Go.Proofs.Ytlbakbachcpifaa
