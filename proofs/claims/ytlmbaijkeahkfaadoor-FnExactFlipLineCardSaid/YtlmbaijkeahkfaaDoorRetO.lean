/- A result of two values: a new slice and a test. -/
import Derived.Test.YtlmbaijkeahkfaaDoorBase
namespace Go.Proofs.YtlmbaijkeahkfaaDoor
open Go.RowKit

def RetOwnB (E : Nat) (xs : List Value) (b : Bool) (w : World) (e : Ending) (w' : World) : Prop :=
  ∃ v, e = .returned (.tuple #[v, .bool b]) ∧ Own w' E w.heap.size v xs ∧ Below w.heap.size w w'

end Go.Proofs.YtlmbaijkeahkfaaDoor
