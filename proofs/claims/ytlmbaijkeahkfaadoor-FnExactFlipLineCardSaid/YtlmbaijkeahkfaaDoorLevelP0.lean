/- A row goes onto a slice of slices. -/
import Derived.Test.YtlmbaijkeahkfaaDoorApp
namespace Go.Proofs.YtlmbaijkeahkfaaDoor
open Go.RowKit

theorem Own2.app {w w' : World} {EO E B T : Nat} {v v' : Value} {rows rows' : List Value} {xss' : List (List Int)} (hr : RowsOwn w E B T rows' xss') (ho : Own w EO B v rows) (hne : EO ≠ E) (hg : w.grownBy w' v.ownBlock) (ho' : Own w' EO B v' rows') (hT : T ≤ w'.heap.size) : Own2 w' EO E B w'.heap.size v' xss' :=
  ⟨rows', ho', fun k hk => (ho'.lt k hk).2, (hr.outer hg ho hne).mono (Nat.le_refl _) hT⟩

end Go.Proofs.YtlmbaijkeahkfaaDoor
