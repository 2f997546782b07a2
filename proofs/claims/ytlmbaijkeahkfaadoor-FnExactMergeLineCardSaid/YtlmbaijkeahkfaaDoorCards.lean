/-
  DERIVED. GIVEN WITH THE SEED: THE CARDS: each row of YtlmbaijkeahkfaaDoorRows.lean that lists a variable, with what it lists TIED to the program's text (the seventh form; the later family's looks); each row that meets fmt, with fmt's text TOLD by the authors' own Lean function (tested against real Go, not proved from fmt's source: count such statements apart). THE CARD IS WHAT COUNTS. Prove the row's statement (the work); the ties are given (YtlmbaijkeahkfaaDoorTie.lean); close each card by the builder's one call (the guide's Derived/Test/ToyasCard.lean, 'card_holds'). Laid BY PROGRAM, IN A SANDBOX (cutbox-door.mjs). By AI agents, Wed Nov 11 2026. No macro, syntax, notation, axiom, sorry.
-/
import Derived.Test.YtlmbaijkeahkfaaDoorRows
import GoSem.ClaimSeven
namespace Go.Proofs.YtlmbaijkeahkfaaDoor
namespace Rows

/-- THE TIED CARD OF 'laws.FnExactMergeLine'. -/
def fnExactMergeLineCard : Claim7 := { stood := { row := fnExactMergeLineRow, standIns := [], harness := (true, "44983de22072a165ef88a92bdd95802f9725f844efd91b0491fec58d7e00b50b"), looks := false }, kinds := [], alts := [], laidByText := true, laidKinds := [.data, .data, .data], laidTests := true, laidLooks := .later }
def FnExactMergeLineCardSaid : Prop := Claim7.holds Tryd.pinned (.plain (OpenSpec.ofChange fnExactMergeLineSpec)) fnExactMergeLineCard

/-- THE TIED CARD OF 'laws.FnExactFlipLine'. -/
def fnExactFlipLineCard : Claim7 := { stood := { row := fnExactFlipLineRow, standIns := [], harness := (true, "44983de22072a165ef88a92bdd95802f9725f844efd91b0491fec58d7e00b50b"), looks := false }, kinds := [], alts := [], laidByText := true, laidKinds := [.data, .data, .data], laidTests := true, laidLooks := .later }
def FnExactFlipLineCardSaid : Prop := Claim7.holds Tryd.pinned (.plain (OpenSpec.ofChange fnExactFlipLineSpec)) fnExactFlipLineCard

/-- THE TIED CARD OF 'laws.FnExactNetworkLine'. -/
def fnExactNetworkLineCard : Claim7 := { stood := { row := fnExactNetworkLineRow, standIns := [], harness := (true, "44983de22072a165ef88a92bdd95802f9725f844efd91b0491fec58d7e00b50b"), looks := false }, kinds := [], alts := [], laidByText := true, laidKinds := [.data, .data, .data], laidTests := true, laidLooks := .later }
def FnExactNetworkLineCardSaid : Prop := Claim7.holds Tryd.pinned (.plain (OpenSpec.ofChange fnExactNetworkLineSpec)) fnExactNetworkLineCard

/-- THE TIED CARD OF 'laws.FnExactFabricLine'. -/
def fnExactFabricLineCard : Claim7 := { stood := { row := fnExactFabricLineRow, standIns := [], harness := (true, "44983de22072a165ef88a92bdd95802f9725f844efd91b0491fec58d7e00b50b"), looks := false }, kinds := [], alts := [], laidByText := true, laidKinds := [.data, .data, .data], laidTests := true, laidLooks := .later }
def FnExactFabricLineCardSaid : Prop := Claim7.holds Tryd.pinned (.plain (OpenSpec.ofChange fnExactFabricLineSpec)) fnExactFabricLineCard

/-- THE TIED CARD OF 'laws.FnExactTestLine'. -/
def fnExactTestLineCard : Claim7 := { stood := { row := fnExactTestLineRow, standIns := [], harness := (true, "44983de22072a165ef88a92bdd95802f9725f844efd91b0491fec58d7e00b50b"), looks := false }, kinds := [], alts := [], laidByText := true, laidKinds := [.data, .data, .data], laidTests := true, laidLooks := .later }
def FnExactTestLineCardSaid : Prop := Claim7.holds Tryd.pinned (.plain (OpenSpec.ofChange fnExactTestLineSpec)) fnExactTestLineCard

/-- THE TIED CARD OF 'laws.FnExactOrderLine'. -/
def fnExactOrderLineCard : Claim7 := { stood := { row := fnExactOrderLineRow, standIns := [], harness := (true, "44983de22072a165ef88a92bdd95802f9725f844efd91b0491fec58d7e00b50b"), looks := false }, kinds := [], alts := [], laidByText := true, laidKinds := [.data, .data, .data], laidTests := true, laidLooks := .later }
def FnExactOrderLineCardSaid : Prop := Claim7.holds Tryd.pinned (.plain (OpenSpec.ofChange fnExactOrderLineSpec)) fnExactOrderLineCard

/-- THE SECOND FORM's CARD OF 'laws.FnExactMergeLine'. -/
def fnExactMergeLineUptoCard : Claim7 := { stood := { row := fnExactMergeLineUptoRow, standIns := [], harness := (true, "44983de22072a165ef88a92bdd95802f9725f844efd91b0491fec58d7e00b50b"), looks := false }, kinds := [], alts := [], laidByText := true, laidKinds := [.data, .data, .data], laidTests := true, laidLooks := .later }
def FnExactMergeLineUptoCardSaid : Prop := Claim7.holds Tryd.pinned (.plain (OpenSpec.upto fnExactMergeLineSpec)) fnExactMergeLineUptoCard

/-- THE SECOND FORM's CARD OF 'laws.FnExactFlipLine'. -/
def fnExactFlipLineUptoCard : Claim7 := { stood := { row := fnExactFlipLineUptoRow, standIns := [], harness := (true, "44983de22072a165ef88a92bdd95802f9725f844efd91b0491fec58d7e00b50b"), looks := false }, kinds := [], alts := [], laidByText := true, laidKinds := [.data, .data, .data], laidTests := true, laidLooks := .later }
def FnExactFlipLineUptoCardSaid : Prop := Claim7.holds Tryd.pinned (.plain (OpenSpec.upto fnExactFlipLineSpec)) fnExactFlipLineUptoCard

/-- THE SECOND FORM's CARD OF 'laws.FnExactNetworkLine'. -/
def fnExactNetworkLineUptoCard : Claim7 := { stood := { row := fnExactNetworkLineUptoRow, standIns := [], harness := (true, "44983de22072a165ef88a92bdd95802f9725f844efd91b0491fec58d7e00b50b"), looks := false }, kinds := [], alts := [], laidByText := true, laidKinds := [.data, .data, .data], laidTests := true, laidLooks := .later }
def FnExactNetworkLineUptoCardSaid : Prop := Claim7.holds Tryd.pinned (.plain (OpenSpec.upto fnExactNetworkLineSpec)) fnExactNetworkLineUptoCard

/-- THE SECOND FORM's CARD OF 'laws.FnExactFabricLine'. -/
def fnExactFabricLineUptoCard : Claim7 := { stood := { row := fnExactFabricLineUptoRow, standIns := [], harness := (true, "44983de22072a165ef88a92bdd95802f9725f844efd91b0491fec58d7e00b50b"), looks := false }, kinds := [], alts := [], laidByText := true, laidKinds := [.data, .data, .data], laidTests := true, laidLooks := .later }
def FnExactFabricLineUptoCardSaid : Prop := Claim7.holds Tryd.pinned (.plain (OpenSpec.upto fnExactFabricLineSpec)) fnExactFabricLineUptoCard

/-- THE SECOND FORM's CARD OF 'laws.FnExactTestLine'. -/
def fnExactTestLineUptoCard : Claim7 := { stood := { row := fnExactTestLineUptoRow, standIns := [], harness := (true, "44983de22072a165ef88a92bdd95802f9725f844efd91b0491fec58d7e00b50b"), looks := false }, kinds := [], alts := [], laidByText := true, laidKinds := [.data, .data, .data], laidTests := true, laidLooks := .later }
def FnExactTestLineUptoCardSaid : Prop := Claim7.holds Tryd.pinned (.plain (OpenSpec.upto fnExactTestLineSpec)) fnExactTestLineUptoCard

/-- THE SECOND FORM's CARD OF 'laws.FnExactOrderLine'. -/
def fnExactOrderLineUptoCard : Claim7 := { stood := { row := fnExactOrderLineUptoRow, standIns := [], harness := (true, "44983de22072a165ef88a92bdd95802f9725f844efd91b0491fec58d7e00b50b"), looks := false }, kinds := [], alts := [], laidByText := true, laidKinds := [.data, .data, .data], laidTests := true, laidLooks := .later }
def FnExactOrderLineUptoCardSaid : Prop := Claim7.holds Tryd.pinned (.plain (OpenSpec.upto fnExactOrderLineSpec)) fnExactOrderLineUptoCard
end Rows
end Go.Proofs.YtlmbaijkeahkfaaDoor
