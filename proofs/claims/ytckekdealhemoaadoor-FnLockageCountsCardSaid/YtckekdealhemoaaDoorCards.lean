/-
  DERIVED. GIVEN WITH THE SEED: THE CARDS: each row of YtckekdealhemoaaDoorRows.lean that lists a variable, with what it lists TIED to the program's text (the seventh form; the later family's looks); each row that meets fmt, with fmt's text TOLD by the authors' own Lean function (tested against real Go, not proved from fmt's source: count such statements apart). THE CARD IS WHAT COUNTS. Prove the row's statement (the work); the ties are given (YtckekdealhemoaaDoorTie.lean); close each card by the builder's one call (the guide's Derived/Test/ToyasCard.lean, 'card_holds'). Laid BY PROGRAM, IN A SANDBOX (cutbox-door.mjs). By AI agents, Wed Nov 11 2026. No macro, syntax, notation, axiom, sorry.
-/
import Derived.Test.YtckekdealhemoaaDoorRows
import GoSem.ClaimSeven
namespace Go.Proofs.YtckekdealhemoaaDoor
namespace Rows

/-- THE TIED CARD OF 'laws.FnLockageCounts'. -/
def fnLockageCountsCard : Claim7 := { stood := { row := fnLockageCountsRow, standIns := [], harness := (true, "b6fdd1f8a1548161c640a41439e6b51f49d8704a83623523fce5735630e374da"), looks := false }, kinds := [], alts := [], laidByText := true, laidKinds := [.data, .data, .data], laidTests := true, laidLooks := .later }
def FnLockageCountsCardSaid : Prop := Claim7.holds Tryd.pinned (.plain (OpenSpec.ofChange fnLockageCountsSpec)) fnLockageCountsCard

/-- THE SECOND FORM's CARD OF 'laws.FnLockageCounts'. -/
def fnLockageCountsUptoCard : Claim7 := { stood := { row := fnLockageCountsUptoRow, standIns := [], harness := (true, "b6fdd1f8a1548161c640a41439e6b51f49d8704a83623523fce5735630e374da"), looks := false }, kinds := [], alts := [], laidByText := true, laidKinds := [.data, .data, .data], laidTests := true, laidLooks := .later }
def FnLockageCountsUptoCardSaid : Prop := Claim7.holds Tryd.pinned (.plain (OpenSpec.upto fnLockageCountsSpec)) fnLockageCountsUptoCard
end Rows
end Go.Proofs.YtckekdealhemoaaDoor
