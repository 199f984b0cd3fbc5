/-
  DERIVED. GIVEN WITH THE SEED: THE CARDS: each row of YtapfljhihbodkaaDoorRows.lean that lists a variable, with what it lists TIED to the program's text (the seventh form; the later family's looks); each row that meets fmt, with fmt's text TOLD by the authors' own Lean function (tested against real Go, not proved from fmt's source: count such statements apart). THE CARD IS WHAT COUNTS. Prove the row's statement (the work); the ties are given (YtapfljhihbodkaaDoorTie.lean); close each card by the builder's one call (the guide's Derived/Test/ToyasCard.lean, 'card_holds'). Laid BY PROGRAM, IN A SANDBOX (cutbox-door.mjs). By AI agents, Wed Nov 11 2026. No macro, syntax, notation, axiom, sorry.
-/
import Derived.Test.YtapfljhihbodkaaDoorRows
import GoSem.ClaimSeven
namespace Go.Proofs.YtapfljhihbodkaaDoor
namespace Rows

/-- THE TIED CARD OF 'laws.FnExactParseDue'. -/
def fnExactParseDueCard : Claim7 := { stood := { row := fnExactParseDueRow, standIns := [], harness := (true, "4541886cae3c3cf35591755c152a5e02a00505efe0abb6a5f7b8766771a6f950"), looks := true }, kinds := [], alts := [], laidByText := true, laidKinds := [.data, .data, .data, .data, .sentinel, .sentinel, .pinned], laidTests := true, laidLooks := .later }
def FnExactParseDueCardSaid : Prop := Claim7.holds Tryd.pinned (.plain (OpenSpec.ofChange fnExactParseDueSpec)) fnExactParseDueCard

/-- THE SECOND FORM's CARD OF 'laws.FnExactParseDue'. -/
def fnExactParseDueUptoCard : Claim7 := { stood := { row := fnExactParseDueUptoRow, standIns := [], harness := (true, "4541886cae3c3cf35591755c152a5e02a00505efe0abb6a5f7b8766771a6f950"), looks := true }, kinds := [], alts := [], laidByText := true, laidKinds := [.data, .data, .data, .data, .sentinel, .sentinel, .pinned], laidTests := true, laidLooks := .later }
def FnExactParseDueUptoCardSaid : Prop := Claim7.holds Tryd.pinned (.plain (OpenSpec.upto fnExactParseDueSpec)) fnExactParseDueUptoCard
end Rows
end Go.Proofs.YtapfljhihbodkaaDoor
