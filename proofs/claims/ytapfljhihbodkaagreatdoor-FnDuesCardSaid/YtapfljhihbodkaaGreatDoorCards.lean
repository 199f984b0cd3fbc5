/-
  DERIVED. GIVEN WITH THE SEED: THE CARDS: each row of YtapfljhihbodkaaGreatDoorRows.lean that lists a variable, with what it lists TIED to the program's text (the seventh form; the later family's looks); each row that meets fmt, with fmt's text TOLD by the authors' own Lean function (tested against real Go, not proved from fmt's source: count such statements apart). THE CARD IS WHAT COUNTS. Prove the row's statement (the work); the ties are given (YtapfljhihbodkaaGreatDoorTie.lean); close each card by the builder's one call (the guide's Derived/Test/ToyasCard.lean, 'card_holds'). Laid BY PROGRAM, IN A SANDBOX (cutbox-door.mjs). By AI agents, Wed Nov 11 2026. No macro, syntax, notation, axiom, sorry.
-/
import Derived.Test.YtapfljhihbodkaaGreatDoorRows
import GoSem.ClaimSeven
namespace Go.Proofs.YtapfljhihbodkaaGreatDoor
namespace Rows

/-- THE TIED CARD OF 'laws.FnDues'. -/
def fnDuesCard : Claim7 := { stood := { row := fnDuesRow, standIns := [], harness := (true, "d6976d7ee860b65dc381c54ff38fa3b3b162a1561100ad14c5904e447aaa3597"), looks := true }, kinds := [], alts := [], laidByText := true, laidKinds := [.data, .data, .data, .data, .sentinel, .sentinel, .pinned], laidTests := true, laidLooks := .later }
def FnDuesCardSaid : Prop := Claim7.holds Tryz.pinned (.plain (OpenSpec.ofChange fnDuesSpec)) fnDuesCard

/-- THE SECOND FORM's CARD OF 'laws.FnDues'. -/
def fnDuesUptoCard : Claim7 := { stood := { row := fnDuesUptoRow, standIns := [], harness := (true, "d6976d7ee860b65dc381c54ff38fa3b3b162a1561100ad14c5904e447aaa3597"), looks := true }, kinds := [], alts := [], laidByText := true, laidKinds := [.data, .data, .data, .data, .sentinel, .sentinel, .pinned], laidTests := true, laidLooks := .later }
def FnDuesUptoCardSaid : Prop := Claim7.holds Tryz.pinned (.plain (OpenSpec.upto fnDuesSpec)) fnDuesUptoCard
end Rows
end Go.Proofs.YtapfljhihbodkaaGreatDoor
