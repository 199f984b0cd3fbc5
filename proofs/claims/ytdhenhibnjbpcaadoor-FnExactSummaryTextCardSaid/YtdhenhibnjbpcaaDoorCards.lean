/-
  DERIVED. GIVEN WITH THE SEED: THE CARDS: each row of YtdhenhibnjbpcaaDoorRows.lean that lists a variable, with what it lists TIED to the program's text (the seventh form; the later family's looks); each row that meets fmt, with fmt's text TOLD by the authors' own Lean function (tested against real Go, not proved from fmt's source: count such statements apart). THE CARD IS WHAT COUNTS. Prove the row's statement (the work); the ties are given (YtdhenhibnjbpcaaDoorTie.lean); close each card by the builder's one call (the guide's Derived/Test/ToyasCard.lean, 'card_holds'). Laid BY PROGRAM, IN A SANDBOX (cutbox-door.mjs). By AI agents, Wed Nov 11 2026. No macro, syntax, notation, axiom, sorry.
-/
import Derived.Test.YtdhenhibnjbpcaaDoorRows
import GoSem.ClaimSeven
namespace Go.Proofs.YtdhenhibnjbpcaaDoor
namespace Rows

/-- THE TIED CARD OF 'laws.FnExactDueText'. -/
def fnExactDueTextCard : Claim7 := { stood := { row := fnExactDueTextRow, standIns := [], harness := (true, "4557d013a67a1c4dded582c9d32158168ee0d67102b8969d4759fcd7513d6ff1"), looks := false }, kinds := [], alts := [], laidByText := true, laidKinds := [.data, .data, .data], laidTests := true, laidLooks := .later }
def FnExactDueTextCardSaid : Prop := Claim7.holds Tryd.pinned (.plain (OpenSpec.ofChange fnExactDueTextSpec)) fnExactDueTextCard

/-- THE TIED CARD OF 'laws.FnExactSummaryText'. -/
def fnExactSummaryTextCard : Claim7 := { stood := { row := fnExactSummaryTextRow, standIns := [], harness := (true, "4557d013a67a1c4dded582c9d32158168ee0d67102b8969d4759fcd7513d6ff1"), looks := false }, kinds := [], alts := [], laidByText := true, laidKinds := [.data, .data, .data], laidTests := true, laidLooks := .later }
def FnExactSummaryTextCardSaid : Prop := Claim7.holds Tryd.pinned (.plain (OpenSpec.ofChange fnExactSummaryTextSpec)) fnExactSummaryTextCard

/-- THE SECOND FORM's CARD OF 'laws.FnExactDueText'. -/
def fnExactDueTextUptoCard : Claim7 := { stood := { row := fnExactDueTextUptoRow, standIns := [], harness := (true, "4557d013a67a1c4dded582c9d32158168ee0d67102b8969d4759fcd7513d6ff1"), looks := false }, kinds := [], alts := [], laidByText := true, laidKinds := [.data, .data, .data], laidTests := true, laidLooks := .later }
def FnExactDueTextUptoCardSaid : Prop := Claim7.holds Tryd.pinned (.plain (OpenSpec.upto fnExactDueTextSpec)) fnExactDueTextUptoCard

/-- THE SECOND FORM's CARD OF 'laws.FnExactSummaryText'. -/
def fnExactSummaryTextUptoCard : Claim7 := { stood := { row := fnExactSummaryTextUptoRow, standIns := [], harness := (true, "4557d013a67a1c4dded582c9d32158168ee0d67102b8969d4759fcd7513d6ff1"), looks := false }, kinds := [], alts := [], laidByText := true, laidKinds := [.data, .data, .data], laidTests := true, laidLooks := .later }
def FnExactSummaryTextUptoCardSaid : Prop := Claim7.holds Tryd.pinned (.plain (OpenSpec.upto fnExactSummaryTextSpec)) fnExactSummaryTextUptoCard
end Rows
end Go.Proofs.YtdhenhibnjbpcaaDoor
