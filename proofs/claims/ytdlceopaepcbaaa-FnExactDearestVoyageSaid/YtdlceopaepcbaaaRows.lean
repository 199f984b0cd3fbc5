/-
  No cell of these rows narrows 'for every input' (looked for: loops, veiled, ifaces, maps, wideKeys, modest, calm, conditions, laid).
  DERIVED. THE GIVEN ROWS OF THIS SEAT. 9 by the template 'for every input the law returns true; each argument reads behind the call as it read before'; 0 by the template 'total and deterministic' (their statements: YtdlceopaepcbaaaTotals.lean).
  GIVEN WITH THE SEED: the statements are not yours to turn. If you find one false, say at which input.
  Laid BY PROGRAM, IN A SANDBOX (cutbox-rows.mjs): the forced cells as the released guide's own fill.sh prints them over the translation 5533b1844b0e679e… (all of the seat's roots in one cut). By AI agents, Wed Nov 11 2026. No macro, syntax, notation, axiom, sorry.
-/
import Derived.Test.YtdlceopaepcbaaaChecked
import GoSem.Claim
import GoSem.ClaimJoined
import GoSem.ClaimMapViews
import Derived.JoinedTies
import Derived.KernelRfl
namespace Go.Proofs.Ytdlceopaepcbaaa
/- THE CELL 'sum', in the pinned program and in every row, IS THE sha256 OF THE DUMP (.gsa) THAT YtdlceopaepcbaaaProg.lean LOADS. Nothing in Lean hashes anything: it is a label: what it is worth is what the hold of that sum in a sandbox is worth. -/
noncomputable def Try.pinned : Pinned := { name := "ytdlceopaepcbaaa", sum := "5533b1844b0e679e230919c7d28a2e0b9a87ecec3b6629df75317a8d080e846c", checked := Try.checked }
namespace Rows
def none {H : Type} : Left H := { results := [], args := [] }

/-- 'laws.FnExactIsVoyage': WHATEVER THE INPUT: true; the input reads as it did. -/
def fnExactIsVoyageSpec : ChangeSpec := { name := "fnExactIsVoyage", fn := fun _ => fun
  | [d] => { results := [.lit (.bool true)], args := [d] }
  | _ => none }
def fnExactIsVoyageRow : OpenClaim := { program := "ytdlceopaepcbaaa", sum := "5533b1844b0e679e230919c7d28a2e0b9a87ecec3b6629df75317a8d080e846c", func := "loop.example/g00924/laws.FnExactIsVoyage", spec := "fnExactIsVoyage", apart := false }
def FnExactIsVoyageSaid : Prop := fnExactIsVoyageRow.holds Try.pinned (OpenSpec.ofChange fnExactIsVoyageSpec)

/-- ITS FALSE NEIGHBOUR: 'it returns false'. Refute it at one input. -/
def fnExactIsVoyageWrong : ChangeSpec := { name := "fnExactIsVoyage", fn := fun _ => fun
  | [d] => { results := [.lit (.bool false)], args := [d] }
  | _ => none }
def FnExactIsVoyageWrongFalsely : Prop := fnExactIsVoyageRow.holds Try.pinned (OpenSpec.ofChange fnExactIsVoyageWrong)

/-- 'laws.FnExactIsTariff': WHATEVER THE INPUT: true; the input reads as it did. -/
def fnExactIsTariffSpec : ChangeSpec := { name := "fnExactIsTariff", fn := fun _ => fun
  | [d] => { results := [.lit (.bool true)], args := [d] }
  | _ => none }
def fnExactIsTariffRow : OpenClaim := { program := "ytdlceopaepcbaaa", sum := "5533b1844b0e679e230919c7d28a2e0b9a87ecec3b6629df75317a8d080e846c", func := "loop.example/g00924/laws.FnExactIsTariff", spec := "fnExactIsTariff", unfollowed := true, recurses := true, apart := false }
def FnExactIsTariffSaid : Prop := fnExactIsTariffRow.holds Try.pinned (OpenSpec.ofChange fnExactIsTariffSpec)

/-- ITS FALSE NEIGHBOUR: 'it returns false'. Refute it at one input. -/
def fnExactIsTariffWrong : ChangeSpec := { name := "fnExactIsTariff", fn := fun _ => fun
  | [d] => { results := [.lit (.bool false)], args := [d] }
  | _ => none }
def FnExactIsTariffWrongFalsely : Prop := fnExactIsTariffRow.holds Try.pinned (OpenSpec.ofChange fnExactIsTariffWrong)

/-- 'laws.FnExactWayCents': WHATEVER THE INPUT: true; the input reads as it did. -/
def fnExactWayCentsSpec : ChangeSpec := { name := "fnExactWayCents", fn := fun _ => fun
  | [d1, d2] => { results := [.lit (.bool true)], args := [d1, d2] }
  | _ => none }
def fnExactWayCentsRow : OpenClaim := { program := "ytdlceopaepcbaaa", sum := "5533b1844b0e679e230919c7d28a2e0b9a87ecec3b6629df75317a8d080e846c", func := "loop.example/g00924/laws.FnExactWayCents", spec := "fnExactWayCents", unfollowed := true, recurses := true, apart := false }
def FnExactWayCentsSaid : Prop := fnExactWayCentsRow.holds Try.pinned (OpenSpec.ofChange fnExactWayCentsSpec)

/-- ITS FALSE NEIGHBOUR: 'it returns false'. Refute it at one input. -/
def fnExactWayCentsWrong : ChangeSpec := { name := "fnExactWayCents", fn := fun _ => fun
  | [d1, d2] => { results := [.lit (.bool false)], args := [d1, d2] }
  | _ => none }
def FnExactWayCentsWrongFalsely : Prop := fnExactWayCentsRow.holds Try.pinned (OpenSpec.ofChange fnExactWayCentsWrong)

/-- 'laws.FnExactDueOf': WHATEVER THE INPUT: true; the input reads as it did. -/
def fnExactDueOfSpec : ChangeSpec := { name := "fnExactDueOf", fn := fun _ => fun
  | [d1, d2] => { results := [.lit (.bool true)], args := [d1, d2] }
  | _ => none }
def fnExactDueOfRow : OpenClaim := { program := "ytdlceopaepcbaaa", sum := "5533b1844b0e679e230919c7d28a2e0b9a87ecec3b6629df75317a8d080e846c", func := "loop.example/g00924/laws.FnExactDueOf", spec := "fnExactDueOf", unfollowed := true, recurses := true, apart := false }
def FnExactDueOfSaid : Prop := fnExactDueOfRow.holds Try.pinned (OpenSpec.ofChange fnExactDueOfSpec)

/-- ITS FALSE NEIGHBOUR: 'it returns false'. Refute it at one input. -/
def fnExactDueOfWrong : ChangeSpec := { name := "fnExactDueOf", fn := fun _ => fun
  | [d1, d2] => { results := [.lit (.bool false)], args := [d1, d2] }
  | _ => none }
def FnExactDueOfWrongFalsely : Prop := fnExactDueOfRow.holds Try.pinned (OpenSpec.ofChange fnExactDueOfWrong)

/-- 'laws.FnExactFarthestFor': WHATEVER THE INPUT: true; the input reads as it did. -/
def fnExactFarthestForSpec : ChangeSpec := { name := "fnExactFarthestFor", fn := fun _ => fun
  | [d1, d2, d3] => { results := [.lit (.bool true)], args := [d1, d2, d3] }
  | _ => none }
def fnExactFarthestForRow : OpenClaim := { program := "ytdlceopaepcbaaa", sum := "5533b1844b0e679e230919c7d28a2e0b9a87ecec3b6629df75317a8d080e846c", func := "loop.example/g00924/laws.FnExactFarthestFor", spec := "fnExactFarthestFor", unfollowed := true, recurses := true, apart := false }
def FnExactFarthestForSaid : Prop := fnExactFarthestForRow.holds Try.pinned (OpenSpec.ofChange fnExactFarthestForSpec)

/-- ITS FALSE NEIGHBOUR: 'it returns false'. Refute it at one input. -/
def fnExactFarthestForWrong : ChangeSpec := { name := "fnExactFarthestFor", fn := fun _ => fun
  | [d1, d2, d3] => { results := [.lit (.bool false)], args := [d1, d2, d3] }
  | _ => none }
def FnExactFarthestForWrongFalsely : Prop := fnExactFarthestForRow.holds Try.pinned (OpenSpec.ofChange fnExactFarthestForWrong)

/-- 'laws.FnExactCheaperTariff': WHATEVER THE INPUT: true; the input reads as it did. -/
def fnExactCheaperTariffSpec : ChangeSpec := { name := "fnExactCheaperTariff", fn := fun _ => fun
  | [d1, d2, d3] => { results := [.lit (.bool true)], args := [d1, d2, d3] }
  | _ => none }
def fnExactCheaperTariffRow : OpenClaim := { program := "ytdlceopaepcbaaa", sum := "5533b1844b0e679e230919c7d28a2e0b9a87ecec3b6629df75317a8d080e846c", func := "loop.example/g00924/laws.FnExactCheaperTariff", spec := "fnExactCheaperTariff", unfollowed := true, recurses := true, apart := false }
def FnExactCheaperTariffSaid : Prop := fnExactCheaperTariffRow.holds Try.pinned (OpenSpec.ofChange fnExactCheaperTariffSpec)

/-- ITS FALSE NEIGHBOUR: 'it returns false'. Refute it at one input. -/
def fnExactCheaperTariffWrong : ChangeSpec := { name := "fnExactCheaperTariff", fn := fun _ => fun
  | [d1, d2, d3] => { results := [.lit (.bool false)], args := [d1, d2, d3] }
  | _ => none }
def FnExactCheaperTariffWrongFalsely : Prop := fnExactCheaperTariffRow.holds Try.pinned (OpenSpec.ofChange fnExactCheaperTariffWrong)

/-- 'laws.FnExactSumOfDues': WHATEVER THE INPUT: true; the input reads as it did. -/
def fnExactSumOfDuesSpec : ChangeSpec := { name := "fnExactSumOfDues", fn := fun _ => fun
  | [d1, d2] => { results := [.lit (.bool true)], args := [d1, d2] }
  | _ => none }
def fnExactSumOfDuesRow : OpenClaim := { program := "ytdlceopaepcbaaa", sum := "5533b1844b0e679e230919c7d28a2e0b9a87ecec3b6629df75317a8d080e846c", func := "loop.example/g00924/laws.FnExactSumOfDues", spec := "fnExactSumOfDues", unfollowed := true, recurses := true, apart := false }
def FnExactSumOfDuesSaid : Prop := fnExactSumOfDuesRow.holds Try.pinned (OpenSpec.ofChange fnExactSumOfDuesSpec)

/-- ITS FALSE NEIGHBOUR: 'it returns false'. Refute it at one input. -/
def fnExactSumOfDuesWrong : ChangeSpec := { name := "fnExactSumOfDues", fn := fun _ => fun
  | [d1, d2] => { results := [.lit (.bool false)], args := [d1, d2] }
  | _ => none }
def FnExactSumOfDuesWrongFalsely : Prop := fnExactSumOfDuesRow.holds Try.pinned (OpenSpec.ofChange fnExactSumOfDuesWrong)

/-- 'laws.FnVoyageDues': WHATEVER THE INPUT: true; the input reads as it did. -/
def fnVoyageDuesSpec : ChangeSpec := { name := "fnVoyageDues", fn := fun _ => fun
  | [d] => { results := [.lit (.bool true)], args := [d] }
  | _ => none }
def fnVoyageDuesRow : OpenClaim := { program := "ytdlceopaepcbaaa", sum := "5533b1844b0e679e230919c7d28a2e0b9a87ecec3b6629df75317a8d080e846c", func := "loop.example/g00924/laws.FnVoyageDues", spec := "fnVoyageDues", unfollowed := true, recurses := true, apart := false }
def FnVoyageDuesSaid : Prop := fnVoyageDuesRow.holds Try.pinned (OpenSpec.ofChange fnVoyageDuesSpec)

/-- ITS FALSE NEIGHBOUR: 'it returns false'. Refute it at one input. -/
def fnVoyageDuesWrong : ChangeSpec := { name := "fnVoyageDues", fn := fun _ => fun
  | [d] => { results := [.lit (.bool false)], args := [d] }
  | _ => none }
def FnVoyageDuesWrongFalsely : Prop := fnVoyageDuesRow.holds Try.pinned (OpenSpec.ofChange fnVoyageDuesWrong)

/-- 'laws.FnExactDearestVoyage': WHATEVER THE INPUT: true; the input reads as it did. -/
def fnExactDearestVoyageSpec : ChangeSpec := { name := "fnExactDearestVoyage", fn := fun _ => fun
  | [d1, d2] => { results := [.lit (.bool true)], args := [d1, d2] }
  | _ => none }
def fnExactDearestVoyageRow : OpenClaim := { program := "ytdlceopaepcbaaa", sum := "5533b1844b0e679e230919c7d28a2e0b9a87ecec3b6629df75317a8d080e846c", func := "loop.example/g00924/laws.FnExactDearestVoyage", spec := "fnExactDearestVoyage", unfollowed := true, recurses := true, apart := false }
def FnExactDearestVoyageSaid : Prop := fnExactDearestVoyageRow.holds Try.pinned (OpenSpec.ofChange fnExactDearestVoyageSpec)

/-- ITS FALSE NEIGHBOUR: 'it returns false'. Refute it at one input. -/
def fnExactDearestVoyageWrong : ChangeSpec := { name := "fnExactDearestVoyage", fn := fun _ => fun
  | [d1, d2] => { results := [.lit (.bool false)], args := [d1, d2] }
  | _ => none }
def FnExactDearestVoyageWrongFalsely : Prop := fnExactDearestVoyageRow.holds Try.pinned (OpenSpec.ofChange fnExactDearestVoyageWrong)

/- THE SECOND FORM. 'bulk': how many values and letters a reading holds, each counted each time it is reached (what is shared counts as often as it is met; a slice's spare places count too). A statement '..UptoSaid' is the law's where the arguments, and the package variables that the reading takes, are together of bulk at most 1048576: NARROWER than '..Said'. Prove '..Said' where nothing that the law and all that it calls make is longer than what came in: it says more and counts as full. Else prove '..UptoSaid'. A law counts once. -/
mutual
def uptoBulk {H : Type} : DataW H → Nat
  | .lit (.string bytes) => bytes.length + 1
  | .lit _ => 1
  | .nil => 1
  | .ptr d => uptoBulk d + 1
  | .slice elems spare => uptoBulkAll elems + uptoBulkAll spare + 1
  | .agg parts => uptoBulkAll parts + 1
  | .iface _ d => uptoBulk d + 1
  | .map entries => uptoBulkEntries entries + 1
  | .held _ => 1
def uptoBulkAll {H : Type} : List (DataW H) → Nat
  | [] => 0
  | d :: r => uptoBulk d + uptoBulkAll r
def uptoBulkEntries {H : Type} : List (Lit × DataW H) → Nat
  | [] => 0
  | x :: r => uptoBulkEntry x + uptoBulkEntries r
def uptoBulkEntry {H : Type} : Lit × DataW H → Nat
  | (.string bytes, d) => bytes.length + uptoBulk d + 1
  | (_, d) => uptoBulk d + 1
 end
def uptoSmall : (H : Type) → List (DataW H) → Bool := fun _ ds => decide (uptoBulkAll ds ≤ 1048576)
def OpenSpec.upto (s : _root_.Go.ChangeSpec) : _root_.Go.OpenSpec := { _root_.Go.OpenSpec.ofChange s with cond := some uptoSmall }

/-- 'laws.FnExactIsVoyage', WHERE WHAT IT READS IS OF BULK AT MOST 1048576: true; the input reads as it did. -/
def fnExactIsVoyageUptoRow : OpenClaim := { program := "ytdlceopaepcbaaa", sum := "5533b1844b0e679e230919c7d28a2e0b9a87ecec3b6629df75317a8d080e846c", func := "loop.example/g00924/laws.FnExactIsVoyage", spec := "fnExactIsVoyage", apart := false, narrowed := true }
def FnExactIsVoyageUptoSaid : Prop := fnExactIsVoyageUptoRow.holds Try.pinned (OpenSpec.upto fnExactIsVoyageSpec)

/-- 'laws.FnExactIsTariff', WHERE WHAT IT READS IS OF BULK AT MOST 1048576: true; the input reads as it did. -/
def fnExactIsTariffUptoRow : OpenClaim := { program := "ytdlceopaepcbaaa", sum := "5533b1844b0e679e230919c7d28a2e0b9a87ecec3b6629df75317a8d080e846c", func := "loop.example/g00924/laws.FnExactIsTariff", spec := "fnExactIsTariff", unfollowed := true, recurses := true, apart := false, narrowed := true }
def FnExactIsTariffUptoSaid : Prop := fnExactIsTariffUptoRow.holds Try.pinned (OpenSpec.upto fnExactIsTariffSpec)

/-- 'laws.FnExactWayCents', WHERE WHAT IT READS IS OF BULK AT MOST 1048576: true; the input reads as it did. -/
def fnExactWayCentsUptoRow : OpenClaim := { program := "ytdlceopaepcbaaa", sum := "5533b1844b0e679e230919c7d28a2e0b9a87ecec3b6629df75317a8d080e846c", func := "loop.example/g00924/laws.FnExactWayCents", spec := "fnExactWayCents", unfollowed := true, recurses := true, apart := false, narrowed := true }
def FnExactWayCentsUptoSaid : Prop := fnExactWayCentsUptoRow.holds Try.pinned (OpenSpec.upto fnExactWayCentsSpec)

/-- 'laws.FnExactDueOf', WHERE WHAT IT READS IS OF BULK AT MOST 1048576: true; the input reads as it did. -/
def fnExactDueOfUptoRow : OpenClaim := { program := "ytdlceopaepcbaaa", sum := "5533b1844b0e679e230919c7d28a2e0b9a87ecec3b6629df75317a8d080e846c", func := "loop.example/g00924/laws.FnExactDueOf", spec := "fnExactDueOf", unfollowed := true, recurses := true, apart := false, narrowed := true }
def FnExactDueOfUptoSaid : Prop := fnExactDueOfUptoRow.holds Try.pinned (OpenSpec.upto fnExactDueOfSpec)

/-- 'laws.FnExactFarthestFor', WHERE WHAT IT READS IS OF BULK AT MOST 1048576: true; the input reads as it did. -/
def fnExactFarthestForUptoRow : OpenClaim := { program := "ytdlceopaepcbaaa", sum := "5533b1844b0e679e230919c7d28a2e0b9a87ecec3b6629df75317a8d080e846c", func := "loop.example/g00924/laws.FnExactFarthestFor", spec := "fnExactFarthestFor", unfollowed := true, recurses := true, apart := false, narrowed := true }
def FnExactFarthestForUptoSaid : Prop := fnExactFarthestForUptoRow.holds Try.pinned (OpenSpec.upto fnExactFarthestForSpec)

/-- 'laws.FnExactCheaperTariff', WHERE WHAT IT READS IS OF BULK AT MOST 1048576: true; the input reads as it did. -/
def fnExactCheaperTariffUptoRow : OpenClaim := { program := "ytdlceopaepcbaaa", sum := "5533b1844b0e679e230919c7d28a2e0b9a87ecec3b6629df75317a8d080e846c", func := "loop.example/g00924/laws.FnExactCheaperTariff", spec := "fnExactCheaperTariff", unfollowed := true, recurses := true, apart := false, narrowed := true }
def FnExactCheaperTariffUptoSaid : Prop := fnExactCheaperTariffUptoRow.holds Try.pinned (OpenSpec.upto fnExactCheaperTariffSpec)

/-- 'laws.FnExactSumOfDues', WHERE WHAT IT READS IS OF BULK AT MOST 1048576: true; the input reads as it did. -/
def fnExactSumOfDuesUptoRow : OpenClaim := { program := "ytdlceopaepcbaaa", sum := "5533b1844b0e679e230919c7d28a2e0b9a87ecec3b6629df75317a8d080e846c", func := "loop.example/g00924/laws.FnExactSumOfDues", spec := "fnExactSumOfDues", unfollowed := true, recurses := true, apart := false, narrowed := true }
def FnExactSumOfDuesUptoSaid : Prop := fnExactSumOfDuesUptoRow.holds Try.pinned (OpenSpec.upto fnExactSumOfDuesSpec)

/-- 'laws.FnVoyageDues', WHERE WHAT IT READS IS OF BULK AT MOST 1048576: true; the input reads as it did. -/
def fnVoyageDuesUptoRow : OpenClaim := { program := "ytdlceopaepcbaaa", sum := "5533b1844b0e679e230919c7d28a2e0b9a87ecec3b6629df75317a8d080e846c", func := "loop.example/g00924/laws.FnVoyageDues", spec := "fnVoyageDues", unfollowed := true, recurses := true, apart := false, narrowed := true }
def FnVoyageDuesUptoSaid : Prop := fnVoyageDuesUptoRow.holds Try.pinned (OpenSpec.upto fnVoyageDuesSpec)

/-- 'laws.FnExactDearestVoyage', WHERE WHAT IT READS IS OF BULK AT MOST 1048576: true; the input reads as it did. -/
def fnExactDearestVoyageUptoRow : OpenClaim := { program := "ytdlceopaepcbaaa", sum := "5533b1844b0e679e230919c7d28a2e0b9a87ecec3b6629df75317a8d080e846c", func := "loop.example/g00924/laws.FnExactDearestVoyage", spec := "fnExactDearestVoyage", unfollowed := true, recurses := true, apart := false, narrowed := true }
def FnExactDearestVoyageUptoSaid : Prop := fnExactDearestVoyageUptoRow.holds Try.pinned (OpenSpec.upto fnExactDearestVoyageSpec)

end Rows
end Go.Proofs.Ytdlceopaepcbaaa
