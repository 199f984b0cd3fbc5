/-
  No cell of these rows narrows 'for every input' (looked for: loops, veiled, ifaces, maps, wideKeys, modest, calm, conditions, laid).
  DERIVED. THE GIVEN ROWS OF THIS SEAT. 7 by the template 'for every input the law returns true; each argument reads behind the call as it read before'; 0 by the template 'total and deterministic' (their statements: YtgnahaicmoddjaaTotals.lean).
  GIVEN WITH THE SEED: the statements are not yours to turn. If you find one false, say at which input.
  Laid BY PROGRAM, IN A SANDBOX (cutbox-rows.mjs): the forced cells as the released guide's own fill.sh prints them over the translation 6a8177f6a7b749d7… (all of the seat's roots in one cut). By AI agents, Wed Nov 11 2026. No macro, syntax, notation, axiom, sorry.
-/
import Derived.Test.YtgnahaicmoddjaaChecked
import GoSem.Claim
import GoSem.ClaimJoined
import GoSem.ClaimMapViews
import Derived.JoinedTies
import Derived.KernelRfl
namespace Go.Proofs.Ytgnahaicmoddjaa
/- THE CELL 'sum', in the pinned program and in every row, IS THE sha256 OF THE DUMP (.gsa) THAT YtgnahaicmoddjaaProg.lean LOADS. Nothing in Lean hashes anything: it is a label: what it is worth is what the hold of that sum in a sandbox is worth. -/
noncomputable def Try.pinned : Pinned := { name := "ytgnahaicmoddjaa", sum := "6a8177f6a7b749d715a69da07a6b6fc7a860e4c78351482ec21a8787056ba126", checked := Try.checked }
namespace Rows
def none {H : Type} : Left H := { results := [], args := [] }

/-- 'laws.FnExactLevelForDraught': WHATEVER THE INPUT: true; the input reads as it did. -/
def fnExactLevelForDraughtSpec : ChangeSpec := { name := "fnExactLevelForDraught", fn := fun _ => fun
  | [d1, d2] => { results := [.lit (.bool true)], args := [d1, d2] }
  | _ => none }
def fnExactLevelForDraughtRow : OpenClaim := { program := "ytgnahaicmoddjaa", sum := "6a8177f6a7b749d715a69da07a6b6fc7a860e4c78351482ec21a8787056ba126", func := "loop.example/g00924/laws.FnExactLevelForDraught", spec := "fnExactLevelForDraught", apart := false }
def FnExactLevelForDraughtSaid : Prop := fnExactLevelForDraughtRow.holds Try.pinned (OpenSpec.ofChange fnExactLevelForDraughtSpec)

/-- ITS FALSE NEIGHBOUR: 'it returns false'. Refute it at one input. -/
def fnExactLevelForDraughtWrong : ChangeSpec := { name := "fnExactLevelForDraught", fn := fun _ => fun
  | [d1, d2] => { results := [.lit (.bool false)], args := [d1, d2] }
  | _ => none }
def FnExactLevelForDraughtWrongFalsely : Prop := fnExactLevelForDraughtRow.holds Try.pinned (OpenSpec.ofChange fnExactLevelForDraughtWrong)

/-- 'laws.FnExactNewLevel': WHATEVER THE INPUT: true; the input reads as it did. -/
def fnExactNewLevelSpec : ChangeSpec := { name := "fnExactNewLevel", fn := fun _ => fun
  | [d1, d2] => { results := [.lit (.bool true)], args := [d1, d2] }
  | _ => none }
def fnExactNewLevelRow : OpenClaim := { program := "ytgnahaicmoddjaa", sum := "6a8177f6a7b749d715a69da07a6b6fc7a860e4c78351482ec21a8787056ba126", func := "loop.example/g00924/laws.FnExactNewLevel", spec := "fnExactNewLevel", apart := false }
def FnExactNewLevelSaid : Prop := fnExactNewLevelRow.holds Try.pinned (OpenSpec.ofChange fnExactNewLevelSpec)

/-- ITS FALSE NEIGHBOUR: 'it returns false'. Refute it at one input. -/
def fnExactNewLevelWrong : ChangeSpec := { name := "fnExactNewLevel", fn := fun _ => fun
  | [d1, d2] => { results := [.lit (.bool false)], args := [d1, d2] }
  | _ => none }
def FnExactNewLevelWrongFalsely : Prop := fnExactNewLevelRow.holds Try.pinned (OpenSpec.ofChange fnExactNewLevelWrong)

/-- 'laws.FnExactStageChanges': WHATEVER THE INPUT: true; the input reads as it did. -/
def fnExactStageChangesSpec : ChangeSpec := { name := "fnExactStageChanges", fn := fun _ => fun
  | [d1, d2] => { results := [.lit (.bool true)], args := [d1, d2] }
  | _ => none }
def fnExactStageChangesRow : OpenClaim := { program := "ytgnahaicmoddjaa", sum := "6a8177f6a7b749d715a69da07a6b6fc7a860e4c78351482ec21a8787056ba126", func := "loop.example/g00924/laws.FnExactStageChanges", spec := "fnExactStageChanges", unfollowed := true, recurses := true, apart := false }
def FnExactStageChangesSaid : Prop := fnExactStageChangesRow.holds Try.pinned (OpenSpec.ofChange fnExactStageChangesSpec)

/-- ITS FALSE NEIGHBOUR: 'it returns false'. Refute it at one input. -/
def fnExactStageChangesWrong : ChangeSpec := { name := "fnExactStageChanges", fn := fun _ => fun
  | [d1, d2] => { results := [.lit (.bool false)], args := [d1, d2] }
  | _ => none }
def FnExactStageChangesWrongFalsely : Prop := fnExactStageChangesRow.holds Try.pinned (OpenSpec.ofChange fnExactStageChangesWrong)

/-- 'laws.FnExactStagesOver': WHATEVER THE INPUT: true; the input reads as it did. -/
def fnExactStagesOverSpec : ChangeSpec := { name := "fnExactStagesOver", fn := fun _ => fun
  | [d1, d2] => { results := [.lit (.bool true)], args := [d1, d2] }
  | _ => none }
def fnExactStagesOverRow : OpenClaim := { program := "ytgnahaicmoddjaa", sum := "6a8177f6a7b749d715a69da07a6b6fc7a860e4c78351482ec21a8787056ba126", func := "loop.example/g00924/laws.FnExactStagesOver", spec := "fnExactStagesOver", unfollowed := true, recurses := true, apart := false }
def FnExactStagesOverSaid : Prop := fnExactStagesOverRow.holds Try.pinned (OpenSpec.ofChange fnExactStagesOverSpec)

/-- ITS FALSE NEIGHBOUR: 'it returns false'. Refute it at one input. -/
def fnExactStagesOverWrong : ChangeSpec := { name := "fnExactStagesOver", fn := fun _ => fun
  | [d1, d2] => { results := [.lit (.bool false)], args := [d1, d2] }
  | _ => none }
def FnExactStagesOverWrongFalsely : Prop := fnExactStagesOverRow.holds Try.pinned (OpenSpec.ofChange fnExactStagesOverWrong)

/-- 'laws.FnDroughts': WHATEVER THE INPUT: true; the input reads as it did. -/
def fnDroughtsSpec : ChangeSpec := { name := "fnDroughts", fn := fun _ => fun
  | [d] => { results := [.lit (.bool true)], args := [d] }
  | _ => none }
def fnDroughtsRow : OpenClaim := { program := "ytgnahaicmoddjaa", sum := "6a8177f6a7b749d715a69da07a6b6fc7a860e4c78351482ec21a8787056ba126", func := "loop.example/g00924/laws.FnDroughts", spec := "fnDroughts", unfollowed := true, recurses := true, apart := false }
def FnDroughtsSaid : Prop := fnDroughtsRow.holds Try.pinned (OpenSpec.ofChange fnDroughtsSpec)

/-- ITS FALSE NEIGHBOUR: 'it returns false'. Refute it at one input. -/
def fnDroughtsWrong : ChangeSpec := { name := "fnDroughts", fn := fun _ => fun
  | [d] => { results := [.lit (.bool false)], args := [d] }
  | _ => none }
def FnDroughtsWrongFalsely : Prop := fnDroughtsRow.holds Try.pinned (OpenSpec.ofChange fnDroughtsWrong)

/-- 'laws.FnExactMayPass': WHATEVER THE INPUT: true; the input reads as it did. -/
def fnExactMayPassSpec : ChangeSpec := { name := "fnExactMayPass", fn := fun _ => fun
  | [d1, d2] => { results := [.lit (.bool true)], args := [d1, d2] }
  | _ => none }
def fnExactMayPassRow : OpenClaim := { program := "ytgnahaicmoddjaa", sum := "6a8177f6a7b749d715a69da07a6b6fc7a860e4c78351482ec21a8787056ba126", func := "loop.example/g00924/laws.FnExactMayPass", spec := "fnExactMayPass", unfollowed := true, recurses := true, apart := false }
def FnExactMayPassSaid : Prop := fnExactMayPassRow.holds Try.pinned (OpenSpec.ofChange fnExactMayPassSpec)

/-- ITS FALSE NEIGHBOUR: 'it returns false'. Refute it at one input. -/
def fnExactMayPassWrong : ChangeSpec := { name := "fnExactMayPass", fn := fun _ => fun
  | [d1, d2] => { results := [.lit (.bool false)], args := [d1, d2] }
  | _ => none }
def FnExactMayPassWrongFalsely : Prop := fnExactMayPassRow.holds Try.pinned (OpenSpec.ofChange fnExactMayPassWrong)

/-- 'laws.FnStages': WHATEVER THE INPUT: true; the input reads as it did. -/
def fnStagesSpec : ChangeSpec := { name := "fnStages", fn := fun _ => fun
  | [d] => { results := [.lit (.bool true)], args := [d] }
  | _ => none }
def fnStagesRow : OpenClaim := { program := "ytgnahaicmoddjaa", sum := "6a8177f6a7b749d715a69da07a6b6fc7a860e4c78351482ec21a8787056ba126", func := "loop.example/g00924/laws.FnStages", spec := "fnStages", unfollowed := true, recurses := true, apart := false }
def FnStagesSaid : Prop := fnStagesRow.holds Try.pinned (OpenSpec.ofChange fnStagesSpec)

/-- ITS FALSE NEIGHBOUR: 'it returns false'. Refute it at one input. -/
def fnStagesWrong : ChangeSpec := { name := "fnStages", fn := fun _ => fun
  | [d] => { results := [.lit (.bool false)], args := [d] }
  | _ => none }
def FnStagesWrongFalsely : Prop := fnStagesRow.holds Try.pinned (OpenSpec.ofChange fnStagesWrong)

/- THE SECOND FORM. 'bulk': how many values and letters a reading holds, each counted each time it is reached (what is shared counts as often as it is met; a slice's spare places count too). A statement '..UptoSaid' is the law's where the arguments, and the package variables that the reading takes, are together of bulk at most 1048576: NARROWER than '..Said'. Prove '..Said' where nothing that the law and all that it calls make is longer than what came in: it says more and counts as full. Else prove '..UptoSaid'. A law counts once. -/
mutual
def uptoBulk {H : Type} : DataW H → Nat
  | .lit (.string bytes) => bytes.length + 1
  | .lit _ => 1
  | .nil => 1
  | .ptr d => uptoBulk d + 1
  | .slice elems spare => uptoBulkAll elems + uptoBulkAll spare + 1
  | .agg parts => uptoBulkAll parts + 1
  | .iface _ d => uptoBulk d + 1
  | .map entries => uptoBulkEntries entries + 1
  | .held _ => 1
def uptoBulkAll {H : Type} : List (DataW H) → Nat
  | [] => 0
  | d :: r => uptoBulk d + uptoBulkAll r
def uptoBulkEntries {H : Type} : List (Lit × DataW H) → Nat
  | [] => 0
  | x :: r => uptoBulkEntry x + uptoBulkEntries r
def uptoBulkEntry {H : Type} : Lit × DataW H → Nat
  | (.string bytes, d) => bytes.length + uptoBulk d + 1
  | (_, d) => uptoBulk d + 1
 end
def uptoSmall : (H : Type) → List (DataW H) → Bool := fun _ ds => decide (uptoBulkAll ds ≤ 1048576)
def OpenSpec.upto (s : _root_.Go.ChangeSpec) : _root_.Go.OpenSpec := { _root_.Go.OpenSpec.ofChange s with cond := some uptoSmall }

/-- 'laws.FnExactLevelForDraught', WHERE WHAT IT READS IS OF BULK AT MOST 1048576: true; the input reads as it did. -/
def fnExactLevelForDraughtUptoRow : OpenClaim := { program := "ytgnahaicmoddjaa", sum := "6a8177f6a7b749d715a69da07a6b6fc7a860e4c78351482ec21a8787056ba126", func := "loop.example/g00924/laws.FnExactLevelForDraught", spec := "fnExactLevelForDraught", apart := false, narrowed := true }
def FnExactLevelForDraughtUptoSaid : Prop := fnExactLevelForDraughtUptoRow.holds Try.pinned (OpenSpec.upto fnExactLevelForDraughtSpec)

/-- 'laws.FnExactNewLevel', WHERE WHAT IT READS IS OF BULK AT MOST 1048576: true; the input reads as it did. -/
def fnExactNewLevelUptoRow : OpenClaim := { program := "ytgnahaicmoddjaa", sum := "6a8177f6a7b749d715a69da07a6b6fc7a860e4c78351482ec21a8787056ba126", func := "loop.example/g00924/laws.FnExactNewLevel", spec := "fnExactNewLevel", apart := false, narrowed := true }
def FnExactNewLevelUptoSaid : Prop := fnExactNewLevelUptoRow.holds Try.pinned (OpenSpec.upto fnExactNewLevelSpec)

/-- 'laws.FnExactStageChanges', WHERE WHAT IT READS IS OF BULK AT MOST 1048576: true; the input reads as it did. -/
def fnExactStageChangesUptoRow : OpenClaim := { program := "ytgnahaicmoddjaa", sum := "6a8177f6a7b749d715a69da07a6b6fc7a860e4c78351482ec21a8787056ba126", func := "loop.example/g00924/laws.FnExactStageChanges", spec := "fnExactStageChanges", unfollowed := true, recurses := true, apart := false, narrowed := true }
def FnExactStageChangesUptoSaid : Prop := fnExactStageChangesUptoRow.holds Try.pinned (OpenSpec.upto fnExactStageChangesSpec)

/-- 'laws.FnExactStagesOver', WHERE WHAT IT READS IS OF BULK AT MOST 1048576: true; the input reads as it did. -/
def fnExactStagesOverUptoRow : OpenClaim := { program := "ytgnahaicmoddjaa", sum := "6a8177f6a7b749d715a69da07a6b6fc7a860e4c78351482ec21a8787056ba126", func := "loop.example/g00924/laws.FnExactStagesOver", spec := "fnExactStagesOver", unfollowed := true, recurses := true, apart := false, narrowed := true }
def FnExactStagesOverUptoSaid : Prop := fnExactStagesOverUptoRow.holds Try.pinned (OpenSpec.upto fnExactStagesOverSpec)

/-- 'laws.FnDroughts', WHERE WHAT IT READS IS OF BULK AT MOST 1048576: true; the input reads as it did. -/
def fnDroughtsUptoRow : OpenClaim := { program := "ytgnahaicmoddjaa", sum := "6a8177f6a7b749d715a69da07a6b6fc7a860e4c78351482ec21a8787056ba126", func := "loop.example/g00924/laws.FnDroughts", spec := "fnDroughts", unfollowed := true, recurses := true, apart := false, narrowed := true }
def FnDroughtsUptoSaid : Prop := fnDroughtsUptoRow.holds Try.pinned (OpenSpec.upto fnDroughtsSpec)

/-- 'laws.FnExactMayPass', WHERE WHAT IT READS IS OF BULK AT MOST 1048576: true; the input reads as it did. -/
def fnExactMayPassUptoRow : OpenClaim := { program := "ytgnahaicmoddjaa", sum := "6a8177f6a7b749d715a69da07a6b6fc7a860e4c78351482ec21a8787056ba126", func := "loop.example/g00924/laws.FnExactMayPass", spec := "fnExactMayPass", unfollowed := true, recurses := true, apart := false, narrowed := true }
def FnExactMayPassUptoSaid : Prop := fnExactMayPassUptoRow.holds Try.pinned (OpenSpec.upto fnExactMayPassSpec)

/-- 'laws.FnStages', WHERE WHAT IT READS IS OF BULK AT MOST 1048576: true; the input reads as it did. -/
def fnStagesUptoRow : OpenClaim := { program := "ytgnahaicmoddjaa", sum := "6a8177f6a7b749d715a69da07a6b6fc7a860e4c78351482ec21a8787056ba126", func := "loop.example/g00924/laws.FnStages", spec := "fnStages", unfollowed := true, recurses := true, apart := false, narrowed := true }
def FnStagesUptoSaid : Prop := fnStagesUptoRow.holds Try.pinned (OpenSpec.upto fnStagesSpec)

end Rows
end Go.Proofs.Ytgnahaicmoddjaa
