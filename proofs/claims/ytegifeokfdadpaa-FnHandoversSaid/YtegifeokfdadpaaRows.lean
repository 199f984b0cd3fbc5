/-
  No cell of these rows narrows 'for every input' (looked for: loops, veiled, ifaces, maps, wideKeys, modest, calm, conditions, laid).
  DERIVED. THE GIVEN ROWS OF THIS SEAT. 2 by the template 'for every input the law returns true; each argument reads behind the call as it read before'; 0 by the template 'total and deterministic' (their statements: YtegifeokfdadpaaTotals.lean).
  GIVEN WITH THE SEED: the statements are not yours to turn. If you find one false, say at which input.
  Laid BY PROGRAM, IN A SANDBOX (cutbox-rows.mjs): the forced cells as the released guide's own fill.sh prints them over the translation f8db2a3304657905… (all of the seat's roots in one cut). By AI agents, Wed Nov 11 2026. No macro, syntax, notation, axiom, sorry.
-/
import Derived.Test.YtegifeokfdadpaaChecked
import GoSem.Claim
import GoSem.ClaimJoined
import GoSem.ClaimMapViews
import Derived.JoinedTies
import Derived.KernelRfl
namespace Go.Proofs.Ytegifeokfdadpaa
/- THE CELL 'sum', in the pinned program and in every row, IS THE sha256 OF THE DUMP (.gsa) THAT YtegifeokfdadpaaProg.lean LOADS. Nothing in Lean hashes anything: it is a label: what it is worth is what the hold of that sum in a sandbox is worth. -/
noncomputable def Try.pinned : Pinned := { name := "ytegifeokfdadpaa", sum := "f8db2a3304657905f7cc84e75ebff564cab13566d43ba1d9f5b42db1ccd9ffa5", checked := Try.checked }
namespace Rows
def none {H : Type} : Left H := { results := [], args := [] }

/-- 'laws.FnDuties': WHATEVER THE INPUT: true; the input reads as it did. -/
def fnDutiesSpec : ChangeSpec := { name := "fnDuties", fn := fun _ => fun
  | [d] => { results := [.lit (.bool true)], args := [d] }
  | _ => none }
def fnDutiesRow : OpenClaim := { program := "ytegifeokfdadpaa", sum := "f8db2a3304657905f7cc84e75ebff564cab13566d43ba1d9f5b42db1ccd9ffa5", func := "loop.example/g00924/laws.FnDuties", spec := "fnDuties", unfollowed := true, recurses := true, apart := false }
def FnDutiesSaid : Prop := fnDutiesRow.holds Try.pinned (OpenSpec.ofChange fnDutiesSpec)

/-- ITS FALSE NEIGHBOUR: 'it returns false'. Refute it at one input. -/
def fnDutiesWrong : ChangeSpec := { name := "fnDuties", fn := fun _ => fun
  | [d] => { results := [.lit (.bool false)], args := [d] }
  | _ => none }
def FnDutiesWrongFalsely : Prop := fnDutiesRow.holds Try.pinned (OpenSpec.ofChange fnDutiesWrong)

/-- 'laws.FnHandovers': WHATEVER THE INPUT: true; the input reads as it did. -/
def fnHandoversSpec : ChangeSpec := { name := "fnHandovers", fn := fun _ => fun
  | [d] => { results := [.lit (.bool true)], args := [d] }
  | _ => none }
def fnHandoversRow : OpenClaim := { program := "ytegifeokfdadpaa", sum := "f8db2a3304657905f7cc84e75ebff564cab13566d43ba1d9f5b42db1ccd9ffa5", func := "loop.example/g00924/laws.FnHandovers", spec := "fnHandovers", inPlace := ["internal/bytealg.IndexByteString", "internal/bytealg.IndexString"], unfollowed := true, recurses := true, named := ["internal/bytealg.MaxLen"], apart := false }
def FnHandoversSaid : Prop := fnHandoversRow.holds Try.pinned (OpenSpec.ofChange fnHandoversSpec)

/-- ITS FALSE NEIGHBOUR: 'it returns false'. Refute it at one input. -/
def fnHandoversWrong : ChangeSpec := { name := "fnHandovers", fn := fun _ => fun
  | [d] => { results := [.lit (.bool false)], args := [d] }
  | _ => none }
def FnHandoversWrongFalsely : Prop := fnHandoversRow.holds Try.pinned (OpenSpec.ofChange fnHandoversWrong)

/- THE SECOND FORM. 'bulk': how many values and letters a reading holds, each counted each time it is reached (what is shared counts as often as it is met; a slice's spare places count too). A statement '..UptoSaid' is the law's where the arguments, and the package variables that the reading takes, are together of bulk at most 1048576: NARROWER than '..Said'. Prove '..Said' where nothing that the law and all that it calls make is longer than what came in: it says more and counts as full. Else prove '..UptoSaid'. A law counts once. -/
mutual
def uptoBulk {H : Type} : DataW H → Nat
  | .lit (.string bytes) => bytes.length + 1
  | .lit _ => 1
  | .nil => 1
  | .ptr d => uptoBulk d + 1
  | .slice elems spare => uptoBulkAll elems + uptoBulkAll spare + 1
  | .agg parts => uptoBulkAll parts + 1
  | .iface _ d => uptoBulk d + 1
  | .map entries => uptoBulkEntries entries + 1
  | .held _ => 1
def uptoBulkAll {H : Type} : List (DataW H) → Nat
  | [] => 0
  | d :: r => uptoBulk d + uptoBulkAll r
def uptoBulkEntries {H : Type} : List (Lit × DataW H) → Nat
  | [] => 0
  | x :: r => uptoBulkEntry x + uptoBulkEntries r
def uptoBulkEntry {H : Type} : Lit × DataW H → Nat
  | (.string bytes, d) => bytes.length + uptoBulk d + 1
  | (_, d) => uptoBulk d + 1
 end
def uptoSmall : (H : Type) → List (DataW H) → Bool := fun _ ds => decide (uptoBulkAll ds ≤ 1048576)
def OpenSpec.upto (s : _root_.Go.ChangeSpec) : _root_.Go.OpenSpec := { _root_.Go.OpenSpec.ofChange s with cond := some uptoSmall }

/-- 'laws.FnDuties', WHERE WHAT IT READS IS OF BULK AT MOST 1048576: true; the input reads as it did. -/
def fnDutiesUptoRow : OpenClaim := { program := "ytegifeokfdadpaa", sum := "f8db2a3304657905f7cc84e75ebff564cab13566d43ba1d9f5b42db1ccd9ffa5", func := "loop.example/g00924/laws.FnDuties", spec := "fnDuties", unfollowed := true, recurses := true, apart := false, narrowed := true }
def FnDutiesUptoSaid : Prop := fnDutiesUptoRow.holds Try.pinned (OpenSpec.upto fnDutiesSpec)

/-- 'laws.FnHandovers', WHERE WHAT IT READS IS OF BULK AT MOST 1048576: true; the input reads as it did. -/
def fnHandoversUptoRow : OpenClaim := { program := "ytegifeokfdadpaa", sum := "f8db2a3304657905f7cc84e75ebff564cab13566d43ba1d9f5b42db1ccd9ffa5", func := "loop.example/g00924/laws.FnHandovers", spec := "fnHandovers", inPlace := ["internal/bytealg.IndexByteString", "internal/bytealg.IndexString"], unfollowed := true, recurses := true, named := ["internal/bytealg.MaxLen"], apart := false, narrowed := true }
def FnHandoversUptoSaid : Prop := fnHandoversUptoRow.holds Try.pinned (OpenSpec.upto fnHandoversSpec)

end Rows
end Go.Proofs.Ytegifeokfdadpaa
