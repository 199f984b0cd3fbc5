/-
  No cell of these rows narrows 'for every input' (looked for: loops, veiled, ifaces, maps, wideKeys, modest, calm, conditions, laid).
  DERIVED. THE GIVEN ROWS OF THIS SEAT. 12 by the template 'for every input the law returns true; each argument reads behind the call as it read before'; 0 by the template 'total and deterministic' (their statements: YtbbafdcmgobkeaaTotals.lean).
  GIVEN WITH THE SEED: the statements are not yours to turn. If you find one false, say at which input.
  Laid BY PROGRAM, IN A SANDBOX (cutbox-rows.mjs): the forced cells as the released guide's own fill.sh prints them over the translation e226d609aa09b5c2… (all of the seat's roots in one cut). By AI agents, Wed Nov 11 2026. No macro, syntax, notation, axiom, sorry.
-/
import Derived.Test.YtbbafdcmgobkeaaChecked
import GoSem.Claim
import GoSem.ClaimJoined
import GoSem.ClaimMapViews
import Derived.JoinedTies
import Derived.KernelRfl
namespace Go.Proofs.Ytbbafdcmgobkeaa
/- THE CELL 'sum', in the pinned program and in every row, IS THE sha256 OF THE DUMP (.gsa) THAT YtbbafdcmgobkeaaProg.lean LOADS. Nothing in Lean hashes anything: it is a label: what it is worth is what the hold of that sum in a sandbox is worth. -/
noncomputable def Try.pinned : Pinned := { name := "ytbbafdcmgobkeaa", sum := "e226d609aa09b5c2af7e28cf5e964905e0f370cf692e44f8140ee901aba3b48a", checked := Try.checked }
namespace Rows
def none {H : Type} : Left H := { results := [], args := [] }

/-- 'laws.FnExactIsValidDuty': WHATEVER THE INPUT: true; the input reads as it did. -/
def fnExactIsValidDutySpec : ChangeSpec := { name := "fnExactIsValidDuty", fn := fun _ => fun
  | [d] => { results := [.lit (.bool true)], args := [d] }
  | _ => none }
def fnExactIsValidDutyRow : OpenClaim := { program := "ytbbafdcmgobkeaa", sum := "e226d609aa09b5c2af7e28cf5e964905e0f370cf692e44f8140ee901aba3b48a", func := "loop.example/g00924/laws.FnExactIsValidDuty", spec := "fnExactIsValidDuty", unfollowed := true, recurses := true, apart := false }
def FnExactIsValidDutySaid : Prop := fnExactIsValidDutyRow.holds Try.pinned (OpenSpec.ofChange fnExactIsValidDutySpec)

/-- ITS FALSE NEIGHBOUR: 'it returns false'. Refute it at one input. -/
def fnExactIsValidDutyWrong : ChangeSpec := { name := "fnExactIsValidDuty", fn := fun _ => fun
  | [d] => { results := [.lit (.bool false)], args := [d] }
  | _ => none }
def FnExactIsValidDutyWrongFalsely : Prop := fnExactIsValidDutyRow.holds Try.pinned (OpenSpec.ofChange fnExactIsValidDutyWrong)

/-- 'laws.FnExactChangedLocks': WHATEVER THE INPUT: true; the input reads as it did. -/
def fnExactChangedLocksSpec : ChangeSpec := { name := "fnExactChangedLocks", fn := fun _ => fun
  | [d1, d2] => { results := [.lit (.bool true)], args := [d1, d2] }
  | _ => none }
def fnExactChangedLocksRow : OpenClaim := { program := "ytbbafdcmgobkeaa", sum := "e226d609aa09b5c2af7e28cf5e964905e0f370cf692e44f8140ee901aba3b48a", func := "loop.example/g00924/laws.FnExactChangedLocks", spec := "fnExactChangedLocks", unfollowed := true, recurses := true, apart := false }
def FnExactChangedLocksSaid : Prop := fnExactChangedLocksRow.holds Try.pinned (OpenSpec.ofChange fnExactChangedLocksSpec)

/-- ITS FALSE NEIGHBOUR: 'it returns false'. Refute it at one input. -/
def fnExactChangedLocksWrong : ChangeSpec := { name := "fnExactChangedLocks", fn := fun _ => fun
  | [d1, d2] => { results := [.lit (.bool false)], args := [d1, d2] }
  | _ => none }
def FnExactChangedLocksWrongFalsely : Prop := fnExactChangedLocksRow.holds Try.pinned (OpenSpec.ofChange fnExactChangedLocksWrong)

/-- 'laws.FnExactDutyText': WHATEVER THE INPUT: true; the input reads as it did. -/
def fnExactDutyTextSpec : ChangeSpec := { name := "fnExactDutyText", fn := fun _ => fun
  | [d] => { results := [.lit (.bool true)], args := [d] }
  | _ => none }
def fnExactDutyTextRow : OpenClaim := { program := "ytbbafdcmgobkeaa", sum := "e226d609aa09b5c2af7e28cf5e964905e0f370cf692e44f8140ee901aba3b48a", func := "loop.example/g00924/laws.FnExactDutyText", spec := "fnExactDutyText", unfollowed := true, recurses := true, apart := false }
def FnExactDutyTextSaid : Prop := fnExactDutyTextRow.holds Try.pinned (OpenSpec.ofChange fnExactDutyTextSpec)

/-- ITS FALSE NEIGHBOUR: 'it returns false'. Refute it at one input. -/
def fnExactDutyTextWrong : ChangeSpec := { name := "fnExactDutyText", fn := fun _ => fun
  | [d] => { results := [.lit (.bool false)], args := [d] }
  | _ => none }
def FnExactDutyTextWrongFalsely : Prop := fnExactDutyTextRow.holds Try.pinned (OpenSpec.ofChange fnExactDutyTextWrong)

/-- 'laws.FnExactBordersOf': WHATEVER THE INPUT: true; the input reads as it did. -/
def fnExactBordersOfSpec : ChangeSpec := { name := "fnExactBordersOf", fn := fun _ => fun
  | [d] => { results := [.lit (.bool true)], args := [d] }
  | _ => none }
def fnExactBordersOfRow : OpenClaim := { program := "ytbbafdcmgobkeaa", sum := "e226d609aa09b5c2af7e28cf5e964905e0f370cf692e44f8140ee901aba3b48a", func := "loop.example/g00924/laws.FnExactBordersOf", spec := "fnExactBordersOf", unfollowed := true, recurses := true, apart := false }
def FnExactBordersOfSaid : Prop := fnExactBordersOfRow.holds Try.pinned (OpenSpec.ofChange fnExactBordersOfSpec)

/-- ITS FALSE NEIGHBOUR: 'it returns false'. Refute it at one input. -/
def fnExactBordersOfWrong : ChangeSpec := { name := "fnExactBordersOf", fn := fun _ => fun
  | [d] => { results := [.lit (.bool false)], args := [d] }
  | _ => none }
def FnExactBordersOfWrongFalsely : Prop := fnExactBordersOfRow.holds Try.pinned (OpenSpec.ofChange fnExactBordersOfWrong)

/-- 'laws.FnExactLoadsOf': WHATEVER THE INPUT: true; the input reads as it did. -/
def fnExactLoadsOfSpec : ChangeSpec := { name := "fnExactLoadsOf", fn := fun _ => fun
  | [d] => { results := [.lit (.bool true)], args := [d] }
  | _ => none }
def fnExactLoadsOfRow : OpenClaim := { program := "ytbbafdcmgobkeaa", sum := "e226d609aa09b5c2af7e28cf5e964905e0f370cf692e44f8140ee901aba3b48a", func := "loop.example/g00924/laws.FnExactLoadsOf", spec := "fnExactLoadsOf", unfollowed := true, recurses := true, apart := false }
def FnExactLoadsOfSaid : Prop := fnExactLoadsOfRow.holds Try.pinned (OpenSpec.ofChange fnExactLoadsOfSpec)

/-- ITS FALSE NEIGHBOUR: 'it returns false'. Refute it at one input. -/
def fnExactLoadsOfWrong : ChangeSpec := { name := "fnExactLoadsOf", fn := fun _ => fun
  | [d] => { results := [.lit (.bool false)], args := [d] }
  | _ => none }
def FnExactLoadsOfWrongFalsely : Prop := fnExactLoadsOfRow.holds Try.pinned (OpenSpec.ofChange fnExactLoadsOfWrong)

/-- 'laws.FnExactHandLock': WHATEVER THE INPUT: true; the input reads as it did. -/
def fnExactHandLockSpec : ChangeSpec := { name := "fnExactHandLock", fn := fun _ => fun
  | [d1, d2, d3] => { results := [.lit (.bool true)], args := [d1, d2, d3] }
  | _ => none }
def fnExactHandLockRow : OpenClaim := { program := "ytbbafdcmgobkeaa", sum := "e226d609aa09b5c2af7e28cf5e964905e0f370cf692e44f8140ee901aba3b48a", func := "loop.example/g00924/laws.FnExactHandLock", spec := "fnExactHandLock", unfollowed := true, recurses := true, apart := false }
def FnExactHandLockSaid : Prop := fnExactHandLockRow.holds Try.pinned (OpenSpec.ofChange fnExactHandLockSpec)

/-- ITS FALSE NEIGHBOUR: 'it returns false'. Refute it at one input. -/
def fnExactHandLockWrong : ChangeSpec := { name := "fnExactHandLock", fn := fun _ => fun
  | [d1, d2, d3] => { results := [.lit (.bool false)], args := [d1, d2, d3] }
  | _ => none }
def FnExactHandLockWrongFalsely : Prop := fnExactHandLockRow.holds Try.pinned (OpenSpec.ofChange fnExactHandLockWrong)

/-- 'laws.FnExactReturnCentre': WHATEVER THE INPUT: true; the input reads as it did. -/
def fnExactReturnCentreSpec : ChangeSpec := { name := "fnExactReturnCentre", fn := fun _ => fun
  | [d1, d2, d3, d4] => { results := [.lit (.bool true)], args := [d1, d2, d3, d4] }
  | _ => none }
def fnExactReturnCentreRow : OpenClaim := { program := "ytbbafdcmgobkeaa", sum := "e226d609aa09b5c2af7e28cf5e964905e0f370cf692e44f8140ee901aba3b48a", func := "loop.example/g00924/laws.FnExactReturnCentre", spec := "fnExactReturnCentre", unfollowed := true, recurses := true, apart := false }
def FnExactReturnCentreSaid : Prop := fnExactReturnCentreRow.holds Try.pinned (OpenSpec.ofChange fnExactReturnCentreSpec)

/-- ITS FALSE NEIGHBOUR: 'it returns false'. Refute it at one input. -/
def fnExactReturnCentreWrong : ChangeSpec := { name := "fnExactReturnCentre", fn := fun _ => fun
  | [d1, d2, d3, d4] => { results := [.lit (.bool false)], args := [d1, d2, d3, d4] }
  | _ => none }
def FnExactReturnCentreWrongFalsely : Prop := fnExactReturnCentreRow.holds Try.pinned (OpenSpec.ofChange fnExactReturnCentreWrong)

/-- 'laws.FnExactEvenDuty': WHATEVER THE INPUT: true; the input reads as it did. -/
def fnExactEvenDutySpec : ChangeSpec := { name := "fnExactEvenDuty", fn := fun _ => fun
  | [d] => { results := [.lit (.bool true)], args := [d] }
  | _ => none }
def fnExactEvenDutyRow : OpenClaim := { program := "ytbbafdcmgobkeaa", sum := "e226d609aa09b5c2af7e28cf5e964905e0f370cf692e44f8140ee901aba3b48a", func := "loop.example/g00924/laws.FnExactEvenDuty", spec := "fnExactEvenDuty", unfollowed := true, recurses := true, apart := false }
def FnExactEvenDutySaid : Prop := fnExactEvenDutyRow.holds Try.pinned (OpenSpec.ofChange fnExactEvenDutySpec)

/-- ITS FALSE NEIGHBOUR: 'it returns false'. Refute it at one input. -/
def fnExactEvenDutyWrong : ChangeSpec := { name := "fnExactEvenDuty", fn := fun _ => fun
  | [d] => { results := [.lit (.bool false)], args := [d] }
  | _ => none }
def FnExactEvenDutyWrongFalsely : Prop := fnExactEvenDutyRow.holds Try.pinned (OpenSpec.ofChange fnExactEvenDutyWrong)

/-- 'laws.FnExactFailCentre': WHATEVER THE INPUT: true; the input reads as it did. -/
def fnExactFailCentreSpec : ChangeSpec := { name := "fnExactFailCentre", fn := fun _ => fun
  | [d1, d2] => { results := [.lit (.bool true)], args := [d1, d2] }
  | _ => none }
def fnExactFailCentreRow : OpenClaim := { program := "ytbbafdcmgobkeaa", sum := "e226d609aa09b5c2af7e28cf5e964905e0f370cf692e44f8140ee901aba3b48a", func := "loop.example/g00924/laws.FnExactFailCentre", spec := "fnExactFailCentre", unfollowed := true, recurses := true, apart := false }
def FnExactFailCentreSaid : Prop := fnExactFailCentreRow.holds Try.pinned (OpenSpec.ofChange fnExactFailCentreSpec)

/-- ITS FALSE NEIGHBOUR: 'it returns false'. Refute it at one input. -/
def fnExactFailCentreWrong : ChangeSpec := { name := "fnExactFailCentre", fn := fun _ => fun
  | [d1, d2] => { results := [.lit (.bool false)], args := [d1, d2] }
  | _ => none }
def FnExactFailCentreWrongFalsely : Prop := fnExactFailCentreRow.holds Try.pinned (OpenSpec.ofChange fnExactFailCentreWrong)

/-- 'laws.FnExactParseDuty': WHATEVER THE INPUT: true; the input reads as it did. -/
def fnExactParseDutySpec : ChangeSpec := { name := "fnExactParseDuty", fn := fun _ => fun
  | [d] => { results := [.lit (.bool true)], args := [d] }
  | _ => none }
def fnExactParseDutyRow : OpenClaim := { program := "ytbbafdcmgobkeaa", sum := "e226d609aa09b5c2af7e28cf5e964905e0f370cf692e44f8140ee901aba3b48a", func := "loop.example/g00924/laws.FnExactParseDuty", spec := "fnExactParseDuty", inPlace := ["internal/bytealg.IndexByteString", "internal/bytealg.IndexString"], unfollowed := true, recurses := true, named := ["internal/bytealg.MaxLen"], apart := false }
def FnExactParseDutySaid : Prop := fnExactParseDutyRow.holds Try.pinned (OpenSpec.ofChange fnExactParseDutySpec)

/-- ITS FALSE NEIGHBOUR: 'it returns false'. Refute it at one input. -/
def fnExactParseDutyWrong : ChangeSpec := { name := "fnExactParseDuty", fn := fun _ => fun
  | [d] => { results := [.lit (.bool false)], args := [d] }
  | _ => none }
def FnExactParseDutyWrongFalsely : Prop := fnExactParseDutyRow.holds Try.pinned (OpenSpec.ofChange fnExactParseDutyWrong)

/-- 'laws.FnDuties': WHATEVER THE INPUT: true; the input reads as it did. -/
def fnDutiesSpec : ChangeSpec := { name := "fnDuties", fn := fun _ => fun
  | [d] => { results := [.lit (.bool true)], args := [d] }
  | _ => none }
def fnDutiesRow : OpenClaim := { program := "ytbbafdcmgobkeaa", sum := "e226d609aa09b5c2af7e28cf5e964905e0f370cf692e44f8140ee901aba3b48a", func := "loop.example/g00924/laws.FnDuties", spec := "fnDuties", unfollowed := true, recurses := true, apart := false }
def FnDutiesSaid : Prop := fnDutiesRow.holds Try.pinned (OpenSpec.ofChange fnDutiesSpec)

/-- ITS FALSE NEIGHBOUR: 'it returns false'. Refute it at one input. -/
def fnDutiesWrong : ChangeSpec := { name := "fnDuties", fn := fun _ => fun
  | [d] => { results := [.lit (.bool false)], args := [d] }
  | _ => none }
def FnDutiesWrongFalsely : Prop := fnDutiesRow.holds Try.pinned (OpenSpec.ofChange fnDutiesWrong)

/-- 'laws.FnHandovers': WHATEVER THE INPUT: true; the input reads as it did. -/
def fnHandoversSpec : ChangeSpec := { name := "fnHandovers", fn := fun _ => fun
  | [d] => { results := [.lit (.bool true)], args := [d] }
  | _ => none }
def fnHandoversRow : OpenClaim := { program := "ytbbafdcmgobkeaa", sum := "e226d609aa09b5c2af7e28cf5e964905e0f370cf692e44f8140ee901aba3b48a", func := "loop.example/g00924/laws.FnHandovers", spec := "fnHandovers", inPlace := ["internal/bytealg.IndexByteString", "internal/bytealg.IndexString"], unfollowed := true, recurses := true, named := ["internal/bytealg.MaxLen"], apart := false }
def FnHandoversSaid : Prop := fnHandoversRow.holds Try.pinned (OpenSpec.ofChange fnHandoversSpec)

/-- ITS FALSE NEIGHBOUR: 'it returns false'. Refute it at one input. -/
def fnHandoversWrong : ChangeSpec := { name := "fnHandovers", fn := fun _ => fun
  | [d] => { results := [.lit (.bool false)], args := [d] }
  | _ => none }
def FnHandoversWrongFalsely : Prop := fnHandoversRow.holds Try.pinned (OpenSpec.ofChange fnHandoversWrong)

/- THE SECOND FORM. 'bulk': how many values and letters a reading holds, each counted each time it is reached (what is shared counts as often as it is met; a slice's spare places count too). A statement '..UptoSaid' is the law's where the arguments, and the package variables that the reading takes, are together of bulk at most 1048576: NARROWER than '..Said'. Prove '..Said' where nothing that the law and all that it calls make is longer than what came in: it says more and counts as full. Else prove '..UptoSaid'. A law counts once. -/
mutual
def uptoBulk {H : Type} : DataW H → Nat
  | .lit (.string bytes) => bytes.length + 1
  | .lit _ => 1
  | .nil => 1
  | .ptr d => uptoBulk d + 1
  | .slice elems spare => uptoBulkAll elems + uptoBulkAll spare + 1
  | .agg parts => uptoBulkAll parts + 1
  | .iface _ d => uptoBulk d + 1
  | .map entries => uptoBulkEntries entries + 1
  | .held _ => 1
def uptoBulkAll {H : Type} : List (DataW H) → Nat
  | [] => 0
  | d :: r => uptoBulk d + uptoBulkAll r
def uptoBulkEntries {H : Type} : List (Lit × DataW H) → Nat
  | [] => 0
  | x :: r => uptoBulkEntry x + uptoBulkEntries r
def uptoBulkEntry {H : Type} : Lit × DataW H → Nat
  | (.string bytes, d) => bytes.length + uptoBulk d + 1
  | (_, d) => uptoBulk d + 1
 end
def uptoSmall : (H : Type) → List (DataW H) → Bool := fun _ ds => decide (uptoBulkAll ds ≤ 1048576)
def OpenSpec.upto (s : _root_.Go.ChangeSpec) : _root_.Go.OpenSpec := { _root_.Go.OpenSpec.ofChange s with cond := some uptoSmall }

/-- 'laws.FnExactIsValidDuty', WHERE WHAT IT READS IS OF BULK AT MOST 1048576: true; the input reads as it did. -/
def fnExactIsValidDutyUptoRow : OpenClaim := { program := "ytbbafdcmgobkeaa", sum := "e226d609aa09b5c2af7e28cf5e964905e0f370cf692e44f8140ee901aba3b48a", func := "loop.example/g00924/laws.FnExactIsValidDuty", spec := "fnExactIsValidDuty", unfollowed := true, recurses := true, apart := false, narrowed := true }
def FnExactIsValidDutyUptoSaid : Prop := fnExactIsValidDutyUptoRow.holds Try.pinned (OpenSpec.upto fnExactIsValidDutySpec)

/-- 'laws.FnExactChangedLocks', WHERE WHAT IT READS IS OF BULK AT MOST 1048576: true; the input reads as it did. -/
def fnExactChangedLocksUptoRow : OpenClaim := { program := "ytbbafdcmgobkeaa", sum := "e226d609aa09b5c2af7e28cf5e964905e0f370cf692e44f8140ee901aba3b48a", func := "loop.example/g00924/laws.FnExactChangedLocks", spec := "fnExactChangedLocks", unfollowed := true, recurses := true, apart := false, narrowed := true }
def FnExactChangedLocksUptoSaid : Prop := fnExactChangedLocksUptoRow.holds Try.pinned (OpenSpec.upto fnExactChangedLocksSpec)

/-- 'laws.FnExactDutyText', WHERE WHAT IT READS IS OF BULK AT MOST 1048576: true; the input reads as it did. -/
def fnExactDutyTextUptoRow : OpenClaim := { program := "ytbbafdcmgobkeaa", sum := "e226d609aa09b5c2af7e28cf5e964905e0f370cf692e44f8140ee901aba3b48a", func := "loop.example/g00924/laws.FnExactDutyText", spec := "fnExactDutyText", unfollowed := true, recurses := true, apart := false, narrowed := true }
def FnExactDutyTextUptoSaid : Prop := fnExactDutyTextUptoRow.holds Try.pinned (OpenSpec.upto fnExactDutyTextSpec)

/-- 'laws.FnExactBordersOf', WHERE WHAT IT READS IS OF BULK AT MOST 1048576: true; the input reads as it did. -/
def fnExactBordersOfUptoRow : OpenClaim := { program := "ytbbafdcmgobkeaa", sum := "e226d609aa09b5c2af7e28cf5e964905e0f370cf692e44f8140ee901aba3b48a", func := "loop.example/g00924/laws.FnExactBordersOf", spec := "fnExactBordersOf", unfollowed := true, recurses := true, apart := false, narrowed := true }
def FnExactBordersOfUptoSaid : Prop := fnExactBordersOfUptoRow.holds Try.pinned (OpenSpec.upto fnExactBordersOfSpec)

/-- 'laws.FnExactLoadsOf', WHERE WHAT IT READS IS OF BULK AT MOST 1048576: true; the input reads as it did. -/
def fnExactLoadsOfUptoRow : OpenClaim := { program := "ytbbafdcmgobkeaa", sum := "e226d609aa09b5c2af7e28cf5e964905e0f370cf692e44f8140ee901aba3b48a", func := "loop.example/g00924/laws.FnExactLoadsOf", spec := "fnExactLoadsOf", unfollowed := true, recurses := true, apart := false, narrowed := true }
def FnExactLoadsOfUptoSaid : Prop := fnExactLoadsOfUptoRow.holds Try.pinned (OpenSpec.upto fnExactLoadsOfSpec)

/-- 'laws.FnExactHandLock', WHERE WHAT IT READS IS OF BULK AT MOST 1048576: true; the input reads as it did. -/
def fnExactHandLockUptoRow : OpenClaim := { program := "ytbbafdcmgobkeaa", sum := "e226d609aa09b5c2af7e28cf5e964905e0f370cf692e44f8140ee901aba3b48a", func := "loop.example/g00924/laws.FnExactHandLock", spec := "fnExactHandLock", unfollowed := true, recurses := true, apart := false, narrowed := true }
def FnExactHandLockUptoSaid : Prop := fnExactHandLockUptoRow.holds Try.pinned (OpenSpec.upto fnExactHandLockSpec)

/-- 'laws.FnExactReturnCentre', WHERE WHAT IT READS IS OF BULK AT MOST 1048576: true; the input reads as it did. -/
def fnExactReturnCentreUptoRow : OpenClaim := { program := "ytbbafdcmgobkeaa", sum := "e226d609aa09b5c2af7e28cf5e964905e0f370cf692e44f8140ee901aba3b48a", func := "loop.example/g00924/laws.FnExactReturnCentre", spec := "fnExactReturnCentre", unfollowed := true, recurses := true, apart := false, narrowed := true }
def FnExactReturnCentreUptoSaid : Prop := fnExactReturnCentreUptoRow.holds Try.pinned (OpenSpec.upto fnExactReturnCentreSpec)

/-- 'laws.FnExactEvenDuty', WHERE WHAT IT READS IS OF BULK AT MOST 1048576: true; the input reads as it did. -/
def fnExactEvenDutyUptoRow : OpenClaim := { program := "ytbbafdcmgobkeaa", sum := "e226d609aa09b5c2af7e28cf5e964905e0f370cf692e44f8140ee901aba3b48a", func := "loop.example/g00924/laws.FnExactEvenDuty", spec := "fnExactEvenDuty", unfollowed := true, recurses := true, apart := false, narrowed := true }
def FnExactEvenDutyUptoSaid : Prop := fnExactEvenDutyUptoRow.holds Try.pinned (OpenSpec.upto fnExactEvenDutySpec)

/-- 'laws.FnExactFailCentre', WHERE WHAT IT READS IS OF BULK AT MOST 1048576: true; the input reads as it did. -/
def fnExactFailCentreUptoRow : OpenClaim := { program := "ytbbafdcmgobkeaa", sum := "e226d609aa09b5c2af7e28cf5e964905e0f370cf692e44f8140ee901aba3b48a", func := "loop.example/g00924/laws.FnExactFailCentre", spec := "fnExactFailCentre", unfollowed := true, recurses := true, apart := false, narrowed := true }
def FnExactFailCentreUptoSaid : Prop := fnExactFailCentreUptoRow.holds Try.pinned (OpenSpec.upto fnExactFailCentreSpec)

/-- 'laws.FnExactParseDuty', WHERE WHAT IT READS IS OF BULK AT MOST 1048576: true; the input reads as it did. -/
def fnExactParseDutyUptoRow : OpenClaim := { program := "ytbbafdcmgobkeaa", sum := "e226d609aa09b5c2af7e28cf5e964905e0f370cf692e44f8140ee901aba3b48a", func := "loop.example/g00924/laws.FnExactParseDuty", spec := "fnExactParseDuty", inPlace := ["internal/bytealg.IndexByteString", "internal/bytealg.IndexString"], unfollowed := true, recurses := true, named := ["internal/bytealg.MaxLen"], apart := false, narrowed := true }
def FnExactParseDutyUptoSaid : Prop := fnExactParseDutyUptoRow.holds Try.pinned (OpenSpec.upto fnExactParseDutySpec)

/-- 'laws.FnDuties', WHERE WHAT IT READS IS OF BULK AT MOST 1048576: true; the input reads as it did. -/
def fnDutiesUptoRow : OpenClaim := { program := "ytbbafdcmgobkeaa", sum := "e226d609aa09b5c2af7e28cf5e964905e0f370cf692e44f8140ee901aba3b48a", func := "loop.example/g00924/laws.FnDuties", spec := "fnDuties", unfollowed := true, recurses := true, apart := false, narrowed := true }
def FnDutiesUptoSaid : Prop := fnDutiesUptoRow.holds Try.pinned (OpenSpec.upto fnDutiesSpec)

/-- 'laws.FnHandovers', WHERE WHAT IT READS IS OF BULK AT MOST 1048576: true; the input reads as it did. -/
def fnHandoversUptoRow : OpenClaim := { program := "ytbbafdcmgobkeaa", sum := "e226d609aa09b5c2af7e28cf5e964905e0f370cf692e44f8140ee901aba3b48a", func := "loop.example/g00924/laws.FnHandovers", spec := "fnHandovers", inPlace := ["internal/bytealg.IndexByteString", "internal/bytealg.IndexString"], unfollowed := true, recurses := true, named := ["internal/bytealg.MaxLen"], apart := false, narrowed := true }
def FnHandoversUptoSaid : Prop := fnHandoversUptoRow.holds Try.pinned (OpenSpec.upto fnHandoversSpec)

end Rows
end Go.Proofs.Ytbbafdcmgobkeaa
