/-
  No cell of these rows narrows 'for every input' (looked for: loops, veiled, ifaces, maps, wideKeys, modest, calm, conditions, laid).
  DERIVED. THE GIVEN ROWS OF THIS SEAT. 10 by the template 'for every input the law returns true; each argument reads behind the call as it read before'; 0 by the template 'total and deterministic' (their statements: YtpjgjfdbffideaaTotals.lean).
  GIVEN WITH THE SEED: the statements are not yours to turn. If you find one false, say at which input.
  Laid BY PROGRAM, IN A SANDBOX (cutbox-rows.mjs): the forced cells as the released guide's own fill.sh prints them over the translation aca6a33523a0e3d5… (all of the seat's roots in one cut). By AI agents, Wed Nov 11 2026. No macro, syntax, notation, axiom, sorry.
-/
import Derived.Test.YtpjgjfdbffideaaChecked
import GoSem.Claim
import GoSem.ClaimJoined
import GoSem.ClaimMapViews
import Derived.JoinedTies
import Derived.KernelRfl
namespace Go.Proofs.Ytpjgjfdbffideaa
/- THE CELL 'sum', in the pinned program and in every row, IS THE sha256 OF THE DUMP (.gsa) THAT YtpjgjfdbffideaaProg.lean LOADS. Nothing in Lean hashes anything: it is a label: what it is worth is what the hold of that sum in a sandbox is worth. -/
noncomputable def Try.pinned : Pinned := { name := "ytpjgjfdbffideaa", sum := "aca6a33523a0e3d50c7aeb9f8466de1e287ef565eaea2aa248bfd43434d99863", checked := Try.checked }
namespace Rows
def none {H : Type} : Left H := { results := [], args := [] }

/-- 'laws.FnExactIsLockage': WHATEVER THE INPUT: true; the input reads as it did. -/
def fnExactIsLockageSpec : ChangeSpec := { name := "fnExactIsLockage", fn := fun _ => fun
  | [d] => { results := [.lit (.bool true)], args := [d] }
  | _ => none }
def fnExactIsLockageRow : OpenClaim := { program := "ytpjgjfdbffideaa", sum := "aca6a33523a0e3d50c7aeb9f8466de1e287ef565eaea2aa248bfd43434d99863", func := "loop.example/g00924/laws.FnExactIsLockage", spec := "fnExactIsLockage", apart := false }
def FnExactIsLockageSaid : Prop := fnExactIsLockageRow.holds Try.pinned (OpenSpec.ofChange fnExactIsLockageSpec)

/-- ITS FALSE NEIGHBOUR: 'it returns false'. Refute it at one input. -/
def fnExactIsLockageWrong : ChangeSpec := { name := "fnExactIsLockage", fn := fun _ => fun
  | [d] => { results := [.lit (.bool false)], args := [d] }
  | _ => none }
def FnExactIsLockageWrongFalsely : Prop := fnExactIsLockageRow.holds Try.pinned (OpenSpec.ofChange fnExactIsLockageWrong)

/-- 'laws.FnExactIsRecordList': WHATEVER THE INPUT: true; the input reads as it did. -/
def fnExactIsRecordListSpec : ChangeSpec := { name := "fnExactIsRecordList", fn := fun _ => fun
  | [d] => { results := [.lit (.bool true)], args := [d] }
  | _ => none }
def fnExactIsRecordListRow : OpenClaim := { program := "ytpjgjfdbffideaa", sum := "aca6a33523a0e3d50c7aeb9f8466de1e287ef565eaea2aa248bfd43434d99863", func := "loop.example/g00924/laws.FnExactIsRecordList", spec := "fnExactIsRecordList", apart := false }
def FnExactIsRecordListSaid : Prop := fnExactIsRecordListRow.holds Try.pinned (OpenSpec.ofChange fnExactIsRecordListSpec)

/-- ITS FALSE NEIGHBOUR: 'it returns false'. Refute it at one input. -/
def fnExactIsRecordListWrong : ChangeSpec := { name := "fnExactIsRecordList", fn := fun _ => fun
  | [d] => { results := [.lit (.bool false)], args := [d] }
  | _ => none }
def FnExactIsRecordListWrongFalsely : Prop := fnExactIsRecordListRow.holds Try.pinned (OpenSpec.ofChange fnExactIsRecordListWrong)

/-- 'laws.FnExactBusiestSpan': WHATEVER THE INPUT: true; the input reads as it did. -/
def fnExactBusiestSpanSpec : ChangeSpec := { name := "fnExactBusiestSpan", fn := fun _ => fun
  | [d1, d2] => { results := [.lit (.bool true)], args := [d1, d2] }
  | _ => none }
def fnExactBusiestSpanRow : OpenClaim := { program := "ytpjgjfdbffideaa", sum := "aca6a33523a0e3d50c7aeb9f8466de1e287ef565eaea2aa248bfd43434d99863", func := "loop.example/g00924/laws.FnExactBusiestSpan", spec := "fnExactBusiestSpan", apart := false }
def FnExactBusiestSpanSaid : Prop := fnExactBusiestSpanRow.holds Try.pinned (OpenSpec.ofChange fnExactBusiestSpanSpec)

/-- ITS FALSE NEIGHBOUR: 'it returns false'. Refute it at one input. -/
def fnExactBusiestSpanWrong : ChangeSpec := { name := "fnExactBusiestSpan", fn := fun _ => fun
  | [d1, d2] => { results := [.lit (.bool false)], args := [d1, d2] }
  | _ => none }
def FnExactBusiestSpanWrongFalsely : Prop := fnExactBusiestSpanRow.holds Try.pinned (OpenSpec.ofChange fnExactBusiestSpanWrong)

/-- 'laws.FnExactLongestGap': WHATEVER THE INPUT: true; the input reads as it did. -/
def fnExactLongestGapSpec : ChangeSpec := { name := "fnExactLongestGap", fn := fun _ => fun
  | [d1, d2] => { results := [.lit (.bool true)], args := [d1, d2] }
  | _ => none }
def fnExactLongestGapRow : OpenClaim := { program := "ytpjgjfdbffideaa", sum := "aca6a33523a0e3d50c7aeb9f8466de1e287ef565eaea2aa248bfd43434d99863", func := "loop.example/g00924/laws.FnExactLongestGap", spec := "fnExactLongestGap", apart := false }
def FnExactLongestGapSaid : Prop := fnExactLongestGapRow.holds Try.pinned (OpenSpec.ofChange fnExactLongestGapSpec)

/-- ITS FALSE NEIGHBOUR: 'it returns false'. Refute it at one input. -/
def fnExactLongestGapWrong : ChangeSpec := { name := "fnExactLongestGap", fn := fun _ => fun
  | [d1, d2] => { results := [.lit (.bool false)], args := [d1, d2] }
  | _ => none }
def FnExactLongestGapWrongFalsely : Prop := fnExactLongestGapRow.holds Try.pinned (OpenSpec.ofChange fnExactLongestGapWrong)

/-- 'laws.FnExactChamberUse': WHATEVER THE INPUT: true; the input reads as it did. -/
def fnExactChamberUseSpec : ChangeSpec := { name := "fnExactChamberUse", fn := fun _ => fun
  | [d1, d2, d3] => { results := [.lit (.bool true)], args := [d1, d2, d3] }
  | _ => none }
def fnExactChamberUseRow : OpenClaim := { program := "ytpjgjfdbffideaa", sum := "aca6a33523a0e3d50c7aeb9f8466de1e287ef565eaea2aa248bfd43434d99863", func := "loop.example/g00924/laws.FnExactChamberUse", spec := "fnExactChamberUse", apart := false }
def FnExactChamberUseSaid : Prop := fnExactChamberUseRow.holds Try.pinned (OpenSpec.ofChange fnExactChamberUseSpec)

/-- ITS FALSE NEIGHBOUR: 'it returns false'. Refute it at one input. -/
def fnExactChamberUseWrong : ChangeSpec := { name := "fnExactChamberUse", fn := fun _ => fun
  | [d1, d2, d3] => { results := [.lit (.bool false)], args := [d1, d2, d3] }
  | _ => none }
def FnExactChamberUseWrongFalsely : Prop := fnExactChamberUseRow.holds Try.pinned (OpenSpec.ofChange fnExactChamberUseWrong)

/-- 'laws.FnExactMeanWaiting': WHATEVER THE INPUT: true; the input reads as it did. -/
def fnExactMeanWaitingSpec : ChangeSpec := { name := "fnExactMeanWaiting", fn := fun _ => fun
  | [d] => { results := [.lit (.bool true)], args := [d] }
  | _ => none }
def fnExactMeanWaitingRow : OpenClaim := { program := "ytpjgjfdbffideaa", sum := "aca6a33523a0e3d50c7aeb9f8466de1e287ef565eaea2aa248bfd43434d99863", func := "loop.example/g00924/laws.FnExactMeanWaiting", spec := "fnExactMeanWaiting", apart := false }
def FnExactMeanWaitingSaid : Prop := fnExactMeanWaitingRow.holds Try.pinned (OpenSpec.ofChange fnExactMeanWaitingSpec)

/-- ITS FALSE NEIGHBOUR: 'it returns false'. Refute it at one input. -/
def fnExactMeanWaitingWrong : ChangeSpec := { name := "fnExactMeanWaiting", fn := fun _ => fun
  | [d] => { results := [.lit (.bool false)], args := [d] }
  | _ => none }
def FnExactMeanWaitingWrongFalsely : Prop := fnExactMeanWaitingRow.holds Try.pinned (OpenSpec.ofChange fnExactMeanWaitingWrong)

/-- 'laws.FnExactEmptyLockages': WHATEVER THE INPUT: true; the input reads as it did. -/
def fnExactEmptyLockagesSpec : ChangeSpec := { name := "fnExactEmptyLockages", fn := fun _ => fun
  | [d] => { results := [.lit (.bool true)], args := [d] }
  | _ => none }
def fnExactEmptyLockagesRow : OpenClaim := { program := "ytpjgjfdbffideaa", sum := "aca6a33523a0e3d50c7aeb9f8466de1e287ef565eaea2aa248bfd43434d99863", func := "loop.example/g00924/laws.FnExactEmptyLockages", spec := "fnExactEmptyLockages", apart := false }
def FnExactEmptyLockagesSaid : Prop := fnExactEmptyLockagesRow.holds Try.pinned (OpenSpec.ofChange fnExactEmptyLockagesSpec)

/-- ITS FALSE NEIGHBOUR: 'it returns false'. Refute it at one input. -/
def fnExactEmptyLockagesWrong : ChangeSpec := { name := "fnExactEmptyLockages", fn := fun _ => fun
  | [d] => { results := [.lit (.bool false)], args := [d] }
  | _ => none }
def FnExactEmptyLockagesWrongFalsely : Prop := fnExactEmptyLockagesRow.holds Try.pinned (OpenSpec.ofChange fnExactEmptyLockagesWrong)

/-- 'laws.FnExactHistogramOf': WHATEVER THE INPUT: true; the input reads as it did. -/
def fnExactHistogramOfSpec : ChangeSpec := { name := "fnExactHistogramOf", fn := fun _ => fun
  | [d] => { results := [.lit (.bool true)], args := [d] }
  | _ => none }
def fnExactHistogramOfRow : OpenClaim := { program := "ytpjgjfdbffideaa", sum := "aca6a33523a0e3d50c7aeb9f8466de1e287ef565eaea2aa248bfd43434d99863", func := "loop.example/g00924/laws.FnExactHistogramOf", spec := "fnExactHistogramOf", apart := false }
def FnExactHistogramOfSaid : Prop := fnExactHistogramOfRow.holds Try.pinned (OpenSpec.ofChange fnExactHistogramOfSpec)

/-- ITS FALSE NEIGHBOUR: 'it returns false'. Refute it at one input. -/
def fnExactHistogramOfWrong : ChangeSpec := { name := "fnExactHistogramOf", fn := fun _ => fun
  | [d] => { results := [.lit (.bool false)], args := [d] }
  | _ => none }
def FnExactHistogramOfWrongFalsely : Prop := fnExactHistogramOfRow.holds Try.pinned (OpenSpec.ofChange fnExactHistogramOfWrong)

/-- 'laws.FnLockageTimes': WHATEVER THE INPUT: true; the input reads as it did. -/
def fnLockageTimesSpec : ChangeSpec := { name := "fnLockageTimes", fn := fun _ => fun
  | [d] => { results := [.lit (.bool true)], args := [d] }
  | _ => none }
def fnLockageTimesRow : OpenClaim := { program := "ytpjgjfdbffideaa", sum := "aca6a33523a0e3d50c7aeb9f8466de1e287ef565eaea2aa248bfd43434d99863", func := "loop.example/g00924/laws.FnLockageTimes", spec := "fnLockageTimes", apart := false }
def FnLockageTimesSaid : Prop := fnLockageTimesRow.holds Try.pinned (OpenSpec.ofChange fnLockageTimesSpec)

/-- ITS FALSE NEIGHBOUR: 'it returns false'. Refute it at one input. -/
def fnLockageTimesWrong : ChangeSpec := { name := "fnLockageTimes", fn := fun _ => fun
  | [d] => { results := [.lit (.bool false)], args := [d] }
  | _ => none }
def FnLockageTimesWrongFalsely : Prop := fnLockageTimesRow.holds Try.pinned (OpenSpec.ofChange fnLockageTimesWrong)

/-- 'laws.FnExactMedianVessels': WHATEVER THE INPUT: true; the input reads as it did. -/
def fnExactMedianVesselsSpec : ChangeSpec := { name := "fnExactMedianVessels", fn := fun _ => fun
  | [d] => { results := [.lit (.bool true)], args := [d] }
  | _ => none }
def fnExactMedianVesselsRow : OpenClaim := { program := "ytpjgjfdbffideaa", sum := "aca6a33523a0e3d50c7aeb9f8466de1e287ef565eaea2aa248bfd43434d99863", func := "loop.example/g00924/laws.FnExactMedianVessels", spec := "fnExactMedianVessels", recurses := true, apart := false }
def FnExactMedianVesselsSaid : Prop := fnExactMedianVesselsRow.holds Try.pinned (OpenSpec.ofChange fnExactMedianVesselsSpec)

/-- ITS FALSE NEIGHBOUR: 'it returns false'. Refute it at one input. -/
def fnExactMedianVesselsWrong : ChangeSpec := { name := "fnExactMedianVessels", fn := fun _ => fun
  | [d] => { results := [.lit (.bool false)], args := [d] }
  | _ => none }
def FnExactMedianVesselsWrongFalsely : Prop := fnExactMedianVesselsRow.holds Try.pinned (OpenSpec.ofChange fnExactMedianVesselsWrong)

/- THE SECOND FORM. 'bulk': how many values and letters a reading holds, each counted each time it is reached (what is shared counts as often as it is met; a slice's spare places count too). A statement '..UptoSaid' is the law's where the arguments, and the package variables that the reading takes, are together of bulk at most 1048576: NARROWER than '..Said'. Prove '..Said' where nothing that the law and all that it calls make is longer than what came in: it says more and counts as full. Else prove '..UptoSaid'. A law counts once. -/
mutual
def uptoBulk {H : Type} : DataW H → Nat
  | .lit (.string bytes) => bytes.length + 1
  | .lit _ => 1
  | .nil => 1
  | .ptr d => uptoBulk d + 1
  | .slice elems spare => uptoBulkAll elems + uptoBulkAll spare + 1
  | .agg parts => uptoBulkAll parts + 1
  | .iface _ d => uptoBulk d + 1
  | .map entries => uptoBulkEntries entries + 1
  | .held _ => 1
def uptoBulkAll {H : Type} : List (DataW H) → Nat
  | [] => 0
  | d :: r => uptoBulk d + uptoBulkAll r
def uptoBulkEntries {H : Type} : List (Lit × DataW H) → Nat
  | [] => 0
  | x :: r => uptoBulkEntry x + uptoBulkEntries r
def uptoBulkEntry {H : Type} : Lit × DataW H → Nat
  | (.string bytes, d) => bytes.length + uptoBulk d + 1
  | (_, d) => uptoBulk d + 1
 end
def uptoSmall : (H : Type) → List (DataW H) → Bool := fun _ ds => decide (uptoBulkAll ds ≤ 1048576)
def OpenSpec.upto (s : _root_.Go.ChangeSpec) : _root_.Go.OpenSpec := { _root_.Go.OpenSpec.ofChange s with cond := some uptoSmall }

/-- 'laws.FnExactIsLockage', WHERE WHAT IT READS IS OF BULK AT MOST 1048576: true; the input reads as it did. -/
def fnExactIsLockageUptoRow : OpenClaim := { program := "ytpjgjfdbffideaa", sum := "aca6a33523a0e3d50c7aeb9f8466de1e287ef565eaea2aa248bfd43434d99863", func := "loop.example/g00924/laws.FnExactIsLockage", spec := "fnExactIsLockage", apart := false, narrowed := true }
def FnExactIsLockageUptoSaid : Prop := fnExactIsLockageUptoRow.holds Try.pinned (OpenSpec.upto fnExactIsLockageSpec)

/-- 'laws.FnExactIsRecordList', WHERE WHAT IT READS IS OF BULK AT MOST 1048576: true; the input reads as it did. -/
def fnExactIsRecordListUptoRow : OpenClaim := { program := "ytpjgjfdbffideaa", sum := "aca6a33523a0e3d50c7aeb9f8466de1e287ef565eaea2aa248bfd43434d99863", func := "loop.example/g00924/laws.FnExactIsRecordList", spec := "fnExactIsRecordList", apart := false, narrowed := true }
def FnExactIsRecordListUptoSaid : Prop := fnExactIsRecordListUptoRow.holds Try.pinned (OpenSpec.upto fnExactIsRecordListSpec)

/-- 'laws.FnExactBusiestSpan', WHERE WHAT IT READS IS OF BULK AT MOST 1048576: true; the input reads as it did. -/
def fnExactBusiestSpanUptoRow : OpenClaim := { program := "ytpjgjfdbffideaa", sum := "aca6a33523a0e3d50c7aeb9f8466de1e287ef565eaea2aa248bfd43434d99863", func := "loop.example/g00924/laws.FnExactBusiestSpan", spec := "fnExactBusiestSpan", apart := false, narrowed := true }
def FnExactBusiestSpanUptoSaid : Prop := fnExactBusiestSpanUptoRow.holds Try.pinned (OpenSpec.upto fnExactBusiestSpanSpec)

/-- 'laws.FnExactLongestGap', WHERE WHAT IT READS IS OF BULK AT MOST 1048576: true; the input reads as it did. -/
def fnExactLongestGapUptoRow : OpenClaim := { program := "ytpjgjfdbffideaa", sum := "aca6a33523a0e3d50c7aeb9f8466de1e287ef565eaea2aa248bfd43434d99863", func := "loop.example/g00924/laws.FnExactLongestGap", spec := "fnExactLongestGap", apart := false, narrowed := true }
def FnExactLongestGapUptoSaid : Prop := fnExactLongestGapUptoRow.holds Try.pinned (OpenSpec.upto fnExactLongestGapSpec)

/-- 'laws.FnExactChamberUse', WHERE WHAT IT READS IS OF BULK AT MOST 1048576: true; the input reads as it did. -/
def fnExactChamberUseUptoRow : OpenClaim := { program := "ytpjgjfdbffideaa", sum := "aca6a33523a0e3d50c7aeb9f8466de1e287ef565eaea2aa248bfd43434d99863", func := "loop.example/g00924/laws.FnExactChamberUse", spec := "fnExactChamberUse", apart := false, narrowed := true }
def FnExactChamberUseUptoSaid : Prop := fnExactChamberUseUptoRow.holds Try.pinned (OpenSpec.upto fnExactChamberUseSpec)

/-- 'laws.FnExactMeanWaiting', WHERE WHAT IT READS IS OF BULK AT MOST 1048576: true; the input reads as it did. -/
def fnExactMeanWaitingUptoRow : OpenClaim := { program := "ytpjgjfdbffideaa", sum := "aca6a33523a0e3d50c7aeb9f8466de1e287ef565eaea2aa248bfd43434d99863", func := "loop.example/g00924/laws.FnExactMeanWaiting", spec := "fnExactMeanWaiting", apart := false, narrowed := true }
def FnExactMeanWaitingUptoSaid : Prop := fnExactMeanWaitingUptoRow.holds Try.pinned (OpenSpec.upto fnExactMeanWaitingSpec)

/-- 'laws.FnExactEmptyLockages', WHERE WHAT IT READS IS OF BULK AT MOST 1048576: true; the input reads as it did. -/
def fnExactEmptyLockagesUptoRow : OpenClaim := { program := "ytpjgjfdbffideaa", sum := "aca6a33523a0e3d50c7aeb9f8466de1e287ef565eaea2aa248bfd43434d99863", func := "loop.example/g00924/laws.FnExactEmptyLockages", spec := "fnExactEmptyLockages", apart := false, narrowed := true }
def FnExactEmptyLockagesUptoSaid : Prop := fnExactEmptyLockagesUptoRow.holds Try.pinned (OpenSpec.upto fnExactEmptyLockagesSpec)

/-- 'laws.FnExactHistogramOf', WHERE WHAT IT READS IS OF BULK AT MOST 1048576: true; the input reads as it did. -/
def fnExactHistogramOfUptoRow : OpenClaim := { program := "ytpjgjfdbffideaa", sum := "aca6a33523a0e3d50c7aeb9f8466de1e287ef565eaea2aa248bfd43434d99863", func := "loop.example/g00924/laws.FnExactHistogramOf", spec := "fnExactHistogramOf", apart := false, narrowed := true }
def FnExactHistogramOfUptoSaid : Prop := fnExactHistogramOfUptoRow.holds Try.pinned (OpenSpec.upto fnExactHistogramOfSpec)

/-- 'laws.FnLockageTimes', WHERE WHAT IT READS IS OF BULK AT MOST 1048576: true; the input reads as it did. -/
def fnLockageTimesUptoRow : OpenClaim := { program := "ytpjgjfdbffideaa", sum := "aca6a33523a0e3d50c7aeb9f8466de1e287ef565eaea2aa248bfd43434d99863", func := "loop.example/g00924/laws.FnLockageTimes", spec := "fnLockageTimes", apart := false, narrowed := true }
def FnLockageTimesUptoSaid : Prop := fnLockageTimesUptoRow.holds Try.pinned (OpenSpec.upto fnLockageTimesSpec)

/-- 'laws.FnExactMedianVessels', WHERE WHAT IT READS IS OF BULK AT MOST 1048576: true; the input reads as it did. -/
def fnExactMedianVesselsUptoRow : OpenClaim := { program := "ytpjgjfdbffideaa", sum := "aca6a33523a0e3d50c7aeb9f8466de1e287ef565eaea2aa248bfd43434d99863", func := "loop.example/g00924/laws.FnExactMedianVessels", spec := "fnExactMedianVessels", recurses := true, apart := false, narrowed := true }
def FnExactMedianVesselsUptoSaid : Prop := fnExactMedianVesselsUptoRow.holds Try.pinned (OpenSpec.upto fnExactMedianVesselsSpec)

end Rows
end Go.Proofs.Ytpjgjfdbffideaa
