/-
  The laws' own bounds and comparisons of lists of ints.
  Conditions: none beyond each statement's own premises.
-/
import Derived.Test.YtegifeokfdadpaaLS
namespace Go.Proofs.Ytegifeokfdadpaa
set_option linter.unusedSimpArgs false
set_option linter.unusedVariables false
open Go.RowKit
set_option maxRecDepth 10000
/-- Sums of ints. -/
def sumZ (g : Nat → Int) : Nat → Int
  | 0 => 0
  | k + 1 => sumZ g k + g k
end Go.Proofs.Ytegifeokfdadpaa
