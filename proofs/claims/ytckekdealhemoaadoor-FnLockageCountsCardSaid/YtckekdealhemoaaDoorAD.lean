/-
  Texts of dues and summaries: the program's and the reference's walks.
  Conditions: none beyond each statement's own premises.
-/
import Derived.Test.YtckekdealhemoaaDoorEC
import Derived.Test.YtckekdealhemoaaDoorR2
import Derived.Test.YtckekdealhemoaaDoorWI
namespace Go.Proofs.YtckekdealhemoaaDoor
set_option linter.unusedSimpArgs false
set_option linter.unusedVariables false
open Go.RowKit
set_option maxRecDepth 10000
/-! ### Dues -/
def dtx (n : Nat) : List UInt8 := Lib.decDigits (n / 100) ++ [46] ++ Lib.decDigits (n / 10 % 10) ++ Lib.decDigits (n % 10)
noncomputable def duV (k : Int) : List UInt8 × Bool := if tr (0 ≤ k ∧ k ≤ 99999999) then (dtx k.toNat, true) else ([], false)
theorem duV_yes {k : Nat} (hk : k ≤ 99999999) : duV k = (dtx k, true) := by unfold duV; rw [tr_yes ⟨by omega, by omega⟩]; rfl
theorem duV_no {k : Int} (h : ¬ (0 ≤ k ∧ k ≤ 99999999)) : duV k = ([], false) := by unfold duV; rw [tr_no h]; rfl
end Go.Proofs.YtckekdealhemoaaDoor
