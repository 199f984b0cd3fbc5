/-
  Duty: the Lean data, what memory reads as, and the contracts of the laws' own helpers on them, in the calculus of conditions.
  Conditions: none beyond each statement's own premises.
-/
import Derived.Test.YtegifeokfdadpaaWI
namespace Go.Proofs.Ytegifeokfdadpaa
set_option linter.unusedSimpArgs false
set_option linter.unusedVariables false
open Go.RowKit
set_option maxRecDepth 10000
structure Du where
  ce : Int
  n : Nat
  act : Nat → Bool
  m : Nat
  lk : Nat → Int
/-- The cells of a value whose slices stand at these places. -/
def Du.at (d : Du) (A1 : Option Addr) (c1 : Nat) (A2 : Option Addr) (c2 : Nat) : List Value := [.int .i64 d.ce, .slice A1 d.n c1, .slice A2 d.m c2]
def Du.seen (w : World) (d : Du) (A1 : Option Addr) (A2 : Option Addr) : Prop := Seen w A1 (BS d.n d.act) ∧ Seen w A2 (IS d.m d.lk)
def Du.wf (d : Du) : Prop := In64 d.ce ∧ (∀ i, i < d.n → True) ∧ (∀ i, i < d.m → In64 (d.lk i))
end Go.Proofs.Ytegifeokfdadpaa
