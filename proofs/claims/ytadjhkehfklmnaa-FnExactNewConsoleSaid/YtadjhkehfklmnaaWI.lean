/-
  Int, Bool, String: the Lean data, what memory reads as, and the contracts of the laws' own helpers on them, in the calculus of conditions.
  Conditions: none beyond each statement's own premises.
-/
import Derived.Test.YtadjhkehfklmnaaVT
import Derived.Test.YtadjhkehfklmnaaW6
import Derived.Test.YtadjhkehfklmnaaRow
namespace Go.Proofs.Ytadjhkehfklmnaa
set_option linter.unusedSimpArgs false
set_option linter.unusedVariables false
open Go.RowKit
set_option maxRecDepth 10000
def IS (n : Nat) (f : Nat → Int) : List Value := rowsN n fun i => ([.int .i64 (f i)] : List Value)
theorem IS.len (n : Nat) (f : Nat → Int) : (IS n f).length = n * 1 := rowsN_length (f := fun i => ([.int .i64 (f i)] : List Value)) (s := 1) (fun _ => rfl) n
theorem IS.one (n : Nat) (f : Nat → Int) : (IS n f).all (·.oneCell') = true := rowsN_all (fun _ => rfl) n
theorem IS.congr {n : Nat} {f g : Nat → Int} (h : ∀ i, i < n → f i = g i) : IS n f = IS n g := rowsN_congr fun i hi => by rw [h i hi]
theorem IS.look {w : World} {A : Option Addr} {n i : Nat} {f : Nat → Int} (h : Seen w A (IS n f)) (hi : i < n) : ∃ b off, A = some ⟨b, off, none⟩ ∧ b < w.heap.size ∧ w.cell? ⟨b, off + i, none⟩ = some (.int .i64 (f i)) := Seen.at1 h hi
def BS (n : Nat) (f : Nat → Bool) : List Value := rowsN n fun i => ([.bool (f i)] : List Value)
theorem BS.len (n : Nat) (f : Nat → Bool) : (BS n f).length = n * 1 := rowsN_length (f := fun i => ([.bool (f i)] : List Value)) (s := 1) (fun _ => rfl) n
theorem BS.one (n : Nat) (f : Nat → Bool) : (BS n f).all (·.oneCell') = true := rowsN_all (fun _ => rfl) n
theorem BS.congr {n : Nat} {f g : Nat → Bool} (h : ∀ i, i < n → f i = g i) : BS n f = BS n g := rowsN_congr fun i hi => by rw [h i hi]
theorem BS.look {w : World} {A : Option Addr} {n i : Nat} {f : Nat → Bool} (h : Seen w A (BS n f)) (hi : i < n) : ∃ b off, A = some ⟨b, off, none⟩ ∧ b < w.heap.size ∧ w.cell? ⟨b, off + i, none⟩ = some (.bool (f i)) := Seen.at1 h hi
def TxS (n : Nat) (f : Nat → ByteArray) : List Value := rowsN n fun i => ([.string (f i)] : List Value)
theorem TxS.len (n : Nat) (f : Nat → ByteArray) : (TxS n f).length = n * 1 := rowsN_length (f := fun i => ([.string (f i)] : List Value)) (s := 1) (fun _ => rfl) n
theorem TxS.one (n : Nat) (f : Nat → ByteArray) : (TxS n f).all (·.oneCell') = true := rowsN_all (fun _ => rfl) n
theorem TxS.congr {n : Nat} {f g : Nat → ByteArray} (h : ∀ i, i < n → f i = g i) : TxS n f = TxS n g := rowsN_congr fun i hi => by rw [h i hi]
theorem TxS.look {w : World} {A : Option Addr} {n i : Nat} {f : Nat → ByteArray} (h : Seen w A (TxS n f)) (hi : i < n) : ∃ b off, A = some ⟨b, off, none⟩ ∧ b < w.heap.size ∧ w.cell? ⟨b, off + i, none⟩ = some (.string (f i)) := Seen.at1 h hi
end Go.Proofs.Ytadjhkehfklmnaa
