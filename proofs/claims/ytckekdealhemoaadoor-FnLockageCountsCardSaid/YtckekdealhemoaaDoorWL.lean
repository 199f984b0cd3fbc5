/-
  Lockage: the Lean data, what memory reads as, and the contracts of the laws' own helpers on them, in the calculus of conditions.
  Conditions: none beyond each statement's own premises.
-/
import Derived.Test.YtckekdealhemoaaDoorWI
namespace Go.Proofs.YtckekdealhemoaaDoor
set_option linter.unusedSimpArgs false
set_option linter.unusedVariables false
open Go.RowKit
set_option maxRecDepth 10000
structure Lk where
  lock : Int
  minute : Int
  vessels : Int
  cov : Int
  waiting : Int
def Lk.cells (l : Lk) : List Value := [.int .i64 l.lock, .int .i64 l.minute, .int .i64 l.vessels, .int .i64 l.cov, .int .i64 l.waiting]
def Lk.wf (l : Lk) : Prop := In64 l.lock ∧ In64 l.minute ∧ In64 l.vessels ∧ In64 l.cov ∧ In64 l.waiting
def LkS (n : Nat) (f : Nat → Lk) : List Value := rowsN n fun i => (f i).cells
theorem LkS.len (n : Nat) (f : Nat → Lk) : (LkS n f).length = n * 5 := rowsN_length (f := fun i => (f i).cells) (s := 5) (fun _ => rfl) n
theorem LkS.one (n : Nat) (f : Nat → Lk) : (LkS n f).all (·.oneCell') = true := rowsN_all (fun _ => rfl) n
theorem LkS.congr {n : Nat} {f g : Nat → Lk} (h : ∀ i, i < n → f i = g i) : LkS n f = LkS n g := rowsN_congr fun i hi => by rw [h i hi]
theorem LkS.look {w : World} {A : Option Addr} {n i : Nat} {f : Nat → Lk} (h : Seen w A (LkS n f)) (hi : i < n) : ∃ b off, A = some ⟨b, off, none⟩ ∧ b < w.heap.size ∧ RowAt w b (off + i * 5) (f i).cells ∧ w.cell? ⟨b, off + i * 5, none⟩ = some (.int .i64 (f i).lock) ∧ w.cell? ⟨b, off + i * 5 + 1, none⟩ = some (.int .i64 (f i).minute) ∧ w.cell? ⟨b, off + i * 5 + 2, none⟩ = some (.int .i64 (f i).vessels) ∧ w.cell? ⟨b, off + i * 5 + 3, none⟩ = some (.int .i64 (f i).cov) ∧ w.cell? ⟨b, off + i * 5 + 4, none⟩ = some (.int .i64 (f i).waiting) := by
  obtain ⟨b, off, e, r⟩ := Seen.rowAt (s := 5) (fun _ => rfl) (by omega) h hi
  exact ⟨b, off, e, r.1, r, r.2 0 _ rfl, r.2 1 _ rfl, r.2 2 _ rfl, r.2 3 _ rfl, r.2 4 _ rfl⟩
end Go.Proofs.YtckekdealhemoaaDoor
