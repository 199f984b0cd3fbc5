/-
  DroughtRule, Drought: the Lean data, what memory reads as, and the contracts of the laws' own helpers on them, in the calculus of conditions.
  Conditions: none beyond each statement's own premises.
-/
import Derived.Test.YtfbgmdpclgepnaaWI
namespace Go.Proofs.Ytfbgmdpclgepnaa
set_option linter.unusedSimpArgs false
set_option linter.unusedVariables false
open Go.RowKit
set_option maxRecDepth 10000
structure Dr where
  below : Int
  draught : Int
  half : Bool
def Dr.cells (l : Dr) : List Value := [.int .i64 l.below, .int .i64 l.draught, .bool l.half]
def Dr.wf (l : Dr) : Prop := In64 l.below ∧ In64 l.draught ∧ True
def DrS (n : Nat) (f : Nat → Dr) : List Value := rowsN n fun i => (f i).cells
theorem DrS.len (n : Nat) (f : Nat → Dr) : (DrS n f).length = n * 3 := rowsN_length (f := fun i => (f i).cells) (s := 3) (fun _ => rfl) n
theorem DrS.one (n : Nat) (f : Nat → Dr) : (DrS n f).all (·.oneCell') = true := rowsN_all (fun _ => rfl) n
theorem DrS.congr {n : Nat} {f g : Nat → Dr} (h : ∀ i, i < n → f i = g i) : DrS n f = DrS n g := rowsN_congr fun i hi => by rw [h i hi]
theorem DrS.look {w : World} {A : Option Addr} {n i : Nat} {f : Nat → Dr} (h : Seen w A (DrS n f)) (hi : i < n) : ∃ b off, A = some ⟨b, off, none⟩ ∧ b < w.heap.size ∧ RowAt w b (off + i * 3) (f i).cells ∧ w.cell? ⟨b, off + i * 3, none⟩ = some (.int .i64 (f i).below) ∧ w.cell? ⟨b, off + i * 3 + 1, none⟩ = some (.int .i64 (f i).draught) ∧ w.cell? ⟨b, off + i * 3 + 2, none⟩ = some (.bool (f i).half) := by
  obtain ⟨b, off, e, r⟩ := Seen.rowAt (s := 3) (fun _ => rfl) (by omega) h hi
  exact ⟨b, off, e, r.1, r, r.2 0 _ rfl, r.2 1 _ rfl, r.2 2 _ rfl⟩
structure Dg where
  n : Nat
  ru : Nat → Dr
  band : Int
  now : Int
/-- The cells of a value whose slices stand at these places. -/
def Dg.at (d : Dg) (A1 : Option Addr) (c1 : Nat) : List Value := [.slice A1 d.n c1, .int .i64 d.band, .int .i64 d.now]
def Dg.seen (w : World) (d : Dg) (A1 : Option Addr) : Prop := Seen w A1 (DrS d.n d.ru)
def Dg.wf (d : Dg) : Prop := (∀ i, i < d.n → (d.ru i).wf) ∧ In64 d.band ∧ In64 d.now
end Go.Proofs.Ytfbgmdpclgepnaa
