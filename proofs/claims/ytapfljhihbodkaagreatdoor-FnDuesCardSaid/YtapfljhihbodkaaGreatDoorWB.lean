/-
  DueStep, Tariff: the Lean data, what memory reads as, and the contracts of the laws' own helpers on them, in the calculus of conditions.
  Conditions: none beyond each statement's own premises.
-/
import Derived.Test.YtapfljhihbodkaaGreatDoorWI
namespace Go.Proofs.YtapfljhihbodkaaGreatDoor
set_option linter.unusedSimpArgs false
set_option linter.unusedVariables false
open Go.RowKit
set_option maxRecDepth 10000
structure Ds where
  frm : Int
  cents : Int
def Ds.cells (l : Ds) : List Value := [.int .i64 l.frm, .int .i64 l.cents]
def Ds.wf (l : Ds) : Prop := In64 l.frm ∧ In64 l.cents
def DsS (n : Nat) (f : Nat → Ds) : List Value := rowsN n fun i => (f i).cells
theorem DsS.len (n : Nat) (f : Nat → Ds) : (DsS n f).length = n * 2 := rowsN_length (f := fun i => (f i).cells) (s := 2) (fun _ => rfl) n
theorem DsS.one (n : Nat) (f : Nat → Ds) : (DsS n f).all (·.oneCell') = true := rowsN_all (fun _ => rfl) n
theorem DsS.congr {n : Nat} {f g : Nat → Ds} (h : ∀ i, i < n → f i = g i) : DsS n f = DsS n g := rowsN_congr fun i hi => by rw [h i hi]
theorem DsS.look {w : World} {A : Option Addr} {n i : Nat} {f : Nat → Ds} (h : Seen w A (DsS n f)) (hi : i < n) : ∃ b off, A = some ⟨b, off, none⟩ ∧ b < w.heap.size ∧ RowAt w b (off + i * 2) (f i).cells ∧ w.cell? ⟨b, off + i * 2, none⟩ = some (.int .i64 (f i).frm) ∧ w.cell? ⟨b, off + i * 2 + 1, none⟩ = some (.int .i64 (f i).cents) := by
  obtain ⟨b, off, e, r⟩ := Seen.rowAt (s := 2) (fun _ => rfl) (by omega) h hi
  exact ⟨b, off, e, r.1, r, r.2 0 _ rfl, r.2 1 _ rfl⟩
structure Tf where
  n : Nat
  st : Nat → Ds
  lock : Int
  m : Nat
  pc : Nat → Int
/-- The cells of a value whose slices stand at these places. -/
def Tf.at (d : Tf) (A1 : Option Addr) (c1 : Nat) (A2 : Option Addr) (c2 : Nat) : List Value := [.slice A1 d.n c1, .int .i64 d.lock, .slice A2 d.m c2]
def Tf.seen (w : World) (d : Tf) (A1 : Option Addr) (A2 : Option Addr) : Prop := Seen w A1 (DsS d.n d.st) ∧ Seen w A2 (IS d.m d.pc)
def Tf.wf (d : Tf) : Prop := (∀ i, i < d.n → (d.st i).wf) ∧ In64 d.lock ∧ (∀ i, i < d.m → In64 (d.pc i))
end Go.Proofs.YtapfljhihbodkaaGreatDoor
