/-
  Vessel, Voyage: the Lean data, what memory reads as, and the contracts of the laws' own helpers on them, in the calculus of conditions.
  Conditions: none beyond each statement's own premises.
-/
import Derived.Test.YtapfljhihbodkaaGreatDoorWI
namespace Go.Proofs.YtapfljhihbodkaaGreatDoor
set_option linter.unusedSimpArgs false
set_option linter.unusedVariables false
open Go.RowKit
set_option maxRecDepth 10000
structure Vs where
  id : Int
  name : ByteArray
  len : Int
  width : Int
  draught : Int
  kind : Int
def Vs.cells (l : Vs) : List Value := [.int .i64 l.id, .string l.name, .int .i64 l.len, .int .i64 l.width, .int .i64 l.draught, .int .i64 l.kind]
def Vs.wf (l : Vs) : Prop := In64 l.id ∧ l.name.size ≤ maxLen ∧ In64 l.len ∧ In64 l.width ∧ In64 l.draught ∧ In64 l.kind
def VsS (n : Nat) (f : Nat → Vs) : List Value := rowsN n fun i => (f i).cells
theorem VsS.len (n : Nat) (f : Nat → Vs) : (VsS n f).length = n * 6 := rowsN_length (f := fun i => (f i).cells) (s := 6) (fun _ => rfl) n
theorem VsS.one (n : Nat) (f : Nat → Vs) : (VsS n f).all (·.oneCell') = true := rowsN_all (fun _ => rfl) n
theorem VsS.congr {n : Nat} {f g : Nat → Vs} (h : ∀ i, i < n → f i = g i) : VsS n f = VsS n g := rowsN_congr fun i hi => by rw [h i hi]
theorem VsS.look {w : World} {A : Option Addr} {n i : Nat} {f : Nat → Vs} (h : Seen w A (VsS n f)) (hi : i < n) : ∃ b off, A = some ⟨b, off, none⟩ ∧ b < w.heap.size ∧ RowAt w b (off + i * 6) (f i).cells ∧ w.cell? ⟨b, off + i * 6, none⟩ = some (.int .i64 (f i).id) ∧ w.cell? ⟨b, off + i * 6 + 1, none⟩ = some (.string (f i).name) ∧ w.cell? ⟨b, off + i * 6 + 2, none⟩ = some (.int .i64 (f i).len) ∧ w.cell? ⟨b, off + i * 6 + 3, none⟩ = some (.int .i64 (f i).width) ∧ w.cell? ⟨b, off + i * 6 + 4, none⟩ = some (.int .i64 (f i).draught) ∧ w.cell? ⟨b, off + i * 6 + 5, none⟩ = some (.int .i64 (f i).kind) := by
  obtain ⟨b, off, e, r⟩ := Seen.rowAt (s := 6) (fun _ => rfl) (by omega) h hi
  exact ⟨b, off, e, r.1, r, r.2 0 _ rfl, r.2 1 _ rfl, r.2 2 _ rfl, r.2 3 _ rfl, r.2 4 _ rfl, r.2 5 _ rfl⟩
structure Vy where
  vs : Vs
  km : Int
  locks : Int
def Vy.cells (l : Vy) : List Value := [.int .i64 l.vs.id, .string l.vs.name, .int .i64 l.vs.len, .int .i64 l.vs.width, .int .i64 l.vs.draught, .int .i64 l.vs.kind, .int .i64 l.km, .int .i64 l.locks]
def Vy.wf (l : Vy) : Prop := In64 l.vs.id ∧ l.vs.name.size ≤ maxLen ∧ In64 l.vs.len ∧ In64 l.vs.width ∧ In64 l.vs.draught ∧ In64 l.vs.kind ∧ In64 l.km ∧ In64 l.locks
def VyS (n : Nat) (f : Nat → Vy) : List Value := rowsN n fun i => (f i).cells
theorem VyS.len (n : Nat) (f : Nat → Vy) : (VyS n f).length = n * 8 := rowsN_length (f := fun i => (f i).cells) (s := 8) (fun _ => rfl) n
theorem VyS.one (n : Nat) (f : Nat → Vy) : (VyS n f).all (·.oneCell') = true := rowsN_all (fun _ => rfl) n
theorem VyS.congr {n : Nat} {f g : Nat → Vy} (h : ∀ i, i < n → f i = g i) : VyS n f = VyS n g := rowsN_congr fun i hi => by rw [h i hi]
theorem VyS.look {w : World} {A : Option Addr} {n i : Nat} {f : Nat → Vy} (h : Seen w A (VyS n f)) (hi : i < n) : ∃ b off, A = some ⟨b, off, none⟩ ∧ b < w.heap.size ∧ RowAt w b (off + i * 8) (f i).cells ∧ w.cell? ⟨b, off + i * 8, none⟩ = some (.int .i64 (f i).vs.id) ∧ w.cell? ⟨b, off + i * 8 + 1, none⟩ = some (.string (f i).vs.name) ∧ w.cell? ⟨b, off + i * 8 + 2, none⟩ = some (.int .i64 (f i).vs.len) ∧ w.cell? ⟨b, off + i * 8 + 3, none⟩ = some (.int .i64 (f i).vs.width) ∧ w.cell? ⟨b, off + i * 8 + 4, none⟩ = some (.int .i64 (f i).vs.draught) ∧ w.cell? ⟨b, off + i * 8 + 5, none⟩ = some (.int .i64 (f i).vs.kind) ∧ w.cell? ⟨b, off + i * 8 + 6, none⟩ = some (.int .i64 (f i).km) ∧ w.cell? ⟨b, off + i * 8 + 7, none⟩ = some (.int .i64 (f i).locks) := by
  obtain ⟨b, off, e, r⟩ := Seen.rowAt (s := 8) (fun _ => rfl) (by omega) h hi
  exact ⟨b, off, e, r.1, r, r.2 0 _ rfl, r.2 1 _ rfl, r.2 2 _ rfl, r.2 3 _ rfl, r.2 4 _ rfl, r.2 5 _ rfl, r.2 6 _ rfl, r.2 7 _ rfl⟩
end Go.Proofs.YtapfljhihbodkaaGreatDoor
