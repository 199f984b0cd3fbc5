/-
  Lists of ints as rows of cells; results that are such a list and a bool.
  Conditions: none beyond each statement's own premises.
-/
import Derived.Test.YtadjhkehfklmnaaDoorWI
namespace Go.Proofs.YtadjhkehfklmnaaDoor
set_option linter.unusedSimpArgs false
set_option linter.unusedVariables false
open Go.RowKit
def LS (l : List Int) : List Value := l.map (.int .i64 ·)
theorem LS_app (a b : List Int) : LS (a ++ b) = LS a ++ LS b := List.map_append
theorem LS_len (l : List Int) : (LS l).length = l.length * 1 := by simp [LS]
theorem LS_IS (l : List Int) : LS l = IS l.length (fun i => l.getD i 0) := by
  have e : IS l.length (fun i => l.getD i 0) = (List.range l.length).map (fun i => Value.int .i64 (l.getD i 0)) := rowsN_one _ _
  rw [e]
  apply List.ext_getElem?
  intro i
  simp only [LS, List.getElem?_map]
  rcases Nat.lt_or_ge i l.length with h | h
  · simp [h]
  · simp [h]
theorem IS_LS (n : Nat) (f : Nat → Int) : IS n f = LS ((List.range n).map f) := by
  have e : IS n f = (List.range n).map (fun i => Value.int .i64 (f i)) := rowsN_one _ _
  rw [e]
  simp [LS, Function.comp_def]
/-- A result: a list of ints and whether there is one. -/
def lsV (l : List Int) (b : Bool) (i : Option Addr × Nat) : Value := .tuple #[.slice i.1 l.length i.2, .bool b]
def lsN (l : List Int) (i : Option Addr × Nat) : List Own := [.row (.slice i.1 l.length i.2) 3 1 l.length (IS l.length fun i => l.getD i 0)]
theorem lsN_eq (l : List Int) (i : Option Addr × Nat) : lsN l i = [.row (.slice i.1 l.length i.2) 3 1 l.length (LS l)] := by unfold lsN; rw [LS_IS]
theorem Seen.look1 {w : World} {A : Option Addr} {l : List Int} (h : Seen w A (LS l)) (k : Nat) {x : Int} (hx : l[k]? = some x) : ∃ b off, A = some ⟨b, off, none⟩ ∧ b < w.heap.size ∧ w.cell? ⟨b, off + k, none⟩ = some (.int .i64 x) := by
  obtain ⟨b, off, e, hb, hc⟩ := h k (.int .i64 x) (by simp [LS, hx])
  exact ⟨b, off, e, hb, hc⟩
theorem IS_set {n i : Nat} {f : Nat → Int} (v : Int) (h : i < n) : (IS n f).set i (.int .i64 v) = IS n (upd f i v) := by
  have e : ∀ g : Nat → Int, IS n g = (List.range n).map (fun i => Value.int .i64 (g i)) := fun g => rowsN_one _ _
  rw [e, e, range_set _ _ _ _ h]
  congr 1
  funext j
  unfold upd
  split <;> rfl
theorem BS_set {n i : Nat} {f : Nat → Bool} (v : Bool) (h : i < n) : (BS n f).set i (.bool v) = BS n (upd f i v) := by
  have e : ∀ g : Nat → Bool, BS n g = (List.range n).map (fun i => Value.bool (g i)) := fun g => rowsN_one _ _
  rw [e, e, range_set _ _ _ _ h]
  congr 1
  funext j
  unfold upd
  split <;> rfl
theorem IS_zeros (n : Nat) : zerosL [.int .i64 0] (n * 1) = IS n (fun _ => 0) := by
  have e : IS n (fun _ => 0) = (List.range n).map (fun _ => Value.int .i64 0) := rowsN_one _ _
  rw [e, Nat.mul_one]
  unfold zerosL
  rw [toList_madeCells_one, List.map_const', List.length_range]
abbrev Sl2 := (Option Addr × Nat) × (Option Addr × Nat)
end Go.Proofs.YtadjhkehfklmnaaDoor
