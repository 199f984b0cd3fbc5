/-
  Slices of integers and of bools that are read as arguments, and integers, bools and strings inside a struct.
  Conditions: none beyond each statement's own premises.
-/
import Derived.Test.YtbbafdcmgobkeaaBools
namespace Go.Proofs.Ytbbafdcmgobkeaa
set_option linter.unusedSimpArgs false
set_option linter.unusedVariables false
open Go.RowKit
set_option maxRecDepth 100000 in
theorem open_IS {H : Type} {enc : TypeId × Value → H} {w : World} {base : Nat} {spare : Nat → Bool} {held : Bool} {fuel : Nat} {cs : List Value} {x : DataW H × List MemPlace} (h : DataW.trod enc Try.prog w base spare held fuel 23 cs = some x) :
    ∃ (A : Option Addr) (n c : Nat) (f : Nat → Int), cs = [.slice A n c] ∧ n ≤ 9223372036854775807 ∧ RdI w A n f ∧ ∀ i, i < n → In64 (f i) := by
  obtain ⟨A, n, c, rfl, hn, fu, he⟩ := open_elems (s := 1) Try.underlying23 (by kernel_rfl) (by omega) h
  have H : ∀ i, i < n → ∃ l : Int, (∃ b off, A = some ⟨b, off, none⟩ ∧ b < w.heap.size ∧ w.cell? ⟨b, off + i, none⟩ = some (.int .i64 l)) ∧ In64 l := fun i hi => by
    obtain ⟨b, off, cs', y, hA, hb, hlen, hc, ht⟩ := he i hi
    obtain ⟨l, rfl, hwf⟩ := cell_int Try.underlying3 ht
    have h0 := hc 0 (by omega)
    exact ⟨l, ⟨b, off, hA, hb, by simpa using h0⟩, hwf⟩
  obtain ⟨f, hf⟩ := choose_below (0 : Int) H
  exact ⟨A, n, c, f, rfl, hn, fun i hi => (hf i hi).1, fun i hi => (hf i hi).2⟩
set_option maxRecDepth 100000 in
theorem openV_IS {H : Type} {enc : TypeId × Value → H} {w : World} {base : Nat} {spare : Nat → Bool} {held : Bool} {r : Reach} {b0 : Nat} {v : Value} {d : DataW H} {ps : List MemPlace} (hv : Value.okWide Try.prog w r b0 23 v) (h : DataW.Trod enc Try.prog w base spare held 23 v d ps) :
    ∃ (A : Option Addr) (n c : Nat) (f : Nat → Int), v = .slice A n c ∧ n ≤ 9223372036854775807 ∧ RdI w A n f ∧ ∀ i, i < n → In64 (f i) := by
  obtain ⟨A, n, c, fuel, rfl, hf⟩ := openV_slice Try.underlying23 hv h
  obtain ⟨A', n', c', f, e, hn, hr, hw⟩ := open_IS hf
  cases e
  exact ⟨A, n, c, f, rfl, hn, hr, hw⟩
set_option maxRecDepth 100000 in
theorem open_BS {H : Type} {enc : TypeId × Value → H} {w : World} {base : Nat} {spare : Nat → Bool} {held : Bool} {fuel : Nat} {cs : List Value} {x : DataW H × List MemPlace} (h : DataW.trod enc Try.prog w base spare held fuel 22 cs = some x) :
    ∃ (A : Option Addr) (n c : Nat) (f : Nat → Bool), cs = [.slice A n c] ∧ n ≤ 9223372036854775807 ∧ RdB w A n f ∧ ∀ i, i < n → True := by
  obtain ⟨A, n, c, rfl, hn, fu, he⟩ := open_elems (s := 1) Try.underlying22 (by kernel_rfl) (by omega) h
  have H : ∀ i, i < n → ∃ l : Bool, (∃ b off, A = some ⟨b, off, none⟩ ∧ b < w.heap.size ∧ w.cell? ⟨b, off + i, none⟩ = some (.bool l)) ∧ True := fun i hi => by
    obtain ⟨b, off, cs', y, hA, hb, hlen, hc, ht⟩ := he i hi
    obtain ⟨l, rfl, hwf⟩ := cell_bool Try.underlying4 ht
    have h0 := hc 0 (by omega)
    exact ⟨l, ⟨b, off, hA, hb, by simpa using h0⟩, hwf⟩
  obtain ⟨f, hf⟩ := choose_below false H
  exact ⟨A, n, c, f, rfl, hn, fun i hi => (hf i hi).1, fun i hi => (hf i hi).2⟩
end Go.Proofs.Ytbbafdcmgobkeaa
