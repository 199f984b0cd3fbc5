/-
  Int, Bool, String: the Lean data, what memory reads as, and the contracts of the laws' own helpers on them, in the calculus of conditions.
  Conditions: none beyond each statement's own premises.
-/
import Derived.Test.YtadjhkehfklmnaaDoorVT
import Derived.Test.YtadjhkehfklmnaaDoorW6
import Derived.Test.YtadjhkehfklmnaaDoorRow
namespace Go.Proofs.YtadjhkehfklmnaaDoor
set_option linter.unusedSimpArgs false
set_option linter.unusedVariables false
open Go.RowKit
set_option maxRecDepth 10000
def IS (n : Nat) (f : Nat → Int) : List Value := rowsN n fun i => ([.int .i64 (f i)] : List Value)
theorem IS.len (n : Nat) (f : Nat → Int) : (IS n f).length = n * 1 := rowsN_length (f := fun i => ([.int .i64 (f i)] : List Value)) (s := 1) (fun _ => rfl) n
theorem IS.one (n : Nat) (f : Nat → Int) : (IS n f).all (·.oneCell') = true := rowsN_all (fun _ => rfl) n
theorem IS.congr {n : Nat} {f g : Nat → Int} (h : ∀ i, i < n → f i = g i) : IS n f = IS n g := rowsN_congr fun i hi => by rw [h i hi]
theorem IS.look {w : World} {A : Option Addr} {n i : Nat} {f : Nat → Int} (h : Seen w A (IS n f)) (hi : i < n) : ∃ b off, A = some ⟨b, off, none⟩ ∧ b < w.heap.size ∧ w.cell? ⟨b, off + i, none⟩ = some (.int .i64 (f i)) := Seen.at1 h hi
set_option maxRecDepth 100000 in
theorem open_IS {H : Type} {enc : TypeId × Value → H} {w : World} {base : Nat} {spare : Nat → Bool} {held : Bool} {fuel : Nat} {cs : List Value} {x : DataW H × List MemPlace} (h : DataW.trod enc Tryd.prog w base spare held fuel 75 cs = some x) :
    ∃ (A : Option Addr) (n c : Nat) (f : Nat → Int), cs = [.slice A n c] ∧ n ≤ 9223372036854775807 ∧ Seen w A (IS n f) ∧ ∀ i, i < n → In64 (f i) := by
  obtain ⟨A, n, c, rfl, hn, fu, he⟩ := open_elems (s := 1) Tryd.underlying75 (by kernel_rfl) (by omega) h
  have H : ∀ i, i < n → ∃ l : Int, (∃ b off, A = some ⟨b, off, none⟩ ∧ RowAt w b (off + i * 1) [.int .i64 l]) ∧ In64 l := fun i hi => by
    obtain ⟨b, off, cs', y, hA, hb, hlen, hc, ht⟩ := he i hi
    obtain ⟨l, rfl, hwf⟩ := cell_int Tryd.underlying3 ht
    exact ⟨l, ⟨b, off, hA, hb, fun j u hj => (hc j (by
      rcases Nat.lt_or_ge j 1 with h2 | h2
      · exact h2
      · rw [List.getElem?_eq_none h2] at hj; cases hj)).trans hj⟩, hwf⟩
  obtain ⟨f, hf⟩ := choose_below (0 : Int) H
  exact ⟨A, n, c, f, rfl, hn, Seen.ofRows (s := 1) (fun _ => rfl) (fun i hi => (hf i hi).1), fun i hi => (hf i hi).2⟩
theorem openV_IS {H : Type} {enc : TypeId × Value → H} {w : World} {base : Nat} {spare : Nat → Bool} {held : Bool} {r : Reach} {b0 : Nat} {v : Value} {d : DataW H} {ps : List MemPlace} (hv : Value.okWide Tryd.prog w r b0 75 v) (h : DataW.Trod enc Tryd.prog w base spare held 75 v d ps) :
    ∃ (A : Option Addr) (n c : Nat) (f : Nat → Int), v = .slice A n c ∧ n ≤ 9223372036854775807 ∧ Seen w A (IS n f) ∧ ∀ i, i < n → In64 (f i) := by
  obtain ⟨A, n, c, fuel, rfl, hf⟩ := openV_slice Tryd.underlying75 hv h
  obtain ⟨A', n', c', f, e, hn, hr, hw⟩ := open_IS hf
  cases e
  exact ⟨A, n, c, f, rfl, hn, hr, hw⟩
def BS (n : Nat) (f : Nat → Bool) : List Value := rowsN n fun i => ([.bool (f i)] : List Value)
theorem BS.len (n : Nat) (f : Nat → Bool) : (BS n f).length = n * 1 := rowsN_length (f := fun i => ([.bool (f i)] : List Value)) (s := 1) (fun _ => rfl) n
theorem BS.one (n : Nat) (f : Nat → Bool) : (BS n f).all (·.oneCell') = true := rowsN_all (fun _ => rfl) n
theorem BS.congr {n : Nat} {f g : Nat → Bool} (h : ∀ i, i < n → f i = g i) : BS n f = BS n g := rowsN_congr fun i hi => by rw [h i hi]
theorem BS.look {w : World} {A : Option Addr} {n i : Nat} {f : Nat → Bool} (h : Seen w A (BS n f)) (hi : i < n) : ∃ b off, A = some ⟨b, off, none⟩ ∧ b < w.heap.size ∧ w.cell? ⟨b, off + i, none⟩ = some (.bool (f i)) := Seen.at1 h hi
set_option maxRecDepth 100000 in
theorem open_BS {H : Type} {enc : TypeId × Value → H} {w : World} {base : Nat} {spare : Nat → Bool} {held : Bool} {fuel : Nat} {cs : List Value} {x : DataW H × List MemPlace} (h : DataW.trod enc Tryd.prog w base spare held fuel 65 cs = some x) :
    ∃ (A : Option Addr) (n c : Nat) (f : Nat → Bool), cs = [.slice A n c] ∧ n ≤ 9223372036854775807 ∧ Seen w A (BS n f) ∧ ∀ i, i < n → True := by
  obtain ⟨A, n, c, rfl, hn, fu, he⟩ := open_elems (s := 1) Tryd.underlying65 (by kernel_rfl) (by omega) h
  have H : ∀ i, i < n → ∃ l : Bool, (∃ b off, A = some ⟨b, off, none⟩ ∧ RowAt w b (off + i * 1) [.bool l]) ∧ True := fun i hi => by
    obtain ⟨b, off, cs', y, hA, hb, hlen, hc, ht⟩ := he i hi
    obtain ⟨l, rfl, hwf⟩ := cell_bool Tryd.underlying4 ht
    exact ⟨l, ⟨b, off, hA, hb, fun j u hj => (hc j (by
      rcases Nat.lt_or_ge j 1 with h2 | h2
      · exact h2
      · rw [List.getElem?_eq_none h2] at hj; cases hj)).trans hj⟩, hwf⟩
  obtain ⟨f, hf⟩ := choose_below (false : Bool) H
  exact ⟨A, n, c, f, rfl, hn, Seen.ofRows (s := 1) (fun _ => rfl) (fun i hi => (hf i hi).1), fun i hi => (hf i hi).2⟩
theorem openV_BS {H : Type} {enc : TypeId × Value → H} {w : World} {base : Nat} {spare : Nat → Bool} {held : Bool} {r : Reach} {b0 : Nat} {v : Value} {d : DataW H} {ps : List MemPlace} (hv : Value.okWide Tryd.prog w r b0 65 v) (h : DataW.Trod enc Tryd.prog w base spare held 65 v d ps) :
    ∃ (A : Option Addr) (n c : Nat) (f : Nat → Bool), v = .slice A n c ∧ n ≤ 9223372036854775807 ∧ Seen w A (BS n f) ∧ ∀ i, i < n → True := by
  obtain ⟨A, n, c, fuel, rfl, hf⟩ := openV_slice Tryd.underlying65 hv h
  obtain ⟨A', n', c', f, e, hn, hr, hw⟩ := open_BS hf
  cases e
  exact ⟨A, n, c, f, rfl, hn, hr, hw⟩
def TxS (n : Nat) (f : Nat → ByteArray) : List Value := rowsN n fun i => ([.string (f i)] : List Value)
theorem TxS.len (n : Nat) (f : Nat → ByteArray) : (TxS n f).length = n * 1 := rowsN_length (f := fun i => ([.string (f i)] : List Value)) (s := 1) (fun _ => rfl) n
theorem TxS.one (n : Nat) (f : Nat → ByteArray) : (TxS n f).all (·.oneCell') = true := rowsN_all (fun _ => rfl) n
theorem TxS.congr {n : Nat} {f g : Nat → ByteArray} (h : ∀ i, i < n → f i = g i) : TxS n f = TxS n g := rowsN_congr fun i hi => by rw [h i hi]
theorem TxS.look {w : World} {A : Option Addr} {n i : Nat} {f : Nat → ByteArray} (h : Seen w A (TxS n f)) (hi : i < n) : ∃ b off, A = some ⟨b, off, none⟩ ∧ b < w.heap.size ∧ w.cell? ⟨b, off + i, none⟩ = some (.string (f i)) := Seen.at1 h hi
set_option maxRecDepth 100000 in
theorem open_TxS {H : Type} {enc : TypeId × Value → H} {w : World} {base : Nat} {spare : Nat → Bool} {held : Bool} {fuel : Nat} {cs : List Value} {x : DataW H × List MemPlace} (h : DataW.trod enc Tryd.prog w base spare held fuel 64 cs = some x) :
    ∃ (A : Option Addr) (n c : Nat) (f : Nat → ByteArray), cs = [.slice A n c] ∧ n ≤ 9223372036854775807 ∧ Seen w A (TxS n f) ∧ ∀ i, i < n → (f i).size ≤ maxLen := by
  obtain ⟨A, n, c, rfl, hn, fu, he⟩ := open_elems (s := 1) Tryd.underlying64 (by kernel_rfl) (by omega) h
  have H : ∀ i, i < n → ∃ l : ByteArray, (∃ b off, A = some ⟨b, off, none⟩ ∧ RowAt w b (off + i * 1) [.string l]) ∧ l.size ≤ maxLen := fun i hi => by
    obtain ⟨b, off, cs', y, hA, hb, hlen, hc, ht⟩ := he i hi
    obtain ⟨l, rfl, hwf⟩ := cell_string Tryd.underlying9 ht
    exact ⟨l, ⟨b, off, hA, hb, fun j u hj => (hc j (by
      rcases Nat.lt_or_ge j 1 with h2 | h2
      · exact h2
      · rw [List.getElem?_eq_none h2] at hj; cases hj)).trans hj⟩, hwf⟩
  obtain ⟨f, hf⟩ := choose_below (ByteArray.empty : ByteArray) H
  exact ⟨A, n, c, f, rfl, hn, Seen.ofRows (s := 1) (fun _ => rfl) (fun i hi => (hf i hi).1), fun i hi => (hf i hi).2⟩
theorem openV_TxS {H : Type} {enc : TypeId × Value → H} {w : World} {base : Nat} {spare : Nat → Bool} {held : Bool} {r : Reach} {b0 : Nat} {v : Value} {d : DataW H} {ps : List MemPlace} (hv : Value.okWide Tryd.prog w r b0 64 v) (h : DataW.Trod enc Tryd.prog w base spare held 64 v d ps) :
    ∃ (A : Option Addr) (n c : Nat) (f : Nat → ByteArray), v = .slice A n c ∧ n ≤ 9223372036854775807 ∧ Seen w A (TxS n f) ∧ ∀ i, i < n → (f i).size ≤ maxLen := by
  obtain ⟨A, n, c, fuel, rfl, hf⟩ := openV_slice Tryd.underlying64 hv h
  obtain ⟨A', n', c', f, e, hn, hr, hw⟩ := open_TxS hf
  cases e
  exact ⟨A, n, c, f, rfl, hn, hr, hw⟩
end Go.Proofs.YtadjhkehfklmnaaDoor
