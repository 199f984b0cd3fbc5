/-
  Texts searched and parted by the library, tested, summed; the numerals.
  Conditions: none beyond each statement's own premises.
-/
import Derived.Test.YtapfljhihbodkaaGreatDoorEA
import Derived.Test.YtapfljhihbodkaaGreatDoorW3
import Derived.Test.YtapfljhihbodkaaGreatDoorShelf
import Derived.WalkSmall
import Derived.Lib.LaidTab
import Derived.Lib.AppendIntMem
namespace Go.Proofs.YtapfljhihbodkaaGreatDoor
set_option linter.unusedSimpArgs false
set_option linter.unusedVariables false
open Go.RowKit
set_option maxRecDepth 10000
theorem index_v (c : UInt8) (l : List UInt8) (w : World) : Calls Tryz.prog 76 #[.string (tx l), .string ⟨#[c]⟩] w (Post (.int .i64 (Lib.indexByte l c)) w) :=
  (Tryz.stringslite_Index_one (tx l) c w).mono fun e w' ⟨he, hw⟩ => ⟨by rw [he]; simp [tx], by rw [hw]; exact Below.refl _ _⟩
/-! ### Plain texts -/
def okA (s : ByteArray) (i : Nat) : Prop := ∀ h : i < s.size, 32 ≤ s[i].toNat ∧ s[i].toNat ≤ 126 ∧ ¬ s[i].toNat = 35
theorem plain_iff (l : List UInt8) : (∀ i, i < (tx l).size → okA (tx l) i) ↔ plainT l := by
  constructor
  · intro h b hb
    obtain ⟨i, hi, rfl⟩ := List.getElem_of_mem hb
    have hi2 : i < (tx l).size := by rw [tx_size]; exact hi
    obtain ⟨h1, h2, h3⟩ := h i hi2 hi2
    exact ⟨h1, h2, fun e => h3 (congrArg UInt8.toNat e)⟩
  · intro h i hi hi2
    have hi3 : i < l.length := by rw [← tx_size]; exact hi
    obtain ⟨h1, h2, h3⟩ := h _ (List.getElem_mem hi3)
    exact ⟨h1, h2, fun e => h3 (UInt8.toNat_inj.1 e)⟩
/-! ### Good records -/
end Go.Proofs.YtapfljhihbodkaaGreatDoor
