/-
  The dearest voyage of a list: the program's and the reference's.
  Conditions: none beyond each statement's own premises.
-/
import Derived.Test.YtapfljhihbodkaaB8
namespace Go.Proofs.Ytapfljhihbodkaa
set_option linter.unusedSimpArgs false
set_option linter.unusedVariables false
open Go.RowKit
set_option maxRecDepth 10000
def best (g : Nat → Int) : Nat → Int
  | 0 => -1
  | k + 1 => if best g k < g k then g k else best g k
def idx (g : Nat → Int) : Nat → Nat
  | 0 => 0
  | k + 1 => if best g k < g k then k else idx g k
theorem best_yes {g : Nat → Int} {k : Nat} (h : best g k < g k) : best g (k + 1) = g k ∧ idx g (k + 1) = k := ⟨if_pos h, if_pos h⟩
theorem best_no {g : Nat → Int} {k : Nat} (h : ¬ best g k < g k) : best g (k + 1) = best g k ∧ idx g (k + 1) = idx g k := ⟨if_neg h, if_neg h⟩
theorem best_in {g : Nat → Int} {n : Nat} {M : Int} (h0 : ∀ i, i < n → 0 ≤ g i ∧ g i ≤ M) (hM : 0 ≤ M) : ∀ k, k ≤ n → -1 ≤ best g k ∧ best g k ≤ M ∧ idx g k ≤ k
  | 0, _ => ⟨Int.le_refl _, by show (-1 : Int) ≤ M; omega, Nat.le_refl _⟩
  | k + 1, hk => by
    have a := best_in h0 hM k (by omega)
    have b := h0 k (by omega)
    by_cases h : best g k < g k
    · have e := best_yes h
      omega
    · have e := best_no h
      omega
theorem best_first {g : Nat → Int} {n : Nat} (h0 : ∀ i, i < n → 0 ≤ g i) : ∀ k, k ≤ n → 0 < k → idx g k < k ∧ g (idx g k) = best g k ∧ ∀ j, j < idx g k → g j < best g k
  | 0, _, h => absurd h (by omega)
  | 1, hk, _ => by
    have hg := h0 0 (by omega)
    have h : best g 0 < g 0 := by show (-1 : Int) < g 0; omega
    have e := best_yes h
    rw [e.1, e.2]
    exact ⟨by omega, rfl, fun j hj => absurd hj (by omega)⟩
  | k + 2, hk, _ => by
    obtain ⟨a, b, c⟩ := best_first h0 (k + 1) (by omega) (by omega)
    by_cases h : best g (k + 1) < g (k + 1)
    · have e := best_yes h
      rw [e.1, e.2]
      refine ⟨by omega, rfl, fun j hj => ?_⟩
      have hle : ∀ m, m ≤ k + 1 → ∀ j, j < m → g j ≤ best g m := by
        intro m
        induction m with
        | zero => intro _ j hj; omega
        | succ m ih =>
          intro hm j hj
          by_cases h2 : best g m < g m
          · have e2 := best_yes h2
            rcases Nat.lt_or_ge j m with h3 | h3
            · have := ih (by omega) j h3; omega
            · obtain rfl : j = m := by omega
              omega
          · have e2 := best_no h2
            rcases Nat.lt_or_ge j m with h3 | h3
            · have := ih (by omega) j h3; omega
            · obtain rfl : j = m := by omega
              omega
      have := hle (k + 1) (Nat.le_refl _) j (by omega)
      omega
    · have e := best_no h
      rw [e.1, e.2]
      exact ⟨by omega, b, c⟩
end Go.Proofs.Ytapfljhihbodkaa
