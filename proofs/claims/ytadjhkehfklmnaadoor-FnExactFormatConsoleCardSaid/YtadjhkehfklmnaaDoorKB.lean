/-
  Basins: what is valid, a flow, the sum. Plain.
  Conditions: none beyond each statement's own premises.
-/
import Derived.Test.YtadjhkehfklmnaaDoorKO
namespace Go.Proofs.YtadjhkehfklmnaaDoor
set_option linter.unusedSimpArgs false
set_option linter.unusedVariables false
open Go.RowKit
set_option maxRecDepth 10000
def Ba.ok (b : Ba) : Prop := 0 ≤ b.least ∧ b.least ≤ b.vol ∧ b.vol ≤ b.most ∧ b.most ≤ 100000
def bGood (n : Nat) (f : Nat → Ba) : Prop := (∀ i, i < n → (f i).ok) ∧ 1 ≤ n ∧ n ≤ 6
theorem bGood.no {n k : Nat} {f : Nat → Ba} (hk : k < n) (h : ¬ (f k).ok) : ¬ bGood n f := fun g => h (g.1 k hk)
def bFlow (n : Nat) (a b v : Int) : Prop := (-1 ≤ a ∧ a ≤ (n : Int) - 1) ∧ (-1 ≤ b ∧ b ≤ (n : Int) - 1) ∧ a ≠ b ∧ (1 ≤ v ∧ v ≤ 100000)
def bMv1 (a b v : Int) (i : Nat) (x : Ba) : Ba := if (i : Int) = b then { x with vol := x.vol + v } else if (i : Int) = a then { x with vol := x.vol - v } else x
def bMv (f : Nat → Ba) (a b v : Int) (i : Nat) : Ba := bMv1 a b v i (f i)
def bCan (n : Nat) (f : Nat → Ba) (a b v : Int) : Prop := bGood n f ∧ bFlow n a b v ∧ bGood n (bMv f a b v)
theorem bMv_to {f : Nat → Ba} {a b v : Int} {i : Nat} (h : (i : Int) = b) : bMv f a b v i = { f i with vol := (f i).vol + v } := if_pos h
theorem bMv_from {f : Nat → Ba} {a b v : Int} {i : Nat} (h : ¬ (i : Int) = b) (h2 : (i : Int) = a) : bMv f a b v i = { f i with vol := (f i).vol - v } := by unfold bMv bMv1; rw [if_neg h, if_pos h2]
theorem bMv_no {f : Nat → Ba} {a b v : Int} {i : Nat} (h : ¬ (i : Int) = b) (h2 : ¬ (i : Int) = a) : bMv f a b v i = f i := by unfold bMv bMv1; rw [if_neg h, if_neg h2]
theorem vols_in {n : Nat} {f : Nat → Ba} (h : bGood n f) : ∀ k, k ≤ n → 0 ≤ smI (fun i => (f i).vol) k ∧ smI (fun i => (f i).vol) k ≤ 100000 * k
  | 0, _ => ⟨Int.le_refl _, by show (0 : Int) ≤ _; omega⟩
  | k + 1, hk => by
    have ih := vols_in h k (by omega)
    have h2 := h.1 k (by omega)
    unfold Ba.ok at h2
    have e : smI (fun i => (f i).vol) (k + 1) = smI (fun i => (f i).vol) k + (f k).vol := rfl
    omega
theorem ba_cell (n : Nat) (f : Nat → Ba) (i : Nat) (hi : i < n) (x : Int) : setRange (BaS n f) (i * 3) [.int .i64 x] = BaS n (upd f i { f i with vol := x }) := by
  apply List.ext_getElem?
  intro j
  have hl : i * 3 + 3 ≤ n * 3 := by omega
  rw [setRange_get _ _ _ _ (by rw [BaS.len]; simp; omega)]
  by_cases hj : j < n * 3
  · have e : j = j / 3 * 3 + j % 3 := by omega
    have hm : j % 3 < 3 := Nat.mod_lt _ (by omega)
    have hq : j / 3 < n := by omega
    have g : ∀ f : Nat → Ba, (BaS n f)[j]? = ((f (j / 3)).cells)[j % 3]? := fun f => by
      have := rowsN_get (f := fun i => (f i).cells) (s := 3) (fun _ => rfl) n (j / 3) (j % 3) hq hm
      rw [← e] at this
      exact this
    rw [g, g]
    by_cases h1 : j / 3 = i
    · rw [h1, upd_at]
      by_cases h2 : j % 3 = 0
      · rw [if_pos (by simp; omega), show j - i * 3 = 0 by omega, h2]
        rfl
      · rw [if_neg (by simp; omega)]
        have : j % 3 = 1 ∨ j % 3 = 2 := by omega
        rcases this with h3 | h3 <;> rw [h3] <;> rfl
    · rw [if_neg (by simp; omega), upd_ne _ _ h1]
  · rw [if_neg (by simp; omega), List.getElem?_eq_none (by rw [BaS.len]; omega), List.getElem?_eq_none (by rw [BaS.len]; omega)]
theorem ba_row (n : Nat) (f : Nat → Ba) (i : Nat) (hi : i < n) (x : Ba) : setRange (BaS n f) (i * 3) x.cells = BaS n (upd f i x) := by
  apply List.ext_getElem?
  intro j
  have hl : i * 3 + 3 ≤ n * 3 := by omega
  have hxl : x.cells.length = 3 := rfl
  rw [setRange_get _ _ _ _ (by rw [BaS.len, hxl]; omega), hxl]
  by_cases hj : j < n * 3
  · have e : j = j / 3 * 3 + j % 3 := by omega
    have hm : j % 3 < 3 := Nat.mod_lt _ (by omega)
    have hq : j / 3 < n := by omega
    have g : ∀ f : Nat → Ba, (BaS n f)[j]? = ((f (j / 3)).cells)[j % 3]? := fun f => by
      have := rowsN_get (f := fun i => (f i).cells) (s := 3) (fun _ => rfl) n (j / 3) (j % 3) hq hm
      rw [← e] at this
      exact this
    rw [g, g]
    by_cases h1 : j / 3 = i
    · rw [h1, upd_at, if_pos (by omega), show j - i * 3 = j % 3 by omega]
    · rw [if_neg (by omega), upd_ne _ _ h1]
  · rw [if_neg (by omega), List.getElem?_eq_none (by rw [BaS.len]; omega), List.getElem?_eq_none (by rw [BaS.len]; omega)]
end Go.Proofs.YtadjhkehfklmnaaDoor
