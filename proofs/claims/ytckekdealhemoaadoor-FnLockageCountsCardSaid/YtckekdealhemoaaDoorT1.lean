/-
  What a good record of lockages says of each; the longest gap, in plain terms.
  Conditions: none beyond each statement's own premises.
-/
import Derived.Test.YtckekdealhemoaaDoorR1
namespace Go.Proofs.YtckekdealhemoaaDoor
set_option linter.unusedSimpArgs false
set_option linter.unusedVariables false
open Go.RowKit
set_option maxRecDepth 10000
section
variable {L : Nat → Lk} {n k : Nat}
theorem rec_lock (h : lgs n L) (hk : k < n) : 0 ≤ (L k).lock ∧ (L k).lock ≤ 4 := (h.1 k hk).1.1
theorem rec_minute (h : lgs n L) (hk : k < n) : 0 ≤ (L k).minute ∧ (L k).minute ≤ 9999 := (h.1 k hk).1.2.1
theorem rec_vessels (h : lgs n L) (hk : k < n) : 0 ≤ (L k).vessels ∧ (L k).vessels ≤ 4 := (h.1 k hk).1.2.2.1
theorem rec_cells (h : lgs n L) (hk : k < n) : 0 ≤ (L k).cov ∧ (L k).cov ≤ 18 := by
  have h1 := (h.1 k hk).1.2.2.2.1
  have h2 := rec_vessels h hk
  omega
theorem rec_waiting (h : lgs n L) (hk : k < n) : 0 ≤ (L k).waiting ∧ (L k).waiting ≤ 9999 := (h.1 k hk).1.2.2.2.2.1
theorem rec_len (h : lgs n L) : n ≤ 15 := h.2
theorem rec_next (h : lgs n L) (hk : k + 1 < n) : (L k).minute ≤ (L (k + 1)).minute := (h.1 (k + 1) hk).2 (by omega)
end
theorem rec_mono {L : Nat → Lk} {n a : Nat} (h : lgs n L) : ∀ b, a ≤ b → b < n → (L a).minute ≤ (L b).minute
  | 0, hab, _ => by obtain rfl : a = 0 := by omega
                    omega
  | b + 1, hab, hb => by
    rcases Nat.lt_or_ge a (b + 1) with hlt | hge
    · exact Int.le_trans (rec_mono h b (by omega) (by omega)) (rec_next h hb)
    · obtain rfl : a = b + 1 := by omega
      omega
/-- The longest gap so far, and the minute of the last lockage. -/
def gapSt (L : Nat → Lk) (lock : Int) : Nat → Int × Int
  | 0 => (-1, -1)
  | k + 1 => if (L k).lock = lock then (if 0 ≤ (gapSt L lock k).2 then mx (gapSt L lock k).1 ((L k).minute - (gapSt L lock k).2) else (gapSt L lock k).1, (L k).minute) else gapSt L lock k
theorem gap_skip {L : Nat → Lk} {lock : Int} {k : Nat} (h : ¬ (L k).lock = lock) : gapSt L lock (k + 1) = gapSt L lock k := if_neg h
theorem gap_more {L : Nat → Lk} {lock : Int} {k : Nat} (h : (L k).lock = lock) (h2 : 0 ≤ (gapSt L lock k).2) : gapSt L lock (k + 1) = (mx (gapSt L lock k).1 ((L k).minute - (gapSt L lock k).2), (L k).minute) := by
  rw [gapSt, if_pos h, if_pos h2]
theorem gap_first {L : Nat → Lk} {lock : Int} {k : Nat} (h : (L k).lock = lock) (h2 : ¬ 0 ≤ (gapSt L lock k).2) : gapSt L lock (k + 1) = ((gapSt L lock k).1, (L k).minute) := by
  rw [gapSt, if_pos h, if_neg h2]
theorem gapSt_bd {L : Nat → Lk} {n : Nat} (h : lgs n L) (lock : Int) : ∀ k, k ≤ n → -1 ≤ (gapSt L lock k).1 ∧ (gapSt L lock k).1 ≤ 9999 ∧ -1 ≤ (gapSt L lock k).2 ∧ (gapSt L lock k).2 ≤ 9999
  | 0, _ => by simp [gapSt]
  | k + 1, hk => by
    have ih := gapSt_bd h lock k (by omega)
    have hm := rec_minute h (k := k) (by omega)
    by_cases h1 : (L k).lock = lock
    · by_cases h2 : 0 ≤ (gapSt L lock k).2
      · rw [gap_more h1 h2]
        have := le_mx (gapSt L lock k).1 ((L k).minute - (gapSt L lock k).2)
        have := mx_le (a := (gapSt L lock k).1) (b := (L k).minute - (gapSt L lock k).2) (c := 9999) (by omega) (by omega)
        simp only
        omega
      · rw [gap_first h1 h2]
        simp only
        omega
    · rw [gap_skip h1]
      exact ih
def okG (n : Nat) (L : Nat → Lk) (lock : Int) : Prop := lgs n L ∧ 0 ≤ lock ∧ lock ≤ 4
noncomputable def gaV (n : Nat) (L : Nat → Lk) (lock : Int) : Int × Bool := if tr (okG n L lock ∧ 0 ≤ (gapSt L lock n).1) then ((gapSt L lock n).1, true) else (0, false)
theorem gaV_yes {n : Nat} {L : Nat → Lk} {lock : Int} (h : okG n L lock) (h2 : 0 ≤ (gapSt L lock n).1) : gaV n L lock = ((gapSt L lock n).1, true) := by unfold gaV; rw [tr_yes ⟨h, h2⟩]; rfl
theorem gaV_no {n : Nat} {L : Nat → Lk} {lock : Int} (h : ¬ (okG n L lock ∧ 0 ≤ (gapSt L lock n).1)) : gaV n L lock = (0, false) := by unfold gaV; rw [tr_no h]; rfl
theorem gaV_nn (n : Nat) (L : Nat → Lk) (lock : Int) : 0 ≤ (gaV n L lock).1 := by
  by_cases h : okG n L lock ∧ 0 ≤ (gapSt L lock n).1
  · rw [gaV_yes h.1 h.2]; exact h.2
  · rw [gaV_no h]; exact Int.le_refl _
end Go.Proofs.YtckekdealhemoaaDoor
