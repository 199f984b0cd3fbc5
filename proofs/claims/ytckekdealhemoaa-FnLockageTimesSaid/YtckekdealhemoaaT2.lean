/-
  The busiest span of a record, in plain terms.
  Conditions: none beyond each statement's own premises.
-/
import Derived.Test.YtckekdealhemoaaT1
namespace Go.Proofs.Ytckekdealhemoaa
set_option linter.unusedSimpArgs false
set_option linter.unusedVariables false
open Go.RowKit
set_option maxRecDepth 10000
/-- The vessels of the first k lockages that begin within the span from minute m on. -/
def spanSum (L : Nat → Lk) (span m : Int) : Nat → Int
  | 0 => 0
  | k + 1 => if 0 ≤ (L k).minute - m ∧ (L k).minute - m ≤ span - 1 then spanSum L span m k + (L k).vessels else spanSum L span m k
/-- The vessels of the first k lockages. -/
def preSum (L : Nat → Lk) : Nat → Int
  | 0 => 0
  | k + 1 => preSum L k + (L k).vessels
def spanSt (n : Nat) (L : Nat → Lk) (span : Int) : Nat → Int × Int
  | 0 => (0, -1)
  | k + 1 => if (spanSt n L span k).2 < spanSum L span (L k).minute n then ((L k).minute, spanSum L span (L k).minute n) else spanSt n L span k
def okB (n : Nat) (L : Nat → Lk) (span : Int) : Prop := lgs n L ∧ ¬ n = 0 ∧ 1 ≤ span ∧ span ≤ 9999
noncomputable def buV (n : Nat) (L : Nat → Lk) (span : Int) : Int × Int × Bool := if tr (okB n L span) then ((spanSt n L span n).1, (spanSt n L span n).2, true) else (0, 0, false)
theorem buV_yes {n : Nat} {L : Nat → Lk} {span : Int} (h : okB n L span) : buV n L span = ((spanSt n L span n).1, (spanSt n L span n).2, true) := by unfold buV; rw [tr_yes h]; rfl
theorem buV_no {n : Nat} {L : Nat → Lk} {span : Int} (h : ¬ okB n L span) : buV n L span = (0, 0, false) := by unfold buV; rw [tr_no h]; rfl
theorem spanSum_bd {L : Nat → Lk} {n : Nat} (h : lgs n L) (span m : Int) : ∀ k, k ≤ n → 0 ≤ spanSum L span m k ∧ spanSum L span m k ≤ 4 * k
  | 0, _ => by simp [spanSum]
  | k + 1, hk => by
    have ih := spanSum_bd h span m k (by omega)
    have hv := rec_vessels h (k := k) (by omega)
    simp only [spanSum]
    split <;> omega
theorem preSum_bd {L : Nat → Lk} {n : Nat} (h : lgs n L) : ∀ k, k ≤ n → 0 ≤ preSum L k ∧ preSum L k ≤ 4 * k
  | 0, _ => by simp [preSum]
  | k + 1, hk => by
    have ih := preSum_bd h k (by omega)
    have hv := rec_vessels h (k := k) (by omega)
    simp only [preSum]
    omega
theorem preSum_mono {L : Nat → Lk} {n a : Nat} (h : lgs n L) : ∀ b, a ≤ b → b ≤ n → preSum L a ≤ preSum L b
  | 0, hab, _ => by obtain rfl : a = 0 := by omega
                    omega
  | b + 1, hab, hb => by
    rcases Nat.lt_or_ge a (b + 1) with hlt | hge
    · have := preSum_mono (a := a) h b (by omega) (by omega)
      have hv := rec_vessels h (k := b) (by omega)
      simp only [preSum]; omega
    · obtain rfl : a = b + 1 := by omega
      omega
theorem spanSt_bd {L : Nat → Lk} {n : Nat} (h : lgs n L) (span : Int) : ∀ k, k ≤ n → -1 ≤ (spanSt n L span k).2 ∧ (spanSt n L span k).2 ≤ 60 ∧ 0 ≤ (spanSt n L span k).1 ∧ (spanSt n L span k).1 ≤ 9999
  | 0, _ => by simp [spanSt]
  | k + 1, hk => by
    have ih := spanSt_bd h span k (by omega)
    have hb := spanSum_bd h span (L k).minute n (Nat.le_refl _)
    have hl := rec_len h
    have hm := rec_minute h (k := k) (by omega)
    simp only [spanSt]
    split
    · simp only; omega
    · exact ih
/-- From lockage i on, as long as they begin within the span. -/
theorem spanSum_on {L : Nat → Lk} {n i : Nat} {span : Int} (h : lgs n L) : ∀ j, i ≤ j → j ≤ n → (∀ t, i ≤ t → t < j → (L t).minute < (L i).minute + span) →
    spanSum L span (L i).minute j = spanSum L span (L i).minute i + (preSum L j - preSum L i)
  | 0, hij, _, _ => by obtain rfl : i = 0 := by omega
                       omega
  | j + 1, hij, hj, ht => by
    rcases Nat.lt_or_ge i (j + 1) with hlt | hge
    · have ih := spanSum_on h j (by omega) (by omega) (fun t h1 h2 => ht t h1 (by omega))
      have h1 := ht j (by omega) (by omega)
      have h2 := rec_mono h (a := i) j (by omega) (by omega)
      rw [spanSum, if_pos ⟨by omega, by omega⟩, preSum, ih]; omega
    · obtain rfl : i = j + 1 := by omega
      omega
theorem spanSum_end {L : Nat → Lk} {n j : Nat} {span m : Int} (h : lgs n L) (hj : m + span ≤ (L j).minute) : ∀ k, j ≤ k → k ≤ n → spanSum L span m k = spanSum L span m j
  | 0, hjk, _ => by obtain rfl : j = 0 := by omega
                    rfl
  | k + 1, hjk, hk => by
    rcases Nat.lt_or_ge j (k + 1) with hlt | hge
    · have ih := spanSum_end h hj k (by omega) (by omega)
      have h2 := rec_mono h (a := j) k (by omega) (by omega)
      rw [spanSum, if_neg (by omega), ih]
    · obtain rfl : j = k + 1 := by omega
      rfl
theorem spanSum_before {L : Nat → Lk} {span m : Int} : ∀ i, (∀ t, t < i → (L t).minute < m) → spanSum L span m i = 0
  | 0, _ => rfl
  | i + 1, ht => by
    have := ht i (by omega)
    rw [spanSum, if_neg (by omega), spanSum_before i (fun t h => ht t (by omega))]
/-- The reference's step from lockage i on is the program's. -/
theorem spanSt_step {L : Nat → Lk} {n i j : Nat} {span : Int} (h : lgs n L) (hi : i < n) (hij : i ≤ j) (hj : j ≤ n) (ht : ∀ t, i ≤ t → t < j → (L t).minute < (L i).minute + span)
    (he : j = n ∨ (L i).minute + span ≤ (L j).minute) :
    spanSt n L span (i + 1) = if (spanSt n L span i).2 < preSum L j - preSum L i then ((L i).minute, preSum L j - preSum L i) else spanSt n L span i := by
  have h1 := spanSum_on h j hij hj ht
  have h2 : spanSum L span (L i).minute n = spanSum L span (L i).minute j := by
    rcases he with rfl | he
    · rfl
    · exact spanSum_end h he n hj (Nat.le_refl _)
  have h3 := spanSum_bd h span (L i).minute i (by omega)
  by_cases hf : i = 0 ∨ (L (i - 1)).minute < (L i).minute
  · have h4 : spanSum L span (L i).minute i = 0 := by
      refine spanSum_before i fun t hti => ?_
      rcases hf with rfl | hf
      · omega
      · have := rec_mono h (a := t) (i - 1) (by omega) (by omega)
        omega
    have h5 : spanSum L span (L i).minute n = preSum L j - preSum L i := by omega
    rw [spanSt, h5]
  · have h6 : (L (i - 1)).minute = (L i).minute := by
      have := rec_mono h (a := i - 1) i (by omega) hi
      omega
    obtain ⟨i', rfl⟩ : ∃ i', i = i' + 1 := ⟨i - 1, by omega⟩
    have h7 : spanSum L span (L (i' + 1)).minute n ≤ (spanSt n L span (i' + 1)).2 := by
      simp only [Nat.add_sub_cancel] at h6
      rw [← h6, spanSt]
      split
      · simp only; omega
      · omega
    rw [if_neg (by omega)]
    conv => lhs; rw [spanSt]
    rw [if_neg (by omega)]
theorem span_yes {n : Nat} {L : Nat → Lk} {span : Int} {k : Nat} (h : (spanSt n L span k).2 < spanSum L span (L k).minute n) : spanSt n L span (k + 1) = ((L k).minute, spanSum L span (L k).minute n) := if_pos h
theorem span_no {n : Nat} {L : Nat → Lk} {span : Int} {k : Nat} (h : ¬ (spanSt n L span k).2 < spanSum L span (L k).minute n) : spanSt n L span (k + 1) = spanSt n L span k := if_neg h
theorem sum_yes {L : Nat → Lk} {span m : Int} {k : Nat} (h : 0 ≤ (L k).minute - m ∧ (L k).minute - m ≤ span - 1) : spanSum L span m (k + 1) = spanSum L span m k + (L k).vessels := if_pos h
theorem sum_no {L : Nat → Lk} {span m : Int} {k : Nat} (h : ¬ (0 ≤ (L k).minute - m ∧ (L k).minute - m ≤ span - 1)) : spanSum L span m (k + 1) = spanSum L span m k := if_neg h
/-- A wider span has no fewer vessels. -/
theorem spanSum_wide {L : Nat → Lk} {n : Nat} (h : lgs n L) {s1 s2 m : Int} (hs : s1 ≤ s2) : ∀ k, k ≤ n → spanSum L s1 m k ≤ spanSum L s2 m k
  | 0, _ => Int.le_refl _
  | k + 1, hk => by
    have ih := spanSum_wide h (m := m) hs k (by omega)
    have hv := rec_vessels h (k := k) (by omega)
    simp only [spanSum]
    split <;> split <;> omega
theorem spanSt_wide {L : Nat → Lk} {n : Nat} (h : lgs n L) {s1 s2 : Int} (hs : s1 ≤ s2) : ∀ k, k ≤ n → (spanSt n L s1 k).2 ≤ (spanSt n L s2 k).2
  | 0, _ => Int.le_refl _
  | k + 1, hk => by
    have ih := spanSt_wide h hs k (by omega)
    have hw := spanSum_wide h (m := (L k).minute) hs n (Nat.le_refl _)
    simp only [spanSt]
    split <;> split <;> (try simp only) <;> omega
theorem preSum_le {L : Nat → Lk} {n : Nat} (h : lgs n L) {span m : Int} : ∀ k, k ≤ n → spanSum L span m k ≤ preSum L k
  | 0, _ => Int.le_refl _
  | k + 1, hk => by
    have ih := preSum_le h (span := span) (m := m) k (by omega)
    have hv := rec_vessels h (k := k) (by omega)
    simp only [spanSum, preSum]
    split <;> omega
theorem spanSt_le {L : Nat → Lk} {n : Nat} (h : lgs n L) {span : Int} : ∀ k, k ≤ n → (spanSt n L span k).2 ≤ preSum L n
  | 0, _ => by have := preSum_bd h n (Nat.le_refl _); show (-1 : Int) ≤ _; omega
  | k + 1, hk => by
    have ih := spanSt_le h (span := span) k (by omega)
    have hw := preSum_le h (span := span) (m := (L k).minute) n (Nat.le_refl _)
    simp only [spanSt]
    split
    · exact hw
    · exact ih
theorem spanSt_up {L : Nat → Lk} {n : Nat} {span : Int} : ∀ a b, a ≤ b → (spanSt n L span a).2 ≤ (spanSt n L span b).2
  | a, 0, hab => by obtain rfl : a = 0 := by omega
                    exact Int.le_refl _
  | a, b + 1, hab => by
    rcases Nat.lt_or_ge a (b + 1) with hlt | hge
    · have := spanSt_up (L := L) (n := n) (span := span) a b (by omega)
      simp only [spanSt]
      split
      · simp only; omega
      · exact this
    · obtain rfl : a = b + 1 := by omega
      exact Int.le_refl _
/-- If all begin within the span from the first on, all count. -/
theorem spanSt_all {L : Nat → Lk} {n : Nat} (h : lgs n L) {span : Int} (hn : 0 < n) (hs : (L (n - 1)).minute - (L 0).minute < span) : (spanSt n L span n).2 = preSum L n := by
  have h1 : spanSum L span (L 0).minute n = preSum L n := by
    have := spanSum_on h (i := 0) (span := span) n (Nat.zero_le _) (Nat.le_refl _) (fun t _ ht => by
      have := rec_mono h (a := t) (n - 1) (by omega) (by omega)
      omega)
    simp only [spanSum, preSum] at this
    omega
  have h0 : (spanSt n L span 0).2 = -1 := rfl
  have h2 : preSum L n ≤ (spanSt n L span 1).2 := by
    by_cases h9 : (spanSt n L span 0).2 < spanSum L span (L 0).minute n
    · rw [span_yes h9, h1]; exact Int.le_refl _
    · rw [span_no h9]; omega
  have h3 := spanSt_up (L := L) (n := n) (span := span) 1 n hn
  have h4 := spanSt_le h (span := span) n (Nat.le_refl _)
  omega
end Go.Proofs.Ytckekdealhemoaa
