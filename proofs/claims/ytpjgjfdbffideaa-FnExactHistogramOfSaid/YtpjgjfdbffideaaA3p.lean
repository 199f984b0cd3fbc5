/-
  The busiest span of a record, in plain terms: the program's sums over all lockages and the reference's sums from each lockage on lead to the same best minute.
  Conditions: none beyond each statement's own premises.
-/
import Derived.Test.YtpjgjfdbffideaaA2
namespace Go.Proofs.Ytpjgjfdbffideaa
set_option linter.unusedSimpArgs false
set_option linter.unusedVariables false
open Go.RowKit

theorem rec_ok {L : Nat → Lk} {n k : Nat} (h : recList n L = true) (hk : k < n) : (L k).ok = true := by
  have h1 : recAll L n = true := by simp only [recList, Bool.and_eq_true] at h; exact h.1
  have h2 := recAll_at h1 hk
  simp only [recOk, Bool.and_eq_true] at h2
  exact h2.1
theorem rec_vessels {L : Nat → Lk} {n k : Nat} (h : recList n L = true) (hk : k < n) : 0 ≤ (L k).vessels ∧ (L k).vessels ≤ 4 := by
  have h2 := rec_ok h hk
  simp only [Lk.ok, Bool.and_eq_true, inB_iff] at h2
  exact h2.1.1.1.2
theorem rec_len {L : Nat → Lk} {n : Nat} (h : recList n L = true) : n ≤ 15 := by
  simp only [recList, Bool.and_eq_true, decide_eq_true_eq] at h
  exact h.2
theorem rec_next {L : Nat → Lk} {n k : Nat} (h : recList n L = true) (hk : k + 1 < n) : (L k).minute ≤ (L (k + 1)).minute := by
  have h1 : recAll L n = true := by simp only [recList, Bool.and_eq_true] at h; exact h.1
  have h2 := recAll_at h1 hk
  simp only [recOk, Bool.and_eq_true, Bool.or_eq_true, decide_eq_true_eq, Nat.add_sub_cancel] at h2
  rcases h2.2 with h3 | h3
  · omega
  · exact h3
theorem rec_mono {L : Nat → Lk} {n a : Nat} (h : recList n L = true) : ∀ b, a ≤ b → b < n → (L a).minute ≤ (L b).minute
  | 0, hab, _ => by obtain rfl : a = 0 := by omega
                    omega
  | b + 1, hab, hb => by
    rcases Nat.lt_or_ge a (b + 1) with hlt | hge
    · exact Int.le_trans (rec_mono h b (by omega) (by omega)) (rec_next h hb)
    · obtain rfl : a = b + 1 := by omega
      omega

/-- The vessels of the first k lockages that begin within the span from minute m on. -/
def spanSum (L : Nat → Lk) (span m : Int) : Nat → Int
  | 0 => 0
  | k + 1 => if 0 ≤ (L k).minute - m ∧ (L k).minute - m ≤ span - 1 then spanSum L span m k + (L k).vessels else spanSum L span m k
/-- The vessels of the first k lockages. -/
def preSum (L : Nat → Lk) : Nat → Int
  | 0 => 0
  | k + 1 => preSum L k + (L k).vessels
def spanSt (n : Nat) (L : Nat → Lk) (span : Int) : Nat → Int × Int
  | 0 => (0, -1)
  | k + 1 => if (spanSt n L span k).2 < spanSum L span (L k).minute n then ((L k).minute, spanSum L span (L k).minute n) else spanSt n L span k
def busiest (n : Nat) (L : Nat → Lk) (span : Int) : Int × Int × Bool :=
  if recList n L = true ∧ (n == 0) = false ∧ inB span 1 9999 = true then ((spanSt n L span n).1, (spanSt n L span n).2, true) else (0, 0, false)

theorem spanSum_bd {L : Nat → Lk} {n : Nat} (h : recList n L = true) (span m : Int) : ∀ k, k ≤ n → 0 ≤ spanSum L span m k ∧ spanSum L span m k ≤ 4 * k
  | 0, _ => by simp [spanSum]
  | k + 1, hk => by
    have ih := spanSum_bd h span m k (by omega)
    have hv := rec_vessels h (k := k) (by omega)
    simp only [spanSum]
    split <;> omega
theorem preSum_bd {L : Nat → Lk} {n : Nat} (h : recList n L = true) : ∀ k, k ≤ n → 0 ≤ preSum L k ∧ preSum L k ≤ 4 * k
  | 0, _ => by simp [preSum]
  | k + 1, hk => by
    have ih := preSum_bd h k (by omega)
    have hv := rec_vessels h (k := k) (by omega)
    simp only [preSum]
    omega
theorem preSum_mono {L : Nat → Lk} {n a : Nat} (h : recList n L = true) : ∀ b, a ≤ b → b ≤ n → preSum L a ≤ preSum L b
  | 0, hab, _ => by obtain rfl : a = 0 := by omega
                    omega
  | b + 1, hab, hb => by
    rcases Nat.lt_or_ge a (b + 1) with hlt | hge
    · have := preSum_mono (a := a) h b (by omega) (by omega)
      have hv := rec_vessels h (k := b) (by omega)
      simp only [preSum]; omega
    · obtain rfl : a = b + 1 := by omega
      omega
theorem spanSt_bd {L : Nat → Lk} {n : Nat} (h : recList n L = true) (span : Int) : ∀ k, k ≤ n → -1 ≤ (spanSt n L span k).2 ∧ (spanSt n L span k).2 ≤ 60 ∧ 0 ≤ (spanSt n L span k).1 ∧ (spanSt n L span k).1 ≤ 9999
  | 0, _ => by simp [spanSt]
  | k + 1, hk => by
    have ih := spanSt_bd h span k (by omega)
    have hb := spanSum_bd h span (L k).minute n (Nat.le_refl _)
    have hl := rec_len h
    have hm := rec_minute h (k := k) (by omega)
    simp only [spanSt]
    split
    · simp only; omega
    · exact ih
/-- From lockage i on, as long as they begin within the span. -/
theorem spanSum_on {L : Nat → Lk} {n i : Nat} {span : Int} (h : recList n L = true) : ∀ j, i ≤ j → j ≤ n → (∀ t, i ≤ t → t < j → (L t).minute < (L i).minute + span) →
    spanSum L span (L i).minute j = spanSum L span (L i).minute i + (preSum L j - preSum L i)
  | 0, hij, _, _ => by obtain rfl : i = 0 := by omega
                       omega
  | j + 1, hij, hj, ht => by
    rcases Nat.lt_or_ge i (j + 1) with hlt | hge
    · have ih := spanSum_on h j (by omega) (by omega) (fun t h1 h2 => ht t h1 (by omega))
      have h1 := ht j (by omega) (by omega)
      have h2 := rec_mono h (a := i) j (by omega) (by omega)
      rw [spanSum, if_pos ⟨by omega, by omega⟩, preSum, ih]; omega
    · obtain rfl : i = j + 1 := by omega
      omega
theorem spanSum_end {L : Nat → Lk} {n j : Nat} {span m : Int} (h : recList n L = true) (hj : m + span ≤ (L j).minute) : ∀ k, j ≤ k → k ≤ n → spanSum L span m k = spanSum L span m j
  | 0, hjk, _ => by obtain rfl : j = 0 := by omega
                    rfl
  | k + 1, hjk, hk => by
    rcases Nat.lt_or_ge j (k + 1) with hlt | hge
    · have ih := spanSum_end h hj k (by omega) (by omega)
      have h2 := rec_mono h (a := j) k (by omega) (by omega)
      rw [spanSum, if_neg (by omega), ih]
    · obtain rfl : j = k + 1 := by omega
      rfl
theorem spanSum_before {L : Nat → Lk} {span m : Int} : ∀ i, (∀ t, t < i → (L t).minute < m) → spanSum L span m i = 0
  | 0, _ => rfl
  | i + 1, ht => by
    have := ht i (by omega)
    rw [spanSum, if_neg (by omega), spanSum_before i (fun t h => ht t (by omega))]
/-- The reference's step from lockage i on is the program's. -/
theorem spanSt_step {L : Nat → Lk} {n i j : Nat} {span : Int} (h : recList n L = true) (hi : i < n) (hij : i ≤ j) (hj : j ≤ n) (ht : ∀ t, i ≤ t → t < j → (L t).minute < (L i).minute + span)
    (he : j = n ∨ (L i).minute + span ≤ (L j).minute) :
    spanSt n L span (i + 1) = if (spanSt n L span i).2 < preSum L j - preSum L i then ((L i).minute, preSum L j - preSum L i) else spanSt n L span i := by
  have h1 := spanSum_on h j hij hj ht
  have h2 : spanSum L span (L i).minute n = spanSum L span (L i).minute j := by
    rcases he with rfl | he
    · rfl
    · exact spanSum_end h he n hj (Nat.le_refl _)
  have h3 := spanSum_bd h span (L i).minute i (by omega)
  by_cases hf : i = 0 ∨ (L (i - 1)).minute < (L i).minute
  · have h4 : spanSum L span (L i).minute i = 0 := by
      refine spanSum_before i fun t hti => ?_
      rcases hf with rfl | hf
      · omega
      · have := rec_mono h (a := t) (i - 1) (by omega) (by omega)
        omega
    have h5 : spanSum L span (L i).minute n = preSum L j - preSum L i := by omega
    rw [spanSt, h5]
  · have h6 : (L (i - 1)).minute = (L i).minute := by
      have := rec_mono h (a := i - 1) i (by omega) hi
      omega
    obtain ⟨i', rfl⟩ : ∃ i', i = i' + 1 := ⟨i - 1, by omega⟩
    have h7 : spanSum L span (L (i' + 1)).minute n ≤ (spanSt n L span (i' + 1)).2 := by
      simp only [Nat.add_sub_cancel] at h6
      rw [← h6, spanSt]
      split
      · simp only; omega
      · omega
    rw [if_neg (by omega)]
    conv => lhs; rw [spanSt]
    rw [if_neg (by omega)]
end Go.Proofs.Ytpjgjfdbffideaa
