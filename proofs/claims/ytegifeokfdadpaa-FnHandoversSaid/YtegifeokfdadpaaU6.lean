/-
  An even duty: what it is.
  Conditions: none beyond each statement's own premises.
-/
import Derived.Test.YtegifeokfdadpaaU3
namespace Go.Proofs.Ytegifeokfdadpaa
set_option linter.unusedSimpArgs false
set_option linter.unusedVariables false
open Go.RowKit
set_option maxRecDepth 10000
/-- The working centres among the first k. -/
def Du.al (d : Du) : Nat → List Int
  | 0 => []
  | k + 1 => if d.act k = true then d.al k ++ [(k : Int)] else d.al k
theorem Du.al_yes {d : Du} {k : Nat} (h : d.act k = true) : d.al (k + 1) = d.al k ++ [(k : Int)] := if_pos h
theorem Du.al_no {d : Du} {k : Nat} (h : ¬ d.act k = true) : d.al (k + 1) = d.al k := if_neg h
theorem Du.al_le (d : Du) : ∀ k, (d.al k).length ≤ k
  | 0 => Nat.le_refl _
  | k + 1 => by
    have := d.al_le k
    by_cases h : d.act k = true
    · rw [Du.al_yes h, List.length_append]; simp; omega
    · rw [Du.al_no h]; omega
theorem Du.al_pos {d : Du} {j : Nat} (h : d.act j = true) : ∀ k, j < k → 0 < (d.al k).length
  | 0, h0 => absurd h0 (by omega)
  | k + 1, h0 => by
    by_cases h1 : d.act k = true
    · rw [Du.al_yes h1, List.length_append]; simp
    · rw [Du.al_no h1]
      exact Du.al_pos h k (by
        rcases Nat.lt_or_ge j k with h2 | h2
        · exact h2
        · exact absurd (show d.act k = true by rw [← (show j = k by omega)]; exact h) h1)
theorem Du.al_in (d : Du) : ∀ k (x : Int), x ∈ d.al k → 0 ≤ x ∧ x < k
  | 0, x, h => by simp [Du.al] at h
  | k + 1, x, h => by
    by_cases h1 : d.act k = true
    · rw [Du.al_yes h1] at h
      rcases List.mem_append.1 h with h2 | h2
      · have := d.al_in k x h2; omega
      · simp at h2; omega
    · rw [Du.al_no h1] at h
      have := d.al_in k x h; omega
/-- How many working centres. -/
def Du.nw (d : Du) : Nat := (d.al d.n).length
def Du.aw (d : Du) (t : Nat) : Int := (d.al d.n).getD t 0
theorem Du.aw_in {d : Du} {t : Nat} (h : t < d.nw) : 0 ≤ d.aw t ∧ d.aw t < d.n := by
  have e : d.aw t = (d.al d.n)[t]'h := by unfold Du.aw; rw [List.getD_eq_getElem?_getD, List.getElem?_eq_getElem h]; rfl
  rw [e]
  exact d.al_in _ _ (List.getElem_mem _)
theorem Du.aw_get {d : Du} {t : Nat} (h : t < d.nw) : (d.al d.n)[t]? = some (d.aw t) := by
  unfold Du.aw
  rw [List.getD_eq_getElem?_getD, List.getElem?_eq_getElem h]
  rfl
/-- How many locks go to the t-th of them, and the first one's place. -/
def Du.hh (d : Du) (t : Nat) : Nat := if t < d.m % d.nw then d.m / d.nw + 1 else d.m / d.nw
def Du.st (d : Du) : Nat → Nat
  | 0 => 0
  | t + 1 => d.st t + d.hh t
theorem Du.st_eq (d : Du) : ∀ t, d.st t = t * (d.m / d.nw) + min t (d.m % d.nw)
  | 0 => by simp [Du.st]
  | t + 1 => by
    have ih := d.st_eq t
    show d.st t + d.hh t = _
    rw [ih, Nat.succ_mul]
    unfold Du.hh
    split <;> omega
theorem Du.st_end {d : Du} (h : 0 < d.nw) : d.st d.nw = d.m := by
  rw [d.st_eq, Nat.min_eq_right (Nat.le_of_lt (Nat.mod_lt _ h))]
  have := Nat.div_add_mod d.m d.nw
  omega
theorem Du.st_mono (d : Du) {t : Nat} : ∀ u, t ≤ u → d.st t ≤ d.st u
  | 0, h => by obtain rfl : t = 0 := by omega
               exact Nat.le_refl _
  | u + 1, h => by
    rcases Nat.lt_or_ge t (u + 1) with h1 | h1
    · have := d.st_mono u (by omega : t ≤ u)
      show _ ≤ d.st u + d.hh u
      omega
    · obtain rfl : t = u + 1 := by omega
      exact Nat.le_refl _
theorem Du.st_le {d : Du} (h : 0 < d.nw) {t : Nat} (ht : t < d.nw) : d.st t + d.hh t ≤ d.m := by
  have := d.st_mono d.nw (show t + 1 ≤ d.nw from ht)
  rw [Du.st_end h] at this
  exact this
/-- Whose turn lock i is. -/
def Du.pc (d : Du) (i : Nat) : Nat → Nat
  | 0 => 0
  | k + 1 => if d.st (k + 1) ≤ i then d.pc i k + 1 else d.pc i k
theorem Du.pc_lo {d : Du} {i t : Nat} (h : d.st t ≤ i) : ∀ k, k ≤ t → d.pc i k = k
  | 0, _ => rfl
  | k + 1, hk => by
    have e := Du.pc_lo h k (by omega)
    have := d.st_mono t hk
    show (if _ then _ else _) = _
    rw [if_pos (by omega), e]
theorem Du.pc_hi {d : Du} {i t : Nat} (h : d.st t ≤ i) (h2 : i < d.st (t + 1)) : ∀ k, t ≤ k → d.pc i k = t
  | 0, hk => by obtain rfl : t = 0 := by omega
                rfl
  | k + 1, hk => by
    rcases Nat.lt_or_ge t (k + 1) with h1 | h1
    · have e := Du.pc_hi h h2 k (by omega)
      have := d.st_mono (k + 1) (show t + 1 ≤ k + 1 by omega)
      show (if _ then _ else _) = _
      rw [if_neg (by omega), e]
    · obtain rfl : t = k + 1 := by omega
      exact Du.pc_lo h _ (Nat.le_refl _)
/-- The centre that lock i goes to. -/
def Du.ev (d : Du) (i : Nat) : Int := d.aw (d.pc i d.nw)
theorem Du.ev_at {d : Du} {t s : Nat} (ht : t < d.nw) (hs : s < d.hh t) : d.ev (d.st t + s) = d.aw t := by
  unfold Du.ev
  rw [Du.pc_hi (t := t) (by omega) (by show _ < d.st t + d.hh t; omega) _ (by omega)]
/-- The locks when the first k are given out. -/
def Du.eg (d : Du) (k : Nat) : Nat → Int := fun i => if i < k then d.ev i else d.lk i
theorem Du.eg_zero (d : Du) : d.eg 0 = d.lk := by
  funext i
  exact if_neg (by omega)
theorem Du.eg_step (d : Du) (k : Nat) : d.eg (k + 1) = upd (d.eg k) k (d.ev k) := by
  funext i
  unfold upd Du.eg
  by_cases e : i = k
  · rw [if_pos e, if_pos (by omega), e]
  · rw [if_neg e]
    by_cases h : i < k
    · rw [if_pos h, if_pos (by omega)]
    · rw [if_neg h, if_neg (by omega)]
theorem Du.eg_full (d : Du) : IS d.m (d.eg d.m) = IS d.m d.ev := IS.congr fun i hi => if_pos hi
theorem Du.good_nw {d : Du} (h : d.good) : 0 < d.nw ∧ d.nw ≤ 5 ∧ d.nw ≤ d.n := by
  obtain ⟨hall, h1, h5, hn, hm1, hm2⟩ := h
  obtain ⟨a, b, c, _⟩ := hall 0 (by omega)
  have h1 := Du.al_pos c d.n (by omega)
  have h2 := d.al_le d.n
  unfold Du.nw
  exact ⟨h1, by omega, h2⟩
/-- The result. -/
def Du.evd (d : Du) : Du := ⟨d.ce, d.n, d.act, d.m, d.ev⟩
noncomputable def Du.er (d : Du) : Du := if tr d.good then d.evd else Du.zero
theorem Du.er_yes {d : Du} (h : d.good) : d.er = d.evd := by unfold Du.er; rw [tr_yes h]; rfl
theorem Du.er_no {d : Du} (h : ¬ d.good) : d.er = Du.zero := by unfold Du.er; rw [tr_no h]; rfl
theorem Du.er_n {d : Du} (h : d.n ≤ 1048576) : d.er.n ≤ 1048576 := by
  unfold Du.er
  split
  · exact h
  · exact Nat.zero_le _
theorem Du.er_m {d : Du} (h : d.m ≤ 1048576) : d.er.m ≤ 1048576 := by
  unfold Du.er
  split
  · exact h
  · exact Nat.zero_le _
end Go.Proofs.Ytegifeokfdadpaa
