/-
  A longer way never costs less, and what the farthest place is. Plain.
  Conditions: none beyond each statement's own premises.
-/
import Derived.Test.YtapfljhihbodkaaGreatDoorB5
namespace Go.Proofs.YtapfljhihbodkaaGreatDoor
set_option linter.unusedSimpArgs false
set_option linter.unusedVariables false
open Go.RowKit
set_option maxRecDepth 10000
theorem mx_eq (a b : Int) : (a ≤ b ∧ mx a b = b) ∨ (b < a ∧ mx a b = a) := by unfold mx; split <;> omega
theorem mn_eq (a b : Int) : (a ≤ b ∧ mn a b = a) ∨ (b < a ∧ mn a b = b) := by unfold mn; split <;> omega
theorem Tf.frm_mono {d : Tf} (h : ∀ i, i < d.n → d.okAt i) {i : Nat} : ∀ j, i ≤ j → j < d.n → (d.st i).frm ≤ (d.st j).frm
  | 0, h1, _ => by obtain rfl : i = 0 := by omega
                   exact Int.le_refl _
  | j + 1, h1, h2 => by
    rcases Nat.lt_or_ge i (j + 1) with h3 | h3
    · have ih := Tf.frm_mono h (i := i) j (by omega) (by omega)
      have := (h (j + 1) h2).2.2.2.2 (Nat.succ_pos j)
      have e : j + 1 - 1 = j := by omega
      rw [e] at this
      omega
    · obtain rfl : i = j + 1 := by omega
      exact Int.le_refl _
/-- What one kilometre more adds to a step's part. -/
theorem Tf.part_inc {d : Tf} (h : ∀ i, i < d.n → d.okAt i) {km : Int} (h0 : 0 ≤ km) {i : Nat} (hi : i < d.n) :
    (d.part (km + 1) i = d.part km i ∨ d.part (km + 1) i = d.part km i + (d.st i).cents) ∧ (km < (d.st i).frm → d.part (km + 1) i = d.part km i) ∧ (i + 1 < d.n → (d.st (i + 1)).frm ≤ km → d.part (km + 1) i = d.part km i) := by
  unfold Tf.part Tf.hi
  by_cases hn : i + 1 < d.n
  · rw [if_pos hn, if_pos hn]
    generalize (d.st (i + 1)).frm = f
    generalize (d.st i).frm = g
    generalize (d.st i).cents = c
    have e1 := mn_eq (km + 1) f
    have e2 := mn_eq km f
    generalize mn (km + 1) f = a at *
    generalize mn km f = b at *
    have e3 := mx_eq 0 (a - g)
    have e4 := mx_eq 0 (b - g)
    generalize mx 0 (a - g) = x at *
    generalize mx 0 (b - g) = y at *
    have hxy : x = y ∨ x = y + 1 := by omega
    refine ⟨?_, fun q => ?_, fun _ q => ?_⟩
    · rcases hxy with rfl | rfl
      · exact .inl rfl
      · right; rw [Int.add_mul, Int.one_mul]
    · rw [show x = y by omega]
    · rw [show x = y by omega]
  · rw [if_neg hn, if_neg hn]
    generalize (d.st i).frm = g
    generalize (d.st i).cents = c
    have e3 := mx_eq 0 (km + 1 - g)
    have e4 := mx_eq 0 (km - g)
    generalize mx 0 (km + 1 - g) = x at *
    generalize mx 0 (km - g) = y at *
    have hxy : x = y ∨ x = y + 1 := by omega
    refine ⟨?_, fun q => ?_, fun q => absurd q hn⟩
    · rcases hxy with rfl | rfl
      · exact .inl rfl
      · right; rw [Int.add_mul, Int.one_mul]
    · rw [show x = y by omega]
theorem Tf.sum_inc {d : Tf} (h : ∀ i, i < d.n → d.okAt i) {km : Int} (h0 : 0 ≤ km) : ∀ k, k ≤ d.n → (d.sum km k ≤ d.sum (km + 1) k ∧ d.sum (km + 1) k ≤ d.sum km k + 1000) ∧ (k < d.n → (d.st k).frm ≤ km → d.sum (km + 1) k = d.sum km k)
  | 0, _ => ⟨⟨Int.le_refl _, by show (0 : Int) ≤ 0 + 1000; omega⟩, fun _ _ => rfl⟩
  | k + 1, hk => by
    obtain ⟨ih1, ih2⟩ := Tf.sum_inc h h0 k (by omega)
    obtain ⟨p1, p2, p3⟩ := Tf.part_inc h h0 (show k < d.n by omega)
    obtain ⟨_, _, c0, c1, _⟩ := h k (by omega)
    have e1 : d.sum km (k + 1) = d.sum km k + d.part km k := rfl
    have e2 : d.sum (km + 1) (k + 1) = d.sum (km + 1) k + d.part (km + 1) k := rfl
    rw [e1, e2]
    refine ⟨?_, fun hk2 hf => ?_⟩
    · by_cases hf : (d.st k).frm ≤ km
      · have := ih2 (by omega) hf
        rcases p1 with p1 | p1 <;> omega
      · have := p2 (by omega)
        omega
    · have hm := Tf.frm_mono h (i := k) (k + 1) (by omega) hk2
      have := ih2 (by omega) (by omega)
      have := p3 hk2 hf
      omega
theorem Tf.cost_inc {d : Tf} {km : Int} (h1 : d.okW km) (h2 : d.okW (km + 1)) : d.cost km ≤ d.cost (km + 1) ∧ d.cost (km + 1) ≤ d.cost km + 1000 := by
  rw [Tf.cost_yes h1, Tf.cost_yes h2]
  exact (Tf.sum_inc h1.1.1 h1.2.1 d.n (Nat.le_refl _)).1
theorem last_some {p : Nat → Prop} {k : Nat} : ∀ {n : Nat}, last p n = some k → k < n ∧ p k ∧ ∀ i, k < i → i < n → ¬ p i
  | 0, h => by cases h
  | n + 1, h => by
    by_cases hp : p n
    · have e : last p (n + 1) = some n := last_hit hp (Nat.lt_succ_self n) (fun i h1 h2 => absurd h2 (by omega))
      rw [e] at h
      injection h with h
      subst h
      exact ⟨Nat.lt_succ_self _, hp, fun i h1 h2 => absurd h2 (by omega)⟩
    · have e : last p (n + 1) = last p n := by
        show (if tr (p n) then some n else last p n) = _
        rw [tr_no hp]
        rfl
      rw [e] at h
      obtain ⟨h1, h2, h3⟩ := last_some h
      refine ⟨by omega, h2, fun i q1 q2 => ?_⟩
      rcases Nat.lt_or_ge i n with q | q
      · exact h3 i q1 q
      · obtain rfl : i = n := by omega
        exact hp
end Go.Proofs.YtapfljhihbodkaaGreatDoor
