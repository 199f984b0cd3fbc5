/-
  What a failing centre's duty is, and that it comes back. Plain.
  Conditions: none beyond each statement's own premises.
-/
import Derived.Test.YtegifeokfdadpaaUF
import Derived.Test.YtegifeokfdadpaaLR
namespace Go.Proofs.Ytegifeokfdadpaa
set_option linter.unusedSimpArgs false
set_option linter.unusedVariables false
open Go.RowKit
set_option maxRecDepth 10000
theorem bel_max {f : Nat → Bool} {c i : Nat} (hi : f i = true) (hc : i < c) : ∀ m, i < m → (i : Int) ≤ bel f c m
  | 0, h => absurd h (Nat.not_lt_zero i)
  | k + 1, h => by
    by_cases h1 : f k = true ∧ k < c
    · rw [bel_yes h1.1 h1.2]; omega
    · rw [bel_no h1]
      exact bel_max hi hc k (by
        rcases Nat.lt_or_ge i k with h2 | h2
        · exact h2
        · obtain rfl : i = k := by omega
          exact absurd ⟨hi, hc⟩ h1)
theorem abv_min {f : Nat → Bool} {c i : Nat} (hi : f i = true) (hc : c < i) : ∀ m, i < m → 0 ≤ abv f c m ∧ abv f c m ≤ i
  | 0, h => absurd h (Nat.not_lt_zero i)
  | k + 1, h => by
    have hin := abv_in f c k
    by_cases h1 : f k = true ∧ c < k ∧ abv f c k < 0
    · rw [abv_yes h1.1 h1.2.1 h1.2.2]
      rcases Nat.lt_or_ge i k with h2 | h2
      · have := abv_min hi hc k h2
        omega
      · omega
    · rw [abv_no h1]
      rcases Nat.lt_or_ge i k with h2 | h2
      · exact abv_min hi hc k h2
      · obtain rfl : i = k := by omega
        have h3 : ¬ abv f c i < 0 := fun h3 => h1 ⟨hi, hc, h3⟩
        omega
theorem Du.good_le {d : Du} (h : d.good) {i : Nat} : ∀ j, i ≤ j → j < d.m → d.lk i ≤ d.lk j
  | 0, h1, h2 => by obtain rfl : i = 0 := by omega
                    exact Int.le_refl _
  | j + 1, h1, h2 => by
    rcases Nat.lt_or_ge i (j + 1) with h3 | h3
    · have ih := Du.good_le h (i := i) j (by omega) (by omega)
      have := (h.1 (j + 1) h2).2.2.2 (Nat.succ_pos j)
      have e : j + 1 - 1 = j := by omega
      rw [e] at this
      omega
    · obtain rfl : i = j + 1 := by omega
      exact Int.le_refl _
theorem Du.rk_lt {d : Du} {c : Int} {i : Nat} (h : d.lk i = c) {m : Nat} (hm : i < m) : d.rk c i < d.rk c m := by
  have h1 := Du.rk_yes h
  have h2 := d.rk_mono c (k := i + 1) m (by omega)
  omega
/-- What stands for a lock of the failing centre. -/
theorem Du.fl_at {d : Du} {x : Nat} (h : d.okF x) {i : Nat} (hi : i < d.m) (e : d.lk i = x) :
    (d.fl (bel d.act x d.n) (abv d.act x d.n) x d.m i = bel d.act x d.n ∧ 0 ≤ bel d.act x d.n ∧ d.rk x i < d.hf (bel d.act x d.n) (abv d.act x d.n) x) ∨ (d.fl (bel d.act x d.n) (abv d.act x d.n) x d.m i = abv d.act x d.n ∧ 0 ≤ abv d.act x d.n ∧ ¬ d.rk x i < d.hf (bel d.act x d.n) (abv d.act x d.n) x) := by
  obtain ⟨hg, hx, hact, hnb⟩ := h
  have ex : ((x : Nat) : Int).toNat = x := by omega
  rw [ex] at hnb
  have hlt := Du.rk_lt e hi
  by_cases hr : d.rk x i < d.hf (bel d.act x d.n) (abv d.act x d.n) x
  · refine .inl ⟨by unfold Du.fl; rw [if_pos ⟨hi, e⟩, if_pos hr], ?_, hr⟩
    rcases (by omega : bel d.act x d.n < 0 ∨ 0 ≤ bel d.act x d.n) with hb | hb
    · exfalso
      have ha : ¬ abv d.act x d.n < 0 := fun ha => hnb ⟨hb, ha⟩
      unfold Du.hf at hr
      rw [if_neg ha, if_pos hb] at hr
      omega
    · exact hb
  · refine .inr ⟨by unfold Du.fl; rw [if_pos ⟨hi, e⟩, if_neg hr], ?_, hr⟩
    rcases (by omega : abv d.act x d.n < 0 ∨ 0 ≤ abv d.act x d.n) with ha | ha
    · exfalso
      unfold Du.hf at hr
      rw [if_pos ha] at hr
      omega
    · exact ha
theorem Du.fl_off {d : Du} {b a c : Int} {k i : Nat} (e : ¬ d.lk i = c) : d.fl b a c k i = d.lk i := if_neg fun h => e h.2
theorem Du.fl_ne {d : Du} {x : Nat} (h : d.okF x) {i : Nat} (hi : i < d.m) : ¬ d.fl (bel d.act x d.n) (abv d.act x d.n) x d.m i = x := by
  have hb := bel_in d.act x d.n
  have ha := abv_in d.act x d.n
  by_cases e : d.lk i = x
  · rcases Du.fl_at h hi e with ⟨h1, h2, _⟩ | ⟨h1, h2, _⟩
    · rw [h1]; omega
    · rw [h1]; have := ha.2.1 h2; omega
  · rw [Du.fl_off e]; exact e
/-- The duty of a failing centre is good. -/
theorem Du.fc_good {d : Du} {x : Nat} (h : d.okF x) : (d.fc1 x).good := by
  have h' := h
  obtain ⟨hg, hx, hact, hnb⟩ := h'
  have ex : ((x : Nat) : Int).toNat = x := by omega
  obtain ⟨hall, h1, h5, hnc, hm1, hm2⟩ := hg
  have hb := bel_in d.act x d.n
  have ha := abv_in d.act x d.n
  refine ⟨fun i hi => ?_, h1, h5, hnc, hm1, hm2⟩
  replace hi : i < d.m := hi
  show 0 ≤ d.fl _ _ _ _ i ∧ d.fl _ _ _ _ i < d.ce ∧ upd d.act (x : Int).toNat false (d.fl _ _ _ _ i).toNat = true ∧ (0 < i → d.fl _ _ _ _ (i - 1) ≤ d.fl _ _ _ _ i)
  rw [ex]
  have hne := Du.fl_ne h hi
  obtain ⟨o1, o2, o3, o4⟩ := hall i hi
  have hF : 0 ≤ d.fl (bel d.act x d.n) (abv d.act x d.n) x d.m i ∧ d.fl (bel d.act x d.n) (abv d.act x d.n) x d.m i < d.ce ∧ d.act (d.fl (bel d.act x d.n) (abv d.act x d.n) x d.m i).toNat = true := by
    by_cases e : d.lk i = x
    · rcases Du.fl_at h hi e with ⟨h1, h2, _⟩ | ⟨h1, h2, _⟩
      · rw [h1]; exact ⟨h2, by omega, hb.2.2.2 h2⟩
      · rw [h1]; exact ⟨h2, by omega, ha.2.2.2 h2⟩
    · rw [Du.fl_off e]; exact ⟨o1, o2, o3⟩
  refine ⟨hF.1, hF.2.1, ?_, fun hp => ?_⟩
  · rw [upd_ne _ _ (by omega)]; exact hF.2.2
  · have hpi : i - 1 < d.m := by omega
    obtain ⟨p1, p2, p3, p4⟩ := hall (i - 1) hpi
    have hle := o4 hp
    by_cases e : d.lk i = x
    · by_cases e' : d.lk (i - 1) = x
      · have hrk : d.rk x i = d.rk x (i - 1) + 1 := by
          have := Du.rk_yes e'
          rwa [show i - 1 + 1 = i by omega] at this
        rcases Du.fl_at h hi e with ⟨h1, h2, h3⟩ | ⟨h1, h2, h3⟩ <;> rcases Du.fl_at h hpi e' with ⟨g1, g2, g3⟩ | ⟨g1, g2, g3⟩ <;> rw [h1, g1]
        · exact Int.le_refl _
        · omega
        · have := ha.2.1 h2; omega
        · exact Int.le_refl _
      · rw [Du.fl_off e']
        rcases Du.fl_at h hi e with ⟨h1, h2, h3⟩ | ⟨h1, h2, h3⟩ <;> rw [h1]
        · have := bel_max p3 (c := x) (by omega) d.n (by omega)
          omega
        · have := ha.2.1 h2; omega
    · rw [Du.fl_off e]
      by_cases e' : d.lk (i - 1) = x
      · rcases Du.fl_at h hpi e' with ⟨g1, g2, g3⟩ | ⟨g1, g2, g3⟩ <;> rw [g1]
        · omega
        · have := (abv_min o3 (c := x) (by omega) d.n (by omega)).2
          omega
      · rw [Du.fl_off e']; exact hle
/-- All locks are somewhere. -/
theorem sumZ_upd {f : Nat → Int} {j : Nat} {v : Int} : ∀ n, sumZ (upd f j (f j + v)) n = sumZ f n + (if j < n then v else 0)
  | 0 => by simp [sumZ]
  | n + 1 => by
    have ih := sumZ_upd (f := f) (j := j) (v := v) n
    show sumZ (upd f j (f j + v)) n + upd f j (f j + v) n = sumZ f n + f n + _
    rw [ih]
    by_cases e : n = j
    · subst e
      rw [upd_at, if_neg (Nat.lt_irrefl _), if_pos (Nat.lt_succ_self _)]
      omega
    · rw [upd_ne _ _ e]
      by_cases h : j < n
      · rw [if_pos h, if_pos (by omega)]; omega
      · rw [if_neg h, if_neg (by omega)]; omega
theorem sumZ_zero : ∀ n, sumZ (fun _ => 0) n = 0
  | 0 => rfl
  | n + 1 => by show sumZ (fun _ => 0) n + 0 = 0; rw [sumZ_zero n]; rfl
theorem Du.ld_sum {d : Du} (n : Nat) : ∀ k, (∀ i, i < k → 0 ≤ d.lk i ∧ d.lk i < n) → sumZ (d.ld k) n = k
  | 0, _ => sumZ_zero n
  | k + 1, h => by
    have ih := Du.ld_sum (d := d) n k (fun i hi => h i (by omega))
    have hk := h k (by omega)
    rw [Du.ld_succ, sumZ_upd, ih, if_pos (by omega)]
    rfl
theorem sumZ_in {f : Nat → Int} {b : Int} (h : ∀ i, 0 ≤ f i ∧ f i ≤ b) : ∀ n : Nat, 0 ≤ sumZ f n ∧ sumZ f n ≤ b * n
  | 0 => ⟨Int.le_refl _, by show (0 : Int) ≤ b * ((0 : Nat) : Int); simp⟩
  | n + 1 => by
    have ih := sumZ_in h n
    have := h n
    refine ⟨by show 0 ≤ sumZ f n + f n; omega, ?_⟩
    show sumZ f n + f n ≤ b * ((n + 1 : Nat) : Int)
    rw [show ((n + 1 : Nat) : Int) = (n : Int) + 1 from rfl, Int.mul_add, Int.mul_one]
    omega
theorem Du.ld_none {d : Du} {x : Nat} : ∀ k, (∀ i, i < k → 0 ≤ d.lk i ∧ ¬ d.lk i = x) → d.ld k x = 0
  | 0, _ => rfl
  | k + 1, h => by
    have ih := Du.ld_none (d := d) (x := x) k (fun i hi => h i (by omega))
    have hk := h k (by omega)
    have e : d.ld (k + 1) x = d.ld k x := if_neg (by omega)
    omega
theorem Du.fc_ld {d : Du} {x : Nat} (h : d.okF x) : (d.fc1 x).ld d.m x = 0 :=
  Du.ld_none d.m fun i hi => ⟨((Du.fc_good h).1 i hi).1, Du.fl_ne h hi⟩
/-- As many locks change as the centre had. -/
theorem Du.fc_dif {d : Du} {x : Nat} (h : d.okF x) : ∀ k, k ≤ d.m → (dif d (d.fc1 x) k : Int) = d.ld k x
  | 0, _ => rfl
  | k + 1, hk => by
    have ih := Du.fc_dif h k (by omega)
    have hne := Du.fl_ne h (i := k) (by omega)
    have h0 := (h.1.1 k (by omega)).1
    by_cases e : d.lk k = x
    · have e1 : dif d (d.fc1 x) (k + 1) = dif d (d.fc1 x) k + 1 := dif_no (fun q => hne (by have q2 : d.lk k = d.fl (bel d.act (x : Int).toNat d.n) (abv d.act (x : Int).toNat d.n) x d.m k := q; rw [show (x : Int).toNat = x by omega] at q2; rw [← q2]; exact e))
      have e2 : d.ld (k + 1) x = d.ld k x + 1 := if_pos (by omega)
      omega
    · have e1 : dif d (d.fc1 x) (k + 1) = dif d (d.fc1 x) k := dif_yes (Du.fl_off e).symm
      have e2 : d.ld (k + 1) x = d.ld k x := if_neg (by omega)
      omega
theorem Du.rk_up (d : Du) (c : Int) {k : Nat} : ∀ m, k ≤ m → d.rk c m ≤ d.rk c k + (m - k)
  | 0, h => by obtain rfl : k = 0 := by omega
               exact Nat.le_add_right _ _
  | m + 1, h => by
    rcases Nat.lt_or_ge k (m + 1) with h1 | h1
    · have := d.rk_up c m (by omega : k ≤ m)
      by_cases h2 : d.lk m = c
      · rw [Du.rk_yes h2]; omega
      · rw [Du.rk_no h2]; omega
    · obtain rfl : k = m + 1 := by omega
      omega
theorem Du.rk_none {d : Du} {c : Int} {k : Nat} : ∀ m, k ≤ m → (∀ i, k ≤ i → i < m → ¬ d.lk i = c) → d.rk c m = d.rk c k
  | 0, h, _ => by obtain rfl : k = 0 := by omega
                  rfl
  | m + 1, h, hn => by
    rcases Nat.lt_or_ge k (m + 1) with h1 | h1
    · rw [Du.rk_no (hn m (by omega) (by omega))]
      exact Du.rk_none m (by omega) fun i a b => hn i a (by omega)
    · obtain rfl : k = m + 1 := by omega
      rfl
theorem Du.rk_all {d : Du} {c : Int} {k : Nat} : ∀ m, k ≤ m → (∀ i, k ≤ i → i < m → d.lk i = c) → d.rk c m = d.rk c k + (m - k)
  | 0, h, _ => by obtain rfl : k = 0 := by omega
                  rfl
  | m + 1, h, hn => by
    rcases Nat.lt_or_ge k (m + 1) with h1 | h1
    · rw [Du.rk_yes (hn m (by omega) (by omega)), Du.rk_all m (by omega) fun i a b => hn i a (by omega)]
      omega
    · obtain rfl : k = m + 1 := by omega
      omega
/-- The locks of a centre stand side by side. -/
theorem Du.run {d : Du} (hg : d.good) {x : Int} {r : Nat} (hr : r < d.m) (e : d.lk r = x) (hb : ∀ i, i < r → ¬ d.lk i = x) {i : Nat} (hi : i < d.m) : d.lk i = x ↔ r ≤ i ∧ i < r + d.rk x d.m := by
  have h0 : d.rk x r = 0 := Du.rk_none r (Nat.zero_le _) fun i _ h => hb i h
  constructor
  · intro h
    have h1 : r ≤ i := by
      rcases Nat.lt_or_ge i r with h2 | h2
      · exact absurd h (hb i h2)
      · exact h2
    refine ⟨h1, ?_⟩
    have h2 := Du.rk_all (d := d) (c := x) (k := r) (i + 1) (by omega) fun j a b => by
      have q1 := Du.good_le hg (i := r) j a (by omega)
      have q2 := Du.good_le hg (i := j) i (by omega) hi
      omega
    have h3 := d.rk_mono x (k := i + 1) d.m (by omega)
    omega
  · rintro ⟨h1, h2⟩
    by_cases h : d.lk i = x
    · exact h
    · exfalso
      have h3 := Du.rk_none (d := d) (c := x) (k := i) d.m (by omega) fun j a b => by
        have q1 := Du.good_le hg (i := r) i h1 hi
        have q2 := Du.good_le hg (i := i) j a b
        omega
      have h4 := d.rk_up x (k := r) i h1
      omega
theorem Du.good_congr {d d2 : Du} (h : d.good) (hc : d2.ce = d.ce) (hn : d2.n = d.n) (hm : d2.m = d.m) (ha : ∀ i, i < d.n → d2.act i = d.act i) (hl : ∀ i, i < d.m → d2.lk i = d.lk i) : d2.good := by
  obtain ⟨h0, h1, h2, h3, h4, h5⟩ := h
  refine ⟨fun i hi => ?_, by omega, by omega, by omega, by omega, by omega⟩
  rw [hm] at hi
  obtain ⟨o1, o2, o3, o4⟩ := h0 i hi
  refine ⟨by rw [hl i hi]; exact o1, by rw [hl i hi, hc]; exact o2, by rw [hl i hi, ha _ (by omega)]; exact o3, fun hp => by rw [hl i hi, hl (i - 1) (by omega)]; exact o4 hp⟩
/-- The centre comes back and takes the locks that it had: the duty is the old one. -/
theorem Du.back {d : Du} {x : Nat} (h : d.okF x) {r : Nat} (hr : r < d.m) (e : d.lk r = x) (hb : ∀ i, i < r → ¬ d.lk i = x) :
    (d.fc1 x).okR x r (r + d.rk x d.m - 1) ∧ BS d.n ((d.fc1 x).rc1 x r (r + d.rk x d.m - 1)).act = BS d.n d.act ∧ IS d.m ((d.fc1 x).rc1 x r (r + d.rk x d.m - 1)).lk = IS d.m d.lk := by
  have hg := h.1
  have hact := h.2.2.1
  have ex : ((x : Nat) : Int).toNat = x := by omega
  rw [ex] at hact
  have h0 : d.rk x r = 0 := Du.rk_none r (Nat.zero_le _) fun i _ h => hb i h
  have hc : 0 < d.rk x d.m := by have := Du.rk_lt e hr; omega
  have hup := d.rk_up x (k := r) d.m (by omega)
  have ha : ∀ i, ((d.fc1 x).rc1 x r (r + d.rk x d.m - 1)).act i = d.act i := fun i => by
    show upd (upd d.act (x : Int).toNat false) (x : Int).toNat true i = d.act i
    rw [ex]
    by_cases q : i = x
    · subst q; rw [upd_at]; exact hact.symm
    · rw [upd_ne _ _ q, upd_ne _ _ q]
  have hl : ∀ i, i < d.m → ((d.fc1 x).rc1 x r (r + d.rk x d.m - 1)).lk i = d.lk i := fun i hi => by
    have hrun := Du.run hg hr e hb hi
    show (d.fc1 x).rl x r ((r : Int) + d.rk x d.m - 1 + 1) i = d.lk i
    by_cases q : d.lk i = x
    · have := hrun.1 q
      have e2 : (d.fc1 x).rl x r ((r : Int) + d.rk x d.m - 1 + 1) i = x := if_pos ⟨by omega, by omega⟩
      rw [e2, q]
    · have e2 : (d.fc1 x).rl x r ((r : Int) + d.rk x d.m - 1 + 1) i = (d.fc1 x).lk i := if_neg fun q2 => q (hrun.2 ⟨by omega, by omega⟩)
      rw [e2]
      exact Du.fl_off q
  refine ⟨⟨Du.fc_good h, h.2.1, ?_, by omega, by omega, by show (r : Int) + d.rk x d.m - 1 < d.m; omega, Du.good_congr hg rfl rfl rfl (fun i _ => ha i) hl⟩, BS.congr fun i _ => ha i, IS.congr fun i hi => hl i hi⟩
  show upd d.act (x : Int).toNat false (x : Int).toNat = false
  exact upd_at _ _ _
theorem Du.rk_ex {d : Du} {c : Int} : ∀ k, 0 < d.rk c k → ∃ i, i < k ∧ d.lk i = c
  | 0, h => absurd h (Nat.lt_irrefl _)
  | k + 1, h => by
    by_cases e : d.lk k = c
    · exact ⟨k, by omega, e⟩
    · rw [Du.rk_no e] at h
      obtain ⟨i, h1, h2⟩ := Du.rk_ex k h
      exact ⟨i, by omega, h2⟩
end Go.Proofs.Ytegifeokfdadpaa
