/-
  A failing centre, in plain Lean: its nearest active neighbours, and who takes its locks.
  Conditions: none beyond each statement's own premises.
-/
import Derived.Test.YtegifeokfdadpaaU2
namespace Go.Proofs.Ytegifeokfdadpaa
set_option linter.unusedSimpArgs false
set_option linter.unusedVariables false
open Go.RowKit
set_option maxRecDepth 10000
/-- The greatest active centre below c among the first k, or -1. -/
def bel (f : Nat → Bool) (c : Nat) : Nat → Int
  | 0 => -1
  | k + 1 => if f k = true ∧ k < c then (k : Int) else bel f c k
/-- The least active centre above c among the first k, or -1. -/
def abv (f : Nat → Bool) (c : Nat) : Nat → Int
  | 0 => -1
  | k + 1 => if f k = true ∧ c < k ∧ abv f c k < 0 then (k : Int) else abv f c k
theorem bel_yes {f : Nat → Bool} {c k : Nat} (h : f k = true) (h2 : k < c) : bel f c (k + 1) = k := if_pos ⟨h, h2⟩
theorem bel_no {f : Nat → Bool} {c k : Nat} (h : ¬ (f k = true ∧ k < c)) : bel f c (k + 1) = bel f c k := if_neg h
theorem abv_yes {f : Nat → Bool} {c k : Nat} (h : f k = true) (h2 : c < k) (h3 : abv f c k < 0) : abv f c (k + 1) = k := if_pos ⟨h, h2, h3⟩
theorem abv_no {f : Nat → Bool} {c k : Nat} (h : ¬ (f k = true ∧ c < k ∧ abv f c k < 0)) : abv f c (k + 1) = abv f c k := if_neg h
theorem bel_in (f : Nat → Bool) (c : Nat) : ∀ m, -1 ≤ bel f c m ∧ bel f c m < c ∧ bel f c m < m ∧ (0 ≤ bel f c m → f (bel f c m).toNat = true)
  | 0 => ⟨Int.le_refl _, by show (-1 : Int) < c; omega, by show (-1 : Int) < 0; omega, fun h => absurd h (by show ¬ (0 : Int) ≤ -1; omega)⟩
  | k + 1 => by
    have ih := bel_in f c k
    by_cases h : f k = true ∧ k < c
    · rw [bel_yes h.1 h.2]
      refine ⟨by omega, by omega, by omega, fun _ => ?_⟩
      rw [Int.toNat_natCast]
      exact h.1
    · rw [bel_no h]
      exact ⟨ih.1, ih.2.1, by omega, ih.2.2.2⟩
theorem abv_in (f : Nat → Bool) (c : Nat) : ∀ m, -1 ≤ abv f c m ∧ (0 ≤ abv f c m → (c : Int) < abv f c m) ∧ abv f c m < m ∧ (0 ≤ abv f c m → f (abv f c m).toNat = true)
  | 0 => ⟨Int.le_refl _, fun h => absurd h (by show ¬ (0 : Int) ≤ -1; omega), by show (-1 : Int) < 0; omega, fun h => absurd h (by show ¬ (0 : Int) ≤ -1; omega)⟩
  | k + 1 => by
    have ih := abv_in f c k
    by_cases h : f k = true ∧ c < k ∧ abv f c k < 0
    · rw [abv_yes h.1 h.2.1 h.2.2]
      refine ⟨by omega, fun _ => by omega, by omega, fun _ => ?_⟩
      rw [Int.toNat_natCast]
      exact h.1
    · rw [abv_no h]
      exact ⟨ih.1, ih.2.1, by omega, ih.2.2.2⟩
theorem bel_none {f : Nat → Bool} {c : Nat} : ∀ m, (∀ i, i < m → i < c → ¬ f i = true) → bel f c m = -1
  | 0, _ => rfl
  | k + 1, h => by rw [bel_no (fun q => h k (by omega) q.2 q.1)]; exact bel_none k fun i hi => h i (by omega)
theorem bel_eq {f : Nat → Bool} {c k : Nat} (hk : f k = true) (hc : k < c) (h : ∀ i, k < i → i < c → ¬ f i = true) : ∀ m, k < m → bel f c m = k
  | 0, h0 => absurd h0 (by omega)
  | m + 1, h0 => by
    rcases Nat.lt_or_ge k m with h1 | h1
    · rw [bel_no (fun q => h m h1 q.2 q.1)]
      exact bel_eq hk hc h m h1
    · have e : m = k := by omega
      rw [e]
      exact bel_yes hk hc
theorem abv_none {f : Nat → Bool} {c : Nat} : ∀ m, (∀ i, i < m → c < i → ¬ f i = true) → abv f c m = -1
  | 0, _ => rfl
  | k + 1, h => by rw [abv_no (fun q => h k (by omega) q.2.1 q.1)]; exact abv_none k fun i hi => h i (by omega)
theorem abv_eq {f : Nat → Bool} {c k : Nat} (hk : f k = true) (hc : c < k) (h : ∀ i, c < i → i < k → ¬ f i = true) : ∀ m, k < m → abv f c m = k
  | 0, h0 => absurd h0 (by omega)
  | m + 1, h0 => by
    rcases Nat.lt_or_ge k m with h1 | h1
    · have ih := abv_eq hk hc h m h1
      rw [abv_no (fun q => by omega)]
      exact ih
    · have e : m = k := by omega
      rw [e]
      exact abv_yes hk hc (by rw [abv_none k (fun i q1 q2 => h i q2 q1)]; omega)
/-- How many of the first k locks a centre has. -/
def Du.rk (d : Du) (c : Int) : Nat → Nat
  | 0 => 0
  | k + 1 => if d.lk k = c then d.rk c k + 1 else d.rk c k
theorem Du.rk_yes {d : Du} {c : Int} {k : Nat} (h : d.lk k = c) : d.rk c (k + 1) = d.rk c k + 1 := if_pos h
theorem Du.rk_no {d : Du} {c : Int} {k : Nat} (h : ¬ d.lk k = c) : d.rk c (k + 1) = d.rk c k := if_neg h
theorem Du.rk_le (d : Du) (c : Int) : ∀ k, d.rk c k ≤ k
  | 0 => Nat.le_refl _
  | k + 1 => by
    have := d.rk_le c k
    by_cases h : d.lk k = c
    · rw [Du.rk_yes h]; omega
    · rw [Du.rk_no h]; omega
theorem Du.rk_mono (d : Du) (c : Int) {k : Nat} : ∀ m, k ≤ m → d.rk c k ≤ d.rk c m
  | 0, h => by obtain rfl : k = 0 := by omega
               exact Nat.le_refl _
  | m + 1, h => by
    rcases Nat.lt_or_ge k (m + 1) with h1 | h1
    · have := d.rk_mono c m (by omega : k ≤ m)
      by_cases h2 : d.lk m = c
      · rw [Du.rk_yes h2]; omega
      · rw [Du.rk_no h2]; omega
    · obtain rfl : k = m + 1 := by omega
      exact Nat.le_refl _
theorem Du.ld_rk (d : Du) {c : Nat} : ∀ k, (∀ i, i < k → 0 ≤ d.lk i) → d.ld k c = d.rk c k
  | 0, _ => rfl
  | k + 1, h => by
    have ih := d.ld_rk (c := c) k (fun i hi => h i (by omega))
    have h0 := h k (by omega)
    by_cases h1 : d.lk k = c
    · rw [Du.rk_yes h1]
      have e : d.ld (k + 1) c = d.ld k c + 1 := if_pos (by omega)
      omega
    · rw [Du.rk_no h1]
      have e : d.ld (k + 1) c = d.ld k c := if_neg (by omega)
      omega
/-- How many locks go to the lower neighbour. -/
def Du.hf (d : Du) (b a c : Int) : Nat := if a < 0 then d.rk c d.m else if b < 0 then 0 else d.rk c d.m / 2
/-- The locks when the first k are handed over. -/
def Du.fl (d : Du) (b a c : Int) (k : Nat) : Nat → Int := fun i => if i < k ∧ d.lk i = c then (if d.rk c i < d.hf b a c then b else a) else d.lk i
theorem Du.fl_zero (d : Du) (b a c : Int) : d.fl b a c 0 = d.lk := by
  funext i
  exact if_neg (fun h => by omega)
theorem Du.fl_no {d : Du} {b a c : Int} {k : Nat} (h : ¬ d.lk k = c) : d.fl b a c (k + 1) = d.fl b a c k := by
  funext i
  unfold Du.fl
  by_cases h1 : i < k ∧ d.lk i = c
  · rw [if_pos h1, if_pos ⟨by omega, h1.2⟩]
  · rw [if_neg h1, if_neg (fun h2 => h1 ⟨by
      rcases Nat.lt_or_ge i k with h3 | h3
      · exact h3
      · have e : i = k := by omega
        exact absurd (e ▸ h2.2) h, h2.2⟩)]
theorem Du.fl_low {d : Du} {b a c : Int} {k : Nat} (h : d.lk k = c) (h2 : d.rk c k < d.hf b a c) : d.fl b a c (k + 1) = upd (d.fl b a c k) k b := by
  funext i
  unfold upd
  by_cases e : i = k
  · subst e
    rw [if_pos rfl]
    unfold Du.fl
    rw [if_pos ⟨by omega, h⟩, if_pos h2]
  · rw [if_neg e]
    unfold Du.fl
    by_cases h1 : i < k ∧ d.lk i = c
    · rw [if_pos h1, if_pos ⟨by omega, h1.2⟩]
    · rw [if_neg h1, if_neg (fun h3 => h1 ⟨by omega, h3.2⟩)]
theorem Du.fl_high {d : Du} {b a c : Int} {k : Nat} (h : d.lk k = c) (h2 : ¬ d.rk c k < d.hf b a c) : d.fl b a c (k + 1) = upd (d.fl b a c k) k a := by
  funext i
  unfold upd
  by_cases e : i = k
  · subst e
    rw [if_pos rfl]
    unfold Du.fl
    rw [if_pos ⟨by omega, h⟩, if_neg h2]
  · rw [if_neg e]
    unfold Du.fl
    by_cases h1 : i < k ∧ d.lk i = c
    · rw [if_pos h1, if_pos ⟨by omega, h1.2⟩]
    · rw [if_neg h1, if_neg (fun h3 => h1 ⟨by omega, h3.2⟩)]
/-- The places of a centre's locks among the first k. -/
def Du.ps (d : Du) (c : Int) : Nat → List Int
  | 0 => []
  | k + 1 => if d.lk k = c then d.ps c k ++ [(k : Int)] else d.ps c k
theorem Du.ps_yes {d : Du} {c : Int} {k : Nat} (h : d.lk k = c) : d.ps c (k + 1) = d.ps c k ++ [(k : Int)] := if_pos h
theorem Du.ps_no {d : Du} {c : Int} {k : Nat} (h : ¬ d.lk k = c) : d.ps c (k + 1) = d.ps c k := if_neg h
theorem Du.ps_len (d : Du) (c : Int) : ∀ k, (d.ps c k).length = d.rk c k
  | 0 => rfl
  | k + 1 => by
    have := d.ps_len c k
    by_cases h : d.lk k = c
    · rw [Du.ps_yes h, Du.rk_yes h, List.length_append, this]; rfl
    · rw [Du.ps_no h, Du.rk_no h, this]
theorem Du.ps_get (d : Du) (c : Int) : ∀ k r, r < d.rk c k → ∃ p : Nat, (d.ps c k)[r]? = some (p : Int) ∧ p < k ∧ d.lk p = c ∧ d.rk c p = r
  | 0, r, h => absurd h (by show ¬ r < 0; omega)
  | k + 1, r, h => by
    by_cases hk : d.lk k = c
    · rw [Du.rk_yes hk] at h
      rw [Du.ps_yes hk]
      rcases Nat.lt_or_ge r (d.rk c k) with h1 | h1
      · obtain ⟨p, h2, h3, h4, h5⟩ := d.ps_get c k r h1
        refine ⟨p, ?_, by omega, h4, h5⟩
        rw [List.getElem?_append_left (by rw [d.ps_len]; exact h1)]
        exact h2
      · have e : r = d.rk c k := by omega
        refine ⟨k, ?_, by omega, hk, e.symm⟩
        rw [List.getElem?_append_right (by rw [d.ps_len]; exact h1), d.ps_len, e, Nat.sub_self]
        rfl
    · rw [Du.rk_no hk] at h
      rw [Du.ps_no hk]
      obtain ⟨p, h2, h3, h4, h5⟩ := d.ps_get c k r h
      exact ⟨p, h2, by omega, h4, h5⟩
/-- The locks when r of the centre's own are handed over. -/
def Du.gl (d : Du) (b a c : Int) (r : Nat) : Nat → Int := fun i => if d.rk c i < r ∧ d.lk i = c then (if d.rk c i < d.hf b a c then b else a) else d.lk i
theorem Du.rk_inj {d : Du} {c : Int} {i p : Nat} (hi : d.lk i = c) (hp : d.lk p = c) (h : d.rk c i = d.rk c p) : i = p := by
  rcases Nat.lt_trichotomy i p with h1 | h1 | h1
  · have := d.rk_mono c p (show i + 1 ≤ p from h1)
    rw [Du.rk_yes hi] at this
    omega
  · exact h1
  · have := d.rk_mono c i (show p + 1 ≤ i from h1)
    rw [Du.rk_yes hp] at this
    omega
theorem Du.gl_zero (d : Du) (b a c : Int) : d.gl b a c 0 = d.lk := by
  funext i
  exact if_neg (fun h => by omega)
theorem Du.gl_step {d : Du} {b a c : Int} {r p : Nat} (hp : d.lk p = c) (hr : d.rk c p = r) : d.gl b a c (r + 1) = upd (d.gl b a c r) p (if r < d.hf b a c then b else a) := by
  funext i
  unfold upd
  by_cases e : i = p
  · subst e
    rw [if_pos rfl]
    unfold Du.gl
    rw [if_pos ⟨by omega, hp⟩, hr]
  · rw [if_neg e]
    unfold Du.gl
    by_cases h1 : d.rk c i < r ∧ d.lk i = c
    · rw [if_pos h1, if_pos ⟨by omega, h1.2⟩]
    · rw [if_neg h1, if_neg (fun h3 => h1 ⟨by
        rcases Nat.lt_or_ge (d.rk c i) r with h4 | h4
        · exact h4
        · exact absurd (Du.rk_inj h3.2 hp (by omega)) e, h3.2⟩)]
theorem Du.gl_full (d : Du) (b a c : Int) : IS d.m (d.gl b a c (d.rk c d.m)) = IS d.m (d.fl b a c d.m) := IS.congr fun i hi => by
  unfold Du.gl Du.fl
  by_cases h : d.lk i = c
  · have h1 := d.rk_mono c d.m (show i + 1 ≤ d.m from hi)
    rw [Du.rk_yes h] at h1
    have c1 : d.rk c i < d.rk c d.m ∧ d.lk i = c := ⟨by omega, h⟩
    have c2 : i < d.m ∧ d.lk i = c := ⟨hi, h⟩
    rw [if_pos c1, if_pos c2]
  · have c1 : ¬ (d.rk c i < d.rk c d.m ∧ d.lk i = c) := fun q => h q.2
    have c2 : ¬ (i < d.m ∧ d.lk i = c) := fun q => h q.2
    rw [if_neg c1, if_neg c2]
/-! ### The result -/
def Du.okF (d : Du) (x : Int) : Prop := d.good ∧ (0 ≤ x ∧ x < d.ce) ∧ d.act x.toNat = true ∧ ¬ (bel d.act x.toNat d.n < 0 ∧ abv d.act x.toNat d.n < 0)
def Du.fc1 (d : Du) (x : Int) : Du := ⟨d.ce, d.n, upd d.act x.toNat false, d.m, d.fl (bel d.act x.toNat d.n) (abv d.act x.toNat d.n) x d.m⟩
def Du.zero : Du := ⟨0, 0, fun _ => false, 0, fun _ => 0⟩
noncomputable def Du.fc (d : Du) (x : Int) : Du := if tr (d.okF x) then d.fc1 x else Du.zero
theorem Du.fc_yes {d : Du} {x : Int} (h : d.okF x) : d.fc x = d.fc1 x := by unfold Du.fc; rw [tr_yes h]; rfl
theorem Du.fc_no {d : Du} {x : Int} (h : ¬ d.okF x) : d.fc x = Du.zero := by unfold Du.fc; rw [tr_no h]; rfl
theorem Du.fc_n {d : Du} {x : Int} (h : d.n ≤ 1048576) : (d.fc x).n ≤ 1048576 := by
  unfold Du.fc
  split
  · exact h
  · exact Nat.zero_le _
theorem Du.fc_m {d : Du} {x : Int} (h : d.m ≤ 1048576) : (d.fc x).m ≤ 1048576 := by
  unfold Du.fc
  split
  · exact h
  · exact Nat.zero_le _
/-- A duty and a bool. -/
def Du.bv (d : Du) (b : Bool) : Sl2 → Value
  | ((A, c), (B, e)) => .tuple #[.agg (d.at A c B e).toArray, .bool b]
theorem VRet.nilRow2 {w0 : Base} {own : List Own} {ι : Type} {I : ι → Prop} {val : ι → Value} {news : ι → List Own} {v : Value} (i : ι) (hi : I i) (hv : v = val i) {ty ty2 : TypeId} {size size2 : Nat} (h : news i = [.row (.slice none 0 0) ty size 0 [], .row (.slice none 0 0) ty2 size2 0 []]) : VRet w0 own (RetV I val news w0) v :=
  ⟨fun w m => ⟨i, hi, hv, by
    rw [h]
    have m1 : Mem w0 ([] : List Own) w := m.sel (ks := []) (by simp)
    exact (m1.pushNil ty size).pushNil ty2 size2⟩⟩
theorem VRet.zeroDuty {w0 : Base} {own : List Own} : VRet w0 own (RetV (fun _ => True) (Du.bv Du.zero false) Du.zero.dn w0) (.tuple #[.agg #[.int .i64 0, .slice none 0 0, .slice none 0 0], .bool false]) :=
  VRet.nilRow2 ((none, 0), (none, 0)) trivial rfl rfl
end Go.Proofs.Ytegifeokfdadpaa
