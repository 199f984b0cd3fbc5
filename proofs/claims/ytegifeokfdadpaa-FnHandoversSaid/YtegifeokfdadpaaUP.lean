/-
  What an even duty is, and that a duty comes back from its text. Plain.
  Conditions: none beyond each statement's own premises.
-/
import Derived.Test.YtegifeokfdadpaaUA
import Derived.Test.YtegifeokfdadpaaU6
import Derived.Test.YtegifeokfdadpaaUK
namespace Go.Proofs.Ytegifeokfdadpaa
set_option linter.unusedSimpArgs false
set_option linter.unusedVariables false
open Go.RowKit
set_option maxRecDepth 10000
/-! ### The working centres, counted -/
theorem Du.al_ext (d : Du) {k : Nat} : ∀ n, k ≤ n → ∃ s, d.al n = d.al k ++ s
  | 0, h => ⟨[], by rw [List.append_nil, show k = 0 by omega]⟩
  | n + 1, h => by
    rcases Nat.lt_or_ge k (n + 1) with h1 | h1
    · obtain ⟨s, hs⟩ := d.al_ext n (by omega : k ≤ n)
      by_cases h2 : d.act n = true
      · exact ⟨s ++ [(n : Int)], by rw [Du.al_yes h2, hs, List.append_assoc]⟩
      · exact ⟨s, by rw [Du.al_no h2, hs]⟩
    · exact ⟨[], by rw [List.append_nil, show k = n + 1 by omega]⟩
theorem Du.al_len_mono (d : Du) {k n : Nat} (h : k ≤ n) : (d.al k).length ≤ (d.al n).length := by
  obtain ⟨s, hs⟩ := d.al_ext n h
  rw [hs, List.length_append]
  omega
theorem Du.aw_of {d : Du} {k : Nat} (hk : k < d.n) (ha : d.act k = true) : d.aw (d.al k).length = k ∧ (d.al k).length < d.nw := by
  obtain ⟨s, hs⟩ := d.al_ext d.n (show k + 1 ≤ d.n from hk)
  rw [Du.al_yes ha, List.append_assoc] at hs
  refine ⟨?_, ?_⟩
  · unfold Du.aw
    rw [hs, List.getD_eq_getElem?_getD, List.getElem?_append_right (Nat.le_refl _), Nat.sub_self]
    rfl
  · unfold Du.nw
    rw [hs]
    simp
theorem Du.al_at (d : Du) : ∀ n t, t < (d.al n).length → ∃ k, k < n ∧ d.act k = true ∧ t = (d.al k).length
  | 0, t, h => by simp [Du.al] at h
  | n + 1, t, h => by
    by_cases h2 : d.act n = true
    · rw [Du.al_yes h2, List.length_append] at h
      simp at h
      rcases Nat.lt_or_ge t (d.al n).length with h3 | h3
      · obtain ⟨k, h4, h5, h6⟩ := d.al_at n t h3
        exact ⟨k, by omega, h5, h6⟩
      · exact ⟨n, by omega, h2, by omega⟩
    · rw [Du.al_no h2] at h
      obtain ⟨k, h4, h5, h6⟩ := d.al_at n t h
      exact ⟨k, by omega, h5, h6⟩
theorem Du.aw_ex {d : Du} {t : Nat} (h : t < d.nw) : ∃ k, k < d.n ∧ d.act k = true ∧ t = (d.al k).length ∧ d.aw t = k := by
  obtain ⟨k, h1, h2, h3⟩ := d.al_at d.n t h
  exact ⟨k, h1, h2, h3, by rw [h3]; exact (Du.aw_of h1 h2).1⟩
theorem Du.aw_mono {d : Du} {t u : Nat} (hu : u < d.nw) (h : t ≤ u) : d.aw t ≤ d.aw u := by
  obtain ⟨k, h1, h2, h3, h4⟩ := Du.aw_ex (show t < d.nw by omega)
  obtain ⟨j, g1, g2, g3, g4⟩ := Du.aw_ex hu
  rw [h4, g4]
  rcases Nat.lt_or_ge j k with q | q
  · exfalso
    have := d.al_len_mono (show j + 1 ≤ k from q)
    rw [Du.al_yes g2, List.length_append] at this
    simp at this
    omega
  · omega
theorem Du.aw_inj {d : Du} {t u : Nat} (ht : t < d.nw) (hu : u < d.nw) (e : d.aw t = d.aw u) : t = u := by
  obtain ⟨k, h1, h2, h3, h4⟩ := Du.aw_ex ht
  obtain ⟨j, g1, g2, g3, g4⟩ := Du.aw_ex hu
  obtain rfl : k = j := by omega
  omega
/-! ### Whose turn it is -/
theorem Du.st_ex (d : Du) {i : Nat} : ∀ k, i < d.st k → ∃ t, t < k ∧ d.st t ≤ i ∧ i < d.st (t + 1)
  | 0, h => absurd h (Nat.not_lt_zero i)
  | k + 1, h => by
    rcases Nat.lt_or_ge i (d.st k) with h1 | h1
    · obtain ⟨t, h2, h3⟩ := d.st_ex k h1
      exact ⟨t, by omega, h3⟩
    · exact ⟨k, by omega, h1, h⟩
theorem Du.ev_ex {d : Du} (h : 0 < d.nw) {i : Nat} (hi : i < d.m) : ∃ t, t < d.nw ∧ d.st t ≤ i ∧ i < d.st (t + 1) ∧ d.ev i = d.aw t := by
  obtain ⟨t, h1, h2, h3⟩ := d.st_ex (i := i) d.nw (by rw [Du.st_end h]; exact hi)
  refine ⟨t, h1, h2, h3, ?_⟩
  have e := Du.ev_at (d := d) (t := t) (s := i - d.st t) h1 (by have : d.st (t + 1) = d.st t + d.hh t := rfl; omega)
  rwa [show d.st t + (i - d.st t) = i by omega] at e
theorem Du.ev_good {d : Du} (h : d.good) : d.evd.good := by
  obtain ⟨hw1, _, _⟩ := Du.good_nw h
  obtain ⟨hall, h1, h5, hn, hm1, hm2⟩ := h
  refine ⟨fun i hi => ?_, h1, h5, hn, hm1, hm2⟩
  replace hi : i < d.m := hi
  show 0 ≤ d.ev i ∧ d.ev i < d.ce ∧ d.act (d.ev i).toNat = true ∧ (0 < i → d.ev (i - 1) ≤ d.ev i)
  obtain ⟨t, t1, t2, t3, t4⟩ := Du.ev_ex hw1 hi
  obtain ⟨k, k1, k2, k3, k4⟩ := Du.aw_ex t1
  refine ⟨by omega, by omega, by rw [t4, k4]; exact k2, fun hp => ?_⟩
  obtain ⟨u, u1, u2, u3, u4⟩ := Du.ev_ex hw1 (show i - 1 < d.m by omega)
  rw [t4, u4]
  refine Du.aw_mono t1 ?_
  rcases Nat.lt_or_ge t u with q | q
  · exfalso
    have := d.st_mono u (show t + 1 ≤ u from q)
    omega
  · exact q
theorem Du.ev_rk {d : Du} (h : 0 < d.nw) {t : Nat} (ht : t < d.nw) : ∀ i, i ≤ d.m → d.evd.rk (d.aw t) i = min i (d.st (t + 1)) - min i (d.st t)
  | 0, _ => by simp [Du.rk]
  | i + 1, hi => by
    have ih := Du.ev_rk h ht i (by omega)
    obtain ⟨u, u1, u2, u3, u4⟩ := Du.ev_ex h (show i < d.m by omega)
    have hst : d.st t ≤ d.st (t + 1) := d.st_mono _ (by omega)
    by_cases e : u = t
    · subst e
      rw [Du.rk_yes (show d.evd.lk i = _ from u4), ih]
      omega
    · rw [Du.rk_no (show ¬ d.evd.lk i = _ from fun q => e (Du.aw_inj u1 ht (u4.symm.trans q))), ih]
      rcases Nat.lt_or_ge u t with q | q
      · have := d.st_mono t (show u + 1 ≤ t from q)
        omega
      · have := d.st_mono u (show t + 1 ≤ u by omega)
        omega
/-- How many locks a working centre gets. -/
theorem Du.ev_ld {d : Du} (h : d.good) {k : Nat} (hk : k < d.n) (ha : d.act k = true) : d.evd.ld d.m k = d.hh (d.al k).length := by
  obtain ⟨hw1, _, _⟩ := Du.good_nw h
  obtain ⟨e, ht⟩ := Du.aw_of hk ha
  have hg := Du.ev_good h
  have h1 := Du.ld_rk d.evd (c := k) d.m (fun i hi => (hg.1 i hi).1)
  rw [h1, ← e, Du.ev_rk hw1 ht d.m (Nat.le_refl _)]
  have h2 := Du.st_le hw1 ht
  have h3 : d.st ((d.al k).length + 1) = d.st (d.al k).length + d.hh (d.al k).length := rfl
  omega
/-- The last load seen when the first k centres are passed. -/
def Du.la (d : Du) (k : Nat) : Nat := if (d.al k).length = 0 then d.m else d.hh ((d.al k).length - 1)
theorem Du.la_yes {d : Du} {k : Nat} (ha : d.act k = true) : d.la (k + 1) = d.hh (d.al k).length := by
  unfold Du.la
  rw [Du.al_yes ha, List.length_append]
  simp
theorem Du.la_no {d : Du} {k : Nat} (ha : ¬ d.act k = true) : d.la (k + 1) = d.la k := by
  unfold Du.la
  rw [Du.al_no ha]
theorem Du.hh_le {d : Du} (h : 0 < d.nw) {t : Nat} (ht : t < d.nw) : d.hh t ≤ d.m := by
  have := Du.st_le h ht
  omega
theorem Du.la_le {d : Du} (h : d.good) {k : Nat} (hk : k < d.n) (ha : d.act k = true) : d.hh (d.al k).length ≤ d.la k ∧ (d.la k ≠ d.m → d.la k - d.hh (d.al k).length ≤ 1) := by
  obtain ⟨hw1, _, _⟩ := Du.good_nw h
  obtain ⟨_, ht⟩ := Du.aw_of hk ha
  have h1 := Du.hh_le hw1 ht
  unfold Du.la
  by_cases e : (d.al k).length = 0
  · rw [if_pos e]
    exact ⟨h1, fun q => absurd rfl q⟩
  · rw [if_neg e]
    unfold Du.hh
    repeat' split
    all_goals refine ⟨by omega, fun _ => by omega⟩
theorem Du.la_m {d : Du} (h : d.good) : ∀ k, k ≤ d.n → d.la k ≤ d.m
  | 0, _ => by unfold Du.la; rw [if_pos (show (d.al 0).length = 0 from rfl)]; exact Nat.le_refl _
  | k + 1, hk => by
    obtain ⟨hw1, _, _⟩ := Du.good_nw h
    by_cases ha : d.act k = true
    · rw [Du.la_yes ha]
      exact Du.hh_le hw1 (Du.aw_of (by omega) ha).2
    · rw [Du.la_no ha]
      exact Du.la_m h k (by omega)
theorem Du.al_evd (d : Du) : ∀ k, d.evd.al k = d.al k
  | 0 => rfl
  | k + 1 => by
    have ih := d.al_evd k
    by_cases ha : d.act k = true
    · rw [Du.al_yes ha, Du.al_yes (show d.evd.act k = true from ha), ih]
    · rw [Du.al_no ha, Du.al_no (show ¬ d.evd.act k = true from ha), ih]
theorem Du.nw_evd (d : Du) : d.evd.nw = d.nw := by unfold Du.nw; rw [d.al_evd]; rfl
theorem Du.hh_evd (d : Du) (t : Nat) : d.evd.hh t = d.hh t := by unfold Du.hh; rw [d.nw_evd]; rfl
theorem Du.st_evd (d : Du) : ∀ t, d.evd.st t = d.st t
  | 0 => rfl
  | t + 1 => by show d.evd.st t + d.evd.hh t = d.st t + d.hh t; rw [d.st_evd t, d.hh_evd]
theorem Du.pc_evd (d : Du) (i : Nat) : ∀ k, d.evd.pc i k = d.pc i k
  | 0 => rfl
  | k + 1 => by
    show (if d.evd.st (k + 1) ≤ i then d.evd.pc i k + 1 else d.evd.pc i k) = if d.st (k + 1) ≤ i then d.pc i k + 1 else d.pc i k
    rw [d.st_evd, d.pc_evd i k]
theorem Du.ev_evd (d : Du) : d.evd.ev = d.ev := by
  funext i
  show d.evd.aw (d.evd.pc i d.evd.nw) = d.aw (d.pc i d.nw)
  rw [d.nw_evd, d.pc_evd]
  unfold Du.aw
  rw [d.al_evd]
  rfl
/-- An even duty stays as it is. -/
theorem Du.evd_evd (d : Du) : d.evd.evd = d.evd := by
  show (⟨d.ce, d.n, d.act, d.m, d.evd.ev⟩ : Du) = ⟨d.ce, d.n, d.act, d.m, d.ev⟩
  rw [d.ev_evd]
/-! ### Back from the text -/
theorem Du.lt_space (d : Du) : ∀ k, (∀ i, i < k → 0 ≤ d.lk i ∧ d.lk i < 5) → 32 ∉ d.lt k
  | 0, _ => by simp [Du.lt]
  | k + 1, hk => fun h => by
    rcases List.mem_append.1 h with h1 | h1
    · exact d.lt_space k (fun i hi => hk i (by omega)) h1
    · rw [List.mem_singleton] at h1
      have := hk k (by omega)
      exact ltr_ne (by omega) (by omega) h1.symm
theorem Du.cs_len (d : Du) : ∀ k, (d.cs k).length = k
  | 0 => rfl
  | k + 1 => by show (d.cs k ++ [_]).length = _; rw [List.length_append, d.cs_len k]; rfl
theorem Du.lt_get (d : Du) {i : Nat} : ∀ k, i < k → (d.lt k).getD i 0 = ltr (d.lk i)
  | 0, h => absurd h (Nat.not_lt_zero i)
  | k + 1, h => by
    show (d.lt k ++ [ltr (d.lk k)]).getD i 0 = _
    rw [List.getD_eq_getElem?_getD]
    rcases Nat.lt_or_ge i k with h1 | h1
    · rw [List.getElem?_append_left (by rw [d.lt_len]; exact h1), ← List.getD_eq_getElem?_getD]
      exact d.lt_get k h1
    · obtain rfl : i = k := by omega
      rw [List.getElem?_append_right (by rw [d.lt_len]; exact Nat.le_refl _), d.lt_len, Nat.sub_self]
      rfl
theorem Du.cs_get (d : Du) {i : Nat} : ∀ k, i < k → (d.cs k).getD i 0 = if d.act i = true then ltr i else 45
  | 0, h => absurd h (Nat.not_lt_zero i)
  | k + 1, h => by
    show (d.cs k ++ [if d.act k = true then ltr k else 45]).getD i 0 = _
    rw [List.getD_eq_getElem?_getD]
    rcases Nat.lt_or_ge i k with h1 | h1
    · rw [List.getElem?_append_left (by rw [d.cs_len]; exact h1), ← List.getD_eq_getElem?_getD]
      exact d.cs_get k h1
    · obtain rfl : i = k := by omega
      rw [List.getElem?_append_right (by rw [d.cs_len]; exact Nat.le_refl _), d.cs_len, Nat.sub_self]
      rfl
theorem ltr_dash {x : Int} (h0 : 0 ≤ x) (h1 : x < 26) : ¬ ltr x = 45 := fun e => by
  have := ltr_int h0 h1
  rw [e] at this
  have e2 : ((45 : UInt8).toNat : Int) = 45 := rfl
  omega
theorem Du.lt_congr {d d2 : Du} : ∀ k, (∀ i, i < k → d2.lk i = d.lk i) → d2.lt k = d.lt k
  | 0, _ => rfl
  | k + 1, h => by
    show d2.lt k ++ [ltr (d2.lk k)] = d.lt k ++ [ltr (d.lk k)]
    rw [Du.lt_congr k (fun i hi => h i (by omega)), h k (by omega)]
theorem Du.cs_congr {d d2 : Du} : ∀ k, (∀ i, i < k → d2.act i = d.act i) → d2.cs k = d.cs k
  | 0, _ => rfl
  | k + 1, h => by
    show d2.cs k ++ [if d2.act k = true then ltr k else 45] = d.cs k ++ [if d.act k = true then ltr k else 45]
    rw [Du.cs_congr k (fun i hi => h i (by omega)), h k (by omega)]
/-- A good duty's text tells it. -/
theorem Du.told {d : Du} (h : d.good) : okP (d.ct d.n) ∧ (pd (d.ct d.n)).ce = d.ce ∧ (pd (d.ct d.n)).n = d.n ∧ (pd (d.ct d.n)).m = d.m ∧ BS d.n (pd (d.ct d.n)).act = BS d.n d.act ∧ IS d.m (pd (d.ct d.n)).lk = IS d.m d.lk := by
  have h' := h
  obtain ⟨hall, h1, h5, hn, hm1, hm2⟩ := h'
  have hs := d.lt_space d.m (fun i hi => by obtain ⟨a, b, _⟩ := hall i hi; omega)
  obtain ⟨eb, ea⟩ := bf_at hs (q := d.cs d.n)
  have ect := d.ct_cs d.n
  rw [← ect] at eb ea
  have en : (pd (d.ct d.n)).n = d.n := by show (af (d.ct d.n)).length = _; rw [ea, d.cs_len]
  have em : (pd (d.ct d.n)).m = d.m := by show (bf (d.ct d.n)).length = _; rw [eb, d.lt_len]
  have ece : (pd (d.ct d.n)).ce = d.ce := by show ((af (d.ct d.n)).length : Int) = _; rw [ea, d.cs_len]; omega
  have eact : ∀ i, i < d.n → (pd (d.ct d.n)).act i = d.act i := fun i hi => by
    show decide (¬ (af (d.ct d.n)).getD i 0 = 45) = _
    rw [ea, d.cs_get d.n hi]
    cases hc : d.act i
    · simp
    · rw [if_pos rfl]
      exact decide_eq_true (ltr_dash (by omega) (by omega))
  have elk : ∀ i, i < d.m → (pd (d.ct d.n)).lk i = d.lk i := fun i hi => by
    show (((bf (d.ct d.n)).getD i 0).toNat : Int) - 97 = _
    obtain ⟨a, b, _⟩ := hall i hi
    rw [eb, d.lt_get d.m hi, ltr_int a (by omega)]
    omega
  refine ⟨⟨Du.good_congr h ece en em eact elk, ?_⟩, ece, en, em, BS.congr eact, IS.congr elk⟩
  have e1 : (pd (d.ct d.n)).ct d.n = d.ct d.n := by
    rw [Du.ct_cs, em, Du.lt_congr d.m elk, Du.cs_congr d.n eact, ← ect]
  rw [en]
  exact e1
theorem okP_txt {l : List UInt8} (h : okP l) : (pr l).txt = .tuple #[.string (tx l), .bool true] := by
  rw [pr_yes h, Du.txt_yes h.1, h.2]
theorem no_okP : ¬ okP [] := fun h => by
  have := (okP_two h).1
  simp [sps, spl] at this
theorem pr_nil : pr [] = Du.zero := pr_no no_okP
end Go.Proofs.Ytegifeokfdadpaa
