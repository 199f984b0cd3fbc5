/-
  Texts parted at spaces, and the duty that a text tells: plain.
  Conditions: none beyond each statement's own premises.
-/
import Derived.Test.YtegifeokfdadpaaU9
import Derived.Test.YtegifeokfdadpaaU3
import Derived.Lib.IndexLaws
namespace Go.Proofs.Ytegifeokfdadpaa
set_option linter.unusedSimpArgs false
set_option linter.unusedVariables false
open Go.RowKit
set_option maxRecDepth 10000
theorem tx_list (s : ByteArray) : tx s.data.toList = s := by
  apply ByteArray.ext
  simp [tx]
theorem tx_inj {a b : List UInt8} (h : tx a = tx b) : a = b := by
  have := congrArg (fun s : ByteArray => s.data.toList) h
  simpa [tx] using this
theorem tx_sub (l : List UInt8) (i j : Nat) : (tx l).extract i j = tx ((l.take j).drop i) := by
  apply ByteArray.ext
  simp [tx, List.extract_eq_take_drop, List.drop_take]
/-- What stands ahead of the first space, and what behind it. -/
def bf : List UInt8 → List UInt8
  | [] => []
  | b :: l => if b = 32 then [] else b :: bf l
def af : List UInt8 → List UInt8
  | [] => []
  | b :: l => if b = 32 then l else af l
theorem bf_no {l : List UInt8} (h : 32 ∉ l) : bf l = l ∧ af l = [] := by
  induction l with
  | nil => exact ⟨rfl, rfl⟩
  | cons b l ih =>
    have h1 : ¬ b = 32 := fun e => h (by simp [e])
    obtain ⟨i1, i2⟩ := ih (fun e => h (by simp [e]))
    exact ⟨by show (if _ then _ else _) = _; rw [if_neg h1, i1], by show (if _ then _ else _) = _; rw [if_neg h1, i2]⟩
theorem bf_yes {l : List UInt8} (h : 32 ∈ l) : l = bf l ++ 32 :: af l ∧ 32 ∉ bf l := by
  induction l with
  | nil => simp at h
  | cons b l ih =>
    by_cases h1 : b = 32
    · subst h1
      exact ⟨rfl, by show _ ∉ (if _ then _ else _); rw [if_pos rfl]; simp⟩
    · have h2 : 32 ∈ l := by
        rcases List.mem_cons.1 h with e | e
        · exact absurd e.symm h1
        · exact e
      obtain ⟨i1, i2⟩ := ih h2
      have e1 : bf (b :: l) = b :: bf l := if_neg h1
      have e2 : af (b :: l) = af l := if_neg h1
      rw [e1, e2]
      refine ⟨by rw [List.cons_append, ← i1], fun q => ?_⟩
      rcases List.mem_cons.1 q with e | e
      · exact h1 e.symm
      · exact i2 e
theorem bf_at {p q : List UInt8} (h : 32 ∉ p) : bf (p ++ 32 :: q) = p ∧ af (p ++ 32 :: q) = q := by
  induction p with
  | nil => exact ⟨rfl, rfl⟩
  | cons b l ih =>
    have h1 : ¬ b = 32 := fun e => h (by simp [e])
    obtain ⟨i1, i2⟩ := ih (fun e => h (by simp [e]))
    exact ⟨(show (if b = 32 then [] else b :: bf (l ++ 32 :: q)) = _ by rw [if_neg h1, i1]), (show (if b = 32 then _ else af (l ++ 32 :: q)) = _ by rw [if_neg h1, i2])⟩
theorem index_bf (l : List UInt8) : (Lib.indexByte l 32 = -1 ∧ bf l = l ∧ af l = [] ∧ 32 ∉ l) ∨ ∃ o : Nat, Lib.indexByte l 32 = o ∧ o < l.length ∧ bf l = l.take o ∧ af l = l.drop (o + 1) ∧ 32 ∈ l := by
  induction l with
  | nil => exact .inl ⟨rfl, rfl, rfl, by simp⟩
  | cons b l ih =>
    by_cases h1 : b = 32
    · subst h1
      exact .inr ⟨0, rfl, by simp, rfl, rfl, by simp⟩
    · have e0 : Lib.indexByte (b :: l) 32 = if Lib.indexByte l 32 == -1 then -1 else Lib.indexByte l 32 + 1 := by
        show (if b == 32 then (0 : Int) else _) = _
        rw [if_neg (by simpa using h1)]
      have e1 : bf (b :: l) = b :: bf l := if_neg h1
      have e2 : af (b :: l) = af l := if_neg h1
      rw [e0, e1, e2]
      rcases ih with ⟨i1, i2, i3, i4⟩ | ⟨o, i1, i2, i3, i4, i5⟩
      · exact .inl ⟨by rw [i1]; rfl, by rw [i2], i3, fun q => by
          rcases List.mem_cons.1 q with e | e
          · exact h1 e.symm
          · exact i4 e⟩
      · refine .inr ⟨o + 1, ?_, by simp; omega, by rw [i3]; rfl, by rw [i4]; rfl, List.mem_cons_of_mem _ i5⟩
        rw [i1, if_neg (by simp)]
        omega
/-! ### Parts -/
/-- The parts that are done when k bytes are seen, and where the next begins. -/
def spl (l : List UInt8) : Nat → List (List UInt8) × Nat
  | 0 => ([], 0)
  | k + 1 => if l[k]? = some 32 then ((spl l k).1 ++ [(l.take k).drop (spl l k).2], k + 1) else spl l k
theorem spl_yes {l : List UInt8} {k : Nat} (h : l[k]? = some 32) : spl l (k + 1) = ((spl l k).1 ++ [(l.take k).drop (spl l k).2], k + 1) := if_pos h
theorem spl_no {l : List UInt8} {k : Nat} (h : ¬ l[k]? = some 32) : spl l (k + 1) = spl l k := if_neg h
theorem spl_le (l : List UInt8) : ∀ k, (spl l k).2 ≤ k ∧ (spl l k).1.length ≤ k
  | 0 => ⟨Nat.le_refl _, Nat.le_refl _⟩
  | k + 1 => by
    have := spl_le l k
    by_cases h : l[k]? = some 32
    · rw [spl_yes h]
      exact ⟨Nat.le_refl _, by rw [List.length_append]; simp; omega⟩
    · rw [spl_no h]
      omega
def sps (l : List UInt8) : List (List UInt8) := (spl l l.length).1 ++ [l.drop (spl l l.length).2]
theorem spl_none {l : List UInt8} : ∀ k, (∀ i, i < k → ¬ l[i]? = some 32) → spl l k = ([], 0)
  | 0, _ => rfl
  | k + 1, h => by rw [spl_no (h k (by omega))]; exact spl_none k fun i hi => h i (by omega)
theorem not_at {p : List UInt8} (h : 32 ∉ p) (q : List UInt8) (i : Nat) (hi : i < p.length) : ¬ (p ++ 32 :: q)[i]? = some 32 := by
  rw [List.getElem?_append_left hi]
  exact fun e => h (List.mem_of_getElem? e)
theorem spl_one {p q : List UInt8} (h : 32 ∉ p) : spl (p ++ 32 :: q) (p.length + 1) = ([p], p.length + 1) := by
  rw [spl_yes (by rw [List.getElem?_append_right (Nat.le_refl _), Nat.sub_self]; rfl), spl_none _ (fun i hi => not_at h q i hi)]
  simp
theorem spl_more {p q : List UInt8} (h : 32 ∉ p) : ∀ k, 2 ≤ (spl (p ++ 32 :: q) (p.length + 1 + k)).1.length ∨ spl (p ++ 32 :: q) (p.length + 1 + k) = ([p], p.length + 1)
  | 0 => .inr (spl_one h)
  | k + 1 => by
    have ih := spl_more (q := q) h k
    by_cases hc : (p ++ 32 :: q)[p.length + 1 + k]? = some 32
    · rw [show p.length + 1 + (k + 1) = p.length + 1 + k + 1 from rfl, spl_yes hc]
      refine .inl ?_
      rw [List.length_append]
      rcases ih with ih | ih
      · simp; omega
      · rw [ih]; simp
    · rw [show p.length + 1 + (k + 1) = p.length + 1 + k + 1 from rfl, spl_no hc]
      exact ih
theorem spl_only {p q : List UInt8} (h : 32 ∉ p) (h2 : 32 ∉ q) : ∀ k, spl (p ++ 32 :: q) (p.length + 1 + k) = ([p], p.length + 1)
  | 0 => spl_one h
  | k + 1 => by
    have hc : ¬ (p ++ 32 :: q)[p.length + 1 + k]? = some 32 := by
      rw [List.getElem?_append_right (by omega), show p.length + 1 + k - p.length = k + 1 by omega, List.getElem?_cons_succ]
      exact fun e => h2 (List.mem_of_getElem? e)
    rw [show p.length + 1 + (k + 1) = p.length + 1 + k + 1 from rfl, spl_no hc]
    exact spl_only h h2 k
/-- Two parts are what stands ahead of the first space and what behind. -/
theorem sps_two {l : List UInt8} (h : (sps l).length = 2) : sps l = [bf l, af l] := by
  by_cases h1 : 32 ∈ l
  · obtain ⟨e, h2⟩ := bf_yes h1
    have el : l.length = (bf l).length + 1 + (af l).length := by
      have := congrArg List.length e
      simp at this
      omega
    have hm := spl_more (q := af l) h2 (af l).length
    rw [← e, ← el] at hm
    unfold sps at h ⊢
    rcases hm with hm | hm
    · rw [List.length_append] at h; simp at h; omega
    · rw [hm]
      have ed : (bf l ++ 32 :: af l).drop ((bf l).length + 1) = af l := by simp
      rw [← e] at ed
      show [bf l] ++ [l.drop ((bf l).length + 1)] = _
      rw [ed]
      rfl
  · exfalso
    unfold sps at h
    rw [spl_none _ (fun i _ e => h1 (List.mem_of_getElem? e))] at h
    simp at h
theorem sps_at {p q : List UInt8} (h : 32 ∉ p) (h2 : 32 ∉ q) : (sps (p ++ 32 :: q)).length = 2 := by
  have e := spl_only h h2 q.length
  have el : (p ++ 32 :: q).length = p.length + 1 + q.length := by simp; omega
  unfold sps
  rw [el, e]
  simp
/-! ### The duty that a text tells -/
def pd (l : List UInt8) : Du := ⟨(af l).length, (af l).length, fun i => decide (¬ (af l).getD i 0 = 45), (bf l).length, fun i => (((bf l).getD i 0).toNat : Int) - 97⟩
def okP (l : List UInt8) : Prop := (pd l).good ∧ (pd l).ct (pd l).n = l
def Du.cs (d : Du) : Nat → List UInt8
  | 0 => []
  | k + 1 => d.cs k ++ [if d.act k = true then ltr k else 45]
theorem Du.ct_cs (d : Du) : ∀ k, d.ct k = d.lt d.m ++ 32 :: d.cs k
  | 0 => rfl
  | k + 1 => by
    show d.ct k ++ _ = _
    rw [d.ct_cs k, List.append_assoc]
    rfl
theorem ltr_ne {x : Int} (h0 : 0 ≤ x) (h1 : x < 26) : ¬ ltr x = 32 := fun e => by
  have := ltr_int h0 h1
  rw [e] at this
  have e2 : ((32 : UInt8).toNat : Int) = 32 := rfl
  omega
theorem Du.cs_space (d : Du) : ∀ k, k ≤ 5 → 32 ∉ d.cs k
  | 0, _ => by simp [Du.cs]
  | k + 1, hk => fun h => by
    rcases List.mem_append.1 h with h1 | h1
    · exact d.cs_space k (by omega) h1
    · rw [List.mem_singleton] at h1
      split at h1
      · exact ltr_ne (by omega) (by omega) h1.symm
      · exact absurd h1 (by decide)
theorem okP_two {l : List UInt8} (h : okP l) : (sps l).length = 2 ∧ l.length ≤ 20 ∧ (bf l).length ≤ 10 ∧ (af l).length ≤ 5 := by
  obtain ⟨hg, hl⟩ := h
  obtain ⟨hall, h1, h5, hn, hm1, hm2⟩ := hg
  have hn5 : (pd l).n ≤ 5 := by omega
  have el := (pd l).ct_len (pd l).n
  rw [hl] at el
  rw [(pd l).ct_cs] at hl
  have h32 : 32 ∈ l := by rw [← hl]; simp
  obtain ⟨e, h2⟩ := bf_yes h32
  have hi := List.append_inj (e.symm.trans hl.symm) ((pd l).lt_len _).symm
  have ha : 32 ∉ af l := by
    have := hi.2
    simp only [List.cons.injEq, true_and] at this
    rw [this]
    exact (pd l).cs_space _ hn5
  refine ⟨?_, by omega, hm2, hn5⟩
  have := sps_at h2 ha
  rw [← e] at this
  exact this
noncomputable def pr (l : List UInt8) : Du := if tr (okP l) then pd l else Du.zero
theorem pr_yes {l : List UInt8} (h : okP l) : pr l = pd l := by unfold pr; rw [tr_yes h]; rfl
theorem pr_no {l : List UInt8} (h : ¬ okP l) : pr l = Du.zero := by unfold pr; rw [tr_no h]; rfl
theorem pr_n (l : List UInt8) : (pr l).n ≤ 1048576 := by
  by_cases h : okP l
  · rw [pr_yes h]
    have := (okP_two h).2.2.2
    show (af l).length ≤ _
    omega
  · rw [pr_no h]
    exact Nat.zero_le _
theorem pr_m (l : List UInt8) : (pr l).m ≤ 1048576 := by
  by_cases h : okP l
  · rw [pr_yes h]
    have := (okP_two h).2.2.1
    show (bf l).length ≤ _
    omega
  · rw [pr_no h]
    exact Nat.zero_le _
end Go.Proofs.Ytegifeokfdadpaa
