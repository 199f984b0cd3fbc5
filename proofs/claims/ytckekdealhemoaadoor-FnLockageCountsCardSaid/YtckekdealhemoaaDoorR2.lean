/-
  The histogram, the number of vessels in order, and the median, in plain Lean.
  Conditions: none beyond each statement's own premises.
-/
import Derived.Test.YtckekdealhemoaaDoorR1
namespace Go.Proofs.YtckekdealhemoaaDoor
set_option linter.unusedSimpArgs false
set_option linter.unusedVariables false
open Go.RowKit
set_option maxRecDepth 10000
/-- How many of the first k numbers are j. -/
def hist (f : Nat → Int) : Nat → Nat → Int
  | 0, _ => 0
  | k + 1, j => if j = (f k).toNat then hist f k j + 1 else hist f k j
theorem hist_succ (f : Nat → Int) (k : Nat) : hist f (k + 1) = upd (hist f k) (f k).toNat (hist f k (f k).toNat + 1) := by
  funext j
  show (if j = (f k).toNat then hist f k j + 1 else hist f k j) = upd _ _ _ j
  unfold upd
  split
  · subst_vars; rfl
  · rfl
theorem hist_in (f : Nat → Int) : ∀ k j, 0 ≤ hist f k j ∧ hist f k j ≤ k
  | 0, j => ⟨Int.le_refl _, Int.le_refl _⟩
  | k + 1, j => by
    have := hist_in f k j
    by_cases h : j = (f k).toNat
    · have e : hist f (k + 1) j = hist f k j + 1 := if_pos h
      omega
    · have e : hist f (k + 1) j = hist f k j := if_neg h
      omega
/-- How many elements of a list lie below x. -/
def below (x : Int) : List Int → Nat
  | [] => 0
  | a :: l => (if a < x then 1 else 0) + below x l
theorem below_le (x : Int) : ∀ l : List Int, below x l ≤ l.length
  | [] => Nat.le_refl _
  | a :: l => by
    have := below_le x l
    show (if a < x then 1 else 0) + below x l ≤ l.length + 1
    split <;> omega
theorem below_app (x : Int) (b : List Int) : ∀ a : List Int, below x (a ++ b) = below x a + below x b
  | [] => by show below x b = 0 + below x b; omega
  | c :: a => by
    show (if c < x then 1 else 0) + below x (a ++ b) = (if c < x then 1 else 0) + below x a + below x b
    rw [below_app x b a]
    omega
theorem below_perm {x : Int} {a b : List Int} (h : a.Perm b) : below x a = below x b := by
  induction h with
  | nil => rfl
  | cons c _ ih => show _ + below x _ = _ + below x _; rw [ih]
  | swap c d l => show _ + (_ + below x l) = _ + (_ + below x l); omega
  | trans _ _ i1 i2 => exact i1.trans i2
theorem below_none {x : Int} : ∀ {l : List Int}, (∀ a ∈ l, ¬ a < x) → below x l = 0
  | [], _ => rfl
  | a :: l, h => by
    show (if a < x then 1 else 0) + below x l = 0
    rw [if_neg (h a (by simp)), below_none (fun b hb => h b (by simp [hb]))]
theorem below_all {x : Int} : ∀ {l : List Int}, (∀ a ∈ l, a < x) → below x l = l.length
  | [], _ => rfl
  | a :: l, h => by
    show (if a < x then 1 else 0) + below x l = l.length + 1
    rw [if_pos (h a (by simp)), below_all (fun b hb => h b (by simp [hb]))]
    omega
/-- In a sorted list an element lies below x just where its index does below their number. -/
theorem sorted_below {x : Int} : ∀ {l : List Int}, l.Pairwise (· ≤ ·) → ∀ (i : Nat) a, l[i]? = some a → (a < x ↔ i < below x l)
  | [], _, i, a, h => by simp at h
  | c :: l, hp, i, a, h => by
    rw [List.pairwise_cons] at hp
    have e : below x (c :: l) = (if c < x then 1 else 0) + below x l := rfl
    rcases i with _ | i
    · simp at h
      subst h
      by_cases hc : c < x
      · rw [e, if_pos hc]; omega
      · rw [e, if_neg hc, below_none (fun b hb => by have := hp.1 b hb; omega)]; omega
    · have ih := sorted_below (x := x) hp.2 i a (by simpa using h)
      by_cases hc : c < x
      · rw [e, if_pos hc]; omega
      · have hm : a ∈ l := List.mem_of_getElem? (by simpa using h)
        rw [e, if_neg hc, below_none (fun b hb => by have := hp.1 b hb; omega)]
        have := hp.1 a hm
        omega
theorem below_step (f : Nat → Int) (j : Nat) : ∀ k, (∀ i, i < k → 0 ≤ f i) → (below ((j : Int) + 1) ((List.range k).map f) : Int) = below (j : Int) ((List.range k).map f) + hist f k j
  | 0, _ => rfl
  | k + 1, h => by
    have ih := below_step f j k (fun i hi => h i (by omega))
    have h0 := h k (by omega)
    rw [List.range_succ, List.map_append, below_app, below_app]
    have e1 : ∀ x : Int, below x (List.map f [k]) = (if f k < x then 1 else 0) + 0 := fun x => rfl
    rw [e1, e1]
    by_cases hj : j = (f k).toNat
    · have e : hist f (k + 1) j = hist f k j + 1 := if_pos hj
      rw [e, if_pos (by omega), if_neg (by omega)]
      omega
    · have e : hist f (k + 1) j = hist f k j := if_neg hj
      rw [e]
      by_cases h2 : f k < (j : Int)
      · rw [if_pos (by omega), if_pos h2]; omega
      · rw [if_neg (by omega), if_neg h2]; omega
def sorted (n : Nat) (f : Nat → Int) : List Int := ((List.range n).map f).mergeSort fun x y => decide (x ≤ y)
theorem sorted_perm (n : Nat) (f : Nat → Int) : (sorted n f).Perm ((List.range n).map f) := List.mergeSort_perm _ _
theorem sorted_len (n : Nat) (f : Nat → Int) : (sorted n f).length = n := by rw [(sorted_perm n f).length_eq]; simp
theorem sorted_pw (n : Nat) (f : Nat → Int) : (sorted n f).Pairwise (· ≤ ·) := by
  have h := List.pairwise_mergeSort (le := fun x y : Int => decide (x ≤ y)) (fun a b c h1 h2 => by simp only [decide_eq_true_eq] at *; omega) (fun a b => by simp only [Bool.or_eq_true, decide_eq_true_eq]; omega) ((List.range n).map f)
  exact h.imp (fun hab => by simpa using hab)
/-- Element i in order. -/
def ord (n : Nat) (f : Nat → Int) (i : Nat) : Int := (sorted n f).getD i 0
theorem ord_get {n : Nat} (f : Nat → Int) {i : Nat} (h : i < n) : (sorted n f)[i]? = some (ord n f i) := by
  have hl : i < (sorted n f).length := by rw [sorted_len]; exact h
  unfold ord
  rw [List.getD_eq_getElem?_getD, List.getElem?_eq_getElem hl]
  rfl
theorem ord_mem {n : Nat} (f : Nat → Int) {i : Nat} (h : i < n) : ∃ j, j < n ∧ ord n f i = f j := by
  have h1 := List.mem_of_getElem? (ord_get f h)
  rw [(sorted_perm n f).mem_iff] at h1
  obtain ⟨j, hj, e⟩ := List.mem_map.1 h1
  exact ⟨j, by simpa using hj, e.symm⟩
theorem ord_lt {n : Nat} (f : Nat → Int) {i : Nat} (h : i < n) (x : Int) : ord n f i < x ↔ i < below x ((List.range n).map f) := by
  rw [sorted_below (sorted_pw n f) i _ (ord_get f h), below_perm (sorted_perm n f)]
end Go.Proofs.YtckekdealhemoaaDoor
