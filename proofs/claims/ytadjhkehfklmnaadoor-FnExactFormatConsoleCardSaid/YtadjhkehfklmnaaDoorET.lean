/-
  Texts parted at a byte: plain.
  Conditions: none beyond each statement's own premises.
-/
import Derived.Test.YtadjhkehfklmnaaDoorTX
import Derived.Lib.IndexLaws
import Derived.Lib.ItoaNum
namespace Go.Proofs.YtadjhkehfklmnaaDoor
set_option linter.unusedSimpArgs false
set_option linter.unusedVariables false
open Go.RowKit
set_option maxRecDepth 10000
theorem tx_list (s : ByteArray) : tx s.data.toList = s := by
  apply ByteArray.ext
  simp [tx]
theorem tx_inj {a b : List UInt8} (h : tx a = tx b) : a = b := by
  have := congrArg (fun s : ByteArray => s.data.toList) h
  simpa [tx] using this
theorem tx_ne {a b : List UInt8} (h : ¬ a = b) : ¬ tx a = tx b := fun e => h (tx_inj e)
theorem tx_sub (l : List UInt8) (i j : Nat) : (tx l).extract i j = tx ((l.take j).drop i) := by
  apply ByteArray.ext
  simp [tx, List.extract_eq_take_drop, List.drop_take]
theorem tx_from (l : List UInt8) (i : Nat) : (tx l).extract i (tx l).size = tx (l.drop i) := by rw [tx_sub, tx_size, List.take_length]
theorem tx_to (l : List UInt8) (j : Nat) : (tx l).extract 0 j = tx (l.take j) := by rw [tx_sub]; rfl
theorem getD_tx (p : List UInt8) (k : Nat) (h : k < p.length) : (tx p)[k]'(by rw [tx_size]; exact h) = p.getD k 0 := by
  rw [List.getD_eq_getElem?_getD, List.getElem?_eq_getElem h]
  rfl
theorem u8_eq {a b : UInt8} : a = b ↔ (a.toNat : Int) = (b.toNat : Int) := ⟨fun h => by rw [h], fun h => UInt8.toNat_inj.1 (by omega)⟩
/-- What stands ahead of a byte, and what behind it. -/
def bfs (c : UInt8) : List UInt8 → List UInt8
  | [] => []
  | b :: l => if b = c then [] else b :: bfs c l
def afs (c : UInt8) : List UInt8 → List UInt8
  | [] => []
  | b :: l => if b = c then l else afs c l
theorem bfs_no {c : UInt8} {l : List UInt8} (h : c ∉ l) : bfs c l = l ∧ afs c l = [] := by
  induction l with
  | nil => exact ⟨rfl, rfl⟩
  | cons b l ih =>
    have h1 : ¬ b = c := fun e => h (by simp [e])
    obtain ⟨i1, i2⟩ := ih (fun e => h (by simp [e]))
    exact ⟨by show (if _ then _ else _) = _; rw [if_neg h1, i1], by show (if _ then _ else _) = _; rw [if_neg h1, i2]⟩
theorem bfs_yes {c : UInt8} {l : List UInt8} (h : c ∈ l) : l = bfs c l ++ c :: afs c l ∧ c ∉ bfs c l := by
  induction l with
  | nil => simp at h
  | cons b l ih =>
    by_cases h1 : b = c
    · subst h1
      have e1 : bfs b (b :: l) = [] := if_pos rfl
      have e2 : afs b (b :: l) = l := if_pos rfl
      exact ⟨by rw [e1, e2]; rfl, by rw [e1]; simp⟩
    · have h2 : c ∈ l := by
        rcases List.mem_cons.1 h with e | e
        · exact absurd e.symm h1
        · exact e
      obtain ⟨i1, i2⟩ := ih h2
      have e1 : bfs c (b :: l) = b :: bfs c l := if_neg h1
      have e2 : afs c (b :: l) = afs c l := if_neg h1
      rw [e1, e2]
      refine ⟨by rw [List.cons_append, ← i1], fun q => ?_⟩
      rcases List.mem_cons.1 q with e | e
      · exact h1 e.symm
      · exact i2 e
theorem bfs_at {c : UInt8} {p q : List UInt8} (h : c ∉ p) : bfs c (p ++ c :: q) = p ∧ afs c (p ++ c :: q) = q := by
  induction p with
  | nil => exact ⟨if_pos rfl, if_pos rfl⟩
  | cons b l ih =>
    have h1 : ¬ b = c := fun e => h (by simp [e])
    obtain ⟨i1, i2⟩ := ih (fun e => h (by simp [e]))
    exact ⟨(show (if b = c then [] else b :: bfs c (l ++ c :: q)) = _ by rw [if_neg h1, i1]), (show (if b = c then _ else afs c (l ++ c :: q)) = _ by rw [if_neg h1, i2])⟩
theorem bfs_app {c : UInt8} {p : List UInt8} (q : List UInt8) (h : c ∈ p) : bfs c (p ++ q) = bfs c p ∧ afs c (p ++ q) = afs c p ++ q := by
  obtain ⟨e, h2⟩ := bfs_yes h
  have := bfs_at (q := afs c p ++ q) h2
  rw [show bfs c p ++ c :: (afs c p ++ q) = (bfs c p ++ c :: afs c p) ++ q by simp, ← e] at this
  exact this
theorem bfs_len {c : UInt8} {l : List UInt8} (h : c ∈ l) : l.length = (bfs c l).length + 1 + (afs c l).length := by
  have := congrArg List.length (bfs_yes h).1
  simp at this
  omega
theorem bfs_le (c : UInt8) (l : List UInt8) : (bfs c l).length ≤ l.length ∧ (afs c l).length ≤ l.length := by
  by_cases h : c ∈ l
  · have := bfs_len h; omega
  · rw [(bfs_no h).1, (bfs_no h).2]; simp
theorem bfs_take {c : UInt8} {l : List UInt8} : l.take (bfs c l).length = bfs c l := by
  by_cases h : c ∈ l
  · have e := (bfs_yes h).1
    have : (bfs c l ++ c :: afs c l).take (bfs c l).length = bfs c l := by simp
    rw [← e] at this
    exact this
  · rw [(bfs_no h).1]; simp
theorem afs_drop {c : UInt8} {l : List UInt8} (h : c ∈ l) : l.drop ((bfs c l).length + 1) = afs c l := by
  have e := (bfs_yes h).1
  have : (bfs c l ++ c :: afs c l).drop ((bfs c l).length + 1) = afs c l := by simp
  rw [← e] at this
  exact this
theorem bfs_get {c : UInt8} {l : List UInt8} (h : c ∈ l) : l[(bfs c l).length]? = some c := by
  have e := (bfs_yes h).1
  have : (bfs c l ++ c :: afs c l)[(bfs c l).length]? = some c := by rw [List.getElem?_append_right (Nat.le_refl _), Nat.sub_self]; rfl
  rw [← e] at this
  exact this
theorem bfs_all {c : UInt8} {l : List UInt8} : (bfs c l).length = l.length ↔ c ∉ l := by
  constructor
  · intro e h
    have := bfs_len h
    omega
  · intro h
    rw [(bfs_no h).1]
theorem index_bfs (c : UInt8) (l : List UInt8) : (Lib.indexByte l c = -1 ∧ bfs c l = l ∧ afs c l = [] ∧ c ∉ l) ∨ ∃ o : Nat, Lib.indexByte l c = o ∧ o < l.length ∧ bfs c l = l.take o ∧ afs c l = l.drop (o + 1) ∧ c ∈ l := by
  induction l with
  | nil => exact .inl ⟨rfl, rfl, rfl, by simp⟩
  | cons b l ih =>
    by_cases h1 : b = c
    · subst h1
      exact .inr ⟨0, by show (if b == b then (0 : Int) else _) = _; simp, by simp, if_pos rfl, if_pos rfl, by simp⟩
    · have e0 : Lib.indexByte (b :: l) c = if Lib.indexByte l c == -1 then -1 else Lib.indexByte l c + 1 := by
        show (if b == c then (0 : Int) else _) = _
        rw [if_neg (by simpa using h1)]
      have e1 : bfs c (b :: l) = b :: bfs c l := if_neg h1
      have e2 : afs c (b :: l) = afs c l := if_neg h1
      rw [e0, e1, e2]
      rcases ih with ⟨i1, i2, i3, i4⟩ | ⟨o, i1, i2, i3, i4, i5⟩
      · exact .inl ⟨by rw [i1]; rfl, by rw [i2], i3, fun q => by
          rcases List.mem_cons.1 q with e | e
          · exact h1 e.symm
          · exact i4 e⟩
      · refine .inr ⟨o + 1, ?_, by simp; omega, by rw [i3]; rfl, by rw [i4]; rfl, List.mem_cons_of_mem _ i5⟩
        rw [i1, if_neg (by simp)]
        omega
/-! ### Parts -/
/-- The parts that are done when k bytes are seen, and where the next begins. -/
def spl (c : UInt8) (l : List UInt8) : Nat → List (List UInt8) × Nat
  | 0 => ([], 0)
  | k + 1 => if l[k]? = some c then ((spl c l k).1 ++ [(l.take k).drop (spl c l k).2], k + 1) else spl c l k
theorem spl_yes {c : UInt8} {l : List UInt8} {k : Nat} (h : l[k]? = some c) : spl c l (k + 1) = ((spl c l k).1 ++ [(l.take k).drop (spl c l k).2], k + 1) := if_pos h
theorem spl_no {c : UInt8} {l : List UInt8} {k : Nat} (h : ¬ l[k]? = some c) : spl c l (k + 1) = spl c l k := if_neg h
theorem spl_le (c : UInt8) (l : List UInt8) : ∀ k, (spl c l k).2 ≤ k ∧ (spl c l k).1.length ≤ k
  | 0 => ⟨Nat.le_refl _, Nat.le_refl _⟩
  | k + 1 => by
    have := spl_le c l k
    by_cases h : l[k]? = some c
    · rw [spl_yes h]
      exact ⟨Nat.le_refl _, by rw [List.length_append]; simp; omega⟩
    · rw [spl_no h]
      omega
def sps (c : UInt8) (l : List UInt8) : List (List UInt8) := (spl c l l.length).1 ++ [l.drop (spl c l l.length).2]
theorem spl_none {c : UInt8} {l : List UInt8} : ∀ k, (∀ i, i < k → ¬ l[i]? = some c) → spl c l k = ([], 0)
  | 0, _ => rfl
  | k + 1, h => by rw [spl_no (h k (by omega))]; exact spl_none k fun i hi => h i (by omega)
theorem not_at {c : UInt8} {p : List UInt8} (h : c ∉ p) (q : List UInt8) (i : Nat) (hi : i < p.length) : ¬ (p ++ c :: q)[i]? = some c := by
  rw [List.getElem?_append_left hi]
  exact fun e => h (List.mem_of_getElem? e)
theorem spl_one {c : UInt8} {p q : List UInt8} (h : c ∉ p) : spl c (p ++ c :: q) (p.length + 1) = ([p], p.length + 1) := by
  rw [spl_yes (by rw [List.getElem?_append_right (Nat.le_refl _), Nat.sub_self]; rfl), spl_none _ (fun i hi => not_at h q i hi)]
  simp
theorem spl_more {c : UInt8} {p q : List UInt8} (h : c ∉ p) : ∀ k, ∃ t, (spl c (p ++ c :: q) (p.length + 1 + k)).1 = p :: t
  | 0 => ⟨[], by rw [Nat.add_zero, spl_one h]⟩
  | k + 1 => by
    obtain ⟨t, ih⟩ := spl_more (q := q) h k
    by_cases hc : (p ++ c :: q)[p.length + 1 + k]? = some c
    · rw [show p.length + 1 + (k + 1) = p.length + 1 + k + 1 from rfl, spl_yes hc]
      exact ⟨t ++ [_], by rw [ih]; rfl⟩
    · rw [show p.length + 1 + (k + 1) = p.length + 1 + k + 1 from rfl, spl_no hc]
      exact ⟨t, ih⟩
/-- The first part is what stands ahead of the first such byte; there are more just if there is one. -/
theorem sps_head (c : UInt8) (l : List UInt8) : ∃ t, sps c l = bfs c l :: t ∧ (t = [] ↔ c ∉ l) := by
  by_cases h1 : c ∈ l
  · obtain ⟨e, h2⟩ := bfs_yes h1
    have el := bfs_len h1
    obtain ⟨t, hm⟩ := spl_more (q := afs c l) h2 (afs c l).length
    rw [← e, ← el] at hm
    refine ⟨t ++ [l.drop (spl c l l.length).2], ?_, ?_⟩
    · unfold sps
      rw [hm]
      rfl
    · exact ⟨fun h => by simp at h, fun h => absurd h1 h⟩
  · refine ⟨[], ?_, fun _ => h1, fun _ => rfl⟩
    unfold sps
    rw [spl_none _ (fun i _ e => h1 (List.mem_of_getElem? e)), (bfs_no h1).1]
    simp
/-! ### Digits and the checksum -/
theorem dd_digit : ∀ (n : Nat) (b : UInt8), b ∈ Lib.decDigits n → 48 ≤ b.toNat ∧ b.toNat ≤ 57 := by
  intro n
  induction n using Nat.strongRecOn with
  | ind n ih =>
    intro b hb
    rw [Lib.decDigits] at hb
    split at hb
    · rw [List.mem_singleton] at hb
      subst hb
      rw [UInt8.toNat_ofNat']
      omega
    · rcases List.mem_append.1 hb with h | h
      · exact ih (n / 10) (by omega) b h
      · rw [List.mem_singleton] at h
        subst h
        rw [UInt8.toNat_ofNat']
        omega
theorem dd_len : ∀ (j n : Nat), n < 10 ^ (j + 1) → (Lib.decDigits n).length ≤ j + 1
  | 0, n, h => by rw [Lib.decDigits, dif_pos (by omega)]; simp
  | j + 1, n, h => by
    rw [Lib.decDigits]
    split
    · simp
    · have := dd_len j (n / 10) (by rw [Nat.div_lt_iff_lt_mul (by omega)]; rw [Nat.pow_succ] at h; exact h)
      rw [List.length_append]
      simp
      omega
theorem dd_pos (n : Nat) : 1 ≤ (Lib.decDigits n).length := by
  rw [Lib.decDigits]
  split
  · simp
  · simp
def chk (l : List UInt8) : Nat := l.foldl (fun h b => (41 * h + b.toNat + 1) % 999979) 7
theorem chk_suc {l : List UInt8} {k : Nat} (h : k < l.length) : chk (l.take (k + 1)) = (41 * chk (l.take k) + (l.getD k 0).toNat + 1) % 999979 := by
  unfold chk
  rw [List.take_add_one, List.foldl_append, List.getElem?_eq_getElem h, List.getD_eq_getElem?_getD, List.getElem?_eq_getElem h]
  rfl
theorem chk_lt (l : List UInt8) : chk l < 999979 := by
  unfold chk
  suffices ∀ (l : List UInt8) (h : Nat), h < 999979 → l.foldl (fun h b => (41 * h + b.toNat + 1) % 999979) h < 999979 from this l 7 (by omega)
  intro l
  induction l with
  | nil => exact fun _ h => h
  | cons b l ih => exact fun h _ => ih _ (Nat.mod_lt _ (by omega))
end Go.Proofs.YtadjhkehfklmnaaDoor
