/-
  Searches in slices: the library's Index, IndexFunc, Contains, ContainsFunc, IsSorted at the program's types, as plain functions of the index.
  Conditions: none beyond each statement's own premises.
-/
import Derived.Test.YtbbafdcmgobkeaaBools
namespace Go.Proofs.Ytbbafdcmgobkeaa
set_option linter.unusedSimpArgs false
set_option linter.unusedVariables false
open Go.RowKit
/-- The first index below k with p, or -1. -/
def findB (p : Nat → Bool) : Nat → Int
  | 0 => -1
  | k + 1 => if 0 ≤ findB p k then findB p k else if p k = true then (k : Int) else -1
def anyB (p : Nat → Bool) : Nat → Bool
  | 0 => false
  | k + 1 => anyB p k || p k
def allB (p : Nat → Bool) : Nat → Bool
  | 0 => true
  | k + 1 => allB p k && p k
theorem findB_bd (p : Nat → Bool) : ∀ k, -1 ≤ findB p k ∧ findB p k < k
  | 0 => by simp [findB]
  | k + 1 => by
    have := findB_bd p k
    simp only [findB]
    split
    · omega
    · split <;> omega
theorem findB_hit {p : Nat → Bool} {k : Nat} (h0 : findB p k = -1) (hp : p k = true) : ∀ n, k < n → findB p n = k
  | 0, h => absurd h (by omega)
  | n + 1, h => by
    rcases Nat.lt_or_ge k n with hlt | hge
    · have := findB_hit h0 hp n hlt
      rw [findB, if_pos (by omega), this]
    · obtain rfl : k = n := by omega
      rw [findB, if_neg (by omega), if_pos hp]
theorem findB_miss {p : Nat → Bool} {k : Nat} (h0 : findB p k = -1) (hp : p k = false) : findB p (k + 1) = -1 := by
  rw [findB, if_neg (by omega), if_neg (by rw [hp]; decide)]
theorem findB_any (p : Nat → Bool) : ∀ k, decide (0 ≤ findB p k) = anyB p k
  | 0 => by simp [findB, anyB]
  | k + 1 => by
    have ih := findB_any p k
    rw [findB, anyB, ← ih]
    by_cases h : 0 ≤ findB p k
    · simp [h]
    · cases hp : p k <;> simp [h]
theorem anyB_iff {p : Nat → Bool} : ∀ {n : Nat}, anyB p n = true ↔ ∃ i, i < n ∧ p i = true
  | 0 => by simp [anyB]
  | n + 1 => by
    rw [anyB, Bool.or_eq_true, anyB_iff]
    constructor
    · rintro (⟨i, h1, h2⟩ | h)
      · exact ⟨i, by omega, h2⟩
      · exact ⟨n, by omega, h⟩
    · rintro ⟨i, h1, h2⟩
      rcases Nat.lt_or_ge i n with h | h
      · exact .inl ⟨i, h, h2⟩
      · obtain rfl : i = n := by omega
        exact .inr h2
theorem allB_iff {p : Nat → Bool} : ∀ {n : Nat}, allB p n = true ↔ ∀ i, i < n → p i = true
  | 0 => by simp [allB]
  | n + 1 => by
    rw [allB, Bool.and_eq_true, allB_iff]
    constructor
    · rintro ⟨h1, h2⟩ i hi
      rcases Nat.lt_or_ge i n with h | h
      · exact h1 i h
      · obtain rfl : i = n := by omega
        exact h2
    · intro h
      exact ⟨fun i hi => h i (by omega), h n (by omega)⟩
theorem allB_false {p : Nat → Bool} {n k : Nat} (h : k < n) (hp : p k = false) : allB p n = false := by
  cases hh : allB p n with
  | false => rfl
  | true => rw [allB_iff.1 hh k h] at hp; cases hp
theorem anyB_not (p : Nat → Bool) (n : Nat) : (!anyB (fun i => !p i) n) = allB p n := by
  cases h : allB p n with
  | true =>
    have h1 := allB_iff.1 h
    cases h2 : anyB (fun i => !p i) n with
    | false => rfl
    | true =>
      obtain ⟨i, hi, hp⟩ := anyB_iff.1 h2
      rw [h1 i hi] at hp
      cases hp
  | false =>
    cases h2 : anyB (fun i => !p i) n with
    | true => rfl
    | false =>
      have : allB p n = true := allB_iff.2 fun i hi => by
        cases hp : p i with
        | true => rfl
        | false => rw [anyB_iff.2 ⟨i, hi, by rw [hp]; rfl⟩] at h2; cases h2
      rw [h] at this
      cases this
def sortedB (f : Nat → Int) (n : Nat) : Bool := allB (fun i => decide (i = 0) || decide (f (i - 1) ≤ f i)) n
theorem isNaN_any (a : Int) (w : World) : Calls Try.prog 97 #[.int .i64 a] w fun e w' => e = .returned (.bool false) ∧ w = w' := by
  go_enter Try.func97, Try.ntmps97
  go_wp2
  go_ret
  exact ⟨rfl, rfl⟩
theorem less_any (a b : Int) (w : World) : Calls Try.prog 89 #[.int .i64 a, .int .i64 b] w fun e w' => e = .returned (.bool (decide (a < b))) ∧ w = w' := by
  go_enter Try.func89, Try.ntmps89
  go_wp2_with (go_at_call 97; refine (isNaN_any _ _).mono ?_; rintro e w' ⟨rfl, rfl⟩)
  all_goals (go_ret; exact ⟨by first | rfl | (show Ending.returned (Value.bool _) = Ending.returned (Value.bool _); congr 2; simp; omega), rfl⟩)
set_option maxHeartbeats 400000 in
theorem isSorted_any (A : Option Addr) (n c : Nat) (f : Nat → Int) (w : World) (hn : n ≤ 1048576) (hA : RdI w A n f) :
    Calls Try.prog 63 #[.slice A n c] w (Post (.bool (sortedB f n)) w) := by
  go_enter Try.func63, Try.ntmps63
  go_wp2_with fail
  go_loopw [3] (fun i wr => ∃ k : Int, -1 ≤ k ∧ k < n ∧ i = .int .i64 k ∧ Hid (∀ j : Nat, k < j → j < n → f (j - 1) ≤ f j) ∧ Below w.heap.size w wr) (fun i _ => (intOf i).toNat)
  case atStart => exact ⟨(n : Int) - 1, by omega, by omega, rfl, fun j h1 h2 => absurd h1 (by omega), Below.refl _ _⟩
  case round =>
    obtain ⟨k, hk, hk2, rfl, HI, hb⟩ := hrel
    have hsz := hb.size
    by_cases hlt : 0 < k
    · obtain ⟨q, rfl⟩ := Int.eq_ofNat_of_zero_le (show 0 ≤ k by omega)
      obtain ⟨b, off, rfl, hbl, c0⟩ := hA q (by omega)
      obtain ⟨b', off', e', hbl', c1⟩ := hA (q - 1) (by omega)
      cases e'
      obtain ⟨hc, hf⟩ := bcell hb
      have h1 : b < wr.heap.size := by omega
      go_wp2_with fail
      (refine wp_region_more (by kernel_rfl) (by kernel_rfl) ?_
       repeat (any_goals (first | go_big_quiet_step (((go_at_call 89; exact q_same (less_any _ _ _)))) | quiet_step (((go_at_call 89; exact q_same (less_any _ _ _)))) | (refine wpQuiet_step (fun K hK => ?_); go_simp; split <;> (refine hK _ ?_; clear hK K))))
       all_goals (refine wpQuiet_nil ?_; intro _ hw'; obtain ⟨nq, hw''⟩ := hw'; subst hw''))
      go_wp2_with fail
      all_goals first
        | (go_roundw; (case rel => exact ⟨(q : Int) - 1, by omega, by omega, by go_num, fun j h1 h2 => by
            rcases Nat.lt_or_ge q j with h | h
            · exact HI.out j (by omega) h2
            · obtain rfl : j = q := by omega
              omega, (by repeat (first | with_reducible exact Below.refl _ _ | with_reducible assumption | with_reducible refine below_alloc ?_ _ | with_reducible refine below_more ?_ _ | (with_reducible refine below_set ?_ ?_ _; rotate_left; focus (first | with_reducible exact Nat.le_refl _ | with_reducible assumption | (simp; done) | (simp; omega) | omega))))⟩); (case measure => simp [intOf]; omega))
        | (go_ret; exact ⟨by rw [show sortedB f n = false from allB_false (k := q) (by omega) (by simp; omega)]; rfl, (by repeat (first | with_reducible exact Below.refl _ _ | with_reducible assumption | with_reducible refine below_alloc ?_ _ | with_reducible refine below_more ?_ _ | (with_reducible refine below_set ?_ ?_ _; rotate_left; focus (first | with_reducible exact Nat.le_refl _ | with_reducible assumption | (simp; done) | (simp; omega) | omega))))⟩)
    · go_wp2_with fail
      go_ret
      refine ⟨?_, hb⟩
      rw [show sortedB f n = true from allB_iff.2 fun i hi => by
        rcases Nat.eq_zero_or_pos i with h | h
        · simp [h]
        · have := HI.out i (by omega) hi
          simp; omega]
      rfl
set_option maxHeartbeats 400000 in
theorem indexB_any (A : Option Addr) (n c : Nat) (f : Nat → Bool) (v : Bool) (w : World) (hn : n ≤ 1048576) (hA : RdB w A n f) :
    Calls Try.prog 88 #[.slice A n c, .bool v] w (Post (.int .i64 (findB (fun i => v == f i) n)) w) := by
  go_enter Try.func88, Try.ntmps88
  go_wp2_with fail
  go_loopw [8] (fun i wr => ∃ k : Nat, k ≤ n ∧ i = .int .i64 k ∧ Hid (findB (fun i => v == f i) k = -1) ∧ Below w.heap.size w wr) (fun i _ => n - (intOf i).toNat)
  case atStart => exact ⟨0, Nat.zero_le _, rfl, rfl, Below.refl _ _⟩
  case round =>
    obtain ⟨k, hk, rfl, HI, hb⟩ := hrel
    have hsz := hb.size
    by_cases hlt : k < n
    · obtain ⟨b, off, rfl, hbl, c0⟩ := hA k hlt
      obtain ⟨hc, hf⟩ := bcell hb
      have h1 : b < wr.heap.size := by omega
      cases hv : (v == f k) with
      | true =>
        have HH := Lib.hid (findB_hit (p := fun i => v == f i) HI.out hv n hlt)
        go_wp2_with fail
        go_ret
        exact ⟨by rw [HH.out]; rfl, (by repeat (first | with_reducible exact Below.refl _ _ | with_reducible assumption | with_reducible refine below_alloc ?_ _ | with_reducible refine below_more ?_ _ | (with_reducible refine below_set ?_ ?_ _; rotate_left; focus (first | with_reducible exact Nat.le_refl _ | with_reducible assumption | (simp; done) | (simp; omega) | omega))))⟩
      | false =>
        have HH := Lib.hid (findB_miss (p := fun i => v == f i) HI.out hv)
        go_wp2_with fail
        go_roundw
        case rel => exact ⟨k + 1, by omega, by go_num, HH, (by repeat (first | with_reducible exact Below.refl _ _ | with_reducible assumption | with_reducible refine below_alloc ?_ _ | with_reducible refine below_more ?_ _ | (with_reducible refine below_set ?_ ?_ _; rotate_left; focus (first | with_reducible exact Nat.le_refl _ | with_reducible assumption | (simp; done) | (simp; omega) | omega))))⟩
        case measure => simp [intOf]; omega
    · obtain rfl : k = n := by omega
      go_wp2_with fail
      go_ret
      exact ⟨by rw [HI.out]; rfl, hb⟩
theorem containsB_any (A : Option Addr) (n c : Nat) (f : Nat → Bool) (v : Bool) (w : World) (hn : n ≤ 1048576) (hA : RdB w A n f) :
    Calls Try.prog 62 #[.slice A n c, .bool v] w (Post (.bool (anyB (fun i => v == f i) n)) w) := by
  rw [← findB_any]
  go_enter Try.func62, Try.ntmps62
  go_wp2_with (go_at_call 88; refine (indexB_any A n c f v _ hn hA).mono ?_; intro e w' hp; obtain ⟨rfl, m, rfl⟩ := hp.get; clear hp)
  go_ret
  exact ⟨rfl, (by repeat (first | with_reducible exact Below.refl _ _ | with_reducible assumption | with_reducible refine below_alloc ?_ _ | with_reducible refine below_more ?_ _ | (with_reducible refine below_set ?_ ?_ _; rotate_left; focus (first | with_reducible exact Nat.le_refl _ | with_reducible assumption | (simp; done) | (simp; omega) | omega))))⟩
end Go.Proofs.Ytbbafdcmgobkeaa
