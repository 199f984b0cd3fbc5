/-
  Sums of integers with Go's wraparound, and without where they fit; vessels of a record.
  Conditions: none beyond each statement's own premises.
-/
import Derived.Test.YtpjgjfdbffideaaInts
namespace Go.Proofs.Ytpjgjfdbffideaa
set_option linter.unusedSimpArgs false
set_option linter.unusedVariables false
open Go.RowKit
/-- The first k of f, summed as Go's int is. -/
def sumW (f : Nat → Int) : Nat → Int
  | 0 => 0
  | k + 1 => wrap64 (sumW f k + f k)
/-- The first k of f. -/
def sumZ (f : Nat → Int) : Nat → Int
  | 0 => 0
  | k + 1 => sumZ f k + f k
theorem sumZ_bd {f : Nat → Int} {n : Nat} {B : Int} (h : ∀ i, i < n → 0 ≤ f i ∧ f i ≤ B) : ∀ k, k ≤ n → 0 ≤ sumZ f k ∧ sumZ f k ≤ k * B
  | 0, _ => by simp [sumZ]
  | k + 1, hk => by
    have ih := sumZ_bd h k (by omega)
    have hv := h k (by omega)
    have e : ((k + 1 : Nat) : Int) * B = k * B + B := by rw [show ((k + 1 : Nat) : Int) = (k : Int) + 1 from by omega, Int.add_mul, Int.one_mul]
    simp only [sumZ]
    omega
theorem sumW_eq {f : Nat → Int} {n : Nat} {B : Int} (h : ∀ i, i < n → 0 ≤ f i ∧ f i ≤ B) (hB : (n : Int) * B ≤ 4611686018427387904) : ∀ k, k ≤ n → sumW f k = sumZ f k
  | 0, _ => rfl
  | k + 1, hk => by
    have ih := sumW_eq h hB k (by omega)
    have h1 := sumZ_bd h (k + 1) hk
    have h2 : ((k + 1 : Nat) : Int) * B ≤ (n : Int) * B := by
      have h3 := h k (by omega)
      exact Int.mul_le_mul_of_nonneg_right (by omega) (by omega)
    rw [sumW, ih, sumZ]
    simp only [sumZ] at h1
    exact IntWalk.wrap64_in _ (by constructor <;> omega)
set_option maxHeartbeats 400000 in
theorem sumInts_any (A : Option Addr) (n c : Nat) (f : Nat → Int) (w : World) (hn : n ≤ 1048576) (hA : RdI w A n f) :
    Calls Try.prog 56 #[.slice A n c] w (Post (.int .i64 (sumW f n)) w) := by
  go_enter Try.func56, Try.ntmps56
  go_wp2_with fail
  go_loopw [3, 8] (fun s i wr => ∃ k : Nat, k ≤ n ∧ i = .int .i64 k ∧ s = .int .i64 (sumW f k) ∧ Below w.heap.size w wr) (fun _ i _ => n - (intOf i).toNat)
  case atStart => exact ⟨0, Nat.zero_le _, rfl, rfl, Below.refl _ _⟩
  case round =>
    obtain ⟨k, hk, rfl, rfl, hb⟩ := hrel
    have hsz := hb.size
    by_cases hlt : k < n
    · obtain ⟨b, off, rfl, hbl, c0⟩ := hA k hlt
      obtain ⟨hc, hf⟩ := bcell hb
      have h1 : b < wr.heap.size := by omega
      go_wp2_with fail
      go_roundw
      case rel => exact ⟨k + 1, by omega, by go_num, rfl, (by repeat (first | with_reducible exact Below.refl _ _ | with_reducible assumption | with_reducible refine below_alloc ?_ _ | with_reducible refine below_more ?_ _ | (with_reducible refine below_set ?_ ?_ _; rotate_left; first | with_reducible exact Nat.le_refl _ | with_reducible assumption | (simp; done) | omega)))⟩
      case measure => simp [intOf]; omega
    · obtain rfl : k = n := by omega
      go_wp2_with fail
      go_ret
      exact ⟨rfl, hb⟩
end Go.Proofs.Ytpjgjfdbffideaa
