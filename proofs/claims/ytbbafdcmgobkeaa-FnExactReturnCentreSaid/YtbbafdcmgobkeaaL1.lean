/-
  Ranges, the greater and the smaller of two ints: the program's and the reference's small helpers.
  Conditions: none beyond each statement's own premises.
-/
import Derived.Test.YtbbafdcmgobkeaaBase
namespace Go.Proofs.Ytbbafdcmgobkeaa
set_option linter.unusedSimpArgs false
set_option linter.unusedVariables false
open Go.RowKit
def inB (n lo hi : Int) : Bool := decide (lo ≤ n) && decide (n ≤ hi)
theorem inB_iff {n lo hi : Int} : inB n lo hi = true ↔ lo ≤ n ∧ n ≤ hi := by simp [inB]

theorem inside_any (n lo hi : Int) (w : World) : Calls Try.prog 61 #[.int .i64 n, .int .i64 lo, .int .i64 hi] w fun e w' => e = .returned (.bool (inB n lo hi)) ∧ w = w' := by
  unfold inB
  go_enter Try.func61, Try.ntmps61
  go_wp2
  all_goals go_ret
  all_goals (refine ⟨?_, rfl⟩; congr 2; simp; try omega)
theorem inside_is {n lo hi : Int} {r : Bool} (h : inB n lo hi = r) (w : World) : Calls Try.prog 61 #[.int .i64 n, .int .i64 lo, .int .i64 hi] w fun e w' => e = .returned (.bool r) ∧ w = w' := h ▸ inside_any n lo hi w
theorem l1In_any (n lo hi : Int) (w : World) : Calls Try.prog 73 #[.int .i64 n, .int .i64 lo, .int .i64 hi] w fun e w' => e = .returned (.bool (inB n lo hi)) ∧ w = w' := by
  unfold inB
  go_enter Try.func73, Try.ntmps73
  go_wp2
  all_goals go_ret
  all_goals (refine ⟨?_, rfl⟩; congr 2; simp; try omega)
theorem l1In_is {n lo hi : Int} {r : Bool} (h : inB n lo hi = r) (w : World) : Calls Try.prog 73 #[.int .i64 n, .int .i64 lo, .int .i64 hi] w fun e w' => e = .returned (.bool r) ∧ w = w' := h ▸ l1In_any n lo hi w
def mx (a b : Int) : Int := if a < b then b else a
def mn (a b : Int) : Int := if a < b then a else b
theorem mx_le {a b c : Int} (h : a ≤ c) (h' : b ≤ c) : mx a b ≤ c := by unfold mx; split <;> omega
theorem le_mx (a b : Int) : a ≤ mx a b ∧ b ≤ mx a b := by unfold mx; split <;> omega
theorem mn_le (a b : Int) : mn a b ≤ a ∧ mn a b ≤ b := by unfold mn; split <;> omega
theorem le_mn {a b c : Int} (h : c ≤ a) (h' : c ≤ b) : c ≤ mn a b := by unfold mn; split <;> omega
theorem l1Most_any (a b : Int) (w : World) : Calls Try.prog 95 #[.int .i64 a, .int .i64 b] w fun e w' => e = .returned (.int .i64 (mx a b)) ∧ w = w' := by
  go_enter Try.func95, Try.ntmps95
  go_wp2
  all_goals (go_ret; refine ⟨?_, rfl⟩; show Ending.returned (Value.int _ _) = Ending.returned (Value.int _ _); congr 2; unfold mx; split <;> omega)
end Go.Proofs.Ytbbafdcmgobkeaa
