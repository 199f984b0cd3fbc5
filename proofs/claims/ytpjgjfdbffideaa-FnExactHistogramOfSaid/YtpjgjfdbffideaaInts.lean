/-
  The laws' own helpers on slices of integers: size, copy, equality, marks.
  Conditions: none beyond each statement's own premises.
-/
import Derived.Test.YtpjgjfdbffideaaRow
import Derived.Test.YtpjgjfdbffideaaPush
namespace Go.Proofs.Ytpjgjfdbffideaa
set_option linter.unusedSimpArgs false
set_option linter.unusedVariables false
open Go.RowKit
theorem int_info : (Try.prog.info? 3).map (fun i => (i.zero, i.size, i.bytes)) = some (some (.int .i64 0), 1, 8) := by kernel_rfl

set_option maxHeartbeats 400000 in
theorem eqIntS_same (A B : Option Addr) (n c d : Nat) (f : Nat → Int) (w : World) (hn : n ≤ 1048576) (hA : RdI w A n f) (hB : RdI w B n f) :
    Calls Try.prog 31 #[.slice A n c, .slice B n d] w (Post (.bool true) w) := by
  go_enter Try.func31, Try.ntmps31
  go_wp2_with fail
  go_loopw [5] (fun i wr => ∃ k : Nat, k ≤ n ∧ i = .int .i64 k ∧ Below w.heap.size w wr) (fun i _ => n - (intOf i).toNat)
  case atStart => exact ⟨0, Nat.zero_le _, rfl, Below.refl _ _⟩
  case round =>
    obtain ⟨k, hk, rfl, hb⟩ := hrel
    have hsz := hb.size
    by_cases hlt : k < n
    · obtain ⟨b, off, rfl, hbl, c0⟩ := hA k hlt
      obtain ⟨b', off', rfl, hbl', d0⟩ := hB k hlt
      obtain ⟨hc, hf⟩ := bcell hb
      have h1 : b < wr.heap.size := by omega
      have h2 : b' < wr.heap.size := by omega
      go_wp2_with fail
      (refine wp_region_more (by kernel_rfl) (by kernel_rfl) ?_
       repeat (any_goals (first | go_big_quiet_step ((fail)) | quiet_step ((fail)) | (refine wpQuiet_step (fun K hK => ?_); go_simp; split <;> (refine hK _ ?_; clear hK K))))
       all_goals (refine wpQuiet_nil ?_; intro _ hw'; obtain ⟨nq, hw''⟩ := hw'; subst hw''))
      go_wp2_with fail
      go_roundw
      case rel => exact ⟨k + 1, by omega, by go_num, (by repeat (first | with_reducible exact Below.refl _ _ | with_reducible assumption | with_reducible refine below_alloc ?_ _ | with_reducible refine below_more ?_ _ | (with_reducible refine below_set ?_ ?_ _; rotate_left; first | with_reducible exact Nat.le_refl _ | with_reducible assumption | (simp; done) | omega)))⟩
      case measure => simp [intOf]; omega
    · go_wp2_with fail
      go_ret
      exact ⟨rfl, hb⟩
/-- The first k cells of a row. -/
def RowI (cs : Array Value) (k : Nat) (f : Nat → Int) : Prop := ∀ i, i < k → cs[i]? = some (.int .i64 (f i))
theorem RowI.rd {w : World} {g n : Nat} {t : TypeId} {cs : Array Value} {f : Nat → Int} (hb : Blk w g t cs) (h : RowI cs n f) : RdI w (some ⟨g, 0, none⟩) n f := fun i hi =>
  ⟨g, 0, rfl, hb.lt, by rw [hb.cell]; simpa using h i hi⟩
theorem RowI.step {cs : Array Value} {k n : Nat} {f : Nat → Int} {x : Int} (h : RowI cs k f) (hx : x = f k) (hk : k < n) (hs : cs.size = n) : RowI (cs.setIfInBounds k (.int .i64 x)) (k + 1) f ∧ (cs.setIfInBounds k (.int .i64 x)).size = n := by
  subst hx
  refine ⟨fun i hi => ?_, by simp [hs]⟩
  by_cases e : i = k
  · subst e
    simp [Array.getElem?_setIfInBounds]; omega
  · rw [Array.getElem?_setIfInBounds, if_neg (by omega)]
    exact h i (by omega)
theorem RowI.step' {cs : Array Value} {k : Nat} {f : Nat → Int} {x : Int} (h : RowI cs k f) (hx : x = f k) (hs : k < cs.size) : RowI (cs.setIfInBounds k (.int .i64 x)) (k + 1) f := by
  subst hx
  intro i hi
  by_cases e : i = k
  · subst e
    simp [Array.getElem?_setIfInBounds]; omega
  · rw [Array.getElem?_setIfInBounds, if_neg (by omega)]
    exact h i (by omega)
theorem zeros_row (n : Nat) : RowI (zeros (.int .i64 0) n) n (fun _ => 0) := fun i hi => by
  have h : (zeros (.int .i64 0) n).toList = List.replicate n (.int .i64 0) := toList_madeCells_one _ _
  rw [← Array.getElem?_toList, h, List.getElem?_replicate, if_pos hi]
set_option maxHeartbeats 400000 in
/-- heldIntS finds j, j + 1, .. -/
theorem heldIntS_any (A : Option Addr) (n c : Nat) (j : Int) (w : World) (hn : n ≤ 1048576) (h0 : 0 ≤ j) (h1 : j ≤ 1099511627776) (hA : RdI w A n (fun i => j + i)) :
    Calls Try.prog 34 #[.slice A n c, .int .i64 j] w (Post (.int .i64 (j + n)) w) := by
  go_enter Try.func34, Try.ntmps34
  go_wp2_with fail
  go_loopw [1, 5] (fun x i wr => ∃ k : Nat, k ≤ n ∧ i = .int .i64 k ∧ x = .int .i64 (j + k) ∧ Below w.heap.size w wr) (fun _ i _ => n - (intOf i).toNat)
  case atStart => exact ⟨0, Nat.zero_le _, rfl, by simp, Below.refl _ _⟩
  case round =>
    obtain ⟨k, hk, rfl, rfl, hb⟩ := hrel
    have hsz := hb.size
    by_cases hlt : k < n
    · obtain ⟨b, off, rfl, hbl, c0⟩ := hA k hlt
      obtain ⟨hc, hf⟩ := bcell hb
      have h1 : b < wr.heap.size := by omega
      go_wp2_with fail
      go_roundw
      case rel => exact ⟨k + 1, by omega, by go_num, by go_num, (by repeat (first | with_reducible exact Below.refl _ _ | with_reducible assumption | with_reducible refine below_alloc ?_ _ | with_reducible refine below_more ?_ _ | (with_reducible refine below_set ?_ ?_ _; rotate_left; first | with_reducible exact Nat.le_refl _ | with_reducible assumption | (simp; done) | omega)))⟩
      case measure => simp [intOf]; omega
    · obtain rfl : k = n := by omega
      go_wp2_with fail
      go_ret
      exact ⟨rfl, hb⟩
end Go.Proofs.Ytpjgjfdbffideaa
