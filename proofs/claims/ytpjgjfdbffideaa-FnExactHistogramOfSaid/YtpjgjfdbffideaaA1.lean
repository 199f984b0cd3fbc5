/-
  Ranges, lockages and records of lockages: what the program's functions and the reference's compute, as one Bool each.
  Conditions: none beyond each statement's own premises.
-/
import Derived.Test.YtpjgjfdbffideaaLk
namespace Go.Proofs.Ytpjgjfdbffideaa
set_option linter.unusedSimpArgs false
set_option linter.unusedVariables false
open Go.RowKit

def inB (n lo hi : Int) : Bool := decide (lo ≤ n) && decide (n ≤ hi)
theorem inB_iff {n lo hi : Int} : inB n lo hi = true ↔ lo ≤ n ∧ n ≤ hi := by simp [inB]

theorem inside_any (n lo hi : Int) (w : World) : Calls Try.prog 47 #[.int .i64 n, .int .i64 lo, .int .i64 hi] w fun e w' => e = .returned (.bool (inB n lo hi)) ∧ w = w' := by
  unfold inB
  go_enter Try.func47, Try.ntmps47
  go_wp2
  all_goals go_ret
  all_goals (refine ⟨?_, rfl⟩; congr 2; simp; try omega)
theorem l1In_any (n lo hi : Int) (w : World) : Calls Try.prog 50 #[.int .i64 n, .int .i64 lo, .int .i64 hi] w fun e w' => e = .returned (.bool (inB n lo hi)) ∧ w = w' := by
  unfold inB
  go_enter Try.func50, Try.ntmps50
  go_wp2
  all_goals go_ret
  all_goals (refine ⟨?_, rfl⟩; congr 2; simp; try omega)
def mx (a b : Int) : Int := if a < b then b else a
def mn (a b : Int) : Int := if a < b then a else b
theorem mx_le {a b c : Int} (h : a ≤ c) (h' : b ≤ c) : mx a b ≤ c := by unfold mx; split <;> omega
theorem le_mx (a b : Int) : a ≤ mx a b ∧ b ≤ mx a b := by unfold mx; split <;> omega
theorem mn_le (a b : Int) : mn a b ≤ a ∧ mn a b ≤ b := by unfold mn; split <;> omega
theorem le_mn {a b c : Int} (h : c ≤ a) (h' : c ≤ b) : c ≤ mn a b := by unfold mn; split <;> omega
theorem l1Most_any (a b : Int) (w : World) : Calls Try.prog 52 #[.int .i64 a, .int .i64 b] w fun e w' => e = .returned (.int .i64 (mx a b)) ∧ w = w' := by
  go_enter Try.func52, Try.ntmps52
  go_wp2
  all_goals (go_ret; refine ⟨?_, rfl⟩; show Ending.returned (Value.int _ _) = Ending.returned (Value.int _ _); congr 2; unfold mx; split <;> omega)
theorem l1Least_any (a b : Int) (w : World) : Calls Try.prog 67 #[.int .i64 a, .int .i64 b] w fun e w' => e = .returned (.int .i64 (mn a b)) ∧ w = w' := by
  go_enter Try.func67, Try.ntmps67
  go_wp2
  all_goals (go_ret; refine ⟨?_, rfl⟩; show Ending.returned (Value.int _ _) = Ending.returned (Value.int _ _); congr 2; unfold mn; split <;> omega)
theorem isLockNumber_any (n : Int) (w : World) : Calls Try.prog 45 #[.int .i64 n] w fun e w' => e = .returned (.bool (inB n 0 4)) ∧ w = w' := by
  go_enter Try.func45, Try.ntmps45
  go_wp2_with (go_at_call 47; refine (inside_any _ _ _ _).mono ?_; rintro e w' ⟨rfl, rfl⟩)
  go_ret
  exact ⟨rfl, rfl⟩
theorem isMinute_any (n : Int) (w : World) : Calls Try.prog 46 #[.int .i64 n] w fun e w' => e = .returned (.bool (inB n 0 9999)) ∧ w = w' := by
  go_enter Try.func46, Try.ntmps46
  go_wp2_with (go_at_call 47; refine (inside_any _ _ _ _).mono ?_; rintro e w' ⟨rfl, rfl⟩)
  go_ret
  exact ⟨rfl, rfl⟩
theorem l26Lock_any (n : Int) (w : World) : Calls Try.prog 51 #[.int .i64 n] w fun e w' => e = .returned (.bool (inB n 0 4)) ∧ w = w' := by
  go_enter Try.func51, Try.ntmps51
  go_wp2_with (go_at_call 50; refine (l1In_any _ _ _ _).mono ?_; rintro e w' ⟨rfl, rfl⟩)
  go_ret
  exact ⟨rfl, rfl⟩
def Lk.ok (l : Lk) : Bool := inB l.lock 0 4 && inB l.minute 0 9999 && inB l.vessels 0 4 && inB l.cells l.vessels 18 && inB l.waiting 0 9999 && (decide (0 < l.vessels) || (l.cells == 0 && l.waiting == 0))
theorem isLockage_any (l : Lk) (w : World) : Calls Try.prog 15 #[.agg #[.int .i64 l.lock, .int .i64 l.minute, .int .i64 l.vessels, .int .i64 l.cells, .int .i64 l.waiting]] w (Post (.bool l.ok) w) := by
  obtain ⟨a, b, c, d, f⟩ := l
  simp only
  go_enter Try.func15, Try.ntmps15
  go_wp2_with (first | (go_at_call 47; refine (inside_any _ _ _ _).mono ?_; rintro e w' ⟨rfl, rfl⟩) | (go_at_call 45; refine (isLockNumber_any _ _).mono ?_; rintro e w' ⟨rfl, rfl⟩) | (go_at_call 46; refine (isMinute_any _ _).mono ?_; rintro e w' ⟨rfl, rfl⟩))
  all_goals go_ret
  all_goals (refine ⟨by show Ending.returned (Value.bool _) = _; simp_all [Lk.ok], (by repeat (first | with_reducible exact Below.refl _ _ | with_reducible assumption | with_reducible refine below_alloc ?_ _ | with_reducible refine below_more ?_ _ | (with_reducible refine below_set ?_ ?_ _; rotate_left; first | with_reducible exact Nat.le_refl _ | with_reducible assumption | (simp; done) | omega)))⟩)
theorem l26One_any (l : Lk) (w : World) : Calls Try.prog 44 #[.agg #[.int .i64 l.lock, .int .i64 l.minute, .int .i64 l.vessels, .int .i64 l.cells, .int .i64 l.waiting]] w (Post (.bool l.ok) w) := by
  obtain ⟨a, b, c, d, f⟩ := l
  simp only
  go_enter Try.func44, Try.ntmps44
  go_wp2_with (first | (go_at_call 50; refine (l1In_any _ _ _ _).mono ?_; rintro e w' ⟨rfl, rfl⟩) | (go_at_call 51; refine (l26Lock_any _ _).mono ?_; rintro e w' ⟨rfl, rfl⟩))
  all_goals go_ret
  all_goals (refine ⟨by show Ending.returned (Value.bool _) = _; simp_all [Lk.ok], (by repeat (first | with_reducible exact Below.refl _ _ | with_reducible assumption | with_reducible refine below_alloc ?_ _ | with_reducible refine below_more ?_ _ | (with_reducible refine below_set ?_ ?_ _; rotate_left; first | with_reducible exact Nat.le_refl _ | with_reducible assumption | (simp; done) | omega)))⟩)
theorem specIsLockage_any (l : Lk) (w : World) : Calls Try.prog 13 #[.agg #[.int .i64 l.lock, .int .i64 l.minute, .int .i64 l.vessels, .int .i64 l.cells, .int .i64 l.waiting]] w (Post (.bool l.ok) w) := by
  go_enter Try.func13, Try.ntmps13
  go_wp2_with ((go_at_call 44; refine (l26One_any l _).mono ?_; intro e w' hp; obtain ⟨rfl, m, rfl⟩ := hp.get))
  go_ret
  exact ⟨rfl, (by repeat (first | with_reducible exact Below.refl _ _ | with_reducible assumption | with_reducible refine below_alloc ?_ _ | with_reducible refine below_more ?_ _ | (with_reducible refine below_set ?_ ?_ _; rotate_left; first | with_reducible exact Nat.le_refl _ | with_reducible assumption | (simp; done) | omega)))⟩

/-- Record i is good beside the one before it. -/
def recOk (L : Nat → Lk) (i : Nat) : Bool := (L i).ok && (decide (i = 0) || decide ((L (i - 1)).minute ≤ (L i).minute))
def recAll (L : Nat → Lk) : Nat → Bool
  | 0 => true
  | k + 1 => recAll L k && recOk L k
def recList (n : Nat) (L : Nat → Lk) : Bool := recAll L n && decide (n ≤ 15)
theorem recAll_le {L : Nat → Lk} {k n : Nat} (h : k ≤ n) (hk : recAll L k = false) : recAll L n = false := by
  induction n with
  | zero => obtain rfl : k = 0 := by omega
            exact hk
  | succ n ih =>
    rcases Nat.lt_or_ge k (n + 1) with hlt | hge
    · simp [recAll, ih (by omega)]
    · obtain rfl : k = n + 1 := by omega
      exact hk
theorem recList_bad {n k : Nat} {L : Nat → Lk} (h : k < n) (hk : recOk L k = false) : recList n L = false := by
  have h1 : recAll L n = false := recAll_le (k := k + 1) (by omega) (by simp [recAll, hk])
  simp [recList, h1]
theorem recAll_at {L : Nat → Lk} {k n : Nat} (h : recAll L n = true) (hk : k < n) : recOk L k = true := by
  cases hr : recOk L k with
  | true => rfl
  | false => rw [recAll_le (k := k + 1) (n := n) (by omega) (by simp [recAll, hr])] at h; cases h

set_option maxHeartbeats 800000 in
theorem isRecordList_any (A : Option Addr) (n c : Nat) (L : Nat → Lk) (w : World) (hn : n ≤ 1048576) (hL : RdLk w A n L) :
    Calls Try.prog 19 #[.slice A n c] w (Post (.bool (recList n L)) w) := by
  go_enter Try.func19, Try.ntmps19
  go_wp2
  go_loopw [2, 3, 7] (fun r i j wr => ∃ k : Nat, k ≤ n ∧ j = .int .i64 k ∧ recAll L k = true ∧ Below w.heap.size w wr)
    (fun _ _ j _ => n - (intOf j).toNat)
  case atStart => exact ⟨0, Nat.zero_le _, rfl, rfl, Below.refl _ _⟩
  case round =>
    obtain ⟨k, hk, rfl, hok, hb⟩ := hrel
    have HO := Lib.hid hok
    clear hok
    have hsz := hb.size
    by_cases hlt : k < n
    · obtain ⟨b, off, rfl, hbl, c0, c1, c2, c3, c4⟩ := hL k hlt
      obtain ⟨hc, hf⟩ := bcell hb
      have h1 : b < wr.heap.size + 1 := by omega
      have h2 : b < wr.heap.size := by omega
      have hprev : 0 < k → w.cell? ⟨b, off + (k - 1) * 5 + 1, none⟩ = some (.int .i64 (L (k - 1)).minute) := fun h0 => by
        obtain ⟨b', off', e, _, _, d1, _⟩ := hL (k - 1) (by omega)
        cases e
        exact d1
      go_wp2_with fail
      (refine wp_region_more (by kernel_rfl) (by kernel_rfl) ?_
       repeat (any_goals (first | go_big_quiet_step (((go_at_call 15; exact q_post (isLockage_any (L k) _)))) | quiet_step (((go_at_call 15; exact q_post (isLockage_any (L k) _)))) | (refine wpQuiet_step (fun K hK => ?_); go_simp; split <;> (refine hK _ ?_; clear hK K))))
       all_goals (refine wpQuiet_nil ?_; intro _ hw'; obtain ⟨nq, hw''⟩ := hw'; subst hw''))
      all_goals go_wp2_with fail
      all_goals first
        | (go_roundw; (case rel => exact ⟨k + 1, by omega, by go_num, by simp [recAll, recOk, HO.out, *] <;> omega, (by repeat (first | with_reducible exact Below.refl _ _ | with_reducible assumption | with_reducible refine below_alloc ?_ _ | with_reducible refine below_more ?_ _ | (with_reducible refine below_set ?_ ?_ _; rotate_left; first | with_reducible exact Nat.le_refl _ | with_reducible assumption | (simp; done) | omega)))⟩); (case measure => simp [intOf]; omega))
        | (go_ret; exact ⟨by rw [recList_bad hlt (by simp [recOk, *] <;> omega)]; rfl, (by repeat (first | with_reducible exact Below.refl _ _ | with_reducible assumption | with_reducible refine below_alloc ?_ _ | with_reducible refine below_more ?_ _ | (with_reducible refine below_set ?_ ?_ _; rotate_left; first | with_reducible exact Nat.le_refl _ | with_reducible assumption | (simp; done) | omega)))⟩)
    · go_wp2_with fail
      go_ret
      obtain rfl : k = n := by omega
      exact ⟨by show Ending.returned (Value.bool _) = Ending.returned (Value.bool _); congr 2; simp [recList, HO.out]; omega, hb⟩
end Go.Proofs.Ytpjgjfdbffideaa
