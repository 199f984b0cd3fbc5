/-
  Records of lockages in the reference; the longest gap at a lock, in the program and in the reference.
  Conditions: none beyond each statement's own premises.
-/
import Derived.Test.YtpjgjfdbffideaaA1
namespace Go.Proofs.Ytpjgjfdbffideaa
set_option linter.unusedSimpArgs false
set_option linter.unusedVariables false
open Go.RowKit

set_option maxHeartbeats 800000 in
theorem l26Good_any (A : Option Addr) (n c : Nat) (L : Nat → Lk) (w : World) (hn : n ≤ 1048576) (hL : RdLk w A n L) :
    Calls Try.prog 48 #[.slice A n c] w (Post (.bool (recList n L)) w) := by
  go_enter Try.func48, Try.ntmps48
  go_wp2
  go_loopw [3] (fun j wr => ∃ k : Nat, k ≤ n ∧ j = .int .i64 k ∧ recAll L k = true ∧ Below w.heap.size w wr)
    (fun j _ => n - (intOf j).toNat)
  case atStart => exact ⟨0, Nat.zero_le _, rfl, rfl, Below.refl _ _⟩
  case round =>
    obtain ⟨k, hk, rfl, hok, hb⟩ := hrel
    have HO := Lib.hid hok
    clear hok
    have hsz := hb.size
    by_cases hlt : k < n
    · obtain ⟨b, off, rfl, hbl, c0, c1, c2, c3, c4⟩ := hL k hlt
      obtain ⟨hc, hf⟩ := bcell hb
      have h2 : b < wr.heap.size := by omega
      have hprev : 0 < k → w.cell? ⟨b, off + (k - 1) * 5 + 1, none⟩ = some (.int .i64 (L (k - 1)).minute) := fun h0 => by
        obtain ⟨b', off', e, _, _, d1, _⟩ := hL (k - 1) (by omega)
        cases e
        exact d1
      go_wp2_with fail
      (refine wp_region_more (by kernel_rfl) (by kernel_rfl) ?_
       repeat (any_goals (first | go_big_quiet_step (((go_at_call 44; exact q_post (l26One_any (L k) _)))) | quiet_step (((go_at_call 44; exact q_post (l26One_any (L k) _)))) | (refine wpQuiet_step (fun K hK => ?_); go_simp; split <;> (refine hK _ ?_; clear hK K))))
       all_goals (refine wpQuiet_nil ?_; intro _ hw'; obtain ⟨nq, hw''⟩ := hw'; subst hw''))
      all_goals go_wp2_with fail
      all_goals first
        | (go_roundw; (case rel => exact ⟨k + 1, by omega, by go_num, by simp [recAll, recOk, HO.out, *] <;> omega, (by repeat (first | with_reducible exact Below.refl _ _ | with_reducible assumption | with_reducible refine below_alloc ?_ _ | with_reducible refine below_more ?_ _ | (with_reducible refine below_set ?_ ?_ _; rotate_left; first | with_reducible exact Nat.le_refl _ | with_reducible assumption | (simp; done) | omega)))⟩); (case measure => simp [intOf]; omega))
        | (go_ret; exact ⟨by rw [recList_bad hlt (by simp [recOk, *] <;> omega)]; rfl, (by repeat (first | with_reducible exact Below.refl _ _ | with_reducible assumption | with_reducible refine below_alloc ?_ _ | with_reducible refine below_more ?_ _ | (with_reducible refine below_set ?_ ?_ _; rotate_left; first | with_reducible exact Nat.le_refl _ | with_reducible assumption | (simp; done) | omega)))⟩)
    · go_wp2_with fail
      go_ret
      obtain rfl : k = n := by omega
      exact ⟨by show Ending.returned (Value.bool _) = Ending.returned (Value.bool _); congr 2; simp [recList, HO.out]; omega, hb⟩
theorem specIsRecordList_any (A : Option Addr) (n c : Nat) (L : Nat → Lk) (w : World) (hn : n ≤ 1048576) (hL : RdLk w A n L) :
    Calls Try.prog 17 #[.slice A n c] w (Post (.bool (recList n L)) w) := by
  go_enter Try.func17, Try.ntmps17
  go_wp2_with (go_at_call 48; refine (l26Good_any A n c L _ hn hL).mono ?_; intro e w' hp; obtain ⟨rfl, m, rfl⟩ := hp.get; clear hp)
  go_ret
  exact ⟨rfl, (by repeat (first | with_reducible exact Below.refl _ _ | with_reducible assumption | with_reducible refine below_alloc ?_ _ | with_reducible refine below_more ?_ _ | (with_reducible refine below_set ?_ ?_ _; rotate_left; first | with_reducible exact Nat.le_refl _ | with_reducible assumption | (simp; done) | omega)))⟩

theorem rec_minute {L : Nat → Lk} {n k : Nat} (h : recList n L = true) (hk : k < n) : 0 ≤ (L k).minute ∧ (L k).minute ≤ 9999 := by
  have h1 : recAll L n = true := by simp only [recList, Bool.and_eq_true] at h; exact h.1
  have h2 := recAll_at h1 hk
  simp only [recOk, Lk.ok, Bool.and_eq_true, inB_iff] at h2
  exact h2.1.1.1.1.1.2

/-- The longest gap so far, and the minute of the lockage before. -/
def gapSt (L : Nat → Lk) (lock : Int) : Nat → Int × Int
  | 0 => (-1, -1)
  | k + 1 => if (L k).lock = lock then (if 0 ≤ (gapSt L lock k).2 then mx (gapSt L lock k).1 ((L k).minute - (gapSt L lock k).2) else (gapSt L lock k).1, (L k).minute) else gapSt L lock k
def gapOf (n : Nat) (L : Nat → Lk) (lock : Int) : Int × Bool :=
  if recList n L = true ∧ inB lock 0 4 = true then (if (gapSt L lock n).1 < 0 then (0, false) else ((gapSt L lock n).1, true)) else (0, false)
theorem gapSt_bd {L : Nat → Lk} {n : Nat} (h : recList n L = true) (lock : Int) : ∀ k, k ≤ n → -1 ≤ (gapSt L lock k).1 ∧ (gapSt L lock k).1 ≤ 10000 ∧ -1 ≤ (gapSt L lock k).2 ∧ (gapSt L lock k).2 ≤ 9999
  | 0, _ => by simp [gapSt]
  | k + 1, hk => by
    have ih := gapSt_bd h lock k (by omega)
    have hm := rec_minute h (k := k) (by omega)
    simp only [gapSt]
    split
    · simp only
      split
      · have h1 := mx_le (a := (gapSt L lock k).1) (b := (L k).minute - (gapSt L lock k).2) (c := 10000) (by omega) (by omega)
        have h2 := le_mx (gapSt L lock k).1 ((L k).minute - (gapSt L lock k).2)
        omega
      · omega
    · exact ⟨by omega, by omega, by omega, by omega⟩
theorem gap_skip {L : Nat → Lk} {lock : Int} {k : Nat} (h : ((L k).lock != lock) = true) : gapSt L lock (k + 1) = gapSt L lock k := by
  have h' : ¬ (L k).lock = lock := by simpa using h
  rw [gapSt, if_neg h']
theorem gap_more {L : Nat → Lk} {lock : Int} {k : Nat} (h : ((L k).lock != lock) = false) (h2 : 0 ≤ (gapSt L lock k).2) :
    gapSt L lock (k + 1) = (mx (gapSt L lock k).1 ((L k).minute - (gapSt L lock k).2), (L k).minute) := by
  have h' : (L k).lock = lock := by simpa using h
  rw [gapSt, if_pos h', if_pos h2]
theorem gap_first {L : Nat → Lk} {lock : Int} {k : Nat} (h : ((L k).lock != lock) = false) (h2 : (gapSt L lock k).2 < 0) : gapSt L lock (k + 1) = ((gapSt L lock k).1, (L k).minute) := by
  have h' : (L k).lock = lock := by simpa using h
  rw [gapSt, if_pos h', if_neg (by omega)]
set_option maxHeartbeats 800000 in
theorem longestGap_any (A : Option Addr) (n c : Nat) (L : Nat → Lk) (lock : Int) (w : World) (hn : n ≤ 1048576) (hL : RdLk w A n L) :
    Calls Try.prog 24 #[.slice A n c, .int .i64 lock] w (Post (.tuple #[.int .i64 (gapOf n L lock).1, .bool (gapOf n L lock).2]) w) := by
  by_cases hv : recList n L = true ∧ inB lock 0 4 = true
  · obtain ⟨v1, v2⟩ := hv
    have hfin : gapOf n L lock = (if (gapSt L lock n).1 < 0 then (0, false) else ((gapSt L lock n).1, true)) := by simp [gapOf, v1, v2]
    have HF := Lib.hid hfin
    have HB := Lib.hid (gapSt_bd v1 lock)
    have HM := Lib.hid (fun k (hk : k < n) => rec_minute v1 hk)
    clear hfin
    go_enter Try.func24, Try.ntmps24
    go_wp2_with (first | (go_at_call 19; refine (isRecordList_any A n c L _ hn hL).mono ?_; intro e w' hp; obtain ⟨rfl, m, rfl⟩ := hp.get; clear hp) | (go_at_call 45; refine (isLockNumber_any _ _).mono ?_; rintro e w' ⟨rfl, rfl⟩))
    clear v1 v2
    go_loopw [6, 7, 20] (fun a b j wr => ∃ k : Nat, k ≤ n ∧ j = .int .i64 k ∧ a = .int .i64 (gapSt L lock k).1 ∧ b = .int .i64 (gapSt L lock k).2 ∧ Below w.heap.size w wr)
      (fun _ _ j _ => n - (intOf j).toNat)
    case atStart => exact ⟨0, Nat.zero_le _, rfl, rfl, rfl, (by repeat (first | with_reducible exact Below.refl _ _ | with_reducible assumption | with_reducible refine below_alloc ?_ _ | with_reducible refine below_more ?_ _ | (with_reducible refine below_set ?_ ?_ _; rotate_left; first | with_reducible exact Nat.le_refl _ | with_reducible assumption | (simp; done) | omega)))⟩
    case round =>
      obtain ⟨k, hk, rfl, rfl, rfl, hb⟩ := hrel
      have hsz := hb.size
      obtain ⟨g1, g2, g3, g4⟩ := HB.out k hk
      by_cases hlt : k < n
      · obtain ⟨b, off, rfl, hbl, c0, c1, c2, c3, c4⟩ := hL k hlt
        obtain ⟨hc, hf⟩ := bcell hb
        obtain ⟨m1, m2⟩ := HM.out k hlt
        go_wp2_with fail
        all_goals (go_roundw; (case rel => first
          | exact ⟨k + 1, by omega, by go_num, by rw [gap_skip ‹_›], by rw [gap_skip ‹_›], (by repeat (first | with_reducible exact Below.refl _ _ | with_reducible assumption | with_reducible refine below_alloc ?_ _ | with_reducible refine below_more ?_ _ | (with_reducible refine below_set ?_ ?_ _; rotate_left; first | with_reducible exact Nat.le_refl _ | with_reducible assumption | (simp; done) | omega)))⟩
          | exact ⟨k + 1, by omega, by go_num, by rw [gap_more ‹_› ‹_›] <;> rfl, by rw [gap_more ‹_› ‹_›], (by repeat (first | with_reducible exact Below.refl _ _ | with_reducible assumption | with_reducible refine below_alloc ?_ _ | with_reducible refine below_more ?_ _ | (with_reducible refine below_set ?_ ?_ _; rotate_left; first | with_reducible exact Nat.le_refl _ | with_reducible assumption | (simp; done) | omega)))⟩
          | exact ⟨k + 1, by omega, by go_num, by rw [gap_first ‹_› ‹_›], by rw [gap_first ‹_› ‹_›], (by repeat (first | with_reducible exact Below.refl _ _ | with_reducible assumption | with_reducible refine below_alloc ?_ _ | with_reducible refine below_more ?_ _ | (with_reducible refine below_set ?_ ?_ _; rotate_left; first | with_reducible exact Nat.le_refl _ | with_reducible assumption | (simp; done) | omega)))⟩); (case measure => simp [intOf]; omega))
      · obtain rfl : k = n := by omega
        go_wp2_with fail
        all_goals go_ret2
        · exact ⟨by rw [HF.out, if_pos ‹_›]; rfl, hb⟩
        · exact ⟨by rw [HF.out, if_neg (by omega)]; rfl, hb⟩
  · have hfin : gapOf n L lock = (0, false) := by rw [gapOf, if_neg hv]
    have HF := Lib.hid hfin
    clear hfin
    go_enter Try.func24, Try.ntmps24
    go_wp2_with (first | (go_at_call 19; refine (isRecordList_any A n c L _ hn hL).mono ?_; intro e w' hp; obtain ⟨rfl, m, rfl⟩ := hp.get; clear hp) | (go_at_call 45; refine (isLockNumber_any _ _).mono ?_; rintro e w' ⟨rfl, rfl⟩))
    all_goals first
      | (go_ret2; exact ⟨by rw [HF.out]; rfl, (by repeat (first | with_reducible exact Below.refl _ _ | with_reducible assumption | with_reducible refine below_alloc ?_ _ | with_reducible refine below_more ?_ _ | (with_reducible refine below_set ?_ ?_ _; rotate_left; first | with_reducible exact Nat.le_refl _ | with_reducible assumption | (simp; done) | omega)))⟩)
      | (exfalso; simp_all; done)
set_option maxHeartbeats 800000 in
theorem specLongestGap_any (A : Option Addr) (n c : Nat) (L : Nat → Lk) (lock : Int) (w : World) (hn : n ≤ 1048576) (hL : RdLk w A n L) :
    Calls Try.prog 23 #[.slice A n c, .int .i64 lock] w (Post (.tuple #[.int .i64 (gapOf n L lock).1, .bool (gapOf n L lock).2]) w) := by
  by_cases hv : recList n L = true ∧ inB lock 0 4 = true
  · obtain ⟨v1, v2⟩ := hv
    have hfin : gapOf n L lock = (if (gapSt L lock n).1 < 0 then (0, false) else ((gapSt L lock n).1, true)) := by simp [gapOf, v1, v2]
    have HF := Lib.hid hfin
    have HB := Lib.hid (gapSt_bd v1 lock)
    have HM := Lib.hid (fun k (hk : k < n) => rec_minute v1 hk)
    clear hfin
    go_enter Try.func23, Try.ntmps23
    go_wp2_with (first | (go_at_call 48; refine (l26Good_any A n c L _ hn hL).mono ?_; intro e w' hp; obtain ⟨rfl, m, rfl⟩ := hp.get; clear hp) | (go_at_call 51; refine (l26Lock_any _ _).mono ?_; rintro e w' ⟨rfl, rfl⟩))
    clear v1 v2
    go_loopw [6, 7, 8] (fun b a j wr => ∃ k : Nat, k ≤ n ∧ j = .int .i64 k ∧ a = .int .i64 (gapSt L lock k).1 ∧ b = .int .i64 (gapSt L lock k).2 ∧ Below w.heap.size w wr)
      (fun _ _ j _ => n - (intOf j).toNat)
    case atStart => exact ⟨0, Nat.zero_le _, rfl, rfl, rfl, (by repeat (first | with_reducible exact Below.refl _ _ | with_reducible assumption | with_reducible refine below_alloc ?_ _ | with_reducible refine below_more ?_ _ | (with_reducible refine below_set ?_ ?_ _; rotate_left; first | with_reducible exact Nat.le_refl _ | with_reducible assumption | (simp; done) | omega)))⟩
    case round =>
      obtain ⟨k, hk, rfl, rfl, rfl, hb⟩ := hrel
      have hsz := hb.size
      obtain ⟨g1, g2, g3, g4⟩ := HB.out k hk
      by_cases hlt : k < n
      · obtain ⟨b, off, rfl, hbl, c0, c1, c2, c3, c4⟩ := hL k hlt
        obtain ⟨hc, hf⟩ := bcell hb
        obtain ⟨m1, m2⟩ := HM.out k hlt
        go_wp2_with (go_at_call 52; refine (l1Most_any _ _ _).mono ?_; rintro e w' ⟨rfl, rfl⟩)
        all_goals (go_roundw; (case rel => first
          | exact ⟨k + 1, by omega, by go_num, by rw [gap_skip ‹_›], by rw [gap_skip ‹_›], (by repeat (first | with_reducible exact Below.refl _ _ | with_reducible assumption | with_reducible refine below_alloc ?_ _ | with_reducible refine below_more ?_ _ | (with_reducible refine below_set ?_ ?_ _; rotate_left; first | with_reducible exact Nat.le_refl _ | with_reducible assumption | (simp; done) | omega)))⟩
          | exact ⟨k + 1, by omega, by go_num, by rw [gap_more ‹_› ‹_›] <;> rfl, by rw [gap_more ‹_› ‹_›], (by repeat (first | with_reducible exact Below.refl _ _ | with_reducible assumption | with_reducible refine below_alloc ?_ _ | with_reducible refine below_more ?_ _ | (with_reducible refine below_set ?_ ?_ _; rotate_left; first | with_reducible exact Nat.le_refl _ | with_reducible assumption | (simp; done) | omega)))⟩
          | exact ⟨k + 1, by omega, by go_num, by rw [gap_first ‹_› ‹_›], by rw [gap_first ‹_› ‹_›], (by repeat (first | with_reducible exact Below.refl _ _ | with_reducible assumption | with_reducible refine below_alloc ?_ _ | with_reducible refine below_more ?_ _ | (with_reducible refine below_set ?_ ?_ _; rotate_left; first | with_reducible exact Nat.le_refl _ | with_reducible assumption | (simp; done) | omega)))⟩); (case measure => simp [intOf]; omega))
      · obtain rfl : k = n := by omega
        go_wp2_with fail
        all_goals go_ret2
        · exact ⟨by rw [HF.out, if_pos ‹_›]; rfl, hb⟩
        · exact ⟨by rw [HF.out, if_neg (by omega)]; rfl, hb⟩
  · have hfin : gapOf n L lock = (0, false) := by rw [gapOf, if_neg hv]
    have HF := Lib.hid hfin
    clear hfin
    go_enter Try.func23, Try.ntmps23
    go_wp2_with (first | (go_at_call 48; refine (l26Good_any A n c L _ hn hL).mono ?_; intro e w' hp; obtain ⟨rfl, m, rfl⟩ := hp.get; clear hp) | (go_at_call 51; refine (l26Lock_any _ _).mono ?_; rintro e w' ⟨rfl, rfl⟩))
    all_goals first
      | (go_ret2; exact ⟨by rw [HF.out]; rfl, (by repeat (first | with_reducible exact Below.refl _ _ | with_reducible assumption | with_reducible refine below_alloc ?_ _ | with_reducible refine below_more ?_ _ | (with_reducible refine below_set ?_ ?_ _; rotate_left; first | with_reducible exact Nat.le_refl _ | with_reducible assumption | (simp; done) | omega)))⟩)
      | (exfalso; simp_all; done)
end Go.Proofs.Ytpjgjfdbffideaa
