/-
  Duties: which are valid, in the reference.
  Conditions: none beyond each statement's own premises.
-/
import Derived.Test.YtbbafdcmgobkeaaC1
namespace Go.Proofs.Ytbbafdcmgobkeaa
set_option linter.unusedSimpArgs false
set_option linter.unusedVariables false
open Go.RowKit
def Du.lockOk (d : Du) (i : Nat) : Bool := inB (d.lk i) 0 (d.ce - 1) && d.act (d.lk i).toNat && (decide (i = 0) || decide (d.lk (i - 1) ≤ d.lk i))
theorem Du.ok_eq (d : Du) : d.ok = (inB d.ce 1 5 && ((d.n : Int) == d.ce) && inB d.m 1 10 && allB d.lockOk d.m) := by
  obtain ⟨ce, n, act, m, lk⟩ := d
  rw [Bool.eq_iff_iff]
  simp only [Du.ok, Bool.and_eq_true, inB_iff, beq_iff_eq]
  constructor
  · rintro ⟨⟨⟨⟨⟨h1, h2⟩, h3⟩, h4⟩, h5⟩, h6⟩
    refine ⟨⟨⟨h1, h2⟩, h4⟩, allB_iff.2 fun i hi => ?_⟩
    have h7 := allB_iff.1 h5 i hi
    have h8 : Du.off ⟨ce, n, act, m, lk⟩ (lk i) = false := by
      cases h9 : Du.off ⟨ce, n, act, m, lk⟩ (lk i) with
      | false => rfl
      | true => rw [anyB_iff.2 ⟨i, hi, h9⟩] at h6; cases h6
    simp only [Du.off, Bool.or_eq_false_iff, Bool.not_eq_false'] at h8
    simp only [Du.lockOk, Bool.and_eq_true]
    exact ⟨h8, h7⟩
  · rintro ⟨⟨⟨h1, h2⟩, h4⟩, h5⟩
    have h6 := allB_iff.1 h5
    simp only [Du.lockOk, Bool.and_eq_true] at h6
    refine ⟨⟨⟨⟨⟨h1, h2⟩, ?_⟩, h4⟩, ?_⟩, ?_⟩
    · obtain ⟨⟨h7, h8⟩, _⟩ := h6 0 (by omega)
      have h9 := inB_iff.1 h7
      exact anyB_iff.2 ⟨(lk 0).toNat, by omega, by rw [h8]; rfl⟩
    · exact allB_iff.2 fun i hi => (h6 i hi).2
    · rw [Bool.not_eq_true']
      cases h9 : anyB (fun i => Du.off ⟨ce, n, act, m, lk⟩ (lk i)) m with
      | false => rfl
      | true =>
        obtain ⟨i, hi, hp⟩ := anyB_iff.1 h9
        obtain ⟨⟨h7, h8⟩, _⟩ := h6 i hi
        simp [Du.off, h7, h8] at hp
theorem Du.ok_facts {d : Du} (h : d.ok = true) : 1 ≤ d.ce ∧ d.ce ≤ 5 ∧ (d.n : Int) = d.ce ∧ 1 ≤ d.m ∧ d.m ≤ 10 ∧ (∀ i, i < d.m → 0 ≤ d.lk i ∧ d.lk i < d.ce ∧ d.act (d.lk i).toNat = true) := by
  rw [Du.ok_eq] at h
  simp only [Bool.and_eq_true, inB_iff, beq_iff_eq] at h
  obtain ⟨⟨⟨⟨h1, h2⟩, h3⟩, h4, h5⟩, h6⟩ := h
  refine ⟨h1, h2, h3, by omega, by omega, fun i hi => ?_⟩
  have h7 := allB_iff.1 h6 i hi
  simp only [Du.lockOk, Bool.and_eq_true] at h7
  obtain ⟨⟨h8, h9⟩, _⟩ := h7
  have := inB_iff.1 h8
  exact ⟨by omega, by omega, h9⟩
set_option maxHeartbeats 1600000 in
theorem l25Good_any (A1 A2 : Option Addr) (c1 c2 : Nat) (d : Du) (w : World) (hn1 : d.n ≤ 1048576) (hn2 : d.m ≤ 1048576) (h : IsDu w A1 A2 d) :
    Calls Try.prog 58 #[.agg #[.int .i64 d.ce, .slice A1 d.n c1, .slice A2 d.m c2]] w (Post (.bool d.ok) w) := by
  rw [Du.ok_eq]
  cases q1 : inB d.ce 1 5 && ((d.n : Int) == d.ce) && inB d.m 1 10 with
  | false =>
    go_enter Try.func58, Try.ntmps58
    go_wp2_with (go_at_call 73; refine (l1In_any _ _ _ _).mono ?_; rintro e w' ⟨rfl, rfl⟩)
    all_goals first
      | (go_ret; exact ⟨rfl, (by repeat (first | with_reducible exact Below.refl _ _ | with_reducible assumption | with_reducible refine below_alloc ?_ _ | with_reducible refine below_more ?_ _ | (with_reducible refine below_set ?_ ?_ _; rotate_left; focus (first | with_reducible exact Nat.le_refl _ | with_reducible assumption | (simp; done) | (simp; omega) | omega))))⟩)
      | (exfalso; simp_all; done)
  | true =>
    obtain ⟨g0, g6⟩ := Bool.and_eq_true_iff.1 q1
    obtain ⟨g1, g2⟩ := Bool.and_eq_true_iff.1 g0
    obtain ⟨g3, g4⟩ := inB_iff.1 g1
    have g5 : (d.n : Int) = d.ce := by simpa using g2
    obtain ⟨g7, g8⟩ := inB_iff.1 g6
    obtain ⟨ce, n, act, m, lk⟩ := d
    simp only at *
    subst g5
    have HB := Lib.hid h.1
    have HI := Lib.hid h.2
    have G1 := Lib.hid (l1In_is g1)
    have G6 := Lib.hid (l1In_is g6)
    clear h q1 g2 g0 g1 g6
    go_enter Try.func58, Try.ntmps58
    go_wp2_with fail
    refine (G1.out _).mono ?_
    rintro e w' ⟨rfl, rfl⟩
    go_wp2_with fail
    refine (G6.out _).mono ?_
    rintro e w' ⟨rfl, rfl⟩
    go_wp2_with fail
    go_loopw [3] (fun i wr => ∃ k : Nat, k ≤ m ∧ i = .int .i64 k ∧ Hid (allB (Du.lockOk ⟨n, n, act, m, lk⟩) k = true) ∧ wr.cell? ⟨w.heap.size, 0, none⟩ = some (.int .i64 n) ∧ wr.cell? ⟨w.heap.size, 1, none⟩ = some (.slice A1 n c1) ∧ wr.cell? ⟨w.heap.size, 2, none⟩ = some (.slice A2 m c2) ∧ w.heap.size < wr.heap.size ∧ Below w.heap.size w wr) (fun i _ => m - (intOf i).toNat)
    case atStart => exact ⟨0, Nat.zero_le _, rfl, rfl, by simp, by simp, by simp, by simp, (by repeat (first | with_reducible exact Below.refl _ _ | with_reducible assumption | with_reducible refine below_alloc ?_ _ | with_reducible refine below_more ?_ _ | (with_reducible refine below_set ?_ ?_ _; rotate_left; focus (first | with_reducible exact Nat.le_refl _ | with_reducible assumption | (simp; done) | (simp; omega) | omega))))⟩
    case round =>
      obtain ⟨k, hk, rfl, HA, k0, k1, k2, kb, hb⟩ := hrel
      have hsz := hb.size
      by_cases hlt : k < m
      · obtain ⟨b, off, rfl, hbl, c0⟩ := HI.out k hlt
        obtain ⟨hc, hf⟩ := bcell hb
        have h1 : b < wr.heap.size := by omega
        have hS : allB (Du.lockOk ⟨n, n, act, m, lk⟩) (k + 1) = (inB (lk k) 0 (n - 1) && act (lk k).toNat && (decide (k = 0) || decide (lk (k - 1) ≤ lk k))) := by
          rw [allB, HA.out, Bool.true_and]; rfl
        cases hv : inB (lk k) 0 (n - 1) with
        | false =>
          have HF := Lib.hid (show allB (Du.lockOk ⟨n, n, act, m, lk⟩) m = false from allB_false hlt (by simp [Du.lockOk, hv]))
          have HL := Lib.hid (l1In_is hv)
          clear hv hS
          go_wp2_with fail
          (refine wp_region_more (by kernel_rfl) (by kernel_rfl) ?_
           repeat (any_goals (first | go_big_quiet_step (((go_at_call 73; exact q_same (HL.out _)))) | quiet_step (((go_at_call 73; exact q_same (HL.out _)))) | (refine wpQuiet_step (fun K hK => ?_); go_simp; split <;> (refine hK _ ?_; clear hK K))))
           all_goals (refine wpQuiet_nil ?_; intro _ hw'; obtain ⟨nq, hw''⟩ := hw'; subst hw''))
          go_wp2_with fail
          go_ret
          exact ⟨by rw [HF.out]; rfl, (by repeat (first | with_reducible exact Below.refl _ _ | with_reducible assumption | with_reducible refine below_alloc ?_ _ | with_reducible refine below_more ?_ _ | (with_reducible refine below_set ?_ ?_ _; rotate_left; focus (first | with_reducible exact Nat.le_refl _ | with_reducible assumption | (simp; done) | (simp; omega) | omega))))⟩
        | true =>
          obtain ⟨v1, v2⟩ := inB_iff.1 hv
          have HL := Lib.hid (l1In_is hv)
          obtain ⟨q, hq⟩ := Int.eq_ofNat_of_zero_le v1
          obtain ⟨b', off', rfl, hbl', c1'⟩ := HB.out q (by omega)
          have h2 : b' < wr.heap.size := by omega
          rw [hv, hq, Int.toNat_natCast] at hS
          rw [hq] at c0 HL v2
          have v3 : q < n := by omega
          clear hv
          cases ha : act q with
          | false =>
            have HF := Lib.hid (show allB (Du.lockOk ⟨n, n, act, m, lk⟩) m = false from allB_false hlt (by simp [Du.lockOk, hq, ha]))
            rw [ha] at c1'
            clear hS
            go_wp2_with fail
            (refine wp_region_more (by kernel_rfl) (by kernel_rfl) ?_
             repeat (any_goals (first | go_big_quiet_step (((go_at_call 73; exact q_same (HL.out _)))) | quiet_step (((go_at_call 73; exact q_same (HL.out _)))) | (refine wpQuiet_step (fun K hK => ?_); go_simp; split <;> (refine hK _ ?_; clear hK K))))
             all_goals (refine wpQuiet_nil ?_; intro _ hw'; obtain ⟨nq, hw''⟩ := hw'; subst hw''))
            go_wp2_with fail
            go_ret
            exact ⟨by rw [HF.out]; rfl, (by repeat (first | with_reducible exact Below.refl _ _ | with_reducible assumption | with_reducible refine below_alloc ?_ _ | with_reducible refine below_more ?_ _ | (with_reducible refine below_set ?_ ?_ _; rotate_left; focus (first | with_reducible exact Nat.le_refl _ | with_reducible assumption | (simp; done) | (simp; omega) | omega))))⟩
          | true =>
            rw [ha] at c1' hS
            by_cases hk0 : k = 0
            · have HT := Lib.hid (show allB (Du.lockOk ⟨n, n, act, m, lk⟩) (k + 1) = true by rw [hS]; simp [hk0])
              have hkz : ¬ (0 : Int) < (k : Int) := by omega
              have hkz' : ¬ 0 < k := by omega
              clear hS hk0
              go_wp2_with fail
              (refine wp_region_more (by kernel_rfl) (by kernel_rfl) ?_
               repeat (any_goals (first | go_big_quiet_step (((go_at_call 73; exact q_same (HL.out _)))) | quiet_step (((go_at_call 73; exact q_same (HL.out _)))) | (refine wpQuiet_step (fun K hK => ?_); go_simp; split <;> (refine hK _ ?_; clear hK K))))
               all_goals (refine wpQuiet_nil ?_; intro _ hw'; obtain ⟨nq, hw''⟩ := hw'; subst hw''))
              go_wp2_with fail
              go_roundw
              case rel => exact ⟨k + 1, by omega, by go_num, HT, (by first | exact k0 | (rw [mw_cell _ _ _ (by omega)]; exact k0) | (simp [mw_cell, *]; done)), (by first | exact k1 | (rw [mw_cell _ _ _ (by omega)]; exact k1) | (simp [mw_cell, *]; done)), (by first | exact k2 | (rw [mw_cell _ _ _ (by omega)]; exact k2) | (simp [mw_cell, *]; done)), by simp [mw_size]; omega, (by repeat (first | with_reducible exact Below.refl _ _ | with_reducible assumption | with_reducible refine below_alloc ?_ _ | with_reducible refine below_more ?_ _ | (with_reducible refine below_set ?_ ?_ _; rotate_left; focus (first | with_reducible exact Nat.le_refl _ | with_reducible assumption | (simp; done) | (simp; omega) | omega))))⟩
              case measure => simp [intOf]; omega
            · obtain ⟨b'', off'', e'', hbl'', c2'⟩ := HI.out (k - 1) (by omega)
              cases e''
              have hk1 : ((k : Int) - 1) = ((k - 1 : Nat) : Int) := by omega
              have hkp : 0 < k := by omega
              by_cases hle : lk (k - 1) ≤ q
              · have HT := Lib.hid (show allB (Du.lockOk ⟨n, n, act, m, lk⟩) (k + 1) = true by rw [hS]; simp [hle])
                clear hS
                go_wp2_with fail
                (refine wp_region_more (by kernel_rfl) (by kernel_rfl) ?_
                 repeat (any_goals (first | go_big_quiet_step (((go_at_call 73; exact q_same (HL.out _)))) | quiet_step (((go_at_call 73; exact q_same (HL.out _)))) | (refine wpQuiet_step (fun K hK => ?_); go_simp; split <;> (refine hK _ ?_; clear hK K))))
                 all_goals (refine wpQuiet_nil ?_; intro _ hw'; obtain ⟨nq, hw''⟩ := hw'; subst hw''))
                go_wp2_with fail
                go_roundw
                case rel => exact ⟨k + 1, by omega, by go_num, HT, (by first | exact k0 | (rw [mw_cell _ _ _ (by omega)]; exact k0) | (simp [mw_cell, *]; done)), (by first | exact k1 | (rw [mw_cell _ _ _ (by omega)]; exact k1) | (simp [mw_cell, *]; done)), (by first | exact k2 | (rw [mw_cell _ _ _ (by omega)]; exact k2) | (simp [mw_cell, *]; done)), by simp [mw_size]; omega, (by repeat (first | with_reducible exact Below.refl _ _ | with_reducible assumption | with_reducible refine below_alloc ?_ _ | with_reducible refine below_more ?_ _ | (with_reducible refine below_set ?_ ?_ _; rotate_left; focus (first | with_reducible exact Nat.le_refl _ | with_reducible assumption | (simp; done) | (simp; omega) | omega))))⟩
                case measure => simp [intOf]; omega
              · have HF := Lib.hid (show allB (Du.lockOk ⟨n, n, act, m, lk⟩) m = false from allB_false hlt (by simp [Du.lockOk, hle, hk0, hq]))
                clear hS
                go_wp2_with fail
                (refine wp_region_more (by kernel_rfl) (by kernel_rfl) ?_
                 repeat (any_goals (first | go_big_quiet_step (((go_at_call 73; exact q_same (HL.out _)))) | quiet_step (((go_at_call 73; exact q_same (HL.out _)))) | (refine wpQuiet_step (fun K hK => ?_); go_simp; split <;> (refine hK _ ?_; clear hK K))))
                 all_goals (refine wpQuiet_nil ?_; intro _ hw'; obtain ⟨nq, hw''⟩ := hw'; subst hw''))
                go_wp2_with fail
                go_ret
                exact ⟨by rw [HF.out]; rfl, (by repeat (first | with_reducible exact Below.refl _ _ | with_reducible assumption | with_reducible refine below_alloc ?_ _ | with_reducible refine below_more ?_ _ | (with_reducible refine below_set ?_ ?_ _; rotate_left; focus (first | with_reducible exact Nat.le_refl _ | with_reducible assumption | (simp; done) | (simp; omega) | omega))))⟩
      · obtain rfl : k = m := by omega
        go_wp2_with fail
        go_ret
        exact ⟨by rw [HA.out]; rfl, hb⟩
theorem specIsValidDuty_any (A1 A2 : Option Addr) (c1 c2 : Nat) (d : Du) (w : World) (hn1 : d.n ≤ 1048576) (hn2 : d.m ≤ 1048576) (h : IsDu w A1 A2 d) :
    Calls Try.prog 16 #[.agg #[.int .i64 d.ce, .slice A1 d.n c1, .slice A2 d.m c2]] w (Post (.bool d.ok) w) := by
  go_enter Try.func16, Try.ntmps16
  go_wp2_with fail
  refine (l25Good_any A1 A2 c1 c2 d _ hn1 hn2 (by exact ⟨h.1.below (by repeat (first | with_reducible exact Below.refl _ _ | with_reducible assumption | with_reducible refine below_alloc ?_ _ | with_reducible refine below_more ?_ _ | (with_reducible refine below_set ?_ ?_ _; rotate_left; focus (first | with_reducible exact Nat.le_refl _ | with_reducible assumption | (simp; done) | (simp; omega) | omega)))), h.2.below (by repeat (first | with_reducible exact Below.refl _ _ | with_reducible assumption | with_reducible refine below_alloc ?_ _ | with_reducible refine below_more ?_ _ | (with_reducible refine below_set ?_ ?_ _; rotate_left; focus (first | with_reducible exact Nat.le_refl _ | with_reducible assumption | (simp; done) | (simp; omega) | omega))))⟩)).mono ?_
  rintro e w1 ⟨rfl, b1⟩
  go_wp2_with fail
  go_ret
  exact ⟨rfl, below_tr (by repeat (first | with_reducible exact Below.refl _ _ | with_reducible assumption | with_reducible refine below_alloc ?_ _ | with_reducible refine below_more ?_ _ | (with_reducible refine below_set ?_ ?_ _; rotate_left; focus (first | with_reducible exact Nat.le_refl _ | with_reducible assumption | (simp; done) | (simp; omega) | omega)))) b1⟩
end Go.Proofs.Ytbbafdcmgobkeaa
