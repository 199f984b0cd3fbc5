/-
  The busiest span of a record, in the program and in the reference: both compute 'busiest'.
  Conditions: none beyond each statement's own premises.
-/
import Derived.Test.YtpjgjfdbffideaaA3p
namespace Go.Proofs.Ytpjgjfdbffideaa
set_option linter.unusedSimpArgs false
set_option linter.unusedVariables false
open Go.RowKit
theorem span_yes {n : Nat} {L : Nat → Lk} {span : Int} {k : Nat} (h : (spanSt n L span k).2 < spanSum L span (L k).minute n) : spanSt n L span (k + 1) = ((L k).minute, spanSum L span (L k).minute n) := by
  rw [spanSt, if_pos h]
theorem span_no {n : Nat} {L : Nat → Lk} {span : Int} {k : Nat} (h : spanSum L span (L k).minute n ≤ (spanSt n L span k).2) : spanSt n L span (k + 1) = spanSt n L span k := by
  rw [spanSt, if_neg (by omega)]
theorem sum_yes {L : Nat → Lk} {span m : Int} {k : Nat} (h : inB ((L k).minute - m) 0 (span - 1) = true) : spanSum L span m (k + 1) = spanSum L span m k + (L k).vessels := by
  rw [spanSum, if_pos (inB_iff.1 h)]
theorem sum_no {L : Nat → Lk} {span m : Int} {k : Nat} (h : ¬ inB ((L k).minute - m) 0 (span - 1) = true) : spanSum L span m (k + 1) = spanSum L span m k := by
  rw [spanSum, if_neg (fun x => h (inB_iff.2 x))]
set_option maxHeartbeats 1600000 in
theorem busiestSpan_any (A : Option Addr) (n c : Nat) (L : Nat → Lk) (span : Int) (w : World) (hn : n ≤ 1048576) (hL : RdLk w A n L) :
    Calls Try.prog 22 #[.slice A n c, .int .i64 span] w (Post (.tuple #[.int .i64 (busiest n L span).1, .int .i64 (busiest n L span).2.1, .bool (busiest n L span).2.2]) w) := by
  by_cases hv : recList n L = true ∧ (n == 0) = false ∧ inB span 1 9999 = true
  · obtain ⟨v1, v2, v3⟩ := hv
    have hfin : busiest n L span = ((spanSt n L span n).1, (spanSt n L span n).2, true) := by rw [busiest, if_pos ⟨v1, v2, v3⟩]
    have HF := Lib.hid hfin
    have HB := Lib.hid (spanSt_bd v1 span)
    have HS := Lib.hid (fun m => spanSum_bd v1 span m)
    have HM := Lib.hid (fun k (hk : k < n) => rec_minute v1 hk)
    have HV := Lib.hid (fun k (hk : k < n) => rec_vessels v1 hk)
    have hlen := rec_len v1
    have hsp := inB_iff.1 v3
    have hn0 : 0 < n := by
      rcases Nat.eq_zero_or_pos n with h | h
      · rw [h] at v2; cases v2
      · exact h
    have v2' : ((n : Int) == 0) = false := by rw [beq_eq_false_iff_ne]; omega
    clear hfin v2
    go_enter Try.func22, Try.ntmps22
    go_wp2_with (first | (go_at_call 19; refine (isRecordList_any A n c L _ hn hL).mono ?_; intro e w' hp; obtain ⟨rfl, m, rfl⟩ := hp.get; clear hp) | (go_at_call 47; refine (inside_any _ _ _ _).mono ?_; rintro e w' ⟨rfl, rfl⟩))
    clear v1 v2' v3
    go_loopw [7, 8, 29] (fun a b j wr => ∃ k : Nat, k ≤ n ∧ j = .int .i64 k ∧ a = .int .i64 (spanSt n L span k).1 ∧ b = .int .i64 (spanSt n L span k).2 ∧ Below w.heap.size w wr)
      (fun _ _ j _ => n - (intOf j).toNat)
    case atStart => exact ⟨0, Nat.zero_le _, rfl, rfl, rfl, (by repeat (first | with_reducible exact Below.refl _ _ | with_reducible assumption | with_reducible refine below_alloc ?_ _ | with_reducible refine below_more ?_ _ | (with_reducible refine below_set ?_ ?_ _; rotate_left; first | with_reducible exact Nat.le_refl _ | with_reducible assumption | (simp; done) | omega)))⟩
    case round =>
      obtain ⟨k, hk, rfl, rfl, rfl, hb⟩ := hrel
      obtain ⟨wo, rfl⟩ : ∃ wo : World, wo = wr := ⟨_, rfl⟩
      have hsz := hb.size
      obtain ⟨g1, g2, g3, g4⟩ := HB.out k hk
      by_cases hlt : k < n
      · obtain ⟨b, off, rfl, hbl, c0, c1, c2, c3, c4⟩ := hL k hlt
        obtain ⟨hc, hf⟩ := bcell hb
        obtain ⟨m1, m2⟩ := HM.out k hlt
        have HBO := Lib.hid hb
        clear hb
        go_wp2_with fail
        clear hc hf c0 c2 c3 c4
        go_loopw [11, 35] (fun s j wi => ∃ i : Nat, i ≤ n ∧ j = .int .i64 i ∧ s = .int .i64 (spanSum L span (L k).minute i) ∧ Below w.heap.size w wi ∧ wo.heap.size < wi.heap.size ∧ wi.cell? ⟨wo.heap.size, 1, none⟩ = some (.int .i64 (L k).minute))
          (fun _ j _ => n - (intOf j).toNat)
        case atStart => exact ⟨0, Nat.zero_le _, rfl, rfl, below_alloc HBO.out _, by simp, by simp [go_sem]⟩
        case round =>
          obtain ⟨i, hi, rfl, rfl, hb2, hlt2, hcm⟩ := hrel
          have hsz2 := hb2.size
          obtain ⟨s1, s2⟩ := HS.out (L k).minute i hi
          by_cases hil : i < n
          · obtain ⟨b', off', e, hbl', d0, d1, d2, d3, d4⟩ := hL i hil
            cases e
            obtain ⟨hc, hf⟩ := bcell hb2
            obtain ⟨p1, p2⟩ := HM.out i hil
            obtain ⟨q1, q2⟩ := HV.out i hil
            go_wp2_with (go_at_call 47; refine (inside_any _ _ _ _).mono ?_; rintro e w' ⟨rfl, rfl⟩)
            all_goals (go_roundw; (case rel => first
              | exact ⟨i + 1, by omega, by go_num, by rw [sum_yes ‹_›], (by repeat (first | with_reducible exact Below.refl _ _ | with_reducible assumption | with_reducible refine below_alloc ?_ _ | with_reducible refine below_more ?_ _ | (with_reducible refine below_set ?_ ?_ _; rotate_left; first | with_reducible exact Nat.le_refl _ | with_reducible assumption | (simp; done) | omega))), (by first | omega | (simp only [World.size_alloc, mw_size] at *; omega) | (simp; done) | (simp [mw_size]; omega)), by simp [go_sem, *]⟩
              | exact ⟨i + 1, by omega, by go_num, by rw [sum_no (by simp_all)], (by repeat (first | with_reducible exact Below.refl _ _ | with_reducible assumption | with_reducible refine below_alloc ?_ _ | with_reducible refine below_more ?_ _ | (with_reducible refine below_set ?_ ?_ _; rotate_left; first | with_reducible exact Nat.le_refl _ | with_reducible assumption | (simp; done) | omega))), (by first | omega | (simp only [World.size_alloc, mw_size] at *; omega) | (simp; done) | (simp [mw_size]; omega)), by simp [go_sem, *]⟩); (case measure => simp [intOf]; omega))
          · obtain rfl : i = n := by omega
            have hb3 := hb2
            go_wp2_with fail
            all_goals (go_roundw; (case rel => first
              | exact ⟨k + 1, by omega, by go_num, by rw [span_yes ‹_›], by rw [span_yes ‹_›], hb3⟩
              | exact ⟨k + 1, by omega, by go_num, by rw [span_no ‹_›], by rw [span_no ‹_›], hb3⟩); (case measure => simp [intOf]; omega))
      · obtain rfl : k = n := by omega
        go_wp2_with fail
        go_ret3
        exact ⟨by rw [HF.out]; rfl, hb⟩
  · have hfin : busiest n L span = (0, 0, false) := by rw [busiest, if_neg hv]
    have HF := Lib.hid hfin
    clear hfin
    have e0 : ((n : Int) == 0) = (n == 0) := by rw [Bool.eq_iff_iff]; simp
    go_enter Try.func22, Try.ntmps22
    go_wp2_with (first | (go_at_call 19; refine (isRecordList_any A n c L _ hn hL).mono ?_; intro e w' hp; obtain ⟨rfl, m, rfl⟩ := hp.get; clear hp) | (go_at_call 47; refine (inside_any _ _ _ _).mono ?_; rintro e w' ⟨rfl, rfl⟩))
    all_goals first
      | (go_ret3; exact ⟨by rw [HF.out]; rfl, (by repeat (first | with_reducible exact Below.refl _ _ | with_reducible assumption | with_reducible refine below_alloc ?_ _ | with_reducible refine below_more ?_ _ | (with_reducible refine below_set ?_ ?_ _; rotate_left; first | with_reducible exact Nat.le_refl _ | with_reducible assumption | (simp; done) | omega)))⟩)
      | (exfalso; simp_all; done)
set_option maxHeartbeats 1600000 in
theorem specBusiestSpan_any (A : Option Addr) (n c : Nat) (L : Nat → Lk) (span : Int) (w : World) (hn : n ≤ 1048576) (hL : RdLk w A n L) :
    Calls Try.prog 21 #[.slice A n c, .int .i64 span] w (Post (.tuple #[.int .i64 (busiest n L span).1, .int .i64 (busiest n L span).2.1, .bool (busiest n L span).2.2]) w) := by
  by_cases hv : recList n L = true ∧ (n == 0) = false ∧ inB span 1 9999 = true
  · obtain ⟨v1, v2, v3⟩ := hv
    have hfin : busiest n L span = ((spanSt n L span n).1, (spanSt n L span n).2, true) := by rw [busiest, if_pos ⟨v1, v2, v3⟩]
    have HF := Lib.hid hfin
    have HB := Lib.hid (spanSt_bd v1 span)
    have HS := Lib.hid (fun m => spanSum_bd v1 span m)
    have HM := Lib.hid (fun k (hk : k < n) => rec_minute v1 hk)
    have HV := Lib.hid (fun k (hk : k < n) => rec_vessels v1 hk)
    have hlen := rec_len v1
    have hsp := inB_iff.1 v3
    have hn0 : 0 < n := by
      rcases Nat.eq_zero_or_pos n with h | h
      · rw [h] at v2; cases v2
      · exact h
    have v2' : ((n : Int) == 0) = false := by rw [beq_eq_false_iff_ne]; omega
    clear hfin v2
    go_enter Try.func21, Try.ntmps21
    go_wp2_with (first | (go_at_call 48; refine (l26Good_any A n c L _ hn hL).mono ?_; intro e w' hp; obtain ⟨rfl, m, rfl⟩ := hp.get; clear hp) | (go_at_call 50; refine (l1In_any _ _ _ _).mono ?_; rintro e w' ⟨rfl, rfl⟩))
    have HP := Lib.hid (preSum_bd v1)
    have HN := Lib.hid (fun a b (hab : a ≤ b) (hb : b ≤ n) => preSum_mono v1 b hab hb)
    have HT := Lib.hid (fun i j hi hij hj ht he => spanSt_step (span := span) (i := i) (j := j) v1 hi hij hj ht he)
    clear v1 v2' v3
    go_loopw [7, 8, 9] (fun a b j wr => ∃ k : Nat, k ≤ n ∧ j = .int .i64 k ∧ a = .int .i64 (spanSt n L span k).1 ∧ b = .int .i64 (spanSt n L span k).2 ∧ Below w.heap.size w wr)
      (fun _ _ j _ => n - (intOf j).toNat)
    case atStart => exact ⟨0, Nat.zero_le _, rfl, rfl, rfl, (by repeat (first | with_reducible exact Below.refl _ _ | with_reducible assumption | with_reducible refine below_alloc ?_ _ | with_reducible refine below_more ?_ _ | (with_reducible refine below_set ?_ ?_ _; rotate_left; first | with_reducible exact Nat.le_refl _ | with_reducible assumption | (simp; done) | omega)))⟩
    case round =>
      obtain ⟨k, hk, rfl, rfl, rfl, hb⟩ := hrel
      obtain ⟨wo, rfl⟩ : ∃ wo : World, wo = wr := ⟨_, rfl⟩
      have hsz := hb.size
      obtain ⟨g1, g2, g3, g4⟩ := HB.out k hk
      by_cases hlt : k < n
      · obtain ⟨b, off, rfl, hbl, c0, c1, c2, c3, c4⟩ := hL k hlt
        obtain ⟨m1, m2⟩ := HM.out k hlt
        have HBO := Lib.hid hb
        clear hb
        go_wp2_with fail
        go_loopw [10, 11] (fun s j wi => ∃ i : Nat, k ≤ i ∧ i ≤ n ∧ j = .int .i64 i ∧ s = .int .i64 (preSum L i - preSum L k) ∧ Hid (∀ t, k ≤ t → t < i → (L t).minute < (L k).minute + span) ∧ Below w.heap.size w wi)
          (fun _ j _ => n - (intOf j).toNat)
        case atStart => exact ⟨k, Nat.le_refl _, hk, rfl, by rw [Int.sub_self], fun t h1 h2 => absurd h1 (by omega), HBO.out⟩
        case round =>
          obtain ⟨i, hki, hi, rfl, rfl, HI, hb2⟩ := hrel
          have hsz2 := hb2.size
          obtain ⟨s1, s2⟩ := HP.out i hi
          obtain ⟨s3, s4⟩ := HP.out k hk
          have s5 := HN.out k i hki hi
          by_cases hil : i < n
          · obtain ⟨b', off', e, hbl', d0, d1, d2, d3, d4⟩ := hL i hil
            cases e
            obtain ⟨hc, hf⟩ := bcell hb2
            obtain ⟨p1, p2⟩ := HM.out i hil
            obtain ⟨q1, q2⟩ := HV.out i hil
            have hb1 : b < wr.heap.size := by omega
            by_cases hin : (L i).minute < (L k).minute + span
            · go_wp2_with fail
              (refine wp_region_more (by kernel_rfl) (by kernel_rfl) ?_
               repeat (any_goals (first | go_big_quiet_step ((fail)) | quiet_step ((fail)) | (refine wpQuiet_step (fun K hK => ?_); go_simp; split <;> (refine hK _ ?_; clear hK K))))
               all_goals (refine wpQuiet_nil ?_; intro _ hw'; obtain ⟨nq, hw''⟩ := hw'; subst hw''))
              all_goals go_wp2_with fail
              have HI2 : Hid (∀ t, k ≤ t → t < i + 1 → (L t).minute < (L k).minute + span) := fun t h1 h2 => by
                rcases Nat.lt_or_ge t i with h | h
                · exact HI.out t h1 h
                · obtain rfl : t = i := by omega
                  exact hin
              go_roundw
              case rel => exact ⟨i + 1, by omega, by omega, by go_num, by rw [preSum]; go_num, HI2, (by repeat (first | with_reducible exact Below.refl _ _ | with_reducible assumption | with_reducible refine below_alloc ?_ _ | with_reducible refine below_more ?_ _ | (with_reducible refine below_set ?_ ?_ _; rotate_left; first | with_reducible exact Nat.le_refl _ | with_reducible assumption | (simp; done) | omega)))⟩
              case measure => simp [intOf]; omega
            · have hst := HT.out k i hlt hki hi HI.out (.inr (by omega))
              have HS2 := Lib.hid hst
              clear hst
              go_wp2_with fail
              (refine wp_region_more (by kernel_rfl) (by kernel_rfl) ?_
               repeat (any_goals (first | go_big_quiet_step ((fail)) | quiet_step ((fail)) | (refine wpQuiet_step (fun K hK => ?_); go_simp; split <;> (refine hK _ ?_; clear hK K))))
               all_goals (refine wpQuiet_nil ?_; intro _ hw'; obtain ⟨nq, hw''⟩ := hw'; subst hw''))
              all_goals go_wp2_with fail
              all_goals (go_roundw; (case rel => first
                | exact ⟨k + 1, by omega, by go_num, by rw [HS2.out, if_pos ‹_›], by rw [HS2.out, if_pos ‹_›], (by repeat (first | with_reducible exact Below.refl _ _ | with_reducible assumption | with_reducible refine below_alloc ?_ _ | with_reducible refine below_more ?_ _ | (with_reducible refine below_set ?_ ?_ _; rotate_left; first | with_reducible exact Nat.le_refl _ | with_reducible assumption | (simp; done) | omega)))⟩
                | exact ⟨k + 1, by omega, by go_num, by rw [HS2.out, if_neg (by omega)], by rw [HS2.out, if_neg (by omega)], (by repeat (first | with_reducible exact Below.refl _ _ | with_reducible assumption | with_reducible refine below_alloc ?_ _ | with_reducible refine below_more ?_ _ | (with_reducible refine below_set ?_ ?_ _; rotate_left; first | with_reducible exact Nat.le_refl _ | with_reducible assumption | (simp; done) | omega)))⟩); (case measure => simp [intOf]; omega))
          · obtain ⟨hc, hf⟩ := bcell hb2
            have hb1 : b < wr.heap.size := by omega
            obtain rfl : i = n := by omega
            have hst := HT.out k i hlt hki hi HI.out (.inl rfl)
            have HS2 := Lib.hid hst
            clear hst
            go_wp2_with fail
            (refine wp_region_more (by kernel_rfl) (by kernel_rfl) ?_
             repeat (any_goals (first | go_big_quiet_step ((fail)) | quiet_step ((fail)) | (refine wpQuiet_step (fun K hK => ?_); go_simp; split <;> (refine hK _ ?_; clear hK K))))
             all_goals (refine wpQuiet_nil ?_; intro _ hw'; obtain ⟨nq, hw''⟩ := hw'; subst hw''))
            all_goals go_wp2_with fail
            all_goals (go_roundw; (case rel => first
              | exact ⟨k + 1, by omega, by go_num, by rw [HS2.out, if_pos ‹_›], by rw [HS2.out, if_pos ‹_›], (by repeat (first | with_reducible exact Below.refl _ _ | with_reducible assumption | with_reducible refine below_alloc ?_ _ | with_reducible refine below_more ?_ _ | (with_reducible refine below_set ?_ ?_ _; rotate_left; first | with_reducible exact Nat.le_refl _ | with_reducible assumption | (simp; done) | omega)))⟩
              | exact ⟨k + 1, by omega, by go_num, by rw [HS2.out, if_neg (by omega)], by rw [HS2.out, if_neg (by omega)], (by repeat (first | with_reducible exact Below.refl _ _ | with_reducible assumption | with_reducible refine below_alloc ?_ _ | with_reducible refine below_more ?_ _ | (with_reducible refine below_set ?_ ?_ _; rotate_left; first | with_reducible exact Nat.le_refl _ | with_reducible assumption | (simp; done) | omega)))⟩); (case measure => simp [intOf]; omega))
      · obtain rfl : k = n := by omega
        go_wp2_with fail
        go_ret3
        exact ⟨by rw [HF.out]; rfl, hb⟩
  · have hfin : busiest n L span = (0, 0, false) := by rw [busiest, if_neg hv]
    have HF := Lib.hid hfin
    clear hfin
    have e0 : ((n : Int) == 0) = (n == 0) := by rw [Bool.eq_iff_iff]; simp
    go_enter Try.func21, Try.ntmps21
    go_wp2_with (first | (go_at_call 48; refine (l26Good_any A n c L _ hn hL).mono ?_; intro e w' hp; obtain ⟨rfl, m, rfl⟩ := hp.get; clear hp) | (go_at_call 50; refine (l1In_any _ _ _ _).mono ?_; rintro e w' ⟨rfl, rfl⟩))
    all_goals first
      | (go_ret3; exact ⟨by rw [HF.out]; rfl, (by repeat (first | with_reducible exact Below.refl _ _ | with_reducible assumption | with_reducible refine below_alloc ?_ _ | with_reducible refine below_more ?_ _ | (with_reducible refine below_set ?_ ?_ _; rotate_left; first | with_reducible exact Nat.le_refl _ | with_reducible assumption | (simp; done) | omega)))⟩)
      | (exfalso; simp_all; done)
end Go.Proofs.Ytpjgjfdbffideaa
