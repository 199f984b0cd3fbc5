/-
  ChangedLocks, in the program and in the reference.
  Conditions: none beyond each statement's own premises.
-/
import Derived.Test.YtbbafdcmgobkeaaC2
namespace Go.Proofs.Ytbbafdcmgobkeaa
set_option linter.unusedSimpArgs false
set_option linter.unusedVariables false
open Go.RowKit
/-- How many of the first k locks differ. -/
def difs (f g : Nat → Int) : Nat → Int
  | 0 => 0
  | k + 1 => difs f g k + if f k = g k then 0 else 1
theorem difs_bd (f g : Nat → Int) : ∀ k, 0 ≤ difs f g k ∧ difs f g k ≤ k
  | 0 => by simp [difs]
  | k + 1 => by
    have := difs_bd f g k
    simp only [difs]
    split <;> omega
def chgOk (a b : Du) : Bool := a.ok && b.ok && (a.ce == b.ce) && decide (a.m = b.m)
def chgW (a b : Du) : Int × Bool := if chgOk a b = true then (difs a.lk b.lk a.m, true) else (0, false)
set_option maxHeartbeats 1600000 in
theorem changedLocks_any (A1 A2 : Option Addr) (c1 c2 : Nat) (a : Du) (B1 B2 : Option Addr) (e1 e2 : Nat) (b : Du) (w : World) (hn1 : a.n ≤ 1048576) (hn2 : a.m ≤ 1048576) (hm1 : b.n ≤ 1048576) (hm2 : b.m ≤ 1048576) (h : IsDu w A1 A2 a) (h' : IsDu w B1 B2 b) :
    Calls Try.prog 21 #[.agg #[.int .i64 a.ce, .slice A1 a.n c1, .slice A2 a.m c2], .agg #[.int .i64 b.ce, .slice B1 b.n e1, .slice B2 b.m e2]] w (Post (.tuple #[.int .i64 (chgW a b).1, .bool (chgW a b).2]) w) := by
  obtain ⟨x, ex⟩ : ∃ x, a.ok = x := ⟨_, rfl⟩
  obtain ⟨y, ey⟩ : ∃ y, b.ok = y := ⟨_, rfl⟩
  by_cases v : chgOk a b = true
  · have HF := Lib.hid (show chgW a b = (difs a.lk b.lk a.m, true) from by rw [chgW, if_pos v])
    simp only [chgOk, Bool.and_eq_true, beq_iff_eq, decide_eq_true_eq] at v
    obtain ⟨⟨⟨va, vb⟩, hce⟩, hm⟩ := v
    obtain ⟨f1, f2, f3, f4, f5, _⟩ := Du.ok_facts va
    obtain ⟨g1, g2, g3, g4, g5, _⟩ := Du.ok_facts vb
    have VA := Lib.hid va
    have VB := Lib.hid vb
    have HCE := Lib.hid hce
    have HMM := Lib.hid hm
    have Hf5 : a.m ≤ 10 := by omega
    clear va vb ex ey hce hm f1 f2 f3 f4 f5 g1 g2 g3 g4
    go_enter Try.func21, Try.ntmps21
    go_wp2_with fail
    generalize hu : (w.alloc (.cells #[.int .i64 a.ce, .slice A1 a.n c1, .slice A2 a.m c2] 28)) = u1
    have bu1 : Below w.heap.size w u1 := by rw [← hu]; exact (by repeat (first | with_reducible exact Below.refl _ _ | with_reducible assumption | with_reducible refine below_alloc ?_ _ | with_reducible refine below_more ?_ _ | (with_reducible refine below_set ?_ ?_ _; rotate_left; focus (first | with_reducible exact Nat.le_refl _ | with_reducible assumption | (simp; done) | (simp; omega) | omega))))
    have Bu1 : Blk u1 w.heap.size 28 #[.int .i64 a.ce, .slice A1 a.n c1, .slice A2 a.m c2] := by rw [← hu]; exact Blk.new _ _ _
    have eu1 : u1.heap.size = w.heap.size + 1 := by rw [← hu]; simp
    clear hu
    have qu1 := fun o => Bu1.cell o
    have lu1 := Bu1.lt
    have su1 := bu1.size
    generalize hu : (u1.alloc (.cells #[.int .i64 b.ce, .slice B1 b.n e1, .slice B2 b.m e2] 28)) = u2
    have bu2 : Below u1.heap.size u1 u2 := by rw [← hu]; exact (by repeat (first | with_reducible exact Below.refl _ _ | with_reducible assumption | with_reducible refine below_alloc ?_ _ | with_reducible refine below_more ?_ _ | (with_reducible refine below_set ?_ ?_ _; rotate_left; focus (first | with_reducible exact Nat.le_refl _ | with_reducible assumption | (simp; done) | (simp; omega) | omega))))
    have Bu2 : Blk u2 u1.heap.size 28 #[.int .i64 b.ce, .slice B1 b.n e1, .slice B2 b.m e2] := by rw [← hu]; exact Blk.new _ _ _
    have eu2 : u2.heap.size = u1.heap.size + 1 := by rw [← hu]; simp
    clear hu
    have qu2 := fun o => Bu2.cell o
    have lu2 := Bu2.lt
    have su2 := bu2.size
    rw [eu1] at Bu2
    clear qu2 eu1 eu2
    have qu2 := fun o => Bu2.cell o
    replace h := (h.below bu1).below bu2
    replace h' := (h'.below bu1).below bu2
    replace Bu1 := Bu1.below bu2
    clear qu1
    have qu1 := fun o => Bu1.cell o
    have C : Below w.heap.size w u2 := below_tr bu1 bu2
    go_wp2_with fail
    refine (isValidDuty_any A1 A2 c1 c2 a _ hn1 hn2 h).mono ?_
    rw [VA.out]
    rintro e w1 ⟨rfl, b1⟩
    replace h := h.below b1
    replace h' := h'.below b1
    replace Bu1 := Bu1.below b1
    replace Bu2 := Bu2.below b1
    clear qu1 qu2
    have qu1 := fun o => Bu1.cell o
    have qu2 := fun o => Bu2.cell o
    replace C := below_tr C b1
    go_wp2_with fail
    refine (isValidDuty_any B1 B2 e1 e2 b _ hm1 hm2 h').mono ?_
    rw [VB.out]
    rintro e w2 ⟨rfl, b2⟩
    replace h := h.below b2
    replace h' := h'.below b2
    replace Bu1 := Bu1.below b2
    replace Bu2 := Bu2.below b2
    clear qu1 qu2
    have qu1 := fun o => Bu1.cell o
    have qu2 := fun o => Bu2.cell o
    have k1 := Bu1.lt
    have k2 := Bu2.lt
    replace C := below_tr C b2
    have s1 := C.size
    have HI := Lib.hid h.2
    have HJ := Lib.hid h'.2
    clear h h' b1 b2 Bu1 Bu2 bu1 bu2
    have hce := HCE.out
    have hm := HMM.out
    go_wp2_with fail
    go_loopw [6, 36] (fun c i wr => ∃ k : Nat, k ≤ b.m ∧ i = .int .i64 k ∧ c = .int .i64 (difs a.lk b.lk k) ∧ Below w2.heap.size w2 wr) (fun _ i _ => b.m - (intOf i).toNat)
    case atStart => exact ⟨0, Nat.zero_le _, rfl, rfl, Below.refl _ _⟩
    case round =>
      obtain ⟨k, hk, rfl, rfl, hb⟩ := hrel
      have hsz := hb.size
      have hd := difs_bd a.lk b.lk k
      obtain ⟨hc, hf⟩ := bcell hb
      have h3 : w.heap.size < wr.heap.size := by omega
      have h4 : w.heap.size + 1 < wr.heap.size := by omega
      by_cases hlt : k < b.m
      · obtain ⟨p, off, rfl, hbl, c0⟩ := HI.out k (by omega)
        obtain ⟨p', off', rfl, hbl', c0'⟩ := HJ.out k hlt
        have h1 : p < wr.heap.size := by omega
        have h2 : p' < wr.heap.size := by omega
        by_cases hq : a.lk k = b.lk k
        · have HS := Lib.hid (show difs a.lk b.lk (k + 1) = difs a.lk b.lk k from by rw [difs, if_pos hq, Int.add_zero])
          rw [hq] at c0
          clear hq
          go_wp2_with fail
          go_roundw
          case rel => exact ⟨k + 1, by omega, by go_num, by rw [HS.out], (by repeat (first | with_reducible exact Below.refl _ _ | with_reducible assumption | with_reducible refine below_alloc ?_ _ | with_reducible refine below_more ?_ _ | (with_reducible refine below_set ?_ ?_ _; rotate_left; focus (first | with_reducible exact Nat.le_refl _ | with_reducible assumption | (simp; done) | (simp; omega) | omega))))⟩
          case measure => simp [intOf]; omega
        · have HS := Lib.hid (show difs a.lk b.lk (k + 1) = difs a.lk b.lk k + 1 from by rw [difs, if_neg hq])
          have hq2 : ¬ b.lk k = a.lk k := fun x => hq x.symm
          go_wp2_with fail
          go_roundw
          case rel => exact ⟨k + 1, by omega, by go_num, by rw [HS.out], (by repeat (first | with_reducible exact Below.refl _ _ | with_reducible assumption | with_reducible refine below_alloc ?_ _ | with_reducible refine below_more ?_ _ | (with_reducible refine below_set ?_ ?_ _; rotate_left; focus (first | with_reducible exact Nat.le_refl _ | with_reducible assumption | (simp; done) | (simp; omega) | omega))))⟩
          case measure => simp [intOf]; omega
      · obtain rfl : k = b.m := by omega
        go_wp2_with fail
        go_ret2
        exact ⟨by rw [HF.out, hm]; rfl, below_tr C hb⟩
  · have HF := Lib.hid (show chgW a b = (0, false) from by rw [chgW, if_neg v])
    have HV := Lib.hid v
    clear v
    have EX := Lib.hid ex
    have EY := Lib.hid ey
    clear ex ey
    go_enter Try.func21, Try.ntmps21
    go_wp2_with fail
    generalize hu : (w.alloc (.cells #[.int .i64 a.ce, .slice A1 a.n c1, .slice A2 a.m c2] 28)) = u1
    have bu1 : Below w.heap.size w u1 := by rw [← hu]; exact (by repeat (first | with_reducible exact Below.refl _ _ | with_reducible assumption | with_reducible refine below_alloc ?_ _ | with_reducible refine below_more ?_ _ | (with_reducible refine below_set ?_ ?_ _; rotate_left; focus (first | with_reducible exact Nat.le_refl _ | with_reducible assumption | (simp; done) | (simp; omega) | omega))))
    have Bu1 : Blk u1 w.heap.size 28 #[.int .i64 a.ce, .slice A1 a.n c1, .slice A2 a.m c2] := by rw [← hu]; exact Blk.new _ _ _
    have eu1 : u1.heap.size = w.heap.size + 1 := by rw [← hu]; simp
    clear hu
    have qu1 := fun o => Bu1.cell o
    have lu1 := Bu1.lt
    have su1 := bu1.size
    generalize hu : (u1.alloc (.cells #[.int .i64 b.ce, .slice B1 b.n e1, .slice B2 b.m e2] 28)) = u2
    have bu2 : Below u1.heap.size u1 u2 := by rw [← hu]; exact (by repeat (first | with_reducible exact Below.refl _ _ | with_reducible assumption | with_reducible refine below_alloc ?_ _ | with_reducible refine below_more ?_ _ | (with_reducible refine below_set ?_ ?_ _; rotate_left; focus (first | with_reducible exact Nat.le_refl _ | with_reducible assumption | (simp; done) | (simp; omega) | omega))))
    have Bu2 : Blk u2 u1.heap.size 28 #[.int .i64 b.ce, .slice B1 b.n e1, .slice B2 b.m e2] := by rw [← hu]; exact Blk.new _ _ _
    have eu2 : u2.heap.size = u1.heap.size + 1 := by rw [← hu]; simp
    clear hu
    have qu2 := fun o => Bu2.cell o
    have lu2 := Bu2.lt
    have su2 := bu2.size
    rw [eu1] at Bu2
    clear qu2 eu1 eu2
    have qu2 := fun o => Bu2.cell o
    replace h := (h.below bu1).below bu2
    replace h' := (h'.below bu1).below bu2
    replace Bu1 := Bu1.below bu2
    clear qu1
    have qu1 := fun o => Bu1.cell o
    have C : Below w.heap.size w u2 := below_tr bu1 bu2
    go_wp2_with fail
    refine (isValidDuty_any A1 A2 c1 c2 a _ hn1 hn2 h).mono ?_
    rw [EX.out]
    rintro e w1 ⟨rfl, b1⟩
    replace h' := h'.below b1
    replace Bu1 := Bu1.below b1
    replace Bu2 := Bu2.below b1
    clear qu1 qu2
    have qu1 := fun o => Bu1.cell o
    have qu2 := fun o => Bu2.cell o
    replace C := below_tr C b1
    cases x with
    | false =>
      go_wp2_with fail
      go_ret2
      exact ⟨by rw [HF.out]; rfl, C⟩
    | true =>
      go_wp2_with fail
      refine (isValidDuty_any B1 B2 e1 e2 b _ hm1 hm2 h').mono ?_
      rw [EY.out]
      rintro e w2 ⟨rfl, b2⟩
      replace Bu1 := Bu1.below b2
      replace Bu2 := Bu2.below b2
      clear qu1 qu2
      have qu1 := fun o => Bu1.cell o
      have qu2 := fun o => Bu2.cell o
      replace C := below_tr C b2
      cases y with
      | false =>
        go_wp2_with fail
        go_ret2
        exact ⟨by rw [HF.out]; rfl, C⟩
      | true =>
        by_cases hce : a.ce = b.ce
        · have hm : ¬ ((a.m : Int) = b.m) := fun x => HV.out (by simp [chgOk, EX.out, EY.out, hce]; omega)
          have hm2 : ¬ (a.m = b.m) := fun x => hm (by rw [x])
          go_wp2_with fail
          go_ret2
          exact ⟨by rw [HF.out]; rfl, C⟩
        · go_wp2_with fail
          go_ret2
          exact ⟨by rw [HF.out]; rfl, C⟩
set_option maxHeartbeats 1600000 in
theorem specChangedLocks_any (A1 A2 : Option Addr) (c1 c2 : Nat) (a : Du) (B1 B2 : Option Addr) (e1 e2 : Nat) (b : Du) (w : World) (hn1 : a.n ≤ 1048576) (hn2 : a.m ≤ 1048576) (hm1 : b.n ≤ 1048576) (hm2 : b.m ≤ 1048576) (h : IsDu w A1 A2 a) (h' : IsDu w B1 B2 b) :
    Calls Try.prog 20 #[.agg #[.int .i64 a.ce, .slice A1 a.n c1, .slice A2 a.m c2], .agg #[.int .i64 b.ce, .slice B1 b.n e1, .slice B2 b.m e2]] w (Post (.tuple #[.int .i64 (chgW a b).1, .bool (chgW a b).2]) w) := by
  obtain ⟨x, ex⟩ : ∃ x, a.ok = x := ⟨_, rfl⟩
  obtain ⟨y, ey⟩ : ∃ y, b.ok = y := ⟨_, rfl⟩
  by_cases v : chgOk a b = true
  · have HF := Lib.hid (show chgW a b = (difs a.lk b.lk a.m, true) from by rw [chgW, if_pos v])
    simp only [chgOk, Bool.and_eq_true, beq_iff_eq, decide_eq_true_eq] at v
    obtain ⟨⟨⟨va, vb⟩, hce⟩, hm⟩ := v
    obtain ⟨f1, f2, f3, f4, f5, _⟩ := Du.ok_facts va
    obtain ⟨g1, g2, g3, g4, g5, _⟩ := Du.ok_facts vb
    have VA := Lib.hid va
    have VB := Lib.hid vb
    have HCE := Lib.hid hce
    have HMM := Lib.hid hm
    have Hf5 : a.m ≤ 10 := by omega
    clear va vb ex ey hce hm f1 f2 f3 f4 f5 g1 g2 g3 g4
    go_enter Try.func20, Try.ntmps20
    go_wp2_with fail
    generalize hu : (w.alloc (.cells #[.int .i64 a.ce, .slice A1 a.n c1, .slice A2 a.m c2] 28)) = u1
    have bu1 : Below w.heap.size w u1 := by rw [← hu]; exact (by repeat (first | with_reducible exact Below.refl _ _ | with_reducible assumption | with_reducible refine below_alloc ?_ _ | with_reducible refine below_more ?_ _ | (with_reducible refine below_set ?_ ?_ _; rotate_left; focus (first | with_reducible exact Nat.le_refl _ | with_reducible assumption | (simp; done) | (simp; omega) | omega))))
    have Bu1 : Blk u1 w.heap.size 28 #[.int .i64 a.ce, .slice A1 a.n c1, .slice A2 a.m c2] := by rw [← hu]; exact Blk.new _ _ _
    have eu1 : u1.heap.size = w.heap.size + 1 := by rw [← hu]; simp
    clear hu
    have qu1 := fun o => Bu1.cell o
    have lu1 := Bu1.lt
    have su1 := bu1.size
    generalize hu : (u1.alloc (.cells #[.int .i64 b.ce, .slice B1 b.n e1, .slice B2 b.m e2] 28)) = u2
    have bu2 : Below u1.heap.size u1 u2 := by rw [← hu]; exact (by repeat (first | with_reducible exact Below.refl _ _ | with_reducible assumption | with_reducible refine below_alloc ?_ _ | with_reducible refine below_more ?_ _ | (with_reducible refine below_set ?_ ?_ _; rotate_left; focus (first | with_reducible exact Nat.le_refl _ | with_reducible assumption | (simp; done) | (simp; omega) | omega))))
    have Bu2 : Blk u2 u1.heap.size 28 #[.int .i64 b.ce, .slice B1 b.n e1, .slice B2 b.m e2] := by rw [← hu]; exact Blk.new _ _ _
    have eu2 : u2.heap.size = u1.heap.size + 1 := by rw [← hu]; simp
    clear hu
    have qu2 := fun o => Bu2.cell o
    have lu2 := Bu2.lt
    have su2 := bu2.size
    rw [eu1] at Bu2
    clear qu2 eu1 eu2
    have qu2 := fun o => Bu2.cell o
    replace h := (h.below bu1).below bu2
    replace h' := (h'.below bu1).below bu2
    replace Bu1 := Bu1.below bu2
    clear qu1
    have qu1 := fun o => Bu1.cell o
    have C : Below w.heap.size w u2 := below_tr bu1 bu2
    go_wp2_with fail
    refine (l25Good_any A1 A2 c1 c2 a _ hn1 hn2 h).mono ?_
    rw [VA.out]
    rintro e w1 ⟨rfl, b1⟩
    replace h := h.below b1
    replace h' := h'.below b1
    replace Bu1 := Bu1.below b1
    replace Bu2 := Bu2.below b1
    clear qu1 qu2
    have qu1 := fun o => Bu1.cell o
    have qu2 := fun o => Bu2.cell o
    replace C := below_tr C b1
    go_wp2_with fail
    refine (l25Good_any B1 B2 e1 e2 b _ hm1 hm2 h').mono ?_
    rw [VB.out]
    rintro e w2 ⟨rfl, b2⟩
    replace h := h.below b2
    replace h' := h'.below b2
    replace Bu1 := Bu1.below b2
    replace Bu2 := Bu2.below b2
    clear qu1 qu2
    have qu1 := fun o => Bu1.cell o
    have qu2 := fun o => Bu2.cell o
    have k1 := Bu1.lt
    have k2 := Bu2.lt
    replace C := below_tr C b2
    have s1 := C.size
    have HI := Lib.hid h.2
    have HJ := Lib.hid h'.2
    clear h h' b1 b2 Bu1 Bu2 bu1 bu2
    have hce := HCE.out
    have hm := HMM.out
    go_wp2_with fail
    go_loopw [6, 7] (fun c i wr => ∃ k : Nat, k ≤ b.m ∧ i = .int .i64 k ∧ c = .int .i64 (difs a.lk b.lk k) ∧ Below w2.heap.size w2 wr) (fun _ i _ => b.m - (intOf i).toNat)
    case atStart => exact ⟨0, Nat.zero_le _, rfl, rfl, Below.refl _ _⟩
    case round =>
      obtain ⟨k, hk, rfl, rfl, hb⟩ := hrel
      have hsz := hb.size
      have hd := difs_bd a.lk b.lk k
      obtain ⟨hc, hf⟩ := bcell hb
      have h3 : w.heap.size < wr.heap.size := by omega
      have h4 : w.heap.size + 1 < wr.heap.size := by omega
      by_cases hlt : k < b.m
      · obtain ⟨p, off, rfl, hbl, c0⟩ := HI.out k (by omega)
        obtain ⟨p', off', rfl, hbl', c0'⟩ := HJ.out k hlt
        have h1 : p < wr.heap.size := by omega
        have h2 : p' < wr.heap.size := by omega
        by_cases hq : a.lk k = b.lk k
        · have HS := Lib.hid (show difs a.lk b.lk (k + 1) = difs a.lk b.lk k from by rw [difs, if_pos hq, Int.add_zero])
          rw [hq] at c0
          clear hq
          go_wp2_with fail
          (refine wp_region_more (by kernel_rfl) (by kernel_rfl) ?_
           repeat (any_goals (first | go_big_quiet_step (fail) | quiet_step (fail) | (refine wpQuiet_step (fun K hK => ?_); go_simp; split <;> (refine hK _ ?_; clear hK K))))
           all_goals (refine wpQuiet_nil ?_; intro _ hw'; obtain ⟨nq, hw''⟩ := hw'; subst hw''))
          go_wp2_with fail
          go_roundw
          case rel => exact ⟨k + 1, by omega, by go_num, by rw [HS.out], (by repeat (first | with_reducible exact Below.refl _ _ | with_reducible assumption | with_reducible refine below_alloc ?_ _ | with_reducible refine below_more ?_ _ | (with_reducible refine below_set ?_ ?_ _; rotate_left; focus (first | with_reducible exact Nat.le_refl _ | with_reducible assumption | (simp; done) | (simp; omega) | omega))))⟩
          case measure => simp [intOf]; omega
        · have HS := Lib.hid (show difs a.lk b.lk (k + 1) = difs a.lk b.lk k + 1 from by rw [difs, if_neg hq])
          have hq2 : ¬ b.lk k = a.lk k := fun x => hq x.symm
          go_wp2_with fail
          (refine wp_region_more (by kernel_rfl) (by kernel_rfl) ?_
           repeat (any_goals (first | go_big_quiet_step (fail) | quiet_step (fail) | (refine wpQuiet_step (fun K hK => ?_); go_simp; split <;> (refine hK _ ?_; clear hK K))))
           all_goals (refine wpQuiet_nil ?_; intro _ hw'; obtain ⟨nq, hw''⟩ := hw'; subst hw''))
          go_wp2_with fail
          go_roundw
          case rel => exact ⟨k + 1, by omega, by go_num, by rw [HS.out], (by repeat (first | with_reducible exact Below.refl _ _ | with_reducible assumption | with_reducible refine below_alloc ?_ _ | with_reducible refine below_more ?_ _ | (with_reducible refine below_set ?_ ?_ _; rotate_left; focus (first | with_reducible exact Nat.le_refl _ | with_reducible assumption | (simp; done) | (simp; omega) | omega))))⟩
          case measure => simp [intOf]; omega
      · obtain rfl : k = b.m := by omega
        go_wp2_with fail
        go_ret2
        exact ⟨by rw [HF.out, hm]; rfl, below_tr C hb⟩
  · have HF := Lib.hid (show chgW a b = (0, false) from by rw [chgW, if_neg v])
    have HV := Lib.hid v
    clear v
    have EX := Lib.hid ex
    have EY := Lib.hid ey
    clear ex ey
    go_enter Try.func20, Try.ntmps20
    go_wp2_with fail
    generalize hu : (w.alloc (.cells #[.int .i64 a.ce, .slice A1 a.n c1, .slice A2 a.m c2] 28)) = u1
    have bu1 : Below w.heap.size w u1 := by rw [← hu]; exact (by repeat (first | with_reducible exact Below.refl _ _ | with_reducible assumption | with_reducible refine below_alloc ?_ _ | with_reducible refine below_more ?_ _ | (with_reducible refine below_set ?_ ?_ _; rotate_left; focus (first | with_reducible exact Nat.le_refl _ | with_reducible assumption | (simp; done) | (simp; omega) | omega))))
    have Bu1 : Blk u1 w.heap.size 28 #[.int .i64 a.ce, .slice A1 a.n c1, .slice A2 a.m c2] := by rw [← hu]; exact Blk.new _ _ _
    have eu1 : u1.heap.size = w.heap.size + 1 := by rw [← hu]; simp
    clear hu
    have qu1 := fun o => Bu1.cell o
    have lu1 := Bu1.lt
    have su1 := bu1.size
    generalize hu : (u1.alloc (.cells #[.int .i64 b.ce, .slice B1 b.n e1, .slice B2 b.m e2] 28)) = u2
    have bu2 : Below u1.heap.size u1 u2 := by rw [← hu]; exact (by repeat (first | with_reducible exact Below.refl _ _ | with_reducible assumption | with_reducible refine below_alloc ?_ _ | with_reducible refine below_more ?_ _ | (with_reducible refine below_set ?_ ?_ _; rotate_left; focus (first | with_reducible exact Nat.le_refl _ | with_reducible assumption | (simp; done) | (simp; omega) | omega))))
    have Bu2 : Blk u2 u1.heap.size 28 #[.int .i64 b.ce, .slice B1 b.n e1, .slice B2 b.m e2] := by rw [← hu]; exact Blk.new _ _ _
    have eu2 : u2.heap.size = u1.heap.size + 1 := by rw [← hu]; simp
    clear hu
    have qu2 := fun o => Bu2.cell o
    have lu2 := Bu2.lt
    have su2 := bu2.size
    rw [eu1] at Bu2
    clear qu2 eu1 eu2
    have qu2 := fun o => Bu2.cell o
    replace h := (h.below bu1).below bu2
    replace h' := (h'.below bu1).below bu2
    replace Bu1 := Bu1.below bu2
    clear qu1
    have qu1 := fun o => Bu1.cell o
    have C : Below w.heap.size w u2 := below_tr bu1 bu2
    go_wp2_with fail
    refine (l25Good_any A1 A2 c1 c2 a _ hn1 hn2 h).mono ?_
    rw [EX.out]
    rintro e w1 ⟨rfl, b1⟩
    replace h' := h'.below b1
    replace Bu1 := Bu1.below b1
    replace Bu2 := Bu2.below b1
    clear qu1 qu2
    have qu1 := fun o => Bu1.cell o
    have qu2 := fun o => Bu2.cell o
    replace C := below_tr C b1
    cases x with
    | false =>
      go_wp2_with fail
      go_ret2
      exact ⟨by rw [HF.out]; rfl, C⟩
    | true =>
      go_wp2_with fail
      refine (l25Good_any B1 B2 e1 e2 b _ hm1 hm2 h').mono ?_
      rw [EY.out]
      rintro e w2 ⟨rfl, b2⟩
      replace Bu1 := Bu1.below b2
      replace Bu2 := Bu2.below b2
      clear qu1 qu2
      have qu1 := fun o => Bu1.cell o
      have qu2 := fun o => Bu2.cell o
      replace C := below_tr C b2
      cases y with
      | false =>
        go_wp2_with fail
        go_ret2
        exact ⟨by rw [HF.out]; rfl, C⟩
      | true =>
        by_cases hce : a.ce = b.ce
        · have hm : ¬ ((a.m : Int) = b.m) := fun x => HV.out (by simp [chgOk, EX.out, EY.out, hce]; omega)
          have hm2 : ¬ (a.m = b.m) := fun x => hm (by rw [x])
          go_wp2_with fail
          go_ret2
          exact ⟨by rw [HF.out]; rfl, C⟩
        · go_wp2_with fail
          go_ret2
          exact ⟨by rw [HF.out]; rfl, C⟩
end Go.Proofs.Ytbbafdcmgobkeaa
