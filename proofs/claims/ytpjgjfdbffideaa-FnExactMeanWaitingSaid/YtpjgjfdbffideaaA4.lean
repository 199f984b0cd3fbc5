/-
  Greatest common divisors and fractions in lowest terms; the use of a chamber and the mean waiting time.
  Conditions: none beyond each statement's own premises.
-/
import Derived.Test.YtpjgjfdbffideaaA3p
namespace Go.Proofs.Ytpjgjfdbffideaa
set_option linter.unusedSimpArgs false
set_option linter.unusedVariables false
open Go.RowKit
def low1 (a b : Int) : Int := a / (Int.gcd a b : Int)
def low2 (a b : Int) : Int := b / (Int.gcd a b : Int)
theorem gcd_step (x y : Nat) : Nat.gcd y (x % y) = Nat.gcd x y := by rw [Nat.gcd_comm y (x % y), ← Nat.gcd_rec, Nat.gcd_comm]
theorem gcd_bd {a b : Int} (hb : 0 < b) : 0 < (Int.gcd a b : Int) ∧ (Int.gcd a b : Int) ≤ b := by
  have h1 : 0 < Int.gcd a b := Int.gcd_pos_of_ne_zero_right a (by omega)
  have h2 : (Int.gcd a b : Int) ∣ b := Int.gcd_dvd_right a b
  exact ⟨by omega, Int.le_of_dvd hb h2⟩
theorem absOf_any (a : Int) (w : World) (h0 : 0 ≤ a) (h1 : a ≤ 4611686018427387904) : Calls Try.prog 72 #[.int .i64 a] w fun e w' => e = .returned (.int .i64 a) ∧ w = w' := by
  go_enter Try.func72, Try.ntmps72
  go_wp2
  go_ret
  exact ⟨rfl, rfl⟩
theorem gcdOf_any (a b : Int) (w : World) (ha : 0 ≤ a) (hb : 0 ≤ b) (ha' : a ≤ 1000000000000) (hb' : b ≤ 1000000000000) : Calls Try.prog 65 #[.int .i64 a, .int .i64 b] w (Post (.int .i64 (Int.gcd a b : Nat)) w) := by
  obtain ⟨x, rfl⟩ := Int.eq_ofNat_of_zero_le ha
  obtain ⟨y, rfl⟩ := Int.eq_ofNat_of_zero_le hb
  obtain ⟨g, hg⟩ : ∃ g, g = Nat.gcd x y := ⟨_, rfl⟩
  have HG := Lib.hid hg
  rw [show Int.gcd (x : Int) (y : Int) = g from by rw [hg]; rfl]
  clear hg
  go_enter Try.func65, Try.ntmps65
  go_wp2_with (go_at_call 72; refine (absOf_any _ _ (by omega) (by omega)).mono ?_; rintro e w' ⟨rfl, rfl⟩)
  go_loopw [0, 1] (fun u v wr => ∃ p q : Nat, u = .int .i64 p ∧ v = .int .i64 q ∧ Hid (Nat.gcd p q = g) ∧ p ≤ 1000000000000 ∧ q ≤ 1000000000000 ∧ Below w.heap.size w wr)
    (fun _ v _ => (intOf v).toNat)
  case atStart => exact ⟨x, y, rfl, rfl, HG.out.symm, by omega, by omega, Below.refl _ _⟩
  case round =>
    obtain ⟨p, q, rfl, rfl, hpq, hp, hq, hbl⟩ := hrel
    rcases Nat.eq_zero_or_pos q with rfl | hq0
    · have h0 : p = g := by have := hpq.out; simpa using this
      subst h0
      go_wp2_with fail
      go_ret
      exact ⟨rfl, hbl⟩
    · have hq1 : ((q : Int) != 0) = true := by rw [bne_iff_ne]; omega
      have hlt : p % q < q := Nat.mod_lt _ hq0
      go_wp2_with fail
      (refine wp_region_more (by kernel_rfl) (by kernel_rfl) ?_
       repeat (any_goals (first | go_big_quiet_step ((fail)) | quiet_step ((fail)) | (refine wpQuiet_step (fun K hK => ?_); go_simp; split <;> (refine hK _ ?_; clear hK K))))
       all_goals (refine wpQuiet_nil ?_; intro _ hw'; obtain ⟨nq, hw''⟩ := hw'; subst hw''))
      go_wp2_with fail
      go_roundw
      case rel => exact ⟨q, p % q, rfl, by simp, (by have h1 := gcd_step p q; have h2 := hpq.out; show _ = _; omega), hq, by omega, (by repeat (first | with_reducible exact Below.refl _ _ | with_reducible assumption | with_reducible refine below_alloc ?_ _ | with_reducible refine below_more ?_ _ | (with_reducible refine below_set ?_ ?_ _; rotate_left; first | with_reducible exact Nat.le_refl _ | with_reducible assumption | (simp; done) | omega)))⟩
      case measure => simp [intOf]; omega
theorem lowestTerms_any (a b : Int) (w : World) (ha : 0 ≤ a) (hb : 0 < b) (ha' : a ≤ 1000000000000) (hb' : b ≤ 1000000000000) :
    Calls Try.prog 54 #[.int .i64 a, .int .i64 b] w (Post (.tuple #[.int .i64 (low1 a b), .int .i64 (low2 a b)]) w) := by
  obtain ⟨g, hg⟩ : ∃ g : Nat, g = Int.gcd a b := ⟨_, rfl⟩
  have hgb := gcd_bd (a := a) hb
  have H1 := Lib.hid (show low1 a b = a / (g : Int) from by rw [hg]; rfl)
  have H2 := Lib.hid (show low2 a b = b / (g : Int) from by rw [hg]; rfl)
  rw [← hg] at hgb
  have hc := gcdOf_any a b w ha (by omega) ha' hb'
  rw [← hg] at hc
  have HC := Lib.hid hc
  clear hc hg
  obtain ⟨g1, g2⟩ := hgb
  have q1 := Int.ediv_nonneg ha (Int.le_of_lt g1)
  have q2 := Int.ediv_le_self (g : Int) ha
  have q3 := Int.ediv_nonneg (Int.le_of_lt hb) (Int.le_of_lt g1)
  have q4 := Int.ediv_le_self (g : Int) (Int.le_of_lt hb)
  go_enter Try.func54, Try.ntmps54
  go_wp2_with fail
  refine HC.out.mono ?_
  rintro e w1 ⟨rfl, b1⟩
  go_wp2_with fail
  (refine wp_region_more (by kernel_rfl) (by kernel_rfl) ?_
   repeat (any_goals (first | go_big_quiet_step ((fail)) | quiet_step ((fail)) | (refine wpQuiet_step (fun K hK => ?_); go_simp; split <;> (refine hK _ ?_; clear hK K))))
   all_goals (refine wpQuiet_nil ?_; intro _ hw'; obtain ⟨nq, hw''⟩ := hw'; subst hw''))
  go_wp2_with fail
  go_ret2
  exact ⟨by rw [H1.out, H2.out]; rfl, (by repeat (first | with_reducible exact Below.refl _ _ | with_reducible assumption | with_reducible refine below_alloc ?_ _ | with_reducible refine below_more ?_ _ | (with_reducible refine below_set ?_ ?_ _; rotate_left; first | with_reducible exact Nat.le_refl _ | with_reducible assumption | (simp; done) | omega)))⟩
theorem l11Reduce_any (a b : Int) (w : World) (ha : 0 ≤ a) (hb : 0 < b) (ha' : a ≤ 1000000000000) (hb' : b ≤ 1000000000000) :
    Calls Try.prog 53 #[.int .i64 a, .int .i64 b] w (Post (.tuple #[.int .i64 (low1 a b), .int .i64 (low2 a b)]) w) := by
  obtain ⟨x, rfl⟩ := Int.eq_ofNat_of_zero_le ha
  obtain ⟨y, rfl⟩ := Int.eq_ofNat_of_zero_le (Int.le_of_lt hb)
  obtain ⟨g, hg⟩ : ∃ g : Nat, g = Nat.gcd x y := ⟨_, rfl⟩
  have hgb := gcd_bd (a := (x : Int)) hb
  have hg' : Int.gcd (x : Int) (y : Int) = g := by rw [hg]; rfl
  have H1 := Lib.hid (show low1 (x : Int) y = (x : Int) / (g : Int) from by rw [← hg']; rfl)
  have H2 := Lib.hid (show low2 (x : Int) y = (y : Int) / (g : Int) from by rw [← hg']; rfl)
  rw [hg'] at hgb
  have HG := Lib.hid hg
  clear hg hg'
  obtain ⟨g1, g2⟩ := hgb
  go_enter Try.func53, Try.ntmps53
  go_wp2_with fail
  go_loopw [6, 7] (fun u v wr => ∃ p q : Nat, u = .int .i64 p ∧ v = .int .i64 q ∧ Hid (Nat.gcd p q = g) ∧ p ≤ 1000000000000 ∧ q ≤ 1000000000000 ∧ Below w.heap.size w wr)
    (fun _ v _ => (intOf v).toNat)
  case atStart => exact ⟨x, y, rfl, rfl, HG.out.symm, by omega, by omega, Below.refl _ _⟩
  case round =>
    obtain ⟨p, q, rfl, rfl, hpq, hp, hq, hbl⟩ := hrel
    rcases Nat.eq_zero_or_pos q with rfl | hq0
    · have h0 : p = g := by have := hpq.out; simpa using this
      subst h0
      have q1 := Int.ediv_nonneg ha (Int.le_of_lt g1)
      have q2 := Int.ediv_le_self (p : Int) ha
      have q3 := Int.ediv_nonneg (Int.le_of_lt hb) (Int.le_of_lt g1)
      have q4 := Int.ediv_le_self (p : Int) (Int.le_of_lt hb)
      go_wp2_with fail
      (refine wp_region_more (by kernel_rfl) (by kernel_rfl) ?_
       repeat (any_goals (first | go_big_quiet_step ((fail)) | quiet_step ((fail)) | (refine wpQuiet_step (fun K hK => ?_); go_simp; split <;> (refine hK _ ?_; clear hK K))))
       all_goals (refine wpQuiet_nil ?_; intro _ hw'; obtain ⟨nq, hw''⟩ := hw'; subst hw''))
      go_wp2_with fail
      go_ret2
      exact ⟨by rw [H1.out, H2.out]; rfl, (by repeat (first | with_reducible exact Below.refl _ _ | with_reducible assumption | with_reducible refine below_alloc ?_ _ | with_reducible refine below_more ?_ _ | (with_reducible refine below_set ?_ ?_ _; rotate_left; first | with_reducible exact Nat.le_refl _ | with_reducible assumption | (simp; done) | omega)))⟩
    · have hq1 : ((q : Int) != 0) = true := by rw [bne_iff_ne]; omega
      have hlt : p % q < q := Nat.mod_lt _ hq0
      go_wp2_with fail
      go_roundw
      case rel => exact ⟨q, p % q, rfl, by simp, (by have h1 := gcd_step p q; have h2 := hpq.out; show _ = _; omega), hq, by omega, (by repeat (first | with_reducible exact Below.refl _ _ | with_reducible assumption | with_reducible refine below_alloc ?_ _ | with_reducible refine below_more ?_ _ | (with_reducible refine below_set ?_ ?_ _; rotate_left; first | with_reducible exact Nat.le_refl _ | with_reducible assumption | (simp; done) | omega)))⟩
      case measure => simp [intOf]; omega

/-! ### The use of a chamber -/
/-- No lockage at the lock has more cells than the chamber. -/
def cuOk (L : Nat → Lk) (lock cells : Int) : Nat → Bool
  | 0 => true
  | k + 1 => cuOk L lock cells k && !((L k).lock == lock && decide (cells < (L k).cells))
def cuSum (L : Nat → Lk) (lock : Int) : Nat → Int
  | 0 => 0
  | k + 1 => if (L k).lock = lock then cuSum L lock k + (L k).cells else cuSum L lock k
def cuCnt (L : Nat → Lk) (lock : Int) : Nat → Int
  | 0 => 0
  | k + 1 => if (L k).lock = lock then cuCnt L lock k + 1 else cuCnt L lock k
def cuAll (L : Nat → Lk) (lock cells : Int) : Nat → Int
  | 0 => 0
  | k + 1 => if (L k).lock = lock then cuAll L lock cells k + cells else cuAll L lock cells k
def chamberUse (n : Nat) (L : Nat → Lk) (lock cells : Int) : Int × Int × Bool :=
  if recList n L = true ∧ inB lock 0 4 = true ∧ inB cells 1 18 = true then
    (if cuOk L lock cells n = true ∧ (cuCnt L lock n == 0) = false then (low1 (cuSum L lock n) (cuCnt L lock n * cells), low2 (cuSum L lock n) (cuCnt L lock n * cells), true) else (0, 0, false)) else (0, 0, false)
theorem rec_cells {L : Nat → Lk} {n k : Nat} (h : recList n L = true) (hk : k < n) : 0 ≤ (L k).cells ∧ (L k).cells ≤ 18 := by
  have h2 := rec_ok h hk
  simp only [Lk.ok, Bool.and_eq_true, inB_iff] at h2
  omega
theorem cu_bd {L : Nat → Lk} {n : Nat} (h : recList n L = true) (lock cells : Int) (h1 : 1 ≤ cells) (h2 : cells ≤ 18) : ∀ k, k ≤ n →
    0 ≤ cuSum L lock k ∧ cuSum L lock k ≤ 18 * k ∧ 0 ≤ cuCnt L lock k ∧ cuCnt L lock k ≤ k ∧ 0 ≤ cuAll L lock cells k ∧ cuAll L lock cells k ≤ 18 * k ∧ cuAll L lock cells k = cuCnt L lock k * cells ∧ (cuAll L lock cells k = 0 ↔ cuCnt L lock k = 0)
  | 0, _ => by simp [cuSum, cuCnt, cuAll]
  | k + 1, hk => by
    have ih := cu_bd h lock cells h1 h2 k (by omega)
    have hv := rec_cells h (k := k) (by omega)
    obtain ⟨i1, i2, i3, i4, i5, i6, i7, i8⟩ := ih
    simp only [cuSum, cuCnt, cuAll]
    split
    · refine ⟨by omega, by omega, by omega, by omega, by omega, by omega, by rw [Int.add_mul, i7]; omega, by omega⟩
    · exact ⟨by omega, by omega, by omega, by omega, by omega, by omega, i7, i8⟩
theorem cuOk_le {L : Nat → Lk} {lock cells : Int} {k n : Nat} (h : k ≤ n) (hk : cuOk L lock cells k = false) : cuOk L lock cells n = false := by
  induction n with
  | zero => obtain rfl : k = 0 := by omega
            exact hk
  | succ n ih =>
    rcases Nat.lt_or_ge k (n + 1) with hlt | hge
    · simp [cuOk, ih (by omega)]
    · obtain rfl : k = n + 1 := by omega
      exact hk
theorem cu_skip {L : Nat → Lk} {lock cells : Int} {k : Nat} (h : ((L k).lock != lock) = true) :
    cuOk L lock cells (k + 1) = cuOk L lock cells k ∧ cuSum L lock (k + 1) = cuSum L lock k ∧ cuCnt L lock (k + 1) = cuCnt L lock k ∧ cuAll L lock cells (k + 1) = cuAll L lock cells k := by
  have h' : ¬ (L k).lock = lock := by simpa using h
  simp [cuOk, cuSum, cuCnt, cuAll, h']
theorem cu_take {L : Nat → Lk} {lock cells : Int} {k : Nat} (h : ((L k).lock != lock) = false) (hc : (L k).cells ≤ cells) :
    cuOk L lock cells (k + 1) = cuOk L lock cells k ∧ cuSum L lock (k + 1) = cuSum L lock k + (L k).cells ∧ cuCnt L lock (k + 1) = cuCnt L lock k + 1 ∧ cuAll L lock cells (k + 1) = cuAll L lock cells k + cells := by
  have h' : (L k).lock = lock := by simpa using h
  have h2 : ¬ cells < (L k).cells := by omega
  simp [cuOk, cuSum, cuCnt, cuAll, h', h2]
theorem cu_bad {n : Nat} {L : Nat → Lk} {lock cells : Int} {k : Nat} (hk : k < n) (h : ((L k).lock != lock) = false) (hc : cells < (L k).cells) : chamberUse n L lock cells = (0, 0, false) := by
  have h' : (L k).lock = lock := by simpa using h
  have h1 : cuOk L lock cells n = false := cuOk_le (k := k + 1) (by omega) (by simp [cuOk, h', hc])
  simp [chamberUse, h1]
theorem cu_none {n : Nat} {L : Nat → Lk} {lock cells : Int} (h : cuCnt L lock n = 0) : chamberUse n L lock cells = (0, 0, false) := by simp [chamberUse, h]
theorem cu_some {n : Nat} {L : Nat → Lk} {lock cells : Int} (v1 : recList n L = true) (v2 : inB lock 0 4 = true) (v3 : inB cells 1 18 = true) (h : cuOk L lock cells n = true) (h0 : ¬ cuCnt L lock n = 0) :
    chamberUse n L lock cells = (low1 (cuSum L lock n) (cuCnt L lock n * cells), low2 (cuSum L lock n) (cuCnt L lock n * cells), true) := by
  simp [chamberUse, v1, v2, v3, h, h0]
set_option maxHeartbeats 1600000 in
theorem chamberUse_any (A : Option Addr) (n c : Nat) (L : Nat → Lk) (lock cells : Int) (w : World) (hn : n ≤ 1048576) (hL : RdLk w A n L) :
    Calls Try.prog 26 #[.slice A n c, .int .i64 lock, .int .i64 cells] w (Post (.tuple #[.int .i64 (chamberUse n L lock cells).1, .int .i64 (chamberUse n L lock cells).2.1, .bool (chamberUse n L lock cells).2.2]) w) := by
  by_cases hv : recList n L = true ∧ inB lock 0 4 = true ∧ inB cells 1 18 = true
  · obtain ⟨v1, v2, v3⟩ := hv
    have HB := Lib.hid (cu_bd v1 lock cells (inB_iff.1 v3).1 (inB_iff.1 v3).2)
    have HV := Lib.hid (fun k (hk : k < n) => rec_cells v1 hk)
    have HF := Lib.hid (fun h h0 => cu_some (n := n) v1 v2 v3 h h0)
    have hlen := rec_len v1
    obtain ⟨hsp1, hsp2⟩ := inB_iff.1 v3
    go_enter Try.func26, Try.ntmps26
    go_wp2_with (first | (go_at_call 19; refine (isRecordList_any A n c L _ hn hL).mono ?_; intro e w' hp; obtain ⟨rfl, m, rfl⟩ := hp.get; clear hp) | (go_at_call 45; refine (isLockNumber_any _ _).mono ?_; rintro e w' ⟨rfl, rfl⟩) | (go_at_call 47; refine (inside_any _ _ _ _).mono ?_; rintro e w' ⟨rfl, rfl⟩))
    clear v1 v2 v3
    go_loopw [9, 10, 30] (fun a b j wr => ∃ k : Nat, k ≤ n ∧ j = .int .i64 k ∧ a = .int .i64 (cuSum L lock k) ∧ b = .int .i64 (cuCnt L lock k) ∧ Hid (cuOk L lock cells k = true) ∧ Below w.heap.size w wr)
      (fun _ _ j _ => n - (intOf j).toNat)
    case atStart => exact ⟨0, Nat.zero_le _, rfl, rfl, rfl, rfl, (by repeat (first | with_reducible exact Below.refl _ _ | with_reducible assumption | with_reducible refine below_alloc ?_ _ | with_reducible refine below_more ?_ _ | (with_reducible refine below_set ?_ ?_ _; rotate_left; first | with_reducible exact Nat.le_refl _ | with_reducible assumption | (simp; done) | omega)))⟩
    case round =>
      obtain ⟨k, hk, rfl, rfl, rfl, hok, hb⟩ := hrel
      have hsz := hb.size
      obtain ⟨g1, g2, g3, g4, g5, g6, g7, g8⟩ := HB.out k hk
      have G7 := Lib.hid g7
      have G8 := Lib.hid g8
      clear g7 g8
      by_cases hlt : k < n
      · obtain ⟨b, off, rfl, hbl, c0, c1, c2, c3, c4⟩ := hL k hlt
        obtain ⟨hc, hf⟩ := bcell hb
        obtain ⟨m1, m2⟩ := HV.out k hlt
        go_wp2_with fail
        all_goals first
          | (go_ret3; exact ⟨by rw [cu_bad hlt ‹_› ‹_›]; rfl, (by repeat (first | with_reducible exact Below.refl _ _ | with_reducible assumption | with_reducible refine below_alloc ?_ _ | with_reducible refine below_more ?_ _ | (with_reducible refine below_set ?_ ?_ _; rotate_left; first | with_reducible exact Nat.le_refl _ | with_reducible assumption | (simp; done) | omega)))⟩)
          | (have S := cu_skip (cells := cells) ‹((L k).lock != lock) = true›; go_roundw; (case rel => exact ⟨k + 1, by omega, by go_num, by rw [S.2.1], by rw [S.2.2.1], S.1.trans hok.out, (by repeat (first | with_reducible exact Below.refl _ _ | with_reducible assumption | with_reducible refine below_alloc ?_ _ | with_reducible refine below_more ?_ _ | (with_reducible refine below_set ?_ ?_ _; rotate_left; first | with_reducible exact Nat.le_refl _ | with_reducible assumption | (simp; done) | omega)))⟩); (case measure => simp [intOf]; omega))
          | (have S := cu_take ‹((L k).lock != lock) = false› ‹(L k).cells ≤ cells›; go_roundw; (case rel => exact ⟨k + 1, by omega, by go_num, by rw [S.2.1], by rw [S.2.2.1], S.1.trans hok.out, (by repeat (first | with_reducible exact Below.refl _ _ | with_reducible assumption | with_reducible refine below_alloc ?_ _ | with_reducible refine below_more ?_ _ | (with_reducible refine below_set ?_ ?_ _; rotate_left; first | with_reducible exact Nat.le_refl _ | with_reducible assumption | (simp; done) | omega)))⟩); (case measure => simp [intOf]; omega))
      · obtain rfl : k = n := by omega
        by_cases h0 : cuCnt L lock k = 0
        · have HN := Lib.hid (cu_none (cells := cells) h0)
          have e0 : (cuCnt L lock k == 0) = true := by rw [beq_iff_eq]; first | exact h0 | exact G8.out.2 h0
          clear h0
          go_wp2_with fail
          go_ret3
          exact ⟨by rw [HN.out]; rfl, (by repeat (first | with_reducible exact Below.refl _ _ | with_reducible assumption | with_reducible refine below_alloc ?_ _ | with_reducible refine below_more ?_ _ | (with_reducible refine below_set ?_ ?_ _; rotate_left; first | with_reducible exact Nat.le_refl _ | with_reducible assumption | (simp; done) | omega)))⟩
        · have HS := Lib.hid (HF.out hok.out h0)
          have e0 : (cuCnt L lock k == 0) = false := by rw [beq_eq_false_iff_ne]; first | exact h0 | exact fun x => h0 (G8.out.1 x)
          have p1 : 0 < cuCnt L lock k * cells := by rw [← G7.out]; have := G8.out; omega
          have p2 : cuCnt L lock k * cells ≤ 270 := by rw [← G7.out]; omega
          have HC := Lib.hid (fun W => lowestTerms_any (cuSum L lock k) (cuCnt L lock k * cells) W g1 p1 (by omega) (by omega))
          skip
          go_wp2_with fail
          refine (HC.out _).mono ?_
          rintro e w1 ⟨rfl, b1⟩
          go_wp2_with fail
          go_ret3
          exact ⟨by rw [HS.out]; rfl, below_tr hb b1⟩
  · have hfin : chamberUse n L lock cells = (0, 0, false) := by rw [chamberUse, if_neg hv]
    have HF := Lib.hid hfin
    clear hfin
    go_enter Try.func26, Try.ntmps26
    go_wp2_with (first | (go_at_call 19; refine (isRecordList_any A n c L _ hn hL).mono ?_; intro e w' hp; obtain ⟨rfl, m, rfl⟩ := hp.get; clear hp) | (go_at_call 45; refine (isLockNumber_any _ _).mono ?_; rintro e w' ⟨rfl, rfl⟩) | (go_at_call 47; refine (inside_any _ _ _ _).mono ?_; rintro e w' ⟨rfl, rfl⟩))
    all_goals first
      | (go_ret3; exact ⟨by rw [HF.out]; rfl, (by repeat (first | with_reducible exact Below.refl _ _ | with_reducible assumption | with_reducible refine below_alloc ?_ _ | with_reducible refine below_more ?_ _ | (with_reducible refine below_set ?_ ?_ _; rotate_left; first | with_reducible exact Nat.le_refl _ | with_reducible assumption | (simp; done) | omega)))⟩)
      | (exfalso; simp_all; done)
set_option maxHeartbeats 1600000 in
theorem specChamberUse_any (A : Option Addr) (n c : Nat) (L : Nat → Lk) (lock cells : Int) (w : World) (hn : n ≤ 1048576) (hL : RdLk w A n L) :
    Calls Try.prog 25 #[.slice A n c, .int .i64 lock, .int .i64 cells] w (Post (.tuple #[.int .i64 (chamberUse n L lock cells).1, .int .i64 (chamberUse n L lock cells).2.1, .bool (chamberUse n L lock cells).2.2]) w) := by
  by_cases hv : recList n L = true ∧ inB lock 0 4 = true ∧ inB cells 1 18 = true
  · obtain ⟨v1, v2, v3⟩ := hv
    have HB := Lib.hid (cu_bd v1 lock cells (inB_iff.1 v3).1 (inB_iff.1 v3).2)
    have HV := Lib.hid (fun k (hk : k < n) => rec_cells v1 hk)
    have HF := Lib.hid (fun h h0 => cu_some (n := n) v1 v2 v3 h h0)
    have hlen := rec_len v1
    obtain ⟨hsp1, hsp2⟩ := inB_iff.1 v3
    go_enter Try.func25, Try.ntmps25
    go_wp2_with (first | (go_at_call 48; refine (l26Good_any A n c L _ hn hL).mono ?_; intro e w' hp; obtain ⟨rfl, m, rfl⟩ := hp.get; clear hp) | (go_at_call 51; refine (l26Lock_any _ _).mono ?_; rintro e w' ⟨rfl, rfl⟩) | (go_at_call 50; refine (l1In_any _ _ _ _).mono ?_; rintro e w' ⟨rfl, rfl⟩))
    clear v1 v2 v3
    go_loopw [9, 10, 11] (fun a b j wr => ∃ k : Nat, k ≤ n ∧ j = .int .i64 k ∧ a = .int .i64 (cuSum L lock k) ∧ b = .int .i64 (cuAll L lock cells k) ∧ Hid (cuOk L lock cells k = true) ∧ Below w.heap.size w wr)
      (fun _ _ j _ => n - (intOf j).toNat)
    case atStart => exact ⟨0, Nat.zero_le _, rfl, rfl, rfl, rfl, (by repeat (first | with_reducible exact Below.refl _ _ | with_reducible assumption | with_reducible refine below_alloc ?_ _ | with_reducible refine below_more ?_ _ | (with_reducible refine below_set ?_ ?_ _; rotate_left; first | with_reducible exact Nat.le_refl _ | with_reducible assumption | (simp; done) | omega)))⟩
    case round =>
      obtain ⟨k, hk, rfl, rfl, rfl, hok, hb⟩ := hrel
      have hsz := hb.size
      obtain ⟨g1, g2, g3, g4, g5, g6, g7, g8⟩ := HB.out k hk
      have G7 := Lib.hid g7
      have G8 := Lib.hid g8
      clear g7 g8
      by_cases hlt : k < n
      · obtain ⟨b, off, rfl, hbl, c0, c1, c2, c3, c4⟩ := hL k hlt
        obtain ⟨hc, hf⟩ := bcell hb
        obtain ⟨m1, m2⟩ := HV.out k hlt
        go_wp2_with fail
        all_goals first
          | (go_ret3; exact ⟨by rw [cu_bad hlt ‹_› ‹_›]; rfl, (by repeat (first | with_reducible exact Below.refl _ _ | with_reducible assumption | with_reducible refine below_alloc ?_ _ | with_reducible refine below_more ?_ _ | (with_reducible refine below_set ?_ ?_ _; rotate_left; first | with_reducible exact Nat.le_refl _ | with_reducible assumption | (simp; done) | omega)))⟩)
          | (have S := cu_skip (cells := cells) ‹((L k).lock != lock) = true›; go_roundw; (case rel => exact ⟨k + 1, by omega, by go_num, by rw [S.2.1], by rw [S.2.2.2], S.1.trans hok.out, (by repeat (first | with_reducible exact Below.refl _ _ | with_reducible assumption | with_reducible refine below_alloc ?_ _ | with_reducible refine below_more ?_ _ | (with_reducible refine below_set ?_ ?_ _; rotate_left; first | with_reducible exact Nat.le_refl _ | with_reducible assumption | (simp; done) | omega)))⟩); (case measure => simp [intOf]; omega))
          | (have S := cu_take ‹((L k).lock != lock) = false› ‹(L k).cells ≤ cells›; go_roundw; (case rel => exact ⟨k + 1, by omega, by go_num, by rw [S.2.1], by rw [S.2.2.2], S.1.trans hok.out, (by repeat (first | with_reducible exact Below.refl _ _ | with_reducible assumption | with_reducible refine below_alloc ?_ _ | with_reducible refine below_more ?_ _ | (with_reducible refine below_set ?_ ?_ _; rotate_left; first | with_reducible exact Nat.le_refl _ | with_reducible assumption | (simp; done) | omega)))⟩); (case measure => simp [intOf]; omega))
      · obtain rfl : k = n := by omega
        by_cases h0 : cuCnt L lock k = 0
        · have HN := Lib.hid (cu_none (cells := cells) h0)
          have e0 : (cuAll L lock cells k == 0) = true := by rw [beq_iff_eq]; first | exact h0 | exact G8.out.2 h0
          clear h0
          go_wp2_with fail
          go_ret3
          exact ⟨by rw [HN.out]; rfl, (by repeat (first | with_reducible exact Below.refl _ _ | with_reducible assumption | with_reducible refine below_alloc ?_ _ | with_reducible refine below_more ?_ _ | (with_reducible refine below_set ?_ ?_ _; rotate_left; first | with_reducible exact Nat.le_refl _ | with_reducible assumption | (simp; done) | omega)))⟩
        · have HS := Lib.hid (HF.out hok.out h0)
          have e0 : (cuAll L lock cells k == 0) = false := by rw [beq_eq_false_iff_ne]; first | exact h0 | exact fun x => h0 (G8.out.1 x)
          have p1 : 0 < cuCnt L lock k * cells := by rw [← G7.out]; have := G8.out; omega
          have p2 : cuCnt L lock k * cells ≤ 270 := by rw [← G7.out]; omega
          have HC := Lib.hid (fun W => l11Reduce_any (cuSum L lock k) (cuCnt L lock k * cells) W g1 p1 (by omega) (by omega))
          rw [G7.out] at e0 ⊢
          go_wp2_with fail
          refine (HC.out _).mono ?_
          rintro e w1 ⟨rfl, b1⟩
          go_wp2_with fail
          go_ret3
          exact ⟨by rw [HS.out]; rfl, below_tr hb b1⟩
  · have hfin : chamberUse n L lock cells = (0, 0, false) := by rw [chamberUse, if_neg hv]
    have HF := Lib.hid hfin
    clear hfin
    go_enter Try.func25, Try.ntmps25
    go_wp2_with (first | (go_at_call 48; refine (l26Good_any A n c L _ hn hL).mono ?_; intro e w' hp; obtain ⟨rfl, m, rfl⟩ := hp.get; clear hp) | (go_at_call 51; refine (l26Lock_any _ _).mono ?_; rintro e w' ⟨rfl, rfl⟩) | (go_at_call 50; refine (l1In_any _ _ _ _).mono ?_; rintro e w' ⟨rfl, rfl⟩))
    all_goals first
      | (go_ret3; exact ⟨by rw [HF.out]; rfl, (by repeat (first | with_reducible exact Below.refl _ _ | with_reducible assumption | with_reducible refine below_alloc ?_ _ | with_reducible refine below_more ?_ _ | (with_reducible refine below_set ?_ ?_ _; rotate_left; first | with_reducible exact Nat.le_refl _ | with_reducible assumption | (simp; done) | omega)))⟩)
      | (exfalso; simp_all; done)
end Go.Proofs.Ytpjgjfdbffideaa
