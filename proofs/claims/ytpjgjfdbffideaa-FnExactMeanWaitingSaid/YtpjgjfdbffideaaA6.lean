/-
  The vessels of a record as a slice, and the mean waiting time, in the program and in the reference.
  Conditions: none beyond each statement's own premises.
-/
import Derived.Test.YtpjgjfdbffideaaA4
import Derived.Test.YtpjgjfdbffideaaSum
namespace Go.Proofs.Ytpjgjfdbffideaa
set_option linter.unusedSimpArgs false
set_option linter.unusedVariables false
open Go.RowKit
set_option maxHeartbeats 800000 in
/-- The vessels of each lockage, in new memory. -/
theorem vesselsOf_any (A : Option Addr) (n c : Nat) (L : Nat → Lk) (w : World) (hn : n ≤ 1048576) (hL : RdLk w A n L) :
    Calls Try.prog 57 #[.slice A n c] w fun e w' => ∃ v, e = .returned v ∧ w'.ownsRow w.heap.size 3 1 v n (intsOf (fun i => (L i).vessels) n) ∧ Below w.heap.size w w' := by
  go_enter Try.func57, Try.ntmps57
  go_wp2_with fail
  go_loopw [3, 9] (fun v i wr => ∃ k : Nat, k ≤ n ∧ i = .int .i64 k ∧ wr.ownsRow w.heap.size 3 1 v k (intsOf (fun i => (L i).vessels) k) ∧ Below w.heap.size w wr) (fun _ i _ => n - (intOf i).toNat)
  case atStart => exact ⟨0, Nat.zero_le _, rfl, owns_empty (Nat.le_refl _) _ _, (by repeat (first | with_reducible exact Below.refl _ _ | with_reducible assumption | with_reducible refine below_alloc ?_ _ | with_reducible refine below_more ?_ _ | (with_reducible refine below_set ?_ ?_ _; rotate_left; first | with_reducible exact Nat.le_refl _ | with_reducible assumption | (simp; done) | omega)))⟩
  case round =>
    obtain ⟨k, hk, rfl, hown, hb⟩ := hrel
    have hsz := hb.size
    have HO := Lib.hid hown
    by_cases hlt : k < n
    · obtain ⟨b, off, rfl, hbl, c0, c1, c2, c3, c4⟩ := hL k hlt
      obtain ⟨hc, hf⟩ := bcell hb
      have h1 : b < wr.heap.size := by omega
      clear hown
      go_wp2_with (at_builtin; refine wpList_push rfl _ _ _ rfl w.heap.size 3 (.int .i64 0) 1 8 Try.underlying43 int_info rfl (by decide) (by decide) _ _ _ rfl (HO.out.alloc _) [.int .i64 (L k).vessels] _ rfl (by simp) rfl (by intro u hu; simp at hu; subst hu; rfl) (by omega) (by simp; omega) ?_; intro v1 w1 hown1 hg1 hb1; clear hg1)
      go_roundw
      case rel => exact ⟨k + 1, by omega, by go_num, by rw [intsOf_succ]; exact hown1, (below_alloc hb _).trans hb1⟩
      case measure => simp [intOf]; omega
    · obtain rfl : k = n := by omega
      clear hown
      go_wp2_with fail
      go_ret
      exact ⟨_, rfl, HO.out, hb⟩

def waitSum (L : Nat → Lk) (k : Nat) : Int := sumZ (fun i => (L i).waiting) k
theorem preSum_eq (L : Nat → Lk) : ∀ k, preSum L k = sumZ (fun i => (L i).vessels) k
  | 0 => rfl
  | k + 1 => by rw [preSum, sumZ, preSum_eq L k]
theorem rec_waiting {L : Nat → Lk} {n k : Nat} (h : recList n L = true) (hk : k < n) : 0 ≤ (L k).waiting ∧ (L k).waiting ≤ 9999 := by
  have h2 := rec_ok h hk
  simp only [Lk.ok, Bool.and_eq_true, inB_iff] at h2
  exact h2.1.2
theorem waitSum_bd {L : Nat → Lk} {n : Nat} (h : recList n L = true) (k : Nat) (hk : k ≤ n) : 0 ≤ waitSum L k ∧ waitSum L k ≤ 9999 * k := by
  have := sumZ_bd (f := fun i => (L i).waiting) (n := n) (B := 9999) (fun i hi => rec_waiting h hi) k hk
  unfold waitSum
  omega
theorem vesW {L : Nat → Lk} {n : Nat} (h : recList n L = true) : sumW (fun i => (L i).vessels) n = preSum L n := by
  rw [preSum_eq]
  have := rec_len h
  exact sumW_eq (B := 4) (fun i hi => rec_vessels h hi) (by omega) n (Nat.le_refl _)
def meanW (n : Nat) (L : Nat → Lk) : Int × Int × Bool :=
  if recList n L = true ∧ (preSum L n == 0) = false then (low1 (waitSum L n) (preSum L n), low2 (waitSum L n) (preSum L n), true) else (0, 0, false)
set_option maxHeartbeats 1600000 in
theorem meanWaiting_any (A : Option Addr) (n c : Nat) (L : Nat → Lk) (w : World) (hn : n ≤ 1048576) (hL : RdLk w A n L) :
    Calls Try.prog 28 #[.slice A n c] w (Post (.tuple #[.int .i64 (meanW n L).1, .int .i64 (meanW n L).2.1, .bool (meanW n L).2.2]) w) := by
  have HS := Lib.hid (fun h => vesW (L := L) (n := n) h)
  generalize hs : sumW (fun i => (L i).vessels) n = s at HS
  have HSS := Lib.hid hs
  clear hs
  by_cases hv : recList n L = true ∧ (preSum L n == 0) = false
  · obtain ⟨v1, v2⟩ := hv
    have hfin : meanW n L = (low1 (waitSum L n) (preSum L n), low2 (waitSum L n) (preSum L n), true) := by rw [meanW, if_pos ⟨v1, v2⟩]
    have HF := Lib.hid hfin
    have HB := Lib.hid (fun k (hk : k ≤ n) => waitSum_bd v1 k hk)
    have hlen := rec_len v1
    have p1 := preSum_bd v1 n (Nat.le_refl _)
    have p2 : 0 < preSum L n := by have := beq_eq_false_iff_ne.1 v2; omega
    have HC := Lib.hid (fun W => lowestTerms_any (waitSum L n) (preSum L n) W (waitSum_bd v1 n (Nat.le_refl _)).1 p2 (by have := waitSum_bd v1 n (Nat.le_refl _); omega) (by omega))
    have he : s = preSum L n := HS.out v1
    subst he
    clear hfin HS
    go_enter Try.func28, Try.ntmps28
    go_wp2_with fail
    refine (vesselsOf_any A n c L _ hn hL).mono ?_
    rintro e w1 ⟨v, rfl, ho, b1⟩
    obtain ⟨A1, c1, rfl, hr1⟩ := RdI.of_owns ho
    clear ho
    go_wp2_with fail
    refine (sumInts_any A1 n c1 _ _ hn hr1).mono ?_
    rw [HSS.out]
    rintro e w2 ⟨rfl, b2⟩
    have hL2 := (hL.below b1).below b2
    go_wp2_with (go_at_call 19; refine (isRecordList_any A n c L _ hn hL2).mono ?_; intro e w' hp; obtain ⟨rfl, m, rfl⟩ := hp.get; clear hp)
    have C : Below w.heap.size w (mw w2 m) := below_more (below_tr b1 b2) m
    clear v1 v2
    go_loopw [6, 23] (fun a j wr => ∃ k : Nat, k ≤ n ∧ j = .int .i64 k ∧ a = .int .i64 (waitSum L k) ∧ Below w.heap.size w wr) (fun _ j _ => n - (intOf j).toNat)
    case atStart => exact ⟨0, Nat.zero_le _, rfl, rfl, C⟩
    case round =>
      obtain ⟨k, hk, rfl, rfl, hb⟩ := hrel
      have hsz := hb.size
      obtain ⟨g1, g2⟩ := HB.out k hk
      by_cases hlt : k < n
      · obtain ⟨b, off, rfl, hbl, c0, c1, c2, c3, c4⟩ := hL k hlt
        obtain ⟨hc, hf⟩ := bcell hb
        have h3 := HB.out (k + 1) (by omega)
        have h4 : waitSum L (k + 1) = waitSum L k + (L k).waiting := rfl
        rw [h4] at h3
        obtain ⟨h5, h6⟩ := h3
        have H4 := Lib.hid h4
        clear h4
        go_wp2_with fail
        go_roundw
        case rel => exact ⟨k + 1, by omega, by go_num, by rw [H4.out], (by repeat (first | with_reducible exact Below.refl _ _ | with_reducible assumption | with_reducible refine below_alloc ?_ _ | with_reducible refine below_more ?_ _ | (with_reducible refine below_set ?_ ?_ _; rotate_left; first | with_reducible exact Nat.le_refl _ | with_reducible assumption | (simp; done) | omega)))⟩
        case measure => simp [intOf]; omega
      · obtain rfl : k = n := by omega
        go_wp2_with fail
        refine (HC.out _).mono ?_
        rintro e w3 ⟨rfl, b3⟩
        go_wp2_with fail
        go_ret3
        exact ⟨by rw [HF.out]; rfl, below_tr hb b3⟩
  · have hfin : meanW n L = (0, 0, false) := by rw [meanW, if_neg hv]
    have HF := Lib.hid hfin
    clear hfin
    go_enter Try.func28, Try.ntmps28
    go_wp2_with fail
    refine (vesselsOf_any A n c L _ hn hL).mono ?_
    rintro e w1 ⟨v, rfl, ho, b1⟩
    obtain ⟨A1, c1, rfl, hr1⟩ := RdI.of_owns ho
    clear ho
    go_wp2_with fail
    refine (sumInts_any A1 n c1 _ _ hn hr1).mono ?_
    rw [HSS.out]
    rintro e w2 ⟨rfl, b2⟩
    have hL2 := (hL.below b1).below b2
    have C2 : Below w.heap.size w w2 := below_tr b1 b2
    go_wp2_with (go_at_call 19; refine (isRecordList_any A n c L _ hn hL2).mono ?_; intro e w' hp; obtain ⟨rfl, m, rfl⟩ := hp.get; clear hp)
    all_goals first
      | (go_ret3; exact ⟨by rw [HF.out]; rfl, (by repeat (first | with_reducible exact Below.refl _ _ | with_reducible assumption | with_reducible refine below_alloc ?_ _ | with_reducible refine below_more ?_ _ | (with_reducible refine below_set ?_ ?_ _; rotate_left; first | with_reducible exact Nat.le_refl _ | with_reducible assumption | (simp; done) | omega)))⟩)
      | (exfalso; have := HS.out (by assumption); simp_all; done)

set_option maxHeartbeats 400000 in
theorem l26Vessels_any (A : Option Addr) (n c : Nat) (L : Nat → Lk) (w : World) (v1 : recList n L = true) (hL : RdLk w A n L) :
    Calls Try.prog 55 #[.slice A n c] w (Post (.int .i64 (preSum L n)) w) := by
  have HB := Lib.hid (preSum_bd v1)
  have HV := Lib.hid (fun k (hk : k < n) => rec_vessels v1 hk)
  have hlen := rec_len v1
  clear v1
  go_enter Try.func55, Try.ntmps55
  go_wp2_with fail
  go_loopw [3, 4] (fun a j wr => ∃ k : Nat, k ≤ n ∧ j = .int .i64 k ∧ a = .int .i64 (preSum L k) ∧ Below w.heap.size w wr) (fun _ j _ => n - (intOf j).toNat)
  case atStart => exact ⟨0, Nat.zero_le _, rfl, rfl, Below.refl _ _⟩
  case round =>
    obtain ⟨k, hk, rfl, rfl, hb⟩ := hrel
    have hsz := hb.size
    obtain ⟨g1, g2⟩ := HB.out k hk
    by_cases hlt : k < n
    · obtain ⟨b, off, rfl, hbl, c0, c1, c2, c3, c4⟩ := hL k hlt
      obtain ⟨hc, hf⟩ := bcell hb
      obtain ⟨g3, g4⟩ := HV.out k hlt
      go_wp2_with fail
      go_roundw
      case rel => exact ⟨k + 1, by omega, by go_num, by rw [preSum], (by repeat (first | with_reducible exact Below.refl _ _ | with_reducible assumption | with_reducible refine below_alloc ?_ _ | with_reducible refine below_more ?_ _ | (with_reducible refine below_set ?_ ?_ _; rotate_left; first | with_reducible exact Nat.le_refl _ | with_reducible assumption | (simp; done) | omega)))⟩
      case measure => simp [intOf]; omega
    · obtain rfl : k = n := by omega
      go_wp2_with fail
      go_ret
      exact ⟨rfl, hb⟩
set_option maxHeartbeats 1600000 in
theorem specMeanWaiting_any (A : Option Addr) (n c : Nat) (L : Nat → Lk) (w : World) (hn : n ≤ 1048576) (hL : RdLk w A n L) :
    Calls Try.prog 27 #[.slice A n c] w (Post (.tuple #[.int .i64 (meanW n L).1, .int .i64 (meanW n L).2.1, .bool (meanW n L).2.2]) w) := by
  by_cases v1 : recList n L = true
  · have HV := Lib.hid (fun W (h : RdLk W A n L) => l26Vessels_any A n c L W v1 h)
    have HB := Lib.hid (fun k (hk : k ≤ n) => waitSum_bd v1 k hk)
    have hlen := rec_len v1
    have p1 := preSum_bd v1 n (Nat.le_refl _)
    go_enter Try.func27, Try.ntmps27
    go_wp2_with fail
    refine (l26Good_any A n c L _ hn hL).mono ?_
    rw [v1]
    rintro e w1 ⟨rfl, b1⟩
    have hL1 := hL.below b1
    go_wp2_with fail
    refine (HV.out _ hL1).mono ?_
    rintro e w2 ⟨rfl, b2⟩
    have hL2 := hL1.below b2
    have C : Below w.heap.size w w2 := below_tr b1 b2
    by_cases v2 : preSum L n = 0
    · have e2 : (preSum L n == 0) = true := by rw [v2]; rfl
      have HF := Lib.hid (show meanW n L = (0, 0, false) from by rw [meanW, if_neg (fun x => by rw [x.2] at e2; cases e2)])
      clear v2 v1
      go_wp2_with fail
      go_ret3
      exact ⟨by rw [HF.out]; rfl, C⟩
    · have e2 : (preSum L n == 0) = false := by rw [beq_eq_false_iff_ne]; exact v2
      have HF := Lib.hid (show meanW n L = (low1 (waitSum L n) (preSum L n), low2 (waitSum L n) (preSum L n), true) from by rw [meanW, if_pos ⟨v1, e2⟩])
      have p2 : 0 < preSum L n := by omega
      have HC := Lib.hid (fun W => l11Reduce_any (waitSum L n) (preSum L n) W (waitSum_bd v1 n (Nat.le_refl _)).1 p2 (by have := waitSum_bd v1 n (Nat.le_refl _); omega) (by omega))
      clear v2 v1
      go_wp2_with fail
      go_loopw [5, 6] (fun a j wr => ∃ k : Nat, k ≤ n ∧ j = .int .i64 k ∧ a = .int .i64 (waitSum L k) ∧ Below w.heap.size w wr) (fun _ j _ => n - (intOf j).toNat)
      case atStart => exact ⟨0, Nat.zero_le _, rfl, rfl, C⟩
      case round =>
        obtain ⟨k, hk, rfl, rfl, hb⟩ := hrel
        have hsz := hb.size
        obtain ⟨g1, g2⟩ := HB.out k hk
        by_cases hlt : k < n
        · obtain ⟨b, off, rfl, hbl, c0, c1, c2, c3, c4⟩ := hL k hlt
          obtain ⟨hc, hf⟩ := bcell hb
          have h3 := HB.out (k + 1) (by omega)
          have h4 : waitSum L (k + 1) = waitSum L k + (L k).waiting := rfl
          rw [h4] at h3
          obtain ⟨h5, h6⟩ := h3
          have H4 := Lib.hid h4
          clear h4
          go_wp2_with fail
          go_roundw
          case rel => exact ⟨k + 1, by omega, by go_num, by rw [H4.out], (by repeat (first | with_reducible exact Below.refl _ _ | with_reducible assumption | with_reducible refine below_alloc ?_ _ | with_reducible refine below_more ?_ _ | (with_reducible refine below_set ?_ ?_ _; rotate_left; first | with_reducible exact Nat.le_refl _ | with_reducible assumption | (simp; done) | omega)))⟩
          case measure => simp [intOf]; omega
        · obtain rfl : k = n := by omega
          go_wp2_with fail
          refine (HV.out _ (hL.below hb)).mono ?_
          rintro e w4 ⟨rfl, b4⟩
          go_wp2_with fail
          refine (HC.out _).mono ?_
          rintro e w3 ⟨rfl, b3⟩
          go_wp2_with fail
          go_ret3
          exact ⟨by rw [HF.out]; rfl, below_tr (below_tr hb b4) b3⟩
  · have v2 : recList n L = false := by simpa using v1
    have HF := Lib.hid (show meanW n L = (0, 0, false) from by rw [meanW, if_neg (fun x => v1 x.1)])
    go_enter Try.func27, Try.ntmps27
    go_wp2_with fail
    refine (l26Good_any A n c L _ hn hL).mono ?_
    rw [v2]
    rintro e w1 ⟨rfl, b1⟩
    go_wp2_with fail
    go_ret3
    exact ⟨by rw [HF.out]; rfl, b1⟩
end Go.Proofs.Ytpjgjfdbffideaa
