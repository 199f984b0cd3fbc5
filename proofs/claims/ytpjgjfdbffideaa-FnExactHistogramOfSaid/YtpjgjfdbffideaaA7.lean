/-
  Counts of lockages by a key: the histogram and the empty lockages, in the program and in the reference.
  Conditions: none beyond each statement's own premises.
-/
import Derived.Test.YtpjgjfdbffideaaA3p
import Derived.Test.YtpjgjfdbffideaaOwn
namespace Go.Proofs.Ytpjgjfdbffideaa
set_option linter.unusedSimpArgs false
set_option linter.unusedVariables false
open Go.RowKit
/-- Of the first k those with p and the key i. -/
def tally (p : Nat → Bool) (key : Nat → Int) : Nat → Nat → Int
  | 0, _ => 0
  | k + 1, i => if p k = true ∧ key k = (i : Int) then tally p key k i + 1 else tally p key k i
theorem tally_bd (p : Nat → Bool) (key : Nat → Int) : ∀ k i, 0 ≤ tally p key k i ∧ tally p key k i ≤ k
  | 0, _ => by simp [tally]
  | k + 1, i => by
    have := tally_bd p key k i
    simp only [tally]
    split <;> omega
theorem tally_hit {p : Nat → Bool} {key : Nat → Int} {cs : Array Value} {k q : Nat} (h : RowI cs 5 (tally p key k)) (hs : cs.size = 5) (hp : p k = true) (hq : key k = (q : Int)) (h5 : q < 5) :
    RowI (cs.setIfInBounds q (.int .i64 (tally p key k q + 1))) 5 (tally p key (k + 1)) ∧ (cs.setIfInBounds q (.int .i64 (tally p key k q + 1))).size = 5 := by
  refine ⟨fun i hi => ?_, by simp [hs]⟩
  by_cases e : i = q
  · subst e
    rw [Array.getElem?_setIfInBounds, if_pos rfl, if_pos (by omega), tally, if_pos ⟨hp, hq⟩]
  · rw [Array.getElem?_setIfInBounds, if_neg (by omega), tally, if_neg (fun x => e (by have := x.2; omega))]
    exact h i hi
theorem tally_miss {p : Nat → Bool} {key : Nat → Int} {cs : Array Value} {k : Nat} (h : RowI cs 5 (tally p key k)) (hp : p k = false) : RowI cs 5 (tally p key (k + 1)) := fun i hi => by
  rw [tally, if_neg (fun x => by rw [hp] at x; cases x.1)]
  exact h i hi
def histF (L : Nat → Lk) (n : Nat) : Nat → Int := tally (fun _ => true) (fun j => (L j).vessels) n
def emptF (L : Nat → Lk) (n : Nat) : Nat → Int := tally (fun j => (L j).vessels == 0) (fun j => (L j).lock) n
theorem rec_lock {L : Nat → Lk} {n k : Nat} (h : recList n L = true) (hk : k < n) : 0 ≤ (L k).lock ∧ (L k).lock ≤ 4 := by
  have h2 := rec_ok h hk
  simp only [Lk.ok, Bool.and_eq_true, inB_iff] at h2
  exact h2.1.1.1.1.1
theorem make5 (W : World) : (Instr.makeSlice 43 (.int .i64 5) (.int .i64 5)).run Try.prog W = .ok (.slice (some ⟨W.heap.size, 0, none⟩) 5 5) (W.alloc (.cells (zeros (.int .i64 0) 5) 3)) :=
  run_make_z (P := Try.prog) 43 3 _ _ _ Try.underlying43 int_info .i64 .i64 5 (by omega) (by omega) W
set_option maxHeartbeats 1600000 in
theorem l26Histogram_any (A : Option Addr) (n c : Nat) (L : Nat → Lk) (w : World) (v1 : recList n L = true) (hL : RdLk w A n L) :
    Calls Try.prog 58 #[.slice A n c] w fun e w' => ∃ A' c', e = .returned (.slice A' 5 c') ∧ OwnS w' w.heap.size A' 5 (histF L n) ∧ Below w.heap.size w w' := by
  have hmk := fun W => make5 W
  generalize hz : zeros (.int .i64 0) 5 = z at hmk
  have hzr : RowI z 5 (fun _ => 0) := by rw [← hz]; exact zeros_row 5
  have hzs : z.size = 5 := by rw [← hz]; exact zeros_size _ _
  have HZ := Lib.hid hzs
  have HV := Lib.hid (fun k (hk : k < n) => rec_vessels v1 hk)
  have hlen := rec_len v1
  clear hz hzs v1
  go_enter Try.func58, Try.ntmps58
  go_wp2_with fail
  clear hmk
  have HB := Lib.hid (Blk.new w 3 z)
  go_loopw [4] (fun i wr => ∃ k cs, k ≤ n ∧ i = .int .i64 (k : Nat) ∧ Blk wr w.heap.size 3 cs ∧ Hid (cs.size = 5) ∧ RowI cs 5 (histF L k) ∧ Below w.heap.size w wr)
    (fun i _ => n - (intOf i).toNat)
  case atStart => exact ⟨0, z, Nat.zero_le _, rfl, HB.out, HZ, hzr, (by repeat (first | with_reducible exact Below.refl _ _ | with_reducible assumption | with_reducible refine below_alloc ?_ _ | with_reducible refine below_more ?_ _ | (with_reducible refine below_set ?_ ?_ _; rotate_left; first | with_reducible exact Nat.le_refl _ | with_reducible assumption | (simp; done) | omega)))⟩
  case round =>
    obtain ⟨k, cs, hk, rfl, hblk, hcs, hrow, hb⟩ := hrel
    have HR := Lib.hid hrow
    have HBk := Lib.hid hblk
    have HBl := Lib.hid hb
    have hsz := hb.size
    by_cases hlt : k < n
    · obtain ⟨b, off, rfl, hbl, c0, c1, c2, c3, c4⟩ := hL k hlt
      obtain ⟨hc, hf⟩ := bcell hb
      obtain ⟨q1, q2⟩ := HV.out k hlt
      obtain ⟨q, hq⟩ := Int.eq_ofNat_of_zero_le q1
      have hq5 : q < 5 := by omega
      have HQ := Lib.hid hq
      have hcell : wr.cell? ⟨w.heap.size, q, none⟩ = some (.int .i64 (histF L k q)) := (hblk.cell _).trans (hrow q hq5)
      obtain ⟨t1, t2⟩ : 0 ≤ histF L k q ∧ histF L k q ≤ k := tally_bd _ _ k q
      have hfz : ∀ o, wr.frozen? ⟨w.heap.size, o, none⟩ = false := fun o => hblk.frozen o
      have hlt2 : w.heap.size < wr.heap.size := hblk.lt
      clear hblk hb hrow
      go_wp2_with fail
      go_roundw
      case rel =>
        have S := tally_hit (p := fun _ => true) (key := fun j => (L j).vessels) HR.out hcs.out rfl HQ.out hq5
        exact ⟨k + 1, _, by omega, by go_num, HBk.out.set_ _ _, S.2, S.1, by have := HBl.out; exact (by repeat (first | with_reducible exact Below.refl _ _ | with_reducible assumption | with_reducible refine below_alloc ?_ _ | with_reducible refine below_more ?_ _ | (with_reducible refine below_set ?_ ?_ _; rotate_left; first | with_reducible exact Nat.le_refl _ | with_reducible assumption | (simp; done) | omega)))⟩
      case measure => simp [intOf]; omega
    · obtain rfl : k = n := by omega
      clear hb hblk
      go_wp2_with fail
      go_ret
      exact ⟨_, _, rfl, OwnS.of_blk HBk.out (by rw [hcs.out]; exact Nat.le_refl _) HR.out (Nat.le_refl _), HBl.out⟩

def histN (n : Nat) (L : Nat → Lk) : Nat := if recList n L = true then 5 else 0
set_option maxHeartbeats 1600000 in
theorem emptyLockages_any (A : Option Addr) (n c : Nat) (L : Nat → Lk) (w : World) (hn : n ≤ 1048576) (hL : RdLk w A n L) :
    Calls Try.prog 30 #[.slice A n c] w fun e w' => ∃ A' c', e = .returned (.tuple #[.slice A' (histN n L) c', .bool (recList n L)]) ∧ OwnS w' w.heap.size A' (histN n L) (emptF L n) ∧ Below w.heap.size w w' := by
  by_cases v1 : recList n L = true
  · have hmk := fun W => make5 W
    generalize hz : zeros (.int .i64 0) 5 = z at hmk
    have hzr : RowI z 5 (fun _ => 0) := by rw [← hz]; exact zeros_row 5
    have hzs : z.size = 5 := by rw [← hz]; exact zeros_size _ _
    have HZ := Lib.hid hzs
    have HV := Lib.hid (fun k (hk : k < n) => rec_lock v1 hk)
    have hlen := rec_len v1
    have HN := Lib.hid (show histN n L = 5 from by rw [histN, if_pos v1])
    have HG := Lib.hid (isRecordList_any A n c L w hn hL)
    rw [v1] at HG ⊢
    clear hz hzs v1
    go_enter Try.func30, Try.ntmps30
    go_wp2_with fail
    refine HG.out.mono ?_
    rintro e w1 ⟨rfl, b1⟩
    have hL1 := hL.below b1
    go_wp2_with fail
    clear hmk HG
    have HB := Lib.hid (Blk.new w1 3 z)
    go_loopw [13] (fun i wr => ∃ k cs, k ≤ n ∧ i = .int .i64 (k : Nat) ∧ Blk wr w1.heap.size 3 cs ∧ Hid (cs.size = 5) ∧ RowI cs 5 (emptF L k) ∧ Below w1.heap.size w1 wr)
      (fun i _ => n - (intOf i).toNat)
    case atStart => exact ⟨0, z, Nat.zero_le _, rfl, HB.out, HZ, hzr, (by repeat (first | with_reducible exact Below.refl _ _ | with_reducible assumption | with_reducible refine below_alloc ?_ _ | with_reducible refine below_more ?_ _ | (with_reducible refine below_set ?_ ?_ _; rotate_left; first | with_reducible exact Nat.le_refl _ | with_reducible assumption | (simp; done) | omega)))⟩
    case round =>
      obtain ⟨k, cs, hk, rfl, hblk, hcs, hrow, hb⟩ := hrel
      have HR := Lib.hid hrow
      have HBk := Lib.hid hblk
      have HBl := Lib.hid hb
      have hsz := hb.size
      by_cases hlt : k < n
      · obtain ⟨b, off, rfl, hbl, c0, c1, c2, c3, c4⟩ := hL1 k hlt
        obtain ⟨hc, hf⟩ := bcell hb
        obtain ⟨q1, q2⟩ := HV.out k hlt
        obtain ⟨q, hq⟩ := Int.eq_ofNat_of_zero_le q1
        have hq5 : q < 5 := by omega
        have HQ := Lib.hid hq
        have hcell : wr.cell? ⟨w1.heap.size, q, none⟩ = some (.int .i64 (emptF L k q)) := (hblk.cell _).trans (hrow q hq5)
        obtain ⟨t1, t2⟩ : 0 ≤ emptF L k q ∧ emptF L k q ≤ k := tally_bd _ _ k q
        have hfz : ∀ o, wr.frozen? ⟨w1.heap.size, o, none⟩ = false := fun o => hblk.frozen o
        have hlt2 : w1.heap.size < wr.heap.size := hblk.lt
        clear hblk hb hrow
        go_wp2_with fail
        all_goals first
          | (have S := tally_hit (p := fun j => (L j).vessels == 0) (key := fun j => (L j).lock) HR.out hcs.out (by first | rfl | assumption | simp_all) HQ.out hq5; go_roundw; (case rel => exact ⟨k + 1, _, by omega, by go_num, (by first | exact HBk.out.set_ _ _ | exact (HBk.out.set_ _ _).alloc _ | exact HBk.out | exact HBk.out.alloc _), S.2, S.1, by have := HBl.out; exact (by repeat (first | with_reducible exact Below.refl _ _ | with_reducible assumption | with_reducible refine below_alloc ?_ _ | with_reducible refine below_more ?_ _ | (with_reducible refine below_set ?_ ?_ _; rotate_left; first | with_reducible exact Nat.le_refl _ | with_reducible assumption | (simp; done) | omega)))⟩); (case measure => simp [intOf]; omega))
          | (have S := tally_miss (p := fun j => (L j).vessels == 0) (key := fun j => (L j).lock) HR.out (by first | assumption | simp_all); go_roundw; (case rel => exact ⟨k + 1, _, by omega, by go_num, (by first | exact HBk.out.set_ _ _ | exact (HBk.out.set_ _ _).alloc _ | exact HBk.out | exact HBk.out.alloc _), hcs, S, by have := HBl.out; exact (by repeat (first | with_reducible exact Below.refl _ _ | with_reducible assumption | with_reducible refine below_alloc ?_ _ | with_reducible refine below_more ?_ _ | (with_reducible refine below_set ?_ ?_ _; rotate_left; first | with_reducible exact Nat.le_refl _ | with_reducible assumption | (simp; done) | omega)))⟩); (case measure => simp [intOf]; omega))
      · obtain rfl : k = n := by omega
        clear hb hblk
        go_wp2_with fail
        go_ret2
        refine ⟨_, _, by rw [HN.out]; rfl, ?_, below_tr b1 HBl.out⟩
        rw [HN.out]
        exact OwnS.of_blk HBk.out (by rw [hcs.out]; exact Nat.le_refl _) HR.out b1.size
  · have v2 : recList n L = false := by simpa using v1
    have HN := Lib.hid (show histN n L = 0 from by rw [histN, if_neg v1])
    have HG := Lib.hid (isRecordList_any A n c L w hn hL)
    rw [v2] at HG ⊢
    clear v1 v2
    go_enter Try.func30, Try.ntmps30
    go_wp2_with fail
    refine HG.out.mono ?_
    rintro e w1 ⟨rfl, b1⟩
    go_wp2_with fail
    go_ret2
    refine ⟨_, _, by rw [HN.out]; rfl, ?_, (by repeat (first | with_reducible exact Below.refl _ _ | with_reducible assumption | with_reducible refine below_alloc ?_ _ | with_reducible refine below_more ?_ _ | (with_reducible refine below_set ?_ ?_ _; rotate_left; first | with_reducible exact Nat.le_refl _ | with_reducible assumption | (simp; done) | omega)))⟩
    rw [HN.out]
    exact OwnS.nil
set_option maxHeartbeats 1600000 in
theorem specEmptyLockages_any (A : Option Addr) (n c : Nat) (L : Nat → Lk) (w : World) (hn : n ≤ 1048576) (hL : RdLk w A n L) :
    Calls Try.prog 29 #[.slice A n c] w fun e w' => ∃ A' c', e = .returned (.tuple #[.slice A' (histN n L) c', .bool (recList n L)]) ∧ OwnS w' w.heap.size A' (histN n L) (emptF L n) ∧ Below w.heap.size w w' := by
  by_cases v1 : recList n L = true
  · have hmk := fun W => make5 W
    generalize hz : zeros (.int .i64 0) 5 = z at hmk
    have hzr : RowI z 5 (fun _ => 0) := by rw [← hz]; exact zeros_row 5
    have hzs : z.size = 5 := by rw [← hz]; exact zeros_size _ _
    have HZ := Lib.hid hzs
    have HV := Lib.hid (fun k (hk : k < n) => rec_lock v1 hk)
    have hlen := rec_len v1
    have HN := Lib.hid (show histN n L = 5 from by rw [histN, if_pos v1])
    have HG := Lib.hid (l26Good_any A n c L w hn hL)
    rw [v1] at HG ⊢
    clear hz hzs v1
    go_enter Try.func29, Try.ntmps29
    go_wp2_with fail
    refine HG.out.mono ?_
    rintro e w1 ⟨rfl, b1⟩
    have hL1 := hL.below b1
    go_wp2_with fail
    clear hmk HG
    have HB := Lib.hid (Blk.new w1 3 z)
    go_loopw [5] (fun i wr => ∃ k cs, k ≤ n ∧ i = .int .i64 (k : Nat) ∧ Blk wr w1.heap.size 3 cs ∧ Hid (cs.size = 5) ∧ RowI cs 5 (emptF L k) ∧ Below w1.heap.size w1 wr)
      (fun i _ => n - (intOf i).toNat)
    case atStart => exact ⟨0, z, Nat.zero_le _, rfl, HB.out, HZ, hzr, (by repeat (first | with_reducible exact Below.refl _ _ | with_reducible assumption | with_reducible refine below_alloc ?_ _ | with_reducible refine below_more ?_ _ | (with_reducible refine below_set ?_ ?_ _; rotate_left; first | with_reducible exact Nat.le_refl _ | with_reducible assumption | (simp; done) | omega)))⟩
    case round =>
      obtain ⟨k, cs, hk, rfl, hblk, hcs, hrow, hb⟩ := hrel
      have HR := Lib.hid hrow
      have HBk := Lib.hid hblk
      have HBl := Lib.hid hb
      have hsz := hb.size
      by_cases hlt : k < n
      · obtain ⟨b, off, rfl, hbl, c0, c1, c2, c3, c4⟩ := hL1 k hlt
        obtain ⟨hc, hf⟩ := bcell hb
        obtain ⟨q1, q2⟩ := HV.out k hlt
        obtain ⟨q, hq⟩ := Int.eq_ofNat_of_zero_le q1
        have hq5 : q < 5 := by omega
        have HQ := Lib.hid hq
        have hcell : wr.cell? ⟨w1.heap.size, q, none⟩ = some (.int .i64 (emptF L k q)) := (hblk.cell _).trans (hrow q hq5)
        obtain ⟨t1, t2⟩ : 0 ≤ emptF L k q ∧ emptF L k q ≤ k := tally_bd _ _ k q
        have hfz : ∀ o, wr.frozen? ⟨w1.heap.size, o, none⟩ = false := fun o => hblk.frozen o
        have hlt2 : w1.heap.size < wr.heap.size := hblk.lt
        clear hblk hb hrow
        go_wp2_with fail
        all_goals first
          | (have S := tally_hit (p := fun j => (L j).vessels == 0) (key := fun j => (L j).lock) HR.out hcs.out (by first | rfl | assumption | simp_all) HQ.out hq5; go_roundw; (case rel => exact ⟨k + 1, _, by omega, by go_num, (by first | exact HBk.out.set_ _ _ | exact (HBk.out.set_ _ _).alloc _ | exact HBk.out | exact HBk.out.alloc _), S.2, S.1, by have := HBl.out; exact (by repeat (first | with_reducible exact Below.refl _ _ | with_reducible assumption | with_reducible refine below_alloc ?_ _ | with_reducible refine below_more ?_ _ | (with_reducible refine below_set ?_ ?_ _; rotate_left; first | with_reducible exact Nat.le_refl _ | with_reducible assumption | (simp; done) | omega)))⟩); (case measure => simp [intOf]; omega))
          | (have S := tally_miss (p := fun j => (L j).vessels == 0) (key := fun j => (L j).lock) HR.out (by first | assumption | simp_all); go_roundw; (case rel => exact ⟨k + 1, _, by omega, by go_num, (by first | exact HBk.out.set_ _ _ | exact (HBk.out.set_ _ _).alloc _ | exact HBk.out | exact HBk.out.alloc _), hcs, S, by have := HBl.out; exact (by repeat (first | with_reducible exact Below.refl _ _ | with_reducible assumption | with_reducible refine below_alloc ?_ _ | with_reducible refine below_more ?_ _ | (with_reducible refine below_set ?_ ?_ _; rotate_left; first | with_reducible exact Nat.le_refl _ | with_reducible assumption | (simp; done) | omega)))⟩); (case measure => simp [intOf]; omega))
      · obtain rfl : k = n := by omega
        clear hb hblk
        go_wp2_with fail
        go_ret2
        refine ⟨_, _, by rw [HN.out]; rfl, ?_, below_tr b1 HBl.out⟩
        rw [HN.out]
        exact OwnS.of_blk HBk.out (by rw [hcs.out]; exact Nat.le_refl _) HR.out b1.size
  · have v2 : recList n L = false := by simpa using v1
    have HN := Lib.hid (show histN n L = 0 from by rw [histN, if_neg v1])
    have HG := Lib.hid (l26Good_any A n c L w hn hL)
    rw [v2] at HG ⊢
    clear v1 v2
    go_enter Try.func29, Try.ntmps29
    go_wp2_with fail
    refine HG.out.mono ?_
    rintro e w1 ⟨rfl, b1⟩
    go_wp2_with fail
    go_ret2
    refine ⟨_, _, by rw [HN.out]; rfl, ?_, (by repeat (first | with_reducible exact Below.refl _ _ | with_reducible assumption | with_reducible refine below_alloc ?_ _ | with_reducible refine below_more ?_ _ | (with_reducible refine below_set ?_ ?_ _; rotate_left; first | with_reducible exact Nat.le_refl _ | with_reducible assumption | (simp; done) | omega)))⟩
    rw [HN.out]
    exact OwnS.nil
set_option maxHeartbeats 1600000 in
theorem histogramOf_any (A : Option Addr) (n c : Nat) (L : Nat → Lk) (w : World) (hn : n ≤ 1048576) (hL : RdLk w A n L) :
    Calls Try.prog 36 #[.slice A n c] w fun e w' => ∃ A' c', e = .returned (.tuple #[.slice A' (histN n L) c', .bool (recList n L)]) ∧ OwnS w' w.heap.size A' (histN n L) (histF L n) ∧ Below w.heap.size w w' := by
  by_cases v1 : recList n L = true
  · have hmk := fun W => make5 W
    generalize hz : zeros (.int .i64 0) 5 = z at hmk
    have hzr : RowI z 5 (fun _ => 0) := by rw [← hz]; exact zeros_row 5
    have hzs : z.size = 5 := by rw [← hz]; exact zeros_size _ _
    have HZ := Lib.hid hzs
    have HV := Lib.hid (fun k (hk : k < n) => rec_vessels v1 hk)
    have hlen := rec_len v1
    have HN := Lib.hid (show histN n L = 5 from by rw [histN, if_pos v1])
    have HG := Lib.hid (isRecordList_any A n c L w hn hL)
    rw [v1] at HG ⊢
    clear hz hzs v1
    go_enter Try.func36, Try.ntmps36
    go_wp2_with fail
    refine HG.out.mono ?_
    rintro e w1 ⟨rfl, b1⟩
    have hL1 := hL.below b1
    go_wp2_with fail
    clear hmk HG
    have HB := Lib.hid (Blk.new w1 3 z)
    go_loopw [13] (fun i wr => ∃ k cs, k ≤ n ∧ i = .int .i64 (k : Nat) ∧ Blk wr w1.heap.size 3 cs ∧ Hid (cs.size = 5) ∧ RowI cs 5 (histF L k) ∧ Below w1.heap.size w1 wr)
      (fun i _ => n - (intOf i).toNat)
    case atStart => exact ⟨0, z, Nat.zero_le _, rfl, HB.out, HZ, hzr, (by repeat (first | with_reducible exact Below.refl _ _ | with_reducible assumption | with_reducible refine below_alloc ?_ _ | with_reducible refine below_more ?_ _ | (with_reducible refine below_set ?_ ?_ _; rotate_left; first | with_reducible exact Nat.le_refl _ | with_reducible assumption | (simp; done) | omega)))⟩
    case round =>
      obtain ⟨k, cs, hk, rfl, hblk, hcs, hrow, hb⟩ := hrel
      have HR := Lib.hid hrow
      have HBk := Lib.hid hblk
      have HBl := Lib.hid hb
      have hsz := hb.size
      by_cases hlt : k < n
      · obtain ⟨b, off, rfl, hbl, c0, c1, c2, c3, c4⟩ := hL1 k hlt
        obtain ⟨hc, hf⟩ := bcell hb
        obtain ⟨q1, q2⟩ := HV.out k hlt
        obtain ⟨q, hq⟩ := Int.eq_ofNat_of_zero_le q1
        have hq5 : q < 5 := by omega
        have HQ := Lib.hid hq
        have hcell : wr.cell? ⟨w1.heap.size, q, none⟩ = some (.int .i64 (histF L k q)) := (hblk.cell _).trans (hrow q hq5)
        obtain ⟨t1, t2⟩ : 0 ≤ histF L k q ∧ histF L k q ≤ k := tally_bd _ _ k q
        have hfz : ∀ o, wr.frozen? ⟨w1.heap.size, o, none⟩ = false := fun o => hblk.frozen o
        have hlt2 : w1.heap.size < wr.heap.size := hblk.lt
        clear hblk hb hrow
        go_wp2_with fail
        all_goals first
          | (have S := tally_hit (p := fun _ => true) (key := fun j => (L j).vessels) HR.out hcs.out (by first | rfl | assumption | simp_all) HQ.out hq5; go_roundw; (case rel => exact ⟨k + 1, _, by omega, by go_num, (by first | exact HBk.out.set_ _ _ | exact (HBk.out.set_ _ _).alloc _ | exact HBk.out | exact HBk.out.alloc _), S.2, S.1, by have := HBl.out; exact (by repeat (first | with_reducible exact Below.refl _ _ | with_reducible assumption | with_reducible refine below_alloc ?_ _ | with_reducible refine below_more ?_ _ | (with_reducible refine below_set ?_ ?_ _; rotate_left; first | with_reducible exact Nat.le_refl _ | with_reducible assumption | (simp; done) | omega)))⟩); (case measure => simp [intOf]; omega))
          | (have S := tally_miss (p := fun _ => true) (key := fun j => (L j).vessels) HR.out (by first | assumption | simp_all); go_roundw; (case rel => exact ⟨k + 1, _, by omega, by go_num, (by first | exact HBk.out.set_ _ _ | exact (HBk.out.set_ _ _).alloc _ | exact HBk.out | exact HBk.out.alloc _), hcs, S, by have := HBl.out; exact (by repeat (first | with_reducible exact Below.refl _ _ | with_reducible assumption | with_reducible refine below_alloc ?_ _ | with_reducible refine below_more ?_ _ | (with_reducible refine below_set ?_ ?_ _; rotate_left; first | with_reducible exact Nat.le_refl _ | with_reducible assumption | (simp; done) | omega)))⟩); (case measure => simp [intOf]; omega))
      · obtain rfl : k = n := by omega
        clear hb hblk
        go_wp2_with fail
        go_ret2
        refine ⟨_, _, by rw [HN.out]; rfl, ?_, below_tr b1 HBl.out⟩
        rw [HN.out]
        exact OwnS.of_blk HBk.out (by rw [hcs.out]; exact Nat.le_refl _) HR.out b1.size
  · have v2 : recList n L = false := by simpa using v1
    have HN := Lib.hid (show histN n L = 0 from by rw [histN, if_neg v1])
    have HG := Lib.hid (isRecordList_any A n c L w hn hL)
    rw [v2] at HG ⊢
    clear v1 v2
    go_enter Try.func36, Try.ntmps36
    go_wp2_with fail
    refine HG.out.mono ?_
    rintro e w1 ⟨rfl, b1⟩
    go_wp2_with fail
    go_ret2
    refine ⟨_, _, by rw [HN.out]; rfl, ?_, (by repeat (first | with_reducible exact Below.refl _ _ | with_reducible assumption | with_reducible refine below_alloc ?_ _ | with_reducible refine below_more ?_ _ | (with_reducible refine below_set ?_ ?_ _; rotate_left; first | with_reducible exact Nat.le_refl _ | with_reducible assumption | (simp; done) | omega)))⟩
    rw [HN.out]
    exact OwnS.nil
theorem specHistogramOf_any (A : Option Addr) (n c : Nat) (L : Nat → Lk) (w : World) (hn : n ≤ 1048576) (hL : RdLk w A n L) :
    Calls Try.prog 35 #[.slice A n c] w fun e w' => ∃ A' c', e = .returned (.tuple #[.slice A' (histN n L) c', .bool (recList n L)]) ∧ OwnS w' w.heap.size A' (histN n L) (histF L n) ∧ Below w.heap.size w w' := by
  have HG := Lib.hid (l26Good_any A n c L w hn hL)
  by_cases v1 : recList n L = true
  · have HH := Lib.hid (fun W (h : RdLk W A n L) => l26Histogram_any A n c L W v1 h)
    have HN := Lib.hid (show histN n L = 5 from by rw [histN, if_pos v1])
    rw [v1] at HG ⊢
    clear v1
    go_enter Try.func35, Try.ntmps35
    go_wp2_with fail
    refine HG.out.mono ?_
    rintro e w1 ⟨rfl, b1⟩
    have hL1 := hL.below b1
    go_wp2_with fail
    refine (HH.out _ hL1).mono ?_
    rintro e w2 ⟨A', c', rfl, ho, b2⟩
    go_wp2_with fail
    go_ret2
    refine ⟨A', c', by rw [HN.out]; rfl, ?_, below_tr b1 b2⟩
    rw [HN.out]
    exact ho.mono b1.size
  · have v2 : recList n L = false := by simpa using v1
    have HN := Lib.hid (show histN n L = 0 from by rw [histN, if_neg v1])
    rw [v2] at HG ⊢
    clear v1 v2
    go_enter Try.func35, Try.ntmps35
    go_wp2_with fail
    refine HG.out.mono ?_
    rintro e w1 ⟨rfl, b1⟩
    go_wp2_with fail
    go_ret2
    refine ⟨_, _, by rw [HN.out]; rfl, ?_, (by repeat (first | with_reducible exact Below.refl _ _ | with_reducible assumption | with_reducible refine below_alloc ?_ _ | with_reducible refine below_more ?_ _ | (with_reducible refine below_set ?_ ?_ _; rotate_left; first | with_reducible exact Nat.le_refl _ | with_reducible assumption | (simp; done) | omega)))⟩
    rw [HN.out]
    exact OwnS.nil
end Go.Proofs.Ytpjgjfdbffideaa
