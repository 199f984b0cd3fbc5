/-
  LoadsOf, in the program and in the reference.
  Conditions: none beyond each statement's own premises.
-/
import Derived.Test.YtbbafdcmgobkeaaC2
namespace Go.Proofs.Ytbbafdcmgobkeaa
set_option linter.unusedSimpArgs false
set_option linter.unusedVariables false
open Go.RowKit
/-- How many of the first k are i. -/
def cntOf (f : Nat → Int) : Nat → Nat → Int
  | 0, _ => 0
  | k + 1, i => if f k = (i : Int) then cntOf f k i + 1 else cntOf f k i
theorem cntOf_bd (f : Nat → Int) : ∀ k i, 0 ≤ cntOf f k i ∧ cntOf f k i ≤ k
  | 0, _ => by simp [cntOf]
  | k + 1, i => by
    have := cntOf_bd f k i
    simp only [cntOf]
    split <;> omega
theorem cntOf_hit {f : Nat → Int} {cs : Array Value} {n k q : Nat} (h : RowI cs n (cntOf f k)) (hs : cs.size = n) (hq : f k = (q : Int)) (h5 : q < n) :
    RowI (cs.setIfInBounds q (.int .i64 (cntOf f k q + 1))) n (cntOf f (k + 1)) ∧ (cs.setIfInBounds q (.int .i64 (cntOf f k q + 1))).size = n := by
  refine ⟨fun i hi => ?_, by simp [hs]⟩
  by_cases e : i = q
  · subst e
    rw [Array.getElem?_setIfInBounds, if_pos rfl, if_pos (by omega), cntOf, if_pos hq]
  · rw [Array.getElem?_setIfInBounds, if_neg (by omega), cntOf, if_neg (fun x => e (by omega))]
    exact h i hi
def ldN (d : Du) : Nat := if d.ok = true then d.n else 0
theorem ldN_le (d : Du) (h : d.n ≤ 1048576) : ldN d ≤ 1048576 := by
  unfold ldN
  split <;> omega
theorem makeI (n : Nat) (hn : n ≤ 1048576) (W : World) : (Instr.makeSlice 23 (.int .i64 n) (.int .i64 n)).run Try.prog W = .ok (.slice (some ⟨W.heap.size, 0, none⟩) n n) (W.alloc (.cells (zeros (.int .i64 0) n) 3)) := by
  have := run_make_z (P := Try.prog) 23 3 _ _ _ Try.underlying23 int_info .i64 .i64 n hn (by omega) W
  rw [Nat.mul_one] at this
  exact this
set_option maxHeartbeats 1600000 in
theorem loadsOf_any (A1 A2 : Option Addr) (c1 c2 : Nat) (d : Du) (w : World) (hd : d.ok = true) (h : IsDu w A1 A2 d) :
    Calls Try.prog 71 #[.agg #[.int .i64 d.ce, .slice A1 d.n c1, .slice A2 d.m c2]] w fun e w' => ∃ A' c', e = .returned (.slice A' d.n c') ∧ OwnS w' w.heap.size A' d.n (cntOf d.lk d.m) ∧ Below w.heap.size w w' := by
  obtain ⟨g1, g2, g3, g4, g5, g6⟩ := Du.ok_facts hd
  obtain ⟨ce, n, act, m, lk⟩ := d
  simp only at *
  subst g3
  have HV := Lib.hid (fun k (hk : k < m) => (show 0 ≤ lk k ∧ lk k < n from ⟨(g6 k hk).1, (g6 k hk).2.1⟩))
  have HI := Lib.hid h.2
  have hmk := makeI n (by omega)
  generalize hz : zeros (.int .i64 0) n = z at hmk
  have hzr : RowI z n (fun _ => 0) := by rw [← hz]; exact zeros_row n
  have hzs : z.size = n := by rw [← hz]; exact (zeros_size _ _)
  have HZ := Lib.hid hzs
  have HZR := Lib.hid hzr
  clear hz hzs hzr g6 hd h
  go_enter Try.func71, Try.ntmps71
  go_wp2_with fail
  clear hmk
  have HX := Lib.hid (show Blk ((w.alloc (.cells #[.int .i64 n, .slice A1 n c1, .slice A2 m c2] 28)).alloc (.cells z 3)) w.heap.size 28 #[.int .i64 n, .slice A1 n c1, .slice A2 m c2] from (Blk.new _ _ _).alloc _)
  have HB := Lib.hid (show Blk ((w.alloc (.cells #[.int .i64 n, .slice A1 n c1, .slice A2 m c2] 28)).alloc (.cells z 3)) (w.heap.size + 1) 3 z from Blk.at_ (by simp))
  have HC := Lib.hid (show Below w.heap.size w ((w.alloc (.cells #[.int .i64 n, .slice A1 n c1, .slice A2 m c2] 28)).alloc (.cells z 3)) from (by repeat (first | with_reducible exact Below.refl _ _ | with_reducible assumption | with_reducible refine below_alloc ?_ _ | with_reducible refine below_more ?_ _ | (with_reducible refine below_set ?_ ?_ _; rotate_left; focus (first | with_reducible exact Nat.le_refl _ | with_reducible assumption | (simp; done) | (simp; omega) | omega)))))
  go_loopw [12] (fun i wr => ∃ k cs, k ≤ m ∧ i = .int .i64 (k : Nat) ∧ Blk wr (w.heap.size + 1) 3 cs ∧ Hid (cs.size = n) ∧ RowI cs n (cntOf lk k) ∧ Blk wr w.heap.size 28 #[.int .i64 n, .slice A1 n c1, .slice A2 m c2] ∧ Below w.heap.size w wr)
    (fun i _ => m - (intOf i).toNat)
  case atStart => exact ⟨0, z, Nat.zero_le _, rfl, HB.out, HZ, HZR.out, HX.out, HC.out⟩
  case round =>
    obtain ⟨k, cs, hk, rfl, hblk, hcs, hrow, hbx, hb⟩ := hrel
    have HR := Lib.hid hrow
    have HBk := Lib.hid hblk
    have HBx := Lib.hid hbx
    have HBl := Lib.hid hb
    have hsz := hb.size
    have qx := fun o => hbx.cell o
    have hlt3 : w.heap.size < wr.heap.size := hbx.lt
    by_cases hlt : k < m
    · obtain ⟨b, off, rfl, hbl, c0⟩ := HI.out k hlt
      obtain ⟨hc, hf⟩ := bcell hb
      obtain ⟨q1, q2⟩ := HV.out k hlt
      obtain ⟨q, hq⟩ := Int.eq_ofNat_of_zero_le q1
      have hq5 : q < n := by omega
      have HQ := Lib.hid hq
      have hcell : wr.cell? ⟨(w.heap.size + 1), q, none⟩ = some (.int .i64 (cntOf lk k q)) := (hblk.cell _).trans (hrow q hq5)
      obtain ⟨t1, t2⟩ : 0 ≤ cntOf lk k q ∧ cntOf lk k q ≤ k := cntOf_bd _ k q
      have hfz : ∀ o, wr.frozen? ⟨(w.heap.size + 1), o, none⟩ = false := fun o => hblk.frozen o
      have hlt2 : (w.heap.size + 1) < wr.heap.size := hblk.lt
      rw [hq] at c0
      clear hblk hb hrow hbx q1 q2 hq
      go_wp2_with fail
      go_roundw
      case rel =>
        have S := cntOf_hit (f := lk) HR.out hcs.out HQ.out hq5
        exact ⟨k + 1, _, by omega, by go_num, HBk.out.set_ _ _, Lib.hid S.2, S.1, HBx.out.far (by first | (simp; done) | (simp; omega)) _, by have := HBl.out; exact (by repeat (first | with_reducible exact Below.refl _ _ | with_reducible assumption | with_reducible refine below_alloc ?_ _ | with_reducible refine below_more ?_ _ | (with_reducible refine below_set ?_ ?_ _; rotate_left; focus (first | with_reducible exact Nat.le_refl _ | with_reducible assumption | (simp; done) | (simp; omega) | omega))))⟩
      case measure => simp [intOf]; omega
    · obtain rfl : k = m := by omega
      clear hb hblk hbx
      go_wp2_with fail
      go_ret
      exact ⟨_, _, rfl, OwnS.of_blk HBk.out (by rw [hcs.out]; exact Nat.le_refl _) HR.out (by omega), HBl.out⟩
theorem implLoadsOf_any (A1 A2 : Option Addr) (c1 c2 : Nat) (d : Du) (w : World) (hn1 : d.n ≤ 1048576) (hn2 : d.m ≤ 1048576) (h : IsDu w A1 A2 d) :
    Calls Try.prog 31 #[.agg #[.int .i64 d.ce, .slice A1 d.n c1, .slice A2 d.m c2]] w fun e w' => ∃ A' c', e = .returned (.tuple #[.slice A' (ldN d) c', .bool d.ok]) ∧ OwnS w' w.heap.size A' (ldN d) (cntOf d.lk d.m) ∧ Below w.heap.size w w' := by
  obtain ⟨x, ex⟩ : ∃ x, d.ok = x := ⟨_, rfl⟩
  have EX := Lib.hid ex
  go_enter Try.func31, Try.ntmps31
  go_wp2_with fail
  generalize hu : (w.alloc (.cells #[.int .i64 d.ce, .slice A1 d.n c1, .slice A2 d.m c2] 28)) = u
  have bu : Below w.heap.size w u := by rw [← hu]; exact (by repeat (first | with_reducible exact Below.refl _ _ | with_reducible assumption | with_reducible refine below_alloc ?_ _ | with_reducible refine below_more ?_ _ | (with_reducible refine below_set ?_ ?_ _; rotate_left; focus (first | with_reducible exact Nat.le_refl _ | with_reducible assumption | (simp; done) | (simp; omega) | omega))))
  have Bu : Blk u w.heap.size 28 #[.int .i64 d.ce, .slice A1 d.n c1, .slice A2 d.m c2] := by rw [← hu]; exact Blk.new _ _ _
  have eu : u.heap.size = w.heap.size + 1 := by rw [← hu]; simp
  clear hu
  have qu := fun o => Bu.cell o
  have lu := Bu.lt
  have su := bu.size
  clear eu
  refine (isValidDuty_any A1 A2 c1 c2 d _ hn1 hn2 (h.below bu)).mono ?_
  rw [EX.out]
  rintro e w1 ⟨rfl, b1⟩
  replace Bu := Bu.below b1
  clear qu
  have qu := fun o => Bu.cell o
  have C := below_tr bu b1
  cases x with
  | false =>
    have HN := Lib.hid (show ldN d = 0 from by rw [ldN, ex]; rfl)
    clear ex
    go_wp2_with fail
    go_ret2
    rw [HN.out, EX.out]
    exact ⟨_, _, rfl, OwnS.nil, C⟩
  | true =>
    have HN := Lib.hid (show ldN d = d.n from by rw [ldN, if_pos ex])
    clear ex
    go_wp2_with fail
    refine (loadsOf_any A1 A2 c1 c2 d _ EX.out (h.below C)).mono ?_
    rintro e w2 ⟨A', c', rfl, ho, b2⟩
    go_wp2_with fail
    go_ret2
    rw [HN.out, EX.out]
    exact ⟨_, _, rfl, ho.mono C.size, below_tr C b2⟩
set_option maxHeartbeats 1600000 in
theorem specLoadsOf_any (A1 A2 : Option Addr) (c1 c2 : Nat) (d : Du) (w : World) (hn1 : d.n ≤ 1048576) (hn2 : d.m ≤ 1048576) (h : IsDu w A1 A2 d) :
    Calls Try.prog 30 #[.agg #[.int .i64 d.ce, .slice A1 d.n c1, .slice A2 d.m c2]] w fun e w' => ∃ A' c', e = .returned (.tuple #[.slice A' (ldN d) c', .bool d.ok]) ∧ OwnS w' w.heap.size A' (ldN d) (cntOf d.lk d.m) ∧ Below w.heap.size w w' := by
  obtain ⟨x, ex⟩ : ∃ x, d.ok = x := ⟨_, rfl⟩
  have EX := Lib.hid ex
  cases x with
  | false =>
    have HN := Lib.hid (show ldN d = 0 from by rw [ldN, ex]; rfl)
    clear ex
    go_enter Try.func30, Try.ntmps30
    go_wp2_with fail
    generalize hu : (w.alloc (.cells #[.int .i64 d.ce, .slice A1 d.n c1, .slice A2 d.m c2] 28)) = u
    have bu : Below w.heap.size w u := by rw [← hu]; exact (by repeat (first | with_reducible exact Below.refl _ _ | with_reducible assumption | with_reducible refine below_alloc ?_ _ | with_reducible refine below_more ?_ _ | (with_reducible refine below_set ?_ ?_ _; rotate_left; focus (first | with_reducible exact Nat.le_refl _ | with_reducible assumption | (simp; done) | (simp; omega) | omega))))
    have Bu : Blk u w.heap.size 28 #[.int .i64 d.ce, .slice A1 d.n c1, .slice A2 d.m c2] := by rw [← hu]; exact Blk.new _ _ _
    have eu : u.heap.size = w.heap.size + 1 := by rw [← hu]; simp
    clear hu
    have qu := fun o => Bu.cell o
    have lu := Bu.lt
    have su := bu.size
    clear eu
    refine (l25Good_any A1 A2 c1 c2 d _ hn1 hn2 (h.below bu)).mono ?_
    rw [EX.out]
    rintro e w1 ⟨rfl, b1⟩
    go_wp2_with fail
    go_ret2
    rw [HN.out, EX.out]
    exact ⟨_, _, rfl, OwnS.nil, below_alloc (below_tr bu b1) _⟩
  | true =>
  have HN := Lib.hid (show ldN d = d.n from by rw [ldN, if_pos ex])
  obtain ⟨g1, g2, g3, g4, g5, g6⟩ := Du.ok_facts ex
  rw [HN.out, ex]
  clear HN ex
  have HG := Lib.hid (fun W hW => l25Good_any A1 A2 c1 c2 d W hn1 hn2 hW)
  rw [EX.out] at HG
  clear EX
  obtain ⟨ce, n, act, m, lk⟩ := d
  simp only at *
  subst g3
  have HV := Lib.hid (fun k (hk : k < m) => (show 0 ≤ lk k ∧ lk k < n from ⟨(g6 k hk).1, (g6 k hk).2.1⟩))
  have HI := Lib.hid h.2
  have hmk := makeI n (by omega)
  generalize hz : zeros (.int .i64 0) n = z at hmk
  have hzr : RowI z n (fun _ => 0) := by rw [← hz]; exact zeros_row n
  have hzs : z.size = n := by rw [← hz]; exact (zeros_size _ _)
  have HZ := Lib.hid hzs
  have HZR := Lib.hid hzr
  clear hz hzs hzr g6
  go_enter Try.func30, Try.ntmps30
  go_wp2_with fail
  generalize hu : (w.alloc (.cells #[.int .i64 n, .slice A1 n c1, .slice A2 m c2] 28)) = u
  have bu : Below w.heap.size w u := by rw [← hu]; exact (by repeat (first | with_reducible exact Below.refl _ _ | with_reducible assumption | with_reducible refine below_alloc ?_ _ | with_reducible refine below_more ?_ _ | (with_reducible refine below_set ?_ ?_ _; rotate_left; focus (first | with_reducible exact Nat.le_refl _ | with_reducible assumption | (simp; done) | (simp; omega) | omega))))
  have Bu : Blk u w.heap.size 28 #[.int .i64 n, .slice A1 n c1, .slice A2 m c2] := by rw [← hu]; exact Blk.new _ _ _
  have eu : u.heap.size = w.heap.size + 1 := by rw [← hu]; simp
  clear hu
  have qu := fun o => Bu.cell o
  have lu := Bu.lt
  have su := bu.size
  clear eu
  refine (HG.out _ (h.below bu)).mono ?_
  rintro e w1 ⟨rfl, b1⟩
  replace Bu := Bu.below b1
  clear qu
  have qu := fun o => Bu.cell o
  have C := below_tr bu b1
  have s1 := b1.size
  go_wp2_with fail
  clear hmk h
  have HX := Lib.hid (Bu.alloc (.cells z 3))
  have HB := Lib.hid (Blk.new w1 3 z)
  have HC := Lib.hid (below_alloc C (.cells z 3))
  clear qu Bu C
  go_loopw [5] (fun i wr => ∃ k cs, k ≤ m ∧ i = .int .i64 (k : Nat) ∧ Blk wr w1.heap.size 3 cs ∧ Hid (cs.size = n) ∧ RowI cs n (cntOf lk k) ∧ Blk wr w.heap.size 28 #[.int .i64 n, .slice A1 n c1, .slice A2 m c2] ∧ Below w.heap.size w wr)
    (fun i _ => m - (intOf i).toNat)
  case atStart => exact ⟨0, z, Nat.zero_le _, rfl, HB.out, HZ, HZR.out, HX.out, HC.out⟩
  case round =>
    obtain ⟨k, cs, hk, rfl, hblk, hcs, hrow, hbx, hb⟩ := hrel
    have HR := Lib.hid hrow
    have HBk := Lib.hid hblk
    have HBx := Lib.hid hbx
    have HBl := Lib.hid hb
    have hsz := hb.size
    have qx := fun o => hbx.cell o
    have hlt3 : w.heap.size < wr.heap.size := hbx.lt
    by_cases hlt : k < m
    · obtain ⟨b, off, rfl, hbl, c0⟩ := HI.out k hlt
      obtain ⟨hc, hf⟩ := bcell hb
      obtain ⟨q1, q2⟩ := HV.out k hlt
      obtain ⟨q, hq⟩ := Int.eq_ofNat_of_zero_le q1
      have hq5 : q < n := by omega
      have HQ := Lib.hid hq
      have hcell : wr.cell? ⟨w1.heap.size, q, none⟩ = some (.int .i64 (cntOf lk k q)) := (hblk.cell _).trans (hrow q hq5)
      obtain ⟨t1, t2⟩ : 0 ≤ cntOf lk k q ∧ cntOf lk k q ≤ k := cntOf_bd _ k q
      have hfz : ∀ o, wr.frozen? ⟨w1.heap.size, o, none⟩ = false := fun o => hblk.frozen o
      have hlt2 : w1.heap.size < wr.heap.size := hblk.lt
      rw [hq] at c0
      clear hblk hb hrow hbx q1 q2 hq
      go_wp2_with fail
      go_roundw
      case rel =>
        have S := cntOf_hit (f := lk) HR.out hcs.out HQ.out hq5
        exact ⟨k + 1, _, by omega, by go_num, HBk.out.set_ _ _, Lib.hid S.2, S.1, HBx.out.far (by first | (simp; done) | (simp; omega)) _, by have := HBl.out; exact (by repeat (first | with_reducible exact Below.refl _ _ | with_reducible assumption | with_reducible refine below_alloc ?_ _ | with_reducible refine below_more ?_ _ | (with_reducible refine below_set ?_ ?_ _; rotate_left; focus (first | with_reducible exact Nat.le_refl _ | with_reducible assumption | (simp; done) | (simp; omega) | omega))))⟩
      case measure => simp [intOf]; omega
    · obtain rfl : k = m := by omega
      clear hb hblk hbx
      go_wp2_with fail
      go_ret2
      exact ⟨_, _, rfl, OwnS.of_blk HBk.out (by rw [hcs.out]; exact Nat.le_refl _) HR.out (by omega), HBl.out⟩
end Go.Proofs.Ytbbafdcmgobkeaa
