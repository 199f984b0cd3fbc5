/-
  Duties: the marks that the laws write into them and look for.
  Conditions: none beyond each statement's own premises.
-/
import Derived.Test.YtbbafdcmgobkeaaDu
namespace Go.Proofs.Ytbbafdcmgobkeaa
set_option linter.unusedSimpArgs false
set_option linter.unusedVariables false
open Go.RowKit
theorem rowOf_pos {A : Option Addr} {n g : Nat} (h : 0 < n) (e : A = some ⟨g, 0, none⟩) : rowOf A n = some g := by
  rw [rowOf, if_neg (by omega), e]; rfl
theorem rowOf_some {g o : Nat} {n k : Nat} (h : rowOf (some ⟨g, o, none⟩) n = some k) : k = g := by
  unfold rowOf at h
  split at h
  · cases h
  · simpa using h.symm
theorem OwnS.apart {w w' : World} {B : Nat} {A : Option Addr} {n : Nat} {f : Nat → Int} (h : OwnS w B A n f) {r : Option Nat} (hg : w.grownBy w' r) (hr : ∀ k, rowOf A n = some k → r ≠ some k) : OwnS w' B A n f := fun h0 => by
  obtain ⟨g, cs, e, h1, h2, h3⟩ := h h0
  exact ⟨g, cs, e, h1, h2.grown hg (fun x => hr g (rowOf_pos h0 e) x.symm), h3⟩
theorem OwnB.apart {w w' : World} {B : Nat} {A : Option Addr} {n : Nat} {f : Nat → Bool} (h : OwnB w B A n f) {r : Option Nat} (hg : w.grownBy w' r) (hr : ∀ k, rowOf A n = some k → r ≠ some k) : OwnB w' B A n f := fun h0 => by
  obtain ⟨g, cs, e, h1, h2, h3⟩ := h h0
  exact ⟨g, cs, e, h1, h2.grown hg (fun x => hr g (rowOf_pos h0 e) x.symm), h3⟩
theorem OwnS.row_lt {w : World} {B : Nat} {A : Option Addr} {n : Nat} {f : Nat → Int} (h : OwnS w B A n f) : ∀ k, rowOf A n = some k → k < w.heap.size := fun k hk => by
  rcases Nat.eq_zero_or_pos n with rfl | hp
  · simp [rowOf] at hk
  · obtain ⟨g, cs, rfl, h1, h2, _⟩ := h hp
    rw [rowOf_pos hp rfl] at hk
    cases hk
    exact h2.lt
theorem OwnB.row_lt {w : World} {B : Nat} {A : Option Addr} {n : Nat} {f : Nat → Bool} (h : OwnB w B A n f) : ∀ k, rowOf A n = some k → k < w.heap.size := fun k hk => by
  rcases Nat.eq_zero_or_pos n with rfl | hp
  · simp [rowOf] at hk
  · obtain ⟨g, cs, rfl, h1, h2, _⟩ := h hp
    rw [rowOf_pos hp rfl] at hk
    cases hk
    exact h2.lt
theorem grownBy_tr {w w' w2 : World} {r : Option Nat} (h : w.grownBy w' r) (k : w'.grownBy w2 r) : w.grownBy w2 r :=
  ⟨k.os.trans h.os, k.tape.trans h.tape, k.output.trans h.output, Nat.le_trans h.size k.size, fun i hi hne => (k.block i (Nat.lt_of_lt_of_le hi h.size) hne).trans (h.block i hi hne)⟩
theorem grownBy_below {w w' w2 : World} {r : Option Nat} (h : w.grownBy w' r) (k : Below w'.heap.size w' w2) : w.grownBy w2 r :=
  ⟨k.os.trans h.os, k.tape.trans h.tape, k.output.trans h.output, Nat.le_trans h.size k.size, fun i hi hne => (k.block i (Nat.lt_of_lt_of_le hi h.size)).trans (h.block i hi hne)⟩
/-- A duty whose slices are its own, from block B on. -/
def OwnDu (w : World) (B : Nat) (A1 A2 : Option Addr) (d : Du) : Prop := OwnB w B A1 d.n d.act ∧ OwnS w B A2 d.m d.lk ∧ ∀ k, rowOf A1 d.n = some k → rowOf A2 d.m ≠ some k
theorem OwnDu.rd {w : World} {B : Nat} {A1 A2 : Option Addr} {d : Du} (h : OwnDu w B A1 A2 d) : IsDu w A1 A2 d := ⟨h.1.rd, h.2.1.rd⟩
theorem OwnDu.below {w w' : World} {B : Nat} {A1 A2 : Option Addr} {d : Du} (h : OwnDu w B A1 A2 d) (hb : Below w.heap.size w w') : OwnDu w' B A1 A2 d := ⟨h.1.below hb, h.2.1.below hb, h.2.2⟩
theorem OwnDu.mono {w : World} {B B' : Nat} {A1 A2 : Option Addr} {d : Du} (h : OwnDu w B A1 A2 d) (hB : B' ≤ B) : OwnDu w B' A1 A2 d := ⟨h.1.mono hB, h.2.1.mono hB, h.2.2⟩
theorem OwnDu.grown {w w' : World} {B : Nat} {A1 A2 : Option Addr} {d : Du} (h : OwnDu w B A1 A2 d) {r : Option Nat} (hg : w.grownBy w' r) (hr : ∀ k, r = some k → k < B) : OwnDu w' B A1 A2 d := ⟨h.1.grown hg hr, h.2.1.grown hg hr, h.2.2⟩
/-- The duty that the marks from j on leave. -/
def Du.marked (d : Du) (j : Int) : Du := ⟨d.ce, d.n, markB j, d.m, fun i => j + d.n + i⟩
set_option maxHeartbeats 800000 in
theorem markDuty_own (A1 A2 : Option Addr) (c1 c2 B : Nat) (j : Int) (d : Du) (w : World) (hn1 : d.n ≤ 1048576) (hn2 : d.m ≤ 1048576) (h0 : 0 ≤ j) (h1 : j ≤ 1000000000) (h : OwnDu w B A1 A2 d) (hB : B ≤ w.heap.size) :
    Calls Try.prog 27 #[.agg #[.int .i64 d.ce, .slice A1 d.n c1, .slice A2 d.m c2], .int .i64 j] w fun e w' => e = .returned (.int .i64 (j + d.n + d.m)) ∧ ∃ wm, w.grownBy wm (rowOf A1 d.n) ∧ wm.grownBy w' (rowOf A2 d.m) ∧ OwnDu w' B A1 A2 (d.marked j) := by
  obtain ⟨h2, h3, h4⟩ := h
  have r1 := h2.row_lt
  have r2 := h3.row_lt
  go_enter Try.func27, Try.ntmps27
  go_wp2_with fail
  generalize hu : (w.alloc (.cells #[.int .i64 d.ce, .slice A1 d.n c1, .slice A2 d.m c2] 28)) = u
  have bu : Below w.heap.size w u := by rw [← hu]; exact (by repeat (first | with_reducible exact Below.refl _ _ | with_reducible assumption | with_reducible refine below_alloc ?_ _ | with_reducible refine below_more ?_ _ | (with_reducible refine below_set ?_ ?_ _; rotate_left; focus (first | with_reducible exact Nat.le_refl _ | with_reducible assumption | (simp; done) | (simp; omega) | omega))))
  have gu : w.grownBy u (rowOf A1 d.n) := by rw [← hu]; exact World.grownBy_alloc _ _ _
  have Bu : Blk u w.heap.size 28 #[.int .i64 d.ce, .slice A1 d.n c1, .slice A2 d.m c2] := by rw [← hu]; exact Blk.new _ _ _
  clear hu
  have qu := fun o => Bu.cell o
  go_wp2_with fail
  refine (markBoolS_own A1 d.n c1 B j d.act _ hn1 h0 (by omega) (h2.below bu)).mono ?_
  rintro e w1 ⟨rfl, gm1, O1⟩
  replace Bu := Bu.grown gm1 (fun x => by have := r1 _ x.symm; omega)
  clear qu
  have qu := fun o => Bu.cell o
  have O3 := (h3.below bu).apart gm1 (fun k hk x => h4 k x hk)
  go_wp2_with fail
  refine (markIntS_own A2 d.m c2 B (j + d.n) d.lk _ hn2 (by omega) (by omega) O3).mono ?_
  rintro e w2 ⟨rfl, gm2, O2⟩
  go_wp2_with fail
  go_ret
  exact ⟨rfl, w1, grownBy_tr gu gm1, gm2, O1.apart gm2 (fun k hk x => h4 k hk x), O2, h4⟩
set_option maxHeartbeats 800000 in
theorem heldDuty_any (A1 A2 : Option Addr) (c1 c2 : Nat) (j : Int) (d : Du) (w : World) (hn1 : d.n ≤ 1048576) (hn2 : d.m ≤ 1048576) (h0 : 0 ≤ j) (h1 : j ≤ 1000000000) (h : IsDu w A1 A2 (d.marked j)) :
    Calls Try.prog 34 #[.agg #[.int .i64 d.ce, .slice A1 d.n c1, .slice A2 d.m c2], .int .i64 j] w (Post (.int .i64 (j + d.n + d.m)) w) := by
  go_enter Try.func34, Try.ntmps34
  go_wp2_with fail
  generalize hu : (w.alloc (.cells #[.int .i64 d.ce, .slice A1 d.n c1, .slice A2 d.m c2] 28)) = u
  have bu : Below w.heap.size w u := by rw [← hu]; exact (by repeat (first | with_reducible exact Below.refl _ _ | with_reducible assumption | with_reducible refine below_alloc ?_ _ | with_reducible refine below_more ?_ _ | (with_reducible refine below_set ?_ ?_ _; rotate_left; focus (first | with_reducible exact Nat.le_refl _ | with_reducible assumption | (simp; done) | (simp; omega) | omega))))
  have Bu : Blk u w.heap.size 28 #[.int .i64 d.ce, .slice A1 d.n c1, .slice A2 d.m c2] := by rw [← hu]; exact Blk.new _ _ _
  have eu : u.heap.size = w.heap.size + 1 := by rw [← hu]; simp
  clear hu
  have qu := fun o => Bu.cell o
  have lu := Bu.lt
  have su := bu.size
  clear eu
  go_wp2_with fail
  refine (heldBoolS_any A1 d.n c1 j _ hn1 h0 (by omega) (h.1.below bu)).mono ?_
  rintro e w1 ⟨rfl, b1⟩
  replace Bu := Bu.below b1
  clear qu
  have qu := fun o => Bu.cell o
  have C := below_tr bu b1
  go_wp2_with fail
  refine (heldIntS_any A2 d.m c2 (j + d.n) _ hn2 (by omega) (by omega) (h.2.below C)).mono ?_
  rintro e w2 ⟨rfl, b2⟩
  replace C := below_tr C b2
  go_wp2_with fail
  go_ret
  exact ⟨rfl, C⟩
end Go.Proofs.Ytbbafdcmgobkeaa
