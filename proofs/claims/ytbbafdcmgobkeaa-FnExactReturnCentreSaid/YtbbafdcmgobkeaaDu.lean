/-
  Duties: the Lean structure, what a slice of them reads as, and the contracts of the laws' own helpers on them.
  Conditions: none beyond each statement's own premises.
-/
import Derived.Test.YtbbafdcmgobkeaaOpenI
namespace Go.Proofs.Ytbbafdcmgobkeaa
set_option linter.unusedSimpArgs false
set_option linter.unusedVariables false
open Go.RowKit
structure Du where
  ce : Int
  n : Nat
  act : Nat → Bool
  m : Nat
  lk : Nat → Int
/-- The slices of a value at these addresses read as the structure says. -/
def IsDu (w : World) (A1 A2 : Option Addr) (d : Du) : Prop := RdB w A1 d.n d.act ∧ RdI w A2 d.m d.lk
theorem IsDu.below {w w' : World} {A1 A2 : Option Addr} {d : Du} (h : IsDu w A1 A2 d) (hb : Below w.heap.size w w') : IsDu w' A1 A2 d := by
  obtain ⟨h1, h2⟩ := h
  exact ⟨h1.below hb, h2.below hb⟩
theorem IsDu.kept {w w' w0 : World} {A1 A2 : Option Addr} {d : Du} (h : IsDu w A1 A2 d) (hold : IsDu w0 A1 A2 d) {r : Option Nat} (hb : w.grownBy w' r) (hr : ∀ k, r = some k → w0.heap.size ≤ k) : IsDu w' A1 A2 d := by
  obtain ⟨h1, h2⟩ := h
  obtain ⟨k1, k2⟩ := hold
  exact ⟨h1.kept k1 hb hr, h2.kept k2 hb hr⟩
/-- How large the slices are together. -/
def Du.size (d : Du) : Int := (d.n : Int) + (d.m : Int)
set_option maxHeartbeats 400000 in
theorem szDuty_ok (A1 A2 : Option Addr) (c1 c2 : Nat) (d : Du) (left : Int) (w : World) (h0 : d.size ≤ left) (h1 : left ≤ 1048576) :
    Calls Try.prog 15 #[.agg #[.int .i64 d.ce, .slice A1 d.n c1, .slice A2 d.m c2], .int .i64 left] w (Post (.int .i64 (left - d.size)) w) := by
  unfold Du.size at *
  go_enter Try.func15, Try.ntmps15
  go_wp2_with fail
  refine (szBoolS_ok A1 d.n c1 _ _ (by omega) (by omega)).mono ?_
  rintro e w' ⟨rfl, rfl⟩
  go_wp2_with fail
  refine (szIntS_ok A2 d.m c2 _ _ (by omega) (by omega)).mono ?_
  rintro e w' ⟨rfl, rfl⟩
  go_wp2_with fail
  go_ret
  exact ⟨by show Ending.returned (Value.int _ _) = Ending.returned (Value.int _ _); congr 2 <;> omega, (by repeat (first | with_reducible exact Below.refl _ _ | with_reducible assumption | with_reducible refine below_alloc ?_ _ | with_reducible refine below_more ?_ _ | (with_reducible refine below_set ?_ ?_ _; rotate_left; focus (first | with_reducible exact Nat.le_refl _ | with_reducible assumption | (simp; done) | (simp; omega) | omega))))⟩
set_option maxHeartbeats 400000 in
theorem szDuty_no (A1 A2 : Option Addr) (c1 c2 : Nat) (d : Du) (left : Int) (w : World) (hn1 : d.n ≤ 9223372036854775807) (hn2 : d.m ≤ 9223372036854775807) (h0 : 0 ≤ left) (h1 : left < d.size) (h2 : left ≤ 1048576) :
    Calls Try.prog 15 #[.agg #[.int .i64 d.ce, .slice A1 d.n c1, .slice A2 d.m c2], .int .i64 left] w (Post (.int .i64 (-1)) w) := by
  unfold Du.size at *
  by_cases q1 : (d.n : Int) ≤ left
  · skip
    go_enter Try.func15, Try.ntmps15
    go_wp2_with fail
    refine (szBoolS_ok A1 d.n c1 _ _ (by omega) (by omega)).mono ?_
    rintro e w' ⟨rfl, rfl⟩
    go_wp2_with fail
    refine (szIntS_no A2 d.m c2 _ _ (by omega) (by omega) (by omega)).mono ?_
    rintro e w' ⟨rfl, rfl⟩
    go_wp2_with fail
    go_ret
    exact ⟨rfl, (by repeat (first | with_reducible exact Below.refl _ _ | with_reducible assumption | with_reducible refine below_alloc ?_ _ | with_reducible refine below_more ?_ _ | (with_reducible refine below_set ?_ ?_ _; rotate_left; focus (first | with_reducible exact Nat.le_refl _ | with_reducible assumption | (simp; done) | (simp; omega) | omega))))⟩
  · go_enter Try.func15, Try.ntmps15
    go_wp2_with fail
    refine (szBoolS_no A1 d.n c1 _ _ (by omega) (by omega) (by omega)).mono ?_
    rintro e w' ⟨rfl, rfl⟩
    go_wp2_with fail
    go_ret
    exact ⟨rfl, (by repeat (first | with_reducible exact Below.refl _ _ | with_reducible assumption | with_reducible refine below_alloc ?_ _ | with_reducible refine below_more ?_ _ | (with_reducible refine below_set ?_ ?_ _; rotate_left; focus (first | with_reducible exact Nat.le_refl _ | with_reducible assumption | (simp; done) | (simp; omega) | omega))))⟩
set_option maxHeartbeats 1600000 in
theorem toDuty_any (A1 A2 : Option Addr) (c1 c2 : Nat) (d : Du) (w : World) (hn1 : d.n ≤ 1048576) (hn2 : d.m ≤ 1048576) (h : IsDu w A1 A2 d) :
    Calls Try.prog 17 #[.agg #[.int .i64 d.ce, .slice A1 d.n c1, .slice A2 d.m c2]] w fun e w' => ∃ g1 cs1 g2 cs2, e = .returned (.agg #[.int .i64 d.ce, .slice (some ⟨g1, 0, none⟩) d.n d.n, .slice (some ⟨g2, 0, none⟩) d.m d.m]) ∧ (w.heap.size ≤ g1 ∧ Blk w' g1 4 cs1 ∧ cs1.size = d.n ∧ RowB cs1 d.n d.act) ∧ (g1 < g2 ∧ Blk w' g2 3 cs2 ∧ cs2.size = d.m ∧ RowI cs2 d.m d.lk) ∧ Below w.heap.size w w' := by
  obtain ⟨h1, h2⟩ := h
  have HA := Lib.hid (show True from trivial)
  have H1 := Lib.hid h1
  have H2 := Lib.hid h2
  clear h1 h2
  go_enter Try.func17, Try.ntmps17
  go_wp2_with fail
  refine (toBoolS_any A1 d.n c1 d.act _ hn1 (by exact H1.out.below (by repeat (first | with_reducible exact Below.refl _ _ | with_reducible assumption | with_reducible refine below_alloc ?_ _ | with_reducible refine below_more ?_ _ | (with_reducible refine below_set ?_ ?_ _; rotate_left; focus (first | with_reducible exact Nat.le_refl _ | with_reducible assumption | (simp; done) | (simp; omega) | omega)))))).mono ?_
  rintro e w1 ⟨g1, cs1, rfl, hg1, B1, z1, R1, b1⟩
  have hl1 := B1.lt
  have HZ1 := Lib.hid z1
  have HR1 := Lib.hid R1
  have s1 := b1.size
  try simp at s1 hg1
  have qa1 : w.heap.size < w1.heap.size := by omega
  have qb1 : w.heap.size + 1 < w1.heap.size := by omega
  have qc1 : w.heap.size + 1 + 1 < w1.heap.size := by omega
  obtain ⟨hc1, hf1⟩ := bcell b1
  have HC1 := Lib.hid (show Below w.heap.size w w1 from below_tr (by repeat (first | with_reducible exact Below.refl _ _ | with_reducible assumption | with_reducible refine below_alloc ?_ _ | with_reducible refine below_more ?_ _ | (with_reducible refine below_set ?_ ?_ _; rotate_left; focus (first | with_reducible exact Nat.le_refl _ | with_reducible assumption | (simp; done) | (simp; omega) | omega)))) b1)
  have HB1 := Lib.hid B1
  clear z1 R1 B1 b1
  go_wp2_with fail
  refine (toIntS_any A2 d.m c2 d.lk _ hn2 (by exact H2.out.below (by have C := HC1.out; exact (by repeat (first | with_reducible exact Below.refl _ _ | with_reducible assumption | with_reducible refine below_alloc ?_ _ | with_reducible refine below_more ?_ _ | (with_reducible refine below_set ?_ ?_ _; rotate_left; focus (first | with_reducible exact Nat.le_refl _ | with_reducible assumption | (simp; done) | (simp; omega) | omega))))))).mono ?_
  rintro e w2 ⟨g2, cs2, rfl, hg2, B2, z2, R2, b2⟩
  have hl2 := B2.lt
  have HZ2 := Lib.hid z2
  have HR2 := Lib.hid R2
  have s2 := b2.size
  try simp at s2 hg2
  have qa2 : w.heap.size < w2.heap.size := by omega
  have qb2 : w.heap.size + 1 < w2.heap.size := by omega
  have qc2 : w.heap.size + 1 + 1 < w2.heap.size := by omega
  obtain ⟨hc2, hf2⟩ := bcell b2
  have HC2 := Lib.hid (show Below w.heap.size w w2 from below_tr (by have C := HC1.out; exact (by repeat (first | with_reducible exact Below.refl _ _ | with_reducible assumption | with_reducible refine below_alloc ?_ _ | with_reducible refine below_more ?_ _ | (with_reducible refine below_set ?_ ?_ _; rotate_left; focus (first | with_reducible exact Nat.le_refl _ | with_reducible assumption | (simp; done) | (simp; omega) | omega))))) b2)
  have HB1' := Lib.hid (show Blk w2 g1 4 cs1 from Blk.below (by have D := HB1.out; exact (by repeat (first | with_reducible assumption | with_reducible refine Blk.alloc ?_ _ | with_reducible refine Blk.mw ?_ _ | (with_reducible refine Blk.far ?_ ?_ _; rotate_left; focus (first | omega | (simp; done) | (simp; omega)))))) b2)
  clear HB1
  have HB1 := HB1'
  clear HB1'
  have HB2 := Lib.hid B2
  clear z2 R2 B2 b2
  go_wp2_with fail
  refine bodyPost_ret (v := .agg #[.int .i64 d.ce, .slice (some ⟨g1, 0, none⟩) d.n d.n, .slice (some ⟨g2, 0, none⟩) d.m d.m]) ?_ rfl ?_
  · simp [results, Try.results17, go_sem, *]
  · exact ⟨g1, cs1, g2, cs2, rfl, ⟨by omega, (by have D := HB1.out; exact (by repeat (first | with_reducible assumption | with_reducible refine Blk.alloc ?_ _ | with_reducible refine Blk.mw ?_ _ | (with_reducible refine Blk.far ?_ ?_ _; rotate_left; focus (first | omega | (simp; done) | (simp; omega)))))), HZ1.out, HR1.out⟩, ⟨by omega, (by have D := HB2.out; exact (by repeat (first | with_reducible assumption | with_reducible refine Blk.alloc ?_ _ | with_reducible refine Blk.mw ?_ _ | (with_reducible refine Blk.far ?_ ?_ _; rotate_left; focus (first | omega | (simp; done) | (simp; omega)))))), HZ2.out, HR2.out⟩, (by have C := HC2.out; exact (by repeat (first | with_reducible exact Below.refl _ _ | with_reducible assumption | with_reducible refine below_alloc ?_ _ | with_reducible refine below_more ?_ _ | (with_reducible refine below_set ?_ ?_ _; rotate_left; focus (first | with_reducible exact Nat.le_refl _ | with_reducible assumption | (simp; done) | (simp; omega) | omega)))))⟩
set_option maxHeartbeats 800000 in
theorem eqDuty_same (A1 A2 E1 E2 : Option Addr) (c1 c2 kk1 kk2 : Nat) (d : Du) (w : World) (hn1 : d.n ≤ 1048576) (hn2 : d.m ≤ 1048576) (h : IsDu w A1 A2 d) (h' : IsDu w E1 E2 d) :
    Calls Try.prog 19 #[.agg #[.int .i64 d.ce, .slice A1 d.n c1, .slice A2 d.m c2], .agg #[.int .i64 d.ce, .slice E1 d.n kk1, .slice E2 d.m kk2]] w (Post (.bool true) w) := by
  obtain ⟨h1, h2⟩ := h
  obtain ⟨k1, k2⟩ := h'
  have H1 := Lib.hid h1
  have J1 := Lib.hid k1
  have H2 := Lib.hid h2
  have J2 := Lib.hid k2
  clear h1 h2 k1 k2
  go_enter Try.func19, Try.ntmps19
  go_wp2_with fail
  refine (eqBoolS_same A1 E1 d.n _ _ d.act _ hn1 (by exact H1.out.below (by repeat (first | with_reducible exact Below.refl _ _ | with_reducible assumption | with_reducible refine below_alloc ?_ _ | with_reducible refine below_more ?_ _ | (with_reducible refine below_set ?_ ?_ _; rotate_left; focus (first | with_reducible exact Nat.le_refl _ | with_reducible assumption | (simp; done) | (simp; omega) | omega))))) (by exact J1.out.below (by repeat (first | with_reducible exact Below.refl _ _ | with_reducible assumption | with_reducible refine below_alloc ?_ _ | with_reducible refine below_more ?_ _ | (with_reducible refine below_set ?_ ?_ _; rotate_left; focus (first | with_reducible exact Nat.le_refl _ | with_reducible assumption | (simp; done) | (simp; omega) | omega)))))).mono ?_
  rintro e w1 ⟨rfl, b1⟩
  have HC1 := Lib.hid (show Below w.heap.size w w1 from below_tr (by repeat (first | with_reducible exact Below.refl _ _ | with_reducible assumption | with_reducible refine below_alloc ?_ _ | with_reducible refine below_more ?_ _ | (with_reducible refine below_set ?_ ?_ _; rotate_left; focus (first | with_reducible exact Nat.le_refl _ | with_reducible assumption | (simp; done) | (simp; omega) | omega)))) b1)
  have s1 := b1.size
  try simp at s1
  have qa1 : w.heap.size < w1.heap.size := by omega
  have qb1 : w.heap.size + 1 < w1.heap.size := by omega
  obtain ⟨hc1, hf1⟩ := bcell b1
  clear b1
  go_wp2_with fail
  refine (eqIntS_same A2 E2 d.m _ _ d.lk _ hn2 (by exact H2.out.below (by have C := HC1.out; exact (by repeat (first | with_reducible exact Below.refl _ _ | with_reducible assumption | with_reducible refine below_alloc ?_ _ | with_reducible refine below_more ?_ _ | (with_reducible refine below_set ?_ ?_ _; rotate_left; focus (first | with_reducible exact Nat.le_refl _ | with_reducible assumption | (simp; done) | (simp; omega) | omega)))))) (by exact J2.out.below (by have C := HC1.out; exact (by repeat (first | with_reducible exact Below.refl _ _ | with_reducible assumption | with_reducible refine below_alloc ?_ _ | with_reducible refine below_more ?_ _ | (with_reducible refine below_set ?_ ?_ _; rotate_left; focus (first | with_reducible exact Nat.le_refl _ | with_reducible assumption | (simp; done) | (simp; omega) | omega))))))).mono ?_
  rintro e w2 ⟨rfl, b2⟩
  have HC2 := Lib.hid (show Below w.heap.size w w2 from below_tr (by have C := HC1.out; exact (by repeat (first | with_reducible exact Below.refl _ _ | with_reducible assumption | with_reducible refine below_alloc ?_ _ | with_reducible refine below_more ?_ _ | (with_reducible refine below_set ?_ ?_ _; rotate_left; focus (first | with_reducible exact Nat.le_refl _ | with_reducible assumption | (simp; done) | (simp; omega) | omega))))) b2)
  have s2 := b2.size
  try simp at s2
  have qa2 : w.heap.size < w2.heap.size := by omega
  have qb2 : w.heap.size + 1 < w2.heap.size := by omega
  obtain ⟨hc2, hf2⟩ := bcell b2
  clear b2
  go_wp2_with fail
  go_ret
  exact ⟨rfl, (by have C := HC2.out; exact (by repeat (first | with_reducible exact Below.refl _ _ | with_reducible assumption | with_reducible refine below_alloc ?_ _ | with_reducible refine below_more ?_ _ | (with_reducible refine below_set ?_ ?_ _; rotate_left; focus (first | with_reducible exact Nat.le_refl _ | with_reducible assumption | (simp; done) | (simp; omega) | omega)))))⟩
set_option maxRecDepth 100000 in
theorem openV_Du {H : Type} {enc : TypeId × Value → H} {w : World} {base : Nat} {spare : Nat → Bool} {held : Bool} {r : Reach} {b0 : Nat} {v : Value} {dd : DataW H} {ps : List MemPlace} (hv : Value.okWide Try.prog w r b0 25 v) (h : DataW.Trod enc Try.prog w base spare held 25 v dd ps) :
    ∃ (A1 A2 : Option Addr) (c1 c2 : Nat) (d : Du), v = .agg #[.int .i64 d.ce, .slice A1 d.n c1, .slice A2 d.m c2] ∧ d.n ≤ 9223372036854775807 ∧ d.m ≤ 9223372036854775807 ∧ IsDu w A1 A2 d ∧ In64 d.ce := by
  obtain ⟨arr, fuel, rfl, hf0⟩ := openV_struct Try.underlying25 hv h
  obtain ⟨cs, hcs⟩ : ∃ cs, cs = arr.toList := ⟨_, rfl⟩
  rw [← hcs] at hf0
  obtain ⟨hl, n, hf⟩ := open_field Try.underlying25 hf0
  obtain ⟨y0, h0⟩ := hf 0 _ rfl
  obtain ⟨a0, e0, g0⟩ := cell_int Try.underlying3 h0
  replace e0 : (cs.drop 0).take (Try.prog.cellsOf 3) = _ := e0
  rw [show Try.prog.cellsOf 3 = 1 from by kernel_rfl] at e0
  obtain ⟨y1, h1⟩ := hf 1 _ rfl
  obtain ⟨B1, n1, q1, f1, e1, g1, r1, _⟩ := open_BS h1
  replace e1 : (cs.drop 1).take (Try.prog.cellsOf 22) = _ := e1
  rw [show Try.prog.cellsOf 22 = 1 from by kernel_rfl] at e1
  obtain ⟨y2, h2⟩ := hf 2 _ rfl
  obtain ⟨B2, n2, q2, f2, e2, g2, r2, _⟩ := open_IS h2
  replace e2 : (cs.drop 2).take (Try.prog.cellsOf 23) = _ := e2
  rw [show Try.prog.cellsOf 23 = 1 from by kernel_rfl] at e2
  rw [show Try.prog.cellsOf 25 = 3 from by kernel_rfl] at hl
  match cs, hl, hcs, e0, e1, e2 with
  | [x0, x1, x2], _, hcs, e0, e1, e2 =>
    simp only [List.drop_zero, List.drop_succ_cons, List.take_succ_cons, List.take_zero, List.cons.injEq, and_true] at e0 e1 e2
    refine ⟨B1, B2, q1, q2, ⟨a0, n1, f1, n2, f2⟩, ?_, g1, g2, ⟨r1, r2⟩, g0⟩
    have : arr = [x0, x1, x2].toArray := Array.ext' hcs.symm
    rw [this, e0, e1, e2]
end Go.Proofs.Ytbbafdcmgobkeaa
