/-
  The program's ChangedLocks answers as the reference's does, for all arguments, and leaves its arguments alone.
  Conditions: none: every input that can be read as data.
-/
import Derived.Test.YtbbafdcmgobkeaaC3
import Derived.Deep.RegionHeld3
namespace Go.Proofs.Ytbbafdcmgobkeaa.lawChangedLocks
set_option linter.unusedSimpArgs false
set_option linter.unusedVariables false
open Go.ChangeShapes Go.WideShapes Go.ChangeAt Go.RowKit
theorem own : ownKnob Try.prog.godebug = none := by kernel_rfl
set_option maxRecDepth 100000 in
set_option maxHeartbeats 800000 in
theorem walk (A0_0 A0_1 : Option Addr) (c0_0 c0_1 : Nat) (d0 : Du) (A1_0 A1_1 : Option Addr) (c1_0 c1_1 : Nat) (d1 : Du) (w : World) (hn0_0 : d0.n ≤ 9223372036854775807) (hn0_1 : d0.m ≤ 9223372036854775807) (hL0 : IsDu w A0_0 A0_1 d0) (hn1_0 : d1.n ≤ 9223372036854775807) (hn1_1 : d1.m ≤ 9223372036854775807) (hL1 : IsDu w A1_0 A1_1 d1) :
    Calls Try.prog 4 #[.agg #[.int .i64 d0.ce, .slice A0_0 d0.n c0_0, .slice A0_1 d0.m c0_1], .agg #[.int .i64 d1.ce, .slice A1_0 d1.n c1_0, .slice A1_1 d1.m c1_1]] w (Post (.bool true) w) := by
  have dz0 : d0.size = (d0.n : Int) + (d0.m : Int) := rfl
  have dz1 : d1.size = (d1.n : Int) + (d1.m : Int) := rfl
  by_cases s0z : (d0.size : Int) ≤ 1048576
  · skip
    by_cases s1z : (d0.size : Int) + (d1.size : Int) ≤ 1048576
    · skip
      go_enter Try.func4, Try.ntmps4
      go_wp2_with fail
      generalize hu : ((w.alloc (.cells #[.int .i64 d0.ce, .slice A0_0 d0.n c0_0, .slice A0_1 d0.m c0_1] 25)).alloc (.cells #[.int .i64 d1.ce, .slice A1_0 d1.n c1_0, .slice A1_1 d1.m c1_1] 25)) = u
      have hU : Below w.heap.size w u := by rw [← hu]; exact (by repeat (first | with_reducible exact Below.refl _ _ | with_reducible assumption | with_reducible refine below_alloc ?_ _ | with_reducible refine below_more ?_ _ | (with_reducible refine below_set ?_ ?_ _; rotate_left; focus (first | with_reducible exact Nat.le_refl _ | with_reducible assumption | (simp; done) | (simp; omega) | omega))))
      have ku : w.heap.size + 2 ≤ u.heap.size := by rw [← hu]; simp
      have BP0 : Blk u (w.heap.size) 25 #[.int .i64 d0.ce, .slice A0_0 d0.n c0_0, .slice A0_1 d0.m c0_1] := by rw [← hu]; exact (Blk.new _ _ _).alloc _
      have qP0 := fun o => BP0.cell o
      have lP0 := BP0.lt
      have BP1 : Blk u (w.heap.size + 1) 25 #[.int .i64 d1.ce, .slice A1_0 d1.n c1_0, .slice A1_1 d1.m c1_1] := by rw [← hu]; exact Blk.at_ (by simp)
      have qP1 := fun o => BP1.cell o
      have lP1 := BP1.lt
      clear hu
      replace hL0 := hL0.below hU
      replace hL1 := hL1.below hU
      have C : Below u.heap.size u u := Below.refl _ _
      have hL0o := hL0
      have hL1o := hL1
      go_wp2_with fail
      refine (szDuty_ok A0_0 A0_1 c0_0 c0_1 d0 _ _ (by omega) (by omega)).mono ?_
      rintro e w1 ⟨rfl, b1⟩
      replace BP0 := BP0.below b1
      clear qP0 lP0
      have qP0 := fun o => BP0.cell o
      have lP0 := BP0.lt
      replace BP1 := BP1.below b1
      clear qP1 lP1
      have qP1 := fun o => BP1.cell o
      have lP1 := BP1.lt
      replace hL0 := hL0.below b1
      replace hL1 := hL1.below b1
      have s1 := b1.size
      replace C := below_tr C b1
      go_wp2_with fail
      refine (szDuty_ok A1_0 A1_1 c1_0 c1_1 d1 _ _ (by omega) (by omega)).mono ?_
      rintro e w2 ⟨rfl, b2⟩
      replace BP0 := BP0.below b2
      clear qP0 lP0
      have qP0 := fun o => BP0.cell o
      have lP0 := BP0.lt
      replace BP1 := BP1.below b2
      clear qP1 lP1
      have qP1 := fun o => BP1.cell o
      have lP1 := BP1.lt
      replace hL0 := hL0.below b2
      replace hL1 := hL1.below b2
      have s2 := b2.size
      replace C := below_tr C b2
      go_wp2_with fail
      have HS := Lib.hid (show ∀ W, Below w2.heap.size w2 W → (W.cell? ⟨w.heap.size, 0, none⟩ = some (.int .i64 d0.ce) ∧ W.cell? ⟨w.heap.size, 1, none⟩ = some (.slice A0_0 d0.n c0_0) ∧ W.cell? ⟨w.heap.size, 2, none⟩ = some (.slice A0_1 d0.m c0_1) ∧ W.cell? ⟨w.heap.size + 1, 0, none⟩ = some (.int .i64 d1.ce) ∧ W.cell? ⟨w.heap.size + 1, 1, none⟩ = some (.slice A1_0 d1.n c1_0) ∧ W.cell? ⟨w.heap.size + 1, 2, none⟩ = some (.slice A1_1 d1.m c1_1) ∧ Below w2.heap.size w2 W) from fun W hW => ⟨(BP0.below hW).cell 0, (BP0.below hW).cell 1, (BP0.below hW).cell 2, (BP1.below hW).cell 0, (BP1.below hW).cell 1, (BP1.below hW).cell 2, hW⟩)
      go_region_held3 (fun W => W.cell? ⟨w.heap.size, 0, none⟩ = some (.int .i64 d0.ce) ∧ W.cell? ⟨w.heap.size, 1, none⟩ = some (.slice A0_0 d0.n c0_0) ∧ W.cell? ⟨w.heap.size, 2, none⟩ = some (.slice A0_1 d0.m c0_1) ∧ W.cell? ⟨w.heap.size + 1, 0, none⟩ = some (.int .i64 d1.ce) ∧ W.cell? ⟨w.heap.size + 1, 1, none⟩ = some (.slice A1_0 d1.n c1_0) ∧ W.cell? ⟨w.heap.size + 1, 2, none⟩ = some (.slice A1_1 d1.m c1_1) ∧ Below w2.heap.size w2 W) (first | exact HS.out _ (Below.refl _ _).drew | exact HS.out _ (Below.refl _ _) | exact HS.out _ (below_tr (by assumption) c5) | exact HS.out _ (below_tr (by assumption) b4) | exact HS.out _ (below_tr (by assumption) b3))
        (first
          | (go_at_call_of 17 (Value.agg #[.int .i64 d0.ce, .slice A0_0 d0.n c0_0, .slice A0_1 d0.m c0_1]); go_split_ands; refine (toDuty_any A0_0 A0_1 c0_0 c0_1 d0 _ (by omega) (by omega) (hL0.below (by assumption))).mono ?_; rintro e w3 ⟨g3_0, cs3_0, g3_1, cs3_1, rfl, ⟨hg3_0, B_3_0, z3_0, R3_0⟩, ⟨hg3_1, B_3_1, z3_1, R3_1⟩, b3⟩)
          | (go_at_call_of 17 (Value.agg #[.int .i64 d1.ce, .slice A1_0 d1.n c1_0, .slice A1_1 d1.m c1_1]); go_split_ands; refine (toDuty_any A1_0 A1_1 c1_0 c1_1 d1 _ (by omega) (by omega) (hL1.below (by assumption))).mono ?_; rintro e w4 ⟨g4_0, cs4_0, g4_1, cs4_1, rfl, ⟨hg4_0, B_4_0, z4_0, R4_0⟩, ⟨hg4_1, B_4_1, z4_1, R4_1⟩, b4⟩)
          | (go_at_call 20; go_split_ands; refine (specChangedLocks_any (some ⟨g3_0, 0, none⟩) (some ⟨g3_1, 0, none⟩) d0.n d0.m d0 (some ⟨g4_0, 0, none⟩) (some ⟨g4_1, 0, none⟩) d1.n d1.m d1 _ (by omega) (by omega) (by omega) (by omega) ((show IsDu w3 (some ⟨g3_0, 0, none⟩) (some ⟨g3_1, 0, none⟩) d0 from ⟨R3_0.rd B_3_0, R3_1.rd B_3_1⟩).below b4) (show IsDu w4 (some ⟨g4_0, 0, none⟩) (some ⟨g4_1, 0, none⟩) d1 from ⟨R4_0.rd B_4_0, R4_1.rd B_4_1⟩)).mono ?_; rintro e w5 ⟨rfl, c5⟩))
      have b5 : Below w2.heap.size w2 w5 := below_tr (by assumption) c5
      clear HS
      replace BP0 := BP0.below b5
      clear qP0 lP0
      have qP0 := fun o => BP0.cell o
      have lP0 := BP0.lt
      replace BP1 := BP1.below b5
      clear qP1 lP1
      have qP1 := fun o => BP1.cell o
      have lP1 := BP1.lt
      replace hL0 := hL0.below b5
      replace hL1 := hL1.below b5
      have s5 := b5.size
      replace C := below_tr C b5
      go_wp2_with fail
      refine (toDuty_any A0_0 A0_1 c0_0 c0_1 d0 _ (by omega) (by omega) hL0).mono ?_
      rintro e w6 ⟨g6_0, cs6_0, g6_1, cs6_1, rfl, ⟨hg6_0, B_6_0, z6_0, R6_0⟩, ⟨hg6_1, B_6_1, z6_1, R6_1⟩, b6⟩
      replace BP0 := BP0.below b6
      clear qP0 lP0
      have qP0 := fun o => BP0.cell o
      have lP0 := BP0.lt
      replace BP1 := BP1.below b6
      clear qP1 lP1
      have qP1 := fun o => BP1.cell o
      have lP1 := BP1.lt
      replace hL0 := hL0.below b6
      replace hL1 := hL1.below b6
      have s6 := b6.size
      replace C := below_tr C b6
      have X_6 : IsDu w6 (some ⟨g6_0, 0, none⟩) (some ⟨g6_1, 0, none⟩) d0 := ⟨R6_0.rd B_6_0, R6_1.rd B_6_1⟩
      have l6_0 := B_6_0.lt
      have l6_1 := B_6_1.lt
      go_wp2_with fail
      generalize hu7 : (w6.alloc (.cells #[.int .i64 d0.ce, .slice (some ⟨g6_0, 0, none⟩) d0.n d0.n, .slice (some ⟨g6_1, 0, none⟩) d0.m d0.m] 28)) = w7
      have b7 : Below w6.heap.size w6 w7 := by rw [← hu7]; exact (by repeat (first | with_reducible exact Below.refl _ _ | with_reducible assumption | with_reducible refine below_alloc ?_ _ | with_reducible refine below_more ?_ _ | (with_reducible refine below_set ?_ ?_ _; rotate_left; focus (first | with_reducible exact Nat.le_refl _ | with_reducible assumption | (simp; done) | (simp; omega) | omega))))
      have BX7 : Blk w7 w6.heap.size 28 #[.int .i64 d0.ce, .slice (some ⟨g6_0, 0, none⟩) d0.n d0.n, .slice (some ⟨g6_1, 0, none⟩) d0.m d0.m] := by rw [← hu7]; exact Blk.new _ _ _
      clear hu7
      have qX7 := fun o => BX7.cell o
      have lX7 := BX7.lt
      replace BP0 := BP0.below b7
      clear qP0 lP0
      have qP0 := fun o => BP0.cell o
      have lP0 := BP0.lt
      replace BP1 := BP1.below b7
      clear qP1 lP1
      have qP1 := fun o => BP1.cell o
      have lP1 := BP1.lt
      replace hL0 := hL0.below b7
      replace hL1 := hL1.below b7
      replace X_6 := X_6.below b7
      replace B_6_0 := B_6_0.below b7
      replace B_6_1 := B_6_1.below b7
      have s7 := b7.size
      replace C := below_tr C b7
      go_wp2_with fail
      refine (toDuty_any A1_0 A1_1 c1_0 c1_1 d1 _ (by omega) (by omega) hL1).mono ?_
      rintro e w8 ⟨g8_0, cs8_0, g8_1, cs8_1, rfl, ⟨hg8_0, B_8_0, z8_0, R8_0⟩, ⟨hg8_1, B_8_1, z8_1, R8_1⟩, b8⟩
      replace BP0 := BP0.below b8
      clear qP0 lP0
      have qP0 := fun o => BP0.cell o
      have lP0 := BP0.lt
      replace BP1 := BP1.below b8
      clear qP1 lP1
      have qP1 := fun o => BP1.cell o
      have lP1 := BP1.lt
      replace hL0 := hL0.below b8
      replace hL1 := hL1.below b8
      replace X_6 := X_6.below b8
      replace B_6_0 := B_6_0.below b8
      replace B_6_1 := B_6_1.below b8
      replace BX7 := BX7.below b8
      clear qX7 lX7
      have qX7 := fun o => BX7.cell o
      have lX7 := BX7.lt
      have s8 := b8.size
      replace C := below_tr C b8
      have X_8 : IsDu w8 (some ⟨g8_0, 0, none⟩) (some ⟨g8_1, 0, none⟩) d1 := ⟨R8_0.rd B_8_0, R8_1.rd B_8_1⟩
      have l8_0 := B_8_0.lt
      have l8_1 := B_8_1.lt
      go_wp2_with fail
      generalize hu9 : (w8.alloc (.cells #[.int .i64 d1.ce, .slice (some ⟨g8_0, 0, none⟩) d1.n d1.n, .slice (some ⟨g8_1, 0, none⟩) d1.m d1.m] 28)) = w9
      have b9 : Below w8.heap.size w8 w9 := by rw [← hu9]; exact (by repeat (first | with_reducible exact Below.refl _ _ | with_reducible assumption | with_reducible refine below_alloc ?_ _ | with_reducible refine below_more ?_ _ | (with_reducible refine below_set ?_ ?_ _; rotate_left; focus (first | with_reducible exact Nat.le_refl _ | with_reducible assumption | (simp; done) | (simp; omega) | omega))))
      have BX9 : Blk w9 w8.heap.size 28 #[.int .i64 d1.ce, .slice (some ⟨g8_0, 0, none⟩) d1.n d1.n, .slice (some ⟨g8_1, 0, none⟩) d1.m d1.m] := by rw [← hu9]; exact Blk.new _ _ _
      clear hu9
      have qX9 := fun o => BX9.cell o
      have lX9 := BX9.lt
      replace BP0 := BP0.below b9
      clear qP0 lP0
      have qP0 := fun o => BP0.cell o
      have lP0 := BP0.lt
      replace BP1 := BP1.below b9
      clear qP1 lP1
      have qP1 := fun o => BP1.cell o
      have lP1 := BP1.lt
      replace hL0 := hL0.below b9
      replace hL1 := hL1.below b9
      replace X_6 := X_6.below b9
      replace B_6_0 := B_6_0.below b9
      replace B_6_1 := B_6_1.below b9
      replace BX7 := BX7.below b9
      clear qX7 lX7
      have qX7 := fun o => BX7.cell o
      have lX7 := BX7.lt
      replace X_8 := X_8.below b9
      replace B_8_0 := B_8_0.below b9
      replace B_8_1 := B_8_1.below b9
      have s9 := b9.size
      replace C := below_tr C b9
      go_wp2_with fail
      refine (changedLocks_any (some ⟨g6_0, 0, none⟩) (some ⟨g6_1, 0, none⟩) d0.n d0.m d0 (some ⟨g8_0, 0, none⟩) (some ⟨g8_1, 0, none⟩) d1.n d1.m d1 _ (by omega) (by omega) (by omega) (by omega) X_6 X_8).mono ?_
      rintro e w10 ⟨rfl, b10⟩
      replace BP0 := BP0.below b10
      clear qP0 lP0
      have qP0 := fun o => BP0.cell o
      have lP0 := BP0.lt
      replace BP1 := BP1.below b10
      clear qP1 lP1
      have qP1 := fun o => BP1.cell o
      have lP1 := BP1.lt
      replace hL0 := hL0.below b10
      replace hL1 := hL1.below b10
      replace X_6 := X_6.below b10
      replace B_6_0 := B_6_0.below b10
      replace B_6_1 := B_6_1.below b10
      replace BX7 := BX7.below b10
      clear qX7 lX7
      have qX7 := fun o => BX7.cell o
      have lX7 := BX7.lt
      replace X_8 := X_8.below b10
      replace B_8_0 := B_8_0.below b10
      replace B_8_1 := B_8_1.below b10
      replace BX9 := BX9.below b10
      clear qX9 lX9
      have qX9 := fun o => BX9.cell o
      have lX9 := BX9.lt
      have s10 := b10.size
      replace C := below_tr C b10
      go_wp2_with fail
      have HS := Lib.hid (show ∀ W, Below w10.heap.size w10 W → (W.cell? ⟨w.heap.size, 0, none⟩ = some (.int .i64 d0.ce) ∧ W.cell? ⟨w.heap.size, 1, none⟩ = some (.slice A0_0 d0.n c0_0) ∧ W.cell? ⟨w.heap.size, 2, none⟩ = some (.slice A0_1 d0.m c0_1) ∧ W.cell? ⟨w.heap.size + 1, 0, none⟩ = some (.int .i64 d1.ce) ∧ W.cell? ⟨w.heap.size + 1, 1, none⟩ = some (.slice A1_0 d1.n c1_0) ∧ W.cell? ⟨w.heap.size + 1, 2, none⟩ = some (.slice A1_1 d1.m c1_1) ∧ W.cell? ⟨w6.heap.size, 0, none⟩ = some (.int .i64 d0.ce) ∧ W.cell? ⟨w6.heap.size, 1, none⟩ = some (.slice (some ⟨g6_0, 0, none⟩) d0.n d0.n) ∧ W.cell? ⟨w6.heap.size, 2, none⟩ = some (.slice (some ⟨g6_1, 0, none⟩) d0.m d0.m) ∧ W.cell? ⟨w8.heap.size, 0, none⟩ = some (.int .i64 d1.ce) ∧ W.cell? ⟨w8.heap.size, 1, none⟩ = some (.slice (some ⟨g8_0, 0, none⟩) d1.n d1.n) ∧ W.cell? ⟨w8.heap.size, 2, none⟩ = some (.slice (some ⟨g8_1, 0, none⟩) d1.m d1.m) ∧ Below w10.heap.size w10 W) from fun W hW => ⟨(BP0.below hW).cell 0, (BP0.below hW).cell 1, (BP0.below hW).cell 2, (BP1.below hW).cell 0, (BP1.below hW).cell 1, (BP1.below hW).cell 2, (BX7.below hW).cell 0, (BX7.below hW).cell 1, (BX7.below hW).cell 2, (BX9.below hW).cell 0, (BX9.below hW).cell 1, (BX9.below hW).cell 2, hW⟩)
      go_region_held3 (fun W => W.cell? ⟨w.heap.size, 0, none⟩ = some (.int .i64 d0.ce) ∧ W.cell? ⟨w.heap.size, 1, none⟩ = some (.slice A0_0 d0.n c0_0) ∧ W.cell? ⟨w.heap.size, 2, none⟩ = some (.slice A0_1 d0.m c0_1) ∧ W.cell? ⟨w.heap.size + 1, 0, none⟩ = some (.int .i64 d1.ce) ∧ W.cell? ⟨w.heap.size + 1, 1, none⟩ = some (.slice A1_0 d1.n c1_0) ∧ W.cell? ⟨w.heap.size + 1, 2, none⟩ = some (.slice A1_1 d1.m c1_1) ∧ W.cell? ⟨w6.heap.size, 0, none⟩ = some (.int .i64 d0.ce) ∧ W.cell? ⟨w6.heap.size, 1, none⟩ = some (.slice (some ⟨g6_0, 0, none⟩) d0.n d0.n) ∧ W.cell? ⟨w6.heap.size, 2, none⟩ = some (.slice (some ⟨g6_1, 0, none⟩) d0.m d0.m) ∧ W.cell? ⟨w8.heap.size, 0, none⟩ = some (.int .i64 d1.ce) ∧ W.cell? ⟨w8.heap.size, 1, none⟩ = some (.slice (some ⟨g8_0, 0, none⟩) d1.n d1.n) ∧ W.cell? ⟨w8.heap.size, 2, none⟩ = some (.slice (some ⟨g8_1, 0, none⟩) d1.m d1.m) ∧ Below w10.heap.size w10 W) (first | exact HS.out _ (Below.refl _ _).drew | exact HS.out _ (Below.refl _ _) | exact HS.out _ (below_tr (by assumption) c12) | exact HS.out _ (below_tr (by assumption) b11))
        (first
          | (go_at_call 17; go_split_ands; refine (toDuty_any A0_0 A0_1 c0_0 c0_1 d0 _ (by omega) (by omega) (hL0.below (by assumption))).mono ?_; rintro e w11 ⟨g11_0, cs11_0, g11_1, cs11_1, rfl, ⟨hg11_0, B_11_0, z11_0, R11_0⟩, ⟨hg11_1, B_11_1, z11_1, R11_1⟩, b11⟩)
          | (go_at_call 19; go_split_ands; refine (eqDuty_same (some ⟨g6_0, 0, none⟩) (some ⟨g6_1, 0, none⟩) (some ⟨g11_0, 0, none⟩) (some ⟨g11_1, 0, none⟩) d0.n d0.m d0.n d0.m d0 _ (by omega) (by omega) (X_6.below (by assumption)) ⟨R11_0.rd B_11_0, R11_1.rd B_11_1⟩).mono ?_; rintro e w12 ⟨rfl, c12⟩))
      have b12 : Below w10.heap.size w10 w12 := below_tr (by assumption) c12
      clear HS
      replace BP0 := BP0.below b12
      clear qP0 lP0
      have qP0 := fun o => BP0.cell o
      have lP0 := BP0.lt
      replace BP1 := BP1.below b12
      clear qP1 lP1
      have qP1 := fun o => BP1.cell o
      have lP1 := BP1.lt
      replace hL0 := hL0.below b12
      replace hL1 := hL1.below b12
      replace X_6 := X_6.below b12
      replace B_6_0 := B_6_0.below b12
      replace B_6_1 := B_6_1.below b12
      replace BX7 := BX7.below b12
      clear qX7 lX7
      have qX7 := fun o => BX7.cell o
      have lX7 := BX7.lt
      replace X_8 := X_8.below b12
      replace B_8_0 := B_8_0.below b12
      replace B_8_1 := B_8_1.below b12
      replace BX9 := BX9.below b12
      clear qX9 lX9
      have qX9 := fun o => BX9.cell o
      have lX9 := BX9.lt
      have s12 := b12.size
      replace C := below_tr C b12
      go_wp2_with fail
      have HS := Lib.hid (show ∀ W, Below w12.heap.size w12 W → (W.cell? ⟨w.heap.size, 0, none⟩ = some (.int .i64 d0.ce) ∧ W.cell? ⟨w.heap.size, 1, none⟩ = some (.slice A0_0 d0.n c0_0) ∧ W.cell? ⟨w.heap.size, 2, none⟩ = some (.slice A0_1 d0.m c0_1) ∧ W.cell? ⟨w.heap.size + 1, 0, none⟩ = some (.int .i64 d1.ce) ∧ W.cell? ⟨w.heap.size + 1, 1, none⟩ = some (.slice A1_0 d1.n c1_0) ∧ W.cell? ⟨w.heap.size + 1, 2, none⟩ = some (.slice A1_1 d1.m c1_1) ∧ W.cell? ⟨w6.heap.size, 0, none⟩ = some (.int .i64 d0.ce) ∧ W.cell? ⟨w6.heap.size, 1, none⟩ = some (.slice (some ⟨g6_0, 0, none⟩) d0.n d0.n) ∧ W.cell? ⟨w6.heap.size, 2, none⟩ = some (.slice (some ⟨g6_1, 0, none⟩) d0.m d0.m) ∧ W.cell? ⟨w8.heap.size, 0, none⟩ = some (.int .i64 d1.ce) ∧ W.cell? ⟨w8.heap.size, 1, none⟩ = some (.slice (some ⟨g8_0, 0, none⟩) d1.n d1.n) ∧ W.cell? ⟨w8.heap.size, 2, none⟩ = some (.slice (some ⟨g8_1, 0, none⟩) d1.m d1.m) ∧ Below w12.heap.size w12 W) from fun W hW => ⟨(BP0.below hW).cell 0, (BP0.below hW).cell 1, (BP0.below hW).cell 2, (BP1.below hW).cell 0, (BP1.below hW).cell 1, (BP1.below hW).cell 2, (BX7.below hW).cell 0, (BX7.below hW).cell 1, (BX7.below hW).cell 2, (BX9.below hW).cell 0, (BX9.below hW).cell 1, (BX9.below hW).cell 2, hW⟩)
      go_region_held3 (fun W => W.cell? ⟨w.heap.size, 0, none⟩ = some (.int .i64 d0.ce) ∧ W.cell? ⟨w.heap.size, 1, none⟩ = some (.slice A0_0 d0.n c0_0) ∧ W.cell? ⟨w.heap.size, 2, none⟩ = some (.slice A0_1 d0.m c0_1) ∧ W.cell? ⟨w.heap.size + 1, 0, none⟩ = some (.int .i64 d1.ce) ∧ W.cell? ⟨w.heap.size + 1, 1, none⟩ = some (.slice A1_0 d1.n c1_0) ∧ W.cell? ⟨w.heap.size + 1, 2, none⟩ = some (.slice A1_1 d1.m c1_1) ∧ W.cell? ⟨w6.heap.size, 0, none⟩ = some (.int .i64 d0.ce) ∧ W.cell? ⟨w6.heap.size, 1, none⟩ = some (.slice (some ⟨g6_0, 0, none⟩) d0.n d0.n) ∧ W.cell? ⟨w6.heap.size, 2, none⟩ = some (.slice (some ⟨g6_1, 0, none⟩) d0.m d0.m) ∧ W.cell? ⟨w8.heap.size, 0, none⟩ = some (.int .i64 d1.ce) ∧ W.cell? ⟨w8.heap.size, 1, none⟩ = some (.slice (some ⟨g8_0, 0, none⟩) d1.n d1.n) ∧ W.cell? ⟨w8.heap.size, 2, none⟩ = some (.slice (some ⟨g8_1, 0, none⟩) d1.m d1.m) ∧ Below w12.heap.size w12 W) (first | exact HS.out _ (Below.refl _ _).drew | exact HS.out _ (Below.refl _ _) | exact HS.out _ (below_tr (by assumption) c14) | exact HS.out _ (below_tr (by assumption) b13))
        (first
          | (go_at_call 17; go_split_ands; refine (toDuty_any A1_0 A1_1 c1_0 c1_1 d1 _ (by omega) (by omega) (hL1.below (by assumption))).mono ?_; rintro e w13 ⟨g13_0, cs13_0, g13_1, cs13_1, rfl, ⟨hg13_0, B_13_0, z13_0, R13_0⟩, ⟨hg13_1, B_13_1, z13_1, R13_1⟩, b13⟩)
          | (go_at_call 19; go_split_ands; refine (eqDuty_same (some ⟨g8_0, 0, none⟩) (some ⟨g8_1, 0, none⟩) (some ⟨g13_0, 0, none⟩) (some ⟨g13_1, 0, none⟩) d1.n d1.m d1.n d1.m d1 _ (by omega) (by omega) (X_8.below (by assumption)) ⟨R13_0.rd B_13_0, R13_1.rd B_13_1⟩).mono ?_; rintro e w14 ⟨rfl, c14⟩))
      have b14 : Below w12.heap.size w12 w14 := below_tr (by assumption) c14
      clear HS
      replace BP0 := BP0.below b14
      clear qP0 lP0
      have qP0 := fun o => BP0.cell o
      have lP0 := BP0.lt
      replace BP1 := BP1.below b14
      clear qP1 lP1
      have qP1 := fun o => BP1.cell o
      have lP1 := BP1.lt
      replace hL0 := hL0.below b14
      replace hL1 := hL1.below b14
      replace X_6 := X_6.below b14
      replace B_6_0 := B_6_0.below b14
      replace B_6_1 := B_6_1.below b14
      replace BX7 := BX7.below b14
      clear qX7 lX7
      have qX7 := fun o => BX7.cell o
      have lX7 := BX7.lt
      replace X_8 := X_8.below b14
      replace B_8_0 := B_8_0.below b14
      replace B_8_1 := B_8_1.below b14
      replace BX9 := BX9.below b14
      clear qX9 lX9
      have qX9 := fun o => BX9.cell o
      have lX9 := BX9.lt
      have s14 := b14.size
      replace C := below_tr C b14
      go_wp2_with fail
      go_ret
      exact ⟨rfl, below_tr hU C⟩
    · skip
      go_enter Try.func4, Try.ntmps4
      go_wp2_with fail
      generalize hu : ((w.alloc (.cells #[.int .i64 d0.ce, .slice A0_0 d0.n c0_0, .slice A0_1 d0.m c0_1] 25)).alloc (.cells #[.int .i64 d1.ce, .slice A1_0 d1.n c1_0, .slice A1_1 d1.m c1_1] 25)) = u
      have hU : Below w.heap.size w u := by rw [← hu]; exact (by repeat (first | with_reducible exact Below.refl _ _ | with_reducible assumption | with_reducible refine below_alloc ?_ _ | with_reducible refine below_more ?_ _ | (with_reducible refine below_set ?_ ?_ _; rotate_left; focus (first | with_reducible exact Nat.le_refl _ | with_reducible assumption | (simp; done) | (simp; omega) | omega))))
      have ku : w.heap.size + 2 ≤ u.heap.size := by rw [← hu]; simp
      have BP0 : Blk u (w.heap.size) 25 #[.int .i64 d0.ce, .slice A0_0 d0.n c0_0, .slice A0_1 d0.m c0_1] := by rw [← hu]; exact (Blk.new _ _ _).alloc _
      have qP0 := fun o => BP0.cell o
      have lP0 := BP0.lt
      have BP1 : Blk u (w.heap.size + 1) 25 #[.int .i64 d1.ce, .slice A1_0 d1.n c1_0, .slice A1_1 d1.m c1_1] := by rw [← hu]; exact Blk.at_ (by simp)
      have qP1 := fun o => BP1.cell o
      have lP1 := BP1.lt
      clear hu
      replace hL0 := hL0.below hU
      replace hL1 := hL1.below hU
      have C : Below u.heap.size u u := Below.refl _ _
      go_wp2_with fail
      refine (szDuty_ok A0_0 A0_1 c0_0 c0_1 d0 _ _ (by omega) (by omega)).mono ?_
      rintro e w1 ⟨rfl, b1⟩
      replace BP0 := BP0.below b1
      clear qP0 lP0
      have qP0 := fun o => BP0.cell o
      have lP0 := BP0.lt
      replace BP1 := BP1.below b1
      clear qP1 lP1
      have qP1 := fun o => BP1.cell o
      have lP1 := BP1.lt
      have s1 := b1.size
      replace C := below_tr C b1
      go_wp2_with fail
      refine (szDuty_no A1_0 A1_1 c1_0 c1_1 d1 _ _ (by omega) (by omega) (by omega) (by omega) (by omega)).mono ?_
      rintro e w2 ⟨rfl, b2⟩
      replace BP0 := BP0.below b2
      clear qP0 lP0
      have qP0 := fun o => BP0.cell o
      have lP0 := BP0.lt
      replace BP1 := BP1.below b2
      clear qP1 lP1
      have qP1 := fun o => BP1.cell o
      have lP1 := BP1.lt
      have s2 := b2.size
      replace C := below_tr C b2
      go_wp2_with fail
      go_ret
      exact ⟨rfl, below_tr hU C⟩
  · skip
    go_enter Try.func4, Try.ntmps4
    go_wp2_with fail
    generalize hu : ((w.alloc (.cells #[.int .i64 d0.ce, .slice A0_0 d0.n c0_0, .slice A0_1 d0.m c0_1] 25)).alloc (.cells #[.int .i64 d1.ce, .slice A1_0 d1.n c1_0, .slice A1_1 d1.m c1_1] 25)) = u
    have hU : Below w.heap.size w u := by rw [← hu]; exact (by repeat (first | with_reducible exact Below.refl _ _ | with_reducible assumption | with_reducible refine below_alloc ?_ _ | with_reducible refine below_more ?_ _ | (with_reducible refine below_set ?_ ?_ _; rotate_left; focus (first | with_reducible exact Nat.le_refl _ | with_reducible assumption | (simp; done) | (simp; omega) | omega))))
    have ku : w.heap.size + 2 ≤ u.heap.size := by rw [← hu]; simp
    have BP0 : Blk u (w.heap.size) 25 #[.int .i64 d0.ce, .slice A0_0 d0.n c0_0, .slice A0_1 d0.m c0_1] := by rw [← hu]; exact (Blk.new _ _ _).alloc _
    have qP0 := fun o => BP0.cell o
    have lP0 := BP0.lt
    have BP1 : Blk u (w.heap.size + 1) 25 #[.int .i64 d1.ce, .slice A1_0 d1.n c1_0, .slice A1_1 d1.m c1_1] := by rw [← hu]; exact Blk.at_ (by simp)
    have qP1 := fun o => BP1.cell o
    have lP1 := BP1.lt
    clear hu
    replace hL0 := hL0.below hU
    replace hL1 := hL1.below hU
    have C : Below u.heap.size u u := Below.refl _ _
    go_wp2_with fail
    refine (szDuty_no A0_0 A0_1 c0_0 c0_1 d0 _ _ (by omega) (by omega) (by omega) (by omega) (by omega)).mono ?_
    rintro e w1 ⟨rfl, b1⟩
    replace BP0 := BP0.below b1
    clear qP0 lP0
    have qP0 := fun o => BP0.cell o
    have lP0 := BP0.lt
    replace BP1 := BP1.below b1
    clear qP1 lP1
    have qP1 := fun o => BP1.cell o
    have lP1 := BP1.lt
    have s1 := b1.size
    replace C := below_tr C b1
    go_wp2_with fail
    go_ret
    exact ⟨rfl, below_tr hU C⟩
theorem spec_at {H : Type} (ds : List (DataW H)) (h : ds.length = [0, 0].length) : Rows.fnExactChangedLocksSpec.fn H (ds ++ []) = { results := [.lit (.bool true)], args := ds } := by
  match ds, h with
  | [_, _], _ => rfl
theorem contract (H : Type) (enc : TypeId × Value → H) (W : World) (base : Nat) (args : Array Value) (ds : List (DataW H)) (p : List MemPlace)
    (hval : ∀ (j : Nat) t v, Try.f4.params[j]? = some t → args[j]? = some v → Value.okWide Try.prog W .any base t v)
    (hA : DataW.TrodAll enc Try.prog W 0 (fun _ => true) true Try.f4.params.toList args.toList ds p) : Calls Try.prog 4 args W (Post (.bool true) W) := by
  rw [Try.params4] at hA hval
  obtain ⟨v0, vs0, d0, ds0, p0, q0, hargs, rfl, rfl, h0, r0⟩ := trodAll_cons hA
  obtain ⟨v1, vs1, d1, ds1, p1, q1, rfl, rfl, rfl, h1, r1⟩ := trodAll_cons r0
  obtain ⟨rfl, rfl, rfl⟩ := trodAll_nil r1
  obtain rfl : args = #[v0, v1] := by cases args; simp_all
  obtain ⟨A0_0, A0_1, c0_0, c0_1, d0, rfl, hn0_0, hn0_1, hL0, _⟩ := openV_Du (hval 0 _ v0 rfl rfl) h0
  obtain ⟨A1_0, A1_1, c1_0, c1_1, d1, rfl, hn1_0, hn1_1, hL1, _⟩ := openV_Du (hval 1 _ v1 rfl rfl) h1
  exact walk A0_0 A0_1 c0_0 c0_1 d0 A1_0 A1_1 c1_0 c1_1 d1 W hn0_0 hn0_1 hL0 hn1_0 hn1_1 hL1
set_option maxRecDepth 100000 in
theorem lifted (os : Os) (started : os.Started) (H : Type) (enc : TypeId × Value → H) :
    ReturnsInHanded {} Try.checked os 4 .any (Rows.fnExactChangedLocksSpec.pre6 enc Try.prog Try.f4 Rows.fnExactChangedLocksRow.domain false) (Rows.fnExactChangedLocksSpec.post enc Try.prog Try.f4 false true false false) :=
  law_lift (C := Try.checked) (tb := 4) own started (by kernel_rfl) Try.func4
    (ChangeSpec.witness6 (enc := enc) (C := Try.checked) false ⟨#[], #[.agg #[.int .i64 0, .slice none 0 0, .slice none 0 0], .agg #[.int .i64 0, .slice none 0 0, .slice none 0 0]], []⟩ 8 (by kernel_rfl) (by kernel_rfl) (by kernel_rfl) (by kernel_rfl))
    rfl (fun ds h => by rw [show Try.f4.params.size = [0, 0].length from by kernel_rfl] at h; exact spec_at ds h) (by kernel_rfl) Try.underlying4 (by kernel_rfl) (by kernel_rfl) (fun W base args ds p hval hA => contract H enc W base args ds p hval hA)
theorem over : Rows.fnExactChangedLocksRow.holds Try.pinned (OpenSpec.ofChange Rows.fnExactChangedLocksSpec) :=
  OpenClaim.holds_of_wide 4 Try.f4 rfl rfl rfl rfl rfl rfl rfl ⟨rfl, rfl, rfl, rfl, rfl⟩ rfl rfl rfl rfl rfl (by kernel_rfl) Try.func4 (by kernel_rfl)
    (of_decide_eq_true (by kernel_rfl)) (by unfold Func.isWrapper; first | (rw [if_pos (by decide +kernel)]; kernel_rfl) | (rw [if_neg (by decide +kernel)]; exact ⟨rfl, rfl⟩))
    (fun os started H enc _ => lifted os started H enc)
theorem proved : Rows.FnExactChangedLocksSaid := over
end Go.Proofs.Ytbbafdcmgobkeaa.lawChangedLocks
