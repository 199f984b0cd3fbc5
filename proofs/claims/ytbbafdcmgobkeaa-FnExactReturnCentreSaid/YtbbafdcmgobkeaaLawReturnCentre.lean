/-
  The program's ReturnCentre answers as the reference's does, for all arguments, and leaves its arguments alone.
  Conditions: none: every input that can be read as data.
-/
import Derived.Test.YtbbafdcmgobkeaaC11
import Derived.Deep.RegionHeld3
import Derived.Test.YtbbafdcmgobkeaaDm
namespace Go.Proofs.Ytbbafdcmgobkeaa.lawReturnCentre
set_option linter.unusedSimpArgs false
set_option linter.unusedVariables false
open Go.ChangeShapes Go.WideShapes Go.ChangeAt Go.RowKit
theorem own : ownKnob Try.prog.godebug = none := by kernel_rfl
set_option maxRecDepth 100000 in
set_option maxHeartbeats 800000 in
theorem walk (A0_0 A0_1 : Option Addr) (c0_0 c0_1 : Nat) (d0 : Du) (a1 : Int) (a2 : Int) (a3 : Int) (w : World) (hn0_0 : d0.n ≤ 9223372036854775807) (hn0_1 : d0.m ≤ 9223372036854775807) (hL0 : IsDu w A0_0 A0_1 d0) (ha1 : In64 a1) (ha2 : In64 a2) (ha3 : In64 a3) :
    Calls Try.prog 9 #[.agg #[.int .i64 d0.ce, .slice A0_0 d0.n c0_0, .slice A0_1 d0.m c0_1], .int .i64 a1, .int .i64 a2, .int .i64 a3] w (Post (.bool true) w) := by
  have dz0 : d0.size = (d0.n : Int) + (d0.m : Int) := rfl
  by_cases s0z : (d0.size : Int) ≤ 1048576
  · skip
    go_enter Try.func9, Try.ntmps9
    go_wp2_with fail
    generalize hu : (w.alloc (.cells #[.int .i64 d0.ce, .slice A0_0 d0.n c0_0, .slice A0_1 d0.m c0_1] 25)) = u
    have hU : Below w.heap.size w u := by rw [← hu]; exact (by repeat (first | with_reducible exact Below.refl _ _ | with_reducible assumption | with_reducible refine below_alloc ?_ _ | with_reducible refine below_more ?_ _ | (with_reducible refine below_set ?_ ?_ _; rotate_left; focus (first | with_reducible exact Nat.le_refl _ | with_reducible assumption | (simp; done) | (simp; omega) | omega))))
    have ku : w.heap.size + 1 ≤ u.heap.size := by rw [← hu]; simp
    have BP0 : Blk u (w.heap.size) 25 #[.int .i64 d0.ce, .slice A0_0 d0.n c0_0, .slice A0_1 d0.m c0_1] := by rw [← hu]; exact Blk.new _ _ _
    have qP0 := fun o => BP0.cell o
    have lP0 := BP0.lt
    clear hu
    replace hL0 := hL0.below hU
    have C : Below u.heap.size u u := Below.refl _ _
    have hL0o := hL0
    go_wp2_with fail
    refine (szDuty_ok A0_0 A0_1 c0_0 c0_1 d0 _ _ (by omega) (by omega)).mono ?_
    rintro e w1 ⟨rfl, b1⟩
    replace BP0 := BP0.below b1
    clear qP0 lP0
    have qP0 := fun o => BP0.cell o
    have lP0 := BP0.lt
    replace hL0 := hL0.below b1
    have s1 := b1.size
    replace C := below_tr C b1
    go_wp2_with fail
    refine (toDuty_any A0_0 A0_1 c0_0 c0_1 d0 _ (by omega) (by omega) hL0).mono ?_
    rintro e w2 ⟨g2_0, cs2_0, g2_1, cs2_1, rfl, ⟨hg2_0, B_2_0, z2_0, R2_0⟩, ⟨hg2_1, B_2_1, z2_1, R2_1⟩, b2⟩
    replace BP0 := BP0.below b2
    clear qP0 lP0
    have qP0 := fun o => BP0.cell o
    have lP0 := BP0.lt
    replace hL0 := hL0.below b2
    have s2 := b2.size
    replace C := below_tr C b2
    have X_2 : IsDu w2 (some ⟨g2_0, 0, none⟩) (some ⟨g2_1, 0, none⟩) d0 := ⟨R2_0.rd B_2_0, R2_1.rd B_2_1⟩
    have l2_0 := B_2_0.lt
    have l2_1 := B_2_1.lt
    go_wp2_with fail
    refine (specReturnCentre_any (some ⟨g2_0, 0, none⟩) (some ⟨g2_1, 0, none⟩) d0.n d0.m d0 a1 a2 a3 _ (by omega) (by omega) ha1 ha2 ha3 X_2).mono ?_
    rintro e w3 ⟨AW_0, AW_1, cW_0, cW_1, rfl, OW, b3⟩
    replace BP0 := BP0.below b3
    clear qP0 lP0
    have qP0 := fun o => BP0.cell o
    have lP0 := BP0.lt
    replace hL0 := hL0.below b3
    replace X_2 := X_2.below b3
    replace B_2_0 := B_2_0.below b3
    replace B_2_1 := B_2_1.below b3
    have s3 := b3.size
    replace C := below_tr C b3
    have XW := OW.rd
    have XWo := XW
    go_wp2_with fail
    generalize hu4 : (w3.alloc (.cells #[.int .i64 (rcW d0 a1 a2 a3).ce, .slice AW_0 (rcW d0 a1 a2 a3).n cW_0, .slice AW_1 (rcW d0 a1 a2 a3).m cW_1] 28)) = w4
    have b4 : Below w3.heap.size w3 w4 := by rw [← hu4]; exact (by repeat (first | with_reducible exact Below.refl _ _ | with_reducible assumption | with_reducible refine below_alloc ?_ _ | with_reducible refine below_more ?_ _ | (with_reducible refine below_set ?_ ?_ _; rotate_left; focus (first | with_reducible exact Nat.le_refl _ | with_reducible assumption | (simp; done) | (simp; omega) | omega))))
    have BX4 : Blk w4 w3.heap.size 28 #[.int .i64 (rcW d0 a1 a2 a3).ce, .slice AW_0 (rcW d0 a1 a2 a3).n cW_0, .slice AW_1 (rcW d0 a1 a2 a3).m cW_1] := by rw [← hu4]; exact Blk.new _ _ _
    clear hu4
    have qX4 := fun o => BX4.cell o
    have lX4 := BX4.lt
    have pX4 := BX4.lt
    replace BP0 := BP0.below b4
    clear qP0 lP0
    have qP0 := fun o => BP0.cell o
    have lP0 := BP0.lt
    replace hL0 := hL0.below b4
    replace XW := XW.below b4
    have s4 := b4.size
    replace C := below_tr C b4
    go_wp2_with fail
    refine (toDuty_any A0_0 A0_1 c0_0 c0_1 d0 _ (by omega) (by omega) hL0).mono ?_
    rintro e w5 ⟨g5_0, cs5_0, g5_1, cs5_1, rfl, ⟨hg5_0, B_5_0, z5_0, R5_0⟩, ⟨hg5_1, B_5_1, z5_1, R5_1⟩, b5⟩
    replace BP0 := BP0.below b5
    clear qP0 lP0
    have qP0 := fun o => BP0.cell o
    have lP0 := BP0.lt
    replace hL0 := hL0.below b5
    replace XW := XW.below b5
    replace BX4 := BX4.below b5
    clear qX4 lX4
    have qX4 := fun o => BX4.cell o
    have lX4 := BX4.lt
    have s5 := b5.size
    replace C := below_tr C b5
    have X_5 : IsDu w5 (some ⟨g5_0, 0, none⟩) (some ⟨g5_1, 0, none⟩) d0 := ⟨R5_0.rd B_5_0, R5_1.rd B_5_1⟩
    have l5_0 := B_5_0.lt
    have l5_1 := B_5_1.lt
    go_wp2_with fail
    generalize hu6 : (w5.alloc (.cells #[.int .i64 d0.ce, .slice (some ⟨g5_0, 0, none⟩) d0.n d0.n, .slice (some ⟨g5_1, 0, none⟩) d0.m d0.m] 28)) = w6
    have b6 : Below w5.heap.size w5 w6 := by rw [← hu6]; exact (by repeat (first | with_reducible exact Below.refl _ _ | with_reducible assumption | with_reducible refine below_alloc ?_ _ | with_reducible refine below_more ?_ _ | (with_reducible refine below_set ?_ ?_ _; rotate_left; focus (first | with_reducible exact Nat.le_refl _ | with_reducible assumption | (simp; done) | (simp; omega) | omega))))
    have BX6 : Blk w6 w5.heap.size 28 #[.int .i64 d0.ce, .slice (some ⟨g5_0, 0, none⟩) d0.n d0.n, .slice (some ⟨g5_1, 0, none⟩) d0.m d0.m] := by rw [← hu6]; exact Blk.new _ _ _
    clear hu6
    have qX6 := fun o => BX6.cell o
    have lX6 := BX6.lt
    have pX6 := BX6.lt
    replace BP0 := BP0.below b6
    clear qP0 lP0
    have qP0 := fun o => BP0.cell o
    have lP0 := BP0.lt
    replace hL0 := hL0.below b6
    replace XW := XW.below b6
    replace BX4 := BX4.below b6
    clear qX4 lX4
    have qX4 := fun o => BX4.cell o
    have lX4 := BX4.lt
    replace X_5 := X_5.below b6
    replace B_5_0 := B_5_0.below b6
    replace B_5_1 := B_5_1.below b6
    have s6 := b6.size
    replace C := below_tr C b6
    go_wp2_with fail
    refine (returnCentre_any (some ⟨g5_0, 0, none⟩) (some ⟨g5_1, 0, none⟩) d0.n d0.m d0 a1 a2 a3 _ (by omega) (by omega) ha1 ha2 ha3 X_5).mono ?_
    rintro e w7 ⟨AG_0, AG_1, cG_0, cG_1, rfl, OG, b7⟩
    replace BP0 := BP0.below b7
    clear qP0 lP0
    have qP0 := fun o => BP0.cell o
    have lP0 := BP0.lt
    replace hL0 := hL0.below b7
    replace XW := XW.below b7
    replace BX4 := BX4.below b7
    clear qX4 lX4
    have qX4 := fun o => BX4.cell o
    have lX4 := BX4.lt
    replace X_5 := X_5.below b7
    replace B_5_0 := B_5_0.below b7
    replace B_5_1 := B_5_1.below b7
    replace BX6 := BX6.below b7
    clear qX6 lX6
    have qX6 := fun o => BX6.cell o
    have lX6 := BX6.lt
    have s7 := b7.size
    replace C := below_tr C b7
    have rG0 := OG.1.row_lt
    have rG1 := OG.2.1.row_lt
    have hN0 : (rcW d0 a1 a2 a3).n ≤ 1048576 := rcW_n d0 a1 a2 a3 (by omega)
    have hN1 : (rcW d0 a1 a2 a3).m ≤ 1048576 := rcW_m d0 a1 a2 a3 (by omega)
    go_wp2_with fail
    generalize hu8 : (w7.alloc (.cells #[.int .i64 (rcW d0 a1 a2 a3).ce, .slice AG_0 (rcW d0 a1 a2 a3).n cG_0, .slice AG_1 (rcW d0 a1 a2 a3).m cG_1] 28)) = w8
    have b8 : Below w7.heap.size w7 w8 := by rw [← hu8]; exact (by repeat (first | with_reducible exact Below.refl _ _ | with_reducible assumption | with_reducible refine below_alloc ?_ _ | with_reducible refine below_more ?_ _ | (with_reducible refine below_set ?_ ?_ _; rotate_left; focus (first | with_reducible exact Nat.le_refl _ | with_reducible assumption | (simp; done) | (simp; omega) | omega))))
    have BX8 : Blk w8 w7.heap.size 28 #[.int .i64 (rcW d0 a1 a2 a3).ce, .slice AG_0 (rcW d0 a1 a2 a3).n cG_0, .slice AG_1 (rcW d0 a1 a2 a3).m cG_1] := by rw [← hu8]; exact Blk.new _ _ _
    clear hu8
    have qX8 := fun o => BX8.cell o
    have lX8 := BX8.lt
    have pX8 := BX8.lt
    replace BP0 := BP0.below b8
    clear qP0 lP0
    have qP0 := fun o => BP0.cell o
    have lP0 := BP0.lt
    replace hL0 := hL0.below b8
    replace XW := XW.below b8
    replace BX4 := BX4.below b8
    clear qX4 lX4
    have qX4 := fun o => BX4.cell o
    have lX4 := BX4.lt
    replace X_5 := X_5.below b8
    replace B_5_0 := B_5_0.below b8
    replace B_5_1 := B_5_1.below b8
    replace BX6 := BX6.below b8
    clear qX6 lX6
    have qX6 := fun o => BX6.cell o
    have lX6 := BX6.lt
    replace OG := OG.below b8
    have s8 := b8.size
    replace C := below_tr C b8
    go_wp2_with fail
    refine (eqDuty_same AG_0 AG_1 AW_0 AW_1 cG_0 cG_1 cW_0 cW_1 (rcW d0 a1 a2 a3) _ hN0 hN1 OG.rd XW).mono ?_
    rintro e w9 ⟨rfl, b9⟩
    replace BP0 := BP0.below b9
    clear qP0 lP0
    have qP0 := fun o => BP0.cell o
    have lP0 := BP0.lt
    replace hL0 := hL0.below b9
    replace XW := XW.below b9
    replace BX4 := BX4.below b9
    clear qX4 lX4
    have qX4 := fun o => BX4.cell o
    have lX4 := BX4.lt
    replace X_5 := X_5.below b9
    replace B_5_0 := B_5_0.below b9
    replace B_5_1 := B_5_1.below b9
    replace BX6 := BX6.below b9
    clear qX6 lX6
    have qX6 := fun o => BX6.cell o
    have lX6 := BX6.lt
    replace OG := OG.below b9
    replace BX8 := BX8.below b9
    clear qX8 lX8
    have qX8 := fun o => BX8.cell o
    have lX8 := BX8.lt
    have s9 := b9.size
    replace C := below_tr C b9
    go_wp2_with fail
    have HS := Lib.hid (show ∀ W, Below w9.heap.size w9 W → (W.cell? ⟨w.heap.size, 0, none⟩ = some (.int .i64 d0.ce) ∧ W.cell? ⟨w.heap.size, 1, none⟩ = some (.slice A0_0 d0.n c0_0) ∧ W.cell? ⟨w.heap.size, 2, none⟩ = some (.slice A0_1 d0.m c0_1) ∧ W.cell? ⟨w3.heap.size, 0, none⟩ = some (.int .i64 (rcW d0 a1 a2 a3).ce) ∧ W.cell? ⟨w3.heap.size, 1, none⟩ = some (.slice AW_0 (rcW d0 a1 a2 a3).n cW_0) ∧ W.cell? ⟨w3.heap.size, 2, none⟩ = some (.slice AW_1 (rcW d0 a1 a2 a3).m cW_1) ∧ W.cell? ⟨w5.heap.size, 0, none⟩ = some (.int .i64 d0.ce) ∧ W.cell? ⟨w5.heap.size, 1, none⟩ = some (.slice (some ⟨g5_0, 0, none⟩) d0.n d0.n) ∧ W.cell? ⟨w5.heap.size, 2, none⟩ = some (.slice (some ⟨g5_1, 0, none⟩) d0.m d0.m) ∧ W.cell? ⟨w7.heap.size, 0, none⟩ = some (.int .i64 (rcW d0 a1 a2 a3).ce) ∧ W.cell? ⟨w7.heap.size, 1, none⟩ = some (.slice AG_0 (rcW d0 a1 a2 a3).n cG_0) ∧ W.cell? ⟨w7.heap.size, 2, none⟩ = some (.slice AG_1 (rcW d0 a1 a2 a3).m cG_1) ∧ Below w9.heap.size w9 W) from fun W hW => ⟨(BP0.below hW).cell 0, (BP0.below hW).cell 1, (BP0.below hW).cell 2, (BX4.below hW).cell 0, (BX4.below hW).cell 1, (BX4.below hW).cell 2, (BX6.below hW).cell 0, (BX6.below hW).cell 1, (BX6.below hW).cell 2, (BX8.below hW).cell 0, (BX8.below hW).cell 1, (BX8.below hW).cell 2, hW⟩)
    go_region_held3 (fun W => W.cell? ⟨w.heap.size, 0, none⟩ = some (.int .i64 d0.ce) ∧ W.cell? ⟨w.heap.size, 1, none⟩ = some (.slice A0_0 d0.n c0_0) ∧ W.cell? ⟨w.heap.size, 2, none⟩ = some (.slice A0_1 d0.m c0_1) ∧ W.cell? ⟨w3.heap.size, 0, none⟩ = some (.int .i64 (rcW d0 a1 a2 a3).ce) ∧ W.cell? ⟨w3.heap.size, 1, none⟩ = some (.slice AW_0 (rcW d0 a1 a2 a3).n cW_0) ∧ W.cell? ⟨w3.heap.size, 2, none⟩ = some (.slice AW_1 (rcW d0 a1 a2 a3).m cW_1) ∧ W.cell? ⟨w5.heap.size, 0, none⟩ = some (.int .i64 d0.ce) ∧ W.cell? ⟨w5.heap.size, 1, none⟩ = some (.slice (some ⟨g5_0, 0, none⟩) d0.n d0.n) ∧ W.cell? ⟨w5.heap.size, 2, none⟩ = some (.slice (some ⟨g5_1, 0, none⟩) d0.m d0.m) ∧ W.cell? ⟨w7.heap.size, 0, none⟩ = some (.int .i64 (rcW d0 a1 a2 a3).ce) ∧ W.cell? ⟨w7.heap.size, 1, none⟩ = some (.slice AG_0 (rcW d0 a1 a2 a3).n cG_0) ∧ W.cell? ⟨w7.heap.size, 2, none⟩ = some (.slice AG_1 (rcW d0 a1 a2 a3).m cG_1) ∧ Below w9.heap.size w9 W) (first | exact HS.out _ (Below.refl _ _).drew | exact HS.out _ (Below.refl _ _) | exact HS.out _ (below_tr (by assumption) c11) | exact HS.out _ (below_tr (by assumption) b10))
      (first
        | (go_at_call 17; go_split_ands; refine (toDuty_any A0_0 A0_1 c0_0 c0_1 d0 _ (by omega) (by omega) (hL0.below (by assumption))).mono ?_; rintro e w10 ⟨g10_0, cs10_0, g10_1, cs10_1, rfl, ⟨hg10_0, B_10_0, z10_0, R10_0⟩, ⟨hg10_1, B_10_1, z10_1, R10_1⟩, b10⟩)
        | (go_at_call 19; go_split_ands; refine (eqDuty_same (some ⟨g5_0, 0, none⟩) (some ⟨g5_1, 0, none⟩) (some ⟨g10_0, 0, none⟩) (some ⟨g10_1, 0, none⟩) d0.n d0.m d0.n d0.m d0 _ (by omega) (by omega) (X_5.below (by assumption)) ⟨R10_0.rd B_10_0, R10_1.rd B_10_1⟩).mono ?_; rintro e w11 ⟨rfl, c11⟩))
    have b11 : Below w9.heap.size w9 w11 := below_tr (by assumption) c11
    clear HS
    replace BP0 := BP0.below b11
    clear qP0 lP0
    have qP0 := fun o => BP0.cell o
    have lP0 := BP0.lt
    replace hL0 := hL0.below b11
    replace XW := XW.below b11
    replace BX4 := BX4.below b11
    clear qX4 lX4
    have qX4 := fun o => BX4.cell o
    have lX4 := BX4.lt
    replace X_5 := X_5.below b11
    replace B_5_0 := B_5_0.below b11
    replace B_5_1 := B_5_1.below b11
    replace BX6 := BX6.below b11
    clear qX6 lX6
    have qX6 := fun o => BX6.cell o
    have lX6 := BX6.lt
    replace OG := OG.below b11
    replace BX8 := BX8.below b11
    clear qX8 lX8
    have qX8 := fun o => BX8.cell o
    have lX8 := BX8.lt
    have s11 := b11.size
    replace C := below_tr C b11
    have OX5 : OwnDu w11 g5_0 (some ⟨g5_0, 0, none⟩) (some ⟨g5_1, 0, none⟩) d0 := ⟨OwnB.of_blk B_5_0 (by omega) R5_0 (Nat.le_refl _), OwnS.of_blk B_5_1 (by omega) R5_1 (by omega), fun k h8 h9 => by have e8 := rowOf_some h8; have e9 := rowOf_some h9; omega⟩
    go_wp2_with fail
    refine (markDuty_own (some ⟨g5_0, 0, none⟩) (some ⟨g5_1, 0, none⟩) d0.n d0.m g5_0 1 d0 _ (by omega) (by omega) (by omega) (by omega) OX5 (by omega)).mono ?_
    rintro e w12 ⟨rfl, wm12, gma12, gmb12, OY12⟩
    clear OX5 OY12
    replace BP0 := BP0.grown gma12 (by intro hk; first | (have h9 := rowOf_some hk.symm; omega) | (have h8 := True _ hk.symm; have h9 := True _ hk.symm; omega))
    clear qP0 lP0
    have qP0 := fun o => BP0.cell o
    have lP0 := BP0.lt
    replace hL0 := hL0.kept hL0o gma12 (by intro k hk; first | (have h9 := rowOf_some hk; omega) | (have h8 := True k hk; have h9 := True k hk; omega))
    replace XW := XW.kept XWo gma12 (by intro k hk; first | (have h9 := rowOf_some hk; omega) | (have h8 := True k hk; have h9 := True k hk; omega))
    replace BX4 := BX4.grown gma12 (by intro hk; first | (have h9 := rowOf_some hk.symm; omega) | (have h8 := True _ hk.symm; have h9 := True _ hk.symm; omega))
    clear qX4 lX4
    have qX4 := fun o => BX4.cell o
    have lX4 := BX4.lt
    replace BX6 := BX6.grown gma12 (by intro hk; first | (have h9 := rowOf_some hk.symm; omega) | (have h8 := True _ hk.symm; have h9 := True _ hk.symm; omega))
    clear qX6 lX6
    have qX6 := fun o => BX6.cell o
    have lX6 := BX6.lt
    replace OG := OG.grown gma12 (by intro k hk; first | (have h9 := rowOf_some hk; omega) | (have h8 := True k hk; have h9 := True k hk; omega))
    replace BX8 := BX8.grown gma12 (by intro hk; first | (have h9 := rowOf_some hk.symm; omega) | (have h8 := True _ hk.symm; have h9 := True _ hk.symm; omega))
    clear qX8 lX8
    have qX8 := fun o => BX8.cell o
    have lX8 := BX8.lt
    have swm12 := gma12.size
    replace C := below_row C gma12 (by intro k hk; first | (have h9 := rowOf_some hk; omega) | (have h8 := True k hk; have h9 := True k hk; omega))
    replace BP0 := BP0.grown gmb12 (by intro hk; first | (have h9 := rowOf_some hk.symm; omega) | (have h8 := True _ hk.symm; have h9 := True _ hk.symm; omega))
    clear qP0 lP0
    have qP0 := fun o => BP0.cell o
    have lP0 := BP0.lt
    replace hL0 := hL0.kept hL0o gmb12 (by intro k hk; first | (have h9 := rowOf_some hk; omega) | (have h8 := True k hk; have h9 := True k hk; omega))
    replace XW := XW.kept XWo gmb12 (by intro k hk; first | (have h9 := rowOf_some hk; omega) | (have h8 := True k hk; have h9 := True k hk; omega))
    replace BX4 := BX4.grown gmb12 (by intro hk; first | (have h9 := rowOf_some hk.symm; omega) | (have h8 := True _ hk.symm; have h9 := True _ hk.symm; omega))
    clear qX4 lX4
    have qX4 := fun o => BX4.cell o
    have lX4 := BX4.lt
    replace BX6 := BX6.grown gmb12 (by intro hk; first | (have h9 := rowOf_some hk.symm; omega) | (have h8 := True _ hk.symm; have h9 := True _ hk.symm; omega))
    clear qX6 lX6
    have qX6 := fun o => BX6.cell o
    have lX6 := BX6.lt
    replace OG := OG.grown gmb12 (by intro k hk; first | (have h9 := rowOf_some hk; omega) | (have h8 := True k hk; have h9 := True k hk; omega))
    replace BX8 := BX8.grown gmb12 (by intro hk; first | (have h9 := rowOf_some hk.symm; omega) | (have h8 := True _ hk.symm; have h9 := True _ hk.symm; omega))
    clear qX8 lX8
    have qX8 := fun o => BX8.cell o
    have lX8 := BX8.lt
    have sw12 := gmb12.size
    replace C := below_row C gmb12 (by intro k hk; first | (have h9 := rowOf_some hk; omega) | (have h8 := True k hk; have h9 := True k hk; omega))
    go_wp2_with fail
    refine (eqDuty_same AG_0 AG_1 AW_0 AW_1 cG_0 cG_1 cW_0 cW_1 (rcW d0 a1 a2 a3) _ hN0 hN1 OG.rd XW).mono ?_
    rintro e w13 ⟨rfl, b13⟩
    replace BP0 := BP0.below b13
    clear qP0 lP0
    have qP0 := fun o => BP0.cell o
    have lP0 := BP0.lt
    replace hL0 := hL0.below b13
    replace XW := XW.below b13
    replace BX4 := BX4.below b13
    clear qX4 lX4
    have qX4 := fun o => BX4.cell o
    have lX4 := BX4.lt
    replace BX6 := BX6.below b13
    clear qX6 lX6
    have qX6 := fun o => BX6.cell o
    have lX6 := BX6.lt
    replace OG := OG.below b13
    replace BX8 := BX8.below b13
    clear qX8 lX8
    have qX8 := fun o => BX8.cell o
    have lX8 := BX8.lt
    have s13 := b13.size
    replace C := below_tr C b13
    go_wp2_with fail
    refine (markDuty_own AG_0 AG_1 cG_0 cG_1 _ 1 (rcW d0 a1 a2 a3) _ hN0 hN1 (by omega) (by omega) OG (by omega)).mono ?_
    rintro e w14 ⟨rfl, wm14, gma14, gmb14, OG1⟩
    replace BP0 := BP0.grown gma14 (by intro hk; first | (have h9 := rowOf_some hk.symm; omega) | (have h8 := OG.1.row_ge _ hk.symm; have h9 := rG0 _ hk.symm; omega))
    clear qP0 lP0
    have qP0 := fun o => BP0.cell o
    have lP0 := BP0.lt
    replace hL0 := hL0.kept hL0o gma14 (by intro k hk; first | (have h9 := rowOf_some hk; omega) | (have h8 := OG.1.row_ge k hk; have h9 := rG0 k hk; omega))
    replace XW := XW.kept XWo gma14 (by intro k hk; first | (have h9 := rowOf_some hk; omega) | (have h8 := OG.1.row_ge k hk; have h9 := rG0 k hk; omega))
    replace BX4 := BX4.grown gma14 (by intro hk; first | (have h9 := rowOf_some hk.symm; omega) | (have h8 := OG.1.row_ge _ hk.symm; have h9 := rG0 _ hk.symm; omega))
    clear qX4 lX4
    have qX4 := fun o => BX4.cell o
    have lX4 := BX4.lt
    replace BX6 := BX6.grown gma14 (by intro hk; first | (have h9 := rowOf_some hk.symm; omega) | (have h8 := OG.1.row_ge _ hk.symm; have h9 := rG0 _ hk.symm; omega))
    clear qX6 lX6
    have qX6 := fun o => BX6.cell o
    have lX6 := BX6.lt
    replace BX8 := BX8.grown gma14 (by intro hk; first | (have h9 := rowOf_some hk.symm; omega) | (have h8 := OG.1.row_ge _ hk.symm; have h9 := rG0 _ hk.symm; omega))
    clear qX8 lX8
    have qX8 := fun o => BX8.cell o
    have lX8 := BX8.lt
    have swm14 := gma14.size
    replace C := below_row C gma14 (by intro k hk; first | (have h9 := rowOf_some hk; omega) | (have h8 := OG.1.row_ge k hk; have h9 := rG0 k hk; omega))
    replace BP0 := BP0.grown gmb14 (by intro hk; first | (have h9 := rowOf_some hk.symm; omega) | (have h8 := OG.2.1.row_ge _ hk.symm; have h9 := rG1 _ hk.symm; omega))
    clear qP0 lP0
    have qP0 := fun o => BP0.cell o
    have lP0 := BP0.lt
    replace hL0 := hL0.kept hL0o gmb14 (by intro k hk; first | (have h9 := rowOf_some hk; omega) | (have h8 := OG.2.1.row_ge k hk; have h9 := rG1 k hk; omega))
    replace XW := XW.kept XWo gmb14 (by intro k hk; first | (have h9 := rowOf_some hk; omega) | (have h8 := OG.2.1.row_ge k hk; have h9 := rG1 k hk; omega))
    replace BX4 := BX4.grown gmb14 (by intro hk; first | (have h9 := rowOf_some hk.symm; omega) | (have h8 := OG.2.1.row_ge _ hk.symm; have h9 := rG1 _ hk.symm; omega))
    clear qX4 lX4
    have qX4 := fun o => BX4.cell o
    have lX4 := BX4.lt
    replace BX6 := BX6.grown gmb14 (by intro hk; first | (have h9 := rowOf_some hk.symm; omega) | (have h8 := OG.2.1.row_ge _ hk.symm; have h9 := rG1 _ hk.symm; omega))
    clear qX6 lX6
    have qX6 := fun o => BX6.cell o
    have lX6 := BX6.lt
    replace BX8 := BX8.grown gmb14 (by intro hk; first | (have h9 := rowOf_some hk.symm; omega) | (have h8 := OG.2.1.row_ge _ hk.symm; have h9 := rG1 _ hk.symm; omega))
    clear qX8 lX8
    have qX8 := fun o => BX8.cell o
    have lX8 := BX8.lt
    have sw14 := gmb14.size
    replace C := below_row C gmb14 (by intro k hk; first | (have h9 := rowOf_some hk; omega) | (have h8 := OG.2.1.row_ge k hk; have h9 := rG1 k hk; omega))
    go_wp2_with fail
    refine (heldDuty_any AG_0 AG_1 cG_0 cG_1 1 (rcW d0 a1 a2 a3) _ hN0 hN1 (by omega) (by omega) OG1.rd).mono ?_
    rintro e w15 ⟨rfl, b15⟩
    replace BP0 := BP0.below b15
    clear qP0 lP0
    have qP0 := fun o => BP0.cell o
    have lP0 := BP0.lt
    replace hL0 := hL0.below b15
    replace XW := XW.below b15
    replace BX4 := BX4.below b15
    clear qX4 lX4
    have qX4 := fun o => BX4.cell o
    have lX4 := BX4.lt
    replace BX6 := BX6.below b15
    clear qX6 lX6
    have qX6 := fun o => BX6.cell o
    have lX6 := BX6.lt
    replace BX8 := BX8.below b15
    clear qX8 lX8
    have qX8 := fun o => BX8.cell o
    have lX8 := BX8.lt
    replace OG1 := OG1.below b15
    have s15 := b15.size
    replace C := below_tr C b15
    go_wp2_with fail
    refine (toDuty_any A0_0 A0_1 c0_0 c0_1 d0 _ (by omega) (by omega) hL0).mono ?_
    rintro e w16 ⟨g16_0, cs16_0, g16_1, cs16_1, rfl, ⟨hg16_0, B_16_0, z16_0, R16_0⟩, ⟨hg16_1, B_16_1, z16_1, R16_1⟩, b16⟩
    replace BP0 := BP0.below b16
    clear qP0 lP0
    have qP0 := fun o => BP0.cell o
    have lP0 := BP0.lt
    replace hL0 := hL0.below b16
    replace XW := XW.below b16
    replace BX4 := BX4.below b16
    clear qX4 lX4
    have qX4 := fun o => BX4.cell o
    have lX4 := BX4.lt
    replace BX6 := BX6.below b16
    clear qX6 lX6
    have qX6 := fun o => BX6.cell o
    have lX6 := BX6.lt
    replace BX8 := BX8.below b16
    clear qX8 lX8
    have qX8 := fun o => BX8.cell o
    have lX8 := BX8.lt
    replace OG1 := OG1.below b16
    have s16 := b16.size
    replace C := below_tr C b16
    have X_16 : IsDu w16 (some ⟨g16_0, 0, none⟩) (some ⟨g16_1, 0, none⟩) d0 := ⟨R16_0.rd B_16_0, R16_1.rd B_16_1⟩
    have l16_0 := B_16_0.lt
    have l16_1 := B_16_1.lt
    go_wp2_with fail
    refine (returnCentre_any (some ⟨g16_0, 0, none⟩) (some ⟨g16_1, 0, none⟩) d0.n d0.m d0 a1 a2 a3 _ (by omega) (by omega) ha1 ha2 ha3 X_16).mono ?_
    rintro e w17 ⟨AH_0, AH_1, cH_0, cH_1, rfl, OH, b17⟩
    replace BP0 := BP0.below b17
    clear qP0 lP0
    have qP0 := fun o => BP0.cell o
    have lP0 := BP0.lt
    replace hL0 := hL0.below b17
    replace XW := XW.below b17
    replace BX4 := BX4.below b17
    clear qX4 lX4
    have qX4 := fun o => BX4.cell o
    have lX4 := BX4.lt
    replace BX6 := BX6.below b17
    clear qX6 lX6
    have qX6 := fun o => BX6.cell o
    have lX6 := BX6.lt
    replace BX8 := BX8.below b17
    clear qX8 lX8
    have qX8 := fun o => BX8.cell o
    have lX8 := BX8.lt
    replace OG1 := OG1.below b17
    replace X_16 := X_16.below b17
    replace B_16_0 := B_16_0.below b17
    replace B_16_1 := B_16_1.below b17
    have s17 := b17.size
    replace C := below_tr C b17
    go_wp2_with fail
    generalize hu18 : (w17.alloc (.cells #[.int .i64 (rcW d0 a1 a2 a3).ce, .slice AH_0 (rcW d0 a1 a2 a3).n cH_0, .slice AH_1 (rcW d0 a1 a2 a3).m cH_1] 28)) = w18
    have b18 : Below w17.heap.size w17 w18 := by rw [← hu18]; exact (by repeat (first | with_reducible exact Below.refl _ _ | with_reducible assumption | with_reducible refine below_alloc ?_ _ | with_reducible refine below_more ?_ _ | (with_reducible refine below_set ?_ ?_ _; rotate_left; focus (first | with_reducible exact Nat.le_refl _ | with_reducible assumption | (simp; done) | (simp; omega) | omega))))
    have BX18 : Blk w18 w17.heap.size 28 #[.int .i64 (rcW d0 a1 a2 a3).ce, .slice AH_0 (rcW d0 a1 a2 a3).n cH_0, .slice AH_1 (rcW d0 a1 a2 a3).m cH_1] := by rw [← hu18]; exact Blk.new _ _ _
    clear hu18
    have qX18 := fun o => BX18.cell o
    have lX18 := BX18.lt
    have pX18 := BX18.lt
    replace BP0 := BP0.below b18
    clear qP0 lP0
    have qP0 := fun o => BP0.cell o
    have lP0 := BP0.lt
    replace hL0 := hL0.below b18
    replace XW := XW.below b18
    replace BX4 := BX4.below b18
    clear qX4 lX4
    have qX4 := fun o => BX4.cell o
    have lX4 := BX4.lt
    replace BX6 := BX6.below b18
    clear qX6 lX6
    have qX6 := fun o => BX6.cell o
    have lX6 := BX6.lt
    replace BX8 := BX8.below b18
    clear qX8 lX8
    have qX8 := fun o => BX8.cell o
    have lX8 := BX8.lt
    replace OG1 := OG1.below b18
    replace X_16 := X_16.below b18
    replace B_16_0 := B_16_0.below b18
    replace B_16_1 := B_16_1.below b18
    replace OH := OH.below b18
    have s18 := b18.size
    replace C := below_tr C b18
    go_wp2_with fail
    refine (eqDuty_same AH_0 AH_1 AW_0 AW_1 cH_0 cH_1 cW_0 cW_1 (rcW d0 a1 a2 a3) _ hN0 hN1 OH.rd XW).mono ?_
    rintro e w19 ⟨rfl, b19⟩
    replace BP0 := BP0.below b19
    clear qP0 lP0
    have qP0 := fun o => BP0.cell o
    have lP0 := BP0.lt
    replace hL0 := hL0.below b19
    replace XW := XW.below b19
    replace BX4 := BX4.below b19
    clear qX4 lX4
    have qX4 := fun o => BX4.cell o
    have lX4 := BX4.lt
    replace BX6 := BX6.below b19
    clear qX6 lX6
    have qX6 := fun o => BX6.cell o
    have lX6 := BX6.lt
    replace BX8 := BX8.below b19
    clear qX8 lX8
    have qX8 := fun o => BX8.cell o
    have lX8 := BX8.lt
    replace OG1 := OG1.below b19
    replace X_16 := X_16.below b19
    replace B_16_0 := B_16_0.below b19
    replace B_16_1 := B_16_1.below b19
    replace OH := OH.below b19
    replace BX18 := BX18.below b19
    clear qX18 lX18
    have qX18 := fun o => BX18.cell o
    have lX18 := BX18.lt
    have s19 := b19.size
    replace C := below_tr C b19
    go_wp2_with fail
    refine (heldDuty_any AG_0 AG_1 cG_0 cG_1 1 (rcW d0 a1 a2 a3) _ hN0 hN1 (by omega) (by omega) OG1.rd).mono ?_
    rintro e w20 ⟨rfl, b20⟩
    replace BP0 := BP0.below b20
    clear qP0 lP0
    have qP0 := fun o => BP0.cell o
    have lP0 := BP0.lt
    replace hL0 := hL0.below b20
    replace XW := XW.below b20
    replace BX4 := BX4.below b20
    clear qX4 lX4
    have qX4 := fun o => BX4.cell o
    have lX4 := BX4.lt
    replace BX6 := BX6.below b20
    clear qX6 lX6
    have qX6 := fun o => BX6.cell o
    have lX6 := BX6.lt
    replace BX8 := BX8.below b20
    clear qX8 lX8
    have qX8 := fun o => BX8.cell o
    have lX8 := BX8.lt
    replace OG1 := OG1.below b20
    replace X_16 := X_16.below b20
    replace B_16_0 := B_16_0.below b20
    replace B_16_1 := B_16_1.below b20
    replace OH := OH.below b20
    replace BX18 := BX18.below b20
    clear qX18 lX18
    have qX18 := fun o => BX18.cell o
    have lX18 := BX18.lt
    have s20 := b20.size
    replace C := below_tr C b20
    go_wp2_with fail
    go_ret
    exact ⟨rfl, below_tr hU C⟩
  · skip
    go_enter Try.func9, Try.ntmps9
    go_wp2_with fail
    generalize hu : (w.alloc (.cells #[.int .i64 d0.ce, .slice A0_0 d0.n c0_0, .slice A0_1 d0.m c0_1] 25)) = u
    have hU : Below w.heap.size w u := by rw [← hu]; exact (by repeat (first | with_reducible exact Below.refl _ _ | with_reducible assumption | with_reducible refine below_alloc ?_ _ | with_reducible refine below_more ?_ _ | (with_reducible refine below_set ?_ ?_ _; rotate_left; focus (first | with_reducible exact Nat.le_refl _ | with_reducible assumption | (simp; done) | (simp; omega) | omega))))
    have ku : w.heap.size + 1 ≤ u.heap.size := by rw [← hu]; simp
    have BP0 : Blk u (w.heap.size) 25 #[.int .i64 d0.ce, .slice A0_0 d0.n c0_0, .slice A0_1 d0.m c0_1] := by rw [← hu]; exact Blk.new _ _ _
    have qP0 := fun o => BP0.cell o
    have lP0 := BP0.lt
    clear hu
    replace hL0 := hL0.below hU
    have C : Below u.heap.size u u := Below.refl _ _
    go_wp2_with fail
    refine (szDuty_no A0_0 A0_1 c0_0 c0_1 d0 _ _ (by omega) (by omega) (by omega) (by omega) (by omega)).mono ?_
    rintro e w1 ⟨rfl, b1⟩
    replace BP0 := BP0.below b1
    clear qP0 lP0
    have qP0 := fun o => BP0.cell o
    have lP0 := BP0.lt
    have s1 := b1.size
    replace C := below_tr C b1
    go_wp2_with fail
    go_ret
    exact ⟨rfl, below_tr hU C⟩
theorem spec_at {H : Type} (ds : List (DataW H)) (h : ds.length = [0, 0, 0, 0].length) : Rows.fnExactReturnCentreSpec.fn H (ds ++ []) = { results := [.lit (.bool true)], args := ds } := by
  match ds, h with
  | [_, _, _, _], _ => rfl
theorem contract (H : Type) (enc : TypeId × Value → H) (W : World) (base : Nat) (args : Array Value) (ds : List (DataW H)) (p : List MemPlace)
    (hval : ∀ (j : Nat) t v, Try.f9.params[j]? = some t → args[j]? = some v → Value.okWide Try.prog W .any base t v)
    (hA : DataW.TrodAll enc Try.prog W 0 (fun _ => true) true Try.f9.params.toList args.toList ds p) : Calls Try.prog 9 args W (Post (.bool true) W) := by
  rw [Try.params9] at hA hval
  obtain ⟨v0, vs0, d0, ds0, p0, q0, hargs, rfl, rfl, h0, r0⟩ := trodAll_cons hA
  obtain ⟨v1, vs1, d1, ds1, p1, q1, rfl, rfl, rfl, h1, r1⟩ := trodAll_cons r0
  obtain ⟨v2, vs2, d2, ds2, p2, q2, rfl, rfl, rfl, h2, r2⟩ := trodAll_cons r1
  obtain ⟨v3, vs3, d3, ds3, p3, q3, rfl, rfl, rfl, h3, r3⟩ := trodAll_cons r2
  obtain ⟨rfl, rfl, rfl⟩ := trodAll_nil r3
  obtain rfl : args = #[v0, v1, v2, v3] := by cases args; simp_all
  obtain ⟨A0_0, A0_1, c0_0, c0_1, d0, rfl, hn0_0, hn0_1, hL0, _⟩ := openV_Du (hval 0 _ v0 rfl rfl) h0
  obtain ⟨a1, rfl, ha1⟩ := openV_int Try.underlying3 (hval 1 _ v1 rfl rfl) h1
  obtain ⟨a2, rfl, ha2⟩ := openV_int Try.underlying3 (hval 2 _ v2 rfl rfl) h2
  obtain ⟨a3, rfl, ha3⟩ := openV_int Try.underlying3 (hval 3 _ v3 rfl rfl) h3
  exact walk A0_0 A0_1 c0_0 c0_1 d0 a1 a2 a3 W hn0_0 hn0_1 hL0 ha1 ha2 ha3
set_option maxRecDepth 100000 in
theorem lifted (os : Os) (started : os.Started) (H : Type) (enc : TypeId × Value → H) :
    ReturnsInHanded {} Try.checked os 9 .any (Rows.fnExactReturnCentreSpec.pre6 enc Try.prog Try.f9 Rows.fnExactReturnCentreRow.domain false) (Rows.fnExactReturnCentreSpec.post enc Try.prog Try.f9 false true false false) :=
  law_lift (C := Try.checked) (tb := 4) own started (by kernel_rfl) Try.func9
    (ChangeSpec.witness6 (enc := enc) (C := Try.checked) false ⟨#[], #[.agg #[.int .i64 0, .slice none 0 0, .slice none 0 0], .int .i64 0, .int .i64 0, .int .i64 0], []⟩ 8 (by kernel_rfl) (by kernel_rfl) (by kernel_rfl) (by kernel_rfl))
    rfl (fun ds h => by rw [show Try.f9.params.size = [0, 0, 0, 0].length from by kernel_rfl] at h; exact spec_at ds h) (by kernel_rfl) Try.underlying4 (by kernel_rfl) (by kernel_rfl) (fun W base args ds p hval hA => contract H enc W base args ds p hval hA)
theorem over : Rows.fnExactReturnCentreRow.holds Try.pinned (OpenSpec.ofChange Rows.fnExactReturnCentreSpec) :=
  OpenClaim.holds_of_wide 9 Try.f9 rfl rfl rfl rfl rfl rfl rfl ⟨rfl, rfl, rfl, rfl, rfl⟩ rfl rfl rfl rfl rfl (by kernel_rfl) Try.func9 (by kernel_rfl)
    (of_decide_eq_true (by kernel_rfl)) (by unfold Func.isWrapper; first | (rw [if_pos (by decide +kernel)]; kernel_rfl) | (rw [if_neg (by decide +kernel)]; exact ⟨rfl, rfl⟩))
    (fun os started H enc _ => lifted os started H enc)
theorem proved : Rows.FnExactReturnCentreSaid := over
end Go.Proofs.Ytbbafdcmgobkeaa.lawReturnCentre
