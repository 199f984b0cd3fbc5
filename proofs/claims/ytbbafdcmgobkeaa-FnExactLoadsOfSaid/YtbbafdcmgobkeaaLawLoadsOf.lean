/-
  The program's LoadsOf answers as the reference's does, for all arguments, and leaves its arguments alone.
  Conditions: none: every input that can be read as data.
-/
import Derived.Test.YtbbafdcmgobkeaaC5
import Derived.Deep.RegionHeld3
import Derived.Test.YtbbafdcmgobkeaaDm
namespace Go.Proofs.Ytbbafdcmgobkeaa.lawLoadsOf
set_option linter.unusedSimpArgs false
set_option linter.unusedVariables false
open Go.ChangeShapes Go.WideShapes Go.ChangeAt Go.RowKit
theorem own : ownKnob Try.prog.godebug = none := by kernel_rfl
set_option maxRecDepth 100000 in
set_option maxHeartbeats 800000 in
theorem walk (A0_0 A0_1 : Option Addr) (c0_0 c0_1 : Nat) (d0 : Du) (w : World) (hn0_0 : d0.n ≤ 9223372036854775807) (hn0_1 : d0.m ≤ 9223372036854775807) (hL0 : IsDu w A0_0 A0_1 d0) :
    Calls Try.prog 7 #[.agg #[.int .i64 d0.ce, .slice A0_0 d0.n c0_0, .slice A0_1 d0.m c0_1]] w (Post (.bool true) w) := by
  have dz0 : d0.size = (d0.n : Int) + (d0.m : Int) := rfl
  by_cases s0z : (d0.size : Int) ≤ 1048576
  · skip
    go_enter Try.func7, Try.ntmps7
    go_wp2_with fail
    generalize hu : (w.alloc (.cells #[.int .i64 d0.ce, .slice A0_0 d0.n c0_0, .slice A0_1 d0.m c0_1] 25)) = u
    have hU : Below w.heap.size w u := by rw [← hu]; exact (by repeat (first | with_reducible exact Below.refl _ _ | with_reducible assumption | with_reducible refine below_alloc ?_ _ | with_reducible refine below_more ?_ _ | (with_reducible refine below_set ?_ ?_ _; rotate_left; focus (first | with_reducible exact Nat.le_refl _ | with_reducible assumption | (simp; done) | (simp; omega) | omega))))
    have ku : w.heap.size + 1 ≤ u.heap.size := by rw [← hu]; simp
    have BP0 : Blk u (w.heap.size) 25 #[.int .i64 d0.ce, .slice A0_0 d0.n c0_0, .slice A0_1 d0.m c0_1] := by rw [← hu]; exact Blk.new _ _ _
    have qP0 := fun o => BP0.cell o
    have lP0 := BP0.lt
    clear hu
    replace hL0 := hL0.below hU
    have C : Below u.heap.size u u := Below.refl _ _
    have hL0o := hL0
    go_wp2_with fail
    refine (szDuty_ok A0_0 A0_1 c0_0 c0_1 d0 _ _ (by omega) (by omega)).mono ?_
    rintro e w1 ⟨rfl, b1⟩
    replace BP0 := BP0.below b1
    clear qP0 lP0
    have qP0 := fun o => BP0.cell o
    have lP0 := BP0.lt
    replace hL0 := hL0.below b1
    have s1 := b1.size
    replace C := below_tr C b1
    go_wp2_with fail
    refine (toDuty_any A0_0 A0_1 c0_0 c0_1 d0 _ (by omega) (by omega) hL0).mono ?_
    rintro e w2 ⟨g2_0, cs2_0, g2_1, cs2_1, rfl, ⟨hg2_0, B_2_0, z2_0, R2_0⟩, ⟨hg2_1, B_2_1, z2_1, R2_1⟩, b2⟩
    replace BP0 := BP0.below b2
    clear qP0 lP0
    have qP0 := fun o => BP0.cell o
    have lP0 := BP0.lt
    replace hL0 := hL0.below b2
    have s2 := b2.size
    replace C := below_tr C b2
    have X_2 : IsDu w2 (some ⟨g2_0, 0, none⟩) (some ⟨g2_1, 0, none⟩) d0 := ⟨R2_0.rd B_2_0, R2_1.rd B_2_1⟩
    have l2_0 := B_2_0.lt
    have l2_1 := B_2_1.lt
    go_wp2_with fail
    refine (specLoadsOf_any (some ⟨g2_0, 0, none⟩) (some ⟨g2_1, 0, none⟩) d0.n d0.m d0 _ (by omega) (by omega) X_2).mono ?_
    rintro e w3 ⟨AW, cW, rfl, OW, b3⟩
    replace BP0 := BP0.below b3
    clear qP0 lP0
    have qP0 := fun o => BP0.cell o
    have lP0 := BP0.lt
    replace hL0 := hL0.below b3
    replace X_2 := X_2.below b3
    replace B_2_0 := B_2_0.below b3
    replace B_2_1 := B_2_1.below b3
    have s3 := b3.size
    replace C := below_tr C b3
    have XW := OW.rd
    have XWo := XW
    go_wp2_with fail
    refine (toDuty_any A0_0 A0_1 c0_0 c0_1 d0 _ (by omega) (by omega) hL0).mono ?_
    rintro e w4 ⟨g4_0, cs4_0, g4_1, cs4_1, rfl, ⟨hg4_0, B_4_0, z4_0, R4_0⟩, ⟨hg4_1, B_4_1, z4_1, R4_1⟩, b4⟩
    replace BP0 := BP0.below b4
    clear qP0 lP0
    have qP0 := fun o => BP0.cell o
    have lP0 := BP0.lt
    replace hL0 := hL0.below b4
    replace XW := XW.below b4
    have s4 := b4.size
    replace C := below_tr C b4
    have X_4 : IsDu w4 (some ⟨g4_0, 0, none⟩) (some ⟨g4_1, 0, none⟩) d0 := ⟨R4_0.rd B_4_0, R4_1.rd B_4_1⟩
    have l4_0 := B_4_0.lt
    have l4_1 := B_4_1.lt
    go_wp2_with fail
    generalize hu5 : (w4.alloc (.cells #[.int .i64 d0.ce, .slice (some ⟨g4_0, 0, none⟩) d0.n d0.n, .slice (some ⟨g4_1, 0, none⟩) d0.m d0.m] 28)) = w5
    have b5 : Below w4.heap.size w4 w5 := by rw [← hu5]; exact (by repeat (first | with_reducible exact Below.refl _ _ | with_reducible assumption | with_reducible refine below_alloc ?_ _ | with_reducible refine below_more ?_ _ | (with_reducible refine below_set ?_ ?_ _; rotate_left; focus (first | with_reducible exact Nat.le_refl _ | with_reducible assumption | (simp; done) | (simp; omega) | omega))))
    have BX5 : Blk w5 w4.heap.size 28 #[.int .i64 d0.ce, .slice (some ⟨g4_0, 0, none⟩) d0.n d0.n, .slice (some ⟨g4_1, 0, none⟩) d0.m d0.m] := by rw [← hu5]; exact Blk.new _ _ _
    clear hu5
    have qX5 := fun o => BX5.cell o
    have lX5 := BX5.lt
    have pX5 := BX5.lt
    replace BP0 := BP0.below b5
    clear qP0 lP0
    have qP0 := fun o => BP0.cell o
    have lP0 := BP0.lt
    replace hL0 := hL0.below b5
    replace XW := XW.below b5
    replace X_4 := X_4.below b5
    replace B_4_0 := B_4_0.below b5
    replace B_4_1 := B_4_1.below b5
    have s5 := b5.size
    replace C := below_tr C b5
    go_wp2_with fail
    refine (implLoadsOf_any (some ⟨g4_0, 0, none⟩) (some ⟨g4_1, 0, none⟩) d0.n d0.m d0 _ (by omega) (by omega) X_4).mono ?_
    rintro e w6 ⟨AG, cG, rfl, OG, b6⟩
    replace BP0 := BP0.below b6
    clear qP0 lP0
    have qP0 := fun o => BP0.cell o
    have lP0 := BP0.lt
    replace hL0 := hL0.below b6
    replace XW := XW.below b6
    replace X_4 := X_4.below b6
    replace B_4_0 := B_4_0.below b6
    replace B_4_1 := B_4_1.below b6
    replace BX5 := BX5.below b6
    clear qX5 lX5
    have qX5 := fun o => BX5.cell o
    have lX5 := BX5.lt
    have s6 := b6.size
    replace C := below_tr C b6
    have hNN : (ldN d0) ≤ 1048576 := ldN_le d0 (by omega)
    go_wp2_with fail
    refine (eqIntS_same _ _ (ldN d0) _ _ (cntOf d0.lk d0.m) _ hNN OG.rd XW).mono ?_
    rintro e w7 ⟨rfl, b7⟩
    replace BP0 := BP0.below b7
    clear qP0 lP0
    have qP0 := fun o => BP0.cell o
    have lP0 := BP0.lt
    replace hL0 := hL0.below b7
    replace XW := XW.below b7
    replace X_4 := X_4.below b7
    replace B_4_0 := B_4_0.below b7
    replace B_4_1 := B_4_1.below b7
    replace BX5 := BX5.below b7
    clear qX5 lX5
    have qX5 := fun o => BX5.cell o
    have lX5 := BX5.lt
    replace OG := OG.below b7
    have s7 := b7.size
    replace C := below_tr C b7
    go_wp2_with fail
    have HS := Lib.hid (show ∀ W, Below w7.heap.size w7 W → (W.cell? ⟨w.heap.size, 0, none⟩ = some (.int .i64 d0.ce) ∧ W.cell? ⟨w.heap.size, 1, none⟩ = some (.slice A0_0 d0.n c0_0) ∧ W.cell? ⟨w.heap.size, 2, none⟩ = some (.slice A0_1 d0.m c0_1) ∧ W.cell? ⟨w4.heap.size, 0, none⟩ = some (.int .i64 d0.ce) ∧ W.cell? ⟨w4.heap.size, 1, none⟩ = some (.slice (some ⟨g4_0, 0, none⟩) d0.n d0.n) ∧ W.cell? ⟨w4.heap.size, 2, none⟩ = some (.slice (some ⟨g4_1, 0, none⟩) d0.m d0.m) ∧ Below w7.heap.size w7 W) from fun W hW => ⟨(BP0.below hW).cell 0, (BP0.below hW).cell 1, (BP0.below hW).cell 2, (BX5.below hW).cell 0, (BX5.below hW).cell 1, (BX5.below hW).cell 2, hW⟩)
    go_region_held3 (fun W => W.cell? ⟨w.heap.size, 0, none⟩ = some (.int .i64 d0.ce) ∧ W.cell? ⟨w.heap.size, 1, none⟩ = some (.slice A0_0 d0.n c0_0) ∧ W.cell? ⟨w.heap.size, 2, none⟩ = some (.slice A0_1 d0.m c0_1) ∧ W.cell? ⟨w4.heap.size, 0, none⟩ = some (.int .i64 d0.ce) ∧ W.cell? ⟨w4.heap.size, 1, none⟩ = some (.slice (some ⟨g4_0, 0, none⟩) d0.n d0.n) ∧ W.cell? ⟨w4.heap.size, 2, none⟩ = some (.slice (some ⟨g4_1, 0, none⟩) d0.m d0.m) ∧ Below w7.heap.size w7 W) (first | exact HS.out _ (Below.refl _ _).drew | exact HS.out _ (Below.refl _ _) | exact HS.out _ (below_tr (by assumption) c9) | exact HS.out _ (below_tr (by assumption) b8))
      (first
        | (go_at_call 17; go_split_ands; refine (toDuty_any A0_0 A0_1 c0_0 c0_1 d0 _ (by omega) (by omega) (hL0.below (by assumption))).mono ?_; rintro e w8 ⟨g8_0, cs8_0, g8_1, cs8_1, rfl, ⟨hg8_0, B_8_0, z8_0, R8_0⟩, ⟨hg8_1, B_8_1, z8_1, R8_1⟩, b8⟩)
        | (go_at_call 19; go_split_ands; refine (eqDuty_same (some ⟨g4_0, 0, none⟩) (some ⟨g4_1, 0, none⟩) (some ⟨g8_0, 0, none⟩) (some ⟨g8_1, 0, none⟩) d0.n d0.m d0.n d0.m d0 _ (by omega) (by omega) (X_4.below (by assumption)) ⟨R8_0.rd B_8_0, R8_1.rd B_8_1⟩).mono ?_; rintro e w9 ⟨rfl, c9⟩))
    have b9 : Below w7.heap.size w7 w9 := below_tr (by assumption) c9
    clear HS
    replace BP0 := BP0.below b9
    clear qP0 lP0
    have qP0 := fun o => BP0.cell o
    have lP0 := BP0.lt
    replace hL0 := hL0.below b9
    replace XW := XW.below b9
    replace X_4 := X_4.below b9
    replace B_4_0 := B_4_0.below b9
    replace B_4_1 := B_4_1.below b9
    replace BX5 := BX5.below b9
    clear qX5 lX5
    have qX5 := fun o => BX5.cell o
    have lX5 := BX5.lt
    replace OG := OG.below b9
    have s9 := b9.size
    replace C := below_tr C b9
    have OX4 : OwnDu w9 g4_0 (some ⟨g4_0, 0, none⟩) (some ⟨g4_1, 0, none⟩) d0 := ⟨OwnB.of_blk B_4_0 (by omega) R4_0 (Nat.le_refl _), OwnS.of_blk B_4_1 (by omega) R4_1 (by omega), fun k h8 h9 => by have e8 := rowOf_some h8; have e9 := rowOf_some h9; omega⟩
    go_wp2_with fail
    refine (markDuty_own (some ⟨g4_0, 0, none⟩) (some ⟨g4_1, 0, none⟩) d0.n d0.m g4_0 1 d0 _ (by omega) (by omega) (by omega) (by omega) OX4 (by omega)).mono ?_
    rintro e w10 ⟨rfl, wm10, gma10, gmb10, OY10⟩
    clear OX4 OY10
    replace BP0 := BP0.grown gma10 (by intro hk; first | (have h9 := rowOf_some hk.symm; omega) | (have h8 := True _ hk.symm; have h9 := True _ hk.symm; omega))
    clear qP0 lP0
    have qP0 := fun o => BP0.cell o
    have lP0 := BP0.lt
    replace hL0 := hL0.kept hL0o gma10 (by intro k hk; first | (have h9 := rowOf_some hk; omega) | (have h8 := True k hk; have h9 := True k hk; omega))
    replace XW := XW.kept XWo gma10 (by intro k hk; first | (have h9 := rowOf_some hk; omega) | (have h8 := True k hk; have h9 := True k hk; omega))
    replace BX5 := BX5.grown gma10 (by intro hk; first | (have h9 := rowOf_some hk.symm; omega) | (have h8 := True _ hk.symm; have h9 := True _ hk.symm; omega))
    clear qX5 lX5
    have qX5 := fun o => BX5.cell o
    have lX5 := BX5.lt
    replace OG := OG.grown gma10 (by intro k hk; first | (have h9 := rowOf_some hk; omega) | (have h8 := True k hk; have h9 := True k hk; omega))
    have swm10 := gma10.size
    replace C := below_row C gma10 (by intro k hk; first | (have h9 := rowOf_some hk; omega) | (have h8 := True k hk; have h9 := True k hk; omega))
    replace BP0 := BP0.grown gmb10 (by intro hk; first | (have h9 := rowOf_some hk.symm; omega) | (have h8 := True _ hk.symm; have h9 := True _ hk.symm; omega))
    clear qP0 lP0
    have qP0 := fun o => BP0.cell o
    have lP0 := BP0.lt
    replace hL0 := hL0.kept hL0o gmb10 (by intro k hk; first | (have h9 := rowOf_some hk; omega) | (have h8 := True k hk; have h9 := True k hk; omega))
    replace XW := XW.kept XWo gmb10 (by intro k hk; first | (have h9 := rowOf_some hk; omega) | (have h8 := True k hk; have h9 := True k hk; omega))
    replace BX5 := BX5.grown gmb10 (by intro hk; first | (have h9 := rowOf_some hk.symm; omega) | (have h8 := True _ hk.symm; have h9 := True _ hk.symm; omega))
    clear qX5 lX5
    have qX5 := fun o => BX5.cell o
    have lX5 := BX5.lt
    replace OG := OG.grown gmb10 (by intro k hk; first | (have h9 := rowOf_some hk; omega) | (have h8 := True k hk; have h9 := True k hk; omega))
    have sw10 := gmb10.size
    replace C := below_row C gmb10 (by intro k hk; first | (have h9 := rowOf_some hk; omega) | (have h8 := True k hk; have h9 := True k hk; omega))
    go_wp2_with fail
    refine (eqIntS_same _ _ (ldN d0) _ _ (cntOf d0.lk d0.m) _ hNN OG.rd XW).mono ?_
    rintro e w11 ⟨rfl, b11⟩
    replace BP0 := BP0.below b11
    clear qP0 lP0
    have qP0 := fun o => BP0.cell o
    have lP0 := BP0.lt
    replace hL0 := hL0.below b11
    replace XW := XW.below b11
    replace BX5 := BX5.below b11
    clear qX5 lX5
    have qX5 := fun o => BX5.cell o
    have lX5 := BX5.lt
    replace OG := OG.below b11
    have s11 := b11.size
    replace C := below_tr C b11
    go_wp2_with fail
    refine (markIntS_own _ (ldN d0) _ _ 1 _ _ hNN (by omega) (by omega) OG).mono ?_
    rintro e w12 ⟨rfl, gm12, OG1⟩
    replace BP0 := BP0.grown gm12 (by first | (intro hk; have h9 := OG.row_ge _ hk.symm; omega) | (intro hk; injection hk; omega))
    clear qP0 lP0
    have qP0 := fun o => BP0.cell o
    have lP0 := BP0.lt
    replace hL0 := hL0.kept hL0o gm12 (by intro k hk; first | (cases hk; omega) | (have h9 := OG.row_ge k hk; omega))
    replace XW := XW.kept XWo gm12 (by intro k hk; first | (cases hk; omega) | (have h9 := OG.row_ge k hk; omega))
    replace BX5 := BX5.grown gm12 (by first | (intro hk; have h9 := OG.row_ge _ hk.symm; omega) | (intro hk; injection hk; omega))
    clear qX5 lX5
    have qX5 := fun o => BX5.cell o
    have lX5 := BX5.lt
    have s12 := gm12.size
    replace C := below_row C gm12 (by intro k hk; first | (cases hk; omega) | (have h9 := OG.row_ge k hk; omega))
    go_wp2_with fail
    refine (heldIntS_any _ (ldN d0) _ 1 _ hNN (by omega) (by omega) OG1.rd).mono ?_
    rintro e w13 ⟨rfl, b13⟩
    replace BP0 := BP0.below b13
    clear qP0 lP0
    have qP0 := fun o => BP0.cell o
    have lP0 := BP0.lt
    replace hL0 := hL0.below b13
    replace XW := XW.below b13
    replace BX5 := BX5.below b13
    clear qX5 lX5
    have qX5 := fun o => BX5.cell o
    have lX5 := BX5.lt
    replace OG1 := OG1.below b13
    have s13 := b13.size
    replace C := below_tr C b13
    go_wp2_with fail
    refine (toDuty_any A0_0 A0_1 c0_0 c0_1 d0 _ (by omega) (by omega) hL0).mono ?_
    rintro e w14 ⟨g14_0, cs14_0, g14_1, cs14_1, rfl, ⟨hg14_0, B_14_0, z14_0, R14_0⟩, ⟨hg14_1, B_14_1, z14_1, R14_1⟩, b14⟩
    replace BP0 := BP0.below b14
    clear qP0 lP0
    have qP0 := fun o => BP0.cell o
    have lP0 := BP0.lt
    replace hL0 := hL0.below b14
    replace XW := XW.below b14
    replace BX5 := BX5.below b14
    clear qX5 lX5
    have qX5 := fun o => BX5.cell o
    have lX5 := BX5.lt
    replace OG1 := OG1.below b14
    have s14 := b14.size
    replace C := below_tr C b14
    have X_14 : IsDu w14 (some ⟨g14_0, 0, none⟩) (some ⟨g14_1, 0, none⟩) d0 := ⟨R14_0.rd B_14_0, R14_1.rd B_14_1⟩
    have l14_0 := B_14_0.lt
    have l14_1 := B_14_1.lt
    go_wp2_with fail
    refine (implLoadsOf_any (some ⟨g14_0, 0, none⟩) (some ⟨g14_1, 0, none⟩) d0.n d0.m d0 _ (by omega) (by omega) X_14).mono ?_
    rintro e w15 ⟨AH, cH, rfl, OH, b15⟩
    replace BP0 := BP0.below b15
    clear qP0 lP0
    have qP0 := fun o => BP0.cell o
    have lP0 := BP0.lt
    replace hL0 := hL0.below b15
    replace XW := XW.below b15
    replace BX5 := BX5.below b15
    clear qX5 lX5
    have qX5 := fun o => BX5.cell o
    have lX5 := BX5.lt
    replace OG1 := OG1.below b15
    replace X_14 := X_14.below b15
    replace B_14_0 := B_14_0.below b15
    replace B_14_1 := B_14_1.below b15
    have s15 := b15.size
    replace C := below_tr C b15
    go_wp2_with fail
    refine (eqIntS_same _ _ (ldN d0) _ _ (cntOf d0.lk d0.m) _ hNN OH.rd XW).mono ?_
    rintro e w16 ⟨rfl, b16⟩
    replace BP0 := BP0.below b16
    clear qP0 lP0
    have qP0 := fun o => BP0.cell o
    have lP0 := BP0.lt
    replace hL0 := hL0.below b16
    replace XW := XW.below b16
    replace BX5 := BX5.below b16
    clear qX5 lX5
    have qX5 := fun o => BX5.cell o
    have lX5 := BX5.lt
    replace OG1 := OG1.below b16
    replace X_14 := X_14.below b16
    replace B_14_0 := B_14_0.below b16
    replace B_14_1 := B_14_1.below b16
    replace OH := OH.below b16
    have s16 := b16.size
    replace C := below_tr C b16
    go_wp2_with fail
    refine (heldIntS_any _ (ldN d0) _ 1 _ hNN (by omega) (by omega) OG1.rd).mono ?_
    rintro e w17 ⟨rfl, b17⟩
    replace BP0 := BP0.below b17
    clear qP0 lP0
    have qP0 := fun o => BP0.cell o
    have lP0 := BP0.lt
    replace hL0 := hL0.below b17
    replace XW := XW.below b17
    replace BX5 := BX5.below b17
    clear qX5 lX5
    have qX5 := fun o => BX5.cell o
    have lX5 := BX5.lt
    replace OG1 := OG1.below b17
    replace X_14 := X_14.below b17
    replace B_14_0 := B_14_0.below b17
    replace B_14_1 := B_14_1.below b17
    replace OH := OH.below b17
    have s17 := b17.size
    replace C := below_tr C b17
    go_wp2_with fail
    go_ret
    exact ⟨rfl, below_tr hU C⟩
  · skip
    go_enter Try.func7, Try.ntmps7
    go_wp2_with fail
    generalize hu : (w.alloc (.cells #[.int .i64 d0.ce, .slice A0_0 d0.n c0_0, .slice A0_1 d0.m c0_1] 25)) = u
    have hU : Below w.heap.size w u := by rw [← hu]; exact (by repeat (first | with_reducible exact Below.refl _ _ | with_reducible assumption | with_reducible refine below_alloc ?_ _ | with_reducible refine below_more ?_ _ | (with_reducible refine below_set ?_ ?_ _; rotate_left; focus (first | with_reducible exact Nat.le_refl _ | with_reducible assumption | (simp; done) | (simp; omega) | omega))))
    have ku : w.heap.size + 1 ≤ u.heap.size := by rw [← hu]; simp
    have BP0 : Blk u (w.heap.size) 25 #[.int .i64 d0.ce, .slice A0_0 d0.n c0_0, .slice A0_1 d0.m c0_1] := by rw [← hu]; exact Blk.new _ _ _
    have qP0 := fun o => BP0.cell o
    have lP0 := BP0.lt
    clear hu
    replace hL0 := hL0.below hU
    have C : Below u.heap.size u u := Below.refl _ _
    go_wp2_with fail
    refine (szDuty_no A0_0 A0_1 c0_0 c0_1 d0 _ _ (by omega) (by omega) (by omega) (by omega) (by omega)).mono ?_
    rintro e w1 ⟨rfl, b1⟩
    replace BP0 := BP0.below b1
    clear qP0 lP0
    have qP0 := fun o => BP0.cell o
    have lP0 := BP0.lt
    have s1 := b1.size
    replace C := below_tr C b1
    go_wp2_with fail
    go_ret
    exact ⟨rfl, below_tr hU C⟩
theorem spec_at {H : Type} (ds : List (DataW H)) (h : ds.length = [0].length) : Rows.fnExactLoadsOfSpec.fn H (ds ++ []) = { results := [.lit (.bool true)], args := ds } := by
  match ds, h with
  | [_], _ => rfl
theorem contract (H : Type) (enc : TypeId × Value → H) (W : World) (base : Nat) (args : Array Value) (ds : List (DataW H)) (p : List MemPlace)
    (hval : ∀ (j : Nat) t v, Try.f7.params[j]? = some t → args[j]? = some v → Value.okWide Try.prog W .any base t v)
    (hA : DataW.TrodAll enc Try.prog W 0 (fun _ => true) true Try.f7.params.toList args.toList ds p) : Calls Try.prog 7 args W (Post (.bool true) W) := by
  rw [Try.params7] at hA hval
  obtain ⟨v0, vs0, d0, ds0, p0, q0, hargs, rfl, rfl, h0, r0⟩ := trodAll_cons hA
  obtain ⟨rfl, rfl, rfl⟩ := trodAll_nil r0
  obtain rfl : args = #[v0] := by cases args; simp_all
  obtain ⟨A0_0, A0_1, c0_0, c0_1, d0, rfl, hn0_0, hn0_1, hL0, _⟩ := openV_Du (hval 0 _ v0 rfl rfl) h0
  exact walk A0_0 A0_1 c0_0 c0_1 d0 W hn0_0 hn0_1 hL0
set_option maxRecDepth 100000 in
theorem lifted (os : Os) (started : os.Started) (H : Type) (enc : TypeId × Value → H) :
    ReturnsInHanded {} Try.checked os 7 .any (Rows.fnExactLoadsOfSpec.pre6 enc Try.prog Try.f7 Rows.fnExactLoadsOfRow.domain false) (Rows.fnExactLoadsOfSpec.post enc Try.prog Try.f7 false true false false) :=
  law_lift (C := Try.checked) (tb := 4) own started (by kernel_rfl) Try.func7
    (ChangeSpec.witness6 (enc := enc) (C := Try.checked) false ⟨#[], #[.agg #[.int .i64 0, .slice none 0 0, .slice none 0 0]], []⟩ 8 (by kernel_rfl) (by kernel_rfl) (by kernel_rfl) (by kernel_rfl))
    rfl (fun ds h => by rw [show Try.f7.params.size = [0].length from by kernel_rfl] at h; exact spec_at ds h) (by kernel_rfl) Try.underlying4 (by kernel_rfl) (by kernel_rfl) (fun W base args ds p hval hA => contract H enc W base args ds p hval hA)
theorem over : Rows.fnExactLoadsOfRow.holds Try.pinned (OpenSpec.ofChange Rows.fnExactLoadsOfSpec) :=
  OpenClaim.holds_of_wide 7 Try.f7 rfl rfl rfl rfl rfl rfl rfl ⟨rfl, rfl, rfl, rfl, rfl⟩ rfl rfl rfl rfl rfl (by kernel_rfl) Try.func7 (by kernel_rfl)
    (of_decide_eq_true (by kernel_rfl)) (by unfold Func.isWrapper; first | (rw [if_pos (by decide +kernel)]; kernel_rfl) | (rw [if_neg (by decide +kernel)]; exact ⟨rfl, rfl⟩))
    (fun os started H enc _ => lifted os started H enc)
theorem proved : Rows.FnExactLoadsOfSaid := over
end Go.Proofs.Ytbbafdcmgobkeaa.lawLoadsOf
