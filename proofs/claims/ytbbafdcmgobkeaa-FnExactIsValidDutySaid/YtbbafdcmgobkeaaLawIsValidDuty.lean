/-
  The program's IsValidDuty answers as the reference's does, for all arguments, and leaves its arguments alone.
  Conditions: none: every input that can be read as data.
-/
import Derived.Test.YtbbafdcmgobkeaaC2
import Derived.Deep.RegionHeld3
namespace Go.Proofs.Ytbbafdcmgobkeaa.lawIsValidDuty
set_option linter.unusedSimpArgs false
set_option linter.unusedVariables false
open Go.ChangeShapes Go.WideShapes Go.ChangeAt Go.RowKit
theorem own : ownKnob Try.prog.godebug = none := by kernel_rfl
set_option maxHeartbeats 800000 in
theorem walk (A0_0 A0_1 : Option Addr) (c0_0 c0_1 : Nat) (d0 : Du) (w : World) (hn0_0 : d0.n ≤ 9223372036854775807) (hn0_1 : d0.m ≤ 9223372036854775807) (hL0 : IsDu w A0_0 A0_1 d0) :
    Calls Try.prog 3 #[.agg #[.int .i64 d0.ce, .slice A0_0 d0.n c0_0, .slice A0_1 d0.m c0_1]] w (Post (.bool true) w) := by
  have dz0 : d0.size = (d0.n : Int) + (d0.m : Int) := rfl
  by_cases s0z : (d0.size : Int) ≤ 1048576
  · skip
    go_enter Try.func3, Try.ntmps3
    go_wp2_with fail
    generalize hu : (w.alloc (.cells #[.int .i64 d0.ce, .slice A0_0 d0.n c0_0, .slice A0_1 d0.m c0_1] 25)) = u
    have hU : Below w.heap.size w u := by rw [← hu]; exact (by repeat (first | with_reducible exact Below.refl _ _ | with_reducible assumption | with_reducible refine below_alloc ?_ _ | with_reducible refine below_more ?_ _ | (with_reducible refine below_set ?_ ?_ _; rotate_left; focus (first | with_reducible exact Nat.le_refl _ | with_reducible assumption | (simp; done) | (simp; omega) | omega))))
    have ku : w.heap.size + 1 ≤ u.heap.size := by rw [← hu]; simp
    have BP0 : Blk u (w.heap.size) 25 #[.int .i64 d0.ce, .slice A0_0 d0.n c0_0, .slice A0_1 d0.m c0_1] := by rw [← hu]; exact Blk.new _ _ _
    have qP0 := fun o => BP0.cell o
    clear hu
    replace hL0 := hL0.below hU
    have C : Below u.heap.size u u := Below.refl _ _
    have hL0o := hL0
    go_wp2_with fail
    refine (szDuty_ok A0_0 A0_1 c0_0 c0_1 d0 _ _ (by omega) (by omega)).mono ?_
    rintro e w1 ⟨rfl, b1⟩
    replace BP0 := BP0.below b1
    clear qP0
    have qP0 := fun o => BP0.cell o
    replace hL0 := hL0.below b1
    have s1 := b1.size
    replace C := below_tr C b1
    go_wp2_with fail
    refine (toDuty_any A0_0 A0_1 c0_0 c0_1 d0 _ (by omega) (by omega) hL0).mono ?_
    rintro e w2 ⟨g2_0, cs2_0, g2_1, cs2_1, rfl, ⟨hg2_0, B_2_0, z2_0, R2_0⟩, ⟨hg2_1, B_2_1, z2_1, R2_1⟩, b2⟩
    replace BP0 := BP0.below b2
    clear qP0
    have qP0 := fun o => BP0.cell o
    replace hL0 := hL0.below b2
    have s2 := b2.size
    replace C := below_tr C b2
    have X_2 : IsDu w2 (some ⟨g2_0, 0, none⟩) (some ⟨g2_1, 0, none⟩) d0 := ⟨R2_0.rd B_2_0, R2_1.rd B_2_1⟩
    have l2_0 := B_2_0.lt
    have l2_1 := B_2_1.lt
    go_wp2_with fail
    refine (specIsValidDuty_any (some ⟨g2_0, 0, none⟩) (some ⟨g2_1, 0, none⟩) d0.n d0.m d0 _ (by omega) (by omega) X_2).mono ?_
    rintro e w3 ⟨rfl, b3⟩
    replace BP0 := BP0.below b3
    clear qP0
    have qP0 := fun o => BP0.cell o
    replace hL0 := hL0.below b3
    replace X_2 := X_2.below b3
    replace B_2_0 := B_2_0.below b3
    replace B_2_1 := B_2_1.below b3
    have s3 := b3.size
    replace C := below_tr C b3
    go_wp2_with fail
    refine (toDuty_any A0_0 A0_1 c0_0 c0_1 d0 _ (by omega) (by omega) hL0).mono ?_
    rintro e w4 ⟨g4_0, cs4_0, g4_1, cs4_1, rfl, ⟨hg4_0, B_4_0, z4_0, R4_0⟩, ⟨hg4_1, B_4_1, z4_1, R4_1⟩, b4⟩
    replace BP0 := BP0.below b4
    clear qP0
    have qP0 := fun o => BP0.cell o
    replace hL0 := hL0.below b4
    have s4 := b4.size
    replace C := below_tr C b4
    have X_4 : IsDu w4 (some ⟨g4_0, 0, none⟩) (some ⟨g4_1, 0, none⟩) d0 := ⟨R4_0.rd B_4_0, R4_1.rd B_4_1⟩
    have l4_0 := B_4_0.lt
    have l4_1 := B_4_1.lt
    go_wp2_with fail
    generalize hu5 : (w4.alloc (.cells #[.int .i64 d0.ce, .slice (some ⟨g4_0, 0, none⟩) d0.n d0.n, .slice (some ⟨g4_1, 0, none⟩) d0.m d0.m] 28)) = w5
    have b5 : Below w4.heap.size w4 w5 := by rw [← hu5]; exact (by repeat (first | with_reducible exact Below.refl _ _ | with_reducible assumption | with_reducible refine below_alloc ?_ _ | with_reducible refine below_more ?_ _ | (with_reducible refine below_set ?_ ?_ _; rotate_left; focus (first | with_reducible exact Nat.le_refl _ | with_reducible assumption | (simp; done) | (simp; omega) | omega))))
    have BX5 : Blk w5 w4.heap.size 28 #[.int .i64 d0.ce, .slice (some ⟨g4_0, 0, none⟩) d0.n d0.n, .slice (some ⟨g4_1, 0, none⟩) d0.m d0.m] := by rw [← hu5]; exact Blk.new _ _ _
    clear hu5
    have qX5 := fun o => BX5.cell o
    have lX5 := BX5.lt
    replace BP0 := BP0.below b5
    clear qP0
    have qP0 := fun o => BP0.cell o
    replace hL0 := hL0.below b5
    replace X_4 := X_4.below b5
    replace B_4_0 := B_4_0.below b5
    replace B_4_1 := B_4_1.below b5
    have s5 := b5.size
    replace C := below_tr C b5
    go_wp2_with fail
    refine (isValidDuty_any (some ⟨g4_0, 0, none⟩) (some ⟨g4_1, 0, none⟩) d0.n d0.m d0 _ (by omega) (by omega) X_4).mono ?_
    rintro e w6 ⟨rfl, b6⟩
    replace BP0 := BP0.below b6
    clear qP0
    have qP0 := fun o => BP0.cell o
    replace hL0 := hL0.below b6
    replace X_4 := X_4.below b6
    replace B_4_0 := B_4_0.below b6
    replace B_4_1 := B_4_1.below b6
    replace BX5 := BX5.below b6
    clear qX5
    have qX5 := fun o => BX5.cell o
    have s6 := b6.size
    replace C := below_tr C b6
    go_wp2_with fail
    have HS := Lib.hid (show ∀ W, Below w6.heap.size w6 W → (W.cell? ⟨w.heap.size, 0, none⟩ = some (.int .i64 d0.ce) ∧ W.cell? ⟨w.heap.size, 1, none⟩ = some (.slice A0_0 d0.n c0_0) ∧ W.cell? ⟨w.heap.size, 2, none⟩ = some (.slice A0_1 d0.m c0_1) ∧ W.cell? ⟨w4.heap.size, 0, none⟩ = some (.int .i64 d0.ce) ∧ W.cell? ⟨w4.heap.size, 1, none⟩ = some (.slice (some ⟨g4_0, 0, none⟩) d0.n d0.n) ∧ W.cell? ⟨w4.heap.size, 2, none⟩ = some (.slice (some ⟨g4_1, 0, none⟩) d0.m d0.m) ∧ Below w6.heap.size w6 W) from fun W hW => ⟨(BP0.below hW).cell 0, (BP0.below hW).cell 1, (BP0.below hW).cell 2, (BX5.below hW).cell 0, (BX5.below hW).cell 1, (BX5.below hW).cell 2, hW⟩)
    go_region_held3 (fun W => W.cell? ⟨w.heap.size, 0, none⟩ = some (.int .i64 d0.ce) ∧ W.cell? ⟨w.heap.size, 1, none⟩ = some (.slice A0_0 d0.n c0_0) ∧ W.cell? ⟨w.heap.size, 2, none⟩ = some (.slice A0_1 d0.m c0_1) ∧ W.cell? ⟨w4.heap.size, 0, none⟩ = some (.int .i64 d0.ce) ∧ W.cell? ⟨w4.heap.size, 1, none⟩ = some (.slice (some ⟨g4_0, 0, none⟩) d0.n d0.n) ∧ W.cell? ⟨w4.heap.size, 2, none⟩ = some (.slice (some ⟨g4_1, 0, none⟩) d0.m d0.m) ∧ Below w6.heap.size w6 W) (first | exact HS.out _ (Below.refl _ _).drew | exact HS.out _ (Below.refl _ _) | exact HS.out _ (below_tr (by assumption) c8) | exact HS.out _ (below_tr (by assumption) b7))
      (first
        | (go_at_call 17; go_split_ands; refine (toDuty_any A0_0 A0_1 c0_0 c0_1 d0 _ (by omega) (by omega) (hL0.below (by assumption))).mono ?_; rintro e w7 ⟨g7_0, cs7_0, g7_1, cs7_1, rfl, ⟨hg7_0, B_7_0, z7_0, R7_0⟩, ⟨hg7_1, B_7_1, z7_1, R7_1⟩, b7⟩)
        | (go_at_call 19; go_split_ands; refine (eqDuty_same (some ⟨g4_0, 0, none⟩) (some ⟨g4_1, 0, none⟩) (some ⟨g7_0, 0, none⟩) (some ⟨g7_1, 0, none⟩) d0.n d0.m d0.n d0.m d0 _ (by omega) (by omega) (X_4.below (by assumption)) ⟨R7_0.rd B_7_0, R7_1.rd B_7_1⟩).mono ?_; rintro e w8 ⟨rfl, c8⟩))
    have b8 : Below w6.heap.size w6 w8 := below_tr (by assumption) c8
    clear HS
    replace BP0 := BP0.below b8
    clear qP0
    have qP0 := fun o => BP0.cell o
    replace hL0 := hL0.below b8
    replace X_4 := X_4.below b8
    replace B_4_0 := B_4_0.below b8
    replace B_4_1 := B_4_1.below b8
    replace BX5 := BX5.below b8
    clear qX5
    have qX5 := fun o => BX5.cell o
    have s8 := b8.size
    replace C := below_tr C b8
    go_wp2_with fail
    go_ret
    exact ⟨rfl, below_tr hU C⟩
  · skip
    go_enter Try.func3, Try.ntmps3
    go_wp2_with fail
    generalize hu : (w.alloc (.cells #[.int .i64 d0.ce, .slice A0_0 d0.n c0_0, .slice A0_1 d0.m c0_1] 25)) = u
    have hU : Below w.heap.size w u := by rw [← hu]; exact (by repeat (first | with_reducible exact Below.refl _ _ | with_reducible assumption | with_reducible refine below_alloc ?_ _ | with_reducible refine below_more ?_ _ | (with_reducible refine below_set ?_ ?_ _; rotate_left; focus (first | with_reducible exact Nat.le_refl _ | with_reducible assumption | (simp; done) | (simp; omega) | omega))))
    have ku : w.heap.size + 1 ≤ u.heap.size := by rw [← hu]; simp
    have BP0 : Blk u (w.heap.size) 25 #[.int .i64 d0.ce, .slice A0_0 d0.n c0_0, .slice A0_1 d0.m c0_1] := by rw [← hu]; exact Blk.new _ _ _
    have qP0 := fun o => BP0.cell o
    clear hu
    replace hL0 := hL0.below hU
    have C : Below u.heap.size u u := Below.refl _ _
    go_wp2_with fail
    refine (szDuty_no A0_0 A0_1 c0_0 c0_1 d0 _ _ (by omega) (by omega) (by omega) (by omega) (by omega)).mono ?_
    rintro e w1 ⟨rfl, b1⟩
    replace BP0 := BP0.below b1
    clear qP0
    have qP0 := fun o => BP0.cell o
    have s1 := b1.size
    replace C := below_tr C b1
    go_wp2_with fail
    go_ret
    exact ⟨rfl, below_tr hU C⟩
theorem spec_at {H : Type} (ds : List (DataW H)) (h : ds.length = [0].length) : Rows.fnExactIsValidDutySpec.fn H (ds ++ []) = { results := [.lit (.bool true)], args := ds } := by
  match ds, h with
  | [_], _ => rfl
theorem contract (H : Type) (enc : TypeId × Value → H) (W : World) (base : Nat) (args : Array Value) (ds : List (DataW H)) (p : List MemPlace)
    (hval : ∀ (j : Nat) t v, Try.f3.params[j]? = some t → args[j]? = some v → Value.okWide Try.prog W .any base t v)
    (hA : DataW.TrodAll enc Try.prog W 0 (fun _ => true) true Try.f3.params.toList args.toList ds p) : Calls Try.prog 3 args W (Post (.bool true) W) := by
  rw [Try.params3] at hA hval
  obtain ⟨v0, vs0, d0, ds0, p0, q0, hargs, rfl, rfl, h0, r0⟩ := trodAll_cons hA
  obtain ⟨rfl, rfl, rfl⟩ := trodAll_nil r0
  obtain rfl : args = #[v0] := by cases args; simp_all
  obtain ⟨A0_0, A0_1, c0_0, c0_1, d0, rfl, hn0_0, hn0_1, hL0, _⟩ := openV_Du (hval 0 _ v0 rfl rfl) h0
  exact walk A0_0 A0_1 c0_0 c0_1 d0 W hn0_0 hn0_1 hL0
set_option maxRecDepth 100000 in
theorem lifted (os : Os) (started : os.Started) (H : Type) (enc : TypeId × Value → H) :
    ReturnsInHanded {} Try.checked os 3 .any (Rows.fnExactIsValidDutySpec.pre6 enc Try.prog Try.f3 Rows.fnExactIsValidDutyRow.domain false) (Rows.fnExactIsValidDutySpec.post enc Try.prog Try.f3 false true false false) :=
  law_lift (C := Try.checked) (tb := 4) own started (by kernel_rfl) Try.func3
    (ChangeSpec.witness6 (enc := enc) (C := Try.checked) false ⟨#[], #[.agg #[.int .i64 0, .slice none 0 0, .slice none 0 0]], []⟩ 8 (by kernel_rfl) (by kernel_rfl) (by kernel_rfl) (by kernel_rfl))
    rfl (fun ds h => by rw [show Try.f3.params.size = [0].length from by kernel_rfl] at h; exact spec_at ds h) (by kernel_rfl) Try.underlying4 (by kernel_rfl) (by kernel_rfl) (fun W base args ds p hval hA => contract H enc W base args ds p hval hA)
theorem over : Rows.fnExactIsValidDutyRow.holds Try.pinned (OpenSpec.ofChange Rows.fnExactIsValidDutySpec) :=
  OpenClaim.holds_of_wide 3 Try.f3 rfl rfl rfl rfl rfl rfl rfl ⟨rfl, rfl, rfl, rfl, rfl⟩ rfl rfl rfl rfl rfl (by kernel_rfl) Try.func3 (by kernel_rfl)
    (of_decide_eq_true (by kernel_rfl)) (by unfold Func.isWrapper; first | (rw [if_pos (by decide +kernel)]; kernel_rfl) | (rw [if_neg (by decide +kernel)]; exact ⟨rfl, rfl⟩))
    (fun os started H enc _ => lifted os started H enc)
theorem proved : Rows.FnExactIsValidDutySaid := over
end Go.Proofs.Ytbbafdcmgobkeaa.lawIsValidDuty
