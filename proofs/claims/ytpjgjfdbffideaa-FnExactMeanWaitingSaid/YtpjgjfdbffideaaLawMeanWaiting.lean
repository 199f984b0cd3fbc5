/-
  The program's MeanWaiting answers as the reference's does, for all arguments, and leaves its arguments alone.
  Conditions: none: every input that can be read as data.
-/
import Derived.Test.YtpjgjfdbffideaaA6
namespace Go.Proofs.Ytpjgjfdbffideaa.lawMeanWaiting
set_option linter.unusedSimpArgs false
set_option linter.unusedVariables false
open Go.ChangeShapes Go.WideShapes Go.ChangeAt Go.RowKit
theorem own : ownKnob Try.prog.godebug = none := by kernel_rfl
set_option maxHeartbeats 400000 in
theorem walk (A0 : Option Addr) (n0 c0 : Nat) (L0 : Nat → Lk) (w : World) (hn0 : n0 ≤ 9223372036854775807) (hL0 : RdLk w A0 n0 L0) :
    Calls Try.prog 8 #[.slice A0 n0 c0] w (Post (.bool true) w) := by
  by_cases s0 : (n0 : Int) ≤ 1048576
  · skip
    go_enter Try.func8, Try.ntmps8
    go_wp2_with fail
    refine (szLockageS_ok A0 n0 c0 _ _ (by omega) (by omega)).mono ?_
    rintro e w' ⟨rfl, rfl⟩
    have C : Below w.heap.size w w := Below.refl _ _
    go_wp2_with fail
    refine (toLockageS_any A0 n0 c0 L0 _ (by omega) hL0).mono ?_
    rintro e w1 ⟨g1, cs1, rfl, hg1, B1, z1, R1, b1⟩
    replace hL0 := hL0.below b1
    have X1 := R1.rd B1
    have C := below_tr C b1
    go_wp2_with fail
    refine (specMeanWaiting_any (some ⟨g1, 0, none⟩) n0 n0 L0 _ (by omega) X1).mono ?_
    rintro e w2 ⟨rfl, b2⟩
    replace hL0 := hL0.below b2
    replace X1 := X1.below b2
    have C := below_tr C b2
    go_wp2_with fail
    refine (toLockageS_any A0 n0 c0 L0 _ (by omega) hL0).mono ?_
    rintro e w3 ⟨g3, cs3, rfl, hg3, B3, z3, R3, b3⟩
    replace hL0 := hL0.below b3
    replace X1 := X1.below b3
    have X3 := R3.rd B3
    have C := below_tr C b3
    go_wp2_with fail
    refine (meanWaiting_any (some ⟨g3, 0, none⟩) n0 n0 L0 _ (by omega) X3).mono ?_
    rintro e w4 ⟨rfl, b4⟩
    replace hL0 := hL0.below b4
    replace X1 := X1.below b4
    replace X3 := X3.below b4
    have C := below_tr C b4
    go_wp2_with fail
    refine (toLockageS_any A0 n0 c0 L0 _ (by omega) hL0).mono ?_
    rintro e w5 ⟨g5, cs5, rfl, hg5, B5, z5, R5, b5⟩
    replace hL0 := hL0.below b5
    replace X1 := X1.below b5
    replace X3 := X3.below b5
    have X5 := R5.rd B5
    have C := below_tr C b5
    go_wp2_with fail
    refine (eqLockageS_same _ _ n0 n0 n0 L0 _ (by omega) X3 X5).mono ?_
    rintro e w6 ⟨rfl, b6⟩
    replace hL0 := hL0.below b6
    replace X1 := X1.below b6
    replace X3 := X3.below b6
    replace X5 := X5.below b6
    have C := below_tr C b6
    go_wp2_with fail
    go_ret
    exact ⟨rfl, C⟩
  · go_enter Try.func8, Try.ntmps8
    go_wp2_with fail
    refine (szLockageS_no A0 n0 c0 _ _ (by omega) (by omega) (by omega)).mono ?_
    rintro e w' ⟨rfl, rfl⟩
    go_wp2_with fail
    go_ret
    exact ⟨rfl, Below.refl _ _⟩
theorem spec_at {H : Type} (ds : List (DataW H)) (h : ds.length = [0].length) : Rows.fnExactMeanWaitingSpec.fn H (ds ++ []) = { results := [.lit (.bool true)], args := ds } := by
  match ds, h with
  | [_], _ => rfl
theorem contract (H : Type) (enc : TypeId × Value → H) (W : World) (base : Nat) (args : Array Value) (ds : List (DataW H)) (p : List MemPlace)
    (hval : ∀ (j : Nat) t v, Try.f8.params[j]? = some t → args[j]? = some v → Value.okWide Try.prog W .any base t v)
    (hA : DataW.TrodAll enc Try.prog W 0 (fun _ => true) true Try.f8.params.toList args.toList ds p) : Calls Try.prog 8 args W (Post (.bool true) W) := by
  rw [Try.params8] at hA hval
  obtain ⟨v0, vs0, d0, ds0, p0, q0, hargs, rfl, rfl, h0, r0⟩ := trodAll_cons hA
  obtain ⟨rfl, rfl, rfl⟩ := trodAll_nil r0
  obtain rfl : args = #[v0] := by cases args; simp_all
  obtain ⟨A0, n0, c0, L0, rfl, hn0, hL0, _⟩ := openV_LkS (hval 0 _ v0 rfl rfl) h0
  exact walk A0 n0 c0 L0 W hn0 hL0
set_option maxRecDepth 100000 in
theorem lifted (os : Os) (started : os.Started) (H : Type) (enc : TypeId × Value → H) :
    ReturnsInHanded {} Try.checked os 8 .any (Rows.fnExactMeanWaitingSpec.pre6 enc Try.prog Try.f8 Rows.fnExactMeanWaitingRow.domain false) (Rows.fnExactMeanWaitingSpec.post enc Try.prog Try.f8 false true false false) :=
  law_lift (C := Try.checked) (tb := 4) own started (by kernel_rfl) Try.func8
    (ChangeSpec.witness6 (enc := enc) (C := Try.checked) false ⟨#[], #[.slice none 0 0], []⟩ 8 (by kernel_rfl) (by kernel_rfl) (by kernel_rfl) (by kernel_rfl))
    rfl (fun ds h => by rw [show Try.f8.params.size = [0].length from by kernel_rfl] at h; exact spec_at ds h) (by kernel_rfl) Try.underlying4 (by kernel_rfl) (by kernel_rfl) (fun W base args ds p hval hA => contract H enc W base args ds p hval hA)
theorem over : Rows.fnExactMeanWaitingRow.holds Try.pinned (OpenSpec.ofChange Rows.fnExactMeanWaitingSpec) :=
  OpenClaim.holds_of_wide 8 Try.f8 rfl rfl rfl rfl rfl rfl rfl ⟨rfl, rfl, rfl, rfl, rfl⟩ rfl rfl rfl rfl rfl (by kernel_rfl) Try.func8 (by kernel_rfl)
    (of_decide_eq_true (by kernel_rfl)) (by unfold Func.isWrapper; first | (rw [if_pos (by decide +kernel)]; kernel_rfl) | (rw [if_neg (by decide +kernel)]; exact ⟨rfl, rfl⟩))
    (fun os started H enc _ => lifted os started H enc)
theorem proved : Rows.FnExactMeanWaitingSaid := over
end Go.Proofs.Ytpjgjfdbffideaa.lawMeanWaiting
