/-
  The program's HistogramOf answers as the reference's does, for all arguments, and leaves its arguments alone.
  Conditions: none: every input that can be read as data.
-/
import Derived.Test.YtpjgjfdbffideaaA7
namespace Go.Proofs.Ytpjgjfdbffideaa.lawHistogramOf
set_option linter.unusedSimpArgs false
set_option linter.unusedVariables false
open Go.ChangeShapes Go.WideShapes Go.ChangeAt Go.RowKit
theorem own : ownKnob Try.prog.godebug = none := by kernel_rfl
set_option maxHeartbeats 800000 in
theorem walk (A0 : Option Addr) (n0 c0 : Nat) (L0 : Nat → Lk) (w : World) (hn0 : n0 ≤ 9223372036854775807) (hL0 : RdLk w A0 n0 L0) :
    Calls Try.prog 10 #[.slice A0 n0 c0] w (Post (.bool true) w) := by
  by_cases s0z : (n0 : Int) ≤ 1048576
  · skip
    go_enter Try.func10, Try.ntmps10
    go_wp2_with fail
    refine (szLockageS_ok A0 n0 c0 _ _ (by omega) (by omega)).mono ?_
    rintro e w' ⟨rfl, rfl⟩
    have C : Below w.heap.size w w := Below.refl _ _
    have hL0o := hL0
    go_wp2_with fail
    refine (toLockageS_any A0 n0 c0 L0 _ (by omega) hL0).mono ?_
    rintro e w1 ⟨g1, cs1, rfl, hg1, B_1, z1, R1, b1⟩
    replace hL0 := hL0.below b1
    have s1 := b1.size
    replace C := below_tr C b1
    have X_1 := R1.rd B_1
    have l1 := B_1.lt
    go_wp2_with fail
    refine (specHistogramOf_any (some ⟨g1, 0, none⟩) n0 n0 L0 _ (by omega) X_1).mono ?_
    rintro e w2 ⟨AW, cW, rfl, OW, b2⟩
    replace hL0 := hL0.below b2
    replace X_1 := X_1.below b2
    replace B_1 := B_1.below b2
    have s2 := b2.size
    replace C := below_tr C b2
    have XW := OW.rd
    have XWo := XW
    go_wp2_with fail
    refine (toLockageS_any A0 n0 c0 L0 _ (by omega) hL0).mono ?_
    rintro e w3 ⟨g3, cs3, rfl, hg3, B_3, z3, R3, b3⟩
    replace hL0 := hL0.below b3
    replace XW := XW.below b3
    have s3 := b3.size
    replace C := below_tr C b3
    have X_3 := R3.rd B_3
    have l3 := B_3.lt
    go_wp2_with fail
    refine (histogramOf_any (some ⟨g3, 0, none⟩) n0 n0 L0 _ (by omega) X_3).mono ?_
    rintro e w4 ⟨AG, cG, rfl, OG, b4⟩
    replace hL0 := hL0.below b4
    replace XW := XW.below b4
    replace X_3 := X_3.below b4
    replace B_3 := B_3.below b4
    have s4 := b4.size
    replace C := below_tr C b4
    have hNN : (histN n0 L0) ≤ 1048576 := by unfold histN; split <;> omega
    go_wp2_with fail
    refine (eqIntS_same _ _ (histN n0 L0) _ _ (histF L0 n0) _ hNN OG.rd XW).mono ?_
    rintro e w5 ⟨rfl, b5⟩
    replace hL0 := hL0.below b5
    replace XW := XW.below b5
    replace X_3 := X_3.below b5
    replace B_3 := B_3.below b5
    replace OG := OG.below b5
    have s5 := b5.size
    replace C := below_tr C b5
    go_wp2_with fail
    refine (toLockageS_any A0 n0 c0 L0 _ (by omega) hL0).mono ?_
    rintro e w6 ⟨g6, cs6, rfl, hg6, B_6, z6, R6, b6⟩
    replace hL0 := hL0.below b6
    replace XW := XW.below b6
    replace X_3 := X_3.below b6
    replace B_3 := B_3.below b6
    replace OG := OG.below b6
    have s6 := b6.size
    replace C := below_tr C b6
    have X_6 := R6.rd B_6
    have l6 := B_6.lt
    go_wp2_with fail
    refine (eqLockageS_same _ _ n0 n0 n0 L0 _ (by omega) X_3 X_6).mono ?_
    rintro e w7 ⟨rfl, b7⟩
    replace hL0 := hL0.below b7
    replace XW := XW.below b7
    replace X_3 := X_3.below b7
    replace B_3 := B_3.below b7
    replace OG := OG.below b7
    replace X_6 := X_6.below b7
    replace B_6 := B_6.below b7
    have s7 := b7.size
    replace C := below_tr C b7
    go_wp2_with fail
    refine (markLockageS_any g3 n0 n0 1 cs3 _ (by omega) (by omega) (by omega) B_3 (by omega)).mono ?_
    rintro e w8 ⟨rfl, gm8⟩
    replace hL0 := hL0.kept hL0o gm8 (by intro k hk; first | (cases hk; omega) | (have h9 := OG.row_ge k hk; omega))
    replace XW := XW.kept XWo gm8 (by intro k hk; first | (cases hk; omega) | (have h9 := OG.row_ge k hk; omega))
    replace OG := OG.grown gm8 (by intro k hk; first | (cases hk; omega) | (have h9 := OG.row_ge k hk; omega))
    have s8 := gm8.size
    replace C := below_row C gm8 (by intro k hk; first | (cases hk; omega) | (have h9 := OG.row_ge k hk; omega))
    go_wp2_with fail
    refine (eqIntS_same _ _ (histN n0 L0) _ _ (histF L0 n0) _ hNN OG.rd XW).mono ?_
    rintro e w9 ⟨rfl, b9⟩
    replace hL0 := hL0.below b9
    replace XW := XW.below b9
    replace OG := OG.below b9
    have s9 := b9.size
    replace C := below_tr C b9
    go_wp2_with fail
    refine (markIntS_own _ (histN n0 L0) _ _ 1 _ _ hNN (by omega) (by omega) OG).mono ?_
    rintro e w10 ⟨rfl, gm10, OG1⟩
    replace hL0 := hL0.kept hL0o gm10 (by intro k hk; first | (cases hk; omega) | (have h9 := OG.row_ge k hk; omega))
    replace XW := XW.kept XWo gm10 (by intro k hk; first | (cases hk; omega) | (have h9 := OG.row_ge k hk; omega))
    have s10 := gm10.size
    replace C := below_row C gm10 (by intro k hk; first | (cases hk; omega) | (have h9 := OG.row_ge k hk; omega))
    go_wp2_with fail
    refine (heldIntS_any _ (histN n0 L0) _ 1 _ hNN (by omega) (by omega) OG1.rd).mono ?_
    rintro e w11 ⟨rfl, b11⟩
    replace hL0 := hL0.below b11
    replace XW := XW.below b11
    replace OG1 := OG1.below b11
    have s11 := b11.size
    replace C := below_tr C b11
    go_wp2_with fail
    refine (toLockageS_any A0 n0 c0 L0 _ (by omega) hL0).mono ?_
    rintro e w12 ⟨g12, cs12, rfl, hg12, B_12, z12, R12, b12⟩
    replace hL0 := hL0.below b12
    replace XW := XW.below b12
    replace OG1 := OG1.below b12
    have s12 := b12.size
    replace C := below_tr C b12
    have X_12 := R12.rd B_12
    have l12 := B_12.lt
    go_wp2_with fail
    refine (histogramOf_any (some ⟨g12, 0, none⟩) n0 n0 L0 _ (by omega) X_12).mono ?_
    rintro e w13 ⟨AH, cH, rfl, OH, b13⟩
    replace hL0 := hL0.below b13
    replace XW := XW.below b13
    replace OG1 := OG1.below b13
    replace X_12 := X_12.below b13
    replace B_12 := B_12.below b13
    have s13 := b13.size
    replace C := below_tr C b13
    go_wp2_with fail
    refine (eqIntS_same _ _ (histN n0 L0) _ _ (histF L0 n0) _ hNN OH.rd XW).mono ?_
    rintro e w14 ⟨rfl, b14⟩
    replace hL0 := hL0.below b14
    replace XW := XW.below b14
    replace OG1 := OG1.below b14
    replace X_12 := X_12.below b14
    replace B_12 := B_12.below b14
    replace OH := OH.below b14
    have s14 := b14.size
    replace C := below_tr C b14
    go_wp2_with fail
    refine (heldIntS_any _ (histN n0 L0) _ 1 _ hNN (by omega) (by omega) OG1.rd).mono ?_
    rintro e w15 ⟨rfl, b15⟩
    replace hL0 := hL0.below b15
    replace XW := XW.below b15
    replace OG1 := OG1.below b15
    replace X_12 := X_12.below b15
    replace B_12 := B_12.below b15
    replace OH := OH.below b15
    have s15 := b15.size
    replace C := below_tr C b15
    go_wp2_with fail
    go_ret
    exact ⟨rfl, C⟩
  · go_enter Try.func10, Try.ntmps10
    go_wp2_with fail
    refine (szLockageS_no A0 n0 c0 _ _ (by omega) (by omega) (by omega)).mono ?_
    rintro e w' ⟨rfl, rfl⟩
    go_wp2_with fail
    go_ret
    exact ⟨rfl, Below.refl _ _⟩
theorem spec_at {H : Type} (ds : List (DataW H)) (h : ds.length = [0].length) : Rows.fnExactHistogramOfSpec.fn H (ds ++ []) = { results := [.lit (.bool true)], args := ds } := by
  match ds, h with
  | [_], _ => rfl
theorem contract (H : Type) (enc : TypeId × Value → H) (W : World) (base : Nat) (args : Array Value) (ds : List (DataW H)) (p : List MemPlace)
    (hval : ∀ (j : Nat) t v, Try.f10.params[j]? = some t → args[j]? = some v → Value.okWide Try.prog W .any base t v)
    (hA : DataW.TrodAll enc Try.prog W 0 (fun _ => true) true Try.f10.params.toList args.toList ds p) : Calls Try.prog 10 args W (Post (.bool true) W) := by
  rw [Try.params10] at hA hval
  obtain ⟨v0, vs0, d0, ds0, p0, q0, hargs, rfl, rfl, h0, r0⟩ := trodAll_cons hA
  obtain ⟨rfl, rfl, rfl⟩ := trodAll_nil r0
  obtain rfl : args = #[v0] := by cases args; simp_all
  obtain ⟨A0, n0, c0, L0, rfl, hn0, hL0, _⟩ := openV_LkS (hval 0 _ v0 rfl rfl) h0
  exact walk A0 n0 c0 L0 W hn0 hL0
set_option maxRecDepth 100000 in
theorem lifted (os : Os) (started : os.Started) (H : Type) (enc : TypeId × Value → H) :
    ReturnsInHanded {} Try.checked os 10 .any (Rows.fnExactHistogramOfSpec.pre6 enc Try.prog Try.f10 Rows.fnExactHistogramOfRow.domain false) (Rows.fnExactHistogramOfSpec.post enc Try.prog Try.f10 false true false false) :=
  law_lift (C := Try.checked) (tb := 4) own started (by kernel_rfl) Try.func10
    (ChangeSpec.witness6 (enc := enc) (C := Try.checked) false ⟨#[], #[.slice none 0 0], []⟩ 8 (by kernel_rfl) (by kernel_rfl) (by kernel_rfl) (by kernel_rfl))
    rfl (fun ds h => by rw [show Try.f10.params.size = [0].length from by kernel_rfl] at h; exact spec_at ds h) (by kernel_rfl) Try.underlying4 (by kernel_rfl) (by kernel_rfl) (fun W base args ds p hval hA => contract H enc W base args ds p hval hA)
theorem over : Rows.fnExactHistogramOfRow.holds Try.pinned (OpenSpec.ofChange Rows.fnExactHistogramOfSpec) :=
  OpenClaim.holds_of_wide 10 Try.f10 rfl rfl rfl rfl rfl rfl rfl ⟨rfl, rfl, rfl, rfl, rfl⟩ rfl rfl rfl rfl rfl (by kernel_rfl) Try.func10 (by kernel_rfl)
    (of_decide_eq_true (by kernel_rfl)) (by unfold Func.isWrapper; first | (rw [if_pos (by decide +kernel)]; kernel_rfl) | (rw [if_neg (by decide +kernel)]; exact ⟨rfl, rfl⟩))
    (fun os started H enc _ => lifted os started H enc)
theorem proved : Rows.FnExactHistogramOfSaid := over
end Go.Proofs.Ytpjgjfdbffideaa.lawHistogramOf
