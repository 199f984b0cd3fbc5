/-
  The program's IsLockage answers as the reference's does, for all arguments, and leaves its argument alone.
  Conditions: none: every input that can be read as data.
-/
import Derived.Test.YtpjgjfdbffideaaA1
namespace Go.Proofs.Ytpjgjfdbffideaa.lawIsLockage
open Go.ChangeShapes Go.WideShapes Go.ChangeAt Go.RowKit
theorem own : ownKnob Try.prog.godebug = none := by kernel_rfl
theorem walk (l : Lk) (w : World) : Calls Try.prog 3 #[.agg #[.int .i64 l.lock, .int .i64 l.minute, .int .i64 l.vessels, .int .i64 l.cells, .int .i64 l.waiting]] w (Post (.bool true) w) := by
  go_enter Try.func3, Try.ntmps3
  go_wp2_with (first | (go_at_call 14; refine (toLockage_any l _).mono ?_; intro e w' hp; obtain ⟨rfl, m, rfl⟩ := hp.get; clear hp) | (go_at_call 13; refine (specIsLockage_any l _).mono ?_; intro e w' hp; obtain ⟨rfl, m, rfl⟩ := hp.get; clear hp) | (go_at_call 15; refine (isLockage_any l _).mono ?_; intro e w' hp; obtain ⟨rfl, m, rfl⟩ := hp.get; clear hp))
  all_goals go_ret
  all_goals exact ⟨rfl, (by repeat (first | with_reducible exact Below.refl _ _ | with_reducible assumption | with_reducible refine below_alloc ?_ _ | with_reducible refine below_more ?_ _ | (with_reducible refine below_set ?_ ?_ _; rotate_left; first | with_reducible exact Nat.le_refl _ | with_reducible assumption | (simp; done) | omega)))⟩
theorem spec_at {H : Type} (ds : List (DataW H)) (h : ds.length = [0].length) : Rows.fnExactIsLockageSpec.fn H (ds ++ []) = { results := [.lit (.bool true)], args := ds } := by
  match ds, h with
  | [_], _ => rfl
theorem contract (H : Type) (enc : TypeId × Value → H) (W : World) (base : Nat) (args : Array Value) (ds : List (DataW H)) (p : List MemPlace)
    (hval : ∀ (j : Nat) t v, Try.f3.params[j]? = some t → args[j]? = some v → Value.okWide Try.prog W .any base t v)
    (hA : DataW.TrodAll enc Try.prog W 0 (fun _ => true) true Try.f3.params.toList args.toList ds p) : Calls Try.prog 3 args W (Post (.bool true) W) := by
  rw [Try.params3] at hA hval
  obtain ⟨v0, vs0, d0, ds0, p0, q0, hargs, rfl, rfl, h0, r0⟩ := trodAll_cons hA
  obtain ⟨rfl, rfl, rfl⟩ := trodAll_nil r0
  obtain rfl : args = #[v0] := by cases args; simp_all
  obtain ⟨l, rfl, _⟩ := openV_Lk (hval 0 _ v0 rfl rfl) h0
  exact walk l W
set_option maxRecDepth 100000 in
theorem lifted (os : Os) (started : os.Started) (H : Type) (enc : TypeId × Value → H) :
    ReturnsInHanded {} Try.checked os 3 .any (Rows.fnExactIsLockageSpec.pre6 enc Try.prog Try.f3 Rows.fnExactIsLockageRow.domain false) (Rows.fnExactIsLockageSpec.post enc Try.prog Try.f3 false true false false) :=
  law_lift (C := Try.checked) (tb := 4) own started (by kernel_rfl) Try.func3
    (ChangeSpec.witness6 (enc := enc) (C := Try.checked) false ⟨#[], #[.agg #[.int .i64 0, .int .i64 0, .int .i64 0, .int .i64 0, .int .i64 0]], []⟩ 8 (by kernel_rfl) (by kernel_rfl) (by kernel_rfl) (by kernel_rfl))
    rfl (fun ds h => by rw [show Try.f3.params.size = [0].length from by kernel_rfl] at h; exact spec_at ds h) (by kernel_rfl) Try.underlying4 (by kernel_rfl) (by kernel_rfl) (fun W base args ds p hval hA => contract H enc W base args ds p hval hA)
theorem over : Rows.fnExactIsLockageRow.holds Try.pinned (OpenSpec.ofChange Rows.fnExactIsLockageSpec) :=
  OpenClaim.holds_of_wide 3 Try.f3 rfl rfl rfl rfl rfl rfl rfl ⟨rfl, rfl, rfl, rfl, rfl⟩ rfl rfl rfl rfl rfl (by kernel_rfl) Try.func3 (by kernel_rfl)
    (of_decide_eq_true (by kernel_rfl)) (by unfold Func.isWrapper; first | (rw [if_pos (by decide +kernel)]; kernel_rfl) | (rw [if_neg (by decide +kernel)]; exact ⟨rfl, rfl⟩))
    (fun os started H enc _ => lifted os started H enc)
theorem proved : Rows.FnExactIsLockageSaid := over
end Go.Proofs.Ytpjgjfdbffideaa.lawIsLockage
