/-
  The laws' own bounds and comparisons of lists of ints.
  Conditions: none beyond each statement's own premises.
-/
import Derived.Test.YtapfljhihbodkaaGreatDoorLS
namespace Go.Proofs.YtapfljhihbodkaaGreatDoor
set_option linter.unusedSimpArgs false
set_option linter.unusedVariables false
open Go.RowKit
set_option maxRecDepth 10000
theorem rBig_v (A : Option Addr) (n c : Nat) (w : World) (hn : n ≤ 9223372036854775807) : Calls Tryz.prog 4 #[.slice A n c] w (Post (.bool (tr (65536 < n))) w) := by
  refine post_of_vc ?_
  refine calls_of_vc tb_ok (args := [.slice A n c]) Tryz.func4 rfl ?_
  (repeat' ((conv => whnf); first | (show VIf _ _ _; first | refine VIf.mk (fun _ => ?_) (fun h => absurd rfl h) | refine VIf.mk (fun h => Bool.noConfusion h) (fun _ => ?_) | refine VIf.mk (fun _ => ?_) (fun h => absurd (by assumption) h) | refine VIf.mk (fun h => absurd h (by assumption)) (fun _ => ?_) | refine VIf.mk (fun _ => ?_) (fun h => absurd (by omega) h) | refine VIf.mk (fun h => absurd h (by omega)) (fun _ => ?_) | refine VIf.mk (fun _ => ?_) (fun _ => ?_)) | (show VIn _ _; refine VIn.mk (by omega) (by omega) ?_) | (show VLoad1 _ _ _ _ _; first | (apply VLoad1.any; (focus ((repeat (first | exact Has.here rfl | exact Has.row (by assumption) | apply Has.there)); done))) | refine VLoad1.mk _ (Rd.old (by assumption) (fun h => h) (by assumption)) ?_) | (show VLoadN _ _ _ _ _ _; first | refine VLoadN.at_ (by assumption) rfl ?_ | (apply VLoadN.any; (focus ((repeat (first | exact At.here | apply At.there)); done)); (focus (exact Nat.le_of_ble_eq_true rfl)))) | (show VStore _ _ _ _ _ _; (apply VStore.any; (focus ((repeat (first | exact At.here | apply At.there)); done)); refine VStoreAt.mk rfl rfl (Nat.le_of_ble_eq_true rfl) rfl ?_)) | (show VIdx _ _ _ _ _ _ _; first | (apply VIdx.any; (focus ((repeat (first | exact At.here | apply At.there)); done)); (first | refine VIdxR.mk _ rfl (by omega) ?_ | refine VIdxR.mk _ (by assumption) (by omega) ?_); intro gQ hA'; first | subst hA' | (cases hA') | (replace hA' := Option.some.inj hA'; cases hA') | (dsimp only at hA'; subst hA')) | refine VIdx.at_ rfl _ rfl (by omega) ?_ | refine VIdx.at_ rfl _ (by assumption) (by omega) ?_ | refine VIdx.at_ rfl 0 rfl (by omega) ?_) | (show VQuo _ _ _; refine VQuo.nn (by omega) (by omega) (by omega) ?_) | (show VRem _ _ _; refine VRem.nn (by omega) (by omega) ?_) | (show VStrIx _ _ _; first | refine VStrIx.mk _ rfl (by omega) ?_ | refine VStrIx.mk _ (by assumption) (by omega) ?_) | (show VU64 _ _; refine VU64.mk (fun _ _ _ => ?_)) | (show VAnd64 _ _; refine VAnd64.mk (by omega) (fun _ _ _ => ?_)) | (show VShr64 _ _ _; refine VShr64.mk (by omega) (by omega) (fun _ _ _ => ?_)) | (show VCat _ _ _; refine VCat.mk (by omega) ?_) | (show VKeep _ _; refine VKeep.mk rfl ?_) | (show VDone _ _; refine VDone.same ?_) | (show _ ∧ True; refine And.intro ?_ trivial) | (show _ ∧ _; refine And.intro ?_ ?_) | intro _))
  all_goals ((conv => whnf); refine VRet.mk fun w' m => ?_)
  all_goals refine ⟨congrArg Value.bool ?_, m.keeps.below⟩
  all_goals first | (exact (tr_yes (by omega)).symm) | (exact (tr_no (by omega)).symm)
/-- Sums of ints. -/
def sumZ (g : Nat → Int) : Nat → Int
  | 0 => 0
  | k + 1 => sumZ g k + g k
end Go.Proofs.YtapfljhihbodkaaGreatDoor
