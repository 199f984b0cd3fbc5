/-
  Numerals with a sign, and the reference's reading of them: the walks.
  Conditions: none beyond each statement's own premises.
-/
import Derived.Test.YtadjhkehfklmnaaDoorEN
namespace Go.Proofs.YtadjhkehfklmnaaDoor
set_option linter.unusedSimpArgs false
set_option linter.unusedVariables false
open Go.RowKit
set_option maxRecDepth 10000
theorem itoaZ_v (n : Int) (w : World) (h1 : -1000000 ≤ n) (h2 : n ≤ 1000000) (ht : PTab w) : Calls Tryd.prog 30 #[.int .i64 n] w (Post (.string (tx (Lib.itoa n))) w) :=
  (Tryd.strconv_Itoa n (by omega) (by omega) w ht).mono fun e w' ⟨he, k, os, hw⟩ => ⟨by rw [he]; rfl, by rw [hw]; exact Lib.below_grow _ _ (Nat.le_refl _) _ _⟩
set_option maxHeartbeats 400000 in
theorem l1NumZ_v (n : Int) (w : World) (h1 : -1000000 ≤ n) (h2 : n ≤ 1000000) : Calls Tryd.prog 29 #[.int .i64 n] w (Post (.string (tx (Lib.itoa n))) w) := by
  rcases (by omega : 0 ≤ n ∨ n < 0) with h | h
  · obtain ⟨q, rfl⟩ := Int.eq_ofNat_of_zero_le h
    rw [itoaN]
    exact l1Num_v q w (by omega)
  · obtain ⟨q, hq⟩ := Int.eq_ofNat_of_zero_le (show 0 ≤ -n by omega)
    have hr := fun w => l1Num_v q w (by omega)
    rw [← hq] at hr
    have el := dd_len 6 q (by omega)
    refine post_of_vc ?_
    refine calls_of_vc tb_ok (args := [.int .i64 n]) Tryd.func29 rfl ?_
    (repeat' (first | ((conv => whnf); first | (show VIf _ _ _; first | refine VIf.mk (fun _ => ?_) (fun h => absurd rfl h) | refine VIf.mk (fun h => Bool.noConfusion h) (fun _ => ?_) | refine VIf.mk (fun _ => ?_) (fun h => absurd (by assumption) h) | refine VIf.mk (fun h => absurd h (by assumption)) (fun _ => ?_) | refine VIf.mk (fun _ => ?_) (fun h => absurd (by omega) h) | refine VIf.mk (fun h => absurd h (by omega)) (fun _ => ?_) | refine VIf.mk (fun _ => ?_) (fun _ => ?_)) | (show VIn _ _; refine VIn.mk (by omega) (by omega) ?_) | (show VLoad1 _ _ _ _ _; first | (apply VLoad1.any; (focus ((repeat (first | exact Has.here rfl | exact Has.row (by assumption) | apply Has.there)); done))) | refine VLoad1.mk _ (Rd.old (by assumption) (fun h => h) (by assumption)) ?_) | (show VLoadN _ _ _ _ _ _; first | refine VLoadN.at_ (by assumption) rfl ?_ | (apply VLoadN.any; (focus ((repeat (first | exact At.here | apply At.there)); done)); (focus (exact Nat.le_of_ble_eq_true rfl)))) | (show VStore _ _ _ _ _ _; (apply VStore.any; (focus ((repeat (first | exact At.here | apply At.there)); done)); refine VStoreAt.mk rfl rfl (Nat.le_of_ble_eq_true rfl) rfl ?_)) | (show VIdx _ _ _ _ _ _ _; first | (apply VIdx.any; (focus ((repeat (first | exact At.here | apply At.there)); done)); (first | refine VIdxR.mk _ rfl (by omega) ?_ | refine VIdxR.mk _ (by assumption) (by omega) ?_); intro gQ hA'; first | subst hA' | (cases hA') | (replace hA' := Option.some.inj hA'; cases hA') | (dsimp only at hA'; subst hA')) | refine VIdx.at_ rfl _ rfl (by omega) ?_ | refine VIdx.at_ rfl _ (by assumption) (by omega) ?_ | refine VIdx.at_ rfl 0 rfl (by omega) ?_) | (show VQuo _ _ _; refine VQuo.nn (by omega) (by omega) (by omega) ?_) | (show VRem _ _ _; refine VRem.nn (by omega) (by omega) ?_) | (show VStrIx _ _ _; first | refine VStrIx.mk _ rfl (by omega) ?_ | refine VStrIx.mk _ (by assumption) (by omega) ?_) | (show VU64 _ _; refine VU64.mk (fun _ _ _ => ?_)) | (show VAnd64 _ _; refine VAnd64.mk (by omega) (fun _ _ _ => ?_)) | (show VShr64 _ _ _; refine VShr64.mk (by omega) (by omega) (fun _ _ _ => ?_)) | (show VCat _ _ _; refine VCat.mk (by omega) ?_) | (show VKeep _ _; refine VKeep.mk rfl ?_) | (show VDone _ _; refine VDone.same ?_) | (show _ ∧ True; refine And.intro ?_ trivial) | (show _ ∧ _; refine And.intro ?_ ?_) | intro _) | ((conv => whnf); (first | ((show VCall _ _ _ 29 _ _); refine VCall.grow _ (fun w1 _ => hr w1) ?_) | ((show VCat _ _ _); refine VCat.of (a := [45]) (by show 1 + _ ≤ _; omega) ?_)))))
    (conv => whnf); refine VRet.mk fun w' m => ?_
    refine ⟨?_, m.keeps.below⟩
    unfold Lib.itoa
    rw [if_pos h, show n.natAbs = q by omega]
    rfl
end Go.Proofs.YtadjhkehfklmnaaDoor
