/-
  Texts of dues, and what due a text tells: the program's and the reference's walks.
  Conditions: none beyond each statement's own premises.
-/
import Derived.Test.YtapfljhihbodkaaDoorEP
import Derived.Test.YtapfljhihbodkaaDoorWI
import Derived.Lib.Replace
namespace Go.Proofs.YtapfljhihbodkaaDoor
set_option linter.unusedSimpArgs false
set_option linter.unusedVariables false
open Go.RowKit
set_option maxRecDepth 10000
/-! ### Dues -/
def dtx (n : Nat) : List UInt8 := Lib.decDigits (n / 100) ++ [46] ++ Lib.decDigits (n / 10 % 10) ++ Lib.decDigits (n % 10)
noncomputable def duV (k : Int) : List UInt8 × Bool := if tr (0 ≤ k ∧ k ≤ 99999999) then (dtx k.toNat, true) else ([], false)
theorem duV_yes {k : Nat} (hk : k ≤ 99999999) : duV k = (dtx k, true) := by unfold duV; rw [tr_yes ⟨by omega, by omega⟩]; rfl
theorem duV_no {k : Int} (h : ¬ (0 ≤ k ∧ k ≤ 99999999)) : duV k = ([], false) := by unfold duV; rw [tr_no h]; rfl
set_option maxHeartbeats 800000 in
theorem iDueText_v (n : Nat) (w : World) (hn : n ≤ 99999999) (ht : PTab w) : Calls Tryd.prog 13 #[.int .i64 n] w (Post (.string (tx (dtx n))) w) := by
  have h1 : ∀ w, PTab w → Calls Tryd.prog 23 #[.int .i64 ((n : Int) / 100)] w (Post (.string (tx (Lib.decDigits (n / 100)))) w) := fun w ht => itoa_v (n / 100) w (by omega) ht
  have h2 : ∀ w, PTab w → Calls Tryd.prog 23 #[.int .i64 ((n : Int) / 10 % 10)] w (Post (.string (tx (Lib.decDigits (n / 10 % 10)))) w) := fun w ht => itoa_v (n / 10 % 10) w (by omega) ht
  have h3 : ∀ w, PTab w → Calls Tryd.prog 23 #[.int .i64 ((n : Int) % 10)] w (Post (.string (tx (Lib.decDigits (n % 10)))) w) := fun w ht => itoa_v (n % 10) w (by omega) ht
  have l1 := dd_len 5 (n / 100) (by omega)
  have l2 := dd_len 5 (n / 10 % 10) (by omega)
  have l3 := dd_len 5 (n % 10) (by omega)
  refine post_of_vc ?_
  refine calls_of_vc tb_ok (args := [.int .i64 n]) Tryd.func13 rfl ?_
  (repeat' (first | ((conv => whnf); first | (show VIf _ _ _; first | refine VIf.mk (fun _ => ?_) (fun h => absurd rfl h) | refine VIf.mk (fun h => Bool.noConfusion h) (fun _ => ?_) | refine VIf.mk (fun _ => ?_) (fun h => absurd (by assumption) h) | refine VIf.mk (fun h => absurd h (by assumption)) (fun _ => ?_) | refine VIf.mk (fun _ => ?_) (fun h => absurd (by omega) h) | refine VIf.mk (fun h => absurd h (by omega)) (fun _ => ?_) | refine VIf.mk (fun _ => ?_) (fun _ => ?_)) | (show VIn _ _; refine VIn.mk (by omega) (by omega) ?_) | (show VLoad1 _ _ _ _ _; first | (apply VLoad1.any; (focus ((repeat (first | exact Has.here rfl | exact Has.row (by assumption) | apply Has.there)); done))) | refine VLoad1.mk _ (Rd.old (by assumption) (fun h => h) (by assumption)) ?_) | (show VLoadN _ _ _ _ _ _; first | refine VLoadN.at_ (by assumption) rfl ?_ | (apply VLoadN.any; (focus ((repeat (first | exact At.here | apply At.there)); done)); (focus (exact Nat.le_of_ble_eq_true rfl)))) | (show VStore _ _ _ _ _ _; (apply VStore.any; (focus ((repeat (first | exact At.here | apply At.there)); done)); refine VStoreAt.mk rfl rfl (Nat.le_of_ble_eq_true rfl) rfl ?_)) | (show VIdx _ _ _ _ _ _ _; first | (apply VIdx.any; (focus ((repeat (first | exact At.here | apply At.there)); done)); (first | refine VIdxR.mk _ rfl (by omega) ?_ | refine VIdxR.mk _ (by assumption) (by omega) ?_); intro gQ hA'; first | subst hA' | (cases hA') | (replace hA' := Option.some.inj hA'; cases hA') | (dsimp only at hA'; subst hA')) | refine VIdx.at_ rfl _ rfl (by omega) ?_ | refine VIdx.at_ rfl _ (by assumption) (by omega) ?_ | refine VIdx.at_ rfl 0 rfl (by omega) ?_) | (show VQuo _ _ _; refine VQuo.nn (by omega) (by omega) (by omega) ?_) | (show VRem _ _ _; refine VRem.nn (by omega) (by omega) ?_) | (show VStrIx _ _ _; first | refine VStrIx.mk _ rfl (by omega) ?_ | refine VStrIx.mk _ (by assumption) (by omega) ?_) | (show VU64 _ _; refine VU64.mk (fun _ _ _ => ?_)) | (show VAnd64 _ _; refine VAnd64.mk (by omega) (fun _ _ _ => ?_)) | (show VShr64 _ _ _; refine VShr64.mk (by omega) (by omega) (fun _ _ _ => ?_)) | (show VCat _ _ _; refine VCat.mk (by omega) ?_) | (show VKeep _ _; refine VKeep.mk rfl ?_) | (show VDone _ _; refine VDone.same ?_) | (show _ ∧ True; refine And.intro ?_ trivial) | (show _ ∧ _; refine And.intro ?_ ?_) | intro _) | ((conv => whnf); (first | ((show VCall _ _ _ 23 [.int .i64 ((n : Int) / 100)] _); refine VCall.grow _ (fun w1 m1 => h1 w1 (ht.on m1)) ?_) | ((show VCall _ _ _ 23 [.int .i64 ((n : Int) / 10 % 10)] _); refine VCall.grow _ (fun w1 m1 => h2 w1 (ht.on m1)) ?_) | ((show VCall _ _ _ 23 [.int .i64 ((n : Int) % 10)] _); refine VCall.grow _ (fun w1 m1 => h3 w1 (ht.on m1)) ?_) | ((show VCat _ _ _); refine VCat.of (by simp only [List.length_append, List.length_cons, List.length_nil]; omega) ?_)))))
  all_goals ((conv => whnf); refine VRet.mk fun w' m => ?_)
  all_goals exact ⟨rfl, m.keeps.below⟩
set_option maxHeartbeats 800000 in
theorem sDueText_v (n : Nat) (w : World) (hn : n ≤ 99999999) : Calls Tryd.prog 9 #[.int .i64 n] w (Post (.string (tx (dtx n))) w) := by
  have h1 : ∀ w, Calls Tryd.prog 14 #[.int .i64 ((n : Int) / 100)] w (Post (.string (tx (Lib.decDigits (n / 100)))) w) := fun w => l1Num_v (n / 100) w (by omega)
  have h2 : ∀ w, Calls Tryd.prog 14 #[.int .i64 ((n : Int) / 10 % 10)] w (Post (.string (tx (Lib.decDigits (n / 10 % 10)))) w) := fun w => l1Num_v (n / 10 % 10) w (by omega)
  have h3 : ∀ w, Calls Tryd.prog 14 #[.int .i64 ((n : Int) % 10)] w (Post (.string (tx (Lib.decDigits (n % 10)))) w) := fun w => l1Num_v (n % 10) w (by omega)
  have l1 := dd_len 5 (n / 100) (by omega)
  have l2 := dd_len 5 (n / 10 % 10) (by omega)
  have l3 := dd_len 5 (n % 10) (by omega)
  refine post_of_vc ?_
  refine calls_of_vc tb_ok (args := [.int .i64 n]) Tryd.func9 rfl ?_
  (repeat' (first | ((conv => whnf); first | (show VIf _ _ _; first | refine VIf.mk (fun _ => ?_) (fun h => absurd rfl h) | refine VIf.mk (fun h => Bool.noConfusion h) (fun _ => ?_) | refine VIf.mk (fun _ => ?_) (fun h => absurd (by assumption) h) | refine VIf.mk (fun h => absurd h (by assumption)) (fun _ => ?_) | refine VIf.mk (fun _ => ?_) (fun h => absurd (by omega) h) | refine VIf.mk (fun h => absurd h (by omega)) (fun _ => ?_) | refine VIf.mk (fun _ => ?_) (fun _ => ?_)) | (show VIn _ _; refine VIn.mk (by omega) (by omega) ?_) | (show VLoad1 _ _ _ _ _; first | (apply VLoad1.any; (focus ((repeat (first | exact Has.here rfl | exact Has.row (by assumption) | apply Has.there)); done))) | refine VLoad1.mk _ (Rd.old (by assumption) (fun h => h) (by assumption)) ?_) | (show VLoadN _ _ _ _ _ _; first | refine VLoadN.at_ (by assumption) rfl ?_ | (apply VLoadN.any; (focus ((repeat (first | exact At.here | apply At.there)); done)); (focus (exact Nat.le_of_ble_eq_true rfl)))) | (show VStore _ _ _ _ _ _; (apply VStore.any; (focus ((repeat (first | exact At.here | apply At.there)); done)); refine VStoreAt.mk rfl rfl (Nat.le_of_ble_eq_true rfl) rfl ?_)) | (show VIdx _ _ _ _ _ _ _; first | (apply VIdx.any; (focus ((repeat (first | exact At.here | apply At.there)); done)); (first | refine VIdxR.mk _ rfl (by omega) ?_ | refine VIdxR.mk _ (by assumption) (by omega) ?_); intro gQ hA'; first | subst hA' | (cases hA') | (replace hA' := Option.some.inj hA'; cases hA') | (dsimp only at hA'; subst hA')) | refine VIdx.at_ rfl _ rfl (by omega) ?_ | refine VIdx.at_ rfl _ (by assumption) (by omega) ?_ | refine VIdx.at_ rfl 0 rfl (by omega) ?_) | (show VQuo _ _ _; refine VQuo.nn (by omega) (by omega) (by omega) ?_) | (show VRem _ _ _; refine VRem.nn (by omega) (by omega) ?_) | (show VStrIx _ _ _; first | refine VStrIx.mk _ rfl (by omega) ?_ | refine VStrIx.mk _ (by assumption) (by omega) ?_) | (show VU64 _ _; refine VU64.mk (fun _ _ _ => ?_)) | (show VAnd64 _ _; refine VAnd64.mk (by omega) (fun _ _ _ => ?_)) | (show VShr64 _ _ _; refine VShr64.mk (by omega) (by omega) (fun _ _ _ => ?_)) | (show VCat _ _ _; refine VCat.mk (by omega) ?_) | (show VKeep _ _; refine VKeep.mk rfl ?_) | (show VDone _ _; refine VDone.same ?_) | (show _ ∧ True; refine And.intro ?_ trivial) | (show _ ∧ _; refine And.intro ?_ ?_) | intro _) | ((conv => whnf); (first | ((show VCall _ _ _ 14 [.int .i64 ((n : Int) / 100)] _); refine VCall.grow _ (fun w1 m1 => h1 w1) ?_) | ((show VCall _ _ _ 14 [.int .i64 ((n : Int) / 10 % 10)] _); refine VCall.grow _ (fun w1 m1 => h2 w1) ?_) | ((show VCall _ _ _ 14 [.int .i64 ((n : Int) % 10)] _); refine VCall.grow _ (fun w1 m1 => h3 w1) ?_) | ((show VCat _ _ _); refine VCat.of (by simp only [List.length_append, List.length_cons, List.length_nil]; omega) ?_)))))
  all_goals ((conv => whnf); refine VRet.mk fun w' m => ?_)
  all_goals exact ⟨rfl, m.keeps.below⟩
/-! ### The due that a text tells -/
theorem dd_at {b : UInt8} {n : Nat} (h : b ∈ Lib.decDigits n) : 48 ≤ b.toNat ∧ b.toNat ≤ 57 := by
  obtain ⟨k, hk, e⟩ := List.mem_iff_getElem.1 h
  exact dd_dig n (k := k) (by rw [List.getElem?_eq_getElem hk, e])
theorem dd_dot (n : Nat) : (46 : UInt8) ∉ Lib.decDigits n := fun h => absurd (dd_at h).1 (by decide)
theorem dtx_eq (n : Nat) : dtx n = Lib.decDigits (n / 100) ++ 46 :: (Lib.decDigits (n / 10 % 10) ++ Lib.decDigits (n % 10)) := by
  unfold dtx
  simp
theorem dtx_len {n : Nat} (h : n ≤ 99999999) : 4 ≤ (dtx n).length ∧ (dtx n).length ≤ 9 := by
  have l1 := dd_len 5 (n / 100) (by omega)
  have l4 : 0 < (Lib.decDigits (n / 100)).length := List.length_pos_iff.2 (dd_ne _)
  rw [dtx_eq, Lib.decDigits_one (by omega : n / 10 % 10 < 10), Lib.decDigits_one (by omega : n % 10 < 10)]
  simp
  omega
/-- The digits of a due without its dot. -/
theorem dtx_num (n : Nat) : Lib.decFrom 0 (Lib.decDigits (n / 100) ++ (Lib.decDigits (n / 10 % 10) ++ Lib.decDigits (n % 10))) = some n := by
  rw [Lib.decDigits_one (by omega : n / 10 % 10 < 10), Lib.decDigits_one (by omega : n % 10 < 10), ← List.append_assoc, decFrom_snoc, decFrom_snoc, decFrom_dd, digit_of (by omega), digit_of (by omega)]
  show some ((n / 100 * 10 + n / 10 % 10) * 10 + n % 10) = some n
  congr 1
  omega
noncomputable def pdV (l : List UInt8) : Int × Bool := if tr (∃ n : Nat, n ≤ 99999999 ∧ dtx n = l) then ((Lib.decFrom 0 (bfs 46 l ++ afs 46 l)).getD 0, true) else (0, false)
theorem bfs_dtx (n : Nat) : bfs 46 (dtx n) = Lib.decDigits (n / 100) ∧ afs 46 (dtx n) = Lib.decDigits (n / 10 % 10) ++ Lib.decDigits (n % 10) := by
  rw [dtx_eq]
  exact bfs_at (dd_dot _)
theorem pdV_at {n : Nat} (h : n ≤ 99999999) : pdV (dtx n) = ((n : Int), true) := by
  unfold pdV
  rw [tr_yes ⟨n, h, rfl⟩, (bfs_dtx n).1, (bfs_dtx n).2, dtx_num]
  rfl
theorem pdV_no {l : List UInt8} (h : ∀ n : Nat, n ≤ 99999999 → ¬ l = dtx n) : pdV l = (0, false) := by
  unfold pdV
  rw [tr_no fun ⟨n, h1, h2⟩ => h n h1 h2.symm]
  rfl
theorem pdV_cases (l : List UInt8) : (∃ n : Nat, n ≤ 99999999 ∧ l = dtx n) ∨ ∀ n : Nat, n ≤ 99999999 → ¬ l = dtx n := by
  by_cases h : ∃ n : Nat, n ≤ 99999999 ∧ l = dtx n
  · exact .inl h
  · exact .inr fun n h1 h2 => h ⟨n, h1, h2⟩
theorem dtx_inj {m n : Nat} (h : dtx m = dtx n) : m = n := by
  have h1 := dtx_num m
  rw [← (bfs_dtx m).1, ← (bfs_dtx m).2, h, (bfs_dtx n).1, (bfs_dtx n).2, dtx_num] at h1
  injection h1 with h1
  exact h1.symm
end Go.Proofs.YtapfljhihbodkaaDoor
