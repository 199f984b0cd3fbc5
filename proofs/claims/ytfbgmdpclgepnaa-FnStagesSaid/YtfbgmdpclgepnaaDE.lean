/-
  What a new level leaves unchanged: plain.
  Conditions: none beyond each statement's own premises.
-/
import Derived.Test.YtfbgmdpclgepnaaDD
namespace Go.Proofs.Ytfbgmdpclgepnaa
set_option linter.unusedSimpArgs false
set_option linter.unusedVariables false
open Go.RowKit
set_option maxRecDepth 10000
theorem Dg.stage_next (d : Dg) (now : Nat) {x : Int} (hb : 0 ≤ d.band) (h0 : 0 ≤ x) : d.stage x ≤ d.next now x := by
  have h1 : mx 0 (x - d.band) ≤ x := mx_le h0 (by omega)
  have h2 : d.stage x ≤ d.stage (mx 0 (x - d.band)) := d.cnt_mono h1 d.n
  unfold Dg.next
  split <;> omega
theorem Dg.next_next (d : Dg) (now : Nat) {x : Int} (hb : 0 ≤ d.band) (h0 : 0 ≤ x) : d.next (d.next now x) x = d.next now x := by
  have h1 : mx 0 (x - d.band) ≤ x := mx_le h0 (by omega)
  have h2 : d.stage x ≤ d.stage (mx 0 (x - d.band)) := d.cnt_mono h1 d.n
  unfold Dg.next
  split <;> split <;> omega
theorem Dg.dr_step {d : Dg} (hg : d.good) {s : Nat} (hs : s < d.n) : d.dr (s + 1) ≤ d.dr s := by
  obtain ⟨_, _, _, h4, h5⟩ := hg.1 s hs
  rw [Dg.dr_pos (by omega)]
  show (d.ru s).draught ≤ _
  by_cases hz : s = 0
  · rw [Dg.dr_zero hz]; exact h4
  · rw [Dg.dr_pos hz]
    exact (h5 (by omega)).2.1
theorem Dg.dr_anti {d : Dg} (hg : d.good) {s : Nat} : ∀ {t : Nat}, s ≤ t → t ≤ d.n → d.dr t ≤ d.dr s
  | 0, h, _ => by obtain rfl : s = 0 := by omega
                  exact Int.le_refl _
  | t + 1, h, ht => by
    by_cases e : s = t + 1
    · rw [e]; exact Int.le_refl _
    · exact Int.le_trans (Dg.dr_step hg (by omega)) (Dg.dr_anti hg (by omega) (by omega))
theorem Dg.dr_in {d : Dg} (hg : d.good) {s : Nat} (hs : s ≤ d.n) : 50 ≤ d.dr s ∧ d.dr s ≤ 500 := by
  by_cases hz : s = 0
  · rw [Dg.dr_zero hz]; omega
  · rw [Dg.dr_pos hz]
    obtain ⟨_, _, h3, h4, _⟩ := hg.1 (s - 1) (by omega)
    exact ⟨h3, h4⟩
theorem Dg.dr_to (d : Dg) (s t : Nat) : (d.to s).dr t = d.dr t := rfl
theorem Dg.good_to {d : Dg} (hg : d.good) {s : Nat} (hs : s ≤ d.n) : (d.to s).good := by
  obtain ⟨a, b, c, e, f, _, _⟩ := hg
  exact ⟨a, b, c, e, f, by show (0 : Int) ≤ (s : Int); omega, by show (s : Int) ≤ (d.n : Int); omega⟩
theorem Dg.nl_again {d : Dg} {x : Int} (h : d.okN x) : (d.to (d.next d.now.toNat x)).nl x = d.to (d.next d.now.toNat x) := by
  obtain ⟨hg, h0, h1⟩ := h
  have hn : d.next d.now.toNat x ≤ d.n := d.next_le _ _ (by have := hg.2.2.2.2.2; omega)
  have h2 : (d.to (d.next d.now.toNat x)).okN x := ⟨Dg.good_to hg hn, h0, h1⟩
  rw [Dg.nl_yes h2]
  have e : (d.to (d.next d.now.toNat x)).next (d.to (d.next d.now.toNat x)).now.toNat x = d.next d.now.toNat x := by
    rw [Dg.next_to]
    exact Dg.next_next d _ hg.2.2.2.1 h0
  rw [e]
  rfl
theorem sIsDrought_v (A : Option Addr) (c : Nat) (d : Dg) (w : World) (hn : d.n ≤ 1048576) (hA : Seen w A (DrS d.n d.ru)) :
    Calls Try.prog 11 #[.agg (d.at A c).toArray] w (Post (.bool (tr d.good)) w) := by
  have hG := fun w hA => l23Good_v A c d w hn hA
  generalize tr d.good = t at hG
  refine post_of_vc ?_
  refine calls_of_vc tb_ok (args := [.agg (d.at A c).toArray]) Try.func11 rfl ?_
  cases t
  all_goals ((repeat' (first | ((conv => whnf); first | (show VIf _ _ _; first | refine VIf.mk (fun _ => ?_) (fun h => absurd rfl h) | refine VIf.mk (fun h => Bool.noConfusion h) (fun _ => ?_) | refine VIf.mk (fun _ => ?_) (fun h => absurd (by assumption) h) | refine VIf.mk (fun h => absurd h (by assumption)) (fun _ => ?_) | refine VIf.mk (fun _ => ?_) (fun h => absurd (by omega) h) | refine VIf.mk (fun h => absurd h (by omega)) (fun _ => ?_) | refine VIf.mk (fun _ => ?_) (fun _ => ?_)) | (show VIn _ _; refine VIn.mk (by omega) (by omega) ?_) | (show VLoad1 _ _ _ _ _; first | (apply VLoad1.any; (focus ((repeat (first | exact Has.here rfl | exact Has.row (by assumption) | apply Has.there)); done))) | refine VLoad1.mk _ (Rd.old (by assumption) (fun h => h) (by assumption)) ?_) | (show VLoadN _ _ _ _ _ _; first | refine VLoadN.at_ (by assumption) rfl ?_ | (apply VLoadN.any; (focus ((repeat (first | exact At.here | apply At.there)); done)); (focus (exact Nat.le_of_ble_eq_true rfl)))) | (show VStore _ _ _ _ _ _; (apply VStore.any; (focus ((repeat (first | exact At.here | apply At.there)); done)); refine VStoreAt.mk rfl rfl (Nat.le_of_ble_eq_true rfl) rfl ?_)) | (show VIdx _ _ _ _ _ _ _; first | (apply VIdx.any; (focus ((repeat (first | exact At.here | apply At.there)); done)); refine VIdxR.mk _ rfl (by omega) ?_; intro gQ hA'; first | subst hA' | (cases hA') | (replace hA' := Option.some.inj hA'; cases hA')) | refine VIdx.at_ rfl _ rfl (by omega) ?_ | refine VIdx.at_ rfl _ (by assumption) (by omega) ?_ | refine VIdx.at_ rfl 0 rfl (by omega) ?_) | (show VQuo _ _ _; refine VQuo.nn (by omega) (by omega) (by omega) ?_) | (show VRem _ _ _; refine VRem.nn (by omega) (by omega) ?_) | (show VStrIx _ _ _; first | refine VStrIx.mk _ rfl (by omega) ?_ | refine VStrIx.mk _ (by assumption) (by omega) ?_) | (show VU64 _ _; refine VU64.mk (fun _ _ _ => ?_)) | (show VAnd64 _ _; refine VAnd64.mk (by omega) (fun _ _ _ => ?_)) | (show VShr64 _ _ _; refine VShr64.mk (by omega) (by omega) (fun _ _ _ => ?_)) | (show VCat _ _ _; refine VCat.mk (by omega) ?_) | (show VKeep _ _; refine VKeep.mk rfl ?_) | (show VDone _ _; refine VDone.same ?_) | (show _ ∧ True; refine And.intro ?_ trivial) | (show _ ∧ _; refine And.intro ?_ ?_) | intro _) | ((conv => whnf); (first | ((show VCall _ _ _ 35 _ _); refine VCall.grow _ (fun w1 m1 => hG w1 (by first | exact Sees.old (by assumption) _ (by assumption) | exact Sees.any (by assumption) (by repeat (first | exact At.here | apply At.there)) | exact Sees.nil _ (by assumption))) ?_))))))
  all_goals ((conv => whnf); refine VRet.mk fun w' m => ?_)
  all_goals exact ⟨rfl, m.keeps.below⟩
end Go.Proofs.Ytfbgmdpclgepnaa
