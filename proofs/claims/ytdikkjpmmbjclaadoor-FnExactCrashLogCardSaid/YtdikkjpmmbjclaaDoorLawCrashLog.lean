/-
  The program's CrashLog answers as the reference's does, for all arguments, and leaves its arguments alone.
  Conditions: none: every input that can be read as data.
-/
import Derived.Test.YtdikkjpmmbjclaaDoorEG
import Derived.Test.YtdikkjpmmbjclaaDoorLd
namespace Go.Proofs.YtdikkjpmmbjclaaDoor.lawCrashLog
set_option linter.unusedSimpArgs false
set_option linter.unusedVariables false
open Go.ChangeShapes Go.WideShapes Go.ChangeAt Go.RowKit
set_option maxRecDepth 20000
theorem own : ownKnob Tryd.prog.godebug = none := by kernel_rfl
set_option maxHeartbeats 4000000 in
theorem walk (d0 : Lg) (x1 : Int) (x2 : Bool) (w : World) (hw0 : d0.wf) (hx1 : In64 x1)  (ht : PTab w) :
    Calls Tryd.prog 6 #[.agg d0.cells.toArray, .int .i64 x1, .bool x2] w (Post (.bool true) w) := by
  have hs0_durable : d0.durable.size ≤ 9223372036854775807 := by have := hw0; unfold Lg.wf maxLen at this; omega
  have hs0_pending : d0.pending.size ≤ 9223372036854775807 := by have := hw0; unfold Lg.wf maxLen at this; omega
  have hld0 : d0.durable.data.toList.length = d0.durable.size := by rw [← tx_size, tx_list]
  have hlp0 : d0.pending.data.toList.length = d0.pending.size := by rw [← tx_size, tx_list]
  have hcs := fun w h1 h2 => sCr_v d0.durable.data.toList d0.pending.data.toList d0.count x1 x2 w h1 h2
  have hci := fun w h1 h2 h3 => iCr_v d0.durable.data.toList d0.pending.data.toList d0.count x1 x2 w h1 h2 h3
  generalize crV d0.durable.data.toList d0.pending.data.toList d0.count x1 x2 = cr at hcs hci
  rw [tx_list, tx_list] at hcs hci
  refine post_of_vc ?_
  refine calls_of_vc tb_ok (args := [.agg d0.cells.toArray, .int .i64 x1, .bool x2]) Tryd.func6 rfl ?_
  (repeat' (first | ((conv => whnf); first | (show VIf _ _ _; first | refine VIf.mk (fun _ => ?_) (fun h => absurd rfl h) | refine VIf.mk (fun h => Bool.noConfusion h) (fun _ => ?_) | refine VIf.mk (fun _ => ?_) (fun h => absurd (by assumption) h) | refine VIf.mk (fun h => absurd h (by assumption)) (fun _ => ?_) | refine VIf.mk (fun _ => ?_) (fun h => absurd (by omega) h) | refine VIf.mk (fun h => absurd h (by omega)) (fun _ => ?_) | refine VIf.mk (fun _ => ?_) (fun _ => ?_)) | (show VIn _ _; refine VIn.mk (by omega) (by omega) ?_) | (show VLoad1 _ _ _ _ _; first | refine VLoad1.mk _ (Rd.own 0 rfl rfl) ?_ | refine VLoad1.mk _ (Rd.own 1 rfl rfl) ?_ | refine VLoad1.mk _ (Rd.own 2 rfl rfl) ?_ | refine VLoad1.mk _ (Rd.own 3 rfl rfl) ?_ | refine VLoad1.mk _ (Rd.own 4 rfl rfl) ?_ | refine VLoad1.mk _ (Rd.own 5 rfl rfl) ?_ | refine VLoad1.mk _ (Rd.own 6 rfl rfl) ?_ | refine VLoad1.mk _ (Rd.own 7 rfl rfl) ?_ | refine VLoad1.mk _ (Rd.own 8 rfl rfl) ?_ | refine VLoad1.mk _ (Rd.own 9 rfl rfl) ?_ | refine VLoad1.mk _ (Rd.own 10 rfl rfl) ?_ | refine VLoad1.mk _ (Rd.own 11 rfl rfl) ?_ | refine VLoad1.mk _ (Rd.own 12 rfl rfl) ?_ | refine VLoad1.mk _ (Rd.own 13 rfl rfl) ?_ | refine VLoad1.mk _ (Rd.own 14 rfl rfl) ?_ | refine VLoad1.mk _ (Rd.own 15 rfl rfl) ?_ | refine VLoad1.mk _ (Rd.own 16 rfl rfl) ?_ | refine VLoad1.mk _ (Rd.own 17 rfl rfl) ?_ | refine VLoad1.mk _ (Rd.own 18 rfl rfl) ?_ | refine VLoad1.mk _ (Rd.own 19 rfl rfl) ?_ | refine VLoad1.mk _ (Rd.own 20 rfl rfl) ?_ | refine VLoad1.mk _ (Rd.own 21 rfl rfl) ?_ | refine VLoad1.mk _ (Rd.own 22 rfl rfl) ?_ | refine VLoad1.mk _ (Rd.own 23 rfl rfl) ?_ | refine VLoad1.mk _ (Rd.own 24 rfl rfl) ?_ | refine VLoad1.mk _ (Rd.row 0 rfl (by assumption)) ?_ | refine VLoad1.mk _ (Rd.row 1 rfl (by assumption)) ?_ | refine VLoad1.mk _ (Rd.row 2 rfl (by assumption)) ?_ | refine VLoad1.mk _ (Rd.row 3 rfl (by assumption)) ?_ | refine VLoad1.mk _ (Rd.old (by assumption) (fun h => h) (by assumption)) ?_) | (show VLoadN _ _ _ _ _ _; first | refine VLoadN.at_ (by assumption) rfl ?_ | refine VLoadN.own 0 rfl (Nat.le_of_ble_eq_true rfl) ?_ | refine VLoadN.own 1 rfl (Nat.le_of_ble_eq_true rfl) ?_ | refine VLoadN.own 2 rfl (Nat.le_of_ble_eq_true rfl) ?_ | refine VLoadN.own 3 rfl (Nat.le_of_ble_eq_true rfl) ?_ | refine VLoadN.own 4 rfl (Nat.le_of_ble_eq_true rfl) ?_ | refine VLoadN.own 5 rfl (Nat.le_of_ble_eq_true rfl) ?_ | refine VLoadN.own 6 rfl (Nat.le_of_ble_eq_true rfl) ?_ | refine VLoadN.own 7 rfl (Nat.le_of_ble_eq_true rfl) ?_ | refine VLoadN.own 8 rfl (Nat.le_of_ble_eq_true rfl) ?_ | refine VLoadN.own 9 rfl (Nat.le_of_ble_eq_true rfl) ?_ | refine VLoadN.own 10 rfl (Nat.le_of_ble_eq_true rfl) ?_ | refine VLoadN.own 11 rfl (Nat.le_of_ble_eq_true rfl) ?_ | refine VLoadN.own 12 rfl (Nat.le_of_ble_eq_true rfl) ?_ | refine VLoadN.own 13 rfl (Nat.le_of_ble_eq_true rfl) ?_ | refine VLoadN.own 14 rfl (Nat.le_of_ble_eq_true rfl) ?_ | refine VLoadN.own 15 rfl (Nat.le_of_ble_eq_true rfl) ?_ | refine VLoadN.own 16 rfl (Nat.le_of_ble_eq_true rfl) ?_ | refine VLoadN.own 17 rfl (Nat.le_of_ble_eq_true rfl) ?_ | refine VLoadN.own 18 rfl (Nat.le_of_ble_eq_true rfl) ?_ | refine VLoadN.own 19 rfl (Nat.le_of_ble_eq_true rfl) ?_ | refine VLoadN.own 20 rfl (Nat.le_of_ble_eq_true rfl) ?_ | refine VLoadN.own 21 rfl (Nat.le_of_ble_eq_true rfl) ?_ | refine VLoadN.own 22 rfl (Nat.le_of_ble_eq_true rfl) ?_ | refine VLoadN.own 23 rfl (Nat.le_of_ble_eq_true rfl) ?_ | refine VLoadN.own 24 rfl (Nat.le_of_ble_eq_true rfl) ?_) | (show VStore _ _ _ _ _ _; first | refine VStore.blk 0 rfl rfl rfl (Nat.le_of_ble_eq_true rfl) rfl ?_ | refine VStore.blk 1 rfl rfl rfl (Nat.le_of_ble_eq_true rfl) rfl ?_ | refine VStore.blk 2 rfl rfl rfl (Nat.le_of_ble_eq_true rfl) rfl ?_ | refine VStore.blk 3 rfl rfl rfl (Nat.le_of_ble_eq_true rfl) rfl ?_ | refine VStore.blk 4 rfl rfl rfl (Nat.le_of_ble_eq_true rfl) rfl ?_ | refine VStore.blk 5 rfl rfl rfl (Nat.le_of_ble_eq_true rfl) rfl ?_ | refine VStore.blk 6 rfl rfl rfl (Nat.le_of_ble_eq_true rfl) rfl ?_ | refine VStore.blk 7 rfl rfl rfl (Nat.le_of_ble_eq_true rfl) rfl ?_ | refine VStore.blk 8 rfl rfl rfl (Nat.le_of_ble_eq_true rfl) rfl ?_ | refine VStore.blk 9 rfl rfl rfl (Nat.le_of_ble_eq_true rfl) rfl ?_ | refine VStore.blk 10 rfl rfl rfl (Nat.le_of_ble_eq_true rfl) rfl ?_ | refine VStore.blk 11 rfl rfl rfl (Nat.le_of_ble_eq_true rfl) rfl ?_ | refine VStore.blk 12 rfl rfl rfl (Nat.le_of_ble_eq_true rfl) rfl ?_ | refine VStore.blk 13 rfl rfl rfl (Nat.le_of_ble_eq_true rfl) rfl ?_ | refine VStore.blk 14 rfl rfl rfl (Nat.le_of_ble_eq_true rfl) rfl ?_ | refine VStore.blk 15 rfl rfl rfl (Nat.le_of_ble_eq_true rfl) rfl ?_ | refine VStore.blk 16 rfl rfl rfl (Nat.le_of_ble_eq_true rfl) rfl ?_ | refine VStore.blk 17 rfl rfl rfl (Nat.le_of_ble_eq_true rfl) rfl ?_ | refine VStore.blk 18 rfl rfl rfl (Nat.le_of_ble_eq_true rfl) rfl ?_ | refine VStore.blk 19 rfl rfl rfl (Nat.le_of_ble_eq_true rfl) rfl ?_ | refine VStore.blk 20 rfl rfl rfl (Nat.le_of_ble_eq_true rfl) rfl ?_ | refine VStore.blk 21 rfl rfl rfl (Nat.le_of_ble_eq_true rfl) rfl ?_ | refine VStore.blk 22 rfl rfl rfl (Nat.le_of_ble_eq_true rfl) rfl ?_ | refine VStore.blk 23 rfl rfl rfl (Nat.le_of_ble_eq_true rfl) rfl ?_ | refine VStore.blk 24 rfl rfl rfl (Nat.le_of_ble_eq_true rfl) rfl ?_) | (show VIdx _ _ _ _ _ _ _; first | (refine VIdx.row 0 rfl _ rfl (by omega) ?_; intro gQ hA'; first | subst hA' | (cases hA') | (replace hA' := Option.some.inj hA'; cases hA')) | (refine VIdx.row 1 rfl _ rfl (by omega) ?_; intro gQ hA'; first | subst hA' | (cases hA') | (replace hA' := Option.some.inj hA'; cases hA')) | (refine VIdx.row 2 rfl _ rfl (by omega) ?_; intro gQ hA'; first | subst hA' | (cases hA') | (replace hA' := Option.some.inj hA'; cases hA')) | (refine VIdx.row 3 rfl _ rfl (by omega) ?_; intro gQ hA'; first | subst hA' | (cases hA') | (replace hA' := Option.some.inj hA'; cases hA')) | (refine VIdx.row 4 rfl _ rfl (by omega) ?_; intro gQ hA'; first | subst hA' | (cases hA') | (replace hA' := Option.some.inj hA'; cases hA')) | (refine VIdx.row 5 rfl _ rfl (by omega) ?_; intro gQ hA'; first | subst hA' | (cases hA') | (replace hA' := Option.some.inj hA'; cases hA')) | refine VIdx.at_ rfl _ rfl (by omega) ?_ | refine VIdx.at_ rfl _ (by assumption) (by omega) ?_ | refine VIdx.at_ rfl 0 rfl (by omega) ?_) | (show VQuo _ _ _; refine VQuo.nn (by omega) (by omega) (by omega) ?_) | (show VRem _ _ _; refine VRem.nn (by omega) (by omega) ?_) | (show VStrIx _ _ _; first | refine VStrIx.mk _ rfl (by omega) ?_ | refine VStrIx.mk _ (by assumption) (by omega) ?_) | (show VU64 _ _; refine VU64.mk (fun _ _ _ => ?_)) | (show VAnd64 _ _; refine VAnd64.mk (by omega) (fun _ _ _ => ?_)) | (show VShr64 _ _ _; refine VShr64.mk (by omega) (by omega) (fun _ _ _ => ?_)) | (show VCat _ _ _; refine VCat.mk (by omega) ?_) | (show VKeep _ _; refine VKeep.mk rfl ?_) | (show VDone _ _; refine VDone.same ?_) | (show _ ∧ True; refine And.intro ?_ trivial) | (show _ ∧ _; refine And.intro ?_ ?_) | intro _) | ((conv => whnf); (first | ((show VCall _ _ _ 22 _ _); refine VCall.grow _ (fun w1 m1 => toLog_v d0 w1) ?_) | ((show VCall _ _ _ 20 _ _); refine VCall.some _ _ (fun w1 m1 => szLog_v d0 _ w1 (by omega) (by omega) hs0_durable hs0_pending) (fun r hr => ?_)) | ((show VCall _ _ _ 24 _ _); refine VCall.grow _ (fun w1 m1 => hcs w1 (by omega) (by omega)) ?_) | ((show VCall _ _ _ 25 _ _); refine VCall.grow _ (fun w1 m1 => hci w1 (by omega) (by omega) (ht.on m1)) ?_)))))
  all_goals ((conv => whnf); refine VRet.mk fun w' m => ?_)
  all_goals exact ⟨rfl, m.keeps.below⟩
theorem spec_at {H : Type} (ds : List (DataW H)) (h : ds.length = [0, 0, 0].length) : Rows.fnExactCrashLogSpec.fn H (ds ++ []) = { results := [.lit (.bool true)], args := ds } := by
  match ds, h with
  | [_, _, _], _ => rfl
theorem contract (H : Type) (enc : TypeId × Value → H) (W : World) (base : Nat) (args : Array Value) (ds : List (DataW H)) (p : List MemPlace)
    (hval : ∀ (j : Nat) t v, Tryd.f6.params[j]? = some t → args[j]? = some v → Value.okWide Tryd.prog W .any base t v)
    (hA : DataW.TrodAll enc Tryd.prog W 0 (fun _ => true) true Tryd.f6.params.toList args.toList ds p) (hT : PTab W) : Calls Tryd.prog 6 args W (Post (.bool true) W) := by
  rw [Tryd.params6] at hA hval
  obtain ⟨v0, vs0, dd0, ds0, p0, q0, hargs, rfl, rfl, h0, r0⟩ := trodAll_cons hA
  obtain ⟨v1, vs1, dd1, ds1, p1, q1, rfl, rfl, rfl, h1, r1⟩ := trodAll_cons r0
  obtain ⟨v2, vs2, dd2, ds2, p2, q2, rfl, rfl, rfl, h2, r2⟩ := trodAll_cons r1
  obtain ⟨rfl, rfl, rfl⟩ := trodAll_nil r2
  obtain rfl : args = #[v0, v1, v2] := by cases args; simp_all
  obtain ⟨d0, rfl, hw0⟩ := openV_Lg (hval 0 _ v0 rfl rfl) h0
  obtain ⟨x1, rfl, hx1⟩ := openV_int Tryd.underlying3 (hval 1 _ v1 rfl rfl) h1
  obtain ⟨x2, rfl⟩ := openV_bool Tryd.underlying4 (hval 2 _ v2 rfl rfl) h2
  exact walk d0 x1 x2 W hw0 hx1 hT
set_option maxRecDepth 100000 in
theorem lifted (os : Os) (started : os.Started) (H : Type) (enc : TypeId × Value → H) :
    ReturnsInHanded {} Tryd.checked os 6 .any (fun w args => (Rows.fnExactCrashLogSpec.pre enc Tryd.prog Tryd.f6 Rows.fnExactCrashLogRow.domain false w args ∧ laidMetH Tryd.prog Rows.fnExactCrashLogRow.laid w) ∧ sizedMet enc Tryd.prog Tryd.f6 (OpenSpec.ofChange Rows.fnExactCrashLogSpec) false w args) (Rows.fnExactCrashLogSpec.post enc Tryd.prog Tryd.f6 false true false false) :=
  law_lift_laid (C := Tryd.checked) (tb := 4) own started (by kernel_rfl) Tryd.func6
    (ChangeSpec.witness_at (enc := enc) (C := Tryd.checked) (os := os) (X := fun w _ => laidMetH Tryd.prog Rows.fnExactCrashLogRow.laid w) false (laidWorld os) #[.agg #[.string ByteArray.empty, .string ByteArray.empty, .int .i64 0], .int .i64 0, .bool false] 8 rfl (by kernel_rfl) (by kernel_rfl) (by kernel_rfl) (by kernel_rfl) (by kernel_rfl) (laid_met os _))
    rfl (fun ds h => by rw [show Tryd.f6.params.size = [0, 0, 0].length from by kernel_rfl] at h; exact spec_at ds h) (by kernel_rfl) Tryd.underlying4 (by kernel_rfl) (by kernel_rfl) (fun W base args ds p hval hA hL => contract H enc W base args ds p hval hA (pow_is hL))
theorem over : Rows.fnExactCrashLogRow.holds Tryd.pinned (OpenSpec.ofChange Rows.fnExactCrashLogSpec) :=
  OpenClaim.holds_of_wide 6 Tryd.f6 rfl rfl rfl rfl rfl rfl rfl ⟨rfl, rfl, rfl, rfl, rfl⟩ rfl rfl rfl rfl rfl (by kernel_rfl) Tryd.func6 (by kernel_rfl)
    (of_decide_eq_true (by kernel_rfl)) (by unfold Func.isWrapper; first | (rw [if_pos (by decide +kernel)]; kernel_rfl) | (rw [if_neg (by decide +kernel)]; exact ⟨rfl, rfl⟩))
    (fun os started H enc _ => lifted os started H enc)
theorem noStand : (Tryd.f6.params.toList.all fun t => !Tryd.prog.wantsStandIn t) = true := by kernel_rfl
theorem proved : Rows.FnExactCrashLogCardSaid :=
  Claim7.holds_tied_plain_at .later [] [.data, .data, .data] true Rows.fnExactCrashLogCard.stood.harness false over (fun _ h => by cases h) (by kernel_rfl) (fun _ h => by cases h) fnExactCrashLog_row_tie rfl ⟨rfl, rfl⟩ (by kernel_rfl) rfl
    (fun f fn hf hfn => by
      obtain rfl : f = 6 := Option.some.inj ((show Tryd.prog.funcNamed "loop.example/g00924/laws.FnExactCrashLog" = some 6 by kernel_rfl).symm.trans hf) |>.symm
      obtain rfl : fn = Tryd.f6 := (Option.some.inj (Tryd.func6.symm.trans hfn)).symm
      exact ⟨by kernel_rfl, fun j t ht => by
        have := List.all_eq_true.1 noStand t (by simpa using Array.mem_of_getElem? ht)
        have h2 : Tryd.prog.wantsStandIn t = false := by simpa using this
        exact h2⟩)
    (by kernel_rfl)
end Go.Proofs.YtdikkjpmmbjclaaDoor.lawCrashLog
