/-
  The program's FormatConsole answers as the reference's does, for all arguments, and leaves its arguments alone.
  Conditions: none: every input that can be read as data.
-/
import Derived.Test.YtadjhkehfklmnaaDoorKF
import Derived.Test.YtadjhkehfklmnaaDoorLd
namespace Go.Proofs.YtadjhkehfklmnaaDoor.lawFormatConsole
set_option linter.unusedSimpArgs false
set_option linter.unusedVariables false
open Go.ChangeShapes Go.WideShapes Go.ChangeAt Go.RowKit
set_option maxRecDepth 20000
theorem own : ownKnob Tryd.prog.godebug = none := by kernel_rfl
set_option maxHeartbeats 4000000 in
theorem walk (A0_0 : Option Addr) (c0_0 : Nat) (A0_1 : Option Addr) (c0_1 : Nat) (d0 : Co) (w : World) (hn0_0 : d0.n ≤ 9223372036854775807) (hn0_1 : d0.m ≤ 9223372036854775807) (hA0_0 : Seen w A0_0 (BaS d0.n d0.ba)) (hA0_1 : Seen w A0_1 (AwS d0.m d0.wa)) (hw0 : d0.wf) (ht : PTab w) :
    Calls Tryd.prog 4 #[.agg (d0.at A0_0 c0_0 A0_1 c0_1).toArray] w (Post (.bool true) w) := by
  have hs0_d : d0.log.durable.size ≤ 9223372036854775807 := by have := hw0.2.2.2; unfold Lg.wf maxLen at this; omega
  have hs0_p : d0.log.pending.size ≤ 9223372036854775807 := by have := hw0.2.2.2; unfold Lg.wf maxLen at this; omega
  have hcs := fun A c B e w h1 h2 h3 h4 h5 h6 => sFmt_v A B c e d0 w h1 h2 h3 h4 h5 h6
  have hci := fun A c B e w h1 h2 h3 h4 h5 h6 h7 => iFmt_v A B c e d0 w h1 h2 h3 h4 h5 h6 h7
  generalize fmtV d0 = fm at hcs hci
  refine post_of_vc ?_
  refine calls_of_vc tb_ok (args := [.agg (d0.at A0_0 c0_0 A0_1 c0_1).toArray]) Tryd.func4 rfl ?_
  (repeat' (first | ((conv => whnf); first | (show VIf _ _ _; first | refine VIf.mk (fun _ => ?_) (fun h => absurd rfl h) | refine VIf.mk (fun h => Bool.noConfusion h) (fun _ => ?_) | refine VIf.mk (fun _ => ?_) (fun h => absurd (by assumption) h) | refine VIf.mk (fun h => absurd h (by assumption)) (fun _ => ?_) | refine VIf.mk (fun _ => ?_) (fun h => absurd (by omega) h) | refine VIf.mk (fun h => absurd h (by omega)) (fun _ => ?_) | refine VIf.mk (fun _ => ?_) (fun _ => ?_)) | (show VIn _ _; refine VIn.mk (by omega) (by omega) ?_) | (show VLoad1 _ _ _ _ _; first | (apply VLoad1.any; (focus ((repeat (first | exact Has.here rfl | exact Has.row (by assumption) | apply Has.there)); done))) | refine VLoad1.mk _ (Rd.old (by assumption) (fun h => h) (by assumption)) ?_) | (show VLoadN _ _ _ _ _ _; first | refine VLoadN.at_ (by assumption) rfl ?_ | (apply VLoadN.any; (focus ((repeat (first | exact At.here | apply At.there)); done)); (focus (exact Nat.le_of_ble_eq_true rfl)))) | (show VStore _ _ _ _ _ _; (apply VStore.any; (focus ((repeat (first | exact At.here | apply At.there)); done)); refine VStoreAt.mk rfl rfl (Nat.le_of_ble_eq_true rfl) rfl ?_)) | (show VIdx _ _ _ _ _ _ _; first | (apply VIdx.any; (focus ((repeat (first | exact At.here | apply At.there)); done)); (first | refine VIdxR.mk _ rfl (by omega) ?_ | refine VIdxR.mk _ (by assumption) (by omega) ?_); intro gQ hA'; first | subst hA' | (cases hA') | (replace hA' := Option.some.inj hA'; cases hA') | (dsimp only at hA'; subst hA')) | refine VIdx.at_ rfl _ rfl (by omega) ?_ | refine VIdx.at_ rfl _ (by assumption) (by omega) ?_ | refine VIdx.at_ rfl 0 rfl (by omega) ?_) | (show VQuo _ _ _; refine VQuo.nn (by omega) (by omega) (by omega) ?_) | (show VRem _ _ _; refine VRem.nn (by omega) (by omega) ?_) | (show VStrIx _ _ _; first | refine VStrIx.mk _ rfl (by omega) ?_ | refine VStrIx.mk _ (by assumption) (by omega) ?_) | (show VU64 _ _; refine VU64.mk (fun _ _ _ => ?_)) | (show VAnd64 _ _; refine VAnd64.mk (by omega) (fun _ _ _ => ?_)) | (show VShr64 _ _ _; refine VShr64.mk (by omega) (by omega) (fun _ _ _ => ?_)) | (show VCat _ _ _; refine VCat.mk (by omega) ?_) | (show VKeep _ _; refine VKeep.mk rfl ?_) | (show VDone _ _; refine VDone.same ?_) | (show _ ∧ True; refine And.intro ?_ trivial) | (show _ ∧ _; refine And.intro ?_ ?_) | intro _) | ((conv => whnf); (first | ((show VCall _ _ _ 5 _ _); refine VCall.some _ _ (fun w1 m1 => szConsole_v A0_0 c0_0 A0_1 c0_1 d0 _ w1 hn0_0 hn0_1 hs0_d hs0_p (by omega) (by omega)) (fun r hr => ?_)) | ((show VCall _ _ _ 7 _ _); refine VCall.ret (fun w1 m1 => toConsole_v A0_0 c0_0 A0_1 c0_1 d0 w1 (by omega) (by omega) (by first | exact Sees.old (by assumption) _ (by assumption) | exact Sees.any (by assumption) (by repeat (first | exact At.here | apply At.there)) | exact Sees.nil _ (by assumption)) (by first | exact Sees.old (by assumption) _ (by assumption) | exact Sees.any (by assumption) (by repeat (first | exact At.here | apply At.there)) | exact Sees.nil _ (by assumption))) (fun g _ => ?_); obtain ⟨g1, g2⟩ := g) | ((show VCall _ _ _ 9 [.agg (Co.at d0 _ _ _ _).toArray, _] _); refine VCall.grow _ (fun w1 m1 => eqConsole_v _ _ _ _ _ _ _ _ d0 w1 (by omega) (by omega) (by first | exact Sees.old (by assumption) _ (by assumption) | exact Sees.any (by assumption) (by repeat (first | exact At.here | apply At.there)) | exact Sees.nil _ (by assumption)) (by first | exact Sees.old (by assumption) _ (by assumption) | exact Sees.any (by assumption) (by repeat (first | exact At.here | apply At.there)) | exact Sees.nil _ (by assumption)) (by first | exact Sees.old (by assumption) _ (by assumption) | exact Sees.any (by assumption) (by repeat (first | exact At.here | apply At.there)) | exact Sees.nil _ (by assumption)) (by first | exact Sees.old (by assumption) _ (by assumption) | exact Sees.any (by assumption) (by repeat (first | exact At.here | apply At.there)) | exact Sees.nil _ (by assumption))) ?_)                      | ((show VCall _ _ _ 10 _ _); refine VCall.grow _ (fun w1 m1 => hcs _ _ _ _ w1 (by omega) (by omega) (by omega) (by omega) (by first | exact Sees.old (by assumption) _ (by assumption) | exact Sees.any (by assumption) (by repeat (first | exact At.here | apply At.there)) | exact Sees.nil _ (by assumption)) (by first | exact Sees.old (by assumption) _ (by assumption) | exact Sees.any (by assumption) (by repeat (first | exact At.here | apply At.there)) | exact Sees.nil _ (by assumption))) ?_) | ((show VCall _ _ _ 11 _ _); refine VCall.grow _ (fun w1 m1 => hci _ _ _ _ w1 (by omega) (by omega) (by omega) (by omega) (ht.on m1) (by first | exact Sees.old (by assumption) _ (by assumption) | exact Sees.any (by assumption) (by repeat (first | exact At.here | apply At.there)) | exact Sees.nil _ (by assumption)) (by first | exact Sees.old (by assumption) _ (by assumption) | exact Sees.any (by assumption) (by repeat (first | exact At.here | apply At.there)) | exact Sees.nil _ (by assumption))) ?_) | ((show VDraw _ _ _ _ _ _); refine VDraw.mk (.take 0 (.take 1 (.br 2 (.br 3 (.take 4 .done) .done) .done))) [0, 1, 2, 3, 4, 5] (by kernel_rfl) (by kernel_rfl) ?_)))))
  all_goals ((conv => whnf); refine VRet.mk fun w' m => ?_)
  all_goals exact ⟨rfl, m.keeps.below⟩
theorem spec_at {H : Type} (ds : List (DataW H)) (h : ds.length = [0].length) : Rows.fnExactFormatConsoleSpec.fn H (ds ++ []) = { results := [.lit (.bool true)], args := ds } := by
  match ds, h with
  | [_], _ => rfl
theorem contract (H : Type) (enc : TypeId × Value → H) (W : World) (base : Nat) (args : Array Value) (ds : List (DataW H)) (p : List MemPlace)
    (hval : ∀ (j : Nat) t v, Tryd.f4.params[j]? = some t → args[j]? = some v → Value.okWide Tryd.prog W .any base t v)
    (hA : DataW.TrodAll enc Tryd.prog W 0 (fun _ => true) true Tryd.f4.params.toList args.toList ds p) (hT : PTab W) : Calls Tryd.prog 4 args W (Post (.bool true) W) := by
  rw [Tryd.params4] at hA hval
  obtain ⟨v0, vs0, dd0, ds0, p0, q0, hargs, rfl, rfl, h0, r0⟩ := trodAll_cons hA
  obtain ⟨rfl, rfl, rfl⟩ := trodAll_nil r0
  obtain rfl : args = #[v0] := by cases args; simp_all
  obtain ⟨A0_0, c0_0, A0_1, c0_1, d0, rfl, hn0_0, hn0_1, hA0_0, hA0_1, hw0⟩ := openV_Co (hval 0 _ v0 rfl rfl) h0
  exact walk A0_0 c0_0 A0_1 c0_1 d0 W hn0_0 hn0_1 hA0_0 hA0_1 hw0 hT
set_option maxRecDepth 100000 in
theorem lifted (os : Os) (started : os.Started) (H : Type) (enc : TypeId × Value → H) :
    ReturnsInHanded {} Tryd.checked os 4 .any (fun w args => (Rows.fnExactFormatConsoleSpec.pre enc Tryd.prog Tryd.f4 Rows.fnExactFormatConsoleRow.domain false w args ∧ laidMetH Tryd.prog Rows.fnExactFormatConsoleRow.laid w) ∧ sizedMet enc Tryd.prog Tryd.f4 (OpenSpec.ofChange Rows.fnExactFormatConsoleSpec) false w args) (Rows.fnExactFormatConsoleSpec.post enc Tryd.prog Tryd.f4 false true false false) :=
  law_lift_laid (C := Tryd.checked) (tb := 4) own started (by kernel_rfl) Tryd.func4
    (ChangeSpec.witness_at (enc := enc) (C := Tryd.checked) (os := os) (X := fun w _ => laidMetH Tryd.prog Rows.fnExactFormatConsoleRow.laid w) false (laidWorld os) #[.agg #[.int .i64 0, .int .i64 0, .int .i64 0, .bool false, .bool false, .bool false, .bool false, .slice none 0 0, .slice none 0 0, .string ByteArray.empty, .string ByteArray.empty, .int .i64 0]] 8 rfl (by kernel_rfl) (by kernel_rfl) (by kernel_rfl) (by kernel_rfl) (by kernel_rfl) (laid_met os _))
    rfl (fun ds h => by rw [show Tryd.f4.params.size = [0].length from by kernel_rfl] at h; exact spec_at ds h) (by kernel_rfl) Tryd.underlying4 (by kernel_rfl) (by kernel_rfl) (fun W base args ds p hval hA hL => contract H enc W base args ds p hval hA (pow_is hL))
theorem over : Rows.fnExactFormatConsoleRow.holds Tryd.pinned (OpenSpec.ofChange Rows.fnExactFormatConsoleSpec) :=
  OpenClaim.holds_of_wide 4 Tryd.f4 rfl rfl rfl rfl rfl rfl rfl ⟨rfl, rfl, rfl, rfl, rfl⟩ rfl rfl rfl rfl rfl (by kernel_rfl) Tryd.func4 (by kernel_rfl)
    (of_decide_eq_true (by kernel_rfl)) (by unfold Func.isWrapper; first | (rw [if_pos (by decide +kernel)]; kernel_rfl) | (rw [if_neg (by decide +kernel)]; exact ⟨rfl, rfl⟩))
    (fun os started H enc _ => lifted os started H enc)
theorem noStand : (Tryd.f4.params.toList.all fun t => !Tryd.prog.wantsStandIn t) = true := by kernel_rfl
theorem proved : Rows.FnExactFormatConsoleCardSaid :=
  Claim7.holds_tied_plain_at .later [] [.data, .data, .data] true Rows.fnExactFormatConsoleCard.stood.harness false over (fun _ h => by cases h) (by kernel_rfl) (fun _ h => by cases h) fnExactFormatConsole_row_tie rfl ⟨rfl, rfl⟩ (by kernel_rfl) rfl
    (fun f fn hf hfn => by
      obtain rfl : f = 4 := Option.some.inj ((show Tryd.prog.funcNamed "loop.example/g00924/laws.FnExactFormatConsole" = some 4 by kernel_rfl).symm.trans hf) |>.symm
      obtain rfl : fn = Tryd.f4 := (Option.some.inj (Tryd.func4.symm.trans hfn)).symm
      exact ⟨by kernel_rfl, fun j t ht => by
        have := List.all_eq_true.1 noStand t (by simpa using Array.mem_of_getElem? ht)
        have h2 : Tryd.prog.wantsStandIn t = false := by simpa using this
        exact h2⟩)
    (by kernel_rfl)
end Go.Proofs.YtadjhkehfklmnaaDoor.lawFormatConsole
