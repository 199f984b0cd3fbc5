/-
  The log of a console, and every recovered prefix of it, replays without a difference.
  Conditions: none: every input that can be read as data.
-/
import Derived.Test.YtadjhkehfklmnaaGreatDoorMxWFnReplay
namespace Go.Proofs.YtadjhkehfklmnaaGreatDoor.lawFnReplay
set_option linter.unusedSimpArgs false
set_option linter.unusedVariables false
open Go.ChangeShapes Go.WideShapes Go.ChangeAt Go.RowKit
set_option maxRecDepth 20000
theorem own : ownKnob Tryz.prog.godebug = none := by kernel_rfl
theorem spec_at {H : Type} (ds : List (DataW H)) (h : ds.length = [0].length) : Rows.fnReplaySpec.fn H (ds ++ []) = { results := [.lit (.bool true)], args := ds } := by
  match ds, h with
  | [_], _ => rfl
theorem contract (H : Type) (enc : TypeId × Value → H) (W : World) (base : Nat) (args : Array Value) (ds : List (DataW H)) (p : List MemPlace)
    (hval : ∀ (j : Nat) t v, Tryz.f5.params[j]? = some t → args[j]? = some v → Value.okWide Tryz.prog W .any base t v)
    (hA : DataW.TrodAll enc Tryz.prog W 0 (fun _ => true) true Tryz.f5.params.toList args.toList ds p) (hT : PT2 W) : Calls Tryz.prog 5 args W (Post (.bool true) W) := by
  rw [Tryz.params5] at hA hval
  obtain ⟨v0, vs0, dd0, ds0, p0, q0, hargs, rfl, rfl, h0, r0⟩ := trodAll_cons hA
  obtain ⟨rfl, rfl, rfl⟩ := trodAll_nil r0
  obtain rfl : args = #[v0] := by cases args; simp_all
  obtain ⟨A0, l0, c0, rfl, hn0, hs0⟩ := openV_YS (hval 0 _ v0 rfl rfl) h0
  exact walk A0 l0 c0 W hn0 hs0 hT
set_option maxRecDepth 100000 in
theorem lifted (os : Os) (started : os.Started) (H : Type) (enc : TypeId × Value → H) :
    ReturnsInHanded {} Tryz.checked os 5 .any (fun w args => (Rows.fnReplaySpec.pre enc Tryz.prog Tryz.f5 Rows.fnReplayRow.domain false w args ∧ laidMetH Tryz.prog Rows.fnReplayRow.laid w) ∧ sizedMet enc Tryz.prog Tryz.f5 (OpenSpec.ofChange Rows.fnReplaySpec) false w args) (Rows.fnReplaySpec.post enc Tryz.prog Tryz.f5 false true false false) :=
  law_lift_shaped (C := Tryz.checked) (tb := 4) own started (by kernel_rfl) Tryz.func5
    (ChangeSpec.witness_shaped (enc := enc) (C := Tryz.checked) (os := os) (X := fun w _ => laidMetH Tryz.prog Rows.fnReplayRow.laid w) false (laidWorld os) #[.slice none 0 0] 8 rfl (World.shaped_of_RefB (by kernel_rfl) (by kernel_rfl)) (by kernel_rfl) (by kernel_rfl) (by kernel_rfl) (laid_met os _))
    rfl (fun ds h => by rw [show Tryz.f5.params.size = [0].length from by kernel_rfl] at h; exact spec_at ds h) (by kernel_rfl) Tryz.underlying4 (by kernel_rfl) (by kernel_rfl) (fun W base args ds p hval hA hL hsh => contract H enc W base args ds p hval hA (pt2_is hL hsh))
theorem j1 : (Rows.fnReplayRow.wf (OpenSpec.ofChange Rows.fnReplaySpec) && laidOutB Tryz.prog && mapsRowed Tryz.prog) = true := by kernel_rfl
theorem j2 : (Tryz.f5.params.all (Tryz.prog.readableRec ·) && namedTie Tryz.prog Rows.fnReplayRow.named Rows.fnReplaySpec.vars && (Rows.fnReplayRow.stops == []) && (Tryz.prog.stops == []) && (Rows.fnReplayRow.knobs == []) && (Tryz.prog.stopKnobs == [])) = true := by kernel_rfl
theorem j3 : (Rows.fnReplayRow.inPlace == Tryz.prog.inPlace 5) = true := by kernel_rfl
theorem j4 : (Rows.fnReplayRow.unfollowed == Tryz.prog.unfollowed 5) = true := by kernel_rfl
theorem j5 : (Rows.fnReplayRow.recurses == Tryz.prog.recurses 5) = true := by kernel_rfl
theorem j6 : (Rows.fnReplayRow.named == Tryz.prog.varsNamed 5) = true := by kernel_rfl
theorem j7 : ((Rows.fnReplayRow.maps == (Tryz.f5.params.toList ++ Rows.fnReplaySpec.plain.varTypes Tryz.prog).any (Tryz.prog.mapsRec ·)) && (Rows.fnReplayRow.ifaces == (Tryz.f5.params.toList ++ Rows.fnReplaySpec.plain.varTypes Tryz.prog).any (Tryz.prog.ifacesRec ·)) && (Rows.fnReplayRow.mapsOut == Tryz.prog.mapsAmong Tryz.f5.resultTypes.toList) &&
      (Rows.fnReplayRow.loops == (Tryz.f5.params.toList ++ Rows.fnReplaySpec.plain.varTypes Tryz.prog).any (Tryz.prog.loopsFrom ·)) && (Rows.fnReplayRow.wideKeys == (Tryz.f5.params.toList ++ Rows.fnReplaySpec.plain.varTypes Tryz.prog ++ Tryz.f5.resultTypes.toList).any (Tryz.prog.wideKeysFrom ·)) &&
      Rows.fnReplaySpec.vars.all (Tryz.prog.varReadable ·) && Tryz.f5.resultTypes.all (fun t => Tryz.prog.readableRec t && decide (t < Tryz.prog.types.size)) && (Rows.fnReplayRow.ifacesOut == Tryz.f5.resultTypes.toList.any (Tryz.prog.ifacesRec ·)) && (Rows.fnReplayRow.loopsOut == Tryz.f5.resultTypes.toList.any (Tryz.prog.loopsFrom ·))) = true := by kernel_rfl
theorem j8 : ((Rows.fnReplayRow.plainKeys == Tryz.prog.plainKeys) && Rows.fnReplayRow.shortTexts.isNone && Tryz.prog.stopsHeard && Tryz.prog.mayEnter) = true := by kernel_rfl
theorem j9 : ((Rows.fnReplayRow.lifted == Tryz.prog.liftsFinal) && (Tryz.prog.make == some Rows.fnReplayRow.make)) = true := by kernel_rfl
theorem j10 : ((Rows.fnReplayRow.kinds == (if Rows.fnReplayRow.domain.isEmpty then [] else Tryz.f5.params.toList.map fun t => match Tryz.prog.underlying t with | some (.int k) => some k | _ => none)) && (Rows.fnReplayRow.pinned == Rows.fnReplayRow.pinnedBy) &&
      (Rows.fnReplayRow.veiled == (Tryz.f5.params.toList ++ Rows.fnReplaySpec.plain.varTypes Tryz.prog ++ Tryz.f5.resultTypes.toList).any (Tryz.prog.veiledRec ·)) && Rows.fnReplayRow.veiledFits Tryz.prog Tryz.f5.params.toList (Tryz.f5.params.toList ++ Rows.fnReplaySpec.plain.varTypes Tryz.prog ++ Tryz.f5.resultTypes.toList)) = true := by kernel_rfl
theorem over : Rows.fnReplayRow.holds Tryz.pinned (OpenSpec.ofChange Rows.fnReplaySpec) :=
  OpenClaim.holds_of_wide 5 Tryz.f5 rfl rfl rfl rfl rfl rfl rfl ⟨rfl, rfl, rfl, rfl, rfl⟩ rfl rfl rfl rfl rfl (by kernel_rfl) Tryz.func5 (joined_parts j1 j2 j3 j4 j5 j6 j7 j8 j9 j10)
    (of_decide_eq_true (by kernel_rfl)) (by unfold Func.isWrapper; first | (rw [if_pos (by decide +kernel)]; kernel_rfl) | (rw [if_neg (by decide +kernel)]; exact ⟨rfl, rfl⟩))
    (fun os started H enc _ => lifted os started H enc)
theorem noStand : (Tryz.f5.params.toList.all fun t => !Tryz.prog.wantsStandIn t) = true := by kernel_rfl
theorem proved : Rows.FnReplayCardSaid :=
  Claim7.holds_tied_plain_at .later [] [.data, .data, .data, .data, .sentinel, .sentinel, .pinned] true Rows.fnReplayCard.stood.harness true over (fun _ h => by cases h) (by kernel_rfl) (fun _ h => by cases h) fnReplay_row_tie rfl ⟨rfl, rfl⟩ (by kernel_rfl) rfl
    (fun f fn hf hfn => by
      obtain rfl : f = 5 := Option.some.inj ((show Tryz.prog.funcNamed "loop.example/g00924/laws.FnReplay" = some 5 by kernel_rfl).symm.trans hf) |>.symm
      obtain rfl : fn = Tryz.f5 := (Option.some.inj (Tryz.func5.symm.trans hfn)).symm
      exact ⟨by kernel_rfl, fun j t ht => by
        have := List.all_eq_true.1 noStand t (by simpa using Array.mem_of_getElem? ht)
        have h2 : Tryz.prog.wantsStandIn t = false := by simpa using this
        exact h2⟩)
    (by kernel_rfl)
end Go.Proofs.YtadjhkehfklmnaaGreatDoor.lawFnReplay
