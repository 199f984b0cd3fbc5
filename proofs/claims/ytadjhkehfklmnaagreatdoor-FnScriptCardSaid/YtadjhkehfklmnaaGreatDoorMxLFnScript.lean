/-
  Running the first line of a script alone yields the first reply of the script.
  Conditions: none: every input that can be read as data.
-/
import Derived.Test.YtadjhkehfklmnaaGreatDoorMxWFnScript
namespace Go.Proofs.YtadjhkehfklmnaaGreatDoor.lawFnScript
set_option linter.unusedSimpArgs false
set_option linter.unusedVariables false
open Go.ChangeShapes Go.WideShapes Go.ChangeAt Go.RowKit
set_option maxRecDepth 20000
theorem own : ownKnob Tryz.prog.godebug = none := by kernel_rfl
theorem spec_at {H : Type} (ds : List (DataW H)) (h : ds.length = [0].length) : Rows.fnScriptSpec.fn H (ds ++ []) = { results := [.lit (.bool true)], args := ds } := by
  match ds, h with
  | [_], _ => rfl
theorem contract (H : Type) (enc : TypeId × Value → H) (W : World) (base : Nat) (args : Array Value) (ds : List (DataW H)) (p : List MemPlace)
    (hval : ∀ (j : Nat) t v, Tryz.f4.params[j]? = some t → args[j]? = some v → Value.okWide Tryz.prog W .any base t v)
    (hA : DataW.TrodAll enc Tryz.prog W 0 (fun _ => true) true Tryz.f4.params.toList args.toList ds p) (hT : PT2 W) : Calls Tryz.prog 4 args W (Post (.bool true) W) := by
  rw [Tryz.params4] at hA hval
  obtain ⟨v0, vs0, dd0, ds0, p0, q0, hargs, rfl, rfl, h0, r0⟩ := trodAll_cons hA
  obtain ⟨rfl, rfl, rfl⟩ := trodAll_nil r0
  obtain rfl : args = #[v0] := by cases args; simp_all
  obtain ⟨A0, l0, c0, rfl, hn0, hs0⟩ := openV_YS (hval 0 _ v0 rfl rfl) h0
  exact walk A0 l0 c0 W hn0 hs0 hT
set_option maxRecDepth 100000 in
theorem lifted (os : Os) (started : os.Started) (H : Type) (enc : TypeId × Value → H) :
    ReturnsInHanded {} Tryz.checked os 4 .any (fun w args => (Rows.fnScriptSpec.pre enc Tryz.prog Tryz.f4 Rows.fnScriptRow.domain false w args ∧ laidMetH Tryz.prog Rows.fnScriptRow.laid w) ∧ sizedMet enc Tryz.prog Tryz.f4 (OpenSpec.ofChange Rows.fnScriptSpec) false w args) (Rows.fnScriptSpec.post enc Tryz.prog Tryz.f4 false true false false) :=
  law_lift_shaped (C := Tryz.checked) (tb := 4) own started (by kernel_rfl) Tryz.func4
    (ChangeSpec.witness_shaped (enc := enc) (C := Tryz.checked) (os := os) (X := fun w _ => laidMetH Tryz.prog Rows.fnScriptRow.laid w) false (laidWorld os) #[.slice none 0 0] 8 rfl (World.shaped_of_RefB (by kernel_rfl) (by kernel_rfl)) (by kernel_rfl) (by kernel_rfl) (by kernel_rfl) (laid_met os _))
    rfl (fun ds h => by rw [show Tryz.f4.params.size = [0].length from by kernel_rfl] at h; exact spec_at ds h) (by kernel_rfl) Tryz.underlying4 (by kernel_rfl) (by kernel_rfl) (fun W base args ds p hval hA hL hsh => contract H enc W base args ds p hval hA (pt2_is hL hsh))
theorem j1 : (Rows.fnScriptRow.wf (OpenSpec.ofChange Rows.fnScriptSpec) && laidOutB Tryz.prog && mapsRowed Tryz.prog) = true := by kernel_rfl
theorem j2 : (Tryz.f4.params.all (Tryz.prog.readableRec ·) && namedTie Tryz.prog Rows.fnScriptRow.named Rows.fnScriptSpec.vars && (Rows.fnScriptRow.stops == []) && (Tryz.prog.stops == []) && (Rows.fnScriptRow.knobs == []) && (Tryz.prog.stopKnobs == [])) = true := by kernel_rfl
theorem j3 : (Rows.fnScriptRow.inPlace == Tryz.prog.inPlace 4) = true := by kernel_rfl
theorem j4 : (Rows.fnScriptRow.unfollowed == Tryz.prog.unfollowed 4) = true := by kernel_rfl
theorem j5 : (Rows.fnScriptRow.recurses == Tryz.prog.recurses 4) = true := by kernel_rfl
theorem j6 : (Rows.fnScriptRow.named == Tryz.prog.varsNamed 4) = true := by kernel_rfl
theorem j7 : ((Rows.fnScriptRow.maps == (Tryz.f4.params.toList ++ Rows.fnScriptSpec.plain.varTypes Tryz.prog).any (Tryz.prog.mapsRec ·)) && (Rows.fnScriptRow.ifaces == (Tryz.f4.params.toList ++ Rows.fnScriptSpec.plain.varTypes Tryz.prog).any (Tryz.prog.ifacesRec ·)) && (Rows.fnScriptRow.mapsOut == Tryz.prog.mapsAmong Tryz.f4.resultTypes.toList) &&
      (Rows.fnScriptRow.loops == (Tryz.f4.params.toList ++ Rows.fnScriptSpec.plain.varTypes Tryz.prog).any (Tryz.prog.loopsFrom ·)) && (Rows.fnScriptRow.wideKeys == (Tryz.f4.params.toList ++ Rows.fnScriptSpec.plain.varTypes Tryz.prog ++ Tryz.f4.resultTypes.toList).any (Tryz.prog.wideKeysFrom ·)) &&
      Rows.fnScriptSpec.vars.all (Tryz.prog.varReadable ·) && Tryz.f4.resultTypes.all (fun t => Tryz.prog.readableRec t && decide (t < Tryz.prog.types.size)) && (Rows.fnScriptRow.ifacesOut == Tryz.f4.resultTypes.toList.any (Tryz.prog.ifacesRec ·)) && (Rows.fnScriptRow.loopsOut == Tryz.f4.resultTypes.toList.any (Tryz.prog.loopsFrom ·))) = true := by kernel_rfl
theorem j8 : ((Rows.fnScriptRow.plainKeys == Tryz.prog.plainKeys) && Rows.fnScriptRow.shortTexts.isNone && Tryz.prog.stopsHeard && Tryz.prog.mayEnter) = true := by kernel_rfl
theorem j9 : ((Rows.fnScriptRow.lifted == Tryz.prog.liftsFinal) && (Tryz.prog.make == some Rows.fnScriptRow.make)) = true := by kernel_rfl
theorem j10 : ((Rows.fnScriptRow.kinds == (if Rows.fnScriptRow.domain.isEmpty then [] else Tryz.f4.params.toList.map fun t => match Tryz.prog.underlying t with | some (.int k) => some k | _ => none)) && (Rows.fnScriptRow.pinned == Rows.fnScriptRow.pinnedBy) &&
      (Rows.fnScriptRow.veiled == (Tryz.f4.params.toList ++ Rows.fnScriptSpec.plain.varTypes Tryz.prog ++ Tryz.f4.resultTypes.toList).any (Tryz.prog.veiledRec ·)) && Rows.fnScriptRow.veiledFits Tryz.prog Tryz.f4.params.toList (Tryz.f4.params.toList ++ Rows.fnScriptSpec.plain.varTypes Tryz.prog ++ Tryz.f4.resultTypes.toList)) = true := by kernel_rfl
theorem over : Rows.fnScriptRow.holds Tryz.pinned (OpenSpec.ofChange Rows.fnScriptSpec) :=
  OpenClaim.holds_of_wide 4 Tryz.f4 rfl rfl rfl rfl rfl rfl rfl ⟨rfl, rfl, rfl, rfl, rfl⟩ rfl rfl rfl rfl rfl (by kernel_rfl) Tryz.func4 (joined_parts j1 j2 j3 j4 j5 j6 j7 j8 j9 j10)
    (of_decide_eq_true (by kernel_rfl)) (by unfold Func.isWrapper; first | (rw [if_pos (by decide +kernel)]; kernel_rfl) | (rw [if_neg (by decide +kernel)]; exact ⟨rfl, rfl⟩))
    (fun os started H enc _ => lifted os started H enc)
theorem noStand : (Tryz.f4.params.toList.all fun t => !Tryz.prog.wantsStandIn t) = true := by kernel_rfl
theorem proved : Rows.FnScriptCardSaid :=
  Claim7.holds_tied_plain_at .later [] [.data, .data, .data, .data, .sentinel, .sentinel, .pinned] true Rows.fnScriptCard.stood.harness true over (fun _ h => by cases h) (by kernel_rfl) (fun _ h => by cases h) fnScript_row_tie rfl ⟨rfl, rfl⟩ (by kernel_rfl) rfl
    (fun f fn hf hfn => by
      obtain rfl : f = 4 := Option.some.inj ((show Tryz.prog.funcNamed "loop.example/g00924/laws.FnScript" = some 4 by kernel_rfl).symm.trans hf) |>.symm
      obtain rfl : fn = Tryz.f4 := (Option.some.inj (Tryz.func4.symm.trans hfn)).symm
      exact ⟨by kernel_rfl, fun j t ht => by
        have := List.all_eq_true.1 noStand t (by simpa using Array.mem_of_getElem? ht)
        have h2 : Tryz.prog.wantsStandIn t = false := by simpa using this
        exact h2⟩)
    (by kernel_rfl)
end Go.Proofs.YtadjhkehfklmnaaGreatDoor.lawFnScript
