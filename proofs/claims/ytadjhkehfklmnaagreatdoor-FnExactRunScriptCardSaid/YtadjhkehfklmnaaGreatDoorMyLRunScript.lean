/-
  The program's RunScript answers as the reference's does, for all arguments, and leaves its arguments alone.
  Conditions: none: every input that can be read as data.
-/
import Derived.Test.YtadjhkehfklmnaaGreatDoorMyWRunScript
namespace Go.Proofs.YtadjhkehfklmnaaGreatDoor.lawRunScript
set_option linter.unusedSimpArgs false
set_option linter.unusedVariables false
open Go.ChangeShapes Go.WideShapes Go.ChangeAt Go.RowKit
set_option maxRecDepth 20000
theorem own : ownKnob Tryz.prog.godebug = none := by kernel_rfl
theorem spec_at {H : Type} (ds : List (DataW H)) (h : ds.length = [0, 0].length) : Rows.fnExactRunScriptSpec.fn H (ds ++ []) = { results := [.lit (.bool true)], args := ds } := by
  match ds, h with
  | [_, _], _ => rfl
theorem contract (H : Type) (enc : TypeId × Value → H) (W : World) (base : Nat) (args : Array Value) (ds : List (DataW H)) (p : List MemPlace)
    (hval : ∀ (j : Nat) t v, Tryz.f3.params[j]? = some t → args[j]? = some v → Value.okWide Tryz.prog W .any base t v)
    (hA : DataW.TrodAll enc Tryz.prog W 0 (fun _ => true) true Tryz.f3.params.toList args.toList ds p) (hT : PT2 W) : Calls Tryz.prog 3 args W (Post (.bool true) W) := by
  rw [Tryz.params3] at hA hval
  obtain ⟨v0, vs0, dd0, ds0, p0, q0, hargs, rfl, rfl, h0, r0⟩ := trodAll_cons hA
  obtain ⟨v1, vs1, dd1, ds1, p1, q1, rfl, rfl, rfl, h1, r1⟩ := trodAll_cons r0
  obtain ⟨rfl, rfl, rfl⟩ := trodAll_nil r1
  obtain rfl : args = #[v0, v1] := by cases args; simp_all
  obtain ⟨A0_0, c0_0, A0_1, c0_1, d0, rfl, hn0_0, hn0_1, hA0_0, hA0_1, hw0⟩ := openV_Co (hval 0 _ v0 rfl rfl) h0
  obtain ⟨x1, rfl, hx1⟩ := openV_string Tryz.underlying9 (hval 1 _ v1 rfl rfl) h1
  exact walk A0_0 c0_0 A0_1 c0_1 d0 x1 W hn0_0 hn0_1 hA0_0 hA0_1 hw0 hx1 hT
set_option maxRecDepth 100000 in
theorem lifted (os : Os) (started : os.Started) (H : Type) (enc : TypeId × Value → H) :
    ReturnsInHanded {} Tryz.checked os 3 .any (fun w args => (Rows.fnExactRunScriptSpec.pre enc Tryz.prog Tryz.f3 Rows.fnExactRunScriptRow.domain false w args ∧ laidMetH Tryz.prog Rows.fnExactRunScriptRow.laid w) ∧ sizedMet enc Tryz.prog Tryz.f3 (OpenSpec.ofChange Rows.fnExactRunScriptSpec) false w args) (Rows.fnExactRunScriptSpec.post enc Tryz.prog Tryz.f3 false true false false) :=
  law_lift_shaped (C := Tryz.checked) (tb := 4) own started (by kernel_rfl) Tryz.func3
    (ChangeSpec.witness_shaped (enc := enc) (C := Tryz.checked) (os := os) (X := fun w _ => laidMetH Tryz.prog Rows.fnExactRunScriptRow.laid w) false (laidWorld os) #[.agg #[.int .i64 0, .int .i64 0, .int .i64 0, .bool false, .bool false, .bool false, .bool false, .slice none 0 0, .slice none 0 0, .string ByteArray.empty, .string ByteArray.empty, .int .i64 0], .string ByteArray.empty] 8 rfl (World.shaped_of_RefB (by kernel_rfl) (by kernel_rfl)) (by kernel_rfl) (by kernel_rfl) (by kernel_rfl) (laid_met os _))
    rfl (fun ds h => by rw [show Tryz.f3.params.size = [0, 0].length from by kernel_rfl] at h; exact spec_at ds h) (by kernel_rfl) Tryz.underlying4 (by kernel_rfl) (by kernel_rfl) (fun W base args ds p hval hA hL hsh => contract H enc W base args ds p hval hA (pt2_is hL hsh))
theorem j1 : (Rows.fnExactRunScriptRow.wf (OpenSpec.ofChange Rows.fnExactRunScriptSpec) && laidOutB Tryz.prog && mapsRowed Tryz.prog) = true := by kernel_rfl
theorem j2 : (Tryz.f3.params.all (Tryz.prog.readableRec ·) && namedTie Tryz.prog Rows.fnExactRunScriptRow.named Rows.fnExactRunScriptSpec.vars && (Rows.fnExactRunScriptRow.stops == []) && (Tryz.prog.stops == []) && (Rows.fnExactRunScriptRow.knobs == []) && (Tryz.prog.stopKnobs == [])) = true := by kernel_rfl
theorem j3 : (Rows.fnExactRunScriptRow.inPlace == Tryz.prog.inPlace 3) = true := by kernel_rfl
theorem j4 : (Rows.fnExactRunScriptRow.unfollowed == Tryz.prog.unfollowed 3) = true := by kernel_rfl
theorem j5 : (Rows.fnExactRunScriptRow.recurses == Tryz.prog.recurses 3) = true := by kernel_rfl
theorem j6 : (Rows.fnExactRunScriptRow.named == Tryz.prog.varsNamed 3) = true := by kernel_rfl
theorem j7 : ((Rows.fnExactRunScriptRow.maps == (Tryz.f3.params.toList ++ Rows.fnExactRunScriptSpec.plain.varTypes Tryz.prog).any (Tryz.prog.mapsRec ·)) && (Rows.fnExactRunScriptRow.ifaces == (Tryz.f3.params.toList ++ Rows.fnExactRunScriptSpec.plain.varTypes Tryz.prog).any (Tryz.prog.ifacesRec ·)) && (Rows.fnExactRunScriptRow.mapsOut == Tryz.prog.mapsAmong Tryz.f3.resultTypes.toList) &&
      (Rows.fnExactRunScriptRow.loops == (Tryz.f3.params.toList ++ Rows.fnExactRunScriptSpec.plain.varTypes Tryz.prog).any (Tryz.prog.loopsFrom ·)) && (Rows.fnExactRunScriptRow.wideKeys == (Tryz.f3.params.toList ++ Rows.fnExactRunScriptSpec.plain.varTypes Tryz.prog ++ Tryz.f3.resultTypes.toList).any (Tryz.prog.wideKeysFrom ·)) &&
      Rows.fnExactRunScriptSpec.vars.all (Tryz.prog.varReadable ·) && Tryz.f3.resultTypes.all (fun t => Tryz.prog.readableRec t && decide (t < Tryz.prog.types.size)) && (Rows.fnExactRunScriptRow.ifacesOut == Tryz.f3.resultTypes.toList.any (Tryz.prog.ifacesRec ·)) && (Rows.fnExactRunScriptRow.loopsOut == Tryz.f3.resultTypes.toList.any (Tryz.prog.loopsFrom ·))) = true := by kernel_rfl
theorem j8 : ((Rows.fnExactRunScriptRow.plainKeys == Tryz.prog.plainKeys) && Rows.fnExactRunScriptRow.shortTexts.isNone && Tryz.prog.stopsHeard && Tryz.prog.mayEnter) = true := by kernel_rfl
theorem j9 : ((Rows.fnExactRunScriptRow.lifted == Tryz.prog.liftsFinal) && (Tryz.prog.make == some Rows.fnExactRunScriptRow.make)) = true := by kernel_rfl
theorem j10 : ((Rows.fnExactRunScriptRow.kinds == (if Rows.fnExactRunScriptRow.domain.isEmpty then [] else Tryz.f3.params.toList.map fun t => match Tryz.prog.underlying t with | some (.int k) => some k | _ => none)) && (Rows.fnExactRunScriptRow.pinned == Rows.fnExactRunScriptRow.pinnedBy) &&
      (Rows.fnExactRunScriptRow.veiled == (Tryz.f3.params.toList ++ Rows.fnExactRunScriptSpec.plain.varTypes Tryz.prog ++ Tryz.f3.resultTypes.toList).any (Tryz.prog.veiledRec ·)) && Rows.fnExactRunScriptRow.veiledFits Tryz.prog Tryz.f3.params.toList (Tryz.f3.params.toList ++ Rows.fnExactRunScriptSpec.plain.varTypes Tryz.prog ++ Tryz.f3.resultTypes.toList)) = true := by kernel_rfl
theorem over : Rows.fnExactRunScriptRow.holds Tryz.pinned (OpenSpec.ofChange Rows.fnExactRunScriptSpec) :=
  OpenClaim.holds_of_wide 3 Tryz.f3 rfl rfl rfl rfl rfl rfl rfl ⟨rfl, rfl, rfl, rfl, rfl⟩ rfl rfl rfl rfl rfl (by kernel_rfl) Tryz.func3 (joined_parts j1 j2 j3 j4 j5 j6 j7 j8 j9 j10)
    (of_decide_eq_true (by kernel_rfl)) (by unfold Func.isWrapper; first | (rw [if_pos (by decide +kernel)]; kernel_rfl) | (rw [if_neg (by decide +kernel)]; exact ⟨rfl, rfl⟩))
    (fun os started H enc _ => lifted os started H enc)
theorem noStand : (Tryz.f3.params.toList.all fun t => !Tryz.prog.wantsStandIn t) = true := by kernel_rfl
theorem proved : Rows.FnExactRunScriptCardSaid :=
  Claim7.holds_tied_plain_at .later [] [.data, .data, .data, .data, .sentinel, .sentinel, .pinned] true Rows.fnExactRunScriptCard.stood.harness true over (fun _ h => by cases h) (by kernel_rfl) (fun _ h => by cases h) fnExactRunScript_row_tie rfl ⟨rfl, rfl⟩ (by kernel_rfl) rfl
    (fun f fn hf hfn => by
      obtain rfl : f = 3 := Option.some.inj ((show Tryz.prog.funcNamed "loop.example/g00924/laws.FnExactRunScript" = some 3 by kernel_rfl).symm.trans hf) |>.symm
      obtain rfl : fn = Tryz.f3 := (Option.some.inj (Tryz.func3.symm.trans hfn)).symm
      exact ⟨by kernel_rfl, fun j t ht => by
        have := List.all_eq_true.1 noStand t (by simpa using Array.mem_of_getElem? ht)
        have h2 : Tryz.prog.wantsStandIn t = false := by simpa using this
        exact h2⟩)
    (by kernel_rfl)
end Go.Proofs.YtadjhkehfklmnaaGreatDoor.lawRunScript
