/-
  The program's ReplayLog answers as the reference's does, for all arguments, and leaves its arguments alone.
  Conditions: none: every input that can be read as data.
-/
import Derived.Test.YtadjhkehfklmnaaGreatDoorMr20
namespace Go.Proofs.YtadjhkehfklmnaaGreatDoor.lawReplayLog
set_option linter.unusedSimpArgs false
set_option linter.unusedVariables false
open Go.ChangeShapes Go.WideShapes Go.ChangeAt Go.RowKit
set_option maxRecDepth 20000
theorem own : ownKnob Tryz.prog.godebug = none := by kernel_rfl
theorem spec_at {H : Type} (ds : List (DataW H)) (h : ds.length = [0, 0, 0, 0].length) : Rows.fnExactReplayLogSpec.fn H (ds ++ []) = { results := [.lit (.bool true)], args := ds } := by
  match ds, h with
  | [_, _, _, _], _ => rfl
theorem contract (H : Type) (enc : TypeId × Value → H) (W : World) (base : Nat) (args : Array Value) (ds : List (DataW H)) (p : List MemPlace)
    (hval : ∀ (j : Nat) t v, Tryz.f6.params[j]? = some t → args[j]? = some v → Value.okWide Tryz.prog W .any base t v)
    (hA : DataW.TrodAll enc Tryz.prog W 0 (fun _ => true) true Tryz.f6.params.toList args.toList ds p) (hT : PT2 W) : Calls Tryz.prog 6 args W (Post (.bool true) W) := by
  rw [Tryz.params6] at hA hval
  obtain ⟨v0, vs0, dd0, ds0, p0, q0, hargs, rfl, rfl, h0, r0⟩ := trodAll_cons hA
  obtain ⟨v1, vs1, dd1, ds1, p1, q1, rfl, rfl, rfl, h1, r1⟩ := trodAll_cons r0
  obtain ⟨v2, vs2, dd2, ds2, p2, q2, rfl, rfl, rfl, h2, r2⟩ := trodAll_cons r1
  obtain ⟨v3, vs3, dd3, ds3, p3, q3, rfl, rfl, rfl, h3, r3⟩ := trodAll_cons r2
  obtain ⟨rfl, rfl, rfl⟩ := trodAll_nil r3
  obtain rfl : args = #[v0, v1, v2, v3] := by cases args; simp_all
  obtain ⟨x0, rfl, hx0⟩ := openV_int Tryz.underlying3 (hval 0 _ v0 rfl rfl) h0
  obtain ⟨x1, rfl, hx1⟩ := openV_int Tryz.underlying3 (hval 1 _ v1 rfl rfl) h1
  obtain ⟨A2, n2, c2, f2, rfl, hn2, hA2, _⟩ := openV_BaS (hval 2 _ v2 rfl rfl) h2
  obtain ⟨d3, rfl, hw3⟩ := openV_Lg (hval 3 _ v3 rfl rfl) h3
  exact walk x0 x1 A2 n2 c2 f2 d3 W hx0 hx1 hn2 hA2 hw3 hT
set_option maxRecDepth 100000 in
theorem lifted (os : Os) (started : os.Started) (H : Type) (enc : TypeId × Value → H) :
    ReturnsInHanded {} Tryz.checked os 6 .any (fun w args => (Rows.fnExactReplayLogSpec.pre enc Tryz.prog Tryz.f6 Rows.fnExactReplayLogRow.domain false w args ∧ laidMetH Tryz.prog Rows.fnExactReplayLogRow.laid w) ∧ sizedMet enc Tryz.prog Tryz.f6 (OpenSpec.ofChange Rows.fnExactReplayLogSpec) false w args) (Rows.fnExactReplayLogSpec.post enc Tryz.prog Tryz.f6 false true false false) :=
  law_lift_shaped (C := Tryz.checked) (tb := 4) own started (by kernel_rfl) Tryz.func6
    (ChangeSpec.witness_shaped (enc := enc) (C := Tryz.checked) (os := os) (X := fun w _ => laidMetH Tryz.prog Rows.fnExactReplayLogRow.laid w) false (laidWorld os) #[.int .i64 0, .int .i64 0, .slice none 0 0, .agg #[.string ByteArray.empty, .string ByteArray.empty, .int .i64 0]] 8 rfl (World.shaped_of_RefB (by kernel_rfl) (by kernel_rfl)) (by kernel_rfl) (by kernel_rfl) (by kernel_rfl) (laid_met os _))
    rfl (fun ds h => by rw [show Tryz.f6.params.size = [0, 0, 0, 0].length from by kernel_rfl] at h; exact spec_at ds h) (by kernel_rfl) Tryz.underlying4 (by kernel_rfl) (by kernel_rfl) (fun W base args ds p hval hA hL hsh => contract H enc W base args ds p hval hA (pt2_is hL hsh))
theorem j1 : (Rows.fnExactReplayLogRow.wf (OpenSpec.ofChange Rows.fnExactReplayLogSpec) && laidOutB Tryz.prog && mapsRowed Tryz.prog) = true := by kernel_rfl
theorem j2 : (Tryz.f6.params.all (Tryz.prog.readableRec ·) && namedTie Tryz.prog Rows.fnExactReplayLogRow.named Rows.fnExactReplayLogSpec.vars && (Rows.fnExactReplayLogRow.stops == []) && (Tryz.prog.stops == []) && (Rows.fnExactReplayLogRow.knobs == []) && (Tryz.prog.stopKnobs == [])) = true := by kernel_rfl
theorem j3 : (Rows.fnExactReplayLogRow.inPlace == Tryz.prog.inPlace 6) = true := by kernel_rfl
theorem j4 : (Rows.fnExactReplayLogRow.unfollowed == Tryz.prog.unfollowed 6) = true := by kernel_rfl
theorem j5 : (Rows.fnExactReplayLogRow.recurses == Tryz.prog.recurses 6) = true := by kernel_rfl
theorem j6 : (Rows.fnExactReplayLogRow.named == Tryz.prog.varsNamed 6) = true := by kernel_rfl
theorem j7 : ((Rows.fnExactReplayLogRow.maps == (Tryz.f6.params.toList ++ Rows.fnExactReplayLogSpec.plain.varTypes Tryz.prog).any (Tryz.prog.mapsRec ·)) && (Rows.fnExactReplayLogRow.ifaces == (Tryz.f6.params.toList ++ Rows.fnExactReplayLogSpec.plain.varTypes Tryz.prog).any (Tryz.prog.ifacesRec ·)) && (Rows.fnExactReplayLogRow.mapsOut == Tryz.prog.mapsAmong Tryz.f6.resultTypes.toList) &&
      (Rows.fnExactReplayLogRow.loops == (Tryz.f6.params.toList ++ Rows.fnExactReplayLogSpec.plain.varTypes Tryz.prog).any (Tryz.prog.loopsFrom ·)) && (Rows.fnExactReplayLogRow.wideKeys == (Tryz.f6.params.toList ++ Rows.fnExactReplayLogSpec.plain.varTypes Tryz.prog ++ Tryz.f6.resultTypes.toList).any (Tryz.prog.wideKeysFrom ·)) &&
      Rows.fnExactReplayLogSpec.vars.all (Tryz.prog.varReadable ·) && Tryz.f6.resultTypes.all (fun t => Tryz.prog.readableRec t && decide (t < Tryz.prog.types.size)) && (Rows.fnExactReplayLogRow.ifacesOut == Tryz.f6.resultTypes.toList.any (Tryz.prog.ifacesRec ·)) && (Rows.fnExactReplayLogRow.loopsOut == Tryz.f6.resultTypes.toList.any (Tryz.prog.loopsFrom ·))) = true := by kernel_rfl
theorem j8 : ((Rows.fnExactReplayLogRow.plainKeys == Tryz.prog.plainKeys) && Rows.fnExactReplayLogRow.shortTexts.isNone && Tryz.prog.stopsHeard && Tryz.prog.mayEnter) = true := by kernel_rfl
theorem j9 : ((Rows.fnExactReplayLogRow.lifted == Tryz.prog.liftsFinal) && (Tryz.prog.make == some Rows.fnExactReplayLogRow.make)) = true := by kernel_rfl
theorem j10 : ((Rows.fnExactReplayLogRow.kinds == (if Rows.fnExactReplayLogRow.domain.isEmpty then [] else Tryz.f6.params.toList.map fun t => match Tryz.prog.underlying t with | some (.int k) => some k | _ => none)) && (Rows.fnExactReplayLogRow.pinned == Rows.fnExactReplayLogRow.pinnedBy) &&
      (Rows.fnExactReplayLogRow.veiled == (Tryz.f6.params.toList ++ Rows.fnExactReplayLogSpec.plain.varTypes Tryz.prog ++ Tryz.f6.resultTypes.toList).any (Tryz.prog.veiledRec ·)) && Rows.fnExactReplayLogRow.veiledFits Tryz.prog Tryz.f6.params.toList (Tryz.f6.params.toList ++ Rows.fnExactReplayLogSpec.plain.varTypes Tryz.prog ++ Tryz.f6.resultTypes.toList)) = true := by kernel_rfl
theorem over : Rows.fnExactReplayLogRow.holds Tryz.pinned (OpenSpec.ofChange Rows.fnExactReplayLogSpec) :=
  OpenClaim.holds_of_wide 6 Tryz.f6 rfl rfl rfl rfl rfl rfl rfl ⟨rfl, rfl, rfl, rfl, rfl⟩ rfl rfl rfl rfl rfl (by kernel_rfl) Tryz.func6 (joined_parts j1 j2 j3 j4 j5 j6 j7 j8 j9 j10)
    (of_decide_eq_true (by kernel_rfl)) (by unfold Func.isWrapper; first | (rw [if_pos (by decide +kernel)]; kernel_rfl) | (rw [if_neg (by decide +kernel)]; exact ⟨rfl, rfl⟩))
    (fun os started H enc _ => lifted os started H enc)
theorem noStand : (Tryz.f6.params.toList.all fun t => !Tryz.prog.wantsStandIn t) = true := by kernel_rfl
theorem proved : Rows.FnExactReplayLogCardSaid :=
  Claim7.holds_tied_plain_at .later [] [.data, .data, .data, .data, .sentinel, .sentinel, .pinned] true Rows.fnExactReplayLogCard.stood.harness true over (fun _ h => by cases h) (by kernel_rfl) (fun _ h => by cases h) fnExactReplayLog_row_tie rfl ⟨rfl, rfl⟩ (by kernel_rfl) rfl
    (fun f fn hf hfn => by
      obtain rfl : f = 6 := Option.some.inj ((show Tryz.prog.funcNamed "loop.example/g00924/laws.FnExactReplayLog" = some 6 by kernel_rfl).symm.trans hf) |>.symm
      obtain rfl : fn = Tryz.f6 := (Option.some.inj (Tryz.func6.symm.trans hfn)).symm
      exact ⟨by kernel_rfl, fun j t ht => by
        have := List.all_eq_true.1 noStand t (by simpa using Array.mem_of_getElem? ht)
        have h2 : Tryz.prog.wantsStandIn t = false := by simpa using this
        exact h2⟩)
    (by kernel_rfl)
end Go.Proofs.YtadjhkehfklmnaaGreatDoor.lawReplayLog
