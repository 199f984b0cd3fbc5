/-
  LogRecord, Log: the Lean data, what memory reads as, and the contracts of the laws' own helpers on them, in the calculus of conditions.
  Conditions: none beyond each statement's own premises.
-/
import Derived.Test.YtadjhkehfklmnaaDoorWI
import Derived.Test.YtadjhkehfklmnaaDoorW5
namespace Go.Proofs.YtadjhkehfklmnaaDoor
set_option linter.unusedSimpArgs false
set_option linter.unusedVariables false
open Go.RowKit
set_option maxRecDepth 10000
structure Rc where
  command : ByteArray
  reply : ByteArray
def Rc.cells (l : Rc) : List Value := [.string l.command, .string l.reply]
def Rc.wf (l : Rc) : Prop := l.command.size ≤ maxLen ∧ l.reply.size ≤ maxLen
def RcS (n : Nat) (f : Nat → Rc) : List Value := rowsN n fun i => (f i).cells
theorem RcS.len (n : Nat) (f : Nat → Rc) : (RcS n f).length = n * 2 := rowsN_length (f := fun i => (f i).cells) (s := 2) (fun _ => rfl) n
theorem RcS.one (n : Nat) (f : Nat → Rc) : (RcS n f).all (·.oneCell') = true := rowsN_all (fun _ => rfl) n
theorem RcS.congr {n : Nat} {f g : Nat → Rc} (h : ∀ i, i < n → f i = g i) : RcS n f = RcS n g := rowsN_congr fun i hi => by rw [h i hi]
theorem RcS.look {w : World} {A : Option Addr} {n i : Nat} {f : Nat → Rc} (h : Seen w A (RcS n f)) (hi : i < n) : ∃ b off, A = some ⟨b, off, none⟩ ∧ b < w.heap.size ∧ RowAt w b (off + i * 2) (f i).cells ∧ w.cell? ⟨b, off + i * 2, none⟩ = some (.string (f i).command) ∧ w.cell? ⟨b, off + i * 2 + 1, none⟩ = some (.string (f i).reply) := by
  obtain ⟨b, off, e, r⟩ := Seen.rowAt (s := 2) (fun _ => rfl) (by omega) h hi
  exact ⟨b, off, e, r.1, r, r.2 0 _ rfl, r.2 1 _ rfl⟩
structure Lg where
  durable : ByteArray
  pending : ByteArray
  count : Int
def Lg.cells (l : Lg) : List Value := [.string l.durable, .string l.pending, .int .i64 l.count]
def Lg.wf (l : Lg) : Prop := l.durable.size ≤ maxLen ∧ l.pending.size ≤ maxLen ∧ In64 l.count
def LgS (n : Nat) (f : Nat → Lg) : List Value := rowsN n fun i => (f i).cells
theorem LgS.len (n : Nat) (f : Nat → Lg) : (LgS n f).length = n * 3 := rowsN_length (f := fun i => (f i).cells) (s := 3) (fun _ => rfl) n
theorem LgS.one (n : Nat) (f : Nat → Lg) : (LgS n f).all (·.oneCell') = true := rowsN_all (fun _ => rfl) n
theorem LgS.congr {n : Nat} {f g : Nat → Lg} (h : ∀ i, i < n → f i = g i) : LgS n f = LgS n g := rowsN_congr fun i hi => by rw [h i hi]
theorem LgS.look {w : World} {A : Option Addr} {n i : Nat} {f : Nat → Lg} (h : Seen w A (LgS n f)) (hi : i < n) : ∃ b off, A = some ⟨b, off, none⟩ ∧ b < w.heap.size ∧ RowAt w b (off + i * 3) (f i).cells ∧ w.cell? ⟨b, off + i * 3, none⟩ = some (.string (f i).durable) ∧ w.cell? ⟨b, off + i * 3 + 1, none⟩ = some (.string (f i).pending) ∧ w.cell? ⟨b, off + i * 3 + 2, none⟩ = some (.int .i64 (f i).count) := by
  obtain ⟨b, off, e, r⟩ := Seen.rowAt (s := 3) (fun _ => rfl) (by omega) h hi
  exact ⟨b, off, e, r.1, r, r.2 0 _ rfl, r.2 1 _ rfl, r.2 2 _ rfl⟩
theorem toLog_v (l : Lg) (w : World) : Calls Tryd.prog 19 #[.agg l.cells.toArray] w (Post (.agg l.cells.toArray) w) := by
  refine post_of_vc ?_
  refine calls_of_vc tb_ok (args := [.agg l.cells.toArray]) Tryd.func19 rfl ?_
  (repeat' (first | ((conv => whnf); first | (show VIf _ _ _; first | refine VIf.mk (fun _ => ?_) (fun h => absurd rfl h) | refine VIf.mk (fun h => Bool.noConfusion h) (fun _ => ?_) | refine VIf.mk (fun _ => ?_) (fun h => absurd (by assumption) h) | refine VIf.mk (fun h => absurd h (by assumption)) (fun _ => ?_) | refine VIf.mk (fun _ => ?_) (fun h => absurd (by omega) h) | refine VIf.mk (fun h => absurd h (by omega)) (fun _ => ?_) | refine VIf.mk (fun _ => ?_) (fun _ => ?_)) | (show VIn _ _; refine VIn.mk (by omega) (by omega) ?_) | (show VLoad1 _ _ _ _ _; first | (apply VLoad1.any; (focus ((repeat (first | exact Has.here rfl | exact Has.row (by assumption) | apply Has.there)); done))) | refine VLoad1.mk _ (Rd.old (by assumption) (fun h => h) (by assumption)) ?_) | (show VLoadN _ _ _ _ _ _; first | refine VLoadN.at_ (by assumption) rfl ?_ | (apply VLoadN.any; (focus ((repeat (first | exact At.here | apply At.there)); done)); (focus (exact Nat.le_of_ble_eq_true rfl)))) | (show VStore _ _ _ _ _ _; (apply VStore.any; (focus ((repeat (first | exact At.here | apply At.there)); done)); refine VStoreAt.mk rfl rfl (Nat.le_of_ble_eq_true rfl) rfl ?_)) | (show VIdx _ _ _ _ _ _ _; first | (apply VIdx.any; (focus ((repeat (first | exact At.here | apply At.there)); done)); (first | refine VIdxR.mk _ rfl (by omega) ?_ | refine VIdxR.mk _ (by assumption) (by omega) ?_); intro gQ hA'; first | subst hA' | (cases hA') | (replace hA' := Option.some.inj hA'; cases hA') | (dsimp only at hA'; subst hA')) | refine VIdx.at_ rfl _ rfl (by omega) ?_ | refine VIdx.at_ rfl _ (by assumption) (by omega) ?_ | refine VIdx.at_ rfl 0 rfl (by omega) ?_) | (show VQuo _ _ _; refine VQuo.nn (by omega) (by omega) (by omega) ?_) | (show VRem _ _ _; refine VRem.nn (by omega) (by omega) ?_) | (show VStrIx _ _ _; first | refine VStrIx.mk _ rfl (by omega) ?_ | refine VStrIx.mk _ (by assumption) (by omega) ?_) | (show VU64 _ _; refine VU64.mk (fun _ _ _ => ?_)) | (show VAnd64 _ _; refine VAnd64.mk (by omega) (fun _ _ _ => ?_)) | (show VShr64 _ _ _; refine VShr64.mk (by omega) (by omega) (fun _ _ _ => ?_)) | (show VCat _ _ _; refine VCat.mk (by omega) ?_) | (show VKeep _ _; refine VKeep.mk rfl ?_) | (show VDone _ _; refine VDone.same ?_) | (show _ ∧ True; refine And.intro ?_ trivial) | (show _ ∧ _; refine And.intro ?_ ?_) | intro _) | ((conv => whnf); (first | fail))))
  all_goals ((conv => whnf); refine VRet.mk fun w' m => ?_)
  all_goals refine ⟨?_, m.keeps.below⟩
  all_goals first | rfl | (simp only [Lg.cells, *]; rfl)
theorem eqLog_v (l : Lg) (w : World) : Calls Tryd.prog 27 #[.agg l.cells.toArray, .agg l.cells.toArray] w (Post (.bool true) w) := by
  refine post_of_vc ?_
  refine calls_of_vc tb_ok (args := [.agg l.cells.toArray, .agg l.cells.toArray]) Tryd.func27 rfl ?_
  (repeat' (first | ((conv => whnf); first | (show VIf _ _ _; first | refine VIf.mk (fun _ => ?_) (fun h => absurd rfl h) | refine VIf.mk (fun h => Bool.noConfusion h) (fun _ => ?_) | refine VIf.mk (fun _ => ?_) (fun h => absurd (by assumption) h) | refine VIf.mk (fun h => absurd h (by assumption)) (fun _ => ?_) | refine VIf.mk (fun _ => ?_) (fun h => absurd (by omega) h) | refine VIf.mk (fun h => absurd h (by omega)) (fun _ => ?_) | refine VIf.mk (fun _ => ?_) (fun _ => ?_)) | (show VIn _ _; refine VIn.mk (by omega) (by omega) ?_) | (show VLoad1 _ _ _ _ _; first | (apply VLoad1.any; (focus ((repeat (first | exact Has.here rfl | exact Has.row (by assumption) | apply Has.there)); done))) | refine VLoad1.mk _ (Rd.old (by assumption) (fun h => h) (by assumption)) ?_) | (show VLoadN _ _ _ _ _ _; first | refine VLoadN.at_ (by assumption) rfl ?_ | (apply VLoadN.any; (focus ((repeat (first | exact At.here | apply At.there)); done)); (focus (exact Nat.le_of_ble_eq_true rfl)))) | (show VStore _ _ _ _ _ _; (apply VStore.any; (focus ((repeat (first | exact At.here | apply At.there)); done)); refine VStoreAt.mk rfl rfl (Nat.le_of_ble_eq_true rfl) rfl ?_)) | (show VIdx _ _ _ _ _ _ _; first | (apply VIdx.any; (focus ((repeat (first | exact At.here | apply At.there)); done)); (first | refine VIdxR.mk _ rfl (by omega) ?_ | refine VIdxR.mk _ (by assumption) (by omega) ?_); intro gQ hA'; first | subst hA' | (cases hA') | (replace hA' := Option.some.inj hA'; cases hA') | (dsimp only at hA'; subst hA')) | refine VIdx.at_ rfl _ rfl (by omega) ?_ | refine VIdx.at_ rfl _ (by assumption) (by omega) ?_ | refine VIdx.at_ rfl 0 rfl (by omega) ?_) | (show VQuo _ _ _; refine VQuo.nn (by omega) (by omega) (by omega) ?_) | (show VRem _ _ _; refine VRem.nn (by omega) (by omega) ?_) | (show VStrIx _ _ _; first | refine VStrIx.mk _ rfl (by omega) ?_ | refine VStrIx.mk _ (by assumption) (by omega) ?_) | (show VU64 _ _; refine VU64.mk (fun _ _ _ => ?_)) | (show VAnd64 _ _; refine VAnd64.mk (by omega) (fun _ _ _ => ?_)) | (show VShr64 _ _ _; refine VShr64.mk (by omega) (by omega) (fun _ _ _ => ?_)) | (show VCat _ _ _; refine VCat.mk (by omega) ?_) | (show VKeep _ _; refine VKeep.mk rfl ?_) | (show VDone _ _; refine VDone.same ?_) | (show _ ∧ True; refine And.intro ?_ trivial) | (show _ ∧ _; refine And.intro ?_ ?_) | intro _) | ((conv => whnf); (first | fail))))
  all_goals first | contradiction | skip
  all_goals ((conv => whnf); refine VRet.mk fun w' m => ?_)
  all_goals exact ⟨rfl, m.keeps.below⟩
theorem szLog_v (l : Lg) (left : Int) (w : World) (h0 : 0 ≤ left) (h1 : left ≤ 1048576) (h_durable : l.durable.size ≤ 9223372036854775807) (h_pending : l.pending.size ≤ 9223372036854775807) :
    Calls Tryd.prog 14 #[.agg l.cells.toArray, .int .i64 left] w fun e w' => ∃ r : Int, (((l.durable.size : Int) + (l.pending.size : Int) ≤ left ∧ r = left - ((l.durable.size : Int) + (l.pending.size : Int))) ∨ (left < (l.durable.size : Int) + (l.pending.size : Int) ∧ r = -1)) ∧ Post (.int .i64 r) w e w' := by
  refine some_of_vc ?_
  refine calls_of_vc tb_ok (args := [.agg l.cells.toArray, .int .i64 left]) Tryd.func14 rfl ?_
  (repeat' (first | ((conv => whnf); first | (show VIf _ _ _; first | refine VIf.mk (fun _ => ?_) (fun h => absurd rfl h) | refine VIf.mk (fun h => Bool.noConfusion h) (fun _ => ?_) | refine VIf.mk (fun _ => ?_) (fun h => absurd (by assumption) h) | refine VIf.mk (fun h => absurd h (by assumption)) (fun _ => ?_) | refine VIf.mk (fun _ => ?_) (fun h => absurd (by omega) h) | refine VIf.mk (fun h => absurd h (by omega)) (fun _ => ?_) | refine VIf.mk (fun _ => ?_) (fun _ => ?_)) | (show VIn _ _; refine VIn.mk (by omega) (by omega) ?_) | (show VLoad1 _ _ _ _ _; first | (apply VLoad1.any; (focus ((repeat (first | exact Has.here rfl | exact Has.row (by assumption) | apply Has.there)); done))) | refine VLoad1.mk _ (Rd.old (by assumption) (fun h => h) (by assumption)) ?_) | (show VLoadN _ _ _ _ _ _; first | refine VLoadN.at_ (by assumption) rfl ?_ | (apply VLoadN.any; (focus ((repeat (first | exact At.here | apply At.there)); done)); (focus (exact Nat.le_of_ble_eq_true rfl)))) | (show VStore _ _ _ _ _ _; (apply VStore.any; (focus ((repeat (first | exact At.here | apply At.there)); done)); refine VStoreAt.mk rfl rfl (Nat.le_of_ble_eq_true rfl) rfl ?_)) | (show VIdx _ _ _ _ _ _ _; first | (apply VIdx.any; (focus ((repeat (first | exact At.here | apply At.there)); done)); (first | refine VIdxR.mk _ rfl (by omega) ?_ | refine VIdxR.mk _ (by assumption) (by omega) ?_); intro gQ hA'; first | subst hA' | (cases hA') | (replace hA' := Option.some.inj hA'; cases hA') | (dsimp only at hA'; subst hA')) | refine VIdx.at_ rfl _ rfl (by omega) ?_ | refine VIdx.at_ rfl _ (by assumption) (by omega) ?_ | refine VIdx.at_ rfl 0 rfl (by omega) ?_) | (show VQuo _ _ _; refine VQuo.nn (by omega) (by omega) (by omega) ?_) | (show VRem _ _ _; refine VRem.nn (by omega) (by omega) ?_) | (show VStrIx _ _ _; first | refine VStrIx.mk _ rfl (by omega) ?_ | refine VStrIx.mk _ (by assumption) (by omega) ?_) | (show VU64 _ _; refine VU64.mk (fun _ _ _ => ?_)) | (show VAnd64 _ _; refine VAnd64.mk (by omega) (fun _ _ _ => ?_)) | (show VShr64 _ _ _; refine VShr64.mk (by omega) (by omega) (fun _ _ _ => ?_)) | (show VCat _ _ _; refine VCat.mk (by omega) ?_) | (show VKeep _ _; refine VKeep.mk rfl ?_) | (show VDone _ _; refine VDone.same ?_) | (show _ ∧ True; refine And.intro ?_ trivial) | (show _ ∧ _; refine And.intro ?_ ?_) | intro _) | ((conv => whnf); (first | fail))))
  all_goals ((conv => whnf); refine VRet.mk fun w' m => ?_)
  all_goals exact ⟨_, by omega, rfl, m.keeps.below⟩
set_option maxRecDepth 100000 in
theorem open_Lg {H : Type} {enc : TypeId × Value → H} {w : World} {base : Nat} {spare : Nat → Bool} {held : Bool} {fuel : Nat} {cs : List Value} {x : DataW H × List MemPlace} (h : DataW.trod enc Tryd.prog w base spare held fuel 27 cs = some x) :
    ∃ l : Lg, cs = l.cells ∧ l.wf := by
  obtain ⟨hl, n, hf⟩ := open_field Tryd.underlying27 h
  have hkint : Tryd.prog.cellsOf 3 = 1 := by kernel_rfl
  have hkstring : Tryd.prog.cellsOf 9 = 1 := by kernel_rfl
  obtain ⟨y0, h0⟩ := hf 0 _ rfl
  obtain ⟨a0, e0, g0⟩ := cell_string Tryd.underlying9 h0
  replace e0 : (cs.drop 0).take (Tryd.prog.cellsOf 9) = _ := e0
  rw [hkstring] at e0
  obtain ⟨y1, h1⟩ := hf 1 _ rfl
  obtain ⟨a1, e1, g1⟩ := cell_string Tryd.underlying9 h1
  replace e1 : (cs.drop 1).take (Tryd.prog.cellsOf 9) = _ := e1
  rw [hkstring] at e1
  obtain ⟨y2, h2⟩ := hf 2 _ rfl
  obtain ⟨a2, e2, g2⟩ := cell_int Tryd.underlying3 h2
  replace e2 : (cs.drop 2).take (Tryd.prog.cellsOf 3) = _ := e2
  rw [hkint] at e2
  rw [show Tryd.prog.cellsOf 27 = 3 from by kernel_rfl] at hl
  match cs, hl, e0, e1, e2 with
  | [c0, c1, c2], _, e0, e1, e2 =>
    simp only [List.drop_zero, List.drop_succ_cons, List.take_succ_cons, List.take_zero, List.cons.injEq, and_true] at e0 e1 e2
    exact ⟨⟨a0, a1, a2⟩, by rw [e0, e1, e2]; rfl, ⟨g0, g1, g2⟩⟩
theorem openV_Lg {H : Type} {enc : TypeId × Value → H} {w : World} {base : Nat} {spare : Nat → Bool} {held : Bool} {r : Reach} {b0 : Nat} {v : Value} {d : DataW H} {ps : List MemPlace} (hv : Value.okWide Tryd.prog w r b0 27 v) (h : DataW.Trod enc Tryd.prog w base spare held 27 v d ps) :
    ∃ l : Lg, v = .agg l.cells.toArray ∧ l.wf := by
  obtain ⟨cs, fuel, rfl, hf⟩ := openV_struct Tryd.underlying27 hv h
  obtain ⟨l, e, hw⟩ := open_Lg hf
  exact ⟨l, congrArg Value.agg (Array.ext' e), hw⟩
end Go.Proofs.YtadjhkehfklmnaaDoor
