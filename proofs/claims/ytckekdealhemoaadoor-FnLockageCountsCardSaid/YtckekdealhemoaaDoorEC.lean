/-
  Sums, numerals, sealed lines; texts parted by the reference.
  Conditions: none beyond each statement's own premises.
-/
import Derived.Test.YtckekdealhemoaaDoorEB
import Derived.Test.YtckekdealhemoaaDoorW6
namespace Go.Proofs.YtckekdealhemoaaDoor
set_option linter.unusedSimpArgs false
set_option linter.unusedVariables false
open Go.RowKit
set_option maxRecDepth 10000
/-- The library's table of powers of ten lies as the program's text lays it. -/
def PTab (w : World) : Prop := Lib.TabIs Tryd.prog w "internal/strconv.uint64pow10" .u64 Lib.pow10Tab
theorem gPTab : Tryd.prog.globalNamed "internal/strconv.uint64pow10" = some 0 := by kernel_rfl
theorem cell_lt {w : World} {a : Addr} {v : Value} (h : w.cell? a = some v) : a.block < w.heap.size := by
  rcases Nat.lt_or_ge a.block w.heap.size with h1 | h1
  · exact h1
  · unfold World.cell? at h
    rw [Array.getElem?_eq_none h1] at h
    simp at h
theorem PTab.below {w w' : World} (h : PTab w) (hb : Below w.heap.size w w') : PTab w' :=
  var?_below hb gPTab (cell_lt (h.cell gPTab 0 (by rw [Lib.pow10Tab_length]; omega))) h
theorem PTab.on {w : World} {own : List Own} {w1 : World} (h : PTab w) (m : Mem (Base.of w) own w1) : PTab w1 := h.below m.keeps.below
theorem itoa_v (n : Nat) (w : World) (hn : n ≤ 1000000) (ht : PTab w) : Calls Tryd.prog 30 #[.int .i64 n] w (Post (.string (tx (Lib.decDigits n))) w) :=
  (Tryd.strconv_Itoa n (by omega) (by omega) w ht).mono fun e w' ⟨he, k, os, hw⟩ => ⟨by rw [he, Lib.itoa_nonneg]; rfl, by rw [hw]; exact Lib.below_grow _ _ (Nat.le_refl _) _ _⟩
/-! ### Sums -/
/-! ### Numerals -/
theorem digit {n : Nat} (h : n < 10) : (tx [48, 49, 50, 51, 52, 53, 54, 55, 56, 57]).extract n (n + 1) = tx [UInt8.ofNat (48 + n)] := by
  rw [tx_sub]
  match n, h with
  | 0, _ => rfl
  | 1, _ => rfl
  | 2, _ => rfl
  | 3, _ => rfl
  | 4, _ => rfl
  | 5, _ => rfl
  | 6, _ => rfl
  | 7, _ => rfl
  | 8, _ => rfl
  | 9, _ => rfl
set_option maxHeartbeats 400000 in
theorem l1Num_v : ∀ (n : Nat) (w : World), n ≤ 1000000 → Calls Tryd.prog 33 #[.int .i64 n] w (Post (.string (tx (Lib.decDigits n))) w) := by
  intro n
  induction n using Nat.strongRecOn with
  | ind n ih =>
    intro w hn
    refine post_of_vc ?_
    refine calls_of_vc tb_ok (args := [.int .i64 n]) Tryd.func33 rfl ?_
    by_cases h10 : n < 10
    · have hd := digit h10
      (repeat' (first | ((conv => whnf); first | (show VIf _ _ _; first | refine VIf.mk (fun _ => ?_) (fun h => absurd rfl h) | refine VIf.mk (fun h => Bool.noConfusion h) (fun _ => ?_) | refine VIf.mk (fun _ => ?_) (fun h => absurd (by assumption) h) | refine VIf.mk (fun h => absurd h (by assumption)) (fun _ => ?_) | refine VIf.mk (fun _ => ?_) (fun h => absurd (by omega) h) | refine VIf.mk (fun h => absurd h (by omega)) (fun _ => ?_) | refine VIf.mk (fun _ => ?_) (fun _ => ?_)) | (show VIn _ _; refine VIn.mk (by omega) (by omega) ?_) | (show VLoad1 _ _ _ _ _; first | (apply VLoad1.any; (focus ((repeat (first | exact Has.here rfl | exact Has.row (by assumption) | apply Has.there)); done))) | refine VLoad1.mk _ (Rd.old (by assumption) (fun h => h) (by assumption)) ?_) | (show VLoadN _ _ _ _ _ _; first | refine VLoadN.at_ (by assumption) rfl ?_ | (apply VLoadN.any; (focus ((repeat (first | exact At.here | apply At.there)); done)); (focus (exact Nat.le_of_ble_eq_true rfl)))) | (show VStore _ _ _ _ _ _; (apply VStore.any; (focus ((repeat (first | exact At.here | apply At.there)); done)); refine VStoreAt.mk rfl rfl (Nat.le_of_ble_eq_true rfl) rfl ?_)) | (show VIdx _ _ _ _ _ _ _; first | (apply VIdx.any; (focus ((repeat (first | exact At.here | apply At.there)); done)); (first | refine VIdxR.mk _ rfl (by omega) ?_ | refine VIdxR.mk _ (by assumption) (by omega) ?_); intro gQ hA'; first | subst hA' | (cases hA') | (replace hA' := Option.some.inj hA'; cases hA') | (dsimp only at hA'; subst hA')) | refine VIdx.at_ rfl _ rfl (by omega) ?_ | refine VIdx.at_ rfl _ (by assumption) (by omega) ?_ | refine VIdx.at_ rfl 0 rfl (by omega) ?_) | (show VQuo _ _ _; refine VQuo.nn (by omega) (by omega) (by omega) ?_) | (show VRem _ _ _; refine VRem.nn (by omega) (by omega) ?_) | (show VStrIx _ _ _; first | refine VStrIx.mk _ rfl (by omega) ?_ | refine VStrIx.mk _ (by assumption) (by omega) ?_) | (show VU64 _ _; refine VU64.mk (fun _ _ _ => ?_)) | (show VAnd64 _ _; refine VAnd64.mk (by omega) (fun _ _ _ => ?_)) | (show VShr64 _ _ _; refine VShr64.mk (by omega) (by omega) (fun _ _ _ => ?_)) | (show VCat _ _ _; refine VCat.mk (by omega) ?_) | (show VKeep _ _; refine VKeep.mk rfl ?_) | (show VDone _ _; refine VDone.same ?_) | (show _ ∧ True; refine And.intro ?_ trivial) | (show _ ∧ _; refine And.intro ?_ ?_) | intro _) | ((conv => whnf); (first | ((show VSub _ _ _ _); refine VSub.mk n (n + 1) rfl rfl (by omega) (by show n + 1 ≤ 10; omega) ?_)))))
      (conv => whnf); refine VRet.mk fun w' m => ?_
      refine ⟨?_, m.keeps.below⟩
      rw [Lib.decDigits, dif_pos h10]
      exact congrArg Value.string hd
    · have hd := digit (n := n % 10) (by omega)
      have hr : ∀ w1, Calls Tryd.prog 33 #[.int .i64 ((n : Int) / 10)] w1 (Post (.string (tx (Lib.decDigits (n / 10)))) w1) := fun w1 => ih (n / 10) (by omega) w1 (by omega)
      have hl := dd_len 5 (n / 10) (by omega)
      (repeat' (first | ((conv => whnf); first | (show VIf _ _ _; first | refine VIf.mk (fun _ => ?_) (fun h => absurd rfl h) | refine VIf.mk (fun h => Bool.noConfusion h) (fun _ => ?_) | refine VIf.mk (fun _ => ?_) (fun h => absurd (by assumption) h) | refine VIf.mk (fun h => absurd h (by assumption)) (fun _ => ?_) | refine VIf.mk (fun _ => ?_) (fun h => absurd (by omega) h) | refine VIf.mk (fun h => absurd h (by omega)) (fun _ => ?_) | refine VIf.mk (fun _ => ?_) (fun _ => ?_)) | (show VIn _ _; refine VIn.mk (by omega) (by omega) ?_) | (show VLoad1 _ _ _ _ _; first | (apply VLoad1.any; (focus ((repeat (first | exact Has.here rfl | exact Has.row (by assumption) | apply Has.there)); done))) | refine VLoad1.mk _ (Rd.old (by assumption) (fun h => h) (by assumption)) ?_) | (show VLoadN _ _ _ _ _ _; first | refine VLoadN.at_ (by assumption) rfl ?_ | (apply VLoadN.any; (focus ((repeat (first | exact At.here | apply At.there)); done)); (focus (exact Nat.le_of_ble_eq_true rfl)))) | (show VStore _ _ _ _ _ _; (apply VStore.any; (focus ((repeat (first | exact At.here | apply At.there)); done)); refine VStoreAt.mk rfl rfl (Nat.le_of_ble_eq_true rfl) rfl ?_)) | (show VIdx _ _ _ _ _ _ _; first | (apply VIdx.any; (focus ((repeat (first | exact At.here | apply At.there)); done)); (first | refine VIdxR.mk _ rfl (by omega) ?_ | refine VIdxR.mk _ (by assumption) (by omega) ?_); intro gQ hA'; first | subst hA' | (cases hA') | (replace hA' := Option.some.inj hA'; cases hA') | (dsimp only at hA'; subst hA')) | refine VIdx.at_ rfl _ rfl (by omega) ?_ | refine VIdx.at_ rfl _ (by assumption) (by omega) ?_ | refine VIdx.at_ rfl 0 rfl (by omega) ?_) | (show VQuo _ _ _; refine VQuo.nn (by omega) (by omega) (by omega) ?_) | (show VRem _ _ _; refine VRem.nn (by omega) (by omega) ?_) | (show VStrIx _ _ _; first | refine VStrIx.mk _ rfl (by omega) ?_ | refine VStrIx.mk _ (by assumption) (by omega) ?_) | (show VU64 _ _; refine VU64.mk (fun _ _ _ => ?_)) | (show VAnd64 _ _; refine VAnd64.mk (by omega) (fun _ _ _ => ?_)) | (show VShr64 _ _ _; refine VShr64.mk (by omega) (by omega) (fun _ _ _ => ?_)) | (show VCat _ _ _; refine VCat.mk (by omega) ?_) | (show VKeep _ _; refine VKeep.mk rfl ?_) | (show VDone _ _; refine VDone.same ?_) | (show _ ∧ True; refine And.intro ?_ trivial) | (show _ ∧ _; refine And.intro ?_ ?_) | intro _) | ((conv => whnf); (first | ((show VCall _ _ _ 33 _ _); refine VCall.grow _ (fun w1 _ => hr w1) ?_) | ((show VDraw _ _ _ _ _ _); refine VDraw.mk (.take 0 (.take 1 (.take 3 (.take 4 (.take 5 (.take 6 (.take 7 (.take 8 (.br 2 (.take 9 (.take 10 .done)) .done))))))))) [] (by kernel_rfl) (by kernel_rfl) ?_) | ((show VSub _ _ _ _); refine VSub.mk (n % 10) (n % 10 + 1) rfl rfl (by omega) (by show n % 10 + 1 ≤ 10; omega) ?_) | ((show VCat _ _ _); rw [show ({ data := #[48, 49, 50, 51, 52, 53, 54, 55, 56, 57] } : ByteArray).extract (n % 10) (n % 10 + 1) = tx [UInt8.ofNat (48 + n % 10)] from hd]; refine VCat.of (by show _ + 1 ≤ _; omega) ?_)))))
      (conv => whnf); refine VRet.mk fun w' m => ?_
      refine ⟨?_, m.keeps.below⟩
      conv => rhs; rw [Lib.decDigits, dif_neg h10]
/-! ### Lines -/
theorem bod_eq (k : Nat) (c r : List UInt8) : Lib.decDigits k ++ [32] ++ c ++ [64] ++ r = bod k c r := by unfold bod; simp
/-! ### Texts parted -/
def TS (ps : List (List UInt8)) : List Value := ps.map fun p => .string (tx p)
theorem TS_len1 (l : List (List UInt8)) : (TS l).length = l.length * 1 := by simp [TS]
theorem TS_app (a b : List (List UInt8)) : TS (a ++ b) = TS a ++ TS b := List.map_append
end Go.Proofs.YtckekdealhemoaaDoor
