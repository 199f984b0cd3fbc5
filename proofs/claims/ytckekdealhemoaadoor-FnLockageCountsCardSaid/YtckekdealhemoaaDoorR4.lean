/-
  The median: the program's walk.
  Conditions: none beyond each statement's own premises.
-/
import Derived.Test.YtckekdealhemoaaDoorR3
namespace Go.Proofs.YtckekdealhemoaaDoor
set_option linter.unusedSimpArgs false
set_option linter.unusedVariables false
open Go.RowKit
set_option maxRecDepth 10000
theorem IS_ints (g : Nat → Int) : ∀ n, IS n g = ((List.range n).map g).map (Value.int .i64)
  | 0 => rfl
  | n + 1 => by
    show rowsN (n + 1) _ = _
    rw [rowsN_succ, List.range_succ, List.map_append, List.map_append]
    rw [show rowsN n (fun i => ([.int .i64 (g i)] : List Value)) = _ from IS_ints g n]
    rfl
theorem sorted_ord (n : Nat) (f : Nat → Int) : sorted n f = (List.range n).map (ord n f) := by
  apply List.ext_getElem?
  intro j
  by_cases hj : j < n
  · rw [ord_get f hj]; simp [hj]
  · rw [List.getElem?_eq_none (by rw [sorted_len]; omega), List.getElem?_eq_none (by simp; omega)]
/-- The library's sort on a row of the call's own. -/
theorem sortRow {w0 : Base} {w : World} (A : Option Addr) (n c : Nat) (f : Nat → Int) (hp : 0 < n) (hn : n ≤ 1048576) (m : Mem w0 [.row (.slice A n c) 3 1 n (IS n f)] w) :
    Calls Tryd.prog 24 #[.slice A n c] w fun e w' => ∃ v, e = .returned v ∧ v = .tuple #[] ∧ Mem w0 [.row (.slice A n c) 3 1 n (IS n (ord n f))] w' := by
  obtain ⟨hmine, hlen, h | ⟨g, cap, cur, hv, hb0, hg, hnc, hcap, hsz, htk⟩⟩ := m.ok 0 _ rfl
  · obtain ⟨h, h'⟩ := h; omega
  cases hv
  have hlt : g < w.heap.size := (Array.getElem?_eq_some_iff.1 hg).1
  have hll : ((List.range n).map f).length = n := by simp
  have htk' : cur.toList.take ((List.range n).map f).length = ((List.range n).map f).map (Value.int .i64) := by rw [hll, ← IS_ints, ← htk, Nat.mul_one]
  have hc := Tryd.slices_Sort_int g 0 c ((List.range n).map f) w (holds_of_blockI hg htk') hlt (by rw [hll]; omega)
  rw [hll] at hc
  refine hc.mono ?_
  rintro e w' ⟨rfl, k, os, hw⟩
  have hts : (((List.range n).map f).mergeSort fun x y => decide (x ≤ y)) = sorted n f := rfl
  rw [hts] at hw
  have hgb := grownBy_sortedI (w := w) (g := g) (n := k) (os := os) (sorted n f).toArray
  have hrow := ownsRow_sortedI (w := w) (base := 0) (g := g) (cap := c) (n := k) (e := 3) (os := os) (cur := cur) (ss := (List.range n).map f) (ts := sorted n f) (by rw [sorted_len, hll]) (Nat.zero_le _) hg (by rw [hll]; exact hnc) hcap hsz
  rw [← hw] at hgb hrow
  rw [hll, sorted_ord, ← IS_ints] at hrow
  obtain ⟨g1, g2, g3, g4, g5⟩ := hgb
  refine ⟨_, rfl, rfl, ⟨⟨m.keeps.step g1 g2 g3 g4 (fun b hb hl => g5 b (Nat.lt_of_lt_of_le hb m.keeps.size) (fun e => ?_)), fun j o ho => ?_⟩, fun a b o o' x hne ho ho' _ => ?_⟩⟩
  · cases e
    rcases hmine g rfl with h | h
    · omega
    · exact hl h
  · rcases j with _ | j
    · cases ho; exact ⟨hmine, hrow⟩
    · simp at ho
  · rcases a with _ | a
    · rcases b with _ | b
      · exact absurd rfl hne
      · simp at ho'
    · simp at ho
theorem IS_at (g : Nat → Int) (n j : Nat) (hj : j < n) (o : Nat) (ho : o = j) : (IS n g)[o]? = some (.int .i64 (g j)) := by
  rw [IS_ints, ho]; simp [hj]
set_option maxHeartbeats 800000 in
theorem iMedian_v (A : Option Addr) (n c : Nat) (f : Nat → Lk) (w : World) (hn : n ≤ 1048576) (hA : Seen w A (LkS n f)) :
    Calls Tryd.prog 12 #[.slice A n c] w (Post (mdV n f) w) := by
  refine post_of_vc ?_
  refine calls_of_vc tb_ok (args := [.slice A n c]) Tryd.func12 rfl ?_
  have hL := fun w1 hA => iList_v A n c f w1 hn hA
  by_cases hg : lgs n f
  · rw [tr_yes hg] at hL
    by_cases h0 : 0 < n
    · rw [mdV_yes ⟨hg, h0⟩]
      have h1 : (n - 1) / 2 < n := by omega
      have h2 : n / 2 < n := by omega
      have i1 := ord_in hg h1
      have i2 := ord_in hg h2
      have hms : ord n (ves f) ((n - 1) / 2) + ord n (ves f) (n / 2) = (mdS n f : Nat) := by unfold mdS; omega
      have e1 : ((n : Int) - 1) / 2 = (((n - 1) / 2 : Nat) : Int) := by omega
      have e2 : (n : Int) / 2 = ((n / 2 : Nat) : Int) := by omega
      have hm8 : mdS n f ≤ 8 := by omega
      have c3 := fun w1 => lowest_v (mdS n f) 2 w1 (by omega) (by omega) (by omega)
      rw [← hms] at c3
      (repeat' (first | ((conv => whnf); first | (show VIf _ _ _; first | refine VIf.mk (fun _ => ?_) (fun h => absurd rfl h) | refine VIf.mk (fun h => Bool.noConfusion h) (fun _ => ?_) | refine VIf.mk (fun _ => ?_) (fun h => absurd (by assumption) h) | refine VIf.mk (fun h => absurd h (by assumption)) (fun _ => ?_) | refine VIf.mk (fun _ => ?_) (fun h => absurd (by omega) h) | refine VIf.mk (fun h => absurd h (by omega)) (fun _ => ?_) | refine VIf.mk (fun _ => ?_) (fun _ => ?_)) | (show VIn _ _; refine VIn.mk (by omega) (by omega) ?_) | (show VLoad1 _ _ _ _ _; first | (apply VLoad1.any; (focus ((repeat (first | exact Has.here rfl | exact Has.row (by assumption) | apply Has.there)); done))) | refine VLoad1.mk _ (Rd.old (by assumption) (fun h => h) (by assumption)) ?_) | (show VLoadN _ _ _ _ _ _; first | refine VLoadN.at_ (by assumption) rfl ?_ | (apply VLoadN.any; (focus ((repeat (first | exact At.here | apply At.there)); done)); (focus (exact Nat.le_of_ble_eq_true rfl)))) | (show VStore _ _ _ _ _ _; (apply VStore.any; (focus ((repeat (first | exact At.here | apply At.there)); done)); refine VStoreAt.mk rfl rfl (Nat.le_of_ble_eq_true rfl) rfl ?_)) | (show VIdx _ _ _ _ _ _ _; first | (apply VIdx.any; (focus ((repeat (first | exact At.here | apply At.there)); done)); (first | refine VIdxR.mk _ rfl (by omega) ?_ | refine VIdxR.mk _ (by assumption) (by omega) ?_); intro gQ hA'; first | subst hA' | (cases hA') | (replace hA' := Option.some.inj hA'; cases hA') | (dsimp only at hA'; subst hA')) | refine VIdx.at_ rfl _ rfl (by omega) ?_ | refine VIdx.at_ rfl _ (by assumption) (by omega) ?_ | refine VIdx.at_ rfl 0 rfl (by omega) ?_) | (show VQuo _ _ _; refine VQuo.nn (by omega) (by omega) (by omega) ?_) | (show VRem _ _ _; refine VRem.nn (by omega) (by omega) ?_) | (show VStrIx _ _ _; first | refine VStrIx.mk _ rfl (by omega) ?_ | refine VStrIx.mk _ (by assumption) (by omega) ?_) | (show VU64 _ _; refine VU64.mk (fun _ _ _ => ?_)) | (show VAnd64 _ _; refine VAnd64.mk (by omega) (fun _ _ _ => ?_)) | (show VShr64 _ _ _; refine VShr64.mk (by omega) (by omega) (fun _ _ _ => ?_)) | (show VCat _ _ _; refine VCat.mk (by omega) ?_) | (show VKeep _ _; refine VKeep.mk rfl ?_) | (show VDone _ _; refine VDone.same ?_) | (show _ ∧ True; refine And.intro ?_ trivial) | (show _ ∧ _; refine And.intro ?_ ?_) | intro _) | ((conv => whnf); (first | ((show VCall _ _ _ 9 _ _); refine VCall.grow _ (fun w1 m1 => hL w1 (Sees.old hA w1 m1)) ?_) | ((show VCall _ _ _ 23 _ _); refine VCall.ret (fun w1 m1 => vesselsOf_v A n c f w1 hn (Sees.old hA w1 m1)) (fun (A2, c2) _ => ?_))))))
      (repeat' (first | ((conv => whnf); first | (show VIf _ _ _; first | refine VIf.mk (fun _ => ?_) (fun h => absurd rfl h) | refine VIf.mk (fun h => Bool.noConfusion h) (fun _ => ?_) | refine VIf.mk (fun _ => ?_) (fun h => absurd (by assumption) h) | refine VIf.mk (fun h => absurd h (by assumption)) (fun _ => ?_) | refine VIf.mk (fun _ => ?_) (fun h => absurd (by omega) h) | refine VIf.mk (fun h => absurd h (by omega)) (fun _ => ?_) | refine VIf.mk (fun _ => ?_) (fun _ => ?_)) | (show VIn _ _; refine VIn.mk (by omega) (by omega) ?_) | (show VLoad1 _ _ _ _ _; first | (apply VLoad1.any; (focus ((repeat (first | exact Has.here rfl | exact Has.row (by assumption) | apply Has.there)); done))) | refine VLoad1.mk _ (Rd.old (by assumption) (fun h => h) (by assumption)) ?_) | (show VLoadN _ _ _ _ _ _; first | refine VLoadN.at_ (by assumption) rfl ?_ | (apply VLoadN.any; (focus ((repeat (first | exact At.here | apply At.there)); done)); (focus (exact Nat.le_of_ble_eq_true rfl)))) | (show VStore _ _ _ _ _ _; (apply VStore.any; (focus ((repeat (first | exact At.here | apply At.there)); done)); refine VStoreAt.mk rfl rfl (Nat.le_of_ble_eq_true rfl) rfl ?_)) | (show VIdx _ _ _ _ _ _ _; first | (apply VIdx.any; (focus ((repeat (first | exact At.here | apply At.there)); done)); (first | refine VIdxR.mk _ rfl (by omega) ?_ | refine VIdxR.mk _ (by assumption) (by omega) ?_); intro gQ hA'; first | subst hA' | (cases hA') | (replace hA' := Option.some.inj hA'; cases hA') | (dsimp only at hA'; subst hA')) | refine VIdx.at_ rfl _ rfl (by omega) ?_ | refine VIdx.at_ rfl _ (by assumption) (by omega) ?_ | refine VIdx.at_ rfl 0 rfl (by omega) ?_) | (show VQuo _ _ _; refine VQuo.nn (by omega) (by omega) (by omega) ?_) | (show VRem _ _ _; refine VRem.nn (by omega) (by omega) ?_) | (show VStrIx _ _ _; first | refine VStrIx.mk _ rfl (by omega) ?_ | refine VStrIx.mk _ (by assumption) (by omega) ?_) | (show VU64 _ _; refine VU64.mk (fun _ _ _ => ?_)) | (show VAnd64 _ _; refine VAnd64.mk (by omega) (fun _ _ _ => ?_)) | (show VShr64 _ _ _; refine VShr64.mk (by omega) (by omega) (fun _ _ _ => ?_)) | (show VCat _ _ _; refine VCat.mk (by omega) ?_) | (show VKeep _ _; refine VKeep.mk rfl ?_) | (show VDone _ _; refine VDone.same ?_) | (show _ ∧ True; refine And.intro ?_ trivial) | (show _ ∧ _; refine And.intro ?_ ?_) | intro _) | ((conv => whnf); (first | ((show VCall _ _ _ 24 _ _); refine VCall.lend 0 rfl (.tuple #[]) (.row (.slice A2 n c2) 3 1 n (IS n (ord n (ves f)))) (fun w1 m1 => sortRow A2 n c2 (ves f) h0 hn m1) ?_)))))
      (repeat' (first | ((conv => whnf); first | (show VIf _ _ _; first | refine VIf.mk (fun _ => ?_) (fun h => absurd rfl h) | refine VIf.mk (fun h => Bool.noConfusion h) (fun _ => ?_) | refine VIf.mk (fun _ => ?_) (fun h => absurd (by assumption) h) | refine VIf.mk (fun h => absurd h (by assumption)) (fun _ => ?_) | refine VIf.mk (fun _ => ?_) (fun h => absurd (by omega) h) | refine VIf.mk (fun h => absurd h (by omega)) (fun _ => ?_) | refine VIf.mk (fun _ => ?_) (fun _ => ?_)) | (show VIn _ _; refine VIn.mk (by omega) (by omega) ?_) | (show VLoad1 _ _ _ _ _; first | (apply VLoad1.any; (focus ((repeat (first | exact Has.here rfl | exact Has.row (by assumption) | apply Has.there)); done))) | refine VLoad1.mk _ (Rd.old (by assumption) (fun h => h) (by assumption)) ?_) | (show VLoadN _ _ _ _ _ _; first | refine VLoadN.at_ (by assumption) rfl ?_ | (apply VLoadN.any; (focus ((repeat (first | exact At.here | apply At.there)); done)); (focus (exact Nat.le_of_ble_eq_true rfl)))) | (show VStore _ _ _ _ _ _; (apply VStore.any; (focus ((repeat (first | exact At.here | apply At.there)); done)); refine VStoreAt.mk rfl rfl (Nat.le_of_ble_eq_true rfl) rfl ?_)) | (show VIdx _ _ _ _ _ _ _; first | (apply VIdx.any; (focus ((repeat (first | exact At.here | apply At.there)); done)); (first | refine VIdxR.mk _ rfl (by omega) ?_ | refine VIdxR.mk _ (by assumption) (by omega) ?_); intro gQ hA'; first | subst hA' | (cases hA') | (replace hA' := Option.some.inj hA'; cases hA') | (dsimp only at hA'; subst hA')) | refine VIdx.at_ rfl _ rfl (by omega) ?_ | refine VIdx.at_ rfl _ (by assumption) (by omega) ?_ | refine VIdx.at_ rfl 0 rfl (by omega) ?_) | (show VQuo _ _ _; refine VQuo.nn (by omega) (by omega) (by omega) ?_) | (show VRem _ _ _; refine VRem.nn (by omega) (by omega) ?_) | (show VStrIx _ _ _; first | refine VStrIx.mk _ rfl (by omega) ?_ | refine VStrIx.mk _ (by assumption) (by omega) ?_) | (show VU64 _ _; refine VU64.mk (fun _ _ _ => ?_)) | (show VAnd64 _ _; refine VAnd64.mk (by omega) (fun _ _ _ => ?_)) | (show VShr64 _ _ _; refine VShr64.mk (by omega) (by omega) (fun _ _ _ => ?_)) | (show VCat _ _ _; refine VCat.mk (by omega) ?_) | (show VKeep _ _; refine VKeep.mk rfl ?_) | (show VDone _ _; refine VDone.same ?_) | (show _ ∧ True; refine And.intro ?_ trivial) | (show _ ∧ _; refine And.intro ?_ ?_) | intro _) | ((conv => whnf); (first | ((show VCall _ _ _ 25 _ _); refine VCall.grow _ (fun w1 m1 => c3 w1) ?_) | ((show VDraw _ _ _ _ _ _); refine VDraw.mk (.take 0 (.take 1 (.take 2 (.take 3 (.take 4 (.take 5 (.take 6 (.take 7 (.take 8 (.take 9 (.take 10 (.take 11 (.take 12 (.take 13 (.br 14 (.take 15 (.take 16 (.take 17 (.take 18 (.take 19 .done))))) .done))))))))))))))) [0] (by kernel_rfl) (by kernel_rfl) ?_) | ((show VIdx _ _ _ _ _ _ _); (first | (refine VIdx.row 0 rfl ((n - 1) / 2) e1 h1 ?_) | (refine VIdx.row 0 rfl (n / 2) e2 h2 ?_)); intro gP hA'; first | subst hA' | cases hA') | ((show VLoad1 _ _ _ _ _); first | (refine VLoad1.mk _ (Rd.row 0 rfl (IS_at _ n ((n - 1) / 2) h1 _ (by show mulS ((n - 1) / 2) 1 = _; rw [mulS_eq]; omega))) ?_) | (refine VLoad1.mk _ (Rd.row 0 rfl (IS_at _ n (n / 2) h2 _ (by show mulS (n / 2) 1 = _; rw [mulS_eq]; omega))) ?_))))))
      (conv => whnf); refine VRet.mk fun w' m => ?_
      exact ⟨by rw [hms], m.keeps.below⟩
    · have hno : ¬ okMd n f := fun h => h0 h.2
      rw [mdV_no hno]
      (repeat' (first | ((conv => whnf); first | (show VIf _ _ _; first | refine VIf.mk (fun _ => ?_) (fun h => absurd rfl h) | refine VIf.mk (fun h => Bool.noConfusion h) (fun _ => ?_) | refine VIf.mk (fun _ => ?_) (fun h => absurd (by assumption) h) | refine VIf.mk (fun h => absurd h (by assumption)) (fun _ => ?_) | refine VIf.mk (fun _ => ?_) (fun h => absurd (by omega) h) | refine VIf.mk (fun h => absurd h (by omega)) (fun _ => ?_) | refine VIf.mk (fun _ => ?_) (fun _ => ?_)) | (show VIn _ _; refine VIn.mk (by omega) (by omega) ?_) | (show VLoad1 _ _ _ _ _; first | (apply VLoad1.any; (focus ((repeat (first | exact Has.here rfl | exact Has.row (by assumption) | apply Has.there)); done))) | refine VLoad1.mk _ (Rd.old (by assumption) (fun h => h) (by assumption)) ?_) | (show VLoadN _ _ _ _ _ _; first | refine VLoadN.at_ (by assumption) rfl ?_ | (apply VLoadN.any; (focus ((repeat (first | exact At.here | apply At.there)); done)); (focus (exact Nat.le_of_ble_eq_true rfl)))) | (show VStore _ _ _ _ _ _; (apply VStore.any; (focus ((repeat (first | exact At.here | apply At.there)); done)); refine VStoreAt.mk rfl rfl (Nat.le_of_ble_eq_true rfl) rfl ?_)) | (show VIdx _ _ _ _ _ _ _; first | (apply VIdx.any; (focus ((repeat (first | exact At.here | apply At.there)); done)); (first | refine VIdxR.mk _ rfl (by omega) ?_ | refine VIdxR.mk _ (by assumption) (by omega) ?_); intro gQ hA'; first | subst hA' | (cases hA') | (replace hA' := Option.some.inj hA'; cases hA') | (dsimp only at hA'; subst hA')) | refine VIdx.at_ rfl _ rfl (by omega) ?_ | refine VIdx.at_ rfl _ (by assumption) (by omega) ?_ | refine VIdx.at_ rfl 0 rfl (by omega) ?_) | (show VQuo _ _ _; refine VQuo.nn (by omega) (by omega) (by omega) ?_) | (show VRem _ _ _; refine VRem.nn (by omega) (by omega) ?_) | (show VStrIx _ _ _; first | refine VStrIx.mk _ rfl (by omega) ?_ | refine VStrIx.mk _ (by assumption) (by omega) ?_) | (show VU64 _ _; refine VU64.mk (fun _ _ _ => ?_)) | (show VAnd64 _ _; refine VAnd64.mk (by omega) (fun _ _ _ => ?_)) | (show VShr64 _ _ _; refine VShr64.mk (by omega) (by omega) (fun _ _ _ => ?_)) | (show VCat _ _ _; refine VCat.mk (by omega) ?_) | (show VKeep _ _; refine VKeep.mk rfl ?_) | (show VDone _ _; refine VDone.same ?_) | (show _ ∧ True; refine And.intro ?_ trivial) | (show _ ∧ _; refine And.intro ?_ ?_) | intro _) | ((conv => whnf); (first | ((show VCall _ _ _ 9 _ _); refine VCall.grow _ (fun w1 m1 => hL w1 (Sees.old hA w1 m1)) ?_)))))
      all_goals ((conv => whnf); refine VRet.mk fun w' m => ?_)
      all_goals exact ⟨rfl, m.keeps.below⟩
  · have hno : ¬ okMd n f := fun h => hg h.1
    rw [mdV_no hno]
    rw [tr_no hg] at hL
    (repeat' (first | ((conv => whnf); first | (show VIf _ _ _; first | refine VIf.mk (fun _ => ?_) (fun h => absurd rfl h) | refine VIf.mk (fun h => Bool.noConfusion h) (fun _ => ?_) | refine VIf.mk (fun _ => ?_) (fun h => absurd (by assumption) h) | refine VIf.mk (fun h => absurd h (by assumption)) (fun _ => ?_) | refine VIf.mk (fun _ => ?_) (fun h => absurd (by omega) h) | refine VIf.mk (fun h => absurd h (by omega)) (fun _ => ?_) | refine VIf.mk (fun _ => ?_) (fun _ => ?_)) | (show VIn _ _; refine VIn.mk (by omega) (by omega) ?_) | (show VLoad1 _ _ _ _ _; first | (apply VLoad1.any; (focus ((repeat (first | exact Has.here rfl | exact Has.row (by assumption) | apply Has.there)); done))) | refine VLoad1.mk _ (Rd.old (by assumption) (fun h => h) (by assumption)) ?_) | (show VLoadN _ _ _ _ _ _; first | refine VLoadN.at_ (by assumption) rfl ?_ | (apply VLoadN.any; (focus ((repeat (first | exact At.here | apply At.there)); done)); (focus (exact Nat.le_of_ble_eq_true rfl)))) | (show VStore _ _ _ _ _ _; (apply VStore.any; (focus ((repeat (first | exact At.here | apply At.there)); done)); refine VStoreAt.mk rfl rfl (Nat.le_of_ble_eq_true rfl) rfl ?_)) | (show VIdx _ _ _ _ _ _ _; first | (apply VIdx.any; (focus ((repeat (first | exact At.here | apply At.there)); done)); (first | refine VIdxR.mk _ rfl (by omega) ?_ | refine VIdxR.mk _ (by assumption) (by omega) ?_); intro gQ hA'; first | subst hA' | (cases hA') | (replace hA' := Option.some.inj hA'; cases hA') | (dsimp only at hA'; subst hA')) | refine VIdx.at_ rfl _ rfl (by omega) ?_ | refine VIdx.at_ rfl _ (by assumption) (by omega) ?_ | refine VIdx.at_ rfl 0 rfl (by omega) ?_) | (show VQuo _ _ _; refine VQuo.nn (by omega) (by omega) (by omega) ?_) | (show VRem _ _ _; refine VRem.nn (by omega) (by omega) ?_) | (show VStrIx _ _ _; first | refine VStrIx.mk _ rfl (by omega) ?_ | refine VStrIx.mk _ (by assumption) (by omega) ?_) | (show VU64 _ _; refine VU64.mk (fun _ _ _ => ?_)) | (show VAnd64 _ _; refine VAnd64.mk (by omega) (fun _ _ _ => ?_)) | (show VShr64 _ _ _; refine VShr64.mk (by omega) (by omega) (fun _ _ _ => ?_)) | (show VCat _ _ _; refine VCat.mk (by omega) ?_) | (show VKeep _ _; refine VKeep.mk rfl ?_) | (show VDone _ _; refine VDone.same ?_) | (show _ ∧ True; refine And.intro ?_ trivial) | (show _ ∧ _; refine And.intro ?_ ?_) | intro _) | ((conv => whnf); (first | ((show VCall _ _ _ 9 _ _); refine VCall.grow _ (fun w1 m1 => hL w1 (Sees.old hA w1 m1)) ?_)))))
    all_goals ((conv => whnf); refine VRet.mk fun w' m => ?_)
    all_goals exact ⟨rfl, m.keeps.below⟩
theorem mdV_split (n : Nat) (f : Nat → Lk) : ∃ a b c, mdV n f = .tuple #[.int .i64 a, .int .i64 b, .bool c] := by
  by_cases h : okMd n f
  · exact ⟨_, _, _, mdV_yes h⟩
  · exact ⟨_, _, _, mdV_no h⟩
end Go.Proofs.YtckekdealhemoaaDoor
