/-
  Texts joined: how the calls that the law reaches are walked, and the plain laws behind them.
  Conditions: none beyond each statement's own premises.
-/
import Derived.Test.YtadjhkehfklmnaaGreatDoorMy14
namespace Go.Proofs.YtadjhkehfklmnaaGreatDoor
set_option linter.unusedSimpArgs false
set_option linter.unusedVariables false
open Go.RowKit
set_option maxRecDepth 10000
theorem Lo.step_safe_no {s : Lo} {c : Int} (h : ¬ s.safe) : ¬ s.okStep c := fun h2 => h h2.1
theorem iStep_v (s : Lo) (c : Int) (w : World) : Calls Tryz.prog 141 #[.agg s.cells.toArray, .int .i64 c] w (Post (.tuple #[.agg (s.step c).cells.toArray, .bool (tr (s.okStep c))]) w) := by
  refine post_of_vc ?_
  refine calls_of_vc tb_ok (args := [.agg s.cells.toArray, .int .i64 c]) Tryz.func141 rfl ?_
  by_cases hs : s.safe
  · have hS := fun w => iSafe_v s w
    rw [tr_yes hs] at hS
    have hc := fun w => istep_v s c w hs
    generalize s.step c = t at *
    generalize tr (s.okStep c) = b at *
    cases b
    all_goals ((repeat' ((conv => whnf); first | refine go ?_ | (refine VSome.mk ?_; intro gQ hA'; first | subst hA' | cases hA' | (dsimp only at hA'; subst hA')) | refine And.intro ?_ ?_ | intro _ | (first | ((show VCall _ _ _ 87 _ _); refine VCall.grow _ (fun w1 _ => hS w1) ?_) | ((show VCall _ _ _ 176 _ _); refine VCall.grow _ (fun w1 _ => hc w1) ?_)))))
    all_goals ((conv => whnf); refine VRet.mk fun w' m => ?_)
    all_goals exact ⟨rfl, m.keeps.below⟩
  · have hS := fun w => iSafe_v s w
    rw [tr_no hs] at hS
    (repeat' ((conv => whnf); first | refine go ?_ | (refine VSome.mk ?_; intro gQ hA'; first | subst hA' | cases hA' | (dsimp only at hA'; subst hA')) | refine And.intro ?_ ?_ | intro _ | (first | ((show VCall _ _ _ 87 _ _); refine VCall.grow _ (fun w1 _ => hS w1) ?_))))
    (conv => whnf); refine VRet.mk fun w' m => ?_
    exact ⟨Lo.gate_no (Lo.step_safe_no hs) rfl, m.keeps.below⟩
set_option maxHeartbeats 1600000 in
theorem sWait_v (s : Lo) (w : World) (hs : s.safe) : Calls Tryz.prog 167 #[.agg s.cells.toArray] w (Post (.agg (s.move 9).cells.toArray) w) := by
  have hx := id hs
  unfold Lo.safe at hx
  refine post_of_vc ?_
  refine calls_of_vc tb_ok (args := [.agg s.cells.toArray]) Tryz.func167 rfl ?_
  (repeat' ((conv => whnf); first | refine go ?_ | (refine VSome.mk ?_; intro gQ hA'; first | subst hA' | cases hA' | (dsimp only at hA'; subst hA')) | refine And.intro ?_ ?_ | intro _ | (first | ((show VCall _ _ _ 166 _ _); refine VCall.grow _ (fun w1 _ => l1Most_v _ _ w1) ?_) | ((show VCall _ _ _ 203 _ _); refine VCall.grow _ (fun w1 _ => l1Least_v _ _ w1) ?_))))
  all_goals first | (exfalso; exact Lo.lp_hp hs (by assumption) (by assumption)) | skip
  all_goals ((conv => whnf); refine VRet.mk fun w' m => ?_)
  all_goals refine ⟨?_, m.keeps.below⟩
  all_goals first
    | (rw [← Lo.wait_lp (x := mx s.lower (s.level - 50)) hs (by assumption) rfl]; rfl)
    | (rw [← Lo.wait_hp (x := mn s.upper (s.level + 50)) (by assumption) (by assumption) rfl]; rfl)
    | (rw [← Lo.wait_none (by assumption) (by assumption)]; rfl)
set_option maxHeartbeats 8000000 in
theorem sTurn_v (s : Lo) (c : Int) (w : World) (h1 : 1 ≤ c) (h2 : c ≤ 8) : Calls Tryz.prog 168 #[.agg s.cells.toArray, .int .i64 c] w (Post (.tuple #[.agg (s.move c).cells.toArray, .bool (tr (¬ s.move c = s))]) w) := by
  refine post_of_vc ?_
  have hc : c = 1 ∨ c = 2 ∨ c = 3 ∨ c = 4 ∨ c = 5 ∨ c = 6 ∨ c = 7 ∨ c = 8 := by omega
  rcases hc with rfl | rfl | rfl | rfl | rfl | rfl | rfl | rfl
  all_goals (refine calls_of_vc tb_ok (args := [.agg s.cells.toArray, .int .i64 _]) Tryz.func168 rfl ?_)
  all_goals ((repeat' ((conv => whnf); first | refine go ?_ | (refine VSome.mk ?_; intro gQ hA'; first | subst hA' | cases hA' | (dsimp only at hA'; subst hA')) | refine And.intro ?_ ?_ | intro _ | (first | ((show VRem _ _ _); refine VRem.nn (by omega) (by omega) ?_) | ((show VDraw _ _ _ _ _ _); refine VDraw.mk (.take 0 (.take 1 (.take 2 (.take 3 (.br 4 (.take 5 .done) .done))))) [0, 2] (by kernel_rfl) (by kernel_rfl) ?_)))))
  all_goals ((conv => whnf); refine VRet.mk fun w' m => ?_)
  all_goals refine ⟨?_, m.keeps.below⟩
  all_goals first
    | (rw [tr_no (fun h => h (Lo.set_lg (by first | assumption | exact Eq.symm (by assumption))))]; rfl)
    | (rw [tr_no (fun h => h (Lo.set_hg (by first | assumption | exact Eq.symm (by assumption))))]; rfl)
    | (rw [tr_no (fun h => h (Lo.set_lp (by first | assumption | exact Eq.symm (by assumption))))]; rfl)
    | (rw [tr_no (fun h => h (Lo.set_hp (by first | assumption | exact Eq.symm (by assumption))))]; rfl)
    | (rw [tr_yes (fun e => absurd (congrArg Lo.lg e) (by assumption))]; rfl)
    | (rw [tr_yes (fun e => absurd (congrArg Lo.hg e) (by assumption))]; rfl)
    | (rw [tr_yes (fun e => absurd (congrArg Lo.lp e) (by assumption))]; rfl)
    | (rw [tr_yes (fun e => absurd (congrArg Lo.hp e) (by assumption))]; rfl)
set_option maxHeartbeats 1600000 in
theorem sStep_v (s : Lo) (c : Int) (w : World) : Calls Tryz.prog 133 #[.agg s.cells.toArray, .int .i64 c] w (Post (.tuple #[.agg (s.step c).cells.toArray, .bool (tr (s.okStep c))]) w) := by
  refine post_of_vc ?_
  refine calls_of_vc tb_ok (args := [.agg s.cells.toArray, .int .i64 c]) Tryz.func133 rfl ?_
  by_cases hs : s.safe
  · have hS := fun w => sSafe_v s w
    rw [tr_yes hs] at hS
    by_cases hc : 1 ≤ c ∧ c ≤ 9
    · have hI := fun w => l1In_v c 1 9 w
      rw [tr_yes hc] at hI
      by_cases h9 : c = 9
      · subst h9
        (repeat' ((conv => whnf); first | refine go ?_ | (refine VSome.mk ?_; intro gQ hA'; first | subst hA' | cases hA' | (dsimp only at hA'; subst hA')) | refine And.intro ?_ ?_ | intro _ | (first | ((show VCall _ _ _ 91 _ _); refine VCall.grow _ (fun w1 _ => hS w1) ?_) | ((show VCall _ _ _ 109 _ _); refine VCall.grow _ (fun w1 _ => hI w1) ?_) | ((show VCall _ _ _ 167 _ _); refine VCall.grow _ (fun w1 _ => sWait_v s w1 hs) ?_))))
        (conv => whnf); refine VRet.mk fun w' m => ?_
        exact ⟨Lo.gate_yes (Lo.ok_wait hs) rfl, m.keeps.below⟩
      · have hT := fun w => sTurn_v s c w hc.1 (by omega)
        (repeat' ((conv => whnf); first | refine go ?_ | (refine VSome.mk ?_; intro gQ hA'; first | subst hA' | cases hA' | (dsimp only at hA'; subst hA')) | refine And.intro ?_ ?_ | intro _ | (first | ((show VCall _ _ _ 91 [.agg s.cells.toArray] _); refine VCall.grow _ (fun w1 _ => hS w1) ?_) | ((show VCall _ _ _ 109 _ _); refine VCall.grow _ (fun w1 _ => hI w1) ?_) | ((show VCall _ _ _ 168 _ _); refine VCall.grow _ (fun w1 _ => hT w1) ?_) | ((show VCall _ _ _ 91 [.agg (s.move c).cells.toArray] _); refine VCall.test _ (fun w1 _ => sSafe_v (s.move c) w1) ?_))))
        all_goals ((conv => whnf); refine VRet.mk fun w' m => ?_)
        all_goals refine ⟨?_, m.keeps.below⟩
        all_goals first
          | (refine Lo.gate_no (Lo.no_same (by omega) (nn_tr (by assumption))) rfl; done)
          | (refine Lo.gate_no (Lo.no_bad (by omega) rfl (by assumption)) rfl; done)
          | (refine Lo.gate_yes (Lo.ok_of hs hc.1 (by omega) rfl (tr_iff.1 (by assumption)) (by assumption)) rfl; done)
    · have hI := fun w => l1In_v c 1 9 w
      rw [tr_no hc] at hI
      (repeat' ((conv => whnf); first | refine go ?_ | (refine VSome.mk ?_; intro gQ hA'; first | subst hA' | cases hA' | (dsimp only at hA'; subst hA')) | refine And.intro ?_ ?_ | intro _ | (first | ((show VCall _ _ _ 91 _ _); refine VCall.grow _ (fun w1 _ => hS w1) ?_) | ((show VCall _ _ _ 109 _ _); refine VCall.grow _ (fun w1 _ => hI w1) ?_))))
      (conv => whnf); refine VRet.mk fun w' m => ?_
      exact ⟨Lo.gate_no (Lo.no_out (by omega)) rfl, m.keeps.below⟩
  · have hS := fun w => sSafe_v s w
    rw [tr_no hs] at hS
    (repeat' ((conv => whnf); first | refine go ?_ | (refine VSome.mk ?_; intro gQ hA'; first | subst hA' | cases hA' | (dsimp only at hA'; subst hA')) | refine And.intro ?_ ?_ | intro _ | (first | ((show VCall _ _ _ 91 _ _); refine VCall.grow _ (fun w1 _ => hS w1) ?_))))
    (conv => whnf); refine VRet.mk fun w' m => ?_
    exact ⟨Lo.gate_no (Lo.step_safe_no hs) rfl, m.keeps.below⟩
theorem iHead_v (s : Lo) (h : Bool) (w : World) (hs : s.safe) : Calls Tryz.prog 180 #[.agg s.cells.toArray, .bool h] w (Post (.int .i64 (s.head h)) w) := by
  have hx := id hs
  unfold Lo.safe at hx
  refine post_of_vc ?_
  cases h
  all_goals (refine calls_of_vc tb_ok (args := [.agg s.cells.toArray, .bool _]) Tryz.func180 rfl ?_)
  all_goals ((repeat' ((conv => whnf); first | refine go ?_ | (refine VSome.mk ?_; intro gQ hA'; first | subst hA' | cases hA' | (dsimp only at hA'; subst hA')) | refine And.intro ?_ ?_ | intro _)))
  all_goals ((conv => whnf); refine VRet.mk fun w' m => ?_)
  all_goals exact ⟨rfl, m.keeps.below⟩
theorem sHead_v (s : Lo) (h : Bool) (w : World) (hs : s.safe) : Calls Tryz.prog 156 #[.agg s.cells.toArray, .bool h] w (Post (.int .i64 (s.head h)) w) := by
  have hx := id hs
  unfold Lo.safe at hx
  refine post_of_vc ?_
  cases h
  all_goals (refine calls_of_vc tb_ok (args := [.agg s.cells.toArray, .bool _]) Tryz.func156 rfl ?_)
  all_goals ((repeat' ((conv => whnf); first | refine go ?_ | (refine VSome.mk ?_; intro gQ hA'; first | subst hA' | cases hA' | (dsimp only at hA'; subst hA')) | refine And.intro ?_ ?_ | intro _)))
  all_goals ((conv => whnf); refine VRet.mk fun w' m => ?_)
  all_goals exact ⟨rfl, m.keeps.below⟩
theorem Lo.head_in {s : Lo} (hs : s.safe) (h : Bool) : 0 ≤ s.head h ∧ s.head h ≤ 2000 := by
  unfold Lo.safe at hs
  unfold Lo.head
  cases h <;> simp <;> omega
theorem Lo.mins_is {s : Lo} (hs : s.safe) (h : Bool) : (s.mins h : Int) = (s.head h + 44) / 50 := by
  have := Lo.head_in hs h
  unfold Lo.mins
  omega
theorem iMins_v (s : Lo) (h : Bool) (w : World) (hs : s.safe) : Calls Tryz.prog 177 #[.agg s.cells.toArray, .bool h] w (Post (.int .i64 (s.mins h : Nat)) w) := by
  have hh := Lo.head_in hs h
  have hm := Lo.mins_is hs h
  refine post_of_vc ?_
  refine calls_of_vc tb_ok (args := [.agg s.cells.toArray, .bool h]) Tryz.func177 rfl ?_
  (repeat' ((conv => whnf); first | refine go ?_ | (refine VSome.mk ?_; intro gQ hA'; first | subst hA' | cases hA' | (dsimp only at hA'; subst hA')) | refine And.intro ?_ ?_ | intro _ | (first | ((show VCall _ _ _ 180 _ _); refine VCall.grow _ (fun w1 _ => iHead_v s h w1 hs) ?_) | ((show VQuo _ _ _); refine VQuo.nn (by split <;> omega) (by omega) (by split <;> omega) ?_))))
  all_goals ((conv => whnf); refine VRet.mk fun w' m => ?_)
  all_goals refine ⟨congrArg (Value.int .i64) ?_, m.keeps.below⟩
  all_goals (rw [hm]; split <;> omega)
theorem sMins_v (s : Lo) (h : Bool) (w : World) (hs : s.safe) : Calls Tryz.prog 190 #[.agg s.cells.toArray, .bool h] w (Post (.int .i64 (s.mins h : Nat)) w) := by
  have hh := Lo.head_in hs h
  have hm := Lo.mins_is hs h
  have hx : (mx 0 (s.head h - 5) = 0 ∧ s.head h ≤ 5) ∨ (mx 0 (s.head h - 5) = s.head h - 5 ∧ 5 ≤ s.head h) := by unfold mx; split <;> omega
  refine post_of_vc ?_
  refine calls_of_vc tb_ok (args := [.agg s.cells.toArray, .bool h]) Tryz.func190 rfl ?_
  (repeat' ((conv => whnf); first | refine go ?_ | (refine VSome.mk ?_; intro gQ hA'; first | subst hA' | cases hA' | (dsimp only at hA'; subst hA')) | refine And.intro ?_ ?_ | intro _ | (first | ((show VCall _ _ _ 156 _ _); refine VCall.grow _ (fun w1 _ => sHead_v s h w1 hs) ?_) | ((show VCall _ _ _ 166 _ _); refine VCall.grow _ (fun w1 _ => l1Most_v _ _ w1) ?_))))
  all_goals ((conv => whnf); refine VRet.mk fun w' m => ?_)
  all_goals refine ⟨congrArg (Value.int .i64) ?_, m.keeps.below⟩
  all_goals (rw [hm]; omega)
theorem iHeadAt_v (s : Lo) (h : Bool) (w : World) (hs : s.safe) : Calls Tryz.prog 145 #[.agg s.cells.toArray, .bool h] w (Post (.tuple #[.int .i64 (s.head h), .bool true]) w) := by
  have hS := fun w => iSafe_v s w
  rw [tr_yes hs] at hS
  refine post_of_vc ?_
  refine calls_of_vc tb_ok (args := [.agg s.cells.toArray, .bool h]) Tryz.func145 rfl ?_
  (repeat' ((conv => whnf); first | refine go ?_ | (refine VSome.mk ?_; intro gQ hA'; first | subst hA' | cases hA' | (dsimp only at hA'; subst hA')) | refine And.intro ?_ ?_ | intro _ | (first | ((show VCall _ _ _ 87 _ _); refine VCall.grow _ (fun w1 _ => hS w1) ?_) | ((show VCall _ _ _ 180 _ _); refine VCall.grow _ (fun w1 _ => iHead_v s h w1 hs) ?_))))
  all_goals ((conv => whnf); refine VRet.mk fun w' m => ?_)
  all_goals exact ⟨rfl, m.keeps.below⟩
end Go.Proofs.YtadjhkehfklmnaaGreatDoor
namespace Go.Proofs.YtadjhkehfklmnaaGreatDoor
set_option linter.unusedSimpArgs false
set_option linter.unusedVariables false
open Go.RowKit
set_option maxRecDepth 10000
theorem Lo.drop_yes {t : Lo} {L : List Int} {k : Nat} (hk : k < L.length) (h : t.okStep (L.getD k 0)) : t.run (L.drop k) = (((t.step (L.getD k 0)).run (L.drop (k + 1))).1, ((t.step (L.getD k 0)).run (L.drop (k + 1))).2 + 1) := by
  have e : L.getD k 0 = L[k] := by rw [List.getD_eq_getElem?_getD, List.getElem?_eq_getElem hk]; rfl
  rw [Lo.step_yes h]
  rw [e] at h ⊢
  rw [List.drop_eq_getElem_cons hk, Lo.run_yes h]
theorem Lo.drop_no {t : Lo} {L : List Int} {k : Nat} (hk : k < L.length) (h : ¬ t.okStep (L.getD k 0)) : t.run (L.drop k) = (t, 0) := by
  have e : L.getD k 0 = L[k] := by rw [List.getD_eq_getElem?_getD, List.getElem?_eq_getElem hk]; rfl
  rw [e] at h
  rw [List.drop_eq_getElem_cons hk, Lo.run_no h]
theorem Lo.drop_end {t : Lo} {L : List Int} : t.run (L.drop L.length) = (t, 0) := by rw [List.drop_length]; rfl
def Lo.upto (s : Lo) (L : List Int) (k : Nat) (t : Lo) : Prop := t.safe ∧ s.run L = ((t.run (L.drop k)).1, k + (t.run (L.drop k)).2)
theorem Lo.upto_0 {s : Lo} {L : List Int} (h : s.safe) : s.upto L 0 s := ⟨h, by simp⟩
theorem Lo.upto_suc {s t : Lo} {L : List Int} {k : Nat} (h : s.upto L k t) (hk : k < L.length) (hc : t.okStep (L.getD k 0)) : s.upto L (k + 1) (t.step (L.getD k 0)) := by
  refine ⟨by rw [Lo.step_yes hc]; exact hc.safe, ?_⟩
  rw [h.2, Lo.drop_yes hk hc]
  simp only [Prod.mk.injEq, true_and]
  omega
theorem Lo.upto_no {s t : Lo} {L : List Int} {k : Nat} (h : s.upto L k t) (hk : k < L.length) (hc : ¬ t.okStep (L.getD k 0)) : s.run L = (t, k) := by
  rw [h.2, Lo.drop_no hk hc]; rfl
theorem Lo.upto_end {s t : Lo} {L : List Int} (h : s.upto L L.length t) : s.run L = (t, L.length) := by
  rw [h.2, Lo.drop_end]; rfl
def Lo.runV (s : Lo) (r : Int) (x : Lo × Nat) : Value := .tuple #[.agg x.1.cells.toArray, .int .i64 (x.2 : Nat), .int .i64 r]
set_option maxHeartbeats 4000000 in
theorem irun_v (s : Lo) (A : Option Addr) (c : Nat) (L : List Int) (w : World) (hs : s.safe) (hl : L.length ≤ 1048576) (hA : Seen w A (IL L)) : Calls Tryz.prog 178 #[.agg s.cells.toArray, .slice A L.length c] w fun e w' => ∃ r : Int, True ∧ Post (s.runV r (s.run L)) w e w' := by
  refine some_of_vc ?_
  refine calls_of_vc tb_ok (args := [.agg s.cells.toArray, .slice A L.length c]) Tryz.func178 rfl ?_
  (repeat' ((conv => whnf); first | refine go ?_ | (refine VSome.mk ?_; intro gQ hA'; first | subst hA' | cases hA' | (dsimp only at hA'; subst hA')) | refine And.intro ?_ ?_ | intro _))
  (conv => whnf)
  rename_i g2 g4
  refine VLoop.mk (ι := Nat × Lo × Int) [5, 6, 7, 8, 9, 10, 11, 14, 15, 16, 17, 18, 19, 20, 21, 22, 23, 24, 25, 26, 27, 28, 29, 30, 31, 32, 33, 34, 35, 36, 37, 38, 39] (fun (k, t, r) => [(14, .int .i64 (k : Nat)), (7, .int .i64 r)]) (fun (k, t, r) => [.blk g2 34 t.cells, .blk g4 34 Lo.zero.cells]) (fun i => i.1 ≤ L.length ∧ s.upto L i.1 i.2.1 ∧ 0 ≤ i.2.2 ∧ i.2.2 ≤ 2000 * (i.1 : Int)) (fun i => L.length - i.1) (0, s, 0) ⟨Nat.zero_le _, Lo.upto_0 hs, Int.le_refl _, by show (0 : Int) ≤ _; omega⟩ ?_ (OwnLe.mk [0, 1] (by simp) rfl) (fun i u hi => ?_)
  · ((conv => whnf); repeat (first | exact trivial | refine ⟨rfl, ?_⟩ | refine ⟨congrArg (Value.int .i64) (by first | omega | assumption | exact Eq.symm (by assumption)), ?_⟩))
  obtain ⟨k, t, r⟩ := i
  obtain ⟨hk, hu, hr1, hr2⟩ := hi
  replace hk : k ≤ L.length := hk
  replace hu : s.upto L k t := hu
  replace hr1 : 0 ≤ r := hr1
  replace hr2 : r ≤ 2000 * (k : Int) := hr2
  by_cases hlt : k < L.length
  · obtain ⟨b, off, rfl, hb, hc⟩ := IL_look hA hlt
    have hS := fun w => istep_v t (L.getD k 0) w hu.1
    have hx := hu.1
    unfold Lo.safe at hx
    by_cases hok : t.okStep (L.getD k 0)
    · have hn := Lo.upto_suc hu hlt hok
      have hy := hn.1
      unfold Lo.safe at hy
      rw [tr_yes hok] at hS
      generalize t.step (L.getD k 0) = t2 at *
      (repeat' ((conv => whnf); first | refine go ?_ | (refine VSome.mk ?_; intro gQ hA'; first | subst hA' | cases hA' | (dsimp only at hA'; subst hA')) | refine And.intro ?_ ?_ | intro _ | (first | ((show VCall _ _ _ 176 _ _); refine VCall.grow _ (fun w1 _ => hS w1) ?_) | ((show VIn _ _); refine VIn.mk (by split <;> omega) (by split <;> omega) ?_))))
      all_goals (conv => whnf)
      all_goals (refine VNext.mk (k + 1, t2, r + (if t2.level - t.level < 0 then 0 else t2.level - t.level)) ⟨hlt, hn, ?_, ?_⟩ (by show L.length - (k + 1) < L.length - k; omega) ?_ (OwnLe.mk [0, 1] (by simp) rfl))
      all_goals first
        | (((conv => whnf); repeat (first | exact trivial | refine ⟨rfl, ?_⟩ | refine ⟨congrArg (Value.int .i64) (by first | omega | assumption | exact Eq.symm (by assumption)), ?_⟩)); done)
        | (show (0 : Int) ≤ r + (if _ < _ then _ else _); split <;> omega)
        | (show r + (if _ < _ then _ else _) ≤ 2000 * ((k + 1 : Nat) : Int); split <;> omega)
    · rw [tr_no hok] at hS
      have hn := Lo.upto_no hu hlt hok
      generalize t.step (L.getD k 0) = t2 at *
      (repeat' ((conv => whnf); first | refine go ?_ | (refine VSome.mk ?_; intro gQ hA'; first | subst hA' | cases hA' | (dsimp only at hA'; subst hA')) | refine And.intro ?_ ?_ | intro _ | (first | ((show VCall _ _ _ 176 _ _); refine VCall.grow _ (fun w1 _ => hS w1) ?_))))
      all_goals ((conv => whnf); refine VRet.mk fun w' m => ?_)
      all_goals exact ⟨r, trivial, by rw [hn]; rfl, m.keeps.below⟩
  · obtain rfl : k = L.length := by omega
    have hn := Lo.upto_end hu
    (repeat' ((conv => whnf); first | refine go ?_ | (refine VSome.mk ?_; intro gQ hA'; first | subst hA' | cases hA' | (dsimp only at hA'; subst hA')) | refine And.intro ?_ ?_ | intro _))
    (conv => whnf); refine VRet.mk fun w' m => ?_
    exact ⟨r, trivial, by rw [hn]; rfl, m.keeps.below⟩
set_option maxHeartbeats 4000000 in
theorem srun_v (s : Lo) (A : Option Addr) (c : Nat) (L : List Int) (w : World) (hs : s.safe) (hl : L.length ≤ 1048576) (hA : Seen w A (IL L)) : Calls Tryz.prog 132 #[.agg s.cells.toArray, .slice A L.length c] w fun e w' => ∃ r : Int, True ∧ Post (s.runV r (s.run L)) w e w' := by
  refine some_of_vc ?_
  refine calls_of_vc tb_ok (args := [.agg s.cells.toArray, .slice A L.length c]) Tryz.func132 rfl ?_
  (repeat' ((conv => whnf); first | refine go ?_ | (refine VSome.mk ?_; intro gQ hA'; first | subst hA' | cases hA' | (dsimp only at hA'; subst hA')) | refine And.intro ?_ ?_ | intro _))
  (conv => whnf)
  rename_i g2 g4
  refine VLoop.mk (ι := Nat × Lo × Int) [5, 6, 7, 8, 9, 10, 11, 12, 13, 14, 15, 16, 17, 18, 19, 20, 21, 22, 23, 24, 25, 26, 27, 28, 29, 30, 31, 32, 33, 34, 35, 36, 37, 38, 39] (fun (k, t, r) => [(8, .int .i64 (k : Nat)), (7, .int .i64 r)]) (fun (k, t, r) => [.blk g2 34 t.cells, .blk g4 34 Lo.zero.cells]) (fun i => i.1 ≤ L.length ∧ s.upto L i.1 i.2.1 ∧ 0 ≤ i.2.2 ∧ i.2.2 ≤ 2000 * (i.1 : Int)) (fun i => L.length - i.1) (0, s, 0) ⟨Nat.zero_le _, Lo.upto_0 hs, Int.le_refl _, by show (0 : Int) ≤ _; omega⟩ ?_ (OwnLe.mk [0, 1] (by simp) rfl) (fun i u hi => ?_)
  · ((conv => whnf); repeat (first | exact trivial | refine ⟨rfl, ?_⟩ | refine ⟨congrArg (Value.int .i64) (by first | omega | assumption | exact Eq.symm (by assumption)), ?_⟩))
  obtain ⟨k, t, r⟩ := i
  obtain ⟨hk, hu, hr1, hr2⟩ := hi
  replace hk : k ≤ L.length := hk
  replace hu : s.upto L k t := hu
  replace hr1 : 0 ≤ r := hr1
  replace hr2 : r ≤ 2000 * (k : Int) := hr2
  by_cases hlt : k < L.length
  · obtain ⟨b, off, rfl, hb, hc⟩ := IL_look hA hlt
    have hS := fun w => sStep_v t (L.getD k 0) w
    have hx := hu.1
    unfold Lo.safe at hx
    by_cases hok : t.okStep (L.getD k 0)
    · have hn := Lo.upto_suc hu hlt hok
      have hy := hn.1
      unfold Lo.safe at hy
      rw [tr_yes hok] at hS
      generalize t.step (L.getD k 0) = t2 at *
      have hm : 0 ≤ mx 0 (t2.level - t.level) ∧ mx 0 (t2.level - t.level) ≤ 2000 := by unfold mx; split <;> omega
      (repeat' ((conv => whnf); first | refine go ?_ | (refine VSome.mk ?_; intro gQ hA'; first | subst hA' | cases hA' | (dsimp only at hA'; subst hA')) | refine And.intro ?_ ?_ | intro _ | (first | ((show VCall _ _ _ 133 _ _); refine VCall.grow _ (fun w1 _ => hS w1) ?_) | ((show VCall _ _ _ 166 _ _); refine VCall.grow _ (fun w1 _ => l1Most_v _ _ w1) ?_) | ((show VDraw _ _ _ _ _ _); refine VDraw.mk (.take 0 (.take 1 (.take 2 (.take 3 (.take 4 (.br 5 (.take 6 (.take 7 (.take 8 (.br 9 (.br 10 (.take 11 .done) .done) .done)))) (.br 9 (.br 5 (.take 6 (.take 7 (.take 8 (.br 10 (.take 11 .done) .done)))) .done) .done))))))) [0] (by kernel_rfl) (by kernel_rfl) ?_))))
      all_goals (conv => whnf)
      all_goals (refine VNext.mk (k + 1, t2, r + mx 0 (t2.level - t.level)) ⟨hlt, hn, by show (0 : Int) ≤ r + _; omega, by show r + _ ≤ 2000 * ((k + 1 : Nat) : Int); omega⟩ (by show L.length - (k + 1) < L.length - k; omega) ?_ (OwnLe.mk [0, 1] (by simp) rfl))
      all_goals (((conv => whnf); repeat (first | exact trivial | refine ⟨rfl, ?_⟩ | refine ⟨congrArg (Value.int .i64) (by first | omega | assumption | exact Eq.symm (by assumption)), ?_⟩)))
    · rw [tr_no hok] at hS
      have hn := Lo.upto_no hu hlt hok
      generalize t.step (L.getD k 0) = t2 at *
      (repeat' ((conv => whnf); first | refine go ?_ | (refine VSome.mk ?_; intro gQ hA'; first | subst hA' | cases hA' | (dsimp only at hA'; subst hA')) | refine And.intro ?_ ?_ | intro _ | (first | ((show VCall _ _ _ 133 _ _); refine VCall.grow _ (fun w1 _ => hS w1) ?_) | ((show VDraw _ _ _ _ _ _); refine VDraw.mk (.take 0 (.take 1 (.take 2 (.take 3 (.take 4 (.br 5 (.take 6 (.take 7 (.take 8 (.br 9 (.br 10 (.take 11 .done) .done) .done)))) (.br 9 (.br 5 (.take 6 (.take 7 (.take 8 (.br 10 (.take 11 .done) .done)))) .done) .done))))))) [0] (by kernel_rfl) (by kernel_rfl) ?_))))
      all_goals ((conv => whnf); refine VRet.mk fun w' m => ?_)
      all_goals exact ⟨r, trivial, by rw [hn]; rfl, m.keeps.below⟩
  · obtain rfl : k = L.length := by omega
    have hn := Lo.upto_end hu
    (repeat' ((conv => whnf); first | refine go ?_ | (refine VSome.mk ?_; intro gQ hA'; first | subst hA' | cases hA' | (dsimp only at hA'; subst hA')) | refine And.intro ?_ ?_ | intro _))
    (conv => whnf); refine VRet.mk fun w' m => ?_
    exact ⟨r, trivial, by rw [hn]; rfl, m.keeps.below⟩
set_option maxHeartbeats 1600000 in
theorem iRun_v (s : Lo) (A : Option Addr) (c : Nat) (L : List Int) (w : World) (hs : s.safe) (hl : L.length ≤ 60) (hA : Seen w A (IL L)) : Calls Tryz.prog 143 #[.agg s.cells.toArray, .slice A L.length c] w (Post (.tuple #[.agg (s.run L).1.cells.toArray, .int .i64 ((s.run L).2 : Nat), .bool true]) w) := by
  have hS := fun w => iSafe_v s w
  rw [tr_yes hs] at hS
  refine post_of_vc ?_
  refine calls_of_vc tb_ok (args := [.agg s.cells.toArray, .slice A L.length c]) Tryz.func143 rfl ?_
  (repeat' ((conv => whnf); first | refine go ?_ | (refine VSome.mk ?_; intro gQ hA'; first | subst hA' | cases hA' | (dsimp only at hA'; subst hA')) | refine And.intro ?_ ?_ | intro _ | (first | ((show VCall _ _ _ 87 _ _); refine VCall.grow _ (fun w1 _ => hS w1) ?_) | ((show VCall _ _ _ 178 _ _); refine VCall.some _ _ (fun w1 m1 => irun_v s A c L w1 hs (by omega) seenA) (fun r _ => ?_)))))
  all_goals ((conv => whnf); refine VRet.mk fun w' m => ?_)
  all_goals exact ⟨rfl, m.keeps.below⟩
def planM (s : Lo) (h : Bool) (M : Nat) : List Int := if s.gate h then [] else ((if s.gate (!h) then [5 - cGate h] else []) ++ (if s.pad (!h) then [13 - cPad h] else []) ++ (if 0 < M ∧ s.pad h = false then [cPad h] else [])) ++ List.replicate M 9 ++ [cGate h]
def preM (s : Lo) (h : Bool) (M : Nat) : List Int := ((if s.gate (!h) then [5 - cGate h] else []) ++ (if s.pad (!h) then [13 - cPad h] else []) ++ (if 0 < M ∧ s.pad h = false then [cPad h] else []))
theorem plan_M (s : Lo) (h : Bool) : s.plan h = planM s h (s.mins h) := rfl
theorem rep_suc (k : Nat) (l : List Int) : l ++ List.replicate k 9 ++ [9] = l ++ List.replicate (k + 1) 9 := by
  rw [List.replicate_succ', List.append_assoc]
theorem IL_snoc (L : List Int) (x : Int) : IL L ++ [.int .i64 x] = IL (L ++ [x]) := (IL_app L [x]).symm
set_option maxHeartbeats 16000000 in
theorem iPlan_v (s : Lo) (h : Bool) (w : World) (hs : s.safe) : Calls Tryz.prog 142 #[.agg s.cells.toArray, .bool h] w fun e w' => ∃ v, e = .returned v ∧ RetV (ι := Option Addr × Nat × Nat × List Int) (fun (P, c, n, L) => L = s.plan h ∧ n = L.length) (fun (P, c, n, L) => .tuple #[.slice P n c, .bool true]) (fun (P, c, n, L) => [.row (.slice P n c) 3 1 n (IL L)]) (Base.of w) v w' := by
  have hS := fun w => iSafe_v s w
  rw [tr_yes hs] at hS
  have hM := fun w => iMins_v s h w hs
  have h40 := Lo.mins_le (h := h) hs
  rw [plan_M]
  generalize s.mins h = M at *
  obtain ⟨N, hN⟩ : ∃ N, M = N := ⟨_, rfl⟩
  obtain ⟨Q, hQ⟩ : ∃ Q, preM s h M = Q := ⟨_, rfl⟩
  obtain ⟨R, hR⟩ : ∃ R, planM s h M = R := ⟨_, rfl⟩
  obtain ⟨G, hG⟩ : ∃ G, cGate h = G := ⟨_, rfl⟩
  have hRQ : s.gate h = true ∨ R = Q ++ List.replicate N 9 ++ [G] := by
    cases hg : s.gate h
    · right
      rw [← hR, ← hQ, ← hN, ← hG]
      unfold planM preM
      rw [hg]
      rfl
    · exact .inl rfl
  have hQ3 : Q.length ≤ 3 := by
    rw [← hQ]
    unfold preM
    simp only [List.length_append]
    split <;> split <;> split <;> simp
  rw [hR]
  obtain ⟨a, b, v, g1, g2, p1, p2⟩ := s
  cases h <;> cases g1 <;> cases g2 <;> cases p1 <;> cases p2
  all_goals first | (exfalso; revert hs; simp [Lo.safe]; done) | skip
  all_goals cases M
  all_goals (refine calls_of_vc tb_ok (args := [.agg (Lo.cells ⟨a, b, v, _, _, _, _⟩).toArray, .bool _]) Tryz.func142 rfl ?_)
  all_goals ((repeat' ((conv => whnf); first | refine go ?_ | (refine VSome.mk ?_; intro gQ hA'; first | subst hA' | cases hA' | (dsimp only at hA'; subst hA')) | refine And.intro ?_ ?_ | intro _ | (first | ((show VCall _ _ _ 87 _ _); refine VCall.grow _ (fun w1 _ => hS w1) ?_) | ((show VCall _ _ _ 177 _ _); refine VCall.grow _ (fun w1 _ => hM w1) ?_) | ((show VDraw _ _ _ #[{ dst := some 16, op := _, type := _, pos := _, after := _, guard := _ }, _, _, _, _, _, _, _, _, _, _, _] _ _); refine VDraw.mk (.take 0 (.take 1 (.take 2 (.take 3 (.take 4 (.take 5 (.take 6 (.take 7 (.take 8 (.take 9 (.take 10 (.take 11 .done)))))))))))) [0] (by kernel_rfl) (by kernel_rfl) ?_) | ((show VDraw _ _ _ #[{ dst := some 26, op := _, type := _, pos := _, after := _, guard := _ }, _, _, _, _, _, _, _, _, _, _, _] _ _); refine VDraw.mk (.take 0 (.take 1 (.take 2 (.take 3 (.take 4 (.take 5 (.take 6 (.take 7 (.take 8 (.take 9 (.take 10 (.take 11 .done)))))))))))) [0] (by kernel_rfl) (by kernel_rfl) ?_) | ((show VApp _ _ _ _ _ _ _); (apply VApp.pushAny; (focus ((repeat (first | exact At.here | apply At.there)); done)); (focus ((repeat (first | exact At.here | apply At.there)); done)); refine VAppPush.mk rfl rfl (by omega) (fun A' c' => ?_))) | ((show VIdxA _ _ _ _ _ _); first | refine VIdxA.mk 0 rfl (by decide) ?_ | refine VIdxA.mk 1 rfl (by decide) ?_ | refine VIdxA.mk 2 rfl (by decide) ?_ | refine VIdxA.mk 3 rfl (by decide) ?_)))))
  all_goals (conv => whnf)
  all_goals first
    | ((show VRet _ _ _ _); exact VRet.sel (_, 0, 0, []) ⟨by rw [← hR]; rfl, rfl⟩ rfl [2] (by simp) rfl)
    | (have hR2 : R = Q ++ List.replicate N 9 ++ [G] := by
        rcases hRQ with hx | hx
        · cases hx
        · exact hx
       cases hG
       refine VLoop.mk (ι := Nat × List Int × Nat × Option Addr × Nat) [11, 65, 66, 67, 68, 69, 70] (fun (k, L, n, P, c) => [(65, .int .i64 k), (11, .slice P n c)]) (fun (k, L, n, P, c) => [.row (.slice P n c) 3 1 n (IL L), .blk _ 204 _]) (fun i => i.1 ≤ N ∧ i.2.1 = Q ++ List.replicate i.1 9 ∧ i.2.2.1 = i.2.1.length) (fun i => 50 - i.1) (0, Q ++ [], _, _, _) ⟨Nat.zero_le _, rfl, ?_⟩ ?_ (OwnLe.mk [2, 1] (by simp) (by rw [← hQ]; rfl)) (fun i u hi => ?_))
  all_goals first | (rw [← hQ]; rfl) | (((conv => whnf); repeat (first | exact trivial | refine ⟨rfl, ?_⟩ | refine ⟨congrArg (Value.int .i64) (by first | omega | assumption | exact Eq.symm (by assumption)), ?_⟩)); done) | skip
  all_goals obtain ⟨k, L, n, P, c⟩ := i
  all_goals obtain ⟨hk, hL, hn⟩ := hi
  all_goals replace hk : k ≤ N := hk
  all_goals replace hL : L = Q ++ List.replicate k 9 := hL
  all_goals replace hn : n = L.length := hn
  all_goals have hn50 : n ≤ 50 := by rw [hn, hL, List.length_append, List.length_replicate]; omega
  all_goals by_cases hlt : k < N
  all_goals first
    | (exfalso; omega; done)
    | (have hlt : k < N := hlt
       (repeat' ((conv => whnf); first | refine go ?_ | (refine VSome.mk ?_; intro gQ hA'; first | subst hA' | cases hA' | (dsimp only at hA'; subst hA')) | refine And.intro ?_ ?_ | intro _ | (first | ((show VApp _ _ _ _ _ _ _); (apply VApp.pushAny; (focus ((repeat (first | exact At.here | apply At.there)); done)); (focus ((repeat (first | exact At.here | apply At.there)); done)); refine VAppPush.mk rfl rfl (by omega) (fun A' c' => ?_))))))
       (conv => whnf)
       refine VNext.mk (k + 1, L ++ [9], n + 1, _, _) ⟨hlt, by show L ++ [9] = Q ++ List.replicate (k + 1) 9; rw [hL, rep_suc], by show n + 1 = (L ++ [9]).length; rw [List.length_append, hn]; rfl⟩ (by show 50 - (k + 1) < 50 - k; omega) ?_ (OwnLe.mk [0, 1] (by simp) (by first | (dsimp only; rw [← IL_snoc]; rfl) | (rw [← IL_snoc]; rfl)))
       ((conv => whnf); repeat (first | exact trivial | refine ⟨rfl, ?_⟩ | refine ⟨congrArg (Value.int .i64) (by first | omega | assumption | exact Eq.symm (by assumption)), ?_⟩)))
    | (have hkN : k = N := by omega
       subst hkN
       (repeat' ((conv => whnf); first | refine go ?_ | (refine VSome.mk ?_; intro gQ hA'; first | subst hA' | cases hA' | (dsimp only at hA'; subst hA')) | refine And.intro ?_ ?_ | intro _ | (first | ((show VApp _ _ _ _ _ _ _); (apply VApp.pushAny; (focus ((repeat (first | exact At.here | apply At.there)); done)); (focus ((repeat (first | exact At.here | apply At.there)); done)); refine VAppPush.mk rfl rfl (by omega) (fun A' c' => ?_))) | ((show VIdxA _ _ _ _ _ _); refine VIdxA.mk 3 rfl (by decide) ?_))))
       (conv => whnf)
       refine VRet.sel (_, _, n + 1, L ++ [_]) ⟨by rw [hR2, hL], by show n + 1 = (L ++ [_]).length; rw [List.length_append, hn]; rfl⟩ rfl [0] (by simp) (by first | (dsimp only; rw [← IL_snoc]; rfl) | (rw [← IL_snoc]; rfl)))
end Go.Proofs.YtadjhkehfklmnaaGreatDoor
namespace Go.Proofs.YtadjhkehfklmnaaGreatDoor
set_option linter.unusedSimpArgs false
set_option linter.unusedVariables false
open Go.RowKit
set_option maxRecDepth 10000
theorem mv_both {f : Nat → Ba} {ka kb : Nat} {v : Int} (h : ¬ ka = kb) : bMv f ka kb v = upd (upd f ka { f ka with vol := (f ka).vol - v }) kb { f kb with vol := (f kb).vol + v } := by
  funext i
  by_cases h1 : i = kb
  · subst h1
    rw [upd_at, bMv_to rfl]
  · rw [upd_ne _ _ h1]
    by_cases h2 : i = ka
    · subst h2
      rw [upd_at, bMv_from (by omega) rfl]
    · rw [upd_ne _ _ h2, bMv_no (by omega) (by omega)]
theorem mv_from {f : Nat → Ba} {ka : Nat} {v : Int} : bMv f ka (-1) v = upd f ka { f ka with vol := (f ka).vol - v } := by
  funext i
  by_cases h2 : i = ka
  · subst h2
    rw [upd_at, bMv_from (by omega) rfl]
  · rw [upd_ne _ _ h2, bMv_no (by omega) (by omega)]
theorem mv_to {f : Nat → Ba} {kb : Nat} {v : Int} : bMv f (-1) kb v = upd f kb { f kb with vol := (f kb).vol + v } := by
  funext i
  by_cases h2 : i = kb
  · subst h2
    rw [upd_at, bMv_to rfl]
  · rw [upd_ne _ _ h2, bMv_no (by omega) (by omega)]
theorem ba_get {n : Nat} {f : Nat → Ba} {k : Nat} (hk : k < n) (o : Nat) (e : o = k * 3) : (BaS n f)[o]? = some (.int .i64 (f k).vol) := by
  have := rowsN_get (f := fun i => (f i).cells) (s := 3) (fun _ => rfl) n k 0 hk (by omega)
  subst e
  exact this
def flC (a b v : Int) : List Value := [.int .i64 a, .int .i64 b, .int .i64 v]
set_option maxHeartbeats 1600000 in
theorem isFlow_v (A : Option Addr) (n c : Nat) (f : Nat → Ba) (a b v : Int) (w : World) (hg : bGood n f) (hA : Seen w A (BaS n f)) :
    Calls Tryz.prog 181 #[.slice A n c, .agg (flC a b v).toArray] w (Post (.bool (tr (bFlow n a b v))) w) := by
  have hn := hg.2
  have hG := fun w hA => iBas_v A n c f w (by omega) hA
  rw [tr_yes hg] at hG
  refine post_of_vc ?_
  refine calls_of_vc tb_ok (args := [.slice A n c, .agg (flC a b v).toArray]) Tryz.func181 rfl ?_
  (repeat' ((conv => whnf); first | refine go ?_ | (refine VSome.mk ?_; intro gQ hA'; first | subst hA' | cases hA' | (dsimp only at hA'; subst hA')) | refine And.intro ?_ ?_ | intro _ | (first | ((show VCall _ _ _ 69 _ _); refine VCall.grow _ (fun w1 m1 => hG w1 seenA) ?_) | ((show VCall _ _ _ 80 _ _); refine VCall.test _ (fun w1 _ => inside_v _ _ _ w1) ?_))))
  all_goals ((conv => whnf); refine VRet.mk fun w' m => ?_)
  all_goals refine ⟨congrArg Value.bool ?_, m.keeps.below⟩
  all_goals first | (rw [tr_yes (by unfold bFlow; omega)]; done) | (rw [tr_no (by unfold bFlow; omega)]; done)
set_option maxHeartbeats 1600000 in
theorem l10Flow_v (n : Nat) (a b v : Int) (w : World) (hn : n ≤ 1048576) :
    Calls Tryz.prog 192 #[.int .i64 n, .agg (flC a b v).toArray] w (Post (.bool (tr (bFlow n a b v))) w) := by
  refine post_of_vc ?_
  refine calls_of_vc tb_ok (args := [.int .i64 n, .agg (flC a b v).toArray]) Tryz.func192 rfl ?_
  (repeat' ((conv => whnf); first | refine go ?_ | (refine VSome.mk ?_; intro gQ hA'; first | subst hA' | cases hA' | (dsimp only at hA'; subst hA')) | refine And.intro ?_ ?_ | intro _ | (first | ((show VCall _ _ _ 109 _ _); refine VCall.test _ (fun w1 _ => l1In_v _ _ _ w1) ?_))))
  all_goals ((conv => whnf); refine VRet.mk fun w' m => ?_)
  all_goals refine ⟨congrArg Value.bool ?_, m.keeps.below⟩
  all_goals first | (rw [tr_yes (by unfold bFlow; omega)]; done) | (rw [tr_no (by unfold bFlow; omega)]; done)
set_option maxHeartbeats 8000000 in
theorem iMove_v (A : Option Addr) (n c : Nat) (f : Nat → Ba) (a b v : Int) (w : World) (hg : bGood n f) (hf : bFlow n a b v) (hA : Seen w A (BaS n f)) :
    Calls Tryz.prog 182 #[.slice A n c, .agg (flC a b v).toArray] w fun e w' => ∃ v9, e = .returned v9 ∧ RetV (ι := Nat × Nat) (fun _ => True) (fun (g, c') => .slice (some ⟨g, 0, none⟩) n c') (fun (g, c') => [.row (.slice (some ⟨g, 0, none⟩) n c') 96 3 n (BaS n (bMv f a b v))]) (Base.of w) v9 w' := by
  have hn := hg.2
  obtain ⟨ha, hb, hab, hv⟩ := hf
  have hca : a = -1 ∨ ∃ k : Nat, a = k ∧ k < n := by
    rcases Int.lt_or_le a 0 with h | h
    · left; omega
    · exact .inr ⟨a.toNat, by omega, by omega⟩
  have hcb : b = -1 ∨ ∃ k : Nat, b = k ∧ k < n := by
    rcases Int.lt_or_le b 0 with h | h
    · left; omega
    · exact .inr ⟨b.toNat, by omega, by omega⟩
  rcases hca with rfl | ⟨ka, rfl, hka⟩
  · rcases hcb with rfl | ⟨kb, rfl, hkb⟩
    · exact absurd rfl hab
    · have hq := hg.1 kb hkb
      unfold Ba.ok at hq
      have q1 : (BaS n f)[0 + mulS kb 3 + 0]? = some (.int .i64 (f kb).vol) := ba_get hkb _ (by rw [mulS_eq]; omega)
      refine calls_of_vc tb_ok (args := [.slice A n c, .agg (flC (-1) kb v).toArray]) Tryz.func182 rfl ?_
      (repeat' ((conv => whnf); first | refine go ?_ | (refine VSome.mk ?_; intro gQ hA'; first | subst hA' | cases hA' | (dsimp only at hA'; subst hA')) | refine And.intro ?_ ?_ | intro _ | (first | ((show VApp _ _ _ _ _ _ _); refine VApp.copy 1 rfl rfl hA (BaS.len _ _) (by show 0 < n * 3; omega) (BaS.one _ _) (by omega) (fun g' c' => ?_)) | ((show VDraw _ _ _ #[{ dst := some 26, op := _, type := _, pos := _, after := _, guard := _ }, _, _, _, _, _, _, _, _, _, _, _] _ _); refine VDraw.mk (.take 0 (.take 1 (.take 2 (.take 3 (.take 4 (.take 6 (.take 7 (.br 5 (.take 8 (.take 9 (.take 10 (.br 11 .done .done)))) .done)))))))) [0] (by kernel_rfl) (by kernel_rfl) ?_) | ((show VStore _ _ _ _ _ _); refine VStore.rowAt 1 (kb * 3) (by show 0 + mulS kb 3 + 0 = kb * 3; rw [mulS_eq]; omega) rfl rfl (by rw [BaS.len]; show kb * 3 + 1 ≤ n * 3; omega) rfl ?_))))
      all_goals (conv => whnf)
      all_goals (refine VRet.mk fun w' m => ⟨(g', c'), trivial, rfl, ?_⟩; rw [ba_cell n f kb hkb, ← mv_to] at m; exact m.sel (ks := [1]) (by simp))
  · rcases hcb with rfl | ⟨kb, rfl, hkb⟩
    · have hq := hg.1 ka hka
      unfold Ba.ok at hq
      have q1 : (BaS n f)[0 + mulS ka 3 + 0]? = some (.int .i64 (f ka).vol) := ba_get hka _ (by rw [mulS_eq]; omega)
      refine calls_of_vc tb_ok (args := [.slice A n c, .agg (flC ka (-1) v).toArray]) Tryz.func182 rfl ?_
      (repeat' ((conv => whnf); first | refine go ?_ | (refine VSome.mk ?_; intro gQ hA'; first | subst hA' | cases hA' | (dsimp only at hA'; subst hA')) | refine And.intro ?_ ?_ | intro _ | (first | ((show VApp _ _ _ _ _ _ _); refine VApp.copy 1 rfl rfl hA (BaS.len _ _) (by show 0 < n * 3; omega) (BaS.one _ _) (by omega) (fun g' c' => ?_)) | ((show VDraw _ _ _ #[{ dst := some 12, op := _, type := _, pos := _, after := _, guard := _ }, _, _, _, _, _, _, _, _, _, _, _] _ _); refine VDraw.mk (.take 0 (.take 1 (.take 2 (.take 3 (.take 4 (.take 6 (.take 7 (.br 5 (.take 8 (.take 9 (.take 10 (.br 11 .done .done)))) .done)))))))) [0] (by kernel_rfl) (by kernel_rfl) ?_) | ((show VStore _ _ _ _ _ _); refine VStore.rowAt 1 (ka * 3) (by show 0 + mulS ka 3 + 0 = ka * 3; rw [mulS_eq]; omega) rfl rfl (by rw [BaS.len]; show ka * 3 + 1 ≤ n * 3; omega) rfl ?_))))
      all_goals (conv => whnf)
      all_goals (refine VRet.mk fun w' m => ⟨(g', c'), trivial, rfl, ?_⟩; rw [ba_cell n f ka hka, ← mv_from] at m; exact m.sel (ks := [1]) (by simp))
    · have hne : ¬ ka = kb := fun h => hab (by rw [h])
      have hq := hg.1 ka hka
      have hq2 := hg.1 kb hkb
      unfold Ba.ok at hq hq2
      have q1 : (BaS n f)[0 + mulS ka 3 + 0]? = some (.int .i64 (f ka).vol) := ba_get hka _ (by rw [mulS_eq]; omega)
      have q2 : (setRange (BaS n f) (ka * 3) [.int .i64 ((f ka).vol - v)])[0 + mulS kb 3 + 0]? = some (.int .i64 (f kb).vol) := by
        rw [ba_cell n f ka hka, ba_get hkb _ (by rw [mulS_eq]; omega), upd_ne _ _ (fun h => hne h.symm)]
      refine calls_of_vc tb_ok (args := [.slice A n c, .agg (flC ka kb v).toArray]) Tryz.func182 rfl ?_
      (repeat' ((conv => whnf); first | refine go ?_ | (refine VSome.mk ?_; intro gQ hA'; first | subst hA' | cases hA' | (dsimp only at hA'; subst hA')) | refine And.intro ?_ ?_ | intro _ | (first | ((show VApp _ _ _ _ _ _ _); refine VApp.copy 1 rfl rfl hA (BaS.len _ _) (by show 0 < n * 3; omega) (BaS.one _ _) (by omega) (fun g' c' => ?_)) | ((show VDraw _ _ _ #[{ dst := some 12, op := _, type := _, pos := _, after := _, guard := _ }, _, _, _, _, _, _, _, _, _, _, _] _ _); refine VDraw.mk (.take 0 (.take 1 (.take 2 (.take 3 (.take 4 (.take 6 (.take 7 (.br 5 (.take 8 (.take 9 (.take 10 (.br 11 .done .done)))) .done)))))))) [0] (by kernel_rfl) (by kernel_rfl) ?_) | ((show VDraw _ _ _ #[{ dst := some 26, op := _, type := _, pos := _, after := _, guard := _ }, _, _, _, _, _, _, _, _, _, _, _] _ _); refine VDraw.mk (.take 0 (.take 1 (.take 2 (.take 3 (.take 4 (.take 6 (.take 7 (.br 5 (.take 8 (.take 9 (.take 10 (.br 11 .done .done)))) .done)))))))) [0] (by kernel_rfl) (by kernel_rfl) ?_) | ((show VStore _ _ _ _ _ _); first | refine VStore.rowAt 1 (ka * 3) (by show 0 + mulS ka 3 + 0 = ka * 3; rw [mulS_eq]; omega) rfl rfl (by rw [BaS.len]; show ka * 3 + 1 ≤ n * 3; omega) rfl ?_ | refine VStore.rowAt 1 (kb * 3) (by show 0 + mulS kb 3 + 0 = kb * 3; rw [mulS_eq]; omega) rfl rfl (by rw [setRange_length, BaS.len]; show kb * 3 + 1 ≤ n * 3; omega) rfl ?_))))
      all_goals (conv => whnf)
      all_goals (refine VRet.mk fun w' m => ⟨(g', c'), trivial, rfl, ?_⟩; rw [ba_cell n f ka hka] at m; have e9 : { f kb with vol := (f kb).vol + v } = { (upd f ka { f ka with vol := (f ka).vol - v }) kb with vol := (f kb).vol + v } := (by rw [upd_ne _ _ (fun h => hne h.symm)]); rw [ba_cell n _ kb hkb, ← e9, ← mv_both hne] at m; exact m.sel (ks := [1]) (by simp))
end Go.Proofs.YtadjhkehfklmnaaGreatDoor
namespace Go.Proofs.YtadjhkehfklmnaaGreatDoor
set_option linter.unusedSimpArgs false
set_option linter.unusedVariables false
open Go.RowKit
set_option maxRecDepth 10000
def mixB (g f : Nat → Ba) (k i : Nat) : Ba := if i < k then g i else f i
theorem mixB_0 (g f : Nat → Ba) : mixB g f 0 = f := by funext i; exact if_neg (Nat.not_lt_zero i)
theorem mixB_at (g f : Nat → Ba) (k : Nat) : mixB g f k k = f k := if_neg (Nat.lt_irrefl k)
theorem mixB_suc (g f : Nat → Ba) (k : Nat) : upd (mixB g f k) k (g k) = mixB g f (k + 1) := by
  funext i
  by_cases h : i = k
  · subst h
    rw [upd_at]
    exact (if_pos (Nat.lt_succ_self _)).symm
  · rw [upd_ne _ _ h]
    unfold mixB
    by_cases h2 : i < k
    · rw [if_pos h2, if_pos (by omega)]
    · rw [if_neg h2, if_neg (by omega)]
theorem mixB_all (g f : Nat → Ba) (n : Nat) : BaS n (mixB g f n) = BaS n g := BaS.congr fun i hi => if_pos hi
theorem ba_elem {n : Nat} {f : Nat → Ba} {k : Nat} (hk : k < n) (j : Nat) (u : Value) (hu : (f k).cells[j]? = some u) : (BaS n f)[mulS k 3 + j]? = some u := by
  have hj : j < 3 := by
    rcases Nat.lt_or_ge j 3 with h | h
    · exact h
    · rw [List.getElem?_eq_none h] at hu; cases hu
  rw [mulS_eq]
  have := rowsN_get (f := fun i => (f i).cells) (s := 3) (fun _ => rfl) n k j hk hj
  exact this.trans hu
set_option maxHeartbeats 8000000 in
theorem sMove_v (A : Option Addr) (n c : Nat) (f : Nat → Ba) (a b v : Int) (w : World) (hg : bGood n f) (hf : bFlow n a b v) (hA : Seen w A (BaS n f)) :
    Calls Tryz.prog 193 #[.slice A n c, .agg (flC a b v).toArray] w fun e w' => ∃ v9, e = .returned v9 ∧ RetV (ι := Nat × Nat) (fun _ => True) (fun (g, c') => .slice (some ⟨g, 0, none⟩) n c') (fun (g, c') => [.row (.slice (some ⟨g, 0, none⟩) n c') 96 3 n (BaS n (bMv f a b v))]) (Base.of w) v9 w' := by
  have hn := hg.2
  obtain ⟨ha, hb, hab, hv⟩ := hf
  refine calls_of_vc tb_ok (args := [.slice A n c, .agg (flC a b v).toArray]) Tryz.func193 rfl ?_
  (repeat' ((conv => whnf); first | refine go ?_ | (refine VSome.mk ?_; intro gQ hA'; first | subst hA' | cases hA' | (dsimp only at hA'; subst hA')) | refine And.intro ?_ ?_ | intro _ | (first | ((show VApp _ _ _ _ _ _ _); refine VApp.copy 1 rfl rfl hA (BaS.len _ _) (by show 0 < n * 3; omega) (BaS.one _ _) (by omega) (fun g' c' => ?_)))))
  (conv => whnf)
  rename_i g3 _
  refine VLoop.mk (ι := Nat) [6, 7, 11, 12, 13, 14, 15, 16, 17, 18, 19, 20, 21, 22, 23, 24, 25, 26, 27, 28, 29, 30, 31, 32, 33, 34, 35, 36, 37, 38, 39, 40, 41, 42, 43, 44] (fun k => [(6, .int .i64 k)]) (fun k => [.blk g3 132 (flC a b v), .row (.slice (some ⟨g', 0, none⟩) n c') 96 3 n (BaS n (mixB (bMv f a b v) f k))]) (fun k => k ≤ n) (fun k => n - k) 0 (Nat.zero_le _) ?_ (OwnLe.mk [0, 1] (by simp) (by rw [mixB_0]; rfl)) (fun k u hk => ?_)
  · ((conv => whnf); repeat (first | exact trivial | refine ⟨rfl, ?_⟩ | refine ⟨congrArg (Value.int .i64) (by first | omega | assumption | exact Eq.symm (by assumption)), ?_⟩))
  by_cases hlt : k < n
  · have hq := hg.1 k hlt
    unfold Ba.ok at hq
    have hel := fun j u hu => ba_elem (f := mixB (bMv f a b v) f k) hlt j u (by rw [mixB_at]; exact hu)
    have hst : ∀ x : Ba, x = bMv f a b v k → setRange (BaS n (mixB (bMv f a b v) f k)) (k * 3) x.cells = BaS n (mixB (bMv f a b v) f (k + 1)) := fun x hx => by rw [hx, ba_row n _ k hlt, mixB_suc]
    (repeat' ((conv => whnf); first | refine go ?_ | (refine VSome.mk ?_; intro gQ hA'; first | subst hA' | cases hA' | (dsimp only at hA'; subst hA')) | refine And.intro ?_ ?_ | intro _ | (first | ((show VLoadN _ _ _ _ _ _); refine VLoadN.row (vs := (f k).cells) 1 rfl rfl (fun j u hj => hel j u hj) ?_) | ((show VStore _ _ _ _ _ _); refine VStore.rowAt 1 (k * 3) (by show mulS k 3 = k * 3; rw [mulS_eq]) rfl rfl (by rw [BaS.len]; show k * 3 + 3 ≤ n * 3; omega) rfl ?_))))
    all_goals (conv => whnf)
    all_goals first
      | (exfalso; omega; done)
      | (refine VNext.mk (k + 1) hlt (by omega) ?_ (OwnLe.mk [0, 1] (by simp) (by rw [← hst { f k with vol := (f k).vol - v } (bMv_from (by omega) (by omega)).symm]; rfl)); ((conv => whnf); repeat (first | exact trivial | refine ⟨rfl, ?_⟩ | refine ⟨congrArg (Value.int .i64) (by first | omega | assumption | exact Eq.symm (by assumption)), ?_⟩)); done)
      | (refine VNext.mk (k + 1) hlt (by omega) ?_ (OwnLe.mk [0, 1] (by simp) (by rw [← hst { f k with vol := (f k).vol + v } (bMv_to (by omega)).symm]; rfl)); ((conv => whnf); repeat (first | exact trivial | refine ⟨rfl, ?_⟩ | refine ⟨congrArg (Value.int .i64) (by first | omega | assumption | exact Eq.symm (by assumption)), ?_⟩)); done)
      | (refine VNext.mk (k + 1) hlt (by omega) ?_ (OwnLe.mk [0, 1] (by simp) (by rw [← hst (f k) (bMv_no (by omega) (by omega)).symm]; rfl)); ((conv => whnf); repeat (first | exact trivial | refine ⟨rfl, ?_⟩ | refine ⟨congrArg (Value.int .i64) (by first | omega | assumption | exact Eq.symm (by assumption)), ?_⟩)); done)
  · obtain rfl : n = k := by omega
    (repeat' ((conv => whnf); first | refine go ?_ | (refine VSome.mk ?_; intro gQ hA'; first | subst hA' | cases hA' | (dsimp only at hA'; subst hA')) | refine And.intro ?_ ?_ | intro _))
    (conv => whnf)
    refine VRet.mk fun w' m => ⟨(g', c'), trivial, rfl, ?_⟩
    rw [mixB_all] at m
    exact m.sel (ks := [1]) (by simp)
set_option maxHeartbeats 4000000 in
theorem iMoveW_v (A : Option Addr) (n c : Nat) (f : Nat → Ba) (a b v : Int) (w : World) (hg : bGood n f) (hf : bCan n f a b v) (hA : Seen w A (BaS n f)) :
    Calls Tryz.prog 146 #[.slice A n c, .agg (flC a b v).toArray] w fun e w' => ∃ v9, e = .returned v9 ∧ RetV (ι := Nat × Nat) (fun _ => True) (fun (g, c') => .tuple #[.slice (some ⟨g, 0, none⟩) n c', .bool true]) (fun (g, c') => [.row (.slice (some ⟨g, 0, none⟩) n c') 96 3 n (BaS n (bMv f a b v))]) (Base.of w) v9 w' := by
  have hn := hg.2
  have hF := fun w hA => isFlow_v A n c f a b v w hg hA
  rw [tr_yes hf.2.1] at hF
  have hG := fun A c w hA => iBas_v A n c (bMv f a b v) w (by omega) hA
  rw [tr_yes hf.2.2] at hG
  refine calls_of_vc tb_ok (args := [.slice A n c, .agg (flC a b v).toArray]) Tryz.func146 rfl ?_
  (repeat' ((conv => whnf); first | refine go ?_ | (refine VSome.mk ?_; intro gQ hA'; first | subst hA' | cases hA' | (dsimp only at hA'; subst hA')) | refine And.intro ?_ ?_ | intro _ | (first | ((show VCall _ _ _ 181 _ _); refine VCall.grow _ (fun w1 m1 => hF w1 seenA) ?_) | ((show VCall _ _ _ 182 _ _); refine VCall.ret (fun w1 m1 => iMove_v A n c f a b v w1 hg hf.2.1 seenA) (fun i _ => ?_); obtain ⟨g, c'⟩ := i) | ((show VCall _ _ _ 69 _ _); refine VCall.grow _ (fun w1 m1 => hG _ _ w1 seenA) ?_))))
  (conv => whnf)
  exact VRet.sel (g, c') trivial rfl [1] (by simp) rfl
theorem iMoveW_no (A : Option Addr) (n c : Nat) (f : Nat → Ba) (a b v : Int) (w : World) (hg : bGood n f) (hf : ¬ bCan n f a b v) (hA : Seen w A (BaS n f)) :
    Calls Tryz.prog 146 #[.slice A n c, .agg (flC a b v).toArray] w (Post (.tuple #[.slice none 0 0, .bool false]) w) := by
  have hn := hg.2
  have hF := fun w hA => isFlow_v A n c f a b v w hg hA
  have hG := fun A c w hA => iBas_v A n c (bMv f a b v) w (by omega) hA
  refine post_of_vc ?_
  refine calls_of_vc tb_ok (args := [.slice A n c, .agg (flC a b v).toArray]) Tryz.func146 rfl ?_
  by_cases h1 : bFlow n a b v
  · have h2 : ¬ bGood n (bMv f a b v) := fun h => hf ⟨hg, h1, h⟩
    rw [tr_yes h1] at hF
    rw [tr_no h2] at hG
    (repeat' ((conv => whnf); first | refine go ?_ | (refine VSome.mk ?_; intro gQ hA'; first | subst hA' | cases hA' | (dsimp only at hA'; subst hA')) | refine And.intro ?_ ?_ | intro _ | (first | ((show VCall _ _ _ 181 _ _); refine VCall.grow _ (fun w1 m1 => hF w1 seenA) ?_) | ((show VCall _ _ _ 182 _ _); refine VCall.ret (fun w1 m1 => iMove_v A n c f a b v w1 hg h1 seenA) (fun i _ => ?_); obtain ⟨g, c'⟩ := i) | ((show VCall _ _ _ 69 _ _); refine VCall.grow _ (fun w1 m1 => hG _ _ w1 seenA) ?_))))
    (conv => whnf); refine VRet.mk fun w' m => ?_
    exact ⟨rfl, m.keeps.below⟩
  · rw [tr_no h1] at hF
    (repeat' ((conv => whnf); first | refine go ?_ | (refine VSome.mk ?_; intro gQ hA'; first | subst hA' | cases hA' | (dsimp only at hA'; subst hA')) | refine And.intro ?_ ?_ | intro _ | (first | ((show VCall _ _ _ 181 _ _); refine VCall.grow _ (fun w1 m1 => hF w1 seenA) ?_))))
    (conv => whnf); refine VRet.mk fun w' m => ?_
    exact ⟨rfl, m.keeps.below⟩
set_option maxHeartbeats 4000000 in
theorem sMoveW_v (A : Option Addr) (n c : Nat) (f : Nat → Ba) (a b v : Int) (w : World) (hg : bGood n f) (hf : bCan n f a b v) (hA : Seen w A (BaS n f)) :
    Calls Tryz.prog 158 #[.slice A n c, .agg (flC a b v).toArray] w fun e w' => ∃ v9, e = .returned v9 ∧ RetV (ι := Nat × Nat) (fun _ => True) (fun (g, c') => .tuple #[.slice (some ⟨g, 0, none⟩) n c', .bool true]) (fun (g, c') => [.row (.slice (some ⟨g, 0, none⟩) n c') 96 3 n (BaS n (bMv f a b v))]) (Base.of w) v9 w' := by
  have hn := hg.2
  have hF := fun w => l10Flow_v n a b v w (by omega)
  rw [tr_yes hf.2.1] at hF
  have hG0 := fun w hA => sBas_v A n c f w (by omega) hA
  rw [tr_yes hg] at hG0
  have hG := fun A c w hA => sBas_v A n c (bMv f a b v) w (by omega) hA
  rw [tr_yes hf.2.2] at hG
  refine calls_of_vc tb_ok (args := [.slice A n c, .agg (flC a b v).toArray]) Tryz.func158 rfl ?_
  (repeat' ((conv => whnf); first | refine go ?_ | (refine VSome.mk ?_; intro gQ hA'; first | subst hA' | cases hA' | (dsimp only at hA'; subst hA')) | refine And.intro ?_ ?_ | intro _ | (first | ((show VCall _ _ _ 192 _ _); refine VCall.grow _ (fun w1 m1 => hF w1) ?_) | ((show VCall _ _ _ 193 _ _); refine VCall.ret (fun w1 m1 => sMove_v A n c f a b v w1 hg hf.2.1 seenA) (fun i _ => ?_); obtain ⟨g, c'⟩ := i) | ((show VCall _ _ _ 72 [.slice A n c] _); refine VCall.grow _ (fun w1 m1 => hG0 w1 seenA) ?_) | ((show VCall _ _ _ 72 [.slice (some ⟨_, 0, none⟩) n _] _); refine VCall.grow _ (fun w1 m1 => hG _ _ w1 seenA) ?_))))
  (conv => whnf)
  exact VRet.sel (g, c') trivial rfl [2] (by simp) rfl
theorem sMoveW_no (A : Option Addr) (n c : Nat) (f : Nat → Ba) (a b v : Int) (w : World) (hg : bGood n f) (hf : ¬ bCan n f a b v) (hA : Seen w A (BaS n f)) :
    Calls Tryz.prog 158 #[.slice A n c, .agg (flC a b v).toArray] w fun e w' => ∃ g : Nat, True ∧ Post (.tuple #[.slice (some ⟨g, 0, none⟩) 0 0, .bool false]) w e w' := by
  have hn := hg.2
  have hF := fun w => l10Flow_v n a b v w (by omega)
  have hG0 := fun w hA => sBas_v A n c f w (by omega) hA
  rw [tr_yes hg] at hG0
  have hG := fun A c w hA => sBas_v A n c (bMv f a b v) w (by omega) hA
  refine some_of_vc ?_
  refine calls_of_vc tb_ok (args := [.slice A n c, .agg (flC a b v).toArray]) Tryz.func158 rfl ?_
  by_cases h1 : bFlow n a b v
  · have h2 : ¬ bGood n (bMv f a b v) := fun h => hf ⟨hg, h1, h⟩
    rw [tr_yes h1] at hF
    rw [tr_no h2] at hG
    (repeat' ((conv => whnf); first | refine go ?_ | (refine VSome.mk ?_; intro gQ hA'; first | subst hA' | cases hA' | (dsimp only at hA'; subst hA')) | refine And.intro ?_ ?_ | intro _ | (first | ((show VCall _ _ _ 192 _ _); refine VCall.grow _ (fun w1 m1 => hF w1) ?_) | ((show VCall _ _ _ 193 _ _); refine VCall.ret (fun w1 m1 => sMove_v A n c f a b v w1 hg h1 seenA) (fun i _ => ?_); obtain ⟨g, c'⟩ := i) | ((show VCall _ _ _ 72 [.slice A n c] _); refine VCall.grow _ (fun w1 m1 => hG0 w1 seenA) ?_) | ((show VCall _ _ _ 72 [.slice (some ⟨_, 0, none⟩) n _] _); refine VCall.grow _ (fun w1 m1 => hG _ _ w1 seenA) ?_))))
    (conv => whnf); refine VRet.mk fun w' m => ?_
    exact ⟨_, trivial, rfl, m.keeps.below⟩
  · rw [tr_no h1] at hF
    (repeat' ((conv => whnf); first | refine go ?_ | (refine VSome.mk ?_; intro gQ hA'; first | subst hA' | cases hA' | (dsimp only at hA'; subst hA')) | refine And.intro ?_ ?_ | intro _ | (first | ((show VCall _ _ _ 192 _ _); refine VCall.grow _ (fun w1 m1 => hF w1) ?_) | ((show VCall _ _ _ 72 _ _); refine VCall.grow _ (fun w1 m1 => hG0 w1 seenA) ?_))))
    (conv => whnf); refine VRet.mk fun w' m => ?_
    exact ⟨_, trivial, rfl, m.keeps.below⟩
set_option maxHeartbeats 1600000 in
theorem iTotal_v (A : Option Addr) (n c : Nat) (f : Nat → Ba) (w : World) (hg : bGood n f) (hA : Seen w A (BaS n f)) :
    Calls Tryz.prog 147 #[.slice A n c] w (Post (.tuple #[.int .i64 (smI (fun i => (f i).vol) n), .bool true]) w) := by
  have hn := hg.2
  have hG := fun w hA => iBas_v A n c f w (by omega) hA
  rw [tr_yes hg] at hG
  refine post_of_vc ?_
  refine calls_of_vc tb_ok (args := [.slice A n c]) Tryz.func147 rfl ?_
  (repeat' ((conv => whnf); first | refine go ?_ | (refine VSome.mk ?_; intro gQ hA'; first | subst hA' | cases hA' | (dsimp only at hA'; subst hA')) | refine And.intro ?_ ?_ | intro _ | (first | ((show VCall _ _ _ 69 _ _); refine VCall.grow _ (fun w1 m1 => hG w1 seenA) ?_))))
  (conv => whnf)
  refine VLoop.mk (ι := Nat) [4, 6, 12, 13, 14, 15, 16, 17, 18, 19, 20] (fun k => [(12, .int .i64 k), (4, .int .i64 (smI (fun i => (f i).vol) k))]) (fun _ => []) (fun k => k ≤ n) (fun k => n - k) 0 (Nat.zero_le _) ?_ (OwnLe.mk [] (by simp) rfl) (fun k u hk => ?_)
  · ((conv => whnf); repeat (first | exact trivial | refine ⟨rfl, ?_⟩ | refine ⟨congrArg (Value.int .i64) (by first | omega | assumption | exact Eq.symm (by assumption)), ?_⟩))
  have hv := vols_in hg k hk
  by_cases hlt : k < n
  · obtain ⟨b, off, rfl, hb, hr, h0, _⟩ := BaS.look hA hlt
    have hq := hg.1 k hlt
    unfold Ba.ok at hq
    have hs : smI (fun i => (f i).vol) (k + 1) = smI (fun i => (f i).vol) k + (f k).vol := rfl
    (repeat' ((conv => whnf); first | refine go ?_ | (refine VSome.mk ?_; intro gQ hA'; first | subst hA' | cases hA' | (dsimp only at hA'; subst hA')) | refine And.intro ?_ ?_ | intro _))
    (conv => whnf)
    refine VNext.mk (k + 1) hlt (by omega) ?_ (OwnLe.mk [] (by simp) rfl)
    ((conv => whnf); repeat (first | exact trivial | refine ⟨rfl, ?_⟩ | refine ⟨congrArg (Value.int .i64) (by first | omega | assumption | exact Eq.symm (by assumption)), ?_⟩))
  · obtain rfl : k = n := by omega
    (repeat' ((conv => whnf); first | refine go ?_ | (refine VSome.mk ?_; intro gQ hA'; first | subst hA' | cases hA' | (dsimp only at hA'; subst hA')) | refine And.intro ?_ ?_ | intro _))
    (conv => whnf); refine VRet.mk fun w' m => ?_
    exact ⟨rfl, m.keeps.below⟩
set_option maxHeartbeats 1600000 in
theorem sTotal_v (A : Option Addr) (n c : Nat) (f : Nat → Ba) (w : World) (hg : bGood n f) (hA : Seen w A (BaS n f)) :
    Calls Tryz.prog 119 #[.slice A n c] w (Post (.tuple #[.int .i64 (smI (fun i => (f i).vol) n), .bool true]) w) := by
  have hn := hg.2
  have hG := fun w hA => sBas_v A n c f w (by omega) hA
  rw [tr_yes hg] at hG
  refine post_of_vc ?_
  refine calls_of_vc tb_ok (args := [.slice A n c]) Tryz.func119 rfl ?_
  (repeat' ((conv => whnf); first | refine go ?_ | (refine VSome.mk ?_; intro gQ hA'; first | subst hA' | cases hA' | (dsimp only at hA'; subst hA')) | refine And.intro ?_ ?_ | intro _ | (first | ((show VCall _ _ _ 72 _ _); refine VCall.grow _ (fun w1 m1 => hG w1 seenA) ?_))))
  (conv => whnf)
  refine VLoop.mk (ι := Nat) [4, 5, 9, 10, 11, 12, 13, 14, 15, 16, 17, 18, 19, 20, 21] (fun k => [(5, .int .i64 k), (4, .int .i64 (smI (fun i => (f i).vol) k))]) (fun _ => []) (fun k => k ≤ n) (fun k => n - k) 0 (Nat.zero_le _) ?_ (OwnLe.mk [] (by simp) rfl) (fun k u hk => ?_)
  · ((conv => whnf); repeat (first | exact trivial | refine ⟨rfl, ?_⟩ | refine ⟨congrArg (Value.int .i64) (by first | omega | assumption | exact Eq.symm (by assumption)), ?_⟩))
  have hv := vols_in hg k hk
  by_cases hlt : k < n
  · obtain ⟨b, off, rfl, hb, hr, h0, _⟩ := BaS.look hA hlt
    have hq := hg.1 k hlt
    unfold Ba.ok at hq
    have hs : smI (fun i => (f i).vol) (k + 1) = smI (fun i => (f i).vol) k + (f k).vol := rfl
    (repeat' ((conv => whnf); first | refine go ?_ | (refine VSome.mk ?_; intro gQ hA'; first | subst hA' | cases hA' | (dsimp only at hA'; subst hA')) | refine And.intro ?_ ?_ | intro _))
    (conv => whnf)
    refine VNext.mk (k + 1) hlt (by omega) ?_ (OwnLe.mk [] (by simp) rfl)
    ((conv => whnf); repeat (first | exact trivial | refine ⟨rfl, ?_⟩ | refine ⟨congrArg (Value.int .i64) (by first | omega | assumption | exact Eq.symm (by assumption)), ?_⟩))
  · obtain rfl : k = n := by omega
    (repeat' ((conv => whnf); first | refine go ?_ | (refine VSome.mk ?_; intro gQ hA'; first | subst hA' | cases hA' | (dsimp only at hA'; subst hA')) | refine And.intro ?_ ?_ | intro _))
    (conv => whnf); refine VRet.mk fun w' m => ?_
    exact ⟨rfl, m.keeps.below⟩
end Go.Proofs.YtadjhkehfklmnaaGreatDoor
