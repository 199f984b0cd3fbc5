/-
  Texts joined: how the calls that the law reaches are walked, and the plain laws behind them.
  Conditions: none beyond each statement's own premises.
-/
import Derived.Test.YtadjhkehfklmnaaGreatDoorMx16
namespace Go.Proofs.YtadjhkehfklmnaaGreatDoor
set_option linter.unusedSimpArgs false
set_option linter.unusedVariables false
open Go.RowKit
set_option maxRecDepth 10000
set_option maxHeartbeats 16000000 in
theorem sPlan_v (s : Lo) (h : Bool) (w : World) (hs : s.safe) : Calls Tryz.prog 154 #[.agg s.cells.toArray, .bool h] w fun e w' => ∃ v, e = .returned v ∧ RetV (ι := Option Addr × Nat × Nat × List Int) (fun (P, c, n, L) => L = s.plan h ∧ n = L.length) (fun (P, c, n, L) => .tuple #[.slice P n c, .bool true]) (fun (P, c, n, L) => [.row (.slice P n c) 3 1 n (IL L)]) (Base.of w) v w' := by
  have hS := fun w => sSafe_v s w
  rw [tr_yes hs] at hS
  have hM := fun w => sMins_v s h w hs
  have h40 := Lo.mins_le (h := h) hs
  rw [plan_M]
  generalize s.mins h = M at *
  obtain ⟨N, hN⟩ : ∃ N, M = N := ⟨_, rfl⟩
  obtain ⟨Q, hQ⟩ : ∃ Q, preM s h M = Q := ⟨_, rfl⟩
  obtain ⟨R, hR⟩ : ∃ R, planM s h M = R := ⟨_, rfl⟩
  obtain ⟨G, hG⟩ : ∃ G, cGate h = G := ⟨_, rfl⟩
  have hRQ : s.gate h = true ∨ R = Q ++ List.replicate N 9 ++ [G] := by
    cases hg : s.gate h
    · right
      rw [← hR, ← hQ, ← hN, ← hG]
      unfold planM preM
      rw [hg]
      rfl
    · exact .inl rfl
  have hQ3 : Q.length ≤ 3 := by
    rw [← hQ]
    unfold preM
    simp only [List.length_append]
    split <;> split <;> split <;> simp
  rw [hR]
  obtain ⟨a, b, v, g1, g2, p1, p2⟩ := s
  cases h <;> cases g1 <;> cases g2 <;> cases p1 <;> cases p2
  all_goals first | (exfalso; revert hs; simp [Lo.safe]; done) | skip
  all_goals cases M
  all_goals (refine calls_of_vc tb_ok (args := [.agg (Lo.cells ⟨a, b, v, _, _, _, _⟩).toArray, .bool _]) Tryz.func154 rfl ?_)
  all_goals ((repeat' ((conv => whnf); first | refine go ?_ | (refine VSome.mk ?_; intro gQ hA'; first | subst hA' | cases hA' | (dsimp only at hA'; subst hA')) | refine And.intro ?_ ?_ | intro _ | (first | ((show VCall _ _ _ 91 _ _); refine VCall.grow _ (fun w1 _ => hS w1) ?_) | ((show VCall _ _ _ 190 _ _); refine VCall.grow _ (fun w1 _ => hM w1) ?_) | ((show VDraw _ _ _ #[{ dst := some 20, op := _, type := _, pos := _, after := _, guard := _ }, _, _, _, _, _, _, _] _ _); refine VDraw.mk (.take 0 (.take 1 (.take 2 (.take 3 (.take 4 (.take 5 (.take 6 (.take 7 .done)))))))) [0] (by kernel_rfl) (by kernel_rfl) ?_) | ((show VDraw _ _ _ #[{ dst := some 24, op := _, type := _, pos := _, after := _, guard := _ }, _, _, _, _, _] _ _); refine VDraw.mk (.take 0 (.take 1 (.take 2 (.take 3 (.take 4 (.take 5 .done)))))) [0] (by kernel_rfl) (by kernel_rfl) ?_) | ((show VApp _ _ _ _ _ _ _); (apply VApp.pushAny; (focus ((repeat (first | exact At.here | apply At.there)); done)); (focus ((repeat (first | exact At.here | apply At.there)); done)); refine VAppPush.mk rfl rfl (by omega) (fun A' c' => ?_))) | ((show VIdxA _ _ _ _ _ _); first | refine VIdxA.mk 0 rfl (by decide) ?_ | refine VIdxA.mk 1 rfl (by decide) ?_ | refine VIdxA.mk 2 rfl (by decide) ?_ | refine VIdxA.mk 3 rfl (by decide) ?_)))))
  all_goals (conv => whnf)
  all_goals first
    | ((show VRet _ _ _ _); exact VRet.sel (_, 0, 0, []) ⟨by rw [← hR]; rfl, rfl⟩ rfl [1] (by simp) rfl)
    | (have hR2 : R = Q ++ List.replicate N 9 ++ [G] := by
        rcases hRQ with hx | hx
        · cases hx
        · exact hx
       cases hG
       refine VLoop.mk (ι := Nat × List Int × Nat × Option Addr × Nat) [6, 14, 64, 65, 66, 67, 68, 69, 70, 71] (fun (k, L, n, P, c) => [(14, .int .i64 k), (6, .slice P n c)]) (fun (k, L, n, P, c) => [.row (.slice P n c) 3 1 n (IL L)]) (fun i => i.1 ≤ N ∧ i.2.1 = Q ++ List.replicate i.1 9 ∧ i.2.2.1 = i.2.1.length) (fun i => 50 - i.1) (0, Q ++ [], _, _, _) ⟨Nat.zero_le _, rfl, ?_⟩ ?_ (OwnLe.mk [1] (by simp) (by rw [← hQ]; rfl)) (fun i u hi => ?_))
  all_goals first | (rw [← hQ]; rfl) | (((conv => whnf); repeat (first | exact trivial | refine ⟨rfl, ?_⟩ | refine ⟨congrArg (Value.int .i64) (by first | omega | assumption | exact Eq.symm (by assumption)), ?_⟩)); done) | skip
  all_goals obtain ⟨k, L, n, P, c⟩ := i
  all_goals obtain ⟨hk, hL, hn⟩ := hi
  all_goals replace hk : k ≤ N := hk
  all_goals replace hL : L = Q ++ List.replicate k 9 := hL
  all_goals replace hn : n = L.length := hn
  all_goals have hn50 : n ≤ 50 := by rw [hn, hL, List.length_append, List.length_replicate]; omega
  all_goals by_cases hlt : k < N
  all_goals first
    | (exfalso; omega; done)
    | (have hlt : k < N := hlt
       (repeat' ((conv => whnf); first | refine go ?_ | (refine VSome.mk ?_; intro gQ hA'; first | subst hA' | cases hA' | (dsimp only at hA'; subst hA')) | refine And.intro ?_ ?_ | intro _ | (first | ((show VApp _ _ _ _ _ _ _); (apply VApp.pushAny; (focus ((repeat (first | exact At.here | apply At.there)); done)); (focus ((repeat (first | exact At.here | apply At.there)); done)); refine VAppPush.mk rfl rfl (by omega) (fun A' c' => ?_))))))
       (conv => whnf)
       refine VNext.mk (k + 1, L ++ [9], n + 1, _, _) ⟨hlt, by show L ++ [9] = Q ++ List.replicate (k + 1) 9; rw [hL, rep_suc], by show n + 1 = (L ++ [9]).length; rw [List.length_append, hn]; rfl⟩ (by show 50 - (k + 1) < 50 - k; omega) ?_ (OwnLe.mk [0] (by simp) (by first | (dsimp only; rw [← IL_snoc]; rfl) | (rw [← IL_snoc]; rfl)))
       ((conv => whnf); repeat (first | exact trivial | refine ⟨rfl, ?_⟩ | refine ⟨congrArg (Value.int .i64) (by first | omega | assumption | exact Eq.symm (by assumption)), ?_⟩)))
    | (have hkN : k = N := by omega
       subst hkN
       (repeat' ((conv => whnf); first | refine go ?_ | (refine VSome.mk ?_; intro gQ hA'; first | subst hA' | cases hA' | (dsimp only at hA'; subst hA')) | refine And.intro ?_ ?_ | intro _ | (first | ((show VApp _ _ _ _ _ _ _); (apply VApp.pushAny; (focus ((repeat (first | exact At.here | apply At.there)); done)); (focus ((repeat (first | exact At.here | apply At.there)); done)); refine VAppPush.mk rfl rfl (by omega) (fun A' c' => ?_))) | ((show VIdxA _ _ _ _ _ _); refine VIdxA.mk 3 rfl (by decide) ?_))))
       (conv => whnf)
       refine VRet.sel (_, _, n + 1, L ++ [_]) ⟨by rw [hR2, hL], by show n + 1 = (L ++ [_]).length; rw [List.length_append, hn]; rfl⟩ rfl [0] (by simp) (by first | (dsimp only; rw [← IL_snoc]; rfl) | (rw [← IL_snoc]; rfl)))
end Go.Proofs.YtadjhkehfklmnaaGreatDoor
namespace Go.Proofs.YtadjhkehfklmnaaGreatDoor
set_option linter.unusedSimpArgs false
set_option linter.unusedVariables false
open Go.RowKit
set_option maxRecDepth 10000
set_option maxHeartbeats 4000000 in
theorem sStep28_yes (d : Co) (A1 : Option Addr) (c1 : Nat) (A2 : Option Addr) (c2 : Nat) (x : Int) (w : World) (h : d.lock.okStep x) :
    Calls Tryz.prog 124 #[.agg (d.at A1 c1 A2 c2).toArray, .int .i64 x] w (Post (.tuple #[.agg (({ d with lock := d.lock.move x } : Co).at A1 c1 A2 c2).toArray, .string (tx wOk)]) w) := by
  have hS := fun w => sStep_v d.lock x w
  rw [Lo.step_yes h, tr_yes h] at hS
  refine post_of_vc ?_
  refine calls_of_vc tb_ok (args := [.agg (d.at A1 c1 A2 c2).toArray, .int .i64 x]) Tryz.func124 rfl ?_
  (repeat' ((conv => whnf); first | refine go ?_ | (refine VSome.mk ?_; intro gQ hA'; first | subst hA' | cases hA' | (dsimp only at hA'; subst hA')) | refine And.intro ?_ ?_ | intro _ | (first | ((show VCall _ _ _ 133 _ _); refine VCall.grow _ (fun w1 m1 => hS w1) ?_))))
  all_goals ((conv => whnf); refine VRet.mk fun w' m => ?_)
  all_goals exact ⟨rfl, m.keeps.below⟩
set_option maxHeartbeats 4000000 in
theorem sStep28_no (d : Co) (A1 : Option Addr) (c1 : Nat) (A2 : Option Addr) (c2 : Nat) (x : Int) (w : World) (h : ¬ d.lock.okStep x) :
    Calls Tryz.prog 124 #[.agg (d.at A1 c1 A2 c2).toArray, .int .i64 x] w (Post (.tuple #[.agg (d.at A1 c1 A2 c2).toArray, .string (tx wAsk)]) w) := by
  have hS := fun w => sStep_v d.lock x w
  rw [Lo.step_no h, tr_no h] at hS
  refine post_of_vc ?_
  refine calls_of_vc tb_ok (args := [.agg (d.at A1 c1 A2 c2).toArray, .int .i64 x]) Tryz.func124 rfl ?_
  (repeat' ((conv => whnf); first | refine go ?_ | (refine VSome.mk ?_; intro gQ hA'; first | subst hA' | cases hA' | (dsimp only at hA'; subst hA')) | refine And.intro ?_ ?_ | intro _ | (first | ((show VCall _ _ _ 133 _ _); refine VCall.grow _ (fun w1 m1 => hS w1) ?_))))
  all_goals ((conv => whnf); refine VRet.mk fun w' m => ?_)
  all_goals exact ⟨rfl, m.keeps.below⟩
theorem Co.sideV_plan (d : Co) (hi : Bool) : d.sideV wPlan hi = (d, ltx (d.lock.plan hi)) := rfl
theorem Co.sideV_head (d : Co) (hi : Bool) : d.sideV wHead hi = (d, Lib.itoa (d.lock.head hi)) := by unfold Co.sideV; rw [if_neg (by decide), if_pos rfl]
theorem Co.sideV_go (d : Co) (hi : Bool) : d.sideV wGo hi = ({ d with lock := (d.lock.run (d.lock.plan hi)).1 }, Lib.itoa (d.lock.run (d.lock.plan hi)).1.level) := by unfold Co.sideV; rw [if_neg (by decide), if_neg (by decide), if_pos rfl]
theorem Co.sideV_no (d : Co) (hi : Bool) {x : List UInt8} (h1 : ¬ x = wPlan) (h2 : ¬ x = wHead) (h3 : ¬ x = wGo) : d.sideV x hi = (d, wAsk) := by unfold Co.sideV; rw [if_neg h1, if_neg h2, if_neg h3]
set_option maxHeartbeats 8000000 in
theorem sSide_v (d : Co) (A1 : Option Addr) (c1 : Nat) (A2 : Option Addr) (c2 : Nat) (x : List UInt8) (hi : Bool) (w : World) (hs : d.lock.safe) :
    Calls Tryz.prog 120 #[.agg (d.at A1 c1 A2 c2).toArray, .string (tx x), .bool hi] w (Post (.tuple #[.agg ((d.sideV x hi).1.at A1 c1 A2 c2).toArray, .string (tx (d.sideV x hi).2)]) w) := by
  have hP := fun w => sPlan_v d.lock hi w hs
  refine post_of_vc ?_
  by_cases e1 : x = wPlan
  · subst e1
    rw [Co.sideV_plan]
    have hT := fun B c w hB => l28List_v B c (d.lock.plan hi) w (Nat.le_trans (Lo.plan_len hs) (by decide)) (fun x hx => by have := Lo.plan_in x hx; omega) hB
    cases hi
    all_goals (refine calls_of_vc tb_ok (args := [.agg (d.at A1 c1 A2 c2).toArray, .string (tx wPlan), .bool _]) Tryz.func120 rfl ?_)
    all_goals ((repeat' ((conv => whnf); first | refine go ?_ | (refine VSome.mk ?_; intro gQ hA'; first | subst hA' | cases hA' | (dsimp only at hA'; subst hA')) | refine And.intro ?_ ?_ | intro _ | (first | ((show VCall _ _ _ 154 _ _); refine VCall.ret (fun w1 m1 => hP w1) (fun i hi => ?_); obtain ⟨P, cp, n9, L9⟩ := i; obtain ⟨rfl, rfl⟩ := hi) | ((show VDraw _ _ _ #[{ dst := some 21, op := _, type := _, pos := _, after := _, guard := _ }, _, _, _, _] _ _); refine VDraw.mk (.take 0 (.take 1 (.br 2 (.br 3 (.take 4 .done) .done) .done))) [0] (by kernel_rfl) (by kernel_rfl) ?_) | ((show VDraw _ _ _ #[{ dst := some 26, op := _, type := _, pos := _, after := _, guard := _ }, _, _, _, _, _, _, _] _ _); refine VDraw.mk (.take 0 (.take 1 (.take 2 (.take 3 (.br 4 (.br 5 (.br 6 (.take 7 .done) .done) .done) .done))))) [0] (by kernel_rfl) (by kernel_rfl) ?_) | ((show VDraw _ _ _ #[{ dst := some 44, op := _, type := _, pos := _, after := _, guard := _ }, _, _, _, _, _, _] _ _); refine VDraw.mk (.take 0 (.take 1 (.take 2 (.take 3 (.br 4 (.br 5 (.take 6 .done) .done) .done))))) [0, 3] (by kernel_rfl) (by kernel_rfl) ?_) | ((show VCall _ _ _ 155 _ _); refine VCall.grow _ (fun w1 m1 => hT _ _ w1 (Sees.any m1 fndA)) ?_)))))
    all_goals ((conv => whnf); refine VRet.mk fun w' m => ?_)
    all_goals exact ⟨rfl, m.keeps.below⟩
  by_cases e2 : x = wHead
  · subst e2
    rw [Co.sideV_head]
    have hH := fun w => sHead_v d.lock hi w hs
    have hb := Lo.head_in hs hi
    generalize d.lock.head hi = hh at hH hb ⊢
    have hw1 : ¬ tx wHead = ({ data := #[112, 108, 97, 110] } : ByteArray) := by decide
    cases hi
    all_goals (refine calls_of_vc tb_ok (args := [.agg (d.at A1 c1 A2 c2).toArray, .string (tx wHead), .bool _]) Tryz.func120 rfl ?_)
    all_goals ((repeat' ((conv => whnf); first | refine go ?_ | (refine VSome.mk ?_; intro gQ hA'; first | subst hA' | cases hA' | (dsimp only at hA'; subst hA')) | refine And.intro ?_ ?_ | intro _ | (first | ((show VCall _ _ _ 154 _ _); refine VCall.ret (fun w1 m1 => hP w1) (fun i hi => ?_); obtain ⟨P, cp, n9, L9⟩ := i; obtain ⟨rfl, rfl⟩ := hi) | ((show VDraw _ _ _ #[{ dst := some 21, op := _, type := _, pos := _, after := _, guard := _ }, _, _, _, _] _ _); refine VDraw.mk (.take 0 (.take 1 (.br 2 (.br 3 (.take 4 .done) .done) .done))) [0] (by kernel_rfl) (by kernel_rfl) ?_) | ((show VDraw _ _ _ #[{ dst := some 26, op := _, type := _, pos := _, after := _, guard := _ }, _, _, _, _, _, _, _] _ _); refine VDraw.mk (.take 0 (.take 1 (.take 2 (.take 3 (.br 4 (.br 5 (.br 6 (.take 7 .done) .done) .done) .done))))) [0] (by kernel_rfl) (by kernel_rfl) ?_) | ((show VDraw _ _ _ #[{ dst := some 44, op := _, type := _, pos := _, after := _, guard := _ }, _, _, _, _, _, _] _ _); refine VDraw.mk (.take 0 (.take 1 (.take 2 (.take 3 (.br 4 (.br 5 (.take 6 .done) .done) .done))))) [0, 3] (by kernel_rfl) (by kernel_rfl) ?_) | ((show VCall _ _ _ 156 _ _); refine VCall.grow _ (fun w1 m1 => hH w1) ?_) | ((show VCall _ _ _ 61 _ _); refine VCall.grow _ (fun w1 m1 => l1NumZ_v _ w1 (by omega) (by omega)) ?_)))))
    all_goals ((conv => whnf); refine VRet.mk fun w' m => ?_)
    all_goals exact ⟨rfl, m.keeps.below⟩
  by_cases e3 : x = wGo
  · subst e3
    rw [Co.sideV_go]
    have hR := fun A c w hA => srun_v d.lock A c (d.lock.plan hi) w hs (Nat.le_trans (Lo.plan_len hs) (by decide)) hA
    have hsf := (Lo.run_safe hs (d.lock.plan hi)).1
    generalize d.lock.run (d.lock.plan hi) = s2 at hR hsf ⊢
    have hlv := hsf.1; have hlv2 := hsf.2.1; have hlv3 := hsf.2.2.1; have hlv4 := hsf.2.2.2.1
    have hw1 : ¬ tx wGo = ({ data := #[112, 108, 97, 110] } : ByteArray) := by decide
    have hw2 : ¬ tx wGo = ({ data := #[104, 101, 97, 100] } : ByteArray) := by decide
    cases hi
    all_goals (refine calls_of_vc tb_ok (args := [.agg (d.at A1 c1 A2 c2).toArray, .string (tx wGo), .bool _]) Tryz.func120 rfl ?_)
    all_goals ((repeat' ((conv => whnf); first | refine go ?_ | (refine VSome.mk ?_; intro gQ hA'; first | subst hA' | cases hA' | (dsimp only at hA'; subst hA')) | refine And.intro ?_ ?_ | intro _ | (first | ((show VCall _ _ _ 154 _ _); refine VCall.ret (fun w1 m1 => hP w1) (fun i hi => ?_); obtain ⟨P, cp, n9, L9⟩ := i; obtain ⟨rfl, rfl⟩ := hi) | ((show VDraw _ _ _ #[{ dst := some 21, op := _, type := _, pos := _, after := _, guard := _ }, _, _, _, _] _ _); refine VDraw.mk (.take 0 (.take 1 (.br 2 (.br 3 (.take 4 .done) .done) .done))) [0] (by kernel_rfl) (by kernel_rfl) ?_) | ((show VDraw _ _ _ #[{ dst := some 26, op := _, type := _, pos := _, after := _, guard := _ }, _, _, _, _, _, _, _] _ _); refine VDraw.mk (.take 0 (.take 1 (.take 2 (.take 3 (.br 4 (.br 5 (.br 6 (.take 7 .done) .done) .done) .done))))) [0] (by kernel_rfl) (by kernel_rfl) ?_) | ((show VDraw _ _ _ #[{ dst := some 44, op := _, type := _, pos := _, after := _, guard := _ }, _, _, _, _, _, _] _ _); refine VDraw.mk (.take 0 (.take 1 (.take 2 (.take 3 (.br 4 (.br 5 (.take 6 .done) .done) .done))))) [0, 3] (by kernel_rfl) (by kernel_rfl) ?_) | ((show VCall _ _ _ 132 _ _); refine VCall.some _ _ (fun w1 m1 => hR _ _ w1 (Sees.any m1 fndA)) (fun r9 _ => ?_)) | ((show VCall _ _ _ 61 _ _); refine VCall.grow _ (fun w1 m1 => l1NumZ_v _ w1 (by omega) (by omega)) ?_)))))
    all_goals ((conv => whnf); refine VRet.mk fun w' m => ?_)
    all_goals exact ⟨rfl, m.keeps.below⟩
  · rw [Co.sideV_no d hi e1 e2 e3]
    have hw1 : ¬ tx x = ({ data := #[112, 108, 97, 110] } : ByteArray) := fun q => e1 (tx_inj (q.trans (by rfl : _ = tx wPlan)))
    have hw2 : ¬ tx x = ({ data := #[104, 101, 97, 100] } : ByteArray) := fun q => e2 (tx_inj (q.trans (by rfl : _ = tx wHead)))
    have hw3 : ¬ tx x = ({ data := #[103, 111] } : ByteArray) := fun q => e3 (tx_inj (q.trans (by rfl : _ = tx wGo)))
    cases hi
    all_goals (refine calls_of_vc tb_ok (args := [.agg (d.at A1 c1 A2 c2).toArray, .string (tx x), .bool _]) Tryz.func120 rfl ?_)
    all_goals ((repeat' ((conv => whnf); first | refine go ?_ | (refine VSome.mk ?_; intro gQ hA'; first | subst hA' | cases hA' | (dsimp only at hA'; subst hA')) | refine And.intro ?_ ?_ | intro _ | (first | ((show VCall _ _ _ 154 _ _); refine VCall.ret (fun w1 m1 => hP w1) (fun i hi => ?_); obtain ⟨P, cp, n9, L9⟩ := i; obtain ⟨rfl, rfl⟩ := hi) | ((show VDraw _ _ _ #[{ dst := some 21, op := _, type := _, pos := _, after := _, guard := _ }, _, _, _, _] _ _); refine VDraw.mk (.take 0 (.take 1 (.br 2 (.br 3 (.take 4 .done) .done) .done))) [0] (by kernel_rfl) (by kernel_rfl) ?_) | ((show VDraw _ _ _ #[{ dst := some 26, op := _, type := _, pos := _, after := _, guard := _ }, _, _, _, _, _, _, _] _ _); refine VDraw.mk (.take 0 (.take 1 (.take 2 (.take 3 (.br 4 (.br 5 (.br 6 (.take 7 .done) .done) .done) .done))))) [0] (by kernel_rfl) (by kernel_rfl) ?_) | ((show VDraw _ _ _ #[{ dst := some 44, op := _, type := _, pos := _, after := _, guard := _ }, _, _, _, _, _, _] _ _); refine VDraw.mk (.take 0 (.take 1 (.take 2 (.take 3 (.br 4 (.br 5 (.take 6 .done) .done) .done))))) [0, 3] (by kernel_rfl) (by kernel_rfl) ?_)))))
    all_goals ((conv => whnf); refine VRet.mk fun w' m => ?_)
    all_goals exact ⟨rfl, m.keeps.below⟩
set_option maxHeartbeats 4000000 in
theorem sFlow28_yes (d : Co) (A1 : Option Addr) (c1 : Nat) (A2 : Option Addr) (c2 : Nat) (a b v : Int) (w : World) (hg : bGood d.n d.ba) (h : bCan d.n d.ba a b v) (hA : Seen w A1 (BaS d.n d.ba)) :
    Calls Tryz.prog 123 #[.agg (d.at A1 c1 A2 c2).toArray, .agg (flC a b v).toArray] w fun e w' => ∃ v9, e = .returned v9 ∧ RetV (ι := Nat × Nat) (fun _ => True) (fun (g, c') => .tuple #[.agg (({ d with ba := bMv d.ba a b v } : Co).at (some ⟨g, 0, none⟩) c' A2 c2).toArray, .string (tx wOk)]) (fun (g, c') => [.row (.slice (some ⟨g, 0, none⟩) d.n c') 96 3 d.n (BaS d.n (bMv d.ba a b v))]) (Base.of w) v9 w' := by
  have hM := fun A c w hA => sMoveW_v A d.n c d.ba a b v w hg h hA
  have hn := hg.2
  refine calls_of_vc tb_ok (args := [.agg (d.at A1 c1 A2 c2).toArray, .agg (flC a b v).toArray]) Tryz.func123 rfl ?_
  (repeat' ((conv => whnf); first | refine go ?_ | (refine VSome.mk ?_; intro gQ hA'; first | subst hA' | cases hA' | (dsimp only at hA'; subst hA')) | refine And.intro ?_ ?_ | intro _ | (first | ((show VCall _ _ _ 158 _ _); refine VCall.ret (fun w1 m1 => hM _ _ w1 seenA) (fun i hi => ?_); obtain ⟨g9, c9⟩ := i))))
  all_goals (conv => whnf)
  all_goals exact VRet.sel (g9, c9) trivial rfl [3] (by simp) rfl
set_option maxHeartbeats 4000000 in
theorem sFlow28_no (d : Co) (A1 : Option Addr) (c1 : Nat) (A2 : Option Addr) (c2 : Nat) (a b v : Int) (w : World) (hg : bGood d.n d.ba) (h : ¬ bCan d.n d.ba a b v) (hA : Seen w A1 (BaS d.n d.ba)) :
    Calls Tryz.prog 123 #[.agg (d.at A1 c1 A2 c2).toArray, .agg (flC a b v).toArray] w (Post (.tuple #[.agg (d.at A1 c1 A2 c2).toArray, .string (tx wAsk)]) w) := by
  have hM := fun A c w hA => sMoveW_no A d.n c d.ba a b v w hg h hA
  have hn := hg.2
  refine post_of_vc ?_
  refine calls_of_vc tb_ok (args := [.agg (d.at A1 c1 A2 c2).toArray, .agg (flC a b v).toArray]) Tryz.func123 rfl ?_
  (repeat' ((conv => whnf); first | refine go ?_ | (refine VSome.mk ?_; intro gQ hA'; first | subst hA' | cases hA' | (dsimp only at hA'; subst hA')) | refine And.intro ?_ ?_ | intro _ | (first | ((show VCall _ _ _ 158 _ _); refine VCall.some _ _ (fun w1 m1 => hM _ _ w1 seenA) (fun g9 _ => ?_)))))
  all_goals ((conv => whnf); refine VRet.mk fun w' m => ?_)
  all_goals exact ⟨rfl, m.keeps.below⟩
end Go.Proofs.YtadjhkehfklmnaaGreatDoor
namespace Go.Proofs.YtadjhkehfklmnaaGreatDoor
set_option linter.unusedSimpArgs false
set_option linter.unusedVariables false
open Go.RowKit
set_option maxRecDepth 10000
def Co.cells0 (_ : Co) : List Value := [.int .i64 0, .int .i64 0, .int .i64 0, .bool false, .bool false, .bool false, .bool false, .slice none 0 0, .slice none 0 0, .string ByteArray.empty, .string ByteArray.empty, .int .i64 0]
set_option maxHeartbeats 16000000 in
theorem sArrive_yes (d : Co) (A1 : Option Addr) (c1 : Nat) (A2 : Option Addr) (c2 : Nat) (a : Aw) (w : World) (hm : d.m ≤ 6) (h : aGood (d.m + 1) (insF d.wa (plc d.wa a.id d.m 0) a)) (hc : d.m ≤ c2) (hP : Plain A2) (hA : Seen w A2 (AwS d.m d.wa)) :
    Calls Tryz.prog 122 #[.agg (d.at A1 c1 A2 c2).toArray, .agg a.cells.toArray] w fun e w' => ∃ v9, e = .returned v9 ∧ RetV (ι := Option Addr × Nat) (fun _ => True) (fun (P, c') => .tuple #[.agg ((d.arr (plc d.wa a.id d.m 0) a).at A1 c1 P c').toArray, .string (tx wOk)]) (fun (P, c') => [.row (.slice P (d.m + 1) c') 98 4 (d.m + 1) (AwS (d.m + 1) (insF d.wa (plc d.wa a.id d.m 0) a))]) (Base.of w) v9 w' := by
  have hG := fun A c w hA => sArr_v A (d.m + 1) c (insF d.wa (plc d.wa a.id d.m 0) a) w (by omega) hA
  rw [tr_yes h] at hG
  clear h
  refine calls_of_vc tb_ok (args := [.agg (d.at A1 c1 A2 c2).toArray, .agg a.cells.toArray]) Tryz.func122 rfl ?_
  (repeat' ((conv => whnf); first | refine go ?_ | (refine VSome.mk ?_; intro gQ hA'; first | subst hA' | cases hA' | (dsimp only at hA'; subst hA')) | refine And.intro ?_ ?_ | intro _))
  (conv => whnf)
  rename_i gb ga gr
  refine VLoop.mk (ι := Nat) [6, 9, 10, 11, 12, 13, 14, 15, 16, 17, 18, 19, 20, 21, 22, 23, 24, 25, 26] (fun k => [(6, .int .i64 k)]) (fun _ => [.blk gb 39 (d.at A1 c1 A2 c2), .blk ga 98 a.cells, .blk gr 39 Co.zero.cells0]) (fun k => k ≤ d.m ∧ plc d.wa a.id d.m 0 = plc d.wa a.id (d.m - k) k) (fun k => d.m - k) 0 ⟨Nat.zero_le _, rfl⟩ ?_ (OwnLe.mk [0, 1, 2] (by simp) rfl) (fun k u hi => ?_)
  · ((conv => whnf); repeat (first | exact trivial | refine ⟨rfl, ?_⟩ | refine ⟨congrArg (Value.int .i64) (by first | omega | assumption | exact Eq.symm (by assumption)), ?_⟩))
  obtain ⟨hk, hp⟩ := hi
  by_cases hgo : k < d.m ∧ (d.wa k).id < a.id
  · obtain ⟨b, off, rfl, hb, hr, hi0, _⟩ := AwS.look hA hgo.1
    have h2 := hgo.1
    have h3 := hgo.2
    have e : d.m - k = (d.m - (k + 1)) + 1 := by omega
    (repeat' ((conv => whnf); first | refine go ?_ | (refine VSome.mk ?_; intro gQ hA'; first | subst hA' | cases hA' | (dsimp only at hA'; subst hA')) | refine And.intro ?_ ?_ | intro _ | (first | ((show VDraw _ _ _ #[{ dst := some 9, op := _, type := _, pos := _, after := _, guard := _ }, _, _, _, _, _, _, _, _, _, _, _, _, _, _, _] _ _); refine VDraw.mk (.take 0 (.take 1 (.take 2 (.take 3 (.take 4 (.take 5 (.take 6 (.take 7 (.take 8 (.take 9 (.take 10 (.take 11 (.take 12 (.take 13 (.take 14 (.take 15 .done)))))))))))))))) [0, 1] (by kernel_rfl) (by kernel_rfl) ?_))))
    all_goals (conv => whnf)
    all_goals (refine VNext.mk (k + 1) ⟨by omega, by rw [hp, e, plc_go h3]⟩ (by omega) ?_ (OwnLe.mk [0, 1, 2] (by simp) rfl); ((conv => whnf); repeat (first | exact trivial | refine ⟨rfl, ?_⟩ | refine ⟨congrArg (Value.int .i64) (by first | omega | assumption | exact Eq.symm (by assumption)), ?_⟩)))
  · have hpk : plc d.wa a.id d.m 0 = k := by
      rw [hp]
      rcases Nat.lt_or_ge k d.m with h | h
      · rw [show d.m - k = (d.m - (k + 1)) + 1 by omega, plc_stop (fun q => hgo ⟨h, q⟩)]
      · rw [show d.m - k = 0 by omega]; rfl
    rw [hpk] at hG ⊢
    clear hp
    by_cases h2 : k < d.m
    · obtain ⟨b, off, rfl, hb, hr, hi0, _⟩ := AwS.look hA h2
      have h3 : ¬ (d.wa k).id < a.id := fun q => hgo ⟨h2, q⟩
      (repeat' ((conv => whnf); first | refine go ?_ | (refine VSome.mk ?_; intro gQ hA'; first | subst hA' | cases hA' | (dsimp only at hA'; subst hA')) | refine And.intro ?_ ?_ | intro _ | (first | ((show VDraw _ _ _ #[{ dst := some 9, op := _, type := _, pos := _, after := _, guard := _ }, _, _, _, _, _, _, _, _, _, _, _, _, _, _, _] _ _); refine VDraw.mk (.take 0 (.take 1 (.take 2 (.take 3 (.take 4 (.take 5 (.take 6 (.take 7 (.take 8 (.take 9 (.take 10 (.take 11 (.take 12 (.take 13 (.take 14 (.take 15 .done)))))))))))))))) [0, 1] (by kernel_rfl) (by kernel_rfl) ?_) | ((show VDraw _ _ _ #[{ dst := some 27, op := _, type := _, pos := _, after := _, guard := _ }, _, _, _, _, _, _, _, _, _, _, _, _, _, _] _ _); refine VDraw.mk (.take 1 (.take 2 (.take 3 (.take 4 (.take 6 (.take 9 (.take 10 (.take 11 (.take 12 (.br 0 (.br 5 (.br 7 (.br 8 (.br 13 (.take 14 .done) .done) .done) .done) (.br 7 (.br 5 (.br 8 (.br 13 (.take 14 .done) .done) .done) .done) .done)) (.br 7 (.br 0 (.br 5 (.br 8 (.br 13 (.take 14 .done) .done) .done) .done) .done) .done))))))))))) [0, 1] (by kernel_rfl) (by kernel_rfl) ?_) | ((show VApp _ _ _ _ _ _ _); first | (apply VApp.pushAny; (focus ((repeat (first | exact At.here | apply At.there)); done)); (focus ((repeat (first | exact At.here | apply At.there)); done)); refine VAppPush.mk rfl rfl (by omega) (fun A' c' => ?_)) | (apply VApp.allAny; (focus ((repeat (first | exact At.here | apply At.there)); done)); refine VAppAll.as k ((AwS d.m d.wa).take (k * 4)) rfl (hA.head (k * 4)) hP (show ((AwS d.m d.wa).take (k * 4)).length = k * 4 by rw [List.length_take, AwS.len]; omega) (show 0 < 4 by omega) (all_take _ (AwS.one d.m d.wa)) (by omega) (Nat.zero_add k) rfl (fun A' c' => ?_)) | (apply VApp.allAny; (focus ((repeat (first | exact At.here | apply At.there)); done)); refine VAppAll.as (d.m + 1) (AwS (d.m + 1) (insF d.wa k a)) rfl (hA.tail hT (AwS.len d.m d.wa)) hPB (show ((AwS d.m d.wa).drop (k * 4)).length = (d.m - k) * 4 by rw [List.length_drop, AwS.len]; omega) (show 0 < 4 by omega) (all_drop _ (AwS.one d.m d.wa)) (by omega) (by omega) (rows_ins Aw.cells (fun _ => rfl) d.wa a hk) (fun A' c' => ?_))) | ((show VCut _ _ _ _ _ _ _); first | refine VCut.head k rfl (by omega) ?_ | refine VCut.tail k rfl hk hc hP (fun B dd hT hPB => ?_)) | ((show VCall _ _ _ 92 _ _); refine VCall.grow _ (fun w1 m1 => hG _ _ w1 (Sees.any m1 fndA)) ?_))))
      all_goals (conv => whnf); all_goals first | exact VRet.sel (A', c') trivial rfl [4] (by simp) rfl | exact VRet.sel (A', c') trivial rfl [5] (by simp) rfl | exact VRet.sel (A', c') trivial rfl [3] (by simp) rfl
    · have hkm : k = d.m := by omega
      (repeat' ((conv => whnf); first | refine go ?_ | (refine VSome.mk ?_; intro gQ hA'; first | subst hA' | cases hA' | (dsimp only at hA'; subst hA')) | refine And.intro ?_ ?_ | intro _ | (first | ((show VDraw _ _ _ #[{ dst := some 9, op := _, type := _, pos := _, after := _, guard := _ }, _, _, _, _, _, _, _, _, _, _, _, _, _, _, _] _ _); refine VDraw.mk (.take 0 (.take 1 (.take 2 (.take 3 (.take 4 (.take 5 (.take 6 (.take 7 (.take 8 (.take 9 (.take 10 (.take 11 (.take 12 (.take 13 (.take 14 (.take 15 .done)))))))))))))))) [0, 1] (by kernel_rfl) (by kernel_rfl) ?_) | ((show VDraw _ _ _ #[{ dst := some 27, op := _, type := _, pos := _, after := _, guard := _ }, _, _, _, _, _, _, _, _, _, _, _, _, _, _] _ _); refine VDraw.mk (.take 1 (.take 2 (.take 3 (.take 4 (.take 6 (.take 9 (.take 10 (.take 11 (.take 12 (.br 0 (.br 5 (.br 7 (.br 8 (.br 13 (.take 14 .done) .done) .done) .done) (.br 7 (.br 5 (.br 8 (.br 13 (.take 14 .done) .done) .done) .done) .done)) (.br 7 (.br 0 (.br 5 (.br 8 (.br 13 (.take 14 .done) .done) .done) .done) .done) .done))))))))))) [0, 1] (by kernel_rfl) (by kernel_rfl) ?_) | ((show VApp _ _ _ _ _ _ _); first | (apply VApp.pushAny; (focus ((repeat (first | exact At.here | apply At.there)); done)); (focus ((repeat (first | exact At.here | apply At.there)); done)); refine VAppPush.mk rfl rfl (by omega) (fun A' c' => ?_)) | (apply VApp.allAny; (focus ((repeat (first | exact At.here | apply At.there)); done)); refine VAppAll.as k ((AwS d.m d.wa).take (k * 4)) rfl (hA.head (k * 4)) hP (show ((AwS d.m d.wa).take (k * 4)).length = k * 4 by rw [List.length_take, AwS.len]; omega) (show 0 < 4 by omega) (all_take _ (AwS.one d.m d.wa)) (by omega) (Nat.zero_add k) rfl (fun A' c' => ?_)) | (apply VApp.allAny; (focus ((repeat (first | exact At.here | apply At.there)); done)); refine VAppAll.as (d.m + 1) (AwS (d.m + 1) (insF d.wa k a)) rfl (hA.tail hT (AwS.len d.m d.wa)) hPB (show ((AwS d.m d.wa).drop (k * 4)).length = (d.m - k) * 4 by rw [List.length_drop, AwS.len]; omega) (show 0 < 4 by omega) (all_drop _ (AwS.one d.m d.wa)) (by omega) (by omega) (rows_ins Aw.cells (fun _ => rfl) d.wa a hk) (fun A' c' => ?_))) | ((show VCut _ _ _ _ _ _ _); first | refine VCut.head k rfl (by omega) ?_ | refine VCut.tail k rfl hk hc hP (fun B dd hT hPB => ?_)) | ((show VCall _ _ _ 92 _ _); refine VCall.grow _ (fun w1 m1 => hG _ _ w1 (Sees.any m1 fndA)) ?_))))
      all_goals (conv => whnf); all_goals first | exact VRet.sel (A', c') trivial rfl [4] (by simp) rfl | exact VRet.sel (A', c') trivial rfl [5] (by simp) rfl | exact VRet.sel (A', c') trivial rfl [3] (by simp) rfl
set_option maxHeartbeats 16000000 in
theorem sArrive_no (d : Co) (A1 : Option Addr) (c1 : Nat) (A2 : Option Addr) (c2 : Nat) (a : Aw) (w : World) (hm : d.m ≤ 6) (h : ¬ aGood (d.m + 1) (insF d.wa (plc d.wa a.id d.m 0) a)) (hc : d.m ≤ c2) (hP : Plain A2) (hA : Seen w A2 (AwS d.m d.wa)) :
    Calls Tryz.prog 122 #[.agg (d.at A1 c1 A2 c2).toArray, .agg a.cells.toArray] w (Post (.tuple #[.agg (d.at A1 c1 A2 c2).toArray, .string (tx wAsk)]) w) := by
  have hG := fun A c w hA => sArr_v A (d.m + 1) c (insF d.wa (plc d.wa a.id d.m 0) a) w (by omega) hA
  rw [tr_no h] at hG
  clear h
  refine post_of_vc ?_
  refine calls_of_vc tb_ok (args := [.agg (d.at A1 c1 A2 c2).toArray, .agg a.cells.toArray]) Tryz.func122 rfl ?_
  (repeat' ((conv => whnf); first | refine go ?_ | (refine VSome.mk ?_; intro gQ hA'; first | subst hA' | cases hA' | (dsimp only at hA'; subst hA')) | refine And.intro ?_ ?_ | intro _))
  (conv => whnf)
  rename_i gb ga gr
  refine VLoop.mk (ι := Nat) [6, 9, 10, 11, 12, 13, 14, 15, 16, 17, 18, 19, 20, 21, 22, 23, 24, 25, 26] (fun k => [(6, .int .i64 k)]) (fun _ => [.blk gb 39 (d.at A1 c1 A2 c2), .blk ga 98 a.cells, .blk gr 39 Co.zero.cells0]) (fun k => k ≤ d.m ∧ plc d.wa a.id d.m 0 = plc d.wa a.id (d.m - k) k) (fun k => d.m - k) 0 ⟨Nat.zero_le _, rfl⟩ ?_ (OwnLe.mk [0, 1, 2] (by simp) rfl) (fun k u hi => ?_)
  · ((conv => whnf); repeat (first | exact trivial | refine ⟨rfl, ?_⟩ | refine ⟨congrArg (Value.int .i64) (by first | omega | assumption | exact Eq.symm (by assumption)), ?_⟩))
  obtain ⟨hk, hp⟩ := hi
  by_cases hgo : k < d.m ∧ (d.wa k).id < a.id
  · obtain ⟨b, off, rfl, hb, hr, hi0, _⟩ := AwS.look hA hgo.1
    have h2 := hgo.1
    have h3 := hgo.2
    have e : d.m - k = (d.m - (k + 1)) + 1 := by omega
    (repeat' ((conv => whnf); first | refine go ?_ | (refine VSome.mk ?_; intro gQ hA'; first | subst hA' | cases hA' | (dsimp only at hA'; subst hA')) | refine And.intro ?_ ?_ | intro _ | (first | ((show VDraw _ _ _ #[{ dst := some 9, op := _, type := _, pos := _, after := _, guard := _ }, _, _, _, _, _, _, _, _, _, _, _, _, _, _, _] _ _); refine VDraw.mk (.take 0 (.take 1 (.take 2 (.take 3 (.take 4 (.take 5 (.take 6 (.take 7 (.take 8 (.take 9 (.take 10 (.take 11 (.take 12 (.take 13 (.take 14 (.take 15 .done)))))))))))))))) [0, 1] (by kernel_rfl) (by kernel_rfl) ?_))))
    all_goals (conv => whnf)
    all_goals (refine VNext.mk (k + 1) ⟨by omega, by rw [hp, e, plc_go h3]⟩ (by omega) ?_ (OwnLe.mk [0, 1, 2] (by simp) rfl); ((conv => whnf); repeat (first | exact trivial | refine ⟨rfl, ?_⟩ | refine ⟨congrArg (Value.int .i64) (by first | omega | assumption | exact Eq.symm (by assumption)), ?_⟩)))
  · have hpk : plc d.wa a.id d.m 0 = k := by
      rw [hp]
      rcases Nat.lt_or_ge k d.m with h | h
      · rw [show d.m - k = (d.m - (k + 1)) + 1 by omega, plc_stop (fun q => hgo ⟨h, q⟩)]
      · rw [show d.m - k = 0 by omega]; rfl
    rw [hpk] at hG ⊢
    clear hp
    by_cases h2 : k < d.m
    · obtain ⟨b, off, rfl, hb, hr, hi0, _⟩ := AwS.look hA h2
      have h3 : ¬ (d.wa k).id < a.id := fun q => hgo ⟨h2, q⟩
      (repeat' ((conv => whnf); first | refine go ?_ | (refine VSome.mk ?_; intro gQ hA'; first | subst hA' | cases hA' | (dsimp only at hA'; subst hA')) | refine And.intro ?_ ?_ | intro _ | (first | ((show VDraw _ _ _ #[{ dst := some 9, op := _, type := _, pos := _, after := _, guard := _ }, _, _, _, _, _, _, _, _, _, _, _, _, _, _, _] _ _); refine VDraw.mk (.take 0 (.take 1 (.take 2 (.take 3 (.take 4 (.take 5 (.take 6 (.take 7 (.take 8 (.take 9 (.take 10 (.take 11 (.take 12 (.take 13 (.take 14 (.take 15 .done)))))))))))))))) [0, 1] (by kernel_rfl) (by kernel_rfl) ?_) | ((show VDraw _ _ _ #[{ dst := some 27, op := _, type := _, pos := _, after := _, guard := _ }, _, _, _, _, _, _, _, _, _, _, _, _, _, _] _ _); refine VDraw.mk (.take 1 (.take 2 (.take 3 (.take 4 (.take 6 (.take 9 (.take 10 (.take 11 (.take 12 (.br 0 (.br 5 (.br 7 (.br 8 (.br 13 (.take 14 .done) .done) .done) .done) (.br 7 (.br 5 (.br 8 (.br 13 (.take 14 .done) .done) .done) .done) .done)) (.br 7 (.br 0 (.br 5 (.br 8 (.br 13 (.take 14 .done) .done) .done) .done) .done) .done))))))))))) [0, 1] (by kernel_rfl) (by kernel_rfl) ?_) | ((show VApp _ _ _ _ _ _ _); first | (apply VApp.pushAny; (focus ((repeat (first | exact At.here | apply At.there)); done)); (focus ((repeat (first | exact At.here | apply At.there)); done)); refine VAppPush.mk rfl rfl (by omega) (fun A' c' => ?_)) | (apply VApp.allAny; (focus ((repeat (first | exact At.here | apply At.there)); done)); refine VAppAll.as k ((AwS d.m d.wa).take (k * 4)) rfl (hA.head (k * 4)) hP (show ((AwS d.m d.wa).take (k * 4)).length = k * 4 by rw [List.length_take, AwS.len]; omega) (show 0 < 4 by omega) (all_take _ (AwS.one d.m d.wa)) (by omega) (Nat.zero_add k) rfl (fun A' c' => ?_)) | (apply VApp.allAny; (focus ((repeat (first | exact At.here | apply At.there)); done)); refine VAppAll.as (d.m + 1) (AwS (d.m + 1) (insF d.wa k a)) rfl (hA.tail hT (AwS.len d.m d.wa)) hPB (show ((AwS d.m d.wa).drop (k * 4)).length = (d.m - k) * 4 by rw [List.length_drop, AwS.len]; omega) (show 0 < 4 by omega) (all_drop _ (AwS.one d.m d.wa)) (by omega) (by omega) (rows_ins Aw.cells (fun _ => rfl) d.wa a hk) (fun A' c' => ?_))) | ((show VCut _ _ _ _ _ _ _); first | refine VCut.head k rfl (by omega) ?_ | refine VCut.tail k rfl hk hc hP (fun B dd hT hPB => ?_)) | ((show VCall _ _ _ 92 _ _); refine VCall.grow _ (fun w1 m1 => hG _ _ w1 (Sees.any m1 fndA)) ?_))))
      all_goals ((conv => whnf); refine VRet.mk fun w' m => ?_); all_goals exact ⟨rfl, m.keeps.below⟩
    · have hkm : k = d.m := by omega
      (repeat' ((conv => whnf); first | refine go ?_ | (refine VSome.mk ?_; intro gQ hA'; first | subst hA' | cases hA' | (dsimp only at hA'; subst hA')) | refine And.intro ?_ ?_ | intro _ | (first | ((show VDraw _ _ _ #[{ dst := some 9, op := _, type := _, pos := _, after := _, guard := _ }, _, _, _, _, _, _, _, _, _, _, _, _, _, _, _] _ _); refine VDraw.mk (.take 0 (.take 1 (.take 2 (.take 3 (.take 4 (.take 5 (.take 6 (.take 7 (.take 8 (.take 9 (.take 10 (.take 11 (.take 12 (.take 13 (.take 14 (.take 15 .done)))))))))))))))) [0, 1] (by kernel_rfl) (by kernel_rfl) ?_) | ((show VDraw _ _ _ #[{ dst := some 27, op := _, type := _, pos := _, after := _, guard := _ }, _, _, _, _, _, _, _, _, _, _, _, _, _, _] _ _); refine VDraw.mk (.take 1 (.take 2 (.take 3 (.take 4 (.take 6 (.take 9 (.take 10 (.take 11 (.take 12 (.br 0 (.br 5 (.br 7 (.br 8 (.br 13 (.take 14 .done) .done) .done) .done) (.br 7 (.br 5 (.br 8 (.br 13 (.take 14 .done) .done) .done) .done) .done)) (.br 7 (.br 0 (.br 5 (.br 8 (.br 13 (.take 14 .done) .done) .done) .done) .done) .done))))))))))) [0, 1] (by kernel_rfl) (by kernel_rfl) ?_) | ((show VApp _ _ _ _ _ _ _); first | (apply VApp.pushAny; (focus ((repeat (first | exact At.here | apply At.there)); done)); (focus ((repeat (first | exact At.here | apply At.there)); done)); refine VAppPush.mk rfl rfl (by omega) (fun A' c' => ?_)) | (apply VApp.allAny; (focus ((repeat (first | exact At.here | apply At.there)); done)); refine VAppAll.as k ((AwS d.m d.wa).take (k * 4)) rfl (hA.head (k * 4)) hP (show ((AwS d.m d.wa).take (k * 4)).length = k * 4 by rw [List.length_take, AwS.len]; omega) (show 0 < 4 by omega) (all_take _ (AwS.one d.m d.wa)) (by omega) (Nat.zero_add k) rfl (fun A' c' => ?_)) | (apply VApp.allAny; (focus ((repeat (first | exact At.here | apply At.there)); done)); refine VAppAll.as (d.m + 1) (AwS (d.m + 1) (insF d.wa k a)) rfl (hA.tail hT (AwS.len d.m d.wa)) hPB (show ((AwS d.m d.wa).drop (k * 4)).length = (d.m - k) * 4 by rw [List.length_drop, AwS.len]; omega) (show 0 < 4 by omega) (all_drop _ (AwS.one d.m d.wa)) (by omega) (by omega) (rows_ins Aw.cells (fun _ => rfl) d.wa a hk) (fun A' c' => ?_))) | ((show VCut _ _ _ _ _ _ _); first | refine VCut.head k rfl (by omega) ?_ | refine VCut.tail k rfl hk hc hP (fun B dd hT hPB => ?_)) | ((show VCall _ _ _ 92 _ _); refine VCall.grow _ (fun w1 m1 => hG _ _ w1 (Sees.any m1 fndA)) ?_))))
      all_goals ((conv => whnf); refine VRet.mk fun w' m => ?_); all_goals exact ⟨rfl, m.keeps.below⟩
set_option maxHeartbeats 16000000 in
theorem sLeave_v (d : Co) (A1 : Option Addr) (c1 : Nat) (A2 : Option Addr) (c2 : Nat) (x : Int) (i : Nat) (w : World) (hm : d.m ≤ 6) (hfi : fnd d.wa x d.m = some i) (hc : d.m ≤ c2) (hP : Plain A2) (hA : Seen w A2 (AwS d.m d.wa)) :
    Calls Tryz.prog 125 #[.agg (d.at A1 c1 A2 c2).toArray, .int .i64 x] w fun e w' => ∃ v9, e = .returned v9 ∧ RetV (ι := Option Addr × Nat) (fun _ => True) (fun (P, c') => .tuple #[.agg ((d.lve i).at A1 c1 P c').toArray, .string (tx wOk)]) (fun (P, c') => [.row (.slice P (d.m - 1) c') 98 4 (d.m - 1) (AwS (d.m - 1) (delF d.wa i))]) (Base.of w) v9 w' := by
  obtain ⟨hf1, hf2, hf3⟩ := fnd_some hfi
  refine calls_of_vc tb_ok (args := [.agg (d.at A1 c1 A2 c2).toArray, .int .i64 x]) Tryz.func125 rfl ?_
  (repeat' ((conv => whnf); first | refine go ?_ | (refine VSome.mk ?_; intro gQ hA'; first | subst hA' | cases hA' | (dsimp only at hA'; subst hA')) | refine And.intro ?_ ?_ | intro _))
  (conv => whnf)
  rename_i gb gr
  refine VLoop.mk (ι := Nat) [5, 6, 7, 8, 9, 10, 11, 12, 13, 14, 15, 16, 17, 18, 19, 20, 21, 22, 23, 24, 25, 26, 27, 28, 29, 30, 31, 32, 33, 34, 35, 36, 37] (fun k => [(6, .int .i64 k)]) (fun _ => [.blk gb 39 (d.at A1 c1 A2 c2), .blk gr 39 Co.zero.cells0]) (fun k => k ≤ i) (fun k => i - k) 0 (Nat.zero_le _) ?_ (OwnLe.mk [0, 1] (by simp) rfl) (fun k u hi => ?_)
  · ((conv => whnf); repeat (first | exact trivial | refine ⟨rfl, ?_⟩ | refine ⟨congrArg (Value.int .i64) (by first | omega | assumption | exact Eq.symm (by assumption)), ?_⟩))
  have hk : k < d.m := by omega
  obtain ⟨b, off, rfl, hb, hr, hi0, _⟩ := AwS.look hA hk
  have hx : (k : Int) + 1 = ((k + 1 : Nat) : Int) := by omega
  by_cases hlt : k < i
  · have h3 : ¬ (d.wa k).id = x := hf3 k hlt
    (repeat' ((conv => whnf); first | refine go ?_ | (refine VSome.mk ?_; intro gQ hA'; first | subst hA' | cases hA' | (dsimp only at hA'; subst hA')) | refine And.intro ?_ ?_ | intro _ | (first | ((show VApp _ _ _ _ _ _ _); first | (apply VApp.allAny; (focus ((repeat (first | exact At.here | apply At.there)); done)); refine VAppAll.as k ((AwS d.m d.wa).take (k * 4)) rfl (hA.head (k * 4)) hP (show ((AwS d.m d.wa).take (k * 4)).length = k * 4 by rw [List.length_take, AwS.len]; omega) (show 0 < 4 by omega) (all_take _ (AwS.one d.m d.wa)) (by omega) (Nat.zero_add k) rfl (fun A' c' => ?_)) | (apply VApp.allAny; (focus ((repeat (first | exact At.here | apply At.there)); done)); refine VAppAll.as (d.m - 1) (AwS (d.m - 1) (delF d.wa k)) rfl (hA.tail hT (AwS.len d.m d.wa)) hPB (show ((AwS d.m d.wa).drop ((k + 1) * 4)).length = (d.m - (k + 1)) * 4 by rw [List.length_drop, AwS.len]; omega) (show 0 < 4 by omega) (all_drop _ (AwS.one d.m d.wa)) (by omega) (by omega) (rows_del Aw.cells (fun _ => rfl) d.wa hk) (fun A' c' => ?_))) | ((show VCut _ _ _ _ _ _ _); first | refine VCut.head k rfl (by omega) ?_ | refine VCut.tail (k + 1) rfl (by omega) hc hP (fun B dd hT hPB => ?_)))))
    all_goals (conv => whnf)
    all_goals (refine VNext.mk (k + 1) hlt (by omega) ?_ (OwnLe.mk [0, 1] (by simp) rfl); ((conv => whnf); repeat (first | exact trivial | refine ⟨rfl, ?_⟩ | refine ⟨congrArg (Value.int .i64) (by first | omega | assumption | exact Eq.symm (by assumption)), ?_⟩)))
  · obtain rfl : k = i := by omega
    (repeat' ((conv => whnf); first | refine go ?_ | (refine VSome.mk ?_; intro gQ hA'; first | subst hA' | cases hA' | (dsimp only at hA'; subst hA')) | refine And.intro ?_ ?_ | intro _ | (first | ((show VDraw _ _ _ _ _ _); refine VDraw.mk (.take 1 (.take 2 (.take 3 (.take 4 (.take 6 (.take 7 (.take 8 (.take 9 (.take 10 (.br 0 (.br 5 (.br 11 (.take 12 (.br 13 .done .done)) .done) .done) .done)))))))))) [0] (by kernel_rfl) (by kernel_rfl) ?_) | ((show VApp _ _ _ _ _ _ _); first | (apply VApp.allAny; (focus ((repeat (first | exact At.here | apply At.there)); done)); refine VAppAll.as k ((AwS d.m d.wa).take (k * 4)) rfl (hA.head (k * 4)) hP (show ((AwS d.m d.wa).take (k * 4)).length = k * 4 by rw [List.length_take, AwS.len]; omega) (show 0 < 4 by omega) (all_take _ (AwS.one d.m d.wa)) (by omega) (Nat.zero_add k) rfl (fun A' c' => ?_)) | (apply VApp.allAny; (focus ((repeat (first | exact At.here | apply At.there)); done)); refine VAppAll.as (d.m - 1) (AwS (d.m - 1) (delF d.wa k)) rfl (hA.tail hT (AwS.len d.m d.wa)) hPB (show ((AwS d.m d.wa).drop ((k + 1) * 4)).length = (d.m - (k + 1)) * 4 by rw [List.length_drop, AwS.len]; omega) (show 0 < 4 by omega) (all_drop _ (AwS.one d.m d.wa)) (by omega) (by omega) (rows_del Aw.cells (fun _ => rfl) d.wa hk) (fun A' c' => ?_))) | ((show VCut _ _ _ _ _ _ _); first | refine VCut.head k rfl (by omega) ?_ | refine VCut.tail (k + 1) rfl (by omega) hc hP (fun B dd hT hPB => ?_)))))
    all_goals (conv => whnf)
    all_goals first | exact VRet.sel (A', c') trivial rfl [3] (by simp) rfl | exact VRet.sel (A', c') trivial rfl [4] (by simp) rfl | exact VRet.sel (A', c') trivial rfl [2] (by simp) rfl
set_option maxHeartbeats 16000000 in
theorem sLeave_no (d : Co) (A1 : Option Addr) (c1 : Nat) (A2 : Option Addr) (c2 : Nat) (x : Int) (w : World) (hm : d.m ≤ 6) (hfi : fnd d.wa x d.m = none) (hA : Seen w A2 (AwS d.m d.wa)) :
    Calls Tryz.prog 125 #[.agg (d.at A1 c1 A2 c2).toArray, .int .i64 x] w (Post (.tuple #[.agg (d.at A1 c1 A2 c2).toArray, .string (tx wAsk)]) w) := by
  have hf3 := fnd_none hfi
  refine post_of_vc ?_
  refine calls_of_vc tb_ok (args := [.agg (d.at A1 c1 A2 c2).toArray, .int .i64 x]) Tryz.func125 rfl ?_
  (repeat' ((conv => whnf); first | refine go ?_ | (refine VSome.mk ?_; intro gQ hA'; first | subst hA' | cases hA' | (dsimp only at hA'; subst hA')) | refine And.intro ?_ ?_ | intro _))
  (conv => whnf)
  rename_i gb gr
  refine VLoop.mk (ι := Nat) [5, 6, 7, 8, 9, 10, 11, 12, 13, 14, 15, 16, 17, 18, 19, 20, 21, 22, 23, 24, 25, 26, 27, 28, 29, 30, 31, 32, 33, 34, 35, 36, 37] (fun k => [(6, .int .i64 k)]) (fun _ => [.blk gb 39 (d.at A1 c1 A2 c2), .blk gr 39 Co.zero.cells0]) (fun k => k ≤ d.m) (fun k => d.m - k) 0 (Nat.zero_le _) ?_ (OwnLe.mk [0, 1] (by simp) rfl) (fun k u hk => ?_)
  · ((conv => whnf); repeat (first | exact trivial | refine ⟨rfl, ?_⟩ | refine ⟨congrArg (Value.int .i64) (by first | omega | assumption | exact Eq.symm (by assumption)), ?_⟩))
  by_cases hlt : k < d.m
  · obtain ⟨b, off, rfl, hb, hr, hi0, _⟩ := AwS.look hA hlt
    have h3 : ¬ (d.wa k).id = x := hf3 k hlt
    (repeat' ((conv => whnf); first | refine go ?_ | (refine VSome.mk ?_; intro gQ hA'; first | subst hA' | cases hA' | (dsimp only at hA'; subst hA')) | refine And.intro ?_ ?_ | intro _))
    all_goals (conv => whnf)
    all_goals (refine VNext.mk (k + 1) hlt (by omega) ?_ (OwnLe.mk [0, 1] (by simp) rfl); ((conv => whnf); repeat (first | exact trivial | refine ⟨rfl, ?_⟩ | refine ⟨congrArg (Value.int .i64) (by first | omega | assumption | exact Eq.symm (by assumption)), ?_⟩)))
  · (repeat' ((conv => whnf); first | refine go ?_ | (refine VSome.mk ?_; intro gQ hA'; first | subst hA' | cases hA' | (dsimp only at hA'; subst hA')) | refine And.intro ?_ ?_ | intro _))
    all_goals ((conv => whnf); refine VRet.mk fun w' m => ?_)
    all_goals exact ⟨rfl, m.keeps.below⟩
end Go.Proofs.YtadjhkehfklmnaaGreatDoor
namespace Go.Proofs.YtadjhkehfklmnaaGreatDoor
set_option linter.unusedSimpArgs false
set_option linter.unusedVariables false
open Go.RowKit
set_option maxRecDepth 10000
noncomputable def Co.askV (d : Co) (x : List UInt8) (mi : Int) : List UInt8 :=
  if tr (1 ≤ mi ∧ mi ≤ 60) then (if x = wBest then ltx (idsOf d.wa (best d.m d.wa mi d.lock.high d.m []).1) else if x = wDelay then Lib.itoa (best d.m d.wa mi d.lock.high d.m []).2 else if x = wBound then Lib.itoa (loB d.wa mi d.lock.high d.m) else wAsk) else wAsk
theorem Co.askV_out {d : Co} {x : List UInt8} {mi : Int} (h : ¬ (1 ≤ mi ∧ mi ≤ 60)) : d.askV x mi = wAsk := ite_ntr h
theorem Co.askV_best {d : Co} {mi : Int} (h : 1 ≤ mi ∧ mi ≤ 60) : d.askV wBest mi = ltx (idsOf d.wa (best d.m d.wa mi d.lock.high d.m []).1) := by unfold Co.askV; rw [ite_tr h, if_pos rfl]
theorem Co.askV_delay {d : Co} {mi : Int} (h : 1 ≤ mi ∧ mi ≤ 60) : d.askV wDelay mi = Lib.itoa (best d.m d.wa mi d.lock.high d.m []).2 := by unfold Co.askV; rw [ite_tr h, if_neg (by decide), if_pos rfl]
theorem Co.askV_bound {d : Co} {mi : Int} (h : 1 ≤ mi ∧ mi ≤ 60) : d.askV wBound mi = Lib.itoa (loB d.wa mi d.lock.high d.m) := by unfold Co.askV; rw [ite_tr h, if_neg (by decide), if_neg (by decide), if_pos rfl]
theorem Co.askV_no {d : Co} {x : List UInt8} {mi : Int} (h1 : ¬ x = wBest) (h2 : ¬ x = wDelay) (h3 : ¬ x = wBound) : d.askV x mi = wAsk := by
  unfold Co.askV
  by_cases h : 1 ≤ mi ∧ mi ≤ 60
  · rw [ite_tr h, if_neg h1, if_neg h2, if_neg h3]
  · rw [ite_ntr h]
theorem Co.askV_ex {d : Co} {x : List UInt8} {l : List Int} (h : x = wBest ∨ x = wDelay ∨ x = wBound) : d.fin (d.ex x l) = (d, d.askV x (a0 l 0)) := by
  by_cases hm : 1 ≤ a0 l 0 ∧ a0 l 0 ≤ 60
  · rcases h with rfl | rfl | rfl
    · rw [Co.ex_best, ite_tr hm, Co.askV_best hm]; rfl
    · rw [Co.ex_delay, ite_tr hm, Co.askV_delay hm]; rfl
    · rw [Co.ex_bound, ite_tr hm, Co.askV_bound hm]; rfl
  · rw [Co.askV_out hm]
    rcases h with rfl | rfl | rfl
    · rw [Co.ex_best, ite_ntr hm]; rfl
    · rw [Co.ex_delay, ite_ntr hm]; rfl
    · rw [Co.ex_bound, ite_ntr hm]; rfl
set_option maxHeartbeats 8000000 in
theorem sAsk_out (d : Co) (A1 : Option Addr) (c1 : Nat) (A2 : Option Addr) (c2 : Nat) (x : List UInt8) (mi : Int) (w : World) (hs : d.lock.safe) (hg : aGood d.m d.wa) (hm : ¬ (1 ≤ mi ∧ mi ≤ 60)) (hA : Seen w A2 (AwS d.m d.wa)) :
    Calls Tryz.prog 126 #[.agg (d.at A1 c1 A2 c2).toArray, .string (tx x), .int .i64 mi] w (Post (.string (tx wAsk)) w) := by
  have hn := hg.2
  have hH := fun w => l28High_v d.lock w hs
  have hL := fun w hA => sBest_no A2 d.m c2 d.wa d.lock.high mi w hg hm hA
  refine post_of_vc ?_
  rcases hh : d.lock.high with _ | _
  all_goals rw [hh] at hH hL
  all_goals (refine calls_of_vc tb_ok (args := [.agg (d.at A1 c1 A2 c2).toArray, .string (tx x), .int .i64 mi]) Tryz.func126 rfl ?_)
  all_goals ((repeat' ((conv => whnf); first | refine go ?_ | (refine VSome.mk ?_; intro gQ hA'; first | subst hA' | cases hA' | (dsimp only at hA'; subst hA')) | refine And.intro ?_ ?_ | intro _ | (first | ((show VCall _ _ _ 160 _ _); refine VCall.grow _ (fun w1 m1 => hH w1) ?_) | ((show VCall _ _ _ 159 _ _); refine VCall.some _ _ (fun w1 m1 => hL w1 seenA) (fun g9 _ => ?_)) | ((show VDraw _ _ _ #[{ dst := some 13, op := _, type := _, pos := _, after := _, guard := _ }, _, _, _, _, _, _, _, _, _, _, _, _, _] _ _); refine VDraw.mk (.take 0 (.take 1 (.take 2 (.take 3 (.take 5 (.br 4 (.br 6 (.br 7 (.take 8 (.take 9 (.take 10 (.take 11 (.take 12 (.take 13 .done)))))) .done) .done) .done)))))) [0] (by kernel_rfl) (by kernel_rfl) ?_)))))
  all_goals ((conv => whnf); refine VRet.mk fun w' m => ?_)
  all_goals exact ⟨rfl, m.keeps.below⟩
set_option maxHeartbeats 8000000 in
theorem sAsk_bound (d : Co) (A1 : Option Addr) (c1 : Nat) (A2 : Option Addr) (c2 : Nat) (mi : Int) (w : World) (hs : d.lock.safe) (hg : aGood d.m d.wa) (h1 : 1 ≤ mi) (h2 : mi ≤ 60) (hc : d.m ≤ c2) (hP : Plain A2) (hA : Seen w A2 (AwS d.m d.wa)) :
    Calls Tryz.prog 126 #[.agg (d.at A1 c1 A2 c2).toArray, .string (tx wBound), .int .i64 mi] w (Post (.string (tx (Lib.itoa (loB d.wa mi d.lock.high d.m)))) w) := by
  have hn := hg.2
  have hlo := loB_in (hi := d.lock.high) hg (show 0 ≤ mi by omega) h2
  have hH := fun w => l28High_v d.lock w hs
  have hL := fun w hA => sBest_v A2 d.m c2 d.wa d.lock.high mi w hg h1 h2 hA
  have hB := fun w hA => sLower_v A2 d.m c2 d.wa d.lock.high mi w hg h1 h2 hc hA hP
  have hw1 : ¬ tx wBound = ({ data := #[98, 101, 115, 116] } : ByteArray) := by decide
  have hw2 : ¬ tx wBound = ({ data := #[100, 101, 108, 97, 121] } : ByteArray) := by decide
  refine post_of_vc ?_
  generalize loB d.wa mi d.lock.high d.m = lo at *
  rcases hb : best d.m d.wa mi d.lock.high d.m [] with ⟨bl, bx⟩
  rw [hb] at hL
  rcases hh : d.lock.high with _ | _
  all_goals rw [hh] at hH hL hB
  all_goals (refine calls_of_vc tb_ok (args := [.agg (d.at A1 c1 A2 c2).toArray, .string (tx wBound), .int .i64 mi]) Tryz.func126 rfl ?_)
  all_goals ((repeat' ((conv => whnf); first | refine go ?_ | (refine VSome.mk ?_; intro gQ hA'; first | subst hA' | cases hA' | (dsimp only at hA'; subst hA')) | refine And.intro ?_ ?_ | intro _ | (first | ((show VCall _ _ _ 160 _ _); refine VCall.grow _ (fun w1 m1 => hH w1) ?_) | ((show VCall _ _ _ 159 _ _); refine VCall.ret (fun w1 m1 => hL w1 seenA) (fun i hi => ?_); obtain ⟨l, x9, P, cp⟩ := i; cases hi) | ((show VDraw _ _ _ #[{ dst := some 13, op := _, type := _, pos := _, after := _, guard := _ }, _, _, _, _, _, _, _, _, _, _, _, _, _] _ _); refine VDraw.mk (.take 0 (.take 1 (.take 2 (.take 3 (.take 5 (.br 4 (.br 6 (.br 7 (.take 8 (.take 9 (.take 10 (.take 11 (.take 12 (.take 13 .done)))))) .done) .done) .done)))))) [0] (by kernel_rfl) (by kernel_rfl) ?_) | ((show VCall _ _ _ 161 _ _); refine VCall.grow _ (fun w1 m1 => hB w1 seenA) ?_) | ((show VCall _ _ _ 61 _ _); refine VCall.grow _ (fun w1 m1 => l1NumZ_v _ w1 (by omega) (by omega)) ?_) | ((show VDraw _ _ _ #[{ dst := some 55, op := _, type := _, pos := _, after := _, guard := _ }, _, _, _, _, _, _, _, _] _ _); refine VDraw.mk (.take 0 (.take 1 (.take 2 (.take 3 (.take 5 (.br 4 (.br 6 (.br 7 (.take 8 .done) .done) .done) .done)))))) [0] (by kernel_rfl) (by kernel_rfl) ?_)))))
  all_goals ((conv => whnf); refine VRet.mk fun w' m => ?_)
  all_goals exact ⟨rfl, m.keeps.below⟩
set_option maxHeartbeats 8000000 in
theorem sAsk_delay (d : Co) (A1 : Option Addr) (c1 : Nat) (A2 : Option Addr) (c2 : Nat) (mi : Int) (w : World) (hs : d.lock.safe) (hg : aGood d.m d.wa) (h1 : 1 ≤ mi) (h2 : mi ≤ 60) (hA : Seen w A2 (AwS d.m d.wa)) :
    Calls Tryz.prog 126 #[.agg (d.at A1 c1 A2 c2).toArray, .string (tx wDelay), .int .i64 mi] w (Post (.string (tx (Lib.itoa (best d.m d.wa mi d.lock.high d.m []).2))) w) := by
  have hn := hg.2
  have hH := fun w => l28High_v d.lock w hs
  have hL := fun w hA => sBest_v A2 d.m c2 d.wa d.lock.high mi w hg h1 h2 hA
  have hbi := best_in (f := d.wa) (hi := d.lock.high) hg (show 0 ≤ mi by omega) h2 d.m [] vld_nil (by simp)
  have hw1 : ¬ tx wDelay = ({ data := #[98, 101, 115, 116] } : ByteArray) := by decide
  refine post_of_vc ?_
  rcases hb : best d.m d.wa mi d.lock.high d.m [] with ⟨bl, bx⟩
  rw [hb] at hL hbi
  dsimp only at hbi ⊢
  rcases hh : d.lock.high with _ | _
  all_goals rw [hh] at hH hL
  all_goals (refine calls_of_vc tb_ok (args := [.agg (d.at A1 c1 A2 c2).toArray, .string (tx wDelay), .int .i64 mi]) Tryz.func126 rfl ?_)
  all_goals ((repeat' ((conv => whnf); first | refine go ?_ | (refine VSome.mk ?_; intro gQ hA'; first | subst hA' | cases hA' | (dsimp only at hA'; subst hA')) | refine And.intro ?_ ?_ | intro _ | (first | ((show VCall _ _ _ 160 _ _); refine VCall.grow _ (fun w1 m1 => hH w1) ?_) | ((show VCall _ _ _ 159 _ _); refine VCall.ret (fun w1 m1 => hL w1 seenA) (fun i hi => ?_); obtain ⟨l, x9, P, cp⟩ := i; cases hi) | ((show VDraw _ _ _ #[{ dst := some 13, op := _, type := _, pos := _, after := _, guard := _ }, _, _, _, _, _, _, _, _, _, _, _, _, _] _ _); refine VDraw.mk (.take 0 (.take 1 (.take 2 (.take 3 (.take 5 (.br 4 (.br 6 (.br 7 (.take 8 (.take 9 (.take 10 (.take 11 (.take 12 (.take 13 .done)))))) .done) .done) .done)))))) [0] (by kernel_rfl) (by kernel_rfl) ?_) | ((show VCall _ _ _ 61 _ _); refine VCall.grow _ (fun w1 m1 => l1NumZ_v _ w1 (by omega) (by omega)) ?_)))))
  all_goals ((conv => whnf); refine VRet.mk fun w' m => ?_)
  all_goals exact ⟨rfl, m.keeps.below⟩
set_option maxHeartbeats 8000000 in
theorem sAsk_no (d : Co) (A1 : Option Addr) (c1 : Nat) (A2 : Option Addr) (c2 : Nat) (x : List UInt8) (mi : Int) (w : World) (hs : d.lock.safe) (hg : aGood d.m d.wa) (h1 : 1 ≤ mi) (h2 : mi ≤ 60) (e1 : ¬ x = wBest) (e2 : ¬ x = wDelay) (e3 : ¬ x = wBound) (hA : Seen w A2 (AwS d.m d.wa)) :
    Calls Tryz.prog 126 #[.agg (d.at A1 c1 A2 c2).toArray, .string (tx x), .int .i64 mi] w (Post (.string (tx wAsk)) w) := by
  have hn := hg.2
  have hH := fun w => l28High_v d.lock w hs
  have hL := fun w hA => sBest_v A2 d.m c2 d.wa d.lock.high mi w hg h1 h2 hA
  have hw1 : ¬ tx x = ({ data := #[98, 101, 115, 116] } : ByteArray) := fun q => e1 (tx_inj (q.trans (by rfl : _ = tx wBest)))
  have hw2 : ¬ tx x = ({ data := #[100, 101, 108, 97, 121] } : ByteArray) := fun q => e2 (tx_inj (q.trans (by rfl : _ = tx wDelay)))
  have hw3 : ¬ tx x = ({ data := #[98, 111, 117, 110, 100] } : ByteArray) := fun q => e3 (tx_inj (q.trans (by rfl : _ = tx wBound)))
  refine post_of_vc ?_
  rcases hb : best d.m d.wa mi d.lock.high d.m [] with ⟨bl, bx⟩
  rw [hb] at hL
  rcases hh : d.lock.high with _ | _
  all_goals rw [hh] at hH hL
  all_goals (refine calls_of_vc tb_ok (args := [.agg (d.at A1 c1 A2 c2).toArray, .string (tx x), .int .i64 mi]) Tryz.func126 rfl ?_)
  all_goals ((repeat' ((conv => whnf); first | refine go ?_ | (refine VSome.mk ?_; intro gQ hA'; first | subst hA' | cases hA' | (dsimp only at hA'; subst hA')) | refine And.intro ?_ ?_ | intro _ | (first | ((show VCall _ _ _ 160 _ _); refine VCall.grow _ (fun w1 m1 => hH w1) ?_) | ((show VCall _ _ _ 159 _ _); refine VCall.ret (fun w1 m1 => hL w1 seenA) (fun i hi => ?_); obtain ⟨l, x9, P, cp⟩ := i; cases hi) | ((show VDraw _ _ _ #[{ dst := some 13, op := _, type := _, pos := _, after := _, guard := _ }, _, _, _, _, _, _, _, _, _, _, _, _, _] _ _); refine VDraw.mk (.take 0 (.take 1 (.take 2 (.take 3 (.take 5 (.br 4 (.br 6 (.br 7 (.take 8 (.take 9 (.take 10 (.take 11 (.take 12 (.take 13 .done)))))) .done) .done) .done)))))) [0] (by kernel_rfl) (by kernel_rfl) ?_)))))
  all_goals ((conv => whnf); refine VRet.mk fun w' m => ?_)
  all_goals exact ⟨rfl, m.keeps.below⟩
set_option maxHeartbeats 8000000 in
theorem sAsk_best (d : Co) (A1 : Option Addr) (c1 : Nat) (A2 : Option Addr) (c2 : Nat) (mi : Int) (w : World) (hs : d.lock.safe) (hg : aGood d.m d.wa) (h1 : 1 ≤ mi) (h2 : mi ≤ 60) (hA : Seen w A2 (AwS d.m d.wa)) :
    Calls Tryz.prog 126 #[.agg (d.at A1 c1 A2 c2).toArray, .string (tx wBest), .int .i64 mi] w (Post (.string (tx (ltx (idsOf d.wa (best d.m d.wa mi d.lock.high d.m []).1)))) w) := by
  have hn := hg.2
  have hH := fun w => l28High_v d.lock w hs
  have hL := fun w hA => sBest_v A2 d.m c2 d.wa d.lock.high mi w hg h1 h2 hA
  have hbi := best_in (f := d.wa) (hi := d.lock.high) hg (show 0 ≤ mi by omega) h2 d.m [] vld_nil (by simp)
  refine post_of_vc ?_
  rcases hb : best d.m d.wa mi d.lock.high d.m [] with ⟨bl, bx⟩
  rw [hb] at hL hbi
  dsimp only at hbi ⊢
  obtain ⟨hv, hbl, _, _⟩ := hbi
  obtain ⟨_, hbm⟩ := vld_nd hv
  have hT := fun (B : Option Addr) (c : Nat) w hB => l28List_v B c (idsOf d.wa bl) w (by simp [idsOf]; omega) (fun y hy => by
    obtain ⟨i, hi, rfl⟩ := List.mem_map.1 hy
    have := (hg.1 i (hbm i hi)).1
    omega) hB
  rw [show (idsOf d.wa bl).length = bl.length by simp [idsOf]] at hT
  rcases hh : d.lock.high with _ | _
  all_goals rw [hh] at hH hL
  all_goals (refine calls_of_vc tb_ok (args := [.agg (d.at A1 c1 A2 c2).toArray, .string (tx wBest), .int .i64 mi]) Tryz.func126 rfl ?_)
  all_goals ((repeat' ((conv => whnf); first | refine go ?_ | (refine VSome.mk ?_; intro gQ hA'; first | subst hA' | cases hA' | (dsimp only at hA'; subst hA')) | refine And.intro ?_ ?_ | intro _ | (first | ((show VCall _ _ _ 160 _ _); refine VCall.grow _ (fun w1 m1 => hH w1) ?_) | ((show VCall _ _ _ 159 _ _); refine VCall.ret (fun w1 m1 => hL w1 seenA) (fun i hi => ?_); obtain ⟨l, x9, P, cp⟩ := i; cases hi) | ((show VDraw _ _ _ #[{ dst := some 13, op := _, type := _, pos := _, after := _, guard := _ }, _, _, _, _, _, _, _, _, _, _, _, _, _] _ _); refine VDraw.mk (.take 0 (.take 1 (.take 2 (.take 3 (.take 5 (.br 4 (.br 6 (.br 7 (.take 8 (.take 9 (.take 10 (.take 11 (.take 12 (.take 13 .done)))))) .done) .done) .done)))))) [0] (by kernel_rfl) (by kernel_rfl) ?_)))))
  all_goals (conv => whnf)
  all_goals rename_i gb _ _ _ _
  all_goals (refine VLoop.mk (ι := Nat × Option Addr × Nat) [10, 11, 29, 30, 31, 32, 33, 34, 35, 36, 37, 38, 39, 40, 41, 42, 43, 44, 45, 46] (fun (k, Q, cq) => [(11, .int .i64 k), (10, .slice Q k cq)]) (fun (k, Q, cq) => [.blk gb 39 (d.at A1 c1 A2 c2), .row (.slice P bl.length cp) 3 1 bl.length (NL bl), .row (.slice Q k cq) 3 1 k (IL (idsOf d.wa (bl.take k)))]) (fun i => i.1 ≤ bl.length) (fun i => bl.length - i.1) (0, _, _) (Nat.zero_le _) ?_ (OwnLe.mk [0, 1, 2] (by simp) rfl) (fun i u hi => ?_))
  all_goals first | (((conv => whnf); repeat (first | exact trivial | refine ⟨rfl, ?_⟩ | refine ⟨congrArg (Value.int .i64) (by first | omega | assumption | exact Eq.symm (by assumption)), ?_⟩)); done) | skip
  all_goals (obtain ⟨k, Q, cq⟩ := i)
  all_goals (replace hi : k ≤ bl.length := hi)
  all_goals ((conv => whnf); try dsimp only)
  all_goals by_cases hlt : k < bl.length
  all_goals first
    | (have hx := hbm _ (nth_mem hlt)
       have a1 : (NL bl)[mulS k 1]? = some (.int .i64 (nth bl k : Nat)) := nth_len hlt _ (by rw [mulS_eq]; omega)
       obtain ⟨b1, off1, rfl, hb1, hr1, hi1, _⟩ := AwS.look hA hx
       have hids := ids_take (f := d.wa) hlt
       (repeat' ((conv => whnf); first | refine go ?_ | (refine VSome.mk ?_; intro gQ hA'; first | subst hA' | cases hA' | (dsimp only at hA'; subst hA')) | refine And.intro ?_ ?_ | intro _ | (first | ((show VDraw _ _ _ #[{ dst := some 35, op := _, type := _, pos := _, after := _, guard := _ }, _, _, _, _, _, _, _, _, _, _, _, _] _ _); refine VDraw.mk (.take 0 (.take 1 (.take 2 (.take 3 (.take 4 (.take 5 (.take 6 (.take 7 (.take 8 (.take 9 (.br 10 (.br 11 (.br 12 .done .done) .done) .done))))))))))) [0, 1] (by kernel_rfl) (by kernel_rfl) ?_) | ((show VApp _ _ _ _ _ _ _); (apply VApp.pushAny; (focus ((repeat (first | exact At.here | apply At.there)); done)); (focus ((repeat (first | exact At.here | apply At.there)); done)); refine VAppPush.mk rfl rfl (by omega) (fun A' c' => ?_))))))
       (conv => whnf)
       refine VNext.mk (k + 1, _, _) hlt (by show bl.length - (k + 1) < bl.length - k; omega) ?_ (OwnLe.mk [0, 1, 2] (by simp) (by dsimp only; rw [hids, IL_app]; rfl))
       ((conv => whnf); repeat (first | exact trivial | refine ⟨rfl, ?_⟩ | refine ⟨congrArg (Value.int .i64) (by first | omega | assumption | exact Eq.symm (by assumption)), ?_⟩))
       done)
    | (have hk2 : k = bl.length := by omega
       subst hk2
       rw [List.take_length]
       (repeat' ((conv => whnf); first | refine go ?_ | (refine VSome.mk ?_; intro gQ hA'; first | subst hA' | cases hA' | (dsimp only at hA'; subst hA')) | refine And.intro ?_ ?_ | intro _ | (first | ((show VCall _ _ _ 155 _ _); refine VCall.grow _ (fun w1 m1 => hT _ _ w1 (Sees.any m1 fndA)) ?_))))
       (conv => whnf); refine VRet.mk fun w' m => ?_
       exact ⟨rfl, m.keeps.below⟩)
theorem sAsk_v (d : Co) (A1 : Option Addr) (c1 : Nat) (A2 : Option Addr) (c2 : Nat) (x : List UInt8) (mi : Int) (w : World) (hs : d.lock.safe) (hg : aGood d.m d.wa) (hc : d.m ≤ c2) (hP : Plain A2) (hA : Seen w A2 (AwS d.m d.wa)) :
    Calls Tryz.prog 126 #[.agg (d.at A1 c1 A2 c2).toArray, .string (tx x), .int .i64 mi] w (Post (.string (tx (d.askV x mi))) w) := by
  by_cases hm : 1 ≤ mi ∧ mi ≤ 60
  · by_cases e1 : x = wBest
    · subst e1; rw [Co.askV_best hm]; exact sAsk_best d A1 c1 A2 c2 mi w hs hg hm.1 hm.2 hA
    by_cases e2 : x = wDelay
    · subst e2; rw [Co.askV_delay hm]; exact sAsk_delay d A1 c1 A2 c2 mi w hs hg hm.1 hm.2 hA
    by_cases e3 : x = wBound
    · subst e3; rw [Co.askV_bound hm]; exact sAsk_bound d A1 c1 A2 c2 mi w hs hg hm.1 hm.2 hc hP hA
    · rw [Co.askV_no e1 e2 e3]; exact sAsk_no d A1 c1 A2 c2 x mi w hs hg hm.1 hm.2 e1 e2 e3 hA
  · rw [Co.askV_out hm]; exact sAsk_out d A1 c1 A2 c2 x mi w hs hg hm hA
end Go.Proofs.YtadjhkehfklmnaaGreatDoor
