/-
  Texts joined: how the calls that the law reaches are walked, and the plain laws behind them.
  Conditions: none beyond each statement's own premises.
-/
import Derived.Test.YtadjhkehfklmnaaGreatDoorMy17
namespace Go.Proofs.YtadjhkehfklmnaaGreatDoor
set_option linter.unusedSimpArgs false
set_option linter.unusedVariables false
open Go.RowKit
set_option maxRecDepth 10000
def Co.cells0 (_ : Co) : List Value := [.int .i64 0, .int .i64 0, .int .i64 0, .bool false, .bool false, .bool false, .bool false, .slice none 0 0, .slice none 0 0, .string ByteArray.empty, .string ByteArray.empty, .int .i64 0]
set_option maxHeartbeats 16000000 in
theorem sArrive_yes (d : Co) (A1 : Option Addr) (c1 : Nat) (A2 : Option Addr) (c2 : Nat) (a : Aw) (w : World) (hm : d.m ≤ 6) (h : aGood (d.m + 1) (insF d.wa (plc d.wa a.id d.m 0) a)) (hc : d.m ≤ c2) (hP : Plain A2) (hA : Seen w A2 (AwS d.m d.wa)) :
    Calls Tryz.prog 122 #[.agg (d.at A1 c1 A2 c2).toArray, .agg a.cells.toArray] w fun e w' => ∃ v9, e = .returned v9 ∧ RetV (ι := Option Addr × Nat) (fun _ => True) (fun (P, c') => .tuple #[.agg ((d.arr (plc d.wa a.id d.m 0) a).at A1 c1 P c').toArray, .string (tx wOk)]) (fun (P, c') => [.row (.slice P (d.m + 1) c') 98 4 (d.m + 1) (AwS (d.m + 1) (insF d.wa (plc d.wa a.id d.m 0) a))]) (Base.of w) v9 w' := by
  have hG := fun A c w hA => sArr_v A (d.m + 1) c (insF d.wa (plc d.wa a.id d.m 0) a) w (by omega) hA
  rw [tr_yes h] at hG
  clear h
  refine calls_of_vc tb_ok (args := [.agg (d.at A1 c1 A2 c2).toArray, .agg a.cells.toArray]) Tryz.func122 rfl ?_
  (repeat' ((conv => whnf); first | refine go ?_ | (refine VSome.mk ?_; intro gQ hA'; first | subst hA' | cases hA' | (dsimp only at hA'; subst hA')) | refine And.intro ?_ ?_ | intro _))
  (conv => whnf)
  rename_i gb ga gr
  refine VLoop.mk (ι := Nat) [6, 9, 10, 11, 12, 13, 14, 15, 16, 17, 18, 19, 20, 21, 22, 23, 24, 25, 26] (fun k => [(6, .int .i64 k)]) (fun _ => [.blk gb 39 (d.at A1 c1 A2 c2), .blk ga 98 a.cells, .blk gr 39 Co.zero.cells0]) (fun k => k ≤ d.m ∧ plc d.wa a.id d.m 0 = plc d.wa a.id (d.m - k) k) (fun k => d.m - k) 0 ⟨Nat.zero_le _, rfl⟩ ?_ (OwnLe.mk [0, 1, 2] (by simp) rfl) (fun k u hi => ?_)
  · ((conv => whnf); repeat (first | exact trivial | refine ⟨rfl, ?_⟩ | refine ⟨congrArg (Value.int .i64) (by first | omega | assumption | exact Eq.symm (by assumption)), ?_⟩))
  obtain ⟨hk, hp⟩ := hi
  by_cases hgo : k < d.m ∧ (d.wa k).id < a.id
  · obtain ⟨b, off, rfl, hb, hr, hi0, _⟩ := AwS.look hA hgo.1
    have h2 := hgo.1
    have h3 := hgo.2
    have e : d.m - k = (d.m - (k + 1)) + 1 := by omega
    (repeat' ((conv => whnf); first | refine go ?_ | (refine VSome.mk ?_; intro gQ hA'; first | subst hA' | cases hA' | (dsimp only at hA'; subst hA')) | refine And.intro ?_ ?_ | intro _ | (first | ((show VDraw _ _ _ #[{ dst := some 9, op := _, type := _, pos := _, after := _, guard := _ }, _, _, _, _, _, _, _, _, _, _, _, _, _, _, _] _ _); refine VDraw.mk (.take 0 (.take 1 (.take 2 (.take 3 (.take 4 (.take 5 (.take 6 (.take 7 (.take 8 (.take 9 (.take 10 (.take 11 (.take 12 (.take 13 (.take 14 (.take 15 .done)))))))))))))))) [0, 1] (by kernel_rfl) (by kernel_rfl) ?_))))
    all_goals (conv => whnf)
    all_goals (refine VNext.mk (k + 1) ⟨by omega, by rw [hp, e, plc_go h3]⟩ (by omega) ?_ (OwnLe.mk [0, 1, 2] (by simp) rfl); ((conv => whnf); repeat (first | exact trivial | refine ⟨rfl, ?_⟩ | refine ⟨congrArg (Value.int .i64) (by first | omega | assumption | exact Eq.symm (by assumption)), ?_⟩)))
  · have hpk : plc d.wa a.id d.m 0 = k := by
      rw [hp]
      rcases Nat.lt_or_ge k d.m with h | h
      · rw [show d.m - k = (d.m - (k + 1)) + 1 by omega, plc_stop (fun q => hgo ⟨h, q⟩)]
      · rw [show d.m - k = 0 by omega]; rfl
    rw [hpk] at hG ⊢
    clear hp
    by_cases h2 : k < d.m
    · obtain ⟨b, off, rfl, hb, hr, hi0, _⟩ := AwS.look hA h2
      have h3 : ¬ (d.wa k).id < a.id := fun q => hgo ⟨h2, q⟩
      (repeat' ((conv => whnf); first | refine go ?_ | (refine VSome.mk ?_; intro gQ hA'; first | subst hA' | cases hA' | (dsimp only at hA'; subst hA')) | refine And.intro ?_ ?_ | intro _ | (first | ((show VDraw _ _ _ #[{ dst := some 9, op := _, type := _, pos := _, after := _, guard := _ }, _, _, _, _, _, _, _, _, _, _, _, _, _, _, _] _ _); refine VDraw.mk (.take 0 (.take 1 (.take 2 (.take 3 (.take 4 (.take 5 (.take 6 (.take 7 (.take 8 (.take 9 (.take 10 (.take 11 (.take 12 (.take 13 (.take 14 (.take 15 .done)))))))))))))))) [0, 1] (by kernel_rfl) (by kernel_rfl) ?_) | ((show VDraw _ _ _ #[{ dst := some 27, op := _, type := _, pos := _, after := _, guard := _ }, _, _, _, _, _, _, _, _, _, _, _, _, _, _] _ _); refine VDraw.mk (.take 1 (.take 2 (.take 3 (.take 4 (.take 6 (.take 9 (.take 10 (.take 11 (.take 12 (.br 0 (.br 5 (.br 7 (.br 8 (.br 13 (.take 14 .done) .done) .done) .done) (.br 7 (.br 5 (.br 8 (.br 13 (.take 14 .done) .done) .done) .done) .done)) (.br 7 (.br 0 (.br 5 (.br 8 (.br 13 (.take 14 .done) .done) .done) .done) .done) .done))))))))))) [0, 1] (by kernel_rfl) (by kernel_rfl) ?_) | ((show VApp _ _ _ _ _ _ _); first | (apply VApp.pushAny; (focus ((repeat (first | exact At.here | apply At.there)); done)); (focus ((repeat (first | exact At.here | apply At.there)); done)); refine VAppPush.mk rfl rfl (by omega) (fun A' c' => ?_)) | (apply VApp.allAny; (focus ((repeat (first | exact At.here | apply At.there)); done)); refine VAppAll.as k ((AwS d.m d.wa).take (k * 4)) rfl (hA.head (k * 4)) hP (show ((AwS d.m d.wa).take (k * 4)).length = k * 4 by rw [List.length_take, AwS.len]; omega) (show 0 < 4 by omega) (all_take _ (AwS.one d.m d.wa)) (by omega) (Nat.zero_add k) rfl (fun A' c' => ?_)) | (apply VApp.allAny; (focus ((repeat (first | exact At.here | apply At.there)); done)); refine VAppAll.as (d.m + 1) (AwS (d.m + 1) (insF d.wa k a)) rfl (hA.tail hT (AwS.len d.m d.wa)) hPB (show ((AwS d.m d.wa).drop (k * 4)).length = (d.m - k) * 4 by rw [List.length_drop, AwS.len]; omega) (show 0 < 4 by omega) (all_drop _ (AwS.one d.m d.wa)) (by omega) (by omega) (rows_ins Aw.cells (fun _ => rfl) d.wa a hk) (fun A' c' => ?_))) | ((show VCut _ _ _ _ _ _ _); first | refine VCut.head k rfl (by omega) ?_ | refine VCut.tail k rfl hk hc hP (fun B dd hT hPB => ?_)) | ((show VCall _ _ _ 92 _ _); refine VCall.grow _ (fun w1 m1 => hG _ _ w1 (Sees.any m1 fndA)) ?_))))
      all_goals (conv => whnf); all_goals first | exact VRet.sel (A', c') trivial rfl [4] (by simp) rfl | exact VRet.sel (A', c') trivial rfl [5] (by simp) rfl | exact VRet.sel (A', c') trivial rfl [3] (by simp) rfl
    · have hkm : k = d.m := by omega
      (repeat' ((conv => whnf); first | refine go ?_ | (refine VSome.mk ?_; intro gQ hA'; first | subst hA' | cases hA' | (dsimp only at hA'; subst hA')) | refine And.intro ?_ ?_ | intro _ | (first | ((show VDraw _ _ _ #[{ dst := some 9, op := _, type := _, pos := _, after := _, guard := _ }, _, _, _, _, _, _, _, _, _, _, _, _, _, _, _] _ _); refine VDraw.mk (.take 0 (.take 1 (.take 2 (.take 3 (.take 4 (.take 5 (.take 6 (.take 7 (.take 8 (.take 9 (.take 10 (.take 11 (.take 12 (.take 13 (.take 14 (.take 15 .done)))))))))))))))) [0, 1] (by kernel_rfl) (by kernel_rfl) ?_) | ((show VDraw _ _ _ #[{ dst := some 27, op := _, type := _, pos := _, after := _, guard := _ }, _, _, _, _, _, _, _, _, _, _, _, _, _, _] _ _); refine VDraw.mk (.take 1 (.take 2 (.take 3 (.take 4 (.take 6 (.take 9 (.take 10 (.take 11 (.take 12 (.br 0 (.br 5 (.br 7 (.br 8 (.br 13 (.take 14 .done) .done) .done) .done) (.br 7 (.br 5 (.br 8 (.br 13 (.take 14 .done) .done) .done) .done) .done)) (.br 7 (.br 0 (.br 5 (.br 8 (.br 13 (.take 14 .done) .done) .done) .done) .done) .done))))))))))) [0, 1] (by kernel_rfl) (by kernel_rfl) ?_) | ((show VApp _ _ _ _ _ _ _); first | (apply VApp.pushAny; (focus ((repeat (first | exact At.here | apply At.there)); done)); (focus ((repeat (first | exact At.here | apply At.there)); done)); refine VAppPush.mk rfl rfl (by omega) (fun A' c' => ?_)) | (apply VApp.allAny; (focus ((repeat (first | exact At.here | apply At.there)); done)); refine VAppAll.as k ((AwS d.m d.wa).take (k * 4)) rfl (hA.head (k * 4)) hP (show ((AwS d.m d.wa).take (k * 4)).length = k * 4 by rw [List.length_take, AwS.len]; omega) (show 0 < 4 by omega) (all_take _ (AwS.one d.m d.wa)) (by omega) (Nat.zero_add k) rfl (fun A' c' => ?_)) | (apply VApp.allAny; (focus ((repeat (first | exact At.here | apply At.there)); done)); refine VAppAll.as (d.m + 1) (AwS (d.m + 1) (insF d.wa k a)) rfl (hA.tail hT (AwS.len d.m d.wa)) hPB (show ((AwS d.m d.wa).drop (k * 4)).length = (d.m - k) * 4 by rw [List.length_drop, AwS.len]; omega) (show 0 < 4 by omega) (all_drop _ (AwS.one d.m d.wa)) (by omega) (by omega) (rows_ins Aw.cells (fun _ => rfl) d.wa a hk) (fun A' c' => ?_))) | ((show VCut _ _ _ _ _ _ _); first | refine VCut.head k rfl (by omega) ?_ | refine VCut.tail k rfl hk hc hP (fun B dd hT hPB => ?_)) | ((show VCall _ _ _ 92 _ _); refine VCall.grow _ (fun w1 m1 => hG _ _ w1 (Sees.any m1 fndA)) ?_))))
      all_goals (conv => whnf); all_goals first | exact VRet.sel (A', c') trivial rfl [4] (by simp) rfl | exact VRet.sel (A', c') trivial rfl [5] (by simp) rfl | exact VRet.sel (A', c') trivial rfl [3] (by simp) rfl
set_option maxHeartbeats 16000000 in
theorem sArrive_no (d : Co) (A1 : Option Addr) (c1 : Nat) (A2 : Option Addr) (c2 : Nat) (a : Aw) (w : World) (hm : d.m ≤ 6) (h : ¬ aGood (d.m + 1) (insF d.wa (plc d.wa a.id d.m 0) a)) (hc : d.m ≤ c2) (hP : Plain A2) (hA : Seen w A2 (AwS d.m d.wa)) :
    Calls Tryz.prog 122 #[.agg (d.at A1 c1 A2 c2).toArray, .agg a.cells.toArray] w (Post (.tuple #[.agg (d.at A1 c1 A2 c2).toArray, .string (tx wAsk)]) w) := by
  have hG := fun A c w hA => sArr_v A (d.m + 1) c (insF d.wa (plc d.wa a.id d.m 0) a) w (by omega) hA
  rw [tr_no h] at hG
  clear h
  refine post_of_vc ?_
  refine calls_of_vc tb_ok (args := [.agg (d.at A1 c1 A2 c2).toArray, .agg a.cells.toArray]) Tryz.func122 rfl ?_
  (repeat' ((conv => whnf); first | refine go ?_ | (refine VSome.mk ?_; intro gQ hA'; first | subst hA' | cases hA' | (dsimp only at hA'; subst hA')) | refine And.intro ?_ ?_ | intro _))
  (conv => whnf)
  rename_i gb ga gr
  refine VLoop.mk (ι := Nat) [6, 9, 10, 11, 12, 13, 14, 15, 16, 17, 18, 19, 20, 21, 22, 23, 24, 25, 26] (fun k => [(6, .int .i64 k)]) (fun _ => [.blk gb 39 (d.at A1 c1 A2 c2), .blk ga 98 a.cells, .blk gr 39 Co.zero.cells0]) (fun k => k ≤ d.m ∧ plc d.wa a.id d.m 0 = plc d.wa a.id (d.m - k) k) (fun k => d.m - k) 0 ⟨Nat.zero_le _, rfl⟩ ?_ (OwnLe.mk [0, 1, 2] (by simp) rfl) (fun k u hi => ?_)
  · ((conv => whnf); repeat (first | exact trivial | refine ⟨rfl, ?_⟩ | refine ⟨congrArg (Value.int .i64) (by first | omega | assumption | exact Eq.symm (by assumption)), ?_⟩))
  obtain ⟨hk, hp⟩ := hi
  by_cases hgo : k < d.m ∧ (d.wa k).id < a.id
  · obtain ⟨b, off, rfl, hb, hr, hi0, _⟩ := AwS.look hA hgo.1
    have h2 := hgo.1
    have h3 := hgo.2
    have e : d.m - k = (d.m - (k + 1)) + 1 := by omega
    (repeat' ((conv => whnf); first | refine go ?_ | (refine VSome.mk ?_; intro gQ hA'; first | subst hA' | cases hA' | (dsimp only at hA'; subst hA')) | refine And.intro ?_ ?_ | intro _ | (first | ((show VDraw _ _ _ #[{ dst := some 9, op := _, type := _, pos := _, after := _, guard := _ }, _, _, _, _, _, _, _, _, _, _, _, _, _, _, _] _ _); refine VDraw.mk (.take 0 (.take 1 (.take 2 (.take 3 (.take 4 (.take 5 (.take 6 (.take 7 (.take 8 (.take 9 (.take 10 (.take 11 (.take 12 (.take 13 (.take 14 (.take 15 .done)))))))))))))))) [0, 1] (by kernel_rfl) (by kernel_rfl) ?_))))
    all_goals (conv => whnf)
    all_goals (refine VNext.mk (k + 1) ⟨by omega, by rw [hp, e, plc_go h3]⟩ (by omega) ?_ (OwnLe.mk [0, 1, 2] (by simp) rfl); ((conv => whnf); repeat (first | exact trivial | refine ⟨rfl, ?_⟩ | refine ⟨congrArg (Value.int .i64) (by first | omega | assumption | exact Eq.symm (by assumption)), ?_⟩)))
  · have hpk : plc d.wa a.id d.m 0 = k := by
      rw [hp]
      rcases Nat.lt_or_ge k d.m with h | h
      · rw [show d.m - k = (d.m - (k + 1)) + 1 by omega, plc_stop (fun q => hgo ⟨h, q⟩)]
      · rw [show d.m - k = 0 by omega]; rfl
    rw [hpk] at hG ⊢
    clear hp
    by_cases h2 : k < d.m
    · obtain ⟨b, off, rfl, hb, hr, hi0, _⟩ := AwS.look hA h2
      have h3 : ¬ (d.wa k).id < a.id := fun q => hgo ⟨h2, q⟩
      (repeat' ((conv => whnf); first | refine go ?_ | (refine VSome.mk ?_; intro gQ hA'; first | subst hA' | cases hA' | (dsimp only at hA'; subst hA')) | refine And.intro ?_ ?_ | intro _ | (first | ((show VDraw _ _ _ #[{ dst := some 9, op := _, type := _, pos := _, after := _, guard := _ }, _, _, _, _, _, _, _, _, _, _, _, _, _, _, _] _ _); refine VDraw.mk (.take 0 (.take 1 (.take 2 (.take 3 (.take 4 (.take 5 (.take 6 (.take 7 (.take 8 (.take 9 (.take 10 (.take 11 (.take 12 (.take 13 (.take 14 (.take 15 .done)))))))))))))))) [0, 1] (by kernel_rfl) (by kernel_rfl) ?_) | ((show VDraw _ _ _ #[{ dst := some 27, op := _, type := _, pos := _, after := _, guard := _ }, _, _, _, _, _, _, _, _, _, _, _, _, _, _] _ _); refine VDraw.mk (.take 1 (.take 2 (.take 3 (.take 4 (.take 6 (.take 9 (.take 10 (.take 11 (.take 12 (.br 0 (.br 5 (.br 7 (.br 8 (.br 13 (.take 14 .done) .done) .done) .done) (.br 7 (.br 5 (.br 8 (.br 13 (.take 14 .done) .done) .done) .done) .done)) (.br 7 (.br 0 (.br 5 (.br 8 (.br 13 (.take 14 .done) .done) .done) .done) .done) .done))))))))))) [0, 1] (by kernel_rfl) (by kernel_rfl) ?_) | ((show VApp _ _ _ _ _ _ _); first | (apply VApp.pushAny; (focus ((repeat (first | exact At.here | apply At.there)); done)); (focus ((repeat (first | exact At.here | apply At.there)); done)); refine VAppPush.mk rfl rfl (by omega) (fun A' c' => ?_)) | (apply VApp.allAny; (focus ((repeat (first | exact At.here | apply At.there)); done)); refine VAppAll.as k ((AwS d.m d.wa).take (k * 4)) rfl (hA.head (k * 4)) hP (show ((AwS d.m d.wa).take (k * 4)).length = k * 4 by rw [List.length_take, AwS.len]; omega) (show 0 < 4 by omega) (all_take _ (AwS.one d.m d.wa)) (by omega) (Nat.zero_add k) rfl (fun A' c' => ?_)) | (apply VApp.allAny; (focus ((repeat (first | exact At.here | apply At.there)); done)); refine VAppAll.as (d.m + 1) (AwS (d.m + 1) (insF d.wa k a)) rfl (hA.tail hT (AwS.len d.m d.wa)) hPB (show ((AwS d.m d.wa).drop (k * 4)).length = (d.m - k) * 4 by rw [List.length_drop, AwS.len]; omega) (show 0 < 4 by omega) (all_drop _ (AwS.one d.m d.wa)) (by omega) (by omega) (rows_ins Aw.cells (fun _ => rfl) d.wa a hk) (fun A' c' => ?_))) | ((show VCut _ _ _ _ _ _ _); first | refine VCut.head k rfl (by omega) ?_ | refine VCut.tail k rfl hk hc hP (fun B dd hT hPB => ?_)) | ((show VCall _ _ _ 92 _ _); refine VCall.grow _ (fun w1 m1 => hG _ _ w1 (Sees.any m1 fndA)) ?_))))
      all_goals ((conv => whnf); refine VRet.mk fun w' m => ?_); all_goals exact ⟨rfl, m.keeps.below⟩
    · have hkm : k = d.m := by omega
      (repeat' ((conv => whnf); first | refine go ?_ | (refine VSome.mk ?_; intro gQ hA'; first | subst hA' | cases hA' | (dsimp only at hA'; subst hA')) | refine And.intro ?_ ?_ | intro _ | (first | ((show VDraw _ _ _ #[{ dst := some 9, op := _, type := _, pos := _, after := _, guard := _ }, _, _, _, _, _, _, _, _, _, _, _, _, _, _, _] _ _); refine VDraw.mk (.take 0 (.take 1 (.take 2 (.take 3 (.take 4 (.take 5 (.take 6 (.take 7 (.take 8 (.take 9 (.take 10 (.take 11 (.take 12 (.take 13 (.take 14 (.take 15 .done)))))))))))))))) [0, 1] (by kernel_rfl) (by kernel_rfl) ?_) | ((show VDraw _ _ _ #[{ dst := some 27, op := _, type := _, pos := _, after := _, guard := _ }, _, _, _, _, _, _, _, _, _, _, _, _, _, _] _ _); refine VDraw.mk (.take 1 (.take 2 (.take 3 (.take 4 (.take 6 (.take 9 (.take 10 (.take 11 (.take 12 (.br 0 (.br 5 (.br 7 (.br 8 (.br 13 (.take 14 .done) .done) .done) .done) (.br 7 (.br 5 (.br 8 (.br 13 (.take 14 .done) .done) .done) .done) .done)) (.br 7 (.br 0 (.br 5 (.br 8 (.br 13 (.take 14 .done) .done) .done) .done) .done) .done))))))))))) [0, 1] (by kernel_rfl) (by kernel_rfl) ?_) | ((show VApp _ _ _ _ _ _ _); first | (apply VApp.pushAny; (focus ((repeat (first | exact At.here | apply At.there)); done)); (focus ((repeat (first | exact At.here | apply At.there)); done)); refine VAppPush.mk rfl rfl (by omega) (fun A' c' => ?_)) | (apply VApp.allAny; (focus ((repeat (first | exact At.here | apply At.there)); done)); refine VAppAll.as k ((AwS d.m d.wa).take (k * 4)) rfl (hA.head (k * 4)) hP (show ((AwS d.m d.wa).take (k * 4)).length = k * 4 by rw [List.length_take, AwS.len]; omega) (show 0 < 4 by omega) (all_take _ (AwS.one d.m d.wa)) (by omega) (Nat.zero_add k) rfl (fun A' c' => ?_)) | (apply VApp.allAny; (focus ((repeat (first | exact At.here | apply At.there)); done)); refine VAppAll.as (d.m + 1) (AwS (d.m + 1) (insF d.wa k a)) rfl (hA.tail hT (AwS.len d.m d.wa)) hPB (show ((AwS d.m d.wa).drop (k * 4)).length = (d.m - k) * 4 by rw [List.length_drop, AwS.len]; omega) (show 0 < 4 by omega) (all_drop _ (AwS.one d.m d.wa)) (by omega) (by omega) (rows_ins Aw.cells (fun _ => rfl) d.wa a hk) (fun A' c' => ?_))) | ((show VCut _ _ _ _ _ _ _); first | refine VCut.head k rfl (by omega) ?_ | refine VCut.tail k rfl hk hc hP (fun B dd hT hPB => ?_)) | ((show VCall _ _ _ 92 _ _); refine VCall.grow _ (fun w1 m1 => hG _ _ w1 (Sees.any m1 fndA)) ?_))))
      all_goals ((conv => whnf); refine VRet.mk fun w' m => ?_); all_goals exact ⟨rfl, m.keeps.below⟩
set_option maxHeartbeats 16000000 in
theorem sLeave_v (d : Co) (A1 : Option Addr) (c1 : Nat) (A2 : Option Addr) (c2 : Nat) (x : Int) (i : Nat) (w : World) (hm : d.m ≤ 6) (hfi : fnd d.wa x d.m = some i) (hc : d.m ≤ c2) (hP : Plain A2) (hA : Seen w A2 (AwS d.m d.wa)) :
    Calls Tryz.prog 125 #[.agg (d.at A1 c1 A2 c2).toArray, .int .i64 x] w fun e w' => ∃ v9, e = .returned v9 ∧ RetV (ι := Option Addr × Nat) (fun _ => True) (fun (P, c') => .tuple #[.agg ((d.lve i).at A1 c1 P c').toArray, .string (tx wOk)]) (fun (P, c') => [.row (.slice P (d.m - 1) c') 98 4 (d.m - 1) (AwS (d.m - 1) (delF d.wa i))]) (Base.of w) v9 w' := by
  obtain ⟨hf1, hf2, hf3⟩ := fnd_some hfi
  refine calls_of_vc tb_ok (args := [.agg (d.at A1 c1 A2 c2).toArray, .int .i64 x]) Tryz.func125 rfl ?_
  (repeat' ((conv => whnf); first | refine go ?_ | (refine VSome.mk ?_; intro gQ hA'; first | subst hA' | cases hA' | (dsimp only at hA'; subst hA')) | refine And.intro ?_ ?_ | intro _))
  (conv => whnf)
  rename_i gb gr
  refine VLoop.mk (ι := Nat) [5, 6, 7, 8, 9, 10, 11, 12, 13, 14, 15, 16, 17, 18, 19, 20, 21, 22, 23, 24, 25, 26, 27, 28, 29, 30, 31, 32, 33, 34, 35, 36, 37] (fun k => [(6, .int .i64 k)]) (fun _ => [.blk gb 39 (d.at A1 c1 A2 c2), .blk gr 39 Co.zero.cells0]) (fun k => k ≤ i) (fun k => i - k) 0 (Nat.zero_le _) ?_ (OwnLe.mk [0, 1] (by simp) rfl) (fun k u hi => ?_)
  · ((conv => whnf); repeat (first | exact trivial | refine ⟨rfl, ?_⟩ | refine ⟨congrArg (Value.int .i64) (by first | omega | assumption | exact Eq.symm (by assumption)), ?_⟩))
  have hk : k < d.m := by omega
  obtain ⟨b, off, rfl, hb, hr, hi0, _⟩ := AwS.look hA hk
  have hx : (k : Int) + 1 = ((k + 1 : Nat) : Int) := by omega
  by_cases hlt : k < i
  · have h3 : ¬ (d.wa k).id = x := hf3 k hlt
    (repeat' ((conv => whnf); first | refine go ?_ | (refine VSome.mk ?_; intro gQ hA'; first | subst hA' | cases hA' | (dsimp only at hA'; subst hA')) | refine And.intro ?_ ?_ | intro _ | (first | ((show VApp _ _ _ _ _ _ _); first | (apply VApp.allAny; (focus ((repeat (first | exact At.here | apply At.there)); done)); refine VAppAll.as k ((AwS d.m d.wa).take (k * 4)) rfl (hA.head (k * 4)) hP (show ((AwS d.m d.wa).take (k * 4)).length = k * 4 by rw [List.length_take, AwS.len]; omega) (show 0 < 4 by omega) (all_take _ (AwS.one d.m d.wa)) (by omega) (Nat.zero_add k) rfl (fun A' c' => ?_)) | (apply VApp.allAny; (focus ((repeat (first | exact At.here | apply At.there)); done)); refine VAppAll.as (d.m - 1) (AwS (d.m - 1) (delF d.wa k)) rfl (hA.tail hT (AwS.len d.m d.wa)) hPB (show ((AwS d.m d.wa).drop ((k + 1) * 4)).length = (d.m - (k + 1)) * 4 by rw [List.length_drop, AwS.len]; omega) (show 0 < 4 by omega) (all_drop _ (AwS.one d.m d.wa)) (by omega) (by omega) (rows_del Aw.cells (fun _ => rfl) d.wa hk) (fun A' c' => ?_))) | ((show VCut _ _ _ _ _ _ _); first | refine VCut.head k rfl (by omega) ?_ | refine VCut.tail (k + 1) rfl (by omega) hc hP (fun B dd hT hPB => ?_)))))
    all_goals (conv => whnf)
    all_goals (refine VNext.mk (k + 1) hlt (by omega) ?_ (OwnLe.mk [0, 1] (by simp) rfl); ((conv => whnf); repeat (first | exact trivial | refine ⟨rfl, ?_⟩ | refine ⟨congrArg (Value.int .i64) (by first | omega | assumption | exact Eq.symm (by assumption)), ?_⟩)))
  · obtain rfl : k = i := by omega
    (repeat' ((conv => whnf); first | refine go ?_ | (refine VSome.mk ?_; intro gQ hA'; first | subst hA' | cases hA' | (dsimp only at hA'; subst hA')) | refine And.intro ?_ ?_ | intro _ | (first | ((show VDraw _ _ _ _ _ _); refine VDraw.mk (.take 1 (.take 2 (.take 3 (.take 4 (.take 6 (.take 7 (.take 8 (.take 9 (.take 10 (.br 0 (.br 5 (.br 11 (.take 12 (.br 13 .done .done)) .done) .done) .done)))))))))) [0] (by kernel_rfl) (by kernel_rfl) ?_) | ((show VApp _ _ _ _ _ _ _); first | (apply VApp.allAny; (focus ((repeat (first | exact At.here | apply At.there)); done)); refine VAppAll.as k ((AwS d.m d.wa).take (k * 4)) rfl (hA.head (k * 4)) hP (show ((AwS d.m d.wa).take (k * 4)).length = k * 4 by rw [List.length_take, AwS.len]; omega) (show 0 < 4 by omega) (all_take _ (AwS.one d.m d.wa)) (by omega) (Nat.zero_add k) rfl (fun A' c' => ?_)) | (apply VApp.allAny; (focus ((repeat (first | exact At.here | apply At.there)); done)); refine VAppAll.as (d.m - 1) (AwS (d.m - 1) (delF d.wa k)) rfl (hA.tail hT (AwS.len d.m d.wa)) hPB (show ((AwS d.m d.wa).drop ((k + 1) * 4)).length = (d.m - (k + 1)) * 4 by rw [List.length_drop, AwS.len]; omega) (show 0 < 4 by omega) (all_drop _ (AwS.one d.m d.wa)) (by omega) (by omega) (rows_del Aw.cells (fun _ => rfl) d.wa hk) (fun A' c' => ?_))) | ((show VCut _ _ _ _ _ _ _); first | refine VCut.head k rfl (by omega) ?_ | refine VCut.tail (k + 1) rfl (by omega) hc hP (fun B dd hT hPB => ?_)))))
    all_goals (conv => whnf)
    all_goals first | exact VRet.sel (A', c') trivial rfl [3] (by simp) rfl | exact VRet.sel (A', c') trivial rfl [4] (by simp) rfl | exact VRet.sel (A', c') trivial rfl [2] (by simp) rfl
set_option maxHeartbeats 16000000 in
theorem sLeave_no (d : Co) (A1 : Option Addr) (c1 : Nat) (A2 : Option Addr) (c2 : Nat) (x : Int) (w : World) (hm : d.m ≤ 6) (hfi : fnd d.wa x d.m = none) (hA : Seen w A2 (AwS d.m d.wa)) :
    Calls Tryz.prog 125 #[.agg (d.at A1 c1 A2 c2).toArray, .int .i64 x] w (Post (.tuple #[.agg (d.at A1 c1 A2 c2).toArray, .string (tx wAsk)]) w) := by
  have hf3 := fnd_none hfi
  refine post_of_vc ?_
  refine calls_of_vc tb_ok (args := [.agg (d.at A1 c1 A2 c2).toArray, .int .i64 x]) Tryz.func125 rfl ?_
  (repeat' ((conv => whnf); first | refine go ?_ | (refine VSome.mk ?_; intro gQ hA'; first | subst hA' | cases hA' | (dsimp only at hA'; subst hA')) | refine And.intro ?_ ?_ | intro _))
  (conv => whnf)
  rename_i gb gr
  refine VLoop.mk (ι := Nat) [5, 6, 7, 8, 9, 10, 11, 12, 13, 14, 15, 16, 17, 18, 19, 20, 21, 22, 23, 24, 25, 26, 27, 28, 29, 30, 31, 32, 33, 34, 35, 36, 37] (fun k => [(6, .int .i64 k)]) (fun _ => [.blk gb 39 (d.at A1 c1 A2 c2), .blk gr 39 Co.zero.cells0]) (fun k => k ≤ d.m) (fun k => d.m - k) 0 (Nat.zero_le _) ?_ (OwnLe.mk [0, 1] (by simp) rfl) (fun k u hk => ?_)
  · ((conv => whnf); repeat (first | exact trivial | refine ⟨rfl, ?_⟩ | refine ⟨congrArg (Value.int .i64) (by first | omega | assumption | exact Eq.symm (by assumption)), ?_⟩))
  by_cases hlt : k < d.m
  · obtain ⟨b, off, rfl, hb, hr, hi0, _⟩ := AwS.look hA hlt
    have h3 : ¬ (d.wa k).id = x := hf3 k hlt
    (repeat' ((conv => whnf); first | refine go ?_ | (refine VSome.mk ?_; intro gQ hA'; first | subst hA' | cases hA' | (dsimp only at hA'; subst hA')) | refine And.intro ?_ ?_ | intro _))
    all_goals (conv => whnf)
    all_goals (refine VNext.mk (k + 1) hlt (by omega) ?_ (OwnLe.mk [0, 1] (by simp) rfl); ((conv => whnf); repeat (first | exact trivial | refine ⟨rfl, ?_⟩ | refine ⟨congrArg (Value.int .i64) (by first | omega | assumption | exact Eq.symm (by assumption)), ?_⟩)))
  · (repeat' ((conv => whnf); first | refine go ?_ | (refine VSome.mk ?_; intro gQ hA'; first | subst hA' | cases hA' | (dsimp only at hA'; subst hA')) | refine And.intro ?_ ?_ | intro _))
    all_goals ((conv => whnf); refine VRet.mk fun w' m => ?_)
    all_goals exact ⟨rfl, m.keeps.below⟩
end Go.Proofs.YtadjhkehfklmnaaGreatDoor
namespace Go.Proofs.YtadjhkehfklmnaaGreatDoor
set_option linter.unusedSimpArgs false
set_option linter.unusedVariables false
open Go.RowKit
set_option maxRecDepth 10000
noncomputable def Co.askV (d : Co) (x : List UInt8) (mi : Int) : List UInt8 :=
  if tr (1 ≤ mi ∧ mi ≤ 60) then (if x = wBest then ltx (idsOf d.wa (best d.m d.wa mi d.lock.high d.m []).1) else if x = wDelay then Lib.itoa (best d.m d.wa mi d.lock.high d.m []).2 else if x = wBound then Lib.itoa (loB d.wa mi d.lock.high d.m) else wAsk) else wAsk
theorem Co.askV_out {d : Co} {x : List UInt8} {mi : Int} (h : ¬ (1 ≤ mi ∧ mi ≤ 60)) : d.askV x mi = wAsk := ite_ntr h
theorem Co.askV_best {d : Co} {mi : Int} (h : 1 ≤ mi ∧ mi ≤ 60) : d.askV wBest mi = ltx (idsOf d.wa (best d.m d.wa mi d.lock.high d.m []).1) := by unfold Co.askV; rw [ite_tr h, if_pos rfl]
theorem Co.askV_delay {d : Co} {mi : Int} (h : 1 ≤ mi ∧ mi ≤ 60) : d.askV wDelay mi = Lib.itoa (best d.m d.wa mi d.lock.high d.m []).2 := by unfold Co.askV; rw [ite_tr h, if_neg (by decide), if_pos rfl]
theorem Co.askV_bound {d : Co} {mi : Int} (h : 1 ≤ mi ∧ mi ≤ 60) : d.askV wBound mi = Lib.itoa (loB d.wa mi d.lock.high d.m) := by unfold Co.askV; rw [ite_tr h, if_neg (by decide), if_neg (by decide), if_pos rfl]
theorem Co.askV_no {d : Co} {x : List UInt8} {mi : Int} (h1 : ¬ x = wBest) (h2 : ¬ x = wDelay) (h3 : ¬ x = wBound) : d.askV x mi = wAsk := by
  unfold Co.askV
  by_cases h : 1 ≤ mi ∧ mi ≤ 60
  · rw [ite_tr h, if_neg h1, if_neg h2, if_neg h3]
  · rw [ite_ntr h]
theorem Co.askV_ex {d : Co} {x : List UInt8} {l : List Int} (h : x = wBest ∨ x = wDelay ∨ x = wBound) : d.fin (d.ex x l) = (d, d.askV x (a0 l 0)) := by
  by_cases hm : 1 ≤ a0 l 0 ∧ a0 l 0 ≤ 60
  · rcases h with rfl | rfl | rfl
    · rw [Co.ex_best, ite_tr hm, Co.askV_best hm]; rfl
    · rw [Co.ex_delay, ite_tr hm, Co.askV_delay hm]; rfl
    · rw [Co.ex_bound, ite_tr hm, Co.askV_bound hm]; rfl
  · rw [Co.askV_out hm]
    rcases h with rfl | rfl | rfl
    · rw [Co.ex_best, ite_ntr hm]; rfl
    · rw [Co.ex_delay, ite_ntr hm]; rfl
    · rw [Co.ex_bound, ite_ntr hm]; rfl
set_option maxHeartbeats 8000000 in
theorem sAsk_out (d : Co) (A1 : Option Addr) (c1 : Nat) (A2 : Option Addr) (c2 : Nat) (x : List UInt8) (mi : Int) (w : World) (hs : d.lock.safe) (hg : aGood d.m d.wa) (hm : ¬ (1 ≤ mi ∧ mi ≤ 60)) (hA : Seen w A2 (AwS d.m d.wa)) :
    Calls Tryz.prog 126 #[.agg (d.at A1 c1 A2 c2).toArray, .string (tx x), .int .i64 mi] w (Post (.string (tx wAsk)) w) := by
  have hn := hg.2
  have hH := fun w => l28High_v d.lock w hs
  have hL := fun w hA => sBest_no A2 d.m c2 d.wa d.lock.high mi w hg hm hA
  refine post_of_vc ?_
  rcases hh : d.lock.high with _ | _
  all_goals rw [hh] at hH hL
  all_goals (refine calls_of_vc tb_ok (args := [.agg (d.at A1 c1 A2 c2).toArray, .string (tx x), .int .i64 mi]) Tryz.func126 rfl ?_)
  all_goals ((repeat' ((conv => whnf); first | refine go ?_ | (refine VSome.mk ?_; intro gQ hA'; first | subst hA' | cases hA' | (dsimp only at hA'; subst hA')) | refine And.intro ?_ ?_ | intro _ | (first | ((show VCall _ _ _ 160 _ _); refine VCall.grow _ (fun w1 m1 => hH w1) ?_) | ((show VCall _ _ _ 159 _ _); refine VCall.some _ _ (fun w1 m1 => hL w1 seenA) (fun g9 _ => ?_)) | ((show VDraw _ _ _ #[{ dst := some 13, op := _, type := _, pos := _, after := _, guard := _ }, _, _, _, _, _, _, _, _, _, _, _, _, _] _ _); refine VDraw.mk (.take 0 (.take 1 (.take 2 (.take 3 (.take 5 (.br 4 (.br 6 (.br 7 (.take 8 (.take 9 (.take 10 (.take 11 (.take 12 (.take 13 .done)))))) .done) .done) .done)))))) [0] (by kernel_rfl) (by kernel_rfl) ?_)))))
  all_goals ((conv => whnf); refine VRet.mk fun w' m => ?_)
  all_goals exact ⟨rfl, m.keeps.below⟩
set_option maxHeartbeats 8000000 in
theorem sAsk_bound (d : Co) (A1 : Option Addr) (c1 : Nat) (A2 : Option Addr) (c2 : Nat) (mi : Int) (w : World) (hs : d.lock.safe) (hg : aGood d.m d.wa) (h1 : 1 ≤ mi) (h2 : mi ≤ 60) (hc : d.m ≤ c2) (hP : Plain A2) (hA : Seen w A2 (AwS d.m d.wa)) :
    Calls Tryz.prog 126 #[.agg (d.at A1 c1 A2 c2).toArray, .string (tx wBound), .int .i64 mi] w (Post (.string (tx (Lib.itoa (loB d.wa mi d.lock.high d.m)))) w) := by
  have hn := hg.2
  have hlo := loB_in (hi := d.lock.high) hg (show 0 ≤ mi by omega) h2
  have hH := fun w => l28High_v d.lock w hs
  have hL := fun w hA => sBest_v A2 d.m c2 d.wa d.lock.high mi w hg h1 h2 hA
  have hB := fun w hA => sLower_v A2 d.m c2 d.wa d.lock.high mi w hg h1 h2 hc hA hP
  have hw1 : ¬ tx wBound = ({ data := #[98, 101, 115, 116] } : ByteArray) := by decide
  have hw2 : ¬ tx wBound = ({ data := #[100, 101, 108, 97, 121] } : ByteArray) := by decide
  refine post_of_vc ?_
  generalize loB d.wa mi d.lock.high d.m = lo at *
  rcases hb : best d.m d.wa mi d.lock.high d.m [] with ⟨bl, bx⟩
  rw [hb] at hL
  rcases hh : d.lock.high with _ | _
  all_goals rw [hh] at hH hL hB
  all_goals (refine calls_of_vc tb_ok (args := [.agg (d.at A1 c1 A2 c2).toArray, .string (tx wBound), .int .i64 mi]) Tryz.func126 rfl ?_)
  all_goals ((repeat' ((conv => whnf); first | refine go ?_ | (refine VSome.mk ?_; intro gQ hA'; first | subst hA' | cases hA' | (dsimp only at hA'; subst hA')) | refine And.intro ?_ ?_ | intro _ | (first | ((show VCall _ _ _ 160 _ _); refine VCall.grow _ (fun w1 m1 => hH w1) ?_) | ((show VCall _ _ _ 159 _ _); refine VCall.ret (fun w1 m1 => hL w1 seenA) (fun i hi => ?_); obtain ⟨l, x9, P, cp⟩ := i; cases hi) | ((show VDraw _ _ _ #[{ dst := some 13, op := _, type := _, pos := _, after := _, guard := _ }, _, _, _, _, _, _, _, _, _, _, _, _, _] _ _); refine VDraw.mk (.take 0 (.take 1 (.take 2 (.take 3 (.take 5 (.br 4 (.br 6 (.br 7 (.take 8 (.take 9 (.take 10 (.take 11 (.take 12 (.take 13 .done)))))) .done) .done) .done)))))) [0] (by kernel_rfl) (by kernel_rfl) ?_) | ((show VCall _ _ _ 161 _ _); refine VCall.grow _ (fun w1 m1 => hB w1 seenA) ?_) | ((show VCall _ _ _ 61 _ _); refine VCall.grow _ (fun w1 m1 => l1NumZ_v _ w1 (by omega) (by omega)) ?_) | ((show VDraw _ _ _ #[{ dst := some 55, op := _, type := _, pos := _, after := _, guard := _ }, _, _, _, _, _, _, _, _] _ _); refine VDraw.mk (.take 0 (.take 1 (.take 2 (.take 3 (.take 5 (.br 4 (.br 6 (.br 7 (.take 8 .done) .done) .done) .done)))))) [0] (by kernel_rfl) (by kernel_rfl) ?_)))))
  all_goals ((conv => whnf); refine VRet.mk fun w' m => ?_)
  all_goals exact ⟨rfl, m.keeps.below⟩
set_option maxHeartbeats 8000000 in
theorem sAsk_delay (d : Co) (A1 : Option Addr) (c1 : Nat) (A2 : Option Addr) (c2 : Nat) (mi : Int) (w : World) (hs : d.lock.safe) (hg : aGood d.m d.wa) (h1 : 1 ≤ mi) (h2 : mi ≤ 60) (hA : Seen w A2 (AwS d.m d.wa)) :
    Calls Tryz.prog 126 #[.agg (d.at A1 c1 A2 c2).toArray, .string (tx wDelay), .int .i64 mi] w (Post (.string (tx (Lib.itoa (best d.m d.wa mi d.lock.high d.m []).2))) w) := by
  have hn := hg.2
  have hH := fun w => l28High_v d.lock w hs
  have hL := fun w hA => sBest_v A2 d.m c2 d.wa d.lock.high mi w hg h1 h2 hA
  have hbi := best_in (f := d.wa) (hi := d.lock.high) hg (show 0 ≤ mi by omega) h2 d.m [] vld_nil (by simp)
  have hw1 : ¬ tx wDelay = ({ data := #[98, 101, 115, 116] } : ByteArray) := by decide
  refine post_of_vc ?_
  rcases hb : best d.m d.wa mi d.lock.high d.m [] with ⟨bl, bx⟩
  rw [hb] at hL hbi
  dsimp only at hbi ⊢
  rcases hh : d.lock.high with _ | _
  all_goals rw [hh] at hH hL
  all_goals (refine calls_of_vc tb_ok (args := [.agg (d.at A1 c1 A2 c2).toArray, .string (tx wDelay), .int .i64 mi]) Tryz.func126 rfl ?_)
  all_goals ((repeat' ((conv => whnf); first | refine go ?_ | (refine VSome.mk ?_; intro gQ hA'; first | subst hA' | cases hA' | (dsimp only at hA'; subst hA')) | refine And.intro ?_ ?_ | intro _ | (first | ((show VCall _ _ _ 160 _ _); refine VCall.grow _ (fun w1 m1 => hH w1) ?_) | ((show VCall _ _ _ 159 _ _); refine VCall.ret (fun w1 m1 => hL w1 seenA) (fun i hi => ?_); obtain ⟨l, x9, P, cp⟩ := i; cases hi) | ((show VDraw _ _ _ #[{ dst := some 13, op := _, type := _, pos := _, after := _, guard := _ }, _, _, _, _, _, _, _, _, _, _, _, _, _] _ _); refine VDraw.mk (.take 0 (.take 1 (.take 2 (.take 3 (.take 5 (.br 4 (.br 6 (.br 7 (.take 8 (.take 9 (.take 10 (.take 11 (.take 12 (.take 13 .done)))))) .done) .done) .done)))))) [0] (by kernel_rfl) (by kernel_rfl) ?_) | ((show VCall _ _ _ 61 _ _); refine VCall.grow _ (fun w1 m1 => l1NumZ_v _ w1 (by omega) (by omega)) ?_)))))
  all_goals ((conv => whnf); refine VRet.mk fun w' m => ?_)
  all_goals exact ⟨rfl, m.keeps.below⟩
set_option maxHeartbeats 8000000 in
theorem sAsk_no (d : Co) (A1 : Option Addr) (c1 : Nat) (A2 : Option Addr) (c2 : Nat) (x : List UInt8) (mi : Int) (w : World) (hs : d.lock.safe) (hg : aGood d.m d.wa) (h1 : 1 ≤ mi) (h2 : mi ≤ 60) (e1 : ¬ x = wBest) (e2 : ¬ x = wDelay) (e3 : ¬ x = wBound) (hA : Seen w A2 (AwS d.m d.wa)) :
    Calls Tryz.prog 126 #[.agg (d.at A1 c1 A2 c2).toArray, .string (tx x), .int .i64 mi] w (Post (.string (tx wAsk)) w) := by
  have hn := hg.2
  have hH := fun w => l28High_v d.lock w hs
  have hL := fun w hA => sBest_v A2 d.m c2 d.wa d.lock.high mi w hg h1 h2 hA
  have hw1 : ¬ tx x = ({ data := #[98, 101, 115, 116] } : ByteArray) := fun q => e1 (tx_inj (q.trans (by rfl : _ = tx wBest)))
  have hw2 : ¬ tx x = ({ data := #[100, 101, 108, 97, 121] } : ByteArray) := fun q => e2 (tx_inj (q.trans (by rfl : _ = tx wDelay)))
  have hw3 : ¬ tx x = ({ data := #[98, 111, 117, 110, 100] } : ByteArray) := fun q => e3 (tx_inj (q.trans (by rfl : _ = tx wBound)))
  refine post_of_vc ?_
  rcases hb : best d.m d.wa mi d.lock.high d.m [] with ⟨bl, bx⟩
  rw [hb] at hL
  rcases hh : d.lock.high with _ | _
  all_goals rw [hh] at hH hL
  all_goals (refine calls_of_vc tb_ok (args := [.agg (d.at A1 c1 A2 c2).toArray, .string (tx x), .int .i64 mi]) Tryz.func126 rfl ?_)
  all_goals ((repeat' ((conv => whnf); first | refine go ?_ | (refine VSome.mk ?_; intro gQ hA'; first | subst hA' | cases hA' | (dsimp only at hA'; subst hA')) | refine And.intro ?_ ?_ | intro _ | (first | ((show VCall _ _ _ 160 _ _); refine VCall.grow _ (fun w1 m1 => hH w1) ?_) | ((show VCall _ _ _ 159 _ _); refine VCall.ret (fun w1 m1 => hL w1 seenA) (fun i hi => ?_); obtain ⟨l, x9, P, cp⟩ := i; cases hi) | ((show VDraw _ _ _ #[{ dst := some 13, op := _, type := _, pos := _, after := _, guard := _ }, _, _, _, _, _, _, _, _, _, _, _, _, _] _ _); refine VDraw.mk (.take 0 (.take 1 (.take 2 (.take 3 (.take 5 (.br 4 (.br 6 (.br 7 (.take 8 (.take 9 (.take 10 (.take 11 (.take 12 (.take 13 .done)))))) .done) .done) .done)))))) [0] (by kernel_rfl) (by kernel_rfl) ?_)))))
  all_goals ((conv => whnf); refine VRet.mk fun w' m => ?_)
  all_goals exact ⟨rfl, m.keeps.below⟩
set_option maxHeartbeats 8000000 in
theorem sAsk_best (d : Co) (A1 : Option Addr) (c1 : Nat) (A2 : Option Addr) (c2 : Nat) (mi : Int) (w : World) (hs : d.lock.safe) (hg : aGood d.m d.wa) (h1 : 1 ≤ mi) (h2 : mi ≤ 60) (hA : Seen w A2 (AwS d.m d.wa)) :
    Calls Tryz.prog 126 #[.agg (d.at A1 c1 A2 c2).toArray, .string (tx wBest), .int .i64 mi] w (Post (.string (tx (ltx (idsOf d.wa (best d.m d.wa mi d.lock.high d.m []).1)))) w) := by
  have hn := hg.2
  have hH := fun w => l28High_v d.lock w hs
  have hL := fun w hA => sBest_v A2 d.m c2 d.wa d.lock.high mi w hg h1 h2 hA
  have hbi := best_in (f := d.wa) (hi := d.lock.high) hg (show 0 ≤ mi by omega) h2 d.m [] vld_nil (by simp)
  refine post_of_vc ?_
  rcases hb : best d.m d.wa mi d.lock.high d.m [] with ⟨bl, bx⟩
  rw [hb] at hL hbi
  dsimp only at hbi ⊢
  obtain ⟨hv, hbl, _, _⟩ := hbi
  obtain ⟨_, hbm⟩ := vld_nd hv
  have hT := fun (B : Option Addr) (c : Nat) w hB => l28List_v B c (idsOf d.wa bl) w (by simp [idsOf]; omega) (fun y hy => by
    obtain ⟨i, hi, rfl⟩ := List.mem_map.1 hy
    have := (hg.1 i (hbm i hi)).1
    omega) hB
  rw [show (idsOf d.wa bl).length = bl.length by simp [idsOf]] at hT
  rcases hh : d.lock.high with _ | _
  all_goals rw [hh] at hH hL
  all_goals (refine calls_of_vc tb_ok (args := [.agg (d.at A1 c1 A2 c2).toArray, .string (tx wBest), .int .i64 mi]) Tryz.func126 rfl ?_)
  all_goals ((repeat' ((conv => whnf); first | refine go ?_ | (refine VSome.mk ?_; intro gQ hA'; first | subst hA' | cases hA' | (dsimp only at hA'; subst hA')) | refine And.intro ?_ ?_ | intro _ | (first | ((show VCall _ _ _ 160 _ _); refine VCall.grow _ (fun w1 m1 => hH w1) ?_) | ((show VCall _ _ _ 159 _ _); refine VCall.ret (fun w1 m1 => hL w1 seenA) (fun i hi => ?_); obtain ⟨l, x9, P, cp⟩ := i; cases hi) | ((show VDraw _ _ _ #[{ dst := some 13, op := _, type := _, pos := _, after := _, guard := _ }, _, _, _, _, _, _, _, _, _, _, _, _, _] _ _); refine VDraw.mk (.take 0 (.take 1 (.take 2 (.take 3 (.take 5 (.br 4 (.br 6 (.br 7 (.take 8 (.take 9 (.take 10 (.take 11 (.take 12 (.take 13 .done)))))) .done) .done) .done)))))) [0] (by kernel_rfl) (by kernel_rfl) ?_)))))
  all_goals (conv => whnf)
  all_goals rename_i gb _ _ _ _
  all_goals (refine VLoop.mk (ι := Nat × Option Addr × Nat) [10, 11, 29, 30, 31, 32, 33, 34, 35, 36, 37, 38, 39, 40, 41, 42, 43, 44, 45, 46] (fun (k, Q, cq) => [(11, .int .i64 k), (10, .slice Q k cq)]) (fun (k, Q, cq) => [.blk gb 39 (d.at A1 c1 A2 c2), .row (.slice P bl.length cp) 3 1 bl.length (NL bl), .row (.slice Q k cq) 3 1 k (IL (idsOf d.wa (bl.take k)))]) (fun i => i.1 ≤ bl.length) (fun i => bl.length - i.1) (0, _, _) (Nat.zero_le _) ?_ (OwnLe.mk [0, 1, 2] (by simp) rfl) (fun i u hi => ?_))
  all_goals first | (((conv => whnf); repeat (first | exact trivial | refine ⟨rfl, ?_⟩ | refine ⟨congrArg (Value.int .i64) (by first | omega | assumption | exact Eq.symm (by assumption)), ?_⟩)); done) | skip
  all_goals (obtain ⟨k, Q, cq⟩ := i)
  all_goals (replace hi : k ≤ bl.length := hi)
  all_goals ((conv => whnf); try dsimp only)
  all_goals by_cases hlt : k < bl.length
  all_goals first
    | (have hx := hbm _ (nth_mem hlt)
       have a1 : (NL bl)[mulS k 1]? = some (.int .i64 (nth bl k : Nat)) := nth_len hlt _ (by rw [mulS_eq]; omega)
       obtain ⟨b1, off1, rfl, hb1, hr1, hi1, _⟩ := AwS.look hA hx
       have hids := ids_take (f := d.wa) hlt
       (repeat' ((conv => whnf); first | refine go ?_ | (refine VSome.mk ?_; intro gQ hA'; first | subst hA' | cases hA' | (dsimp only at hA'; subst hA')) | refine And.intro ?_ ?_ | intro _ | (first | ((show VDraw _ _ _ #[{ dst := some 35, op := _, type := _, pos := _, after := _, guard := _ }, _, _, _, _, _, _, _, _, _, _, _, _] _ _); refine VDraw.mk (.take 0 (.take 1 (.take 2 (.take 3 (.take 4 (.take 5 (.take 6 (.take 7 (.take 8 (.take 9 (.br 10 (.br 11 (.br 12 .done .done) .done) .done))))))))))) [0, 1] (by kernel_rfl) (by kernel_rfl) ?_) | ((show VApp _ _ _ _ _ _ _); (apply VApp.pushAny; (focus ((repeat (first | exact At.here | apply At.there)); done)); (focus ((repeat (first | exact At.here | apply At.there)); done)); refine VAppPush.mk rfl rfl (by omega) (fun A' c' => ?_))))))
       (conv => whnf)
       refine VNext.mk (k + 1, _, _) hlt (by show bl.length - (k + 1) < bl.length - k; omega) ?_ (OwnLe.mk [0, 1, 2] (by simp) (by dsimp only; rw [hids, IL_app]; rfl))
       ((conv => whnf); repeat (first | exact trivial | refine ⟨rfl, ?_⟩ | refine ⟨congrArg (Value.int .i64) (by first | omega | assumption | exact Eq.symm (by assumption)), ?_⟩))
       done)
    | (have hk2 : k = bl.length := by omega
       subst hk2
       rw [List.take_length]
       (repeat' ((conv => whnf); first | refine go ?_ | (refine VSome.mk ?_; intro gQ hA'; first | subst hA' | cases hA' | (dsimp only at hA'; subst hA')) | refine And.intro ?_ ?_ | intro _ | (first | ((show VCall _ _ _ 155 _ _); refine VCall.grow _ (fun w1 m1 => hT _ _ w1 (Sees.any m1 fndA)) ?_))))
       (conv => whnf); refine VRet.mk fun w' m => ?_
       exact ⟨rfl, m.keeps.below⟩)
theorem sAsk_v (d : Co) (A1 : Option Addr) (c1 : Nat) (A2 : Option Addr) (c2 : Nat) (x : List UInt8) (mi : Int) (w : World) (hs : d.lock.safe) (hg : aGood d.m d.wa) (hc : d.m ≤ c2) (hP : Plain A2) (hA : Seen w A2 (AwS d.m d.wa)) :
    Calls Tryz.prog 126 #[.agg (d.at A1 c1 A2 c2).toArray, .string (tx x), .int .i64 mi] w (Post (.string (tx (d.askV x mi))) w) := by
  by_cases hm : 1 ≤ mi ∧ mi ≤ 60
  · by_cases e1 : x = wBest
    · subst e1; rw [Co.askV_best hm]; exact sAsk_best d A1 c1 A2 c2 mi w hs hg hm.1 hm.2 hA
    by_cases e2 : x = wDelay
    · subst e2; rw [Co.askV_delay hm]; exact sAsk_delay d A1 c1 A2 c2 mi w hs hg hm.1 hm.2 hA
    by_cases e3 : x = wBound
    · subst e3; rw [Co.askV_bound hm]; exact sAsk_bound d A1 c1 A2 c2 mi w hs hg hm.1 hm.2 hc hP hA
    · rw [Co.askV_no e1 e2 e3]; exact sAsk_no d A1 c1 A2 c2 x mi w hs hg hm.1 hm.2 e1 e2 e3 hA
  · rw [Co.askV_out hm]; exact sAsk_out d A1 c1 A2 c2 x mi w hs hg hm hA
end Go.Proofs.YtadjhkehfklmnaaGreatDoor
namespace Go.Proofs.YtadjhkehfklmnaaGreatDoor
set_option linter.unusedSimpArgs false
set_option linter.unusedVariables false
open Go.RowKit
set_option maxRecDepth 10000
theorem Co.sideV_form (d : Co) (x : List UInt8) (hi : Bool) : ∃ s t, d.sideV x hi = ({ d with lock := s }, t) := by
  unfold Co.sideV
  split
  · exact ⟨d.lock, _, rfl⟩
  · split
    · exact ⟨d.lock, _, rfl⟩
    · split
      · exact ⟨_, _, rfl⟩
      · exact ⟨d.lock, _, rfl⟩
theorem numZ_len {r : List (List UInt8)} {l : List Int} (h : numZ r = some l) : l.length = r.length := by
  have := (rwZ_len h).2
  simpa using this
set_option maxHeartbeats 16000000 in
theorem sRun_level {w0 : Base} {w : World} (d : Co) (A1 : Option Addr) (c1 : Nat) (A2 : Option Addr) (c2 : Nat) (line : List UInt8) (hf : d.fit) (hl : line.length ≤ 1048575) (e : line = wLevel) (m0 : Mem w0 [.row (.slice A1 d.n c1) 96 3 d.n (BaS d.n d.ba), .row (.slice A2 d.m c2) 98 4 d.m (AwS d.m d.wa)] w) :
    Calls Tryz.prog 86 #[.agg (d.at A1 c1 A2 c2).toArray, .string (tx line)] w fun e w' => ∃ v, e = .returned v ∧ RetL (ι := Option Addr × Nat × Option Addr × Nat) (fun _ => True) (fun (P1, k1, P2, k2) => .tuple #[.agg ((((d, Lib.itoa d.lock.level)).1 : Co).at P1 k1 P2 k2).toArray, .string (tx ((d, Lib.itoa d.lock.level)).2)]) (fun (P1, k1, P2, k2) => [.row (.slice P1 (((d, Lib.itoa d.lock.level)).1 : Co).n k1) 96 3 (((d, Lib.itoa d.lock.level)).1 : Co).n (BaS (((d, Lib.itoa d.lock.level)).1 : Co).n (((d, Lib.itoa d.lock.level)).1 : Co).ba), .row (.slice P2 (((d, Lib.itoa d.lock.level)).1 : Co).m k2) 98 4 (((d, Lib.itoa d.lock.level)).1 : Co).m (AwS (((d, Lib.itoa d.lock.level)).1 : Co).m (((d, Lib.itoa d.lock.level)).1 : Co).wa)]) (fun _ => []) w0 v w' := by
  subst e
  have hSp := fun w => l1Split_v 32 32 wLevel w rfl (by decide)
  rw [show sps 32 wLevel = [wLevel] from sps_none (by decide)] at hSp
  have hs := hf.1
  have hlv := hs.1; have hlv2 := hs.2.1; have hlv3 := hs.2.2.1; have hlv4 := hs.2.2.2.1
  refine calls_of_vcL (w0 := w0) tb_ok (args := [.agg (d.at A1 c1 A2 c2).toArray, .string (tx wLevel)]) Tryz.func86 rfl m0 ?_
  (repeat' ((conv => whnf); first | refine go ?_ | (refine VSome.mk ?_; intro gQ hA'; first | subst hA' | cases hA' | (dsimp only at hA'; subst hA')) | refine And.intro ?_ ?_ | intro _ | (first | ((show VCall _ _ _ 44 _ _); refine VCall.ret (fun w1 m1 => hSp w1) (fun i _ => ?_); obtain ⟨g9, c9⟩ := i) | ((show VCall _ _ _ 61 _ _); refine VCall.grow _ (fun w1 m1 => l1NumZ_v _ w1 (by omega) (by omega)) ?_) | ((show VDraw _ _ _ #[{ dst := some 21, op := _, type := _, pos := _, after := _, guard := _ }, _, _, _, _, _, _] _ _); refine VDraw.mk (.take 0 (.take 1 (.take 2 (.take 3 (.br 4 (.br 5 (.take 6 .done) .done) .done))))) [2] (by kernel_rfl) (by kernel_rfl) ?_))))
  all_goals (conv => whnf)
  all_goals exact VRet.mk fun w' m => ⟨(A1, c1, A2, c2), trivial, rfl, m.sel (ks := [0, 1]) (by simp)⟩
set_option maxHeartbeats 16000000 in
theorem sRun_water {w0 : Base} {w : World} (d : Co) (A1 : Option Addr) (c1 : Nat) (A2 : Option Addr) (c2 : Nat) (line : List UInt8) (hf : d.fit) (hl : line.length ≤ 1048575) (e : line = wWater) (m0 : Mem w0 [.row (.slice A1 d.n c1) 96 3 d.n (BaS d.n d.ba), .row (.slice A2 d.m c2) 98 4 d.m (AwS d.m d.wa)] w) :
    Calls Tryz.prog 86 #[.agg (d.at A1 c1 A2 c2).toArray, .string (tx line)] w fun e w' => ∃ v, e = .returned v ∧ RetL (ι := Option Addr × Nat × Option Addr × Nat) (fun _ => True) (fun (P1, k1, P2, k2) => .tuple #[.agg ((((d, Lib.itoa (smI (fun i => (d.ba i).vol) d.n))).1 : Co).at P1 k1 P2 k2).toArray, .string (tx ((d, Lib.itoa (smI (fun i => (d.ba i).vol) d.n))).2)]) (fun (P1, k1, P2, k2) => [.row (.slice P1 (((d, Lib.itoa (smI (fun i => (d.ba i).vol) d.n))).1 : Co).n k1) 96 3 (((d, Lib.itoa (smI (fun i => (d.ba i).vol) d.n))).1 : Co).n (BaS (((d, Lib.itoa (smI (fun i => (d.ba i).vol) d.n))).1 : Co).n (((d, Lib.itoa (smI (fun i => (d.ba i).vol) d.n))).1 : Co).ba), .row (.slice P2 (((d, Lib.itoa (smI (fun i => (d.ba i).vol) d.n))).1 : Co).m k2) 98 4 (((d, Lib.itoa (smI (fun i => (d.ba i).vol) d.n))).1 : Co).m (AwS (((d, Lib.itoa (smI (fun i => (d.ba i).vol) d.n))).1 : Co).m (((d, Lib.itoa (smI (fun i => (d.ba i).vol) d.n))).1 : Co).wa)]) (fun _ => []) w0 v w' := by
  subst e
  have hSp := fun w => l1Split_v 32 32 wWater w rfl (by decide)
  rw [show sps 32 wWater = [wWater] from sps_none (by decide)] at hSp
  have hw1 : ¬ tx wWater = ({ data := #[108, 101, 118, 101, 108] } : ByteArray) := by decide
  have hb := hf.2.1
  have hn := hb.2
  have hv := vols_in hb d.n (Nat.le_refl _)
  have hT := fun A c w hA => sTotal_v A d.n c d.ba w hb hA
  generalize smI (fun i => (d.ba i).vol) d.n = sv at hT hv ⊢
  refine calls_of_vcL (w0 := w0) tb_ok (args := [.agg (d.at A1 c1 A2 c2).toArray, .string (tx wWater)]) Tryz.func86 rfl m0 ?_
  (repeat' ((conv => whnf); first | refine go ?_ | (refine VSome.mk ?_; intro gQ hA'; first | subst hA' | cases hA' | (dsimp only at hA'; subst hA')) | refine And.intro ?_ ?_ | intro _ | (first | ((show VCall _ _ _ 44 _ _); refine VCall.ret (fun w1 m1 => hSp w1) (fun i _ => ?_); obtain ⟨g9, c9⟩ := i) | ((show VCall _ _ _ 61 _ _); refine VCall.grow _ (fun w1 m1 => l1NumZ_v _ w1 (by omega) (by omega)) ?_) | ((show VCall _ _ _ 119 _ _); refine VCall.grow _ (fun w1 m1 => hT _ _ w1 (Sees.any m1 fndA)) ?_) | ((show VDraw _ _ _ #[{ dst := some 35, op := _, type := _, pos := _, after := _, guard := _ }, _, _, _, _] _ _); refine VDraw.mk (.take 0 (.take 1 (.br 2 (.br 3 (.take 4 .done) .done) .done))) [2] (by kernel_rfl) (by kernel_rfl) ?_))))
  all_goals (conv => whnf)
  all_goals exact VRet.mk fun w' m => ⟨(A1, c1, A2, c2), trivial, rfl, m.sel (ks := [0, 1]) (by simp)⟩
set_option maxHeartbeats 16000000 in
theorem sRun_side {w0 : Base} {w : World} (d : Co) (A1 : Option Addr) (c1 : Nat) (A2 : Option Addr) (c2 : Nat) (line : List UInt8) (hf : d.fit) (hl : line.length ≤ 1048575) (hq1 : ¬ line = wLevel) (hq2 : ¬ line = wWater) (x : List UInt8) (hi : Bool) (hs : sps 32 line = [x, sideW hi]) (m0 : Mem w0 [.row (.slice A1 d.n c1) 96 3 d.n (BaS d.n d.ba), .row (.slice A2 d.m c2) 98 4 d.m (AwS d.m d.wa)] w) :
    Calls Tryz.prog 86 #[.agg (d.at A1 c1 A2 c2).toArray, .string (tx line)] w fun e w' => ∃ v, e = .returned v ∧ RetL (ι := Option Addr × Nat × Option Addr × Nat) (fun _ => True) (fun (P1, k1, P2, k2) => .tuple #[.agg (((d.sideV x hi).1 : Co).at P1 k1 P2 k2).toArray, .string (tx (d.sideV x hi).2)]) (fun (P1, k1, P2, k2) => [.row (.slice P1 ((d.sideV x hi).1 : Co).n k1) 96 3 ((d.sideV x hi).1 : Co).n (BaS ((d.sideV x hi).1 : Co).n ((d.sideV x hi).1 : Co).ba), .row (.slice P2 ((d.sideV x hi).1 : Co).m k2) 98 4 ((d.sideV x hi).1 : Co).m (AwS ((d.sideV x hi).1 : Co).m ((d.sideV x hi).1 : Co).wa)]) (fun _ => []) w0 v w' := by
  have hSp := fun w => l1Split_v 32 32 line w rfl (by omega)
  rw [hs] at hSp
  have hSd := fun w => sSide_v d A1 c1 A2 c2 x hi w hf.1
  obtain ⟨s, t, e⟩ := d.sideV_form x hi
  rw [e] at hSd ⊢
  have hn_linewLevel : ¬ tx line = ({ data := #[108, 101, 118, 101, 108] } : ByteArray) := fun q => hq1 (tx_inj (q.trans (by rfl : _ = tx wLevel)))
  have hn_linewWater : ¬ tx line = ({ data := #[119, 97, 116, 101, 114] } : ByteArray) := fun q => hq2 (tx_inj (q.trans (by rfl : _ = tx wWater)))
  cases hi
  · have q0 : (TS [x, sideW false])[mulS 0 1]? = some (.string (tx x)) := rfl
    have q1 : (TS [x, sideW false])[mulS 1 1]? = some (.string (tx wLow)) := rfl
    have hlt : [x, sideW false].length = 2 := rfl
    have hw : ¬ tx wLow = ({ data := #[104, 105, 103, 104] } : ByteArray) := by decide
    refine calls_of_vcL (w0 := w0) tb_ok (args := [.agg (d.at A1 c1 A2 c2).toArray, .string (tx line)]) Tryz.func86 rfl m0 ?_
    (repeat' ((conv => whnf); first | refine go ?_ | (refine VSome.mk ?_; intro gQ hA'; first | subst hA' | cases hA' | (dsimp only at hA'; subst hA')) | refine And.intro ?_ ?_ | intro _ | (first | ((show VCall _ _ _ 44 _ _); refine VCall.ret (fun w1 m1 => hSp w1) (fun i _ => ?_); obtain ⟨g9, c9⟩ := i) | ((show VCall _ _ _ 120 _ _); refine VCall.grow _ (fun w1 m1 => hSd w1) ?_) | ((show VDraw _ _ _ #[{ dst := some 53, op := _, type := _, pos := _, after := _, guard := _ }, _, _, _, _, _, _, _, _, _, _, _, _] _ _); refine VDraw.mk (.take 0 (.take 1 (.take 2 (.take 3 (.take 4 (.take 5 (.take 6 (.take 7 (.br 8 (.take 9 (.take 10 (.br 11 (.take 12 .done) .done))) .done))))))))) [2, 4] (by kernel_rfl) (by kernel_rfl) ?_) | ((show VIdx _ _ _ _ _ _ _); first | refine VIdx.at_ rfl 0 rfl (by omega) ?_ | refine VIdx.at_ rfl 1 rfl (by omega) ?_))))
    all_goals (conv => whnf)
    all_goals exact VRet.mk fun w' m => ⟨(A1, c1, A2, c2), trivial, rfl, m.sel (ks := [0, 1]) (by simp)⟩
  · have q0 : (TS [x, sideW true])[mulS 0 1]? = some (.string (tx x)) := rfl
    have q1 : (TS [x, sideW true])[mulS 1 1]? = some (.string (tx wHigh)) := rfl
    have hlt : [x, sideW true].length = 2 := rfl
    refine calls_of_vcL (w0 := w0) tb_ok (args := [.agg (d.at A1 c1 A2 c2).toArray, .string (tx line)]) Tryz.func86 rfl m0 ?_
    (repeat' ((conv => whnf); first | refine go ?_ | (refine VSome.mk ?_; intro gQ hA'; first | subst hA' | cases hA' | (dsimp only at hA'; subst hA')) | refine And.intro ?_ ?_ | intro _ | (first | ((show VCall _ _ _ 44 _ _); refine VCall.ret (fun w1 m1 => hSp w1) (fun i _ => ?_); obtain ⟨g9, c9⟩ := i) | ((show VCall _ _ _ 120 _ _); refine VCall.grow _ (fun w1 m1 => hSd w1) ?_) | ((show VDraw _ _ _ #[{ dst := some 53, op := _, type := _, pos := _, after := _, guard := _ }, _, _, _, _, _, _, _, _, _, _, _, _] _ _); refine VDraw.mk (.take 0 (.take 1 (.take 2 (.take 3 (.take 4 (.take 5 (.take 6 (.take 7 (.br 8 (.take 9 (.take 10 (.br 11 (.take 12 .done) .done))) .done))))))))) [2, 4] (by kernel_rfl) (by kernel_rfl) ?_) | ((show VIdx _ _ _ _ _ _ _); first | refine VIdx.at_ rfl 0 rfl (by omega) ?_ | refine VIdx.at_ rfl 1 rfl (by omega) ?_))))
    all_goals (conv => whnf)
    all_goals exact VRet.mk fun w' m => ⟨(A1, c1, A2, c2), trivial, rfl, m.sel (ks := [0, 1]) (by simp)⟩
end Go.Proofs.YtadjhkehfklmnaaGreatDoor
