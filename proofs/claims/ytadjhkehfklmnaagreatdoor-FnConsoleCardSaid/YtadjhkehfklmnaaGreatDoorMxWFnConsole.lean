/-
  The walk of the law of the console.
  Conditions: none beyond each statement's own premises.
-/
import Derived.Test.YtadjhkehfklmnaaGreatDoorMx23
namespace Go.Proofs.YtadjhkehfklmnaaGreatDoor.lawFnConsole
set_option linter.unusedSimpArgs false
set_option linter.unusedVariables false
open Go.ChangeShapes Go.WideShapes Go.ChangeAt Go.RowKit
set_option maxRecDepth 20000
set_option maxHeartbeats 16000000 in
theorem walk (A : Option Addr) (l : List UInt8) (c0 : Nat) (w : World) (hn : l.length ≤ 9223372036854775807) (hA : Seen w A (YS l)) (ht : PT2 w) :
    Calls Tryz.prog 7 #[.slice A l.length c0] w (Post (.bool true) w) := by
  refine post_of_vc ?_
  refine calls_of_vc tb_ok (args := [.slice A l.length c0]) Tryz.func7 rfl ?_
  have hB := fun w => vBig28_v A l.length c0 w hn
  by_cases hbig : 65536 < l.length
  · rw [tr_yes hbig] at hB
    (repeat' ((conv => whnf); first | refine go ?_ | (refine VSome.mk ?_; intro gQ hA'; first | subst hA' | cases hA' | (dsimp only at hA'; subst hA')) | refine And.intro ?_ ?_ | intro _ | (first | ((show VCall _ _ _ 18 _ _); refine VCall.grow _ (fun w1 _ => hB w1) ?_))))
    (conv => whnf); refine VRet.mk fun w' m => ?_
    exact ⟨rfl, m.keeps.below⟩
  rw [tr_no hbig] at hB
  (repeat' ((conv => whnf); first | refine go ?_ | (refine VSome.mk ?_; intro gQ hA'; first | subst hA' | cases hA' | (dsimp only at hA'; subst hA')) | refine And.intro ?_ ?_ | intro _ | (first | ((show VCall _ _ _ 18 _ _); refine VCall.grow _ (fun w1 _ => hB w1) ?_) | ((show VCall _ _ _ 37 _ _); refine VCall.ret (fun w1 m1 => drawExec_v l A c0 w1 (by omega) seenA) (fun (d, i, x) hi => ?_); obtain ⟨⟨A1, c1⟩, A2, c2⟩ := i; obtain ⟨hd, hx⟩ := hi))))
  have hs := hd.small
  have hs2 := hs
  obtain ⟨s1, s2, s3, s4⟩ := hs2
  have hx2 : x.length ≤ 200 := hx
  have hI := fun w ht hA hB hP hQ => iExec_v A1 A2 c1 c2 d x w hs (by omega) ht hA hB hP hQ
  have hJ := fun w hA hB hP hQ => sExec_v A1 A2 c1 c2 d x w hs (by omega) hA hB hP hQ
  have hV := fun A1 c1 A2 c2 w ht hA hB => iCon_v A1 A2 c1 c2 d w s1 s2 s3 s4 ht hA hB
  have hW := fun A1 c1 A2 c2 w hA hB => sCon_v A1 A2 c1 c2 d w s1 s2 s3 s4 hA hB
  have he := Co.exec_small hs x
  (conv => whnf)
  rename_i g3
  by_cases hyes : d.good ∧ okR x [] ∧ ¬ d.log.count = 60
  · obtain ⟨hg, hr, hc⟩ := hyes
    obtain ⟨k, hk1, hk2, hk3, hk4⟩ := Co.exec_logs hg hr hc
    have hge := Co.exec_good hg x
    rw [tr_yes hg] at hV hW
    generalize d.exec x = ex at hI hJ he hk2 hk3 hk4 hge
    obtain ⟨e, r⟩ := ex
    dsimp only at hI hJ he hk2 hk3 hk4 hge
    obtain ⟨e1, e2, e3, e4⟩ := he
    have hV2 := fun A1 c1 A2 c2 w ht hA hB => iCon_v A1 A2 c1 c2 e w e1 e2 e3 e4 ht hA hB
    rw [tr_yes hge] at hV2
    have hL := fun w ht => iLr_v e.du e.pe e.log.count w (by rw [e.du_len]; omega) (by rw [e.pe_len]; omega) ht
    rw [tr_yes hge.2.2.2, lrN_yes hge.2.2.2, hk3, e.du_tx, e.pe_tx] at hL
    have hk60 := cnt_le (e.du ++ e.pe)
    rw [hk3] at hk60
    have hix : ((k + 1 : Nat) : Int) - 1 = (k : Int) := by omega
    (repeat' ((conv => whnf); first | refine go ?_ | (refine VSome.mk ?_; intro gQ hA'; first | subst hA' | cases hA' | (dsimp only at hA'; subst hA')) | refine And.intro ?_ ?_ | intro _ | (first | ((show VCall _ _ _ 29 _ _); refine VCall.ret (fun w1 m1 => hI w1 (ht.on m1) seenA seenA (m1.plain fndA) (m1.plain fndA)) (fun i _ => ?_); obtain ⟨⟨P1, q1⟩, P2, q2⟩ := i) | ((show VCall _ _ _ 38 _ _); refine VCall.ret (fun w1 m1 => hJ w1 seenA seenA (m1.plain fndA) (m1.plain fndA)) (fun i _ => ?_); obtain ⟨⟨P3, q3⟩, P4, q4⟩ := i) | ((show VDraw _ _ _ _ _ _); refine VDraw.mk (.take 0 (.take 1 (.take 2 (.take 3 (.take 4 (.take 5 (.br 6 (.take 7 (.take 8 (.take 9 (.take 10 (.take 12 (.br 11 (.br 13 (.take 14 (.take 15 .done)) .done) .done)))))) .done))))))) [2, 5, 8] (by kernel_rfl) (by kernel_rfl) ?_) | ((show VCall _ _ _ 28 [.agg (Co.at e _ _ _ _).toArray, _] _); refine VCall.grow _ (fun w1 m1 => vCon_v _ _ _ _ _ _ _ _ e w1 e1 e2 seenA seenA seenA seenA) ?_) | ((show VCall _ _ _ 39 [.agg (Co.at d _ _ _ _).toArray] _); refine VCall.grow _ (fun w1 m1 => hV _ _ _ _ w1 (ht.on m1).1 seenA seenA) ?_) | ((show VCall _ _ _ 39 [.agg (Co.at e _ _ _ _).toArray] _); refine VCall.grow _ (fun w1 m1 => hV2 _ _ _ _ w1 (ht.on m1).1 seenA seenA) ?_) | ((show VCall _ _ _ 40 [.agg (Co.at d _ _ _ _).toArray] _); refine VCall.grow _ (fun w1 m1 => hW _ _ _ _ w1 seenA seenA) ?_) | ((show VCall _ _ _ 41 _ _); refine VCall.ret (fun w1 m1 => hL w1 (ht.on m1).1) (fun i _ => ?_); obtain ⟨P5, q5⟩ := i) | ((show VLoadN _ _ _ _ _ _); refine VLoadN.row (vs := [.string (tx x), .string (tx r)]) 9 rfl rfl (fun j u hj => RcS_at (i := k) (by omega) (by show mulS k 2 = k * 2; rw [mulS_eq]) j u (by rw [hk4]; exact hj)) ?_))))
    all_goals ((conv => whnf); refine VRet.mk fun w' m => ?_)
    all_goals exact ⟨rfl, m.keeps.below⟩
  · have hels := Co.exec_else hyes
    generalize tr d.good = b at hV hW
    rcases hels with h9 | h9 | h9
    all_goals rw [h9] at hI hJ
    all_goals dsimp only at hI hJ
    all_goals cases b
    all_goals ((repeat' ((conv => whnf); first | refine go ?_ | (refine VSome.mk ?_; intro gQ hA'; first | subst hA' | cases hA' | (dsimp only at hA'; subst hA')) | refine And.intro ?_ ?_ | intro _ | (first | ((show VCall _ _ _ 29 _ _); refine VCall.ret (fun w1 m1 => hI w1 (ht.on m1) seenA seenA (m1.plain fndA) (m1.plain fndA)) (fun i _ => ?_); obtain ⟨⟨P1, q1⟩, P2, q2⟩ := i) | ((show VCall _ _ _ 38 _ _); refine VCall.ret (fun w1 m1 => hJ w1 seenA seenA (m1.plain fndA) (m1.plain fndA)) (fun i _ => ?_); obtain ⟨⟨P3, q3⟩, P4, q4⟩ := i) | ((show VDraw _ _ _ _ _ _); refine VDraw.mk (.take 0 (.take 1 (.take 2 (.take 3 (.take 4 (.take 5 (.br 6 (.take 7 (.take 8 (.take 9 (.take 10 (.take 12 (.br 11 (.br 13 (.take 14 (.take 15 .done)) .done) .done)))))) .done))))))) [2, 5, 8] (by kernel_rfl) (by kernel_rfl) ?_) | ((show VCall _ _ _ 28 [.agg (Co.at d _ _ _ _).toArray, _] _); refine VCall.grow _ (fun w1 m1 => vCon_v _ _ _ _ _ _ _ _ d w1 s1 s2 seenA seenA seenA seenA) ?_) | ((show VCall _ _ _ 39 [.agg (Co.at d _ _ _ _).toArray] _); refine VCall.grow _ (fun w1 m1 => hV _ _ _ _ w1 (ht.on m1).1 seenA seenA) ?_) | ((show VCall _ _ _ 40 [.agg (Co.at d _ _ _ _).toArray] _); refine VCall.grow _ (fun w1 m1 => hW _ _ _ _ w1 seenA seenA) ?_)))))
    all_goals ((conv => whnf); refine VRet.mk fun w' m => ?_)
    all_goals exact ⟨rfl, m.keeps.below⟩
end Go.Proofs.YtadjhkehfklmnaaGreatDoor.lawFnConsole
