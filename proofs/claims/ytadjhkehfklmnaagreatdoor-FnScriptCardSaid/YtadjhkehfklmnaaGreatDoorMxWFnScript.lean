/-
  The walk of the law of scripts.
  Conditions: none beyond each statement's own premises.
-/
import Derived.Test.YtadjhkehfklmnaaGreatDoorMx23
namespace Go.Proofs.YtadjhkehfklmnaaGreatDoor.lawFnScript
set_option linter.unusedSimpArgs false
set_option linter.unusedVariables false
open Go.ChangeShapes Go.WideShapes Go.ChangeAt Go.RowKit
set_option maxRecDepth 20000
set_option maxHeartbeats 16000000 in
theorem walk (A : Option Addr) (l : List UInt8) (c0 : Nat) (w : World) (hn : l.length ≤ 9223372036854775807) (hA : Seen w A (YS l)) (ht : PT2 w) :
    Calls Tryz.prog 4 #[.slice A l.length c0] w (Post (.bool true) w) := by
  refine post_of_vc ?_
  refine calls_of_vc tb_ok (args := [.slice A l.length c0]) Tryz.func4 rfl ?_
  have hB := fun w => vBig28_v A l.length c0 w hn
  by_cases hbig : 65536 < l.length
  · rw [tr_yes hbig] at hB
    (repeat' ((conv => whnf); first | refine go ?_ | (refine VSome.mk ?_; intro gQ hA'; first | subst hA' | cases hA' | (dsimp only at hA'; subst hA')) | refine And.intro ?_ ?_ | intro _ | (first | ((show VCall _ _ _ 18 _ _); refine VCall.grow _ (fun w1 _ => hB w1) ?_))))
    (conv => whnf); refine VRet.mk fun w' m => ?_
    exact ⟨rfl, m.keeps.below⟩
  rw [tr_no hbig] at hB
  (repeat' ((conv => whnf); first | refine go ?_ | (refine VSome.mk ?_; intro gQ hA'; first | subst hA' | cases hA' | (dsimp only at hA'; subst hA')) | refine And.intro ?_ ?_ | intro _ | (first | ((show VCall _ _ _ 18 _ _); refine VCall.grow _ (fun w1 _ => hB w1) ?_) | ((show VCall _ _ _ 19 _ _); refine VCall.ret (fun w1 m1 => drawScript_v l A c0 w1 (by omega) seenA) (fun (d, i, t) hi => ?_); obtain ⟨⟨A1, c1⟩, A2, c2⟩ := i; obtain ⟨hd, htl⟩ := hi))))
  (conv => whnf)
  rename_i g3
  have hs := hd.small
  have htl2 : t.length ≤ 3000 := htl
  have hI := fun w ht hA hB hP hQ => iScript_v A1 A2 c1 c2 d t w hs (by omega) ht hA hB hP hQ
  have hJ := fun w hA hB hP hQ => sScript_v A1 A2 c1 c2 d t w hs (by omega) hA hB hP hQ
  have hSp := fun w => splitS_v t w (by omega)
  rw [spV_yes (by omega)] at hSp
  by_cases hS : okS d t
  · have h30 : (sps 10 t).length ≤ 30 := hS.2.2
    rw [rsV_yes hS] at hI hJ
    dsimp only at hI hJ hSp
    rw [Co.rps_len] at hI hJ
    have hr1 : ∀ k, k < (sps 10 t).length → (TS (d.rps (lnL t) (sps 10 t).length))[mulS k 1]? = some (.string (tx (d.rp (lnL t) k))) := fun k hk => rps_get d _ hk (by rw [mulS_eq, Nat.mul_one])
    have hr2 : ∀ k, k < (sps 10 t).length → (TS (d.rps (lnL t) (sps 10 t).length))[0 + mulS k 1]? = some (.string (tx (d.rp (lnL t) k))) := fun k hk => rps_get d _ hk (by rw [mulS_eq, Nat.mul_one, Nat.zero_add])
    (repeat' ((conv => whnf); first | refine go ?_ | (refine VSome.mk ?_; intro gQ hA'; first | subst hA' | cases hA' | (dsimp only at hA'; subst hA')) | refine And.intro ?_ ?_ | intro _ | (first | ((show VCall _ _ _ 12 _ _); refine VCall.ret (fun w1 m1 => hI w1 (ht.on m1) seenA seenA (m1.plain fndA) (m1.plain fndA)) (fun i _ => ?_); obtain ⟨P1, q1⟩ := i) | ((show VCall _ _ _ 10 _ _); refine VCall.ret (fun w1 m1 => hJ w1 seenA seenA (m1.plain fndA) (m1.plain fndA)) (fun i _ => ?_); obtain ⟨P2, q2⟩ := i))))
    (conv => whnf)
    refine VLoop.mk (ι := Nat) [2, 9, 47, 48, 49, 50, 51, 52, 53, 54, 55, 56, 57, 58, 59, 60, 61] (fun k => [(9, .int .i64 k)]) (fun _ => [.row (.slice A1 d.n c1) 96 3 d.n (BaS d.n d.ba), .row (.slice A2 d.m c2) 98 4 d.m (AwS d.m d.wa), .blk g3 39 (d.at A1 c1 A2 c2), .row (.slice P1 (sps 10 t).length q1) 9 1 (sps 10 t).length (TS (d.rps (lnL t) (sps 10 t).length)), .row (.slice P2 (sps 10 t).length q2) 9 1 (sps 10 t).length (TS (d.rps (lnL t) (sps 10 t).length))]) (fun k => k ≤ (sps 10 t).length) (fun k => (sps 10 t).length - k) 0 (Nat.zero_le _) ?_ (OwnLe.mk [0, 1, 2, 3, 4] (by simp) rfl) (fun k u hk => ?_)
    · ((conv => whnf); repeat (first | exact trivial | refine ⟨rfl, ?_⟩ | refine ⟨congrArg (Value.int .i64) (by first | omega | assumption | exact Eq.symm (by assumption)), ?_⟩))
    replace hk : k ≤ (sps 10 t).length := hk
    by_cases hlt : k < (sps 10 t).length
    · have a1 := hr1 k hlt
      have a2 := hr2 k hlt
      (repeat' ((conv => whnf); first | refine go ?_ | (refine VSome.mk ?_; intro gQ hA'; first | subst hA' | cases hA' | (dsimp only at hA'; subst hA')) | refine And.intro ?_ ?_ | intro _ | (first | ((show VDraw _ _ _ #[{ dst := some 53, op := _, type := _, pos := _, after := _, guard := _ }, _, _, _, _, _, _, _, _] _ _); refine VDraw.mk (.take 0 (.take 1 (.take 2 (.take 3 (.take 4 (.take 5 (.take 6 (.take 7 (.take 8 .done))))))))) [3, 4] (by kernel_rfl) (by kernel_rfl) ?_))))
      all_goals (conv => whnf)
      all_goals (refine VNext.mk (k + 1) hlt (by show _ - (k + 1) < _ - k; omega) ?_ (OwnLe.mk [0, 1, 2, 3, 4] (by simp) rfl); ((conv => whnf); repeat (first | exact trivial | refine ⟨rfl, ?_⟩ | refine ⟨congrArg (Value.int .i64) (by first | omega | assumption | exact Eq.symm (by assumption)), ?_⟩)))
    · obtain rfl : k = (sps 10 t).length := by omega
      by_cases h2 : (sps 10 t).length < 2
      · (repeat' ((conv => whnf); first | refine go ?_ | (refine VSome.mk ?_; intro gQ hA'; first | subst hA' | cases hA' | (dsimp only at hA'; subst hA')) | refine And.intro ?_ ?_ | intro _ | (first | ((show VCall _ _ _ 20 _ _); refine VCall.ret (fun w1 m1 => hSp w1) (fun i _ => ?_); obtain ⟨P3, q3⟩ := i))))
        (conv => whnf); refine VRet.mk fun w' m => ?_
        exact ⟨rfl, m.keeps.below⟩
      · have hF := fun w ht hA hB hP hQ => iScript_v A1 A2 c1 c2 d (lnL t 0) w hs (by have := lnL_len t 0; omega) ht hA hB hP hQ
        rw [rsV_first hS (by omega)] at hF
        dsimp only at hF
        have hT1 := fun A B c e w ht hA hB => iFmt_v A B c e d w hs.1 hs.2.1 hs.2.2.1 hs.2.2.2 ht hA hB
        have hT2 := fun A B c e w hA hB => sFmt_v A B c e d w hs.1 hs.2.1 hs.2.2.1 hs.2.2.2 hA hB
        rw [fmtV_yes hS.1] at hT1 hT2
        have b1 : (TS (sps 10 t))[mulS 0 1]? = some (.string (tx (lnL t 0))) := TS_at (by omega) rfl
        have b2 : (TS (sps 10 t))[0 + mulS 0 1]? = some (.string (tx (lnL t 0))) := TS_at (by omega) rfl
        have b3 := hr1 0 (by omega)
        have b4 := hr2 0 (by omega)
        have b5 : (TS [d.rp (lnL t) 0])[mulS 0 1]? = some (.string (tx (d.rp (lnL t) 0))) := rfl
        have b6 : (TS [d.rp (lnL t) 0])[0 + mulS 0 1]? = some (.string (tx (d.rp (lnL t) 0))) := rfl
        (repeat' ((conv => whnf); first | refine go ?_ | (refine VSome.mk ?_; intro gQ hA'; first | subst hA' | cases hA' | (dsimp only at hA'; subst hA')) | refine And.intro ?_ ?_ | intro _ | (first | ((show VCall _ _ _ 20 _ _); refine VCall.ret (fun w1 m1 => hSp w1) (fun i _ => ?_); obtain ⟨P3, q3⟩ := i) | ((show VCall _ _ _ 12 _ _); refine VCall.ret (fun w1 m1 => hF w1 (ht.on m1) seenA seenA (m1.plain fndA) (m1.plain fndA)) (fun i _ => ?_); obtain ⟨P4, q4⟩ := i) | ((show VCall _ _ _ 21 _ _); refine VCall.grow _ (fun w1 m1 => hT1 _ _ _ _ w1 (ht.on m1).1 seenA seenA) ?_) | ((show VCall _ _ _ 22 _ _); refine VCall.grow _ (fun w1 m1 => hT2 _ _ _ _ w1 seenA seenA) ?_) | ((show VDraw _ _ _ #[{ dst := some 81, op := _, type := _, pos := _, after := _, guard := _ }, _, _, _, _, _, _, _, _, _] _ _); refine VDraw.mk (.take 0 (.take 1 (.take 2 (.take 3 (.br 4 (.take 5 (.take 6 (.take 7 (.take 8 (.take 9 .done))))) .done))))) [2, 5] (by kernel_rfl) (by kernel_rfl) ?_) | ((show VDraw _ _ _ #[{ dst := some 98, op := _, type := _, pos := _, after := _, guard := _ }, _, _, _, _, _, _, _, _, _, _, _, _, _, _, _, _, _, _, _, _, _, _, _, _, _] _ _); refine VDraw.mk (.take 0 (.take 1 (.take 2 (.take 3 (.take 4 (.take 5 (.take 6 (.take 7 (.take 8 (.take 9 (.take 10 (.take 11 (.take 12 (.take 13 (.take 14 (.take 15 (.take 16 (.take 17 (.take 18 (.take 19 (.take 20 (.take 21 (.take 22 (.take 23 (.take 24 (.take 25 .done)))))))))))))))))))))))))) [3, 6] (by kernel_rfl) (by kernel_rfl) ?_) | ((show VIdx _ _ _ _ _ _ _); refine VIdx.go (m := 0) (by repeat (first | exact At.here | apply At.there)) rfl (by first | omega | exact Nat.zero_lt_one) ?_))))
        (conv => whnf); refine VRet.mk fun w' m => ?_
        exact ⟨rfl, m.keeps.below⟩
  · rw [rsV_no hS] at hI hJ
    dsimp only at hI hJ hSp
    simp only [List.length_nil] at hI hJ
    (repeat' ((conv => whnf); first | refine go ?_ | (refine VSome.mk ?_; intro gQ hA'; first | subst hA' | cases hA' | (dsimp only at hA'; subst hA')) | refine And.intro ?_ ?_ | intro _ | (first | ((show VCall _ _ _ 12 _ _); refine VCall.ret (fun w1 m1 => hI w1 (ht.on m1) seenA seenA (m1.plain fndA) (m1.plain fndA)) (fun i _ => ?_); obtain ⟨P1, q1⟩ := i) | ((show VCall _ _ _ 10 _ _); refine VCall.ret (fun w1 m1 => hJ w1 seenA seenA (m1.plain fndA) (m1.plain fndA)) (fun i _ => ?_); obtain ⟨P2, q2⟩ := i))))
    (conv => whnf)
    refine VLoop.mk (ι := Nat) [2, 9, 47, 48, 49, 50, 51, 52, 53, 54, 55, 56, 57, 58, 59, 60, 61] (fun k => [(9, .int .i64 k)]) (fun _ => []) (fun k => k ≤ 0) (fun k => 0 - k) 0 (Nat.zero_le _) ?_ (OwnLe.mk [] (by simp) rfl) (fun k u hk => ?_)
    · ((conv => whnf); repeat (first | exact trivial | refine ⟨rfl, ?_⟩ | refine ⟨congrArg (Value.int .i64) (by first | omega | assumption | exact Eq.symm (by assumption)), ?_⟩))
    obtain rfl : k = 0 := Nat.le_zero.1 hk
    (repeat' ((conv => whnf); first | refine go ?_ | (refine VSome.mk ?_; intro gQ hA'; first | subst hA' | cases hA' | (dsimp only at hA'; subst hA')) | refine And.intro ?_ ?_ | intro _ | (first | ((show VCall _ _ _ 20 _ _); refine VCall.ret (fun w1 m1 => hSp w1) (fun i _ => ?_); obtain ⟨P3, q3⟩ := i))))
    (conv => whnf); refine VRet.mk fun w' m => ?_
    exact ⟨rfl, m.keeps.below⟩
end Go.Proofs.YtadjhkehfklmnaaGreatDoor.lawFnScript
