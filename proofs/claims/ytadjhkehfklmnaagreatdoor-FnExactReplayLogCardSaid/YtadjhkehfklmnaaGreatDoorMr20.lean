/-
  Texts joined: how the calls that the law reaches are walked, and the plain laws behind them.
  Conditions: none beyond each statement's own premises.
-/
import Derived.Test.YtadjhkehfklmnaaGreatDoorMr19
import Derived.Test.YtadjhkehfklmnaaGreatDoorCards
import Derived.Test.YtadjhkehfklmnaaGreatDoorTie
import Derived.LaidLaws
import Derived.LaidHandle
import Derived.Lib.LaidTab
import Derived.Lib.LaidIn
import Derived.Stop.LaidErr
import Derived.SevenTiedAt
import Derived.Handed
namespace Go.Proofs.YtadjhkehfklmnaaGreatDoor
set_option linter.unusedSimpArgs false
set_option linter.unusedVariables false
open Go.RowKit
set_option maxRecDepth 10000
set_option maxHeartbeats 16000000 in
theorem iReplay_v (A : Option Addr) (n c : Nat) (f : Nat → Ba) (a b : Int) (d p : List UInt8) (cc : Int) (w : World) (hn : n ≤ 1048576) (hd : d.length ≤ 1048576) (hp : p.length ≤ 1048576) (ht : PT2 w) (hA : Seen w A (BaS n f)) (hP : Plain A) :
    Calls Tryz.prog 24 #[.int .i64 a, .int .i64 b, .slice A n c, .agg #[.string (tx d), .string (tx p), .int .i64 cc]] w (Post (.tuple #[.int .i64 ((rplV a b n f d p cc).1 : Nat), .bool (rplV a b n f d p cc).2]) w) := by
  have hN := fun w hA => iNewConsole_v A n c f a b w hn hA hP
  have hL := fun w ht => iLr_v d p cc w hd hp ht
  have hcn := lrN_le d p cc
  refine post_of_vc ?_
  by_cases h1 : okNew a b n f
  · by_cases h2 : okL d p cc
    · rw [rplV_yes h1 h2]
      rw [tr_yes h1] at hN
      rw [tr_yes h2, lrN_yes h2] at hL
      have hsm := coNew_small (a := a) (b := b) (f := f) hn
      have hc60 := cnt_le (d ++ p)
      generalize coNew a b n f = d0 at hN hsm ⊢
      generalize d ++ p = s at hL hc60 ⊢
      refine calls_of_vc tb_ok (args := [.int .i64 a, .int .i64 b, .slice A n c, .agg #[.string (tx d), .string (tx p), .int .i64 cc]]) Tryz.func24 rfl ?_
      (repeat' ((conv => whnf); first | refine go ?_ | (refine VSome.mk ?_; intro gQ hA'; first | subst hA' | cases hA' | (dsimp only at hA'; subst hA')) | refine And.intro ?_ ?_ | intro _ | (first | ((show VCall _ _ _ 26 _ _); refine VCall.ret (fun w1 m1 => hN w1 seenA) (fun i _ => ?_); obtain ⟨⟨A', c'⟩, B', e'⟩ := i) | ((show VCall _ _ _ 41 _ _); refine VCall.ret (fun w1 m1 => hL w1 (ht.on m1).1) (fun i _ => ?_); obtain ⟨P, cp⟩ := i))))
      (conv => whnf)
      rename_i gl g10 _ _
      refine VLoop.mk (ι := Nat × Sl2) [8, 9, 14, 15, 16, 17, 38, 39, 40, 41, 42, 43, 44, 45, 46, 47, 48, 49, 50, 51, 52, 53, 54, 55, 56] (fun (k, _) => [(38, .int .i64 k)]) (fun (k, (A1, c1), B1, e1) => [.blk g10 39 ((d0.st (xsL s) k).at A1 c1 B1 e1), .row (.slice A1 (d0.st (xsL s) k).n c1) 96 3 (d0.st (xsL s) k).n (BaS (d0.st (xsL s) k).n (d0.st (xsL s) k).ba), .row (.slice B1 (d0.st (xsL s) k).m e1) 98 4 (d0.st (xsL s) k).m (AwS (d0.st (xsL s) k).m (d0.st (xsL s) k).wa), .row (.slice P (cnt s) cp) 74 2 (cnt s) (RcS (cnt s) (rcd s))]) (fun i => i.1 ≤ cnt s ∧ misN (difL d0 s) (cnt s) 0 = misN (difL d0 s) (cnt s - i.1) i.1) (fun i => cnt s - i.1) (0, (A', c'), B', e') ⟨Nat.zero_le _, rfl⟩ ?_ (OwnLe.mk [3, 1, 2, 4] (by simp) rfl) (fun i u hi => ?_)
      · ((conv => whnf); repeat (first | exact trivial | refine ⟨rfl, ?_⟩ | refine ⟨congrArg (Value.int .i64) (by first | omega | assumption | exact Eq.symm (by assumption)), ?_⟩))
      obtain ⟨k, ⟨A1, c1⟩, B1, e1⟩ := i
      obtain ⟨hk, hmis⟩ := hi
      replace hk : k ≤ cnt s := hk
      replace hmis : misN (difL d0 s) (cnt s) 0 = misN (difL d0 s) (cnt s - k) k := hmis
      rw [hmis]
      ((conv => whnf); try dsimp only)
      by_cases hlt : k < cnt s
      · have hk1 : cnt s - k = (cnt s - (k + 1)) + 1 := by omega
        have hxl := xs_len hlt
        have hE := fun A B c e w ht hA hB hP hQ => iExec_v A B c e (d0.st (xsL s) k) (xsL s k) w (Co.st_small hsm _ k) (by omega) ht hA hB hP hQ
        rw [show ((d0.st (xsL s) k).exec (xsL s k)).1 = d0.st (xsL s) (k + 1) from rfl, show ((d0.st (xsL s) k).exec (xsL s k)).2 = d0.rp (xsL s) k from rfl] at hE
        by_cases hrp : d0.rp (xsL s) k = ysL s k
        · have htx : ¬ ¬ tx (d0.rp (xsL s) k) = tx (ysL s k) := fun q => q (by rw [hrp])
          have htx2 : tx (d0.rp (xsL s) k) = tx (ysL s k) := by rw [hrp]
          rw [hk1, misN_miss (fun q => q hrp)]
          (repeat' ((conv => whnf); first | refine go ?_ | (refine VSome.mk ?_; intro gQ hA'; first | subst hA' | cases hA' | (dsimp only at hA'; subst hA')) | refine And.intro ?_ ?_ | intro _ | (first | ((show VCall _ _ _ 29 _ _); refine VCall.ret (fun w1 m1 => hE _ _ _ _ w1 (ht.on m1) seenA seenA (m1.plain fndA) (m1.plain fndA)) (fun i _ => ?_); obtain ⟨⟨A9, c9⟩, B9, e9⟩ := i) | ((show VLoadN _ _ _ _ _ _); refine VLoadN.row (vs := [.string (tx (xsL s k)), .string (tx (ysL s k))]) 3 rfl rfl (fun j u hj => RcS_at (i := k) (f := rcd s) hlt (by show mulS k 2 = k * 2; rw [mulS_eq]) j u hj) ?_))))
          all_goals (conv => whnf)
          all_goals (refine VNext.mk (k + 1, (A9, c9), B9, e9) ⟨hlt, rfl⟩ (Nat.lt_succ_self _) ?_ (OwnLe.mk [0, 5, 6, 3] (by simp) rfl); ((conv => whnf); repeat (first | exact trivial | refine ⟨rfl, ?_⟩ | refine ⟨congrArg (Value.int .i64) (by first | omega | assumption | exact Eq.symm (by assumption)), ?_⟩)))
        · have htx : ¬ tx (d0.rp (xsL s) k) = tx (ysL s k) := fun q => hrp (tx_inj q)
          rw [hk1, misN_hit hrp]
          (repeat' ((conv => whnf); first | refine go ?_ | (refine VSome.mk ?_; intro gQ hA'; first | subst hA' | cases hA' | (dsimp only at hA'; subst hA')) | refine And.intro ?_ ?_ | intro _ | (first | ((show VCall _ _ _ 29 _ _); refine VCall.ret (fun w1 m1 => hE _ _ _ _ w1 (ht.on m1) seenA seenA (m1.plain fndA) (m1.plain fndA)) (fun i _ => ?_); obtain ⟨⟨A9, c9⟩, B9, e9⟩ := i) | ((show VLoadN _ _ _ _ _ _); refine VLoadN.row (vs := [.string (tx (xsL s k)), .string (tx (ysL s k))]) 3 rfl rfl (fun j u hj => RcS_at (i := k) (f := rcd s) hlt (by show mulS k 2 = k * 2; rw [mulS_eq]) j u hj) ?_))))
          all_goals ((conv => whnf); refine VRet.mk fun w' m => ?_)
          all_goals exact ⟨rfl, m.keeps.below⟩
      · obtain rfl : k = cnt s := by omega
        rw [Nat.sub_self, show misN (difL d0 s) 0 (cnt s) = cnt s from rfl]
        (repeat' ((conv => whnf); first | refine go ?_ | (refine VSome.mk ?_; intro gQ hA'; first | subst hA' | cases hA' | (dsimp only at hA'; subst hA')) | refine And.intro ?_ ?_ | intro _))
        all_goals ((conv => whnf); refine VRet.mk fun w' m => ?_)
        all_goals exact ⟨rfl, m.keeps.below⟩
    · rw [rplV_no (fun q => h2 q.2)]
      rw [tr_yes h1] at hN
      rw [tr_no h2] at hL
      generalize coNew a b n f = d0 at hN
      refine calls_of_vc tb_ok (args := [.int .i64 a, .int .i64 b, .slice A n c, .agg #[.string (tx d), .string (tx p), .int .i64 cc]]) Tryz.func24 rfl ?_
      (repeat' ((conv => whnf); first | refine go ?_ | (refine VSome.mk ?_; intro gQ hA'; first | subst hA' | cases hA' | (dsimp only at hA'; subst hA')) | refine And.intro ?_ ?_ | intro _ | (first | ((show VCall _ _ _ 26 _ _); refine VCall.ret (fun w1 m1 => hN w1 seenA) (fun i _ => ?_); obtain ⟨⟨A', c'⟩, B', e'⟩ := i) | ((show VCall _ _ _ 41 _ _); refine VCall.ret (fun w1 m1 => hL w1 (ht.on m1).1) (fun i _ => ?_); obtain ⟨P, cp⟩ := i))))
      all_goals ((conv => whnf); refine VRet.mk fun w' m => ?_)
      all_goals exact ⟨rfl, m.keeps.below⟩
  · rw [rplV_no (fun q => h1 q.1)]
    rw [tr_no h1] at hN
    generalize coNew a b n f = d0 at hN
    generalize tr (okL d p cc) = b2 at hL
    cases b2
    all_goals (refine calls_of_vc tb_ok (args := [.int .i64 a, .int .i64 b, .slice A n c, .agg #[.string (tx d), .string (tx p), .int .i64 cc]]) Tryz.func24 rfl ?_)
    all_goals ((repeat' ((conv => whnf); first | refine go ?_ | (refine VSome.mk ?_; intro gQ hA'; first | subst hA' | cases hA' | (dsimp only at hA'; subst hA')) | refine And.intro ?_ ?_ | intro _ | (first | ((show VCall _ _ _ 26 _ _); refine VCall.ret (fun w1 m1 => hN w1 seenA) (fun i _ => ?_); obtain ⟨⟨A', c'⟩, B', e'⟩ := i) | ((show VCall _ _ _ 41 _ _); refine VCall.ret (fun w1 m1 => hL w1 (ht.on m1).1) (fun i _ => ?_); obtain ⟨P, cp⟩ := i)))))
    all_goals ((conv => whnf); refine VRet.mk fun w' m => ?_)
    all_goals exact ⟨rfl, m.keeps.below⟩
set_option maxHeartbeats 16000000 in
theorem sReplay_v (A : Option Addr) (n c : Nat) (f : Nat → Ba) (a b : Int) (d p : List UInt8) (cc : Int) (w : World) (hn : n ≤ 1048576) (hd : d.length ≤ 1048576) (hp : p.length ≤ 1048576) (hA : Seen w A (BaS n f)) (hP : Plain A) :
    Calls Tryz.prog 25 #[.int .i64 a, .int .i64 b, .slice A n c, .agg #[.string (tx d), .string (tx p), .int .i64 cc]] w (Post (.tuple #[.int .i64 ((rplV a b n f d p cc).1 : Nat), .bool (rplV a b n f d p cc).2]) w) := by
  have hN := fun w hA => sNewConsole_v A n c f a b w hn hA hP
  have hG := fun w => sLog_v d p cc w hd hp
  have hL := fun w => sLr_v d p cc w hd hp
  refine post_of_vc ?_
  by_cases h1 : okNew a b n f
  · by_cases h2 : okL d p cc
    · rw [rplV_yes h1 h2]
      rw [tr_yes h1] at hN
      rw [tr_yes h2] at hG
      rw [tr_yes h2, lrN_yes h2] at hL
      have hsm := coNew_small (a := a) (b := b) (f := f) hn
      have hc60 := cnt_le (d ++ p)
      generalize coNew a b n f = d0 at hN hsm ⊢
      generalize d ++ p = s at hL hc60 ⊢
      refine calls_of_vc tb_ok (args := [.int .i64 a, .int .i64 b, .slice A n c, .agg #[.string (tx d), .string (tx p), .int .i64 cc]]) Tryz.func25 rfl ?_
      (repeat' ((conv => whnf); first | refine go ?_ | (refine VSome.mk ?_; intro gQ hA'; first | subst hA' | cases hA' | (dsimp only at hA'; subst hA')) | refine And.intro ?_ ?_ | intro _ | (first | ((show VCall _ _ _ 27 _ _); refine VCall.ret (fun w1 m1 => hN w1 seenA) (fun i _ => ?_); obtain ⟨⟨A', c'⟩, B', e'⟩ := i) | ((show VCall _ _ _ 66 _ _); refine VCall.grow _ (fun w1 m1 => hG w1) ?_) | ((show VCall _ _ _ 67 _ _); refine VCall.ret (fun w1 m1 => hL w1) (fun i _ => ?_); obtain ⟨P, cp⟩ := i))))
      (conv => whnf)
      rename_i gl g10 _ _ _
      refine VLoop.mk (ι := Nat × Sl2) [8, 9, 14, 15, 35, 36, 37, 38, 39, 40, 41, 42, 43, 44, 45, 46, 47, 48, 49, 50, 51, 52, 53, 54, 55, 56, 57, 58] (fun (k, _) => [(15, .int .i64 k)]) (fun (k, (A1, c1), B1, e1) => [.blk g10 39 ((d0.st (xsL s) k).at A1 c1 B1 e1), .row (.slice A1 (d0.st (xsL s) k).n c1) 96 3 (d0.st (xsL s) k).n (BaS (d0.st (xsL s) k).n (d0.st (xsL s) k).ba), .row (.slice B1 (d0.st (xsL s) k).m e1) 98 4 (d0.st (xsL s) k).m (AwS (d0.st (xsL s) k).m (d0.st (xsL s) k).wa), .row (.slice P (cnt s) cp) 74 2 (cnt s) (RcS (cnt s) (rcd s))]) (fun i => i.1 ≤ cnt s ∧ misN (difL d0 s) (cnt s) 0 = misN (difL d0 s) (cnt s - i.1) i.1) (fun i => cnt s - i.1) (0, (A', c'), B', e') ⟨Nat.zero_le _, rfl⟩ ?_ (OwnLe.mk [3, 1, 2, 4] (by simp) rfl) (fun i u hi => ?_)
      · ((conv => whnf); repeat (first | exact trivial | refine ⟨rfl, ?_⟩ | refine ⟨congrArg (Value.int .i64) (by first | omega | assumption | exact Eq.symm (by assumption)), ?_⟩))
      obtain ⟨k, ⟨A1, c1⟩, B1, e1⟩ := i
      obtain ⟨hk, hmis⟩ := hi
      replace hk : k ≤ cnt s := hk
      replace hmis : misN (difL d0 s) (cnt s) 0 = misN (difL d0 s) (cnt s - k) k := hmis
      rw [hmis]
      ((conv => whnf); try dsimp only)
      by_cases hlt : k < cnt s
      · have hk1 : cnt s - k = (cnt s - (k + 1)) + 1 := by omega
        have hxl := xs_len hlt
        have hE := fun A B c e w hA hB hP hQ => sExec_v A B c e (d0.st (xsL s) k) (xsL s k) w (Co.st_small hsm _ k) (by omega) hA hB hP hQ
        rw [show ((d0.st (xsL s) k).exec (xsL s k)).1 = d0.st (xsL s) (k + 1) from rfl, show ((d0.st (xsL s) k).exec (xsL s k)).2 = d0.rp (xsL s) k from rfl] at hE
        have a1 : (RcS (cnt s) (rcd s))[mulS k 2 + 0]? = some (.string (tx (xsL s k))) := RcS_at (i := k) (f := rcd s) hlt (by rw [mulS_eq]) 0 _ rfl
        have a2 : (RcS (cnt s) (rcd s))[mulS k 2 + 1]? = some (.string (tx (ysL s k))) := RcS_at (i := k) (f := rcd s) hlt (by rw [mulS_eq]) 1 _ rfl
        have a3 : (RcS (cnt s) (rcd s))[0 + mulS k 2 + 0]? = some (.string (tx (xsL s k))) := RcS_at (i := k) (f := rcd s) hlt (by rw [mulS_eq, Nat.zero_add]) 0 _ rfl
        have a4 : (RcS (cnt s) (rcd s))[0 + mulS k 2 + 1]? = some (.string (tx (ysL s k))) := RcS_at (i := k) (f := rcd s) hlt (by rw [mulS_eq, Nat.zero_add]) 1 _ rfl
        by_cases hrp : d0.rp (xsL s) k = ysL s k
        · have htx : ¬ ¬ tx (d0.rp (xsL s) k) = tx (ysL s k) := fun q => q (by rw [hrp])
          have htx2 : tx (d0.rp (xsL s) k) = tx (ysL s k) := by rw [hrp]
          rw [hk1, misN_miss (fun q => q hrp)]
          (repeat' ((conv => whnf); first | refine go ?_ | (refine VSome.mk ?_; intro gQ hA'; first | subst hA' | cases hA' | (dsimp only at hA'; subst hA')) | refine And.intro ?_ ?_ | intro _ | (first | ((show VCall _ _ _ 38 _ _); refine VCall.ret (fun w1 m1 => hE _ _ _ _ w1 seenA seenA (m1.plain fndA) (m1.plain fndA)) (fun i _ => ?_); obtain ⟨⟨A9, c9⟩, B9, e9⟩ := i) | ((show VDraw _ _ _ _ _ _); refine VDraw.mk (.take 1 (.take 2 (.take 3 (.take 4 (.take 5 (.br 0 (.br 6 (.take 7 (.take 8 (.take 9 (.br 10 (.take 11 .done) .done)))) .done) .done)))))) [3] (by kernel_rfl) (by kernel_rfl) ?_))))
          all_goals (conv => whnf)
          all_goals (refine VNext.mk (k + 1, (A9, c9), B9, e9) ⟨hlt, rfl⟩ (Nat.lt_succ_self _) ?_ (OwnLe.mk [0, 4, 5, 3] (by simp) rfl); ((conv => whnf); repeat (first | exact trivial | refine ⟨rfl, ?_⟩ | refine ⟨congrArg (Value.int .i64) (by first | omega | assumption | exact Eq.symm (by assumption)), ?_⟩)))
        · have htx : ¬ tx (d0.rp (xsL s) k) = tx (ysL s k) := fun q => hrp (tx_inj q)
          rw [hk1, misN_hit hrp]
          (repeat' ((conv => whnf); first | refine go ?_ | (refine VSome.mk ?_; intro gQ hA'; first | subst hA' | cases hA' | (dsimp only at hA'; subst hA')) | refine And.intro ?_ ?_ | intro _ | (first | ((show VCall _ _ _ 38 _ _); refine VCall.ret (fun w1 m1 => hE _ _ _ _ w1 seenA seenA (m1.plain fndA) (m1.plain fndA)) (fun i _ => ?_); obtain ⟨⟨A9, c9⟩, B9, e9⟩ := i) | ((show VDraw _ _ _ _ _ _); refine VDraw.mk (.take 1 (.take 2 (.take 3 (.take 4 (.take 5 (.br 0 (.br 6 (.take 7 (.take 8 (.take 9 (.br 10 (.take 11 .done) .done)))) .done) .done)))))) [3] (by kernel_rfl) (by kernel_rfl) ?_))))
          all_goals ((conv => whnf); refine VRet.mk fun w' m => ?_)
          all_goals exact ⟨rfl, m.keeps.below⟩
      · obtain rfl : k = cnt s := by omega
        rw [Nat.sub_self, show misN (difL d0 s) 0 (cnt s) = cnt s from rfl]
        (repeat' ((conv => whnf); first | refine go ?_ | (refine VSome.mk ?_; intro gQ hA'; first | subst hA' | cases hA' | (dsimp only at hA'; subst hA')) | refine And.intro ?_ ?_ | intro _))
        all_goals ((conv => whnf); refine VRet.mk fun w' m => ?_)
        all_goals exact ⟨rfl, m.keeps.below⟩
    · rw [rplV_no (fun q => h2 q.2)]
      rw [tr_yes h1] at hN
      rw [tr_no h2] at hG
      generalize coNew a b n f = d0 at hN
      refine calls_of_vc tb_ok (args := [.int .i64 a, .int .i64 b, .slice A n c, .agg #[.string (tx d), .string (tx p), .int .i64 cc]]) Tryz.func25 rfl ?_
      (repeat' ((conv => whnf); first | refine go ?_ | (refine VSome.mk ?_; intro gQ hA'; first | subst hA' | cases hA' | (dsimp only at hA'; subst hA')) | refine And.intro ?_ ?_ | intro _ | (first | ((show VCall _ _ _ 27 _ _); refine VCall.ret (fun w1 m1 => hN w1 seenA) (fun i _ => ?_); obtain ⟨⟨A', c'⟩, B', e'⟩ := i) | ((show VCall _ _ _ 66 _ _); refine VCall.grow _ (fun w1 m1 => hG w1) ?_))))
      all_goals ((conv => whnf); refine VRet.mk fun w' m => ?_)
      all_goals exact ⟨rfl, m.keeps.below⟩
  · rw [rplV_no (fun q => h1 q.1)]
    rw [tr_no h1] at hN
    generalize coNew a b n f = d0 at hN
    refine calls_of_vc tb_ok (args := [.int .i64 a, .int .i64 b, .slice A n c, .agg #[.string (tx d), .string (tx p), .int .i64 cc]]) Tryz.func25 rfl ?_
    (repeat' ((conv => whnf); first | refine go ?_ | (refine VSome.mk ?_; intro gQ hA'; first | subst hA' | cases hA' | (dsimp only at hA'; subst hA')) | refine And.intro ?_ ?_ | intro _ | (first | ((show VCall _ _ _ 27 _ _); refine VCall.ret (fun w1 m1 => hN w1 seenA) (fun i _ => ?_); obtain ⟨⟨A', c'⟩, B', e'⟩ := i))))
    all_goals ((conv => whnf); refine VRet.mk fun w' m => ?_)
    all_goals exact ⟨rfl, m.keeps.below⟩
end Go.Proofs.YtadjhkehfklmnaaGreatDoor
namespace Go.Proofs.YtadjhkehfklmnaaGreatDoor.lawReplayLog
set_option linter.unusedSimpArgs false
set_option linter.unusedVariables false
open Go.ChangeShapes Go.WideShapes Go.ChangeAt Go.RowKit
set_option maxRecDepth 20000
set_option maxHeartbeats 4000000 in
theorem walk (x0 : Int) (x1 : Int) (A2 : Option Addr) (n2 c2 : Nat) (f2 : Nat → Ba) (d3 : Lg) (w : World) (hx0 : In64 x0) (hx1 : In64 x1) (hn2 : n2 ≤ 9223372036854775807) (hA2 : Seen w A2 (BaS n2 f2)) (hw3 : d3.wf) (ht : PT2 w) :
    Calls Tryz.prog 6 #[.int .i64 x0, .int .i64 x1, .slice A2 n2 c2, .agg d3.cells.toArray] w (Post (.bool true) w) := by
  have hs3_durable : d3.durable.size ≤ 9223372036854775807 := by have := hw3; unfold Lg.wf maxLen at this; omega
  have hs3_pending : d3.pending.size ≤ 9223372036854775807 := by have := hw3; unfold Lg.wf maxLen at this; omega
  have hld3 : d3.durable.data.toList.length = d3.durable.size := by rw [← tx_size, tx_list]
  have hlp3 : d3.pending.data.toList.length = d3.pending.size := by rw [← tx_size, tx_list]
  have hcs := fun A c w h1 h2 h3 hA hP => sReplay_v A n2 c f2 x0 x1 d3.durable.data.toList d3.pending.data.toList d3.count w h1 h2 h3 hA hP
  have hci := fun A c w h1 h2 h3 ht hA hP => iReplay_v A n2 c f2 x0 x1 d3.durable.data.toList d3.pending.data.toList d3.count w h1 h2 h3 ht hA hP
  generalize rplV x0 x1 n2 f2 d3.durable.data.toList d3.pending.data.toList d3.count = rv at hcs hci
  rw [tx_list, tx_list] at hcs hci
  obtain ⟨rn, rb⟩ := rv
  dsimp only at hcs hci
  refine post_of_vc ?_
  refine calls_of_vc tb_ok (args := [.int .i64 x0, .int .i64 x1, .slice A2 n2 c2, .agg d3.cells.toArray]) Tryz.func6 rfl ?_
  (repeat' ((conv => whnf); first | refine go ?_ | (refine VSome.mk ?_; intro gQ hA'; first | subst hA' | cases hA' | (dsimp only at hA'; subst hA')) | refine And.intro ?_ ?_ | intro _ | (first | ((show VCall _ _ _ 32 _ _); refine VCall.some _ _ (fun w1 m1 => szBasinS_v A2 n2 c2 _ w1 hn2 (by omega) (by omega)) (fun r hr => ?_)) | ((show VCall _ _ _ 34 _ _); refine VCall.ret (fun w1 m1 => toBasinS_v A2 n2 c2 f2 w1 (by omega) seenA) (fun g _ => ?_)) | ((show VCall _ _ _ 36 [.slice _ n2 _, _] _); refine VCall.grow _ (fun w1 m1 => eqBasinS_v _ _ n2 _ _ f2 w1 (by omega) seenA seenA) ?_) | ((show VCall _ _ _ 35 _ _); refine VCall.grow _ (fun w1 m1 => toLog_v d3 w1) ?_) | ((show VCall _ _ _ 33 _ _); refine VCall.some _ _ (fun w1 m1 => szLog_v d3 _ w1 (by omega) (by omega) hs3_durable hs3_pending) (fun r hr => ?_)) | ((show VCall _ _ _ 25 _ _); refine VCall.grow _ (fun w1 m1 => hcs _ _ w1 (by omega) (by omega) (by omega) seenA (by first | assumption | exact Plain.none | exact Plain.some _ _ | exact Mem.plain (by assumption) (by repeat (first | exact At.here | apply At.there)))) ?_) | ((show VCall _ _ _ 24 _ _); refine VCall.grow _ (fun w1 m1 => hci _ _ w1 (by omega) (by omega) (by omega) (ht.on m1) seenA (by first | assumption | exact Plain.none | exact Plain.some _ _ | exact Mem.plain (by assumption) (by repeat (first | exact At.here | apply At.there)))) ?_) | ((show VDraw _ _ _ _ _ _); refine VDraw.mk (.take 0 (.take 1 (.take 2 (.take 4 (.br 3 (.br 5 (.br 6 (.take 7 (.take 8 (.take 9 (.take 10 (.take 11 .done))))) .done) .done) .done))))) [0] (by kernel_rfl) (by kernel_rfl) ?_) | ((show VCall _ _ _ 52 _ _); refine lend_BasinS  0 rfl (by omega) (by omega) (by omega) ?_) | ((show VCall _ _ _ 52 _ _); refine lend_BasinS  1 rfl (by omega) (by omega) (by omega) ?_) | ((show VCall _ _ _ 52 _ _); refine lend_BasinS  2 rfl (by omega) (by omega) (by omega) ?_) | ((show VCall _ _ _ 52 _ _); refine lend_BasinS  3 rfl (by omega) (by omega) (by omega) ?_) | ((show VCall _ _ _ 52 _ _); refine lend_BasinS  4 rfl (by omega) (by omega) (by omega) ?_) | ((show VCall _ _ _ 52 _ _); refine lend_BasinS  5 rfl (by omega) (by omega) (by omega) ?_) | ((show VCall _ _ _ 52 _ _); refine lend_BasinS  6 rfl (by omega) (by omega) (by omega) ?_) | ((show VCall _ _ _ 52 _ _); refine lend_BasinS  7 rfl (by omega) (by omega) (by omega) ?_) | ((show VCall _ _ _ 52 _ _); refine lend_BasinS  8 rfl (by omega) (by omega) (by omega) ?_) | ((show VCall _ _ _ 52 _ _); refine lend_BasinS  9 rfl (by omega) (by omega) (by omega) ?_) | ((show VCall _ _ _ 52 _ _); refine lend_BasinS  10 rfl (by omega) (by omega) (by omega) ?_) | ((show VCall _ _ _ 52 _ _); refine lend_BasinS  11 rfl (by omega) (by omega) (by omega) ?_) | ((show VCall _ _ _ 52 _ _); refine lend_BasinS  12 rfl (by omega) (by omega) (by omega) ?_) | ((show VCall _ _ _ 52 _ _); refine lend_BasinS  13 rfl (by omega) (by omega) (by omega) ?_) | ((show VCall _ _ _ 52 _ _); refine lend_BasinS  14 rfl (by omega) (by omega) (by omega) ?_) | ((show VCall _ _ _ 52 _ _); refine lend_BasinS  15 rfl (by omega) (by omega) (by omega) ?_) | ((show VCall _ _ _ 52 _ _); refine lend_BasinS  16 rfl (by omega) (by omega) (by omega) ?_) | ((show VCall _ _ _ 52 _ _); refine lend_BasinS  17 rfl (by omega) (by omega) (by omega) ?_) | ((show VCall _ _ _ 52 _ _); refine lend_BasinS  18 rfl (by omega) (by omega) (by omega) ?_) | ((show VCall _ _ _ 52 _ _); refine lend_BasinS  19 rfl (by omega) (by omega) (by omega) ?_))))
  all_goals ((conv => whnf); refine VRet.mk fun w' m => ?_)
  all_goals exact ⟨rfl, m.keeps.below⟩
end Go.Proofs.YtadjhkehfklmnaaGreatDoor.lawReplayLog
namespace Go.Proofs.YtadjhkehfklmnaaGreatDoor
set_option linter.unusedSimpArgs false
set_option linter.unusedVariables false
open Go.ChangeShapes Go.WideShapes Go.ChangeAt Go.RowKit
set_option maxRecDepth 10000
theorem law_lift_shaped {H : Type} {enc : TypeId × Value → H} {C : Checked} {os : Os} {f : FuncId} {fn : Func} {s : ChangeSpec} {conds : List PathCond} {tb : TypeId} {laid : List (String × DataW Unit)}
    (own : ownKnob C.prog.godebug = none) (started : os.Started) (noInit : C.prog.inits.idxOf? f = none) (hfn : C.prog.funcs[f]? = some fn)
    (witness : ∃ (w : World) (tape : Tape) (i : Input), w.os = os ∧ (w.forCall tape i).Shaped C.prog ∧ i.vars = [] ∧ Input.okWide C.prog (w.forCall tape i) .any w.heap.size f i ∧
      ((s.pre enc C.prog fn conds false (w.forCall tape i).memory i.args ∧ laidMetH C.prog laid (w.forCall tape i).memory) ∧ sizedMet enc C.prog fn (OpenSpec.ofChange s) false (w.forCall tape i).memory i.args) ∧ Assume.holds {} C.prog (lone (Frame.enter C.prog f i.args .normal) [] (w.forCall tape i)))
    (hvars : s.vars = []) (hspec : ∀ ds : List (DataW H), ds.length = fn.params.size → s.fn H (ds ++ []) = { results := [.lit (.bool true)], args := ds })
    (hres : fn.resultTypes = #[tb]) (hbool : C.prog.underlying tb = some .bool) (hl : laidOutB C.prog = true)
    (hr : (fn.params.toList.all fun t => C.prog.readableRec t && decide (t < C.prog.types.size)) = true)
    (contract : ∀ (W : World) (base : Nat) (args : Array Value) (ds : List (DataW H)) (p : List MemPlace),
      (∀ (j : Nat) t v, fn.params[j]? = some t → args[j]? = some v → Value.okWide C.prog W .any base t v) →
      DataW.TrodAll enc C.prog W 0 (fun _ => true) true fn.params.toList args.toList ds p → laidMetH C.prog laid W → W.ShapedOpen C.prog → Calls C.prog f args W (Post (.bool true) W)) :
    ReturnsInHanded {} C os f .any (fun w args => (s.pre enc C.prog fn conds false w args ∧ laidMetH C.prog laid w) ∧ sizedMet enc C.prog fn (OpenSpec.ofChange s) false w args) (s.post enc C.prog fn false true false false) := by
  refine returnsInHanded_of_calls own started noInit witness ?_
  intro w tape i _ hsh _ hok hpre hholds
  obtain ⟨_, _, _, fn', hfn', _, _, _, _, hval0⟩ := hok
  have e0 : fn = fn' := (Option.some.inj (hfn'.symm.trans hfn)).symm
  subst e0
  obtain ⟨⟨⟨ds, gs, before, hw, hc⟩, hx⟩, hz⟩ := hpre
  have hw' := DataW.Whole.of_heap (w' := w.forCall tape i) (by rfl) hw
  have hL : laidMetH C.prog laid (w.forCall tape i) := hx.of_heap (by rfl)
  have main : ∀ (W : World) (base : Nat) (args : Array Value), W.ShapedOpen C.prog → (∀ (j : Nat) t v, fn.params[j]? = some t → args[j]? = some v → Value.okWide C.prog W .any base t v) → DataW.Whole enc C.prog fn.params.toList s.vars false W args.toList ds gs before → laidMetH C.prog laid W → Calls C.prog f args W fun e W' => ∃ v, e = .returned v ∧ s.post enc C.prog fn false true false false W args v W' := by
    intro W base args hsh hval hW hL
    have hW' := hW
    obtain ⟨p, q, hA, hV, rfl, _, _⟩ := hW
    rw [hvars] at hV
    obtain ⟨rfl, rfl⟩ := trodVars_none hV
    refine (contract W base args ds p hval hA hL hsh).mono fun e W' ⟨he, hb⟩ => ?_
    subst he
    have hlen : ds.length = fn.params.size := by
      have : ∀ (ts : List TypeId) (vs : List Value) (ds : List (DataW H)) (ps : List MemPlace), DataW.TrodAll enc C.prog W 0 (fun _ => true) true ts vs ds ps → ds.length = ts.length := by
        intro ts
        induction ts with
        | nil => intro vs ds ps h; cases vs <;> cases ds <;> simp [DataW.TrodAll] at h ⊢
        | cons t ts ih =>
          intro vs ds ps h
          obtain ⟨v, vs', d, ds', p, q, rfl, rfl, rfl, _, h2⟩ := trodAll_cons h
          simp [ih _ _ _ h2]
      simpa using this _ _ _ _ hA
    have hsp := hspec ds hlen
    refine ⟨_, rfl, ds, [], p ++ [], [], p, [], hW', ?_, ?_, ?_, hb.frame _, fun h => by cases h⟩
    · rw [hsp, hres]
      exact trodAll_mk1 (shut_bool hbool true)
    · rw [hsp]
      refine trodAll_below hl hb _ _ _ _ (fun t ht => ?_) (fun x hx => ?_) hA
      · have := List.all_eq_true.1 hr t ht
        simpa using this
      · exact hW'.lt x (by simpa using hx)
    · rw [hvars, hsp]
      rfl
  refine (main (w.forCall tape i) w.heap.size i.args hsh hval0 hw' hL).mono fun e W' ⟨v, he, hp⟩ => ?_
  subst he
  exact ChangeSpec.post_blind hp
def litV : DataW Unit → List Value
  | .lit (.int k z) => [.int k z]
  | _ => []
def cellsD : DataW Unit → Array Value
  | .agg l => (l.flatMap fun d => match d with
    | .agg l2 => l2.flatMap litV
    | d => litV d).toArray
  | _ => #[]
noncomputable def putC (g : Nat) (cs : Array Value) (w : World) : World :=
  { w with heap := w.heap.modify g fun
      | .cells _ t frozen => .cells cs t frozen
      | o => o }
def laidL : List (String × DataW Unit) := [("math/bits.deBruijn32tab", Rows.laid_math_bits_deBruijn32tab), ("math/bits.deBruijn64tab", Rows.laid_math_bits_deBruijn64tab), ("internal/strconv.uint64pow10", Rows.laid_internal_strconv_uint64pow10), ("unicode/utf8.acceptRanges", Rows.laid_unicode_utf8_acceptRanges), ("strconv.ErrRange", Rows.laid_strconv_ErrRange), ("strconv.ErrSyntax", Rows.laid_strconv_ErrSyntax), ("unicode/utf8.first", Rows.laid_unicode_utf8_first)]
noncomputable def laidWorld (os : Os) : World :=
  let N := (World.settled Tryz.prog os).heap.size
  putC 4 (cellsD Rows.laid_math_bits_deBruijn32tab) (putC 5 (cellsD Rows.laid_math_bits_deBruijn64tab) (putC 1 (cellsD Rows.laid_internal_strconv_uint64pow10) (putC 3 (cellsD Rows.laid_unicode_utf8_acceptRanges) (putC 2 (cellsD Rows.laid_unicode_utf8_first)
    (putC 7 #[.iface 266 (.pointer (some ⟨N, 0, none⟩))] (putC 6 #[.iface 266 (.pointer (some ⟨N + 1, 0, none⟩))]
      (World.holding Tryz.prog os ⟨#[.cells #[.string ⟨#[118, 97, 108, 117, 101, 32, 111, 117, 116, 32, 111, 102, 32, 114, 97, 110, 103, 101]⟩] 268, .cells #[.string ⟨#[105, 110, 118, 97, 108, 105, 100, 32, 115, 121, 110, 116, 97, 120]⟩] 268], #[], []⟩)))))))
theorem laid_met (os : Os) (args : Array Value) : laidMetH Tryz.prog laidL ((laidWorld os).forCall (fun _ _ => 0) ⟨#[], args, []⟩).memory :=
  show laidMet Tryz.prog laidL _ from laidMet_of_run' 8 (by kernel_rfl) (by kernel_rfl)
theorem star_es : "*" ++ "errors.errorString" = "*errors.errorString" := by decide
theorem row_es (u : TypeId) (h : Tryz.prog.typeName? 3 u = some "*errors.errorString") : u = 266 :=
  typeName_ptr_named (nm := "errors.errorString") (by rw [star_es]; kernel_rfl) (by kernel_rfl) (by decide) u (by rw [star_es]; exact h)
theorem gES : Tryz.prog.globalNamed "strconv.ErrSyntax" = some 6 := by kernel_rfl
theorem pt2_is {W : World} (h : laidMetH Tryz.prog laidL W) (hsh : W.ShapedOpen Tryz.prog) : PT2 W := by
  have h' : laidMet Tryz.prog laidL W := h
  have h3 := h'.tail.tail
  rw [show ("internal/strconv.uint64pow10", (Rows.laid_internal_strconv_uint64pow10 : DataW Unit)) = ("internal/strconv.uint64pow10", Lib.tabData .u64 Lib.pow10Tab) from by kernel_rfl] at h3
  have h5 : laidMet Tryz.prog [("strconv.ErrSyntax", .iface "*errors.errorString" (.ptr (.agg [.lit (.string [105, 110, 118, 97, 108, 105, 100, 32, 115, 121, 110, 116, 97, 120])]))), ("unicode/utf8.first", Rows.laid_unicode_utf8_first)] W := h'.tail.tail.tail.tail.tail
  refine ⟨Lib.tabIs_of_head (t := 215) (e := 87) (n := 20) gPTab (by kernel_rfl) (by kernel_rfl) (by kernel_rfl) (by kernel_rfl) (by kernel_rfl) h3, ?_, ?_⟩
  · exact cell_of_shapedOpen_int (zero := #[.int .i64 0]) (t := 3) hsh (of_decide_eq_true (by kernel_rfl)) (by kernel_rfl) rfl (by kernel_rfl) (by kernel_rfl) Tryz.underlying3
  · obtain ⟨a, s, hv, _⟩ := laid_sentinel h5 gES (ti := 201) (by kernel_rfl) Tryz.underlying201 row_es Tryz.underlying266 Tryz.underlying268 rfl rfl Tryz.underlying9 (by kernel_rfl) (by kernel_rfl)
    exact ⟨_, _, by have h0 := World.var?_cell gES hv 0; simpa using h0⟩
end Go.Proofs.YtadjhkehfklmnaaGreatDoor
namespace Go.Proofs.YtadjhkehfklmnaaGreatDoor
set_option linter.unusedSimpArgs false
set_option linter.unusedVariables false
open Go.ChangeShapes Go.WideShapes Go.ChangeAt Go.RowKit
set_option maxRecDepth 10000
theorem joined_parts {P : Program} {f : FuncId} {fn : Func} {s : ChangeSpec} {c : OpenClaim}
    (h1 : (c.wf (OpenSpec.ofChange s) && laidOutB P && mapsRowed P) = true)
    (h2 : (fn.params.all (P.readableRec ·) && namedTie P c.named s.vars && (c.stops == []) && (P.stops == []) && (c.knobs == []) && (P.stopKnobs == [])) = true)
    (h3 : (c.inPlace == P.inPlace f) = true) (h4 : (c.unfollowed == P.unfollowed f) = true) (h5 : (c.recurses == P.recurses f) = true) (h6 : (c.named == P.varsNamed f) = true)
    (h7 : ((c.maps == (fn.params.toList ++ s.plain.varTypes P).any (P.mapsRec ·)) && (c.ifaces == (fn.params.toList ++ s.plain.varTypes P).any (P.ifacesRec ·)) && (c.mapsOut == P.mapsAmong fn.resultTypes.toList) &&
      (c.loops == (fn.params.toList ++ s.plain.varTypes P).any (P.loopsFrom ·)) && (c.wideKeys == (fn.params.toList ++ s.plain.varTypes P ++ fn.resultTypes.toList).any (P.wideKeysFrom ·)) &&
      s.vars.all (P.varReadable ·) && fn.resultTypes.all (fun t => P.readableRec t && decide (t < P.types.size)) && (c.ifacesOut == fn.resultTypes.toList.any (P.ifacesRec ·)) && (c.loopsOut == fn.resultTypes.toList.any (P.loopsFrom ·))) = true)
    (h8 : ((c.plainKeys == P.plainKeys) && c.shortTexts.isNone && P.stopsHeard && P.mayEnter) = true) (h9 : ((c.lifted == P.liftsFinal) && (P.make == some c.make)) = true)
    (h10 : ((c.kinds == (if c.domain.isEmpty then [] else fn.params.toList.map fun t => match P.underlying t with | some (.int k) => some k | _ => none)) && (c.pinned == c.pinnedBy) &&
      (c.veiled == (fn.params.toList ++ s.plain.varTypes P ++ fn.resultTypes.toList).any (P.veiledRec ·)) && c.veiledFits P fn.params.toList (fn.params.toList ++ s.plain.varTypes P ++ fn.resultTypes.toList)) = true) : joinedFacts P f fn s c = true := by
  unfold joinedFacts
  rw [Bool.and_eq_true, Bool.and_eq_true] at h1
  rw [Bool.and_eq_true, Bool.and_eq_true, Bool.and_eq_true, Bool.and_eq_true, Bool.and_eq_true] at h2
  rw [Bool.and_eq_true, Bool.and_eq_true, Bool.and_eq_true, Bool.and_eq_true, Bool.and_eq_true, Bool.and_eq_true, Bool.and_eq_true, Bool.and_eq_true] at h7
  rw [Bool.and_eq_true, Bool.and_eq_true, Bool.and_eq_true] at h8
  rw [Bool.and_eq_true] at h9
  rw [Bool.and_eq_true, Bool.and_eq_true, Bool.and_eq_true] at h10
  obtain ⟨⟨a1, a2⟩, a3⟩ := h1
  obtain ⟨⟨⟨⟨⟨b1, b2⟩, b3⟩, b4⟩, b5⟩, b6⟩ := h2
  obtain ⟨⟨⟨⟨⟨⟨⟨⟨d1, d2⟩, d3⟩, d4⟩, d5⟩, d6⟩, d7⟩, d8⟩, d9⟩ := h7
  obtain ⟨⟨⟨e1, e2⟩, e3⟩, e4⟩ := h8
  obtain ⟨f1, f2⟩ := h9
  obtain ⟨⟨⟨g1, g2⟩, g3⟩, g4⟩ := h10
  rw [a1, a2, a3, b1, b2, b3, b4, b5, b6, h3, h4, h5, h6, d1, d2, d3, d4, d5, d6, d7, d8, d9, e1, e2, e3, e4, f1, f2]
  rw [Bool.and_eq_true, Bool.and_eq_true, Bool.and_eq_true, Bool.and_eq_true]
  exact ⟨⟨⟨⟨rfl, g1⟩, g2⟩, g3⟩, g4⟩
end Go.Proofs.YtadjhkehfklmnaaGreatDoor
