/-
  The walk of the law of replays.
  Conditions: none beyond each statement's own premises.
-/
import Derived.Test.YtadjhkehfklmnaaGreatDoorMx23
namespace Go.Proofs.YtadjhkehfklmnaaGreatDoor.lawFnReplay
set_option linter.unusedSimpArgs false
set_option linter.unusedVariables false
open Go.ChangeShapes Go.WideShapes Go.ChangeAt Go.RowKit
set_option maxRecDepth 20000
set_option maxHeartbeats 16000000 in
theorem walk (A : Option Addr) (l : List UInt8) (c0 : Nat) (w : World) (hn : l.length ≤ 9223372036854775807) (hA : Seen w A (YS l)) (ht : PT2 w) :
    Calls Tryz.prog 5 #[.slice A l.length c0] w (Post (.bool true) w) := by
  refine post_of_vc ?_
  refine calls_of_vc tb_ok (args := [.slice A l.length c0]) Tryz.func5 rfl ?_
  have hB := fun w => vBig28_v A l.length c0 w hn
  by_cases hbig : 65536 < l.length
  · rw [tr_yes hbig] at hB
    (repeat' ((conv => whnf); first | refine go ?_ | (refine VSome.mk ?_; intro gQ hA'; first | subst hA' | cases hA' | (dsimp only at hA'; subst hA')) | refine And.intro ?_ ?_ | intro _ | (first | ((show VCall _ _ _ 18 _ _); refine VCall.grow _ (fun w1 _ => hB w1) ?_))))
    (conv => whnf); refine VRet.mk fun w' m => ?_
    exact ⟨rfl, m.keeps.below⟩
  rw [tr_no hbig] at hB
  (repeat' ((conv => whnf); first | refine go ?_ | (refine VSome.mk ?_; intro gQ hA'; first | subst hA' | cases hA' | (dsimp only at hA'; subst hA')) | refine And.intro ?_ ?_ | intro _ | (first | ((show VCall _ _ _ 18 _ _); refine VCall.grow _ (fun w1 _ => hB w1) ?_) | ((show VCall _ _ _ 23 _ _); refine VCall.ret (fun w1 m1 => drawReplay_v l A c0 w1 (by omega) seenA) (fun (a, b, n, f, i, g) hi => ?_); obtain ⟨A1, c1⟩ := i; obtain ⟨hnn, hg1, hg2⟩ := hi))))
  (conv => whnf)
  rename_i g6
  have hnn2 : n ≤ 16 := hnn
  have hgd : g.durable.data.toList.length = g.durable.size := by rw [← tx_size, tx_list]
  have hgp : g.pending.data.toList.length = g.pending.size := by rw [← tx_size, tx_list]
  have hg1' : g.durable.size ≤ 40000 := hg1
  have hg2' : g.pending.size ≤ 40000 := hg2
  have hR := fun w ht hA hP => iReplay_v A1 n c1 f a b g.durable.data.toList g.pending.data.toList g.count w (by omega) (by omega) (by omega) ht hA hP
  have hS := fun w hA hP => sReplay_v A1 n c1 f a b g.durable.data.toList g.pending.data.toList g.count w (by omega) (by omega) (by omega) hA hP
  rw [tx_list, tx_list] at hR hS
  generalize rplV a b n f g.durable.data.toList g.pending.data.toList g.count = rv at hR hS
  obtain ⟨rn, rb⟩ := rv
  dsimp only at hR hS
  have hN := fun w hA hP => iNewConsole_v A1 n c1 f a b w (by omega) hA hP
  have hM := fun w hA hP => sNewConsole_v A1 n c1 f a b w (by omega) hA hP
  by_cases h : okNew a b n f
  · have htold := Co.told_fresh h
    rw [tr_yes h] at hN hM
    have hsm := htold.1.small
    obtain ⟨s1, s2, s3, s4⟩ := id hsm
    have hA1 := fun (d : Co) (q : (coNew a b n f).told d) => rpl_told h q
    have hA2 := fun (d : Co) (q : (coNew a b n f).told d) (k : Nat) (hk : k ≤ d.pe.length) (s u : List UInt8) hs hq => rpl_rec h q hk (s := s) (q := u) hs hq
    have hA3 := fun (d : Co) (q : (coNew a b n f).told d) (k : Nat) (hk : k ≤ d.pe.length) (s u : List UInt8) hs hq => (Co.told_crash q hk (s := s) (q := u) hs hq).2.2
    generalize coNew a b n f = d0 at hN hM htold hsm s1 s2 s3 s4 hA1 hA2 hA3
    cases rb
    iterate 2
      · (repeat' ((conv => whnf); first | refine go ?_ | (refine VSome.mk ?_; intro gQ hA'; first | subst hA' | cases hA' | (dsimp only at hA'; subst hA')) | refine And.intro ?_ ?_ | intro _ | (first | ((show VCall _ _ _ 24 _ _); refine VCall.grow _ (fun w1 m1 => hR w1 (ht.on m1) seenA (m1.plain fndA)) ?_) | ((show VCall _ _ _ 25 _ _); refine VCall.grow _ (fun w1 m1 => hS w1 seenA (m1.plain fndA)) ?_) | ((show VCall _ _ _ 19 _ _); refine VCall.ret (fun w1 m1 => drawScript_v l A c0 w1 (by omega) seenA) (fun (d9, i, t) hi => ?_); obtain ⟨⟨A8, c8⟩, A9, c9⟩ := i; obtain ⟨hd9, htl⟩ := hi) | ((show VCall _ _ _ 26 _ _); refine VCall.ret (fun w1 m1 => hN w1 seenA (m1.plain fndA)) (fun i _ => ?_); obtain ⟨⟨P1, q1⟩, P2, q2⟩ := i))))
        (conv => whnf)
        rename_i g13
        have hsp := fun w => splitS_v t w (by have h7 : t.length ≤ 3000 := htl; omega)
        have hlen := fun k => spV_len t k
        have hcn := spV_cnt t
        have hat := fun k (hk : k < (spV t).1.length) => TS_at hk (o := mulS k 1) (by rw [mulS_eq, Nat.mul_one])
        have hat0 := fun k (hk : k < (spV t).1.length) => TS_at hk (o := 0 + mulS k 1) (by rw [mulS_eq, Nat.mul_one, Nat.zero_add])
        replace htl : t.length ≤ 3000 := htl
        generalize spV t = sv at hsp hlen hat hat0 hcn
        obtain ⟨sL, sB⟩ := sv
        dsimp only at hsp hlen hat hat0 hcn
        cases sB
        iterate 2
          · (repeat' ((conv => whnf); first | refine go ?_ | (refine VSome.mk ?_; intro gQ hA'; first | subst hA' | cases hA' | (dsimp only at hA'; subst hA')) | refine And.intro ?_ ?_ | intro _ | (first | ((show VCall _ _ _ 27 _ _); refine VCall.ret (fun w1 m1 => hM w1 seenA (m1.plain fndA)) (fun i _ => ?_); obtain ⟨⟨P3, q3⟩, P4, q4⟩ := i) | ((show VCall _ _ _ 28 _ _); refine VCall.grow _ (fun w1 m1 => vCon_v _ _ _ _ _ _ _ _ d0 w1 s1 s2 seenA seenA seenA seenA) ?_) | ((show VCall _ _ _ 20 _ _); refine VCall.ret (fun w1 m1 => hsp w1) (fun i _ => ?_); obtain ⟨P5, q5⟩ := i))))
            (conv => whnf)
            have hE := fun k A B c e w ht hA hB hP hQ => iExec_v A B c e (d0.st (fun k => sL.getD k []) k) (sL.getD k []) w (Co.st_small hsm _ k) (by have := hlen k; omega) ht hA hB hP hQ
            replace hE : ∀ k A B c e w, PT2 w → Seen w A (BaS (d0.st (fun k => sL.getD k []) k).n (d0.st (fun k => sL.getD k []) k).ba) → Seen w B (AwS (d0.st (fun k => sL.getD k []) k).m (d0.st (fun k => sL.getD k []) k).wa) → Plain A → Plain B → Calls Tryz.prog 29 #[.agg ((d0.st (fun k => sL.getD k []) k).at A c B e).toArray, .string (tx (sL.getD k []))] w fun e w' => ∃ v, e = .returned v ∧ RetV (fun _ => True) (fun i => .tuple #[(d0.st (fun k => sL.getD k []) (k + 1)).cv i, .string (tx (d0.rp (fun k => sL.getD k []) k))]) (d0.st (fun k => sL.getD k []) (k + 1)).cn (Base.of w) v w' := hE
            have hst := Co.told_st htold (fun k => sL.getD k []) sL.length
            refine VLoop.mk (ι := Nat × Sl2) [19, 97, 98, 99, 100, 101, 102, 103, 104, 105, 106, 107, 108, 109, 110, 111] (fun (k, _) => [(19, .int .i64 k)]) (fun (k, (B1, e1), B2, e2) => [.row (.slice A1 n c1) 96 3 n (BaS n f), .blk g13 39 ((d0.st (fun k => sL.getD k []) k).at B1 e1 B2 e2), .row (.slice B1 (d0.st (fun k => sL.getD k []) k).n e1) 96 3 (d0.st (fun k => sL.getD k []) k).n (BaS (d0.st (fun k => sL.getD k []) k).n (d0.st (fun k => sL.getD k []) k).ba), .row (.slice B2 (d0.st (fun k => sL.getD k []) k).m e2) 98 4 (d0.st (fun k => sL.getD k []) k).m (AwS (d0.st (fun k => sL.getD k []) k).m (d0.st (fun k => sL.getD k []) k).wa), .row (.slice P5 sL.length q5) 9 1 sL.length (TS sL)]) (fun i => i.1 ≤ sL.length) (fun i => sL.length - i.1) (0, (P1, q1), P2, q2) (Nat.zero_le _) ?_ (OwnLe.mk [0, 7, 5, 6, 11] (by simp) rfl) (fun i u hi => ?_)
            · ((conv => whnf); repeat (first | exact trivial | refine ⟨rfl, ?_⟩ | refine ⟨congrArg (Value.int .i64) (by first | omega | assumption | exact Eq.symm (by assumption)), ?_⟩))
            obtain ⟨k, ⟨B1, e1⟩, B2, e2⟩ := i
            replace hi : k ≤ sL.length := hi
            ((conv => whnf); try dsimp only)
            by_cases hlt : k < sL.length
            · have a1 := hat k hlt
              have a2 := hat0 k hlt
              (repeat' ((conv => whnf); first | refine go ?_ | (refine VSome.mk ?_; intro gQ hA'; first | subst hA' | cases hA' | (dsimp only at hA'; subst hA')) | refine And.intro ?_ ?_ | intro _ | (first | ((show VCall _ _ _ 29 _ _); refine VCall.ret (fun w1 m1 => hE k _ _ _ _ w1 (ht.on m1) seenA seenA (m1.plain fndA) (m1.plain fndA)) (fun i _ => ?_); obtain ⟨⟨B3, e3⟩, B4, e4⟩ := i) | ((show VDraw _ _ _ _ _ _); refine VDraw.mk (.take 1 (.take 2 (.take 3 (.take 4 (.br 0 (.br 5 (.take 6 (.take 7 (.take 8 (.br 9 .done .done)))) .done) .done))))) [4] (by kernel_rfl) (by kernel_rfl) ?_))))
              all_goals (conv => whnf)
              all_goals (refine VNext.mk (k + 1, (B3, e3), B4, e4) hlt (by show _ - (k + 1) < _ - k; omega) ?_ (OwnLe.mk [0, 1, 5, 6, 4] (by simp) rfl); ((conv => whnf); repeat (first | exact trivial | refine ⟨rfl, ?_⟩ | refine ⟨congrArg (Value.int .i64) (by first | omega | assumption | exact Eq.symm (by assumption)), ?_⟩)))
            · obtain rfl : k = sL.length := by omega
              generalize d0.st (fun k => sL.getD k []) sL.length = d at hst ⊢
              obtain ⟨u1, u2, u3, u4⟩ := hst.1.small
              have hok := hst.1.2.2.2
              have hcd : ((cnt d.tex : Nat) : Int) = d.log.count := hok.2.1
              obtain ⟨m, hm⟩ : ∃ m : Nat, m = d.log.pending.size - d.log.pending.size % 7 := ⟨_, rfl⟩
              have hmi : (m : Int) = (d.log.pending.size : Int) - (d.log.pending.size : Int) % 7 := by omega
              have hml : m ≤ d.pe.length := by rw [d.pe_len]; omega
              obtain ⟨v, hv⟩ : ∃ v, v = d.du ++ flipL (d.pe.take m) false := ⟨_, rfl⟩
              obtain ⟨q, hq⟩ : ∃ q, q = v.take (ends v (cnt v)) := ⟨_, rfl⟩
              have hv3 := hA3 d hst m hml v q hv hq
              have hql : q.length ≤ 30000 := by rw [hq, List.length_take]; omega
              have hQ1 := fun w ht hA hP => iReplay_v A1 n c1 f a b d.du d.pe d.log.count w (by omega) (by rw [d.du_len]; omega) (by rw [d.pe_len]; omega) ht hA hP
              rw [hA1 d hst, d.du_tx, d.pe_tx] at hQ1
              have hC := fun w ht => iCr_v d.du d.pe d.log.count m false w (by rw [d.du_len]; omega) (by rw [d.pe_len]; omega) ht
              rw [crV_yes hok hml, d.du_tx, d.pe_tx, ← hv, hmi] at hC
              have hRc := fun w ht => iRec_v v w ht
              rw [reV_yes hv3, ← hq] at hRc
              have hQ2 := fun w ht hA hP => iReplay_v A1 n c1 f a b q [] (cnt v : Nat) w (by omega) (by omega) (by decide) ht hA hP
              rw [hA2 d hst m hml v q hv hq] at hQ2
              dsimp only at hQ1 hQ2 hC hRc
              (repeat' ((conv => whnf); first | refine go ?_ | (refine VSome.mk ?_; intro gQ hA'; first | subst hA' | cases hA' | (dsimp only at hA'; subst hA')) | refine And.intro ?_ ?_ | intro _ | (first | ((show VCall _ _ _ 24 [_, _, _, .agg (Array.mk [.string (Lg.durable (Co.log d)), _, _])] _); refine VCall.grow _ (fun w1 m1 => hQ1 w1 (ht.on m1) seenA (m1.plain fndA)) ?_) | ((show VCall _ _ _ 24 [_, _, _, .agg (Array.mk [.string (tx q), _, _])] _); refine VCall.grow _ (fun w1 m1 => hQ2 w1 (ht.on m1) seenA (m1.plain fndA)) ?_) | ((show VCall _ _ _ 30 _ _); refine VCall.grow _ (fun w1 m1 => hC w1 (ht.on m1).1) ?_) | ((show VCall _ _ _ 31 _ _); refine VCall.grow _ (fun w1 m1 => hRc w1 (ht.on m1).1) ?_))))
              (conv => whnf); refine VRet.mk fun w' m => ?_
              exact ⟨rfl, m.keeps.below⟩
  · rw [tr_no h] at hN hM
    have hsm := coNew_small (a := a) (b := b) (f := f) (show n ≤ 1048576 by omega)
    obtain ⟨s1, s2, s3, s4⟩ := id hsm
    generalize coNew a b n f = d0 at hN hM hsm s1 s2 s3 s4
    (repeat' ((conv => whnf); first | refine go ?_ | (refine VSome.mk ?_; intro gQ hA'; first | subst hA' | cases hA' | (dsimp only at hA'; subst hA')) | refine And.intro ?_ ?_ | intro _ | (first | ((show VCall _ _ _ 24 _ _); refine VCall.grow _ (fun w1 m1 => hR w1 (ht.on m1) seenA (m1.plain fndA)) ?_) | ((show VCall _ _ _ 25 _ _); refine VCall.grow _ (fun w1 m1 => hS w1 seenA (m1.plain fndA)) ?_) | ((show VCall _ _ _ 19 _ _); refine VCall.ret (fun w1 m1 => drawScript_v l A c0 w1 (by omega) seenA) (fun (d9, i, t) hi => ?_); obtain ⟨⟨A8, c8⟩, A9, c9⟩ := i; obtain ⟨hd9, htl⟩ := hi) | ((show VCall _ _ _ 26 _ _); refine VCall.ret (fun w1 m1 => hN w1 seenA (m1.plain fndA)) (fun i _ => ?_); obtain ⟨⟨P1, q1⟩, P2, q2⟩ := i) | ((show VCall _ _ _ 27 _ _); refine VCall.ret (fun w1 m1 => hM w1 seenA (m1.plain fndA)) (fun i _ => ?_); obtain ⟨⟨P3, q3⟩, P4, q4⟩ := i) | ((show VCall _ _ _ 28 _ _); refine VCall.grow _ (fun w1 m1 => vCon_v _ _ _ _ _ _ _ _ d0 w1 s1 s2 seenA seenA seenA seenA) ?_))))
    all_goals ((conv => whnf); refine VRet.mk fun w' m => ?_)
    all_goals exact ⟨rfl, m.keeps.below⟩
end Go.Proofs.YtadjhkehfklmnaaGreatDoor.lawFnReplay
