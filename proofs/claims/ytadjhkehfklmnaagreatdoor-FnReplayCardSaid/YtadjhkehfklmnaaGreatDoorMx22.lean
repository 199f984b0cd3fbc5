/-
  Texts joined: how the calls that the law reaches are walked, and the plain laws behind them.
  Conditions: none beyond each statement's own premises.
-/
import Derived.Test.YtadjhkehfklmnaaGreatDoorMx21
namespace Go.Proofs.YtadjhkehfklmnaaGreatDoor
set_option linter.unusedSimpArgs false
set_option linter.unusedVariables false
open Go.RowKit
set_option maxRecDepth 10000
def Co.near (d : Co) : Prop := d.n ≤ 16 ∧ d.m ≤ 16 ∧ (∀ i, i < d.m → (d.wa i).near) ∧ d.log.durable.size ≤ 30000 ∧ d.log.pending.size ≤ 30000
theorem Co.near.small {d : Co} (h : d.near) : d.small := ⟨by have := h.1; omega, by have := h.2.1; omega, by have := h.2.2.2.1; omega, by have := h.2.2.2.2; omega⟩
theorem Co.good.near {d : Co} (h : d.good) : d.near := by
  have h1 := h.2.1.2
  have h2 := h.2.2.1
  have h3 := okL_len h.2.2.2
  rw [Co.du_len, Co.pe_len] at h3
  refine ⟨by omega, by have := h2.2; omega, fun i hi => ?_, by omega, by omega⟩
  have := (h2.1 i hi).1
  exact ⟨by omega, by omega⟩
theorem Co.exec_near {d : Co} (h : d.near) (line : List UInt8) : (d.exec line).1.near := by
  by_cases hg : d.good
  · exact (Co.exec_good hg line).near
  · rw [Co.exec_no hg]; exact h
set_option maxHeartbeats 16000000 in
theorem console_v {w0 : Base} {w : World} (l : List UInt8) (A : Option Addr) (c : Nat) (at_ sd : Int) (g : Nat) (hA : OldSeen w0 A (YS l)) (hl : l.length ≤ 1048576) (h0 : 0 ≤ at_) (h1 : at_ ≤ 4611686018427340000) (m0 : Mem w0 [.blk g 89 (cuC A l.length c at_ sd)] w) :
    Calls Tryz.prog 55 #[.pointer (some ⟨g, 0, none⟩)] w fun e w' => ∃ v, e = .returned v ∧ RetL (ι := Co × Sl2 × Int × Int) (fun (d, i, a, s) => d.near ∧ at_ ≤ a ∧ a ≤ at_ + 5000) (fun (d, i, a, s) => d.cv i) (fun (d, i, a, s) => [.blk g 89 (cuC A l.length c a s)]) (fun (d, i, a, s) => d.cn i) w0 v w' := by
  refine calls_of_vcL (w0 := w0) tb_ok (args := [.pointer (some ⟨g, 0, none⟩)]) Tryz.func55 rfl m0 ?_
  (repeat' ((conv => whnf); first | refine go ?_ | (refine VSome.mk ?_; intro gQ hA'; first | subst hA' | cases hA' | (dsimp only at hA'; subst hA')) | refine And.intro ?_ ?_ | intro _))
  (conv => whnf)
  rename_i g2
  (repeat' ((conv => whnf); first | refine go ?_ | (refine VSome.mk ?_; intro gQ hA'; first | subst hA' | cases hA' | (dsimp only at hA'; subst hA')) | refine And.intro ?_ ?_ | intro _ | (first | ((show VCall _ _ _ 57 [_, _] _); refine VCall.fullS [0] (by simp) (fun _ => rfl) (fun w1 m1 m2 => pick_v l A c _ _ _ _ (hA.lend m1 [0]) hl (by omega) (by omega) m2) (fun (q, a, s) hq => ?_); obtain ⟨hq1, hq2, hq3, hq4⟩ := hq) | ((show VCall _ _ _ 58 [_, _] _); refine VCall.fullS [0] (by simp) (fun _ => rfl) (fun w1 m1 m2 => one_v l A c _ _ _ _ (hA.lend m1 [0]) hl (by omega) (by omega) m2) (fun (q, a, s) hq => ?_); obtain ⟨hq1, hq2⟩ := hq) | ((show VCall _ _ _ 62 [_, .slice (some ⟨_, 0, none⟩) _ _] _); refine VCall.fullS [0] (by simp) (fun _ => rfl) (fun w1 m1 m2 => amongT_v l A c _ _ _ _ _ _ _ (hA.lend m1 [0]) hl (by omega) (by omega) (OldSeen.any m1 [0] (by repeat (first | exact At.here | apply At.there)) (by simp)) (by simp only [List.length_cons, List.length_nil]; omega) (by omega) (by omega) 200000 (by first | rfl | exact okIntB_cons ⟨by omega, by omega⟩ (okIntB_cons ⟨by omega, by omega⟩ (okIntB_cons ⟨by omega, by omega⟩ rfl))) m2) (fun (q, a, s) hq => ?_); obtain ⟨⟨hq1, hq2⟩, hq3, hq4⟩ := hq) | ((show VCall _ _ _ 99 [_, .slice (some ⟨_, 0, none⟩) _ _] _); refine VCall.fullS [0] (by simp) (fun _ => rfl) (fun w1 m1 m2 => of_v l A c _ _ _ _ _ _ 30 _ (hA.lend m1 [0]) hl (by omega) (by omega) (OldSeen.any m1 [0] (by repeat (first | exact At.here | apply At.there)) (by simp)) (by rfl) (by omega) (by omega) (by rfl) m2) (fun (q, a, s) hq => ?_); obtain ⟨hq1, hq2, hq3⟩ := hq) | ((show VCall _ _ _ 62 [_, .slice (some ⟨_, 0, none⟩) _ _] _); refine VCall.fullS [0] (by simp) (fun _ => rfl) (fun w1 m1 m2 => amongI_v l A c _ _ _ _ _ _ _ (hA.lend m1 [0]) hl (by omega) (by omega) (OldSeen.any m1 [0] (by repeat (first | exact At.here | apply At.there)) (by simp)) rfl (by omega) (by omega) (by rfl) m2) (fun (q, a, s) hq => ?_); obtain ⟨hq3, hq4⟩ := hq) | ((show VCall _ _ _ 96 _ _); refine VCall.fullS [0] (by simp) (fun _ => rfl) (fun w1 m1 m2 => lockState_v l A c _ _ _ (hA.lend m1 [0]) hl (by omega) (by omega) m2) (fun (lo, a, s) hq => ?_); obtain ⟨hq3, hq4⟩ := hq) | ((show VCall _ _ _ 63 _ _); refine VCall.fullS [0] (by simp) (fun _ => rfl) (fun w1 m1 m2 => basins_v l A c _ _ _ (hA.lend m1 [0]) hl (by omega) (by omega) m2) (fun (n, f, i, a, s) hq => ?_); obtain ⟨A1, c1⟩ := i; obtain ⟨hn, hq5, hq6⟩ := hq) | ((show VCall _ _ _ 97 _ _); refine VCall.fullS [0] (by simp) (fun _ => rfl) (fun w1 m1 m2 => arrivals_v l A c _ _ _ (hA.lend m1 [0]) hl (by omega) (by omega) m2) (fun (m, h, i, a, s) hq => ?_); obtain ⟨A2, c2⟩ := i; obtain ⟨hm, hid, hq7, hq8⟩ := hq))))
  (conv => whnf)
  rename_i g3 xx
  replace hn : n ≤ 16 := hn
  replace hm : m ≤ 16 := hm
  refine VLoop.mk (ι := Int × Co × Sl2 × Int × Int) [4, 14, 15, 16, 17, 18, 19, 20, 21, 22, 23, 24, 25, 26, 27, 28, 29] (fun (k, d, i, a, s) => [(4, .int .i64 k)]) (fun (k, d, ((A1, c1), A2, c2), a, s) => [.blk g 89 (cuC A l.length c a s), .blk g2 39 (Co.zero.at none 0 none 0), .blk g3 39 (d.at A1 c1 A2 c2), .row (.slice A1 d.n c1) 96 3 d.n (BaS d.n d.ba), .row (.slice A2 d.m c2) 98 4 d.m (AwS d.m d.wa)]) (fun (k, d, i, a, s) => 0 ≤ k ∧ k ≤ 5 ∧ d.near ∧ at_ ≤ a ∧ a + 100 * k ≤ at_ + 3500) (fun i => i.1.toNat) (q, ⟨lo, n, f, m, h, ⟨.empty, .empty, 0⟩⟩, ((A1, c1), A2, c2), a, s) ⟨by omega, by omega, ⟨hn, hm, hid, Nat.zero_le _, Nat.zero_le _⟩, by omega, by omega⟩ ?_ (OwnLe.mk [0, 1, 4, 2, 3] (by simp) rfl) (fun i u hi => ?_)
  · ((conv => whnf); repeat (first | exact trivial | refine ⟨rfl, ?_⟩ | refine ⟨congrArg (Value.int .i64) (by first | omega | assumption | exact Eq.symm (by assumption)), ?_⟩))
  clear hq1 hq2 hq3 hq4 hq5 hq6 hq7 hq8 hn hm hid
  obtain ⟨k, d, ⟨⟨A1, c1⟩, A2, c2⟩, a, s⟩ := i
  obtain ⟨p1, p2, p3, p4, p5⟩ := hi
  replace p3 : d.near := p3
  have hs := p3.small
  obtain ⟨s1, s2, s3, s4⟩ := id hs
  obtain ⟨n1, n2, n3, n4, n5⟩ := id p3
  have hG := fun w hA hB => sG28_v A1 A2 c1 c2 d w s1 s2 s3 s4 hA hB
  (repeat' ((conv => whnf); first | refine go ?_ | (refine VSome.mk ?_; intro gQ hA'; first | subst hA' | cases hA' | (dsimp only at hA'; subst hA')) | refine And.intro ?_ ?_ | intro _ | (first | ((show VCall _ _ _ 57 [_, _] _); refine VCall.fullS [0] (by simp) (fun _ => rfl) (fun w1 m1 m2 => pick_v l A c _ _ _ _ (hA.lend m1 [0]) hl (by omega) (by omega) m2) (fun (q, a, s) hq => ?_); obtain ⟨hq1, hq2, hq3, hq4⟩ := hq) | ((show VCall _ _ _ 58 [_, _] _); refine VCall.fullS [0] (by simp) (fun _ => rfl) (fun w1 m1 m2 => one_v l A c _ _ _ _ (hA.lend m1 [0]) hl (by omega) (by omega) m2) (fun (q, a, s) hq => ?_); obtain ⟨hq1, hq2⟩ := hq) | ((show VCall _ _ _ 62 [_, .slice (some ⟨_, 0, none⟩) _ _] _); refine VCall.fullS [0] (by simp) (fun _ => rfl) (fun w1 m1 m2 => amongT_v l A c _ _ _ _ _ _ _ (hA.lend m1 [0]) hl (by omega) (by omega) (OldSeen.any m1 [0] (by repeat (first | exact At.here | apply At.there)) (by simp)) (by simp only [List.length_cons, List.length_nil]; omega) (by omega) (by omega) 200000 (by first | rfl | exact okIntB_cons ⟨by omega, by omega⟩ (okIntB_cons ⟨by omega, by omega⟩ (okIntB_cons ⟨by omega, by omega⟩ rfl))) m2) (fun (q, a, s) hq => ?_); obtain ⟨⟨hq1, hq2⟩, hq3, hq4⟩ := hq) | ((show VCall _ _ _ 99 [_, .slice (some ⟨_, 0, none⟩) _ _] _); refine VCall.fullS [0] (by simp) (fun _ => rfl) (fun w1 m1 m2 => of_v l A c _ _ _ _ _ _ 30 _ (hA.lend m1 [0]) hl (by omega) (by omega) (OldSeen.any m1 [0] (by repeat (first | exact At.here | apply At.there)) (by simp)) (by rfl) (by omega) (by omega) (by rfl) m2) (fun (q, a, s) hq => ?_); obtain ⟨hq1, hq2, hq3⟩ := hq) | ((show VCall _ _ _ 62 [_, .slice (some ⟨_, 0, none⟩) _ _] _); refine VCall.fullS [0] (by simp) (fun _ => rfl) (fun w1 m1 m2 => amongI_v l A c _ _ _ _ _ _ _ (hA.lend m1 [0]) hl (by omega) (by omega) (OldSeen.any m1 [0] (by repeat (first | exact At.here | apply At.there)) (by simp)) rfl (by omega) (by omega) (by rfl) m2) (fun (q, a, s) hq => ?_); obtain ⟨hq3, hq4⟩ := hq) | ((show VCall _ _ _ 45 _ _); refine VCall.test _ (fun w1 m1 => hG w1 seenA seenA) ?_) | ((show VCall _ _ _ 56 _ _); refine VCall.fullS [0] (by simp) (fun _ => rfl) (fun w1 m1 m2 => command_v l A c _ _ _ d A1 A2 c1 c2 (by omega) (by omega) n3 (OldSeen.anyRow m1 [0] fndA (by simp)) (hA.lend m1 [0]) hl (by omega) (by omega) m2) (fun (x, a, s) hq => ?_); obtain ⟨hx, hq3, hq4⟩ := hq) | ((show VCall _ _ _ 38 _ _); refine VCall.ret (fun w1 m1 => sExec_v A1 A2 c1 c2 d x w1 hs (by omega) seenA seenA (m1.plain fndA) (m1.plain fndA)) (fun i _ => ?_); obtain ⟨⟨A9, c9⟩, B9, e9⟩ := i) | ((show VCall _ _ _ 98 _ _); refine VCall.fullS [0] (by simp) (fun _ => rfl) (fun w1 m1 m2 => anyLog_v l A c _ _ _ (hA.lend m1 [0]) hl (by omega) (by omega) m2) (fun (dd, pp, cc, a, s) hq => ?_); obtain ⟨e1, e2, e3, e4, e5⟩ := hq) | ((show VDraw _ _ _ _ _ _); refine VDraw.mk (.take 1 (.br 0 (.br 2 (.br 3 (.br 4 (.take 5 (.take 6 (.take 7 (.br 8 .done .done)))) .done) .done) .done) (.br 2 (.br 0 (.br 3 (.br 4 (.take 5 (.take 6 (.take 7 (.br 8 .done .done)))) .done) .done) (.br 3 (.br 0 (.br 4 (.take 5 (.take 6 (.take 7 (.br 8 .done .done)))) .done) .done) .done)) .done))) [] (by kernel_rfl) (by kernel_rfl) ?_))))
  all_goals (conv => whnf)
  all_goals first
    | (refine VNext.mk (k - 1, (d.exec x).1, ((A9, c9), B9, e9), a, s) ⟨by show 0 ≤ k - 1; omega, by show k - 1 ≤ 5; omega, Co.exec_near p3 x, by show at_ ≤ a; omega, by show a + 100 * (k - 1) ≤ at_ + 3500; omega⟩ (by show (k - 1).toNat < k.toNat; omega) ?_ (OwnLe.mk [0, 1, 2, 5, 6] (by simp) rfl); (((conv => whnf); repeat (first | exact trivial | refine ⟨rfl, ?_⟩ | refine ⟨congrArg (Value.int .i64) (by first | omega | assumption | exact Eq.symm (by assumption)), ?_⟩))); done)
    | (refine VRet.mk fun w' m => ⟨(⟨d.lock, d.n, d.ba, d.m, d.wa, ⟨tx dd, tx pp, cc⟩⟩, ((A1, c1), A2, c2), a, s), ⟨⟨n1, n2, n3, ?_, ?_⟩, ?_, ?_⟩, rfl, m.sel (ks := [0, 3, 4]) (by simp)⟩; (show (tx dd).size ≤ 30000; rw [tx_size]; replace e1 : dd.length + pp.length ≤ 5000 := e1; omega); (show (tx pp).size ≤ 30000; rw [tx_size]; replace e1 : dd.length + pp.length ≤ 5000 := e1; omega); (show at_ ≤ a; omega); (show a ≤ at_ + 5000; omega))
    | exact VRet.mk fun w' m => ⟨(d, ((A1, c1), A2, c2), a, s), ⟨p3, by show at_ ≤ a; omega, by show a ≤ at_ + 5000; omega⟩, rfl, m.sel (ks := [0, 3, 4]) (by simp)⟩
end Go.Proofs.YtadjhkehfklmnaaGreatDoor
namespace Go.Proofs.YtadjhkehfklmnaaGreatDoor
set_option linter.unusedSimpArgs false
set_option linter.unusedVariables false
open Go.RowKit
set_option maxRecDepth 10000
set_option maxHeartbeats 16000000 in
theorem drawExec_v (l : List UInt8) (A : Option Addr) (c : Nat) (w : World) (hl : l.length ≤ 1048576) (hA0 : Seen w A (YS l)) :
    Calls Tryz.prog 37 #[.slice A l.length c] w fun e w' => ∃ v, e = .returned v ∧ RetV (ι := Co × Sl2 × List UInt8) (fun (d, i, x) => d.near ∧ x.length ≤ 200) (fun (d, i, x) => .tuple #[d.cv i, .string (tx x)]) (fun (d, i, x) => d.cn i) (Base.of w) v w' := by
  have hA := OldSeen.old hA0
  refine calls_of_vc tb_ok (args := [.slice A l.length c]) Tryz.func37 rfl ?_
  (repeat' ((conv => whnf); first | refine go ?_ | (refine VSome.mk ?_; intro gQ hA'; first | subst hA' | cases hA' | (dsimp only at hA'; subst hA')) | refine And.intro ?_ ?_ | intro _))
  (conv => whnf)
  rename_i g2 gc
  (repeat' ((conv => whnf); first | refine go ?_ | (refine VSome.mk ?_; intro gQ hA'; first | subst hA' | cases hA' | (dsimp only at hA'; subst hA')) | refine And.intro ?_ ?_ | intro _ | (first | ((show VCall _ _ _ 55 _ _); refine VCall.fullS [1] (by simp) (fun _ => rfl) (fun w1 m1 m2 => console_v l A c _ _ _ (hA.lend m1 [1]) hl (by omega) (by omega) m2) (fun (d, i, a, s) hq => ?_); obtain ⟨⟨A1, c1⟩, A2, c2⟩ := i; obtain ⟨hd, hq3, hq4⟩ := hq))))
  (conv => whnf)
  rename_i g5
  replace hd : d.near := hd
  obtain ⟨n1, n2, n3, n4, n5⟩ := id hd
  (repeat' ((conv => whnf); first | refine go ?_ | (refine VSome.mk ?_; intro gQ hA'; first | subst hA' | cases hA' | (dsimp only at hA'; subst hA')) | refine And.intro ?_ ?_ | intro _ | (first | ((show VCall _ _ _ 57 [_, .int .i64 2] _); have mk3 : True := trivial; refine VCall.fullS [1] (by simp) (fun _ => rfl) (fun w1 m1 m2 => pick_v l A c _ _ _ _ (hA.lend m1 [1]) hl (by omega) (by omega) m2) (fun (q, a, s) hq => ?_); obtain ⟨hq1, hq2, hq3, hq4⟩ := hq) | ((show VCall _ _ _ 58 [_, .int .i64 40] _); refine VCall.fullS [1] (by simp) (fun _ => rfl) (fun w1 m1 m2 => one_v l A c _ _ _ _ (hA.lend m1 [1]) hl (by omega) (by omega) m2) (fun (q, a, s) hq => ?_); obtain ⟨hq1, hq2⟩ := hq))))
  all_goals (conv => whnf)
  · rename_i b9 g6 xx
    refine VLoop.mk (ι := Int × List UInt8 × Int) [7, 20, 21, 22, 23, 24, 25, 26, 27, 28, 29] (fun (n, p, c1) => [(7, .int .i64 n)]) (fun (n, p, cc) => [.blk g2 39 (Co.zero.at none 0 none 0), .blk gc 89 (cuC A l.length c a s), .row (.slice A1 d.n c1) 96 3 d.n (BaS d.n d.ba), .row (.slice A2 d.m c2) 98 4 d.m (AwS d.m d.wa), .blk g5 39 (d.at A1 c1 A2 c2), .blk g6 37 [.string (tx []), .string (tx p), .int .i64 cc]]) (fun (n, p, c1) => 0 ≤ n ∧ n ≤ 60 ∧ (p.length : Int) + 372 * n ≤ 22320 ∧ 0 ≤ c1 ∧ c1 + n ≤ 60) (fun i => i.1.toNat) (59 + q, [], 0) ⟨by omega, by omega, by show (0 : Int) + 372 * (59 + q) ≤ 22320; omega, Int.le_refl _, by omega⟩ ?_ (OwnLe.mk [0, 1, 2, 3, 4, 5] (by simp) rfl) (fun i u hi => ?_)
    · ((conv => whnf); repeat (first | exact trivial | refine ⟨rfl, ?_⟩ | refine ⟨congrArg (Value.int .i64) (by first | omega | assumption | exact Eq.symm (by assumption)), ?_⟩))
    obtain ⟨n, p, cc⟩ := i
    obtain ⟨h1', h2', h3', h4', h5'⟩ := hi
    by_cases hn : 0 < n
    · have hApp : ∀ w, Calls Tryz.prog 64 #[.agg #[.string (tx []), .string (tx p), .int .i64 cc], .agg #[.string ⟨#[120]⟩, .string ByteArray.empty]] w (Post (.tuple #[.agg #[.string (tx []), .string (tx (apV [] p cc [120] []).1), .int .i64 (apV [] p cc [120] []).2.1], .int .i64 (apV [] p cc [120] []).2.2]) w) := fun w => sApp_v [] p cc [120] [] w (by decide) (by omega) (by decide) (by decide)
      have ha1 := apV_le [] p cc [120] []
      have hb1 := ha1.2 h4'
      (repeat' ((conv => whnf); first | refine go ?_ | (refine VSome.mk ?_; intro gQ hA'; first | subst hA' | cases hA' | (dsimp only at hA'; subst hA')) | refine And.intro ?_ ?_ | intro _ | (first | ((show VCall _ _ _ 64 _ _); refine VCall.grow _ (fun w1 _ => hApp w1) ?_))))
      (conv => whnf)
      refine VNext.mk (n - 1, (apV [] p cc [120] []).1, (apV [] p cc [120] []).2.1) ⟨by show 0 ≤ n - 1; omega, by show n - 1 ≤ 60; omega, by show ((apV [] p cc [120] []).1.length : Int) + 372 * (n - 1) ≤ 22320; omega, by show 0 ≤ (apV [] p cc [120] []).2.1; omega, by show (apV [] p cc [120] []).2.1 + (n - 1) ≤ 60; omega⟩ (by show (n - 1).toNat < n.toNat; omega) ?_ (OwnLe.mk [0, 1, 2, 3, 4, 5] (by simp) rfl)
      ((conv => whnf); repeat (first | exact trivial | refine ⟨rfl, ?_⟩ | refine ⟨congrArg (Value.int .i64) (by first | omega | assumption | exact Eq.symm (by assumption)), ?_⟩))
    · skip
      (repeat' ((conv => whnf); first | refine go ?_ | (refine VSome.mk ?_; intro gQ hA'; first | subst hA' | cases hA' | (dsimp only at hA'; subst hA')) | refine And.intro ?_ ?_ | intro _ | (first | ((show VCall _ _ _ 56 _ _); refine VCall.fullS [1] (by simp) (fun _ => rfl) (fun w1 m1 m2 => command_v l A c _ _ _ (⟨d.lock, d.n, d.ba, d.m, d.wa, ⟨tx [], tx p, cc⟩⟩ : Co) A1 A2 c1 c2 (by show d.n ≤ 1000; omega) (by show d.m ≤ 1000; omega) n3 (OldSeen.anyRow m1 [1] fndA (by simp)) (hA.lend m1 [1]) hl (by omega) (by omega) m2) (fun (y, a, s) hq => ?_); obtain ⟨hy, hq3, hq4⟩ := hq) | ((show VCall _ _ _ 84 _ _); refine VCall.fullS [1] (by simp) (fun _ => rfl) (fun w1 m1 m2 => spoilt_v l A c _ _ _ (tx y) _ (by rw [tx_size]; omega) (by decide) (by decide) (hA.lend m1 [1]) hl (by omega) (by omega) m2) (fun (z, a, s) hq => ?_); obtain ⟨hz, hq3, hq4⟩ := hq) | ((show VCall _ _ _ 57 [_, _] _); refine VCall.fullS [1] (by simp) (fun _ => rfl) (fun w1 m1 m2 => pick_v l A c _ _ _ _ (hA.lend m1 [1]) hl (by omega) (by omega) m2) (fun (q, a, s) hq => ?_); obtain ⟨hq1, hq2, hq3, hq4⟩ := hq) | ((show VCall _ _ _ 58 [_, _] _); refine VCall.fullS [1] (by simp) (fun _ => rfl) (fun w1 m1 m2 => one_v l A c _ _ _ _ (hA.lend m1 [1]) hl (by omega) (by omega) m2) (fun (q, a, s) hq => ?_); obtain ⟨hq1, hq2⟩ := hq) | ((show VCall _ _ _ 62 [_, .slice (some ⟨_, 0, none⟩) _ _] _); refine VCall.fullS [1] (by simp) (fun _ => rfl) (fun w1 m1 m2 => amongT_v l A c _ _ _ _ _ _ _ (hA.lend m1 [1]) hl (by omega) (by omega) (OldSeen.any m1 [1] (by repeat (first | exact At.here | apply At.there)) (by simp)) (by simp only [List.length_cons, List.length_nil]; omega) (by omega) (by omega) 200000 (by first | rfl | exact okIntB_cons ⟨by omega, by omega⟩ (okIntB_cons ⟨by omega, by omega⟩ (okIntB_cons ⟨by omega, by omega⟩ rfl))) m2) (fun (q, a, s) hq => ?_); obtain ⟨⟨hq1, hq2⟩, hq3, hq4⟩ := hq) | ((show VCall _ _ _ 99 [_, .slice (some ⟨_, 0, none⟩) _ _] _); refine VCall.fullS [1] (by simp) (fun _ => rfl) (fun w1 m1 m2 => of_v l A c _ _ _ _ _ _ 30 _ (hA.lend m1 [1]) hl (by omega) (by omega) (OldSeen.any m1 [1] (by repeat (first | exact At.here | apply At.there)) (by simp)) (by rfl) (by omega) (by omega) (by rfl) m2) (fun (q, a, s) hq => ?_); obtain ⟨hq1, hq2, hq3⟩ := hq) | ((show VCall _ _ _ 62 [_, .slice (some ⟨_, 0, none⟩) _ _] _); refine VCall.fullS [1] (by simp) (fun _ => rfl) (fun w1 m1 m2 => amongI_v l A c _ _ _ _ _ _ _ (hA.lend m1 [1]) hl (by omega) (by omega) (OldSeen.any m1 [1] (by repeat (first | exact At.here | apply At.there)) (by simp)) rfl (by omega) (by omega) (by rfl) m2) (fun (q, a, s) hq => ?_); obtain ⟨hq3, hq4⟩ := hq))))
      all_goals (conv => whnf)
      all_goals first
        | (refine VRet.sel ((⟨d.lock, d.n, d.ba, d.m, d.wa, ⟨tx [], tx p, cc⟩⟩ : Co), ((A1, c1), A2, c2), z.data.toList) ?_ (by show _ = Value.tuple #[_, .string (tx z.data.toList)]; rw [tx_of]; rfl) [2, 3] (by simp) rfl; refine ⟨⟨n1, n2, n3, Nat.zero_le _, by show (tx p).size ≤ 30000; rw [tx_size]; omega⟩, ?_⟩; show z.data.toList.length ≤ 200; replace hz : z.size ≤ (tx y).size + 1 := hz; rw [tx_size] at hz; rw [← tx_size, tx_of]; omega)
        | (refine VRet.sel ((⟨d.lock, d.n, d.ba, d.m, d.wa, ⟨tx [], tx p, cc⟩⟩ : Co), ((A1, c1), A2, c2), y) ?_ rfl [2, 3] (by simp) rfl; refine ⟨⟨n1, n2, n3, Nat.zero_le _, by show (tx p).size ≤ 30000; rw [tx_size]; omega⟩, ?_⟩; show y.length ≤ 200; omega)
  · skip
    (repeat' ((conv => whnf); first | refine go ?_ | (refine VSome.mk ?_; intro gQ hA'; first | subst hA' | cases hA' | (dsimp only at hA'; subst hA')) | refine And.intro ?_ ?_ | intro _ | (first | ((show VCall _ _ _ 56 _ _); refine VCall.fullS [1] (by simp) (fun _ => rfl) (fun w1 m1 m2 => command_v l A c _ _ _ d A1 A2 c1 c2 (by show d.n ≤ 1000; omega) (by show d.m ≤ 1000; omega) n3 (OldSeen.anyRow m1 [1] fndA (by simp)) (hA.lend m1 [1]) hl (by omega) (by omega) m2) (fun (y, a, s) hq => ?_); obtain ⟨hy, hq3, hq4⟩ := hq) | ((show VCall _ _ _ 84 _ _); refine VCall.fullS [1] (by simp) (fun _ => rfl) (fun w1 m1 m2 => spoilt_v l A c _ _ _ (tx y) _ (by rw [tx_size]; omega) (by decide) (by decide) (hA.lend m1 [1]) hl (by omega) (by omega) m2) (fun (z, a, s) hq => ?_); obtain ⟨hz, hq3, hq4⟩ := hq) | ((show VCall _ _ _ 57 [_, _] _); refine VCall.fullS [1] (by simp) (fun _ => rfl) (fun w1 m1 m2 => pick_v l A c _ _ _ _ (hA.lend m1 [1]) hl (by omega) (by omega) m2) (fun (q, a, s) hq => ?_); obtain ⟨hq1, hq2, hq3, hq4⟩ := hq) | ((show VCall _ _ _ 58 [_, _] _); refine VCall.fullS [1] (by simp) (fun _ => rfl) (fun w1 m1 m2 => one_v l A c _ _ _ _ (hA.lend m1 [1]) hl (by omega) (by omega) m2) (fun (q, a, s) hq => ?_); obtain ⟨hq1, hq2⟩ := hq) | ((show VCall _ _ _ 62 [_, .slice (some ⟨_, 0, none⟩) _ _] _); refine VCall.fullS [1] (by simp) (fun _ => rfl) (fun w1 m1 m2 => amongT_v l A c _ _ _ _ _ _ _ (hA.lend m1 [1]) hl (by omega) (by omega) (OldSeen.any m1 [1] (by repeat (first | exact At.here | apply At.there)) (by simp)) (by simp only [List.length_cons, List.length_nil]; omega) (by omega) (by omega) 200000 (by first | rfl | exact okIntB_cons ⟨by omega, by omega⟩ (okIntB_cons ⟨by omega, by omega⟩ (okIntB_cons ⟨by omega, by omega⟩ rfl))) m2) (fun (q, a, s) hq => ?_); obtain ⟨⟨hq1, hq2⟩, hq3, hq4⟩ := hq) | ((show VCall _ _ _ 99 [_, .slice (some ⟨_, 0, none⟩) _ _] _); refine VCall.fullS [1] (by simp) (fun _ => rfl) (fun w1 m1 m2 => of_v l A c _ _ _ _ _ _ 30 _ (hA.lend m1 [1]) hl (by omega) (by omega) (OldSeen.any m1 [1] (by repeat (first | exact At.here | apply At.there)) (by simp)) (by rfl) (by omega) (by omega) (by rfl) m2) (fun (q, a, s) hq => ?_); obtain ⟨hq1, hq2, hq3⟩ := hq) | ((show VCall _ _ _ 62 [_, .slice (some ⟨_, 0, none⟩) _ _] _); refine VCall.fullS [1] (by simp) (fun _ => rfl) (fun w1 m1 m2 => amongI_v l A c _ _ _ _ _ _ _ (hA.lend m1 [1]) hl (by omega) (by omega) (OldSeen.any m1 [1] (by repeat (first | exact At.here | apply At.there)) (by simp)) rfl (by omega) (by omega) (by rfl) m2) (fun (q, a, s) hq => ?_); obtain ⟨hq3, hq4⟩ := hq))))
    all_goals (conv => whnf)
    all_goals first
      | (refine VRet.sel (d, ((A1, c1), A2, c2), z.data.toList) ?_ (by show _ = Value.tuple #[_, .string (tx z.data.toList)]; rw [tx_of]; rfl) [2, 3] (by simp) rfl; refine ⟨hd, ?_⟩; show z.data.toList.length ≤ 200; replace hz : z.size ≤ (tx y).size + 1 := hz; rw [tx_size] at hz; rw [← tx_size, tx_of]; omega)
      | (refine VRet.sel (d, ((A1, c1), A2, c2), y) ?_ rfl [2, 3] (by simp) rfl; refine ⟨hd, ?_⟩; show y.length ≤ 200; omega)
set_option maxHeartbeats 16000000 in
theorem drawScript_v (l : List UInt8) (A : Option Addr) (c : Nat) (w : World) (hl : l.length ≤ 1048576) (hA0 : Seen w A (YS l)) :
    Calls Tryz.prog 19 #[.slice A l.length c] w fun e w' => ∃ v, e = .returned v ∧ RetV (ι := Co × Sl2 × List UInt8) (fun (d, i, x) => d.near ∧ x.length ≤ 3000) (fun (d, i, x) => .tuple #[d.cv i, .string (tx x)]) (fun (d, i, x) => d.cn i) (Base.of w) v w' := by
  have hA := OldSeen.old hA0
  refine calls_of_vc tb_ok (args := [.slice A l.length c]) Tryz.func19 rfl ?_
  (repeat' ((conv => whnf); first | refine go ?_ | (refine VSome.mk ?_; intro gQ hA'; first | subst hA' | cases hA' | (dsimp only at hA'; subst hA')) | refine And.intro ?_ ?_ | intro _))
  (conv => whnf)
  rename_i g2 gc
  (repeat' ((conv => whnf); first | refine go ?_ | (refine VSome.mk ?_; intro gQ hA'; first | subst hA' | cases hA' | (dsimp only at hA'; subst hA')) | refine And.intro ?_ ?_ | intro _ | (first | ((show VCall _ _ _ 55 _ _); refine VCall.fullS [1] (by simp) (fun _ => rfl) (fun w1 m1 m2 => console_v l A c _ _ _ (hA.lend m1 [1]) hl (by omega) (by omega) m2) (fun (d, i, a, s) hq => ?_); obtain ⟨⟨A1, c1⟩, A2, c2⟩ := i; obtain ⟨hd, hq3, hq4⟩ := hq))))
  (conv => whnf)
  rename_i g5
  replace hd : d.near := hd
  obtain ⟨n1, n2, n3, n4, n5⟩ := id hd
  (repeat' ((conv => whnf); first | refine go ?_ | (refine VSome.mk ?_; intro gQ hA'; first | subst hA' | cases hA' | (dsimp only at hA'; subst hA')) | refine And.intro ?_ ?_ | intro _ | (first | ((show VCall _ _ _ 56 _ _); refine VCall.fullS [1] (by simp) (fun _ => rfl) (fun w1 m1 m2 => command_v l A c _ _ _ d A1 A2 c1 c2 (by show d.n ≤ 1000; omega) (by show d.m ≤ 1000; omega) n3 (OldSeen.anyRow m1 [1] fndA (by simp)) (hA.lend m1 [1]) hl (by omega) (by omega) m2) (fun (y, a, s) hq => ?_); obtain ⟨hy, hq3, hq4⟩ := hq) | ((show VCall _ _ _ 57 [_, _] _); refine VCall.fullS [1] (by simp) (fun _ => rfl) (fun w1 m1 m2 => pick_v l A c _ _ _ _ (hA.lend m1 [1]) hl (by omega) (by omega) m2) (fun (q, a, s) hq => ?_); obtain ⟨hq1, hq2, hq3, hq4⟩ := hq) | ((show VCall _ _ _ 58 [_, _] _); refine VCall.fullS [1] (by simp) (fun _ => rfl) (fun w1 m1 m2 => one_v l A c _ _ _ _ (hA.lend m1 [1]) hl (by omega) (by omega) m2) (fun (q, a, s) hq => ?_); obtain ⟨hq1, hq2⟩ := hq) | ((show VCall _ _ _ 62 [_, .slice (some ⟨_, 0, none⟩) _ _] _); refine VCall.fullS [1] (by simp) (fun _ => rfl) (fun w1 m1 m2 => amongT_v l A c _ _ _ _ _ _ _ (hA.lend m1 [1]) hl (by omega) (by omega) (OldSeen.any m1 [1] (by repeat (first | exact At.here | apply At.there)) (by simp)) (by simp only [List.length_cons, List.length_nil]; omega) (by omega) (by omega) 200000 (by first | rfl | exact okIntB_cons ⟨by omega, by omega⟩ (okIntB_cons ⟨by omega, by omega⟩ (okIntB_cons ⟨by omega, by omega⟩ rfl))) m2) (fun (q, a, s) hq => ?_); obtain ⟨⟨hq1, hq2⟩, hq3, hq4⟩ := hq) | ((show VCall _ _ _ 99 [_, .slice (some ⟨_, 0, none⟩) _ _] _); refine VCall.fullS [1] (by simp) (fun _ => rfl) (fun w1 m1 m2 => of_v l A c _ _ _ _ _ _ 30 _ (hA.lend m1 [1]) hl (by omega) (by omega) (OldSeen.any m1 [1] (by repeat (first | exact At.here | apply At.there)) (by simp)) (by rfl) (by omega) (by omega) (by rfl) m2) (fun (q, a, s) hq => ?_); obtain ⟨hq1, hq2, hq3⟩ := hq) | ((show VCall _ _ _ 62 [_, .slice (some ⟨_, 0, none⟩) _ _] _); refine VCall.fullS [1] (by simp) (fun _ => rfl) (fun w1 m1 m2 => amongI_v l A c _ _ _ _ _ _ _ (hA.lend m1 [1]) hl (by omega) (by omega) (OldSeen.any m1 [1] (by repeat (first | exact At.here | apply At.there)) (by simp)) rfl (by omega) (by omega) (by rfl) m2) (fun (q, a, s) hq => ?_); obtain ⟨hq3, hq4⟩ := hq))))
  (conv => whnf)
  replace hy : y.length ≤ 100 := hy
  refine VLoop.mk (ι := Int × List UInt8 × Int × Int) [6, 7, 19, 20, 21, 22, 23, 24, 25, 26, 27, 28] (fun (k, x, a, s) => [(7, .int .i64 k), (6, .string (tx x))]) (fun (k, x, a, s) => [.blk g2 39 (Co.zero.at none 0 none 0), .blk gc 89 (cuC A l.length c a s), .row (.slice A1 d.n c1) 96 3 d.n (BaS d.n d.ba), .row (.slice A2 d.m c2) 98 4 d.m (AwS d.m d.wa), .blk g5 39 (d.at A1 c1 A2 c2)]) (fun (k, x, a, s) => 0 ≤ k ∧ k ≤ 5 ∧ (x.length : Int) + 101 * k ≤ 700 ∧ 0 ≤ a ∧ a + 70 * k ≤ 6000) (fun i => i.1.toNat) (q, y, a, s) ⟨by omega, by omega, by show (y.length : Int) + 101 * q ≤ 700; omega, by omega, by omega⟩ ?_ (OwnLe.mk [0, 1, 2, 3, 4] (by simp) rfl) (fun i u hi => ?_)
  · ((conv => whnf); repeat (first | exact trivial | refine ⟨rfl, ?_⟩ | refine ⟨congrArg (Value.int .i64) (by first | omega | assumption | exact Eq.symm (by assumption)), ?_⟩))
  clear hq1 hq2 hq3 hq4 hy
  obtain ⟨k, x, a, s⟩ := i
  obtain ⟨p1, p2, p3, p4, p5⟩ := hi
  by_cases hk : 0 < k
  · (repeat' ((conv => whnf); first | refine go ?_ | (refine VSome.mk ?_; intro gQ hA'; first | subst hA' | cases hA' | (dsimp only at hA'; subst hA')) | refine And.intro ?_ ?_ | intro _ | (first | ((show VCall _ _ _ 56 _ _); refine VCall.fullS [1] (by simp) (fun _ => rfl) (fun w1 m1 m2 => command_v l A c _ _ _ d A1 A2 c1 c2 (by show d.n ≤ 1000; omega) (by show d.m ≤ 1000; omega) n3 (OldSeen.anyRow m1 [1] fndA (by simp)) (hA.lend m1 [1]) hl (by omega) (by omega) m2) (fun (y, a, s) hq => ?_); obtain ⟨hy, hq3, hq4⟩ := hq) | ((show VCat _ _ _); refine VCat.of (by first | omega | (simp only [List.length_append, List.length_cons, List.length_nil]; omega)) ?_))))
    (conv => whnf)
    replace hy : y.length ≤ 100 := hy
    refine VNext.mk (k - 1, x ++ [10] ++ y, a, s) ⟨by show 0 ≤ k - 1; omega, by show k - 1 ≤ 5; omega, by show ((x ++ [10] ++ y).length : Int) + 101 * (k - 1) ≤ 700; simp only [List.length_append, List.length_cons, List.length_nil]; omega, by show 0 ≤ a; omega, by show a + 70 * (k - 1) ≤ 6000; omega⟩ (by show (k - 1).toNat < k.toNat; omega) ?_ (OwnLe.mk [0, 1, 2, 3, 4] (by simp) rfl)
    ((conv => whnf); repeat (first | exact trivial | refine ⟨rfl, ?_⟩ | refine ⟨congrArg (Value.int .i64) (by first | omega | assumption | exact Eq.symm (by assumption)), ?_⟩))
  · (repeat' ((conv => whnf); first | refine go ?_ | (refine VSome.mk ?_; intro gQ hA'; first | subst hA' | cases hA' | (dsimp only at hA'; subst hA')) | refine And.intro ?_ ?_ | intro _ | (first | ((show VCall _ _ _ 57 [_, _] _); refine VCall.fullS [1] (by simp) (fun _ => rfl) (fun w1 m1 m2 => pick_v l A c _ _ _ _ (hA.lend m1 [1]) hl (by omega) (by omega) m2) (fun (q, a, s) hq => ?_); obtain ⟨hq1, hq2, hq3, hq4⟩ := hq) | ((show VCall _ _ _ 58 [_, _] _); refine VCall.fullS [1] (by simp) (fun _ => rfl) (fun w1 m1 m2 => one_v l A c _ _ _ _ (hA.lend m1 [1]) hl (by omega) (by omega) m2) (fun (q, a, s) hq => ?_); obtain ⟨hq1, hq2⟩ := hq) | ((show VCall _ _ _ 62 [_, .slice (some ⟨_, 0, none⟩) _ _] _); refine VCall.fullS [1] (by simp) (fun _ => rfl) (fun w1 m1 m2 => amongT_v l A c _ _ _ _ _ _ _ (hA.lend m1 [1]) hl (by omega) (by omega) (OldSeen.any m1 [1] (by repeat (first | exact At.here | apply At.there)) (by simp)) (by simp only [List.length_cons, List.length_nil]; omega) (by omega) (by omega) 200000 (by first | rfl | exact okIntB_cons ⟨by omega, by omega⟩ (okIntB_cons ⟨by omega, by omega⟩ (okIntB_cons ⟨by omega, by omega⟩ rfl))) m2) (fun (q, a, s) hq => ?_); obtain ⟨⟨hq1, hq2⟩, hq3, hq4⟩ := hq) | ((show VCall _ _ _ 99 [_, .slice (some ⟨_, 0, none⟩) _ _] _); refine VCall.fullS [1] (by simp) (fun _ => rfl) (fun w1 m1 m2 => of_v l A c _ _ _ _ _ _ 30 _ (hA.lend m1 [1]) hl (by omega) (by omega) (OldSeen.any m1 [1] (by repeat (first | exact At.here | apply At.there)) (by simp)) (by rfl) (by omega) (by omega) (by rfl) m2) (fun (q, a, s) hq => ?_); obtain ⟨hq1, hq2, hq3⟩ := hq) | ((show VCall _ _ _ 62 [_, .slice (some ⟨_, 0, none⟩) _ _] _); refine VCall.fullS [1] (by simp) (fun _ => rfl) (fun w1 m1 m2 => amongI_v l A c _ _ _ _ _ _ _ (hA.lend m1 [1]) hl (by omega) (by omega) (OldSeen.any m1 [1] (by repeat (first | exact At.here | apply At.there)) (by simp)) rfl (by omega) (by omega) (by rfl) m2) (fun (q, a, s) hq => ?_); obtain ⟨hq3, hq4⟩ := hq))))
    all_goals (conv => whnf)
    · refine VLoop.mk (ι := Int × List UInt8) [6, 8, 34, 35, 36, 37, 38, 39] (fun (k, x) => [(8, .int .i64 k), (6, .string (tx x))]) (fun (k, x) => [.blk g2 39 (Co.zero.at none 0 none 0), .blk gc 89 (cuC A l.length c a s), .row (.slice A1 d.n c1) 96 3 d.n (BaS d.n d.ba), .row (.slice A2 d.m c2) 98 4 d.m (AwS d.m d.wa), .blk g5 39 (d.at A1 c1 A2 c2)]) (fun (k, x) => 0 ≤ k ∧ (x.length : Int) + k ≤ 31) (fun i => i.1.toNat) (29 + q, []) ⟨by omega, by show ((0 : Nat) : Int) + (29 + q) ≤ 31; omega⟩ ?_ (OwnLe.mk [0, 1, 2, 3, 4] (by simp) rfl) (fun i u hi => ?_)
      · ((conv => whnf); repeat (first | exact trivial | refine ⟨rfl, ?_⟩ | refine ⟨congrArg (Value.int .i64) (by first | omega | assumption | exact Eq.symm (by assumption)), ?_⟩))
      obtain ⟨k, x⟩ := i
      obtain ⟨r1, r2⟩ := hi
      by_cases hk : 0 < k
      · (repeat' ((conv => whnf); first | refine go ?_ | (refine VSome.mk ?_; intro gQ hA'; first | subst hA' | cases hA' | (dsimp only at hA'; subst hA')) | refine And.intro ?_ ?_ | intro _ | (first | ((show VCat _ _ _); refine VCat.of (by first | omega | (simp only [List.length_append, List.length_cons, List.length_nil]; omega)) ?_))))
        (conv => whnf)
        refine VNext.mk (k - 1, x ++ [10]) ⟨by show 0 ≤ k - 1; omega, by show ((x ++ [10]).length : Int) + (k - 1) ≤ 31; simp only [List.length_append, List.length_cons, List.length_nil]; omega⟩ (by show (k - 1).toNat < k.toNat; omega) ?_ (OwnLe.mk [0, 1, 2, 3, 4] (by simp) rfl)
        ((conv => whnf); repeat (first | exact trivial | refine ⟨rfl, ?_⟩ | refine ⟨congrArg (Value.int .i64) (by first | omega | assumption | exact Eq.symm (by assumption)), ?_⟩))
      · (repeat' ((conv => whnf); first | refine go ?_ | (refine VSome.mk ?_; intro gQ hA'; first | subst hA' | cases hA' | (dsimp only at hA'; subst hA')) | refine And.intro ?_ ?_ | intro _))
        (conv => whnf)
        refine VRet.sel (d, ((A1, c1), A2, c2), x) ?_ rfl [2, 3] (by simp) rfl
        exact ⟨hd, by show x.length ≤ 3000; omega⟩
    · refine VRet.sel (d, ((A1, c1), A2, c2), x) ?_ rfl [2, 3] (by simp) rfl
      exact ⟨hd, by show x.length ≤ 3000; omega⟩
set_option maxHeartbeats 16000000 in
theorem drawReplay_v (l : List UInt8) (A : Option Addr) (c : Nat) (w : World) (hl : l.length ≤ 1048576) (hA0 : Seen w A (YS l)) :
    Calls Tryz.prog 23 #[.slice A l.length c] w fun e w' => ∃ v, e = .returned v ∧ RetV (ι := Int × Int × Nat × (Nat → Ba) × (Option Addr × Nat) × Lg) (fun (x, y, n, f, i, g) => n ≤ 16 ∧ g.durable.size ≤ 40000 ∧ g.pending.size ≤ 40000) (fun (x, y, n, f, i, g) => .tuple #[.int .i64 x, .int .i64 y, .slice i.1 n i.2, .agg g.cells.toArray]) (fun (x, y, n, f, i, g) => [.row (.slice i.1 n i.2) 96 3 n (BaS n f)]) (Base.of w) v w' := by
  have hA := OldSeen.old hA0
  refine calls_of_vc tb_ok (args := [.slice A l.length c]) Tryz.func23 rfl ?_
  (repeat' ((conv => whnf); first | refine go ?_ | (refine VSome.mk ?_; intro gQ hA'; first | subst hA' | cases hA' | (dsimp only at hA'; subst hA')) | refine And.intro ?_ ?_ | intro _))
  (conv => whnf)
  rename_i g5 gc g9
  (repeat' ((conv => whnf); first | refine go ?_ | (refine VSome.mk ?_; intro gQ hA'; first | subst hA' | cases hA' | (dsimp only at hA'; subst hA')) | refine And.intro ?_ ?_ | intro _ | (first | ((show VCall _ _ _ 62 [_, .slice (some ⟨_, 0, none⟩) 3 _] _); refine VCall.fullS [1] (by simp) (fun _ => rfl) (fun w1 m1 m2 => amongT_v l A c _ _ _ _ _ _ _ (hA.lend m1 [1]) hl (by omega) (by omega) (OldSeen.any m1 [1] (by repeat (first | exact At.here | apply At.there)) (by simp)) (by simp only [List.length_cons, List.length_nil]; omega) (by omega) (by omega) 200000 (by rfl) m2) (fun (lo, a, s) hq => ?_); obtain ⟨⟨lo1, lo2⟩, lo3, lo4⟩ := hq) | ((show VCall _ _ _ 62 [_, .slice (some ⟨_, 0, none⟩) 4 _] _); refine VCall.fullS [1] (by simp) (fun _ => rfl) (fun w1 m1 m2 => amongT_v l A c _ _ _ _ _ _ _ (hA.lend m1 [1]) hl (by omega) (by omega) (OldSeen.any m1 [1] (by repeat (first | exact At.here | apply At.there)) (by simp)) (by simp only [List.length_cons, List.length_nil]; omega) (by omega) (by omega) 200000 (by rfl) m2) (fun (mo, a, s) hq => ?_); obtain ⟨⟨mo1, mo2⟩, mo3, mo4⟩ := hq) | ((show VCall _ _ _ 63 _ _); refine VCall.fullS [1] (by simp) (fun _ => rfl) (fun w1 m1 m2 => basins_v l A c _ _ _ (hA.lend m1 [1]) hl (by omega) (by omega) m2) (fun (n, f, i, a, s) hq => ?_); obtain ⟨B0, e0⟩ := i; obtain ⟨hn, hq5, hq6⟩ := hq))))
  (conv => whnf)
  replace hn : n ≤ 16 := hn
  have hN := fun w hA hP => sNewConsole_v B0 n e0 f lo (lo + mo) w (by omega) hA hP
  by_cases h : okNew lo (lo + mo) n f
  · have hd0 : (coNew lo (lo + mo) n f).near := by rw [coNew_yes h]; exact ⟨hn, Nat.zero_le _, fun i hi => absurd hi (Nat.not_lt_zero i), Nat.zero_le _, Nat.zero_le _⟩
    rw [tr_yes h] at hN
    generalize coNew lo (lo + mo) n f = d0 at hN hd0
    (repeat' ((conv => whnf); first | refine go ?_ | (refine VSome.mk ?_; intro gQ hA'; first | subst hA' | cases hA' | (dsimp only at hA'; subst hA')) | refine And.intro ?_ ?_ | intro _ | (first | ((show VCall _ _ _ 27 _ _); refine VCall.ret (fun w1 m1 => hN w1 seenA (m1.plain fndA)) (fun i _ => ?_); obtain ⟨⟨A1, c1⟩, A2, c2⟩ := i) | ((show VCall _ _ _ 57 [_, _] _); refine VCall.fullS [1] (by simp) (fun _ => rfl) (fun w1 m1 m2 => pick_v l A c _ _ _ _ (hA.lend m1 [1]) hl (by omega) (by omega) m2) (fun (q, a, s) hq => ?_); obtain ⟨hq1, hq2, hq3, hq4⟩ := hq) | ((show VCall _ _ _ 58 [_, _] _); refine VCall.fullS [1] (by simp) (fun _ => rfl) (fun w1 m1 m2 => one_v l A c _ _ _ _ (hA.lend m1 [1]) hl (by omega) (by omega) m2) (fun (q, a, s) hq => ?_); obtain ⟨hq1, hq2⟩ := hq) | ((show VCall _ _ _ 62 [_, .slice (some ⟨_, 0, none⟩) _ _] _); refine VCall.fullS [1] (by simp) (fun _ => rfl) (fun w1 m1 m2 => amongT_v l A c _ _ _ _ _ _ _ (hA.lend m1 [1]) hl (by omega) (by omega) (OldSeen.any m1 [1] (by repeat (first | exact At.here | apply At.there)) (by simp)) (by simp only [List.length_cons, List.length_nil]; omega) (by omega) (by omega) 200000 (by first | rfl | exact okIntB_cons ⟨by omega, by omega⟩ (okIntB_cons ⟨by omega, by omega⟩ (okIntB_cons ⟨by omega, by omega⟩ rfl))) m2) (fun (q, a, s) hq => ?_); obtain ⟨⟨hq1, hq2⟩, hq3, hq4⟩ := hq) | ((show VCall _ _ _ 99 [_, .slice (some ⟨_, 0, none⟩) _ _] _); refine VCall.fullS [1] (by simp) (fun _ => rfl) (fun w1 m1 m2 => of_v l A c _ _ _ _ _ _ 30 _ (hA.lend m1 [1]) hl (by omega) (by omega) (OldSeen.any m1 [1] (by repeat (first | exact At.here | apply At.there)) (by simp)) (by rfl) (by omega) (by omega) (by rfl) m2) (fun (q, a, s) hq => ?_); obtain ⟨hq1, hq2, hq3⟩ := hq) | ((show VCall _ _ _ 62 [_, .slice (some ⟨_, 0, none⟩) _ _] _); refine VCall.fullS [1] (by simp) (fun _ => rfl) (fun w1 m1 m2 => amongI_v l A c _ _ _ _ _ _ _ (hA.lend m1 [1]) hl (by omega) (by omega) (OldSeen.any m1 [1] (by repeat (first | exact At.here | apply At.there)) (by simp)) rfl (by omega) (by omega) (by rfl) m2) (fun (q, a, s) hq => ?_); obtain ⟨hq3, hq4⟩ := hq))))
    (conv => whnf)
    rename_i g10 xx
    refine VLoop.mk (ι := Int × Co × Sl2 × Int × Int) [12, 42, 43, 44, 45, 46, 47, 48, 49, 50, 51, 52, 53] (fun (k, d, i, a, s) => [(12, .int .i64 k)]) (fun (k, d, ((A1, c1), A2, c2), a, s) => [.blk g5 37 [.string ByteArray.empty, .string ByteArray.empty, .int .i64 0], .blk gc 89 (cuC A l.length c a s), .row (.slice B0 n e0) 96 3 n (BaS n f), .blk g10 39 (d.at A1 c1 A2 c2), .row (.slice A1 d.n c1) 96 3 d.n (BaS d.n d.ba), .row (.slice A2 d.m c2) 98 4 d.m (AwS d.m d.wa)]) (fun (k, d, i, a, s) => 0 ≤ k ∧ k ≤ 8 ∧ d.near ∧ 0 ≤ a ∧ a + 100 * k ≤ 3000) (fun i => i.1.toNat) (q, d0, ((A1, c1), A2, c2), a, s) ⟨by omega, by omega, hd0, by omega, by omega⟩ ?_ (OwnLe.mk [0, 1, 4, 7, 5, 6] (by simp) rfl) (fun i u hi => ?_)
    · ((conv => whnf); repeat (first | exact trivial | refine ⟨rfl, ?_⟩ | refine ⟨congrArg (Value.int .i64) (by first | omega | assumption | exact Eq.symm (by assumption)), ?_⟩))
    clear hq1 hq2 hq3 hq4 hq5 hq6
    obtain ⟨k, d, ⟨⟨A1, c1⟩, A2, c2⟩, a, s⟩ := i
    obtain ⟨p1, p2, p3, p4, p5⟩ := hi
    replace p3 : d.near := p3
    have hs := p3.small
    obtain ⟨n1, n2, n3, n4, n5⟩ := id p3
    have hAp := fun x r w h1 h2 => sApp_v d.du d.pe d.log.count x r w (by rw [d.du_len]; omega) (by rw [d.pe_len]; omega) h1 h2
    have hAl := fun x r => (apV_le d.du d.pe d.log.count x r).1
    rw [d.du_tx, d.pe_tx] at hAp
    rw [d.pe_len] at hAl
    by_cases hk : 0 < k
    · (repeat' ((conv => whnf); first | refine go ?_ | (refine VSome.mk ?_; intro gQ hA'; first | subst hA' | cases hA' | (dsimp only at hA'; subst hA')) | refine And.intro ?_ ?_ | intro _ | (first | ((show VCall _ _ _ 56 _ _); refine VCall.fullS [1] (by simp) (fun _ => rfl) (fun w1 m1 m2 => command_v l A c _ _ _ d A1 A2 c1 c2 (by show d.n ≤ 1000; omega) (by show d.m ≤ 1000; omega) n3 (OldSeen.anyRow m1 [1] fndA (by simp)) (hA.lend m1 [1]) hl (by omega) (by omega) m2) (fun (y, a, s) hq => ?_); obtain ⟨hy, hq3, hq4⟩ := hq) | ((show VCall _ _ _ 38 _ _); refine VCall.ret (fun w1 m1 => sExec_v A1 A2 c1 c2 d y w1 hs (by omega) seenA seenA (m1.plain fndA) (m1.plain fndA)) (fun i _ => ?_); obtain ⟨⟨A9, c9⟩, B9, e9⟩ := i) | ((show VDraw _ _ _ #[{ dst := some 47, op := _, type := _, pos := _, after := _, guard := _ }, _, _, _, _, _, _, _, _] _ _); refine VDraw.mk (.take 1 (.br 0 (.br 2 (.br 3 (.br 4 (.take 5 (.take 6 (.take 7 (.br 8 .done .done)))) .done) .done) .done) (.br 2 (.br 0 (.br 3 (.br 4 (.take 5 (.take 6 (.take 7 (.br 8 .done .done)))) .done) .done) (.br 3 (.br 0 (.br 4 (.take 5 (.take 6 (.take 7 (.br 8 .done .done)))) .done) .done) .done)) .done))) [] (by kernel_rfl) (by kernel_rfl) ?_))))
      all_goals (conv => whnf)
      all_goals (refine VNext.mk (k - 1, (d.exec y).1, ((A9, c9), B9, e9), a, s) ⟨by show 0 ≤ k - 1; omega, by show k - 1 ≤ 8; omega, Co.exec_near p3 y, by show 0 ≤ a; omega, by show a + 100 * (k - 1) ≤ 3000; omega⟩ (by show (k - 1).toNat < k.toNat; omega) ?_ (OwnLe.mk [0, 1, 2, 3, 6, 7] (by simp) rfl); ((conv => whnf); repeat (first | exact trivial | refine ⟨rfl, ?_⟩ | refine ⟨congrArg (Value.int .i64) (by first | omega | assumption | exact Eq.symm (by assumption)), ?_⟩)))
    · (repeat' ((conv => whnf); first | refine go ?_ | (refine VSome.mk ?_; intro gQ hA'; first | subst hA' | cases hA' | (dsimp only at hA'; subst hA')) | refine And.intro ?_ ?_ | intro _ | (first | ((show VCall _ _ _ 57 [_, _] _); refine VCall.fullS [1] (by simp) (fun _ => rfl) (fun w1 m1 m2 => pick_v l A c _ _ _ _ (hA.lend m1 [1]) hl (by omega) (by omega) m2) (fun (q, a, s) hq => ?_); obtain ⟨hq1, hq2, hq3, hq4⟩ := hq) | ((show VCall _ _ _ 58 [_, _] _); refine VCall.fullS [1] (by simp) (fun _ => rfl) (fun w1 m1 m2 => one_v l A c _ _ _ _ (hA.lend m1 [1]) hl (by omega) (by omega) m2) (fun (q, a, s) hq => ?_); obtain ⟨hq1, hq2⟩ := hq) | ((show VCall _ _ _ 62 [_, .slice (some ⟨_, 0, none⟩) _ _] _); refine VCall.fullS [1] (by simp) (fun _ => rfl) (fun w1 m1 m2 => amongT_v l A c _ _ _ _ _ _ _ (hA.lend m1 [1]) hl (by omega) (by omega) (OldSeen.any m1 [1] (by repeat (first | exact At.here | apply At.there)) (by simp)) (by simp only [List.length_cons, List.length_nil]; omega) (by omega) (by omega) 200000 (by first | rfl | exact okIntB_cons ⟨by omega, by omega⟩ (okIntB_cons ⟨by omega, by omega⟩ (okIntB_cons ⟨by omega, by omega⟩ rfl))) m2) (fun (q, a, s) hq => ?_); obtain ⟨⟨hq1, hq2⟩, hq3, hq4⟩ := hq) | ((show VCall _ _ _ 99 [_, .slice (some ⟨_, 0, none⟩) _ _] _); refine VCall.fullS [1] (by simp) (fun _ => rfl) (fun w1 m1 m2 => of_v l A c _ _ _ _ _ _ 30 _ (hA.lend m1 [1]) hl (by omega) (by omega) (OldSeen.any m1 [1] (by repeat (first | exact At.here | apply At.there)) (by simp)) (by rfl) (by omega) (by omega) (by rfl) m2) (fun (q, a, s) hq => ?_); obtain ⟨hq1, hq2, hq3⟩ := hq) | ((show VCall _ _ _ 62 [_, .slice (some ⟨_, 0, none⟩) _ _] _); refine VCall.fullS [1] (by simp) (fun _ => rfl) (fun w1 m1 m2 => amongI_v l A c _ _ _ _ _ _ _ (hA.lend m1 [1]) hl (by omega) (by omega) (OldSeen.any m1 [1] (by repeat (first | exact At.here | apply At.there)) (by simp)) rfl (by omega) (by omega) (by rfl) m2) (fun (q, a, s) hq => ?_); obtain ⟨hq3, hq4⟩ := hq) | ((show VCall _ _ _ 65 _ _); refine VCall.fullS [1] (by simp) (fun _ => rfl) (fun w1 m1 m2 => logRecord_v l A c _ _ _ (hA.lend m1 [1]) hl (by omega) (by omega) m2) (fun (x, r, a, s) hi => ?_); obtain ⟨j1, j2, j3, j4⟩ := hi) | ((show VCall _ _ _ 64 _ _); refine VCall.grow _ (fun w1 _ => hAp x r w1 (by omega) (by omega)) ?_) | ((show VDraw _ _ _ #[{ dst := some 59, op := _, type := _, pos := _, after := _, guard := _ }, _, _, _, _, _, _, _] _ _); refine VDraw.mk (.take 1 (.br 0 (.br 2 (.br 3 (.take 4 (.take 5 (.take 6 (.br 7 .done .done)))) .done) .done) (.br 2 (.br 0 (.br 3 (.take 4 (.take 5 (.take 6 (.br 7 .done .done)))) .done) .done) .done))) [] (by kernel_rfl) (by kernel_rfl) ?_) | ((show VDraw _ _ _ #[{ dst := some 65, op := _, type := _, pos := _, after := _, guard := _ }, _, _, _, _, _, _, _] _ _); refine VDraw.mk (.take 0 (.take 1 (.take 2 (.take 3 (.take 4 (.take 5 (.take 6 (.br 7 .done .done)))))))) [6] (by kernel_rfl) (by kernel_rfl) ?_))))
      all_goals (conv => whnf)
      all_goals first
        | (refine VRet.sel (lo, lo + mo, n, f, (B0, e0), ⟨d.log.durable, tx (apV d.du d.pe d.log.count x r).1, (apV d.du d.pe d.log.count x r).2.1⟩) ?_ rfl [2] (by simp) rfl; exact ⟨hn, by show d.log.durable.size ≤ 40000; omega, by show (tx (apV d.du d.pe d.log.count x r).1).size ≤ 40000; rw [tx_size]; have := hAl x r; omega⟩)
        | (refine VRet.sel (lo, lo + mo, n, f, (B0, e0), d.log) ?_ rfl [2] (by simp) rfl; exact ⟨hn, by show d.log.durable.size ≤ 40000; omega, by show d.log.pending.size ≤ 40000; omega⟩)
  · rw [tr_no h] at hN
    generalize coNew lo (lo + mo) n f = d0 at hN
    (repeat' ((conv => whnf); first | refine go ?_ | (refine VSome.mk ?_; intro gQ hA'; first | subst hA' | cases hA' | (dsimp only at hA'; subst hA')) | refine And.intro ?_ ?_ | intro _ | (first | ((show VCall _ _ _ 27 _ _); refine VCall.ret (fun w1 m1 => hN w1 seenA (m1.plain fndA)) (fun i _ => ?_); obtain ⟨⟨A1, c1⟩, A2, c2⟩ := i))))
    (conv => whnf)
    refine VRet.sel (lo, lo + mo, n, f, (B0, e0), ⟨.empty, .empty, 0⟩) ?_ rfl [4] (by simp) rfl
    exact ⟨hn, Nat.zero_le _, Nat.zero_le _⟩
end Go.Proofs.YtadjhkehfklmnaaGreatDoor
namespace Go.Proofs.YtadjhkehfklmnaaGreatDoor
set_option linter.unusedSimpArgs false
set_option linter.unusedVariables false
open Go.RowKit
set_option maxRecDepth 10000
set_option maxHeartbeats 4000000 in
theorem vArr_v (A B : Option Addr) (n c e : Nat) (f : Nat → Aw) (w : World) (hn : n ≤ 1048576) (hA : Seen w A (AwS n f)) (hB : Seen w B (AwS n f)) :
    Calls Tryz.prog 75 #[.slice A n c, .slice B n e] w (Post (.bool true) w) := by
  refine post_of_vc ?_
  refine calls_of_vc tb_ok (args := [.slice A n c, .slice B n e]) Tryz.func75 rfl ?_
  (repeat' ((conv => whnf); first | refine go ?_ | (refine VSome.mk ?_; intro gQ hA'; first | subst hA' | cases hA' | (dsimp only at hA'; subst hA')) | refine And.intro ?_ ?_ | intro _))
  (conv => whnf)
  refine VLoop.mk (ι := Nat) [4, 5, 11, 12, 13, 14, 15, 16, 17, 18, 19, 20, 21, 22, 23, 24, 25] (fun k => [(5, .int .i64 k)]) (fun _ => []) (fun k => k ≤ n) (fun k => n - k) 0 (Nat.zero_le _) ?_ (OwnLe.mk [] (by simp) rfl) (fun k u hk => ?_)
  · ((conv => whnf); repeat (first | exact trivial | refine ⟨rfl, ?_⟩ | refine ⟨congrArg (Value.int .i64) (by first | omega | assumption | exact Eq.symm (by assumption)), ?_⟩))
  by_cases hlt : k < n
  · obtain ⟨b, off, rfl, hb, hr, _⟩ := AwS.look hA hlt
    obtain ⟨b', off', rfl, hb', kr, _⟩ := AwS.look hB hlt
    (repeat' ((conv => whnf); first | refine go ?_ | (refine VSome.mk ?_; intro gQ hA'; first | subst hA' | cases hA' | (dsimp only at hA'; subst hA')) | refine And.intro ?_ ?_ | intro _ | (first | ((show VDraw _ _ _ _ _ _); refine VDraw.mk (.take 0 (.take 1 (.take 2 (.take 3 (.take 4 (.take 5 (.take 6 (.take 7 (.take 8 .done))))))))) [] (by kernel_rfl) (by kernel_rfl) ?_))))
    all_goals first | contradiction | skip
    all_goals (conv => whnf)
    all_goals (refine VNext.mk (k + 1) (by omega) (by omega) ?_ (OwnLe.mk [] (by simp) rfl); ((conv => whnf); repeat (first | exact trivial | refine ⟨rfl, ?_⟩ | refine ⟨congrArg (Value.int .i64) (by first | omega | assumption | exact Eq.symm (by assumption)), ?_⟩)))
  · (repeat' ((conv => whnf); first | refine go ?_ | (refine VSome.mk ?_; intro gQ hA'; first | subst hA' | cases hA' | (dsimp only at hA'; subst hA')) | refine And.intro ?_ ?_ | intro _))
    (conv => whnf); refine VRet.mk fun w' m => ?_
    exact ⟨rfl, m.keeps.below⟩
set_option maxHeartbeats 4000000 in
theorem vBas_v (A B : Option Addr) (n c e : Nat) (f : Nat → Ba) (w : World) (hn : n ≤ 1048576) (hA : Seen w A (BaS n f)) (hB : Seen w B (BaS n f)) :
    Calls Tryz.prog 74 #[.slice A n c, .slice B n e] w (Post (.bool true) w) := by
  refine post_of_vc ?_
  refine calls_of_vc tb_ok (args := [.slice A n c, .slice B n e]) Tryz.func74 rfl ?_
  (repeat' ((conv => whnf); first | refine go ?_ | (refine VSome.mk ?_; intro gQ hA'; first | subst hA' | cases hA' | (dsimp only at hA'; subst hA')) | refine And.intro ?_ ?_ | intro _))
  (conv => whnf)
  refine VLoop.mk (ι := Nat) [4, 5, 11, 12, 13, 14, 15, 16, 17, 18, 19, 20, 21, 22, 23, 24, 25] (fun k => [(5, .int .i64 k)]) (fun _ => []) (fun k => k ≤ n) (fun k => n - k) 0 (Nat.zero_le _) ?_ (OwnLe.mk [] (by simp) rfl) (fun k u hk => ?_)
  · ((conv => whnf); repeat (first | exact trivial | refine ⟨rfl, ?_⟩ | refine ⟨congrArg (Value.int .i64) (by first | omega | assumption | exact Eq.symm (by assumption)), ?_⟩))
  by_cases hlt : k < n
  · obtain ⟨b, off, rfl, hb, hr, _⟩ := BaS.look hA hlt
    obtain ⟨b', off', rfl, hb', kr, _⟩ := BaS.look hB hlt
    (repeat' ((conv => whnf); first | refine go ?_ | (refine VSome.mk ?_; intro gQ hA'; first | subst hA' | cases hA' | (dsimp only at hA'; subst hA')) | refine And.intro ?_ ?_ | intro _ | (first | ((show VDraw _ _ _ _ _ _); refine VDraw.mk (.take 0 (.take 1 (.take 2 (.take 3 (.take 4 (.take 5 (.take 6 (.take 7 (.take 8 .done))))))))) [] (by kernel_rfl) (by kernel_rfl) ?_))))
    all_goals first | contradiction | skip
    all_goals (conv => whnf)
    all_goals (refine VNext.mk (k + 1) (by omega) (by omega) ?_ (OwnLe.mk [] (by simp) rfl); ((conv => whnf); repeat (first | exact trivial | refine ⟨rfl, ?_⟩ | refine ⟨congrArg (Value.int .i64) (by first | omega | assumption | exact Eq.symm (by assumption)), ?_⟩)))
  · (repeat' ((conv => whnf); first | refine go ?_ | (refine VSome.mk ?_; intro gQ hA'; first | subst hA' | cases hA' | (dsimp only at hA'; subst hA')) | refine And.intro ?_ ?_ | intro _))
    (conv => whnf); refine VRet.mk fun w' m => ?_
    exact ⟨rfl, m.keeps.below⟩
set_option maxHeartbeats 4000000 in
theorem vCon_v (A1 : Option Addr) (c1 : Nat) (A2 : Option Addr) (c2 : Nat) (B1 : Option Addr) (e1 : Nat) (B2 : Option Addr) (e2 : Nat) (d : Co) (w : World) (hn : d.n ≤ 1048576) (hm : d.m ≤ 1048576) (hA1 : Seen w A1 (BaS d.n d.ba)) (hA2 : Seen w A2 (AwS d.m d.wa)) (hB1 : Seen w B1 (BaS d.n d.ba)) (hB2 : Seen w B2 (AwS d.m d.wa)) :
    Calls Tryz.prog 28 #[.agg (d.at A1 c1 A2 c2).toArray, .agg (d.at B1 e1 B2 e2).toArray] w (Post (.bool true) w) := by
  refine post_of_vc ?_
  refine calls_of_vc tb_ok (args := [.agg (d.at A1 c1 A2 c2).toArray, .agg (d.at B1 e1 B2 e2).toArray]) Tryz.func28 rfl ?_
  (repeat' ((conv => whnf); first | refine go ?_ | (refine VSome.mk ?_; intro gQ hA'; first | subst hA' | cases hA' | (dsimp only at hA'; subst hA')) | refine And.intro ?_ ?_ | intro _ | (first | ((show VCall _ _ _ 74 _ _); refine VCall.grow _ (fun w1 m1 => vBas_v _ _ _ _ _ _ w1 hn seenA seenA) ?_) | ((show VCall _ _ _ 75 _ _); refine VCall.grow _ (fun w1 m1 => vArr_v _ _ _ _ _ _ w1 hm seenA seenA) ?_))))
  all_goals first | contradiction | skip
  all_goals ((conv => whnf); refine VRet.mk fun w' m => ?_)
  all_goals exact ⟨rfl, m.keeps.below⟩
end Go.Proofs.YtadjhkehfklmnaaGreatDoor
namespace Go.Proofs.YtadjhkehfklmnaaGreatDoor
set_option linter.unusedSimpArgs false
set_option linter.unusedVariables false
open Go.RowKit
set_option maxRecDepth 10000
def flipL (q : List UInt8) (torn : Bool) : List UInt8 := if torn = true ∧ 0 < q.length then q.set (q.length - 1) (255 - q.getD (q.length - 1) 0) else q
theorem flipL_len (q : List UInt8) (torn : Bool) : (flipL q torn).length = q.length := by unfold flipL; split <;> simp
theorem txt_YS (q : List UInt8) : ((tx q).data.toList.map fun b => Value.int .u8 (b.toNat : Int)) = YS q := by simp [tx, YS]
theorem VBytes.txt {w0 : Base} {own : List Own} {g : Nat} {K : Value → Prop} (k : Nat) {ty : TypeId} {cs : List Value} (l : List UInt8) {n : Nat} (hn : n = l.length) (hk : own[k]? = some (.txt g ty cs)) (hcs : cs = YS l) (kk : K (.string (tx l))) : VBytes w0 own g 0 n K :=
  .mk (tx l) (by rw [tx_size, hn]) (fun i hi => Rd.txt k hk (by rw [Nat.zero_add, hcs]; exact YS_get l i hi)) kk
noncomputable def crV (d p : List UInt8) (c keep : Int) (torn : Bool) : List UInt8 × Bool := if tr (okL d p c ∧ 0 ≤ keep ∧ keep ≤ p.length) then (d ++ flipL (p.take keep.toNat) torn, true) else ([], false)
theorem crV_yes {d p : List UInt8} {c : Int} {k : Nat} {torn : Bool} (h : okL d p c) (hk : k ≤ p.length) : crV d p c k torn = (d ++ flipL (p.take k) torn, true) := by unfold crV; rw [tr_yes ⟨h, by omega, by omega⟩]; rfl
theorem crV_no {d p : List UInt8} {c keep : Int} {torn : Bool} (h : ¬ (okL d p c ∧ 0 ≤ keep ∧ keep ≤ p.length)) : crV d p c keep torn = ([], false) := by unfold crV; rw [tr_no h]; rfl
set_option maxHeartbeats 1600000 in
theorem iCr_v (d p : List UInt8) (c keep : Int) (torn : Bool) (w : World) (hd : d.length ≤ 1048576) (hp : p.length ≤ 1048576) (ht : PTab w) : Calls Tryz.prog 30 #[.agg #[.string (tx d), .string (tx p), .int .i64 c], .int .i64 keep, .bool torn] w (Post (.tuple #[.string (tx (crV d p c keep torn).1), .bool (crV d p c keep torn).2]) w) := by
  have hL := fun w ht => iLog_v d p c w hd hp ht
  have hnp := tx_size p
  refine post_of_vc ?_
  refine calls_of_vc tb_ok (args := [.agg #[.string (tx d), .string (tx p), .int .i64 c], .int .i64 keep, .bool torn]) Tryz.func30 rfl ?_
  by_cases hk : okL d p c
  · rw [tr_yes hk] at hL
    by_cases hr : 0 ≤ keep ∧ keep ≤ p.length
    · obtain ⟨k, rfl⟩ := Int.eq_ofNat_of_zero_le hr.1
      have hkl : k ≤ p.length := by omega
      rw [crV_yes hk hkl]
      have x1 : (tx p).extract 0 k = tx (p.take k) := tx_to _ _
      have hq : (p.take k).length = k := by rw [List.length_take]; omega
      have hnq := tx_size (p.take k)
      have hfl := flipL_len (p.take k) torn
      have hYl : (YS (p.take k)).length = k := by rw [YS_len, hq]
      by_cases hb : torn = true ∧ 0 < k
      · obtain ⟨ht1, hk0⟩ := hb
        subst ht1
        obtain ⟨b, hbv⟩ : ∃ b, b = (p.take k).getD (k - 1) 0 := ⟨_, rfl⟩
        have hbl := b.toNat_lt
        have hx : (k : Int) - 1 = ((k - 1 : Nat) : Int) := by omega
        have hY : ∀ o, o = k - 1 → (YS (p.take k))[o]? = some (.int .u8 (b.toNat : Int)) := fun o e => by
          subst e
          unfold YS
          rw [List.getElem?_map, List.getElem?_eq_getElem (by omega), hbv, List.getD_eq_getElem?_getD, List.getElem?_eq_getElem (by omega)]
          rfl
        have h255 : ((255 - b).toNat : Int) = 255 - (b.toNat : Int) := by
          have := UInt8.toNat_sub_of_le (255 : UInt8) b (UInt8.le_iff_toNat_le.2 (by show b.toNat ≤ 255; omega))
          rw [this]
          show ((255 - b.toNat : Nat) : Int) = _
          omega
        have hwr : IntKind.u8.wrap (255 - (b.toNat : Int)) = ((255 - b).toNat : Int) := by rw [wrap_u8 (by omega) (by omega), h255]
        have hfe : flipL (p.take k) true = (p.take k).set (k - 1) (255 - b) := by unfold flipL; rw [if_pos ⟨rfl, by omega⟩, hq, hbv]
        have hset : (YS (p.take k)).set (k - 1) (.int .u8 (IntKind.u8.wrap (255 - (b.toNat : Int)))) = YS (flipL (p.take k) true) := by rw [hfe, hwr]; unfold YS; rw [List.map_set]
        have hoff : 0 + mulS (k - 1) 1 = k - 1 := by rw [mulS_eq]; omega
        (repeat' ((conv => whnf); first | refine go ?_ | (refine VSome.mk ?_; intro gQ hA'; first | subst hA' | cases hA' | (dsimp only at hA'; subst hA')) | refine And.intro ?_ ?_ | intro _ | (first | ((show VCall _ _ _ 79 _ _); refine VCall.grow _ (fun w1 m1 => hL w1 (ht.on m1)) ?_) | ((show VCall _ _ _ 80 _ _); refine VCall.test _ (fun w1 _ => inside_v _ _ _ w1) ?_) | ((show VSub _ _ _ _); refine VSub.as 0 k _ rfl rfl (Nat.zero_le _) (by omega) x1 ?_) | ((show VIdx _ _ _ _ _ _ _); refine VIdx.at_ rfl (k - 1) hx (by omega) ?_) | ((show VLoad1 _ _ _ _ _); refine VLoad1.mk _ (Rd.txt 1 rfl (by rw [txt_YS]; exact hY _ hoff)) ?_) | ((show VStore _ _ _ _ _ _); refine VStore.txt 1 rfl rfl rfl (by rw [txt_YS, hYl]; show 0 + mulS (k - 1) 1 < k; omega) rfl ?_) | ((show VBytes _ _ _ _ _ _); refine VBytes.txt 1 (flipL (p.take k) true) (by omega) rfl (by rw [txt_YS]; show List.set _ (0 + mulS (k - 1) 1) _ = _; rw [hoff]; exact hset) ?_) | ((show VCat _ _ _); refine VCat.of (by omega) ?_))))
        all_goals ((conv => whnf); refine VRet.mk fun w' m => ?_)
        all_goals exact ⟨rfl, m.keeps.below⟩
      · have hfe : flipL (p.take k) torn = p.take k := by unfold flipL; rw [if_neg (by rw [hq]; exact hb)]
        rw [hfe] at hfl ⊢
        cases torn
        all_goals first | have hk0 : k = 0 := by (rcases Nat.eq_zero_or_pos k with h9 | h9; exact h9; exact absurd ⟨rfl, h9⟩ hb) | skip
        all_goals ((repeat' ((conv => whnf); first | refine go ?_ | (refine VSome.mk ?_; intro gQ hA'; first | subst hA' | cases hA' | (dsimp only at hA'; subst hA')) | refine And.intro ?_ ?_ | intro _ | (first | ((show VCall _ _ _ 79 _ _); refine VCall.grow _ (fun w1 m1 => hL w1 (ht.on m1)) ?_) | ((show VCall _ _ _ 80 _ _); refine VCall.test _ (fun w1 _ => inside_v _ _ _ w1) ?_) | ((show VSub _ _ _ _); refine VSub.as 0 k _ rfl rfl (Nat.zero_le _) (by omega) x1 ?_) | ((show VBytes _ _ _ _ _ _); refine VBytes.txt 1 (p.take k) (by omega) rfl (txt_YS _) ?_) | ((show VCat _ _ _); refine VCat.of (by omega) ?_)))))
        all_goals ((conv => whnf); refine VRet.mk fun w' m => ?_)
        all_goals exact ⟨rfl, m.keeps.below⟩
    · rw [crV_no (fun h => hr h.2)]
      (repeat' ((conv => whnf); first | refine go ?_ | (refine VSome.mk ?_; intro gQ hA'; first | subst hA' | cases hA' | (dsimp only at hA'; subst hA')) | refine And.intro ?_ ?_ | intro _ | (first | ((show VCall _ _ _ 79 _ _); refine VCall.grow _ (fun w1 m1 => hL w1 (ht.on m1)) ?_) | ((show VCall _ _ _ 80 _ _); refine VCall.test _ (fun w1 _ => inside_v _ _ _ w1) ?_))))
      all_goals ((conv => whnf); refine VRet.mk fun w' m => ?_)
      all_goals exact ⟨rfl, m.keeps.below⟩
  · rw [tr_no hk] at hL
    rw [crV_no (fun h => hk h.1)]
    (repeat' ((conv => whnf); first | refine go ?_ | (refine VSome.mk ?_; intro gQ hA'; first | subst hA' | cases hA' | (dsimp only at hA'; subst hA')) | refine And.intro ?_ ?_ | intro _ | (first | ((show VCall _ _ _ 79 _ _); refine VCall.grow _ (fun w1 m1 => hL w1 (ht.on m1)) ?_))))
    all_goals ((conv => whnf); refine VRet.mk fun w' m => ?_)
    all_goals exact ⟨rfl, m.keeps.below⟩
end Go.Proofs.YtadjhkehfklmnaaGreatDoor
namespace Go.Proofs.YtadjhkehfklmnaaGreatDoor
set_option linter.unusedSimpArgs false
set_option linter.unusedVariables false
open Go.RowKit
set_option maxRecDepth 10000
theorem take_ok (s : List UInt8) : okL (s.take (ends s (cnt s))) [] (cnt s : Nat) := by
  have hle := ends_le (Nat.le_refl (cnt s))
  obtain ⟨d, hd⟩ : ∃ d, d = s.take (ends s (cnt s)) := ⟨_, rfl⟩
  have e : d ++ s.drop (ends s (cnt s)) = s := by rw [hd]; exact List.take_append_drop _ _
  have hl : d.length = ends s (cnt s) := by rw [hd, List.length_take]; omega
  have hb := app_back (d := d) (p := s.drop (ends s (cnt s))) (j := cnt s) (by rw [e]; exact Nat.le_refl _) (by rw [e, hl]; exact Nat.le_refl _)
  rw [e] at hb
  have hc : cnt d = cnt s := cnt_is hb.2 (step_end (by rw [← hb.1, hl]; exact Nat.le_refl _))
  rw [← hd]
  unfold okL
  rw [List.append_nil, hc]
  exact ⟨by rw [← hb.1, hl], rfl, by rw [← hb.1, hl]⟩
theorem cnt_nil : cnt [] = 0 := cnt_is (fun j hj => absurd hj (by omega)) (fun h => by have := h.2.1; simp at this)
end Go.Proofs.YtadjhkehfklmnaaGreatDoor
namespace Go.Proofs.YtadjhkehfklmnaaGreatDoor
set_option linter.unusedSimpArgs false
set_option linter.unusedVariables false
open Go.RowKit
set_option maxRecDepth 10000
theorem u8_le {b : UInt8} (h : okB b) : b.toNat ≤ 126 := h.2.1
theorem ln_le {k : Nat} {c r : List UInt8} (h : okR c r) : ∀ b, b ∈ ln k c r → b.toNat ≤ 126 := fun b hb => by
  unfold ln sl at hb
  rcases List.mem_append.1 hb with hb | hb
  · rcases bod_mem hb with h1 | h1 | h1 | h1 | h1
    · omega
    · rw [h1]; decide
    · exact u8_le (h.1 b h1)
    · rw [h1]; decide
    · exact u8_le (h.2.1 b h1)
  · rcases List.mem_cons.1 hb with h1 | h1
    · rw [h1]; decide
    · have := dd_digit _ _ h1
      omega
theorem bytes_le {s : List UInt8} : ∀ {j : Nat}, j ≤ cnt s → ∀ b, b ∈ s.take (ends s j) → b.toNat ≤ 126
  | 0, _, b, hb => by simp [ends] at hb
  | j + 1, hj, b, hb => by
    have hst := cnt_step (s := s) (j := j) hj
    have hle := ends_le (s := s) (k := j) (by omega)
    obtain ⟨_, hm, ho, he⟩ := hst
    obtain ⟨e1, _⟩ := bfs_yes hm
    have hlin : bfs 10 (s.drop (ends s j)) = lin s (ends s j) := rfl
    have e2 : s.take (ends s (j + 1)) = s.take (ends s j) ++ (lin s (ends s j) ++ [10]) := by
      have hl : (s.take (ends s j)).length = ends s j := by rw [List.length_take]; omega
      have h3 : s = (s.take (ends s j) ++ (lin s (ends s j) ++ [10])) ++ afs 10 (s.drop (ends s j)) := by
        rw [← hlin]
        have h4 : s.take (ends s j) ++ (bfs 10 (s.drop (ends s j)) ++ [10]) ++ afs 10 (s.drop (ends s j)) = s.take (ends s j) ++ (bfs 10 (s.drop (ends s j)) ++ 10 :: afs 10 (s.drop (ends s j))) := by simp
        rw [h4, ← e1, List.take_append_drop]
      have h2 : ends s (j + 1) = (s.take (ends s j) ++ (lin s (ends s j) ++ [10])).length := by
        show ends s j + (lin s (ends s j)).length + 1 = _
        simp only [List.length_append, List.length_cons, List.length_nil, hl]
        omega
      have h5 : ∀ (u v : List UInt8) (n : Nat), s = u ++ v → n = u.length → s.take n = u := fun u v n a b => by rw [a, b]; exact List.take_left
      exact h5 _ _ _ h3 h2
    rw [e2] at hb
    rcases List.mem_append.1 hb with hb | hb
    · exact bytes_le (by omega) b hb
    · rcases List.mem_append.1 hb with hb | hb
      · rw [← he] at hb
        exact ln_le ho b hb
      · rw [List.mem_singleton.1 hb]; decide
theorem pre_read {u f p : List UInt8} (hf : f = u ++ p) {s v : List UInt8} (hs : s = u ++ v) (h : ends s (cnt s) ≤ u.length) :
    cnt s ≤ cnt f ∧ ∀ i, i < cnt s → rcd s i = rcd f i := by
  subst hf hs
  obtain ⟨h1, h2⟩ := app_back (d := u) (p := v) (j := cnt (u ++ v)) (Nat.le_refl _) h
  have hu : cnt (u ++ v) ≤ cnt u := by
    rcases Nat.lt_or_ge (cnt u) (cnt (u ++ v)) with h3 | h3
    · exact absurd (h2 _ h3) (cnt_stop u)
    · exact h3
  have hf := app_cnt (d := u) (p := p)
  refine ⟨by omega, fun i hi => ?_⟩
  have hst := cnt_step (s := u) (j := i) (by omega)
  unfold rcd
  rw [app_ends (p := v) (show i ≤ cnt u by omega), app_ends (p := p) (show i ≤ cnt u by omega), (lin_app (p := v) hst.2.1).1, (lin_app (p := p) hst.2.1).1]
theorem last_line {s : List UInt8} {j : Nat} (h : step s j) : s[ends s (j + 1) - 1]? = some 10 := by
  have := bfs_get h.2.1
  rw [List.getElem?_drop] at this
  have e : ends s (j + 1) = ends s j + (bfs 10 (s.drop (ends s j))).length + 1 := rfl
  rw [e, show ends s j + (bfs 10 (s.drop (ends s j))).length + 1 - 1 = ends s j + (bfs 10 (s.drop (ends s j))).length by omega]
  exact this
theorem crash_read {d p : List UInt8} {c : Int} {k : Nat} {torn : Bool} (h : okL d p c) (hk : k ≤ p.length) :
    d.length ≤ ends (d ++ flipL (p.take k) torn) (cnt (d ++ flipL (p.take k) torn)) ∧ cnt (d ++ flipL (p.take k) torn) ≤ cnt (d ++ p) ∧ ∀ i, i < cnt (d ++ flipL (p.take k) torn) → rcd (d ++ flipL (p.take k) torn) i = rcd (d ++ p) i := by
  have h1 : d.length ≤ ends (d ++ flipL (p.take k) torn) (cnt (d ++ flipL (p.take k) torn)) := by
    have a1 := app_cnt (d := d) (p := flipL (p.take k) torn)
    have a2 := app_ends (d := d) (p := flipL (p.take k) torn) (Nat.le_refl _)
    have a3 := ends_mono (s := d ++ flipL (p.take k) torn) a1
    have a4 := h.2.2
    omega
  refine ⟨h1, ?_⟩
  have hq : (p.take k).length = k := by rw [List.length_take]; omega
  by_cases hb : torn = true ∧ 0 < k
  · obtain ⟨rfl, hk0⟩ := hb
    obtain ⟨q, b, hqb⟩ : ∃ q b, p.take k = q ++ [b] := by
      refine ⟨(p.take k).dropLast, (p.take k).getLast (by intro e; rw [e] at hq; simp at hq; omega), ?_⟩
      exact (List.dropLast_concat_getLast _).symm
    have hql : q.length = k - 1 := by have := congrArg List.length hqb; rw [hq] at this; simp at this; omega
    have hfl : flipL (p.take k) true = q ++ [255 - b] := by
      unfold flipL
      rw [if_pos ⟨rfl, by omega⟩, hq, hqb]
      have e1 : (q ++ [b]).getD (k - 1) 0 = b := by rw [← hql, List.getD_eq_getElem?_getD, List.getElem?_append_right (Nat.le_refl _), Nat.sub_self]; rfl
      rw [e1, ← hql, List.set_append_right _ _ (Nat.le_refl _), Nat.sub_self]
      rfl
    rw [hfl] at *
    have hp : p = q ++ (b :: p.drop k) := by
      have := (List.take_append_drop k p).symm
      rw [hqb] at this
      rw [List.append_assoc] at this
      exact this
    have hbl : b.toNat ≤ 126 := by
      have h2 := bytes_le (s := d ++ p) (Nat.le_refl _) b
      rw [h.1, List.take_length] at h2
      exact h2 (by rw [hp]; simp)
    refine pre_read (u := d ++ q) (p := b :: p.drop k) (by rw [List.append_assoc, ← hp]) (v := [255 - b]) (by rw [List.append_assoc]) ?_
    have hle := ends_le (Nat.le_refl (cnt (d ++ (q ++ [255 - b]))))
    have hll : (d ++ (q ++ [255 - b])).length = (d ++ q).length + 1 := by simp; omega
    refine Classical.byContradiction fun hn => ?_
    have he : ends (d ++ (q ++ [255 - b])) (cnt (d ++ (q ++ [255 - b]))) = (d ++ q).length + 1 := by omega
    have hc0 : ¬ cnt (d ++ (q ++ [255 - b])) = 0 := fun e => by
      rw [e] at he
      exact absurd he (by show ¬ 0 = _; omega)
    have hl := last_line (cnt_step (s := d ++ (q ++ [255 - b])) (j := cnt (d ++ (q ++ [255 - b])) - 1) (by omega))
    rw [show cnt (d ++ (q ++ [255 - b])) - 1 + 1 = cnt (d ++ (q ++ [255 - b])) by omega, he, Nat.add_sub_cancel, ← List.append_assoc, List.getElem?_append_right (Nat.le_refl _), Nat.sub_self] at hl
    have hl2 : 255 - b = 10 := by simpa using hl
    have h255 : (255 - b).toNat = 255 - b.toNat := UInt8.toNat_sub_of_le (255 : UInt8) b (UInt8.le_iff_toNat_le.2 (by show b.toNat ≤ 255; omega))
    rw [hl2] at h255
    have : (10 : UInt8).toNat = 10 := rfl
    omega
  · have hfl : flipL (p.take k) torn = p.take k := by unfold flipL; rw [if_neg (by rw [hq]; exact hb)]
    rw [hfl] at *
    exact pre_read (u := d ++ p.take k) (p := p.drop k) (by rw [List.append_assoc, List.take_append_drop]) (v := []) (by simp) (ends_le (Nat.le_refl _))
end Go.Proofs.YtadjhkehfklmnaaGreatDoor
