/-
  Texts joined: how the calls that the law reaches are walked, and the plain laws behind them.
  Conditions: none beyond each statement's own premises.
-/
import Derived.Test.YtadjhkehfklmnaaGreatDoorMy08
namespace Go.Proofs.YtadjhkehfklmnaaGreatDoor
set_option linter.unusedSimpArgs false
set_option linter.unusedVariables false
open Go.RowKit
set_option maxRecDepth 10000
theorem IS_get {n j o : Nat} {f : Nat → Int} (ho : o = j) (h : j < n) : (IS n f)[o]? = some (.int .i64 (f j)) := by
  subst ho
  have := rowsN_get (f := fun i => ([.int .i64 (f i)] : List Value)) (s := 1) (fun _ => rfl) (n := n) (i := o) (j := 0) h (by omega)
  simpa [IS] using this
theorem okL_iff {d p : List UInt8} {c : Int} : okL d p c ↔ (ends (d ++ p) (cnt (d ++ p)) = (d ++ p).length ∧ (cnt (d ++ p) : Int) = c ∧ ∃ j, j ≤ cnt (d ++ p) ∧ ends (d ++ p) j = d.length) := by
  unfold okL
  rw [whole (d := d) (p := p)]
set_option maxHeartbeats 1600000 in
theorem iLog_v (d p : List UInt8) (c : Int) (w : World) (hd : d.length ≤ 1048576) (hp : p.length ≤ 1048576) (ht : PTab w) : Calls Tryz.prog 79 #[.agg #[.string (tx d), .string (tx p), .int .i64 c]] w (Post (.bool (tr (okL d p c))) w) := by
  have hls : (d ++ p).length = d.length + p.length := List.length_append
  have hn := tx_size (d ++ p)
  have hnd := tx_size d
  have h60 := cnt_le (d ++ p)
  refine post_of_vc ?_
  refine calls_of_vc tb_ok (args := [.agg #[.string (tx d), .string (tx p), .int .i64 c]]) Tryz.func79 rfl ?_
  have hR := fun w ht => iOpen_v (d ++ p) w (by omega) ht
  have hI : ∀ o, o = cnt (d ++ p) → (IS (cnt (d ++ p) + 1) fun i => (ends (d ++ p) i : Nat))[o]? = some (.int .i64 (ends (d ++ p) (cnt (d ++ p)) : Nat)) := fun o e => IS_get e (by omega)
  by_cases h1 : ends (d ++ p) (cnt (d ++ p)) = (d ++ p).length ∧ (cnt (d ++ p) : Int) = c
  · obtain ⟨h1, h2⟩ := h1
    (repeat' ((conv => whnf); first | refine go ?_ | (refine VSome.mk ?_; intro gQ hA'; first | subst hA' | cases hA' | (dsimp only at hA'; subst hA')) | refine And.intro ?_ ?_ | intro _ | (first | ((show VCall _ _ _ 81 _ _); refine VCall.ret (fun w1 m1 => hR w1 (ht.on m1)) (fun (g, cc, h, dd) _ => ?_)) | ((show VCat _ _ _); refine VCat.of (by omega) ?_) | ((show VIdx _ _ _ _ _ _ _); refine VIdx.at_ rfl (cnt (d ++ p)) rfl (by omega) ?_) | ((show VLoad1 _ _ _ _ _); refine VLoad1.mk _ (Rd.row 2 rfl (hI _ (by first | (show 0 + mulS (cnt (d ++ p)) 1 = _; rw [mulS_eq]; omega) | (show mulS (cnt (d ++ p)) 1 = _; rw [mulS_eq]; omega)))) ?_))))
    rename_i g0 h89 h90 h91 h92
    (conv => whnf)
    refine VLoop.mk (ι := Nat) [2, 7, 35, 36, 37, 38, 39, 40, 41, 42, 43, 44] (fun k => [(35, .int .i64 k)]) (fun _ => [.blk g0 37 [.string (tx d), .string (tx p), .int .i64 c], .row (.slice (some ⟨h, 0, none⟩) (cnt (d ++ p) + 1) dd) 3 1 (cnt (d ++ p) + 1) (IS (cnt (d ++ p) + 1) fun i => (ends (d ++ p) i : Nat))]) (fun k => k ≤ cnt (d ++ p) + 1 ∧ ∀ j, j < k → ¬ ends (d ++ p) j = d.length) (fun k => cnt (d ++ p) + 1 - k) 0 ⟨Nat.zero_le _, fun j h => absurd h (by omega)⟩ ?_ (OwnLe.mk [0, 2] (by simp) rfl) (fun k u hk => ?_)
    · ((conv => whnf); repeat (first | exact trivial | refine ⟨rfl, ?_⟩ | refine ⟨congrArg (Value.int .i64) (by first | omega | assumption | exact Eq.symm (by assumption)), ?_⟩))
    obtain ⟨hk, hall⟩ := hk
    by_cases hlt : k < cnt (d ++ p) + 1
    · have hJ : ∀ o, o = k → (IS (cnt (d ++ p) + 1) fun i => (ends (d ++ p) i : Nat))[o]? = some (.int .i64 (ends (d ++ p) k : Nat)) := fun o e => IS_get e hlt
      by_cases hf : ends (d ++ p) k = d.length
      · (repeat' ((conv => whnf); first | refine go ?_ | (refine VSome.mk ?_; intro gQ hA'; first | subst hA' | cases hA' | (dsimp only at hA'; subst hA')) | refine And.intro ?_ ?_ | intro _ | (first | ((show VIdx _ _ _ _ _ _ _); refine VIdx.at_ rfl k rfl (by omega) ?_) | ((show VLoad1 _ _ _ _ _); refine VLoad1.mk _ (Rd.row 1 rfl (hJ _ (by first | (show 0 + mulS k 1 = _; rw [mulS_eq]; omega) | (show mulS k 1 = _; rw [mulS_eq]; omega)))) ?_))))
        (conv => whnf); refine VRet.mk fun w' m => ?_
        refine ⟨?_, m.keeps.below⟩
        rw [tr_yes (okL_iff.2 ⟨h1, h2, k, by omega, hf⟩)]
      · (repeat' ((conv => whnf); first | refine go ?_ | (refine VSome.mk ?_; intro gQ hA'; first | subst hA' | cases hA' | (dsimp only at hA'; subst hA')) | refine And.intro ?_ ?_ | intro _ | (first | ((show VIdx _ _ _ _ _ _ _); refine VIdx.at_ rfl k rfl (by omega) ?_) | ((show VLoad1 _ _ _ _ _); refine VLoad1.mk _ (Rd.row 1 rfl (hJ _ (by first | (show 0 + mulS k 1 = _; rw [mulS_eq]; omega) | (show mulS k 1 = _; rw [mulS_eq]; omega)))) ?_))))
        (conv => whnf)
        refine VNext.mk (k + 1) ⟨by omega, upto_succ hall hf⟩ (by omega) ?_ (OwnLe.mk [0, 1] (by simp) rfl)
        ((conv => whnf); repeat (first | exact trivial | refine ⟨rfl, ?_⟩ | refine ⟨congrArg (Value.int .i64) (by first | omega | assumption | exact Eq.symm (by assumption)), ?_⟩))
    · (repeat' ((conv => whnf); first | refine go ?_ | (refine VSome.mk ?_; intro gQ hA'; first | subst hA' | cases hA' | (dsimp only at hA'; subst hA')) | refine And.intro ?_ ?_ | intro _))
      (conv => whnf); refine VRet.mk fun w' m => ?_
      refine ⟨?_, m.keeps.below⟩
      rw [tr_no (fun e => by
        obtain ⟨_, _, j, hj, e2⟩ := okL_iff.1 e
        exact hall j (by omega) e2)]
  · have hno : ¬ okL d p c := fun e => h1 ⟨e.1, e.2.1⟩
    rw [tr_no hno]
    (repeat' ((conv => whnf); first | refine go ?_ | (refine VSome.mk ?_; intro gQ hA'; first | subst hA' | cases hA' | (dsimp only at hA'; subst hA')) | refine And.intro ?_ ?_ | intro _ | (first | ((show VCall _ _ _ 81 _ _); refine VCall.ret (fun w1 m1 => hR w1 (ht.on m1)) (fun (g, cc, h, dd) _ => ?_)) | ((show VCat _ _ _); refine VCat.of (by omega) ?_) | ((show VIdx _ _ _ _ _ _ _); refine VIdx.at_ rfl (cnt (d ++ p)) rfl (by omega) ?_) | ((show VLoad1 _ _ _ _ _); refine VLoad1.mk _ (Rd.row 2 rfl (hI _ (by first | (show 0 + mulS (cnt (d ++ p)) 1 = _; rw [mulS_eq]; omega) | (show mulS (cnt (d ++ p)) 1 = _; rw [mulS_eq]; omega)))) ?_))))
    all_goals (conv => whnf)
    all_goals first
      | (refine VRet.mk fun w' m => ⟨rfl, m.keeps.below⟩; done)
      | (exfalso; omega)
set_option maxHeartbeats 1600000 in
theorem sLog_v (d p : List UInt8) (c : Int) (w : World) (hd : d.length ≤ 1048576) (hp : p.length ≤ 1048576) : Calls Tryz.prog 66 #[.agg #[.string (tx d), .string (tx p), .int .i64 c]] w (Post (.bool (tr (okL d p c))) w) := by
  have hls : (d ++ p).length = d.length + p.length := List.length_append
  have hn := tx_size (d ++ p)
  have hnd := tx_size d
  have hnp := tx_size p
  have h60 := cnt_le (d ++ p)
  have h602 := cnt_le d
  refine post_of_vc ?_
  refine calls_of_vc tb_ok (args := [.agg #[.string (tx d), .string (tx p), .int .i64 c]]) Tryz.func66 rfl ?_
  have hR1 := fun w => sOpen_v (d ++ p) w (by omega)
  have hR2 := fun w => sOpen_v d w (by omega)
  by_cases hk : okL d p c
  · have hll := okL_len hk
    rw [tr_yes hk]
    obtain ⟨h1, h2, h3⟩ := hk
    (repeat' ((conv => whnf); first | refine go ?_ | (refine VSome.mk ?_; intro gQ hA'; first | subst hA' | cases hA' | (dsimp only at hA'; subst hA')) | refine And.intro ?_ ?_ | intro _ | (first | ((show VCall _ _ _ 105 [.string (tx (d ++ p))] _); refine VCall.ret (fun w1 m1 => hR1 w1) (fun (g, cc) _ => ?_)) | ((show VCall _ _ _ 105 _ _); refine VCall.ret (fun w1 m1 => hR2 w1) (fun (g, cc) _ => ?_)) | ((show VCat _ _ _); refine VCat.of (by omega) ?_))))
    all_goals (conv => whnf)
    all_goals first
      | (refine VRet.mk fun w' m => ⟨rfl, m.keeps.below⟩; done)
      | (exfalso; omega)
  · rw [tr_no hk]
    have hk' : ¬ (ends (d ++ p) (cnt (d ++ p)) = (d ++ p).length ∧ (cnt (d ++ p) : Int) = c ∧ ends d (cnt d) = d.length) := hk
    (repeat' ((conv => whnf); first | refine go ?_ | (refine VSome.mk ?_; intro gQ hA'; first | subst hA' | cases hA' | (dsimp only at hA'; subst hA')) | refine And.intro ?_ ?_ | intro _ | (first | ((show VCall _ _ _ 105 [.string (tx (d ++ p))] _); refine VCall.ret (fun w1 m1 => hR1 w1) (fun (g, cc) _ => ?_)) | ((show VCall _ _ _ 105 _ _); refine VCall.ret (fun w1 m1 => hR2 w1) (fun (g, cc) _ => ?_)) | ((show VCat _ _ _); refine VCat.of (by omega) ?_))))
    all_goals (conv => whnf)
    all_goals first
      | (refine VRet.mk fun w' m => ⟨rfl, m.keeps.below⟩; done)
      | (exfalso; omega)
noncomputable def apV (d p : List UInt8) (c : Int) (x r : List UInt8) : List UInt8 × Int × Int := if tr (okL d p c ∧ okR x r) then (if c = 60 then (p, c, 2) else (p ++ (ln c.toNat x r ++ [10]), c + 1, 0)) else (p, c, 1)
theorem apV_no {d p x r : List UInt8} {c : Int} (h : ¬ (okL d p c ∧ okR x r)) : apV d p c x r = (p, c, 1) := by unfold apV; rw [tr_no h]; rfl
theorem apV_full {d p x r : List UInt8} {c : Int} (h : okL d p c ∧ okR x r) (hc : c = 60) : apV d p c x r = (p, c, 2) := by unfold apV; rw [tr_yes h, if_pos rfl, if_pos hc]
theorem apV_yes {d p x r : List UInt8} {k : Nat} (h : okL d p k ∧ okR x r) (hc : ¬ k = 60) : apV d p k x r = (p ++ (ln k x r ++ [10]), (k : Int) + 1, 0) := by unfold apV; rw [tr_yes h, if_pos rfl, if_neg (by omega)]; rfl
set_option maxHeartbeats 1600000 in
theorem iApp_v (d p : List UInt8) (c : Int) (x r : List UInt8) (w : World) (hd : d.length ≤ 1048576) (hp : p.length ≤ 1048576) (hx : x.length ≤ 1048576) (hr : r.length ≤ 1048576) (ht : PTab w) : Calls Tryz.prog 78 #[.agg #[.string (tx d), .string (tx p), .int .i64 c], .agg #[.string (tx x), .string (tx r)]] w (Post (.tuple #[.agg #[.string (tx d), .string (tx (apV d p c x r).1), .int .i64 (apV d p c x r).2.1], .int .i64 (apV d p c x r).2.2]) w) := by
  have hG := fun w => iGood_v x r w (by omega) (by omega)
  have hL := fun w ht => iLog_v d p c w hd hp ht
  refine post_of_vc ?_
  by_cases hk : okL d p c
  · rw [tr_yes hk] at hL
    by_cases hg : okR x r
    · rw [tr_yes hg] at hG
      obtain ⟨n, rfl⟩ : ∃ n : Nat, c = n := ⟨_, hk.2.1.symm⟩
      have h60 := cnt_le (d ++ p)
      have hc := hk.2.1
      by_cases h6 : n = 60
      · rw [apV_full ⟨hk, hg⟩ (by omega)]
        refine calls_of_vc tb_ok (args := [.agg #[.string (tx d), .string (tx p), .int .i64 n], .agg #[.string (tx x), .string (tx r)]]) Tryz.func78 rfl ?_
        (repeat' ((conv => whnf); first | refine go ?_ | (refine VSome.mk ?_; intro gQ hA'; first | subst hA' | cases hA' | (dsimp only at hA'; subst hA')) | refine And.intro ?_ ?_ | intro _ | (first | ((show VCall _ _ _ 79 _ _); refine VCall.grow _ (fun w1 m1 => hL w1 (ht.on m1)) ?_) | ((show VCall _ _ _ 76 _ _); refine VCall.grow _ (fun w1 _ => hG w1) ?_))))
        all_goals ((conv => whnf); refine VRet.mk fun w' m => ?_)
        all_goals exact ⟨rfl, m.keeps.below⟩
      · rw [apV_yes ⟨hk, hg⟩ h6]
        have hll := ln_len (k := n) (by omega) hg
        refine calls_of_vc tb_ok (args := [.agg #[.string (tx d), .string (tx p), .int .i64 n], .agg #[.string (tx x), .string (tx r)]]) Tryz.func78 rfl ?_
        (repeat' ((conv => whnf); first | refine go ?_ | (refine VSome.mk ?_; intro gQ hA'; first | subst hA' | cases hA' | (dsimp only at hA'; subst hA')) | refine And.intro ?_ ?_ | intro _ | (first | ((show VCall _ _ _ 79 _ _); refine VCall.grow _ (fun w1 m1 => hL w1 (ht.on m1)) ?_) | ((show VCall _ _ _ 76 _ _); refine VCall.grow _ (fun w1 _ => hG w1) ?_) | ((show VCall _ _ _ 115 _ _); refine VCall.grow _ (fun w1 m1 => encode_v n x r w1 (by omega) hg (ht.on m1)) ?_) | ((show VDraw _ _ _ _ _ _); refine VDraw.mk (.take 0 (.take 1 (.take 2 (.take 3 (.take 4 (.take 5 (.take 6 (.take 9 (.take 10 (.take 11 (.br 7 (.take 8 (.take 12 (.br 13 (.take 14 .done) .done))) .done))))))))))) [0, 1] (by kernel_rfl) (by kernel_rfl) ?_) | ((show VCat _ _ _); refine VCat.of (by show p.length + (ln n x r ++ [10]).length ≤ _; simp only [List.length_append, List.length_cons, List.length_nil]; omega) ?_))))
        all_goals ((conv => whnf); refine VRet.mk fun w' m => ?_)
        all_goals exact ⟨rfl, m.keeps.below⟩
    · rw [tr_no hg] at hG
      rw [apV_no (fun h => hg h.2)]
      refine calls_of_vc tb_ok (args := [.agg #[.string (tx d), .string (tx p), .int .i64 c], .agg #[.string (tx x), .string (tx r)]]) Tryz.func78 rfl ?_
      (repeat' ((conv => whnf); first | refine go ?_ | (refine VSome.mk ?_; intro gQ hA'; first | subst hA' | cases hA' | (dsimp only at hA'; subst hA')) | refine And.intro ?_ ?_ | intro _ | (first | ((show VCall _ _ _ 79 _ _); refine VCall.grow _ (fun w1 m1 => hL w1 (ht.on m1)) ?_) | ((show VCall _ _ _ 76 _ _); refine VCall.grow _ (fun w1 _ => hG w1) ?_))))
      all_goals ((conv => whnf); refine VRet.mk fun w' m => ?_)
      all_goals exact ⟨rfl, m.keeps.below⟩
  · rw [tr_no hk] at hL
    rw [apV_no (fun h => hk h.1)]
    refine calls_of_vc tb_ok (args := [.agg #[.string (tx d), .string (tx p), .int .i64 c], .agg #[.string (tx x), .string (tx r)]]) Tryz.func78 rfl ?_
    (repeat' ((conv => whnf); first | refine go ?_ | (refine VSome.mk ?_; intro gQ hA'; first | subst hA' | cases hA' | (dsimp only at hA'; subst hA')) | refine And.intro ?_ ?_ | intro _ | (first | ((show VCall _ _ _ 79 _ _); refine VCall.grow _ (fun w1 m1 => hL w1 (ht.on m1)) ?_))))
    all_goals ((conv => whnf); refine VRet.mk fun w' m => ?_)
    all_goals exact ⟨rfl, m.keeps.below⟩
set_option maxHeartbeats 1600000 in
theorem sApp_v (d p : List UInt8) (c : Int) (x r : List UInt8) (w : World) (hd : d.length ≤ 1048576) (hp : p.length ≤ 1048576) (hx : x.length ≤ 1048576) (hr : r.length ≤ 1048576) : Calls Tryz.prog 64 #[.agg #[.string (tx d), .string (tx p), .int .i64 c], .agg #[.string (tx x), .string (tx r)]] w (Post (.tuple #[.agg #[.string (tx d), .string (tx (apV d p c x r).1), .int .i64 (apV d p c x r).2.1], .int .i64 (apV d p c x r).2.2]) w) := by
  have hG := fun w => sGood_v x r w (by omega) (by omega)
  have hL := fun w => sLog_v d p c w hd hp
  refine post_of_vc ?_
  by_cases hk : okL d p c
  · rw [tr_yes hk] at hL
    by_cases hg : okR x r
    · rw [tr_yes hg] at hG
      obtain ⟨n, rfl⟩ : ∃ n : Nat, c = n := ⟨_, hk.2.1.symm⟩
      have h60 := cnt_le (d ++ p)
      have hc := hk.2.1
      by_cases h6 : n = 60
      · rw [apV_full ⟨hk, hg⟩ (by omega)]
        refine calls_of_vc tb_ok (args := [.agg #[.string (tx d), .string (tx p), .int .i64 n], .agg #[.string (tx x), .string (tx r)]]) Tryz.func64 rfl ?_
        (repeat' ((conv => whnf); first | refine go ?_ | (refine VSome.mk ?_; intro gQ hA'; first | subst hA' | cases hA' | (dsimp only at hA'; subst hA')) | refine And.intro ?_ ?_ | intro _ | (first | ((show VCall _ _ _ 66 _ _); refine VCall.grow _ (fun w1 m1 => hL w1) ?_) | ((show VCall _ _ _ 85 _ _); refine VCall.grow _ (fun w1 _ => hG w1) ?_))))
        all_goals ((conv => whnf); refine VRet.mk fun w' m => ?_)
        all_goals exact ⟨rfl, m.keeps.below⟩
      · rw [apV_yes ⟨hk, hg⟩ h6]
        have hll := ln_len (k := n) (by omega) hg
        refine calls_of_vc tb_ok (args := [.agg #[.string (tx d), .string (tx p), .int .i64 n], .agg #[.string (tx x), .string (tx r)]]) Tryz.func64 rfl ?_
        (repeat' ((conv => whnf); first | refine go ?_ | (refine VSome.mk ?_; intro gQ hA'; first | subst hA' | cases hA' | (dsimp only at hA'; subst hA')) | refine And.intro ?_ ?_ | intro _ | (first | ((show VCall _ _ _ 66 _ _); refine VCall.grow _ (fun w1 m1 => hL w1) ?_) | ((show VCall _ _ _ 85 _ _); refine VCall.grow _ (fun w1 _ => hG w1) ?_) | ((show VCall _ _ _ 104 _ _); refine VCall.grow _ (fun w1 m1 => l27Line_v n x r w1 (by omega) hg) ?_) | ((show VDraw _ _ _ _ _ _); refine VDraw.mk (.take 0 (.take 2 (.take 4 (.br 1 (.br 3 (.br 5 (.take 6 (.take 7 (.br 8 .done .done))) .done) .done) (.br 3 (.br 1 (.br 5 (.take 6 (.take 7 (.br 8 .done .done))) .done) (.br 5 (.br 1 (.take 6 (.take 7 (.br 8 .done .done))) .done) .done)) .done))))) [1] (by kernel_rfl) (by kernel_rfl) ?_) | ((show VCat _ _ _); refine VCat.of (by show p.length + (ln n x r ++ [10]).length ≤ _; simp only [List.length_append, List.length_cons, List.length_nil]; omega) ?_))))
        all_goals ((conv => whnf); refine VRet.mk fun w' m => ?_)
        all_goals exact ⟨rfl, m.keeps.below⟩
    · rw [tr_no hg] at hG
      rw [apV_no (fun h => hg h.2)]
      refine calls_of_vc tb_ok (args := [.agg #[.string (tx d), .string (tx p), .int .i64 c], .agg #[.string (tx x), .string (tx r)]]) Tryz.func64 rfl ?_
      (repeat' ((conv => whnf); first | refine go ?_ | (refine VSome.mk ?_; intro gQ hA'; first | subst hA' | cases hA' | (dsimp only at hA'; subst hA')) | refine And.intro ?_ ?_ | intro _ | (first | ((show VCall _ _ _ 66 _ _); refine VCall.grow _ (fun w1 m1 => hL w1) ?_) | ((show VCall _ _ _ 85 _ _); refine VCall.grow _ (fun w1 _ => hG w1) ?_))))
      all_goals ((conv => whnf); refine VRet.mk fun w' m => ?_)
      all_goals exact ⟨rfl, m.keeps.below⟩
  · rw [tr_no hk] at hL
    rw [apV_no (fun h => hk h.1)]
    refine calls_of_vc tb_ok (args := [.agg #[.string (tx d), .string (tx p), .int .i64 c], .agg #[.string (tx x), .string (tx r)]]) Tryz.func64 rfl ?_
    (repeat' ((conv => whnf); first | refine go ?_ | (refine VSome.mk ?_; intro gQ hA'; first | subst hA' | cases hA' | (dsimp only at hA'; subst hA')) | refine And.intro ?_ ?_ | intro _ | (first | ((show VCall _ _ _ 66 _ _); refine VCall.grow _ (fun w1 m1 => hL w1) ?_))))
    all_goals ((conv => whnf); refine VRet.mk fun w' m => ?_)
    all_goals exact ⟨rfl, m.keeps.below⟩
end Go.Proofs.YtadjhkehfklmnaaGreatDoor
namespace Go.Proofs.YtadjhkehfklmnaaGreatDoor
set_option linter.unusedSimpArgs false
set_option linter.unusedVariables false
open Go.RowKit
set_option maxRecDepth 10000
def Plain (A : Option Addr) : Prop := ∀ a, A = some a → ∃ g off, a = ⟨g, off, none⟩
theorem Plain.none : Plain none := fun a h => by cases h
theorem Plain.some (g off : Nat) : Plain (some ⟨g, off, Option.none⟩) := fun a h => by cases h; exact ⟨g, off, rfl⟩
section
variable {w0 : Base} {own : List Own} {w w1 : World}
theorem Mem.plain (m : Mem w0 own w) {A : Option Addr} {n c j : Nat} {ty : TypeId} {size n' : Nat} {cs : List Value} (h : At (.row (.slice A n c) ty size n' cs) j own) : Plain A := by
  rcases (m.ok j _ h.get).2.2 with ⟨e, _⟩ | ⟨g, cap, cur, e, _⟩
  · injection e with e1
    subst e1
    exact Plain.none
  · injection e with e1
    subst e1
    exact Plain.some _ _
theorem Seen.head {A : Option Addr} {cs : List Value} (h : Seen w A cs) (k : Nat) : Seen w A (cs.take k) := fun j u hj => by
  rw [List.getElem?_take] at hj
  split at hj
  · exact h j u hj
  · cases hj
def TailOf (A B : Option Addr) (n k sz : Nat) : Prop := k < n → ∀ g off, A = some ⟨g, off, none⟩ → B = some ⟨g, off + mulS k sz, none⟩
theorem Seen.tail {A B : Option Addr} {cs : List Value} {n k sz : Nat} (h : Seen w A cs) (hB : TailOf A B n k sz) (hl : cs.length = n * sz) : Seen w B (cs.drop (k * sz)) := fun j u hj => by
  rw [List.getElem?_drop] at hj
  by_cases hk : k < n
  · obtain ⟨b, o, e, hb, hc⟩ := h _ _ hj
    refine ⟨b, o + mulS k sz, hB hk b o e, hb, ?_⟩
    rw [mulS_eq, Nat.add_assoc]
    exact hc
  · have : n * sz ≤ k * sz := Nat.mul_le_mul_right _ (by omega)
    rw [List.getElem?_eq_none (by omega)] at hj
    cases hj
theorem VCut.tail {A : Option Addr} {n c sz : Nat} {lo : Option Value} {K : Value → Prop} (k : Nat) (hlo : bnd lo 0 k) (hk : k ≤ n) (hc : n ≤ c) (hP : Plain A) (kk : ∀ B d, TailOf A B n k sz → Plain B → K (.slice B (n - k) d)) : VCut A n c sz lo none K := by
  by_cases h : k < c
  · cases A with
    | none =>
      refine .gen k n hlo rfl hk hc ?_
      rw [if_neg (by omega)]
      exact kk none (c - k) (fun _ g off e => by cases e) Plain.none
    | some a =>
      obtain ⟨g, off, rfl⟩ := hP a rfl
      exact .lt g off k n rfl hlo rfl hk hc h (kk _ _ (fun _ g' off' e => by cases e; rfl) (Plain.some _ _))
  · refine .gen k n hlo rfl hk hc ?_
    rw [if_pos (by omega)]
    exact kk A (c - k) (fun h2 => absurd h2 (by omega)) hP
theorem VCut.head {A : Option Addr} {n c sz : Nat} {hi : Option Value} {K : Value → Prop} (k : Nat) (hh : bnd hi n k) (hk : k ≤ c) (kk : K (.slice A k c)) : VCut A n c sz none hi K := .pre k rfl hh hk kk
inductive VAppAll (w1 : World) (own : List Own) (e size : Nat) (n : Nat) (xs : List Value) (k : Nat) (x : Value) (K : Value → List Own → Prop) : Prop
  | mk {A : Option Addr} {m c : Nat} {cs : List Value} (hx : x = .slice A m c) (hA : Seen w1 A cs) (hP : Plain A) (hl : cs.length = m * size) (hs : 0 < size) (h1 : cs.all (·.oneCell') = true) (hn : n + m ≤ 17179869184)
      (kk : ∀ A' c', setK own k (.row (.slice A' (n + m) c') e size (n + m) (xs ++ cs)) fun own => K (.slice A' (n + m) c') own) : VAppAll w1 own e size n xs k x K
theorem VAppAll.as {e size n k c m : Nat} {xs : List Value} {x : Value} {K : Value → List Own → Prop} {A : Option Addr} {cs : List Value} (N : Nat) (ys : List Value) (hx : x = .slice A m c) (hA : Seen w1 A cs) (hP : Plain A) (hl : cs.length = m * size) (hs : 0 < size) (h1 : cs.all (·.oneCell') = true) (hn : n + m ≤ 17179869184) (hN : n + m = N) (hy : xs ++ cs = ys)
    (kk : ∀ A' c', setK own k (.row (.slice A' N c') e size N ys) fun own => K (.slice A' N c') own) : VAppAll w1 own e size n xs k x K := by
  subst hN hy
  exact .mk hx hA hP hl hs h1 hn kk
theorem VApp.allAny {e size : Nat} {S : Option Addr} {n c0 : Nat} {xs : List Value} {x : Value} {k : Nat} {K : Value → List Own → Prop} (h : At (.row (.slice S n c0) e size n xs) k own) (kk : VAppAll w1 own e size n xs k x K) : VApp (Base.of w1) own e size (.slice S n c0) x K := by
  obtain ⟨hx, hA, hP, hl, hs, h1, hn, kk⟩ := kk
  rename_i A m c cs
  rcases Nat.eq_zero_or_pos m with hm | hm
  · subst hm
    have hcs : cs = [] := List.eq_nil_of_length_eq_zero (by rw [hl, Nat.zero_mul])
    subst hcs
    cases A with
    | none =>
      refine .none_ k h.get hx ?_
      have := (kk S c0).out
      simp only [Nat.add_zero, List.append_nil] at this
      rw [set_same h.get] at this
      exact this
    | some a =>
      obtain ⟨g, off, rfl⟩ := hP a rfl
      exact .row k h.get hx [] (by simp) (fun j u hj => by simp at hj) rfl hn (fun A' c' _ => kk A' c')
  · exact .seen k h.get hx hA hl (Nat.mul_pos hm hs) h1 hn kk
inductive VAppPush (own : List Own) (e size n : Nat) (xs : List Value) (k m : Nat) (cs : List Value) (K : Value → List Own → Prop) : Prop
  | mk (hl : cs.length = m * size) (h1 : cs.all (·.oneCell') = true) (hn : n + m ≤ 17179869184) (c : ∀ A' c', setK own k (.row (.slice A' (n + m) c') e size (n + m) (xs ++ cs)) fun own => K (.slice A' (n + m) c') own) : VAppPush own e size n xs k m cs K
theorem VApp.pushAny {e size : Nat} {s : Value} {n m c k j g : Nat} {xs cs : List Value} {ty : TypeId} {K : Value → List Own → Prop} (h : At (.row s e size n xs) k own) (hj : At (.blk g ty cs) j own) (kk : VAppPush own e size n xs k m cs K) : VApp w0 own e size s (.slice (some ⟨g, 0, none⟩) m c) K := by
  obtain ⟨hl, h1, hn, kk⟩ := kk
  exact .push k j h.get hj.get rfl hl h1 hn kk
inductive VAppPushS (own : List Own) (e size n : Nat) (xs : List Value) (k m : Nat) (cs : List Value) (K : Value → List Own → Prop) : Prop
  | mk (hl : cs.length = m * size) (h1 : cs.all (·.oneCell') = true) (hn : n + m ≤ 17179869184) (hp : 0 < n + m) (c : ∀ g' c', n + m ≤ c' → setK own k (.row (.slice (some ⟨g', 0, none⟩) (n + m) c') e size (n + m) (xs ++ cs)) fun own => K (.slice (some ⟨g', 0, none⟩) (n + m) c') own) : VAppPushS own e size n xs k m cs K
theorem VApp.pushAnyS {e size : Nat} {s : Value} {n m c k j g : Nat} {xs cs : List Value} {ty : TypeId} {K : Value → List Own → Prop} (h : At (.row s e size n xs) k own) (hj : At (.blk g ty cs) j own) (kk : VAppPushS own e size n xs k m cs K) : VApp w0 own e size s (.slice (some ⟨g, 0, none⟩) m c) K := by
  obtain ⟨hl, h1, hn, hp, kk⟩ := kk
  exact .row k h.get rfl cs hl (fun i u hu => Rd.own j hj.get (by simpa using hu)) h1 hn (fun A c' hg => by obtain ⟨g', rfl⟩ := hg.1 hp; exact kk g' c' hg.2)
theorem Mem.shrink {A : Option Addr} {n c k n2 : Nat} {ty : TypeId} {size : Nat} {xs : List Value} (m : Mem w0 own w) (hk : own[k]? = some (.row (.slice A n c) ty size n xs)) (h : n2 ≤ n) : Mem w0 (own.set k (.row (.slice A n2 c) ty size n2 (xs.take (n2 * size)))) w := by
  have h0 := m.ok k _ hk
  obtain ⟨h00, h1, h2⟩ := h0
  have hns : n2 * size ≤ n * size := Nat.mul_le_mul_right _ h
  refine m.turn hk m.keeps ⟨fun b hb => ?_, by rw [List.length_take]; omega, ?_⟩ (fun _ _ _ => rfl) (fun b hb => ?_)
  · cases A with
    | none => cases hb
    | some a => exact h00 b hb
  · rcases h2 with ⟨e, h3⟩ | ⟨g, cap, cur, e, hb, hg, hn, hm, hs, ht⟩
    · injection e with e1 e2 e3
      left
      subst e1 e3
      exact ⟨by rw [show n2 = 0 by omega], by omega⟩
    · injection e with e1 e2 e3
      subst e1 e3
      refine .inr ⟨g, c, cur, rfl, hb, hg, by omega, hm, hs, ?_⟩
      rw [← ht, List.take_take]
      congr 1
      omega
  · left
    cases A with
    | none => cases hb
    | some a => exact hb
end
theorem all_take {p : Value → Bool} {cs : List Value} (k : Nat) (h : cs.all p = true) : (cs.take k).all p = true := by
  rw [List.all_eq_true] at h ⊢
  exact fun x hx => h x (List.mem_of_mem_take hx)
theorem all_drop {p : Value → Bool} {cs : List Value} (k : Nat) (h : cs.all p = true) : (cs.drop k).all p = true := by
  rw [List.all_eq_true] at h ⊢
  exact fun x hx => h x (List.mem_of_mem_drop hx)
theorem rowsN_add (a : Nat) (f : Nat → List Value) : ∀ b, rowsN (a + b) f = rowsN a f ++ rowsN b (fun i => f (a + i))
  | 0 => by simp [rowsN]
  | b + 1 => by rw [← Nat.add_assoc, rowsN_succ, rowsN_succ, rowsN_add a f b, List.append_assoc]
theorem rowsN_take {f : Nat → List Value} {s n k : Nat} (hs : ∀ i, (f i).length = s) (hk : k ≤ n) : (rowsN n f).take (k * s) = rowsN k f := by
  obtain ⟨b, rfl⟩ := Nat.exists_eq_add_of_le hk
  rw [rowsN_add]
  exact List.take_left' (rowsN_length hs k)
theorem rowsN_drop {f : Nat → List Value} {s n k : Nat} (hs : ∀ i, (f i).length = s) (hk : k ≤ n) : (rowsN n f).drop (k * s) = rowsN (n - k) (fun i => f (k + i)) := by
  obtain ⟨b, rfl⟩ := Nat.exists_eq_add_of_le hk
  rw [rowsN_add, List.drop_left' (rowsN_length hs k), Nat.add_sub_cancel_left]
def insF {α : Type} (f : Nat → α) (k : Nat) (v : α) (i : Nat) : α := if i < k then f i else if i = k then v else f (i - 1)
theorem insF_lt {α : Type} {f : Nat → α} {k i : Nat} {v : α} (h : i < k) : insF f k v i = f i := if_pos h
theorem insF_at {α : Type} (f : Nat → α) (k : Nat) (v : α) : insF f k v k = v := by unfold insF; rw [if_neg (by omega), if_pos rfl]
theorem insF_gt {α : Type} {f : Nat → α} {k i : Nat} {v : α} (h : k < i) : insF f k v i = f (i - 1) := by unfold insF; rw [if_neg (by omega), if_neg (by omega)]
theorem rows_ins {α : Type} (c : α → List Value) {s n k : Nat} (hs : ∀ x, (c x).length = s) (f : Nat → α) (v : α) (hk : k ≤ n) :
    (rowsN n fun i => c (f i)).take (k * s) ++ c v ++ (rowsN n fun i => c (f i)).drop (k * s) = rowsN (n + 1) fun i => c (insF f k v i) := by
  rw [rowsN_take (f := fun i => c (f i)) (fun i => hs _) hk, rowsN_drop (f := fun i => c (f i)) (fun i => hs _) hk]
  have e : n + 1 = k + 1 + (n - k) := by omega
  rw [e, rowsN_add (k + 1), rowsN_succ]
  have e1 : (rowsN k fun i => c (insF f k v i)) = rowsN k fun i => c (f i) := rowsN_congr fun i hi => by rw [insF_lt hi]
  have e2 : (rowsN (n - k) fun i => c (insF f k v (k + 1 + i))) = rowsN (n - k) fun i => c (f (k + i)) := rowsN_congr fun i hi => by rw [insF_gt (by omega), show k + 1 + i - 1 = k + i by omega]
  rw [e1, e2, insF_at]
theorem rowsN_set {α : Type} (c : α → List Value) {s n j : Nat} (hs : ∀ x, (c x).length = s) (f : Nat → α) (v : α) (hj : j < n) :
    setRange (rowsN n fun i => c (f i)) (j * s) (c v) = rowsN n fun i => c (upd f j v i) := by
  have hb : j * s + s ≤ n * s := by rw [← Nat.succ_mul]; exact Nat.mul_le_mul_right _ hj
  have hl : (rowsN n fun i => c (f i)).length = n * s := rowsN_length (f := fun i => c (f i)) (fun i => hs _) n
  apply List.ext_getElem?
  intro i
  rw [setRange_get _ _ _ _ (by rw [hl, hs]; exact hb), hs]
  rcases Nat.lt_or_ge i (n * s) with hi | hi
  · have hs0 : 0 < s := by
      rcases Nat.eq_zero_or_pos s with e | e
      · subst e; omega
      · exact e
    have hq : i / s < n := Nat.div_lt_of_lt_mul (by rwa [Nat.mul_comm])
    have hm := Nat.mod_lt i hs0
    have hdm : i / s * s + i % s = i := by rw [Nat.mul_comm]; exact Nat.div_add_mod i s
    have g1 := rowsN_get (f := fun i => c (f i)) (fun i => hs _) n (i / s) (i % s) hq hm
    have g2 := rowsN_get (f := fun i => c (upd f j v i)) (fun i => hs _) n (i / s) (i % s) hq hm
    rw [hdm] at g1 g2
    rw [g1, g2]
    by_cases e : i / s = j
    · rw [e, upd_at]
      rw [e] at hdm
      rw [if_pos (by omega), show i - j * s = i % s by omega]
    · rw [upd_ne f v e, if_neg]
      intro h
      apply e
      have h1 : j * s ≤ i := h.1
      have h2 : i < j * s + s := h.2
      have : i / s = j := by
        apply Nat.le_antisymm
        · exact Nat.lt_succ_iff.1 (Nat.div_lt_of_lt_mul (by rw [Nat.mul_comm, Nat.succ_mul]; exact h2))
        · exact (Nat.le_div_iff_mul_le hs0).2 h1
      exact this
  · rw [if_neg (by omega), List.getElem?_eq_none (by rw [hl]; exact hi), List.getElem?_eq_none (by rw [rowsN_length (f := fun i => c (upd f j v i)) (fun i => hs _)]; exact hi)]
def delF {α : Type} (f : Nat → α) (k : Nat) (i : Nat) : α := if i < k then f i else f (i + 1)
theorem rows_del {α : Type} (c : α → List Value) {s n k : Nat} (hs : ∀ x, (c x).length = s) (f : Nat → α) (hk : k < n) :
    (rowsN n fun i => c (f i)).take (k * s) ++ (rowsN n fun i => c (f i)).drop ((k + 1) * s) = rowsN (n - 1) fun i => c (delF f k i) := by
  rw [rowsN_take (f := fun i => c (f i)) (fun i => hs _) (Nat.le_of_lt hk), rowsN_drop (f := fun i => c (f i)) (fun i => hs _) (show k + 1 ≤ n from hk)]
  have e : n - 1 = k + (n - (k + 1)) := by omega
  rw [e, rowsN_add k]
  have e1 : (rowsN k fun i => c (delF f k i)) = rowsN k fun i => c (f i) := rowsN_congr fun i hi => by unfold delF; rw [if_pos hi]
  have e2 : (rowsN (n - (k + 1)) fun i => c (delF f k (k + i))) = rowsN (n - (k + 1)) fun i => c (f (k + 1 + i)) := rowsN_congr fun i hi => by unfold delF; rw [if_neg (by omega), show k + i + 1 = k + 1 + i by omega]
  rw [e1, e2]
end Go.Proofs.YtadjhkehfklmnaaGreatDoor
namespace Go.Proofs.YtadjhkehfklmnaaGreatDoor
set_option linter.unusedSimpArgs false
set_option linter.unusedVariables false
open Go.RowKit
set_option maxRecDepth 10000
set_option maxHeartbeats 4000000 in
theorem iSafe_v (s : Lo) (w : World) : Calls Tryz.prog 87 #[.agg s.cells.toArray] w (Post (.bool (tr s.safe)) w) := by
  refine post_of_vc ?_
  refine calls_of_vc tb_ok (args := [.agg s.cells.toArray]) Tryz.func87 rfl ?_
  (repeat' ((conv => whnf); first | refine go ?_ | (refine VSome.mk ?_; intro gQ hA'; first | subst hA' | cases hA' | (dsimp only at hA'; subst hA')) | refine And.intro ?_ ?_ | intro _ | (first | ((show VCall _ _ _ 80 _ _); refine VCall.test _ (fun w1 _ => inside_v _ _ _ w1) ?_))))
  all_goals ((conv => whnf); refine VRet.mk fun w' m => ?_)
  all_goals refine ⟨congrArg Value.bool ?_, m.keeps.below⟩
  all_goals first | (rw [tr_yes ⟨by omega, by omega, by omega, by omega, by simp_all, by simp_all, by simp_all, by simp_all, fun h9 => by first | omega | (simp_all; done), fun h9 => by first | omega | (simp_all; done)⟩]; done) | (rw [tr_no (fun ⟨z1, z2, z3, z4, z5, z6, z7, z8, z9, z10⟩ => by first | omega | (simp_all; done) | (simp_all; omega) | (have := z9 (by assumption); omega) | (have := z10 (by assumption); omega))]; done)
set_option maxHeartbeats 4000000 in
theorem sSafe_v (s : Lo) (w : World) : Calls Tryz.prog 91 #[.agg s.cells.toArray] w (Post (.bool (tr s.safe)) w) := by
  refine post_of_vc ?_
  refine calls_of_vc tb_ok (args := [.agg s.cells.toArray]) Tryz.func91 rfl ?_
  (repeat' ((conv => whnf); first | refine go ?_ | (refine VSome.mk ?_; intro gQ hA'; first | subst hA' | cases hA' | (dsimp only at hA'; subst hA')) | refine And.intro ?_ ?_ | intro _))
  all_goals ((conv => whnf); refine VRet.mk fun w' m => ?_)
  all_goals refine ⟨congrArg Value.bool ?_, m.keeps.below⟩
  all_goals first | (rw [tr_yes ⟨by omega, by omega, by omega, by omega, by simp_all, by simp_all, by simp_all, by simp_all, fun h9 => by first | omega | (simp_all; done), fun h9 => by first | omega | (simp_all; done)⟩]; done) | (rw [tr_no (fun ⟨z1, z2, z3, z4, z5, z6, z7, z8, z9, z10⟩ => by first | omega | (simp_all; done) | (simp_all; omega) | (have := z9 (by assumption); omega) | (have := z10 (by assumption); omega))]; done)
def Lo.new (a b : Int) : Lo := ⟨a, b, a, false, false, false, false⟩
def bAll (n : Nat) (f : Nat → Ba) : Prop := ∀ i, i < n → (f i).ok
theorem areBasins1_v (b : Ba) (w : World) : Calls Tryz.prog 107 #[.agg b.cells.toArray] w (Post (.bool (tr (¬ b.ok))) w) := by
  refine post_of_vc ?_
  refine calls_of_vc tb_ok (args := [.agg b.cells.toArray]) Tryz.func107 rfl ?_
  (repeat' ((conv => whnf); first | refine go ?_ | (refine VSome.mk ?_; intro gQ hA'; first | subst hA' | cases hA' | (dsimp only at hA'; subst hA')) | refine And.intro ?_ ?_ | intro _))
  all_goals ((conv => whnf); refine VRet.mk fun w' m => ?_)
  all_goals refine ⟨congrArg Value.bool ?_, m.keeps.below⟩
  all_goals first | (rw [tr_yes (by unfold Ba.ok; omega)]; done) | (rw [tr_no (by unfold Ba.ok; omega)]; done)
theorem indexBa_v (A : Option Addr) (n c : Nat) (f : Nat → Ba) (w : World) (hn : n ≤ 1048576) (hA : Seen w A (BaS n f)) :
    Calls Tryz.prog 138 #[.slice A n c, .func (.func 107) #[] #[]] w fun e w' => ∃ r : Int, (bAll n f ∧ r = -1 ∨ ¬ bAll n f ∧ 0 ≤ r) ∧ Post (.int .i64 r) w e w' := by
  refine some_of_vc ?_
  refine calls_of_vc tb_ok (args := [.slice A n c, .func (.func 107) #[] #[]]) Tryz.func138 rfl ?_
  (repeat' ((conv => whnf); first | refine go ?_ | (refine VSome.mk ?_; intro gQ hA'; first | subst hA' | cases hA' | (dsimp only at hA'; subst hA')) | refine And.intro ?_ ?_ | intro _))
  (conv => whnf)
  refine VLoop.mk (ι := Nat) [4, 5, 8, 9, 10, 11, 12, 13, 14, 15, 16, 17, 18] (fun k => [(8, .int .i64 k)]) (fun _ => []) (fun k => k ≤ n ∧ bAll k f) (fun k => n - k) 0 ⟨Nat.zero_le _, fun i h => absurd h (by omega)⟩ ?_ (OwnLe.mk [] (by simp) rfl) (fun k u hk => ?_)
  · ((conv => whnf); repeat (first | exact trivial | refine ⟨rfl, ?_⟩ | refine ⟨congrArg (Value.int .i64) (by first | omega | assumption | exact Eq.symm (by assumption)), ?_⟩))
  obtain ⟨hk, hok⟩ := hk
  by_cases hlt : k < n
  · obtain ⟨b, off, rfl, hb, h0, _⟩ := BaS.look hA hlt
    (repeat' ((conv => whnf); first | refine go ?_ | (refine VSome.mk ?_; intro gQ hA'; first | subst hA' | cases hA' | (dsimp only at hA'; subst hA')) | refine And.intro ?_ ?_ | intro _ | (first | ((show VCall _ _ _ 107 _ _); refine VCall.test _ (fun w1 _ => areBasins1_v (f k) w1) ?_))))
    (all_goals (conv => whnf))
    all_goals first | ((show VNext _ _ _ _ _ _ _ _ _); (refine VNext.mk (k + 1) ⟨hlt, upto_succ hok (Classical.not_not.1 (by assumption))⟩ (by omega) ?_ (OwnLe.mk [] (by simp) rfl); ((conv => whnf); repeat (first | exact trivial | refine ⟨rfl, ?_⟩ | refine ⟨congrArg (Value.int .i64) (by first | omega | assumption | exact Eq.symm (by assumption)), ?_⟩)))) | ((show VRet _ _ _ _); (refine VRet.mk fun w' m => ⟨_, .inr ⟨fun h => absurd (h k hlt) (by assumption), by omega⟩, rfl, m.keeps.below⟩))
  · obtain rfl : k = n := by omega
    (repeat' ((conv => whnf); first | refine go ?_ | (refine VSome.mk ?_; intro gQ hA'; first | subst hA' | cases hA' | (dsimp only at hA'; subst hA')) | refine And.intro ?_ ?_ | intro _))
    (conv => whnf); refine VRet.mk fun w' m => ?_
    exact ⟨_, .inl ⟨hok, rfl⟩, rfl, m.keeps.below⟩
theorem containsBa_v (A : Option Addr) (n c : Nat) (f : Nat → Ba) (w : World) (hn : n ≤ 1048576) (hA : Seen w A (BaS n f)) :
    Calls Tryz.prog 106 #[.slice A n c, .func (.func 107) #[] #[]] w (Post (.bool (tr (¬ bAll n f))) w) := by
  refine post_of_vc ?_
  refine calls_of_vc tb_ok (args := [.slice A n c, .func (.func 107) #[] #[]]) Tryz.func106 rfl ?_
  (repeat' ((conv => whnf); first | refine go ?_ | (refine VSome.mk ?_; intro gQ hA'; first | subst hA' | cases hA' | (dsimp only at hA'; subst hA')) | refine And.intro ?_ ?_ | intro _ | (first | ((show VCall _ _ _ 138 _ _); refine VCall.some _ _ (fun w1 m1 => indexBa_v A n c f w1 hn seenA) (fun r hr => ?_)))))
  all_goals ((conv => whnf); refine VRet.mk fun w' m => ?_)
  all_goals refine ⟨congrArg Value.bool ?_, m.keeps.below⟩
  all_goals rcases hr with ⟨h1, h2⟩ | ⟨h1, h2⟩
  all_goals first | (exfalso; omega) | (rw [tr_yes h1]; done) | (rw [tr_no (fun h => h h1)]; done)
theorem iBas_v (A : Option Addr) (n c : Nat) (f : Nat → Ba) (w : World) (hn : n ≤ 1048576) (hA : Seen w A (BaS n f)) :
    Calls Tryz.prog 69 #[.slice A n c] w (Post (.bool (tr (bGood n f))) w) := by
  refine post_of_vc ?_
  refine calls_of_vc tb_ok (args := [.slice A n c]) Tryz.func69 rfl ?_
  (repeat' ((conv => whnf); first | refine go ?_ | (refine VSome.mk ?_; intro gQ hA'; first | subst hA' | cases hA' | (dsimp only at hA'; subst hA')) | refine And.intro ?_ ?_ | intro _ | (first | ((show VCall _ _ _ 80 _ _); refine VCall.test _ (fun w1 _ => inside_v _ _ _ w1) ?_) | ((show VCall _ _ _ 106 _ _); refine VCall.test _ (fun w1 m1 => containsBa_v A n c f w1 hn seenA) ?_))))
  all_goals ((conv => whnf); refine VRet.mk fun w' m => ?_)
  all_goals refine ⟨congrArg Value.bool ?_, m.keeps.below⟩
  all_goals first | (rw [tr_yes ⟨Classical.not_not.1 (by assumption), by omega⟩]; done) | (rw [tr_no (fun h => by first | exact absurd h.1 (by assumption) | (have := h.2; omega))]; done)
theorem single_v (b : Ba) (w : World) : Calls Tryz.prog 108 #[.agg b.cells.toArray] w (Post (.bool (tr b.ok)) w) := by
  refine post_of_vc ?_
  refine calls_of_vc tb_ok (args := [.agg b.cells.toArray]) Tryz.func108 rfl ?_
  (repeat' ((conv => whnf); first | refine go ?_ | (refine VSome.mk ?_; intro gQ hA'; first | subst hA' | cases hA' | (dsimp only at hA'; subst hA')) | refine And.intro ?_ ?_ | intro _))
  all_goals ((conv => whnf); refine VRet.mk fun w' m => ?_)
  all_goals refine ⟨congrArg Value.bool ?_, m.keeps.below⟩
  all_goals first | (rw [tr_yes (by unfold Ba.ok; omega)]; done) | (rw [tr_no (by unfold Ba.ok; omega)]; done)
theorem sBas_v (A : Option Addr) (n c : Nat) (f : Nat → Ba) (w : World) (hn : n ≤ 1048576) (hA : Seen w A (BaS n f)) :
    Calls Tryz.prog 72 #[.slice A n c] w (Post (.bool (tr (bGood n f))) w) := by
  refine post_of_vc ?_
  refine calls_of_vc tb_ok (args := [.slice A n c]) Tryz.func72 rfl ?_
  (repeat' ((conv => whnf); first | refine go ?_ | (refine VSome.mk ?_; intro gQ hA'; first | subst hA' | cases hA' | (dsimp only at hA'; subst hA')) | refine And.intro ?_ ?_ | intro _))
  (conv => whnf)
  refine VLoop.mk (ι := Nat) [2, 3, 4, 5, 6, 7, 8, 9, 10, 11, 12, 13, 14, 15] (fun k => [(3, .int .i64 k)]) (fun _ => []) (fun k => k ≤ n ∧ bAll k f) (fun k => n - k) 0 ⟨Nat.zero_le _, fun i h => absurd h (by omega)⟩ ?_ (OwnLe.mk [] (by simp) rfl) (fun k u hk => ?_)
  · ((conv => whnf); repeat (first | exact trivial | refine ⟨rfl, ?_⟩ | refine ⟨congrArg (Value.int .i64) (by first | omega | assumption | exact Eq.symm (by assumption)), ?_⟩))
  obtain ⟨hk, hok⟩ := hk
  by_cases hlt : k < n
  · obtain ⟨b, off, rfl, hb, h0, _⟩ := BaS.look hA hlt
    (repeat' ((conv => whnf); first | refine go ?_ | (refine VSome.mk ?_; intro gQ hA'; first | subst hA' | cases hA' | (dsimp only at hA'; subst hA')) | refine And.intro ?_ ?_ | intro _ | (first | ((show VCall _ _ _ 108 _ _); refine VCall.test _ (fun w1 _ => single_v (f k) w1) ?_))))
    (all_goals (conv => whnf))
    all_goals first | ((show VNext _ _ _ _ _ _ _ _ _); (refine VNext.mk (k + 1) ⟨hlt, upto_succ hok (by assumption)⟩ (by omega) ?_ (OwnLe.mk [] (by simp) rfl); ((conv => whnf); repeat (first | exact trivial | refine ⟨rfl, ?_⟩ | refine ⟨congrArg (Value.int .i64) (by first | omega | assumption | exact Eq.symm (by assumption)), ?_⟩)))) | ((show VRet _ _ _ _); (refine VRet.mk fun w' m => ⟨congrArg Value.bool ?_, m.keeps.below⟩; rw [tr_no (bGood.no hlt (by assumption))]))
  · obtain rfl : k = n := by omega
    (repeat' ((conv => whnf); first | refine go ?_ | (refine VSome.mk ?_; intro gQ hA'; first | subst hA' | cases hA' | (dsimp only at hA'; subst hA')) | refine And.intro ?_ ?_ | intro _ | (first | ((show VCall _ _ _ 109 _ _); refine VCall.test _ (fun w1 _ => l1In_v _ _ _ w1) ?_))))
    all_goals ((conv => whnf); refine VRet.mk fun w' m => ?_)
    all_goals refine ⟨congrArg Value.bool ?_, m.keeps.below⟩
    all_goals first | (rw [tr_yes ⟨hok, by omega⟩]; done) | (rw [tr_no (fun h => by have := h.2; omega)]; done)
def Co.cv (d : Co) : Sl2 → Value
  | ((A, c), (B, e)) => .agg (d.at A c B e).toArray
def Co.cn (d : Co) : Sl2 → List Own
  | ((A, c), (B, e)) => [.row (.slice A d.n c) 96 3 d.n (BaS d.n d.ba), .row (.slice B d.m e) 98 4 d.m (AwS d.m d.wa)]
set_option maxHeartbeats 1600000 in
theorem iNew_v (A B : Option Addr) (c e : Nat) (d : Co) (w : World) (hn : d.n ≤ 1048576) (hm : d.m ≤ 1048576) (hA : Seen w A (BaS d.n d.ba)) (hB : Seen w B (AwS d.m d.wa)) (hP : Plain A) (hQ : Plain B) :
    Calls Tryz.prog 70 #[.agg (d.at A c B e).toArray] w fun e w' => ∃ v, e = .returned v ∧ RetV (fun _ => True) d.cv d.cn (Base.of w) v w' := by
  refine calls_of_vc tb_ok (args := [.agg (d.at A c B e).toArray]) Tryz.func70 rfl ?_
  (repeat' ((conv => whnf); first | refine go ?_ | (refine VSome.mk ?_; intro gQ hA'; first | subst hA' | cases hA' | (dsimp only at hA'; subst hA')) | refine And.intro ?_ ?_ | intro _ | (first | ((show VApp _ _ _ _ _ _ _); (apply VApp.allAny; (focus ((repeat (first | exact At.here | apply At.there)); done)); first | refine VAppAll.as d.n (BaS d.n d.ba) rfl hA hP (BaS.len _ _) (by decide) (BaS.one _ _) (by omega) (Nat.zero_add _) (List.nil_append _) (fun A' c' => ?_) | refine VAppAll.as d.m (AwS d.m d.wa) rfl hB hQ (AwS.len _ _) (by decide) (AwS.one _ _) (by omega) (Nat.zero_add _) (List.nil_append _) (fun B' e' => ?_))))))
  (conv => whnf)
  exact VRet.sel ((A', c'), (B', e')) trivial rfl [2, 3] (by simp) rfl
set_option maxHeartbeats 1600000 in
theorem sOwn_v (A B : Option Addr) (c e : Nat) (d : Co) (w : World) (hn : d.n ≤ 1048576) (hm : d.m ≤ 1048576) (hA : Seen w A (BaS d.n d.ba)) (hB : Seen w B (AwS d.m d.wa)) (hP : Plain A) (hQ : Plain B) :
    Calls Tryz.prog 73 #[.agg (d.at A c B e).toArray] w fun e w' => ∃ v, e = .returned v ∧ RetV (fun _ => True) d.cv d.cn (Base.of w) v w' := by
  refine calls_of_vc tb_ok (args := [.agg (d.at A c B e).toArray]) Tryz.func73 rfl ?_
  (repeat' ((conv => whnf); first | refine go ?_ | (refine VSome.mk ?_; intro gQ hA'; first | subst hA' | cases hA' | (dsimp only at hA'; subst hA')) | refine And.intro ?_ ?_ | intro _ | (first | ((show VDraw _ _ _ _ _ _); refine VDraw.mk (.take 0 (.take 1 (.take 3 (.take 4 (.take 7 (.take 8 (.take 10 (.take 11 (.br 2 (.br 5 (.br 6 (.br 9 (.take 12 (.br 13 .done .done)) .done) .done) (.br 6 (.br 5 (.br 9 (.take 12 (.br 13 .done .done)) .done) .done) .done)) (.br 6 (.br 2 (.br 5 (.br 9 (.take 12 (.br 13 .done .done)) .done) .done) .done) .done)))))))))) [0] (by kernel_rfl) (by kernel_rfl) ?_) | ((show VApp _ _ _ _ _ _ _); (apply VApp.allAny; (focus ((repeat (first | exact At.here | apply At.there)); done)); first | refine VAppAll.as d.n (BaS d.n d.ba) rfl hA hP (BaS.len _ _) (by decide) (BaS.one _ _) (by omega) (Nat.zero_add _) (List.nil_append _) (fun A' c' => ?_) | refine VAppAll.as d.m (AwS d.m d.wa) rfl hB hQ (AwS.len _ _) (by decide) (AwS.one _ _) (by omega) (Nat.zero_add _) (List.nil_append _) (fun B' e' => ?_))))))
  all_goals (conv => whnf)
  all_goals first | exact VRet.sel ((A', c'), (B', e')) trivial rfl [2, 3] (by simp) rfl | exact VRet.sel ((A', c'), (B', e')) trivial rfl [3, 2] (by simp) rfl
def Co.zero : Co := ⟨Lo.zero, 0, fun _ => ⟨0, 0, 0⟩, 0, fun _ => ⟨0, false, 0, 0⟩, ⟨.empty, .empty, 0⟩⟩
def Co.fresh (s : Lo) (n : Nat) (f : Nat → Ba) : Co := ⟨s, n, f, 0, fun _ => ⟨0, false, 0, 0⟩, ⟨.empty, .empty, 0⟩⟩
end Go.Proofs.YtadjhkehfklmnaaGreatDoor
namespace Go.Proofs.YtadjhkehfklmnaaGreatDoor
set_option linter.unusedSimpArgs false
set_option linter.unusedVariables false
open Go.RowKit
set_option maxRecDepth 10000
theorem isMinute_v (n : Int) (w : World) : Calls Tryz.prog 127 #[.int .i64 n] w (Post (.bool (tr (0 ≤ n ∧ n ≤ 9999))) w) := by
  refine post_of_vc ?_
  refine calls_of_vc tb_ok (args := [.int .i64 n]) Tryz.func127 rfl ?_
  (repeat' ((conv => whnf); first | refine go ?_ | (refine VSome.mk ?_; intro gQ hA'; first | subst hA' | cases hA' | (dsimp only at hA'; subst hA')) | refine And.intro ?_ ?_ | intro _ | (first | ((show VCall _ _ _ 80 _ _); refine VCall.test _ (fun w1 _ => inside_v _ _ _ w1) ?_))))
  all_goals ((conv => whnf); refine VRet.mk fun w' m => ?_)
  all_goals refine ⟨congrArg Value.bool ?_, m.keeps.below⟩
  all_goals first | (rw [tr_yes (by omega)]; done) | (rw [tr_no (by omega)]; done)
theorem l8Minute_v (n : Int) (w : World) : Calls Tryz.prog 128 #[.int .i64 n] w (Post (.bool (tr (0 ≤ n ∧ n ≤ 9999))) w) := by
  refine post_of_vc ?_
  refine calls_of_vc tb_ok (args := [.int .i64 n]) Tryz.func128 rfl ?_
  (repeat' ((conv => whnf); first | refine go ?_ | (refine VSome.mk ?_; intro gQ hA'; first | subst hA' | cases hA' | (dsimp only at hA'; subst hA')) | refine And.intro ?_ ?_ | intro _ | (first | ((show VCall _ _ _ 109 _ _); refine VCall.test _ (fun w1 _ => l1In_v _ _ _ w1) ?_))))
  all_goals ((conv => whnf); refine VRet.mk fun w' m => ?_)
  all_goals refine ⟨congrArg Value.bool ?_, m.keeps.below⟩
  all_goals first | (rw [tr_yes (by omega)]; done) | (rw [tr_no (by omega)]; done)
set_option maxHeartbeats 1600000 in
theorem iArr_v (A : Option Addr) (n c : Nat) (f : Nat → Aw) (w : World) (hn : n ≤ 1048576) (hA : Seen w A (AwS n f)) :
    Calls Tryz.prog 88 #[.slice A n c] w (Post (.bool (tr (aGood n f))) w) := by
  refine post_of_vc ?_
  refine calls_of_vc tb_ok (args := [.slice A n c]) Tryz.func88 rfl ?_
  (repeat' ((conv => whnf); first | refine go ?_ | (refine VSome.mk ?_; intro gQ hA'; first | subst hA' | cases hA' | (dsimp only at hA'; subst hA')) | refine And.intro ?_ ?_ | intro _))
  (conv => whnf)
  refine VLoop.mk (ι := Nat) [2, 3, 4, 7, 8, 9, 10, 11, 12, 13, 14, 15, 16, 17, 18, 19, 20, 21, 22, 23, 24, 25, 26, 27, 28, 29, 30, 31, 32, 33, 34, 35, 36, 37, 38, 39, 40, 41, 42, 43] (fun k => [(7, .int .i64 k)]) (fun _ => []) (fun k => k ≤ n ∧ ∀ i, i < k → aOk f i) (fun k => n - k) 0 ⟨Nat.zero_le _, fun i h => absurd h (by omega)⟩ ?_ (OwnLe.mk [] (by simp) rfl) (fun k u hk => ?_)
  · ((conv => whnf); repeat (first | exact trivial | refine ⟨rfl, ?_⟩ | refine ⟨congrArg (Value.int .i64) (by first | omega | assumption | exact Eq.symm (by assumption)), ?_⟩))
  obtain ⟨hk, hok⟩ := hk
  by_cases hlt : k < n
  · have e0 : aOk f k ↔ aOk f k := Iff.rfl
    conv at e0 => rhs; unfold aOk
    obtain ⟨b1, off1, rfl, hb1, hr1, _⟩ := AwS.look hA hlt
    by_cases hz : 0 < k
    · obtain ⟨b', off', e', hb', hr', m0, _⟩ := AwS.look (i := k - 1) hA (by omega)
      cases e'
      have hx : (k : Int) - 1 = ((k - 1 : Nat) : Int) := by omega
      have hp := (hok (k - 1) (by omega)).1
      (repeat' ((conv => whnf); first | refine go ?_ | (refine VSome.mk ?_; intro gQ hA'; first | subst hA' | cases hA' | (dsimp only at hA'; subst hA')) | refine And.intro ?_ ?_ | intro _ | (first | ((show VCall _ _ _ 80 _ _); refine VCall.test _ (fun w1 _ => inside_v _ _ _ w1) ?_) | ((show VCall _ _ _ 127 _ _); refine VCall.test _ (fun w1 _ => isMinute_v _ w1) ?_) | ((show VDraw _ _ _ _ _ _); refine VDraw.mk (.take 0 (.take 1 (.br 2 (.take 3 (.take 4 (.take 5 (.take 6 (.br 7 (.take 8 (.take 9 (.take 10 (.take 11 (.take 12 (.br 13 (.take 14 (.take 15 (.take 16 (.take 17 (.take 18 (.take 19 (.take 20 (.take 21 (.take 22 (.take 23 (.take 24 (.take 25 (.take 26 (.take 27 (.take 28 (.take 29 (.take 30 .done))))))))))))))))) .done)))))) .done))))) .done))) [0] (by kernel_rfl) (by kernel_rfl) ?_))))
      (all_goals (conv => whnf))
      all_goals first | ((show VNext _ _ _ _ _ _ _ _ _); (refine VNext.mk (k + 1) ⟨hlt, upto_succ hok (by rw [e0]; omega)⟩ (by omega) ?_ (OwnLe.mk [] (by simp) rfl); ((conv => whnf); repeat (first | exact trivial | refine ⟨rfl, ?_⟩ | refine ⟨congrArg (Value.int .i64) (by first | omega | assumption | exact Eq.symm (by assumption)), ?_⟩)))) | ((show VRet _ _ _ _); (refine VRet.mk fun w' m => ⟨?_, m.keeps.below⟩; rw [tr_no (aGood.no hlt (by rw [e0]; omega))]))
    · obtain rfl : k = 0 := by omega
      (repeat' ((conv => whnf); first | refine go ?_ | (refine VSome.mk ?_; intro gQ hA'; first | subst hA' | cases hA' | (dsimp only at hA'; subst hA')) | refine And.intro ?_ ?_ | intro _ | (first | ((show VCall _ _ _ 80 _ _); refine VCall.test _ (fun w1 _ => inside_v _ _ _ w1) ?_) | ((show VCall _ _ _ 127 _ _); refine VCall.test _ (fun w1 _ => isMinute_v _ w1) ?_) | ((show VDraw _ _ _ _ _ _); refine VDraw.mk (.take 0 (.take 1 (.br 2 (.take 3 (.take 4 (.take 5 (.take 6 (.br 7 (.take 8 (.take 9 (.take 10 (.take 11 (.take 12 (.br 13 (.take 14 (.take 15 (.take 16 (.take 17 (.take 18 (.take 19 (.take 20 (.take 21 (.take 22 (.take 23 (.take 24 (.take 25 (.take 26 (.take 27 (.take 28 (.take 29 (.take 30 .done))))))))))))))))) .done)))))) .done))))) .done))) [0] (by kernel_rfl) (by kernel_rfl) ?_))))
      (all_goals (conv => whnf))
      all_goals first | ((show VNext _ _ _ _ _ _ _ _ _); (refine VNext.mk (0 + 1) ⟨hlt, upto_succ hok (by rw [e0]; omega)⟩ (by omega) ?_ (OwnLe.mk [] (by simp) rfl); ((conv => whnf); repeat (first | exact trivial | refine ⟨rfl, ?_⟩ | refine ⟨congrArg (Value.int .i64) (by first | omega | assumption | exact Eq.symm (by assumption)), ?_⟩)))) | ((show VRet _ _ _ _); (refine VRet.mk fun w' m => ⟨?_, m.keeps.below⟩; rw [tr_no (aGood.no hlt (by rw [e0]; omega))]))
  · obtain rfl : k = n := by omega
    (repeat' ((conv => whnf); first | refine go ?_ | (refine VSome.mk ?_; intro gQ hA'; first | subst hA' | cases hA' | (dsimp only at hA'; subst hA')) | refine And.intro ?_ ?_ | intro _))
    all_goals ((conv => whnf); refine VRet.mk fun w' m => ?_)
    all_goals refine ⟨congrArg Value.bool ?_, m.keeps.below⟩
    all_goals first | (rw [tr_yes ⟨hok, by omega⟩]; done) | (rw [tr_no (fun h => by have := h.2; omega)]; done)
set_option maxHeartbeats 1600000 in
theorem sArr_v (A : Option Addr) (n c : Nat) (f : Nat → Aw) (w : World) (hn : n ≤ 1048576) (hA : Seen w A (AwS n f)) :
    Calls Tryz.prog 92 #[.slice A n c] w (Post (.bool (tr (aGood n f))) w) := by
  refine post_of_vc ?_
  refine calls_of_vc tb_ok (args := [.slice A n c]) Tryz.func92 rfl ?_
  (repeat' ((conv => whnf); first | refine go ?_ | (refine VSome.mk ?_; intro gQ hA'; first | subst hA' | cases hA' | (dsimp only at hA'; subst hA')) | refine And.intro ?_ ?_ | intro _))
  (conv => whnf)
  refine VLoop.mk (ι := Nat) [2, 3, 4, 5, 6, 7, 8, 9, 10, 11, 12, 13, 14, 15, 16, 17, 18, 19, 20, 21, 22, 23, 24, 25, 26, 27, 28, 29, 30, 31, 32, 33, 34, 35, 36, 37, 38, 39, 40, 41, 42, 43, 44, 45] (fun k => [(3, .int .i64 k)]) (fun _ => []) (fun k => k ≤ n ∧ ∀ i, i < k → aOk f i) (fun k => n - k) 0 ⟨Nat.zero_le _, fun i h => absurd h (by omega)⟩ ?_ (OwnLe.mk [] (by simp) rfl) (fun k u hk => ?_)
  · ((conv => whnf); repeat (first | exact trivial | refine ⟨rfl, ?_⟩ | refine ⟨congrArg (Value.int .i64) (by first | omega | assumption | exact Eq.symm (by assumption)), ?_⟩))
  obtain ⟨hk, hok⟩ := hk
  by_cases hlt : k < n
  · have e0 : aOk f k ↔ aOk f k := Iff.rfl
    conv at e0 => rhs; unfold aOk
    obtain ⟨b1, off1, rfl, hb1, hr1, _⟩ := AwS.look hA hlt
    by_cases hz : 0 < k
    · obtain ⟨b', off', e', hb', hr', m0, _⟩ := AwS.look (i := k - 1) hA (by omega)
      cases e'
      have hx : (k : Int) - 1 = ((k - 1 : Nat) : Int) := by omega
      have hp := (hok (k - 1) (by omega)).1
      (repeat' ((conv => whnf); first | refine go ?_ | (refine VSome.mk ?_; intro gQ hA'; first | subst hA' | cases hA' | (dsimp only at hA'; subst hA')) | refine And.intro ?_ ?_ | intro _ | (first | ((show VCall _ _ _ 109 _ _); refine VCall.test _ (fun w1 _ => l1In_v _ _ _ w1) ?_) | ((show VCall _ _ _ 128 _ _); refine VCall.test _ (fun w1 _ => l8Minute_v _ w1) ?_) | ((show VDraw _ _ _ _ _ _); refine VDraw.mk (.take 0 (.take 1 (.br 2 (.take 3 (.take 4 (.take 5 (.take 6 (.br 7 (.take 8 (.take 9 (.take 10 (.take 11 (.take 12 (.br 13 (.take 14 (.take 15 (.take 16 (.take 17 (.take 18 (.take 19 (.take 20 (.take 21 (.take 22 (.take 23 (.take 24 (.take 25 (.take 26 (.take 27 (.take 28 (.take 29 (.take 30 .done))))))))))))))))) .done)))))) .done))))) .done))) [0] (by kernel_rfl) (by kernel_rfl) ?_))))
      (all_goals (conv => whnf))
      all_goals first | ((show VNext _ _ _ _ _ _ _ _ _); (refine VNext.mk (k + 1) ⟨hlt, upto_succ hok (by rw [e0]; omega)⟩ (by omega) ?_ (OwnLe.mk [] (by simp) rfl); ((conv => whnf); repeat (first | exact trivial | refine ⟨rfl, ?_⟩ | refine ⟨congrArg (Value.int .i64) (by first | omega | assumption | exact Eq.symm (by assumption)), ?_⟩)))) | ((show VRet _ _ _ _); (refine VRet.mk fun w' m => ⟨?_, m.keeps.below⟩; rw [tr_no (aGood.no hlt (by rw [e0]; omega))]))
    · obtain rfl : k = 0 := by omega
      (repeat' ((conv => whnf); first | refine go ?_ | (refine VSome.mk ?_; intro gQ hA'; first | subst hA' | cases hA' | (dsimp only at hA'; subst hA')) | refine And.intro ?_ ?_ | intro _ | (first | ((show VCall _ _ _ 109 _ _); refine VCall.test _ (fun w1 _ => l1In_v _ _ _ w1) ?_) | ((show VCall _ _ _ 128 _ _); refine VCall.test _ (fun w1 _ => l8Minute_v _ w1) ?_) | ((show VDraw _ _ _ _ _ _); refine VDraw.mk (.take 0 (.take 1 (.br 2 (.take 3 (.take 4 (.take 5 (.take 6 (.br 7 (.take 8 (.take 9 (.take 10 (.take 11 (.take 12 (.br 13 (.take 14 (.take 15 (.take 16 (.take 17 (.take 18 (.take 19 (.take 20 (.take 21 (.take 22 (.take 23 (.take 24 (.take 25 (.take 26 (.take 27 (.take 28 (.take 29 (.take 30 .done))))))))))))))))) .done)))))) .done))))) .done))) [0] (by kernel_rfl) (by kernel_rfl) ?_))))
      (all_goals (conv => whnf))
      all_goals first | ((show VNext _ _ _ _ _ _ _ _ _); (refine VNext.mk (0 + 1) ⟨hlt, upto_succ hok (by rw [e0]; omega)⟩ (by omega) ?_ (OwnLe.mk [] (by simp) rfl); ((conv => whnf); repeat (first | exact trivial | refine ⟨rfl, ?_⟩ | refine ⟨congrArg (Value.int .i64) (by first | omega | assumption | exact Eq.symm (by assumption)), ?_⟩)))) | ((show VRet _ _ _ _); (refine VRet.mk fun w' m => ⟨?_, m.keeps.below⟩; rw [tr_no (aGood.no hlt (by rw [e0]; omega))]))
  · obtain rfl : k = n := by omega
    (repeat' ((conv => whnf); first | refine go ?_ | (refine VSome.mk ?_; intro gQ hA'; first | subst hA' | cases hA' | (dsimp only at hA'; subst hA')) | refine And.intro ?_ ?_ | intro _))
    all_goals ((conv => whnf); refine VRet.mk fun w' m => ?_)
    all_goals refine ⟨congrArg Value.bool ?_, m.keeps.below⟩
    all_goals first | (rw [tr_yes ⟨hok, by omega⟩]; done) | (rw [tr_no (fun h => by have := h.2; omega)]; done)
end Go.Proofs.YtadjhkehfklmnaaGreatDoor
namespace Go.Proofs.YtadjhkehfklmnaaGreatDoor
set_option linter.unusedSimpArgs false
set_option linter.unusedVariables false
open Go.RowKit
set_option maxRecDepth 10000
def Co.du (d : Co) : List UInt8 := d.log.durable.data.toList
def Co.pe (d : Co) : List UInt8 := d.log.pending.data.toList
theorem Co.du_tx (d : Co) : tx d.du = d.log.durable := tx_list _
theorem Co.pe_tx (d : Co) : tx d.pe = d.log.pending := tx_list _
theorem Co.du_len (d : Co) : d.du.length = d.log.durable.size := by rw [← d.du_tx, tx_size]
theorem Co.pe_len (d : Co) : d.pe.length = d.log.pending.size := by rw [← d.pe_tx, tx_size]
def Co.good (d : Co) : Prop := d.lock.safe ∧ bGood d.n d.ba ∧ aGood d.m d.wa ∧ okL d.du d.pe d.log.count
set_option maxHeartbeats 1600000 in
theorem iCon_v (A B : Option Addr) (c e : Nat) (d : Co) (w : World) (hn : d.n ≤ 1048576) (hm : d.m ≤ 1048576) (hd : d.log.durable.size ≤ 1048576) (hp : d.log.pending.size ≤ 1048576) (ht : PTab w) (hA : Seen w A (BaS d.n d.ba)) (hB : Seen w B (AwS d.m d.wa)) :
    Calls Tryz.prog 39 #[.agg (d.at A c B e).toArray] w (Post (.bool (tr d.good)) w) := by
  have hL := fun w ht => iLog_v d.du d.pe d.log.count w (by rw [d.du_len]; omega) (by rw [d.pe_len]; omega) ht
  rw [d.du_tx, d.pe_tx] at hL
  refine post_of_vc ?_
  refine calls_of_vc tb_ok (args := [.agg (d.at A c B e).toArray]) Tryz.func39 rfl ?_
  (repeat' ((conv => whnf); first | refine go ?_ | (refine VSome.mk ?_; intro gQ hA'; first | subst hA' | cases hA' | (dsimp only at hA'; subst hA')) | refine And.intro ?_ ?_ | intro _ | (first | ((show VCall _ _ _ 87 _ _); refine VCall.test _ (fun w1 _ => iSafe_v d.lock w1) ?_) | ((show VCall _ _ _ 69 _ _); refine VCall.test _ (fun w1 m1 => iBas_v A d.n c d.ba w1 hn seenA) ?_) | ((show VCall _ _ _ 88 _ _); refine VCall.test _ (fun w1 m1 => iArr_v B d.m e d.wa w1 hm seenA) ?_) | ((show VCall _ _ _ 79 _ _); refine VCall.test _ (fun w1 m1 => hL w1 (ht.on m1)) ?_))))
  all_goals ((conv => whnf); refine VRet.mk fun w' m => ?_)
  all_goals refine ⟨congrArg Value.bool ?_, m.keeps.below⟩
  all_goals first | (rw [tr_yes ⟨by assumption, by assumption, by assumption, by assumption⟩]; done) | (rw [tr_no (fun ⟨z1, z2, z3, z4⟩ => by contradiction)]; done)
set_option maxHeartbeats 1600000 in
theorem sG28_v (A B : Option Addr) (c e : Nat) (d : Co) (w : World) (hn : d.n ≤ 1048576) (hm : d.m ≤ 1048576) (hd : d.log.durable.size ≤ 1048576) (hp : d.log.pending.size ≤ 1048576) (hA : Seen w A (BaS d.n d.ba)) (hB : Seen w B (AwS d.m d.wa)) :
    Calls Tryz.prog 45 #[.agg (d.at A c B e).toArray] w (Post (.bool (tr d.good)) w) := by
  have hL := fun w => sLog_v d.du d.pe d.log.count w (by rw [d.du_len]; omega) (by rw [d.pe_len]; omega)
  rw [d.du_tx, d.pe_tx] at hL
  refine post_of_vc ?_
  refine calls_of_vc tb_ok (args := [.agg (d.at A c B e).toArray]) Tryz.func45 rfl ?_
  (repeat' ((conv => whnf); first | refine go ?_ | (refine VSome.mk ?_; intro gQ hA'; first | subst hA' | cases hA' | (dsimp only at hA'; subst hA')) | refine And.intro ?_ ?_ | intro _ | (first | ((show VCall _ _ _ 91 _ _); refine VCall.test _ (fun w1 _ => sSafe_v d.lock w1) ?_) | ((show VCall _ _ _ 72 _ _); refine VCall.test _ (fun w1 m1 => sBas_v A d.n c d.ba w1 hn seenA) ?_) | ((show VCall _ _ _ 92 _ _); refine VCall.test _ (fun w1 m1 => sArr_v B d.m e d.wa w1 hm seenA) ?_) | ((show VCall _ _ _ 66 _ _); refine VCall.test _ (fun w1 m1 => hL w1) ?_))))
  all_goals ((conv => whnf); refine VRet.mk fun w' m => ?_)
  all_goals refine ⟨congrArg Value.bool ?_, m.keeps.below⟩
  all_goals first | (rw [tr_yes ⟨by assumption, by assumption, by assumption, by assumption⟩]; done) | (rw [tr_no (fun ⟨z1, z2, z3, z4⟩ => by contradiction)]; done)
end Go.Proofs.YtadjhkehfklmnaaGreatDoor
namespace Go.Proofs.YtadjhkehfklmnaaGreatDoor
set_option linter.unusedSimpArgs false
set_option linter.unusedVariables false
open Go.RowKit
set_option maxRecDepth 10000
def Lo.high (s : Lo) : Bool := decide (s.upper - s.level < s.level - s.lower)
noncomputable def plc (f : Nat → Aw) (x : Int) : Nat → Nat → Nat
  | 0, k => k
  | d + 1, k => if tr ((f k).id < x) then plc f x d (k + 1) else k
theorem plc_go {f : Nat → Aw} {x : Int} {d k : Nat} (h : (f k).id < x) : plc f x (d + 1) k = plc f x d (k + 1) := by
  show (if tr ((f k).id < x) then _ else _) = _
  rw [tr_yes h]; rfl
theorem plc_stop {f : Nat → Aw} {x : Int} {d k : Nat} (h : ¬ (f k).id < x) : plc f x (d + 1) k = k := by
  show (if tr ((f k).id < x) then _ else _) = _
  rw [tr_no h]; rfl
def Co.arr (d : Co) (k : Nat) (a : Aw) : Co := { d with m := d.m + 1, wa := insF d.wa k a }
def Co.lve (d : Co) (k : Nat) : Co := { d with m := d.m - 1, wa := delF d.wa k }
noncomputable def fnd (f : Nat → Aw) (x : Int) : Nat → Option Nat
  | 0 => none
  | k + 1 => match fnd f x k with
    | some i => some i
    | none => if tr ((f k).id = x) then some k else none
theorem fnd_some {f : Nat → Aw} {x : Int} {i : Nat} : ∀ {k : Nat}, fnd f x k = some i → i < k ∧ (f i).id = x ∧ ∀ j, j < i → ¬ (f j).id = x
  | 0, h => by cases h
  | k + 1, h => by
    unfold fnd at h
    cases e : fnd f x k with
    | some i' =>
      rw [e] at h
      cases h
      obtain ⟨h1, h2, h3⟩ := fnd_some e
      exact ⟨by omega, h2, h3⟩
    | none =>
      rw [e] at h
      by_cases hx : (f k).id = x
      · rw [tr_yes hx] at h
        cases h
        refine ⟨Nat.lt_succ_self _, hx, fun j hj e2 => ?_⟩
        have : ∀ {m : Nat}, fnd f x m = none → ∀ j, j < m → ¬ (f j).id = x := by
          intro m
          induction m with
          | zero => exact fun _ j hj => absurd hj (Nat.not_lt_zero j)
          | succ m ih =>
            intro h j hj
            unfold fnd at h
            cases e3 : fnd f x m with
            | some i => rw [e3] at h; cases h
            | none =>
              rw [e3] at h
              by_cases hm : (f m).id = x
              · rw [tr_yes hm] at h; cases h
              · rcases Nat.lt_or_ge j m with h4 | h4
                · exact ih e3 j h4
                · obtain rfl : j = m := by omega
                  exact hm
        exact this e j hj e2
      · rw [tr_no hx] at h; cases h
theorem fnd_none {f : Nat → Aw} {x : Int} : ∀ {m : Nat}, fnd f x m = none → ∀ j, j < m → ¬ (f j).id = x := by
  intro m
  induction m with
  | zero => exact fun _ j hj => absurd hj (Nat.not_lt_zero j)
  | succ m ih =>
    intro h j hj
    unfold fnd at h
    cases e3 : fnd f x m with
    | some i => rw [e3] at h; cases h
    | none =>
      rw [e3] at h
      by_cases hm : (f m).id = x
      · rw [tr_yes hm] at h; cases h
      · rcases Nat.lt_or_ge j m with h4 | h4
        · exact ih e3 j h4
        · obtain rfl : j = m := by omega
          exact hm
theorem fnd_is {f : Nat → Aw} {x : Int} {i m : Nat} (hi : i < m) (h : (f i).id = x) (hn : ∀ j, j < i → ¬ (f j).id = x) : fnd f x m = some i := by
  cases e : fnd f x m with
  | none => exact absurd h (fnd_none e i hi)
  | some j =>
    obtain ⟨h1, h2, h3⟩ := fnd_some e
    rcases Nat.lt_trichotomy i j with h4 | h4 | h4
    · exact absurd h (h3 i h4)
    · rw [h4]
    · exact absurd h2 (hn j h4)
def a0 (l : List Int) (k : Nat) : Int := l.getD k 0
def isOne (x : Int) : Bool := decide (x = 1)
def idsOf (f : Nat → Aw) (p : List Nat) : List Int := p.map fun i => (f i).id
noncomputable def Co.ex (d : Co) (w : List UInt8) (l : List Int) : Option (Co × List UInt8) :=
  if w = wStep then (if tr (d.lock.okStep (a0 l 0)) then some ({ d with lock := d.lock.move (a0 l 0) }, wOk) else none)
  else if w = wGo then some ({ d with lock := (d.lock.run (d.lock.plan (isOne (a0 l 0)))).1 }, Lib.itoa (d.lock.run (d.lock.plan (isOne (a0 l 0)))).1.level)
  else if w = wPlan then some (d, ltx (d.lock.plan (isOne (a0 l 0))))
  else if w = wHead then some (d, Lib.itoa (d.lock.head (isOne (a0 l 0))))
  else if w = wLevel then some (d, Lib.itoa d.lock.level)
  else if w = wFlow then (if tr (bCan d.n d.ba (a0 l 0) (a0 l 1) (a0 l 2)) then some ({ d with ba := bMv d.ba (a0 l 0) (a0 l 1) (a0 l 2) }, wOk) else none)
  else if w = wWater then some (d, Lib.itoa (smI (fun i => (d.ba i).vol) d.n))
  else if w = wArrive then (if tr (aGood (d.m + 1) (insF d.wa (plc d.wa (a0 l 0) d.m 0) ⟨a0 l 0, isOne (a0 l 1), a0 l 2, a0 l 3⟩)) then some (d.arr (plc d.wa (a0 l 0) d.m 0) ⟨a0 l 0, isOne (a0 l 1), a0 l 2, a0 l 3⟩, wOk) else none)
  else if w = wLeave then (match fnd d.wa (a0 l 0) d.m with
    | some k => some (d.lve k, wOk)
    | none => none)
  else if tr (1 ≤ a0 l 0 ∧ a0 l 0 ≤ 60) then
    (if w = wBound then some (d, Lib.itoa (loB d.wa (a0 l 0) d.lock.high d.m))
    else if w = wDelay then some (d, Lib.itoa (best d.m d.wa (a0 l 0) d.lock.high d.m []).2)
    else some (d, ltx (idsOf d.wa (best d.m d.wa (a0 l 0) d.lock.high d.m []).1)))
  else none
noncomputable def Co.cmd (d : Co) (line : List UInt8) : Co × List UInt8 := match parse line with
  | some (w, l) => (match d.ex w l with
    | some r => r
    | none => (d, wAsk))
  | none => (d, wAsk)
def cutR (r : List UInt8) : List UInt8 := if 200 < r.length then wLong else r
def Co.logged (d : Co) (c : Co) (x r : List UInt8) : Co := { d with log := ⟨c.log.durable, tx (c.pe ++ (ln c.log.count.toNat x r ++ [10])), c.log.count + 1⟩ }
noncomputable def Co.exec (d : Co) (line : List UInt8) : Co × List UInt8 :=
  if tr d.good then (if tr (okR line []) then (if d.log.count = 60 then (d, wFull) else ((d.cmd line).1.logged d line (cutR (d.cmd line).2), cutR (d.cmd line).2)) else (d, wBad)) else (d, wNo)
theorem Co.exec_no {d : Co} {line : List UInt8} (h : ¬ d.good) : d.exec line = (d, wNo) := by unfold Co.exec; rw [tr_no h]; rfl
theorem Co.exec_bad {d : Co} {line : List UInt8} (h : d.good) (h2 : ¬ okR line []) : d.exec line = (d, wBad) := by unfold Co.exec; rw [tr_yes h, tr_no h2]; rfl
theorem Co.exec_full {d : Co} {line : List UInt8} (h : d.good) (h2 : okR line []) (h3 : d.log.count = 60) : d.exec line = (d, wFull) := by unfold Co.exec; rw [tr_yes h, tr_yes h2]; exact if_pos h3
theorem Co.exec_yes {d : Co} {line : List UInt8} (h : d.good) (h2 : okR line []) (h3 : ¬ d.log.count = 60) : d.exec line = ((d.cmd line).1.logged d line (cutR (d.cmd line).2), cutR (d.cmd line).2) := by unfold Co.exec; rw [tr_yes h, tr_yes h2]; exact if_neg h3
end Go.Proofs.YtadjhkehfklmnaaGreatDoor
namespace Go.Proofs.YtadjhkehfklmnaaGreatDoor
set_option linter.unusedSimpArgs false
set_option linter.unusedVariables false
open Go.ChangeShapes Go.WideShapes Go.ChangeAt Go.RowKit
set_option maxRecDepth 10000
theorem okL_app {d p x r : List UInt8} {k : Nat} (h : okL d p k) (hg : okR x r) (hk : ¬ k = 60) :
    okL d (p ++ (ln k x r ++ [10])) ((k : Int) + 1) ∧ cnt (d ++ p) = k ∧ cnt (d ++ (p ++ (ln k x r ++ [10]))) = k + 1 ∧ (∀ i, i < k → rcd (d ++ (p ++ (ln k x r ++ [10]))) i = rcd (d ++ p) i) ∧ rcd (d ++ (p ++ (ln k x r ++ [10]))) k = ⟨tx x, tx r⟩ ∧ ends (d ++ (p ++ (ln k x r ++ [10]))) (k + 1) = (d ++ (p ++ (ln k x r ++ [10]))).length ∧ k < 60 := by
  obtain ⟨h1, h2, h3⟩ := h
  have hc : cnt (d ++ p) = k := by omega
  have h60 := cnt_le (d ++ p)
  have hlt : k < 60 := by omega
  rw [hc] at h1
  have e : d ++ (p ++ (ln k x r ++ [10])) = (d ++ p) ++ (ln k x r ++ [10]) := (List.append_assoc _ _ _).symm
  unfold okL
  rw [e]
  clear e h2 h60
  generalize d ++ p = s at h1 hc
  have he : ends (s ++ (ln k x r ++ [10])) k = s.length := by rw [app_ends (by omega), h1]
  have hd : (s ++ (ln k x r ++ [10])).drop s.length = ln k x r ++ [10] := by simp
  have hln := ln_line (k := k) hg
  have hb := bfs_at (c := 10) (p := ln k x r) (q := []) hln
  have hlin : lin (s ++ (ln k x r ++ [10])) s.length = ln k x r := by unfold lin; rw [hd]; exact hb.1
  have hst : step (s ++ (ln k x r ++ [10])) k := ⟨hlt, by rw [he, hd]; simp, by rw [he, hlin]; exact (okp_ln hg).1⟩
  have he1 : ends (s ++ (ln k x r ++ [10])) (k + 1) = (s ++ (ln k x r ++ [10])).length := by
    show ends (s ++ (ln k x r ++ [10])) k + (lin (s ++ (ln k x r ++ [10])) (ends (s ++ (ln k x r ++ [10])) k)).length + 1 = _
    rw [he, hlin]
    simp
    omega
  have hcnt : cnt (s ++ (ln k x r ++ [10])) = k + 1 := cnt_is (fun j hj => by
    rcases Nat.lt_or_ge j k with h | h
    · exact (step_app (app_ends (by omega)) (cnt_step (by omega))).1
    · rw [show j = k by omega]; exact hst) (step_end (by omega))
  refine ⟨⟨?_, ?_, h3⟩, hc, hcnt, fun i hi => ?_, ?_, he1, hlt⟩
  · rw [hcnt, he1]
  · rw [hcnt]; rfl
  · have hi2 := cnt_step (s := s) (j := i) (by omega)
    unfold rcd
    rw [app_ends (by omega), (lin_app hi2.2.1).1]
  · unfold rcd
    rw [he, hlin, (okp_ln hg).2.1, (okp_ln hg).2.2]
end Go.Proofs.YtadjhkehfklmnaaGreatDoor
