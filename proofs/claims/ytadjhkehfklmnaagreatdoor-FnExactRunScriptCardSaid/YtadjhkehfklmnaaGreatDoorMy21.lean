/-
  Texts joined: how the calls that the law reaches are walked, and the plain laws behind them.
  Conditions: none beyond each statement's own premises.
-/
import Derived.Test.YtadjhkehfklmnaaGreatDoorMy20
import Derived.Test.YtadjhkehfklmnaaGreatDoorCards
import Derived.Test.YtadjhkehfklmnaaGreatDoorTie
import Derived.LaidLaws
import Derived.LaidHandle
import Derived.Lib.LaidTab
import Derived.Lib.LaidIn
import Derived.Stop.LaidErr
import Derived.SevenTiedAt
import Derived.Handed
namespace Go.Proofs.YtadjhkehfklmnaaGreatDoor
set_option linter.unusedSimpArgs false
set_option linter.unusedVariables false
open Go.RowKit
set_option maxRecDepth 10000
theorem split10_v (l : List UInt8) (w : World) (hl : l.length ≤ 1048576) (ht : PT2 w) : Calls Tryz.prog 48 #[.string (tx l), .string (tx [10])] w fun e w' => ∃ v, e = .returned v ∧ RetV (ι := Nat) (fun _ => True) (fun g => .slice (some ⟨g, 0, none⟩) (sps 10 l).length (sps 10 l).length) (fun g => [.row (.slice (some ⟨g, 0, none⟩) (sps 10 l).length (sps 10 l).length) 9 1 (sps 10 l).length (TS (sps 10 l))]) (Base.of w) v w' := by
  obtain ⟨_, ⟨x, h2⟩, _⟩ := ht
  have hs := splitB_sps 10 l
  have hlen : (sps 10 l).length = Lib.countB (tx l) (tx [10]) + 1 := by
    have := Lib.splitB_all (tx [10]) (by rw [tx_size]; decide) 0 (Lib.countB (tx l) (tx [10])) (tx l) rfl
    rw [hs, List.length_map] at this
    exact this
  refine (Tryz.strings_Split (tx l) (tx [10]) x w (by rw [tx_size]; omega) h2 (by rw [tx_size]; decide)).mono fun e w' ⟨he, hw⟩ => ⟨_, he, w.heap.size, trivial, by rw [hlen], ?_⟩
  rw [hs, TS_tx] at hw
  rw [hw]
  have m := (Mem.init (Base.of w)).alloc 9 (TS (sps 10 l))
  have hx := sps_len 10 l
  exact Mem.turnRow (k := 0) rfl (TS_len1 _) (by unfold maxLen; omega) m
def lnL (t : List UInt8) (k : Nat) : List UInt8 := (sps 10 t).getD k []
noncomputable def Co.rps (d : Co) (x : Nat → List UInt8) (k : Nat) : List (List UInt8) := (List.range k).map (d.rp x)
theorem Co.rps_suc (d : Co) (x : Nat → List UInt8) (k : Nat) : d.rps x (k + 1) = d.rps x k ++ [d.rp x k] := by unfold Co.rps; rw [List.range_succ, List.map_append]; rfl
theorem Co.rps_len (d : Co) (x : Nat → List UInt8) (k : Nat) : (d.rps x k).length = k := by unfold Co.rps; simp
def okS (d : Co) (t : List UInt8) : Prop := d.good ∧ t.length ≤ 4000 ∧ (sps 10 t).length ≤ 30
noncomputable def rsV (d : Co) (t : List UInt8) : List (List UInt8) × Bool := if tr (okS d t) = true then (d.rps (lnL t) (sps 10 t).length, true) else ([], false)
theorem rsV_yes {d : Co} {t : List UInt8} (h : okS d t) : rsV d t = (d.rps (lnL t) (sps 10 t).length, true) := ite_tr h
theorem rsV_no {d : Co} {t : List UInt8} (h : ¬ okS d t) : rsV d t = ([], false) := ite_ntr h
theorem lnL_len (t : List UInt8) (k : Nat) : (lnL t k).length ≤ t.length := by
  unfold lnL
  rw [List.getD_eq_getElem?_getD]
  cases e : (sps 10 t)[k]? with
  | none => exact Nat.zero_le _
  | some p => exact (sps_total 10 _ t (Nat.le_refl _) p (List.mem_of_getElem? e)).1
theorem TS_at {l : List (List UInt8)} {k o : Nat} (h : k < l.length) (e : o = k) : (TS l)[o]? = some (.string (tx (l.getD k []))) := by
  subst e
  unfold TS
  rw [List.getElem?_map, List.getD_eq_getElem?_getD, List.getElem?_eq_getElem h]
  rfl
set_option maxHeartbeats 16000000 in
theorem iScript_v (A1 A2 : Option Addr) (c1 c2 : Nat) (d : Co) (t : List UInt8) (w : World) (hs : d.small) (hl : t.length ≤ 1048576) (ht : PT2 w) (hA : Seen w A1 (BaS d.n d.ba)) (hB : Seen w A2 (AwS d.m d.wa)) (hP : Plain A1) (hQ : Plain A2) :
    Calls Tryz.prog 12 #[.agg (d.at A1 c1 A2 c2).toArray, .string (tx t)] w fun e w' => ∃ v, e = .returned v ∧ RetV (ι := Option Addr × Nat) (fun _ => True) (fun (P, cp) => .tuple #[.slice P (rsV d t).1.length cp, .bool (rsV d t).2]) (fun (P, cp) => [.row (.slice P (rsV d t).1.length cp) 9 1 (rsV d t).1.length (TS (rsV d t).1)]) (Base.of w) v w' := by
  obtain ⟨hn, hm, hd, hp⟩ := id hs
  have hsz := tx_size t
  have hG := fun w ht hA hB => iCon_v A1 A2 c1 c2 d w hn hm hd hp ht hA hB
  have hS := fun w ht => split10_v t w hl ht
  by_cases hg : d.good
  · rw [tr_yes hg] at hG
    by_cases h4 : t.length ≤ 4000
    · by_cases h30 : (sps 10 t).length ≤ 30
      · rw [rsV_yes ⟨hg, h4, h30⟩]
        dsimp only
        rw [Co.rps_len]
        have hE := fun k A B c e w ht hA hB hP hQ => iExec_v A B c e (d.st (lnL t) k) (lnL t k) w (Co.st_small hs _ k) (by have := lnL_len t k; omega) ht hA hB hP hQ
        replace hE : ∀ k A B c e w, PT2 w → Seen w A (BaS (d.st (lnL t) k).n (d.st (lnL t) k).ba) → Seen w B (AwS (d.st (lnL t) k).m (d.st (lnL t) k).wa) → Plain A → Plain B → Calls Tryz.prog 29 #[.agg ((d.st (lnL t) k).at A c B e).toArray, .string (tx (lnL t k))] w fun e w' => ∃ v, e = .returned v ∧ RetV (fun _ => True) (fun i => .tuple #[(d.st (lnL t) (k + 1)).cv i, .string (tx (d.rp (lnL t) k))]) (d.st (lnL t) (k + 1)).cn (Base.of w) v w' := hE
        have hx : ∀ k, k < (sps 10 t).length → (TS (sps 10 t))[mulS k 1]? = some (.string (tx (lnL t k))) := fun k hk => TS_at hk (by rw [mulS_eq, Nat.mul_one])
        have hx0 : ∀ k, k < (sps 10 t).length → (TS (sps 10 t))[0 + mulS k 1]? = some (.string (tx (lnL t k))) := fun k hk => TS_at hk (by rw [mulS_eq, Nat.mul_one, Nat.zero_add])
        refine calls_of_vc tb_ok (args := [.agg (d.at A1 c1 A2 c2).toArray, .string (tx t)]) Tryz.func12 rfl ?_
        (repeat' ((conv => whnf); first | refine go ?_ | (refine VSome.mk ?_; intro gQ hA'; first | subst hA' | cases hA' | (dsimp only at hA'; subst hA')) | refine And.intro ?_ ?_ | intro _))
        (conv => whnf)
        rename_i gb
        (repeat' ((conv => whnf); first | refine go ?_ | (refine VSome.mk ?_; intro gQ hA'; first | subst hA' | cases hA' | (dsimp only at hA'; subst hA')) | refine And.intro ?_ ?_ | intro _ | (first | ((show VCall _ _ _ 39 _ _); refine VCall.grow _ (fun w1 m1 => hG w1 (ht.on m1).1 seenA seenA) ?_) | ((show VCall _ _ _ 48 _ _); refine VCall.ret (fun w1 m1 => hS w1 (ht.on m1)) (fun g9 _ => ?_)))))
        (conv => whnf)
        rename_i gq
        refine VLoop.mk (ι := Nat × Option Addr × Nat × Sl2) [7, 9, 10, 11, 28, 29, 30, 31, 32, 33, 34, 35, 36, 37, 38, 39, 40, 41, 42, 43] (fun (k, Q, cq, _) => [(28, .int .i64 k), (7, .slice Q k cq)]) (fun (k, Q, cq, (A, c), B, e) => [.blk gb 39 ((d.st (lnL t) k).at A c B e), .row (.slice (some ⟨g9, 0, none⟩) (sps 10 t).length (sps 10 t).length) 9 1 (sps 10 t).length (TS (sps 10 t)), .row (.slice Q k cq) 9 1 k (TS (d.rps (lnL t) k)), match k with | 0 => .gone | k + 1 => .row (.slice A (d.st (lnL t) (k + 1)).n c) 96 3 (d.st (lnL t) (k + 1)).n (BaS (d.st (lnL t) (k + 1)).n (d.st (lnL t) (k + 1)).ba), match k with | 0 => .gone | k + 1 => .row (.slice B (d.st (lnL t) (k + 1)).m e) 98 4 (d.st (lnL t) (k + 1)).m (AwS (d.st (lnL t) (k + 1)).m (d.st (lnL t) (k + 1)).wa)]) (fun i => i.1 ≤ (sps 10 t).length ∧ (i.1 = 0 → i.2.2.2 = ((A1, c1), A2, c2))) (fun i => (sps 10 t).length - i.1) (0, some ⟨gq, 0, none⟩, 0, (A1, c1), A2, c2) ⟨Nat.zero_le _, fun _ => rfl⟩ ?_ (OwnLe.mk [0, 1, 2, 100, 101] (by simp) rfl) (fun i u hi => ?_)
        · ((conv => whnf); repeat (first | exact trivial | refine ⟨rfl, ?_⟩ | refine ⟨congrArg (Value.int .i64) (by first | omega | assumption | exact Eq.symm (by assumption)), ?_⟩))
        obtain ⟨k, Q, cq, ⟨A, c⟩, B, e⟩ := i
        obtain ⟨hk, h0⟩ := hi
        replace hk : k ≤ (sps 10 t).length := hk
        replace h0 : k = 0 → ((A, c), B, e) = ((A1, c1), A2, c2) := h0
        by_cases hlt : k < (sps 10 t).length
        · have a1 := hx k hlt
          have a2 := hx0 k hlt
          have hr : TS (d.rps (lnL t) (k + 1)) = TS (d.rps (lnL t) k) ++ [.string (tx (d.rp (lnL t) k))] := by rw [Co.rps_suc]; simp [TS]
          cases k with
          | zero =>
            cases h0 rfl
            ((conv => whnf); try dsimp only)
            (repeat' ((conv => whnf); first | refine go ?_ | (refine VSome.mk ?_; intro gQ hA'; first | subst hA' | cases hA' | (dsimp only at hA'; subst hA')) | refine And.intro ?_ ?_ | intro _ | (first | ((show VCall _ _ _ 29 _ _); refine VCall.ret (fun w1 m1 => hE 0 _ _ _ _ w1 (ht.on m1) seenA seenA hP hQ) (fun i _ => ?_); obtain ⟨⟨A9, c9⟩, B9, e9⟩ := i) | ((show VApp _ _ _ _ _ _ _); (apply VApp.pushAny; (focus ((repeat (first | exact At.here | apply At.there)); done)); (focus ((repeat (first | exact At.here | apply At.there)); done)); refine VAppPush.mk rfl rfl (by omega) (fun A' c' => ?_))))))
            all_goals (conv => whnf)
            all_goals (refine VNext.mk (1, A', c', (A9, c9), B9, e9) ⟨hlt, fun h => absurd h (Nat.succ_ne_zero 0)⟩ (by show _ - 1 < _ - 0; omega) ?_ (OwnLe.mk [0, 1, 2, 5, 6] (by simp) (by show [_, _, Own.row _ _ _ _ (TS (d.rps (lnL t) (0 + 1))), _, _] = _; rw [hr]; rfl)); ((conv => whnf); repeat (first | exact trivial | refine ⟨rfl, ?_⟩ | refine ⟨congrArg (Value.int .i64) (by first | omega | assumption | exact Eq.symm (by assumption)), ?_⟩)))
          | succ k =>
            ((conv => whnf); try dsimp only)
            (repeat' ((conv => whnf); first | refine go ?_ | (refine VSome.mk ?_; intro gQ hA'; first | subst hA' | cases hA' | (dsimp only at hA'; subst hA')) | refine And.intro ?_ ?_ | intro _ | (first | ((show VCall _ _ _ 29 _ _); refine VCall.ret (fun w1 m1 => hE (k + 1) _ _ _ _ w1 (ht.on m1) seenA seenA (m1.plain fndA) (m1.plain fndA)) (fun i _ => ?_); obtain ⟨⟨A9, c9⟩, B9, e9⟩ := i) | ((show VApp _ _ _ _ _ _ _); (apply VApp.pushAny; (focus ((repeat (first | exact At.here | apply At.there)); done)); (focus ((repeat (first | exact At.here | apply At.there)); done)); refine VAppPush.mk rfl rfl (by omega) (fun A' c' => ?_))))))
            all_goals (conv => whnf)
            all_goals (refine VNext.mk (k + 1 + 1, A', c', (A9, c9), B9, e9) ⟨hlt, fun h => absurd h (Nat.succ_ne_zero _)⟩ (by show _ - (k + 1 + 1) < _ - (k + 1); omega) ?_ (OwnLe.mk [0, 1, 2, 5, 6] (by simp) (by show [_, _, Own.row _ _ _ _ (TS (d.rps (lnL t) (k + 1 + 1))), _, _] = _; rw [hr]; rfl)); ((conv => whnf); repeat (first | exact trivial | refine ⟨rfl, ?_⟩ | refine ⟨congrArg (Value.int .i64) (by first | omega | assumption | exact Eq.symm (by assumption)), ?_⟩)))
        · obtain rfl : k = (sps 10 t).length := by omega
          ((conv => whnf); try dsimp only)
          (repeat' ((conv => whnf); first | refine go ?_ | (refine VSome.mk ?_; intro gQ hA'; first | subst hA' | cases hA' | (dsimp only at hA'; subst hA')) | refine And.intro ?_ ?_ | intro _))
          (conv => whnf)
          exact VRet.sel (Q, cq) trivial rfl [2] (by simp) rfl
      · rw [rsV_no (fun q => h30 q.2.2)]
        refine calls_of_vc tb_ok (args := [.agg (d.at A1 c1 A2 c2).toArray, .string (tx t)]) Tryz.func12 rfl ?_
        (repeat' ((conv => whnf); first | refine go ?_ | (refine VSome.mk ?_; intro gQ hA'; first | subst hA' | cases hA' | (dsimp only at hA'; subst hA')) | refine And.intro ?_ ?_ | intro _ | (first | ((show VCall _ _ _ 39 _ _); refine VCall.grow _ (fun w1 m1 => hG w1 (ht.on m1).1 seenA seenA) ?_) | ((show VCall _ _ _ 48 _ _); refine VCall.ret (fun w1 m1 => hS w1 (ht.on m1)) (fun g9 _ => ?_)))))
        (conv => whnf)
        refine ⟨fun w m => ⟨(none, 0), trivial, rfl, ?_⟩⟩
        exact (m.sel (ks := []) (by simp)).pushNil _ _
    · rw [rsV_no (fun q => h4 q.2.1)]
      refine calls_of_vc tb_ok (args := [.agg (d.at A1 c1 A2 c2).toArray, .string (tx t)]) Tryz.func12 rfl ?_
      (repeat' ((conv => whnf); first | refine go ?_ | (refine VSome.mk ?_; intro gQ hA'; first | subst hA' | cases hA' | (dsimp only at hA'; subst hA')) | refine And.intro ?_ ?_ | intro _ | (first | ((show VCall _ _ _ 39 _ _); refine VCall.grow _ (fun w1 m1 => hG w1 (ht.on m1).1 seenA seenA) ?_))))
      (conv => whnf)
      refine ⟨fun w m => ⟨(none, 0), trivial, rfl, ?_⟩⟩
      exact (m.sel (ks := []) (by simp)).pushNil _ _
  · rw [tr_no hg] at hG
    rw [rsV_no (fun q => hg q.1)]
    refine calls_of_vc tb_ok (args := [.agg (d.at A1 c1 A2 c2).toArray, .string (tx t)]) Tryz.func12 rfl ?_
    (repeat' ((conv => whnf); first | refine go ?_ | (refine VSome.mk ?_; intro gQ hA'; first | subst hA' | cases hA' | (dsimp only at hA'; subst hA')) | refine And.intro ?_ ?_ | intro _ | (first | ((show VCall _ _ _ 39 _ _); refine VCall.grow _ (fun w1 m1 => hG w1 (ht.on m1).1 seenA seenA) ?_))))
    (conv => whnf)
    refine ⟨fun w m => ⟨(none, 0), trivial, rfl, ?_⟩⟩
    exact (m.sel (ks := []) (by simp)).pushNil _ _
set_option maxHeartbeats 16000000 in
theorem sScript_v (A1 A2 : Option Addr) (c1 c2 : Nat) (d : Co) (t : List UInt8) (w : World) (hs : d.small) (hl : t.length ≤ 1048576) (hA : Seen w A1 (BaS d.n d.ba)) (hB : Seen w A2 (AwS d.m d.wa)) (hP : Plain A1) (hQ : Plain A2) :
    Calls Tryz.prog 10 #[.agg (d.at A1 c1 A2 c2).toArray, .string (tx t)] w fun e w' => ∃ v, e = .returned v ∧ RetV (ι := Option Addr × Nat) (fun _ => True) (fun (P, cp) => .tuple #[.slice P (rsV d t).1.length cp, .bool (rsV d t).2]) (fun (P, cp) => [.row (.slice P (rsV d t).1.length cp) 9 1 (rsV d t).1.length (TS (rsV d t).1)]) (Base.of w) v w' := by
  obtain ⟨hn, hm, hd, hp⟩ := id hs
  have hsz := tx_size t
  have hG := fun w hA hB => sG28_v A1 A2 c1 c2 d w hn hm hd hp hA hB
  have hS := fun x w (hx : x = 10) => l1Split_v 10 x t w hx (by omega)
  by_cases hg : d.good
  · rw [tr_yes hg] at hG
    by_cases h4 : t.length ≤ 4000
    · by_cases h30 : (sps 10 t).length ≤ 30
      · rw [rsV_yes ⟨hg, h4, h30⟩]
        dsimp only
        rw [Co.rps_len]
        have hE := fun k A B c e w hA hB hP hQ => sExec_v A B c e (d.st (lnL t) k) (lnL t k) w (Co.st_small hs _ k) (by have := lnL_len t k; omega) hA hB hP hQ
        replace hE : ∀ k A B c e w, Seen w A (BaS (d.st (lnL t) k).n (d.st (lnL t) k).ba) → Seen w B (AwS (d.st (lnL t) k).m (d.st (lnL t) k).wa) → Plain A → Plain B → Calls Tryz.prog 38 #[.agg ((d.st (lnL t) k).at A c B e).toArray, .string (tx (lnL t k))] w fun e w' => ∃ v, e = .returned v ∧ RetV (fun _ => True) (fun i => .tuple #[(d.st (lnL t) (k + 1)).cv i, .string (tx (d.rp (lnL t) k))]) (d.st (lnL t) (k + 1)).cn (Base.of w) v w' := hE
        have hx : ∀ k, k < (sps 10 t).length → (TS (sps 10 t))[mulS k 1]? = some (.string (tx (lnL t k))) := fun k hk => TS_at hk (by rw [mulS_eq, Nat.mul_one])
        have hx0 : ∀ k, k < (sps 10 t).length → (TS (sps 10 t))[0 + mulS k 1]? = some (.string (tx (lnL t k))) := fun k hk => TS_at hk (by rw [mulS_eq, Nat.mul_one, Nat.zero_add])
        refine calls_of_vc tb_ok (args := [.agg (d.at A1 c1 A2 c2).toArray, .string (tx t)]) Tryz.func10 rfl ?_
        (repeat' ((conv => whnf); first | refine go ?_ | (refine VSome.mk ?_; intro gQ hA'; first | subst hA' | cases hA' | (dsimp only at hA'; subst hA')) | refine And.intro ?_ ?_ | intro _))
        (conv => whnf)
        rename_i gb gq
        (repeat' ((conv => whnf); first | refine go ?_ | (refine VSome.mk ?_; intro gQ hA'; first | subst hA' | cases hA' | (dsimp only at hA'; subst hA')) | refine And.intro ?_ ?_ | intro _ | (first | ((show VCall _ _ _ 45 _ _); refine VCall.grow _ (fun w1 m1 => hG w1 seenA seenA) ?_) | ((show VCall _ _ _ 44 _ _); refine VCall.ret (fun w1 m1 => hS _ w1 rfl) (fun i9 _ => ?_); obtain ⟨g9, c9⟩ := i9))))
        (conv => whnf)
        refine VLoop.mk (ι := Nat × Option Addr × Nat × Sl2) [6, 8, 9, 27, 28, 29, 30, 31, 32, 33, 34, 35, 36, 37, 38, 39, 40, 41, 42, 43, 44, 45] (fun (k, Q, cq, _) => [(9, .int .i64 k), (6, .slice Q k cq)]) (fun (k, Q, cq, (A, c), B, e) => [.blk gb 39 ((d.st (lnL t) k).at A c B e), .row (.slice Q k cq) 9 1 k (TS (d.rps (lnL t) k)), .row (.slice (some ⟨g9, 0, none⟩) (sps 10 t).length c9) 9 1 (sps 10 t).length (TS (sps 10 t)), match k with | 0 => .gone | k + 1 => .row (.slice A (d.st (lnL t) (k + 1)).n c) 96 3 (d.st (lnL t) (k + 1)).n (BaS (d.st (lnL t) (k + 1)).n (d.st (lnL t) (k + 1)).ba), match k with | 0 => .gone | k + 1 => .row (.slice B (d.st (lnL t) (k + 1)).m e) 98 4 (d.st (lnL t) (k + 1)).m (AwS (d.st (lnL t) (k + 1)).m (d.st (lnL t) (k + 1)).wa)]) (fun i => i.1 ≤ (sps 10 t).length ∧ (i.1 = 0 → i.2.2.2 = ((A1, c1), A2, c2))) (fun i => (sps 10 t).length - i.1) (0, some ⟨gq, 0, none⟩, 0, (A1, c1), A2, c2) ⟨Nat.zero_le _, fun _ => rfl⟩ ?_ (OwnLe.mk [0, 1, 2, 100, 101] (by simp) rfl) (fun i u hi => ?_)
        · ((conv => whnf); repeat (first | exact trivial | refine ⟨rfl, ?_⟩ | refine ⟨congrArg (Value.int .i64) (by first | omega | assumption | exact Eq.symm (by assumption)), ?_⟩))
        obtain ⟨k, Q, cq, ⟨A, c⟩, B, e⟩ := i
        obtain ⟨hk, h0⟩ := hi
        replace hk : k ≤ (sps 10 t).length := hk
        replace h0 : k = 0 → ((A, c), B, e) = ((A1, c1), A2, c2) := h0
        by_cases hlt : k < (sps 10 t).length
        · have a1 := hx k hlt
          have a2 := hx0 k hlt
          have hr : TS (d.rps (lnL t) (k + 1)) = TS (d.rps (lnL t) k) ++ [.string (tx (d.rp (lnL t) k))] := by rw [Co.rps_suc]; simp [TS]
          cases k with
          | zero =>
            cases h0 rfl
            ((conv => whnf); try dsimp only)
            (repeat' ((conv => whnf); first | refine go ?_ | (refine VSome.mk ?_; intro gQ hA'; first | subst hA' | cases hA' | (dsimp only at hA'; subst hA')) | refine And.intro ?_ ?_ | intro _ | (first | ((show VCall _ _ _ 38 _ _); refine VCall.ret (fun w1 m1 => hE 0 _ _ _ _ w1 seenA seenA hP hQ) (fun i _ => ?_); obtain ⟨⟨A9, c9⟩, B9, e9⟩ := i) | ((show VDraw _ _ _ _ _ _); refine VDraw.mk (.take 1 (.take 2 (.take 3 (.take 4 (.br 0 (.br 5 (.take 6 (.take 7 (.take 8 (.br 9 (.take 10 .done) .done)))) .done) .done))))) [2] (by kernel_rfl) (by kernel_rfl) ?_) | ((show VApp _ _ _ _ _ _ _); (apply VApp.pushAny; (focus ((repeat (first | exact At.here | apply At.there)); done)); (focus ((repeat (first | exact At.here | apply At.there)); done)); refine VAppPush.mk rfl rfl (by omega) (fun A' c' => ?_))))))
            all_goals (conv => whnf)
            all_goals (refine VNext.mk (1, A', c', (A9, c9), B9, e9) ⟨hlt, fun h => absurd h (Nat.succ_ne_zero 0)⟩ (by show _ - 1 < _ - 0; omega) ?_ (OwnLe.mk [0, 1, 2, 5, 6] (by simp) (by show [_, Own.row _ _ _ _ (TS (d.rps (lnL t) (0 + 1))), _, _, _] = _; rw [hr]; rfl)); ((conv => whnf); repeat (first | exact trivial | refine ⟨rfl, ?_⟩ | refine ⟨congrArg (Value.int .i64) (by first | omega | assumption | exact Eq.symm (by assumption)), ?_⟩)))
          | succ k =>
            ((conv => whnf); try dsimp only)
            (repeat' ((conv => whnf); first | refine go ?_ | (refine VSome.mk ?_; intro gQ hA'; first | subst hA' | cases hA' | (dsimp only at hA'; subst hA')) | refine And.intro ?_ ?_ | intro _ | (first | ((show VCall _ _ _ 38 _ _); refine VCall.ret (fun w1 m1 => hE (k + 1) _ _ _ _ w1 seenA seenA (m1.plain fndA) (m1.plain fndA)) (fun i _ => ?_); obtain ⟨⟨A9, c9⟩, B9, e9⟩ := i) | ((show VDraw _ _ _ _ _ _); refine VDraw.mk (.take 1 (.take 2 (.take 3 (.take 4 (.br 0 (.br 5 (.take 6 (.take 7 (.take 8 (.br 9 (.take 10 .done) .done)))) .done) .done))))) [2] (by kernel_rfl) (by kernel_rfl) ?_) | ((show VApp _ _ _ _ _ _ _); (apply VApp.pushAny; (focus ((repeat (first | exact At.here | apply At.there)); done)); (focus ((repeat (first | exact At.here | apply At.there)); done)); refine VAppPush.mk rfl rfl (by omega) (fun A' c' => ?_))))))
            all_goals (conv => whnf)
            all_goals (refine VNext.mk (k + 1 + 1, A', c', (A9, c9), B9, e9) ⟨hlt, fun h => absurd h (Nat.succ_ne_zero _)⟩ (by show _ - (k + 1 + 1) < _ - (k + 1); omega) ?_ (OwnLe.mk [0, 1, 2, 5, 6] (by simp) (by show [_, Own.row _ _ _ _ (TS (d.rps (lnL t) (k + 1 + 1))), _, _, _] = _; rw [hr]; rfl)); ((conv => whnf); repeat (first | exact trivial | refine ⟨rfl, ?_⟩ | refine ⟨congrArg (Value.int .i64) (by first | omega | assumption | exact Eq.symm (by assumption)), ?_⟩)))
        · obtain rfl : k = (sps 10 t).length := by omega
          ((conv => whnf); try dsimp only)
          (repeat' ((conv => whnf); first | refine go ?_ | (refine VSome.mk ?_; intro gQ hA'; first | subst hA' | cases hA' | (dsimp only at hA'; subst hA')) | refine And.intro ?_ ?_ | intro _))
          (conv => whnf)
          exact VRet.sel (Q, cq) trivial rfl [1] (by simp) rfl
      · rw [rsV_no (fun q => h30 q.2.2)]
        refine calls_of_vc tb_ok (args := [.agg (d.at A1 c1 A2 c2).toArray, .string (tx t)]) Tryz.func10 rfl ?_
        (repeat' ((conv => whnf); first | refine go ?_ | (refine VSome.mk ?_; intro gQ hA'; first | subst hA' | cases hA' | (dsimp only at hA'; subst hA')) | refine And.intro ?_ ?_ | intro _))
        (conv => whnf)
        rename_i gb gq
        (repeat' ((conv => whnf); first | refine go ?_ | (refine VSome.mk ?_; intro gQ hA'; first | subst hA' | cases hA' | (dsimp only at hA'; subst hA')) | refine And.intro ?_ ?_ | intro _ | (first | ((show VCall _ _ _ 45 _ _); refine VCall.grow _ (fun w1 m1 => hG w1 seenA seenA) ?_) | ((show VCall _ _ _ 44 _ _); refine VCall.ret (fun w1 m1 => hS _ w1 rfl) (fun i9 _ => ?_); obtain ⟨g9, c9⟩ := i9))))
        all_goals (conv => whnf)
        all_goals exact VRet.sel (some ⟨gq, 0, none⟩, 0) trivial rfl [1] (by simp) rfl
    · rw [rsV_no (fun q => h4 q.2.1)]
      refine calls_of_vc tb_ok (args := [.agg (d.at A1 c1 A2 c2).toArray, .string (tx t)]) Tryz.func10 rfl ?_
      (repeat' ((conv => whnf); first | refine go ?_ | (refine VSome.mk ?_; intro gQ hA'; first | subst hA' | cases hA' | (dsimp only at hA'; subst hA')) | refine And.intro ?_ ?_ | intro _))
      (conv => whnf)
      rename_i gb gq
      (repeat' ((conv => whnf); first | refine go ?_ | (refine VSome.mk ?_; intro gQ hA'; first | subst hA' | cases hA' | (dsimp only at hA'; subst hA')) | refine And.intro ?_ ?_ | intro _ | (first | ((show VCall _ _ _ 45 _ _); refine VCall.grow _ (fun w1 m1 => hG w1 seenA seenA) ?_) | ((show VCall _ _ _ 44 _ _); refine VCall.ret (fun w1 m1 => hS _ w1 rfl) (fun i9 _ => ?_); obtain ⟨g9, c9⟩ := i9))))
      all_goals (conv => whnf)
      all_goals exact VRet.sel (some ⟨gq, 0, none⟩, 0) trivial rfl [1] (by simp) rfl
  · rw [tr_no hg] at hG
    rw [rsV_no (fun q => hg q.1)]
    refine calls_of_vc tb_ok (args := [.agg (d.at A1 c1 A2 c2).toArray, .string (tx t)]) Tryz.func10 rfl ?_
    (repeat' ((conv => whnf); first | refine go ?_ | (refine VSome.mk ?_; intro gQ hA'; first | subst hA' | cases hA' | (dsimp only at hA'; subst hA')) | refine And.intro ?_ ?_ | intro _))
    (conv => whnf)
    rename_i gb gq
    (repeat' ((conv => whnf); first | refine go ?_ | (refine VSome.mk ?_; intro gQ hA'; first | subst hA' | cases hA' | (dsimp only at hA'; subst hA')) | refine And.intro ?_ ?_ | intro _ | (first | ((show VCall _ _ _ 45 _ _); refine VCall.grow _ (fun w1 m1 => hG w1 seenA seenA) ?_) | ((show VCall _ _ _ 44 _ _); refine VCall.ret (fun w1 m1 => hS _ w1 rfl) (fun i9 _ => ?_); obtain ⟨g9, c9⟩ := i9))))
    all_goals (conv => whnf)
    all_goals exact VRet.sel (some ⟨gq, 0, none⟩, 0) trivial rfl [1] (by simp) rfl
end Go.Proofs.YtadjhkehfklmnaaGreatDoor
namespace Go.Proofs.YtadjhkehfklmnaaGreatDoor
set_option linter.unusedSimpArgs false
set_option linter.unusedVariables false
open Go.RowKit
set_option maxRecDepth 10000
theorem rsV_len (d : Co) (t : List UInt8) : (rsV d t).1.length ≤ 30 := by
  by_cases h : okS d t
  · rw [rsV_yes h]
    show (d.rps (lnL t) (sps 10 t).length).length ≤ 30
    rw [Co.rps_len]; exact h.2.2
  · rw [rsV_no h]; exact Nat.zero_le _
theorem TS_TxS (l : List (List UInt8)) : TS l = TxS l.length fun i => tx (l.getD i []) := by
  show _ = rowsN l.length fun i => [Value.string (tx (l.getD i []))]
  rw [rowsN_one]
  unfold TS
  apply List.ext_getElem?
  intro i
  rw [List.getElem?_map, List.getElem?_map]
  by_cases h : i < l.length
  · rw [List.getElem?_range h, List.getElem?_eq_getElem h]
    simp [List.getD_eq_getElem?_getD, h]
  · rw [List.getElem?_eq_none (by omega), List.getElem?_eq_none (by simp; omega)]
    rfl
end Go.Proofs.YtadjhkehfklmnaaGreatDoor
namespace Go.Proofs.YtadjhkehfklmnaaGreatDoor
set_option linter.unusedSimpArgs false
set_option linter.unusedVariables false
open Go.ChangeShapes Go.WideShapes Go.ChangeAt Go.RowKit
set_option maxRecDepth 10000
theorem law_lift_shaped {H : Type} {enc : TypeId × Value → H} {C : Checked} {os : Os} {f : FuncId} {fn : Func} {s : ChangeSpec} {conds : List PathCond} {tb : TypeId} {laid : List (String × DataW Unit)}
    (own : ownKnob C.prog.godebug = none) (started : os.Started) (noInit : C.prog.inits.idxOf? f = none) (hfn : C.prog.funcs[f]? = some fn)
    (witness : ∃ (w : World) (tape : Tape) (i : Input), w.os = os ∧ (w.forCall tape i).Shaped C.prog ∧ i.vars = [] ∧ Input.okWide C.prog (w.forCall tape i) .any w.heap.size f i ∧
      ((s.pre enc C.prog fn conds false (w.forCall tape i).memory i.args ∧ laidMetH C.prog laid (w.forCall tape i).memory) ∧ sizedMet enc C.prog fn (OpenSpec.ofChange s) false (w.forCall tape i).memory i.args) ∧ Assume.holds {} C.prog (lone (Frame.enter C.prog f i.args .normal) [] (w.forCall tape i)))
    (hvars : s.vars = []) (hspec : ∀ ds : List (DataW H), ds.length = fn.params.size → s.fn H (ds ++ []) = { results := [.lit (.bool true)], args := ds })
    (hres : fn.resultTypes = #[tb]) (hbool : C.prog.underlying tb = some .bool) (hl : laidOutB C.prog = true)
    (hr : (fn.params.toList.all fun t => C.prog.readableRec t && decide (t < C.prog.types.size)) = true)
    (contract : ∀ (W : World) (base : Nat) (args : Array Value) (ds : List (DataW H)) (p : List MemPlace),
      (∀ (j : Nat) t v, fn.params[j]? = some t → args[j]? = some v → Value.okWide C.prog W .any base t v) →
      DataW.TrodAll enc C.prog W 0 (fun _ => true) true fn.params.toList args.toList ds p → laidMetH C.prog laid W → W.ShapedOpen C.prog → Calls C.prog f args W (Post (.bool true) W)) :
    ReturnsInHanded {} C os f .any (fun w args => (s.pre enc C.prog fn conds false w args ∧ laidMetH C.prog laid w) ∧ sizedMet enc C.prog fn (OpenSpec.ofChange s) false w args) (s.post enc C.prog fn false true false false) := by
  refine returnsInHanded_of_calls own started noInit witness ?_
  intro w tape i _ hsh _ hok hpre hholds
  obtain ⟨_, _, _, fn', hfn', _, _, _, _, hval0⟩ := hok
  have e0 : fn = fn' := (Option.some.inj (hfn'.symm.trans hfn)).symm
  subst e0
  obtain ⟨⟨⟨ds, gs, before, hw, hc⟩, hx⟩, hz⟩ := hpre
  have hw' := DataW.Whole.of_heap (w' := w.forCall tape i) (by rfl) hw
  have hL : laidMetH C.prog laid (w.forCall tape i) := hx.of_heap (by rfl)
  have main : ∀ (W : World) (base : Nat) (args : Array Value), W.ShapedOpen C.prog → (∀ (j : Nat) t v, fn.params[j]? = some t → args[j]? = some v → Value.okWide C.prog W .any base t v) → DataW.Whole enc C.prog fn.params.toList s.vars false W args.toList ds gs before → laidMetH C.prog laid W → Calls C.prog f args W fun e W' => ∃ v, e = .returned v ∧ s.post enc C.prog fn false true false false W args v W' := by
    intro W base args hsh hval hW hL
    have hW' := hW
    obtain ⟨p, q, hA, hV, rfl, _, _⟩ := hW
    rw [hvars] at hV
    obtain ⟨rfl, rfl⟩ := trodVars_none hV
    refine (contract W base args ds p hval hA hL hsh).mono fun e W' ⟨he, hb⟩ => ?_
    subst he
    have hlen : ds.length = fn.params.size := by
      have : ∀ (ts : List TypeId) (vs : List Value) (ds : List (DataW H)) (ps : List MemPlace), DataW.TrodAll enc C.prog W 0 (fun _ => true) true ts vs ds ps → ds.length = ts.length := by
        intro ts
        induction ts with
        | nil => intro vs ds ps h; cases vs <;> cases ds <;> simp [DataW.TrodAll] at h ⊢
        | cons t ts ih =>
          intro vs ds ps h
          obtain ⟨v, vs', d, ds', p, q, rfl, rfl, rfl, _, h2⟩ := trodAll_cons h
          simp [ih _ _ _ h2]
      simpa using this _ _ _ _ hA
    have hsp := hspec ds hlen
    refine ⟨_, rfl, ds, [], p ++ [], [], p, [], hW', ?_, ?_, ?_, hb.frame _, fun h => by cases h⟩
    · rw [hsp, hres]
      exact trodAll_mk1 (shut_bool hbool true)
    · rw [hsp]
      refine trodAll_below hl hb _ _ _ _ (fun t ht => ?_) (fun x hx => ?_) hA
      · have := List.all_eq_true.1 hr t ht
        simpa using this
      · exact hW'.lt x (by simpa using hx)
    · rw [hvars, hsp]
      rfl
  refine (main (w.forCall tape i) w.heap.size i.args hsh hval0 hw' hL).mono fun e W' ⟨v, he, hp⟩ => ?_
  subst he
  exact ChangeSpec.post_blind hp
def litV : DataW Unit → List Value
  | .lit (.int k z) => [.int k z]
  | _ => []
def cellsD : DataW Unit → Array Value
  | .agg l => (l.flatMap fun d => match d with
    | .agg l2 => l2.flatMap litV
    | d => litV d).toArray
  | _ => #[]
noncomputable def putC (g : Nat) (cs : Array Value) (w : World) : World :=
  { w with heap := w.heap.modify g fun
      | .cells _ t frozen => .cells cs t frozen
      | o => o }
def laidL : List (String × DataW Unit) := [("math/bits.deBruijn32tab", Rows.laid_math_bits_deBruijn32tab), ("math/bits.deBruijn64tab", Rows.laid_math_bits_deBruijn64tab), ("internal/strconv.uint64pow10", Rows.laid_internal_strconv_uint64pow10), ("unicode/utf8.acceptRanges", Rows.laid_unicode_utf8_acceptRanges), ("strconv.ErrRange", Rows.laid_strconv_ErrRange), ("strconv.ErrSyntax", Rows.laid_strconv_ErrSyntax), ("unicode/utf8.first", Rows.laid_unicode_utf8_first)]
noncomputable def laidWorld (os : Os) : World :=
  let N := (World.settled Tryz.prog os).heap.size
  putC 4 (cellsD Rows.laid_math_bits_deBruijn32tab) (putC 5 (cellsD Rows.laid_math_bits_deBruijn64tab) (putC 1 (cellsD Rows.laid_internal_strconv_uint64pow10) (putC 3 (cellsD Rows.laid_unicode_utf8_acceptRanges) (putC 2 (cellsD Rows.laid_unicode_utf8_first)
    (putC 7 #[.iface 266 (.pointer (some ⟨N, 0, none⟩))] (putC 6 #[.iface 266 (.pointer (some ⟨N + 1, 0, none⟩))]
      (World.holding Tryz.prog os ⟨#[.cells #[.string ⟨#[118, 97, 108, 117, 101, 32, 111, 117, 116, 32, 111, 102, 32, 114, 97, 110, 103, 101]⟩] 268, .cells #[.string ⟨#[105, 110, 118, 97, 108, 105, 100, 32, 115, 121, 110, 116, 97, 120]⟩] 268], #[], []⟩)))))))
theorem laid_met (os : Os) (args : Array Value) : laidMetH Tryz.prog laidL ((laidWorld os).forCall (fun _ _ => 0) ⟨#[], args, []⟩).memory :=
  show laidMet Tryz.prog laidL _ from laidMet_of_run' 8 (by kernel_rfl) (by kernel_rfl)
theorem star_es : "*" ++ "errors.errorString" = "*errors.errorString" := by decide
theorem row_es (u : TypeId) (h : Tryz.prog.typeName? 3 u = some "*errors.errorString") : u = 266 :=
  typeName_ptr_named (nm := "errors.errorString") (by rw [star_es]; kernel_rfl) (by kernel_rfl) (by decide) u (by rw [star_es]; exact h)
theorem gES : Tryz.prog.globalNamed "strconv.ErrSyntax" = some 6 := by kernel_rfl
theorem pt2_is {W : World} (h : laidMetH Tryz.prog laidL W) (hsh : W.ShapedOpen Tryz.prog) : PT2 W := by
  have h' : laidMet Tryz.prog laidL W := h
  have h3 := h'.tail.tail
  rw [show ("internal/strconv.uint64pow10", (Rows.laid_internal_strconv_uint64pow10 : DataW Unit)) = ("internal/strconv.uint64pow10", Lib.tabData .u64 Lib.pow10Tab) from by kernel_rfl] at h3
  have h5 : laidMet Tryz.prog [("strconv.ErrSyntax", .iface "*errors.errorString" (.ptr (.agg [.lit (.string [105, 110, 118, 97, 108, 105, 100, 32, 115, 121, 110, 116, 97, 120])]))), ("unicode/utf8.first", Rows.laid_unicode_utf8_first)] W := h'.tail.tail.tail.tail.tail
  refine ⟨Lib.tabIs_of_head (t := 215) (e := 87) (n := 20) gPTab (by kernel_rfl) (by kernel_rfl) (by kernel_rfl) (by kernel_rfl) (by kernel_rfl) h3, ?_, ?_⟩
  · exact cell_of_shapedOpen_int (zero := #[.int .i64 0]) (t := 3) hsh (of_decide_eq_true (by kernel_rfl)) (by kernel_rfl) rfl (by kernel_rfl) (by kernel_rfl) Tryz.underlying3
  · obtain ⟨a, s, hv, _⟩ := laid_sentinel h5 gES (ti := 201) (by kernel_rfl) Tryz.underlying201 row_es Tryz.underlying266 Tryz.underlying268 rfl rfl Tryz.underlying9 (by kernel_rfl) (by kernel_rfl)
    exact ⟨_, _, by have h0 := World.var?_cell gES hv 0; simpa using h0⟩
end Go.Proofs.YtadjhkehfklmnaaGreatDoor
namespace Go.Proofs.YtadjhkehfklmnaaGreatDoor
set_option linter.unusedSimpArgs false
set_option linter.unusedVariables false
open Go.ChangeShapes Go.WideShapes Go.ChangeAt Go.RowKit
set_option maxRecDepth 10000
theorem joined_parts {P : Program} {f : FuncId} {fn : Func} {s : ChangeSpec} {c : OpenClaim}
    (h1 : (c.wf (OpenSpec.ofChange s) && laidOutB P && mapsRowed P) = true)
    (h2 : (fn.params.all (P.readableRec ·) && namedTie P c.named s.vars && (c.stops == []) && (P.stops == []) && (c.knobs == []) && (P.stopKnobs == [])) = true)
    (h3 : (c.inPlace == P.inPlace f) = true) (h4 : (c.unfollowed == P.unfollowed f) = true) (h5 : (c.recurses == P.recurses f) = true) (h6 : (c.named == P.varsNamed f) = true)
    (h7 : ((c.maps == (fn.params.toList ++ s.plain.varTypes P).any (P.mapsRec ·)) && (c.ifaces == (fn.params.toList ++ s.plain.varTypes P).any (P.ifacesRec ·)) && (c.mapsOut == P.mapsAmong fn.resultTypes.toList) &&
      (c.loops == (fn.params.toList ++ s.plain.varTypes P).any (P.loopsFrom ·)) && (c.wideKeys == (fn.params.toList ++ s.plain.varTypes P ++ fn.resultTypes.toList).any (P.wideKeysFrom ·)) &&
      s.vars.all (P.varReadable ·) && fn.resultTypes.all (fun t => P.readableRec t && decide (t < P.types.size)) && (c.ifacesOut == fn.resultTypes.toList.any (P.ifacesRec ·)) && (c.loopsOut == fn.resultTypes.toList.any (P.loopsFrom ·))) = true)
    (h8 : ((c.plainKeys == P.plainKeys) && c.shortTexts.isNone && P.stopsHeard && P.mayEnter) = true) (h9 : ((c.lifted == P.liftsFinal) && (P.make == some c.make)) = true)
    (h10 : ((c.kinds == (if c.domain.isEmpty then [] else fn.params.toList.map fun t => match P.underlying t with | some (.int k) => some k | _ => none)) && (c.pinned == c.pinnedBy) &&
      (c.veiled == (fn.params.toList ++ s.plain.varTypes P ++ fn.resultTypes.toList).any (P.veiledRec ·)) && c.veiledFits P fn.params.toList (fn.params.toList ++ s.plain.varTypes P ++ fn.resultTypes.toList)) = true) : joinedFacts P f fn s c = true := by
  unfold joinedFacts
  rw [Bool.and_eq_true, Bool.and_eq_true] at h1
  rw [Bool.and_eq_true, Bool.and_eq_true, Bool.and_eq_true, Bool.and_eq_true, Bool.and_eq_true] at h2
  rw [Bool.and_eq_true, Bool.and_eq_true, Bool.and_eq_true, Bool.and_eq_true, Bool.and_eq_true, Bool.and_eq_true, Bool.and_eq_true, Bool.and_eq_true] at h7
  rw [Bool.and_eq_true, Bool.and_eq_true, Bool.and_eq_true] at h8
  rw [Bool.and_eq_true] at h9
  rw [Bool.and_eq_true, Bool.and_eq_true, Bool.and_eq_true] at h10
  obtain ⟨⟨a1, a2⟩, a3⟩ := h1
  obtain ⟨⟨⟨⟨⟨b1, b2⟩, b3⟩, b4⟩, b5⟩, b6⟩ := h2
  obtain ⟨⟨⟨⟨⟨⟨⟨⟨d1, d2⟩, d3⟩, d4⟩, d5⟩, d6⟩, d7⟩, d8⟩, d9⟩ := h7
  obtain ⟨⟨⟨e1, e2⟩, e3⟩, e4⟩ := h8
  obtain ⟨f1, f2⟩ := h9
  obtain ⟨⟨⟨g1, g2⟩, g3⟩, g4⟩ := h10
  rw [a1, a2, a3, b1, b2, b3, b4, b5, b6, h3, h4, h5, h6, d1, d2, d3, d4, d5, d6, d7, d8, d9, e1, e2, e3, e4, f1, f2]
  rw [Bool.and_eq_true, Bool.and_eq_true, Bool.and_eq_true, Bool.and_eq_true]
  exact ⟨⟨⟨⟨rfl, g1⟩, g2⟩, g3⟩, g4⟩
end Go.Proofs.YtadjhkehfklmnaaGreatDoor
