/-
  Texts joined: how the calls that the law reaches are walked, and the plain laws behind them.
  Conditions: none beyond each statement's own premises.
-/
import Derived.Test.YtadjhkehfklmnaaGreatDoorMx19
import Derived.Test.YtadjhkehfklmnaaGreatDoorProg
namespace Go.Proofs.YtadjhkehfklmnaaGreatDoor
set_option linter.unusedSimpArgs false
set_option linter.unusedVariables false
open Go.RowKit
set_option maxRecDepth 10000
theorem split10_v (l : List UInt8) (w : World) (hl : l.length ≤ 1048576) (ht : PT2 w) : Calls Tryz.prog 48 #[.string (tx l), .string (tx [10])] w fun e w' => ∃ v, e = .returned v ∧ RetV (ι := Nat) (fun _ => True) (fun g => .slice (some ⟨g, 0, none⟩) (sps 10 l).length (sps 10 l).length) (fun g => [.row (.slice (some ⟨g, 0, none⟩) (sps 10 l).length (sps 10 l).length) 9 1 (sps 10 l).length (TS (sps 10 l))]) (Base.of w) v w' := by
  obtain ⟨_, ⟨x, h2⟩, _⟩ := ht
  have hs := splitB_sps 10 l
  have hlen : (sps 10 l).length = Lib.countB (tx l) (tx [10]) + 1 := by
    have := Lib.splitB_all (tx [10]) (by rw [tx_size]; decide) 0 (Lib.countB (tx l) (tx [10])) (tx l) rfl
    rw [hs, List.length_map] at this
    exact this
  refine (Tryz.strings_Split (tx l) (tx [10]) x w (by rw [tx_size]; omega) h2 (by rw [tx_size]; decide)).mono fun e w' ⟨he, hw⟩ => ⟨_, he, w.heap.size, trivial, by rw [hlen], ?_⟩
  rw [hs, TS_tx] at hw
  rw [hw]
  have m := (Mem.init (Base.of w)).alloc 9 (TS (sps 10 l))
  have hx := sps_len 10 l
  exact Mem.turnRow (k := 0) rfl (TS_len1 _) (by unfold maxLen; omega) m
def lnL (t : List UInt8) (k : Nat) : List UInt8 := (sps 10 t).getD k []
noncomputable def Co.rps (d : Co) (x : Nat → List UInt8) (k : Nat) : List (List UInt8) := (List.range k).map (d.rp x)
theorem Co.rps_suc (d : Co) (x : Nat → List UInt8) (k : Nat) : d.rps x (k + 1) = d.rps x k ++ [d.rp x k] := by unfold Co.rps; rw [List.range_succ, List.map_append]; rfl
theorem Co.rps_len (d : Co) (x : Nat → List UInt8) (k : Nat) : (d.rps x k).length = k := by unfold Co.rps; simp
def okS (d : Co) (t : List UInt8) : Prop := d.good ∧ t.length ≤ 4000 ∧ (sps 10 t).length ≤ 30
noncomputable def rsV (d : Co) (t : List UInt8) : List (List UInt8) × Bool := if tr (okS d t) = true then (d.rps (lnL t) (sps 10 t).length, true) else ([], false)
theorem rsV_yes {d : Co} {t : List UInt8} (h : okS d t) : rsV d t = (d.rps (lnL t) (sps 10 t).length, true) := ite_tr h
theorem rsV_no {d : Co} {t : List UInt8} (h : ¬ okS d t) : rsV d t = ([], false) := ite_ntr h
theorem lnL_len (t : List UInt8) (k : Nat) : (lnL t k).length ≤ t.length := by
  unfold lnL
  rw [List.getD_eq_getElem?_getD]
  cases e : (sps 10 t)[k]? with
  | none => exact Nat.zero_le _
  | some p => exact (sps_total 10 _ t (Nat.le_refl _) p (List.mem_of_getElem? e)).1
theorem TS_at {l : List (List UInt8)} {k o : Nat} (h : k < l.length) (e : o = k) : (TS l)[o]? = some (.string (tx (l.getD k []))) := by
  subst e
  unfold TS
  rw [List.getElem?_map, List.getD_eq_getElem?_getD, List.getElem?_eq_getElem h]
  rfl
set_option maxHeartbeats 16000000 in
theorem iScript_v (A1 A2 : Option Addr) (c1 c2 : Nat) (d : Co) (t : List UInt8) (w : World) (hs : d.small) (hl : t.length ≤ 1048576) (ht : PT2 w) (hA : Seen w A1 (BaS d.n d.ba)) (hB : Seen w A2 (AwS d.m d.wa)) (hP : Plain A1) (hQ : Plain A2) :
    Calls Tryz.prog 12 #[.agg (d.at A1 c1 A2 c2).toArray, .string (tx t)] w fun e w' => ∃ v, e = .returned v ∧ RetV (ι := Option Addr × Nat) (fun _ => True) (fun (P, cp) => .tuple #[.slice P (rsV d t).1.length cp, .bool (rsV d t).2]) (fun (P, cp) => [.row (.slice P (rsV d t).1.length cp) 9 1 (rsV d t).1.length (TS (rsV d t).1)]) (Base.of w) v w' := by
  obtain ⟨hn, hm, hd, hp⟩ := id hs
  have hsz := tx_size t
  have hG := fun w ht hA hB => iCon_v A1 A2 c1 c2 d w hn hm hd hp ht hA hB
  have hS := fun w ht => split10_v t w hl ht
  by_cases hg : d.good
  · rw [tr_yes hg] at hG
    by_cases h4 : t.length ≤ 4000
    · by_cases h30 : (sps 10 t).length ≤ 30
      · rw [rsV_yes ⟨hg, h4, h30⟩]
        dsimp only
        rw [Co.rps_len]
        have hE := fun k A B c e w ht hA hB hP hQ => iExec_v A B c e (d.st (lnL t) k) (lnL t k) w (Co.st_small hs _ k) (by have := lnL_len t k; omega) ht hA hB hP hQ
        replace hE : ∀ k A B c e w, PT2 w → Seen w A (BaS (d.st (lnL t) k).n (d.st (lnL t) k).ba) → Seen w B (AwS (d.st (lnL t) k).m (d.st (lnL t) k).wa) → Plain A → Plain B → Calls Tryz.prog 29 #[.agg ((d.st (lnL t) k).at A c B e).toArray, .string (tx (lnL t k))] w fun e w' => ∃ v, e = .returned v ∧ RetV (fun _ => True) (fun i => .tuple #[(d.st (lnL t) (k + 1)).cv i, .string (tx (d.rp (lnL t) k))]) (d.st (lnL t) (k + 1)).cn (Base.of w) v w' := hE
        have hx : ∀ k, k < (sps 10 t).length → (TS (sps 10 t))[mulS k 1]? = some (.string (tx (lnL t k))) := fun k hk => TS_at hk (by rw [mulS_eq, Nat.mul_one])
        have hx0 : ∀ k, k < (sps 10 t).length → (TS (sps 10 t))[0 + mulS k 1]? = some (.string (tx (lnL t k))) := fun k hk => TS_at hk (by rw [mulS_eq, Nat.mul_one, Nat.zero_add])
        refine calls_of_vc tb_ok (args := [.agg (d.at A1 c1 A2 c2).toArray, .string (tx t)]) Tryz.func12 rfl ?_
        (repeat' ((conv => whnf); first | refine go ?_ | (refine VSome.mk ?_; intro gQ hA'; first | subst hA' | cases hA' | (dsimp only at hA'; subst hA')) | refine And.intro ?_ ?_ | intro _))
        (conv => whnf)
        rename_i gb
        (repeat' ((conv => whnf); first | refine go ?_ | (refine VSome.mk ?_; intro gQ hA'; first | subst hA' | cases hA' | (dsimp only at hA'; subst hA')) | refine And.intro ?_ ?_ | intro _ | (first | ((show VCall _ _ _ 39 _ _); refine VCall.grow _ (fun w1 m1 => hG w1 (ht.on m1).1 seenA seenA) ?_) | ((show VCall _ _ _ 48 _ _); refine VCall.ret (fun w1 m1 => hS w1 (ht.on m1)) (fun g9 _ => ?_)))))
        (conv => whnf)
        rename_i gq
        refine VLoop.mk (ι := Nat × Option Addr × Nat × Sl2) [7, 9, 10, 11, 28, 29, 30, 31, 32, 33, 34, 35, 36, 37, 38, 39, 40, 41, 42, 43] (fun (k, Q, cq, _) => [(28, .int .i64 k), (7, .slice Q k cq)]) (fun (k, Q, cq, (A, c), B, e) => [.blk gb 39 ((d.st (lnL t) k).at A c B e), .row (.slice (some ⟨g9, 0, none⟩) (sps 10 t).length (sps 10 t).length) 9 1 (sps 10 t).length (TS (sps 10 t)), .row (.slice Q k cq) 9 1 k (TS (d.rps (lnL t) k)), match k with | 0 => .gone | k + 1 => .row (.slice A (d.st (lnL t) (k + 1)).n c) 96 3 (d.st (lnL t) (k + 1)).n (BaS (d.st (lnL t) (k + 1)).n (d.st (lnL t) (k + 1)).ba), match k with | 0 => .gone | k + 1 => .row (.slice B (d.st (lnL t) (k + 1)).m e) 98 4 (d.st (lnL t) (k + 1)).m (AwS (d.st (lnL t) (k + 1)).m (d.st (lnL t) (k + 1)).wa)]) (fun i => i.1 ≤ (sps 10 t).length ∧ (i.1 = 0 → i.2.2.2 = ((A1, c1), A2, c2))) (fun i => (sps 10 t).length - i.1) (0, some ⟨gq, 0, none⟩, 0, (A1, c1), A2, c2) ⟨Nat.zero_le _, fun _ => rfl⟩ ?_ (OwnLe.mk [0, 1, 2, 100, 101] (by simp) rfl) (fun i u hi => ?_)
        · ((conv => whnf); repeat (first | exact trivial | refine ⟨rfl, ?_⟩ | refine ⟨congrArg (Value.int .i64) (by first | omega | assumption | exact Eq.symm (by assumption)), ?_⟩))
        obtain ⟨k, Q, cq, ⟨A, c⟩, B, e⟩ := i
        obtain ⟨hk, h0⟩ := hi
        replace hk : k ≤ (sps 10 t).length := hk
        replace h0 : k = 0 → ((A, c), B, e) = ((A1, c1), A2, c2) := h0
        by_cases hlt : k < (sps 10 t).length
        · have a1 := hx k hlt
          have a2 := hx0 k hlt
          have hr : TS (d.rps (lnL t) (k + 1)) = TS (d.rps (lnL t) k) ++ [.string (tx (d.rp (lnL t) k))] := by rw [Co.rps_suc]; simp [TS]
          cases k with
          | zero =>
            cases h0 rfl
            ((conv => whnf); try dsimp only)
            (repeat' ((conv => whnf); first | refine go ?_ | (refine VSome.mk ?_; intro gQ hA'; first | subst hA' | cases hA' | (dsimp only at hA'; subst hA')) | refine And.intro ?_ ?_ | intro _ | (first | ((show VCall _ _ _ 29 _ _); refine VCall.ret (fun w1 m1 => hE 0 _ _ _ _ w1 (ht.on m1) seenA seenA hP hQ) (fun i _ => ?_); obtain ⟨⟨A9, c9⟩, B9, e9⟩ := i) | ((show VApp _ _ _ _ _ _ _); (apply VApp.pushAny; (focus ((repeat (first | exact At.here | apply At.there)); done)); (focus ((repeat (first | exact At.here | apply At.there)); done)); refine VAppPush.mk rfl rfl (by omega) (fun A' c' => ?_))))))
            all_goals (conv => whnf)
            all_goals (refine VNext.mk (1, A', c', (A9, c9), B9, e9) ⟨hlt, fun h => absurd h (Nat.succ_ne_zero 0)⟩ (by show _ - 1 < _ - 0; omega) ?_ (OwnLe.mk [0, 1, 2, 5, 6] (by simp) (by show [_, _, Own.row _ _ _ _ (TS (d.rps (lnL t) (0 + 1))), _, _] = _; rw [hr]; rfl)); ((conv => whnf); repeat (first | exact trivial | refine ⟨rfl, ?_⟩ | refine ⟨congrArg (Value.int .i64) (by first | omega | assumption | exact Eq.symm (by assumption)), ?_⟩)))
          | succ k =>
            ((conv => whnf); try dsimp only)
            (repeat' ((conv => whnf); first | refine go ?_ | (refine VSome.mk ?_; intro gQ hA'; first | subst hA' | cases hA' | (dsimp only at hA'; subst hA')) | refine And.intro ?_ ?_ | intro _ | (first | ((show VCall _ _ _ 29 _ _); refine VCall.ret (fun w1 m1 => hE (k + 1) _ _ _ _ w1 (ht.on m1) seenA seenA (m1.plain fndA) (m1.plain fndA)) (fun i _ => ?_); obtain ⟨⟨A9, c9⟩, B9, e9⟩ := i) | ((show VApp _ _ _ _ _ _ _); (apply VApp.pushAny; (focus ((repeat (first | exact At.here | apply At.there)); done)); (focus ((repeat (first | exact At.here | apply At.there)); done)); refine VAppPush.mk rfl rfl (by omega) (fun A' c' => ?_))))))
            all_goals (conv => whnf)
            all_goals (refine VNext.mk (k + 1 + 1, A', c', (A9, c9), B9, e9) ⟨hlt, fun h => absurd h (Nat.succ_ne_zero _)⟩ (by show _ - (k + 1 + 1) < _ - (k + 1); omega) ?_ (OwnLe.mk [0, 1, 2, 5, 6] (by simp) (by show [_, _, Own.row _ _ _ _ (TS (d.rps (lnL t) (k + 1 + 1))), _, _] = _; rw [hr]; rfl)); ((conv => whnf); repeat (first | exact trivial | refine ⟨rfl, ?_⟩ | refine ⟨congrArg (Value.int .i64) (by first | omega | assumption | exact Eq.symm (by assumption)), ?_⟩)))
        · obtain rfl : k = (sps 10 t).length := by omega
          ((conv => whnf); try dsimp only)
          (repeat' ((conv => whnf); first | refine go ?_ | (refine VSome.mk ?_; intro gQ hA'; first | subst hA' | cases hA' | (dsimp only at hA'; subst hA')) | refine And.intro ?_ ?_ | intro _))
          (conv => whnf)
          exact VRet.sel (Q, cq) trivial rfl [2] (by simp) rfl
      · rw [rsV_no (fun q => h30 q.2.2)]
        refine calls_of_vc tb_ok (args := [.agg (d.at A1 c1 A2 c2).toArray, .string (tx t)]) Tryz.func12 rfl ?_
        (repeat' ((conv => whnf); first | refine go ?_ | (refine VSome.mk ?_; intro gQ hA'; first | subst hA' | cases hA' | (dsimp only at hA'; subst hA')) | refine And.intro ?_ ?_ | intro _ | (first | ((show VCall _ _ _ 39 _ _); refine VCall.grow _ (fun w1 m1 => hG w1 (ht.on m1).1 seenA seenA) ?_) | ((show VCall _ _ _ 48 _ _); refine VCall.ret (fun w1 m1 => hS w1 (ht.on m1)) (fun g9 _ => ?_)))))
        (conv => whnf)
        refine ⟨fun w m => ⟨(none, 0), trivial, rfl, ?_⟩⟩
        exact (m.sel (ks := []) (by simp)).pushNil _ _
    · rw [rsV_no (fun q => h4 q.2.1)]
      refine calls_of_vc tb_ok (args := [.agg (d.at A1 c1 A2 c2).toArray, .string (tx t)]) Tryz.func12 rfl ?_
      (repeat' ((conv => whnf); first | refine go ?_ | (refine VSome.mk ?_; intro gQ hA'; first | subst hA' | cases hA' | (dsimp only at hA'; subst hA')) | refine And.intro ?_ ?_ | intro _ | (first | ((show VCall _ _ _ 39 _ _); refine VCall.grow _ (fun w1 m1 => hG w1 (ht.on m1).1 seenA seenA) ?_))))
      (conv => whnf)
      refine ⟨fun w m => ⟨(none, 0), trivial, rfl, ?_⟩⟩
      exact (m.sel (ks := []) (by simp)).pushNil _ _
  · rw [tr_no hg] at hG
    rw [rsV_no (fun q => hg q.1)]
    refine calls_of_vc tb_ok (args := [.agg (d.at A1 c1 A2 c2).toArray, .string (tx t)]) Tryz.func12 rfl ?_
    (repeat' ((conv => whnf); first | refine go ?_ | (refine VSome.mk ?_; intro gQ hA'; first | subst hA' | cases hA' | (dsimp only at hA'; subst hA')) | refine And.intro ?_ ?_ | intro _ | (first | ((show VCall _ _ _ 39 _ _); refine VCall.grow _ (fun w1 m1 => hG w1 (ht.on m1).1 seenA seenA) ?_))))
    (conv => whnf)
    refine ⟨fun w m => ⟨(none, 0), trivial, rfl, ?_⟩⟩
    exact (m.sel (ks := []) (by simp)).pushNil _ _
set_option maxHeartbeats 16000000 in
theorem sScript_v (A1 A2 : Option Addr) (c1 c2 : Nat) (d : Co) (t : List UInt8) (w : World) (hs : d.small) (hl : t.length ≤ 1048576) (hA : Seen w A1 (BaS d.n d.ba)) (hB : Seen w A2 (AwS d.m d.wa)) (hP : Plain A1) (hQ : Plain A2) :
    Calls Tryz.prog 10 #[.agg (d.at A1 c1 A2 c2).toArray, .string (tx t)] w fun e w' => ∃ v, e = .returned v ∧ RetV (ι := Option Addr × Nat) (fun _ => True) (fun (P, cp) => .tuple #[.slice P (rsV d t).1.length cp, .bool (rsV d t).2]) (fun (P, cp) => [.row (.slice P (rsV d t).1.length cp) 9 1 (rsV d t).1.length (TS (rsV d t).1)]) (Base.of w) v w' := by
  obtain ⟨hn, hm, hd, hp⟩ := id hs
  have hsz := tx_size t
  have hG := fun w hA hB => sG28_v A1 A2 c1 c2 d w hn hm hd hp hA hB
  have hS := fun x w (hx : x = 10) => l1Split_v 10 x t w hx (by omega)
  by_cases hg : d.good
  · rw [tr_yes hg] at hG
    by_cases h4 : t.length ≤ 4000
    · by_cases h30 : (sps 10 t).length ≤ 30
      · rw [rsV_yes ⟨hg, h4, h30⟩]
        dsimp only
        rw [Co.rps_len]
        have hE := fun k A B c e w hA hB hP hQ => sExec_v A B c e (d.st (lnL t) k) (lnL t k) w (Co.st_small hs _ k) (by have := lnL_len t k; omega) hA hB hP hQ
        replace hE : ∀ k A B c e w, Seen w A (BaS (d.st (lnL t) k).n (d.st (lnL t) k).ba) → Seen w B (AwS (d.st (lnL t) k).m (d.st (lnL t) k).wa) → Plain A → Plain B → Calls Tryz.prog 38 #[.agg ((d.st (lnL t) k).at A c B e).toArray, .string (tx (lnL t k))] w fun e w' => ∃ v, e = .returned v ∧ RetV (fun _ => True) (fun i => .tuple #[(d.st (lnL t) (k + 1)).cv i, .string (tx (d.rp (lnL t) k))]) (d.st (lnL t) (k + 1)).cn (Base.of w) v w' := hE
        have hx : ∀ k, k < (sps 10 t).length → (TS (sps 10 t))[mulS k 1]? = some (.string (tx (lnL t k))) := fun k hk => TS_at hk (by rw [mulS_eq, Nat.mul_one])
        have hx0 : ∀ k, k < (sps 10 t).length → (TS (sps 10 t))[0 + mulS k 1]? = some (.string (tx (lnL t k))) := fun k hk => TS_at hk (by rw [mulS_eq, Nat.mul_one, Nat.zero_add])
        refine calls_of_vc tb_ok (args := [.agg (d.at A1 c1 A2 c2).toArray, .string (tx t)]) Tryz.func10 rfl ?_
        (repeat' ((conv => whnf); first | refine go ?_ | (refine VSome.mk ?_; intro gQ hA'; first | subst hA' | cases hA' | (dsimp only at hA'; subst hA')) | refine And.intro ?_ ?_ | intro _))
        (conv => whnf)
        rename_i gb gq
        (repeat' ((conv => whnf); first | refine go ?_ | (refine VSome.mk ?_; intro gQ hA'; first | subst hA' | cases hA' | (dsimp only at hA'; subst hA')) | refine And.intro ?_ ?_ | intro _ | (first | ((show VCall _ _ _ 45 _ _); refine VCall.grow _ (fun w1 m1 => hG w1 seenA seenA) ?_) | ((show VCall _ _ _ 44 _ _); refine VCall.ret (fun w1 m1 => hS _ w1 rfl) (fun i9 _ => ?_); obtain ⟨g9, c9⟩ := i9))))
        (conv => whnf)
        refine VLoop.mk (ι := Nat × Option Addr × Nat × Sl2) [6, 8, 9, 27, 28, 29, 30, 31, 32, 33, 34, 35, 36, 37, 38, 39, 40, 41, 42, 43, 44, 45] (fun (k, Q, cq, _) => [(9, .int .i64 k), (6, .slice Q k cq)]) (fun (k, Q, cq, (A, c), B, e) => [.blk gb 39 ((d.st (lnL t) k).at A c B e), .row (.slice Q k cq) 9 1 k (TS (d.rps (lnL t) k)), .row (.slice (some ⟨g9, 0, none⟩) (sps 10 t).length c9) 9 1 (sps 10 t).length (TS (sps 10 t)), match k with | 0 => .gone | k + 1 => .row (.slice A (d.st (lnL t) (k + 1)).n c) 96 3 (d.st (lnL t) (k + 1)).n (BaS (d.st (lnL t) (k + 1)).n (d.st (lnL t) (k + 1)).ba), match k with | 0 => .gone | k + 1 => .row (.slice B (d.st (lnL t) (k + 1)).m e) 98 4 (d.st (lnL t) (k + 1)).m (AwS (d.st (lnL t) (k + 1)).m (d.st (lnL t) (k + 1)).wa)]) (fun i => i.1 ≤ (sps 10 t).length ∧ (i.1 = 0 → i.2.2.2 = ((A1, c1), A2, c2))) (fun i => (sps 10 t).length - i.1) (0, some ⟨gq, 0, none⟩, 0, (A1, c1), A2, c2) ⟨Nat.zero_le _, fun _ => rfl⟩ ?_ (OwnLe.mk [0, 1, 2, 100, 101] (by simp) rfl) (fun i u hi => ?_)
        · ((conv => whnf); repeat (first | exact trivial | refine ⟨rfl, ?_⟩ | refine ⟨congrArg (Value.int .i64) (by first | omega | assumption | exact Eq.symm (by assumption)), ?_⟩))
        obtain ⟨k, Q, cq, ⟨A, c⟩, B, e⟩ := i
        obtain ⟨hk, h0⟩ := hi
        replace hk : k ≤ (sps 10 t).length := hk
        replace h0 : k = 0 → ((A, c), B, e) = ((A1, c1), A2, c2) := h0
        by_cases hlt : k < (sps 10 t).length
        · have a1 := hx k hlt
          have a2 := hx0 k hlt
          have hr : TS (d.rps (lnL t) (k + 1)) = TS (d.rps (lnL t) k) ++ [.string (tx (d.rp (lnL t) k))] := by rw [Co.rps_suc]; simp [TS]
          cases k with
          | zero =>
            cases h0 rfl
            ((conv => whnf); try dsimp only)
            (repeat' ((conv => whnf); first | refine go ?_ | (refine VSome.mk ?_; intro gQ hA'; first | subst hA' | cases hA' | (dsimp only at hA'; subst hA')) | refine And.intro ?_ ?_ | intro _ | (first | ((show VCall _ _ _ 38 _ _); refine VCall.ret (fun w1 m1 => hE 0 _ _ _ _ w1 seenA seenA hP hQ) (fun i _ => ?_); obtain ⟨⟨A9, c9⟩, B9, e9⟩ := i) | ((show VDraw _ _ _ _ _ _); refine VDraw.mk (.take 1 (.take 2 (.take 3 (.take 4 (.br 0 (.br 5 (.take 6 (.take 7 (.take 8 (.br 9 (.take 10 .done) .done)))) .done) .done))))) [2] (by kernel_rfl) (by kernel_rfl) ?_) | ((show VApp _ _ _ _ _ _ _); (apply VApp.pushAny; (focus ((repeat (first | exact At.here | apply At.there)); done)); (focus ((repeat (first | exact At.here | apply At.there)); done)); refine VAppPush.mk rfl rfl (by omega) (fun A' c' => ?_))))))
            all_goals (conv => whnf)
            all_goals (refine VNext.mk (1, A', c', (A9, c9), B9, e9) ⟨hlt, fun h => absurd h (Nat.succ_ne_zero 0)⟩ (by show _ - 1 < _ - 0; omega) ?_ (OwnLe.mk [0, 1, 2, 5, 6] (by simp) (by show [_, Own.row _ _ _ _ (TS (d.rps (lnL t) (0 + 1))), _, _, _] = _; rw [hr]; rfl)); ((conv => whnf); repeat (first | exact trivial | refine ⟨rfl, ?_⟩ | refine ⟨congrArg (Value.int .i64) (by first | omega | assumption | exact Eq.symm (by assumption)), ?_⟩)))
          | succ k =>
            ((conv => whnf); try dsimp only)
            (repeat' ((conv => whnf); first | refine go ?_ | (refine VSome.mk ?_; intro gQ hA'; first | subst hA' | cases hA' | (dsimp only at hA'; subst hA')) | refine And.intro ?_ ?_ | intro _ | (first | ((show VCall _ _ _ 38 _ _); refine VCall.ret (fun w1 m1 => hE (k + 1) _ _ _ _ w1 seenA seenA (m1.plain fndA) (m1.plain fndA)) (fun i _ => ?_); obtain ⟨⟨A9, c9⟩, B9, e9⟩ := i) | ((show VDraw _ _ _ _ _ _); refine VDraw.mk (.take 1 (.take 2 (.take 3 (.take 4 (.br 0 (.br 5 (.take 6 (.take 7 (.take 8 (.br 9 (.take 10 .done) .done)))) .done) .done))))) [2] (by kernel_rfl) (by kernel_rfl) ?_) | ((show VApp _ _ _ _ _ _ _); (apply VApp.pushAny; (focus ((repeat (first | exact At.here | apply At.there)); done)); (focus ((repeat (first | exact At.here | apply At.there)); done)); refine VAppPush.mk rfl rfl (by omega) (fun A' c' => ?_))))))
            all_goals (conv => whnf)
            all_goals (refine VNext.mk (k + 1 + 1, A', c', (A9, c9), B9, e9) ⟨hlt, fun h => absurd h (Nat.succ_ne_zero _)⟩ (by show _ - (k + 1 + 1) < _ - (k + 1); omega) ?_ (OwnLe.mk [0, 1, 2, 5, 6] (by simp) (by show [_, Own.row _ _ _ _ (TS (d.rps (lnL t) (k + 1 + 1))), _, _, _] = _; rw [hr]; rfl)); ((conv => whnf); repeat (first | exact trivial | refine ⟨rfl, ?_⟩ | refine ⟨congrArg (Value.int .i64) (by first | omega | assumption | exact Eq.symm (by assumption)), ?_⟩)))
        · obtain rfl : k = (sps 10 t).length := by omega
          ((conv => whnf); try dsimp only)
          (repeat' ((conv => whnf); first | refine go ?_ | (refine VSome.mk ?_; intro gQ hA'; first | subst hA' | cases hA' | (dsimp only at hA'; subst hA')) | refine And.intro ?_ ?_ | intro _))
          (conv => whnf)
          exact VRet.sel (Q, cq) trivial rfl [1] (by simp) rfl
      · rw [rsV_no (fun q => h30 q.2.2)]
        refine calls_of_vc tb_ok (args := [.agg (d.at A1 c1 A2 c2).toArray, .string (tx t)]) Tryz.func10 rfl ?_
        (repeat' ((conv => whnf); first | refine go ?_ | (refine VSome.mk ?_; intro gQ hA'; first | subst hA' | cases hA' | (dsimp only at hA'; subst hA')) | refine And.intro ?_ ?_ | intro _))
        (conv => whnf)
        rename_i gb gq
        (repeat' ((conv => whnf); first | refine go ?_ | (refine VSome.mk ?_; intro gQ hA'; first | subst hA' | cases hA' | (dsimp only at hA'; subst hA')) | refine And.intro ?_ ?_ | intro _ | (first | ((show VCall _ _ _ 45 _ _); refine VCall.grow _ (fun w1 m1 => hG w1 seenA seenA) ?_) | ((show VCall _ _ _ 44 _ _); refine VCall.ret (fun w1 m1 => hS _ w1 rfl) (fun i9 _ => ?_); obtain ⟨g9, c9⟩ := i9))))
        all_goals (conv => whnf)
        all_goals exact VRet.sel (some ⟨gq, 0, none⟩, 0) trivial rfl [1] (by simp) rfl
    · rw [rsV_no (fun q => h4 q.2.1)]
      refine calls_of_vc tb_ok (args := [.agg (d.at A1 c1 A2 c2).toArray, .string (tx t)]) Tryz.func10 rfl ?_
      (repeat' ((conv => whnf); first | refine go ?_ | (refine VSome.mk ?_; intro gQ hA'; first | subst hA' | cases hA' | (dsimp only at hA'; subst hA')) | refine And.intro ?_ ?_ | intro _))
      (conv => whnf)
      rename_i gb gq
      (repeat' ((conv => whnf); first | refine go ?_ | (refine VSome.mk ?_; intro gQ hA'; first | subst hA' | cases hA' | (dsimp only at hA'; subst hA')) | refine And.intro ?_ ?_ | intro _ | (first | ((show VCall _ _ _ 45 _ _); refine VCall.grow _ (fun w1 m1 => hG w1 seenA seenA) ?_) | ((show VCall _ _ _ 44 _ _); refine VCall.ret (fun w1 m1 => hS _ w1 rfl) (fun i9 _ => ?_); obtain ⟨g9, c9⟩ := i9))))
      all_goals (conv => whnf)
      all_goals exact VRet.sel (some ⟨gq, 0, none⟩, 0) trivial rfl [1] (by simp) rfl
  · rw [tr_no hg] at hG
    rw [rsV_no (fun q => hg q.1)]
    refine calls_of_vc tb_ok (args := [.agg (d.at A1 c1 A2 c2).toArray, .string (tx t)]) Tryz.func10 rfl ?_
    (repeat' ((conv => whnf); first | refine go ?_ | (refine VSome.mk ?_; intro gQ hA'; first | subst hA' | cases hA' | (dsimp only at hA'; subst hA')) | refine And.intro ?_ ?_ | intro _))
    (conv => whnf)
    rename_i gb gq
    (repeat' ((conv => whnf); first | refine go ?_ | (refine VSome.mk ?_; intro gQ hA'; first | subst hA' | cases hA' | (dsimp only at hA'; subst hA')) | refine And.intro ?_ ?_ | intro _ | (first | ((show VCall _ _ _ 45 _ _); refine VCall.grow _ (fun w1 m1 => hG w1 seenA seenA) ?_) | ((show VCall _ _ _ 44 _ _); refine VCall.ret (fun w1 m1 => hS _ w1 rfl) (fun i9 _ => ?_); obtain ⟨g9, c9⟩ := i9))))
    all_goals (conv => whnf)
    all_goals exact VRet.sel (some ⟨gq, 0, none⟩, 0) trivial rfl [1] (by simp) rfl
end Go.Proofs.YtadjhkehfklmnaaGreatDoor
namespace Go.Proofs.YtadjhkehfklmnaaGreatDoor
set_option linter.unusedSimpArgs false
set_option linter.unusedVariables false
open Go.ChangeShapes Go.WideShapes Go.ChangeAt Go.RowKit
set_option maxRecDepth 10000
theorem cell_u8 {H : Type} {enc : TypeId × Value → H} {P : Program} {w : World} {base : Nat} {spare : Nat → Bool} {held : Bool} {t : TypeId} {fuel : Nat} {cs : List Value} {x : DataW H × List MemPlace} (ht : P.underlying t = some (.int .u8)) (h : DataW.trod enc P w base spare held fuel t cs = some x) : ∃ b : UInt8, cs = [.int .u8 (b.toNat : Int)] := by
  obtain ⟨n, h1, _, h3⟩ := DataW.trod_int ht h
  have h4 : 0 ≤ n ∧ n ≤ 255 := by simpa [Lit.wf, IntKind.min, IntKind.max, IntKind.signed, IntKind.bits] using h3
  refine ⟨UInt8.ofNat n.toNat, ?_⟩
  rw [h1, UInt8.toNat_ofNat']
  have : ((n.toNat % 2 ^ 8 : Nat) : Int) = n := by omega
  rw [this]
set_option maxRecDepth 100000 in
theorem open_YS {H : Type} {enc : TypeId × Value → H} {w : World} {base : Nat} {spare : Nat → Bool} {held : Bool} {fuel : Nat} {cs : List Value} {x : DataW H × List MemPlace} (h : DataW.trod enc Tryz.prog w base spare held fuel 46 cs = some x) :
    ∃ (A : Option Addr) (l : List UInt8) (c : Nat), cs = [.slice A l.length c] ∧ l.length ≤ 9223372036854775807 ∧ Seen w A (YS l) := by
  obtain ⟨A, n, c, rfl, hn, fu, he⟩ := open_elems (s := 1) Tryz.underlying46 (by kernel_rfl) (by omega) h
  have H : ∀ i, i < n → ∃ l : UInt8, (∃ b off, A = some ⟨b, off, none⟩ ∧ RowAt w b (off + i * 1) [.int .u8 (l.toNat : Int)]) := fun i hi => by
    obtain ⟨b, off, cs', y, hA, hb, hlen, hc, ht⟩ := he i hi
    obtain ⟨l, rfl⟩ := cell_u8 Tryz.underlying5 ht
    exact ⟨l, ⟨b, off, hA, hb, fun j u hj => (hc j (by
      rcases Nat.lt_or_ge j 1 with h2 | h2
      · exact h2
      · rw [List.getElem?_eq_none h2] at hj; cases hj)).trans hj⟩⟩
  obtain ⟨f, hf⟩ := choose_below (0 : UInt8) H
  have hlen : ((List.range n).map f).length = n := by simp
  have hs : Seen w A (rowsN n fun i => [.int .u8 ((f i).toNat : Int)]) := Seen.ofRows (s := 1) (fun _ => rfl) (fun i hi => hf i hi)
  have e : (rowsN n fun i => ([.int .u8 ((f i).toNat : Int)] : List Value)) = YS ((List.range n).map f) := by
    rw [show (rowsN n fun i => ([.int .u8 ((f i).toNat : Int)] : List Value)) = (List.range n).map (fun i => Value.int .u8 ((f i).toNat : Int)) from rowsN_one _ _]
    unfold YS
    rw [List.map_map]
    rfl
  rw [e] at hs
  exact ⟨A, (List.range n).map f, c, by rw [hlen], by rw [hlen]; exact hn, hs⟩
theorem openV_YS {H : Type} {enc : TypeId × Value → H} {w : World} {base : Nat} {spare : Nat → Bool} {held : Bool} {r : Reach} {b0 : Nat} {v : Value} {d : DataW H} {ps : List MemPlace} (hv : Value.okWide Tryz.prog w r b0 46 v) (h : DataW.Trod enc Tryz.prog w base spare held 46 v d ps) :
    ∃ (A : Option Addr) (l : List UInt8) (c : Nat), v = .slice A l.length c ∧ l.length ≤ 9223372036854775807 ∧ Seen w A (YS l) := by
  obtain ⟨A, n, c, fuel, rfl, hf⟩ := openV_slice Tryz.underlying46 hv h
  obtain ⟨A', l, c', e, hn, hr⟩ := open_YS hf
  cases e
  exact ⟨A, l, c, rfl, hn, hr⟩
end Go.Proofs.YtadjhkehfklmnaaGreatDoor
namespace Go.Proofs.YtadjhkehfklmnaaGreatDoor
set_option linter.unusedSimpArgs false
set_option linter.unusedVariables false
open Go.RowKit
set_option maxRecDepth 10000
theorem vBig28_v (A : Option Addr) (n c : Nat) (w : World) (hn : n ≤ 9223372036854775807) : Calls Tryz.prog 18 #[.slice A n c] w (Post (.bool (tr (65536 < n))) w) := by
  refine post_of_vc ?_
  refine calls_of_vc tb_ok (args := [.slice A n c]) Tryz.func18 rfl ?_
  (repeat' ((conv => whnf); first | refine go ?_ | (refine VSome.mk ?_; intro gQ hA'; first | subst hA' | cases hA' | (dsimp only at hA'; subst hA')) | refine And.intro ?_ ?_ | intro _))
  all_goals ((conv => whnf); refine VRet.mk fun w' m => ?_)
  all_goals refine ⟨congrArg Value.bool ?_, m.keeps.below⟩
  all_goals first | (exact (tr_yes (by omega)).symm) | (exact (tr_no (by omega)).symm)
noncomputable def spV (t : List UInt8) : List (List UInt8) × Bool := if tr (t.length ≤ 4000) = true then (sps 10 t, true) else ([], false)
theorem spV_yes {t : List UInt8} (h : t.length ≤ 4000) : spV t = (sps 10 t, true) := ite_tr h
theorem spV_no {t : List UInt8} (h : ¬ t.length ≤ 4000) : spV t = ([], false) := ite_ntr h
theorem spV_len (t : List UInt8) (k : Nat) : ((spV t).1.getD k []).length ≤ t.length := by
  by_cases h : t.length ≤ 4000
  · rw [spV_yes h]; exact lnL_len t k
  · rw [spV_no h]; simp
theorem spV_cnt (t : List UInt8) : (spV t).1.length ≤ t.length + 1 := by
  by_cases h : t.length ≤ 4000
  · rw [spV_yes h]; exact sps_len 10 t
  · rw [spV_no h]; simp
set_option maxHeartbeats 4000000 in
theorem splitS_v (t : List UInt8) (w : World) (hl : t.length ≤ 1048576) : Calls Tryz.prog 20 #[.string (tx t), .string (tx [10])] w fun e w' => ∃ v, e = .returned v ∧ RetV (ι := Option Addr × Nat) (fun _ => True) (fun (P, c) => .tuple #[.slice P (spV t).1.length c, .bool (spV t).2]) (fun (P, c) => [.row (.slice P (spV t).1.length c) 9 1 (spV t).1.length (TS (spV t).1)]) (Base.of w) v w' := by
  have hsz := tx_size t
  have h1 : (tx [10]).size = 1 := rfl
  have h2 : ({ data := #[10] } : ByteArray).size = 1 := rfl
  have hS := fun x w (hx : x = 10) => l1Split_v 10 x t w hx (by omega)
  by_cases h4 : t.length ≤ 4000
  · rw [spV_yes h4]
    refine calls_of_vc tb_ok (args := [.string (tx t), .string (tx [10])]) Tryz.func20 rfl ?_
    (repeat' ((conv => whnf); first | refine go ?_ | (refine VSome.mk ?_; intro gQ hA'; first | subst hA' | cases hA' | (dsimp only at hA'; subst hA')) | refine And.intro ?_ ?_ | intro _ | (first | ((show VCall _ _ _ 44 _ _); refine VCall.ret (fun w1 m1 => hS _ w1 rfl) (fun i9 _ => ?_); obtain ⟨g9, c9⟩ := i9) | ((show VStrIx _ _ _); refine VStrIx.mk 0 rfl (by omega) ?_))))
    all_goals (conv => whnf)
    all_goals exact VRet.sel (some ⟨g9, 0, none⟩, c9) trivial rfl [0] (by simp) rfl
  · rw [spV_no h4]
    refine calls_of_vc tb_ok (args := [.string (tx t), .string (tx [10])]) Tryz.func20 rfl ?_
    (repeat' ((conv => whnf); first | refine go ?_ | (refine VSome.mk ?_; intro gQ hA'; first | subst hA' | cases hA' | (dsimp only at hA'; subst hA')) | refine And.intro ?_ ?_ | intro _ | (first | ((show VCall _ _ _ 44 _ _); refine VCall.ret (fun w1 m1 => hS _ w1 rfl) (fun i9 _ => ?_); obtain ⟨g9, c9⟩ := i9) | ((show VStrIx _ _ _); refine VStrIx.mk 0 rfl (by omega) ?_))))
    all_goals (conv => whnf)
    all_goals exact ⟨fun w m => ⟨(_, 0), trivial, rfl, m.sel (ks := [0]) (by simp)⟩⟩
theorem lnL_first {t : List UInt8} (h : 0 < (sps 10 t).length) : sps 10 (lnL t 0) = [lnL t 0] := by
  refine sps_none (sps_total 10 _ t (Nat.le_refl _) _ ?_).2
  unfold lnL
  rw [List.getD_eq_getElem?_getD, List.getElem?_eq_getElem h]
  exact List.getElem_mem h
theorem rps_at (d : Co) (x : Nat → List UInt8) {n k : Nat} (h : k < n) : (d.rps x n).getD k [] = d.rp x k := by
  unfold Co.rps
  simp [List.getD_eq_getElem?_getD, h]
theorem rps_get (d : Co) (x : Nat → List UInt8) {n k o : Nat} (h : k < n) (e : o = k) : (TS (d.rps x n))[o]? = some (.string (tx (d.rp x k))) := by
  rw [TS_at (by rw [Co.rps_len]; exact h) e, rps_at d x h]
theorem rsV_first {d : Co} {t : List UInt8} (h : okS d t) (h0 : 0 < (sps 10 t).length) : rsV d (lnL t 0) = ([d.rp (lnL t) 0], true) := by
  have e := lnL_first h0
  have hl := lnL_len t 0
  rw [rsV_yes ⟨h.1, by have := h.2.1; omega, by rw [e]; show 1 ≤ 30; decide⟩, e]
  show ([(d.exec (lnL (lnL t 0) 0)).2], true) = ([(d.exec (lnL t 0)).2], true)
  rw [show lnL (lnL t 0) 0 = lnL t 0 by unfold lnL at e ⊢; rw [e]; rfl]
end Go.Proofs.YtadjhkehfklmnaaGreatDoor
namespace Go.Proofs.YtadjhkehfklmnaaGreatDoor
set_option linter.unusedSimpArgs false
set_option linter.unusedVariables false
open Go.RowKit
set_option maxRecDepth 10000
theorem Lo.zero_safe : Lo.zero.safe := by unfold Lo.zero Lo.safe; simp
theorem Lo.newV_safe (a b : Int) : (Lo.newV a b).safe := by
  by_cases h : (Lo.new a b).safe
  · rw [Lo.newV_yes h]; exact h
  · rw [Lo.newV_no h]; exact Lo.zero_safe
theorem Lo.step_safe (s : Lo) (c : Int) : (s.step c).safe := by
  by_cases h : s.okStep c
  · rw [Lo.step_yes h]; exact h.safe
  · rw [Lo.step_no h]; exact Lo.zero_safe
theorem okIntB_cons {b x : Int} {r : List Value} (h1 : -b ≤ x ∧ x ≤ b) (h2 : okIntB b r = true) : okIntB b (.int .i64 x :: r) = true := by
  unfold okIntB
  rw [h2, decide_eq_true h1.1, decide_eq_true h1.2]
  rfl
theorem Lo.of7 (x1 x2 x3 : Int) (b1 b2 b3 b4 : Bool) : Value.agg (Array.mk [.int .i64 x1, .int .i64 x2, .int .i64 x3, .bool b1, .bool b2, .bool b3, .bool b4]) = Value.agg (Lo.mk x1 x2 x3 b1 b2 b3 b4).cells.toArray := rfl
theorem newLock_any (a b : Int) (w : World) : Calls Tryz.prog 71 #[.int .i64 a, .int .i64 b] w fun e w' => ∃ i : Lo × Bool, (fun (t, b) => t.safe) i ∧ Post ((fun (t, b) => .tuple #[.agg t.cells.toArray, .bool b]) i) w e w' :=
  (sNewLock_v a b w).mono fun e w' h => ⟨(Lo.newV a b, tr (Lo.new a b).safe), Lo.newV_safe a b, h⟩
theorem step_any (s : Lo) (c : Int) (w : World) : Calls Tryz.prog 133 #[.agg s.cells.toArray, .int .i64 c] w fun e w' => ∃ i : Lo × Bool, (fun (t, b) => t.safe) i ∧ Post ((fun (t, b) => .tuple #[.agg t.cells.toArray, .bool b]) i) w e w' :=
  (sStep_v s c w).mono fun e w' h => ⟨(s.step c, tr (s.okStep c)), s.step_safe c, h⟩
theorem run_any (s : Lo) (A : Option Addr) (c : Nat) (w : World) (hs : s.safe) (hA : Seen w A [.int .i64 9, .int .i64 9]) : Calls Tryz.prog 132 #[.agg s.cells.toArray, .slice A 2 c] w fun e w' => ∃ i : Lo × Nat × Int, (fun (t, n, r) => t.safe) i ∧ Post ((fun (t, n, r) => .tuple #[.agg t.cells.toArray, .int .i64 (n : Nat), .int .i64 r]) i) w e w' :=
  (srun_v s A c [9, 9] w hs (by decide) hA).mono fun e w' ⟨r, _, h⟩ => ⟨((s.run [9, 9]).1, (s.run [9, 9]).2, r), (Lo.run_safe hs _).1, h⟩
set_option maxHeartbeats 16000000 in
theorem lockState_v {w0 : Base} {w : World} (l : List UInt8) (A : Option Addr) (c : Nat) (at_ sd : Int) (g : Nat) (hA : OldSeen w0 A (YS l)) (hl : l.length ≤ 1048576) (h0 : 0 ≤ at_) (h1 : at_ ≤ 4611686018427360000) (m0 : Mem w0 [.blk g 89 (cuC A l.length c at_ sd)] w) :
    Calls Tryz.prog 96 #[.pointer (some ⟨g, 0, none⟩)] w fun e w' => ∃ v, e = .returned v ∧ RetL (ι := Lo × Int × Int) (fun (v, a, s) => at_ ≤ a ∧ a ≤ at_ + 200) (fun (v, a, s) => .agg v.cells.toArray) (fun (v, a, s) => [.blk g 89 (cuC A l.length c a s)]) (fun _ => []) w0 v w' := by
  refine calls_of_vcL (w0 := w0) tb_ok (args := [.pointer (some ⟨g, 0, none⟩)]) Tryz.func96 rfl m0 ?_
  (repeat' ((conv => whnf); first | refine go ?_ | (refine VSome.mk ?_; intro gQ hA'; first | subst hA' | cases hA' | (dsimp only at hA'; subst hA')) | refine And.intro ?_ ?_ | intro _))
  (conv => whnf)
  rename_i g2 g3
  (repeat' ((conv => whnf); first | refine go ?_ | (refine VSome.mk ?_; intro gQ hA'; first | subst hA' | cases hA' | (dsimp only at hA'; subst hA')) | refine And.intro ?_ ?_ | intro _ | (first | ((show VCall _ _ _ 57 [_, _] _); refine VCall.fullS [0] (by simp) (fun _ => rfl) (fun w1 m1 m2 => pick_v l A c _ _ _ _ (hA.lend m1 [0]) hl (by omega) (by omega) m2) (fun (q, a, s) hq => ?_); obtain ⟨hq1, hq2, hq3, hq4⟩ := hq) | ((show VCall _ _ _ 58 [_, _] _); refine VCall.fullS [0] (by simp) (fun _ => rfl) (fun w1 m1 m2 => one_v l A c _ _ _ _ (hA.lend m1 [0]) hl (by omega) (by omega) m2) (fun (q, a, s) hq => ?_); obtain ⟨hq1, hq2⟩ := hq) | ((show VCall _ _ _ 62 [_, .slice (some ⟨_, 0, none⟩) _ _] _); refine VCall.fullS [0] (by simp) (fun _ => rfl) (fun w1 m1 m2 => amongT_v l A c _ _ _ _ _ _ _ (hA.lend m1 [0]) hl (by omega) (by omega) (OldSeen.any m1 [0] (by repeat (first | exact At.here | apply At.there)) (by simp)) (by simp only [List.length_cons, List.length_nil]; omega) (by omega) (by omega) 200000 (by repeat (first | rfl | refine okIntB_cons ⟨by omega, by omega⟩ ?_)) m2) (fun (q, a, s) hq => ?_); obtain ⟨⟨hq1, hq2⟩, hq3, hq4⟩ := hq) | ((show VCall _ _ _ 99 [_, .slice (some ⟨_, 0, none⟩) _ _] _); refine VCall.fullS [0] (by simp) (fun _ => rfl) (fun w1 m1 m2 => of_v l A c _ _ _ _ _ _ 30 _ (hA.lend m1 [0]) hl (by omega) (by omega) (OldSeen.any m1 [0] (by repeat (first | exact At.here | apply At.there)) (by simp)) (by rfl) (by omega) (by omega) (by rfl) m2) (fun (q, a, s) hq => ?_); obtain ⟨hq1, hq2, hq3⟩ := hq) | ((show VCall _ _ _ 71 _ _); refine VCall.some _ _ (fun w1 m1 => newLock_any _ _ w1) (fun (t, b) ht => ?_)))))
  all_goals (conv => whnf)
  all_goals rename_i hb g4 xx
  all_goals replace ht : t.safe := ht
  all_goals (refine VLoop.mk (ι := Int × Lo × Int × Int) [6, 7, 8, 24, 25, 26, 27, 28, 29, 30, 31, 32, 33, 34, 35, 36, 37, 38, 39, 40, 41, 42, 43, 44, 45, 46] (fun (n, t, a, s) => [(6, .int .i64 n)]) (fun (n, t, a, s) => [.blk g 89 (cuC A l.length c a s), .blk g2 34 Lo.zero.cells, .blk g4 34 t.cells]) (fun (n, t, a, s) => 0 ≤ n ∧ n ≤ 12 ∧ t.safe ∧ at_ ≤ a ∧ a + 10 * n ≤ at_ + 180) (fun i => i.1.toNat) (q, t, a, s) ⟨by omega, by omega, ht, by omega, by omega⟩ ?_ (OwnLe.mk [0, 1, 4] (by simp) rfl) (fun i u hi => ?_))
  all_goals first | (((conv => whnf); repeat (first | exact trivial | refine ⟨rfl, ?_⟩ | refine ⟨congrArg (Value.int .i64) (by first | omega | assumption | exact Eq.symm (by assumption)), ?_⟩)); done) | skip
  all_goals clear hq1 hq2 hq3 hq4 ht hb
  all_goals (obtain ⟨n, t, a, s⟩ := i; obtain ⟨p1, p2, p3, p4, p5⟩ := hi; replace p3 : t.safe := p3)
  all_goals by_cases hk : 0 < n
  iterate 2
    · (repeat' ((conv => whnf); first | refine go ?_ | (refine VSome.mk ?_; intro gQ hA'; first | subst hA' | cases hA' | (dsimp only at hA'; subst hA')) | refine And.intro ?_ ?_ | intro _ | (first | ((show VCall _ _ _ 57 [_, _] _); refine VCall.fullS [0] (by simp) (fun _ => rfl) (fun w1 m1 m2 => pick_v l A c _ _ _ _ (hA.lend m1 [0]) hl (by omega) (by omega) m2) (fun (q, a, s) hq => ?_); obtain ⟨hq1, hq2, hq3, hq4⟩ := hq) | ((show VCall _ _ _ 58 [_, _] _); refine VCall.fullS [0] (by simp) (fun _ => rfl) (fun w1 m1 m2 => one_v l A c _ _ _ _ (hA.lend m1 [0]) hl (by omega) (by omega) m2) (fun (q, a, s) hq => ?_); obtain ⟨hq1, hq2⟩ := hq) | ((show VCall _ _ _ 62 [_, .slice (some ⟨_, 0, none⟩) _ _] _); refine VCall.fullS [0] (by simp) (fun _ => rfl) (fun w1 m1 m2 => amongT_v l A c _ _ _ _ _ _ _ (hA.lend m1 [0]) hl (by omega) (by omega) (OldSeen.any m1 [0] (by repeat (first | exact At.here | apply At.there)) (by simp)) (by simp only [List.length_cons, List.length_nil]; omega) (by omega) (by omega) 200000 (by repeat (first | rfl | refine okIntB_cons ⟨by omega, by omega⟩ ?_)) m2) (fun (q, a, s) hq => ?_); obtain ⟨⟨hq1, hq2⟩, hq3, hq4⟩ := hq) | ((show VCall _ _ _ 99 [_, .slice (some ⟨_, 0, none⟩) _ _] _); refine VCall.fullS [0] (by simp) (fun _ => rfl) (fun w1 m1 m2 => of_v l A c _ _ _ _ _ _ 30 _ (hA.lend m1 [0]) hl (by omega) (by omega) (OldSeen.any m1 [0] (by repeat (first | exact At.here | apply At.there)) (by simp)) (by rfl) (by omega) (by omega) (by rfl) m2) (fun (q, a, s) hq => ?_); obtain ⟨hq1, hq2, hq3⟩ := hq) | ((show VCall _ _ _ 132 _ _); refine VCall.some _ _ (fun w1 m1 => run_any t _ _ w1 p3 (Sees.blk 3 rfl w1 m1)) (fun (t9, k9, r9) ht9 => ?_)) | ((show VCall _ _ _ 133 _ _); refine VCall.some _ _ (fun w1 m1 => step_any t _ w1) (fun (t8, b8) ht8 => ?_)) | ((show VDraw _ _ _ _ _ _); refine VDraw.mk (.take 0 (.take 1 (.br 2 (.take 3 (.br 4 (.take 5 (.take 6 (.take 7 (.br 8 (.br 9 (.take 10 .done) .done) .done)))) (.br 8 (.br 4 (.take 5 (.take 6 (.take 7 (.br 9 (.take 10 .done) .done)))) .done) .done))) (.br 8 (.br 2 (.take 3 (.br 4 (.take 5 (.take 6 (.take 7 (.br 9 (.take 10 .done) .done)))) .done)) .done) .done)))) [2] (by kernel_rfl) (by kernel_rfl) ?_))))
      all_goals (conv => whnf)
      all_goals first
        | (refine VNext.mk (n - 1, t9, a, s) ⟨by show 0 ≤ n - 1; omega, by show n - 1 ≤ 12; omega, ht9, by show at_ ≤ a; omega, by show a + 10 * (n - 1) ≤ at_ + 180; omega⟩ (by show (n - 1).toNat < n.toNat; omega) ?_ (OwnLe.mk [0, 1, 2] (by simp) rfl); (((conv => whnf); repeat (first | exact trivial | refine ⟨rfl, ?_⟩ | refine ⟨congrArg (Value.int .i64) (by first | omega | assumption | exact Eq.symm (by assumption)), ?_⟩))); done)
        | (refine VNext.mk (n - 1, t8, a, s) ⟨by show 0 ≤ n - 1; omega, by show n - 1 ≤ 12; omega, ht8, by show at_ ≤ a; omega, by show a + 10 * (n - 1) ≤ at_ + 180; omega⟩ (by show (n - 1).toNat < n.toNat; omega) ?_ (OwnLe.mk [0, 1, 2] (by simp) rfl); (((conv => whnf); repeat (first | exact trivial | refine ⟨rfl, ?_⟩ | refine ⟨congrArg (Value.int .i64) (by first | omega | assumption | exact Eq.symm (by assumption)), ?_⟩))); done)
        | (refine VNext.mk (n - 1, t, a, s) ⟨by show 0 ≤ n - 1; omega, by show n - 1 ≤ 12; omega, p3, by show at_ ≤ a; omega, by show a + 10 * (n - 1) ≤ at_ + 180; omega⟩ (by show (n - 1).toNat < n.toNat; omega) ?_ (OwnLe.mk [0, 1, 2] (by simp) rfl); (((conv => whnf); repeat (first | exact trivial | refine ⟨rfl, ?_⟩ | refine ⟨congrArg (Value.int .i64) (by first | omega | assumption | exact Eq.symm (by assumption)), ?_⟩))); done)
    · obtain ⟨x1, x2, x3, x4, _⟩ := p3
      (repeat' ((conv => whnf); first | refine go ?_ | (refine VSome.mk ?_; intro gQ hA'; first | subst hA' | cases hA' | (dsimp only at hA'; subst hA')) | refine And.intro ?_ ?_ | intro _ | (first | ((show VCall _ _ _ 57 [_, _] _); refine VCall.fullS [0] (by simp) (fun _ => rfl) (fun w1 m1 m2 => pick_v l A c _ _ _ _ (hA.lend m1 [0]) hl (by omega) (by omega) m2) (fun (q, a, s) hq => ?_); obtain ⟨hq1, hq2, hq3, hq4⟩ := hq) | ((show VCall _ _ _ 58 [_, _] _); refine VCall.fullS [0] (by simp) (fun _ => rfl) (fun w1 m1 m2 => one_v l A c _ _ _ _ (hA.lend m1 [0]) hl (by omega) (by omega) m2) (fun (q, a, s) hq => ?_); obtain ⟨hq1, hq2⟩ := hq) | ((show VCall _ _ _ 62 [_, .slice (some ⟨_, 0, none⟩) _ _] _); refine VCall.fullS [0] (by simp) (fun _ => rfl) (fun w1 m1 m2 => amongT_v l A c _ _ _ _ _ _ _ (hA.lend m1 [0]) hl (by omega) (by omega) (OldSeen.any m1 [0] (by repeat (first | exact At.here | apply At.there)) (by simp)) (by simp only [List.length_cons, List.length_nil]; omega) (by omega) (by omega) 200000 (by repeat (first | rfl | refine okIntB_cons ⟨by omega, by omega⟩ ?_)) m2) (fun (q, a, s) hq => ?_); obtain ⟨⟨hq1, hq2⟩, hq3, hq4⟩ := hq) | ((show VCall _ _ _ 99 [_, .slice (some ⟨_, 0, none⟩) _ _] _); refine VCall.fullS [0] (by simp) (fun _ => rfl) (fun w1 m1 m2 => of_v l A c _ _ _ _ _ _ 30 _ (hA.lend m1 [0]) hl (by omega) (by omega) (OldSeen.any m1 [0] (by repeat (first | exact At.here | apply At.there)) (by simp)) (by rfl) (by omega) (by omega) (by rfl) m2) (fun (q, a, s) hq => ?_); obtain ⟨hq1, hq2, hq3⟩ := hq) | ((show VCall _ _ _ 62 [_, .slice (some ⟨_, 0, none⟩) _ _] _); refine VCall.fullS [0] (by simp) (fun _ => rfl) (fun w1 m1 m2 => amongI_v l A c _ _ _ _ _ _ _ (hA.lend m1 [0]) hl (by omega) (by omega) (OldSeen.any m1 [0] (by repeat (first | exact At.here | apply At.there)) (by simp)) rfl (by omega) (by omega) (by rfl) m2) (fun (q, a, s) hq => ?_); obtain ⟨hq3, hq4⟩ := hq))))
      all_goals (conv => whnf)
      all_goals (show VRet _ _ _ (Value.agg (Array.mk [_, _, _, _, _, _, _])); exact VRet.mk fun w' m => ⟨(⟨_, _, _, _, _, _, _⟩, _, _), ⟨by omega, by omega⟩, Lo.of7 _ _ _ _ _ _ _, m.sel (ks := [0]) (by simp)⟩)
set_option maxHeartbeats 8000000 in
theorem flow_v {w0 : Base} {w : World} (l : List UInt8) (A : Option Addr) (c : Nat) (at_ sd : Int) (g n : Nat) (hn : n ≤ 1000) (hA : OldSeen w0 A (YS l)) (hl : l.length ≤ 1048576) (h0 : 0 ≤ at_) (h1 : at_ ≤ 4611686018427370000) (m0 : Mem w0 [.blk g 89 (cuC A l.length c at_ sd)] w) :
    Calls Tryz.prog 100 #[.pointer (some ⟨g, 0, none⟩), .int .i64 n] w fun e w' => ∃ v, e = .returned v ∧ RetL (ι := Int × Int × Int × Int × Int) (fun (x, y, z, a, s) => (-200000 ≤ x ∧ x ≤ 200000) ∧ (-200000 ≤ y ∧ y ≤ 200000) ∧ (-200000 ≤ z ∧ z ≤ 200000) ∧ at_ ≤ a ∧ a ≤ at_ + 20) (fun (x, y, z, a, s) => .agg #[.int .i64 x, .int .i64 y, .int .i64 z]) (fun (x, y, z, a, s) => [.blk g 89 (cuC A l.length c a s)]) (fun _ => []) w0 v w' := by
  refine calls_of_vcL (w0 := w0) tb_ok (args := [.pointer (some ⟨g, 0, none⟩), .int .i64 n]) Tryz.func100 rfl m0 ?_
  (repeat' ((conv => whnf); first | refine go ?_ | (refine VSome.mk ?_; intro gQ hA'; first | subst hA' | cases hA' | (dsimp only at hA'; subst hA')) | refine And.intro ?_ ?_ | intro _ | (first | ((show VCall _ _ _ 57 [_, _] _); refine VCall.fullS [0] (by simp) (fun _ => rfl) (fun w1 m1 m2 => pick_v l A c _ _ _ _ (hA.lend m1 [0]) hl (by omega) (by omega) m2) (fun (q, a, s) hq => ?_); obtain ⟨hq1, hq2, hq3, hq4⟩ := hq) | ((show VCall _ _ _ 58 [_, _] _); refine VCall.fullS [0] (by simp) (fun _ => rfl) (fun w1 m1 m2 => one_v l A c _ _ _ _ (hA.lend m1 [0]) hl (by omega) (by omega) m2) (fun (q, a, s) hq => ?_); obtain ⟨hq1, hq2⟩ := hq) | ((show VCall _ _ _ 62 [_, .slice (some ⟨_, 0, none⟩) _ _] _); refine VCall.fullS [0] (by simp) (fun _ => rfl) (fun w1 m1 m2 => amongT_v l A c _ _ _ _ _ _ _ (hA.lend m1 [0]) hl (by omega) (by omega) (OldSeen.any m1 [0] (by repeat (first | exact At.here | apply At.there)) (by simp)) (by simp only [List.length_cons, List.length_nil]; omega) (by omega) (by omega) 200000 (by repeat (first | rfl | refine okIntB_cons ⟨by omega, by omega⟩ ?_)) m2) (fun (q, a, s) hq => ?_); obtain ⟨⟨hq1, hq2⟩, hq3, hq4⟩ := hq) | ((show VCall _ _ _ 99 [_, .slice (some ⟨_, 0, none⟩) _ _] _); refine VCall.fullS [0] (by simp) (fun _ => rfl) (fun w1 m1 m2 => of_v l A c _ _ _ _ _ _ 30 _ (hA.lend m1 [0]) hl (by omega) (by omega) (OldSeen.any m1 [0] (by repeat (first | exact At.here | apply At.there)) (by simp)) (by rfl) (by omega) (by omega) (by rfl) m2) (fun (q, a, s) hq => ?_); obtain ⟨hq1, hq2, hq3⟩ := hq))))
  all_goals (conv => whnf)
  all_goals exact VRet.mk fun w' m => ⟨(_, _, _, _, _), ⟨⟨by omega, by omega⟩, ⟨by omega, by omega⟩, ⟨by omega, by omega⟩, by omega, by omega⟩, rfl, m.sel (ks := [0]) (by simp)⟩
set_option maxHeartbeats 8000000 in
theorem lockMin_v {w0 : Base} {w : World} (l : List UInt8) (A : Option Addr) (c : Nat) (at_ sd : Int) (g : Nat) (hA : OldSeen w0 A (YS l)) (hl : l.length ≤ 1048576) (h0 : 0 ≤ at_) (h1 : at_ ≤ 4611686018427370000) (m0 : Mem w0 [.blk g 89 (cuC A l.length c at_ sd)] w) :
    Calls Tryz.prog 101 #[.pointer (some ⟨g, 0, none⟩)] w fun e w' => ∃ v, e = .returned v ∧ RetL (ι := Int × Int × Int) (fun (x, a, s) => (-200000 ≤ x ∧ x ≤ 200000) ∧ at_ ≤ a ∧ a ≤ at_ + 2) (fun (x, a, s) => .int .i64 x) (fun (x, a, s) => [.blk g 89 (cuC A l.length c a s)]) (fun _ => []) w0 v w' := by
  refine calls_of_vcL (w0 := w0) tb_ok (args := [.pointer (some ⟨g, 0, none⟩)]) Tryz.func101 rfl m0 ?_
  (repeat' ((conv => whnf); first | refine go ?_ | (refine VSome.mk ?_; intro gQ hA'; first | subst hA' | cases hA' | (dsimp only at hA'; subst hA')) | refine And.intro ?_ ?_ | intro _ | (first | ((show VCall _ _ _ 57 [_, _] _); refine VCall.fullS [0] (by simp) (fun _ => rfl) (fun w1 m1 m2 => pick_v l A c _ _ _ _ (hA.lend m1 [0]) hl (by omega) (by omega) m2) (fun (q, a, s) hq => ?_); obtain ⟨hq1, hq2, hq3, hq4⟩ := hq) | ((show VCall _ _ _ 58 [_, _] _); refine VCall.fullS [0] (by simp) (fun _ => rfl) (fun w1 m1 m2 => one_v l A c _ _ _ _ (hA.lend m1 [0]) hl (by omega) (by omega) m2) (fun (q, a, s) hq => ?_); obtain ⟨hq1, hq2⟩ := hq) | ((show VCall _ _ _ 62 [_, .slice (some ⟨_, 0, none⟩) _ _] _); refine VCall.fullS [0] (by simp) (fun _ => rfl) (fun w1 m1 m2 => amongT_v l A c _ _ _ _ _ _ _ (hA.lend m1 [0]) hl (by omega) (by omega) (OldSeen.any m1 [0] (by repeat (first | exact At.here | apply At.there)) (by simp)) (by simp only [List.length_cons, List.length_nil]; omega) (by omega) (by omega) 200000 (by repeat (first | rfl | refine okIntB_cons ⟨by omega, by omega⟩ ?_)) m2) (fun (q, a, s) hq => ?_); obtain ⟨⟨hq1, hq2⟩, hq3, hq4⟩ := hq) | ((show VCall _ _ _ 99 [_, .slice (some ⟨_, 0, none⟩) _ _] _); refine VCall.fullS [0] (by simp) (fun _ => rfl) (fun w1 m1 m2 => of_v l A c _ _ _ _ _ _ 30 _ (hA.lend m1 [0]) hl (by omega) (by omega) (OldSeen.any m1 [0] (by repeat (first | exact At.here | apply At.there)) (by simp)) (by rfl) (by omega) (by omega) (by rfl) m2) (fun (q, a, s) hq => ?_); obtain ⟨hq1, hq2, hq3⟩ := hq))))
  all_goals (conv => whnf)
  all_goals exact VRet.mk fun w' m => ⟨(_, _, _), ⟨⟨by omega, by omega⟩, by omega, by omega⟩, rfl, m.sel (ks := [0]) (by simp)⟩
end Go.Proofs.YtadjhkehfklmnaaGreatDoor
