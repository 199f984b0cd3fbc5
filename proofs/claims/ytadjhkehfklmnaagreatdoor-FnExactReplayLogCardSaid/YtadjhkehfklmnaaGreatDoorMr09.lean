/-
  Texts joined: how the calls that the law reaches are walked, and the plain laws behind them.
  Conditions: none beyond each statement's own premises.
-/
import Derived.Test.YtadjhkehfklmnaaGreatDoorMr08
namespace Go.Proofs.YtadjhkehfklmnaaGreatDoor
set_option linter.unusedSimpArgs false
set_option linter.unusedVariables false
open Go.RowKit
set_option maxRecDepth 10000
def Co.du (d : Co) : List UInt8 := d.log.durable.data.toList
def Co.pe (d : Co) : List UInt8 := d.log.pending.data.toList
theorem Co.du_tx (d : Co) : tx d.du = d.log.durable := tx_list _
theorem Co.pe_tx (d : Co) : tx d.pe = d.log.pending := tx_list _
theorem Co.du_len (d : Co) : d.du.length = d.log.durable.size := by rw [← d.du_tx, tx_size]
theorem Co.pe_len (d : Co) : d.pe.length = d.log.pending.size := by rw [← d.pe_tx, tx_size]
def Co.good (d : Co) : Prop := d.lock.safe ∧ bGood d.n d.ba ∧ aGood d.m d.wa ∧ okL d.du d.pe d.log.count
set_option maxHeartbeats 1600000 in
theorem iCon_v (A B : Option Addr) (c e : Nat) (d : Co) (w : World) (hn : d.n ≤ 1048576) (hm : d.m ≤ 1048576) (hd : d.log.durable.size ≤ 1048576) (hp : d.log.pending.size ≤ 1048576) (ht : PTab w) (hA : Seen w A (BaS d.n d.ba)) (hB : Seen w B (AwS d.m d.wa)) :
    Calls Tryz.prog 39 #[.agg (d.at A c B e).toArray] w (Post (.bool (tr d.good)) w) := by
  have hL := fun w ht => iLog_v d.du d.pe d.log.count w (by rw [d.du_len]; omega) (by rw [d.pe_len]; omega) ht
  rw [d.du_tx, d.pe_tx] at hL
  refine post_of_vc ?_
  refine calls_of_vc tb_ok (args := [.agg (d.at A c B e).toArray]) Tryz.func39 rfl ?_
  (repeat' ((conv => whnf); first | refine go ?_ | (refine VSome.mk ?_; intro gQ hA'; first | subst hA' | cases hA' | (dsimp only at hA'; subst hA')) | refine And.intro ?_ ?_ | intro _ | (first | ((show VCall _ _ _ 87 _ _); refine VCall.test _ (fun w1 _ => iSafe_v d.lock w1) ?_) | ((show VCall _ _ _ 69 _ _); refine VCall.test _ (fun w1 m1 => iBas_v A d.n c d.ba w1 hn seenA) ?_) | ((show VCall _ _ _ 88 _ _); refine VCall.test _ (fun w1 m1 => iArr_v B d.m e d.wa w1 hm seenA) ?_) | ((show VCall _ _ _ 79 _ _); refine VCall.test _ (fun w1 m1 => hL w1 (ht.on m1)) ?_))))
  all_goals ((conv => whnf); refine VRet.mk fun w' m => ?_)
  all_goals refine ⟨congrArg Value.bool ?_, m.keeps.below⟩
  all_goals first | (rw [tr_yes ⟨by assumption, by assumption, by assumption, by assumption⟩]; done) | (rw [tr_no (fun ⟨z1, z2, z3, z4⟩ => by contradiction)]; done)
set_option maxHeartbeats 1600000 in
theorem sG28_v (A B : Option Addr) (c e : Nat) (d : Co) (w : World) (hn : d.n ≤ 1048576) (hm : d.m ≤ 1048576) (hd : d.log.durable.size ≤ 1048576) (hp : d.log.pending.size ≤ 1048576) (hA : Seen w A (BaS d.n d.ba)) (hB : Seen w B (AwS d.m d.wa)) :
    Calls Tryz.prog 45 #[.agg (d.at A c B e).toArray] w (Post (.bool (tr d.good)) w) := by
  have hL := fun w => sLog_v d.du d.pe d.log.count w (by rw [d.du_len]; omega) (by rw [d.pe_len]; omega)
  rw [d.du_tx, d.pe_tx] at hL
  refine post_of_vc ?_
  refine calls_of_vc tb_ok (args := [.agg (d.at A c B e).toArray]) Tryz.func45 rfl ?_
  (repeat' ((conv => whnf); first | refine go ?_ | (refine VSome.mk ?_; intro gQ hA'; first | subst hA' | cases hA' | (dsimp only at hA'; subst hA')) | refine And.intro ?_ ?_ | intro _ | (first | ((show VCall _ _ _ 91 _ _); refine VCall.test _ (fun w1 _ => sSafe_v d.lock w1) ?_) | ((show VCall _ _ _ 72 _ _); refine VCall.test _ (fun w1 m1 => sBas_v A d.n c d.ba w1 hn seenA) ?_) | ((show VCall _ _ _ 92 _ _); refine VCall.test _ (fun w1 m1 => sArr_v B d.m e d.wa w1 hm seenA) ?_) | ((show VCall _ _ _ 66 _ _); refine VCall.test _ (fun w1 m1 => hL w1) ?_))))
  all_goals ((conv => whnf); refine VRet.mk fun w' m => ?_)
  all_goals refine ⟨congrArg Value.bool ?_, m.keeps.below⟩
  all_goals first | (rw [tr_yes ⟨by assumption, by assumption, by assumption, by assumption⟩]; done) | (rw [tr_no (fun ⟨z1, z2, z3, z4⟩ => by contradiction)]; done)
end Go.Proofs.YtadjhkehfklmnaaGreatDoor
namespace Go.Proofs.YtadjhkehfklmnaaGreatDoor
set_option linter.unusedSimpArgs false
set_option linter.unusedVariables false
open Go.RowKit
set_option maxRecDepth 10000
def Lo.high (s : Lo) : Bool := decide (s.upper - s.level < s.level - s.lower)
noncomputable def plc (f : Nat → Aw) (x : Int) : Nat → Nat → Nat
  | 0, k => k
  | d + 1, k => if tr ((f k).id < x) then plc f x d (k + 1) else k
theorem plc_go {f : Nat → Aw} {x : Int} {d k : Nat} (h : (f k).id < x) : plc f x (d + 1) k = plc f x d (k + 1) := by
  show (if tr ((f k).id < x) then _ else _) = _
  rw [tr_yes h]; rfl
theorem plc_stop {f : Nat → Aw} {x : Int} {d k : Nat} (h : ¬ (f k).id < x) : plc f x (d + 1) k = k := by
  show (if tr ((f k).id < x) then _ else _) = _
  rw [tr_no h]; rfl
def Co.arr (d : Co) (k : Nat) (a : Aw) : Co := { d with m := d.m + 1, wa := insF d.wa k a }
def Co.lve (d : Co) (k : Nat) : Co := { d with m := d.m - 1, wa := delF d.wa k }
noncomputable def fnd (f : Nat → Aw) (x : Int) : Nat → Option Nat
  | 0 => none
  | k + 1 => match fnd f x k with
    | some i => some i
    | none => if tr ((f k).id = x) then some k else none
theorem fnd_some {f : Nat → Aw} {x : Int} {i : Nat} : ∀ {k : Nat}, fnd f x k = some i → i < k ∧ (f i).id = x ∧ ∀ j, j < i → ¬ (f j).id = x
  | 0, h => by cases h
  | k + 1, h => by
    unfold fnd at h
    cases e : fnd f x k with
    | some i' =>
      rw [e] at h
      cases h
      obtain ⟨h1, h2, h3⟩ := fnd_some e
      exact ⟨by omega, h2, h3⟩
    | none =>
      rw [e] at h
      by_cases hx : (f k).id = x
      · rw [tr_yes hx] at h
        cases h
        refine ⟨Nat.lt_succ_self _, hx, fun j hj e2 => ?_⟩
        have : ∀ {m : Nat}, fnd f x m = none → ∀ j, j < m → ¬ (f j).id = x := by
          intro m
          induction m with
          | zero => exact fun _ j hj => absurd hj (Nat.not_lt_zero j)
          | succ m ih =>
            intro h j hj
            unfold fnd at h
            cases e3 : fnd f x m with
            | some i => rw [e3] at h; cases h
            | none =>
              rw [e3] at h
              by_cases hm : (f m).id = x
              · rw [tr_yes hm] at h; cases h
              · rcases Nat.lt_or_ge j m with h4 | h4
                · exact ih e3 j h4
                · obtain rfl : j = m := by omega
                  exact hm
        exact this e j hj e2
      · rw [tr_no hx] at h; cases h
theorem fnd_none {f : Nat → Aw} {x : Int} : ∀ {m : Nat}, fnd f x m = none → ∀ j, j < m → ¬ (f j).id = x := by
  intro m
  induction m with
  | zero => exact fun _ j hj => absurd hj (Nat.not_lt_zero j)
  | succ m ih =>
    intro h j hj
    unfold fnd at h
    cases e3 : fnd f x m with
    | some i => rw [e3] at h; cases h
    | none =>
      rw [e3] at h
      by_cases hm : (f m).id = x
      · rw [tr_yes hm] at h; cases h
      · rcases Nat.lt_or_ge j m with h4 | h4
        · exact ih e3 j h4
        · obtain rfl : j = m := by omega
          exact hm
theorem fnd_is {f : Nat → Aw} {x : Int} {i m : Nat} (hi : i < m) (h : (f i).id = x) (hn : ∀ j, j < i → ¬ (f j).id = x) : fnd f x m = some i := by
  cases e : fnd f x m with
  | none => exact absurd h (fnd_none e i hi)
  | some j =>
    obtain ⟨h1, h2, h3⟩ := fnd_some e
    rcases Nat.lt_trichotomy i j with h4 | h4 | h4
    · exact absurd h (h3 i h4)
    · rw [h4]
    · exact absurd h2 (hn j h4)
def a0 (l : List Int) (k : Nat) : Int := l.getD k 0
def isOne (x : Int) : Bool := decide (x = 1)
def idsOf (f : Nat → Aw) (p : List Nat) : List Int := p.map fun i => (f i).id
noncomputable def Co.ex (d : Co) (w : List UInt8) (l : List Int) : Option (Co × List UInt8) :=
  if w = wStep then (if tr (d.lock.okStep (a0 l 0)) then some ({ d with lock := d.lock.move (a0 l 0) }, wOk) else none)
  else if w = wGo then some ({ d with lock := (d.lock.run (d.lock.plan (isOne (a0 l 0)))).1 }, Lib.itoa (d.lock.run (d.lock.plan (isOne (a0 l 0)))).1.level)
  else if w = wPlan then some (d, ltx (d.lock.plan (isOne (a0 l 0))))
  else if w = wHead then some (d, Lib.itoa (d.lock.head (isOne (a0 l 0))))
  else if w = wLevel then some (d, Lib.itoa d.lock.level)
  else if w = wFlow then (if tr (bCan d.n d.ba (a0 l 0) (a0 l 1) (a0 l 2)) then some ({ d with ba := bMv d.ba (a0 l 0) (a0 l 1) (a0 l 2) }, wOk) else none)
  else if w = wWater then some (d, Lib.itoa (smI (fun i => (d.ba i).vol) d.n))
  else if w = wArrive then (if tr (aGood (d.m + 1) (insF d.wa (plc d.wa (a0 l 0) d.m 0) ⟨a0 l 0, isOne (a0 l 1), a0 l 2, a0 l 3⟩)) then some (d.arr (plc d.wa (a0 l 0) d.m 0) ⟨a0 l 0, isOne (a0 l 1), a0 l 2, a0 l 3⟩, wOk) else none)
  else if w = wLeave then (match fnd d.wa (a0 l 0) d.m with
    | some k => some (d.lve k, wOk)
    | none => none)
  else if tr (1 ≤ a0 l 0 ∧ a0 l 0 ≤ 60) then
    (if w = wBound then some (d, Lib.itoa (loB d.wa (a0 l 0) d.lock.high d.m))
    else if w = wDelay then some (d, Lib.itoa (best d.m d.wa (a0 l 0) d.lock.high d.m []).2)
    else some (d, ltx (idsOf d.wa (best d.m d.wa (a0 l 0) d.lock.high d.m []).1)))
  else none
noncomputable def Co.cmd (d : Co) (line : List UInt8) : Co × List UInt8 := match parse line with
  | some (w, l) => (match d.ex w l with
    | some r => r
    | none => (d, wAsk))
  | none => (d, wAsk)
def cutR (r : List UInt8) : List UInt8 := if 200 < r.length then wLong else r
def Co.logged (d : Co) (c : Co) (x r : List UInt8) : Co := { d with log := ⟨c.log.durable, tx (c.pe ++ (ln c.log.count.toNat x r ++ [10])), c.log.count + 1⟩ }
noncomputable def Co.exec (d : Co) (line : List UInt8) : Co × List UInt8 :=
  if tr d.good then (if tr (okR line []) then (if d.log.count = 60 then (d, wFull) else ((d.cmd line).1.logged d line (cutR (d.cmd line).2), cutR (d.cmd line).2)) else (d, wBad)) else (d, wNo)
theorem Co.exec_no {d : Co} {line : List UInt8} (h : ¬ d.good) : d.exec line = (d, wNo) := by unfold Co.exec; rw [tr_no h]; rfl
theorem Co.exec_bad {d : Co} {line : List UInt8} (h : d.good) (h2 : ¬ okR line []) : d.exec line = (d, wBad) := by unfold Co.exec; rw [tr_yes h, tr_no h2]; rfl
theorem Co.exec_full {d : Co} {line : List UInt8} (h : d.good) (h2 : okR line []) (h3 : d.log.count = 60) : d.exec line = (d, wFull) := by unfold Co.exec; rw [tr_yes h, tr_yes h2]; exact if_pos h3
theorem Co.exec_yes {d : Co} {line : List UInt8} (h : d.good) (h2 : okR line []) (h3 : ¬ d.log.count = 60) : d.exec line = ((d.cmd line).1.logged d line (cutR (d.cmd line).2), cutR (d.cmd line).2) := by unfold Co.exec; rw [tr_yes h, tr_yes h2]; exact if_neg h3
end Go.Proofs.YtadjhkehfklmnaaGreatDoor
namespace Go.Proofs.YtadjhkehfklmnaaGreatDoor
set_option linter.unusedSimpArgs false
set_option linter.unusedVariables false
open Go.ChangeShapes Go.WideShapes Go.ChangeAt Go.RowKit
set_option maxRecDepth 10000
theorem RcS_at {n i off : Nat} {f : Nat → Rc} (hi : i < n) (ho : off = i * 2) (j : Nat) (u : Value) (hj : (f i).cells[j]? = some u) : (RcS n f)[off + j]? = some u := by
  have hj2 : j < 2 := by
    rcases Nat.lt_or_ge j 2 with h | h
    · exact h
    · rw [List.getElem?_eq_none h] at hj; cases hj
  rw [ho]
  have := rowsN_get (f := fun i => (f i).cells) (s := 2) (fun _ => rfl) (n := n) (i := i) (j := j) hi hj2
  rw [show RcS n f = rowsN n fun i => (f i).cells from rfl, this]
  exact hj
theorem okL_app {d p x r : List UInt8} {k : Nat} (h : okL d p k) (hg : okR x r) (hk : ¬ k = 60) :
    okL d (p ++ (ln k x r ++ [10])) ((k : Int) + 1) ∧ cnt (d ++ p) = k ∧ cnt (d ++ (p ++ (ln k x r ++ [10]))) = k + 1 ∧ (∀ i, i < k → rcd (d ++ (p ++ (ln k x r ++ [10]))) i = rcd (d ++ p) i) ∧ rcd (d ++ (p ++ (ln k x r ++ [10]))) k = ⟨tx x, tx r⟩ ∧ ends (d ++ (p ++ (ln k x r ++ [10]))) (k + 1) = (d ++ (p ++ (ln k x r ++ [10]))).length ∧ k < 60 := by
  obtain ⟨h1, h2, h3⟩ := h
  have hc : cnt (d ++ p) = k := by omega
  have h60 := cnt_le (d ++ p)
  have hlt : k < 60 := by omega
  rw [hc] at h1
  have e : d ++ (p ++ (ln k x r ++ [10])) = (d ++ p) ++ (ln k x r ++ [10]) := (List.append_assoc _ _ _).symm
  unfold okL
  rw [e]
  clear e h2 h60
  generalize d ++ p = s at h1 hc
  have he : ends (s ++ (ln k x r ++ [10])) k = s.length := by rw [app_ends (by omega), h1]
  have hd : (s ++ (ln k x r ++ [10])).drop s.length = ln k x r ++ [10] := by simp
  have hln := ln_line (k := k) hg
  have hb := bfs_at (c := 10) (p := ln k x r) (q := []) hln
  have hlin : lin (s ++ (ln k x r ++ [10])) s.length = ln k x r := by unfold lin; rw [hd]; exact hb.1
  have hst : step (s ++ (ln k x r ++ [10])) k := ⟨hlt, by rw [he, hd]; simp, by rw [he, hlin]; exact (okp_ln hg).1⟩
  have he1 : ends (s ++ (ln k x r ++ [10])) (k + 1) = (s ++ (ln k x r ++ [10])).length := by
    show ends (s ++ (ln k x r ++ [10])) k + (lin (s ++ (ln k x r ++ [10])) (ends (s ++ (ln k x r ++ [10])) k)).length + 1 = _
    rw [he, hlin]
    simp
    omega
  have hcnt : cnt (s ++ (ln k x r ++ [10])) = k + 1 := cnt_is (fun j hj => by
    rcases Nat.lt_or_ge j k with h | h
    · exact (step_app (app_ends (by omega)) (cnt_step (by omega))).1
    · rw [show j = k by omega]; exact hst) (step_end (by omega))
  refine ⟨⟨?_, ?_, h3⟩, hc, hcnt, fun i hi => ?_, ?_, he1, hlt⟩
  · rw [hcnt, he1]
  · rw [hcnt]; rfl
  · have hi2 := cnt_step (s := s) (j := i) (by omega)
    unfold rcd
    rw [app_ends (by omega), (lin_app hi2.2.1).1]
  · unfold rcd
    rw [he, hlin, (okp_ln hg).2.1, (okp_ln hg).2.2]
end Go.Proofs.YtadjhkehfklmnaaGreatDoor
namespace Go.Proofs.YtadjhkehfklmnaaGreatDoor
set_option linter.unusedSimpArgs false
set_option linter.unusedVariables false
open Go.RowKit
set_option maxRecDepth 10000
theorem plain_dd (n : Nat) : plainT (Lib.decDigits n) := fun b hb => by
  by_cases h : 48 ≤ b.toNat ∧ b.toNat ≤ 57
  · exact ⟨by omega, by omega, fun e => by rw [e] at h; exact absurd h.1 (by decide)⟩
  · exact absurd hb (dd_not (by omega))
theorem plain_app {a b : List UInt8} (ha : plainT a) (hb : plainT b) : plainT (a ++ b) := fun x hx => (List.mem_append.1 hx).elim (ha x) (hb x)
theorem plain_cons {a : UInt8} {b : List UInt8} (ha : okB a) (hb : plainT b) : plainT (a :: b) := fun x hx => (List.mem_cons.1 hx).elim (fun e => e ▸ ha) (hb x)
theorem plain_nil : plainT [] := fun x hx => by cases hx
theorem plain_itoa (n : Int) : plainT (Lib.itoa n) := by
  unfold Lib.itoa
  split
  · exact plain_cons ⟨by decide, by decide, by decide⟩ (plain_dd _)
  · exact plain_dd _
theorem plain_tail : ∀ r : List Int, plainT (Lib.joinTail [32] (r.map Lib.itoa))
  | [] => plain_nil
  | x :: r => by
    have ih := plain_tail r
    unfold Lib.joinTail at ih ⊢
    rw [List.map_cons, List.map_cons, List.flatten_cons]
    exact plain_app (plain_cons ⟨by decide, by decide, by decide⟩ (plain_itoa x)) ih
theorem plain_ltx : ∀ l : List Int, plainT (ltx l)
  | [] => plain_cons ⟨by decide, by decide, by decide⟩ (plain_cons ⟨by decide, by decide, by decide⟩ (plain_cons ⟨by decide, by decide, by decide⟩ (plain_cons ⟨by decide, by decide, by decide⟩ plain_nil)))
  | x :: r => by rw [ltx_cons]; exact plain_app (plain_itoa x) (plain_tail r)
theorem plain_ok : plainT wOk := plain_cons ⟨by decide, by decide, by decide⟩ (plain_cons ⟨by decide, by decide, by decide⟩ plain_nil)
theorem plain_ask : plainT wAsk := plain_cons ⟨by decide, by decide, by decide⟩ plain_nil
theorem plain_long : plainT wLong := plain_cons ⟨by decide, by decide, by decide⟩ (plain_cons ⟨by decide, by decide, by decide⟩ (plain_cons ⟨by decide, by decide, by decide⟩ (plain_cons ⟨by decide, by decide, by decide⟩ plain_nil)))
theorem aGood.del {n k : Nat} {f : Nat → Aw} (h : aGood n f) (hk : k < n) : aGood (n - 1) (delF f k) := by
  refine ⟨fun i hi => ?_, by have := h.2; omega⟩
  unfold aOk delF
  by_cases h1 : i < k
  · have h2 := h.1 i (by omega)
    unfold aOk at h2
    rw [if_pos h1, if_pos (by omega : i - 1 < k)]
    exact h2
  · have h2 := h.1 (i + 1) (by omega)
    unfold aOk at h2
    rw [if_neg h1]
    refine ⟨h2.1, h2.2.1, h2.2.2.1, fun h0 => ?_⟩
    by_cases h3 : i - 1 < k
    · rw [if_pos h3]; exact h.lt (by omega) (by omega)
    · rw [if_neg h3, show i - 1 + 1 = i by omega]; exact h.lt (by omega) (by omega)
def Co.fit (d : Co) : Prop := d.lock.safe ∧ bGood d.n d.ba ∧ aGood d.m d.wa
theorem ite_tr {α : Type} {p : Prop} {a b : α} (h : p) : (if tr p = true then a else b) = a := by rw [tr_yes h]; exact if_pos rfl
theorem ite_ntr {α : Type} {p : Prop} {a b : α} (h : ¬ p) : (if tr p = true then a else b) = b := by rw [tr_no h]; exact if_neg (by decide)
theorem Co.ex_ok {d c' : Co} {w : List UInt8} {l : List Int} {t : List UInt8} (hg : d.fit) (h : d.ex w l = some (c', t)) : c'.fit ∧ c'.log = d.log ∧ plainT t := by
  obtain ⟨hs, hb, ha⟩ := hg
  unfold Co.ex at h
  by_cases e : w = wStep
  · rw [if_pos e] at h
    by_cases h1 : d.lock.okStep (a0 l 0)
    · rw [ite_tr h1] at h; cases h
      exact ⟨⟨h1.safe, hb, ha⟩, rfl, plain_ok⟩
    · rw [ite_ntr h1] at h; cases h
  rw [if_neg e] at h
  clear e
  by_cases e : w = wGo
  · rw [if_pos e] at h
    cases h
    exact ⟨⟨(Lo.run_safe hs _).1, hb, ha⟩, rfl, plain_itoa _⟩
  rw [if_neg e] at h
  clear e
  by_cases e : w = wPlan
  · rw [if_pos e] at h
    cases h
    exact ⟨⟨hs, hb, ha⟩, rfl, plain_ltx _⟩
  rw [if_neg e] at h
  clear e
  by_cases e : w = wHead
  · rw [if_pos e] at h
    cases h
    exact ⟨⟨hs, hb, ha⟩, rfl, plain_itoa _⟩
  rw [if_neg e] at h
  clear e
  by_cases e : w = wLevel
  · rw [if_pos e] at h
    cases h
    exact ⟨⟨hs, hb, ha⟩, rfl, plain_itoa _⟩
  rw [if_neg e] at h
  clear e
  by_cases e : w = wFlow
  · rw [if_pos e] at h
    by_cases h1 : bCan d.n d.ba (a0 l 0) (a0 l 1) (a0 l 2)
    · rw [ite_tr h1] at h; cases h
      exact ⟨⟨hs, h1.2.2, ha⟩, rfl, plain_ok⟩
    · rw [ite_ntr h1] at h; cases h
  rw [if_neg e] at h
  clear e
  by_cases e : w = wWater
  · rw [if_pos e] at h
    cases h
    exact ⟨⟨hs, hb, ha⟩, rfl, plain_itoa _⟩
  rw [if_neg e] at h
  clear e
  by_cases e : w = wArrive
  · rw [if_pos e] at h
    by_cases h1 : aGood (d.m + 1) (insF d.wa (plc d.wa (a0 l 0) d.m 0) ⟨a0 l 0, isOne (a0 l 1), a0 l 2, a0 l 3⟩)
    · rw [ite_tr h1] at h; cases h
      exact ⟨⟨hs, hb, h1⟩, rfl, plain_ok⟩
    · rw [ite_ntr h1] at h; cases h
  rw [if_neg e] at h
  clear e
  by_cases e : w = wLeave
  · rw [if_pos e] at h
    cases e : fnd d.wa (a0 l 0) d.m with
    | some k =>
      rw [e] at h; cases h
      exact ⟨⟨hs, hb, ha.del (fnd_some e).1⟩, rfl, plain_ok⟩
    | none => rw [e] at h; cases h
  rw [if_neg e] at h
  clear e
  by_cases h1 : 1 ≤ a0 l 0 ∧ a0 l 0 ≤ 60
  · rw [ite_tr h1] at h
    by_cases e : w = wBound
    · rw [if_pos e] at h
      cases h
      exact ⟨⟨hs, hb, ha⟩, rfl, plain_itoa _⟩
    rw [if_neg e] at h
    clear e
    by_cases e : w = wDelay
    · rw [if_pos e] at h
      cases h
      exact ⟨⟨hs, hb, ha⟩, rfl, plain_itoa _⟩
    · rw [if_neg e] at h
      cases h
      exact ⟨⟨hs, hb, ha⟩, rfl, plain_ltx _⟩
  · rw [ite_ntr h1] at h; cases h
theorem Co.cmd_ok {d : Co} (hg : d.fit) (line : List UInt8) : (d.cmd line).1.fit ∧ (d.cmd line).1.log = d.log ∧ plainT (d.cmd line).2 := by
  unfold Co.cmd
  cases e : parse line with
  | none => exact ⟨hg, rfl, plain_ask⟩
  | some p =>
    obtain ⟨w, l⟩ := p
    dsimp only
    cases e2 : d.ex w l with
    | none => exact ⟨hg, rfl, plain_ask⟩
    | some r =>
      obtain ⟨c', t⟩ := r
      exact Co.ex_ok hg e2
theorem cutR_ok {t : List UInt8} (h : plainT t) : plainT (cutR t) ∧ (cutR t).length ≤ 200 := by
  unfold cutR
  split
  · exact ⟨plain_long, by decide⟩
  · exact ⟨h, by omega⟩
theorem Co.good.fit {d : Co} (h : d.good) : d.fit := ⟨h.1, h.2.1, h.2.2.1⟩
theorem Co.rec_ok {d : Co} {line : List UInt8} (hg : d.fit) (hl : okR line []) : okR line (cutR (d.cmd line).2) := by
  have h := cutR_ok (Co.cmd_ok hg line).2.2
  exact ⟨hl.1, h.1, hl.2.2.1, hl.2.2.2.1, h.2, hl.2.2.2.2.2⟩
theorem Co.logged_du (d c : Co) (x r : List UInt8) : (d.logged c x r).du = c.du := rfl
theorem Co.logged_pe (d c : Co) (x r : List UInt8) : (d.logged c x r).pe = c.pe ++ (ln c.log.count.toNat x r ++ [10]) := by
  show (tx (c.pe ++ (ln c.log.count.toNat x r ++ [10]))).data.toList = _
  simp [tx]
theorem okL_nat {a b : List UInt8} {c : Int} (h : okL a b c) : ∃ k : Nat, c = k ∧ k ≤ 60 := by
  obtain ⟨_, h2, _⟩ := h
  exact ⟨_, h2.symm, cnt_le _⟩
theorem Co.exec_good {d : Co} (hg : d.good) (line : List UInt8) : (d.exec line).1.good := by
  by_cases h2 : okR line []
  · by_cases h3 : d.log.count = 60
    · rw [Co.exec_full hg h2 h3]; exact hg
    · rw [Co.exec_yes hg h2 h3]
      obtain ⟨hf, hlog, ht⟩ := Co.cmd_ok hg.fit line
      have hr := Co.rec_ok hg.fit h2
      obtain ⟨k, hk, _⟩ := okL_nat hg.2.2.2
      refine ⟨hf.1, hf.2.1, hf.2.2, ?_⟩
      show okL ((d.cmd line).1.logged d line (cutR (d.cmd line).2)).du ((d.cmd line).1.logged d line (cutR (d.cmd line).2)).pe (d.log.count + 1)
      rw [Co.logged_du, Co.logged_pe]
      have := hg.2.2.2
      rw [hk] at this ⊢
      rw [Int.toNat_natCast]
      exact (okL_app this hr (by omega)).1
  · rw [Co.exec_bad hg h2]; exact hg
def Co.small (d : Co) : Prop := d.n ≤ 1048576 ∧ d.m ≤ 1048576 ∧ d.log.durable.size ≤ 1048576 ∧ d.log.pending.size ≤ 1048576
theorem Co.good.small {d : Co} (h : d.good) : d.small := by
  have h1 := h.2.1.2
  have h2 := h.2.2.1.2
  have h3 := okL_len h.2.2.2
  rw [Co.du_len, Co.pe_len] at h3
  exact ⟨by omega, by omega, by omega, by omega⟩
theorem Co.exec_small {d : Co} (h : d.small) (line : List UInt8) : (d.exec line).1.small := by
  by_cases hg : d.good
  · exact (Co.exec_good hg line).small
  · rw [Co.exec_no hg]; exact h
end Go.Proofs.YtadjhkehfklmnaaGreatDoor
namespace Go.Proofs.YtadjhkehfklmnaaGreatDoor
set_option linter.unusedSimpArgs false
set_option linter.unusedVariables false
open Go.RowKit
set_option maxRecDepth 10000
noncomputable def Co.st (d : Co) (x : Nat → List UInt8) : Nat → Co
  | 0 => d
  | k + 1 => ((d.st x k).exec (x k)).1
noncomputable def Co.rp (d : Co) (x : Nat → List UInt8) (k : Nat) : List UInt8 := ((d.st x k).exec (x k)).2
theorem Co.st_small {d : Co} (h : d.small) (x : Nat → List UInt8) : ∀ k, (d.st x k).small
  | 0 => h
  | k + 1 => Co.exec_small (Co.st_small h x k) (x k)
noncomputable def misN (p : Nat → Prop) : Nat → Nat → Nat
  | 0, k => k
  | f + 1, k => if tr (p k) = true then k else misN p f (k + 1)
theorem misN_hit {p : Nat → Prop} {f k : Nat} (h : p k) : misN p (f + 1) k = k := ite_tr h
theorem misN_miss {p : Nat → Prop} {f k : Nat} (h : ¬ p k) : misN p (f + 1) k = misN p f (k + 1) := ite_ntr h
def xsL (s : List UInt8) (i : Nat) : List UInt8 := cmd (lin s (ends s i))
def ysL (s : List UInt8) (i : Nat) : List UInt8 := rep (lin s (ends s i))
def difL (d : Co) (s : List UInt8) (k : Nat) : Prop := ¬ d.rp (xsL s) k = ysL s k
noncomputable def rplV (a b : Int) (n : Nat) (f : Nat → Ba) (d p : List UInt8) (c : Int) : Nat × Bool := if tr (okNew a b n f ∧ okL d p c) = true then (misN (difL (coNew a b n f) (d ++ p)) (cnt (d ++ p)) 0, true) else (0, false)
theorem rplV_yes {a b : Int} {n : Nat} {f : Nat → Ba} {d p : List UInt8} {c : Int} (h1 : okNew a b n f) (h2 : okL d p c) : rplV a b n f d p c = (misN (difL (coNew a b n f) (d ++ p)) (cnt (d ++ p)) 0, true) := ite_tr ⟨h1, h2⟩
theorem rplV_no {a b : Int} {n : Nat} {f : Nat → Ba} {d p : List UInt8} {c : Int} (h : ¬ (okNew a b n f ∧ okL d p c)) : rplV a b n f d p c = (0, false) := ite_ntr h
theorem coNew_small {a b : Int} {n : Nat} {f : Nat → Ba} (h : n ≤ 1048576) : (coNew a b n f).small := by
  refine ⟨coNew_n h, coNew_m, ?_, ?_⟩
  · by_cases h2 : okNew a b n f
    · rw [coNew_yes h2]; exact Nat.zero_le _
    · rw [coNew_no h2]; exact Nat.zero_le _
  · by_cases h2 : okNew a b n f
    · rw [coNew_yes h2]; exact Nat.zero_le _
    · rw [coNew_no h2]; exact Nat.zero_le _
theorem xs_len {s : List UInt8} {k : Nat} (h : k < cnt s) : (xsL s k).length ≤ 160 := ((cnt_step h).2.2).1.2.2.2.1
end Go.Proofs.YtadjhkehfklmnaaGreatDoor
namespace Go.Proofs.YtadjhkehfklmnaaGreatDoor
set_option linter.unusedSimpArgs false
set_option linter.unusedVariables false
open Go.RowKit
set_option maxRecDepth 10000
theorem itoaZ_v (n : Int) (w : World) (h1 : -1000000 ≤ n) (h2 : n ≤ 1000000) (ht : PTab w) : Calls Tryz.prog 59 #[.int .i64 n] w (Post (.string (tx (Lib.itoa n))) w) :=
  (Tryz.strconv_Itoa n (by omega) (by omega) w ht).mono fun e w' ⟨he, k, os, hw⟩ => ⟨by rw [he]; rfl, by rw [hw]; exact Lib.below_grow _ _ (Nat.le_refl _) _ _⟩
set_option maxHeartbeats 400000 in
theorem l1NumZ_v (n : Int) (w : World) (h1 : -1000000 ≤ n) (h2 : n ≤ 1000000) : Calls Tryz.prog 61 #[.int .i64 n] w (Post (.string (tx (Lib.itoa n))) w) := by
  rcases (by omega : 0 ≤ n ∨ n < 0) with h | h
  · obtain ⟨q, rfl⟩ := Int.eq_ofNat_of_zero_le h
    rw [itoaN]
    exact l1Num_v q w (by omega)
  · obtain ⟨q, hq⟩ := Int.eq_ofNat_of_zero_le (show 0 ≤ -n by omega)
    have hr := fun w => l1Num_v q w (by omega)
    rw [← hq] at hr
    have el := dd_len 6 q (by omega)
    refine post_of_vc ?_
    refine calls_of_vc tb_ok (args := [.int .i64 n]) Tryz.func61 rfl ?_
    (repeat' ((conv => whnf); first | refine go ?_ | (refine VSome.mk ?_; intro gQ hA'; first | subst hA' | cases hA' | (dsimp only at hA'; subst hA')) | refine And.intro ?_ ?_ | intro _ | (first | ((show VCall _ _ _ 61 _ _); refine VCall.grow _ (fun w1 _ => hr w1) ?_) | ((show VCat _ _ _); refine VCat.of (a := [45]) (by show 1 + _ ≤ _; omega) ?_))))
    (conv => whnf); refine VRet.mk fun w' m => ?_
    refine ⟨?_, m.keeps.below⟩
    unfold Lib.itoa
    rw [if_pos h, show n.natAbs = q by omega]
    rfl
set_option maxHeartbeats 1600000 in
theorem l1Read_v (l : List UInt8) (w : World) (hl : l.length ≤ 1048576) : Calls Tryz.prog 191 #[.string (tx l)] w (Post (.tuple #[.int .i64 (rdV l).1, .bool (rdV l).2]) w) := by
  have hsz := tx_size l
  have hl2 : (unS l).length ≤ l.length := by
    unfold unS
    split
    · rw [List.length_drop]; omega
    · omega
  have hsz2 := tx_size (unS l)
  refine post_of_vc ?_
  refine calls_of_vc tb_ok (args := [.string (tx l)]) Tryz.func191 rfl ?_
  have h0 : ∀ h, (tx l)[0]'h = l.getD 0 0 := fun h => getD_tx l 0 (by omega)
  have h00 : 0 < l.length → (l[0]? = some 45 ↔ l.getD 0 0 = 45) := fun h => by
    rw [List.getD_eq_getElem?_getD, List.getElem?_eq_getElem h]
    simp
  have h01 : (l.getD 0 0 = 45 ↔ (l.getD 0 0).toNat = 45) := by
    constructor
    · intro h; rw [h]; rfl
    · intro h; exact UInt8.toNat_inj.1 h
  by_cases hs : 1 < l.length ∧ l[0]? = some 45
  · have hu := unS_yes hs.1 hs.2
    obtain ⟨hs1, hs2⟩ := hs
    have hs3 := h01.1 ((h00 (by omega)).1 hs2)
    have hs4 : (((tx l)[0]'(by omega)).toNat : Int) = 45 := by rw [h0]; omega
    (repeat' ((conv => whnf); first | refine go ?_ | (refine VSome.mk ?_; intro gQ hA'; first | subst hA' | cases hA' | (dsimp only at hA'; subst hA')) | refine And.intro ?_ ?_ | intro _ | (first | ((show VStrIx _ _ _); refine VStrIx.mk 0 rfl (by omega) ?_) | ((show VSub _ _ _ _); refine VSub.tx (q := unS l) 1 l.length rfl hsz.symm (by omega) (Nat.le_refl _) (by rw [hu, List.take_length]) ?_))))
    (conv => whnf)
    (refine VCall.test _ (fun w1 _ => l1In_v _ _ _ w1) ?_)
    (repeat' ((conv => whnf); first | refine go ?_ | (refine VSome.mk ?_; intro gQ hA'; first | subst hA' | cases hA' | (dsimp only at hA'; subst hA')) | refine And.intro ?_ ?_ | intro _ | (first | ((show VSub _ _ _ _); fail))))
    all_goals (conv => whnf)
    all_goals first
      | (refine VRet.mk fun w' m => ⟨?_, m.keeps.below⟩; rw [rdV_no_len (by omega)]; done)
      | skip
    refine VLoop.mk (ι := Nat × Nat) [2, 3, 5, 6, 22, 23, 24, 25, 26, 27, 28, 29, 30, 31, 32, 33, 34, 35, 36, 37, 38, 39, 40, 41, 42, 43, 44, 45] (fun (k, a) => [(6, .int .i64 k), (5, .int .i64 a)]) (fun _ => []) (fun (k, a) => k ≤ (unS l).length ∧ Lib.decFrom 0 ((unS l).take k) = some a) (fun (k, a) => (unS l).length - k) (0, 0) ⟨Nat.zero_le _, rfl⟩ ?_ (OwnLe.mk [] (by simp) rfl) (fun i u hi => ?_)
    · ((conv => whnf); repeat (first | exact trivial | refine ⟨rfl, ?_⟩ | refine ⟨congrArg (Value.int .i64) (by first | omega | assumption | exact Eq.symm (by assumption)), ?_⟩))
    obtain ⟨k, a⟩ := i
    obtain ⟨hk, ha⟩ := hi
    replace hk : k ≤ (unS l).length := hk
    replace ha : Lib.decFrom 0 ((unS l).take k) = some a := ha
    have ha9 := digits_lt (by omega) ha
    by_cases hlt : k < (unS l).length
    · have hk2 : k < (tx (unS l)).size := by omega
      have hg := getD_tx (unS l) k hlt
      have hb := (tx (unS l))[k].toNat_lt
      by_cases hd : 48 ≤ ((unS l).getD k 0).toNat ∧ ((unS l).getD k 0).toNat ≤ 57
      · have hd1 : ¬ ((tx (unS l))[k].toNat : Int) < 48 := by rw [hg]; omega
        have hd2 : ¬ ((tx (unS l))[k].toNat : Int) > 57 := by rw [hg]; omega
        have hw : IntKind.u8.wrap (((tx (unS l))[k].toNat : Int) - 48) = (((unS l).getD k 0).toNat - 48 : Nat) := by rw [hg, wrap_u8 (by omega) (by omega)]; omega
        have hs9 := digits_suc hlt ha hd.1 hd.2
        have e9 : (10 * (a : Int) + ((((unS l).getD k 0).toNat - 48 : Nat) : Int)) = ((10 * a + (((unS l).getD k 0).toNat - 48) : Nat) : Int) := by omega
        (repeat' ((conv => whnf); first | refine go ?_ | (refine VSome.mk ?_; intro gQ hA'; first | subst hA' | cases hA' | (dsimp only at hA'; subst hA')) | refine And.intro ?_ ?_ | intro _ | (first | ((show VIn (IntKind.u8.wrap _) _); refine VIn.mk (by rw [hw]; omega) (by rw [hw]; omega) ?_) | ((show VIn (10 * (a : Int) + IntKind.u8.wrap _) _); refine VIn.mk (by rw [hw]; omega) (by rw [hw]; omega) ?_))))
        all_goals (conv => whnf)
        all_goals refine VNext.mk (k + 1, 10 * a + (((unS l).getD k 0).toNat - 48)) ⟨hlt, hs9⟩ (by show (unS l).length - (k + 1) < (unS l).length - k; omega) ?_ (OwnLe.mk [] (by simp) rfl)
        all_goals (conv => whnf)
        all_goals repeat (first | exact trivial | refine ⟨rfl, ?_⟩ | refine ⟨by rw [← e9, hw], ?_⟩)
      · have hd3 : ((tx (unS l))[k].toNat : Int) < 48 ∨ ((tx (unS l))[k].toNat : Int) > 57 := by rw [hg]; omega
        (repeat' ((conv => whnf); first | refine go ?_ | (refine VSome.mk ?_; intro gQ hA'; first | subst hA' | cases hA' | (dsimp only at hA'; subst hA')) | refine And.intro ?_ ?_ | intro _ | (first | ((show VSub _ _ _ _); fail))))
        all_goals (conv => whnf)
        all_goals first
          | (exfalso; omega)
          | (refine VRet.mk fun w' m => ⟨?_, m.keeps.below⟩; rw [rdV_no_digit hlt hd]; done)
    obtain rfl : k = (unS l).length := by omega
    rw [List.take_length] at ha
    have hnum : ∀ w, Calls Tryz.prog 61 #[.int .i64 (sgV l a)] w (Post (.string (tx (Lib.itoa (sgV l a)))) w) := fun w => l1NumZ_v _ w (by unfold sgV; split <;> omega) (by unfold sgV; split <;> omega)
    have hne := sgV_no ha
    have hye := sgV_yes (l := l) ha9
    have hsl : ¬ tx (Lib.itoa (sgV l a)) = tx l ↔ ¬ Lib.itoa (sgV l a) = l := ⟨fun h e => h (by rw [e]), fun h e => h (tx_inj e)⟩
    by_cases hlen : (unS l).length < l.length
    · have es : sgV l a = -(a : Int) := if_pos hlen
      rw [es] at hnum hne hye hsl
      (repeat' ((conv => whnf); first | refine go ?_ | (refine VSome.mk ?_; intro gQ hA'; first | subst hA' | cases hA' | (dsimp only at hA'; subst hA')) | refine And.intro ?_ ?_ | intro _ | (first | ((show VCall _ _ _ 61 _ _); refine VCall.grow _ (fun w1 m1 => hnum w1) ?_))))
      all_goals (conv => whnf)
      all_goals first
        | (refine VRet.mk fun w' m => ⟨?_, m.keeps.below⟩; rw [hne (hsl.1 (by assumption))]; done)
        | (refine VRet.mk fun w' m => ⟨?_, m.keeps.below⟩; rw [hye (tx_inj (Classical.not_not.1 (by assumption)))]; done)
        | (refine VRet.mk fun w' m => ⟨?_, m.keeps.below⟩; rw [hye (tx_inj (by assumption))]; done)
    · have es : sgV l a = (a : Int) := if_neg hlen
      rw [es] at hnum hne hye hsl
      (repeat' ((conv => whnf); first | refine go ?_ | (refine VSome.mk ?_; intro gQ hA'; first | subst hA' | cases hA' | (dsimp only at hA'; subst hA')) | refine And.intro ?_ ?_ | intro _ | (first | ((show VCall _ _ _ 61 _ _); refine VCall.grow _ (fun w1 m1 => hnum w1) ?_))))
      all_goals (conv => whnf)
      all_goals first
        | (refine VRet.mk fun w' m => ⟨?_, m.keeps.below⟩; rw [hne (hsl.1 (by assumption))]; done)
        | (refine VRet.mk fun w' m => ⟨?_, m.keeps.below⟩; rw [hye (tx_inj (Classical.not_not.1 (by assumption)))]; done)
        | (refine VRet.mk fun w' m => ⟨?_, m.keeps.below⟩; rw [hye (tx_inj (by assumption))]; done)
  · have hu := unS_no hs
    by_cases h1 : 1 < l.length
    · have hs5 : ¬ (((tx l)[0]'(by omega)).toNat : Int) = 45 := fun h2 => by
        rw [h0] at h2
        exact hs ⟨h1, (h00 (by omega)).2 (h01.2 (by omega))⟩
      (repeat' ((conv => whnf); first | refine go ?_ | (refine VSome.mk ?_; intro gQ hA'; first | subst hA' | cases hA' | (dsimp only at hA'; subst hA')) | refine And.intro ?_ ?_ | intro _ | (first | ((show VStrIx _ _ _); refine VStrIx.mk 0 rfl (by omega) ?_))))
      (conv => whnf)
      clear h0 h00 h01 hl2 hsz2 hs5 hs
      (show VCall _ _ _ 109 _ _)
      (refine VCall.test _ (fun w1 _ => l1In_v _ _ _ w1) ?_)
      (repeat' ((conv => whnf); first | refine go ?_ | (refine VSome.mk ?_; intro gQ hA'; first | subst hA' | cases hA' | (dsimp only at hA'; subst hA')) | refine And.intro ?_ ?_ | intro _ | (first | ((show VSub _ _ _ _); fail))))
      all_goals (conv => whnf)
      all_goals first
        | (refine VRet.mk fun w' m => ⟨?_, m.keeps.below⟩; rw [rdV_no_len (by rw [hu]; omega)]; done)
        | skip
      refine VLoop.mk (ι := Nat × Nat) [2, 3, 5, 6, 22, 23, 24, 25, 26, 27, 28, 29, 30, 31, 32, 33, 34, 35, 36, 37, 38, 39, 40, 41, 42, 43, 44, 45] (fun (k, a) => [(6, .int .i64 k), (5, .int .i64 a)]) (fun _ => []) (fun (k, a) => k ≤ l.length ∧ Lib.decFrom 0 (l.take k) = some a) (fun (k, a) => l.length - k) (0, 0) ⟨Nat.zero_le _, rfl⟩ ?_ (OwnLe.mk [] (by simp) rfl) (fun i u hi => ?_)
      · ((conv => whnf); repeat (first | exact trivial | refine ⟨rfl, ?_⟩ | refine ⟨congrArg (Value.int .i64) (by first | omega | assumption | exact Eq.symm (by assumption)), ?_⟩))
      obtain ⟨k, a⟩ := i
      obtain ⟨hk, ha⟩ := hi
      replace hk : k ≤ l.length := hk
      replace ha : Lib.decFrom 0 (l.take k) = some a := ha
      have ha9 := digits_lt (by omega) ha
      by_cases hlt : k < l.length
      · have hk2 : k < (tx l).size := by omega
        have hg := getD_tx l k hlt
        have hb := (tx l)[k].toNat_lt
        by_cases hd : 48 ≤ (l.getD k 0).toNat ∧ (l.getD k 0).toNat ≤ 57
        · have hd1 : ¬ ((tx l)[k].toNat : Int) < 48 := by rw [hg]; omega
          have hd2 : ¬ ((tx l)[k].toNat : Int) > 57 := by rw [hg]; omega
          have hw : IntKind.u8.wrap (((tx l)[k].toNat : Int) - 48) = ((l.getD k 0).toNat - 48 : Nat) := by rw [hg, wrap_u8 (by omega) (by omega)]; omega
          have hs9 := digits_suc hlt ha hd.1 hd.2
          have e9 : (10 * (a : Int) + (((l.getD k 0).toNat - 48 : Nat) : Int)) = ((10 * a + ((l.getD k 0).toNat - 48) : Nat) : Int) := by omega
          (repeat' ((conv => whnf); first | refine go ?_ | (refine VSome.mk ?_; intro gQ hA'; first | subst hA' | cases hA' | (dsimp only at hA'; subst hA')) | refine And.intro ?_ ?_ | intro _ | (first | ((show VIn (IntKind.u8.wrap _) _); refine VIn.mk (by rw [hw]; omega) (by rw [hw]; omega) ?_) | ((show VIn (10 * (a : Int) + IntKind.u8.wrap _) _); refine VIn.mk (by rw [hw]; omega) (by rw [hw]; omega) ?_))))
          all_goals (conv => whnf)
          all_goals refine VNext.mk (k + 1, 10 * a + ((l.getD k 0).toNat - 48)) ⟨hlt, hs9⟩ (by show l.length - (k + 1) < l.length - k; omega) ?_ (OwnLe.mk [] (by simp) rfl)
          all_goals (conv => whnf)
          all_goals repeat (first | exact trivial | refine ⟨rfl, ?_⟩ | refine ⟨by rw [← e9, hw], ?_⟩)
        · have hd3 : ((tx l)[k].toNat : Int) < 48 ∨ ((tx l)[k].toNat : Int) > 57 := by rw [hg]; omega
          (repeat' ((conv => whnf); first | refine go ?_ | (refine VSome.mk ?_; intro gQ hA'; first | subst hA' | cases hA' | (dsimp only at hA'; subst hA')) | refine And.intro ?_ ?_ | intro _ | (first | ((show VSub _ _ _ _); fail))))
          all_goals (conv => whnf)
          all_goals first
            | (exfalso; omega)
            | (refine VRet.mk fun w' m => ⟨?_, m.keeps.below⟩; rw [rdV_no_digit (k := k) (by rw [hu]; exact hlt) (by rw [hu]; exact hd)]; done)
      obtain rfl : k = l.length := by omega
      rw [List.take_length] at ha
      have hnum : ∀ w, Calls Tryz.prog 61 #[.int .i64 (sgV l a)] w (Post (.string (tx (Lib.itoa (sgV l a)))) w) := fun w => l1NumZ_v _ w (by unfold sgV; split <;> omega) (by unfold sgV; split <;> omega)
      have hne := sgV_no (l := l) (acc := a) (by rw [hu]; exact ha)
      have hye := sgV_yes (l := l) ha9
      have hsl : ¬ tx (Lib.itoa (sgV l a)) = tx l ↔ ¬ Lib.itoa (sgV l a) = l := ⟨fun h e => h (by rw [e]), fun h e => h (tx_inj e)⟩
      have es : sgV l a = (a : Int) := if_neg (by rw [hu]; omega)
      rw [es] at hnum hne hye hsl
      (repeat' ((conv => whnf); first | refine go ?_ | (refine VSome.mk ?_; intro gQ hA'; first | subst hA' | cases hA' | (dsimp only at hA'; subst hA')) | refine And.intro ?_ ?_ | intro _ | (first | ((show VCall _ _ _ 61 _ _); refine VCall.grow _ (fun w1 m1 => hnum w1) ?_))))
      all_goals (conv => whnf)
      all_goals first
        | (refine VRet.mk fun w' m => ⟨?_, m.keeps.below⟩; rw [hne (hsl.1 (by assumption))]; done)
        | (refine VRet.mk fun w' m => ⟨?_, m.keeps.below⟩; rw [hye (tx_inj (Classical.not_not.1 (by assumption)))]; done)
        | (refine VRet.mk fun w' m => ⟨?_, m.keeps.below⟩; rw [hye (tx_inj (by assumption))]; done)
    · clear hs
      have q9 : ¬ 1 < ((tx l).size : Int) := by omega
      (repeat' ((conv => whnf); first | refine go ?_ | (refine VSome.mk ?_; intro gQ hA'; first | subst hA' | cases hA' | (dsimp only at hA'; subst hA')) | refine And.intro ?_ ?_ | intro _ | (first | ((show VStrIx _ _ _); refine VStrIx.mk 0 rfl (by omega) ?_))))
      (conv => whnf)
      clear h0 h00 h01 hl2 hsz2
      (show VCall _ _ _ 109 _ _)
      (refine VCall.test _ (fun w1 _ => l1In_v _ _ _ w1) ?_)
      (repeat' ((conv => whnf); first | refine go ?_ | (refine VSome.mk ?_; intro gQ hA'; first | subst hA' | cases hA' | (dsimp only at hA'; subst hA')) | refine And.intro ?_ ?_ | intro _ | (first | ((show VSub _ _ _ _); fail))))
      all_goals (conv => whnf)
      all_goals first
        | (refine VRet.mk fun w' m => ⟨?_, m.keeps.below⟩; rw [rdV_no_len (by rw [hu]; omega)]; done)
        | skip
      refine VLoop.mk (ι := Nat × Nat) [2, 3, 5, 6, 22, 23, 24, 25, 26, 27, 28, 29, 30, 31, 32, 33, 34, 35, 36, 37, 38, 39, 40, 41, 42, 43, 44, 45] (fun (k, a) => [(6, .int .i64 k), (5, .int .i64 a)]) (fun _ => []) (fun (k, a) => k ≤ l.length ∧ Lib.decFrom 0 (l.take k) = some a) (fun (k, a) => l.length - k) (0, 0) ⟨Nat.zero_le _, rfl⟩ ?_ (OwnLe.mk [] (by simp) rfl) (fun i u hi => ?_)
      · ((conv => whnf); repeat (first | exact trivial | refine ⟨rfl, ?_⟩ | refine ⟨congrArg (Value.int .i64) (by first | omega | assumption | exact Eq.symm (by assumption)), ?_⟩))
      obtain ⟨k, a⟩ := i
      obtain ⟨hk, ha⟩ := hi
      replace hk : k ≤ l.length := hk
      replace ha : Lib.decFrom 0 (l.take k) = some a := ha
      have ha9 := digits_lt (by omega) ha
      by_cases hlt : k < l.length
      · have hk2 : k < (tx l).size := by omega
        have hg := getD_tx l k hlt
        have hb := (tx l)[k].toNat_lt
        by_cases hd : 48 ≤ (l.getD k 0).toNat ∧ (l.getD k 0).toNat ≤ 57
        · have hd1 : ¬ ((tx l)[k].toNat : Int) < 48 := by rw [hg]; omega
          have hd2 : ¬ ((tx l)[k].toNat : Int) > 57 := by rw [hg]; omega
          have hw : IntKind.u8.wrap (((tx l)[k].toNat : Int) - 48) = ((l.getD k 0).toNat - 48 : Nat) := by rw [hg, wrap_u8 (by omega) (by omega)]; omega
          have hs9 := digits_suc hlt ha hd.1 hd.2
          have e9 : (10 * (a : Int) + (((l.getD k 0).toNat - 48 : Nat) : Int)) = ((10 * a + ((l.getD k 0).toNat - 48) : Nat) : Int) := by omega
          (repeat' ((conv => whnf); first | refine go ?_ | (refine VSome.mk ?_; intro gQ hA'; first | subst hA' | cases hA' | (dsimp only at hA'; subst hA')) | refine And.intro ?_ ?_ | intro _ | (first | ((show VIn (IntKind.u8.wrap _) _); refine VIn.mk (by rw [hw]; omega) (by rw [hw]; omega) ?_) | ((show VIn (10 * (a : Int) + IntKind.u8.wrap _) _); refine VIn.mk (by rw [hw]; omega) (by rw [hw]; omega) ?_))))
          all_goals (conv => whnf)
          all_goals refine VNext.mk (k + 1, 10 * a + ((l.getD k 0).toNat - 48)) ⟨hlt, hs9⟩ (by show l.length - (k + 1) < l.length - k; omega) ?_ (OwnLe.mk [] (by simp) rfl)
          all_goals (conv => whnf)
          all_goals repeat (first | exact trivial | refine ⟨rfl, ?_⟩ | refine ⟨by rw [← e9, hw], ?_⟩)
        · have hd3 : ((tx l)[k].toNat : Int) < 48 ∨ ((tx l)[k].toNat : Int) > 57 := by rw [hg]; omega
          (repeat' ((conv => whnf); first | refine go ?_ | (refine VSome.mk ?_; intro gQ hA'; first | subst hA' | cases hA' | (dsimp only at hA'; subst hA')) | refine And.intro ?_ ?_ | intro _ | (first | ((show VSub _ _ _ _); fail))))
          all_goals (conv => whnf)
          all_goals first
            | (exfalso; omega)
            | (refine VRet.mk fun w' m => ⟨?_, m.keeps.below⟩; rw [rdV_no_digit (k := k) (by rw [hu]; exact hlt) (by rw [hu]; exact hd)]; done)
      obtain rfl : k = l.length := by omega
      rw [List.take_length] at ha
      have hnum : ∀ w, Calls Tryz.prog 61 #[.int .i64 (sgV l a)] w (Post (.string (tx (Lib.itoa (sgV l a)))) w) := fun w => l1NumZ_v _ w (by unfold sgV; split <;> omega) (by unfold sgV; split <;> omega)
      have hne := sgV_no (l := l) (acc := a) (by rw [hu]; exact ha)
      have hye := sgV_yes (l := l) ha9
      have hsl : ¬ tx (Lib.itoa (sgV l a)) = tx l ↔ ¬ Lib.itoa (sgV l a) = l := ⟨fun h e => h (by rw [e]), fun h e => h (tx_inj e)⟩
      have es : sgV l a = (a : Int) := if_neg (by rw [hu]; omega)
      rw [es] at hnum hne hye hsl
      (repeat' ((conv => whnf); first | refine go ?_ | (refine VSome.mk ?_; intro gQ hA'; first | subst hA' | cases hA' | (dsimp only at hA'; subst hA')) | refine And.intro ?_ ?_ | intro _ | (first | ((show VCall _ _ _ 61 _ _); refine VCall.grow _ (fun w1 m1 => hnum w1) ?_))))
      all_goals (conv => whnf)
      all_goals first
        | (refine VRet.mk fun w' m => ⟨?_, m.keeps.below⟩; rw [hne (hsl.1 (by assumption))]; done)
        | (refine VRet.mk fun w' m => ⟨?_, m.keeps.below⟩; rw [hye (tx_inj (Classical.not_not.1 (by assumption)))]; done)
        | (refine VRet.mk fun w' m => ⟨?_, m.keeps.below⟩; rw [hye (tx_inj (by assumption))]; done)
end Go.Proofs.YtadjhkehfklmnaaGreatDoor
namespace Go.Proofs.YtadjhkehfklmnaaGreatDoor
set_option linter.unusedSimpArgs false
set_option linter.unusedVariables false
open Go.RowKit
set_option maxRecDepth 10000
def IL (l : List Int) : List Value := l.map fun x => .int .i64 x
theorem IL_app (a b : List Int) : IL (a ++ b) = IL a ++ IL b := List.map_append
theorem IL_len1 (l : List Int) : (IL l).length = l.length * 1 := by simp [IL]
theorem IL_one (l : List Int) : (IL l).all (·.oneCell') = true := by simp [IL, Value.oneCell']
theorem IL_get {l : List Int} {k : Nat} (h : k < l.length) (o : Nat) (e : o = k) : (IL l)[o]? = some (.int .i64 (l.getD k 0)) := by
  subst e
  unfold IL
  rw [List.getElem?_map, List.getElem?_eq_getElem h, List.getD_eq_getElem?_getD, List.getElem?_eq_getElem h]
  rfl
theorem IL_look {w : World} {A : Option Addr} {l : List Int} {i : Nat} (h : Seen w A (IL l)) (hi : i < l.length) : ∃ b off, A = some ⟨b, off, none⟩ ∧ b < w.heap.size ∧ w.cell? ⟨b, off + i, none⟩ = some (.int .i64 (l.getD i 0)) :=
  h i _ (IL_get hi i rfl)
theorem turn_v {w0 : Base} {w : World} (g j : Nat) (ty : TypeId) (cs : List Value) (x b : Bool) (hj : cs[j]? = some (.bool x)) (m0 : Mem w0 [.blk g ty cs] w) :
    Calls Tryz.prog 211 #[.pointer (some ⟨g, j, none⟩), .bool b] w fun e w' => ∃ v, e = .returned v ∧ RetL (ι := Unit) (fun _ => True) (fun _ => .bool (tr (¬ x = b))) (fun _ => [.blk g ty (cs.set j (.bool b))]) (fun _ => []) w0 v w' := by
  have hl : j < cs.length := by
    rcases Nat.lt_or_ge j cs.length with h | h
    · exact h
    · rw [List.getElem?_eq_none h] at hj; cases hj
  cases x <;> cases b
  all_goals (refine calls_of_vcL (w0 := w0) tb_ok (args := [.pointer (some ⟨g, j, none⟩), .bool _]) Tryz.func211 rfl m0 ?_)
  all_goals ((repeat' ((conv => whnf); first | refine go ?_ | (refine VSome.mk ?_; intro gQ hA'; first | subst hA' | cases hA' | (dsimp only at hA'; subst hA')) | refine And.intro ?_ ?_ | intro _ | (first | ((show VLoad1 _ _ _ _ _); refine VLoad1.mk _ (Rd.own 0 rfl hj) ?_) | ((show VStore _ _ _ _ _ _); refine VStore.arrAt 0 j rfl rfl rfl (by show j + 1 ≤ cs.length; omega) rfl ?_)))))
  all_goals (conv => whnf)
  all_goals (refine VRet.mk fun w' m => ⟨(), trivial, ?_, m⟩)
  all_goals first | (rw [tr_yes (by decide)]; done) | (rw [tr_no (by decide)]; done)
theorem Lo.ok_of {s t : Lo} {c : Int} (hs : s.safe) (h1 : 1 ≤ c) (h2 : c ≤ 8) (e : s.move c = t) (hn : ¬ t = s) (ht : t.safe) : s.okStep c ∧ s.step c = t := by
  have h : s.okStep c := ⟨hs, h1, by omega, .inr ⟨by rw [e]; exact hn, by rw [e]; exact ht⟩⟩
  exact ⟨h, by rw [Lo.step_yes h, e]⟩
theorem Lo.no_same {s : Lo} {c : Int} (h2 : c ≤ 8) (e : s.move c = s) : ¬ s.okStep c := fun h => by
  rcases h.2.2.2 with h3 | h3
  · omega
  · exact h3.1 e
theorem Lo.no_bad {s t : Lo} {c : Int} (h2 : c ≤ 8) (e : s.move c = t) (ht : ¬ t.safe) : ¬ s.okStep c := fun h => by
  rcases h.2.2.2 with h3 | h3
  · omega
  · rw [e] at h3; exact ht h3.2
theorem Lo.no_out {s : Lo} {c : Int} (h : c < 1 ∨ 9 < c) : ¬ s.okStep c := fun h2 => by have := h2.2.1; have := h2.2.2.1; omega
theorem Lo.set_lg {s : Lo} {b : Bool} (h : s.lg = b) : { s with lg := b } = s := by subst h; rfl
theorem Lo.set_hg {s : Lo} {b : Bool} (h : s.hg = b) : { s with hg := b } = s := by subst h; rfl
theorem Lo.set_lp {s : Lo} {b : Bool} (h : s.lp = b) : { s with lp := b } = s := by subst h; rfl
theorem Lo.set_hp {s : Lo} {b : Bool} (h : s.hp = b) : { s with hp := b } = s := by subst h; rfl
theorem Lo.gate_yes {s t : Lo} {c : Int} {v : Value} (h : s.okStep c ∧ s.step c = t) (e : v = .tuple #[.agg t.cells.toArray, .bool true]) : v = .tuple #[.agg (s.step c).cells.toArray, .bool (tr (s.okStep c))] := by rw [h.2, tr_yes h.1]; exact e
theorem Lo.gate_no {s : Lo} {c : Int} {v : Value} (h : ¬ s.okStep c) (e : v = .tuple #[.agg Lo.zero.cells.toArray, .bool false]) : v = .tuple #[.agg (s.step c).cells.toArray, .bool (tr (s.okStep c))] := by rw [Lo.step_no h, tr_no h]; exact e
theorem Lo.ok_wait {s : Lo} (hs : s.safe) : s.okStep 9 ∧ s.step 9 = s.move 9 := ⟨⟨hs, by decide, by decide, .inl rfl⟩, Lo.step_yes ⟨hs, by decide, by decide, .inl rfl⟩⟩
theorem not_tr {p : Prop} (h : ¬ tr p = true) : ¬ p := fun hp => h (tr_yes hp)
theorem nn_tr {p : Prop} (h : ¬ tr (¬ p) = true) : p := Classical.not_not.1 (not_tr h)
theorem Lo.lp_hp {s : Lo} (hs : s.safe) (h : s.lp = true) : ¬ s.hp = true := fun h2 => hs.2.2.2.2.2.1 ⟨h, h2⟩
theorem Lo.wait_lp {s : Lo} {x : Int} (hs : s.safe) (h : s.lp = true) (hx : x = mx s.lower (s.level - 50)) : { s with level := x } = s.move 9 := by
  have e : s.move 9 = { s with level := if s.lp then mx s.lower (s.level - 50) else if s.hp then mn s.upper (s.level + 50) else s.level } := rfl
  rw [e, h, hx]; rfl
theorem Lo.wait_hp {s : Lo} {x : Int} (h2 : ¬ s.lp = true) (h : s.hp = true) (hx : x = mn s.upper (s.level + 50)) : { s with level := x } = s.move 9 := by
  have e : s.move 9 = { s with level := if s.lp then mx s.lower (s.level - 50) else if s.hp then mn s.upper (s.level + 50) else s.level } := rfl
  rw [e, if_neg h2, h, hx]; rfl
theorem Lo.wait_none {s : Lo} (h2 : ¬ s.lp = true) (h : ¬ s.hp = true) : s = s.move 9 := by
  have e : s.move 9 = { s with level := if s.lp then mx s.lower (s.level - 50) else if s.hp then mn s.upper (s.level + 50) else s.level } := rfl
  rw [e, if_neg h2, if_neg h]
theorem vmx (a b : Int) : (if a < b then b else a) = mx b a := by unfold mx; by_cases h1 : a < b <;> by_cases h2 : b < a <;> simp [h1, h2] <;> omega
theorem vmn (a b : Int) : (if b < a then b else a) = mn b a := by unfold mn; by_cases h1 : a < b <;> by_cases h2 : b < a <;> simp [h1, h2] <;> omega
set_option maxHeartbeats 8000000 in
theorem istep_v (s : Lo) (c : Int) (w : World) (hs : s.safe) : Calls Tryz.prog 176 #[.agg s.cells.toArray, .int .i64 c] w (Post (.tuple #[.agg (s.step c).cells.toArray, .bool (tr (s.okStep c))]) w) := by
  have hx := id hs
  unfold Lo.safe at hx
  have hw9 := Lo.wait_safe hs
  refine post_of_vc ?_
  refine calls_of_vc tb_ok (args := [.agg s.cells.toArray, .int .i64 c]) Tryz.func176 rfl ?_
  have hc : c = 9 ∨ (c = 1 ∨ c = 2 ∨ c = 3 ∨ c = 4 ∨ c = 5 ∨ c = 6 ∨ c = 7 ∨ c = 8) ∨ (c < 1 ∨ 9 < c) := by omega
  rcases hc with rfl | hc | hc
  · have hr := Lo.ok_wait hs
    by_cases hl : s.lp = true
    · have hh := Lo.lp_hp hs hl
      have e9 := Lo.wait_lp hs hl (vmx (s.level - 50) s.lower)
      rw [← e9] at hw9
      (repeat' ((conv => whnf); first | refine go ?_ | (refine VSome.mk ?_; intro gQ hA'; first | subst hA' | cases hA' | (dsimp only at hA'; subst hA')) | refine And.intro ?_ ?_ | intro _ | (first | ((show VCall _ _ _ 87 _ _); refine VCall.test _ (fun w1 _ => iSafe_v { s with level := if s.level - 50 < s.lower then s.lower else s.level - 50 } w1) ?_))))
      all_goals first | contradiction | skip
      all_goals ((conv => whnf); refine VRet.mk fun w' m => ?_)
      all_goals exact ⟨Lo.gate_yes hr (by rw [← e9]; rfl), m.keeps.below⟩
    · by_cases hh : s.hp = true
      · have e9 := Lo.wait_hp hl hh (vmn (s.level + 50) s.upper)
        rw [← e9] at hw9
        (repeat' ((conv => whnf); first | refine go ?_ | (refine VSome.mk ?_; intro gQ hA'; first | subst hA' | cases hA' | (dsimp only at hA'; subst hA')) | refine And.intro ?_ ?_ | intro _ | (first | ((show VCall _ _ _ 87 _ _); refine VCall.test _ (fun w1 _ => iSafe_v { s with level := if s.upper < s.level + 50 then s.upper else s.level + 50 } w1) ?_))))
        all_goals first | contradiction | skip
        all_goals ((conv => whnf); refine VRet.mk fun w' m => ?_)
        all_goals exact ⟨Lo.gate_yes hr (by rw [← e9]; rfl), m.keeps.below⟩
      · have e9 := Lo.wait_none hl hh
        (repeat' ((conv => whnf); first | refine go ?_ | (refine VSome.mk ?_; intro gQ hA'; first | subst hA' | cases hA' | (dsimp only at hA'; subst hA')) | refine And.intro ?_ ?_ | intro _ | (first | ((show VCall _ _ _ 87 _ _); refine VCall.test _ (fun w1 _ => iSafe_v s w1) ?_))))
        all_goals first | contradiction | skip
        all_goals ((conv => whnf); refine VRet.mk fun w' m => ?_)
        all_goals exact ⟨Lo.gate_yes hr (by rw [← e9]; rfl), m.keeps.below⟩
  · rcases hc with rfl | rfl | rfl | rfl | rfl | rfl | rfl | rfl
    all_goals ((repeat' ((conv => whnf); first | refine go ?_ | (refine VSome.mk ?_; intro gQ hA'; first | subst hA' | cases hA' | (dsimp only at hA'; subst hA')) | refine And.intro ?_ ?_ | intro _ | (first | ((show VCall _ _ _ 211 _ _); refine VCall.full [0] (by simp) (fun _ => rfl) (fun w1 m1 => turn_v _ _ _ _ _ _ rfl m1) (fun _ _ => ?_)) | ((show VCall _ _ _ 87 [.agg (Lo.cells { s with lg := true }).toArray] _); refine VCall.test _ (fun w1 _ => iSafe_v { s with lg := true } w1) ?_) | ((show VCall _ _ _ 87 [.agg (Lo.cells { s with lg := false }).toArray] _); refine VCall.test _ (fun w1 _ => iSafe_v { s with lg := false } w1) ?_) | ((show VCall _ _ _ 87 [.agg (Lo.cells { s with hg := true }).toArray] _); refine VCall.test _ (fun w1 _ => iSafe_v { s with hg := true } w1) ?_) | ((show VCall _ _ _ 87 [.agg (Lo.cells { s with hg := false }).toArray] _); refine VCall.test _ (fun w1 _ => iSafe_v { s with hg := false } w1) ?_) | ((show VCall _ _ _ 87 [.agg (Lo.cells { s with lp := true }).toArray] _); refine VCall.test _ (fun w1 _ => iSafe_v { s with lp := true } w1) ?_) | ((show VCall _ _ _ 87 [.agg (Lo.cells { s with lp := false }).toArray] _); refine VCall.test _ (fun w1 _ => iSafe_v { s with lp := false } w1) ?_) | ((show VCall _ _ _ 87 [.agg (Lo.cells { s with hp := true }).toArray] _); refine VCall.test _ (fun w1 _ => iSafe_v { s with hp := true } w1) ?_) | ((show VCall _ _ _ 87 [.agg (Lo.cells { s with hp := false }).toArray] _); refine VCall.test _ (fun w1 _ => iSafe_v { s with hp := false } w1) ?_)))))
    all_goals first | contradiction | skip
    all_goals ((conv => whnf); refine VRet.mk fun w' m => ?_)
    all_goals refine ⟨?_, m.keeps.below⟩
    all_goals (first | (refine Lo.gate_no (Lo.no_same (by decide) (Lo.set_lg (nn_tr (by assumption)))) rfl; done) | (refine Lo.gate_no (Lo.no_same (by decide) (Lo.set_hg (nn_tr (by assumption)))) rfl; done) | (refine Lo.gate_no (Lo.no_same (by decide) (Lo.set_lp (nn_tr (by assumption)))) rfl; done) | (refine Lo.gate_no (Lo.no_same (by decide) (Lo.set_hp (nn_tr (by assumption)))) rfl; done) | (refine Lo.gate_no (Lo.no_bad (by decide) rfl (by assumption)) rfl; done) | (refine Lo.gate_yes (Lo.ok_of hs (by decide) (by decide) rfl (fun e => (show ¬ s.lg = _ from tr_iff.1 (by assumption)) (congrArg Lo.lg e).symm) (by assumption)) rfl; done) | (refine Lo.gate_yes (Lo.ok_of hs (by decide) (by decide) rfl (fun e => (show ¬ s.hg = _ from tr_iff.1 (by assumption)) (congrArg Lo.hg e).symm) (by assumption)) rfl; done) | (refine Lo.gate_yes (Lo.ok_of hs (by decide) (by decide) rfl (fun e => (show ¬ s.lp = _ from tr_iff.1 (by assumption)) (congrArg Lo.lp e).symm) (by assumption)) rfl; done) | (refine Lo.gate_yes (Lo.ok_of hs (by decide) (by decide) rfl (fun e => (show ¬ s.hp = _ from tr_iff.1 (by assumption)) (congrArg Lo.hp e).symm) (by assumption)) rfl; done))
  · (repeat' ((conv => whnf); first | refine go ?_ | (refine VSome.mk ?_; intro gQ hA'; first | subst hA' | cases hA' | (dsimp only at hA'; subst hA')) | refine And.intro ?_ ?_ | intro _))
    all_goals ((conv => whnf); refine VRet.mk fun w' m => ?_)
    all_goals exact ⟨Lo.gate_no (Lo.no_out (by omega)) rfl, m.keeps.below⟩
end Go.Proofs.YtadjhkehfklmnaaGreatDoor
