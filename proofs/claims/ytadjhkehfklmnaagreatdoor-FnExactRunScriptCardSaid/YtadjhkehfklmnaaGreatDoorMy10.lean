/-
  Texts joined: how the calls that the law reaches are walked, and the plain laws behind them.
  Conditions: none beyond each statement's own premises.
-/
import Derived.Test.YtadjhkehfklmnaaGreatDoorMy09
import Derived.Lib.AtoiBound
namespace Go.Proofs.YtadjhkehfklmnaaGreatDoor
set_option linter.unusedSimpArgs false
set_option linter.unusedVariables false
open Go.RowKit
set_option maxRecDepth 10000
theorem plain_dd (n : Nat) : plainT (Lib.decDigits n) := fun b hb => by
  by_cases h : 48 ≤ b.toNat ∧ b.toNat ≤ 57
  · exact ⟨by omega, by omega, fun e => by rw [e] at h; exact absurd h.1 (by decide)⟩
  · exact absurd hb (dd_not (by omega))
theorem plain_app {a b : List UInt8} (ha : plainT a) (hb : plainT b) : plainT (a ++ b) := fun x hx => (List.mem_append.1 hx).elim (ha x) (hb x)
theorem plain_cons {a : UInt8} {b : List UInt8} (ha : okB a) (hb : plainT b) : plainT (a :: b) := fun x hx => (List.mem_cons.1 hx).elim (fun e => e ▸ ha) (hb x)
theorem plain_nil : plainT [] := fun x hx => by cases hx
theorem plain_itoa (n : Int) : plainT (Lib.itoa n) := by
  unfold Lib.itoa
  split
  · exact plain_cons ⟨by decide, by decide, by decide⟩ (plain_dd _)
  · exact plain_dd _
theorem plain_tail : ∀ r : List Int, plainT (Lib.joinTail [32] (r.map Lib.itoa))
  | [] => plain_nil
  | x :: r => by
    have ih := plain_tail r
    unfold Lib.joinTail at ih ⊢
    rw [List.map_cons, List.map_cons, List.flatten_cons]
    exact plain_app (plain_cons ⟨by decide, by decide, by decide⟩ (plain_itoa x)) ih
theorem plain_ltx : ∀ l : List Int, plainT (ltx l)
  | [] => plain_cons ⟨by decide, by decide, by decide⟩ (plain_cons ⟨by decide, by decide, by decide⟩ (plain_cons ⟨by decide, by decide, by decide⟩ (plain_cons ⟨by decide, by decide, by decide⟩ plain_nil)))
  | x :: r => by rw [ltx_cons]; exact plain_app (plain_itoa x) (plain_tail r)
theorem plain_ok : plainT wOk := plain_cons ⟨by decide, by decide, by decide⟩ (plain_cons ⟨by decide, by decide, by decide⟩ plain_nil)
theorem plain_ask : plainT wAsk := plain_cons ⟨by decide, by decide, by decide⟩ plain_nil
theorem plain_long : plainT wLong := plain_cons ⟨by decide, by decide, by decide⟩ (plain_cons ⟨by decide, by decide, by decide⟩ (plain_cons ⟨by decide, by decide, by decide⟩ (plain_cons ⟨by decide, by decide, by decide⟩ plain_nil)))
theorem aGood.del {n k : Nat} {f : Nat → Aw} (h : aGood n f) (hk : k < n) : aGood (n - 1) (delF f k) := by
  refine ⟨fun i hi => ?_, by have := h.2; omega⟩
  unfold aOk delF
  by_cases h1 : i < k
  · have h2 := h.1 i (by omega)
    unfold aOk at h2
    rw [if_pos h1, if_pos (by omega : i - 1 < k)]
    exact h2
  · have h2 := h.1 (i + 1) (by omega)
    unfold aOk at h2
    rw [if_neg h1]
    refine ⟨h2.1, h2.2.1, h2.2.2.1, fun h0 => ?_⟩
    by_cases h3 : i - 1 < k
    · rw [if_pos h3]; exact h.lt (by omega) (by omega)
    · rw [if_neg h3, show i - 1 + 1 = i by omega]; exact h.lt (by omega) (by omega)
def Co.fit (d : Co) : Prop := d.lock.safe ∧ bGood d.n d.ba ∧ aGood d.m d.wa
theorem ite_tr {α : Type} {p : Prop} {a b : α} (h : p) : (if tr p = true then a else b) = a := by rw [tr_yes h]; exact if_pos rfl
theorem ite_ntr {α : Type} {p : Prop} {a b : α} (h : ¬ p) : (if tr p = true then a else b) = b := by rw [tr_no h]; exact if_neg (by decide)
theorem Co.ex_ok {d c' : Co} {w : List UInt8} {l : List Int} {t : List UInt8} (hg : d.fit) (h : d.ex w l = some (c', t)) : c'.fit ∧ c'.log = d.log ∧ plainT t := by
  obtain ⟨hs, hb, ha⟩ := hg
  unfold Co.ex at h
  by_cases e : w = wStep
  · rw [if_pos e] at h
    by_cases h1 : d.lock.okStep (a0 l 0)
    · rw [ite_tr h1] at h; cases h
      exact ⟨⟨h1.safe, hb, ha⟩, rfl, plain_ok⟩
    · rw [ite_ntr h1] at h; cases h
  rw [if_neg e] at h
  clear e
  by_cases e : w = wGo
  · rw [if_pos e] at h
    cases h
    exact ⟨⟨(Lo.run_safe hs _).1, hb, ha⟩, rfl, plain_itoa _⟩
  rw [if_neg e] at h
  clear e
  by_cases e : w = wPlan
  · rw [if_pos e] at h
    cases h
    exact ⟨⟨hs, hb, ha⟩, rfl, plain_ltx _⟩
  rw [if_neg e] at h
  clear e
  by_cases e : w = wHead
  · rw [if_pos e] at h
    cases h
    exact ⟨⟨hs, hb, ha⟩, rfl, plain_itoa _⟩
  rw [if_neg e] at h
  clear e
  by_cases e : w = wLevel
  · rw [if_pos e] at h
    cases h
    exact ⟨⟨hs, hb, ha⟩, rfl, plain_itoa _⟩
  rw [if_neg e] at h
  clear e
  by_cases e : w = wFlow
  · rw [if_pos e] at h
    by_cases h1 : bCan d.n d.ba (a0 l 0) (a0 l 1) (a0 l 2)
    · rw [ite_tr h1] at h; cases h
      exact ⟨⟨hs, h1.2.2, ha⟩, rfl, plain_ok⟩
    · rw [ite_ntr h1] at h; cases h
  rw [if_neg e] at h
  clear e
  by_cases e : w = wWater
  · rw [if_pos e] at h
    cases h
    exact ⟨⟨hs, hb, ha⟩, rfl, plain_itoa _⟩
  rw [if_neg e] at h
  clear e
  by_cases e : w = wArrive
  · rw [if_pos e] at h
    by_cases h1 : aGood (d.m + 1) (insF d.wa (plc d.wa (a0 l 0) d.m 0) ⟨a0 l 0, isOne (a0 l 1), a0 l 2, a0 l 3⟩)
    · rw [ite_tr h1] at h; cases h
      exact ⟨⟨hs, hb, h1⟩, rfl, plain_ok⟩
    · rw [ite_ntr h1] at h; cases h
  rw [if_neg e] at h
  clear e
  by_cases e : w = wLeave
  · rw [if_pos e] at h
    cases e : fnd d.wa (a0 l 0) d.m with
    | some k =>
      rw [e] at h; cases h
      exact ⟨⟨hs, hb, ha.del (fnd_some e).1⟩, rfl, plain_ok⟩
    | none => rw [e] at h; cases h
  rw [if_neg e] at h
  clear e
  by_cases h1 : 1 ≤ a0 l 0 ∧ a0 l 0 ≤ 60
  · rw [ite_tr h1] at h
    by_cases e : w = wBound
    · rw [if_pos e] at h
      cases h
      exact ⟨⟨hs, hb, ha⟩, rfl, plain_itoa _⟩
    rw [if_neg e] at h
    clear e
    by_cases e : w = wDelay
    · rw [if_pos e] at h
      cases h
      exact ⟨⟨hs, hb, ha⟩, rfl, plain_itoa _⟩
    · rw [if_neg e] at h
      cases h
      exact ⟨⟨hs, hb, ha⟩, rfl, plain_ltx _⟩
  · rw [ite_ntr h1] at h; cases h
theorem Co.cmd_ok {d : Co} (hg : d.fit) (line : List UInt8) : (d.cmd line).1.fit ∧ (d.cmd line).1.log = d.log ∧ plainT (d.cmd line).2 := by
  unfold Co.cmd
  cases e : parse line with
  | none => exact ⟨hg, rfl, plain_ask⟩
  | some p =>
    obtain ⟨w, l⟩ := p
    dsimp only
    cases e2 : d.ex w l with
    | none => exact ⟨hg, rfl, plain_ask⟩
    | some r =>
      obtain ⟨c', t⟩ := r
      exact Co.ex_ok hg e2
theorem cutR_ok {t : List UInt8} (h : plainT t) : plainT (cutR t) ∧ (cutR t).length ≤ 200 := by
  unfold cutR
  split
  · exact ⟨plain_long, by decide⟩
  · exact ⟨h, by omega⟩
theorem Co.good.fit {d : Co} (h : d.good) : d.fit := ⟨h.1, h.2.1, h.2.2.1⟩
theorem Co.rec_ok {d : Co} {line : List UInt8} (hg : d.fit) (hl : okR line []) : okR line (cutR (d.cmd line).2) := by
  have h := cutR_ok (Co.cmd_ok hg line).2.2
  exact ⟨hl.1, h.1, hl.2.2.1, hl.2.2.2.1, h.2, hl.2.2.2.2.2⟩
theorem Co.logged_du (d c : Co) (x r : List UInt8) : (d.logged c x r).du = c.du := rfl
theorem Co.logged_pe (d c : Co) (x r : List UInt8) : (d.logged c x r).pe = c.pe ++ (ln c.log.count.toNat x r ++ [10]) := by
  show (tx (c.pe ++ (ln c.log.count.toNat x r ++ [10]))).data.toList = _
  simp [tx]
theorem okL_nat {a b : List UInt8} {c : Int} (h : okL a b c) : ∃ k : Nat, c = k ∧ k ≤ 60 := by
  obtain ⟨_, h2, _⟩ := h
  exact ⟨_, h2.symm, cnt_le _⟩
theorem Co.exec_good {d : Co} (hg : d.good) (line : List UInt8) : (d.exec line).1.good := by
  by_cases h2 : okR line []
  · by_cases h3 : d.log.count = 60
    · rw [Co.exec_full hg h2 h3]; exact hg
    · rw [Co.exec_yes hg h2 h3]
      obtain ⟨hf, hlog, ht⟩ := Co.cmd_ok hg.fit line
      have hr := Co.rec_ok hg.fit h2
      obtain ⟨k, hk, _⟩ := okL_nat hg.2.2.2
      refine ⟨hf.1, hf.2.1, hf.2.2, ?_⟩
      show okL ((d.cmd line).1.logged d line (cutR (d.cmd line).2)).du ((d.cmd line).1.logged d line (cutR (d.cmd line).2)).pe (d.log.count + 1)
      rw [Co.logged_du, Co.logged_pe]
      have := hg.2.2.2
      rw [hk] at this ⊢
      rw [Int.toNat_natCast]
      exact (okL_app this hr (by omega)).1
  · rw [Co.exec_bad hg h2]; exact hg
def Co.small (d : Co) : Prop := d.n ≤ 1048576 ∧ d.m ≤ 1048576 ∧ d.log.durable.size ≤ 1048576 ∧ d.log.pending.size ≤ 1048576
theorem Co.good.small {d : Co} (h : d.good) : d.small := by
  have h1 := h.2.1.2
  have h2 := h.2.2.1.2
  have h3 := okL_len h.2.2.2
  rw [Co.du_len, Co.pe_len] at h3
  exact ⟨by omega, by omega, by omega, by omega⟩
theorem Co.exec_small {d : Co} (h : d.small) (line : List UInt8) : (d.exec line).1.small := by
  by_cases hg : d.good
  · exact (Co.exec_good hg line).small
  · rw [Co.exec_no hg]; exact h
end Go.Proofs.YtadjhkehfklmnaaGreatDoor
namespace Go.Proofs.YtadjhkehfklmnaaGreatDoor
set_option linter.unusedSimpArgs false
set_option linter.unusedVariables false
open Go.RowKit
set_option maxRecDepth 10000
noncomputable def Co.st (d : Co) (x : Nat → List UInt8) : Nat → Co
  | 0 => d
  | k + 1 => ((d.st x k).exec (x k)).1
noncomputable def Co.rp (d : Co) (x : Nat → List UInt8) (k : Nat) : List UInt8 := ((d.st x k).exec (x k)).2
theorem Co.st_small {d : Co} (h : d.small) (x : Nat → List UInt8) : ∀ k, (d.st x k).small
  | 0 => h
  | k + 1 => Co.exec_small (Co.st_small h x k) (x k)
end Go.Proofs.YtadjhkehfklmnaaGreatDoor
namespace Go.Proofs.YtadjhkehfklmnaaGreatDoor
set_option linter.unusedSimpArgs false
set_option linter.unusedVariables false
open Go.RowKit
set_option maxRecDepth 10000
theorem itoaZ_v (n : Int) (w : World) (h1 : -1000000 ≤ n) (h2 : n ≤ 1000000) (ht : PTab w) : Calls Tryz.prog 59 #[.int .i64 n] w (Post (.string (tx (Lib.itoa n))) w) :=
  (Tryz.strconv_Itoa n (by omega) (by omega) w ht).mono fun e w' ⟨he, k, os, hw⟩ => ⟨by rw [he]; rfl, by rw [hw]; exact Lib.below_grow _ _ (Nat.le_refl _) _ _⟩
set_option maxHeartbeats 400000 in
theorem l1NumZ_v (n : Int) (w : World) (h1 : -1000000 ≤ n) (h2 : n ≤ 1000000) : Calls Tryz.prog 61 #[.int .i64 n] w (Post (.string (tx (Lib.itoa n))) w) := by
  rcases (by omega : 0 ≤ n ∨ n < 0) with h | h
  · obtain ⟨q, rfl⟩ := Int.eq_ofNat_of_zero_le h
    rw [itoaN]
    exact l1Num_v q w (by omega)
  · obtain ⟨q, hq⟩ := Int.eq_ofNat_of_zero_le (show 0 ≤ -n by omega)
    have hr := fun w => l1Num_v q w (by omega)
    rw [← hq] at hr
    have el := dd_len 6 q (by omega)
    refine post_of_vc ?_
    refine calls_of_vc tb_ok (args := [.int .i64 n]) Tryz.func61 rfl ?_
    (repeat' ((conv => whnf); first | refine go ?_ | (refine VSome.mk ?_; intro gQ hA'; first | subst hA' | cases hA' | (dsimp only at hA'; subst hA')) | refine And.intro ?_ ?_ | intro _ | (first | ((show VCall _ _ _ 61 _ _); refine VCall.grow _ (fun w1 _ => hr w1) ?_) | ((show VCat _ _ _); refine VCat.of (a := [45]) (by show 1 + _ ≤ _; omega) ?_))))
    (conv => whnf); refine VRet.mk fun w' m => ?_
    refine ⟨?_, m.keeps.below⟩
    unfold Lib.itoa
    rw [if_pos h, show n.natAbs = q by omega]
    rfl
set_option maxHeartbeats 1600000 in
theorem l1Read_v (l : List UInt8) (w : World) (hl : l.length ≤ 1048576) : Calls Tryz.prog 191 #[.string (tx l)] w (Post (.tuple #[.int .i64 (rdV l).1, .bool (rdV l).2]) w) := by
  have hsz := tx_size l
  have hl2 : (unS l).length ≤ l.length := by
    unfold unS
    split
    · rw [List.length_drop]; omega
    · omega
  have hsz2 := tx_size (unS l)
  refine post_of_vc ?_
  refine calls_of_vc tb_ok (args := [.string (tx l)]) Tryz.func191 rfl ?_
  have h0 : ∀ h, (tx l)[0]'h = l.getD 0 0 := fun h => getD_tx l 0 (by omega)
  have h00 : 0 < l.length → (l[0]? = some 45 ↔ l.getD 0 0 = 45) := fun h => by
    rw [List.getD_eq_getElem?_getD, List.getElem?_eq_getElem h]
    simp
  have h01 : (l.getD 0 0 = 45 ↔ (l.getD 0 0).toNat = 45) := by
    constructor
    · intro h; rw [h]; rfl
    · intro h; exact UInt8.toNat_inj.1 h
  by_cases hs : 1 < l.length ∧ l[0]? = some 45
  · have hu := unS_yes hs.1 hs.2
    obtain ⟨hs1, hs2⟩ := hs
    have hs3 := h01.1 ((h00 (by omega)).1 hs2)
    have hs4 : (((tx l)[0]'(by omega)).toNat : Int) = 45 := by rw [h0]; omega
    (repeat' ((conv => whnf); first | refine go ?_ | (refine VSome.mk ?_; intro gQ hA'; first | subst hA' | cases hA' | (dsimp only at hA'; subst hA')) | refine And.intro ?_ ?_ | intro _ | (first | ((show VStrIx _ _ _); refine VStrIx.mk 0 rfl (by omega) ?_) | ((show VSub _ _ _ _); refine VSub.tx (q := unS l) 1 l.length rfl hsz.symm (by omega) (Nat.le_refl _) (by rw [hu, List.take_length]) ?_))))
    (conv => whnf)
    (refine VCall.test _ (fun w1 _ => l1In_v _ _ _ w1) ?_)
    (repeat' ((conv => whnf); first | refine go ?_ | (refine VSome.mk ?_; intro gQ hA'; first | subst hA' | cases hA' | (dsimp only at hA'; subst hA')) | refine And.intro ?_ ?_ | intro _ | (first | ((show VSub _ _ _ _); fail))))
    all_goals (conv => whnf)
    all_goals first
      | (refine VRet.mk fun w' m => ⟨?_, m.keeps.below⟩; rw [rdV_no_len (by omega)]; done)
      | skip
    refine VLoop.mk (ι := Nat × Nat) [2, 3, 5, 6, 22, 23, 24, 25, 26, 27, 28, 29, 30, 31, 32, 33, 34, 35, 36, 37, 38, 39, 40, 41, 42, 43, 44, 45] (fun (k, a) => [(6, .int .i64 k), (5, .int .i64 a)]) (fun _ => []) (fun (k, a) => k ≤ (unS l).length ∧ Lib.decFrom 0 ((unS l).take k) = some a) (fun (k, a) => (unS l).length - k) (0, 0) ⟨Nat.zero_le _, rfl⟩ ?_ (OwnLe.mk [] (by simp) rfl) (fun i u hi => ?_)
    · ((conv => whnf); repeat (first | exact trivial | refine ⟨rfl, ?_⟩ | refine ⟨congrArg (Value.int .i64) (by first | omega | assumption | exact Eq.symm (by assumption)), ?_⟩))
    obtain ⟨k, a⟩ := i
    obtain ⟨hk, ha⟩ := hi
    replace hk : k ≤ (unS l).length := hk
    replace ha : Lib.decFrom 0 ((unS l).take k) = some a := ha
    have ha9 := digits_lt (by omega) ha
    by_cases hlt : k < (unS l).length
    · have hk2 : k < (tx (unS l)).size := by omega
      have hg := getD_tx (unS l) k hlt
      have hb := (tx (unS l))[k].toNat_lt
      by_cases hd : 48 ≤ ((unS l).getD k 0).toNat ∧ ((unS l).getD k 0).toNat ≤ 57
      · have hd1 : ¬ ((tx (unS l))[k].toNat : Int) < 48 := by rw [hg]; omega
        have hd2 : ¬ ((tx (unS l))[k].toNat : Int) > 57 := by rw [hg]; omega
        have hw : IntKind.u8.wrap (((tx (unS l))[k].toNat : Int) - 48) = (((unS l).getD k 0).toNat - 48 : Nat) := by rw [hg, wrap_u8 (by omega) (by omega)]; omega
        have hs9 := digits_suc hlt ha hd.1 hd.2
        have e9 : (10 * (a : Int) + ((((unS l).getD k 0).toNat - 48 : Nat) : Int)) = ((10 * a + (((unS l).getD k 0).toNat - 48) : Nat) : Int) := by omega
        (repeat' ((conv => whnf); first | refine go ?_ | (refine VSome.mk ?_; intro gQ hA'; first | subst hA' | cases hA' | (dsimp only at hA'; subst hA')) | refine And.intro ?_ ?_ | intro _ | (first | ((show VIn (IntKind.u8.wrap _) _); refine VIn.mk (by rw [hw]; omega) (by rw [hw]; omega) ?_) | ((show VIn (10 * (a : Int) + IntKind.u8.wrap _) _); refine VIn.mk (by rw [hw]; omega) (by rw [hw]; omega) ?_))))
        all_goals (conv => whnf)
        all_goals refine VNext.mk (k + 1, 10 * a + (((unS l).getD k 0).toNat - 48)) ⟨hlt, hs9⟩ (by show (unS l).length - (k + 1) < (unS l).length - k; omega) ?_ (OwnLe.mk [] (by simp) rfl)
        all_goals (conv => whnf)
        all_goals repeat (first | exact trivial | refine ⟨rfl, ?_⟩ | refine ⟨by rw [← e9, hw], ?_⟩)
      · have hd3 : ((tx (unS l))[k].toNat : Int) < 48 ∨ ((tx (unS l))[k].toNat : Int) > 57 := by rw [hg]; omega
        (repeat' ((conv => whnf); first | refine go ?_ | (refine VSome.mk ?_; intro gQ hA'; first | subst hA' | cases hA' | (dsimp only at hA'; subst hA')) | refine And.intro ?_ ?_ | intro _ | (first | ((show VSub _ _ _ _); fail))))
        all_goals (conv => whnf)
        all_goals first
          | (exfalso; omega)
          | (refine VRet.mk fun w' m => ⟨?_, m.keeps.below⟩; rw [rdV_no_digit hlt hd]; done)
    obtain rfl : k = (unS l).length := by omega
    rw [List.take_length] at ha
    have hnum : ∀ w, Calls Tryz.prog 61 #[.int .i64 (sgV l a)] w (Post (.string (tx (Lib.itoa (sgV l a)))) w) := fun w => l1NumZ_v _ w (by unfold sgV; split <;> omega) (by unfold sgV; split <;> omega)
    have hne := sgV_no ha
    have hye := sgV_yes (l := l) ha9
    have hsl : ¬ tx (Lib.itoa (sgV l a)) = tx l ↔ ¬ Lib.itoa (sgV l a) = l := ⟨fun h e => h (by rw [e]), fun h e => h (tx_inj e)⟩
    by_cases hlen : (unS l).length < l.length
    · have es : sgV l a = -(a : Int) := if_pos hlen
      rw [es] at hnum hne hye hsl
      (repeat' ((conv => whnf); first | refine go ?_ | (refine VSome.mk ?_; intro gQ hA'; first | subst hA' | cases hA' | (dsimp only at hA'; subst hA')) | refine And.intro ?_ ?_ | intro _ | (first | ((show VCall _ _ _ 61 _ _); refine VCall.grow _ (fun w1 m1 => hnum w1) ?_))))
      all_goals (conv => whnf)
      all_goals first
        | (refine VRet.mk fun w' m => ⟨?_, m.keeps.below⟩; rw [hne (hsl.1 (by assumption))]; done)
        | (refine VRet.mk fun w' m => ⟨?_, m.keeps.below⟩; rw [hye (tx_inj (Classical.not_not.1 (by assumption)))]; done)
        | (refine VRet.mk fun w' m => ⟨?_, m.keeps.below⟩; rw [hye (tx_inj (by assumption))]; done)
    · have es : sgV l a = (a : Int) := if_neg hlen
      rw [es] at hnum hne hye hsl
      (repeat' ((conv => whnf); first | refine go ?_ | (refine VSome.mk ?_; intro gQ hA'; first | subst hA' | cases hA' | (dsimp only at hA'; subst hA')) | refine And.intro ?_ ?_ | intro _ | (first | ((show VCall _ _ _ 61 _ _); refine VCall.grow _ (fun w1 m1 => hnum w1) ?_))))
      all_goals (conv => whnf)
      all_goals first
        | (refine VRet.mk fun w' m => ⟨?_, m.keeps.below⟩; rw [hne (hsl.1 (by assumption))]; done)
        | (refine VRet.mk fun w' m => ⟨?_, m.keeps.below⟩; rw [hye (tx_inj (Classical.not_not.1 (by assumption)))]; done)
        | (refine VRet.mk fun w' m => ⟨?_, m.keeps.below⟩; rw [hye (tx_inj (by assumption))]; done)
  · have hu := unS_no hs
    by_cases h1 : 1 < l.length
    · have hs5 : ¬ (((tx l)[0]'(by omega)).toNat : Int) = 45 := fun h2 => by
        rw [h0] at h2
        exact hs ⟨h1, (h00 (by omega)).2 (h01.2 (by omega))⟩
      (repeat' ((conv => whnf); first | refine go ?_ | (refine VSome.mk ?_; intro gQ hA'; first | subst hA' | cases hA' | (dsimp only at hA'; subst hA')) | refine And.intro ?_ ?_ | intro _ | (first | ((show VStrIx _ _ _); refine VStrIx.mk 0 rfl (by omega) ?_))))
      (conv => whnf)
      clear h0 h00 h01 hl2 hsz2 hs5 hs
      (show VCall _ _ _ 109 _ _)
      (refine VCall.test _ (fun w1 _ => l1In_v _ _ _ w1) ?_)
      (repeat' ((conv => whnf); first | refine go ?_ | (refine VSome.mk ?_; intro gQ hA'; first | subst hA' | cases hA' | (dsimp only at hA'; subst hA')) | refine And.intro ?_ ?_ | intro _ | (first | ((show VSub _ _ _ _); fail))))
      all_goals (conv => whnf)
      all_goals first
        | (refine VRet.mk fun w' m => ⟨?_, m.keeps.below⟩; rw [rdV_no_len (by rw [hu]; omega)]; done)
        | skip
      refine VLoop.mk (ι := Nat × Nat) [2, 3, 5, 6, 22, 23, 24, 25, 26, 27, 28, 29, 30, 31, 32, 33, 34, 35, 36, 37, 38, 39, 40, 41, 42, 43, 44, 45] (fun (k, a) => [(6, .int .i64 k), (5, .int .i64 a)]) (fun _ => []) (fun (k, a) => k ≤ l.length ∧ Lib.decFrom 0 (l.take k) = some a) (fun (k, a) => l.length - k) (0, 0) ⟨Nat.zero_le _, rfl⟩ ?_ (OwnLe.mk [] (by simp) rfl) (fun i u hi => ?_)
      · ((conv => whnf); repeat (first | exact trivial | refine ⟨rfl, ?_⟩ | refine ⟨congrArg (Value.int .i64) (by first | omega | assumption | exact Eq.symm (by assumption)), ?_⟩))
      obtain ⟨k, a⟩ := i
      obtain ⟨hk, ha⟩ := hi
      replace hk : k ≤ l.length := hk
      replace ha : Lib.decFrom 0 (l.take k) = some a := ha
      have ha9 := digits_lt (by omega) ha
      by_cases hlt : k < l.length
      · have hk2 : k < (tx l).size := by omega
        have hg := getD_tx l k hlt
        have hb := (tx l)[k].toNat_lt
        by_cases hd : 48 ≤ (l.getD k 0).toNat ∧ (l.getD k 0).toNat ≤ 57
        · have hd1 : ¬ ((tx l)[k].toNat : Int) < 48 := by rw [hg]; omega
          have hd2 : ¬ ((tx l)[k].toNat : Int) > 57 := by rw [hg]; omega
          have hw : IntKind.u8.wrap (((tx l)[k].toNat : Int) - 48) = ((l.getD k 0).toNat - 48 : Nat) := by rw [hg, wrap_u8 (by omega) (by omega)]; omega
          have hs9 := digits_suc hlt ha hd.1 hd.2
          have e9 : (10 * (a : Int) + (((l.getD k 0).toNat - 48 : Nat) : Int)) = ((10 * a + ((l.getD k 0).toNat - 48) : Nat) : Int) := by omega
          (repeat' ((conv => whnf); first | refine go ?_ | (refine VSome.mk ?_; intro gQ hA'; first | subst hA' | cases hA' | (dsimp only at hA'; subst hA')) | refine And.intro ?_ ?_ | intro _ | (first | ((show VIn (IntKind.u8.wrap _) _); refine VIn.mk (by rw [hw]; omega) (by rw [hw]; omega) ?_) | ((show VIn (10 * (a : Int) + IntKind.u8.wrap _) _); refine VIn.mk (by rw [hw]; omega) (by rw [hw]; omega) ?_))))
          all_goals (conv => whnf)
          all_goals refine VNext.mk (k + 1, 10 * a + ((l.getD k 0).toNat - 48)) ⟨hlt, hs9⟩ (by show l.length - (k + 1) < l.length - k; omega) ?_ (OwnLe.mk [] (by simp) rfl)
          all_goals (conv => whnf)
          all_goals repeat (first | exact trivial | refine ⟨rfl, ?_⟩ | refine ⟨by rw [← e9, hw], ?_⟩)
        · have hd3 : ((tx l)[k].toNat : Int) < 48 ∨ ((tx l)[k].toNat : Int) > 57 := by rw [hg]; omega
          (repeat' ((conv => whnf); first | refine go ?_ | (refine VSome.mk ?_; intro gQ hA'; first | subst hA' | cases hA' | (dsimp only at hA'; subst hA')) | refine And.intro ?_ ?_ | intro _ | (first | ((show VSub _ _ _ _); fail))))
          all_goals (conv => whnf)
          all_goals first
            | (exfalso; omega)
            | (refine VRet.mk fun w' m => ⟨?_, m.keeps.below⟩; rw [rdV_no_digit (k := k) (by rw [hu]; exact hlt) (by rw [hu]; exact hd)]; done)
      obtain rfl : k = l.length := by omega
      rw [List.take_length] at ha
      have hnum : ∀ w, Calls Tryz.prog 61 #[.int .i64 (sgV l a)] w (Post (.string (tx (Lib.itoa (sgV l a)))) w) := fun w => l1NumZ_v _ w (by unfold sgV; split <;> omega) (by unfold sgV; split <;> omega)
      have hne := sgV_no (l := l) (acc := a) (by rw [hu]; exact ha)
      have hye := sgV_yes (l := l) ha9
      have hsl : ¬ tx (Lib.itoa (sgV l a)) = tx l ↔ ¬ Lib.itoa (sgV l a) = l := ⟨fun h e => h (by rw [e]), fun h e => h (tx_inj e)⟩
      have es : sgV l a = (a : Int) := if_neg (by rw [hu]; omega)
      rw [es] at hnum hne hye hsl
      (repeat' ((conv => whnf); first | refine go ?_ | (refine VSome.mk ?_; intro gQ hA'; first | subst hA' | cases hA' | (dsimp only at hA'; subst hA')) | refine And.intro ?_ ?_ | intro _ | (first | ((show VCall _ _ _ 61 _ _); refine VCall.grow _ (fun w1 m1 => hnum w1) ?_))))
      all_goals (conv => whnf)
      all_goals first
        | (refine VRet.mk fun w' m => ⟨?_, m.keeps.below⟩; rw [hne (hsl.1 (by assumption))]; done)
        | (refine VRet.mk fun w' m => ⟨?_, m.keeps.below⟩; rw [hye (tx_inj (Classical.not_not.1 (by assumption)))]; done)
        | (refine VRet.mk fun w' m => ⟨?_, m.keeps.below⟩; rw [hye (tx_inj (by assumption))]; done)
    · clear hs
      have q9 : ¬ 1 < ((tx l).size : Int) := by omega
      (repeat' ((conv => whnf); first | refine go ?_ | (refine VSome.mk ?_; intro gQ hA'; first | subst hA' | cases hA' | (dsimp only at hA'; subst hA')) | refine And.intro ?_ ?_ | intro _ | (first | ((show VStrIx _ _ _); refine VStrIx.mk 0 rfl (by omega) ?_))))
      (conv => whnf)
      clear h0 h00 h01 hl2 hsz2
      (show VCall _ _ _ 109 _ _)
      (refine VCall.test _ (fun w1 _ => l1In_v _ _ _ w1) ?_)
      (repeat' ((conv => whnf); first | refine go ?_ | (refine VSome.mk ?_; intro gQ hA'; first | subst hA' | cases hA' | (dsimp only at hA'; subst hA')) | refine And.intro ?_ ?_ | intro _ | (first | ((show VSub _ _ _ _); fail))))
      all_goals (conv => whnf)
      all_goals first
        | (refine VRet.mk fun w' m => ⟨?_, m.keeps.below⟩; rw [rdV_no_len (by rw [hu]; omega)]; done)
        | skip
      refine VLoop.mk (ι := Nat × Nat) [2, 3, 5, 6, 22, 23, 24, 25, 26, 27, 28, 29, 30, 31, 32, 33, 34, 35, 36, 37, 38, 39, 40, 41, 42, 43, 44, 45] (fun (k, a) => [(6, .int .i64 k), (5, .int .i64 a)]) (fun _ => []) (fun (k, a) => k ≤ l.length ∧ Lib.decFrom 0 (l.take k) = some a) (fun (k, a) => l.length - k) (0, 0) ⟨Nat.zero_le _, rfl⟩ ?_ (OwnLe.mk [] (by simp) rfl) (fun i u hi => ?_)
      · ((conv => whnf); repeat (first | exact trivial | refine ⟨rfl, ?_⟩ | refine ⟨congrArg (Value.int .i64) (by first | omega | assumption | exact Eq.symm (by assumption)), ?_⟩))
      obtain ⟨k, a⟩ := i
      obtain ⟨hk, ha⟩ := hi
      replace hk : k ≤ l.length := hk
      replace ha : Lib.decFrom 0 (l.take k) = some a := ha
      have ha9 := digits_lt (by omega) ha
      by_cases hlt : k < l.length
      · have hk2 : k < (tx l).size := by omega
        have hg := getD_tx l k hlt
        have hb := (tx l)[k].toNat_lt
        by_cases hd : 48 ≤ (l.getD k 0).toNat ∧ (l.getD k 0).toNat ≤ 57
        · have hd1 : ¬ ((tx l)[k].toNat : Int) < 48 := by rw [hg]; omega
          have hd2 : ¬ ((tx l)[k].toNat : Int) > 57 := by rw [hg]; omega
          have hw : IntKind.u8.wrap (((tx l)[k].toNat : Int) - 48) = ((l.getD k 0).toNat - 48 : Nat) := by rw [hg, wrap_u8 (by omega) (by omega)]; omega
          have hs9 := digits_suc hlt ha hd.1 hd.2
          have e9 : (10 * (a : Int) + (((l.getD k 0).toNat - 48 : Nat) : Int)) = ((10 * a + ((l.getD k 0).toNat - 48) : Nat) : Int) := by omega
          (repeat' ((conv => whnf); first | refine go ?_ | (refine VSome.mk ?_; intro gQ hA'; first | subst hA' | cases hA' | (dsimp only at hA'; subst hA')) | refine And.intro ?_ ?_ | intro _ | (first | ((show VIn (IntKind.u8.wrap _) _); refine VIn.mk (by rw [hw]; omega) (by rw [hw]; omega) ?_) | ((show VIn (10 * (a : Int) + IntKind.u8.wrap _) _); refine VIn.mk (by rw [hw]; omega) (by rw [hw]; omega) ?_))))
          all_goals (conv => whnf)
          all_goals refine VNext.mk (k + 1, 10 * a + ((l.getD k 0).toNat - 48)) ⟨hlt, hs9⟩ (by show l.length - (k + 1) < l.length - k; omega) ?_ (OwnLe.mk [] (by simp) rfl)
          all_goals (conv => whnf)
          all_goals repeat (first | exact trivial | refine ⟨rfl, ?_⟩ | refine ⟨by rw [← e9, hw], ?_⟩)
        · have hd3 : ((tx l)[k].toNat : Int) < 48 ∨ ((tx l)[k].toNat : Int) > 57 := by rw [hg]; omega
          (repeat' ((conv => whnf); first | refine go ?_ | (refine VSome.mk ?_; intro gQ hA'; first | subst hA' | cases hA' | (dsimp only at hA'; subst hA')) | refine And.intro ?_ ?_ | intro _ | (first | ((show VSub _ _ _ _); fail))))
          all_goals (conv => whnf)
          all_goals first
            | (exfalso; omega)
            | (refine VRet.mk fun w' m => ⟨?_, m.keeps.below⟩; rw [rdV_no_digit (k := k) (by rw [hu]; exact hlt) (by rw [hu]; exact hd)]; done)
      obtain rfl : k = l.length := by omega
      rw [List.take_length] at ha
      have hnum : ∀ w, Calls Tryz.prog 61 #[.int .i64 (sgV l a)] w (Post (.string (tx (Lib.itoa (sgV l a)))) w) := fun w => l1NumZ_v _ w (by unfold sgV; split <;> omega) (by unfold sgV; split <;> omega)
      have hne := sgV_no (l := l) (acc := a) (by rw [hu]; exact ha)
      have hye := sgV_yes (l := l) ha9
      have hsl : ¬ tx (Lib.itoa (sgV l a)) = tx l ↔ ¬ Lib.itoa (sgV l a) = l := ⟨fun h e => h (by rw [e]), fun h e => h (tx_inj e)⟩
      have es : sgV l a = (a : Int) := if_neg (by rw [hu]; omega)
      rw [es] at hnum hne hye hsl
      (repeat' ((conv => whnf); first | refine go ?_ | (refine VSome.mk ?_; intro gQ hA'; first | subst hA' | cases hA' | (dsimp only at hA'; subst hA')) | refine And.intro ?_ ?_ | intro _ | (first | ((show VCall _ _ _ 61 _ _); refine VCall.grow _ (fun w1 m1 => hnum w1) ?_))))
      all_goals (conv => whnf)
      all_goals first
        | (refine VRet.mk fun w' m => ⟨?_, m.keeps.below⟩; rw [hne (hsl.1 (by assumption))]; done)
        | (refine VRet.mk fun w' m => ⟨?_, m.keeps.below⟩; rw [hye (tx_inj (Classical.not_not.1 (by assumption)))]; done)
        | (refine VRet.mk fun w' m => ⟨?_, m.keeps.below⟩; rw [hye (tx_inj (by assumption))]; done)
end Go.Proofs.YtadjhkehfklmnaaGreatDoor
namespace Go.Proofs.YtadjhkehfklmnaaGreatDoor
set_option linter.unusedSimpArgs false
set_option linter.unusedVariables false
open Go.RowKit
set_option maxRecDepth 10000
def IL (l : List Int) : List Value := l.map fun x => .int .i64 x
theorem IL_app (a b : List Int) : IL (a ++ b) = IL a ++ IL b := List.map_append
theorem IL_len1 (l : List Int) : (IL l).length = l.length * 1 := by simp [IL]
theorem IL_one (l : List Int) : (IL l).all (·.oneCell') = true := by simp [IL, Value.oneCell']
theorem IL_get {l : List Int} {k : Nat} (h : k < l.length) (o : Nat) (e : o = k) : (IL l)[o]? = some (.int .i64 (l.getD k 0)) := by
  subst e
  unfold IL
  rw [List.getElem?_map, List.getElem?_eq_getElem h, List.getD_eq_getElem?_getD, List.getElem?_eq_getElem h]
  rfl
theorem IL_look {w : World} {A : Option Addr} {l : List Int} {i : Nat} (h : Seen w A (IL l)) (hi : i < l.length) : ∃ b off, A = some ⟨b, off, none⟩ ∧ b < w.heap.size ∧ w.cell? ⟨b, off + i, none⟩ = some (.int .i64 (l.getD i 0)) :=
  h i _ (IL_get hi i rfl)
theorem turn_v {w0 : Base} {w : World} (g j : Nat) (ty : TypeId) (cs : List Value) (x b : Bool) (hj : cs[j]? = some (.bool x)) (m0 : Mem w0 [.blk g ty cs] w) :
    Calls Tryz.prog 211 #[.pointer (some ⟨g, j, none⟩), .bool b] w fun e w' => ∃ v, e = .returned v ∧ RetL (ι := Unit) (fun _ => True) (fun _ => .bool (tr (¬ x = b))) (fun _ => [.blk g ty (cs.set j (.bool b))]) (fun _ => []) w0 v w' := by
  have hl : j < cs.length := by
    rcases Nat.lt_or_ge j cs.length with h | h
    · exact h
    · rw [List.getElem?_eq_none h] at hj; cases hj
  cases x <;> cases b
  all_goals (refine calls_of_vcL (w0 := w0) tb_ok (args := [.pointer (some ⟨g, j, none⟩), .bool _]) Tryz.func211 rfl m0 ?_)
  all_goals ((repeat' ((conv => whnf); first | refine go ?_ | (refine VSome.mk ?_; intro gQ hA'; first | subst hA' | cases hA' | (dsimp only at hA'; subst hA')) | refine And.intro ?_ ?_ | intro _ | (first | ((show VLoad1 _ _ _ _ _); refine VLoad1.mk _ (Rd.own 0 rfl hj) ?_) | ((show VStore _ _ _ _ _ _); refine VStore.arrAt 0 j rfl rfl rfl (by show j + 1 ≤ cs.length; omega) rfl ?_)))))
  all_goals (conv => whnf)
  all_goals (refine VRet.mk fun w' m => ⟨(), trivial, ?_, m⟩)
  all_goals first | (rw [tr_yes (by decide)]; done) | (rw [tr_no (by decide)]; done)
theorem Lo.ok_of {s t : Lo} {c : Int} (hs : s.safe) (h1 : 1 ≤ c) (h2 : c ≤ 8) (e : s.move c = t) (hn : ¬ t = s) (ht : t.safe) : s.okStep c ∧ s.step c = t := by
  have h : s.okStep c := ⟨hs, h1, by omega, .inr ⟨by rw [e]; exact hn, by rw [e]; exact ht⟩⟩
  exact ⟨h, by rw [Lo.step_yes h, e]⟩
theorem Lo.no_same {s : Lo} {c : Int} (h2 : c ≤ 8) (e : s.move c = s) : ¬ s.okStep c := fun h => by
  rcases h.2.2.2 with h3 | h3
  · omega
  · exact h3.1 e
theorem Lo.no_bad {s t : Lo} {c : Int} (h2 : c ≤ 8) (e : s.move c = t) (ht : ¬ t.safe) : ¬ s.okStep c := fun h => by
  rcases h.2.2.2 with h3 | h3
  · omega
  · rw [e] at h3; exact ht h3.2
theorem Lo.no_out {s : Lo} {c : Int} (h : c < 1 ∨ 9 < c) : ¬ s.okStep c := fun h2 => by have := h2.2.1; have := h2.2.2.1; omega
theorem Lo.set_lg {s : Lo} {b : Bool} (h : s.lg = b) : { s with lg := b } = s := by subst h; rfl
theorem Lo.set_hg {s : Lo} {b : Bool} (h : s.hg = b) : { s with hg := b } = s := by subst h; rfl
theorem Lo.set_lp {s : Lo} {b : Bool} (h : s.lp = b) : { s with lp := b } = s := by subst h; rfl
theorem Lo.set_hp {s : Lo} {b : Bool} (h : s.hp = b) : { s with hp := b } = s := by subst h; rfl
theorem Lo.gate_yes {s t : Lo} {c : Int} {v : Value} (h : s.okStep c ∧ s.step c = t) (e : v = .tuple #[.agg t.cells.toArray, .bool true]) : v = .tuple #[.agg (s.step c).cells.toArray, .bool (tr (s.okStep c))] := by rw [h.2, tr_yes h.1]; exact e
theorem Lo.gate_no {s : Lo} {c : Int} {v : Value} (h : ¬ s.okStep c) (e : v = .tuple #[.agg Lo.zero.cells.toArray, .bool false]) : v = .tuple #[.agg (s.step c).cells.toArray, .bool (tr (s.okStep c))] := by rw [Lo.step_no h, tr_no h]; exact e
theorem Lo.ok_wait {s : Lo} (hs : s.safe) : s.okStep 9 ∧ s.step 9 = s.move 9 := ⟨⟨hs, by decide, by decide, .inl rfl⟩, Lo.step_yes ⟨hs, by decide, by decide, .inl rfl⟩⟩
theorem not_tr {p : Prop} (h : ¬ tr p = true) : ¬ p := fun hp => h (tr_yes hp)
theorem nn_tr {p : Prop} (h : ¬ tr (¬ p) = true) : p := Classical.not_not.1 (not_tr h)
theorem Lo.lp_hp {s : Lo} (hs : s.safe) (h : s.lp = true) : ¬ s.hp = true := fun h2 => hs.2.2.2.2.2.1 ⟨h, h2⟩
theorem Lo.wait_lp {s : Lo} {x : Int} (hs : s.safe) (h : s.lp = true) (hx : x = mx s.lower (s.level - 50)) : { s with level := x } = s.move 9 := by
  have e : s.move 9 = { s with level := if s.lp then mx s.lower (s.level - 50) else if s.hp then mn s.upper (s.level + 50) else s.level } := rfl
  rw [e, h, hx]; rfl
theorem Lo.wait_hp {s : Lo} {x : Int} (h2 : ¬ s.lp = true) (h : s.hp = true) (hx : x = mn s.upper (s.level + 50)) : { s with level := x } = s.move 9 := by
  have e : s.move 9 = { s with level := if s.lp then mx s.lower (s.level - 50) else if s.hp then mn s.upper (s.level + 50) else s.level } := rfl
  rw [e, if_neg h2, h, hx]; rfl
theorem Lo.wait_none {s : Lo} (h2 : ¬ s.lp = true) (h : ¬ s.hp = true) : s = s.move 9 := by
  have e : s.move 9 = { s with level := if s.lp then mx s.lower (s.level - 50) else if s.hp then mn s.upper (s.level + 50) else s.level } := rfl
  rw [e, if_neg h2, if_neg h]
theorem vmx (a b : Int) : (if a < b then b else a) = mx b a := by unfold mx; by_cases h1 : a < b <;> by_cases h2 : b < a <;> simp [h1, h2] <;> omega
theorem vmn (a b : Int) : (if b < a then b else a) = mn b a := by unfold mn; by_cases h1 : a < b <;> by_cases h2 : b < a <;> simp [h1, h2] <;> omega
set_option maxHeartbeats 8000000 in
theorem istep_v (s : Lo) (c : Int) (w : World) (hs : s.safe) : Calls Tryz.prog 176 #[.agg s.cells.toArray, .int .i64 c] w (Post (.tuple #[.agg (s.step c).cells.toArray, .bool (tr (s.okStep c))]) w) := by
  have hx := id hs
  unfold Lo.safe at hx
  have hw9 := Lo.wait_safe hs
  refine post_of_vc ?_
  refine calls_of_vc tb_ok (args := [.agg s.cells.toArray, .int .i64 c]) Tryz.func176 rfl ?_
  have hc : c = 9 ∨ (c = 1 ∨ c = 2 ∨ c = 3 ∨ c = 4 ∨ c = 5 ∨ c = 6 ∨ c = 7 ∨ c = 8) ∨ (c < 1 ∨ 9 < c) := by omega
  rcases hc with rfl | hc | hc
  · have hr := Lo.ok_wait hs
    by_cases hl : s.lp = true
    · have hh := Lo.lp_hp hs hl
      have e9 := Lo.wait_lp hs hl (vmx (s.level - 50) s.lower)
      rw [← e9] at hw9
      (repeat' ((conv => whnf); first | refine go ?_ | (refine VSome.mk ?_; intro gQ hA'; first | subst hA' | cases hA' | (dsimp only at hA'; subst hA')) | refine And.intro ?_ ?_ | intro _ | (first | ((show VCall _ _ _ 87 _ _); refine VCall.test _ (fun w1 _ => iSafe_v { s with level := if s.level - 50 < s.lower then s.lower else s.level - 50 } w1) ?_))))
      all_goals first | contradiction | skip
      all_goals ((conv => whnf); refine VRet.mk fun w' m => ?_)
      all_goals exact ⟨Lo.gate_yes hr (by rw [← e9]; rfl), m.keeps.below⟩
    · by_cases hh : s.hp = true
      · have e9 := Lo.wait_hp hl hh (vmn (s.level + 50) s.upper)
        rw [← e9] at hw9
        (repeat' ((conv => whnf); first | refine go ?_ | (refine VSome.mk ?_; intro gQ hA'; first | subst hA' | cases hA' | (dsimp only at hA'; subst hA')) | refine And.intro ?_ ?_ | intro _ | (first | ((show VCall _ _ _ 87 _ _); refine VCall.test _ (fun w1 _ => iSafe_v { s with level := if s.upper < s.level + 50 then s.upper else s.level + 50 } w1) ?_))))
        all_goals first | contradiction | skip
        all_goals ((conv => whnf); refine VRet.mk fun w' m => ?_)
        all_goals exact ⟨Lo.gate_yes hr (by rw [← e9]; rfl), m.keeps.below⟩
      · have e9 := Lo.wait_none hl hh
        (repeat' ((conv => whnf); first | refine go ?_ | (refine VSome.mk ?_; intro gQ hA'; first | subst hA' | cases hA' | (dsimp only at hA'; subst hA')) | refine And.intro ?_ ?_ | intro _ | (first | ((show VCall _ _ _ 87 _ _); refine VCall.test _ (fun w1 _ => iSafe_v s w1) ?_))))
        all_goals first | contradiction | skip
        all_goals ((conv => whnf); refine VRet.mk fun w' m => ?_)
        all_goals exact ⟨Lo.gate_yes hr (by rw [← e9]; rfl), m.keeps.below⟩
  · rcases hc with rfl | rfl | rfl | rfl | rfl | rfl | rfl | rfl
    all_goals ((repeat' ((conv => whnf); first | refine go ?_ | (refine VSome.mk ?_; intro gQ hA'; first | subst hA' | cases hA' | (dsimp only at hA'; subst hA')) | refine And.intro ?_ ?_ | intro _ | (first | ((show VCall _ _ _ 211 _ _); refine VCall.full [0] (by simp) (fun _ => rfl) (fun w1 m1 => turn_v _ _ _ _ _ _ rfl m1) (fun _ _ => ?_)) | ((show VCall _ _ _ 87 [.agg (Lo.cells { s with lg := true }).toArray] _); refine VCall.test _ (fun w1 _ => iSafe_v { s with lg := true } w1) ?_) | ((show VCall _ _ _ 87 [.agg (Lo.cells { s with lg := false }).toArray] _); refine VCall.test _ (fun w1 _ => iSafe_v { s with lg := false } w1) ?_) | ((show VCall _ _ _ 87 [.agg (Lo.cells { s with hg := true }).toArray] _); refine VCall.test _ (fun w1 _ => iSafe_v { s with hg := true } w1) ?_) | ((show VCall _ _ _ 87 [.agg (Lo.cells { s with hg := false }).toArray] _); refine VCall.test _ (fun w1 _ => iSafe_v { s with hg := false } w1) ?_) | ((show VCall _ _ _ 87 [.agg (Lo.cells { s with lp := true }).toArray] _); refine VCall.test _ (fun w1 _ => iSafe_v { s with lp := true } w1) ?_) | ((show VCall _ _ _ 87 [.agg (Lo.cells { s with lp := false }).toArray] _); refine VCall.test _ (fun w1 _ => iSafe_v { s with lp := false } w1) ?_) | ((show VCall _ _ _ 87 [.agg (Lo.cells { s with hp := true }).toArray] _); refine VCall.test _ (fun w1 _ => iSafe_v { s with hp := true } w1) ?_) | ((show VCall _ _ _ 87 [.agg (Lo.cells { s with hp := false }).toArray] _); refine VCall.test _ (fun w1 _ => iSafe_v { s with hp := false } w1) ?_)))))
    all_goals first | contradiction | skip
    all_goals ((conv => whnf); refine VRet.mk fun w' m => ?_)
    all_goals refine ⟨?_, m.keeps.below⟩
    all_goals (first | (refine Lo.gate_no (Lo.no_same (by decide) (Lo.set_lg (nn_tr (by assumption)))) rfl; done) | (refine Lo.gate_no (Lo.no_same (by decide) (Lo.set_hg (nn_tr (by assumption)))) rfl; done) | (refine Lo.gate_no (Lo.no_same (by decide) (Lo.set_lp (nn_tr (by assumption)))) rfl; done) | (refine Lo.gate_no (Lo.no_same (by decide) (Lo.set_hp (nn_tr (by assumption)))) rfl; done) | (refine Lo.gate_no (Lo.no_bad (by decide) rfl (by assumption)) rfl; done) | (refine Lo.gate_yes (Lo.ok_of hs (by decide) (by decide) rfl (fun e => (show ¬ s.lg = _ from tr_iff.1 (by assumption)) (congrArg Lo.lg e).symm) (by assumption)) rfl; done) | (refine Lo.gate_yes (Lo.ok_of hs (by decide) (by decide) rfl (fun e => (show ¬ s.hg = _ from tr_iff.1 (by assumption)) (congrArg Lo.hg e).symm) (by assumption)) rfl; done) | (refine Lo.gate_yes (Lo.ok_of hs (by decide) (by decide) rfl (fun e => (show ¬ s.lp = _ from tr_iff.1 (by assumption)) (congrArg Lo.lp e).symm) (by assumption)) rfl; done) | (refine Lo.gate_yes (Lo.ok_of hs (by decide) (by decide) rfl (fun e => (show ¬ s.hp = _ from tr_iff.1 (by assumption)) (congrArg Lo.hp e).symm) (by assumption)) rfl; done))
  · (repeat' ((conv => whnf); first | refine go ?_ | (refine VSome.mk ?_; intro gQ hA'; first | subst hA' | cases hA' | (dsimp only at hA'; subst hA')) | refine And.intro ?_ ?_ | intro _))
    all_goals ((conv => whnf); refine VRet.mk fun w' m => ?_)
    all_goals exact ⟨Lo.gate_no (Lo.no_out (by omega)) rfl, m.keeps.below⟩
end Go.Proofs.YtadjhkehfklmnaaGreatDoor
namespace Go.Proofs.YtadjhkehfklmnaaGreatDoor
set_option linter.unusedSimpArgs false
set_option linter.unusedVariables false
open Go.RowKit
set_option maxRecDepth 10000
def NL (p : List Nat) : List Value := IL (p.map (fun (x : Nat) => (x : Int)))
theorem NL_app (a b : List Nat) : NL (a ++ b) = NL a ++ NL b := by unfold NL; rw [List.map_append, IL_app]
theorem NL_len1 (p : List Nat) : (NL p).length = p.length * 1 := by unfold NL; rw [IL_len1, List.length_map]
theorem NL_one (p : List Nat) : (NL p).all (·.oneCell') = true := IL_one _
theorem NL_get {p : List Nat} {k : Nat} (h : k < p.length) (o : Nat) (e : o = k) : (NL p)[o]? = some (.int .i64 (nth p k : Nat)) := by
  subst e
  unfold NL IL nth
  rw [List.getElem?_map, List.getElem?_map, List.getElem?_eq_getElem h, List.getD_eq_getElem?_getD, List.getElem?_eq_getElem h]
  rfl
theorem NL_look {w : World} {A : Option Addr} {p : List Nat} {i : Nat} (h : Seen w A (NL p)) (hi : i < p.length) : ∃ b off, A = some ⟨b, off, none⟩ ∧ b < w.heap.size ∧ w.cell? ⟨b, off + i, none⟩ = some (.int .i64 (nth p i : Nat)) :=
  h i _ (NL_get hi i rfl)
theorem NL_take (p : List Nat) (k : Nat) : (NL p).take k = NL (p.take k) := by unfold NL IL; rw [List.map_take, List.map_take]
theorem nth_take {p : List Nat} {k j : Nat} (h : j < k) : nth (p.take k) j = nth p j := by
  unfold nth
  rw [List.getD_eq_getElem?_getD, List.getD_eq_getElem?_getD, List.getElem?_take, if_pos h]
theorem mem_nth {p : List Nat} {x : Nat} : x ∈ p ↔ ∃ k, k < p.length ∧ nth p k = x := by
  constructor
  · intro h
    obtain ⟨k, hk, e⟩ := List.getElem_of_mem h
    refine ⟨k, hk, ?_⟩
    unfold nth
    rw [List.getD_eq_getElem?_getD, List.getElem?_eq_getElem hk]
    exact e
  · rintro ⟨k, hk, rfl⟩
    exact nth_mem hk
theorem areMinutes_v (n : Int) (w : World) : Calls Tryz.prog 217 #[.int .i64 n] w (Post (.bool (tr (1 ≤ n ∧ n ≤ 60))) w) := by
  refine post_of_vc ?_
  refine calls_of_vc tb_ok (args := [.int .i64 n]) Tryz.func217 rfl ?_
  (repeat' ((conv => whnf); first | refine go ?_ | (refine VSome.mk ?_; intro gQ hA'; first | subst hA' | cases hA' | (dsimp only at hA'; subst hA')) | refine And.intro ?_ ?_ | intro _ | (first | ((show VCall _ _ _ 80 _ _); refine VCall.test _ (fun w1 _ => inside_v _ _ _ w1) ?_))))
  all_goals ((conv => whnf); refine VRet.mk fun w' m => ?_)
  all_goals refine ⟨congrArg Value.bool ?_, m.keeps.below⟩
  all_goals first | (rw [tr_yes (by omega)]; done) | (rw [tr_no (by omega)]; done)
theorem l8Minutes_v (n : Int) (w : World) : Calls Tryz.prog 194 #[.int .i64 n] w (Post (.bool (tr (1 ≤ n ∧ n ≤ 60))) w) := by
  refine post_of_vc ?_
  refine calls_of_vc tb_ok (args := [.int .i64 n]) Tryz.func194 rfl ?_
  (repeat' ((conv => whnf); first | refine go ?_ | (refine VSome.mk ?_; intro gQ hA'; first | subst hA' | cases hA' | (dsimp only at hA'; subst hA')) | refine And.intro ?_ ?_ | intro _ | (first | ((show VCall _ _ _ 109 _ _); refine VCall.test _ (fun w1 _ => l1In_v _ _ _ w1) ?_))))
  all_goals ((conv => whnf); refine VRet.mk fun w' m => ?_)
  all_goals refine ⟨congrArg Value.bool ?_, m.keeps.below⟩
  all_goals first | (rw [tr_yes (by omega)]; done) | (rw [tr_no (by omega)]; done)
theorem before_v (a b : Aw) (w : World) : Calls Tryz.prog 247 #[.agg a.cells.toArray, .agg b.cells.toArray] w (Post (.bool (tr (bef a b))) w) := by
  refine post_of_vc ?_
  refine calls_of_vc tb_ok (args := [.agg a.cells.toArray, .agg b.cells.toArray]) Tryz.func247 rfl ?_
  (repeat' ((conv => whnf); first | refine go ?_ | (refine VSome.mk ?_; intro gQ hA'; first | subst hA' | cases hA' | (dsimp only at hA'; subst hA')) | refine And.intro ?_ ?_ | intro _))
  all_goals ((conv => whnf); refine VRet.mk fun w' m => ?_)
  all_goals refine ⟨congrArg Value.bool ?_, m.keeps.below⟩
  all_goals first | (rw [tr_yes (by unfold bef; omega)]; done) | (rw [tr_no (by unfold bef; omega)]; done)
def cm (a b : Int) : Int := if a < b then -1 else if b < a then 1 else 0
def cmA (a b : Aw) : Int := if cm a.minute b.minute = 0 then cm a.id b.id else cm a.minute b.minute
theorem cm_in (a b : Int) : (a < b ∧ cm a b = -1) ∨ (b < a ∧ cm a b = 1) ∨ (a = b ∧ cm a b = 0) := by
  unfold cm
  by_cases h : a < b
  · rw [if_pos h]; omega
  · rw [if_neg h]
    by_cases h2 : b < a
    · rw [if_pos h2]; omega
    · rw [if_neg h2]; omega
theorem cmA_in (a b : Aw) : (bef a b ∧ cmA a b = -1) ∨ (bef b a ∧ cmA a b = 1) ∨ (¬ bef a b ∧ ¬ bef b a ∧ cmA a b = 0) := by
  have h1 := cm_in a.minute b.minute
  have h2 := cm_in a.id b.id
  unfold cmA bef
  generalize cm a.minute b.minute = x at *
  generalize cm a.id b.id = y at *
  split <;> omega
theorem isNaN_v (x : Int) (w : World) : Calls Tryz.prog 262 #[.int .i64 x] w (Post (.bool false) w) := by
  refine post_of_vc ?_
  refine calls_of_vc tb_ok (args := [.int .i64 x]) Tryz.func262 rfl ?_
  (repeat' ((conv => whnf); first | refine go ?_ | (refine VSome.mk ?_; intro gQ hA'; first | subst hA' | cases hA' | (dsimp only at hA'; subst hA')) | refine And.intro ?_ ?_ | intro _))
  all_goals ((conv => whnf); refine VRet.mk fun w' m => ?_)
  all_goals exact ⟨rfl, m.keeps.below⟩
theorem compare_v (a b : Int) (w : World) : Calls Tryz.prog 257 #[.int .i64 a, .int .i64 b] w (Post (.int .i64 (cm a b)) w) := by
  have hc := cm_in a b
  refine post_of_vc ?_
  refine calls_of_vc tb_ok (args := [.int .i64 a, .int .i64 b]) Tryz.func257 rfl ?_
  (repeat' ((conv => whnf); first | refine go ?_ | (refine VSome.mk ?_; intro gQ hA'; first | subst hA' | cases hA' | (dsimp only at hA'; subst hA')) | refine And.intro ?_ ?_ | intro _ | (first | ((show VCall _ _ _ 262 _ _); refine VCall.grow _ (fun w1 _ => isNaN_v _ w1) ?_))))
  all_goals ((conv => whnf); refine VRet.mk fun w' m => ?_)
  all_goals exact ⟨congrArg (Value.int .i64) (by omega), m.keeps.below⟩
theorem or_v (A : Option Addr) (c : Nat) (x y : Int) (w : World) (hA : Seen w A (IL [x, y])) : Calls Tryz.prog 256 #[.slice A 2 c] w (Post (.int .i64 (if x = 0 then y else x)) w) := by
  refine post_of_vc ?_
  refine calls_of_vc tb_ok (args := [.slice A 2 c]) Tryz.func256 rfl ?_
  (repeat' ((conv => whnf); first | refine go ?_ | (refine VSome.mk ?_; intro gQ hA'; first | subst hA' | cases hA' | (dsimp only at hA'; subst hA')) | refine And.intro ?_ ?_ | intro _))
  (conv => whnf)
  refine VLoop.mk (ι := Nat) [2, 5, 8, 9, 10, 11, 12, 13, 14, 15, 16] (fun k => [(8, .int .i64 k)]) (fun _ => []) (fun k => k ≤ 2 ∧ (0 < k → x = 0) ∧ (1 < k → y = 0)) (fun k => 2 - k) 0 ⟨by omega, fun h => absurd h (by omega), fun h => absurd h (by omega)⟩ ?_ (OwnLe.mk [] (by simp) rfl) (fun k u hk => ?_)
  · ((conv => whnf); repeat (first | exact trivial | refine ⟨rfl, ?_⟩ | refine ⟨congrArg (Value.int .i64) (by first | omega | assumption | exact Eq.symm (by assumption)), ?_⟩))
  obtain ⟨hk, h0, h1⟩ := hk
  by_cases hlt : k < 2
  · obtain ⟨b, off, rfl, hb, hc⟩ := IL_look hA (show k < [x, y].length from hlt)
    have hk2 : k = 0 ∨ k = 1 := by omega
    rcases hk2 with rfl | rfl
    · replace hc : w.cell? ⟨b, off + 0, none⟩ = some (.int .i64 x) := hc
      (repeat' ((conv => whnf); first | refine go ?_ | (refine VSome.mk ?_; intro gQ hA'; first | subst hA' | cases hA' | (dsimp only at hA'; subst hA')) | refine And.intro ?_ ?_ | intro _))
      (all_goals (conv => whnf))
      all_goals first | ((show VNext _ _ _ _ _ _ _ _ _); (refine VNext.mk 1 ⟨by omega, fun _ => by omega, fun h => absurd h (by omega)⟩ (by omega) ?_ (OwnLe.mk [] (by simp) rfl); ((conv => whnf); repeat (first | exact trivial | refine ⟨rfl, ?_⟩ | refine ⟨congrArg (Value.int .i64) (by first | omega | assumption | exact Eq.symm (by assumption)), ?_⟩)))) | ((show VRet _ _ _ _); (refine VRet.mk fun w' m => ⟨congrArg (Value.int .i64) ?_, m.keeps.below⟩; rw [if_neg (by omega)]))
    · replace hc : w.cell? ⟨b, off + 1, none⟩ = some (.int .i64 y) := hc
      have hx := h0 (by omega)
      (repeat' ((conv => whnf); first | refine go ?_ | (refine VSome.mk ?_; intro gQ hA'; first | subst hA' | cases hA' | (dsimp only at hA'; subst hA')) | refine And.intro ?_ ?_ | intro _))
      (all_goals (conv => whnf))
      all_goals first | ((show VNext _ _ _ _ _ _ _ _ _); (refine VNext.mk 2 ⟨by omega, fun _ => hx, fun h => by omega⟩ (by omega) ?_ (OwnLe.mk [] (by simp) rfl); ((conv => whnf); repeat (first | exact trivial | refine ⟨rfl, ?_⟩ | refine ⟨congrArg (Value.int .i64) (by first | omega | assumption | exact Eq.symm (by assumption)), ?_⟩)))) | ((show VRet _ _ _ _); (refine VRet.mk fun w' m => ⟨congrArg (Value.int .i64) ?_, m.keeps.below⟩; rw [if_pos hx]))
  · obtain rfl : k = 2 := by omega
    (repeat' ((conv => whnf); first | refine go ?_ | (refine VSome.mk ?_; intro gQ hA'; first | subst hA' | cases hA' | (dsimp only at hA'; subst hA')) | refine And.intro ?_ ?_ | intro _))
    (conv => whnf); refine VRet.mk fun w' m => ?_
    refine ⟨congrArg (Value.int .i64) ?_, m.keeps.below⟩
    rw [if_pos (h0 (by omega)), h1 (by omega)]
set_option maxHeartbeats 1600000 in
theorem cmpArr_v (a b : Aw) (w : World) : Calls Tryz.prog 243 #[.agg a.cells.toArray, .agg b.cells.toArray] w (Post (.int .i64 (cmA a b)) w) := by
  refine post_of_vc ?_
  refine calls_of_vc tb_ok (args := [.agg a.cells.toArray, .agg b.cells.toArray]) Tryz.func243 rfl ?_
  (repeat' ((conv => whnf); first | refine go ?_ | (refine VSome.mk ?_; intro gQ hA'; first | subst hA' | cases hA' | (dsimp only at hA'; subst hA')) | refine And.intro ?_ ?_ | intro _ | (first | ((show VCall _ _ _ 257 [.int .i64 a.minute, .int .i64 b.minute] _); refine VCall.grow _ (fun w1 _ => compare_v _ _ w1) ?_) | ((show VCall _ _ _ 257 [.int .i64 a.id, .int .i64 b.id] _); refine VCall.grow _ (fun w1 _ => compare_v _ _ w1) ?_) | ((show VDraw _ _ _ _ _ _); refine VDraw.mk (.take 0 (.take 1 (.take 2 (.take 3 (.take 5 (.take 6 (.take 7 (.take 8 (.br 4 (.br 9 (.br 10 (.br 11 (.take 12 .done) .done) .done) .done) .done))))))))) [0, 1] (by kernel_rfl) (by kernel_rfl) ?_) | ((show VCall _ _ _ 256 _ _); refine VCall.grow _ (fun w1 m1 => or_v _ _ (cm a.minute b.minute) (cm a.id b.id) w1 (by exact Sees.blk 2 rfl w1 m1)) ?_))))
  all_goals ((conv => whnf); refine VRet.mk fun w' m => ?_)
  all_goals exact ⟨rfl, m.keeps.below⟩
theorem has_v (B : Option Addr) (c : Nat) (p : List Nat) (x : Nat) (w : World) (hl : p.length ≤ 1048576) (hB : Seen w B (NL p)) : Calls Tryz.prog 246 #[.slice B p.length c, .int .i64 x] w (Post (.bool (tr (x ∈ p))) w) := by
  refine post_of_vc ?_
  refine calls_of_vc tb_ok (args := [.slice B p.length c, .int .i64 x]) Tryz.func246 rfl ?_
  (repeat' ((conv => whnf); first | refine go ?_ | (refine VSome.mk ?_; intro gQ hA'; first | subst hA' | cases hA' | (dsimp only at hA'; subst hA')) | refine And.intro ?_ ?_ | intro _))
  (conv => whnf)
  refine VLoop.mk (ι := Nat) [4, 5, 6, 7, 8, 9, 10, 11, 12, 13, 14, 15, 16, 17] (fun k => [(5, .int .i64 k)]) (fun _ => []) (fun k => k ≤ p.length ∧ ∀ i, i < k → ¬ nth p i = x) (fun k => p.length - k) 0 ⟨Nat.zero_le _, fun i h => absurd h (by omega)⟩ ?_ (OwnLe.mk [] (by simp) rfl) (fun k u hk => ?_)
  · ((conv => whnf); repeat (first | exact trivial | refine ⟨rfl, ?_⟩ | refine ⟨congrArg (Value.int .i64) (by first | omega | assumption | exact Eq.symm (by assumption)), ?_⟩))
  obtain ⟨hk, hno⟩ := hk
  by_cases hlt : k < p.length
  · obtain ⟨b, off, rfl, hb, hc⟩ := NL_look hB hlt
    (repeat' ((conv => whnf); first | refine go ?_ | (refine VSome.mk ?_; intro gQ hA'; first | subst hA' | cases hA' | (dsimp only at hA'; subst hA')) | refine And.intro ?_ ?_ | intro _))
    (all_goals (conv => whnf))
    all_goals first | ((show VNext _ _ _ _ _ _ _ _ _); (refine VNext.mk (k + 1) ⟨hlt, upto_succ hno (by omega)⟩ (by omega) ?_ (OwnLe.mk [] (by simp) rfl); ((conv => whnf); repeat (first | exact trivial | refine ⟨rfl, ?_⟩ | refine ⟨congrArg (Value.int .i64) (by first | omega | assumption | exact Eq.symm (by assumption)), ?_⟩)))) | ((show VRet _ _ _ _); (refine VRet.mk fun w' m => ⟨congrArg Value.bool ?_, m.keeps.below⟩; rw [tr_yes (mem_nth.2 ⟨k, hlt, by omega⟩)]))
  · obtain rfl : k = p.length := by omega
    (repeat' ((conv => whnf); first | refine go ?_ | (refine VSome.mk ?_; intro gQ hA'; first | subst hA' | cases hA' | (dsimp only at hA'; subst hA')) | refine And.intro ?_ ?_ | intro _))
    (conv => whnf); refine VRet.mk fun w' m => ?_
    refine ⟨congrArg Value.bool ?_, m.keeps.below⟩
    rw [tr_no (fun h => by obtain ⟨i, hi, e⟩ := mem_nth.1 h; exact hno i hi e)]
theorem indexN_v (B : Option Addr) (c : Nat) (p : List Nat) (x : Nat) (w : World) (hl : p.length ≤ 1048576) (hB : Seen w B (NL p)) : Calls Tryz.prog 242 #[.slice B p.length c, .int .i64 x] w fun e w' => ∃ r : Int, (x ∈ p ∧ 0 ≤ r ∨ x ∉ p ∧ r = -1) ∧ Post (.int .i64 r) w e w' := by
  refine some_of_vc ?_
  refine calls_of_vc tb_ok (args := [.slice B p.length c, .int .i64 x]) Tryz.func242 rfl ?_
  (repeat' ((conv => whnf); first | refine go ?_ | (refine VSome.mk ?_; intro gQ hA'; first | subst hA' | cases hA' | (dsimp only at hA'; subst hA')) | refine And.intro ?_ ?_ | intro _))
  (conv => whnf)
  refine VLoop.mk (ι := Nat) [4, 5, 8, 9, 10, 11, 12, 13, 14, 15, 16, 17, 18] (fun k => [(8, .int .i64 k)]) (fun _ => []) (fun k => k ≤ p.length ∧ ∀ i, i < k → ¬ nth p i = x) (fun k => p.length - k) 0 ⟨Nat.zero_le _, fun i h => absurd h (by omega)⟩ ?_ (OwnLe.mk [] (by simp) rfl) (fun k u hk => ?_)
  · ((conv => whnf); repeat (first | exact trivial | refine ⟨rfl, ?_⟩ | refine ⟨congrArg (Value.int .i64) (by first | omega | assumption | exact Eq.symm (by assumption)), ?_⟩))
  obtain ⟨hk, hno⟩ := hk
  by_cases hlt : k < p.length
  · obtain ⟨b, off, rfl, hb, hc⟩ := NL_look hB hlt
    (repeat' ((conv => whnf); first | refine go ?_ | (refine VSome.mk ?_; intro gQ hA'; first | subst hA' | cases hA' | (dsimp only at hA'; subst hA')) | refine And.intro ?_ ?_ | intro _))
    (all_goals (conv => whnf))
    all_goals first | ((show VNext _ _ _ _ _ _ _ _ _); (refine VNext.mk (k + 1) ⟨hlt, upto_succ hno (by omega)⟩ (by omega) ?_ (OwnLe.mk [] (by simp) rfl); ((conv => whnf); repeat (first | exact trivial | refine ⟨rfl, ?_⟩ | refine ⟨congrArg (Value.int .i64) (by first | omega | assumption | exact Eq.symm (by assumption)), ?_⟩)))) | ((show VRet _ _ _ _); (refine VRet.mk fun w' m => ⟨_, .inl ⟨mem_nth.2 ⟨k, hlt, by omega⟩, by omega⟩, rfl, m.keeps.below⟩))
  · obtain rfl : k = p.length := by omega
    (repeat' ((conv => whnf); first | refine go ?_ | (refine VSome.mk ?_; intro gQ hA'; first | subst hA' | cases hA' | (dsimp only at hA'; subst hA')) | refine And.intro ?_ ?_ | intro _))
    (conv => whnf); refine VRet.mk fun w' m => ?_
    exact ⟨_, .inr ⟨fun h => by obtain ⟨i, hi, e⟩ := mem_nth.1 h; exact hno i hi e, rfl⟩, rfl, m.keeps.below⟩
theorem containsN_v (B : Option Addr) (c : Nat) (p : List Nat) (x : Nat) (w : World) (hl : p.length ≤ 1048576) (hB : Seen w B (NL p)) : Calls Tryz.prog 221 #[.slice B p.length c, .int .i64 x] w (Post (.bool (tr (x ∈ p))) w) := by
  refine post_of_vc ?_
  refine calls_of_vc tb_ok (args := [.slice B p.length c, .int .i64 x]) Tryz.func221 rfl ?_
  (repeat' ((conv => whnf); first | refine go ?_ | (refine VSome.mk ?_; intro gQ hA'; first | subst hA' | cases hA' | (dsimp only at hA'; subst hA')) | refine And.intro ?_ ?_ | intro _ | (first | ((show VCall _ _ _ 242 _ _); refine VCall.some _ _ (fun w1 m1 => indexN_v B c p x w1 hl seenA) (fun r hr => ?_)))))
  all_goals ((conv => whnf); refine VRet.mk fun w' m => ?_)
  all_goals refine ⟨congrArg Value.bool ?_, m.keeps.below⟩
  all_goals rcases hr with ⟨h1, h2⟩ | ⟨h1, h2⟩
  all_goals first | (exfalso; omega) | (rw [tr_yes h1]; done) | (rw [tr_no h1]; done)
end Go.Proofs.YtadjhkehfklmnaaGreatDoor
namespace Go.Proofs.YtadjhkehfklmnaaGreatDoor
set_option linter.unusedSimpArgs false
set_option linter.unusedVariables false
open Go.RowKit
set_option maxRecDepth 10000
def PT2 (w : World) : Prop := PTab w ∧ (∃ x : Int, w.cell? ⟨0, 0, none⟩ = some (.int .i64 x)) ∧ ∃ te pe, w.cell? ⟨6, 0, none⟩ = some (.iface te pe)
theorem PT2.below {w w' : World} (h : PT2 w) (hb : Below w.heap.size w w') : PT2 w' := by
  obtain ⟨h1, ⟨x, h2⟩, te, pe, h3⟩ := h
  exact ⟨h1.below hb, ⟨x, (hb.cell (cell_lt h2)).trans h2⟩, te, pe, (hb.cell (cell_lt h3)).trans h3⟩
theorem PT2.on {w : World} {own : List Own} {w1 : World} (h : PT2 w) (m : Mem (Base.of w) own w1) : PT2 w1 := h.below m.keeps.below
theorem atoiYes_v (l : List UInt8) (n : Int) (w : World) (hl : l.length ≤ 18) (h : Lib.atoi l = some n) : Calls Tryz.prog 175 #[.string (tx l)] w (Post (.tuple #[.int .i64 n, .nilIface]) w) := by
  have e1 : (tx l).data.toList = l := by simp [tx]
  refine (Tryz.strconv_Atoi (tx l) n (by rw [tx_size]; exact hl) (by rw [e1]; exact h) w).mono fun e w' ⟨he, t, hw⟩ => ⟨he, ?_⟩
  rw [hw]
  exact Lib.bytesWorld_below _ _ _
theorem atoiNo_v (l : List UInt8) (w : World) (hl : l.length ≤ 18) (h : Lib.atoi l = none) (ht : PT2 w) : Calls Tryz.prog 175 #[.string (tx l)] w fun e w' => ∃ g : Nat, True ∧ Post (.tuple #[.int .i64 0, .iface 245 (.pointer (some ⟨g, 0, none⟩))]) w e w' := by
  have e1 : (tx l).data.toList = l := by simp [tx]
  obtain ⟨_, _, te, pe, h3⟩ := ht
  refine (Tryz.strconv_Atoi_err (tx l) (by rw [tx_size]; exact hl) (by rw [e1]; exact h) _ w h3 (.inr ⟨te, pe, rfl⟩)).mono fun e w' ⟨g, he, _, _, hb⟩ => ⟨g, trivial, he, hb⟩
set_option maxHeartbeats 1600000 in
theorem iParse_v (l : List UInt8) (w : World) (hl : l.length ≤ 1048576) (ht : PT2 w) : Calls Tryz.prog 139 #[.string (tx l)] w (Post (.tuple #[.int .i64 (rdV l).1, .bool (rdV l).2]) w) := by
  have hsz := tx_size l
  refine post_of_vc ?_
  refine calls_of_vc tb_ok (args := [.string (tx l)]) Tryz.func139 rfl ?_
  by_cases h9 : 7 < l.length
  · have hpd : rdV l = (0, false) := rdV_no fun n h1 h2 e => by have := (itoa_len h1 h2).2; rw [← e] at this; omega
    rw [hpd]
    (repeat' ((conv => whnf); first | refine go ?_ | (refine VSome.mk ?_; intro gQ hA'; first | subst hA' | cases hA' | (dsimp only at hA'; subst hA')) | refine And.intro ?_ ?_ | intro _))
    all_goals ((conv => whnf); refine VRet.mk fun w' m => ?_)
    all_goals exact ⟨rfl, m.keeps.below⟩
  cases ha : Lib.atoi l with
  | none =>
    have hpd : rdV l = (0, false) := by unfold rdV; rw [ha]
    rw [hpd]
    (repeat' ((conv => whnf); first | refine go ?_ | (refine VSome.mk ?_; intro gQ hA'; first | subst hA' | cases hA' | (dsimp only at hA'; subst hA')) | refine And.intro ?_ ?_ | intro _ | (first | ((show VCall _ _ _ 175 _ _); refine VCall.some _ _ (fun w1 m1 => atoiNo_v l w1 (by omega) ha (ht.on m1)) (fun g _ => ?_)))))
    all_goals ((conv => whnf); refine VRet.mk fun w' m => ?_)
    all_goals exact ⟨rfl, m.keeps.below⟩
  | some n =>
    have hb := Lib.atoi_bound ha (by omega)
    by_cases hr : -999999 ≤ n ∧ n ≤ 999999
    · by_cases hm : Lib.itoa n = l
      · have hpd : rdV l = (n, true) := by unfold rdV; rw [ha]; exact if_pos ⟨hr, hm⟩
        have hm' : tx (Lib.itoa n) = tx l := by rw [hm]
        rw [hpd]
        (repeat' ((conv => whnf); first | refine go ?_ | (refine VSome.mk ?_; intro gQ hA'; first | subst hA' | cases hA' | (dsimp only at hA'; subst hA')) | refine And.intro ?_ ?_ | intro _ | (first | ((show VCall _ _ _ 175 _ _); refine VCall.grow _ (fun w1 m1 => atoiYes_v l _ w1 (by omega) ha) ?_) | ((show VCall _ _ _ 80 _ _); refine VCall.test _ (fun w1 _ => inside_v _ _ _ w1) ?_) | ((show VCall _ _ _ 59 _ _); refine VCall.grow _ (fun w1 m1 => itoaZ_v n w1 (by omega) (by omega) (ht.on m1).1) ?_))))
        all_goals ((conv => whnf); refine VRet.mk fun w' m => ?_)
        all_goals exact ⟨rfl, m.keeps.below⟩
      · have hpd : rdV l = (0, false) := by unfold rdV; rw [ha]; exact if_neg fun q => hm q.2
        have hm' : ¬ tx (Lib.itoa n) = tx l := fun q => hm (tx_inj q)
        rw [hpd]
        (repeat' ((conv => whnf); first | refine go ?_ | (refine VSome.mk ?_; intro gQ hA'; first | subst hA' | cases hA' | (dsimp only at hA'; subst hA')) | refine And.intro ?_ ?_ | intro _ | (first | ((show VCall _ _ _ 175 _ _); refine VCall.grow _ (fun w1 m1 => atoiYes_v l _ w1 (by omega) ha) ?_) | ((show VCall _ _ _ 80 _ _); refine VCall.test _ (fun w1 _ => inside_v _ _ _ w1) ?_) | ((show VCall _ _ _ 59 _ _); refine VCall.grow _ (fun w1 m1 => itoaZ_v n w1 (by omega) (by omega) (ht.on m1).1) ?_))))
        all_goals ((conv => whnf); refine VRet.mk fun w' m => ?_)
        all_goals exact ⟨rfl, m.keeps.below⟩
    · have hpd : rdV l = (0, false) := by unfold rdV; rw [ha]; exact if_neg fun q => hr q.1
      rw [hpd]
      (repeat' ((conv => whnf); first | refine go ?_ | (refine VSome.mk ?_; intro gQ hA'; first | subst hA' | cases hA' | (dsimp only at hA'; subst hA')) | refine And.intro ?_ ?_ | intro _ | (first | ((show VCall _ _ _ 175 _ _); refine VCall.grow _ (fun w1 m1 => atoiYes_v l _ w1 (by omega) ha) ?_) | ((show VCall _ _ _ 80 _ _); refine VCall.test _ (fun w1 _ => inside_v _ _ _ w1) ?_))))
      all_goals ((conv => whnf); refine VRet.mk fun w' m => ?_)
      all_goals exact ⟨rfl, m.keeps.below⟩
theorem TS_tx (L : List (List UInt8)) : (L.map tx).map Value.string = TS L := by unfold TS; rw [List.map_map]; rfl
theorem split_v (l : List UInt8) (w : World) (hl : l.length ≤ 1048576) (ht : PT2 w) : Calls Tryz.prog 48 #[.string (tx l), .string (tx [32])] w fun e w' => ∃ v, e = .returned v ∧ RetV (ι := Nat) (fun _ => True) (fun g => .slice (some ⟨g, 0, none⟩) (sps 32 l).length (sps 32 l).length) (fun g => [.row (.slice (some ⟨g, 0, none⟩) (sps 32 l).length (sps 32 l).length) 9 1 (sps 32 l).length (TS (sps 32 l))]) (Base.of w) v w' := by
  obtain ⟨_, ⟨x, h2⟩, _⟩ := ht
  have hs := splitB_sps 32 l
  have hlen : (sps 32 l).length = Lib.countB (tx l) (tx [32]) + 1 := by
    have := Lib.splitB_all (tx [32]) (by rw [tx_size]; decide) 0 (Lib.countB (tx l) (tx [32])) (tx l) rfl
    rw [hs, List.length_map] at this
    exact this
  refine (Tryz.strings_Split (tx l) (tx [32]) x w (by rw [tx_size]; omega) h2 (by rw [tx_size]; decide)).mono fun e w' ⟨he, hw⟩ => ⟨_, he, w.heap.size, trivial, by rw [hlen], ?_⟩
  rw [hs, TS_tx] at hw
  rw [hw]
  have m := (Mem.init (Base.of w)).alloc 9 (TS (sps 32 l))
  have hx := sps_len 32 l
  exact Mem.turnRow (k := 0) rfl (TS_len1 _) (by unfold maxLen; omega) m
theorem pat_none {l : List UInt8} (h0 : ¬ l = wLevel) (h1 : ¬ l = wWater) (h2 : ¬ l = wStep) (h3 : ¬ l = wLeave) (h4 : ¬ l = wBest) (h5 : ¬ l = wDelay) (h6 : ¬ l = wBound) (h7 : ¬ l = wGo) (h8 : ¬ l = wPlan) (h9 : ¬ l = wHead) (h10 : ¬ l = wFlow) (h11 : ¬ l = wArrive) : pat l = ([], false) := by
  unfold pat
  simp only [h0, h1, h2, h3, h4, h5, h6, h7, h8, h9, h10, h11, or_self, if_false]
set_option maxHeartbeats 4000000 in
theorem pattern_v (l : List UInt8) (w : World) : Calls Tryz.prog 112 #[.string (tx l)] w (Post (.tuple #[.string (tx (pat l).1), .bool (pat l).2]) w) := by
  refine post_of_vc ?_
  refine calls_of_vc tb_ok (args := [.string (tx l)]) Tryz.func112 rfl ?_
  (repeat' ((conv => whnf); first | refine go ?_ | (refine VSome.mk ?_; intro gQ hA'; first | subst hA' | cases hA' | (dsimp only at hA'; subst hA')) | refine And.intro ?_ ?_ | intro _))
  all_goals ((conv => whnf); refine VRet.mk fun w' m => ?_)
  all_goals (refine ⟨?_, m.keeps.below⟩)
  all_goals first | (have e : l = wLevel := tx_inj (by assumption); rw [e]; rfl; done) | (have e : l = wWater := tx_inj (by assumption); rw [e]; rfl; done) | (have e : l = wStep := tx_inj (by assumption); rw [e]; rfl; done) | (have e : l = wLeave := tx_inj (by assumption); rw [e]; rfl; done) | (have e : l = wBest := tx_inj (by assumption); rw [e]; rfl; done) | (have e : l = wDelay := tx_inj (by assumption); rw [e]; rfl; done) | (have e : l = wBound := tx_inj (by assumption); rw [e]; rfl; done) | (have e : l = wGo := tx_inj (by assumption); rw [e]; rfl; done) | (have e : l = wPlan := tx_inj (by assumption); rw [e]; rfl; done) | (have e : l = wHead := tx_inj (by assumption); rw [e]; rfl; done) | (have e : l = wFlow := tx_inj (by assumption); rw [e]; rfl; done) | (have e : l = wArrive := tx_inj (by assumption); rw [e]; rfl; done) | (rw [pat_none (fun e => absurd (congrArg tx e) (by assumption)) (fun e => absurd (congrArg tx e) (by assumption)) (fun e => absurd (congrArg tx e) (by assumption)) (fun e => absurd (congrArg tx e) (by assumption)) (fun e => absurd (congrArg tx e) (by assumption)) (fun e => absurd (congrArg tx e) (by assumption)) (fun e => absurd (congrArg tx e) (by assumption)) (fun e => absurd (congrArg tx e) (by assumption)) (fun e => absurd (congrArg tx e) (by assumption)) (fun e => absurd (congrArg tx e) (by assumption)) (fun e => absurd (congrArg tx e) (by assumption)) (fun e => absurd (congrArg tx e) (by assumption))]; rfl; done)
end Go.Proofs.YtadjhkehfklmnaaGreatDoor
