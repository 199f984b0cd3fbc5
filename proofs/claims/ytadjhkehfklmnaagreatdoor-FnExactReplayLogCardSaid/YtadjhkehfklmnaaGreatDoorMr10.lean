/-
  Texts joined: how the calls that the law reaches are walked, and the plain laws behind them.
  Conditions: none beyond each statement's own premises.
-/
import Derived.Test.YtadjhkehfklmnaaGreatDoorMr09
import Derived.Lib.AtoiBound
namespace Go.Proofs.YtadjhkehfklmnaaGreatDoor
set_option linter.unusedSimpArgs false
set_option linter.unusedVariables false
open Go.RowKit
set_option maxRecDepth 10000
def NL (p : List Nat) : List Value := IL (p.map (fun (x : Nat) => (x : Int)))
theorem NL_app (a b : List Nat) : NL (a ++ b) = NL a ++ NL b := by unfold NL; rw [List.map_append, IL_app]
theorem NL_len1 (p : List Nat) : (NL p).length = p.length * 1 := by unfold NL; rw [IL_len1, List.length_map]
theorem NL_one (p : List Nat) : (NL p).all (·.oneCell') = true := IL_one _
theorem NL_get {p : List Nat} {k : Nat} (h : k < p.length) (o : Nat) (e : o = k) : (NL p)[o]? = some (.int .i64 (nth p k : Nat)) := by
  subst e
  unfold NL IL nth
  rw [List.getElem?_map, List.getElem?_map, List.getElem?_eq_getElem h, List.getD_eq_getElem?_getD, List.getElem?_eq_getElem h]
  rfl
theorem NL_look {w : World} {A : Option Addr} {p : List Nat} {i : Nat} (h : Seen w A (NL p)) (hi : i < p.length) : ∃ b off, A = some ⟨b, off, none⟩ ∧ b < w.heap.size ∧ w.cell? ⟨b, off + i, none⟩ = some (.int .i64 (nth p i : Nat)) :=
  h i _ (NL_get hi i rfl)
theorem NL_take (p : List Nat) (k : Nat) : (NL p).take k = NL (p.take k) := by unfold NL IL; rw [List.map_take, List.map_take]
theorem nth_take {p : List Nat} {k j : Nat} (h : j < k) : nth (p.take k) j = nth p j := by
  unfold nth
  rw [List.getD_eq_getElem?_getD, List.getD_eq_getElem?_getD, List.getElem?_take, if_pos h]
theorem mem_nth {p : List Nat} {x : Nat} : x ∈ p ↔ ∃ k, k < p.length ∧ nth p k = x := by
  constructor
  · intro h
    obtain ⟨k, hk, e⟩ := List.getElem_of_mem h
    refine ⟨k, hk, ?_⟩
    unfold nth
    rw [List.getD_eq_getElem?_getD, List.getElem?_eq_getElem hk]
    exact e
  · rintro ⟨k, hk, rfl⟩
    exact nth_mem hk
theorem areMinutes_v (n : Int) (w : World) : Calls Tryz.prog 217 #[.int .i64 n] w (Post (.bool (tr (1 ≤ n ∧ n ≤ 60))) w) := by
  refine post_of_vc ?_
  refine calls_of_vc tb_ok (args := [.int .i64 n]) Tryz.func217 rfl ?_
  (repeat' ((conv => whnf); first | refine go ?_ | (refine VSome.mk ?_; intro gQ hA'; first | subst hA' | cases hA' | (dsimp only at hA'; subst hA')) | refine And.intro ?_ ?_ | intro _ | (first | ((show VCall _ _ _ 80 _ _); refine VCall.test _ (fun w1 _ => inside_v _ _ _ w1) ?_))))
  all_goals ((conv => whnf); refine VRet.mk fun w' m => ?_)
  all_goals refine ⟨congrArg Value.bool ?_, m.keeps.below⟩
  all_goals first | (rw [tr_yes (by omega)]; done) | (rw [tr_no (by omega)]; done)
theorem l8Minutes_v (n : Int) (w : World) : Calls Tryz.prog 194 #[.int .i64 n] w (Post (.bool (tr (1 ≤ n ∧ n ≤ 60))) w) := by
  refine post_of_vc ?_
  refine calls_of_vc tb_ok (args := [.int .i64 n]) Tryz.func194 rfl ?_
  (repeat' ((conv => whnf); first | refine go ?_ | (refine VSome.mk ?_; intro gQ hA'; first | subst hA' | cases hA' | (dsimp only at hA'; subst hA')) | refine And.intro ?_ ?_ | intro _ | (first | ((show VCall _ _ _ 109 _ _); refine VCall.test _ (fun w1 _ => l1In_v _ _ _ w1) ?_))))
  all_goals ((conv => whnf); refine VRet.mk fun w' m => ?_)
  all_goals refine ⟨congrArg Value.bool ?_, m.keeps.below⟩
  all_goals first | (rw [tr_yes (by omega)]; done) | (rw [tr_no (by omega)]; done)
theorem before_v (a b : Aw) (w : World) : Calls Tryz.prog 247 #[.agg a.cells.toArray, .agg b.cells.toArray] w (Post (.bool (tr (bef a b))) w) := by
  refine post_of_vc ?_
  refine calls_of_vc tb_ok (args := [.agg a.cells.toArray, .agg b.cells.toArray]) Tryz.func247 rfl ?_
  (repeat' ((conv => whnf); first | refine go ?_ | (refine VSome.mk ?_; intro gQ hA'; first | subst hA' | cases hA' | (dsimp only at hA'; subst hA')) | refine And.intro ?_ ?_ | intro _))
  all_goals ((conv => whnf); refine VRet.mk fun w' m => ?_)
  all_goals refine ⟨congrArg Value.bool ?_, m.keeps.below⟩
  all_goals first | (rw [tr_yes (by unfold bef; omega)]; done) | (rw [tr_no (by unfold bef; omega)]; done)
def cm (a b : Int) : Int := if a < b then -1 else if b < a then 1 else 0
def cmA (a b : Aw) : Int := if cm a.minute b.minute = 0 then cm a.id b.id else cm a.minute b.minute
theorem cm_in (a b : Int) : (a < b ∧ cm a b = -1) ∨ (b < a ∧ cm a b = 1) ∨ (a = b ∧ cm a b = 0) := by
  unfold cm
  by_cases h : a < b
  · rw [if_pos h]; omega
  · rw [if_neg h]
    by_cases h2 : b < a
    · rw [if_pos h2]; omega
    · rw [if_neg h2]; omega
theorem cmA_in (a b : Aw) : (bef a b ∧ cmA a b = -1) ∨ (bef b a ∧ cmA a b = 1) ∨ (¬ bef a b ∧ ¬ bef b a ∧ cmA a b = 0) := by
  have h1 := cm_in a.minute b.minute
  have h2 := cm_in a.id b.id
  unfold cmA bef
  generalize cm a.minute b.minute = x at *
  generalize cm a.id b.id = y at *
  split <;> omega
theorem isNaN_v (x : Int) (w : World) : Calls Tryz.prog 262 #[.int .i64 x] w (Post (.bool false) w) := by
  refine post_of_vc ?_
  refine calls_of_vc tb_ok (args := [.int .i64 x]) Tryz.func262 rfl ?_
  (repeat' ((conv => whnf); first | refine go ?_ | (refine VSome.mk ?_; intro gQ hA'; first | subst hA' | cases hA' | (dsimp only at hA'; subst hA')) | refine And.intro ?_ ?_ | intro _))
  all_goals ((conv => whnf); refine VRet.mk fun w' m => ?_)
  all_goals exact ⟨rfl, m.keeps.below⟩
theorem compare_v (a b : Int) (w : World) : Calls Tryz.prog 257 #[.int .i64 a, .int .i64 b] w (Post (.int .i64 (cm a b)) w) := by
  have hc := cm_in a b
  refine post_of_vc ?_
  refine calls_of_vc tb_ok (args := [.int .i64 a, .int .i64 b]) Tryz.func257 rfl ?_
  (repeat' ((conv => whnf); first | refine go ?_ | (refine VSome.mk ?_; intro gQ hA'; first | subst hA' | cases hA' | (dsimp only at hA'; subst hA')) | refine And.intro ?_ ?_ | intro _ | (first | ((show VCall _ _ _ 262 _ _); refine VCall.grow _ (fun w1 _ => isNaN_v _ w1) ?_))))
  all_goals ((conv => whnf); refine VRet.mk fun w' m => ?_)
  all_goals exact ⟨congrArg (Value.int .i64) (by omega), m.keeps.below⟩
theorem or_v (A : Option Addr) (c : Nat) (x y : Int) (w : World) (hA : Seen w A (IL [x, y])) : Calls Tryz.prog 256 #[.slice A 2 c] w (Post (.int .i64 (if x = 0 then y else x)) w) := by
  refine post_of_vc ?_
  refine calls_of_vc tb_ok (args := [.slice A 2 c]) Tryz.func256 rfl ?_
  (repeat' ((conv => whnf); first | refine go ?_ | (refine VSome.mk ?_; intro gQ hA'; first | subst hA' | cases hA' | (dsimp only at hA'; subst hA')) | refine And.intro ?_ ?_ | intro _))
  (conv => whnf)
  refine VLoop.mk (ι := Nat) [2, 5, 8, 9, 10, 11, 12, 13, 14, 15, 16] (fun k => [(8, .int .i64 k)]) (fun _ => []) (fun k => k ≤ 2 ∧ (0 < k → x = 0) ∧ (1 < k → y = 0)) (fun k => 2 - k) 0 ⟨by omega, fun h => absurd h (by omega), fun h => absurd h (by omega)⟩ ?_ (OwnLe.mk [] (by simp) rfl) (fun k u hk => ?_)
  · ((conv => whnf); repeat (first | exact trivial | refine ⟨rfl, ?_⟩ | refine ⟨congrArg (Value.int .i64) (by first | omega | assumption | exact Eq.symm (by assumption)), ?_⟩))
  obtain ⟨hk, h0, h1⟩ := hk
  by_cases hlt : k < 2
  · obtain ⟨b, off, rfl, hb, hc⟩ := IL_look hA (show k < [x, y].length from hlt)
    have hk2 : k = 0 ∨ k = 1 := by omega
    rcases hk2 with rfl | rfl
    · replace hc : w.cell? ⟨b, off + 0, none⟩ = some (.int .i64 x) := hc
      (repeat' ((conv => whnf); first | refine go ?_ | (refine VSome.mk ?_; intro gQ hA'; first | subst hA' | cases hA' | (dsimp only at hA'; subst hA')) | refine And.intro ?_ ?_ | intro _))
      (all_goals (conv => whnf))
      all_goals first | ((show VNext _ _ _ _ _ _ _ _ _); (refine VNext.mk 1 ⟨by omega, fun _ => by omega, fun h => absurd h (by omega)⟩ (by omega) ?_ (OwnLe.mk [] (by simp) rfl); ((conv => whnf); repeat (first | exact trivial | refine ⟨rfl, ?_⟩ | refine ⟨congrArg (Value.int .i64) (by first | omega | assumption | exact Eq.symm (by assumption)), ?_⟩)))) | ((show VRet _ _ _ _); (refine VRet.mk fun w' m => ⟨congrArg (Value.int .i64) ?_, m.keeps.below⟩; rw [if_neg (by omega)]))
    · replace hc : w.cell? ⟨b, off + 1, none⟩ = some (.int .i64 y) := hc
      have hx := h0 (by omega)
      (repeat' ((conv => whnf); first | refine go ?_ | (refine VSome.mk ?_; intro gQ hA'; first | subst hA' | cases hA' | (dsimp only at hA'; subst hA')) | refine And.intro ?_ ?_ | intro _))
      (all_goals (conv => whnf))
      all_goals first | ((show VNext _ _ _ _ _ _ _ _ _); (refine VNext.mk 2 ⟨by omega, fun _ => hx, fun h => by omega⟩ (by omega) ?_ (OwnLe.mk [] (by simp) rfl); ((conv => whnf); repeat (first | exact trivial | refine ⟨rfl, ?_⟩ | refine ⟨congrArg (Value.int .i64) (by first | omega | assumption | exact Eq.symm (by assumption)), ?_⟩)))) | ((show VRet _ _ _ _); (refine VRet.mk fun w' m => ⟨congrArg (Value.int .i64) ?_, m.keeps.below⟩; rw [if_pos hx]))
  · obtain rfl : k = 2 := by omega
    (repeat' ((conv => whnf); first | refine go ?_ | (refine VSome.mk ?_; intro gQ hA'; first | subst hA' | cases hA' | (dsimp only at hA'; subst hA')) | refine And.intro ?_ ?_ | intro _))
    (conv => whnf); refine VRet.mk fun w' m => ?_
    refine ⟨congrArg (Value.int .i64) ?_, m.keeps.below⟩
    rw [if_pos (h0 (by omega)), h1 (by omega)]
set_option maxHeartbeats 1600000 in
theorem cmpArr_v (a b : Aw) (w : World) : Calls Tryz.prog 243 #[.agg a.cells.toArray, .agg b.cells.toArray] w (Post (.int .i64 (cmA a b)) w) := by
  refine post_of_vc ?_
  refine calls_of_vc tb_ok (args := [.agg a.cells.toArray, .agg b.cells.toArray]) Tryz.func243 rfl ?_
  (repeat' ((conv => whnf); first | refine go ?_ | (refine VSome.mk ?_; intro gQ hA'; first | subst hA' | cases hA' | (dsimp only at hA'; subst hA')) | refine And.intro ?_ ?_ | intro _ | (first | ((show VCall _ _ _ 257 [.int .i64 a.minute, .int .i64 b.minute] _); refine VCall.grow _ (fun w1 _ => compare_v _ _ w1) ?_) | ((show VCall _ _ _ 257 [.int .i64 a.id, .int .i64 b.id] _); refine VCall.grow _ (fun w1 _ => compare_v _ _ w1) ?_) | ((show VDraw _ _ _ _ _ _); refine VDraw.mk (.take 0 (.take 1 (.take 2 (.take 3 (.take 5 (.take 6 (.take 7 (.take 8 (.br 4 (.br 9 (.br 10 (.br 11 (.take 12 .done) .done) .done) .done) .done))))))))) [0, 1] (by kernel_rfl) (by kernel_rfl) ?_) | ((show VCall _ _ _ 256 _ _); refine VCall.grow _ (fun w1 m1 => or_v _ _ (cm a.minute b.minute) (cm a.id b.id) w1 (by exact Sees.blk 2 rfl w1 m1)) ?_))))
  all_goals ((conv => whnf); refine VRet.mk fun w' m => ?_)
  all_goals exact ⟨rfl, m.keeps.below⟩
theorem has_v (B : Option Addr) (c : Nat) (p : List Nat) (x : Nat) (w : World) (hl : p.length ≤ 1048576) (hB : Seen w B (NL p)) : Calls Tryz.prog 246 #[.slice B p.length c, .int .i64 x] w (Post (.bool (tr (x ∈ p))) w) := by
  refine post_of_vc ?_
  refine calls_of_vc tb_ok (args := [.slice B p.length c, .int .i64 x]) Tryz.func246 rfl ?_
  (repeat' ((conv => whnf); first | refine go ?_ | (refine VSome.mk ?_; intro gQ hA'; first | subst hA' | cases hA' | (dsimp only at hA'; subst hA')) | refine And.intro ?_ ?_ | intro _))
  (conv => whnf)
  refine VLoop.mk (ι := Nat) [4, 5, 6, 7, 8, 9, 10, 11, 12, 13, 14, 15, 16, 17] (fun k => [(5, .int .i64 k)]) (fun _ => []) (fun k => k ≤ p.length ∧ ∀ i, i < k → ¬ nth p i = x) (fun k => p.length - k) 0 ⟨Nat.zero_le _, fun i h => absurd h (by omega)⟩ ?_ (OwnLe.mk [] (by simp) rfl) (fun k u hk => ?_)
  · ((conv => whnf); repeat (first | exact trivial | refine ⟨rfl, ?_⟩ | refine ⟨congrArg (Value.int .i64) (by first | omega | assumption | exact Eq.symm (by assumption)), ?_⟩))
  obtain ⟨hk, hno⟩ := hk
  by_cases hlt : k < p.length
  · obtain ⟨b, off, rfl, hb, hc⟩ := NL_look hB hlt
    (repeat' ((conv => whnf); first | refine go ?_ | (refine VSome.mk ?_; intro gQ hA'; first | subst hA' | cases hA' | (dsimp only at hA'; subst hA')) | refine And.intro ?_ ?_ | intro _))
    (all_goals (conv => whnf))
    all_goals first | ((show VNext _ _ _ _ _ _ _ _ _); (refine VNext.mk (k + 1) ⟨hlt, upto_succ hno (by omega)⟩ (by omega) ?_ (OwnLe.mk [] (by simp) rfl); ((conv => whnf); repeat (first | exact trivial | refine ⟨rfl, ?_⟩ | refine ⟨congrArg (Value.int .i64) (by first | omega | assumption | exact Eq.symm (by assumption)), ?_⟩)))) | ((show VRet _ _ _ _); (refine VRet.mk fun w' m => ⟨congrArg Value.bool ?_, m.keeps.below⟩; rw [tr_yes (mem_nth.2 ⟨k, hlt, by omega⟩)]))
  · obtain rfl : k = p.length := by omega
    (repeat' ((conv => whnf); first | refine go ?_ | (refine VSome.mk ?_; intro gQ hA'; first | subst hA' | cases hA' | (dsimp only at hA'; subst hA')) | refine And.intro ?_ ?_ | intro _))
    (conv => whnf); refine VRet.mk fun w' m => ?_
    refine ⟨congrArg Value.bool ?_, m.keeps.below⟩
    rw [tr_no (fun h => by obtain ⟨i, hi, e⟩ := mem_nth.1 h; exact hno i hi e)]
theorem indexN_v (B : Option Addr) (c : Nat) (p : List Nat) (x : Nat) (w : World) (hl : p.length ≤ 1048576) (hB : Seen w B (NL p)) : Calls Tryz.prog 242 #[.slice B p.length c, .int .i64 x] w fun e w' => ∃ r : Int, (x ∈ p ∧ 0 ≤ r ∨ x ∉ p ∧ r = -1) ∧ Post (.int .i64 r) w e w' := by
  refine some_of_vc ?_
  refine calls_of_vc tb_ok (args := [.slice B p.length c, .int .i64 x]) Tryz.func242 rfl ?_
  (repeat' ((conv => whnf); first | refine go ?_ | (refine VSome.mk ?_; intro gQ hA'; first | subst hA' | cases hA' | (dsimp only at hA'; subst hA')) | refine And.intro ?_ ?_ | intro _))
  (conv => whnf)
  refine VLoop.mk (ι := Nat) [4, 5, 8, 9, 10, 11, 12, 13, 14, 15, 16, 17, 18] (fun k => [(8, .int .i64 k)]) (fun _ => []) (fun k => k ≤ p.length ∧ ∀ i, i < k → ¬ nth p i = x) (fun k => p.length - k) 0 ⟨Nat.zero_le _, fun i h => absurd h (by omega)⟩ ?_ (OwnLe.mk [] (by simp) rfl) (fun k u hk => ?_)
  · ((conv => whnf); repeat (first | exact trivial | refine ⟨rfl, ?_⟩ | refine ⟨congrArg (Value.int .i64) (by first | omega | assumption | exact Eq.symm (by assumption)), ?_⟩))
  obtain ⟨hk, hno⟩ := hk
  by_cases hlt : k < p.length
  · obtain ⟨b, off, rfl, hb, hc⟩ := NL_look hB hlt
    (repeat' ((conv => whnf); first | refine go ?_ | (refine VSome.mk ?_; intro gQ hA'; first | subst hA' | cases hA' | (dsimp only at hA'; subst hA')) | refine And.intro ?_ ?_ | intro _))
    (all_goals (conv => whnf))
    all_goals first | ((show VNext _ _ _ _ _ _ _ _ _); (refine VNext.mk (k + 1) ⟨hlt, upto_succ hno (by omega)⟩ (by omega) ?_ (OwnLe.mk [] (by simp) rfl); ((conv => whnf); repeat (first | exact trivial | refine ⟨rfl, ?_⟩ | refine ⟨congrArg (Value.int .i64) (by first | omega | assumption | exact Eq.symm (by assumption)), ?_⟩)))) | ((show VRet _ _ _ _); (refine VRet.mk fun w' m => ⟨_, .inl ⟨mem_nth.2 ⟨k, hlt, by omega⟩, by omega⟩, rfl, m.keeps.below⟩))
  · obtain rfl : k = p.length := by omega
    (repeat' ((conv => whnf); first | refine go ?_ | (refine VSome.mk ?_; intro gQ hA'; first | subst hA' | cases hA' | (dsimp only at hA'; subst hA')) | refine And.intro ?_ ?_ | intro _))
    (conv => whnf); refine VRet.mk fun w' m => ?_
    exact ⟨_, .inr ⟨fun h => by obtain ⟨i, hi, e⟩ := mem_nth.1 h; exact hno i hi e, rfl⟩, rfl, m.keeps.below⟩
theorem containsN_v (B : Option Addr) (c : Nat) (p : List Nat) (x : Nat) (w : World) (hl : p.length ≤ 1048576) (hB : Seen w B (NL p)) : Calls Tryz.prog 221 #[.slice B p.length c, .int .i64 x] w (Post (.bool (tr (x ∈ p))) w) := by
  refine post_of_vc ?_
  refine calls_of_vc tb_ok (args := [.slice B p.length c, .int .i64 x]) Tryz.func221 rfl ?_
  (repeat' ((conv => whnf); first | refine go ?_ | (refine VSome.mk ?_; intro gQ hA'; first | subst hA' | cases hA' | (dsimp only at hA'; subst hA')) | refine And.intro ?_ ?_ | intro _ | (first | ((show VCall _ _ _ 242 _ _); refine VCall.some _ _ (fun w1 m1 => indexN_v B c p x w1 hl seenA) (fun r hr => ?_)))))
  all_goals ((conv => whnf); refine VRet.mk fun w' m => ?_)
  all_goals refine ⟨congrArg Value.bool ?_, m.keeps.below⟩
  all_goals rcases hr with ⟨h1, h2⟩ | ⟨h1, h2⟩
  all_goals first | (exfalso; omega) | (rw [tr_yes h1]; done) | (rw [tr_no h1]; done)
end Go.Proofs.YtadjhkehfklmnaaGreatDoor
namespace Go.Proofs.YtadjhkehfklmnaaGreatDoor
set_option linter.unusedSimpArgs false
set_option linter.unusedVariables false
open Go.RowKit
set_option maxRecDepth 10000
def PT2 (w : World) : Prop := PTab w ∧ (∃ x : Int, w.cell? ⟨0, 0, none⟩ = some (.int .i64 x)) ∧ ∃ te pe, w.cell? ⟨6, 0, none⟩ = some (.iface te pe)
theorem PT2.below {w w' : World} (h : PT2 w) (hb : Below w.heap.size w w') : PT2 w' := by
  obtain ⟨h1, ⟨x, h2⟩, te, pe, h3⟩ := h
  exact ⟨h1.below hb, ⟨x, (hb.cell (cell_lt h2)).trans h2⟩, te, pe, (hb.cell (cell_lt h3)).trans h3⟩
theorem PT2.on {w : World} {own : List Own} {w1 : World} (h : PT2 w) (m : Mem (Base.of w) own w1) : PT2 w1 := h.below m.keeps.below
theorem atoiYes_v (l : List UInt8) (n : Int) (w : World) (hl : l.length ≤ 18) (h : Lib.atoi l = some n) : Calls Tryz.prog 175 #[.string (tx l)] w (Post (.tuple #[.int .i64 n, .nilIface]) w) := by
  have e1 : (tx l).data.toList = l := by simp [tx]
  refine (Tryz.strconv_Atoi (tx l) n (by rw [tx_size]; exact hl) (by rw [e1]; exact h) w).mono fun e w' ⟨he, t, hw⟩ => ⟨he, ?_⟩
  rw [hw]
  exact Lib.bytesWorld_below _ _ _
theorem atoiNo_v (l : List UInt8) (w : World) (hl : l.length ≤ 18) (h : Lib.atoi l = none) (ht : PT2 w) : Calls Tryz.prog 175 #[.string (tx l)] w fun e w' => ∃ g : Nat, True ∧ Post (.tuple #[.int .i64 0, .iface 245 (.pointer (some ⟨g, 0, none⟩))]) w e w' := by
  have e1 : (tx l).data.toList = l := by simp [tx]
  obtain ⟨_, _, te, pe, h3⟩ := ht
  refine (Tryz.strconv_Atoi_err (tx l) (by rw [tx_size]; exact hl) (by rw [e1]; exact h) _ w h3 (.inr ⟨te, pe, rfl⟩)).mono fun e w' ⟨g, he, _, _, hb⟩ => ⟨g, trivial, he, hb⟩
set_option maxHeartbeats 1600000 in
theorem iParse_v (l : List UInt8) (w : World) (hl : l.length ≤ 1048576) (ht : PT2 w) : Calls Tryz.prog 139 #[.string (tx l)] w (Post (.tuple #[.int .i64 (rdV l).1, .bool (rdV l).2]) w) := by
  have hsz := tx_size l
  refine post_of_vc ?_
  refine calls_of_vc tb_ok (args := [.string (tx l)]) Tryz.func139 rfl ?_
  by_cases h9 : 7 < l.length
  · have hpd : rdV l = (0, false) := rdV_no fun n h1 h2 e => by have := (itoa_len h1 h2).2; rw [← e] at this; omega
    rw [hpd]
    (repeat' ((conv => whnf); first | refine go ?_ | (refine VSome.mk ?_; intro gQ hA'; first | subst hA' | cases hA' | (dsimp only at hA'; subst hA')) | refine And.intro ?_ ?_ | intro _))
    all_goals ((conv => whnf); refine VRet.mk fun w' m => ?_)
    all_goals exact ⟨rfl, m.keeps.below⟩
  cases ha : Lib.atoi l with
  | none =>
    have hpd : rdV l = (0, false) := by unfold rdV; rw [ha]
    rw [hpd]
    (repeat' ((conv => whnf); first | refine go ?_ | (refine VSome.mk ?_; intro gQ hA'; first | subst hA' | cases hA' | (dsimp only at hA'; subst hA')) | refine And.intro ?_ ?_ | intro _ | (first | ((show VCall _ _ _ 175 _ _); refine VCall.some _ _ (fun w1 m1 => atoiNo_v l w1 (by omega) ha (ht.on m1)) (fun g _ => ?_)))))
    all_goals ((conv => whnf); refine VRet.mk fun w' m => ?_)
    all_goals exact ⟨rfl, m.keeps.below⟩
  | some n =>
    have hb := Lib.atoi_bound ha (by omega)
    by_cases hr : -999999 ≤ n ∧ n ≤ 999999
    · by_cases hm : Lib.itoa n = l
      · have hpd : rdV l = (n, true) := by unfold rdV; rw [ha]; exact if_pos ⟨hr, hm⟩
        have hm' : tx (Lib.itoa n) = tx l := by rw [hm]
        rw [hpd]
        (repeat' ((conv => whnf); first | refine go ?_ | (refine VSome.mk ?_; intro gQ hA'; first | subst hA' | cases hA' | (dsimp only at hA'; subst hA')) | refine And.intro ?_ ?_ | intro _ | (first | ((show VCall _ _ _ 175 _ _); refine VCall.grow _ (fun w1 m1 => atoiYes_v l _ w1 (by omega) ha) ?_) | ((show VCall _ _ _ 80 _ _); refine VCall.test _ (fun w1 _ => inside_v _ _ _ w1) ?_) | ((show VCall _ _ _ 59 _ _); refine VCall.grow _ (fun w1 m1 => itoaZ_v n w1 (by omega) (by omega) (ht.on m1).1) ?_))))
        all_goals ((conv => whnf); refine VRet.mk fun w' m => ?_)
        all_goals exact ⟨rfl, m.keeps.below⟩
      · have hpd : rdV l = (0, false) := by unfold rdV; rw [ha]; exact if_neg fun q => hm q.2
        have hm' : ¬ tx (Lib.itoa n) = tx l := fun q => hm (tx_inj q)
        rw [hpd]
        (repeat' ((conv => whnf); first | refine go ?_ | (refine VSome.mk ?_; intro gQ hA'; first | subst hA' | cases hA' | (dsimp only at hA'; subst hA')) | refine And.intro ?_ ?_ | intro _ | (first | ((show VCall _ _ _ 175 _ _); refine VCall.grow _ (fun w1 m1 => atoiYes_v l _ w1 (by omega) ha) ?_) | ((show VCall _ _ _ 80 _ _); refine VCall.test _ (fun w1 _ => inside_v _ _ _ w1) ?_) | ((show VCall _ _ _ 59 _ _); refine VCall.grow _ (fun w1 m1 => itoaZ_v n w1 (by omega) (by omega) (ht.on m1).1) ?_))))
        all_goals ((conv => whnf); refine VRet.mk fun w' m => ?_)
        all_goals exact ⟨rfl, m.keeps.below⟩
    · have hpd : rdV l = (0, false) := by unfold rdV; rw [ha]; exact if_neg fun q => hr q.1
      rw [hpd]
      (repeat' ((conv => whnf); first | refine go ?_ | (refine VSome.mk ?_; intro gQ hA'; first | subst hA' | cases hA' | (dsimp only at hA'; subst hA')) | refine And.intro ?_ ?_ | intro _ | (first | ((show VCall _ _ _ 175 _ _); refine VCall.grow _ (fun w1 m1 => atoiYes_v l _ w1 (by omega) ha) ?_) | ((show VCall _ _ _ 80 _ _); refine VCall.test _ (fun w1 _ => inside_v _ _ _ w1) ?_))))
      all_goals ((conv => whnf); refine VRet.mk fun w' m => ?_)
      all_goals exact ⟨rfl, m.keeps.below⟩
theorem TS_tx (L : List (List UInt8)) : (L.map tx).map Value.string = TS L := by unfold TS; rw [List.map_map]; rfl
theorem split_v (l : List UInt8) (w : World) (hl : l.length ≤ 1048576) (ht : PT2 w) : Calls Tryz.prog 48 #[.string (tx l), .string (tx [32])] w fun e w' => ∃ v, e = .returned v ∧ RetV (ι := Nat) (fun _ => True) (fun g => .slice (some ⟨g, 0, none⟩) (sps 32 l).length (sps 32 l).length) (fun g => [.row (.slice (some ⟨g, 0, none⟩) (sps 32 l).length (sps 32 l).length) 9 1 (sps 32 l).length (TS (sps 32 l))]) (Base.of w) v w' := by
  obtain ⟨_, ⟨x, h2⟩, _⟩ := ht
  have hs := splitB_sps 32 l
  have hlen : (sps 32 l).length = Lib.countB (tx l) (tx [32]) + 1 := by
    have := Lib.splitB_all (tx [32]) (by rw [tx_size]; decide) 0 (Lib.countB (tx l) (tx [32])) (tx l) rfl
    rw [hs, List.length_map] at this
    exact this
  refine (Tryz.strings_Split (tx l) (tx [32]) x w (by rw [tx_size]; omega) h2 (by rw [tx_size]; decide)).mono fun e w' ⟨he, hw⟩ => ⟨_, he, w.heap.size, trivial, by rw [hlen], ?_⟩
  rw [hs, TS_tx] at hw
  rw [hw]
  have m := (Mem.init (Base.of w)).alloc 9 (TS (sps 32 l))
  have hx := sps_len 32 l
  exact Mem.turnRow (k := 0) rfl (TS_len1 _) (by unfold maxLen; omega) m
theorem pat_none {l : List UInt8} (h0 : ¬ l = wLevel) (h1 : ¬ l = wWater) (h2 : ¬ l = wStep) (h3 : ¬ l = wLeave) (h4 : ¬ l = wBest) (h5 : ¬ l = wDelay) (h6 : ¬ l = wBound) (h7 : ¬ l = wGo) (h8 : ¬ l = wPlan) (h9 : ¬ l = wHead) (h10 : ¬ l = wFlow) (h11 : ¬ l = wArrive) : pat l = ([], false) := by
  unfold pat
  simp only [h0, h1, h2, h3, h4, h5, h6, h7, h8, h9, h10, h11, or_self, if_false]
set_option maxHeartbeats 4000000 in
theorem pattern_v (l : List UInt8) (w : World) : Calls Tryz.prog 112 #[.string (tx l)] w (Post (.tuple #[.string (tx (pat l).1), .bool (pat l).2]) w) := by
  refine post_of_vc ?_
  refine calls_of_vc tb_ok (args := [.string (tx l)]) Tryz.func112 rfl ?_
  (repeat' ((conv => whnf); first | refine go ?_ | (refine VSome.mk ?_; intro gQ hA'; first | subst hA' | cases hA' | (dsimp only at hA'; subst hA')) | refine And.intro ?_ ?_ | intro _))
  all_goals ((conv => whnf); refine VRet.mk fun w' m => ?_)
  all_goals (refine ⟨?_, m.keeps.below⟩)
  all_goals first | (have e : l = wLevel := tx_inj (by assumption); rw [e]; rfl; done) | (have e : l = wWater := tx_inj (by assumption); rw [e]; rfl; done) | (have e : l = wStep := tx_inj (by assumption); rw [e]; rfl; done) | (have e : l = wLeave := tx_inj (by assumption); rw [e]; rfl; done) | (have e : l = wBest := tx_inj (by assumption); rw [e]; rfl; done) | (have e : l = wDelay := tx_inj (by assumption); rw [e]; rfl; done) | (have e : l = wBound := tx_inj (by assumption); rw [e]; rfl; done) | (have e : l = wGo := tx_inj (by assumption); rw [e]; rfl; done) | (have e : l = wPlan := tx_inj (by assumption); rw [e]; rfl; done) | (have e : l = wHead := tx_inj (by assumption); rw [e]; rfl; done) | (have e : l = wFlow := tx_inj (by assumption); rw [e]; rfl; done) | (have e : l = wArrive := tx_inj (by assumption); rw [e]; rfl; done) | (rw [pat_none (fun e => absurd (congrArg tx e) (by assumption)) (fun e => absurd (congrArg tx e) (by assumption)) (fun e => absurd (congrArg tx e) (by assumption)) (fun e => absurd (congrArg tx e) (by assumption)) (fun e => absurd (congrArg tx e) (by assumption)) (fun e => absurd (congrArg tx e) (by assumption)) (fun e => absurd (congrArg tx e) (by assumption)) (fun e => absurd (congrArg tx e) (by assumption)) (fun e => absurd (congrArg tx e) (by assumption)) (fun e => absurd (congrArg tx e) (by assumption)) (fun e => absurd (congrArg tx e) (by assumption)) (fun e => absurd (congrArg tx e) (by assumption))]; rfl; done)
end Go.Proofs.YtadjhkehfklmnaaGreatDoor
namespace Go.Proofs.YtadjhkehfklmnaaGreatDoor
set_option linter.unusedSimpArgs false
set_option linter.unusedVariables false
open Go.RowKit
set_option maxRecDepth 10000
theorem TS_look {w : World} {A : Option Addr} {l : List (List UInt8)} {i : Nat} (h : Seen w A (TS l)) (hi : i < l.length) : ∃ b off, A = some ⟨b, off, none⟩ ∧ b < w.heap.size ∧ w.cell? ⟨b, off + mulS i 1, none⟩ = some (.string (tx (l.getD i []))) := by
  have e : (TS l)[i]? = some (.string (tx (l.getD i []))) := by
    unfold TS
    rw [List.getElem?_map, List.getD_eq_getElem?_getD, List.getElem?_eq_getElem hi]
    rfl
  obtain ⟨b, off, e2, hb, hc⟩ := h i _ e
  exact ⟨b, off, e2, hb, by rw [mulS_eq, Nat.mul_one]; exact hc⟩
theorem idx2_v (g c : Nat) (a b x : List UInt8) (w : World) (hA : Seen w (some ⟨g, 0, none⟩) [.string (tx a), .string (tx b)]) : Calls Tryz.prog 140 #[.slice (some ⟨g, 0, none⟩) 2 c, .string (tx x)] w (Post (.int .i64 (Lib.idxOfS [tx a, tx b] (tx x))) w) := by
  refine (Tryz.slices_Index_string g 0 2 c [tx a, tx b] (tx x) w (Nat.le_refl 2) (by decide) fun j hj => ?_).mono fun e w' ⟨he, hw⟩ => ⟨he, by rw [hw]; exact Below.refl _ _⟩
  obtain ⟨b', off, e2, hb, hc⟩ := hA j (.string ([tx a, tx b].getD j ByteArray.empty)) (by
    have hj : j < 2 := hj
    rcases j with _ | _ | j
    · rfl
    · rfl
    · omega)
  cases e2
  exact hc
theorem idxOfS_fst (a b : ByteArray) : Lib.idxOfS [a, b] a = 0 := by simp [Lib.idxOfS, Lib.idxFromS]
theorem idxOfS_snd {a b : ByteArray} (h : ¬ b = a) : Lib.idxOfS [a, b] b = 1 := by simp [Lib.idxOfS, Lib.idxFromS, Ne.symm h]
theorem rw1_num {p : UInt8} {w : List UInt8} (h : p = 110) : rw1 p w = if (rdV w).2 = true then some (rdV w).1 else none := by unfold rw1; rw [if_pos h]
theorem rw1_side {p : UInt8} {w : List UInt8} (h : p = 115) : rw1 p w = if w = wLow then some 0 else if w = wHigh then some 1 else none := by subst h; rfl
theorem rw1_way {p : UInt8} {w : List UInt8} (h : ¬ p = 110) (h2 : ¬ p = 115) : rw1 p w = if w = wDown then some 0 else if w = wUp then some 1 else none := by unfold rw1; rw [if_neg h, if_neg h2]
def rdO (P : Option Addr) (cp : Nat) : Option (List Int) → Value
  | some L => .tuple #[.slice P L.length cp, .bool true]
  | none => .tuple #[.slice none 0 0, .bool false]
def rdN (P : Option Addr) (cp : Nat) : Option (List Int) → List Own
  | some L => [.row (.slice P L.length cp) 3 1 L.length (IL L)]
  | none => []
set_option maxHeartbeats 16000000 in
theorem readWords_v (B : Option Addr) (c : Nat) (ps : List UInt8) (ws : List (List UInt8)) (w : World) (hp : ps.length ≤ 1048576) (hn : ws.length ≤ 1048576) (hl : ∀ x ∈ ws, x.length ≤ 1048576) (hB : Seen w B (TS ws)) (ht : PT2 w) :
    Calls Tryz.prog 113 #[.string (tx ps), .slice B ws.length c] w fun e w' => ∃ v, e = .returned v ∧ RetV (ι := Option Addr × Nat) (fun _ => True) (fun (P, cp) => rdO P cp (rwZ ps ws)) (fun (P, cp) => rdN P cp (rwZ ps ws)) (Base.of w) v w' := by
  have hsz := tx_size ps
  refine calls_of_vc tb_ok (args := [.string (tx ps), .slice B ws.length c]) Tryz.func113 rfl ?_
  by_cases he : ws.length = ps.length
  · (repeat' ((conv => whnf); first | refine go ?_ | (refine VSome.mk ?_; intro gQ hA'; first | subst hA' | cases hA' | (dsimp only at hA'; subst hA')) | refine And.intro ?_ ?_ | intro _))
    (conv => whnf)
    refine VLoop.mk (ι := Nat × List Int × Option Addr × Nat) [4, 5, 6, 7, 8, 9, 10, 19, 20, 21, 22, 23, 24, 25, 26, 27, 28, 29, 30, 31, 32, 33, 34, 35, 36, 37, 38, 39, 40, 41, 42, 43, 44, 45, 46, 47, 48, 49, 50, 51, 52, 53, 54, 55, 56, 57, 58, 59, 60] (fun (k, L, P, cp) => [(19, .int .i64 k), (6, .slice P k cp)]) (fun (k, L, P, cp) => [.row (.slice P k cp) 3 1 k (IL L)]) (fun i => i.1 ≤ ws.length ∧ i.1 = i.2.1.length ∧ rwZ ps ws = (rwZ (ps.drop i.1) (ws.drop i.1)).map (i.2.1 ++ ·)) (fun i => ws.length - i.1) (0, [], _, _) ⟨Nat.zero_le _, rfl, by simp⟩ ?_ (OwnLe.mk [0] (by simp) rfl) (fun i u hi => ?_)
    · ((conv => whnf); repeat (first | exact trivial | refine ⟨rfl, ?_⟩ | refine ⟨congrArg (Value.int .i64) (by first | omega | assumption | exact Eq.symm (by assumption)), ?_⟩))
    obtain ⟨k, L, P, cp⟩ := i
    obtain ⟨hk, hkl, hZ⟩ := hi
    replace hk : k ≤ ws.length := hk
    replace hkl : k = L.length := hkl
    replace hZ : rwZ ps ws = (rwZ (ps.drop k) (ws.drop k)).map (L ++ ·) := hZ
    (conv => whnf)
    try dsimp only
    by_cases hlt : k < ws.length
    · have hlp : k < ps.length := by omega
      have hk2 : k < (tx ps).size := by omega
      have hg := getD_tx ps k hlp
      obtain ⟨b1, off1, rfl, hb1, hc1⟩ := TS_look hB hlt
      have hxl := hl (ws.getD k []) (by rw [List.getD_eq_getElem?_getD, List.getElem?_eq_getElem hlt]; exact List.getElem_mem hlt)
      rw [show ps.drop k = ps.getD k 0 :: ps.drop (k + 1) by rw [List.drop_eq_getElem_cons hlp, List.getD_eq_getElem?_getD, List.getElem?_eq_getElem hlp]; rfl, show ws.drop k = ws.getD k [] :: ws.drop (k + 1) by rw [List.drop_eq_getElem_cons hlt, List.getD_eq_getElem?_getD, List.getElem?_eq_getElem hlt]; rfl] at hZ
      have hbd := (tx ps)[k].toNat_lt
      have hin : ∀ x : Int, rw1 (ps.getD k 0) (ws.getD k []) = some x → k + 1 ≤ ws.length ∧ k + 1 = (L ++ [x]).length ∧ rwZ ps ws = (rwZ (ps.drop (k + 1)) (ws.drop (k + 1))).map ((L ++ [x]) ++ ·) := fun x hx => by
        exact ⟨hlt, by rw [List.length_append, hkl]; rfl, hZ.trans (rwZ_some hx L)⟩
      have hno : rw1 (ps.getD k 0) (ws.getD k []) = none → rwZ ps ws = none := fun hx => by
        rw [hZ, rwZ_none hx]; rfl
      clear hZ
      generalize ws.getD k [] = word at *
      generalize hpd : ps.getD k 0 = pd at *
      by_cases h1 : pd = 110
      · have hr := rw1_num (w := word) h1
        have hq : ((tx ps)[k].toNat : Int) = 110 := by rw [hg, h1]; rfl
        have hI := fun w ht => iParse_v word w hxl ht
        rcases hrd : rdV word with ⟨z, b⟩
        rw [hrd] at hI hr
        dsimp only at hI hr
        cases b
        · have hz := hno (hr.trans (if_neg (by simp)))
          rw [hz]
          (repeat' ((conv => whnf); first | refine go ?_ | (refine VSome.mk ?_; intro gQ hA'; first | subst hA' | cases hA' | (dsimp only at hA'; subst hA')) | refine And.intro ?_ ?_ | intro _ | (first | ((show VCall _ _ _ 139 _ _); refine VCall.grow _ (fun w1 m1 => hI w1 (ht.on m1)) ?_))))
          all_goals (conv => whnf)
          all_goals exact VRet.sel (none, 0) trivial rfl [] (by simp) rfl
        · have hy := hin z (hr.trans (if_pos rfl))
          (repeat' ((conv => whnf); first | refine go ?_ | (refine VSome.mk ?_; intro gQ hA'; first | subst hA' | cases hA' | (dsimp only at hA'; subst hA')) | refine And.intro ?_ ?_ | intro _ | (first | ((show VCall _ _ _ 139 _ _); refine VCall.grow _ (fun w1 m1 => hI w1 (ht.on m1)) ?_) | ((show VApp _ _ _ _ _ _ _); (apply VApp.pushAny; (focus ((repeat (first | exact At.here | apply At.there)); done)); (focus ((repeat (first | exact At.here | apply At.there)); done)); refine VAppPush.mk rfl rfl (by omega) (fun A' c' => ?_))))))
          all_goals (conv => whnf)
          all_goals (refine VNext.mk (k + 1, L ++ [z], _, _) hy (by show ws.length - (k + 1) < ws.length - k; omega) ?_ (OwnLe.mk [0] (by simp) (by dsimp only; rw [IL_app]; rfl)); ((conv => whnf); repeat (first | exact trivial | refine ⟨rfl, ?_⟩ | refine ⟨congrArg (Value.int .i64) (by first | omega | assumption | exact Eq.symm (by assumption)), ?_⟩)))
      · have hq1 : ¬ ((tx ps)[k].toNat : Int) = 110 := by rw [hg]; intro q; exact h1 (UInt8.toNat_inj.1 (by rw [show (110 : UInt8).toNat = 110 from rfl]; omega))
        by_cases h2 : pd = 115
        · have hq2 : ((tx ps)[k].toNat : Int) = 115 := by rw [hg, h2]; rfl
          have hr := rw1_side (w := word) h2
          by_cases ha : word = wLow
          · have hy := hin 0 (by rw [hr, if_pos ha])
            have ha2 : tx word = tx wLow := by rw [ha]
            have hx := fun g w hA => idx2_v g 2 wLow wHigh word w hA
            rw [show Lib.idxOfS [tx wLow, tx wHigh] (tx word) = 0 by rw [ha2]; exact idxOfS_fst _ _] at hx
            (repeat' ((conv => whnf); first | refine go ?_ | (refine VSome.mk ?_; intro gQ hA'; first | subst hA' | cases hA' | (dsimp only at hA'; subst hA')) | refine And.intro ?_ ?_ | intro _ | (first | ((show VCall _ _ _ 140 _ _); refine VCall.grow _ (fun w1 m1 => hx _ w1 (Sees.blk 1 rfl w1 m1)) ?_) | ((show VApp _ _ _ _ _ _ _); (apply VApp.pushAny; (focus ((repeat (first | exact At.here | apply At.there)); done)); (focus ((repeat (first | exact At.here | apply At.there)); done)); refine VAppPush.mk rfl rfl (by omega) (fun A' c' => ?_))))))
            all_goals (conv => whnf)
            all_goals (refine VNext.mk (k + 1, L ++ [0], _, _) hy (by show ws.length - (k + 1) < ws.length - k; omega) ?_ (OwnLe.mk [0] (by simp) (by dsimp only; rw [IL_app]; rfl)); ((conv => whnf); repeat (first | exact trivial | refine ⟨rfl, ?_⟩ | refine ⟨congrArg (Value.int .i64) (by first | omega | assumption | exact Eq.symm (by assumption)), ?_⟩)))
          · have ha2 : ¬ tx word = tx wLow := fun q => ha (tx_inj q)
            by_cases hb : word = wHigh
            · have hy := hin 1 (by rw [hr, if_neg ha, if_pos hb])
              have hb2 : tx word = tx wHigh := by rw [hb]
              have hx := fun g w hA => idx2_v g 2 wLow wHigh word w hA
              rw [show Lib.idxOfS [tx wLow, tx wHigh] (tx word) = 1 by rw [hb2]; exact idxOfS_snd (by decide)] at hx
              (repeat' ((conv => whnf); first | refine go ?_ | (refine VSome.mk ?_; intro gQ hA'; first | subst hA' | cases hA' | (dsimp only at hA'; subst hA')) | refine And.intro ?_ ?_ | intro _ | (first | ((show VCall _ _ _ 140 _ _); refine VCall.grow _ (fun w1 m1 => hx _ w1 (Sees.blk 1 rfl w1 m1)) ?_) | ((show VApp _ _ _ _ _ _ _); (apply VApp.pushAny; (focus ((repeat (first | exact At.here | apply At.there)); done)); (focus ((repeat (first | exact At.here | apply At.there)); done)); refine VAppPush.mk rfl rfl (by omega) (fun A' c' => ?_))))))
              all_goals (conv => whnf)
              all_goals (refine VNext.mk (k + 1, L ++ [1], _, _) hy (by show ws.length - (k + 1) < ws.length - k; omega) ?_ (OwnLe.mk [0] (by simp) (by dsimp only; rw [IL_app]; rfl)); ((conv => whnf); repeat (first | exact trivial | refine ⟨rfl, ?_⟩ | refine ⟨congrArg (Value.int .i64) (by first | omega | assumption | exact Eq.symm (by assumption)), ?_⟩)))
            · have hz := hno (by rw [hr, if_neg ha, if_neg hb])
              have hb2 : ¬ tx word = tx wHigh := fun q => hb (tx_inj q)
              have hx := fun g w hA => idx2_v g 2 wLow wHigh word w hA
              rw [hz]
              (repeat' ((conv => whnf); first | refine go ?_ | (refine VSome.mk ?_; intro gQ hA'; first | subst hA' | cases hA' | (dsimp only at hA'; subst hA')) | refine And.intro ?_ ?_ | intro _ | (first | ((show VCall _ _ _ 140 _ _); refine VCall.grow _ (fun w1 m1 => hx _ w1 (Sees.blk 1 rfl w1 m1)) ?_))))
              all_goals (conv => whnf)
              all_goals exact VRet.sel (none, 0) trivial rfl [] (by simp) rfl
        · have hq2 : ¬ ((tx ps)[k].toNat : Int) = 115 := by rw [hg]; intro q; exact h2 (UInt8.toNat_inj.1 (by rw [show (115 : UInt8).toNat = 115 from rfl]; omega))
          have hr := rw1_way (w := word) h1 h2
          by_cases ha : word = wDown
          · have hy := hin 0 (by rw [hr, if_pos ha])
            have ha2 : tx word = tx wDown := by rw [ha]
            have hx := fun g w hA => idx2_v g 2 wDown wUp word w hA
            rw [show Lib.idxOfS [tx wDown, tx wUp] (tx word) = 0 by rw [ha2]; exact idxOfS_fst _ _] at hx
            (repeat' ((conv => whnf); first | refine go ?_ | (refine VSome.mk ?_; intro gQ hA'; first | subst hA' | cases hA' | (dsimp only at hA'; subst hA')) | refine And.intro ?_ ?_ | intro _ | (first | ((show VCall _ _ _ 140 _ _); refine VCall.grow _ (fun w1 m1 => hx _ w1 (Sees.blk 1 rfl w1 m1)) ?_) | ((show VApp _ _ _ _ _ _ _); (apply VApp.pushAny; (focus ((repeat (first | exact At.here | apply At.there)); done)); (focus ((repeat (first | exact At.here | apply At.there)); done)); refine VAppPush.mk rfl rfl (by omega) (fun A' c' => ?_))))))
            all_goals (conv => whnf)
            all_goals (refine VNext.mk (k + 1, L ++ [0], _, _) hy (by show ws.length - (k + 1) < ws.length - k; omega) ?_ (OwnLe.mk [0] (by simp) (by dsimp only; rw [IL_app]; rfl)); ((conv => whnf); repeat (first | exact trivial | refine ⟨rfl, ?_⟩ | refine ⟨congrArg (Value.int .i64) (by first | omega | assumption | exact Eq.symm (by assumption)), ?_⟩)))
          · have ha2 : ¬ tx word = tx wDown := fun q => ha (tx_inj q)
            by_cases hb : word = wUp
            · have hy := hin 1 (by rw [hr, if_neg ha, if_pos hb])
              have hb2 : tx word = tx wUp := by rw [hb]
              have hx := fun g w hA => idx2_v g 2 wDown wUp word w hA
              rw [show Lib.idxOfS [tx wDown, tx wUp] (tx word) = 1 by rw [hb2]; exact idxOfS_snd (by decide)] at hx
              (repeat' ((conv => whnf); first | refine go ?_ | (refine VSome.mk ?_; intro gQ hA'; first | subst hA' | cases hA' | (dsimp only at hA'; subst hA')) | refine And.intro ?_ ?_ | intro _ | (first | ((show VCall _ _ _ 140 _ _); refine VCall.grow _ (fun w1 m1 => hx _ w1 (Sees.blk 1 rfl w1 m1)) ?_) | ((show VApp _ _ _ _ _ _ _); (apply VApp.pushAny; (focus ((repeat (first | exact At.here | apply At.there)); done)); (focus ((repeat (first | exact At.here | apply At.there)); done)); refine VAppPush.mk rfl rfl (by omega) (fun A' c' => ?_))))))
              all_goals (conv => whnf)
              all_goals (refine VNext.mk (k + 1, L ++ [1], _, _) hy (by show ws.length - (k + 1) < ws.length - k; omega) ?_ (OwnLe.mk [0] (by simp) (by dsimp only; rw [IL_app]; rfl)); ((conv => whnf); repeat (first | exact trivial | refine ⟨rfl, ?_⟩ | refine ⟨congrArg (Value.int .i64) (by first | omega | assumption | exact Eq.symm (by assumption)), ?_⟩)))
            · have hz := hno (by rw [hr, if_neg ha, if_neg hb])
              have hb2 : ¬ tx word = tx wUp := fun q => hb (tx_inj q)
              have hx := fun g w hA => idx2_v g 2 wDown wUp word w hA
              rw [hz]
              (repeat' ((conv => whnf); first | refine go ?_ | (refine VSome.mk ?_; intro gQ hA'; first | subst hA' | cases hA' | (dsimp only at hA'; subst hA')) | refine And.intro ?_ ?_ | intro _ | (first | ((show VCall _ _ _ 140 _ _); refine VCall.grow _ (fun w1 m1 => hx _ w1 (Sees.blk 1 rfl w1 m1)) ?_))))
              all_goals (conv => whnf)
              all_goals exact VRet.sel (none, 0) trivial rfl [] (by simp) rfl
    · obtain rfl : k = ws.length := by omega
      have hy : rwZ ps ws = some L := by
        rw [hZ, List.drop_eq_nil_of_le (by omega), List.drop_eq_nil_of_le (Nat.le_refl _)]
        show some (L ++ []) = _
        rw [List.append_nil]
      rw [hy, hkl]
      (repeat' ((conv => whnf); first | refine go ?_ | (refine VSome.mk ?_; intro gQ hA'; first | subst hA' | cases hA' | (dsimp only at hA'; subst hA')) | refine And.intro ?_ ?_ | intro _))
      (conv => whnf)
      exact VRet.sel (P, cp) trivial (by rw [rdO, ← hkl]) [0] (by simp) (by rw [rdN, ← hkl]; rfl)
  · have hz : rwZ ps ws = none := by
      cases e : rwZ ps ws with
      | none => rfl
      | some l => exact absurd (rwZ_len e).1 he
    rw [hz]
    (repeat' ((conv => whnf); first | refine go ?_ | (refine VSome.mk ?_; intro gQ hA'; first | subst hA' | cases hA' | (dsimp only at hA'; subst hA')) | refine And.intro ?_ ?_ | intro _))
    (conv => whnf)
    exact VRet.sel (none, 0) trivial rfl [] (by simp) rfl
end Go.Proofs.YtadjhkehfklmnaaGreatDoor
namespace Go.Proofs.YtadjhkehfklmnaaGreatDoor
set_option linter.unusedSimpArgs false
set_option linter.unusedVariables false
open Go.RowKit
set_option maxRecDepth 10000
theorem IL_lookM {w : World} {A : Option Addr} {l : List Int} {i : Nat} (h : Seen w A (IL l)) (hi : i < l.length) : ∃ b off, A = some ⟨b, off, none⟩ ∧ b < w.heap.size ∧ w.cell? ⟨b, off + mulS i 1, none⟩ = some (.int .i64 (l.getD i 0)) := by
  obtain ⟨b, off, e, hb, hc⟩ := IL_look h hi
  exact ⟨b, off, e, hb, by rw [mulS_eq, Nat.mul_one]; exact hc⟩
theorem join_tail_len (r : List Int) (h : ∀ x ∈ r, -999999 ≤ x ∧ x ≤ 999999) : (Lib.joinTail [32] (r.map Lib.itoa)).length ≤ 8 * r.length := by
  induction r with
  | nil => exact Nat.le_refl _
  | cons x r ih =>
    have h1 := (itoa_len (h x (by simp)).1 (h x (by simp)).2).2
    have h2 := ih fun y hy => h y (by simp [hy])
    have e : Lib.joinTail [32] ((x :: r).map Lib.itoa) = [32] ++ Lib.itoa x ++ Lib.joinTail [32] (r.map Lib.itoa) := by simp [Lib.joinTail]
    rw [e, List.length_append, List.length_append]
    show 1 + (Lib.itoa x).length + _ ≤ 8 * (r.length + 1)
    omega
theorem ltx_join {L : List Int} (h : 0 < L.length) : ltx L = Lib.join (L.map Lib.itoa) [32] := by
  cases L with
  | nil => simp at h
  | cons x r => rfl
theorem ltx_len {L : List Int} (h : ∀ x ∈ L, -999999 ≤ x ∧ x ≤ 999999) : (ltx L).length ≤ 8 * L.length + 4 := by
  cases L with
  | nil => decide
  | cons x r =>
    rw [ltx_cons, List.length_append, List.length_cons]
    have h1 := (itoa_len (h x (by simp)).1 (h x (by simp)).2).2
    have h2 := join_tail_len r fun y hy => h y (by simp [hy])
    omega
def ZS (L : List Int) : List Value := TS (L.map Lib.itoa)
theorem ZS_snoc (L : List Int) (x : Int) : ZS L ++ [.string (tx (Lib.itoa x))] = ZS (L ++ [x]) := by
  unfold ZS
  rw [List.map_append, TS_app]
  rfl
theorem join_v (A : Option Addr) (c : Nat) (L : List Int) (w : World) (h0 : 0 < L.length) (hl : L.length ≤ 1048576) (hv : ∀ x ∈ L, -999999 ≤ x ∧ x ≤ 999999) (hc : L.length ≤ c) (hA : Seen w A (ZS L)) : Calls Tryz.prog 179 #[.slice A L.length c, .string (tx [32])] w (Post (.string (tx (ltx L))) w) := by
  have hi : ∀ (j : Nat) x, (L.map fun n => tx (Lib.itoa n))[j]? = some x → ∃ b off, A = some ⟨b, off, none⟩ ∧ b < w.heap.size ∧ w.cell? ⟨b, off + j, none⟩ = some (.string x) := fun j x hx => hA j _ (by
    unfold ZS TS
    rw [List.getElem?_map] at hx
    rw [List.getElem?_map, List.getElem?_map]
    cases e : L[j]? with
    | none => rw [e] at hx; cases hx
    | some n => rw [e] at hx; cases hx; rfl)
  obtain ⟨b, off, rfl, hb, _⟩ := hi 0 (tx (Lib.itoa (L.getD 0 0))) (by
    rw [List.getElem?_map, List.getElem?_eq_getElem h0, List.getD_eq_getElem?_getD, List.getElem?_eq_getElem h0]; rfl)
  have hlen : (L.map fun n => tx (Lib.itoa n)).length = L.length := by simp
  have hd : ((L.map fun n => tx (Lib.itoa n)).map (·.data.toList)) = L.map Lib.itoa := by
    rw [List.map_map]
    congr 1
  have hjl := ltx_len hv
  rw [ltx_join h0] at hjl
  have h := Tryz.strings_Join b off c (L.map fun n => tx (Lib.itoa n)) (tx [32]) w (fun j x hx => by
    obtain ⟨b', off', e, _, h⟩ := hi j x hx
    cases e
    exact h) hb (by rw [hlen]; omega) (by rw [hlen]; exact hc) (by
    rw [hd]
    show (Lib.join (L.map Lib.itoa) [32]).length ≤ _
    omega)
  rw [hlen, hd] at h
  refine h.mono fun e w' ⟨he, hb⟩ => ⟨?_, hb⟩
  rw [he, ltx_join h0]
  rfl
set_option maxHeartbeats 4000000 in
theorem listText_v (B : Option Addr) (c : Nat) (L : List Int) (w : World) (hl : L.length ≤ 1048576) (hv : ∀ x ∈ L, -999999 ≤ x ∧ x ≤ 999999) (hB : Seen w B (IL L)) (ht : PTab w) :
    Calls Tryz.prog 144 #[.slice B L.length c] w (Post (.string (tx (ltx L))) w) := by
  refine post_of_vc ?_
  refine calls_of_vc tb_ok (args := [.slice B L.length c]) Tryz.func144 rfl ?_
  by_cases h0 : 0 < L.length
  · (repeat' ((conv => whnf); first | refine go ?_ | (refine VSome.mk ?_; intro gQ hA'; first | subst hA' | cases hA' | (dsimp only at hA'; subst hA')) | refine And.intro ?_ ?_ | intro _))
    (conv => whnf)
    refine VLoop.mk (ι := Nat × Option Addr × Nat) [3, 5, 12, 13, 14, 15, 16, 17, 18, 19, 20, 21] (fun (k, P, cp) => [(12, .int .i64 k), (3, .slice P k cp)]) (fun (k, P, cp) => [.row (.slice P k cp) 9 1 k (ZS (L.take k))]) (fun i => i.1 ≤ L.length ∧ i.1 ≤ i.2.2) (fun i => L.length - i.1) (0, _, 0) ⟨Nat.zero_le _, Nat.zero_le _⟩ ?_ (OwnLe.mk [0] (by simp) rfl) (fun i u hi => ?_)
    · ((conv => whnf); repeat (first | exact trivial | refine ⟨rfl, ?_⟩ | refine ⟨congrArg (Value.int .i64) (by first | omega | assumption | exact Eq.symm (by assumption)), ?_⟩))
    obtain ⟨k, P, cp⟩ := i
    obtain ⟨hk, hcp⟩ := hi
    replace hk : k ≤ L.length := hk
    replace hcp : k ≤ cp := hcp
    (conv => whnf)
    try dsimp only
    by_cases hlt : k < L.length
    · obtain ⟨b1, off1, rfl, hb1, hc1⟩ := IL_lookM hB hlt
      have hz := hv (L.getD k 0) (by rw [List.getD_eq_getElem?_getD, List.getElem?_eq_getElem hlt]; exact List.getElem_mem hlt)
      have ht1 : L.take (k + 1) = L.take k ++ [L.getD k 0] := by rw [List.take_add_one, List.getD_eq_getElem?_getD, List.getElem?_eq_getElem hlt]; rfl
      (repeat' ((conv => whnf); first | refine go ?_ | (refine VSome.mk ?_; intro gQ hA'; first | subst hA' | cases hA' | (dsimp only at hA'; subst hA')) | refine And.intro ?_ ?_ | intro _ | (first | ((show VCall _ _ _ 59 _ _); refine VCall.grow _ (fun w1 m1 => itoaZ_v _ w1 (by omega) (by omega) (ht.on m1)) ?_) | ((show VApp _ _ _ _ _ _ _); (apply VApp.pushAnyS; (focus ((repeat (first | exact At.here | apply At.there)); done)); (focus ((repeat (first | exact At.here | apply At.there)); done)); refine VAppPushS.mk rfl rfl (by omega) (by omega) (fun g' c' hcap => ?_))))))
      (conv => whnf)
      refine VNext.mk (k + 1, _, _) ⟨hlt, hcap⟩ (by show L.length - (k + 1) < L.length - k; omega) ?_ (OwnLe.mk [0] (by simp) (by dsimp only; rw [ht1, ← ZS_snoc]; rfl))
      ((conv => whnf); repeat (first | exact trivial | refine ⟨rfl, ?_⟩ | refine ⟨congrArg (Value.int .i64) (by first | omega | assumption | exact Eq.symm (by assumption)), ?_⟩))
    · obtain rfl : k = L.length := by omega
      have hJ := fun w => join_v P cp L w h0 hl hv hcp
      rw [List.take_length]
      (repeat' ((conv => whnf); first | refine go ?_ | (refine VSome.mk ?_; intro gQ hA'; first | subst hA' | cases hA' | (dsimp only at hA'; subst hA')) | refine And.intro ?_ ?_ | intro _ | (first | ((show VCall _ _ _ 179 _ _); refine VCall.grow _ (fun w1 m1 => hJ w1 (Sees.any m1 fndA)) ?_))))
      (conv => whnf); refine VRet.mk fun w' m => ?_
      exact ⟨rfl, m.keeps.below⟩
  · obtain rfl : L = [] := by cases L with
      | nil => rfl
      | cons x r => simp at h0
    (repeat' ((conv => whnf); first | refine go ?_ | (refine VSome.mk ?_; intro gQ hA'; first | subst hA' | cases hA' | (dsimp only at hA'; subst hA')) | refine And.intro ?_ ?_ | intro _))
    (conv => whnf); refine VRet.mk fun w' m => ?_
    exact ⟨rfl, m.keeps.below⟩
theorem isHigh_v (s : Lo) (w : World) (hs : s.safe) : Calls Tryz.prog 186 #[.agg s.cells.toArray] w (Post (.bool s.high) w) := by
  have hx := hs
  unfold Lo.safe at hx
  refine post_of_vc ?_
  refine calls_of_vc tb_ok (args := [.agg s.cells.toArray]) Tryz.func186 rfl ?_
  have e : s.high = decide (s.upper - s.level < s.level - s.lower) := rfl
  (repeat' ((conv => whnf); first | refine go ?_ | (refine VSome.mk ?_; intro gQ hA'; first | subst hA' | cases hA' | (dsimp only at hA'; subst hA')) | refine And.intro ?_ ?_ | intro _))
  all_goals ((conv => whnf); refine VRet.mk fun w' m => ?_)
  all_goals exact ⟨by first | rfl | (rw [e]; first | (rw [decide_eq_true (by assumption)]; done) | (rw [decide_eq_false (by assumption)]; done)), m.keeps.below⟩
theorem l28High_v (s : Lo) (w : World) (hs : s.safe) : Calls Tryz.prog 160 #[.agg s.cells.toArray] w (Post (.bool s.high) w) := by
  have hx := hs
  unfold Lo.safe at hx
  refine post_of_vc ?_
  refine calls_of_vc tb_ok (args := [.agg s.cells.toArray]) Tryz.func160 rfl ?_
  have e : s.high = decide (s.upper - s.level < s.level - s.lower) := rfl
  (repeat' ((conv => whnf); first | refine go ?_ | (refine VSome.mk ?_; intro gQ hA'; first | subst hA' | cases hA' | (dsimp only at hA'; subst hA')) | refine And.intro ?_ ?_ | intro _))
  all_goals ((conv => whnf); refine VRet.mk fun w' m => ?_)
  all_goals exact ⟨by first | rfl | (rw [e]; first | (rw [decide_eq_true (by assumption)]; done) | (rw [decide_eq_false (by assumption)]; done)), m.keeps.below⟩
theorem ltx_one {L : List Int} (h : 0 < L.length) : ltx (L.take 1) = Lib.itoa (L.getD 0 0) := by
  cases L with
  | nil => simp at h
  | cons x r =>
    show ltx [x] = _
    rw [ltx_cons]
    show Lib.itoa x ++ [] = Lib.itoa x
    exact List.append_nil _
theorem ltx_suc {L : List Int} {k : Nat} (h : 1 ≤ k) (hk : k < L.length) : ltx (L.take (k + 1)) = ltx (L.take k) ++ [32] ++ Lib.itoa (L.getD k 0) := by
  cases L with
  | nil => simp at hk
  | cons x r =>
    obtain ⟨j, rfl⟩ : ∃ j, k = j + 1 := ⟨k - 1, by omega⟩
    have hj : j < r.length := by simpa using hk
    rw [List.take_succ_cons, List.take_succ_cons, ltx_cons, ltx_cons, List.map_take, List.map_take]
    rw [Lib.joinTail_take_succ [32] (r.map Lib.itoa) j (Lib.itoa (r.getD j 0)) (by rw [List.getElem?_map, List.getElem?_eq_getElem hj, List.getD_eq_getElem?_getD, List.getElem?_eq_getElem hj]; rfl)]
    simp
set_option maxHeartbeats 4000000 in
theorem l28List_v (B : Option Addr) (c : Nat) (L : List Int) (w : World) (hl : L.length ≤ 1048576) (hv : ∀ x ∈ L, -999999 ≤ x ∧ x ≤ 999999) (hB : Seen w B (IL L)) :
    Calls Tryz.prog 155 #[.slice B L.length c] w (Post (.string (tx (ltx L))) w) := by
  refine post_of_vc ?_
  refine calls_of_vc tb_ok (args := [.slice B L.length c]) Tryz.func155 rfl ?_
  by_cases h0 : 0 < L.length
  · obtain ⟨b0, off0, rfl, hb0, hc0⟩ := IL_lookM hB h0
    have hz0 := hv (L.getD 0 0) (by rw [List.getD_eq_getElem?_getD, List.getElem?_eq_getElem h0]; exact List.getElem_mem h0)
    (repeat' ((conv => whnf); first | refine go ?_ | (refine VSome.mk ?_; intro gQ hA'; first | subst hA' | cases hA' | (dsimp only at hA'; subst hA')) | refine And.intro ?_ ?_ | intro _ | (first | ((show VCall _ _ _ 61 _ _); refine VCall.grow _ (fun w1 m1 => l1NumZ_v _ w1 (by omega) (by omega)) ?_))))
    (conv => whnf)
    refine VLoop.mk (ι := Nat × List UInt8) [3, 4, 12, 13, 14, 15, 16, 17, 18, 19, 20, 21, 22, 23, 24, 25] (fun (k, s) => [(4, .int .i64 k), (3, .string (tx s))]) (fun _ => []) (fun i => 1 ≤ i.1 ∧ i.1 ≤ L.length ∧ i.2 = ltx (L.take i.1)) (fun i => L.length - i.1) (1, Lib.itoa (L.getD 0 0)) ⟨Nat.le_refl _, h0, (ltx_one h0).symm⟩ ?_ (OwnLe.mk [] (by simp) rfl) (fun i u hi => ?_)
    · ((conv => whnf); repeat (first | exact trivial | refine ⟨rfl, ?_⟩ | refine ⟨congrArg (Value.int .i64) (by first | omega | assumption | exact Eq.symm (by assumption)), ?_⟩))
    obtain ⟨k, s⟩ := i
    obtain ⟨hk1, hk, hs⟩ := hi
    replace hk1 : 1 ≤ k := hk1
    replace hk : k ≤ L.length := hk
    replace hs : s = ltx (L.take k) := hs
    (conv => whnf)
    try dsimp only
    by_cases hlt : k < L.length
    · obtain ⟨b1, off1, e1, hb1, hc1⟩ := IL_lookM hB hlt
      cases e1
      have hz := hv (L.getD k 0) (by rw [List.getD_eq_getElem?_getD, List.getElem?_eq_getElem hlt]; exact List.getElem_mem hlt)
      have hle := ltx_len (L := L.take k) fun x hx => hv x (List.mem_of_mem_take hx)
      rw [List.length_take, ← hs] at hle
      have hi := (itoa_len hz.1 hz.2).2
      have hn := ltx_suc hk1 hlt
      rw [← hs] at hn
      (repeat' ((conv => whnf); first | refine go ?_ | (refine VSome.mk ?_; intro gQ hA'; first | subst hA' | cases hA' | (dsimp only at hA'; subst hA')) | refine And.intro ?_ ?_ | intro _ | (first | ((show VCall _ _ _ 61 _ _); refine VCall.grow _ (fun w1 m1 => l1NumZ_v _ w1 (by omega) (by omega)) ?_) | ((show VCat _ _ _); refine VCat.of (by simp only [List.length_append, List.length_cons, List.length_nil]; omega) ?_))))
      all_goals (conv => whnf)
      refine VNext.mk (k + 1, s ++ [32] ++ Lib.itoa (L.getD k 0)) ⟨by show 1 ≤ k + 1; omega, hlt, hn.symm⟩ (by show L.length - (k + 1) < L.length - k; omega) ?_ (OwnLe.mk [] (by simp) rfl)
      ((conv => whnf); repeat (first | exact trivial | refine ⟨rfl, ?_⟩ | refine ⟨congrArg (Value.int .i64) (by first | omega | assumption | exact Eq.symm (by assumption)), ?_⟩))
    · obtain rfl : k = L.length := by omega
      rw [List.take_length] at hs
      rw [← hs]
      (repeat' ((conv => whnf); first | refine go ?_ | (refine VSome.mk ?_; intro gQ hA'; first | subst hA' | cases hA' | (dsimp only at hA'; subst hA')) | refine And.intro ?_ ?_ | intro _))
      (conv => whnf); refine VRet.mk fun w' m => ?_
      exact ⟨rfl, m.keeps.below⟩
  · obtain rfl : L = [] := by cases L with
      | nil => rfl
      | cons x r => simp at h0
    (repeat' ((conv => whnf); first | refine go ?_ | (refine VSome.mk ?_; intro gQ hA'; first | subst hA' | cases hA' | (dsimp only at hA'; subst hA')) | refine And.intro ?_ ?_ | intro _))
    (conv => whnf); refine VRet.mk fun w' m => ?_
    exact ⟨rfl, m.keeps.below⟩
end Go.Proofs.YtadjhkehfklmnaaGreatDoor
namespace Go.Proofs.YtadjhkehfklmnaaGreatDoor
set_option linter.unusedSimpArgs false
set_option linter.unusedVariables false
open Go.RowKit
set_option maxRecDepth 10000
def numZ (ws : List (List UInt8)) : Option (List Int) := rwZ (List.replicate ws.length 110) ws
theorem sParse_v (l : List UInt8) (w : World) (hl : l.length ≤ 1048576) : Calls Tryz.prog 157 #[.string (tx l)] w (Post (.tuple #[.int .i64 (rdV l).1, .bool (rdV l).2]) w) := by
  have hI := fun w => l1Read_v l w hl
  rcases hrd : rdV l with ⟨z, b⟩
  rw [hrd] at hI
  refine post_of_vc ?_
  refine calls_of_vc tb_ok (args := [.string (tx l)]) Tryz.func157 rfl ?_
  cases b
  · (repeat' ((conv => whnf); first | refine go ?_ | (refine VSome.mk ?_; intro gQ hA'; first | subst hA' | cases hA' | (dsimp only at hA'; subst hA')) | refine And.intro ?_ ?_ | intro _ | (first | ((show VCall _ _ _ 191 _ _); refine VCall.grow _ (fun w1 m1 => hI w1) ?_))))
    all_goals ((conv => whnf); refine VRet.mk fun w' m => ?_)
    all_goals exact ⟨rfl, m.keeps.below⟩
  · (repeat' ((conv => whnf); first | refine go ?_ | (refine VSome.mk ?_; intro gQ hA'; first | subst hA' | cases hA' | (dsimp only at hA'; subst hA')) | refine And.intro ?_ ?_ | intro _ | (first | ((show VCall _ _ _ 191 _ _); refine VCall.grow _ (fun w1 m1 => hI w1) ?_))))
    all_goals ((conv => whnf); refine VRet.mk fun w' m => ?_)
    all_goals exact ⟨rfl, m.keeps.below⟩
def nuO (P : Option Addr) (cp : Nat) : Option (List Int) → Value
  | some L => .tuple #[.slice P L.length cp, .bool true]
  | none => .tuple #[.slice P 0 cp, .bool false]
def nuN (P : Option Addr) (cp : Nat) : Option (List Int) → List Own
  | some L => [.row (.slice P L.length cp) 3 1 L.length (IL L)]
  | none => [.row (.slice P 0 cp) 3 1 0 []]
theorem rwZ_rep_cons (ws : List (List UInt8)) (w : List UInt8) : rwZ (List.replicate (w :: ws).length 110) (w :: ws) = rwZ (110 :: List.replicate ws.length 110) (w :: ws) := rfl
set_option maxHeartbeats 8000000 in
theorem numbers_v (B : Option Addr) (c : Nat) (ws : List (List UInt8)) (w : World) (hn : ws.length ≤ 1048577) (hl : ∀ x ∈ ws, x.length ≤ 1048576) (hB : Seen w B (TS ws)) :
    Calls Tryz.prog 121 #[.slice B ws.length c] w fun e w' => ∃ v, e = .returned v ∧ RetV (ι := Option Addr × Nat) (fun _ => True) (fun (P, cp) => nuO P cp (numZ ws)) (fun (P, cp) => nuN P cp (numZ ws)) (Base.of w) v w' := by
  refine calls_of_vc tb_ok (args := [.slice B ws.length c]) Tryz.func121 rfl ?_
  (repeat' ((conv => whnf); first | refine go ?_ | (refine VSome.mk ?_; intro gQ hA'; first | subst hA' | cases hA' | (dsimp only at hA'; subst hA')) | refine And.intro ?_ ?_ | intro _))
  (conv => whnf)
  refine VLoop.mk (ι := Nat × List Int × Option Addr × Nat) [2, 3, 4, 5, 6, 7, 9, 10, 11, 12, 13, 14, 15, 16, 17, 18, 19, 20, 21, 22, 23, 24, 25, 26, 27, 28, 29] (fun (k, L, P, cp) => [(5, .int .i64 k), (4, .slice P k cp)]) (fun (k, L, P, cp) => [.row (.slice P k cp) 3 1 k (IL L)]) (fun i => i.1 ≤ ws.length ∧ i.1 = i.2.1.length ∧ numZ ws = (numZ (ws.drop i.1)).map (i.2.1 ++ ·)) (fun i => ws.length - i.1) (0, [], _, _) ⟨Nat.zero_le _, rfl, by simp⟩ ?_ (OwnLe.mk [0] (by simp) rfl) (fun i u hi => ?_)
  · ((conv => whnf); repeat (first | exact trivial | refine ⟨rfl, ?_⟩ | refine ⟨congrArg (Value.int .i64) (by first | omega | assumption | exact Eq.symm (by assumption)), ?_⟩))
  obtain ⟨k, L, P, cp⟩ := i
  obtain ⟨hk, hkl, hZ⟩ := hi
  replace hk : k ≤ ws.length := hk
  replace hkl : k = L.length := hkl
  replace hZ : numZ ws = (numZ (ws.drop k)).map (L ++ ·) := hZ
  (conv => whnf)
  try dsimp only
  by_cases hlt : k < ws.length
  · obtain ⟨b1, off1, rfl, hb1, hc1⟩ := TS_look hB hlt
    have hxl := hl (ws.getD k []) (by rw [List.getD_eq_getElem?_getD, List.getElem?_eq_getElem hlt]; exact List.getElem_mem hlt)
    rw [show ws.drop k = ws.getD k [] :: ws.drop (k + 1) by rw [List.drop_eq_getElem_cons hlt, List.getD_eq_getElem?_getD, List.getElem?_eq_getElem hlt]; rfl] at hZ
    unfold numZ at hZ
    rw [rwZ_rep_cons] at hZ
    have hin : ∀ x : Int, rw1 110 (ws.getD k []) = some x → k + 1 ≤ ws.length ∧ k + 1 = (L ++ [x]).length ∧ numZ ws = (numZ (ws.drop (k + 1))).map ((L ++ [x]) ++ ·) := fun x hx => by
      exact ⟨hlt, by rw [List.length_append, hkl]; rfl, hZ.trans (rwZ_some hx L)⟩
    have hno : rw1 110 (ws.getD k []) = none → numZ ws = none := fun hx => by
      unfold numZ
      rw [hZ, rwZ_none hx]; rfl
    clear hZ
    generalize ws.getD k [] = word at *
    have hr := rw1_num (w := word) (p := 110) rfl
    have hI := fun w => sParse_v word w hxl
    rcases hrd : rdV word with ⟨z, b⟩
    rw [hrd] at hI hr
    dsimp only at hI hr
    cases b
    · have hz := hno (hr.trans (if_neg (by simp)))
      rw [hz]
      (repeat' ((conv => whnf); first | refine go ?_ | (refine VSome.mk ?_; intro gQ hA'; first | subst hA' | cases hA' | (dsimp only at hA'; subst hA')) | refine And.intro ?_ ?_ | intro _ | (first | ((show VCall _ _ _ 157 _ _); refine VCall.grow _ (fun w1 m1 => hI w1) ?_))))
      all_goals (conv => whnf)
      all_goals exact VRet.sel (_, _) trivial rfl [1] (by simp) rfl
    · have hy := hin z (hr.trans (if_pos rfl))
      (repeat' ((conv => whnf); first | refine go ?_ | (refine VSome.mk ?_; intro gQ hA'; first | subst hA' | cases hA' | (dsimp only at hA'; subst hA')) | refine And.intro ?_ ?_ | intro _ | (first | ((show VCall _ _ _ 157 _ _); refine VCall.grow _ (fun w1 m1 => hI w1) ?_) | ((show VApp _ _ _ _ _ _ _); (apply VApp.pushAny; (focus ((repeat (first | exact At.here | apply At.there)); done)); (focus ((repeat (first | exact At.here | apply At.there)); done)); refine VAppPush.mk rfl rfl (by omega) (fun A' c' => ?_))))))
      all_goals (conv => whnf)
      all_goals (refine VNext.mk (k + 1, L ++ [z], _, _) hy (by show ws.length - (k + 1) < ws.length - k; omega) ?_ (OwnLe.mk [0] (by simp) (by dsimp only; rw [IL_app]; rfl)); ((conv => whnf); repeat (first | exact trivial | refine ⟨rfl, ?_⟩ | refine ⟨congrArg (Value.int .i64) (by first | omega | assumption | exact Eq.symm (by assumption)), ?_⟩)))
  · obtain rfl : k = ws.length := by omega
    have hy : numZ ws = some L := by
      rw [hZ, List.drop_eq_nil_of_le (Nat.le_refl _)]
      show some (L ++ []) = _
      rw [List.append_nil]
    rw [hy, hkl]
    (repeat' ((conv => whnf); first | refine go ?_ | (refine VSome.mk ?_; intro gQ hA'; first | subst hA' | cases hA' | (dsimp only at hA'; subst hA')) | refine And.intro ?_ ?_ | intro _))
    (conv => whnf)
    exact VRet.sel (P, cp) trivial (by rw [nuO, ← hkl]) [0] (by simp) (by rw [nuN, ← hkl]; rfl)
end Go.Proofs.YtadjhkehfklmnaaGreatDoor
