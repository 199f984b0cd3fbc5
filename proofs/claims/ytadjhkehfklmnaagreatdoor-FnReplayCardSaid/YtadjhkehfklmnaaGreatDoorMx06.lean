/-
  Texts joined: how the calls that the law reaches are walked, and the plain laws behind them.
  Conditions: none beyond each statement's own premises.
-/
import Derived.Test.YtadjhkehfklmnaaGreatDoorMx05
import Derived.WalkSmall
import Derived.Lib.LaidTab
import Derived.Lib.AppendIntMem
import Derived.Lib.Atoi
import Derived.Lib.Split
import Derived.Lib.SplitLaws
import Derived.Lib.CountLaws
import Derived.Lib.IndexBytes
import Derived.Lib.Join
namespace Go.Proofs.YtadjhkehfklmnaaGreatDoor
set_option linter.unusedSimpArgs false
set_option linter.unusedVariables false
open Go.RowKit
set_option maxRecDepth 10000
theorem index_v (c : UInt8) (l : List UInt8) (w : World) : Calls Tryz.prog 165 #[.string (tx l), .string ⟨#[c]⟩] w (Post (.int .i64 (Lib.indexByte l c)) w) :=
  (Tryz.stringslite_Index_one (tx l) c w).mono fun e w' ⟨he, hw⟩ => ⟨by rw [he]; simp [tx], by rw [hw]; exact Below.refl _ _⟩
theorem contains_v (c : UInt8) (l : List UInt8) (w : World) : Calls Tryz.prog 111 #[.string (tx l), .string ⟨#[c]⟩] w (Post (.bool (tr (c ∈ l))) w) :=
  (Tryz.strings_Contains_one (tx l) c w).mono fun e w' ⟨he, hw⟩ => ⟨by
    rw [he, show (tx l).data.toList = l by simp [tx]]
    rcases index_bfs c l with ⟨e1, _, _, e4⟩ | ⟨o, e1, _, _, _, e4⟩
    · rw [e1, tr_no e4]; rfl
    · rw [e1, tr_yes e4]; simp, by rw [hw]; exact Below.refl _ _⟩
theorem cut1_v (c : UInt8) (l : List UInt8) (w : World) (hl : l.length ≤ 9223372036854775807) : Calls Tryz.prog 189 #[.string (tx l), .string ⟨#[c]⟩] w (Post (.tuple #[.string (tx (bfs c l)), .string (tx (afs c l)), .bool (tr (c ∈ l))]) w) := by
  refine post_of_vc ?_
  refine calls_of_vc tb_ok (args := [.string (tx l), .string ⟨#[c]⟩]) Tryz.func189 rfl ?_
  have hi := fun w => index_v c l w
  have hsz := tx_size l
  have hone : ({ data := #[c] } : ByteArray).size = 1 := rfl
  rcases index_bfs c l with ⟨e1, e2, e3, e4⟩ | ⟨o, e1, ho, e2, e3, e4⟩
  · rw [e1] at hi
    rw [e2, e3, tr_no e4]
    (repeat' ((conv => whnf); first | refine go ?_ | (refine VSome.mk ?_; intro gQ hA'; first | subst hA' | cases hA' | (dsimp only at hA'; subst hA')) | refine And.intro ?_ ?_ | intro _ | (first | ((show VCall _ _ _ 165 _ _); refine VCall.grow _ (fun w1 m1 => hi w1) ?_))))
    (conv => whnf); refine VRet.mk fun w' m => ?_
    exact ⟨rfl, m.keeps.below⟩
  · rw [e1] at hi
    rw [tr_yes e4]
    have x1 : (tx l).extract 0 o = tx (bfs c l) := by rw [tx_sub, e2]; rfl
    have x2 : (tx l).extract (o + 1) (tx l).size = tx (afs c l) := by rw [tx_sub, tx_size, e3, List.take_length]
    (repeat' ((conv => whnf); first | refine go ?_ | (refine VSome.mk ?_; intro gQ hA'; first | subst hA' | cases hA' | (dsimp only at hA'; subst hA')) | refine And.intro ?_ ?_ | intro _ | (first | ((show VCall _ _ _ 165 _ _); refine VCall.grow _ (fun w1 m1 => hi w1) ?_) | ((show VDraw _ _ _ _ _ _); refine VDraw.mk (.take 0 (.take 1 (.take 2 (.take 3 (.take 4 (.take 5 (.take 6 (.take 7 (.take 8 (.take 9 (.take 10 (.take 11 .done)))))))))))) [] (by kernel_rfl) (by kernel_rfl) ?_) | ((show VSub _ _ _ _); first | (refine VSub.mk 0 o rfl rfl (by omega) (by rw [tx_size]; omega) ?_) | (refine VSub.mk (o + 1) (tx l).size rfl rfl (by rw [tx_size]; omega) (by omega) ?_)))))
    (conv => whnf); refine VRet.mk fun w' m => ?_
    refine ⟨?_, m.keeps.below⟩
    rw [x1, x2]
theorem cut_v (c : UInt8) (l : List UInt8) (w : World) (hl : l.length ≤ 9223372036854775807) : Calls Tryz.prog 153 #[.string (tx l), .string ⟨#[c]⟩] w (Post (.tuple #[.string (tx (bfs c l)), .string (tx (afs c l)), .bool (tr (c ∈ l))]) w) := by
  refine post_of_vc ?_
  refine calls_of_vc tb_ok (args := [.string (tx l), .string ⟨#[c]⟩]) Tryz.func153 rfl ?_
  have hi := fun w => cut1_v c l w hl
  by_cases h : c ∈ l
  · rw [tr_yes h] at hi ⊢
    (repeat' ((conv => whnf); first | refine go ?_ | (refine VSome.mk ?_; intro gQ hA'; first | subst hA' | cases hA' | (dsimp only at hA'; subst hA')) | refine And.intro ?_ ?_ | intro _ | (first | ((show VCall _ _ _ 189 _ _); refine VCall.grow _ (fun w1 m1 => hi w1) ?_))))
    (conv => whnf); refine VRet.mk fun w' m => ?_
    exact ⟨rfl, m.keeps.below⟩
  · rw [tr_no h] at hi ⊢
    (repeat' ((conv => whnf); first | refine go ?_ | (refine VSome.mk ?_; intro gQ hA'; first | subst hA' | cases hA' | (dsimp only at hA'; subst hA')) | refine And.intro ?_ ?_ | intro _ | (first | ((show VCall _ _ _ 189 _ _); refine VCall.grow _ (fun w1 m1 => hi w1) ?_))))
    (conv => whnf); refine VRet.mk fun w' m => ?_
    exact ⟨rfl, m.keeps.below⟩
def okA (s : ByteArray) (i : Nat) : Prop := ∀ h : i < s.size, 32 ≤ s[i].toNat ∧ s[i].toNat ≤ 126 ∧ ¬ s[i].toNat = 35
theorem plain_iff (l : List UInt8) : (∀ i, i < (tx l).size → okA (tx l) i) ↔ plainT l := by
  constructor
  · intro h b hb
    obtain ⟨i, hi, rfl⟩ := List.getElem_of_mem hb
    have hi2 : i < (tx l).size := by rw [tx_size]; exact hi
    obtain ⟨h1, h2, h3⟩ := h i hi2 hi2
    exact ⟨h1, h2, fun e => h3 (congrArg UInt8.toNat e)⟩
  · intro h i hi hi2
    have hi3 : i < l.length := by rw [← tx_size]; exact hi
    obtain ⟨h1, h2, h3⟩ := h _ (List.getElem_mem hi3)
    exact ⟨h1, h2, fun e => h3 (UInt8.toNat_inj.1 e)⟩
set_option maxHeartbeats 400000 in
theorem isPlain_v (l : List UInt8) (w : World) (hl : l.length ≤ 9223372036854775807) : Calls Tryz.prog 110 #[.string (tx l)] w (Post (.bool (tr (plainT l))) w) := by
  have hn := tx_size l
  have hpl := plain_iff l
  refine post_of_vc ?_
  refine calls_of_vc tb_ok (args := [.string (tx l)]) Tryz.func110 rfl ?_
  (repeat' ((conv => whnf); first | refine go ?_ | (refine VSome.mk ?_; intro gQ hA'; first | subst hA' | cases hA' | (dsimp only at hA'; subst hA')) | refine And.intro ?_ ?_ | intro _))
  (conv => whnf)
  refine VLoop.mk (ι := Nat) [2, 3, 4, 5, 6, 7, 8, 9, 10, 11, 12, 13, 14, 15, 16, 17, 18, 19, 20, 21, 22, 23, 24, 25] (fun k => [(3, .int .i64 k)]) (fun _ => []) (fun k => k ≤ (tx l).size ∧ ∀ i, i < k → okA (tx l) i) (fun k => (tx l).size - k) 0 ⟨Nat.zero_le _, fun i h => absurd h (by omega)⟩ ?_ (OwnLe.mk [] (by simp) rfl) (fun k u hk => ?_)
  · ((conv => whnf); repeat (first | exact trivial | refine ⟨rfl, ?_⟩ | refine ⟨congrArg (Value.int .i64) (by first | omega | assumption | exact Eq.symm (by assumption)), ?_⟩))
  obtain ⟨hk, hok⟩ := hk
  by_cases hlt : k < (tx l).size
  · (repeat' ((conv => whnf); first | refine go ?_ | (refine VSome.mk ?_; intro gQ hA'; first | subst hA' | cases hA' | (dsimp only at hA'; subst hA')) | refine And.intro ?_ ?_ | intro _))
    (all_goals (conv => whnf))
    all_goals first | ((show VNext _ _ _ _ _ _ _ _ _); (refine VNext.mk (k + 1) ⟨hlt, upto_succ hok (fun h => by omega)⟩ (by omega) ?_ (OwnLe.mk [] (by simp) rfl); ((conv => whnf); repeat (first | exact trivial | refine ⟨rfl, ?_⟩ | refine ⟨congrArg (Value.int .i64) (by first | omega | assumption | exact Eq.symm (by assumption)), ?_⟩)))) | ((show VRet _ _ _ _); (refine VRet.mk fun w' m => ⟨?_, m.keeps.below⟩; rw [tr_no (fun h => by have := hpl.2 h k hlt hlt; omega)]))
  · obtain rfl : k = (tx l).size := by omega
    (repeat' ((conv => whnf); first | refine go ?_ | (refine VSome.mk ?_; intro gQ hA'; first | subst hA' | cases hA' | (dsimp only at hA'; subst hA')) | refine And.intro ?_ ?_ | intro _))
    (conv => whnf); refine VRet.mk fun w' m => ?_
    refine ⟨congrArg Value.bool ?_, m.keeps.below⟩
    rw [tr_yes (hpl.1 hok)]
set_option maxHeartbeats 400000 in
theorem l27Plain_v (l : List UInt8) (x : Nat) (w : World) (hl : l.length ≤ 9223372036854775807) (hx : x ≤ 1000000) : Calls Tryz.prog 117 #[.string (tx l), .int .i64 x] w (Post (.bool (tr (plainT l ∧ l.length ≤ x))) w) := by
  have hn := tx_size l
  have hpl := plain_iff l
  refine post_of_vc ?_
  refine calls_of_vc tb_ok (args := [.string (tx l), .int .i64 x]) Tryz.func117 rfl ?_
  (repeat' ((conv => whnf); first | refine go ?_ | (refine VSome.mk ?_; intro gQ hA'; first | subst hA' | cases hA' | (dsimp only at hA'; subst hA')) | refine And.intro ?_ ?_ | intro _))
  (conv => whnf)
  refine VLoop.mk (ι := Nat) [4, 5, 6, 7, 8, 9, 10, 11, 12, 13, 14, 15, 16, 17, 18, 19, 20, 21, 22, 23] (fun k => [(5, .int .i64 k)]) (fun _ => []) (fun k => k ≤ (tx l).size ∧ ∀ i, i < k → okA (tx l) i) (fun k => (tx l).size - k) 0 ⟨Nat.zero_le _, fun i h => absurd h (by omega)⟩ ?_ (OwnLe.mk [] (by simp) rfl) (fun k u hk => ?_)
  · ((conv => whnf); repeat (first | exact trivial | refine ⟨rfl, ?_⟩ | refine ⟨congrArg (Value.int .i64) (by first | omega | assumption | exact Eq.symm (by assumption)), ?_⟩))
  obtain ⟨hk, hok⟩ := hk
  by_cases hlt : k < (tx l).size
  · have hb := (tx l)[k].toNat_lt
    (repeat' ((conv => whnf); first | refine go ?_ | (refine VSome.mk ?_; intro gQ hA'; first | subst hA' | cases hA' | (dsimp only at hA'; subst hA')) | refine And.intro ?_ ?_ | intro _ | (first | ((show VCall _ _ _ 109 _ _); refine VCall.test _ (fun w1 _ => l1In_v _ _ _ w1) ?_))))
    (all_goals (conv => whnf))
    all_goals first | ((show VNext _ _ _ _ _ _ _ _ _); (refine VNext.mk (k + 1) ⟨hlt, upto_succ hok (fun h => by omega)⟩ (by omega) ?_ (OwnLe.mk [] (by simp) rfl); ((conv => whnf); repeat (first | exact trivial | refine ⟨rfl, ?_⟩ | refine ⟨congrArg (Value.int .i64) (by first | omega | assumption | exact Eq.symm (by assumption)), ?_⟩)))) | ((show VRet _ _ _ _); (refine VRet.mk fun w' m => ⟨?_, m.keeps.below⟩; rw [tr_no (fun h => by have := hpl.2 h.1 k hlt hlt; omega)]))
  · obtain rfl : k = (tx l).size := by omega
    have hp := hpl.1 hok
    (repeat' ((conv => whnf); first | refine go ?_ | (refine VSome.mk ?_; intro gQ hA'; first | subst hA' | cases hA' | (dsimp only at hA'; subst hA')) | refine And.intro ?_ ?_ | intro _))
    all_goals ((conv => whnf); refine VRet.mk fun w' m => ?_)
    all_goals refine ⟨congrArg Value.bool ?_, m.keeps.below⟩
    all_goals first
      | (rw [tr_yes (show plainT l ∧ l.length ≤ x from ⟨hp, by omega⟩)]; done)
      | (rw [tr_no (fun h : plainT l ∧ l.length ≤ x => by have := h.2; omega)]; done)
set_option maxHeartbeats 400000 in
theorem l1Stands_v (c : UInt8) (x : Int) (l : List UInt8) (w : World) (hx : x = (c.toNat : Int)) (hl : l.length ≤ 9223372036854775807) : Calls Tryz.prog 118 #[.string (tx l), .int .u8 x] w (Post (.bool (tr (c ∈ l))) w) := by
  have hn := tx_size l
  refine post_of_vc ?_
  refine calls_of_vc tb_ok (args := [.string (tx l), .int .u8 x]) Tryz.func118 rfl ?_
  (repeat' ((conv => whnf); first | refine go ?_ | (refine VSome.mk ?_; intro gQ hA'; first | subst hA' | cases hA' | (dsimp only at hA'; subst hA')) | refine And.intro ?_ ?_ | intro _))
  (conv => whnf)
  refine VLoop.mk (ι := Nat) [4, 5, 6, 7, 8, 9, 10, 11, 12, 13, 14, 15, 16] (fun k => [(5, .int .i64 k)]) (fun _ => []) (fun k => k ≤ (tx l).size ∧ ∀ i, i < k → ∀ h : i < l.length, ¬ l[i] = c) (fun k => (tx l).size - k) 0 ⟨Nat.zero_le _, fun i h => absurd h (by omega)⟩ ?_ (OwnLe.mk [] (by simp) rfl) (fun k u hk => ?_)
  · ((conv => whnf); repeat (first | exact trivial | refine ⟨rfl, ?_⟩ | refine ⟨congrArg (Value.int .i64) (by first | omega | assumption | exact Eq.symm (by assumption)), ?_⟩))
  obtain ⟨hk, hok⟩ := hk
  by_cases hlt : k < (tx l).size
  · have hlt2 : k < l.length := by omega
    by_cases hc : l[k] = c
    · have hcI : ((tx l)[k].toNat : Int) = x := by rw [hx]; show (l[k].toNat : Int) = _; rw [hc]
      (repeat' ((conv => whnf); first | refine go ?_ | (refine VSome.mk ?_; intro gQ hA'; first | subst hA' | cases hA' | (dsimp only at hA'; subst hA')) | refine And.intro ?_ ?_ | intro _))
      (conv => whnf); refine VRet.mk fun w' m => ?_
      refine ⟨?_, m.keeps.below⟩
      rw [tr_yes (by rw [← hc]; exact List.getElem_mem hlt2)]
    · have hcI : ¬ ((tx l)[k].toNat : Int) = x := by
        rw [hx]
        show ¬ (l[k].toNat : Int) = _
        exact fun e => hc (UInt8.toNat_inj.1 (by omega))
      (repeat' ((conv => whnf); first | refine go ?_ | (refine VSome.mk ?_; intro gQ hA'; first | subst hA' | cases hA' | (dsimp only at hA'; subst hA')) | refine And.intro ?_ ?_ | intro _))
      (conv => whnf)
      refine VNext.mk (k + 1) ⟨hlt, upto_succ hok (fun h => hc)⟩ (by omega) ?_ (OwnLe.mk [] (by simp) rfl)
      ((conv => whnf); repeat (first | exact trivial | refine ⟨rfl, ?_⟩ | refine ⟨congrArg (Value.int .i64) (by first | omega | assumption | exact Eq.symm (by assumption)), ?_⟩))
  · obtain rfl : k = (tx l).size := by omega
    (repeat' ((conv => whnf); first | refine go ?_ | (refine VSome.mk ?_; intro gQ hA'; first | subst hA' | cases hA' | (dsimp only at hA'; subst hA')) | refine And.intro ?_ ?_ | intro _))
    (conv => whnf); refine VRet.mk fun w' m => ?_
    refine ⟨?_, m.keeps.below⟩
    rw [tr_no (fun h => by
      obtain ⟨i, hi, e⟩ := List.getElem_of_mem h
      exact hok i (by omega) hi e)]
set_option maxHeartbeats 400000 in
theorem iGood_v (c r : List UInt8) (w : World) (hc : c.length ≤ 9223372036854775807) (hr : r.length ≤ 9223372036854775807) : Calls Tryz.prog 76 #[.agg #[.string (tx c), .string (tx r)]] w (Post (.bool (tr (okR c r))) w) := by
  have hn := tx_size c
  have hn2 := tx_size r
  refine post_of_vc ?_
  refine calls_of_vc tb_ok (args := [.agg #[.string (tx c), .string (tx r)]]) Tryz.func76 rfl ?_
  (repeat' ((conv => whnf); first | refine go ?_ | (refine VSome.mk ?_; intro gQ hA'; first | subst hA' | cases hA' | (dsimp only at hA'; subst hA')) | refine And.intro ?_ ?_ | intro _ | (first | ((show VCall _ _ _ 80 _ _); refine VCall.test _ (fun w1 _ => inside_v _ _ _ w1) ?_) | ((show VCall _ _ _ 110 _ _); refine VCall.test _ (fun w1 _ => isPlain_v _ w1 (by assumption)) ?_) | ((show VCall _ _ _ 111 _ _); refine VCall.test _ (fun w1 _ => contains_v 64 _ w1) ?_))))
  all_goals ((conv => whnf); refine VRet.mk fun w' m => ?_)
  all_goals refine ⟨congrArg Value.bool ?_, m.keeps.below⟩
  all_goals first
    | (rw [tr_yes (show okR c r from ⟨by assumption, by assumption, by omega, by omega, by omega, by assumption⟩)]; done)
    | (rw [tr_no (fun h : okR c r => by obtain ⟨h1, h2, h3, h4, h5, h6⟩ := h; first | contradiction | omega)]; done)
set_option maxHeartbeats 400000 in
theorem sGood_v (c r : List UInt8) (w : World) (hc : c.length ≤ 9223372036854775807) (hr : r.length ≤ 9223372036854775807) : Calls Tryz.prog 85 #[.agg #[.string (tx c), .string (tx r)]] w (Post (.bool (tr (okR c r))) w) := by
  have hn := tx_size c
  have hn2 := tx_size r
  refine post_of_vc ?_
  refine calls_of_vc tb_ok (args := [.agg #[.string (tx c), .string (tx r)]]) Tryz.func85 rfl ?_
  by_cases h0 : c = []
  · subst h0
    have he : tx [] = { data := #[] } := rfl
    (repeat' ((conv => whnf); first | refine go ?_ | (refine VSome.mk ?_; intro gQ hA'; first | subst hA' | cases hA' | (dsimp only at hA'; subst hA')) | refine And.intro ?_ ?_ | intro _ | (first | ((show VCall _ _ _ 117 [_, .int .i64 160] _); refine VCall.test _ (fun w1 _ => l27Plain_v _ 160 w1 (by assumption) (by omega)) ?_) | ((show VCall _ _ _ 117 [_, .int .i64 200] _); refine VCall.test _ (fun w1 _ => l27Plain_v _ 200 w1 (by assumption) (by omega)) ?_) | ((show VCall _ _ _ 118 _ _); refine VCall.test _ (fun w1 _ => l1Stands_v 64 _ _ w1 rfl (by assumption)) ?_))))
    all_goals ((conv => whnf); refine VRet.mk fun w' m => ?_)
    all_goals refine ⟨congrArg Value.bool ?_, m.keeps.below⟩
    all_goals (rw [tr_no (fun h : okR [] r => by have := h.2.2.1; simp at this)])
  · have he : ¬ tx c = { data := #[] } := fun e => h0 (tx_inj (b := []) e)
    have hp : 1 ≤ c.length := by cases c; exact absurd rfl h0; simp
    (repeat' ((conv => whnf); first | refine go ?_ | (refine VSome.mk ?_; intro gQ hA'; first | subst hA' | cases hA' | (dsimp only at hA'; subst hA')) | refine And.intro ?_ ?_ | intro _ | (first | ((show VCall _ _ _ 117 [_, .int .i64 160] _); refine VCall.test _ (fun w1 _ => l27Plain_v _ 160 w1 (by assumption) (by omega)) ?_) | ((show VCall _ _ _ 117 [_, .int .i64 200] _); refine VCall.test _ (fun w1 _ => l27Plain_v _ 200 w1 (by assumption) (by omega)) ?_) | ((show VCall _ _ _ 118 _ _); refine VCall.test _ (fun w1 _ => l1Stands_v 64 _ _ w1 rfl (by assumption)) ?_))))
    all_goals ((conv => whnf); refine VRet.mk fun w' m => ?_)
    all_goals refine ⟨congrArg Value.bool ?_, m.keeps.below⟩
    all_goals first
      | (rw [tr_yes (show okR c r from ⟨(show plainT c ∧ c.length ≤ 160 by assumption).1, (show plainT r ∧ r.length ≤ 200 by assumption).1, by omega, (show plainT c ∧ c.length ≤ 160 by assumption).2, (show plainT r ∧ r.length ≤ 200 by assumption).2, by assumption⟩)]; done)
      | (rw [tr_no (fun h : okR c r => by obtain ⟨h1, h2, h3, h4, h5, h6⟩ := h; first | contradiction | omega | (exact absurd (show plainT c ∧ c.length ≤ 160 from ⟨h1, h4⟩) (by assumption)) | (exact absurd (show plainT r ∧ r.length ≤ 200 from ⟨h2, h5⟩) (by assumption)))]; done)
end Go.Proofs.YtadjhkehfklmnaaGreatDoor
namespace Go.Proofs.YtadjhkehfklmnaaGreatDoor
set_option linter.unusedSimpArgs false
set_option linter.unusedVariables false
open Go.RowKit
set_option maxRecDepth 10000
def PTab (w : World) : Prop := Lib.TabIs Tryz.prog w "internal/strconv.uint64pow10" .u64 Lib.pow10Tab
theorem gPTab : Tryz.prog.globalNamed "internal/strconv.uint64pow10" = some 1 := by kernel_rfl
theorem cell_lt {w : World} {a : Addr} {v : Value} (h : w.cell? a = some v) : a.block < w.heap.size := by
  rcases Nat.lt_or_ge a.block w.heap.size with h1 | h1
  · exact h1
  · unfold World.cell? at h
    rw [Array.getElem?_eq_none h1] at h
    simp at h
theorem PTab.below {w w' : World} (h : PTab w) (hb : Below w.heap.size w w') : PTab w' :=
  var?_below hb gPTab (cell_lt (h.cell gPTab 0 (by rw [Lib.pow10Tab_length]; omega))) h
theorem PTab.on {w : World} {own : List Own} {w1 : World} (h : PTab w) (m : Mem (Base.of w) own w1) : PTab w1 := h.below m.keeps.below
theorem itoa_v (n : Nat) (w : World) (hn : n ≤ 1000000) (ht : PTab w) : Calls Tryz.prog 59 #[.int .i64 n] w (Post (.string (tx (Lib.decDigits n))) w) :=
  (Tryz.strconv_Itoa n (by omega) (by omega) w ht).mono fun e w' ⟨he, k, os, hw⟩ => ⟨by rw [he, Lib.itoa_nonneg]; rfl, by rw [hw]; exact Lib.below_grow _ _ (Nat.le_refl _) _ _⟩
set_option maxHeartbeats 400000 in
theorem checksum_v (l : List UInt8) (w : World) (hl : l.length ≤ 9223372036854775807) : Calls Tryz.prog 188 #[.string (tx l)] w (Post (.int .i64 (chk l : Nat)) w) := by
  have hn := tx_size l
  refine post_of_vc ?_
  refine calls_of_vc tb_ok (args := [.string (tx l)]) Tryz.func188 rfl ?_
  (repeat' ((conv => whnf); first | refine go ?_ | (refine VSome.mk ?_; intro gQ hA'; first | subst hA' | cases hA' | (dsimp only at hA'; subst hA')) | refine And.intro ?_ ?_ | intro _))
  (conv => whnf)
  refine VLoop.mk (ι := Nat) [3, 4, 5, 6, 7, 8, 9, 10, 11, 12, 13, 14, 15, 16, 17, 18, 19] (fun k => [(4, .int .i64 k), (3, .int .i64 (chk (l.take k) : Nat))]) (fun _ => []) (fun k => k ≤ l.length) (fun k => l.length - k) 0 (Nat.zero_le _) ?_ (OwnLe.mk [] (by simp) rfl) (fun k u hk => ?_)
  · ((conv => whnf); repeat (first | exact trivial | refine ⟨rfl, ?_⟩ | refine ⟨congrArg (Value.int .i64) (by first | omega | assumption | exact Eq.symm (by assumption)), ?_⟩))
  have hc := chk_lt (l.take k)
  by_cases hlt : k < l.length
  · have hk2 : k < (tx l).size := by omega
    have hb := (tx l)[k].toNat_lt
    have es : (41 * (chk (l.take k) : Int) + ((tx l)[k].toNat : Int) + 1) % 999979 = (chk (l.take (k + 1)) : Int) := by
      have hg := getD_tx l k hlt
      rw [chk_suc hlt, ← hg]
      omega
    (repeat' ((conv => whnf); first | refine go ?_ | (refine VSome.mk ?_; intro gQ hA'; first | subst hA' | cases hA' | (dsimp only at hA'; subst hA')) | refine And.intro ?_ ?_ | intro _))
    (conv => whnf)
    refine VNext.mk (k + 1) hlt (by omega) ?_ (OwnLe.mk [] (by simp) rfl)
    ((conv => whnf); repeat (first | exact trivial | refine ⟨rfl, ?_⟩ | refine ⟨congrArg (Value.int .i64) (by first | omega | assumption | exact Eq.symm (by assumption)), ?_⟩))
  · obtain rfl : k = l.length := by omega
    rw [List.take_length] at hc
    (repeat' ((conv => whnf); first | refine go ?_ | (refine VSome.mk ?_; intro gQ hA'; first | subst hA' | cases hA' | (dsimp only at hA'; subst hA')) | refine And.intro ?_ ?_ | intro _))
    (conv => whnf); refine VRet.mk fun w' m => ?_
    exact ⟨by rw [List.take_length], m.keeps.below⟩
set_option maxHeartbeats 400000 in
theorem l1Sum_v (l : List UInt8) (w : World) (hl : l.length ≤ 9223372036854775807) : Calls Tryz.prog 174 #[.string (tx l)] w (Post (.int .i64 (chk l : Nat)) w) := by
  have hn := tx_size l
  refine post_of_vc ?_
  refine calls_of_vc tb_ok (args := [.string (tx l)]) Tryz.func174 rfl ?_
  (repeat' ((conv => whnf); first | refine go ?_ | (refine VSome.mk ?_; intro gQ hA'; first | subst hA' | cases hA' | (dsimp only at hA'; subst hA')) | refine And.intro ?_ ?_ | intro _))
  (conv => whnf)
  refine VLoop.mk (ι := Nat) [3, 4, 5, 6, 7, 8, 9, 10, 11, 12, 13, 14, 15, 16, 17, 18, 19] (fun k => [(4, .int .i64 k), (3, .int .i64 (chk (l.take k) : Nat))]) (fun _ => []) (fun k => k ≤ l.length) (fun k => l.length - k) 0 (Nat.zero_le _) ?_ (OwnLe.mk [] (by simp) rfl) (fun k u hk => ?_)
  · ((conv => whnf); repeat (first | exact trivial | refine ⟨rfl, ?_⟩ | refine ⟨congrArg (Value.int .i64) (by first | omega | assumption | exact Eq.symm (by assumption)), ?_⟩))
  have hc := chk_lt (l.take k)
  by_cases hlt : k < l.length
  · have hk2 : k < (tx l).size := by omega
    have hb := (tx l)[k].toNat_lt
    have es : (41 * (chk (l.take k) : Int) + ((tx l)[k].toNat : Int) + 1) % 999979 = (chk (l.take (k + 1)) : Int) := by
      have hg := getD_tx l k hlt
      rw [chk_suc hlt, ← hg]
      omega
    (repeat' ((conv => whnf); first | refine go ?_ | (refine VSome.mk ?_; intro gQ hA'; first | subst hA' | cases hA' | (dsimp only at hA'; subst hA')) | refine And.intro ?_ ?_ | intro _))
    (conv => whnf)
    refine VNext.mk (k + 1) hlt (by omega) ?_ (OwnLe.mk [] (by simp) rfl)
    ((conv => whnf); repeat (first | exact trivial | refine ⟨rfl, ?_⟩ | refine ⟨congrArg (Value.int .i64) (by first | omega | assumption | exact Eq.symm (by assumption)), ?_⟩))
  · obtain rfl : k = l.length := by omega
    rw [List.take_length] at hc
    (repeat' ((conv => whnf); first | refine go ?_ | (refine VSome.mk ?_; intro gQ hA'; first | subst hA' | cases hA' | (dsimp only at hA'; subst hA')) | refine And.intro ?_ ?_ | intro _))
    (conv => whnf); refine VRet.mk fun w' m => ?_
    exact ⟨by rw [List.take_length], m.keeps.below⟩
theorem digit {n : Nat} (h : n < 10) : (tx [48, 49, 50, 51, 52, 53, 54, 55, 56, 57]).extract n (n + 1) = tx [UInt8.ofNat (48 + n)] := by
  rw [tx_sub]
  match n, h with
  | 0, _ => rfl
  | 1, _ => rfl
  | 2, _ => rfl
  | 3, _ => rfl
  | 4, _ => rfl
  | 5, _ => rfl
  | 6, _ => rfl
  | 7, _ => rfl
  | 8, _ => rfl
  | 9, _ => rfl
set_option maxHeartbeats 400000 in
theorem l1Num_v : ∀ (n : Nat) (w : World), n ≤ 1000000 → Calls Tryz.prog 61 #[.int .i64 n] w (Post (.string (tx (Lib.decDigits n))) w) := by
  intro n
  induction n using Nat.strongRecOn with
  | ind n ih =>
    intro w hn
    refine post_of_vc ?_
    refine calls_of_vc tb_ok (args := [.int .i64 n]) Tryz.func61 rfl ?_
    by_cases h10 : n < 10
    · have hd := digit h10
      (repeat' ((conv => whnf); first | refine go ?_ | (refine VSome.mk ?_; intro gQ hA'; first | subst hA' | cases hA' | (dsimp only at hA'; subst hA')) | refine And.intro ?_ ?_ | intro _ | (first | ((show VSub _ _ _ _); refine VSub.mk n (n + 1) rfl rfl (by omega) (by show n + 1 ≤ 10; omega) ?_))))
      (conv => whnf); refine VRet.mk fun w' m => ?_
      refine ⟨?_, m.keeps.below⟩
      rw [Lib.decDigits, dif_pos h10]
      exact congrArg Value.string hd
    · have hd := digit (n := n % 10) (by omega)
      have hr : ∀ w1, Calls Tryz.prog 61 #[.int .i64 ((n : Int) / 10)] w1 (Post (.string (tx (Lib.decDigits (n / 10)))) w1) := fun w1 => ih (n / 10) (by omega) w1 (by omega)
      have hl := dd_len 5 (n / 10) (by omega)
      (repeat' ((conv => whnf); first | refine go ?_ | (refine VSome.mk ?_; intro gQ hA'; first | subst hA' | cases hA' | (dsimp only at hA'; subst hA')) | refine And.intro ?_ ?_ | intro _ | (first | ((show VCall _ _ _ 61 _ _); refine VCall.grow _ (fun w1 _ => hr w1) ?_) | ((show VDraw _ _ _ _ _ _); refine VDraw.mk (.take 0 (.take 1 (.take 3 (.take 4 (.take 5 (.take 6 (.take 7 (.take 8 (.br 2 (.take 9 (.take 10 .done)) .done))))))))) [] (by kernel_rfl) (by kernel_rfl) ?_) | ((show VSub _ _ _ _); refine VSub.mk (n % 10) (n % 10 + 1) rfl rfl (by omega) (by show n % 10 + 1 ≤ 10; omega) ?_) | ((show VCat _ _ _); rw [show ({ data := #[48, 49, 50, 51, 52, 53, 54, 55, 56, 57] } : ByteArray).extract (n % 10) (n % 10 + 1) = tx [UInt8.ofNat (48 + n % 10)] from hd]; refine VCat.of (by show _ + 1 ≤ _; omega) ?_))))
      (conv => whnf); refine VRet.mk fun w' m => ?_
      refine ⟨?_, m.keeps.below⟩
      conv => rhs; rw [Lib.decDigits, dif_neg h10]
theorem bod_eq (k : Nat) (c r : List UInt8) : Lib.decDigits k ++ [32] ++ c ++ [64] ++ r = bod k c r := by unfold bod; simp
set_option maxHeartbeats 400000 in
theorem appendSum_v (t : List UInt8) (w : World) (hl : t.length ≤ 3000) (h : 35 ∉ t) (ht : PTab w) : Calls Tryz.prog 152 #[.string (tx t)] w (Post (.tuple #[.string (tx (sl t)), .bool true]) w) := by
  have hn := tx_size t
  have hc := chk_lt t
  have hd := dd_len 5 (chk t) (by omega)
  have hs := tx_size (t ++ [35] ++ Lib.decDigits (chk t))
  rw [List.length_append, List.length_append] at hs
  replace hs : _ = t.length + 1 + (Lib.decDigits (chk t)).length := hs
  refine post_of_vc ?_
  refine calls_of_vc tb_ok (args := [.string (tx t)]) Tryz.func152 rfl ?_
  have hC := fun w => contains_v 35 t w
  rw [tr_no h] at hC
  (repeat' ((conv => whnf); first | refine go ?_ | (refine VSome.mk ?_; intro gQ hA'; first | subst hA' | cases hA' | (dsimp only at hA'; subst hA')) | refine And.intro ?_ ?_ | intro _ | (first | ((show VCall _ _ _ 111 _ _); refine VCall.grow _ (fun w1 _ => hC w1) ?_) | ((show VCall _ _ _ 188 _ _); refine VCall.grow _ (fun w1 _ => checksum_v t w1 (by omega)) ?_) | ((show VCall _ _ _ 59 _ _); refine VCall.grow _ (fun w1 m1 => itoa_v _ w1 (by omega) (ht.on m1)) ?_) | ((show VCat _ _ _); refine VCat.of (by simp only [List.length_append, List.length_cons, List.length_nil]; omega) ?_))))
  (conv => whnf); refine VRet.mk fun w' m => ?_
  refine ⟨?_, m.keeps.below⟩
  unfold sl
  simp
set_option maxHeartbeats 400000 in
theorem l1Seal_v (t : List UInt8) (w : World) (hl : t.length ≤ 3000) : Calls Tryz.prog 136 #[.string (tx t)] w (Post (.string (tx (sl t))) w) := by
  have hn := tx_size t
  have hc := chk_lt t
  have hd := dd_len 5 (chk t) (by omega)
  refine post_of_vc ?_
  refine calls_of_vc tb_ok (args := [.string (tx t)]) Tryz.func136 rfl ?_
  (repeat' ((conv => whnf); first | refine go ?_ | (refine VSome.mk ?_; intro gQ hA'; first | subst hA' | cases hA' | (dsimp only at hA'; subst hA')) | refine And.intro ?_ ?_ | intro _ | (first | ((show VCall _ _ _ 174 _ _); refine VCall.grow _ (fun w1 _ => l1Sum_v t w1 (by omega)) ?_) | ((show VCall _ _ _ 61 _ _); refine VCall.grow _ (fun w1 m1 => l1Num_v _ w1 (by omega)) ?_) | ((show VCat _ _ _); refine VCat.of (by simp only [List.length_append, List.length_cons, List.length_nil]; omega) ?_))))
  (conv => whnf); refine VRet.mk fun w' m => ?_
  refine ⟨?_, m.keeps.below⟩
  unfold sl
  simp
set_option maxHeartbeats 800000 in
theorem encode_v (k : Nat) (c r : List UInt8) (w : World) (hk : k < 100) (hg : okR c r) (ht : PTab w) : Calls Tryz.prog 115 #[.int .i64 k, .agg #[.string (tx c), .string (tx r)]] w (Post (.string (tx (ln k c r ++ [10]))) w) := by
  have hb := bod_len hk hg
  have hll := ln_len hk hg
  have hd := dd_len 1 k (by omega)
  have hA := fun w ht => appendSum_v (bod k c r) w (by omega) (bod_hash hg) ht
  rw [← bod_eq] at hA
  obtain ⟨_, _, _, h160, h200, _⟩ := hg
  refine post_of_vc ?_
  refine calls_of_vc tb_ok (args := [.int .i64 k, .agg #[.string (tx c), .string (tx r)]]) Tryz.func115 rfl ?_
  (repeat' ((conv => whnf); first | refine go ?_ | (refine VSome.mk ?_; intro gQ hA'; first | subst hA' | cases hA' | (dsimp only at hA'; subst hA')) | refine And.intro ?_ ?_ | intro _ | (first | ((show VCall _ _ _ 59 _ _); refine VCall.grow _ (fun w1 m1 => itoa_v _ w1 (by omega) (ht.on m1)) ?_) | ((show VCall _ _ _ 152 _ _); refine VCall.grow _ (fun w1 m1 => hA w1 (ht.on m1)) ?_) | ((show VDraw _ _ _ _ _ _); refine VDraw.mk (.take 0 (.take 3 (.take 4 (.take 7 (.take 8 (.br 1 (.take 2 (.take 5 (.take 6 (.take 9 (.br 10 (.take 11 (.take 12 (.take 13 (.take 14 (.take 15 .done))))) .done))))) .done)))))) [0] (by kernel_rfl) (by kernel_rfl) ?_) | ((show VCat _ _ _); refine VCat.of (by first | (simp only [List.length_append, List.length_cons, List.length_nil]; omega) | (rw [bod_eq]; show (ln k c r).length + 1 ≤ _; omega)) ?_))))
  (conv => whnf); refine VRet.mk fun w' m => ?_
  refine ⟨?_, m.keeps.below⟩
  rw [bod_eq]
  rfl
set_option maxHeartbeats 800000 in
theorem l27Line_v (k : Nat) (c r : List UInt8) (w : World) (hk : k < 100) (hg : okR c r) : Calls Tryz.prog 104 #[.int .i64 k, .agg #[.string (tx c), .string (tx r)]] w (Post (.string (tx (ln k c r ++ [10]))) w) := by
  have hb := bod_len hk hg
  have hll := ln_len hk hg
  have hd := dd_len 1 k (by omega)
  have hA := fun w => l1Seal_v (bod k c r) w (by omega)
  rw [← bod_eq] at hA
  obtain ⟨_, _, _, h160, h200, _⟩ := hg
  refine post_of_vc ?_
  refine calls_of_vc tb_ok (args := [.int .i64 k, .agg #[.string (tx c), .string (tx r)]]) Tryz.func104 rfl ?_
  (repeat' ((conv => whnf); first | refine go ?_ | (refine VSome.mk ?_; intro gQ hA'; first | subst hA' | cases hA' | (dsimp only at hA'; subst hA')) | refine And.intro ?_ ?_ | intro _ | (first | ((show VCall _ _ _ 61 _ _); refine VCall.grow _ (fun w1 m1 => l1Num_v _ w1 (by omega)) ?_) | ((show VCall _ _ _ 136 _ _); refine VCall.grow _ (fun w1 m1 => hA w1) ?_) | ((show VDraw _ _ _ _ _ _); refine VDraw.mk (.take 0 (.take 3 (.take 4 (.take 7 (.take 8 (.br 1 (.take 2 (.take 5 (.take 6 (.take 9 (.br 10 (.take 11 (.take 12 .done)) .done))))) .done)))))) [0] (by kernel_rfl) (by kernel_rfl) ?_) | ((show VCat _ _ _); refine VCat.of (by first | (simp only [List.length_append, List.length_cons, List.length_nil]; omega) | (rw [bod_eq]; show (ln k c r).length + 1 ≤ _; omega)) ?_))))
  (conv => whnf); refine VRet.mk fun w' m => ?_
  refine ⟨?_, m.keeps.below⟩
  rw [bod_eq]
  rfl
def TS (ps : List (List UInt8)) : List Value := ps.map fun p => .string (tx p)
theorem TS_len1 (l : List (List UInt8)) : (TS l).length = l.length * 1 := by simp [TS]
theorem TS_app (a b : List (List UInt8)) : TS (a ++ b) = TS a ++ TS b := List.map_append
set_option maxHeartbeats 800000 in
theorem l1Split_v (b : UInt8) (x : Int) (l : List UInt8) (w : World) (hx : x = (b.toNat : Int)) (hl : l.length ≤ 2097152) :
    Calls Tryz.prog 44 #[.string (tx l), .int .u8 x] w fun e w' => ∃ v, e = .returned v ∧ RetV (ι := Nat × Nat) (fun _ => True) (fun (g, c) => .slice (some ⟨g, 0, none⟩) (sps b l).length c) (fun (g, c) => [.row (.slice (some ⟨g, 0, none⟩) (sps b l).length c) 9 1 (sps b l).length (TS (sps b l))]) (Base.of w) v w' := by
  have hsz := tx_size l
  refine calls_of_vc tb_ok (args := [.string (tx l), .int .u8 x]) Tryz.func44 rfl ?_
  (repeat' ((conv => whnf); first | refine go ?_ | (refine VSome.mk ?_; intro gQ hA'; first | subst hA' | cases hA' | (dsimp only at hA'; subst hA')) | refine And.intro ?_ ?_ | intro _))
  rename_i g
  (conv => whnf)
  refine VLoop.mk (ι := Nat × Nat × Nat) [5, 6, 7, 9, 10, 11, 12, 13, 14, 15, 16, 17, 18, 19, 20, 21, 22, 23, 24, 25, 26, 27, 28] (fun (k, g, c) => [(7, .int .i64 k), (5, .slice (some ⟨g, 0, none⟩) (spl b l k).1.length c), (6, .int .i64 (spl b l k).2)]) (fun (k, g, c) => [.row (.slice (some ⟨g, 0, none⟩) (spl b l k).1.length c) 9 1 (spl b l k).1.length (TS (spl b l k).1)]) (fun i => i.1 ≤ l.length) (fun i => l.length - i.1) (0, g, 0) (Nat.zero_le _) ?_ (OwnLe.mk [0] (by simp) rfl) (fun i u hk => ?_)
  · ((conv => whnf); repeat (first | exact trivial | refine ⟨rfl, ?_⟩ | refine ⟨congrArg (Value.int .i64) (by first | omega | assumption | exact Eq.symm (by assumption)), ?_⟩))
  obtain ⟨k, g, c⟩ := i
  replace hk : k ≤ l.length := hk
  obtain ⟨hle1, hle2⟩ := spl_le b l k
  by_cases hlt : k < l.length
  · have hget : l[k]? = some l[k] := List.getElem?_eq_getElem hlt
    by_cases hc : l[k] = b
    · have es := spl_yes (c := b) (l := l) (k := k) (by rw [hget, hc])
      have hcI : (((tx l)[k]'(by rw [hsz]; exact hlt)).toNat : Int) = x := by rw [hx]; show ((l[k]).toNat : Int) = _; rw [hc]
      have e5 : (spl b l (k + 1)).1.length = (spl b l k).1.length + 1 := by rw [es, List.length_append]; rfl
      have e4 : (spl b l (k + 1)).2 = k + 1 := by rw [es]
      have e6 : TS (spl b l (k + 1)).1 = TS (spl b l k).1 ++ [.string ((tx l).extract (spl b l k).2 k)] := by rw [es, TS_app, tx_sub]; rfl
      (repeat' ((conv => whnf); first | refine go ?_ | (refine VSome.mk ?_; intro gQ hA'; first | subst hA' | cases hA' | (dsimp only at hA'; subst hA')) | refine And.intro ?_ ?_ | intro _ | (first | ((show VSub _ _ _ _); refine VSub.mk (spl b l k).2 k rfl rfl hle1 (by omega) ?_))))
      (conv => whnf)
      (refine VApp.pushS 0 1 rfl rfl rfl rfl rfl (by omega) (by omega) (fun g' c' => ?_))
      (repeat' ((conv => whnf); first | refine go ?_ | (refine VSome.mk ?_; intro gQ hA'; first | subst hA' | cases hA' | (dsimp only at hA'; subst hA')) | refine And.intro ?_ ?_ | intro _))
      (conv => whnf)
      refine VNext.mk (k + 1, g', c') hlt (by show l.length - (k + 1) < l.length - k; omega) ?_ (OwnLe.mk [0] (by simp) (by show [_] = [_]; rw [e5, e6]; rfl))
      (conv => whnf)
      repeat (first | exact trivial | refine ⟨rfl, ?_⟩ | refine ⟨by rw [e5], ?_⟩ | refine ⟨by rw [e4]; rfl, ?_⟩)
    · have es := spl_no (c := b) (l := l) (k := k) (by rw [hget]; simpa using hc)
      have hcI : ¬ (((tx l)[k]'(by rw [hsz]; exact hlt)).toNat : Int) = x := by
        rw [hx]
        show ¬ ((l[k]).toNat : Int) = _
        intro h
        exact hc (UInt8.toNat_inj.1 (by omega))
      (repeat' ((conv => whnf); first | refine go ?_ | (refine VSome.mk ?_; intro gQ hA'; first | subst hA' | cases hA' | (dsimp only at hA'; subst hA')) | refine And.intro ?_ ?_ | intro _))
      (conv => whnf)
      refine VNext.mk (k + 1, g, c) hlt (by show l.length - (k + 1) < l.length - k; omega) ?_ (OwnLe.mk [0] (by simp) (by show [_] = [_]; rw [es]; rfl))
      (conv => whnf)
      repeat (first | exact trivial | refine ⟨rfl, ?_⟩ | refine ⟨by rw [es], ?_⟩)
  obtain rfl : k = l.length := by omega
  (repeat' ((conv => whnf); first | refine go ?_ | (refine VSome.mk ?_; intro gQ hA'; first | subst hA' | cases hA' | (dsimp only at hA'; subst hA')) | refine And.intro ?_ ?_ | intro _ | (first | ((show VSub _ _ _ _); refine VSub.mk (spl b l l.length).2 (tx l).size rfl rfl (by omega) (by omega) ?_))))
  (conv => whnf)
  (refine VApp.pushS 0 1 rfl rfl rfl rfl rfl (by omega) (by omega) (fun g' c' => ?_))
  (repeat' ((conv => whnf); first | refine go ?_ | (refine VSome.mk ?_; intro gQ hA'; first | subst hA' | cases hA' | (dsimp only at hA'; subst hA')) | refine And.intro ?_ ?_ | intro _))
  (conv => whnf)
  have e6 : TS (sps b l) = TS (spl b l l.length).1 ++ [.string ((tx l).extract (spl b l l.length).2 (tx l).size)] := by unfold sps; rw [TS_app, tx_sub, tx_size, List.take_length]; rfl
  have e5 : (sps b l).length = (spl b l l.length).1.length + 1 := by unfold sps; rw [List.length_append]; rfl
  rw [e5, e6]
  exact VRet.sel (g', c') trivial rfl [0] (by simp) rfl
end Go.Proofs.YtadjhkehfklmnaaGreatDoor
namespace Go.Proofs.YtadjhkehfklmnaaGreatDoor
set_option linter.unusedSimpArgs false
set_option linter.unusedVariables false
open Go.RowKit
set_option maxRecDepth 10000
theorem decFrom_snoc (b : UInt8) : ∀ (l : List UInt8) (acc : Nat), Lib.decFrom acc (l ++ [b]) = match Lib.decFrom acc l with
    | some m => (match Lib.digitVal b with
      | some d => some (m * 10 + d)
      | none => none)
    | none => none
  | [], acc => by
    show (match Lib.digitVal b with
      | some d => Lib.decFrom (acc * 10 + d) []
      | none => none) = _
    cases Lib.digitVal b <;> rfl
  | c :: l, acc => by
    show (match Lib.digitVal c with
      | some d => Lib.decFrom (acc * 10 + d) (l ++ [b])
      | none => none) = match (match Lib.digitVal c with
      | some d => Lib.decFrom (acc * 10 + d) l
      | none => none) with
      | some m => _
      | none => none
    cases Lib.digitVal c with
    | none => rfl
    | some d => exact decFrom_snoc b l _
theorem digit_of {u : Nat} (h : u < 10) : Lib.digitVal (UInt8.ofNat (48 + u)) = some u := by
  have e : (UInt8.ofNat (48 + u)).toNat = 48 + u := by
    rw [UInt8.toNat_ofNat']
    omega
  unfold Lib.digitVal
  rw [e, if_pos ⟨by omega, by omega⟩]
  congr 1
  omega
theorem decFrom_dd (n : Nat) : Lib.decFrom 0 (Lib.decDigits n) = some n := by
  induction n using Nat.strongRecOn with
  | ind n ih =>
    rw [Lib.decDigits]
    by_cases h : n < 10
    · rw [dif_pos h]
      show (match Lib.digitVal (UInt8.ofNat (48 + n)) with
        | some d => Lib.decFrom (0 * 10 + d) []
        | none => none) = some n
      rw [digit_of h]
      show some (0 * 10 + n) = some n
      congr 1
      omega
    · rw [dif_neg h, decFrom_snoc, ih (n / 10) (by omega), digit_of (by omega)]
      show some (n / 10 * 10 + n % 10) = some n
      congr 1
      omega
theorem digitVal_in {b : UInt8} {d : Nat} (h : Lib.digitVal b = some d) : 48 ≤ b.toNat ∧ b.toNat ≤ 57 ∧ d = b.toNat - 48 := by
  unfold Lib.digitVal at h
  split at h
  · rename_i h1
    cases h
    exact ⟨h1.1, h1.2, rfl⟩
  · cases h
theorem digitVal_yes {b : UInt8} (h1 : 48 ≤ b.toNat) (h2 : b.toNat ≤ 57) : Lib.digitVal b = some (b.toNat - 48) := if_pos ⟨h1, h2⟩
theorem dd_dig (n : Nat) {k : Nat} {b : UInt8} (h : (Lib.decDigits n)[k]? = some b) : 48 ≤ b.toNat ∧ b.toNat ≤ 57 := by
  obtain ⟨d, hd⟩ := Lib.digit_of_decFrom _ 0 n (decFrom_dd n) k b h
  have := digitVal_in hd
  exact ⟨this.1, this.2.1⟩
theorem dd_ne (n : Nat) : Lib.decDigits n ≠ [] := by
  rw [Lib.decDigits]
  split
  · simp
  · simp
theorem decNat_dd (n : Nat) : Lib.decNat (Lib.decDigits n) = some n := by
  unfold Lib.decNat
  rw [if_neg (by rw [List.isEmpty_iff]; exact dd_ne n)]
  exact decFrom_dd n
theorem atoi_itoa (n : Int) : Lib.atoi (Lib.itoa n) = some n := by
  unfold Lib.itoa
  by_cases h : n < 0
  · rw [if_pos h]
    show (if ((45 : UInt8) == 45) = true then (Lib.decNat (Lib.decDigits n.natAbs)).map (fun (m : Nat) => -(m : Int)) else (if ((45 : UInt8) == 43) = true then (Lib.decNat (Lib.decDigits n.natAbs)).map (fun (m : Nat) => (m : Int)) else (Lib.decNat (45 :: Lib.decDigits n.natAbs)).map (fun (m : Nat) => (m : Int)))) = some n
    rw [if_pos (beq_self_eq_true _), decNat_dd]
    show some (-(n.natAbs : Int)) = some n
    congr 1
    omega
  · rw [if_neg h]
    obtain ⟨b, r, e⟩ : ∃ b r, Lib.decDigits n.toNat = b :: r := by
      cases e : Lib.decDigits n.toNat with
      | nil => exact absurd e (dd_ne _)
      | cons b r => exact ⟨b, r, rfl⟩
    have hd := dd_dig n.toNat (k := 0) (b := b) (by rw [e]; rfl)
    have h1 : (b == 45) = false := by
      rw [beq_eq_false_iff_ne]
      intro q
      rw [q] at hd
      exact absurd hd.1 (by decide)
    have h2 : (b == 43) = false := by
      rw [beq_eq_false_iff_ne]
      intro q
      rw [q] at hd
      exact absurd hd.1 (by decide)
    have h3 := decNat_dd n.toNat
    rw [e] at h3 ⊢
    show (if (b == 45) = true then (Lib.decNat r).map (fun (m : Nat) => -(m : Int)) else (if (b == 43) = true then (Lib.decNat r).map (fun (m : Nat) => (m : Int)) else (Lib.decNat (b :: r)).map (fun (m : Nat) => (m : Int)))) = some n
    rw [h1, h2, if_neg (by simp), if_neg (by simp), h3]
    show some ((n.toNat : Nat) : Int) = some n
    congr 1
    omega
def rdV (l : List UInt8) : Int × Bool := match Lib.atoi l with
  | some n => if (-999999 ≤ n ∧ n ≤ 999999) ∧ Lib.itoa n = l then (n, true) else (0, false)
  | none => (0, false)
theorem rdV_itoa {n : Int} (h1 : -999999 ≤ n) (h2 : n ≤ 999999) : rdV (Lib.itoa n) = (n, true) := by
  unfold rdV
  rw [atoi_itoa]
  exact if_pos ⟨⟨h1, h2⟩, rfl⟩
theorem rdV_cases (l : List UInt8) : (∃ n : Int, (-999999 ≤ n ∧ n ≤ 999999) ∧ l = Lib.itoa n ∧ rdV l = (n, true)) ∨ ((∀ n : Int, -999999 ≤ n → n ≤ 999999 → ¬ l = Lib.itoa n) ∧ rdV l = (0, false)) := by
  by_cases h : ∃ n : Int, (-999999 ≤ n ∧ n ≤ 999999) ∧ l = Lib.itoa n
  · obtain ⟨n, h1, h2⟩ := h
    exact .inl ⟨n, h1, h2, by rw [h2]; exact rdV_itoa h1.1 h1.2⟩
  · refine .inr ⟨fun n h1 h2 h3 => h ⟨n, ⟨h1, h2⟩, h3⟩, ?_⟩
    unfold rdV
    split
    · rename_i n _
      exact if_neg fun q => h ⟨n, q.1, q.2.symm⟩
    · rfl
def unS (l : List UInt8) : List UInt8 := if 1 < l.length ∧ l[0]? = some 45 then l.drop 1 else l
theorem unS_yes {l : List UInt8} (h1 : 1 < l.length) (h2 : l[0]? = some 45) : unS l = l.drop 1 := if_pos ⟨h1, h2⟩
theorem unS_no {l : List UInt8} (h : ¬ (1 < l.length ∧ l[0]? = some 45)) : unS l = l := if_neg h
theorem unS_itoa {n : Int} : unS (Lib.itoa n) = Lib.decDigits n.natAbs ∧ (n < 0 ↔ (unS (Lib.itoa n)).length < (Lib.itoa n).length) := by
  unfold Lib.itoa
  by_cases h : n < 0
  · rw [if_pos h]
    have h1 : 1 < (45 :: Lib.decDigits n.natAbs).length := by
      have := dd_ne n.natAbs
      have : 0 < (Lib.decDigits n.natAbs).length := List.length_pos_iff.2 this
      simp
      omega
    rw [unS_yes h1 rfl]
    refine ⟨rfl, fun _ => ?_, fun _ => h⟩
    simp
  · rw [if_neg h]
    have e : n.toNat = n.natAbs := by omega
    have h1 : ¬ (1 < (Lib.decDigits n.toNat).length ∧ (Lib.decDigits n.toNat)[0]? = some 45) := fun q => by
      have := dd_dig _ q.2
      exact absurd this.1 (by decide)
    rw [unS_no h1, e]
    exact ⟨rfl, fun q => absurd q h, fun q => absurd q (Nat.lt_irrefl _)⟩
theorem itoa_len {n : Int} (h1 : -999999 ≤ n) (h2 : n ≤ 999999) : 1 ≤ (Lib.itoa n).length ∧ (Lib.itoa n).length ≤ 7 := by
  unfold Lib.itoa
  have hp : ∀ m : Nat, 0 < (Lib.decDigits m).length := fun m => List.length_pos_iff.2 (dd_ne m)
  split
  · have := dd_len 5 n.natAbs (by omega)
    have := hp n.natAbs
    simp
    omega
  · have := dd_len 5 n.toNat (by omega)
    have := hp n.toNat
    omega
theorem itoaN (n : Nat) : Lib.itoa (n : Int) = Lib.decDigits n := Lib.itoa_nonneg n
theorem VSub.tx {p q : List UInt8} {lo hi : Option Value} {K : Value → Prop} (l h : Nat) (hl : bnd lo 0 l) (hh : bnd hi (tx p).size h) (h1 : l ≤ h) (h2 : h ≤ p.length) (e : (p.take h).drop l = q) (k : K (.string (tx q))) : VSub (tx p) lo hi K :=
  .mk l h hl hh h1 (by rw [tx_size]; exact h2) (by rw [tx_sub, e]; exact k)
theorem rdV_no {l : List UInt8} (h : ∀ n : Int, -999999 ≤ n → n ≤ 999999 → ¬ l = Lib.itoa n) : rdV l = (0, false) := by
  rcases rdV_cases l with ⟨n, h1, h2, _⟩ | ⟨_, h2⟩
  · exact absurd h2 (h n h1.1 h1.2)
  · exact h2
theorem rdV_no_len {l : List UInt8} (h : ¬ (1 ≤ (unS l).length ∧ (unS l).length ≤ 6)) : rdV l = (0, false) := rdV_no fun n h1 h2 e => by
  subst e
  rw [unS_itoa.1] at h
  have h3 := dd_len 5 n.natAbs (by omega)
  have h4 : 0 < (Lib.decDigits n.natAbs).length := List.length_pos_iff.2 (dd_ne _)
  omega
theorem rdV_no_digit {l : List UInt8} {k : Nat} (hk : k < (unS l).length) (hb : ¬ (48 ≤ ((unS l).getD k 0).toNat ∧ ((unS l).getD k 0).toNat ≤ 57)) : rdV l = (0, false) := rdV_no fun n h1 h2 e => by
  subst e
  rw [unS_itoa.1] at hk hb
  rw [List.getD_eq_getElem?_getD, List.getElem?_eq_getElem hk] at hb
  exact hb (dd_dig n.natAbs (List.getElem?_eq_getElem hk))
def sgV (l : List UInt8) (acc : Nat) : Int := if (unS l).length < l.length then -(acc : Int) else acc
theorem sgV_no {l : List UInt8} {acc : Nat} (h : Lib.decFrom 0 (unS l) = some acc) (hne : ¬ Lib.itoa (sgV l acc) = l) : rdV l = (0, false) := rdV_no fun n h1 h2 e => by
  apply hne
  subst e
  obtain ⟨e1, e2⟩ := unS_itoa (n := n)
  rw [e1, decFrom_dd] at h
  injection h with h
  have e3 : sgV (Lib.itoa n) acc = n := by
    unfold sgV
    split
    · rename_i q
      have := e2.2 q
      omega
    · rename_i q
      have : ¬ n < 0 := fun q2 => q (e2.1 q2)
      omega
  rw [e3]
theorem sgV_yes {l : List UInt8} {acc : Nat} (ha : acc ≤ 999999) (he : Lib.itoa (sgV l acc) = l) : rdV l = (sgV l acc, true) := by
  have := rdV_itoa (n := sgV l acc) (by unfold sgV; split <;> omega) (by unfold sgV; split <;> omega)
  rw [he] at this
  exact this
theorem digits_suc {t : List UInt8} {k acc : Nat} (hk : k < t.length) (h : Lib.decFrom 0 (t.take k) = some acc) (h1 : 48 ≤ (t.getD k 0).toNat) (h2 : (t.getD k 0).toNat ≤ 57) : Lib.decFrom 0 (t.take (k + 1)) = some (10 * acc + ((t.getD k 0).toNat - 48)) := by
  have hg : t[k]? = some (t.getD k 0) := by rw [List.getD_eq_getElem?_getD, List.getElem?_eq_getElem hk]; rfl
  rw [Lib.decFrom_take t k 0 acc _ _ h hg (digitVal_yes h1 h2)]
  congr 1
  omega
theorem digits_lt {t : List UInt8} {k acc : Nat} (hk : k ≤ 6) (h : Lib.decFrom 0 (t.take k) = some acc) : acc ≤ 999999 := by
  have h1 := Lib.decFrom_lt _ _ _ h
  have h2 : (t.take k).length ≤ 6 := by rw [List.length_take]; omega
  have h3 : 10 ^ (t.take k).length ≤ 10 ^ 6 := Nat.pow_le_pow_right (by decide) h2
  omega
end Go.Proofs.YtadjhkehfklmnaaGreatDoor
namespace Go.Proofs.YtadjhkehfklmnaaGreatDoor
set_option linter.unusedSimpArgs false
set_option linter.unusedVariables false
open Go.RowKit
set_option maxRecDepth 10000
theorem spl_shift {c : UInt8} {p q : List UInt8} (h : c ∉ p) : ∀ k, spl c (p ++ c :: q) (p.length + 1 + k) = (p :: (spl c q k).1, p.length + 1 + (spl c q k).2)
  | 0 => spl_one h
  | k + 1 => by
    have e : (p ++ c :: q)[p.length + 1 + k]? = q[k]? := by
      rw [List.getElem?_append_right (by omega), show p.length + 1 + k - p.length = k + 1 by omega, List.getElem?_cons_succ]
    have ih := spl_shift (q := q) h k
    rw [show p.length + 1 + (k + 1) = p.length + 1 + k + 1 from rfl]
    by_cases hc : q[k]? = some c
    · rw [spl_yes (e.trans hc), spl_yes hc, ih]
      have e2 : ((p ++ c :: q).take (p.length + 1 + k)).drop (p.length + 1 + (spl c q k).2) = (q.take k).drop (spl c q k).2 := by
        have e3 : p ++ c :: q = (p ++ [c]) ++ q := by simp
        have e4 : (p ++ [c]).length = p.length + 1 := by simp
        rw [e3, ← e4, List.take_length_add_append, List.drop_length_add_append]
      dsimp only
      rw [e2]
      rfl
    · rw [spl_no (fun x => hc (e.symm.trans x)), spl_no hc, ih]
theorem sps_cons {c : UInt8} {p q : List UInt8} (h : c ∉ p) : sps c (p ++ c :: q) = p :: sps c q := by
  unfold sps
  have e1 : (p ++ c :: q).length = p.length + 1 + q.length := by simp; omega
  have e3 : p ++ c :: q = (p ++ [c]) ++ q := by simp
  have e4 : (p ++ [c]).length = p.length + 1 := by simp
  rw [e1, spl_shift h]
  dsimp only
  rw [e3, ← e4, List.drop_length_add_append]
  rfl
theorem sps_none {c : UInt8} {l : List UInt8} (h : c ∉ l) : sps c l = [l] := by
  unfold sps
  rw [spl_none _ (fun i _ e => h (List.mem_of_getElem? e))]
  rfl
theorem sps_ne (c : UInt8) (l : List UInt8) : 1 ≤ (sps c l).length := by unfold sps; simp
theorem sps_len (c : UInt8) (l : List UInt8) : (sps c l).length ≤ l.length + 1 := by
  have := (spl_le c l l.length).2
  unfold sps
  simp
  exact this
theorem sps_total (c : UInt8) : ∀ (m : Nat) (l : List UInt8), l.length ≤ m → ∀ p ∈ sps c l, p.length ≤ l.length ∧ c ∉ p
  | m, l, hm, p, hp => by
    by_cases hc : c ∈ l
    · obtain ⟨e, hn⟩ := bfs_yes hc
      have hl := bfs_len hc
      cases m with
      | zero => omega
      | succ m =>
        have e2 : sps c l = bfs c l :: sps c (afs c l) := by
          conv => lhs; rw [e]
          exact sps_cons hn
        rw [e2] at hp
        rcases List.mem_cons.1 hp with h | h
        · rw [h]; exact ⟨by omega, hn⟩
        · have := sps_total c m (afs c l) (by omega) p h
          exact ⟨by omega, this.2⟩
    · rw [sps_none hc, List.mem_singleton] at hp
      rw [hp]
      exact ⟨Nat.le_refl _, hc⟩
theorem split_sps (c : UInt8) : ∀ (m : Nat) (l : List UInt8), l.length ≤ m → Lib.splitK [c] 0 (Lib.count l [c]) l = sps c l
  | m, l, hm => by
    have hi := Lib.index_one l c
    rcases index_bfs c l with ⟨h1, h2, h3, h4⟩ | ⟨o, h1, h2, h3, h4, h5⟩
    · rw [h1] at hi
      rw [Lib.count_miss hi, sps_none h4]
      rfl
    · rw [h1] at hi
      have hc := Lib.count_hit (by simp) hi
      have hb := bfs_len h5
      cases m with
      | zero => omega
      | succ m =>
        have e2 : sps c l = bfs c l :: sps c (afs c l) := by
          obtain ⟨e, hn⟩ := bfs_yes h5
          conv => lhs; rw [e]
          exact sps_cons hn
        have ih := split_sps c m (afs c l) (by omega)
        rw [e2, hc, Nat.add_comm 1]
        unfold Lib.splitK
        rw [hi, if_neg (by simp <;> omega)]
        rw [show ((o : Int)).toNat = o from rfl, Nat.add_zero, ← h3]
        rw [show o + [c].length = o + 1 from rfl, ← h4, ih]
theorem splitB_sps (c : UInt8) (l : List UInt8) : Lib.splitB (tx [c]) 0 (Lib.countB (tx l) (tx [c])) (tx l) = (sps c l).map tx := by
  have h := Lib.splitB_data (tx [c]) 0 (Lib.countB (tx l) (tx [c])) (tx l)
  have e : Lib.countB (tx l) (tx [c]) = Lib.count l [c] := rfl
  rw [e] at h ⊢
  have h2 : Lib.splitK (tx [c]).data.toList 0 (Lib.count l [c]) (tx l).data.toList = sps c l := split_sps c l.length l (Nat.le_refl _)
  rw [h2] at h
  rw [← h, List.map_map]
  have e3 : (tx ∘ fun (x : ByteArray) => x.data.toList) = id := by
    funext x
    exact tx_list x
  rw [e3, List.map_id]
def ltx (l : List Int) : List UInt8 := match l with
  | [] => [110, 111, 110, 101]
  | l => Lib.join (l.map Lib.itoa) [32]
theorem ltx_cons (x : Int) (r : List Int) : ltx (x :: r) = Lib.itoa x ++ Lib.joinTail [32] (r.map Lib.itoa) := by
  unfold ltx
  dsimp only
  rw [List.map_cons, Lib.join_cons]
def wLevel : List UInt8 := [108, 101, 118, 101, 108]
def wWater : List UInt8 := [119, 97, 116, 101, 114]
def wStep : List UInt8 := [115, 116, 101, 112]
def wLeave : List UInt8 := [108, 101, 97, 118, 101]
def wBest : List UInt8 := [98, 101, 115, 116]
def wDelay : List UInt8 := [100, 101, 108, 97, 121]
def wBound : List UInt8 := [98, 111, 117, 110, 100]
def wGo : List UInt8 := [103, 111]
def wPlan : List UInt8 := [112, 108, 97, 110]
def wHead : List UInt8 := [104, 101, 97, 100]
def wFlow : List UInt8 := [102, 108, 111, 119]
def wArrive : List UInt8 := [97, 114, 114, 105, 118, 101]
def wLow : List UInt8 := [108, 111, 119]
def wHigh : List UInt8 := [104, 105, 103, 104]
def wDown : List UInt8 := [100, 111, 119, 110]
def wUp : List UInt8 := [117, 112]
def wOk : List UInt8 := [111, 107]
def wLong : List UInt8 := [108, 111, 110, 103]
def wBad : List UInt8 := [98, 97, 100]
def wFull : List UInt8 := [102, 117, 108, 108]
def wNo : List UInt8 := [110, 111]
def wAsk : List UInt8 := [63]
def pat (w : List UInt8) : List UInt8 × Bool :=
  if w = wLevel ∨ w = wWater then ([], true)
  else if w = wStep ∨ w = wLeave ∨ w = wBest ∨ w = wDelay ∨ w = wBound then ([110], true)
  else if w = wGo ∨ w = wPlan ∨ w = wHead then ([115], true)
  else if w = wFlow then ([110, 110, 110], true)
  else if w = wArrive then ([110, 119, 110, 110], true)
  else ([], false)
def rw1 (p : UInt8) (w : List UInt8) : Option Int :=
  if p = 110 then (if (rdV w).2 = true then some (rdV w).1 else none)
  else if p = 115 then (if w = wLow then some 0 else if w = wHigh then some 1 else none)
  else (if w = wDown then some 0 else if w = wUp then some 1 else none)
def rwZ : List UInt8 → List (List UInt8) → Option (List Int)
  | [], [] => some []
  | p :: ps, w :: ws => match rw1 p w, rwZ ps ws with
    | some x, some l => some (x :: l)
    | _, _ => none
  | _, _ => none
def parse (line : List UInt8) : Option (List UInt8 × List Int) := match sps 32 line with
  | [] => none
  | w :: r => if (pat w).2 = true then (rwZ (pat w).1 r).map fun l => (w, l) else none
theorem rwZ_cons (p : UInt8) (ps : List UInt8) (w : List UInt8) (ws : List (List UInt8)) : rwZ (p :: ps) (w :: ws) = match rw1 p w, rwZ ps ws with
    | some x, some l => some (x :: l)
    | _, _ => none := rfl
theorem rwZ_some {p : UInt8} {ps : List UInt8} {w : List UInt8} {ws : List (List UInt8)} {x : Int} (h : rw1 p w = some x) (o : List Int) : (rwZ (p :: ps) (w :: ws)).map (o ++ ·) = (rwZ ps ws).map ((o ++ [x]) ++ ·) := by
  rw [rwZ_cons, h]
  cases rwZ ps ws with
  | none => rfl
  | some l => simp
theorem rwZ_none {p : UInt8} {ps : List UInt8} {w : List UInt8} {ws : List (List UInt8)} (h : rw1 p w = none) : rwZ (p :: ps) (w :: ws) = none := by
  rw [rwZ_cons, h]
theorem rwZ_len : ∀ {ps : List UInt8} {ws : List (List UInt8)} {l : List Int}, rwZ ps ws = some l → ws.length = ps.length ∧ l.length = ps.length
  | [], [], l, h => by cases h; exact ⟨rfl, rfl⟩
  | p :: ps, w :: ws, l, h => by
    rw [rwZ_cons] at h
    cases h1 : rw1 p w with
    | none => rw [h1] at h; cases h
    | some x =>
      cases h2 : rwZ ps ws with
      | none => rw [h1, h2] at h; cases h
      | some r =>
        rw [h1, h2] at h
        cases h
        have := rwZ_len h2
        simp [this.1, this.2]
  | [], _ :: _, l, h => by cases h
  | _ :: _, [], l, h => by cases h
end Go.Proofs.YtadjhkehfklmnaaGreatDoor
