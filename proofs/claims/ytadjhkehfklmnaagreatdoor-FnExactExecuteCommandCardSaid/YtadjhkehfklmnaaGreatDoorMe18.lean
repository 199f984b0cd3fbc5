/-
  Texts joined: how the calls that the law reaches are walked, and the plain laws behind them.
  Conditions: none beyond each statement's own premises.
-/
import Derived.Test.YtadjhkehfklmnaaGreatDoorMe17
import Derived.Laws.CopyRow
import Derived.Lib.AppendZerosOnto
namespace Go.Proofs.YtadjhkehfklmnaaGreatDoor
set_option linter.unusedSimpArgs false
set_option linter.unusedVariables false
open Go.RowKit
set_option maxRecDepth 10000
theorem VCut.rest {g n c sz l : Nat} {lo : Option Value} {K : Value → Prop} (hl : bnd lo 0 l) (h : l ≤ n) (hc : n ≤ c) (kk : ∀ off d, (l < n → off = mulS l sz) → K (.slice (some ⟨g, off, none⟩) (n - l) d)) : VCut (some ⟨g, 0, none⟩) n c sz lo none K := by
  by_cases h1 : l < c
  · exact .lt g 0 l n rfl hl rfl h hc h1 (kk _ _ fun _ => Nat.zero_add _)
  · refine .gen l n hl rfl h hc ?_
    rw [if_pos (by omega)]
    exact kk 0 _ fun h2 => by omega
/-- An own row takes a part of another own row. -/
inductive VAppPart (own : List Own) (e size n : Nat) (xs : List Value) (k off m : Nat) (cs : List Value) (K : Value → List Own → Prop) : Prop
  | mk (N : Nat) (ys news : List Value) (hl : news.length = m * size) (hr : ∀ (i : Nat) u, news[i]? = some u → cs[off + i]? = some u) (h1 : news.all (·.oneCell') = true) (hn : n + m ≤ 17179869184) (hN : n + m = N) (hy : xs ++ news = ys)
      (c : ∀ A' c', (0 < N → ∃ g, A' = some ⟨g, 0, none⟩) → N ≤ c' → setK own k (.row (.slice A' N c') e size N ys) fun own => K (.slice A' N c') own) : VAppPart own e size n xs k off m cs K
theorem VApp.partAny {w0 : Base} {own : List Own} {e size : Nat} {s : Value} {n m c k j g off n' C sz' N' e' : Nat} {xs cs : List Value} {K : Value → List Own → Prop} (h : At (.row s e size n xs) k own) (hj : At (.row (.slice (some ⟨g, 0, none⟩) n' C) e' sz' N' cs) j own) (kk : VAppPart own e size n xs k off m cs K) : VApp w0 own e size s (.slice (some ⟨g, off, none⟩) m c) K := by
  obtain ⟨N, ys, news, hl, hr, h1, hn, hN, hy, kk⟩ := kk
  subst hN hy
  exact .row k h.get rfl news hl (fun i u hu => Rd.row j hj.get (hr i u hu)) h1 hn (fun A c' hg => kk A c' hg.1 hg.2)
theorem NL_take' {l : List Nat} {j i : Nat} {u : Value} (h : (NL (l.take j))[i]? = some u) : (NL l)[0 + i]? = some u := by
  unfold NL IL at *
  rw [List.getElem?_map, List.getElem?_map, List.getElem?_take] at h
  rw [List.getElem?_map, List.getElem?_map, Nat.zero_add]
  split at h
  · exact h
  · cases h
theorem NL_drop {l : List Nat} {j i off : Nat} {u : Value} (ho : j < l.length → off = mulS j 1) (h : (NL (l.drop j))[i]? = some u) : (NL l)[off + i]? = some u := by
  have hlt : j < l.length := by
    have := (List.getElem?_eq_some_iff.1 h).1
    rw [NL_len1, List.length_drop] at this
    omega
  have e : off = j := by have := ho hlt; rw [mulS_eq] at this; omega
  subst e
  unfold NL IL at *
  rw [List.getElem?_map, List.getElem?_map, List.getElem?_drop] at h
  rw [List.getElem?_map, List.getElem?_map]
  exact h
theorem put_row {f : Nat → Aw} {k j : Nat} (hj : j ≤ k) (h : bk f (fc f k) k k = j) : NL ((fc f k).take j) ++ [.int .i64 (k : Nat)] ++ NL ((fc f k).drop j) = NL (fc f (k + 1)) := by
  rw [NL_snoc, ← NL_app]
  show _ = NL (put f (fc f k) k)
  unfold put
  rw [fc_len, h]
  simp
set_option maxHeartbeats 16000000 in
theorem sFirst_v (A : Option Addr) (n c : Nat) (f : Nat → Aw) (w : World) (hn : n ≤ 6) (hA : Seen w A (AwS n f)) :
    Calls Tryz.prog 228 #[.slice A n c] w fun e w' => ∃ v, e = .returned v ∧ RetV (ι := Option Addr × Nat) (fun _ => True) (fun (P, cp) => .slice P n cp) (fun (P, cp) => [.row (.slice P n cp) 3 1 n (NL (fc f n))]) (Base.of w) v w' := by
  refine calls_of_vc tb_ok (args := [.slice A n c]) Tryz.func228 rfl ?_
  (repeat' ((conv => whnf); first | refine go ?_ | (refine VSome.mk ?_; intro gQ hA'; first | subst hA' | cases hA' | (dsimp only at hA'; subst hA')) | refine And.intro ?_ ?_ | intro _))
  (conv => whnf)
  refine VLoop.mk (ι := Nat × Nat × Nat) [3, 4, 5, 7, 8, 9, 10, 11, 12, 13, 14, 15, 16, 17, 18, 19, 20, 21, 22, 23, 24, 25, 26, 27, 28, 29, 30, 31, 32, 33, 34, 35, 36, 37, 38, 39, 40, 41, 42, 43, 44, 45] (fun (k, g, cp) => [(4, .int .i64 k), (3, .slice (some ⟨g, 0, none⟩) k cp)]) (fun (k, g, cp) => [.row (.slice (some ⟨g, 0, none⟩) k cp) 3 1 k (NL (fc f k))]) (fun i => i.1 ≤ n ∧ i.1 ≤ i.2.2) (fun i => n - i.1) (0, _, 0) ⟨Nat.zero_le _, Nat.zero_le _⟩ ?_ (OwnLe.mk [0] (by simp) rfl) (fun i u hi => ?_)
  · ((conv => whnf); repeat (first | exact trivial | refine ⟨rfl, ?_⟩ | refine ⟨congrArg (Value.int .i64) (by first | omega | assumption | exact Eq.symm (by assumption)), ?_⟩))
  obtain ⟨k, g, cp⟩ := i
  obtain ⟨hk, hcp⟩ := hi
  replace hk : k ≤ n := hk
  replace hcp : k ≤ cp := hcp
  (conv => whnf)
  try dsimp only
  by_cases hlt : k < n
  · (repeat' ((conv => whnf); first | refine go ?_ | (refine VSome.mk ?_; intro gQ hA'; first | subst hA' | cases hA' | (dsimp only at hA'; subst hA')) | refine And.intro ?_ ?_ | intro _))
    (conv => whnf)
    refine VLoop.mk (ι := Nat) [5, 15, 16, 17, 18, 19, 20, 21, 22, 23, 24, 25, 26, 27, 28, 29, 30, 31, 32, 33] (fun j => [(5, .int .i64 j)]) (fun _ => [.row (.slice (some ⟨g, 0, none⟩) k cp) 3 1 k (NL (fc f k))]) (fun j => j ≤ k ∧ bk f (fc f k) k k = bk f (fc f k) k j) (fun j => j) k ⟨Nat.le_refl _, rfl⟩ ?_ (OwnLe.mk [0] (by simp) rfl) (fun j u2 hj => ?_)
    · ((conv => whnf); repeat (first | exact trivial | refine ⟨rfl, ?_⟩ | refine ⟨congrArg (Value.int .i64) (by first | omega | assumption | exact Eq.symm (by assumption)), ?_⟩))
    obtain ⟨hjk, hbk⟩ := hj
    obtain ⟨b1, off1, rfl, hb1, hr1, _⟩ := AwS.look hA hlt
    by_cases hgo : 0 < j ∧ bef (f k) (f (nth (fc f k) (j - 1)))
    · obtain ⟨j, rfl⟩ : ∃ j', j = j' + 1 := ⟨j - 1, by omega⟩
      have hb := hgo.2
      rw [show j + 1 - 1 = j by omega] at hb
      have hx : ((j + 1 : Nat) : Int) - 1 = (j : Int) := by omega
      have a1 : (NL (fc f k))[mulS j 1]? = some (.int .i64 (nth (fc f k) j : Nat)) := nth_len (by rw [fc_len]; omega) _ (by rw [mulS_eq]; omega)
      have a2 : (NL (fc f k))[0 + mulS j 1]? = some (.int .i64 (nth (fc f k) j : Nat)) := by rw [Nat.zero_add]; exact a1
      have hfj : nth (fc f k) j < n := by have := fc_mem (f := f) (k := k) (m := j) (by omega); omega
      obtain ⟨b2, off2, e2, hb2, hr2, _⟩ := AwS.look hA hfj
      cases e2
      have hB := fun w => before_v (f k) (f (nth (fc f k) j)) w
      rw [tr_yes hb] at hB
      (repeat' ((conv => whnf); first | refine go ?_ | (refine VSome.mk ?_; intro gQ hA'; first | subst hA' | cases hA' | (dsimp only at hA'; subst hA')) | refine And.intro ?_ ?_ | intro _ | (first | ((show VCall _ _ _ 247 _ _); refine VCall.grow _ (fun w1 _ => hB w1) ?_) | ((show VDraw _ _ _ #[{ dst := some 15, op := _, type := _, pos := _, after := _, guard := _ }, _, _, _, _, _, _, _, _, _, _, _, _, _, _, _, _] _ _); refine VDraw.mk (.take 0 (.take 1 (.take 2 (.take 3 (.take 4 (.take 5 (.take 6 (.take 7 (.take 8 (.take 9 (.take 10 (.take 11 (.take 12 (.take 13 (.take 14 (.br 15 (.take 16 .done) .done)))))))))))))))) [0] (by kernel_rfl) (by kernel_rfl) ?_))))
      all_goals (conv => whnf)
      all_goals (refine VNext.mk j ⟨by omega, hbk.trans (bk_yes hb)⟩ (by omega) ?_ (OwnLe.mk [0] (by simp) rfl); ((conv => whnf); repeat (first | exact trivial | refine ⟨rfl, ?_⟩ | refine ⟨congrArg (Value.int .i64) (by first | omega | assumption | exact Eq.symm (by assumption)), ?_⟩)))
    · have hbj : bk f (fc f k) k k = j := by
        rcases j with _ | j
        · exact hbk
        · exact hbk.trans (bk_no (fun h => hgo ⟨by omega, h⟩))
      have hfin := put_row hjk hbj
      have hlen := fc_len (f := f) k
      rcases j with _ | j
      · (repeat' ((conv => whnf); first | refine go ?_ | (refine VSome.mk ?_; intro gQ hA'; first | subst hA' | cases hA' | (dsimp only at hA'; subst hA')) | refine And.intro ?_ ?_ | intro _ | (first | ((show VDraw _ _ _ #[{ dst := some 15, op := _, type := _, pos := _, after := _, guard := _ }, _, _, _, _, _, _, _, _, _, _, _, _, _, _, _, _] _ _); refine VDraw.mk (.take 0 (.take 1 (.take 2 (.take 3 (.take 4 (.take 5 (.take 6 (.take 7 (.take 8 (.take 9 (.take 10 (.take 11 (.take 12 (.take 13 (.take 14 (.br 15 (.take 16 .done) .done)))))))))))))))) [0] (by kernel_rfl) (by kernel_rfl) ?_) | ((show VDraw _ _ _ #[{ dst := some 34, op := _, type := _, pos := _, after := _, guard := _ }, _, _, _, _, _, _, _, _, _, _, _, _] _ _); refine VDraw.mk (.take 1 (.take 2 (.take 3 (.take 5 (.take 8 (.take 9 (.take 10 (.br 0 (.br 4 (.br 6 (.br 7 (.br 11 (.take 12 .done) .done) .done) .done) (.br 6 (.br 4 (.br 7 (.br 11 (.take 12 .done) .done) .done) .done) .done)) (.br 6 (.br 0 (.br 4 (.br 7 (.br 11 (.take 12 .done) .done) .done) .done) .done) .done))))))))) [0] (by kernel_rfl) (by kernel_rfl) ?_) | ((show VCut _ _ _ _ none _ _); refine VCut.head (0) rfl (by omega) ?_) | ((show VCut _ _ _ _ _ _ _); refine VCut.rest (l := 0) rfl (by omega) (by omega) (fun off d hoff => ?_)) | ((show VApp _ _ _ _ _ _ _); first | (apply VApp.pushAny; (focus ((repeat (first | exact At.here | apply At.there)); done)); (focus ((repeat (first | exact At.here | apply At.there)); done)); refine VAppPush.mk rfl rfl (by omega) (fun A' c' => ?_)) | (apply VApp.partAny; (focus ((repeat (first | exact At.here | apply At.there)); done)); (focus ((repeat (first | exact At.here | apply At.there)); done)); first | refine VAppPart.mk (0) (NL ((fc f k).take (0))) (NL ((fc f k).take (0))) (by rw [NL_len1, List.length_take, hlen, Nat.min_eq_left hjk]) (fun i u h => NL_take' h) (NL_one _) (by omega) (Nat.zero_add _) rfl (fun A' c' _ _ => ?_) | (refine VAppPart.mk (k + 1) (NL (fc f (k + 1))) (NL ((fc f k).drop (0))) (by rw [NL_len1, List.length_drop, hlen]) (fun i u h => NL_drop (by rw [hlen]; exact hoff) h) (NL_one _) (by omega) (by omega) hfin (fun A' c' hA' hc' => ?_); obtain ⟨g', rfl⟩ := hA' (by omega)))))))
        all_goals (conv => whnf)
        all_goals first | (refine VNext.mk (k + 1, g', c') ⟨hlt, hc'⟩ (by show n - (k + 1) < n - k; omega) ?_ (OwnLe.mk [1] (by simp) rfl); ((conv => whnf); repeat (first | exact trivial | refine ⟨rfl, ?_⟩ | refine ⟨congrArg (Value.int .i64) (by first | omega | assumption | exact Eq.symm (by assumption)), ?_⟩)); done) | (refine VNext.mk (k + 1, g', c') ⟨hlt, hc'⟩ (by show n - (k + 1) < n - k; omega) ?_ (OwnLe.mk [2] (by simp) rfl); ((conv => whnf); repeat (first | exact trivial | refine ⟨rfl, ?_⟩ | refine ⟨congrArg (Value.int .i64) (by first | omega | assumption | exact Eq.symm (by assumption)), ?_⟩)); done)
      · have hb : ¬ bef (f k) (f (nth (fc f k) j)) := fun h => hgo ⟨by omega, h⟩
        have hx : ((j + 1 : Nat) : Int) - 1 = (j : Int) := by omega
        have a1 : (NL (fc f k))[mulS j 1]? = some (.int .i64 (nth (fc f k) j : Nat)) := nth_len (by rw [fc_len]; omega) _ (by rw [mulS_eq]; omega)
        have a2 : (NL (fc f k))[0 + mulS j 1]? = some (.int .i64 (nth (fc f k) j : Nat)) := by rw [Nat.zero_add]; exact a1
        have hfj : nth (fc f k) j < n := by have := fc_mem (f := f) (k := k) (m := j) (by omega); omega
        obtain ⟨b2, off2, e2, hb2, hr2, _⟩ := AwS.look hA hfj
        cases e2
        have hB := fun w => before_v (f k) (f (nth (fc f k) j)) w
        rw [tr_no hb] at hB
        (repeat' ((conv => whnf); first | refine go ?_ | (refine VSome.mk ?_; intro gQ hA'; first | subst hA' | cases hA' | (dsimp only at hA'; subst hA')) | refine And.intro ?_ ?_ | intro _ | (first | ((show VCall _ _ _ 247 _ _); refine VCall.grow _ (fun w1 _ => hB w1) ?_) | ((show VDraw _ _ _ #[{ dst := some 15, op := _, type := _, pos := _, after := _, guard := _ }, _, _, _, _, _, _, _, _, _, _, _, _, _, _, _, _] _ _); refine VDraw.mk (.take 0 (.take 1 (.take 2 (.take 3 (.take 4 (.take 5 (.take 6 (.take 7 (.take 8 (.take 9 (.take 10 (.take 11 (.take 12 (.take 13 (.take 14 (.br 15 (.take 16 .done) .done)))))))))))))))) [0] (by kernel_rfl) (by kernel_rfl) ?_) | ((show VDraw _ _ _ #[{ dst := some 34, op := _, type := _, pos := _, after := _, guard := _ }, _, _, _, _, _, _, _, _, _, _, _, _] _ _); refine VDraw.mk (.take 1 (.take 2 (.take 3 (.take 5 (.take 8 (.take 9 (.take 10 (.br 0 (.br 4 (.br 6 (.br 7 (.br 11 (.take 12 .done) .done) .done) .done) (.br 6 (.br 4 (.br 7 (.br 11 (.take 12 .done) .done) .done) .done) .done)) (.br 6 (.br 0 (.br 4 (.br 7 (.br 11 (.take 12 .done) .done) .done) .done) .done) .done))))))))) [0] (by kernel_rfl) (by kernel_rfl) ?_) | ((show VCut _ _ _ _ none _ _); refine VCut.head (j + 1) rfl (by omega) ?_) | ((show VCut _ _ _ _ _ _ _); refine VCut.rest (l := j + 1) rfl (by omega) (by omega) (fun off d hoff => ?_)) | ((show VApp _ _ _ _ _ _ _); first | (apply VApp.pushAny; (focus ((repeat (first | exact At.here | apply At.there)); done)); (focus ((repeat (first | exact At.here | apply At.there)); done)); refine VAppPush.mk rfl rfl (by omega) (fun A' c' => ?_)) | (apply VApp.partAny; (focus ((repeat (first | exact At.here | apply At.there)); done)); (focus ((repeat (first | exact At.here | apply At.there)); done)); first | refine VAppPart.mk (j + 1) (NL ((fc f k).take (j + 1))) (NL ((fc f k).take (j + 1))) (by rw [NL_len1, List.length_take, hlen, Nat.min_eq_left hjk]) (fun i u h => NL_take' h) (NL_one _) (by omega) (Nat.zero_add _) rfl (fun A' c' _ _ => ?_) | (refine VAppPart.mk (k + 1) (NL (fc f (k + 1))) (NL ((fc f k).drop (j + 1))) (by rw [NL_len1, List.length_drop, hlen]) (fun i u h => NL_drop (by rw [hlen]; exact hoff) h) (NL_one _) (by omega) (by omega) hfin (fun A' c' hA' hc' => ?_); obtain ⟨g', rfl⟩ := hA' (by omega)))))))
        all_goals (conv => whnf)
        all_goals first | (refine VNext.mk (k + 1, g', c') ⟨hlt, hc'⟩ (by show n - (k + 1) < n - k; omega) ?_ (OwnLe.mk [1] (by simp) rfl); ((conv => whnf); repeat (first | exact trivial | refine ⟨rfl, ?_⟩ | refine ⟨congrArg (Value.int .i64) (by first | omega | assumption | exact Eq.symm (by assumption)), ?_⟩)); done) | (refine VNext.mk (k + 1, g', c') ⟨hlt, hc'⟩ (by show n - (k + 1) < n - k; omega) ?_ (OwnLe.mk [2] (by simp) rfl); ((conv => whnf); repeat (first | exact trivial | refine ⟨rfl, ?_⟩ | refine ⟨congrArg (Value.int .i64) (by first | omega | assumption | exact Eq.symm (by assumption)), ?_⟩)); done)
  · obtain rfl : k = n := by omega
    (repeat' ((conv => whnf); first | refine go ?_ | (refine VSome.mk ?_; intro gQ hA'; first | subst hA' | cases hA' | (dsimp only at hA'; subst hA')) | refine And.intro ?_ ?_ | intro _))
    (conv => whnf)
    exact VRet.sel (some ⟨g, 0, none⟩, cp) trivial rfl [0] (by simp) rfl
set_option maxHeartbeats 4000000 in
theorem sQueue_v (A : Option Addr) (n c : Nat) (f : Nat → Aw) (mi : Int) (w : World) (hg : aGood n f) (h1 : 1 ≤ mi) (h2 : mi ≤ 60) (hA : Seen w A (AwS n f)) :
    Calls Tryz.prog 197 #[.slice A n c, .int .i64 mi] w (Post (.int .i64 (quB f mi n)) w) := by
  have hn := hg.2
  have hqb := quB_in (mi := mi) hg (by omega) h2
  refine post_of_vc ?_
  refine calls_of_vc tb_ok (args := [.slice A n c, .int .i64 mi]) Tryz.func197 rfl ?_
  (repeat' ((conv => whnf); first | refine go ?_ | (refine VSome.mk ?_; intro gQ hA'; first | subst hA' | cases hA' | (dsimp only at hA'; subst hA')) | refine And.intro ?_ ?_ | intro _ | (first | ((show VCall _ _ _ 228 _ _); refine VCall.ret (fun w1 m1 => sFirst_v A n c f w1 hn seenA) (fun i _ => ?_); obtain ⟨P, cp⟩ := i))))
  (conv => whnf)
  refine VLoop.mk (ι := Nat × Int × Int × Int) [6, 7, 8, 9, 10, 11, 14, 15, 16, 17, 18, 19, 20, 21, 22, 23, 24, 25, 26, 27, 28, 29, 30, 31, 32, 33, 34, 35, 36, 37, 38, 39, 40, 41, 42, 43] (fun (k, T, F, W) => [(9, .int .i64 k), (6, .int .i64 F), (7, .int .i64 T), (8, .int .i64 W)]) (fun _ => [.row (.slice P n cp) 3 1 n (NL (fc f n))]) (fun i => i.1 ≤ n ∧ quS f mi (nth (fc f n)) i.1 = i.2) (fun i => n - i.1) (0, 0, 0, 9) ⟨Nat.zero_le _, rfl⟩ ?_ (OwnLe.mk [0] (by simp) rfl) (fun i u hi => ?_)
  · ((conv => whnf); repeat (first | exact trivial | refine ⟨rfl, ?_⟩ | refine ⟨congrArg (Value.int .i64) (by first | omega | assumption | exact Eq.symm (by assumption)), ?_⟩))
  obtain ⟨k, T, F, W⟩ := i
  obtain ⟨hk, hS⟩ := hi
  replace hk : k ≤ n := hk
  replace hS : quS f mi (nth (fc f n)) k = (T, F, W) := hS
  have hin := quS_in (f := f) (o := nth (fc f n)) (show 0 ≤ mi by omega) h2 hn (fun k hk => (hg.1 _ (fc_mem hk)).2.1) (fun k hk => (hg.1 _ (fc_mem hk)).2.2.1) k hk
  rw [hS] at hin
  dsimp only at hin
  by_cases hlt : k < n
  · have hx := fc_mem (f := f) hlt
    have a1 : (NL (fc f n))[mulS k 1]? = some (.int .i64 (nth (fc f n) k : Nat)) := nth_len (by rw [fc_len]; exact hlt) _ (by rw [mulS_eq]; omega)
    obtain ⟨b1, off1, rfl, hb1, hr1, _, _, hm1, hw1⟩ := AwS.look hA hx
    have hz : 0 ≤ (f (nth (fc f n) k)).minute ∧ (f (nth (fc f n) k)).minute ≤ 9999 := (hg.1 _ hx).2.1
    have hz2 : 1 ≤ (f (nth (fc f n) k)).weight ∧ (f (nth (fc f n) k)).weight ≤ 9 := (hg.1 _ hx).2.2.1
    have hs1 := quS_suc hS
    have hm9 := mx_le (c := 20000) (show F ≤ 20000 by omega) (show (f (nth (fc f n) k)).minute ≤ 20000 by omega)
    have hm8 := le_mx F (f (nth (fc f n) k)).minute
    generalize f (nth (fc f n) k) = a at *
    (conv => whnf)
    try dsimp only
    (repeat' ((conv => whnf); first | refine go ?_ | (refine VSome.mk ?_; intro gQ hA'; first | subst hA' | cases hA' | (dsimp only at hA'; subst hA')) | refine And.intro ?_ ?_ | intro _ | (first | ((show VCall _ _ _ 166 _ _); refine VCall.grow _ (fun w1 _ => l1Most_v _ _ w1) ?_) | ((show VCall _ _ _ 203 _ _); refine VCall.grow _ (fun w1 _ => l1Least_v _ _ w1) ?_))))
    have e1 : T + mx F a.minute - a.minute = T + (mx F a.minute - a.minute) := by omega
    (conv => whnf)
    refine VNext.mk (k + 1, T + (mx F a.minute - a.minute), mx F a.minute + mi, mn W a.weight) ⟨hlt, hs1⟩ (by show n - (k + 1) < n - k; omega) ?_ (OwnLe.mk [0] (by simp) rfl)
    ((conv => whnf); repeat (first | exact trivial | refine ⟨rfl, ?_⟩ | refine ⟨congrArg (Value.int .i64) (by first | omega | assumption | exact Eq.symm (by assumption)), ?_⟩))
  · obtain rfl : k = n := by omega
    have hv : quB f mi k = W * T := by unfold quB; rw [hS]
    rw [hv] at hqb ⊢
    (conv => whnf)
    try dsimp only
    (repeat' ((conv => whnf); first | refine go ?_ | (refine VSome.mk ?_; intro gQ hA'; first | subst hA' | cases hA' | (dsimp only at hA'; subst hA')) | refine And.intro ?_ ?_ | intro _))
    (conv => whnf); refine VRet.mk fun w' m => ?_
    exact ⟨rfl, m.keeps.below⟩
set_option maxHeartbeats 4000000 in
theorem sLower_v (A : Option Addr) (n c : Nat) (f : Nat → Aw) (hi : Bool) (mi : Int) (w : World) (hg : aGood n f) (h1 : 1 ≤ mi) (h2 : mi ≤ 60) (hc : n ≤ c) (hA : Seen w A (AwS n f)) (hP : Plain A) :
    Calls Tryz.prog 161 #[.slice A n c, .bool hi, .int .i64 mi] w (Post (.int .i64 (loB f mi hi n)) w) := by
  refine post_of_vc ?_
  refine calls_of_vc tb_ok (args := [.slice A n c, .bool hi, .int .i64 mi]) Tryz.func161 rfl ?_
  (repeat' ((conv => whnf); first | refine go ?_ | (refine VSome.mk ?_; intro gQ hA'; first | subst hA' | cases hA' | (dsimp only at hA'; subst hA')) | refine And.intro ?_ ?_ | intro _ | (first | ((show VCall _ _ _ 196 _ _); refine VCall.grow _ (fun w1 m1 => sAlone_v A n c f hi mi w1 hg h1 h2 hc seenA hP) ?_) | ((show VCall _ _ _ 197 _ _); refine VCall.grow _ (fun w1 m1 => sQueue_v A n c f mi w1 hg h1 h2 seenA) ?_) | ((show VCall _ _ _ 166 _ _); refine VCall.grow _ (fun w1 _ => l1Most_v _ _ w1) ?_))))
  (conv => whnf); refine VRet.mk fun w' m => ?_
  exact ⟨rfl, m.keeps.below⟩
end Go.Proofs.YtadjhkehfklmnaaGreatDoor
namespace Go.Proofs.YtadjhkehfklmnaaGreatDoor
set_option linter.unusedSimpArgs false
set_option linter.unusedVariables false
open Go.RowKit
set_option maxRecDepth 10000
set_option maxHeartbeats 4000000 in
theorem iOrdBound_v (d : Co) (A1 : Option Addr) (c1 : Nat) (A2 : Option Addr) (c2 : Nat) (mi : Int) (w : World) (hs : d.lock.safe) (hg : aGood d.m d.wa) (h1 : 1 ≤ mi) (h2 : mi ≤ 60) (hA : Seen w A2 (AwS d.m d.wa)) (ht : PTab w) :
    Calls Tryz.prog 151 #[.agg (d.at A1 c1 A2 c2).toArray, .string (tx wBound), .int .i64 mi] w (Post (.tuple #[.string (tx (Lib.itoa (loB d.wa mi d.lock.high d.m))), .bool true]) w) := by
  have hn := hg.2
  have hlo := loB_in (hi := d.lock.high) hg (show 0 ≤ mi by omega) h2
  refine post_of_vc ?_
  refine calls_of_vc tb_ok (args := [.agg (d.at A1 c1 A2 c2).toArray, .string (tx wBound), .int .i64 mi]) Tryz.func151 rfl ?_
  have hH := fun w => isHigh_v d.lock w hs
  have hL := fun w hA => iLower_v A2 d.m c2 d.wa d.lock.high mi w hg h1 h2 hA
  generalize loB d.wa mi d.lock.high d.m = lo at *
  rcases hh : d.lock.high with _ | _
  all_goals rw [hh] at hH hL
  all_goals ((repeat' ((conv => whnf); first | refine go ?_ | (refine VSome.mk ?_; intro gQ hA'; first | subst hA' | cases hA' | (dsimp only at hA'; subst hA')) | refine And.intro ?_ ?_ | intro _ | (first | ((show VCall _ _ _ 186 _ _); refine VCall.grow _ (fun w1 m1 => hH w1) ?_) | ((show VCall _ _ _ 185 _ _); refine VCall.grow _ (fun w1 m1 => hL w1 seenA) ?_) | ((show VCall _ _ _ 59 _ _); refine VCall.grow _ (fun w1 m1 => itoaZ_v _ w1 (by omega) (by omega) (ht.on m1)) ?_) | ((show VDraw _ _ _ #[{ dst := some 19, op := _, type := _, pos := _, after := _, guard := _ }, _, _, _, _, _, _, _, _, _, _, _] _ _); refine VDraw.mk (.take 0 (.take 1 (.take 2 (.take 3 (.take 5 (.br 4 (.br 6 (.take 7 (.take 8 (.take 9 (.take 10 (.take 11 .done))))) .done) .done)))))) [0] (by kernel_rfl) (by kernel_rfl) ?_)))))
  all_goals ((conv => whnf); refine VRet.mk fun w' m => ?_)
  all_goals exact ⟨rfl, m.keeps.below⟩
set_option maxHeartbeats 4000000 in
theorem iOrdDelay_v (d : Co) (A1 : Option Addr) (c1 : Nat) (A2 : Option Addr) (c2 : Nat) (mi : Int) (w : World) (hs : d.lock.safe) (hg : aGood d.m d.wa) (h1 : 1 ≤ mi) (h2 : mi ≤ 60) (hA : Seen w A2 (AwS d.m d.wa)) (ht : PTab w) :
    Calls Tryz.prog 151 #[.agg (d.at A1 c1 A2 c2).toArray, .string (tx wDelay), .int .i64 mi] w (Post (.tuple #[.string (tx (Lib.itoa (best d.m d.wa mi d.lock.high d.m []).2)), .bool true]) w) := by
  have hn := hg.2
  have hw1 : ¬ tx wDelay = ({ data := #[98, 111, 117, 110, 100] } : ByteArray) := by decide
  refine post_of_vc ?_
  refine calls_of_vc tb_ok (args := [.agg (d.at A1 c1 A2 c2).toArray, .string (tx wDelay), .int .i64 mi]) Tryz.func151 rfl ?_
  have hH := fun w => isHigh_v d.lock w hs
  have hL := fun w hA => iBest_v A2 d.m c2 d.wa d.lock.high mi w hg h1 h2 hA
  have hbi := best_in (f := d.wa) (hi := d.lock.high) hg (show 0 ≤ mi by omega) h2 d.m [] vld_nil (by simp)
  rcases hb : best d.m d.wa mi d.lock.high d.m [] with ⟨bl, bx⟩
  rw [hb] at hL hbi
  dsimp only at hbi
  rcases hh : d.lock.high with _ | _
  all_goals rw [hh] at hH hL
  all_goals ((repeat' ((conv => whnf); first | refine go ?_ | (refine VSome.mk ?_; intro gQ hA'; first | subst hA' | cases hA' | (dsimp only at hA'; subst hA')) | refine And.intro ?_ ?_ | intro _ | (first | ((show VCall _ _ _ 186 _ _); refine VCall.grow _ (fun w1 m1 => hH w1) ?_) | ((show VCall _ _ _ 187 _ _); refine VCall.ret (fun w1 m1 => hL w1 seenA) (fun i hi => ?_); obtain ⟨l, x, P, cp⟩ := i; cases hi) | ((show VCall _ _ _ 59 _ _); refine VCall.grow _ (fun w1 m1 => itoaZ_v _ w1 (by omega) (by omega) (ht.on m1)) ?_) | ((show VDraw _ _ _ #[{ dst := some 32, op := _, type := _, pos := _, after := _, guard := _ }, _, _, _, _, _, _, _, _, _, _, _, _, _] _ _); refine VDraw.mk (.take 0 (.take 1 (.take 2 (.take 3 (.take 5 (.br 4 (.br 6 (.take 7 (.take 8 (.take 9 (.take 10 (.take 11 (.take 12 (.take 13 .done))))))) .done) .done)))))) [0] (by kernel_rfl) (by kernel_rfl) ?_)))))
  all_goals ((conv => whnf); refine VRet.mk fun w' m => ?_)
  all_goals exact ⟨rfl, m.keeps.below⟩
set_option maxHeartbeats 8000000 in
theorem iOrdNo_v (d : Co) (A1 : Option Addr) (c1 : Nat) (A2 : Option Addr) (c2 : Nat) (x : List UInt8) (mi : Int) (w : World) (hs : d.lock.safe) (hg : aGood d.m d.wa) (hm : ¬ (1 ≤ mi ∧ mi ≤ 60)) (hA : Seen w A2 (AwS d.m d.wa)) (ht : PTab w) :
    Calls Tryz.prog 151 #[.agg (d.at A1 c1 A2 c2).toArray, .string (tx x), .int .i64 mi] w fun e w' => ∃ t : List UInt8, True ∧ Post (.tuple #[.string (tx t), .bool false]) w e w' := by
  refine some_of_vc ?_
  refine calls_of_vc tb_ok (args := [.agg (d.at A1 c1 A2 c2).toArray, .string (tx x), .int .i64 mi]) Tryz.func151 rfl ?_
  have hH := fun w => isHigh_v d.lock w hs
  have hL := fun w hA => iLower_no A2 d.m c2 d.wa d.lock.high mi w hg hm hA
  have hB := fun w hA => iBest_no A2 d.m c2 d.wa d.lock.high mi w hg hm hA
  have hT := fun (B : Option Addr) (c : Nat) w hB ht => listText_v B c [] w (by decide) (fun x hx => by cases hx) hB ht
  rcases hh : d.lock.high with _ | _
  all_goals rw [hh] at hH hL hB
  all_goals ((repeat' ((conv => whnf); first | refine go ?_ | (refine VSome.mk ?_; intro gQ hA'; first | subst hA' | cases hA' | (dsimp only at hA'; subst hA')) | refine And.intro ?_ ?_ | intro _ | (first | ((show VCall _ _ _ 186 _ _); refine VCall.grow _ (fun w1 m1 => hH w1) ?_) | ((show VCall _ _ _ 185 _ _); refine VCall.grow _ (fun w1 m1 => hL w1 seenA) ?_) | ((show VCall _ _ _ 187 _ _); refine VCall.grow _ (fun w1 m1 => hB w1 seenA) ?_) | ((show VCall _ _ _ 59 _ _); refine VCall.grow _ (fun w1 m1 => itoaZ_v _ w1 (by omega) (by omega) (ht.on m1)) ?_) | ((show VDraw _ _ _ #[{ dst := some 19, op := _, type := _, pos := _, after := _, guard := _ }, _, _, _, _, _, _, _, _, _, _, _] _ _); refine VDraw.mk (.take 0 (.take 1 (.take 2 (.take 3 (.take 5 (.br 4 (.br 6 (.take 7 (.take 8 (.take 9 (.take 10 (.take 11 .done))))) .done) .done)))))) [0] (by kernel_rfl) (by kernel_rfl) ?_) | ((show VDraw _ _ _ #[{ dst := some 32, op := _, type := _, pos := _, after := _, guard := _ }, _, _, _, _, _, _, _, _, _, _, _, _, _] _ _); refine VDraw.mk (.take 0 (.take 1 (.take 2 (.take 3 (.take 5 (.br 4 (.br 6 (.take 7 (.take 8 (.take 9 (.take 10 (.take 11 (.take 12 (.take 13 .done))))))) .done) .done)))))) [0] (by kernel_rfl) (by kernel_rfl) ?_)))))
  all_goals (conv => whnf)
  all_goals first
    | exact VRet.mk fun w' m => ⟨_, trivial, rfl, m.keeps.below⟩
    | (refine VLoop.mk (ι := Option Addr × Nat) [13, 15, 50, 51, 52, 53, 54, 55, 56, 57, 58, 59, 60, 61, 62, 63] (fun (P, c) => [(50, .int .i64 0), (13, .slice P 0 c)]) (fun (P, c) => [.row (.slice P 0 c) 3 1 0 []]) (fun _ => True) (fun _ => 0) (_, _) trivial ?_ (OwnLe.mk [1] (by simp) rfl) (fun k u hk => ?_)
       · ((conv => whnf); repeat (first | exact trivial | refine ⟨rfl, ?_⟩ | refine ⟨congrArg (Value.int .i64) (by first | omega | assumption | exact Eq.symm (by assumption)), ?_⟩))
       · obtain ⟨P, c⟩ := k
         (repeat' ((conv => whnf); first | refine go ?_ | (refine VSome.mk ?_; intro gQ hA'; first | subst hA' | cases hA' | (dsimp only at hA'; subst hA')) | refine And.intro ?_ ?_ | intro _ | (first | ((show VCall _ _ _ 144 _ _); refine VCall.grow _ (fun w1 m1 => hT _ _ w1 (Sees.nil _ m1) (ht.on m1)) ?_))))
         (conv => whnf)
         exact VRet.mk fun w' m => ⟨_, trivial, rfl, m.keeps.below⟩)
end Go.Proofs.YtadjhkehfklmnaaGreatDoor
namespace Go.Proofs.YtadjhkehfklmnaaGreatDoor
set_option linter.unusedSimpArgs false
set_option linter.unusedVariables false
open Go.RowKit
set_option maxRecDepth 10000
theorem ids_take {f : Nat → Aw} {l : List Nat} {k : Nat} (h : k < l.length) : idsOf f (l.take (k + 1)) = idsOf f (l.take k) ++ [(f (nth l k)).id] := by
  unfold idsOf nth
  rw [List.take_add_one, List.getElem?_eq_getElem h, List.map_append, List.getD_eq_getElem?_getD, List.getElem?_eq_getElem h]
  rfl
set_option maxHeartbeats 8000000 in
theorem iOrdBest_v (d : Co) (A1 : Option Addr) (c1 : Nat) (A2 : Option Addr) (c2 : Nat) (x : List UInt8) (mi : Int) (w : World) (hs : d.lock.safe) (hg : aGood d.m d.wa) (h1 : 1 ≤ mi) (h2 : mi ≤ 60) (hx1 : ¬ x = wBound) (hx2 : ¬ x = wDelay) (hA : Seen w A2 (AwS d.m d.wa)) (ht : PTab w) :
    Calls Tryz.prog 151 #[.agg (d.at A1 c1 A2 c2).toArray, .string (tx x), .int .i64 mi] w (Post (.tuple #[.string (tx (ltx (idsOf d.wa (best d.m d.wa mi d.lock.high d.m []).1))), .bool true]) w) := by
  have hn := hg.2
  have hw1 : ¬ tx x = ({ data := #[98, 111, 117, 110, 100] } : ByteArray) := fun q => hx1 (tx_inj (q.trans (by rfl : _ = tx wBound)))
  have hw2 : ¬ tx x = ({ data := #[100, 101, 108, 97, 121] } : ByteArray) := fun q => hx2 (tx_inj (q.trans (by rfl : _ = tx wDelay)))
  refine post_of_vc ?_
  refine calls_of_vc tb_ok (args := [.agg (d.at A1 c1 A2 c2).toArray, .string (tx x), .int .i64 mi]) Tryz.func151 rfl ?_
  have hH := fun w => isHigh_v d.lock w hs
  have hL := fun w hA => iBest_v A2 d.m c2 d.wa d.lock.high mi w hg h1 h2 hA
  have hbi := best_in (f := d.wa) (hi := d.lock.high) hg (show 0 ≤ mi by omega) h2 d.m [] vld_nil (by simp)
  rcases hb : best d.m d.wa mi d.lock.high d.m [] with ⟨bl, bx⟩
  rw [hb] at hL hbi
  dsimp only at hbi
  obtain ⟨hv, hbl, _, _⟩ := hbi
  obtain ⟨_, hbm⟩ := vld_nd hv
  have hT := fun (B : Option Addr) (c : Nat) w hB ht => listText_v B c (idsOf d.wa bl) w (by simp [idsOf]; omega) (fun y hy => by
    obtain ⟨i, hi, rfl⟩ := List.mem_map.1 hy
    have := (hg.1 i (hbm i hi)).1
    omega) hB ht
  rw [show (idsOf d.wa bl).length = bl.length by simp [idsOf]] at hT
  rcases hh : d.lock.high with _ | _
  all_goals rw [hh] at hH hL
  all_goals ((repeat' ((conv => whnf); first | refine go ?_ | (refine VSome.mk ?_; intro gQ hA'; first | subst hA' | cases hA' | (dsimp only at hA'; subst hA')) | refine And.intro ?_ ?_ | intro _ | (first | ((show VCall _ _ _ 186 _ _); refine VCall.grow _ (fun w1 m1 => hH w1) ?_) | ((show VCall _ _ _ 187 _ _); refine VCall.ret (fun w1 m1 => hL w1 seenA) (fun i hi => ?_); obtain ⟨l, x, P, cp⟩ := i; cases hi) | ((show VDraw _ _ _ #[{ dst := some 32, op := _, type := _, pos := _, after := _, guard := _ }, _, _, _, _, _, _, _, _, _, _, _, _, _] _ _); refine VDraw.mk (.take 0 (.take 1 (.take 2 (.take 3 (.take 5 (.br 4 (.br 6 (.take 7 (.take 8 (.take 9 (.take 10 (.take 11 (.take 12 (.take 13 .done))))))) .done) .done)))))) [0] (by kernel_rfl) (by kernel_rfl) ?_)))))
  all_goals (conv => whnf)
  all_goals rename_i gb _ _ _ _ _
  all_goals (refine VLoop.mk (ι := Nat × Option Addr × Nat) [13, 15, 50, 51, 52, 53, 54, 55, 56, 57, 58, 59, 60, 61, 62, 63] (fun (k, Q, cq) => [(50, .int .i64 k), (13, .slice Q k cq)]) (fun (k, Q, cq) => [.blk gb 39 (d.at A1 c1 A2 c2), .row (.slice P bl.length cp) 3 1 bl.length (NL bl), .row (.slice Q k cq) 3 1 k (IL (idsOf d.wa (bl.take k)))]) (fun i => i.1 ≤ bl.length) (fun i => bl.length - i.1) (0, _, _) (Nat.zero_le _) ?_ (OwnLe.mk [0, 1, 2] (by simp) rfl) (fun i u hi => ?_))
  all_goals first | (((conv => whnf); repeat (first | exact trivial | refine ⟨rfl, ?_⟩ | refine ⟨congrArg (Value.int .i64) (by first | omega | assumption | exact Eq.symm (by assumption)), ?_⟩)); done) | skip
  all_goals (obtain ⟨k, Q, cq⟩ := i)
  all_goals (replace hi : k ≤ bl.length := hi)
  all_goals ((conv => whnf); try dsimp only)
  all_goals by_cases hlt : k < bl.length
  all_goals first
    | (have hx := hbm _ (nth_mem hlt)
       have a1 : (NL bl)[mulS k 1]? = some (.int .i64 (nth bl k : Nat)) := nth_len hlt _ (by rw [mulS_eq]; omega)
       obtain ⟨b1, off1, rfl, hb1, hr1, hi1, _⟩ := AwS.look hA hx
       have hids := ids_take (f := d.wa) hlt
       (repeat' ((conv => whnf); first | refine go ?_ | (refine VSome.mk ?_; intro gQ hA'; first | subst hA' | cases hA' | (dsimp only at hA'; subst hA')) | refine And.intro ?_ ?_ | intro _ | (first | ((show VApp _ _ _ _ _ _ _); (apply VApp.pushAny; (focus ((repeat (first | exact At.here | apply At.there)); done)); (focus ((repeat (first | exact At.here | apply At.there)); done)); refine VAppPush.mk rfl rfl (by omega) (fun A' c' => ?_))))))
       (conv => whnf)
       refine VNext.mk (k + 1, _, _) hlt (by show bl.length - (k + 1) < bl.length - k; omega) ?_ (OwnLe.mk [0, 1, 2] (by simp) (by dsimp only; rw [hids, IL_app]; rfl))
       ((conv => whnf); repeat (first | exact trivial | refine ⟨rfl, ?_⟩ | refine ⟨congrArg (Value.int .i64) (by first | omega | assumption | exact Eq.symm (by assumption)), ?_⟩))
       done)
    | (have hk2 : k = bl.length := by omega
       subst hk2
       rw [List.take_length]
       (repeat' ((conv => whnf); first | refine go ?_ | (refine VSome.mk ?_; intro gQ hA'; first | subst hA' | cases hA' | (dsimp only at hA'; subst hA')) | refine And.intro ?_ ?_ | intro _ | (first | ((show VCall _ _ _ 144 _ _); refine VCall.grow _ (fun w1 m1 => hT _ _ w1 (Sees.any m1 fndA) (ht.on m1)) ?_))))
       (conv => whnf); refine VRet.mk fun w' m => ?_
       exact ⟨rfl, m.keeps.below⟩)
end Go.Proofs.YtadjhkehfklmnaaGreatDoor
namespace Go.Proofs.YtadjhkehfklmnaaGreatDoor
set_option linter.unusedSimpArgs false
set_option linter.unusedVariables false
open Go.RowKit
set_option maxRecDepth 10000
set_option maxHeartbeats 4000000 in
theorem sStep28_yes (d : Co) (A1 : Option Addr) (c1 : Nat) (A2 : Option Addr) (c2 : Nat) (x : Int) (w : World) (h : d.lock.okStep x) :
    Calls Tryz.prog 124 #[.agg (d.at A1 c1 A2 c2).toArray, .int .i64 x] w (Post (.tuple #[.agg (({ d with lock := d.lock.move x } : Co).at A1 c1 A2 c2).toArray, .string (tx wOk)]) w) := by
  have hS := fun w => sStep_v d.lock x w
  rw [Lo.step_yes h, tr_yes h] at hS
  refine post_of_vc ?_
  refine calls_of_vc tb_ok (args := [.agg (d.at A1 c1 A2 c2).toArray, .int .i64 x]) Tryz.func124 rfl ?_
  (repeat' ((conv => whnf); first | refine go ?_ | (refine VSome.mk ?_; intro gQ hA'; first | subst hA' | cases hA' | (dsimp only at hA'; subst hA')) | refine And.intro ?_ ?_ | intro _ | (first | ((show VCall _ _ _ 133 _ _); refine VCall.grow _ (fun w1 m1 => hS w1) ?_))))
  all_goals ((conv => whnf); refine VRet.mk fun w' m => ?_)
  all_goals exact ⟨rfl, m.keeps.below⟩
set_option maxHeartbeats 4000000 in
theorem sStep28_no (d : Co) (A1 : Option Addr) (c1 : Nat) (A2 : Option Addr) (c2 : Nat) (x : Int) (w : World) (h : ¬ d.lock.okStep x) :
    Calls Tryz.prog 124 #[.agg (d.at A1 c1 A2 c2).toArray, .int .i64 x] w (Post (.tuple #[.agg (d.at A1 c1 A2 c2).toArray, .string (tx wAsk)]) w) := by
  have hS := fun w => sStep_v d.lock x w
  rw [Lo.step_no h, tr_no h] at hS
  refine post_of_vc ?_
  refine calls_of_vc tb_ok (args := [.agg (d.at A1 c1 A2 c2).toArray, .int .i64 x]) Tryz.func124 rfl ?_
  (repeat' ((conv => whnf); first | refine go ?_ | (refine VSome.mk ?_; intro gQ hA'; first | subst hA' | cases hA' | (dsimp only at hA'; subst hA')) | refine And.intro ?_ ?_ | intro _ | (first | ((show VCall _ _ _ 133 _ _); refine VCall.grow _ (fun w1 m1 => hS w1) ?_))))
  all_goals ((conv => whnf); refine VRet.mk fun w' m => ?_)
  all_goals exact ⟨rfl, m.keeps.below⟩
theorem Co.sideV_plan (d : Co) (hi : Bool) : d.sideV wPlan hi = (d, ltx (d.lock.plan hi)) := rfl
theorem Co.sideV_head (d : Co) (hi : Bool) : d.sideV wHead hi = (d, Lib.itoa (d.lock.head hi)) := by unfold Co.sideV; rw [if_neg (by decide), if_pos rfl]
theorem Co.sideV_go (d : Co) (hi : Bool) : d.sideV wGo hi = ({ d with lock := (d.lock.run (d.lock.plan hi)).1 }, Lib.itoa (d.lock.run (d.lock.plan hi)).1.level) := by unfold Co.sideV; rw [if_neg (by decide), if_neg (by decide), if_pos rfl]
theorem Co.sideV_no (d : Co) (hi : Bool) {x : List UInt8} (h1 : ¬ x = wPlan) (h2 : ¬ x = wHead) (h3 : ¬ x = wGo) : d.sideV x hi = (d, wAsk) := by unfold Co.sideV; rw [if_neg h1, if_neg h2, if_neg h3]
set_option maxHeartbeats 8000000 in
theorem sSide_v (d : Co) (A1 : Option Addr) (c1 : Nat) (A2 : Option Addr) (c2 : Nat) (x : List UInt8) (hi : Bool) (w : World) (hs : d.lock.safe) :
    Calls Tryz.prog 120 #[.agg (d.at A1 c1 A2 c2).toArray, .string (tx x), .bool hi] w (Post (.tuple #[.agg ((d.sideV x hi).1.at A1 c1 A2 c2).toArray, .string (tx (d.sideV x hi).2)]) w) := by
  have hP := fun w => sPlan_v d.lock hi w hs
  refine post_of_vc ?_
  by_cases e1 : x = wPlan
  · subst e1
    rw [Co.sideV_plan]
    have hT := fun B c w hB => l28List_v B c (d.lock.plan hi) w (Nat.le_trans (Lo.plan_len hs) (by decide)) (fun x hx => by have := Lo.plan_in x hx; omega) hB
    cases hi
    all_goals (refine calls_of_vc tb_ok (args := [.agg (d.at A1 c1 A2 c2).toArray, .string (tx wPlan), .bool _]) Tryz.func120 rfl ?_)
    all_goals ((repeat' ((conv => whnf); first | refine go ?_ | (refine VSome.mk ?_; intro gQ hA'; first | subst hA' | cases hA' | (dsimp only at hA'; subst hA')) | refine And.intro ?_ ?_ | intro _ | (first | ((show VCall _ _ _ 154 _ _); refine VCall.ret (fun w1 m1 => hP w1) (fun i hi => ?_); obtain ⟨P, cp, n9, L9⟩ := i; obtain ⟨rfl, rfl⟩ := hi) | ((show VDraw _ _ _ #[{ dst := some 21, op := _, type := _, pos := _, after := _, guard := _ }, _, _, _, _] _ _); refine VDraw.mk (.take 0 (.take 1 (.br 2 (.br 3 (.take 4 .done) .done) .done))) [0] (by kernel_rfl) (by kernel_rfl) ?_) | ((show VDraw _ _ _ #[{ dst := some 26, op := _, type := _, pos := _, after := _, guard := _ }, _, _, _, _, _, _, _] _ _); refine VDraw.mk (.take 0 (.take 1 (.take 2 (.take 3 (.br 4 (.br 5 (.br 6 (.take 7 .done) .done) .done) .done))))) [0] (by kernel_rfl) (by kernel_rfl) ?_) | ((show VDraw _ _ _ #[{ dst := some 44, op := _, type := _, pos := _, after := _, guard := _ }, _, _, _, _, _, _] _ _); refine VDraw.mk (.take 0 (.take 1 (.take 2 (.take 3 (.br 4 (.br 5 (.take 6 .done) .done) .done))))) [0, 3] (by kernel_rfl) (by kernel_rfl) ?_) | ((show VCall _ _ _ 155 _ _); refine VCall.grow _ (fun w1 m1 => hT _ _ w1 (Sees.any m1 fndA)) ?_)))))
    all_goals ((conv => whnf); refine VRet.mk fun w' m => ?_)
    all_goals exact ⟨rfl, m.keeps.below⟩
  by_cases e2 : x = wHead
  · subst e2
    rw [Co.sideV_head]
    have hH := fun w => sHead_v d.lock hi w hs
    have hb := Lo.head_in hs hi
    generalize d.lock.head hi = hh at hH hb ⊢
    have hw1 : ¬ tx wHead = ({ data := #[112, 108, 97, 110] } : ByteArray) := by decide
    cases hi
    all_goals (refine calls_of_vc tb_ok (args := [.agg (d.at A1 c1 A2 c2).toArray, .string (tx wHead), .bool _]) Tryz.func120 rfl ?_)
    all_goals ((repeat' ((conv => whnf); first | refine go ?_ | (refine VSome.mk ?_; intro gQ hA'; first | subst hA' | cases hA' | (dsimp only at hA'; subst hA')) | refine And.intro ?_ ?_ | intro _ | (first | ((show VCall _ _ _ 154 _ _); refine VCall.ret (fun w1 m1 => hP w1) (fun i hi => ?_); obtain ⟨P, cp, n9, L9⟩ := i; obtain ⟨rfl, rfl⟩ := hi) | ((show VDraw _ _ _ #[{ dst := some 21, op := _, type := _, pos := _, after := _, guard := _ }, _, _, _, _] _ _); refine VDraw.mk (.take 0 (.take 1 (.br 2 (.br 3 (.take 4 .done) .done) .done))) [0] (by kernel_rfl) (by kernel_rfl) ?_) | ((show VDraw _ _ _ #[{ dst := some 26, op := _, type := _, pos := _, after := _, guard := _ }, _, _, _, _, _, _, _] _ _); refine VDraw.mk (.take 0 (.take 1 (.take 2 (.take 3 (.br 4 (.br 5 (.br 6 (.take 7 .done) .done) .done) .done))))) [0] (by kernel_rfl) (by kernel_rfl) ?_) | ((show VDraw _ _ _ #[{ dst := some 44, op := _, type := _, pos := _, after := _, guard := _ }, _, _, _, _, _, _] _ _); refine VDraw.mk (.take 0 (.take 1 (.take 2 (.take 3 (.br 4 (.br 5 (.take 6 .done) .done) .done))))) [0, 3] (by kernel_rfl) (by kernel_rfl) ?_) | ((show VCall _ _ _ 156 _ _); refine VCall.grow _ (fun w1 m1 => hH w1) ?_) | ((show VCall _ _ _ 61 _ _); refine VCall.grow _ (fun w1 m1 => l1NumZ_v _ w1 (by omega) (by omega)) ?_)))))
    all_goals ((conv => whnf); refine VRet.mk fun w' m => ?_)
    all_goals exact ⟨rfl, m.keeps.below⟩
  by_cases e3 : x = wGo
  · subst e3
    rw [Co.sideV_go]
    have hR := fun A c w hA => srun_v d.lock A c (d.lock.plan hi) w hs (Nat.le_trans (Lo.plan_len hs) (by decide)) hA
    have hsf := (Lo.run_safe hs (d.lock.plan hi)).1
    generalize d.lock.run (d.lock.plan hi) = s2 at hR hsf ⊢
    have hlv := hsf.1; have hlv2 := hsf.2.1; have hlv3 := hsf.2.2.1; have hlv4 := hsf.2.2.2.1
    have hw1 : ¬ tx wGo = ({ data := #[112, 108, 97, 110] } : ByteArray) := by decide
    have hw2 : ¬ tx wGo = ({ data := #[104, 101, 97, 100] } : ByteArray) := by decide
    cases hi
    all_goals (refine calls_of_vc tb_ok (args := [.agg (d.at A1 c1 A2 c2).toArray, .string (tx wGo), .bool _]) Tryz.func120 rfl ?_)
    all_goals ((repeat' ((conv => whnf); first | refine go ?_ | (refine VSome.mk ?_; intro gQ hA'; first | subst hA' | cases hA' | (dsimp only at hA'; subst hA')) | refine And.intro ?_ ?_ | intro _ | (first | ((show VCall _ _ _ 154 _ _); refine VCall.ret (fun w1 m1 => hP w1) (fun i hi => ?_); obtain ⟨P, cp, n9, L9⟩ := i; obtain ⟨rfl, rfl⟩ := hi) | ((show VDraw _ _ _ #[{ dst := some 21, op := _, type := _, pos := _, after := _, guard := _ }, _, _, _, _] _ _); refine VDraw.mk (.take 0 (.take 1 (.br 2 (.br 3 (.take 4 .done) .done) .done))) [0] (by kernel_rfl) (by kernel_rfl) ?_) | ((show VDraw _ _ _ #[{ dst := some 26, op := _, type := _, pos := _, after := _, guard := _ }, _, _, _, _, _, _, _] _ _); refine VDraw.mk (.take 0 (.take 1 (.take 2 (.take 3 (.br 4 (.br 5 (.br 6 (.take 7 .done) .done) .done) .done))))) [0] (by kernel_rfl) (by kernel_rfl) ?_) | ((show VDraw _ _ _ #[{ dst := some 44, op := _, type := _, pos := _, after := _, guard := _ }, _, _, _, _, _, _] _ _); refine VDraw.mk (.take 0 (.take 1 (.take 2 (.take 3 (.br 4 (.br 5 (.take 6 .done) .done) .done))))) [0, 3] (by kernel_rfl) (by kernel_rfl) ?_) | ((show VCall _ _ _ 132 _ _); refine VCall.some _ _ (fun w1 m1 => hR _ _ w1 (Sees.any m1 fndA)) (fun r9 _ => ?_)) | ((show VCall _ _ _ 61 _ _); refine VCall.grow _ (fun w1 m1 => l1NumZ_v _ w1 (by omega) (by omega)) ?_)))))
    all_goals ((conv => whnf); refine VRet.mk fun w' m => ?_)
    all_goals exact ⟨rfl, m.keeps.below⟩
  · rw [Co.sideV_no d hi e1 e2 e3]
    have hw1 : ¬ tx x = ({ data := #[112, 108, 97, 110] } : ByteArray) := fun q => e1 (tx_inj (q.trans (by rfl : _ = tx wPlan)))
    have hw2 : ¬ tx x = ({ data := #[104, 101, 97, 100] } : ByteArray) := fun q => e2 (tx_inj (q.trans (by rfl : _ = tx wHead)))
    have hw3 : ¬ tx x = ({ data := #[103, 111] } : ByteArray) := fun q => e3 (tx_inj (q.trans (by rfl : _ = tx wGo)))
    cases hi
    all_goals (refine calls_of_vc tb_ok (args := [.agg (d.at A1 c1 A2 c2).toArray, .string (tx x), .bool _]) Tryz.func120 rfl ?_)
    all_goals ((repeat' ((conv => whnf); first | refine go ?_ | (refine VSome.mk ?_; intro gQ hA'; first | subst hA' | cases hA' | (dsimp only at hA'; subst hA')) | refine And.intro ?_ ?_ | intro _ | (first | ((show VCall _ _ _ 154 _ _); refine VCall.ret (fun w1 m1 => hP w1) (fun i hi => ?_); obtain ⟨P, cp, n9, L9⟩ := i; obtain ⟨rfl, rfl⟩ := hi) | ((show VDraw _ _ _ #[{ dst := some 21, op := _, type := _, pos := _, after := _, guard := _ }, _, _, _, _] _ _); refine VDraw.mk (.take 0 (.take 1 (.br 2 (.br 3 (.take 4 .done) .done) .done))) [0] (by kernel_rfl) (by kernel_rfl) ?_) | ((show VDraw _ _ _ #[{ dst := some 26, op := _, type := _, pos := _, after := _, guard := _ }, _, _, _, _, _, _, _] _ _); refine VDraw.mk (.take 0 (.take 1 (.take 2 (.take 3 (.br 4 (.br 5 (.br 6 (.take 7 .done) .done) .done) .done))))) [0] (by kernel_rfl) (by kernel_rfl) ?_) | ((show VDraw _ _ _ #[{ dst := some 44, op := _, type := _, pos := _, after := _, guard := _ }, _, _, _, _, _, _] _ _); refine VDraw.mk (.take 0 (.take 1 (.take 2 (.take 3 (.br 4 (.br 5 (.take 6 .done) .done) .done))))) [0, 3] (by kernel_rfl) (by kernel_rfl) ?_)))))
    all_goals ((conv => whnf); refine VRet.mk fun w' m => ?_)
    all_goals exact ⟨rfl, m.keeps.below⟩
set_option maxHeartbeats 4000000 in
theorem sFlow28_yes (d : Co) (A1 : Option Addr) (c1 : Nat) (A2 : Option Addr) (c2 : Nat) (a b v : Int) (w : World) (hg : bGood d.n d.ba) (h : bCan d.n d.ba a b v) (hA : Seen w A1 (BaS d.n d.ba)) :
    Calls Tryz.prog 123 #[.agg (d.at A1 c1 A2 c2).toArray, .agg (flC a b v).toArray] w fun e w' => ∃ v9, e = .returned v9 ∧ RetV (ι := Nat × Nat) (fun _ => True) (fun (g, c') => .tuple #[.agg (({ d with ba := bMv d.ba a b v } : Co).at (some ⟨g, 0, none⟩) c' A2 c2).toArray, .string (tx wOk)]) (fun (g, c') => [.row (.slice (some ⟨g, 0, none⟩) d.n c') 96 3 d.n (BaS d.n (bMv d.ba a b v))]) (Base.of w) v9 w' := by
  have hM := fun A c w hA => sMoveW_v A d.n c d.ba a b v w hg h hA
  have hn := hg.2
  refine calls_of_vc tb_ok (args := [.agg (d.at A1 c1 A2 c2).toArray, .agg (flC a b v).toArray]) Tryz.func123 rfl ?_
  (repeat' ((conv => whnf); first | refine go ?_ | (refine VSome.mk ?_; intro gQ hA'; first | subst hA' | cases hA' | (dsimp only at hA'; subst hA')) | refine And.intro ?_ ?_ | intro _ | (first | ((show VCall _ _ _ 158 _ _); refine VCall.ret (fun w1 m1 => hM _ _ w1 seenA) (fun i hi => ?_); obtain ⟨g9, c9⟩ := i))))
  all_goals (conv => whnf)
  all_goals exact VRet.sel (g9, c9) trivial rfl [3] (by simp) rfl
set_option maxHeartbeats 4000000 in
theorem sFlow28_no (d : Co) (A1 : Option Addr) (c1 : Nat) (A2 : Option Addr) (c2 : Nat) (a b v : Int) (w : World) (hg : bGood d.n d.ba) (h : ¬ bCan d.n d.ba a b v) (hA : Seen w A1 (BaS d.n d.ba)) :
    Calls Tryz.prog 123 #[.agg (d.at A1 c1 A2 c2).toArray, .agg (flC a b v).toArray] w (Post (.tuple #[.agg (d.at A1 c1 A2 c2).toArray, .string (tx wAsk)]) w) := by
  have hM := fun A c w hA => sMoveW_no A d.n c d.ba a b v w hg h hA
  have hn := hg.2
  refine post_of_vc ?_
  refine calls_of_vc tb_ok (args := [.agg (d.at A1 c1 A2 c2).toArray, .agg (flC a b v).toArray]) Tryz.func123 rfl ?_
  (repeat' ((conv => whnf); first | refine go ?_ | (refine VSome.mk ?_; intro gQ hA'; first | subst hA' | cases hA' | (dsimp only at hA'; subst hA')) | refine And.intro ?_ ?_ | intro _ | (first | ((show VCall _ _ _ 158 _ _); refine VCall.some _ _ (fun w1 m1 => hM _ _ w1 seenA) (fun g9 _ => ?_)))))
  all_goals ((conv => whnf); refine VRet.mk fun w' m => ?_)
  all_goals exact ⟨rfl, m.keeps.below⟩
end Go.Proofs.YtadjhkehfklmnaaGreatDoor
namespace Go.Proofs.YtadjhkehfklmnaaGreatDoor
set_option linter.unusedSimpArgs false
set_option linter.unusedVariables false
open Go.RowKit
set_option maxRecDepth 10000
section
variable {P : Program} {T : Tab} {w0 : Base} {own : List Own} {w : World}
/-- Cells stored from a place in an own row on; afterwards the row may be longer. -/
theorem Mem.put {k g n c n2 size o : Nat} {e : TypeId} {xs vs ys : List Value} (m : Mem w0 own w) (hk : own[k]? = some (.row (.slice (some ⟨g, 0, none⟩) n c) e size n xs)) (h1 : vs.all (·.oneCell') = true) (ho : o ≤ xs.length) (hy : xs.take o ++ vs ++ xs.drop (o + vs.length) = ys) (hyl : ys.length = n2 * size) (hn2 : n2 ≤ c) :
    ∃ w', (storeCells ⟨g, o, none⟩ vs).run P w = .ok () w' ∧ Mem w0 (own.set k (.row (.slice (some ⟨g, 0, none⟩) n2 c) e size n2 ys)) w' := by
  have h0 := m.ok k _ hk
  obtain ⟨h00, h11, h2⟩ := h0
  rcases h2 with ⟨e1, _⟩ | ⟨g', cap, cur, e1, hb, hg, hn, hm, hs, ht⟩
  · cases e1
  cases e1
  have hcs : n2 * size ≤ c * size := Nat.mul_le_mul_right _ hn2
  have hyl2 : ys.length = o + vs.length + (xs.length - (o + vs.length)) := by
    rw [← hy, List.length_append, List.length_append, List.length_take, List.length_drop]
    omega
  have hcl : cur.toList.length = c * size := by rw [Array.length_toList]; exact hs
  have hxl : xs.length ≤ c * size := by rw [h11]; exact Nat.mul_le_mul_right _ hn
  refine ⟨_, run_storeCells_at P g o e vs 0 cur w hg (by omega) (all_one h1), ?_⟩
  rw [Nat.add_zero]
  refine m.turn hk ?_ ⟨fun b hb => h00 b hb, hyl, .inr ⟨g, c, _, rfl, Nat.zero_le _, setRow_heap w g cur _ e _ hg, hn2, hm, ?_, ?_⟩⟩ (fun b hb hlt => ?_) (fun b hb => .inl hb)
  · refine m.keeps.step rfl rfl rfl (by rw [setRow_size]; exact Nat.le_refl _) fun b hb hl => setRow_other _ _ _ _ fun e2 => ?_
    rcases h00 g rfl with q | q
    · omega
    · exact hl (e2 ▸ q)
  · rw [List.size_toArray, List.length_append, List.length_append, List.length_take, List.length_drop]
    omega
  · rw [← hyl, hyl2, ← hy]
    rw [← ht]
    have hn3 : n * size ≤ c * size := Nat.mul_le_mul_right _ hn
    have e2 : (cur.toList.take (n * size)).length = n * size := by rw [List.length_take, hcl]; omega
    have ho2 : o ≤ n * size := by omega
    rw [e2, List.take_take, Nat.min_eq_left ho2, List.drop_take]
    show List.take _ (List.take o cur.toList ++ vs ++ List.drop (o + vs.length) cur.toList) = _
    have e3 : (cur.toList.take o ++ vs).length = o + vs.length := by rw [List.length_append, List.length_take, hcl]; omega
    rw [List.take_append, e3, List.take_of_length_le (by omega), show o + vs.length + (n * size - (o + vs.length)) - (o + vs.length) = n * size - (o + vs.length) by omega]
  · exact setRow_other _ _ _ _ fun e2 => hb (by rw [e2]; rfl)
theorem copy_run (w : World) (dT sT ty elem : TypeId) (g o dLen dCap : Nat) (a : Addr) (sLen sCap : Nat) (cs : List Value) (i : TypeInfo) (hu : P.underlying dT = some (.slice elem)) (hi : P.info? elem = some i) (hn : cs.length = Nat.min sLen dLen * i.size)
    (hsrc : ∀ j v, cs[j]? = some v → w.cell? (a.add j) = some v) {w' : World} (hst : (storeCells ⟨g, o, none⟩ cs).run P w = .ok () w') :
    (Builtin.copy_ #[dT, sT] ty #[.slice (some ⟨g, o, none⟩) dLen dCap, .slice (some a) sLen sCap]).run P w = .ok (goInt (Nat.min sLen dLen)) w' := by
  have hl := run_loadCells_list (P := P) w a cs hsrc
  simp [Builtin.copy_, run_underlying hu, Builtin.lenOf, Builtin.firstCells, sizeOf, typeInfo, hi, ← hn, hl, hst]
/-- A copy into an own row. -/
theorem VRawB.copyAt (hT : TabOk P T) {K : Value → List Own → Prop} {t t' e : TypeId} {ti ei : TI} (hd : ti.desc = .slice e) (ht : T.ty t = some ti) (he : T.ty e = some ei) {k g n c o dLen dCap b off sLen sCap : Nat} {xs : List Value} (hk : own[k]? = some (.row (.slice (some ⟨g, 0, none⟩) n c) e ei.size n xs))
    (q : Nat) (hq : Nat.min sLen dLen = q) (vs : List Value) (hl : vs.length = q * ei.size) (hr : ∀ (j : Nat) u, vs[j]? = some u → Rd w0 own b (off + j) u) (h1 : vs.all (·.oneCell') = true) (n2 : Nat) (ys : List Value) (ho : o ≤ xs.length) (hy : xs.take o ++ vs ++ xs.drop (o + vs.length) = ys) (hyl : ys.length = n2 * ei.size) (hn2 : n2 ≤ c)
    (kk : K (goInt q) (own.set k (.row (.slice (some ⟨g, 0, none⟩) n2 c) e ei.size n2 ys))) : VRawB P w0 own .copy [t, t'] [.slice (some ⟨g, o, none⟩) dLen dCap, .slice (some ⟨b, off, none⟩) sLen sCap] K := by
  refine .mk (ι := Unit) (fun _ => True) (fun _ => goInt q) (fun _ => own.set k (.row (.slice (some ⟨g, 0, none⟩) n2 c) e ei.size n2 ys)) (fun ty cs w m => ?_) (fun _ _ => kk)
  obtain ⟨w', hst, m'⟩ := m.put (P := P) hk h1 ho hy hyl hn2
  obtain ⟨i, z, q1, q2, _, _, _⟩ := hT.info e _ he
  have hu := hT.und t _ ht
  rw [hd] at hu
  subst hq
  have h := copy_run (P := P) w t t' ty e g o dLen dCap ⟨b, off, none⟩ sLen sCap vs i hu q1 (by rw [q2]; exact hl) (fun j u hj => by rw [add_none]; exact (hr j u hj).cell m.toMemR) hst
  refine ⟨(), w', trivial, ?_, m'⟩
  show (builtin .copy #[t, t'] ty cs #[.slice (some ⟨g, o, none⟩) dLen dCap, .slice (some ⟨b, off, none⟩) sLen sCap]).run P w = _
  simp only [builtin, Sem.run_bind, h, Result.andThen_ok, Sem.run_pure]
theorem zerosB_one {zero : List Value} (h : zero.all (·.oneCell') = true) : ∀ n, (zerosB zero n).all (·.oneCell') = true
  | 0 => rfl
  | n + 1 => by rw [zerosB, List.all_append, h, zerosB_one h n]; rfl
theorem zeroCells_eq {zero : List Value} {cs : Array Value} (e : cs = zero.toArray) (h : 0 < zero.length) (n : Nat) : Builtin.zeroCells cs n = (zerosB zero n).toArray := by
  subst e
  rw [← zerosB_eq zero n h]
  unfold Builtin.zeroCells
  rw [List.size_toArray]
/-- The tail of an own row is cleared, and the row is cut. -/
theorem VRawB.clearTail (hT : TabOk P T) {K : Value → List Own → Prop} {t e : TypeId} {ti ei : TI} (hd : ti.desc = .slice e) (ht : T.ty t = some ti) (he : T.ty e = some ei) (hs0 : 0 < ei.size) (hz1 : ei.zero.all (·.oneCell') = true) {k g n c o m d : Nat} {xs : List Value} (hk : own[k]? = some (.row (.slice (some ⟨g, 0, none⟩) n c) e ei.size n xs))
    (n2 : Nat) (ho : o = n2 * ei.size) (hm : n2 + m = n) (hm0 : 0 < m)
    (kk : K (.tuple #[]) (own.set k (.row (.slice (some ⟨g, 0, none⟩) n2 c) e ei.size n2 (xs.take (n2 * ei.size))))) : VRawB P w0 own .clear [t] [.slice (some ⟨g, o, none⟩) m d] K := by
  refine .mk (ι := Unit) (fun _ => True) (fun _ => .tuple #[]) (fun _ => own.set k (.row (.slice (some ⟨g, 0, none⟩) n2 c) e ei.size n2 (xs.take (n2 * ei.size)))) (fun ty cs w mm => ?_) (fun _ _ => kk)
  have hzl := hT.zl e _ he
  have h0 := mm.ok k _ hk
  have hxl : xs.length = n * ei.size := h0.2.1
  have hnc : n ≤ c := row_cap mm hk
  have hmul : n2 * ei.size + m * ei.size = n * ei.size := by rw [← Nat.add_mul, hm]
  have hvl : (zerosB ei.zero m).length = m * ei.size := by rw [zerosB_length, hzl]
  obtain ⟨w', hst, m'⟩ := mm.put (P := P) (n2 := n) hk (zerosB_one hz1 m) (o := o) (by omega) rfl (by rw [List.length_append, List.length_append, List.length_take, List.length_drop, hvl, hxl]; omega) hnc
  have m2 := m'.shrink (k := k) (n2 := n2) (get_set hk) (by omega)
  rw [List.set_set, show (xs.take o ++ zerosB ei.zero m ++ xs.drop (o + (zerosB ei.zero m).length)).take (n2 * ei.size) = xs.take (n2 * ei.size) by
    rw [List.append_assoc, List.take_append_of_le_length (by rw [List.length_take]; omega), List.take_take, ho, Nat.min_self]] at m2
  obtain ⟨z, hz, hr⟩ := hT.zv he w
  have hu := hT.und t _ ht
  rw [hd] at hu
  refine ⟨(), w', trivial, ?_, m2⟩
  show (builtin .clear #[t] ty cs #[.slice (some ⟨g, o, none⟩) m d]).run P w = _
  obtain ⟨m1, rfl⟩ : ∃ m1, m = m1 + 1 := ⟨m - 1, by omega⟩
  have hzc : (Builtin.zeroCells z.cells (m1 + 1)).toList = zerosB ei.zero (m1 + 1) := by rw [zeroCells_eq hz (by omega)]
  have h : (Builtin.clear_ #[t] ty #[.slice (some ⟨g, o, none⟩) (m1 + 1) d]).run P w = .ok (.tuple #[]) w' := by
    simp [Builtin.clear_, run_underlying hu, hr, hzc, hst]
  simp only [builtin, Sem.run_bind, h, Result.andThen_ok, Sem.run_pure]
/-- A beginning of an own row, and zero values behind it, in a new row. -/
theorem VRawB.growZeros (hT : TabOk P T) {K : Value → List Own → Prop} {t tn e : TypeId} {ti tj ei : TI} {kq kn : IntKind} (hd : ti.desc = .slice e) (ht : T.ty t = some ti) (hdn : tj.desc = .int kn) (htn : T.ty tn = some tj) (he : T.ty e = some ei) (hs0 : 0 < ei.size) (hb : ei.bytes ≤ 4096) {k g n c i q : Nat} {x : Int} {xs : List Value} (hk : own[k]? = some (.row (.slice (some ⟨g, 0, none⟩) n c) e ei.size n xs))
    (hx : x = (q : Int)) (hi : i ≤ n) (hq : 0 < q) (hc : c < i + q) (hm : i + q ≤ 1048576)
    (kk : ∀ g' c', i + q ≤ c' → K (.slice (some ⟨g', 0, none⟩) (i + q) c') (own ++ [.row (.slice (some ⟨g', 0, none⟩) (i + q) c') e ei.size (i + q) (xs.take (i * ei.size) ++ zerosB ei.zero q)])) : VRawB P w0 own .append [t, tn] [.slice (some ⟨g, 0, none⟩) i c, .int kq x] K := by
  subst hx
  refine .mk (ι := Nat × Nat) (fun i9 => i + q ≤ i9.2) (fun i9 => .slice (some ⟨i9.1, 0, none⟩) (i + q) i9.2) (fun i9 => own ++ [.row (.slice (some ⟨i9.1, 0, none⟩) (i + q) i9.2) e ei.size (i + q) (xs.take (i * ei.size) ++ zerosB ei.zero q)]) (fun ty cs w mm => ?_) (fun i9 h9 => kk _ _ h9)
  have hzl := hT.zl e _ he
  have hu := hT.und t _ ht
  rw [hd] at hu
  have hun := hT.und tn _ htn
  rw [hdn] at hun
  obtain ⟨ix, z, q1, q2, q3, q4, q5⟩ := hT.info e _ he
  have h0 := mm.ok k _ hk
  have hxl : xs.length = n * ei.size := h0.2.1
  have hni : i * ei.size ≤ n * ei.size := Nat.mul_le_mul_right _ hi
  have hol : (xs.take (i * ei.size)).length = i * ei.size := by rw [List.length_take]; omega
  have hcell : ∀ j u, (xs.take (i * ei.size))[j]? = some u → w.drew.cell? ((⟨g, 0, none⟩ : Addr).add j) = some u := fun j u hj => by
    rw [add_none]
    have hj2 : xs[j]? = some u := by
      rw [List.getElem?_take] at hj
      split at hj
      · exact hj
      · cases hj
    show w.cell? _ = _
    rw [Nat.zero_add]
    exact (Rd.row k hk hj2).cell mm.toMemR
  have hf := run_firstCells_some (P := P) w.drew ix.size i ⟨g, 0, none⟩ i c (xs.take (i * ei.size)) (by rw [hol, q2]) hcell
  have hnx := nextslicecap_le (need := i + q) (old := c) hc
  have hfit : Builtin.nextslicecap (i + q) c * ix.bytes ≤ 281474976710656 := by
    have : Builtin.nextslicecap (i + q) c * ix.bytes ≤ 2097152 * 4096 := Nat.mul_le_mul (by omega) (by omega)
    omega
  have hfit2 : q * ix.bytes ≤ 281474976710656 := by
    have : q * ix.bytes ≤ 1048576 * 4096 := Nat.mul_le_mul (by omega) (by omega)
    omega
  have hr := Lib.run_append_grow_zeros (P := P) w t tn ty e ix z kq kn hu hun q1 q4 (some ⟨g, 0, none⟩) i c (xs.take (i * ei.size)) hf q hq (by omega) hc (by omega) hfit2 hfit
  have hge := grownCap_ge w (i + q) c e
  have hle := grownCap_le_maxLen w (i + q) c e (by unfold maxLen; omega)
  generalize grownCap w (i + q) c e = cc at *
  rw [zeroCells_eq q5 (by omega), zeroCells_eq q5 (by omega), List.append_toArray, List.append_toArray] at hr
  have m1 := mm.drew.alloc e (xs.take (i * ei.size) ++ zerosB ei.zero q ++ zerosB ei.zero (cc - (i + q)))
  have hcl : (xs.take (i * ei.size) ++ zerosB ei.zero q ++ zerosB ei.zero (cc - (i + q))).length = cc * ei.size := by
    rw [List.length_append, List.length_append, hol, zerosB_length, zerosB_length, hzl, ← Nat.add_mul, ← Nat.add_mul]
    congr 1
    omega
  have hsz : w.drew.heap.size = w.heap.size := rfl
  have hlast : ∀ o : Own, (own ++ [o])[own.length]? = some o := fun o => by rw [List.getElem?_append_right (Nat.le_refl _), Nat.sub_self]; rfl
  have e9 : ∀ x y : Own, (own ++ [x]).set own.length y = own ++ [y] := fun x y => by simp
  have m2 := Mem.turnRow (hlast _) hcl hle m1
  rw [e9] at m2
  have m3 := m2.shrink (hlast _) hge
  rw [e9, List.take_append_of_le_length (by rw [List.length_append, hol, zerosB_length, hzl, Nat.add_mul]; exact Nat.le_refl _), List.take_of_length_le (by rw [List.length_append, hol, zerosB_length, hzl, Nat.add_mul]; exact Nat.le_refl _)] at m3
  refine ⟨(w.heap.size, cc), _, hge, ?_, m3⟩
  show (builtin .append #[t, tn] ty cs #[.slice (some ⟨g, 0, none⟩) i c, .int kq q]).run P w = _
  simp only [builtin, Sem.run_bind, hr, Result.andThen_ok, Sem.run_pure]
  rfl
end
end Go.Proofs.YtadjhkehfklmnaaGreatDoor
namespace Go.Proofs.YtadjhkehfklmnaaGreatDoor
set_option linter.unusedSimpArgs false
set_option linter.unusedVariables false
open Go.RowKit
set_option maxRecDepth 10000
set_option maxHeartbeats 1600000 in
theorem delC_v (B : Option Addr) (g c : Nat) (L : List Int) (a : Aw) (w : World) (hl : 0 < L.length) (hb : Seen w (some ⟨g, 0, none⟩) [.slice B L.length c]) (hB : Seen w B (IL L)) :
    Calls Tryz.prog 150 #[.agg a.cells.toArray, .pointer (some ⟨g, 0, none⟩)] w (Post (.bool (tr (a.id = a0 L 0))) w) := by
  obtain ⟨b0, off0, e0, hb0, hc0⟩ := hb 0 _ rfl
  cases e0
  obtain ⟨b1, off1, rfl, hb1, hc1⟩ := IL_lookM hB hl
  change w.cell? _ = some (.int .i64 (a0 L 0)) at hc1
  refine post_of_vc ?_
  refine calls_of_vc tb_ok (args := [.agg a.cells.toArray, .pointer (some ⟨g, 0, none⟩)]) Tryz.func150 rfl ?_
  by_cases h : a.id = a0 L 0
  · rw [tr_yes h]
    (repeat' ((conv => whnf); first | refine go ?_ | (refine VSome.mk ?_; intro gQ hA'; first | subst hA' | cases hA' | (dsimp only at hA'; subst hA')) | refine And.intro ?_ ?_ | intro _ | (first | ((show VDraw _ _ _ _ _ _); refine VDraw.mk (.take 0 (.take 1 (.take 2 (.take 3 (.take 4 (.take 5 (.take 6 .done))))))) [0] (by kernel_rfl) (by kernel_rfl) ?_))))
    all_goals ((conv => whnf); refine VRet.mk fun w' m => ?_)
    all_goals exact ⟨congrArg Value.bool (by first | exact decide_eq_true h | rfl), m.keeps.below⟩
  · rw [tr_no h]
    (repeat' ((conv => whnf); first | refine go ?_ | (refine VSome.mk ?_; intro gQ hA'; first | subst hA' | cases hA' | (dsimp only at hA'; subst hA')) | refine And.intro ?_ ?_ | intro _ | (first | ((show VDraw _ _ _ _ _ _); refine VDraw.mk (.take 0 (.take 1 (.take 2 (.take 3 (.take 4 (.take 5 (.take 6 .done))))))) [0] (by kernel_rfl) (by kernel_rfl) ?_))))
    all_goals ((conv => whnf); refine VRet.mk fun w' m => ?_)
    all_goals exact ⟨congrArg Value.bool (by first | exact decide_eq_false h | rfl), m.keeps.below⟩
def ixO (o : Option Nat) : Int := match o with
  | some i => i
  | none => -1
set_option maxHeartbeats 4000000 in
theorem idxF_v (A B : Option Addr) (n cp g c : Nat) (f : Nat → Aw) (L : List Int) (w : World) (hn : n ≤ 1048576) (hl : 0 < L.length) (hb : Seen w (some ⟨g, 0, none⟩) [.slice B L.length c]) (hB : Seen w B (IL L)) (hA : Seen w A (AwS n f)) :
    Calls Tryz.prog 184 #[.slice A n cp, .func (.func 150) #[] #[.pointer (some ⟨g, 0, none⟩)]] w (Post (.int .i64 (ixO (fnd f (a0 L 0) n))) w) := by
  refine post_of_vc ?_
  refine calls_of_vc tb_ok (args := [.slice A n cp, .func (.func 150) #[] #[.pointer (some ⟨g, 0, none⟩)]]) Tryz.func184 rfl ?_
  (repeat' ((conv => whnf); first | refine go ?_ | (refine VSome.mk ?_; intro gQ hA'; first | subst hA' | cases hA' | (dsimp only at hA'; subst hA')) | refine And.intro ?_ ?_ | intro _))
  (conv => whnf)
  refine VLoop.mk (ι := Nat) [4, 5, 8, 9, 10, 11, 12, 13, 14, 15, 16, 17, 18] (fun k => [(8, .int .i64 k)]) (fun _ => []) (fun k => k ≤ n ∧ ∀ j, j < k → ¬ (f j).id = a0 L 0) (fun k => n - k) 0 ⟨Nat.zero_le _, fun j hj => absurd hj (Nat.not_lt_zero j)⟩ ?_ (OwnLe.mk [] (by simp) rfl) (fun k u hk => ?_)
  · ((conv => whnf); repeat (first | exact trivial | refine ⟨rfl, ?_⟩ | refine ⟨congrArg (Value.int .i64) (by first | omega | assumption | exact Eq.symm (by assumption)), ?_⟩))
  obtain ⟨hk, hno⟩ := hk
  by_cases hlt : k < n
  · obtain ⟨b1, off1, rfl, hb1, hr1, _⟩ := AwS.look hA hlt
    have hC := fun w hb hB => delC_v B g c L (f k) w hl hb hB
    have hw : ∀ {w1 : World} {own : List Own}, Mem (Base.of w) own w1 → Seen w1 (some ⟨g, 0, none⟩) [.slice B L.length c] ∧ Seen w1 B (IL L) := fun m1 => ⟨hb.below m1.keeps.below, hB.below m1.keeps.below⟩
    by_cases hx : (f k).id = a0 L 0
    · have hf := fnd_is hlt hx hno
      rw [tr_yes hx] at hC
      rw [hf]
      (repeat' ((conv => whnf); first | refine go ?_ | (refine VSome.mk ?_; intro gQ hA'; first | subst hA' | cases hA' | (dsimp only at hA'; subst hA')) | refine And.intro ?_ ?_ | intro _ | (first | ((show VCall _ _ _ 150 _ _); refine VCall.grow _ (fun w1 m1 => hC w1 (hw m1).1 (hw m1).2) ?_))))
      all_goals ((conv => whnf); refine VRet.mk fun w' m => ?_)
      all_goals exact ⟨rfl, m.keeps.below⟩
    · rw [tr_no hx] at hC
      (repeat' ((conv => whnf); first | refine go ?_ | (refine VSome.mk ?_; intro gQ hA'; first | subst hA' | cases hA' | (dsimp only at hA'; subst hA')) | refine And.intro ?_ ?_ | intro _ | (first | ((show VCall _ _ _ 150 _ _); refine VCall.grow _ (fun w1 m1 => hC w1 (hw m1).1 (hw m1).2) ?_))))
      all_goals (conv => whnf)
      all_goals (refine VNext.mk (k + 1) ⟨hlt, fun j hj => ?_⟩ (by omega) ?_ (OwnLe.mk [] (by simp) rfl))
      · rcases Nat.lt_or_ge j k with h | h
        · exact hno j h
        · obtain rfl : j = k := by omega
          exact hx
      · ((conv => whnf); repeat (first | exact trivial | refine ⟨rfl, ?_⟩ | refine ⟨congrArg (Value.int .i64) (by first | omega | assumption | exact Eq.symm (by assumption)), ?_⟩))
  · obtain rfl : k = n := by omega
    have hf : fnd f (a0 L 0) k = none := by
      cases e : fnd f (a0 L 0) k with
      | none => rfl
      | some i => exact absurd (fnd_some e).2.1 (hno i (fnd_some e).1)
    rw [hf]
    (repeat' ((conv => whnf); first | refine go ?_ | (refine VSome.mk ?_; intro gQ hA'; first | subst hA' | cases hA' | (dsimp only at hA'; subst hA')) | refine And.intro ?_ ?_ | intro _))
    (conv => whnf); refine VRet.mk fun w' m => ?_
    exact ⟨rfl, m.keeps.below⟩
def mvF (f : Nat → Aw) (i j r : Nat) : Aw := if i ≤ r ∧ r + 1 < j then f (r + 1) else f r
theorem mvF_0 (f : Nat → Aw) (i r : Nat) : mvF f i (i + 1) r = f r := by unfold mvF; rw [if_neg (by omega)]
theorem mvF_at (f : Nat → Aw) (i j : Nat) : mvF f i j j = f j := by unfold mvF; rw [if_neg (by omega)]
theorem mvF_suc (f : Nat → Aw) {i j : Nat} (h : i < j) (r : Nat) : upd (mvF f i j) (j - 1) (f j) r = mvF f i (j + 1) r := by
  unfold upd mvF
  by_cases h1 : r = j - 1
  · subst h1
    rw [if_pos rfl, if_pos (by omega), show j - 1 + 1 = j by omega]
  · rw [if_neg h1]
    by_cases h2 : i ≤ r ∧ r + 1 < j
    · rw [if_pos h2, if_pos (by omega)]
    · rw [if_neg h2, if_neg (by omega)]
theorem mvF_end (f : Nat → Aw) {i n r : Nat} (h : r < n - 1) : mvF f i n r = delF f i r := by
  unfold mvF delF
  by_cases h1 : r < i
  · rw [if_neg (by omega), if_pos h1]
  · rw [if_pos (by omega), if_neg h1]
end Go.Proofs.YtadjhkehfklmnaaGreatDoor
