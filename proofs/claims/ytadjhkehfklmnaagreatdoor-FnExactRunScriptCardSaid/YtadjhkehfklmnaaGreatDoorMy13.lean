/-
  Texts joined: how the calls that the law reaches are walked, and the plain laws behind them.
  Conditions: none beyond each statement's own premises.
-/
import Derived.Test.YtadjhkehfklmnaaGreatDoorMy12
namespace Go.Proofs.YtadjhkehfklmnaaGreatDoor
set_option linter.unusedSimpArgs false
set_option linter.unusedVariables false
open Go.RowKit
set_option maxRecDepth 10000
def insAt (L : List Nat) (k j : Nat) : List Nat := L.take j ++ k :: L.drop j
theorem insAt_len (L : List Nat) (k j : Nat) (h : j ≤ L.length) : (insAt L k j).length = L.length + 1 := by
  unfold insAt
  simp only [List.length_append, List.length_take, List.length_cons, List.length_drop]
  omega
theorem insAt_at {L R : List Nat} {k j : Nat} (h : j ≤ L.length) : nth (insAt L k j ++ R) j = k := by
  unfold nth insAt
  rw [List.getD_eq_getElem?_getD, List.append_assoc, List.getElem?_append_right (by rw [List.length_take]; omega), List.length_take]
  rw [show j - min j L.length = 0 by omega]
  rfl
theorem insAt_before {L R : List Nat} {k j i : Nat} (h : j ≤ L.length) (hi : i < j) : nth (insAt L k j ++ R) i = nth L i := by
  unfold nth insAt
  rw [List.getD_eq_getElem?_getD, List.getD_eq_getElem?_getD, List.append_assoc, List.getElem?_append_left (by rw [List.length_take]; omega), List.getElem?_take, if_pos hi]
theorem insAt_swap {L R : List Nat} {k j : Nat} (h : j + 1 ≤ L.length) : ((insAt L k (j + 1) ++ R).set (j + 1) (nth L j)).set j k = insAt L k j ++ R := by
  obtain ⟨L1, y, L2, rfl, hl⟩ : ∃ L1 y L2, L = L1 ++ y :: L2 ∧ L1.length = j := by
    refine ⟨L.take j, L[j], L.drop (j + 1), ?_, by rw [List.length_take]; omega⟩
    rw [← List.drop_eq_getElem_cons (by omega), List.take_append_drop]
  subst hl
  have e1 : nth (L1 ++ y :: L2) L1.length = y := by
    unfold nth
    rw [List.getD_eq_getElem?_getD, List.getElem?_append_right (Nat.le_refl _), Nat.sub_self]
    rfl
  have e2 : insAt (L1 ++ y :: L2) k (L1.length + 1) = L1 ++ y :: k :: L2 := by
    unfold insAt
    rw [show L1 ++ y :: L2 = (L1 ++ [y]) ++ L2 by simp, show L1.length + 1 = (L1 ++ [y]).length by simp, List.take_left' rfl, List.drop_left' rfl]
    simp
  have e3 : insAt (L1 ++ y :: L2) k L1.length = L1 ++ k :: y :: L2 := by
    unfold insAt
    rw [List.take_left' rfl, List.drop_left' rfl]
  rw [e1, e2, e3]
  have e4 : (L1 ++ y :: k :: L2 ++ R) = L1 ++ (y :: k :: (L2 ++ R)) := by simp
  rw [e4, List.set_append_right _ _ (by omega), show L1.length + 1 - L1.length = 1 by omega]
  show (L1 ++ y :: y :: (L2 ++ R)).set L1.length k = _
  rw [List.set_append_right _ _ (Nat.le_refl _), Nat.sub_self]
  simp
theorem NL_set (p : List Nat) (j x : Nat) : setRange (NL p) j [.int .i64 x] = NL (p.set j x) := by
  show (NL p).set j _ = _
  unfold NL IL
  rw [List.map_set, List.map_set]
theorem nth_len {p : List Nat} {k : Nat} (h : k < p.length) (o : Nat) (e : o = k) : (NL p)[o]? = some (.int .i64 (nth p k : Nat)) := NL_get h o e
def rngFrom (n k : Nat) : List Nat := (List.range n).drop k
theorem rng_cons {n k : Nat} (h : k < n) : rngFrom n k = k :: rngFrom n (k + 1) := by
  unfold rngFrom
  rw [List.drop_eq_getElem_cons (by rw [List.length_range]; exact h), List.getElem_range]
theorem rng_len (n k : Nat) : (rngFrom n k).length = n - k := by unfold rngFrom; rw [List.length_drop, List.length_range]
noncomputable def srt (f : Nat → Aw) (n k : Nat) : List Nat := fc f k ++ rngFrom n k
theorem srt_all (f : Nat → Aw) (n : Nat) : srt f n n = fc f n := by
  unfold srt rngFrom
  rw [List.drop_eq_nil_of_le (by simp), List.append_nil]
noncomputable def mid (f : Nat → Aw) (n k j : Nat) : List Nat := insAt (fc f k) k j ++ rngFrom n (k + 1)
theorem mid_len (f : Nat → Aw) {n k j : Nat} (h : k < n) (hj : j ≤ k) : (mid f n k j).length = n := by
  unfold mid
  rw [List.length_append, insAt_len _ _ _ (by rw [fc_len]; exact hj), fc_len, rng_len]; omega
theorem mid_start (f : Nat → Aw) {n k : Nat} (h : k < n) : srt f n k = mid f n k k := by
  unfold srt mid insAt
  rw [rng_cons h]
  have e : (fc f k).length = k := fc_len k
  conv => lhs; rw [← List.take_append_drop k (fc f k)]
  rw [List.drop_eq_nil_of_le (by omega)]
  simp
theorem mid_end (f : Nat → Aw) {n k j : Nat} (h : bk f (fc f k) k k = j) : mid f n k j = srt f n (k + 1) := by
  unfold mid srt
  show _ = put f (fc f k) k ++ _
  unfold put insAt
  rw [fc_len, h]
theorem mid_at (f : Nat → Aw) {n k j : Nat} (hj : j ≤ k) : nth (mid f n k j) j = k := insAt_at (by rw [fc_len]; exact hj)
theorem mid_before (f : Nat → Aw) {n k j i : Nat} (hj : j ≤ k) (hi : i < j) : nth (mid f n k j) i = nth (fc f k) i := insAt_before (by rw [fc_len]; exact hj) hi
theorem mid_swap (f : Nat → Aw) {n k j : Nat} (hj : j + 1 ≤ k) : ((mid f n k (j + 1)).set (j + 1) (nth (fc f k) j)).set j k = mid f n k j := insAt_swap (by rw [fc_len]; exact hj)
theorem bef_asymm {a b : Aw} (h : bef a b) : ¬ bef b a := by unfold bef at *; omega
set_option maxHeartbeats 1600000 in
theorem cmpF_v (A : Option Addr) (n c g : Nat) (f : Nat → Aw) (i k : Nat) (w : World) (hi : i < n) (hk : k < n) (hb : g < w.heap.size) (hc : w.cell? ⟨g, 0, none⟩ = some (.slice A n c)) (hA : Seen w A (AwS n f)) :
    Calls Tryz.prog 255 #[.int .i64 i, .int .i64 k, .pointer (some ⟨g, 0, none⟩)] w (Post (.int .i64 (cmA (f i) (f k))) w) := by
  obtain ⟨b1, off1, rfl, hb1, hr1, _⟩ := AwS.look hA hi
  obtain ⟨b2, off2, e2, hb2, hr2, _⟩ := AwS.look hA hk
  cases e2
  refine post_of_vc ?_
  refine calls_of_vc tb_ok (args := [.int .i64 i, .int .i64 k, .pointer (some ⟨g, 0, none⟩)]) Tryz.func255 rfl ?_
  (repeat' ((conv => whnf); first | refine go ?_ | (refine VSome.mk ?_; intro gQ hA'; first | subst hA' | cases hA' | (dsimp only at hA'; subst hA')) | refine And.intro ?_ ?_ | intro _ | (first | ((show VCall _ _ _ 243 _ _); refine VCall.grow _ (fun w1 _ => cmpArr_v (f i) (f k) w1) ?_) | ((show VDraw _ _ _ _ _ _); refine VDraw.mk (.take 0 (.take 1 (.take 2 (.take 3 (.take 4 (.take 5 (.take 6 (.take 7 (.br 8 (.take 9 .done) .done))))))))) [] (by kernel_rfl) (by kernel_rfl) ?_))))
  all_goals ((conv => whnf); refine VRet.mk fun w' m => ?_)
  all_goals exact ⟨rfl, m.keeps.below⟩
set_option maxHeartbeats 8000000 in
theorem insSort_v {w0 : Base} {w : World} (A : Option Addr) (n c g : Nat) (f : Nat → Aw) (P : Option Addr) (cp : Nat) (hn : n ≤ 6) (hA : OldSeen w0 A (AwS n f)) (hbx : OldSeen w0 (some ⟨g, 0, none⟩) [.slice A n c]) (m0 : Mem w0 [.row (.slice P n cp) 3 1 n (NL (srt f n 0))] w) :
    Calls Tryz.prog 263 #[.slice P n cp, .int .i64 0, .int .i64 n, .func (.func 255) #[] #[.pointer (some ⟨g, 0, none⟩)]] w fun e w' => ∃ v, e = .returned v ∧ RetL (ι := Unit) (fun _ => True) (fun _ => .tuple #[]) (fun _ => [.row (.slice P n cp) 3 1 n (NL (fc f n))]) (fun _ => []) w0 v w' := by
  have hcl : ∀ (own : List Own) (w1 : World), Mem w0 own w1 → ∀ i k, i < n → k < n → Calls Tryz.prog 255 #[.int .i64 i, .int .i64 k, .pointer (some ⟨g, 0, none⟩)] w1 (Post (.int .i64 (cmA (f i) (f k))) w1) := fun own w1 m1 i k hi hk => by
    obtain ⟨b, off, e, hb, hl, hc⟩ := hbx 0 _ rfl
    cases e
    exact cmpF_v A n c g f i k w1 hi hk (Nat.lt_of_lt_of_le hb m1.keeps.size) ((Rd.old (own := own) hb hl hc).cell m1.toMemR) (hA.now m1)
  refine calls_of_vcL (w0 := w0) tb_ok (args := [.slice P n cp, .int .i64 0, .int .i64 n, .func (.func 255) #[] #[.pointer (some ⟨g, 0, none⟩)]]) Tryz.func263 rfl m0 ?_
  rcases Nat.eq_zero_or_pos n with h0 | h0
  · subst h0
    (repeat' ((conv => whnf); first | refine go ?_ | (refine VSome.mk ?_; intro gQ hA'; first | subst hA' | cases hA' | (dsimp only at hA'; subst hA')) | refine And.intro ?_ ?_ | intro _))
    (conv => whnf)
    refine VLoop.mk (ι := Unit) [8, 9, 12, 13, 14, 15, 16, 17, 18, 19, 20, 21, 22, 23, 24, 25, 26, 27, 28, 29, 30, 31, 32, 33, 34, 35, 36, 37, 38, 39, 40, 41, 42, 43, 44, 45, 46, 47, 48, 49, 50, 51, 52] (fun _ => [(8, .int .i64 1)]) (fun k => [.row (.slice P 0 cp) 3 1 0 (NL (srt f 0 0))]) (fun _ => True) (fun _ => 0) () trivial ?_ (OwnLe.mk [0] (by simp) rfl) (fun k u hk => ?_)
    · ((conv => whnf); repeat (first | exact trivial | refine ⟨rfl, ?_⟩ | refine ⟨congrArg (Value.int .i64) (by first | omega | assumption | exact Eq.symm (by assumption)), ?_⟩))
    (repeat' ((conv => whnf); first | refine go ?_ | (refine VSome.mk ?_; intro gQ hA'; first | subst hA' | cases hA' | (dsimp only at hA'; subst hA')) | refine And.intro ?_ ?_ | intro _))
    (conv => whnf)
    exact VRet.mk fun w' m => ⟨(), trivial, rfl, m.sel (ks := [0]) (by simp)⟩
  have h01 : srt f n 0 = srt f n 1 := (mid_start f h0).trans (mid_end (j := 0) f rfl)
  (repeat' ((conv => whnf); first | refine go ?_ | (refine VSome.mk ?_; intro gQ hA'; first | subst hA' | cases hA' | (dsimp only at hA'; subst hA')) | refine And.intro ?_ ?_ | intro _))
  (conv => whnf)
  refine VLoop.mk (ι := Nat) [8, 9, 12, 13, 14, 15, 16, 17, 18, 19, 20, 21, 22, 23, 24, 25, 26, 27, 28, 29, 30, 31, 32, 33, 34, 35, 36, 37, 38, 39, 40, 41, 42, 43, 44, 45, 46, 47, 48, 49, 50, 51, 52] (fun k => [(8, .int .i64 k)]) (fun k => [.row (.slice P n cp) 3 1 n (NL (srt f n k))]) (fun k => 1 ≤ k ∧ k ≤ n) (fun k => n + 1 - k) 1 ⟨Nat.le_refl _, by omega⟩ ?_ (OwnLe.mk [0] (by simp) (by rw [← h01]; rfl)) (fun k u hk => ?_)
  · ((conv => whnf); repeat (first | exact trivial | refine ⟨rfl, ?_⟩ | refine ⟨congrArg (Value.int .i64) (by first | omega | assumption | exact Eq.symm (by assumption)), ?_⟩))
  obtain ⟨hk1, hk2⟩ := hk
  by_cases hlt : k < n
  · (repeat' ((conv => whnf); first | refine go ?_ | (refine VSome.mk ?_; intro gQ hA'; first | subst hA' | cases hA' | (dsimp only at hA'; subst hA')) | refine And.intro ?_ ?_ | intro _))
    (conv => whnf)
    refine VLoop.mk (ι := Nat) [9, 18, 19, 20, 21, 22, 23, 24, 25, 26, 27, 28, 29, 30, 31, 32, 33, 34, 35, 36, 37, 38, 39, 40, 41, 42, 43, 44, 45, 46, 47, 48, 49, 50, 51, 52] (fun j => [(9, .int .i64 j)]) (fun j => [.row (.slice P n cp) 3 1 n (NL (mid f n k j))]) (fun j => j ≤ k ∧ bk f (fc f k) k k = bk f (fc f k) k j) (fun j => j) k ⟨Nat.le_refl _, rfl⟩ ?_ (OwnLe.mk [0] (by simp) (by rw [← mid_start f hlt]; rfl)) (fun j u hj => ?_)
    · ((conv => whnf); repeat (first | exact trivial | refine ⟨rfl, ?_⟩ | refine ⟨congrArg (Value.int .i64) (by first | omega | assumption | exact Eq.symm (by assumption)), ?_⟩))
    obtain ⟨hjk, hbk⟩ := hj
    have hml := mid_len f hlt hjk
    rcases j with _ | j
    · (repeat' ((conv => whnf); first | refine go ?_ | (refine VSome.mk ?_; intro gQ hA'; first | subst hA' | cases hA' | (dsimp only at hA'; subst hA')) | refine And.intro ?_ ?_ | intro _ | (first | ((show VDraw _ _ _ #[{ dst := some 18, op := _, type := _, pos := _, after := _, guard := _ }, _, _, _, _, _, _, _, _, _, _, _, _, _, _, _, _] _ _); refine VDraw.mk (.take 0 (.take 1 (.take 2 (.take 3 (.take 4 (.take 5 (.take 6 (.take 7 (.take 8 (.take 9 (.take 10 (.take 11 (.take 12 (.take 13 (.br 14 (.take 15 (.take 16 .done)) .done))))))))))))))) [0] (by kernel_rfl) (by kernel_rfl) ?_))))
      all_goals (conv => whnf)
      all_goals (refine VNext.mk (k + 1) ⟨by omega, by omega⟩ (by omega) ?_ (OwnLe.mk [0] (by simp) (by rw [← mid_end f (n := n) hbk]; rfl)); ((conv => whnf); repeat (first | exact trivial | refine ⟨rfl, ?_⟩ | refine ⟨congrArg (Value.int .i64) (by first | omega | assumption | exact Eq.symm (by assumption)), ?_⟩)))
    · have hx : ((j + 1 : Nat) : Int) - 1 = (j : Int) := by omega
      have a1 : (NL (mid f n k (j + 1)))[mulS (j + 1) 1]? = some (.int .i64 (k : Nat)) := by rw [nth_len (k := j + 1) (by rw [hml]; omega) _ (by rw [mulS_eq]; omega), mid_at f hjk]
      have a2 : (NL (mid f n k (j + 1)))[mulS j 1]? = some (.int .i64 (nth (fc f k) j : Nat)) := by rw [nth_len (k := j) (by rw [hml]; omega) _ (by rw [mulS_eq]; omega), mid_before f hjk (Nat.lt_succ_self j)]
      have a3 : (NL (mid f n k (j + 1)))[0 + mulS (j + 1) 1]? = some (.int .i64 (k : Nat)) := by rw [Nat.zero_add]; exact a1
      have a4 : (NL (mid f n k (j + 1)))[0 + mulS j 1]? = some (.int .i64 (nth (fc f k) j : Nat)) := by rw [Nat.zero_add]; exact a2
      have hfj : nth (fc f k) j < n := by have := fc_mem (f := f) (k := k) (m := j) (by omega); omega
      have hcm := cmA_in (f k) (f (nth (fc f k) j))
      have hC := fun own w1 m1 => hcl own w1 m1 k (nth (fc f k) j) hlt hfj
      generalize cmA (f k) (f (nth (fc f k) j)) = cv at *
      (repeat' ((conv => whnf); first | refine go ?_ | (refine VSome.mk ?_; intro gQ hA'; first | subst hA' | cases hA' | (dsimp only at hA'; subst hA')) | refine And.intro ?_ ?_ | intro _ | (first | ((show VDraw _ _ _ #[{ dst := some 18, op := _, type := _, pos := _, after := _, guard := _ }, _, _, _, _, _, _, _, _, _, _, _, _, _, _, _, _] _ _); refine VDraw.mk (.take 0 (.take 1 (.take 2 (.take 3 (.take 4 (.take 5 (.take 6 (.take 7 (.take 8 (.take 9 (.take 10 (.take 11 (.take 12 (.take 13 (.br 14 (.take 15 (.take 16 .done)) .done))))))))))))))) [0] (by kernel_rfl) (by kernel_rfl) ?_) | ((show VDraw _ _ _ #[{ dst := some 37, op := _, type := _, pos := _, after := _, guard := _ }, _, _, _, _, _, _, _, _, _, _, _, _, _, _, _, _, _] _ _); refine VDraw.mk (.take 0 (.take 1 (.take 2 (.take 3 (.take 4 (.take 5 (.take 6 (.take 7 (.take 8 (.take 10 (.take 11 (.take 12 (.br 9 (.br 13 (.take 14 (.br 15 (.take 16 (.br 17 .done .done)) .done)) .done) (.br 13 (.br 9 (.take 14 (.br 15 (.take 16 (.br 17 .done .done)) .done)) .done) .done)))))))))))))) [] (by kernel_rfl) (by kernel_rfl) ?_) | ((show VCall _ _ _ 255 _ _); refine VCall.grow _ (fun w1 m1 => hC _ w1 m1) ?_) | ((show VStore _ _ _ _ _ _); first | refine VStore.rowAt 0 (j + 1) (by first | (rw [mulS_eq]; omega) | (show 0 + mulS (j + 1) 1 = j + 1; rw [mulS_eq]; omega)) rfl rfl (by rw [NL_len1, hml]; show j + 1 + 1 ≤ n * 1; omega) rfl ?_ | refine VStore.rowAt 0 j (by first | (rw [mulS_eq]; omega) | (show 0 + mulS j 1 = j; rw [mulS_eq]; omega)) rfl rfl (by rw [setRange_length, NL_len1, hml]; show j + 1 ≤ n * 1; omega) rfl ?_))))
      all_goals (conv => whnf)
      all_goals first
        | (have hb : bef (f k) (f (nth (fc f k) j)) := by
             rcases hcm with ⟨h, _⟩ | ⟨_, h⟩ | ⟨_, _, h⟩
             · exact h
             · omega
             · omega
           refine VNext.mk j ⟨by omega, hbk.trans (bk_yes hb)⟩ (by omega) ?_ (OwnLe.mk [0] (by simp) (by rw [NL_set, NL_set, mid_swap f hjk]; rfl))
           ((conv => whnf); repeat (first | exact trivial | refine ⟨rfl, ?_⟩ | refine ⟨congrArg (Value.int .i64) (by first | omega | assumption | exact Eq.symm (by assumption)), ?_⟩)))
        | (have hb : ¬ bef (f k) (f (nth (fc f k) j)) := by
             rcases hcm with ⟨_, h⟩ | ⟨h, _⟩ | ⟨h, _, _⟩
             · omega
             · exact bef_asymm h
             · exact h
           refine VNext.mk (k + 1) ⟨by omega, by omega⟩ (by omega) ?_ (OwnLe.mk [0] (by simp) (by rw [← mid_end f (n := n) (hbk.trans (bk_no hb))]; rfl))
           ((conv => whnf); repeat (first | exact trivial | refine ⟨rfl, ?_⟩ | refine ⟨congrArg (Value.int .i64) (by first | omega | assumption | exact Eq.symm (by assumption)), ?_⟩)))
  · obtain rfl : n = k := by omega
    (repeat' ((conv => whnf); first | refine go ?_ | (refine VSome.mk ?_; intro gQ hA'; first | subst hA' | cases hA' | (dsimp only at hA'; subst hA')) | refine And.intro ?_ ?_ | intro _))
    (conv => whnf)
    exact VRet.mk fun w' m => ⟨(), trivial, rfl, by rw [srt_all] at m; exact m.sel (ks := [0]) (by simp)⟩
end Go.Proofs.YtadjhkehfklmnaaGreatDoor
namespace Go.Proofs.YtadjhkehfklmnaaGreatDoor
set_option linter.unusedSimpArgs false
set_option linter.unusedVariables false
open Go.RowKit
set_option maxRecDepth 100000
set_option maxHeartbeats 8000000 in
theorem pdq_v {w0 : Base} {w : World} (A : Option Addr) (n c g : Nat) (f : Nat → Aw) (P : Option Addr) (cp : Nat) (lim : Int) (hn : n ≤ 6) (hA : OldSeen w0 A (AwS n f)) (hbx : OldSeen w0 (some ⟨g, 0, none⟩) [.slice A n c]) (m0 : Mem w0 [.row (.slice P n cp) 3 1 n (NL (srt f n 0))] w) :
    Calls Tryz.prog 260 #[.slice P n cp, .int .i64 0, .int .i64 n, .int .i64 lim, .func (.func 255) #[] #[.pointer (some ⟨g, 0, none⟩)]] w fun e w' => ∃ v, e = .returned v ∧ RetL (ι := Unit) (fun _ => True) (fun _ => .tuple #[]) (fun _ => [.row (.slice P n cp) 3 1 n (NL (fc f n))]) (fun _ => []) w0 v w' := by
  refine calls_of_vcL (w0 := w0) tb_ok (args := [.slice P n cp, .int .i64 0, .int .i64 n, .int .i64 lim, .func (.func 255) #[] #[.pointer (some ⟨g, 0, none⟩)]]) Tryz.func260 rfl m0 ?_
  (repeat' ((conv => whnf); first | refine go ?_ | (refine VSome.mk ?_; intro gQ hA'; first | subst hA' | cases hA' | (dsimp only at hA'; subst hA')) | refine And.intro ?_ ?_ | intro _))
  (conv => whnf)
  refine VLoop.mk (ι := Unit) [1, 2, 3, 10, 11, 12, 13, 14, 15, 16, 17, 18, 19, 20, 21, 22, 23, 24, 25, 26, 27, 28, 29, 30, 31, 32, 33, 34, 35, 36, 37, 38, 39, 40, 41, 42, 43, 44, 45, 46, 47, 48, 49, 50, 51, 52, 53, 54, 55, 56, 57, 58, 59, 60, 61, 62, 63, 64, 65, 66, 67, 68, 69, 70, 71, 72, 73, 74, 75, 76, 77, 78, 79, 80, 81, 82, 83, 84, 85, 86, 87, 88, 89, 90, 91, 92, 93, 94, 95, 96, 97, 98, 99, 100, 101, 102, 103, 104, 105, 106, 107, 108, 109, 110, 111, 112, 113, 114, 115, 116, 117, 118, 119, 120, 121, 122, 123, 124, 125, 126, 127, 128, 129, 130, 131, 132, 133, 134, 135, 136, 137, 138, 139, 140, 141, 142, 143, 144, 145, 146, 147] (fun _ => [(2, .int .i64 n), (1, .int .i64 0), (3, .int .i64 lim), (10, .bool true), (11, .bool true)]) (fun _ => [.row (.slice P n cp) 3 1 n (NL (srt f n 0))]) (fun _ => True) (fun _ => 0) () trivial ?_ (OwnLe.mk [0] (by simp) rfl) (fun k u hk => ?_)
  · ((conv => whnf); repeat (first | exact trivial | refine ⟨rfl, ?_⟩ | refine ⟨congrArg (Value.int .i64) (by first | omega | assumption | exact Eq.symm (by assumption)), ?_⟩))
  have hx : (n : Int) - 0 = (n : Int) := by omega
  (repeat' ((conv => whnf); first | refine go ?_ | (refine VSome.mk ?_; intro gQ hA'; first | subst hA' | cases hA' | (dsimp only at hA'; subst hA')) | refine And.intro ?_ ?_ | intro _ | (first | ((show VCall _ _ _ 263 _ _); refine VCall.fullS [0] (by simp) (fun _ => rfl) (fun w1 m1 m2 => insSort_v A n c g f P cp hn (hA.lend m1 [0]) (hbx.lend m1 [0]) m2) (fun i hi => ?_)))))
  (conv => whnf)
  refine VRet.mk fun w' m => ⟨(), trivial, rfl, m.sel (ks := [0]) (by simp)⟩
set_option maxHeartbeats 8000000 in
theorem sortF_v {w0 : Base} {w : World} (A : Option Addr) (n c g : Nat) (f : Nat → Aw) (P : Option Addr) (cp : Nat) (hn : n ≤ 6) (hA : OldSeen w0 A (AwS n f)) (hbx : OldSeen w0 (some ⟨g, 0, none⟩) [.slice A n c]) (m0 : Mem w0 [.row (.slice P n cp) 3 1 n (NL (srt f n 0))] w) :
    Calls Tryz.prog 254 #[.slice P n cp, .func (.func 255) #[] #[.pointer (some ⟨g, 0, none⟩)]] w fun e w' => ∃ v, e = .returned v ∧ RetL (ι := Unit) (fun _ => True) (fun _ => .tuple #[]) (fun _ => [.row (.slice P n cp) 3 1 n (NL (fc f n))]) (fun _ => []) w0 v w' := by
  refine calls_of_vcL (w0 := w0) tb_ok (args := [.slice P n cp, .func (.func 255) #[] #[.pointer (some ⟨g, 0, none⟩)]]) Tryz.func254 rfl m0 ?_
  (repeat' ((conv => whnf); first | refine go ?_ | (refine VSome.mk ?_; intro gQ hA'; first | subst hA' | cases hA' | (dsimp only at hA'; subst hA')) | refine And.intro ?_ ?_ | intro _ | (first | ((show VCall _ _ _ 261 _ _); refine VCall.grow _ (fun w1 _ => (Tryz.bits_Len _ w1 (by omega) (by omega)).mono fun e w' ⟨he, hw⟩ => ⟨he, by rw [hw]; exact Below.refl _ _⟩) ?_) | ((show VCall _ _ _ 260 _ _); refine VCall.fullS [0] (by simp) (fun _ => rfl) (fun w1 m1 m2 => pdq_v A n c g f P cp _ hn (hA.lend m1 [0]) (hbx.lend m1 [0]) m2) (fun i hi => ?_)))))
  (conv => whnf)
  refine VRet.mk fun w' m => ⟨(), trivial, rfl, m.sel (ks := [0]) (by simp)⟩
theorem srt_zero (f : Nat → Aw) (n : Nat) : srt f n 0 = List.range n := by
  unfold srt rngFrom
  rfl
theorem NL_range_suc (k : Nat) : NL (List.range k) ++ [.int .i64 (k : Nat)] = NL (List.range (k + 1)) := by rw [List.range_succ, NL_snoc]
set_option maxHeartbeats 8000000 in
theorem firstCome_v (A : Option Addr) (n c : Nat) (f : Nat → Aw) (w : World) (hn : n ≤ 6) (hA : Seen w A (AwS n f)) :
    Calls Tryz.prog 241 #[.slice A n c] w fun e w' => ∃ v, e = .returned v ∧ RetV (ι := Option Addr × Nat) (fun _ => True) (fun (P, cp) => .slice P n cp) (fun (P, cp) => [.row (.slice P n cp) 3 1 n (NL (fc f n))]) (Base.of w) v w' := by
  have hO := OldSeen.old hA
  refine calls_of_vc tb_ok (args := [.slice A n c]) Tryz.func241 rfl ?_
  (repeat' ((conv => whnf); first | refine go ?_ | (refine VSome.mk ?_; intro gQ hA'; first | subst hA' | cases hA' | (dsimp only at hA'; subst hA')) | refine And.intro ?_ ?_ | intro _))
  rename_i gQ _
  (conv => whnf)
  refine VLoop.mk (ι := Nat × Option Addr × Nat) [3, 4, 8, 9, 10, 11, 12, 13, 14, 15] (fun (k, P, cp) => [(8, .int .i64 k), (3, .slice P k cp)]) (fun (k, P, cp) => [.blk gQ 36 [.slice A n c], .row (.slice P k cp) 3 1 k (NL (List.range k))]) (fun i => i.1 ≤ n) (fun i => n - i.1) (0, _, _) (Nat.zero_le _) ?_ (OwnLe.mk [0, 1] (by simp) rfl) (fun i u hi => ?_)
  · ((conv => whnf); repeat (first | exact trivial | refine ⟨rfl, ?_⟩ | refine ⟨congrArg (Value.int .i64) (by first | omega | assumption | exact Eq.symm (by assumption)), ?_⟩))
  obtain ⟨k, P, cp⟩ := i
  replace hi : k ≤ n := hi
  by_cases hlt : k < n
  · (repeat' ((conv => whnf); first | refine go ?_ | (refine VSome.mk ?_; intro gQ hA'; first | subst hA' | cases hA' | (dsimp only at hA'; subst hA')) | refine And.intro ?_ ?_ | intro _ | (first | ((show VApp _ _ _ _ _ _ _); (apply VApp.pushAny; (focus ((repeat (first | exact At.here | apply At.there)); done)); (focus ((repeat (first | exact At.here | apply At.there)); done)); refine VAppPush.mk rfl rfl (by omega) (fun A' c' => ?_))))))
    (conv => whnf)
    refine VNext.mk (k + 1, _, _) hlt (by show n - (k + 1) < n - k; omega) ?_ (OwnLe.mk [0, 1] (by simp) (by dsimp only; rw [← NL_range_suc]; rfl))
    ((conv => whnf); repeat (first | exact trivial | refine ⟨rfl, ?_⟩ | refine ⟨congrArg (Value.int .i64) (by first | omega | assumption | exact Eq.symm (by assumption)), ?_⟩))
  · obtain rfl : k = n := by omega
    (repeat' ((conv => whnf); first | refine go ?_ | (refine VSome.mk ?_; intro gQ hA'; first | subst hA' | cases hA' | (dsimp only at hA'; subst hA')) | refine And.intro ?_ ?_ | intro _ | (first | ((show VCall _ _ _ 254 _ _); refine VCall.fullS [1] (by simp) (fun _ => rfl) (fun w1 m1 m2 => sortF_v A k c _ f P cp hn (hO.lend m1 [1]) (OldSeen.blk m1 [1] 0 rfl (by simp)) (by rw [srt_zero]; exact m2)) (fun i hi => ?_)))))
    (conv => whnf)
    exact VRet.sel (P, cp) trivial rfl [1] (by simp) rfl
end Go.Proofs.YtadjhkehfklmnaaGreatDoor
namespace Go.Proofs.YtadjhkehfklmnaaGreatDoor
set_option linter.unusedSimpArgs false
set_option linter.unusedVariables false
open Go.RowKit
set_option maxRecDepth 10000
theorem quS_suc {f : Nat → Aw} {mi : Int} {o : Nat → Nat} {k : Nat} {T F W : Int} (h : quS f mi o k = (T, F, W)) : quS f mi o (k + 1) = (T + (mx F (f (o k)).minute - (f (o k)).minute), mx F (f (o k)).minute + mi, mn W (f (o k)).weight) := by
  show (let s := quS f mi o k; (s.1 + (mx s.2.1 (f (o k)).minute - (f (o k)).minute), mx s.2.1 (f (o k)).minute + mi, mn s.2.2 (f (o k)).weight)) = _
  rw [h]
set_option maxHeartbeats 4000000 in
theorem iQueue_v (A : Option Addr) (n c : Nat) (f : Nat → Aw) (mi : Int) (w : World) (hg : aGood n f) (h1 : 1 ≤ mi) (h2 : mi ≤ 60) (hA : Seen w A (AwS n f)) :
    Calls Tryz.prog 219 #[.slice A n c, .int .i64 mi] w (Post (.int .i64 (quB f mi n)) w) := by
  have hn := hg.2
  have hqb := quB_in (mi := mi) hg (by omega) h2
  refine post_of_vc ?_
  refine calls_of_vc tb_ok (args := [.slice A n c, .int .i64 mi]) Tryz.func219 rfl ?_
  (repeat' ((conv => whnf); first | refine go ?_ | (refine VSome.mk ?_; intro gQ hA'; first | subst hA' | cases hA' | (dsimp only at hA'; subst hA')) | refine And.intro ?_ ?_ | intro _ | (first | ((show VCall _ _ _ 241 _ _); refine VCall.ret (fun w1 m1 => firstCome_v A n c f w1 hn seenA) (fun i _ => ?_); obtain ⟨P, cp⟩ := i))))
  (conv => whnf)
  refine VLoop.mk (ι := Nat × Int × Int × Int) [5, 6, 7, 9, 10, 14, 15, 16, 17, 18, 19, 20, 21, 22, 23, 24, 25, 26, 27, 28, 29, 30, 31, 32, 33, 34, 35, 36, 37, 38, 39, 40, 41, 42, 43, 44] (fun (k, T, F, W) => [(14, .int .i64 k), (6, .int .i64 F), (5, .int .i64 T), (7, .int .i64 W)]) (fun _ => [.row (.slice P n cp) 3 1 n (NL (fc f n))]) (fun i => i.1 ≤ n ∧ quS f mi (nth (fc f n)) i.1 = i.2) (fun i => n - i.1) (0, 0, 0, 9) ⟨Nat.zero_le _, rfl⟩ ?_ (OwnLe.mk [0] (by simp) rfl) (fun i u hi => ?_)
  · ((conv => whnf); repeat (first | exact trivial | refine ⟨rfl, ?_⟩ | refine ⟨congrArg (Value.int .i64) (by first | omega | assumption | exact Eq.symm (by assumption)), ?_⟩))
  obtain ⟨k, T, F, W⟩ := i
  obtain ⟨hk, hS⟩ := hi
  replace hk : k ≤ n := hk
  replace hS : quS f mi (nth (fc f n)) k = (T, F, W) := hS
  have hin := quS_in (f := f) (o := nth (fc f n)) (show 0 ≤ mi by omega) h2 hn (fun k hk => (hg.1 _ (fc_mem hk)).2.1) (fun k hk => (hg.1 _ (fc_mem hk)).2.2.1) k hk
  rw [hS] at hin
  dsimp only at hin
  by_cases hlt : k < n
  · have hx := fc_mem (f := f) hlt
    have a1 : (NL (fc f n))[mulS k 1]? = some (.int .i64 (nth (fc f n) k : Nat)) := nth_len (by rw [fc_len]; exact hlt) _ (by rw [mulS_eq]; omega)
    obtain ⟨b1, off1, rfl, hb1, hr1, _, _, hm1, hw1⟩ := AwS.look hA hx
    have hz : 0 ≤ (f (nth (fc f n) k)).minute ∧ (f (nth (fc f n) k)).minute ≤ 9999 := (hg.1 _ hx).2.1
    have hz2 : 1 ≤ (f (nth (fc f n) k)).weight ∧ (f (nth (fc f n) k)).weight ≤ 9 := (hg.1 _ hx).2.2.1
    have hs1 := quS_suc hS
    have hm9 := mx_le (c := 20000) (show F ≤ 20000 by omega) (show (f (nth (fc f n) k)).minute ≤ 20000 by omega)
    have hm8 := le_mx F (f (nth (fc f n) k)).minute
    generalize f (nth (fc f n) k) = a at *
    obtain ⟨aid, aup, amin, awt⟩ := a
    dsimp only at *
    (conv => whnf)
    try dsimp only
    (repeat' ((conv => whnf); first | refine go ?_ | (refine VSome.mk ?_; intro gQ hA'; first | subst hA' | cases hA' | (dsimp only at hA'; subst hA')) | refine And.intro ?_ ?_ | intro _ | (first | ((show VIn _ _); first | refine VIn.mk (show _ ≤ mx F amin - amin by omega) (show mx F amin - amin ≤ _ by omega) ?_ | refine VIn.mk (show _ ≤ T + (mx F amin - amin) by omega) (show T + (mx F amin - amin) ≤ _ by omega) ?_ | refine VIn.mk (show _ ≤ mx F amin + mi by omega) (show mx F amin + mi ≤ _ by omega) ?_))))
    have hmn9 : (if awt < W then awt else W) = mn W awt := by unfold mn; split <;> split <;> omega
    (conv => whnf)
    refine VNext.mk (k + 1, T + (mx F amin - amin), mx F amin + mi, mn W awt) ⟨hlt, hs1⟩ (by show n - (k + 1) < n - k; omega) ?_ (OwnLe.mk [0] (by simp) rfl)
    ((conv => whnf); repeat (first | exact trivial | refine ⟨rfl, ?_⟩ | refine ⟨congrArg (Value.int .i64) (by first | omega | assumption | exact Eq.symm (by assumption)), ?_⟩))
  · obtain rfl : k = n := by omega
    have hv : quB f mi k = W * T := by unfold quB; rw [hS]
    rw [hv] at hqb ⊢
    (conv => whnf)
    try dsimp only
    (repeat' ((conv => whnf); first | refine go ?_ | (refine VSome.mk ?_; intro gQ hA'; first | subst hA' | cases hA' | (dsimp only at hA'; subst hA')) | refine And.intro ?_ ?_ | intro _))
    (conv => whnf); refine VRet.mk fun w' m => ?_
    exact ⟨rfl, m.keeps.below⟩
set_option maxHeartbeats 4000000 in
theorem iLower_v (A : Option Addr) (n c : Nat) (f : Nat → Aw) (hi : Bool) (mi : Int) (w : World) (hg : aGood n f) (h1 : 1 ≤ mi) (h2 : mi ≤ 60) (hA : Seen w A (AwS n f)) :
    Calls Tryz.prog 185 #[.slice A n c, .bool hi, .int .i64 mi] w (Post (.tuple #[.int .i64 (loB f mi hi n), .bool true]) w) := by
  have hn := hg.2
  have hG := fun A c w hA => iArr_v A n c f w (by omega) hA
  rw [tr_yes hg] at hG
  have hM := fun w => areMinutes_v mi w
  rw [tr_yes ⟨h1, h2⟩] at hM
  refine post_of_vc ?_
  refine calls_of_vc tb_ok (args := [.slice A n c, .bool hi, .int .i64 mi]) Tryz.func185 rfl ?_
  (repeat' ((conv => whnf); first | refine go ?_ | (refine VSome.mk ?_; intro gQ hA'; first | subst hA' | cases hA' | (dsimp only at hA'; subst hA')) | refine And.intro ?_ ?_ | intro _ | (first | ((show VCall _ _ _ 88 _ _); refine VCall.grow _ (fun w1 m1 => hG _ _ w1 seenA) ?_) | ((show VCall _ _ _ 217 _ _); refine VCall.grow _ (fun w1 m1 => hM w1) ?_) | ((show VCall _ _ _ 218 _ _); refine VCall.grow _ (fun w1 m1 => iAlone_v A n c f hi mi w1 hg h1 h2 seenA) ?_) | ((show VCall _ _ _ 219 _ _); refine VCall.grow _ (fun w1 m1 => iQueue_v A n c f mi w1 hg h1 h2 seenA) ?_))))
  (conv => whnf); refine VRet.mk fun w' m => ?_
  exact ⟨rfl, m.keeps.below⟩
theorem iLower_no (A : Option Addr) (n c : Nat) (f : Nat → Aw) (hi : Bool) (mi : Int) (w : World) (hg : aGood n f) (hm : ¬ (1 ≤ mi ∧ mi ≤ 60)) (hA : Seen w A (AwS n f)) :
    Calls Tryz.prog 185 #[.slice A n c, .bool hi, .int .i64 mi] w (Post (.tuple #[.int .i64 0, .bool false]) w) := by
  have hn6 := hg.2
  have hG := fun A c w hA => iArr_v A n c f w (by omega) hA
  rw [tr_yes hg] at hG
  have hM := fun w => areMinutes_v mi w
  rw [tr_no hm] at hM
  refine post_of_vc ?_
  refine calls_of_vc tb_ok (args := [.slice A n c, .bool hi, .int .i64 mi]) Tryz.func185 rfl ?_
  (repeat' ((conv => whnf); first | refine go ?_ | (refine VSome.mk ?_; intro gQ hA'; first | subst hA' | cases hA' | (dsimp only at hA'; subst hA')) | refine And.intro ?_ ?_ | intro _ | (first | ((show VCall _ _ _ 88 _ _); refine VCall.grow _ (fun w1 m1 => hG _ _ w1 seenA) ?_) | ((show VCall _ _ _ 217 _ _); refine VCall.grow _ (fun w1 m1 => hM w1) ?_))))
  (conv => whnf); refine VRet.mk fun w' m => ?_
  exact ⟨rfl, m.keeps.below⟩
end Go.Proofs.YtadjhkehfklmnaaGreatDoor
namespace Go.Proofs.YtadjhkehfklmnaaGreatDoor
set_option linter.unusedSimpArgs false
set_option linter.unusedVariables false
open Go.RowKit
set_option maxRecDepth 10000
theorem VCut.rest {g n c sz l : Nat} {lo : Option Value} {K : Value → Prop} (hl : bnd lo 0 l) (h : l ≤ n) (hc : n ≤ c) (kk : ∀ off d, (l < n → off = mulS l sz) → K (.slice (some ⟨g, off, none⟩) (n - l) d)) : VCut (some ⟨g, 0, none⟩) n c sz lo none K := by
  by_cases h1 : l < c
  · exact .lt g 0 l n rfl hl rfl h hc h1 (kk _ _ fun _ => Nat.zero_add _)
  · refine .gen l n hl rfl h hc ?_
    rw [if_pos (by omega)]
    exact kk 0 _ fun h2 => by omega
inductive VAppPart (own : List Own) (e size n : Nat) (xs : List Value) (k off m : Nat) (cs : List Value) (K : Value → List Own → Prop) : Prop
  | mk (N : Nat) (ys news : List Value) (hl : news.length = m * size) (hr : ∀ (i : Nat) u, news[i]? = some u → cs[off + i]? = some u) (h1 : news.all (·.oneCell') = true) (hn : n + m ≤ 17179869184) (hN : n + m = N) (hy : xs ++ news = ys)
      (c : ∀ A' c', (0 < N → ∃ g, A' = some ⟨g, 0, none⟩) → N ≤ c' → setK own k (.row (.slice A' N c') e size N ys) fun own => K (.slice A' N c') own) : VAppPart own e size n xs k off m cs K
theorem VApp.partAny {w0 : Base} {own : List Own} {e size : Nat} {s : Value} {n m c k j g off n' C sz' N' e' : Nat} {xs cs : List Value} {K : Value → List Own → Prop} (h : At (.row s e size n xs) k own) (hj : At (.row (.slice (some ⟨g, 0, none⟩) n' C) e' sz' N' cs) j own) (kk : VAppPart own e size n xs k off m cs K) : VApp w0 own e size s (.slice (some ⟨g, off, none⟩) m c) K := by
  obtain ⟨N, ys, news, hl, hr, h1, hn, hN, hy, kk⟩ := kk
  subst hN hy
  exact .row k h.get rfl news hl (fun i u hu => Rd.row j hj.get (hr i u hu)) h1 hn (fun A c' hg => kk A c' hg.1 hg.2)
theorem NL_take' {l : List Nat} {j i : Nat} {u : Value} (h : (NL (l.take j))[i]? = some u) : (NL l)[0 + i]? = some u := by
  unfold NL IL at *
  rw [List.getElem?_map, List.getElem?_map, List.getElem?_take] at h
  rw [List.getElem?_map, List.getElem?_map, Nat.zero_add]
  split at h
  · exact h
  · cases h
theorem NL_drop {l : List Nat} {j i off : Nat} {u : Value} (ho : j < l.length → off = mulS j 1) (h : (NL (l.drop j))[i]? = some u) : (NL l)[off + i]? = some u := by
  have hlt : j < l.length := by
    have := (List.getElem?_eq_some_iff.1 h).1
    rw [NL_len1, List.length_drop] at this
    omega
  have e : off = j := by have := ho hlt; rw [mulS_eq] at this; omega
  subst e
  unfold NL IL at *
  rw [List.getElem?_map, List.getElem?_map, List.getElem?_drop] at h
  rw [List.getElem?_map, List.getElem?_map]
  exact h
theorem put_row {f : Nat → Aw} {k j : Nat} (hj : j ≤ k) (h : bk f (fc f k) k k = j) : NL ((fc f k).take j) ++ [.int .i64 (k : Nat)] ++ NL ((fc f k).drop j) = NL (fc f (k + 1)) := by
  rw [NL_snoc, ← NL_app]
  show _ = NL (put f (fc f k) k)
  unfold put
  rw [fc_len, h]
  simp
set_option maxHeartbeats 16000000 in
theorem sFirst_v (A : Option Addr) (n c : Nat) (f : Nat → Aw) (w : World) (hn : n ≤ 6) (hA : Seen w A (AwS n f)) :
    Calls Tryz.prog 228 #[.slice A n c] w fun e w' => ∃ v, e = .returned v ∧ RetV (ι := Option Addr × Nat) (fun _ => True) (fun (P, cp) => .slice P n cp) (fun (P, cp) => [.row (.slice P n cp) 3 1 n (NL (fc f n))]) (Base.of w) v w' := by
  refine calls_of_vc tb_ok (args := [.slice A n c]) Tryz.func228 rfl ?_
  (repeat' ((conv => whnf); first | refine go ?_ | (refine VSome.mk ?_; intro gQ hA'; first | subst hA' | cases hA' | (dsimp only at hA'; subst hA')) | refine And.intro ?_ ?_ | intro _))
  (conv => whnf)
  refine VLoop.mk (ι := Nat × Nat × Nat) [3, 4, 5, 7, 8, 9, 10, 11, 12, 13, 14, 15, 16, 17, 18, 19, 20, 21, 22, 23, 24, 25, 26, 27, 28, 29, 30, 31, 32, 33, 34, 35, 36, 37, 38, 39, 40, 41, 42, 43, 44, 45] (fun (k, g, cp) => [(4, .int .i64 k), (3, .slice (some ⟨g, 0, none⟩) k cp)]) (fun (k, g, cp) => [.row (.slice (some ⟨g, 0, none⟩) k cp) 3 1 k (NL (fc f k))]) (fun i => i.1 ≤ n ∧ i.1 ≤ i.2.2) (fun i => n - i.1) (0, _, 0) ⟨Nat.zero_le _, Nat.zero_le _⟩ ?_ (OwnLe.mk [0] (by simp) rfl) (fun i u hi => ?_)
  · ((conv => whnf); repeat (first | exact trivial | refine ⟨rfl, ?_⟩ | refine ⟨congrArg (Value.int .i64) (by first | omega | assumption | exact Eq.symm (by assumption)), ?_⟩))
  obtain ⟨k, g, cp⟩ := i
  obtain ⟨hk, hcp⟩ := hi
  replace hk : k ≤ n := hk
  replace hcp : k ≤ cp := hcp
  (conv => whnf)
  try dsimp only
  by_cases hlt : k < n
  · (repeat' ((conv => whnf); first | refine go ?_ | (refine VSome.mk ?_; intro gQ hA'; first | subst hA' | cases hA' | (dsimp only at hA'; subst hA')) | refine And.intro ?_ ?_ | intro _))
    (conv => whnf)
    refine VLoop.mk (ι := Nat) [5, 15, 16, 17, 18, 19, 20, 21, 22, 23, 24, 25, 26, 27, 28, 29, 30, 31, 32, 33] (fun j => [(5, .int .i64 j)]) (fun _ => [.row (.slice (some ⟨g, 0, none⟩) k cp) 3 1 k (NL (fc f k))]) (fun j => j ≤ k ∧ bk f (fc f k) k k = bk f (fc f k) k j) (fun j => j) k ⟨Nat.le_refl _, rfl⟩ ?_ (OwnLe.mk [0] (by simp) rfl) (fun j u2 hj => ?_)
    · ((conv => whnf); repeat (first | exact trivial | refine ⟨rfl, ?_⟩ | refine ⟨congrArg (Value.int .i64) (by first | omega | assumption | exact Eq.symm (by assumption)), ?_⟩))
    obtain ⟨hjk, hbk⟩ := hj
    obtain ⟨b1, off1, rfl, hb1, hr1, _⟩ := AwS.look hA hlt
    by_cases hgo : 0 < j ∧ bef (f k) (f (nth (fc f k) (j - 1)))
    · obtain ⟨j, rfl⟩ : ∃ j', j = j' + 1 := ⟨j - 1, by omega⟩
      have hb := hgo.2
      rw [show j + 1 - 1 = j by omega] at hb
      have hx : ((j + 1 : Nat) : Int) - 1 = (j : Int) := by omega
      have a1 : (NL (fc f k))[mulS j 1]? = some (.int .i64 (nth (fc f k) j : Nat)) := nth_len (by rw [fc_len]; omega) _ (by rw [mulS_eq]; omega)
      have a2 : (NL (fc f k))[0 + mulS j 1]? = some (.int .i64 (nth (fc f k) j : Nat)) := by rw [Nat.zero_add]; exact a1
      have hfj : nth (fc f k) j < n := by have := fc_mem (f := f) (k := k) (m := j) (by omega); omega
      obtain ⟨b2, off2, e2, hb2, hr2, _⟩ := AwS.look hA hfj
      cases e2
      have hB := fun w => before_v (f k) (f (nth (fc f k) j)) w
      rw [tr_yes hb] at hB
      (repeat' ((conv => whnf); first | refine go ?_ | (refine VSome.mk ?_; intro gQ hA'; first | subst hA' | cases hA' | (dsimp only at hA'; subst hA')) | refine And.intro ?_ ?_ | intro _ | (first | ((show VCall _ _ _ 247 _ _); refine VCall.grow _ (fun w1 _ => hB w1) ?_) | ((show VDraw _ _ _ #[{ dst := some 15, op := _, type := _, pos := _, after := _, guard := _ }, _, _, _, _, _, _, _, _, _, _, _, _, _, _, _, _] _ _); refine VDraw.mk (.take 0 (.take 1 (.take 2 (.take 3 (.take 4 (.take 5 (.take 6 (.take 7 (.take 8 (.take 9 (.take 10 (.take 11 (.take 12 (.take 13 (.take 14 (.br 15 (.take 16 .done) .done)))))))))))))))) [0] (by kernel_rfl) (by kernel_rfl) ?_))))
      all_goals (conv => whnf)
      all_goals (refine VNext.mk j ⟨by omega, hbk.trans (bk_yes hb)⟩ (by omega) ?_ (OwnLe.mk [0] (by simp) rfl); ((conv => whnf); repeat (first | exact trivial | refine ⟨rfl, ?_⟩ | refine ⟨congrArg (Value.int .i64) (by first | omega | assumption | exact Eq.symm (by assumption)), ?_⟩)))
    · have hbj : bk f (fc f k) k k = j := by
        rcases j with _ | j
        · exact hbk
        · exact hbk.trans (bk_no (fun h => hgo ⟨by omega, h⟩))
      have hfin := put_row hjk hbj
      have hlen := fc_len (f := f) k
      rcases j with _ | j
      · (repeat' ((conv => whnf); first | refine go ?_ | (refine VSome.mk ?_; intro gQ hA'; first | subst hA' | cases hA' | (dsimp only at hA'; subst hA')) | refine And.intro ?_ ?_ | intro _ | (first | ((show VDraw _ _ _ #[{ dst := some 15, op := _, type := _, pos := _, after := _, guard := _ }, _, _, _, _, _, _, _, _, _, _, _, _, _, _, _, _] _ _); refine VDraw.mk (.take 0 (.take 1 (.take 2 (.take 3 (.take 4 (.take 5 (.take 6 (.take 7 (.take 8 (.take 9 (.take 10 (.take 11 (.take 12 (.take 13 (.take 14 (.br 15 (.take 16 .done) .done)))))))))))))))) [0] (by kernel_rfl) (by kernel_rfl) ?_) | ((show VDraw _ _ _ #[{ dst := some 34, op := _, type := _, pos := _, after := _, guard := _ }, _, _, _, _, _, _, _, _, _, _, _, _] _ _); refine VDraw.mk (.take 1 (.take 2 (.take 3 (.take 5 (.take 8 (.take 9 (.take 10 (.br 0 (.br 4 (.br 6 (.br 7 (.br 11 (.take 12 .done) .done) .done) .done) (.br 6 (.br 4 (.br 7 (.br 11 (.take 12 .done) .done) .done) .done) .done)) (.br 6 (.br 0 (.br 4 (.br 7 (.br 11 (.take 12 .done) .done) .done) .done) .done) .done))))))))) [0] (by kernel_rfl) (by kernel_rfl) ?_) | ((show VCut _ _ _ _ none _ _); refine VCut.head (0) rfl (by omega) ?_) | ((show VCut _ _ _ _ _ _ _); refine VCut.rest (l := 0) rfl (by omega) (by omega) (fun off d hoff => ?_)) | ((show VApp _ _ _ _ _ _ _); first | (apply VApp.pushAny; (focus ((repeat (first | exact At.here | apply At.there)); done)); (focus ((repeat (first | exact At.here | apply At.there)); done)); refine VAppPush.mk rfl rfl (by omega) (fun A' c' => ?_)) | (apply VApp.partAny; (focus ((repeat (first | exact At.here | apply At.there)); done)); (focus ((repeat (first | exact At.here | apply At.there)); done)); first | refine VAppPart.mk (0) (NL ((fc f k).take (0))) (NL ((fc f k).take (0))) (by rw [NL_len1, List.length_take, hlen, Nat.min_eq_left hjk]) (fun i u h => NL_take' h) (NL_one _) (by omega) (Nat.zero_add _) rfl (fun A' c' _ _ => ?_) | (refine VAppPart.mk (k + 1) (NL (fc f (k + 1))) (NL ((fc f k).drop (0))) (by rw [NL_len1, List.length_drop, hlen]) (fun i u h => NL_drop (by rw [hlen]; exact hoff) h) (NL_one _) (by omega) (by omega) hfin (fun A' c' hA' hc' => ?_); obtain ⟨g', rfl⟩ := hA' (by omega)))))))
        all_goals (conv => whnf)
        all_goals first | (refine VNext.mk (k + 1, g', c') ⟨hlt, hc'⟩ (by show n - (k + 1) < n - k; omega) ?_ (OwnLe.mk [1] (by simp) rfl); ((conv => whnf); repeat (first | exact trivial | refine ⟨rfl, ?_⟩ | refine ⟨congrArg (Value.int .i64) (by first | omega | assumption | exact Eq.symm (by assumption)), ?_⟩)); done) | (refine VNext.mk (k + 1, g', c') ⟨hlt, hc'⟩ (by show n - (k + 1) < n - k; omega) ?_ (OwnLe.mk [2] (by simp) rfl); ((conv => whnf); repeat (first | exact trivial | refine ⟨rfl, ?_⟩ | refine ⟨congrArg (Value.int .i64) (by first | omega | assumption | exact Eq.symm (by assumption)), ?_⟩)); done)
      · have hb : ¬ bef (f k) (f (nth (fc f k) j)) := fun h => hgo ⟨by omega, h⟩
        have hx : ((j + 1 : Nat) : Int) - 1 = (j : Int) := by omega
        have a1 : (NL (fc f k))[mulS j 1]? = some (.int .i64 (nth (fc f k) j : Nat)) := nth_len (by rw [fc_len]; omega) _ (by rw [mulS_eq]; omega)
        have a2 : (NL (fc f k))[0 + mulS j 1]? = some (.int .i64 (nth (fc f k) j : Nat)) := by rw [Nat.zero_add]; exact a1
        have hfj : nth (fc f k) j < n := by have := fc_mem (f := f) (k := k) (m := j) (by omega); omega
        obtain ⟨b2, off2, e2, hb2, hr2, _⟩ := AwS.look hA hfj
        cases e2
        have hB := fun w => before_v (f k) (f (nth (fc f k) j)) w
        rw [tr_no hb] at hB
        (repeat' ((conv => whnf); first | refine go ?_ | (refine VSome.mk ?_; intro gQ hA'; first | subst hA' | cases hA' | (dsimp only at hA'; subst hA')) | refine And.intro ?_ ?_ | intro _ | (first | ((show VCall _ _ _ 247 _ _); refine VCall.grow _ (fun w1 _ => hB w1) ?_) | ((show VDraw _ _ _ #[{ dst := some 15, op := _, type := _, pos := _, after := _, guard := _ }, _, _, _, _, _, _, _, _, _, _, _, _, _, _, _, _] _ _); refine VDraw.mk (.take 0 (.take 1 (.take 2 (.take 3 (.take 4 (.take 5 (.take 6 (.take 7 (.take 8 (.take 9 (.take 10 (.take 11 (.take 12 (.take 13 (.take 14 (.br 15 (.take 16 .done) .done)))))))))))))))) [0] (by kernel_rfl) (by kernel_rfl) ?_) | ((show VDraw _ _ _ #[{ dst := some 34, op := _, type := _, pos := _, after := _, guard := _ }, _, _, _, _, _, _, _, _, _, _, _, _] _ _); refine VDraw.mk (.take 1 (.take 2 (.take 3 (.take 5 (.take 8 (.take 9 (.take 10 (.br 0 (.br 4 (.br 6 (.br 7 (.br 11 (.take 12 .done) .done) .done) .done) (.br 6 (.br 4 (.br 7 (.br 11 (.take 12 .done) .done) .done) .done) .done)) (.br 6 (.br 0 (.br 4 (.br 7 (.br 11 (.take 12 .done) .done) .done) .done) .done) .done))))))))) [0] (by kernel_rfl) (by kernel_rfl) ?_) | ((show VCut _ _ _ _ none _ _); refine VCut.head (j + 1) rfl (by omega) ?_) | ((show VCut _ _ _ _ _ _ _); refine VCut.rest (l := j + 1) rfl (by omega) (by omega) (fun off d hoff => ?_)) | ((show VApp _ _ _ _ _ _ _); first | (apply VApp.pushAny; (focus ((repeat (first | exact At.here | apply At.there)); done)); (focus ((repeat (first | exact At.here | apply At.there)); done)); refine VAppPush.mk rfl rfl (by omega) (fun A' c' => ?_)) | (apply VApp.partAny; (focus ((repeat (first | exact At.here | apply At.there)); done)); (focus ((repeat (first | exact At.here | apply At.there)); done)); first | refine VAppPart.mk (j + 1) (NL ((fc f k).take (j + 1))) (NL ((fc f k).take (j + 1))) (by rw [NL_len1, List.length_take, hlen, Nat.min_eq_left hjk]) (fun i u h => NL_take' h) (NL_one _) (by omega) (Nat.zero_add _) rfl (fun A' c' _ _ => ?_) | (refine VAppPart.mk (k + 1) (NL (fc f (k + 1))) (NL ((fc f k).drop (j + 1))) (by rw [NL_len1, List.length_drop, hlen]) (fun i u h => NL_drop (by rw [hlen]; exact hoff) h) (NL_one _) (by omega) (by omega) hfin (fun A' c' hA' hc' => ?_); obtain ⟨g', rfl⟩ := hA' (by omega)))))))
        all_goals (conv => whnf)
        all_goals first | (refine VNext.mk (k + 1, g', c') ⟨hlt, hc'⟩ (by show n - (k + 1) < n - k; omega) ?_ (OwnLe.mk [1] (by simp) rfl); ((conv => whnf); repeat (first | exact trivial | refine ⟨rfl, ?_⟩ | refine ⟨congrArg (Value.int .i64) (by first | omega | assumption | exact Eq.symm (by assumption)), ?_⟩)); done) | (refine VNext.mk (k + 1, g', c') ⟨hlt, hc'⟩ (by show n - (k + 1) < n - k; omega) ?_ (OwnLe.mk [2] (by simp) rfl); ((conv => whnf); repeat (first | exact trivial | refine ⟨rfl, ?_⟩ | refine ⟨congrArg (Value.int .i64) (by first | omega | assumption | exact Eq.symm (by assumption)), ?_⟩)); done)
  · obtain rfl : k = n := by omega
    (repeat' ((conv => whnf); first | refine go ?_ | (refine VSome.mk ?_; intro gQ hA'; first | subst hA' | cases hA' | (dsimp only at hA'; subst hA')) | refine And.intro ?_ ?_ | intro _))
    (conv => whnf)
    exact VRet.sel (some ⟨g, 0, none⟩, cp) trivial rfl [0] (by simp) rfl
set_option maxHeartbeats 4000000 in
theorem sQueue_v (A : Option Addr) (n c : Nat) (f : Nat → Aw) (mi : Int) (w : World) (hg : aGood n f) (h1 : 1 ≤ mi) (h2 : mi ≤ 60) (hA : Seen w A (AwS n f)) :
    Calls Tryz.prog 197 #[.slice A n c, .int .i64 mi] w (Post (.int .i64 (quB f mi n)) w) := by
  have hn := hg.2
  have hqb := quB_in (mi := mi) hg (by omega) h2
  refine post_of_vc ?_
  refine calls_of_vc tb_ok (args := [.slice A n c, .int .i64 mi]) Tryz.func197 rfl ?_
  (repeat' ((conv => whnf); first | refine go ?_ | (refine VSome.mk ?_; intro gQ hA'; first | subst hA' | cases hA' | (dsimp only at hA'; subst hA')) | refine And.intro ?_ ?_ | intro _ | (first | ((show VCall _ _ _ 228 _ _); refine VCall.ret (fun w1 m1 => sFirst_v A n c f w1 hn seenA) (fun i _ => ?_); obtain ⟨P, cp⟩ := i))))
  (conv => whnf)
  refine VLoop.mk (ι := Nat × Int × Int × Int) [6, 7, 8, 9, 10, 11, 14, 15, 16, 17, 18, 19, 20, 21, 22, 23, 24, 25, 26, 27, 28, 29, 30, 31, 32, 33, 34, 35, 36, 37, 38, 39, 40, 41, 42, 43] (fun (k, T, F, W) => [(9, .int .i64 k), (6, .int .i64 F), (7, .int .i64 T), (8, .int .i64 W)]) (fun _ => [.row (.slice P n cp) 3 1 n (NL (fc f n))]) (fun i => i.1 ≤ n ∧ quS f mi (nth (fc f n)) i.1 = i.2) (fun i => n - i.1) (0, 0, 0, 9) ⟨Nat.zero_le _, rfl⟩ ?_ (OwnLe.mk [0] (by simp) rfl) (fun i u hi => ?_)
  · ((conv => whnf); repeat (first | exact trivial | refine ⟨rfl, ?_⟩ | refine ⟨congrArg (Value.int .i64) (by first | omega | assumption | exact Eq.symm (by assumption)), ?_⟩))
  obtain ⟨k, T, F, W⟩ := i
  obtain ⟨hk, hS⟩ := hi
  replace hk : k ≤ n := hk
  replace hS : quS f mi (nth (fc f n)) k = (T, F, W) := hS
  have hin := quS_in (f := f) (o := nth (fc f n)) (show 0 ≤ mi by omega) h2 hn (fun k hk => (hg.1 _ (fc_mem hk)).2.1) (fun k hk => (hg.1 _ (fc_mem hk)).2.2.1) k hk
  rw [hS] at hin
  dsimp only at hin
  by_cases hlt : k < n
  · have hx := fc_mem (f := f) hlt
    have a1 : (NL (fc f n))[mulS k 1]? = some (.int .i64 (nth (fc f n) k : Nat)) := nth_len (by rw [fc_len]; exact hlt) _ (by rw [mulS_eq]; omega)
    obtain ⟨b1, off1, rfl, hb1, hr1, _, _, hm1, hw1⟩ := AwS.look hA hx
    have hz : 0 ≤ (f (nth (fc f n) k)).minute ∧ (f (nth (fc f n) k)).minute ≤ 9999 := (hg.1 _ hx).2.1
    have hz2 : 1 ≤ (f (nth (fc f n) k)).weight ∧ (f (nth (fc f n) k)).weight ≤ 9 := (hg.1 _ hx).2.2.1
    have hs1 := quS_suc hS
    have hm9 := mx_le (c := 20000) (show F ≤ 20000 by omega) (show (f (nth (fc f n) k)).minute ≤ 20000 by omega)
    have hm8 := le_mx F (f (nth (fc f n) k)).minute
    generalize f (nth (fc f n) k) = a at *
    (conv => whnf)
    try dsimp only
    (repeat' ((conv => whnf); first | refine go ?_ | (refine VSome.mk ?_; intro gQ hA'; first | subst hA' | cases hA' | (dsimp only at hA'; subst hA')) | refine And.intro ?_ ?_ | intro _ | (first | ((show VCall _ _ _ 166 _ _); refine VCall.grow _ (fun w1 _ => l1Most_v _ _ w1) ?_) | ((show VCall _ _ _ 203 _ _); refine VCall.grow _ (fun w1 _ => l1Least_v _ _ w1) ?_))))
    have e1 : T + mx F a.minute - a.minute = T + (mx F a.minute - a.minute) := by omega
    (conv => whnf)
    refine VNext.mk (k + 1, T + (mx F a.minute - a.minute), mx F a.minute + mi, mn W a.weight) ⟨hlt, hs1⟩ (by show n - (k + 1) < n - k; omega) ?_ (OwnLe.mk [0] (by simp) rfl)
    ((conv => whnf); repeat (first | exact trivial | refine ⟨rfl, ?_⟩ | refine ⟨congrArg (Value.int .i64) (by first | omega | assumption | exact Eq.symm (by assumption)), ?_⟩))
  · obtain rfl : k = n := by omega
    have hv : quB f mi k = W * T := by unfold quB; rw [hS]
    rw [hv] at hqb ⊢
    (conv => whnf)
    try dsimp only
    (repeat' ((conv => whnf); first | refine go ?_ | (refine VSome.mk ?_; intro gQ hA'; first | subst hA' | cases hA' | (dsimp only at hA'; subst hA')) | refine And.intro ?_ ?_ | intro _))
    (conv => whnf); refine VRet.mk fun w' m => ?_
    exact ⟨rfl, m.keeps.below⟩
set_option maxHeartbeats 4000000 in
theorem sLower_v (A : Option Addr) (n c : Nat) (f : Nat → Aw) (hi : Bool) (mi : Int) (w : World) (hg : aGood n f) (h1 : 1 ≤ mi) (h2 : mi ≤ 60) (hc : n ≤ c) (hA : Seen w A (AwS n f)) (hP : Plain A) :
    Calls Tryz.prog 161 #[.slice A n c, .bool hi, .int .i64 mi] w (Post (.int .i64 (loB f mi hi n)) w) := by
  refine post_of_vc ?_
  refine calls_of_vc tb_ok (args := [.slice A n c, .bool hi, .int .i64 mi]) Tryz.func161 rfl ?_
  (repeat' ((conv => whnf); first | refine go ?_ | (refine VSome.mk ?_; intro gQ hA'; first | subst hA' | cases hA' | (dsimp only at hA'; subst hA')) | refine And.intro ?_ ?_ | intro _ | (first | ((show VCall _ _ _ 196 _ _); refine VCall.grow _ (fun w1 m1 => sAlone_v A n c f hi mi w1 hg h1 h2 hc seenA hP) ?_) | ((show VCall _ _ _ 197 _ _); refine VCall.grow _ (fun w1 m1 => sQueue_v A n c f mi w1 hg h1 h2 seenA) ?_) | ((show VCall _ _ _ 166 _ _); refine VCall.grow _ (fun w1 _ => l1Most_v _ _ w1) ?_))))
  (conv => whnf); refine VRet.mk fun w' m => ?_
  exact ⟨rfl, m.keeps.below⟩
end Go.Proofs.YtadjhkehfklmnaaGreatDoor
namespace Go.Proofs.YtadjhkehfklmnaaGreatDoor
set_option linter.unusedSimpArgs false
set_option linter.unusedVariables false
open Go.RowKit
set_option maxRecDepth 10000
set_option maxHeartbeats 4000000 in
theorem iOrdBound_v (d : Co) (A1 : Option Addr) (c1 : Nat) (A2 : Option Addr) (c2 : Nat) (mi : Int) (w : World) (hs : d.lock.safe) (hg : aGood d.m d.wa) (h1 : 1 ≤ mi) (h2 : mi ≤ 60) (hA : Seen w A2 (AwS d.m d.wa)) (ht : PTab w) :
    Calls Tryz.prog 151 #[.agg (d.at A1 c1 A2 c2).toArray, .string (tx wBound), .int .i64 mi] w (Post (.tuple #[.string (tx (Lib.itoa (loB d.wa mi d.lock.high d.m))), .bool true]) w) := by
  have hn := hg.2
  have hlo := loB_in (hi := d.lock.high) hg (show 0 ≤ mi by omega) h2
  refine post_of_vc ?_
  refine calls_of_vc tb_ok (args := [.agg (d.at A1 c1 A2 c2).toArray, .string (tx wBound), .int .i64 mi]) Tryz.func151 rfl ?_
  have hH := fun w => isHigh_v d.lock w hs
  have hL := fun w hA => iLower_v A2 d.m c2 d.wa d.lock.high mi w hg h1 h2 hA
  generalize loB d.wa mi d.lock.high d.m = lo at *
  rcases hh : d.lock.high with _ | _
  all_goals rw [hh] at hH hL
  all_goals ((repeat' ((conv => whnf); first | refine go ?_ | (refine VSome.mk ?_; intro gQ hA'; first | subst hA' | cases hA' | (dsimp only at hA'; subst hA')) | refine And.intro ?_ ?_ | intro _ | (first | ((show VCall _ _ _ 186 _ _); refine VCall.grow _ (fun w1 m1 => hH w1) ?_) | ((show VCall _ _ _ 185 _ _); refine VCall.grow _ (fun w1 m1 => hL w1 seenA) ?_) | ((show VCall _ _ _ 59 _ _); refine VCall.grow _ (fun w1 m1 => itoaZ_v _ w1 (by omega) (by omega) (ht.on m1)) ?_) | ((show VDraw _ _ _ #[{ dst := some 19, op := _, type := _, pos := _, after := _, guard := _ }, _, _, _, _, _, _, _, _, _, _, _] _ _); refine VDraw.mk (.take 0 (.take 1 (.take 2 (.take 3 (.take 5 (.br 4 (.br 6 (.take 7 (.take 8 (.take 9 (.take 10 (.take 11 .done))))) .done) .done)))))) [0] (by kernel_rfl) (by kernel_rfl) ?_)))))
  all_goals ((conv => whnf); refine VRet.mk fun w' m => ?_)
  all_goals exact ⟨rfl, m.keeps.below⟩
set_option maxHeartbeats 4000000 in
theorem iOrdDelay_v (d : Co) (A1 : Option Addr) (c1 : Nat) (A2 : Option Addr) (c2 : Nat) (mi : Int) (w : World) (hs : d.lock.safe) (hg : aGood d.m d.wa) (h1 : 1 ≤ mi) (h2 : mi ≤ 60) (hA : Seen w A2 (AwS d.m d.wa)) (ht : PTab w) :
    Calls Tryz.prog 151 #[.agg (d.at A1 c1 A2 c2).toArray, .string (tx wDelay), .int .i64 mi] w (Post (.tuple #[.string (tx (Lib.itoa (best d.m d.wa mi d.lock.high d.m []).2)), .bool true]) w) := by
  have hn := hg.2
  have hw1 : ¬ tx wDelay = ({ data := #[98, 111, 117, 110, 100] } : ByteArray) := by decide
  refine post_of_vc ?_
  refine calls_of_vc tb_ok (args := [.agg (d.at A1 c1 A2 c2).toArray, .string (tx wDelay), .int .i64 mi]) Tryz.func151 rfl ?_
  have hH := fun w => isHigh_v d.lock w hs
  have hL := fun w hA => iBest_v A2 d.m c2 d.wa d.lock.high mi w hg h1 h2 hA
  have hbi := best_in (f := d.wa) (hi := d.lock.high) hg (show 0 ≤ mi by omega) h2 d.m [] vld_nil (by simp)
  rcases hb : best d.m d.wa mi d.lock.high d.m [] with ⟨bl, bx⟩
  rw [hb] at hL hbi
  dsimp only at hbi
  rcases hh : d.lock.high with _ | _
  all_goals rw [hh] at hH hL
  all_goals ((repeat' ((conv => whnf); first | refine go ?_ | (refine VSome.mk ?_; intro gQ hA'; first | subst hA' | cases hA' | (dsimp only at hA'; subst hA')) | refine And.intro ?_ ?_ | intro _ | (first | ((show VCall _ _ _ 186 _ _); refine VCall.grow _ (fun w1 m1 => hH w1) ?_) | ((show VCall _ _ _ 187 _ _); refine VCall.ret (fun w1 m1 => hL w1 seenA) (fun i hi => ?_); obtain ⟨l, x, P, cp⟩ := i; cases hi) | ((show VCall _ _ _ 59 _ _); refine VCall.grow _ (fun w1 m1 => itoaZ_v _ w1 (by omega) (by omega) (ht.on m1)) ?_) | ((show VDraw _ _ _ #[{ dst := some 32, op := _, type := _, pos := _, after := _, guard := _ }, _, _, _, _, _, _, _, _, _, _, _, _, _] _ _); refine VDraw.mk (.take 0 (.take 1 (.take 2 (.take 3 (.take 5 (.br 4 (.br 6 (.take 7 (.take 8 (.take 9 (.take 10 (.take 11 (.take 12 (.take 13 .done))))))) .done) .done)))))) [0] (by kernel_rfl) (by kernel_rfl) ?_)))))
  all_goals ((conv => whnf); refine VRet.mk fun w' m => ?_)
  all_goals exact ⟨rfl, m.keeps.below⟩
set_option maxHeartbeats 8000000 in
theorem iOrdNo_v (d : Co) (A1 : Option Addr) (c1 : Nat) (A2 : Option Addr) (c2 : Nat) (x : List UInt8) (mi : Int) (w : World) (hs : d.lock.safe) (hg : aGood d.m d.wa) (hm : ¬ (1 ≤ mi ∧ mi ≤ 60)) (hA : Seen w A2 (AwS d.m d.wa)) (ht : PTab w) :
    Calls Tryz.prog 151 #[.agg (d.at A1 c1 A2 c2).toArray, .string (tx x), .int .i64 mi] w fun e w' => ∃ t : List UInt8, True ∧ Post (.tuple #[.string (tx t), .bool false]) w e w' := by
  refine some_of_vc ?_
  refine calls_of_vc tb_ok (args := [.agg (d.at A1 c1 A2 c2).toArray, .string (tx x), .int .i64 mi]) Tryz.func151 rfl ?_
  have hH := fun w => isHigh_v d.lock w hs
  have hL := fun w hA => iLower_no A2 d.m c2 d.wa d.lock.high mi w hg hm hA
  have hB := fun w hA => iBest_no A2 d.m c2 d.wa d.lock.high mi w hg hm hA
  have hT := fun (B : Option Addr) (c : Nat) w hB ht => listText_v B c [] w (by decide) (fun x hx => by cases hx) hB ht
  rcases hh : d.lock.high with _ | _
  all_goals rw [hh] at hH hL hB
  all_goals ((repeat' ((conv => whnf); first | refine go ?_ | (refine VSome.mk ?_; intro gQ hA'; first | subst hA' | cases hA' | (dsimp only at hA'; subst hA')) | refine And.intro ?_ ?_ | intro _ | (first | ((show VCall _ _ _ 186 _ _); refine VCall.grow _ (fun w1 m1 => hH w1) ?_) | ((show VCall _ _ _ 185 _ _); refine VCall.grow _ (fun w1 m1 => hL w1 seenA) ?_) | ((show VCall _ _ _ 187 _ _); refine VCall.grow _ (fun w1 m1 => hB w1 seenA) ?_) | ((show VCall _ _ _ 59 _ _); refine VCall.grow _ (fun w1 m1 => itoaZ_v _ w1 (by omega) (by omega) (ht.on m1)) ?_) | ((show VDraw _ _ _ #[{ dst := some 19, op := _, type := _, pos := _, after := _, guard := _ }, _, _, _, _, _, _, _, _, _, _, _] _ _); refine VDraw.mk (.take 0 (.take 1 (.take 2 (.take 3 (.take 5 (.br 4 (.br 6 (.take 7 (.take 8 (.take 9 (.take 10 (.take 11 .done))))) .done) .done)))))) [0] (by kernel_rfl) (by kernel_rfl) ?_) | ((show VDraw _ _ _ #[{ dst := some 32, op := _, type := _, pos := _, after := _, guard := _ }, _, _, _, _, _, _, _, _, _, _, _, _, _] _ _); refine VDraw.mk (.take 0 (.take 1 (.take 2 (.take 3 (.take 5 (.br 4 (.br 6 (.take 7 (.take 8 (.take 9 (.take 10 (.take 11 (.take 12 (.take 13 .done))))))) .done) .done)))))) [0] (by kernel_rfl) (by kernel_rfl) ?_)))))
  all_goals (conv => whnf)
  all_goals first
    | exact VRet.mk fun w' m => ⟨_, trivial, rfl, m.keeps.below⟩
    | (refine VLoop.mk (ι := Option Addr × Nat) [13, 15, 50, 51, 52, 53, 54, 55, 56, 57, 58, 59, 60, 61, 62, 63] (fun (P, c) => [(50, .int .i64 0), (13, .slice P 0 c)]) (fun (P, c) => [.row (.slice P 0 c) 3 1 0 []]) (fun _ => True) (fun _ => 0) (_, _) trivial ?_ (OwnLe.mk [1] (by simp) rfl) (fun k u hk => ?_)
       · ((conv => whnf); repeat (first | exact trivial | refine ⟨rfl, ?_⟩ | refine ⟨congrArg (Value.int .i64) (by first | omega | assumption | exact Eq.symm (by assumption)), ?_⟩))
       · obtain ⟨P, c⟩ := k
         (repeat' ((conv => whnf); first | refine go ?_ | (refine VSome.mk ?_; intro gQ hA'; first | subst hA' | cases hA' | (dsimp only at hA'; subst hA')) | refine And.intro ?_ ?_ | intro _ | (first | ((show VCall _ _ _ 144 _ _); refine VCall.grow _ (fun w1 m1 => hT _ _ w1 (Sees.nil _ m1) (ht.on m1)) ?_))))
         (conv => whnf)
         exact VRet.mk fun w' m => ⟨_, trivial, rfl, m.keeps.below⟩)
end Go.Proofs.YtadjhkehfklmnaaGreatDoor
namespace Go.Proofs.YtadjhkehfklmnaaGreatDoor
set_option linter.unusedSimpArgs false
set_option linter.unusedVariables false
open Go.RowKit
set_option maxRecDepth 10000
theorem ids_take {f : Nat → Aw} {l : List Nat} {k : Nat} (h : k < l.length) : idsOf f (l.take (k + 1)) = idsOf f (l.take k) ++ [(f (nth l k)).id] := by
  unfold idsOf nth
  rw [List.take_add_one, List.getElem?_eq_getElem h, List.map_append, List.getD_eq_getElem?_getD, List.getElem?_eq_getElem h]
  rfl
set_option maxHeartbeats 8000000 in
theorem iOrdBest_v (d : Co) (A1 : Option Addr) (c1 : Nat) (A2 : Option Addr) (c2 : Nat) (x : List UInt8) (mi : Int) (w : World) (hs : d.lock.safe) (hg : aGood d.m d.wa) (h1 : 1 ≤ mi) (h2 : mi ≤ 60) (hx1 : ¬ x = wBound) (hx2 : ¬ x = wDelay) (hA : Seen w A2 (AwS d.m d.wa)) (ht : PTab w) :
    Calls Tryz.prog 151 #[.agg (d.at A1 c1 A2 c2).toArray, .string (tx x), .int .i64 mi] w (Post (.tuple #[.string (tx (ltx (idsOf d.wa (best d.m d.wa mi d.lock.high d.m []).1))), .bool true]) w) := by
  have hn := hg.2
  have hw1 : ¬ tx x = ({ data := #[98, 111, 117, 110, 100] } : ByteArray) := fun q => hx1 (tx_inj (q.trans (by rfl : _ = tx wBound)))
  have hw2 : ¬ tx x = ({ data := #[100, 101, 108, 97, 121] } : ByteArray) := fun q => hx2 (tx_inj (q.trans (by rfl : _ = tx wDelay)))
  refine post_of_vc ?_
  refine calls_of_vc tb_ok (args := [.agg (d.at A1 c1 A2 c2).toArray, .string (tx x), .int .i64 mi]) Tryz.func151 rfl ?_
  have hH := fun w => isHigh_v d.lock w hs
  have hL := fun w hA => iBest_v A2 d.m c2 d.wa d.lock.high mi w hg h1 h2 hA
  have hbi := best_in (f := d.wa) (hi := d.lock.high) hg (show 0 ≤ mi by omega) h2 d.m [] vld_nil (by simp)
  rcases hb : best d.m d.wa mi d.lock.high d.m [] with ⟨bl, bx⟩
  rw [hb] at hL hbi
  dsimp only at hbi
  obtain ⟨hv, hbl, _, _⟩ := hbi
  obtain ⟨_, hbm⟩ := vld_nd hv
  have hT := fun (B : Option Addr) (c : Nat) w hB ht => listText_v B c (idsOf d.wa bl) w (by simp [idsOf]; omega) (fun y hy => by
    obtain ⟨i, hi, rfl⟩ := List.mem_map.1 hy
    have := (hg.1 i (hbm i hi)).1
    omega) hB ht
  rw [show (idsOf d.wa bl).length = bl.length by simp [idsOf]] at hT
  rcases hh : d.lock.high with _ | _
  all_goals rw [hh] at hH hL
  all_goals ((repeat' ((conv => whnf); first | refine go ?_ | (refine VSome.mk ?_; intro gQ hA'; first | subst hA' | cases hA' | (dsimp only at hA'; subst hA')) | refine And.intro ?_ ?_ | intro _ | (first | ((show VCall _ _ _ 186 _ _); refine VCall.grow _ (fun w1 m1 => hH w1) ?_) | ((show VCall _ _ _ 187 _ _); refine VCall.ret (fun w1 m1 => hL w1 seenA) (fun i hi => ?_); obtain ⟨l, x, P, cp⟩ := i; cases hi) | ((show VDraw _ _ _ #[{ dst := some 32, op := _, type := _, pos := _, after := _, guard := _ }, _, _, _, _, _, _, _, _, _, _, _, _, _] _ _); refine VDraw.mk (.take 0 (.take 1 (.take 2 (.take 3 (.take 5 (.br 4 (.br 6 (.take 7 (.take 8 (.take 9 (.take 10 (.take 11 (.take 12 (.take 13 .done))))))) .done) .done)))))) [0] (by kernel_rfl) (by kernel_rfl) ?_)))))
  all_goals (conv => whnf)
  all_goals rename_i gb _ _ _ _ _
  all_goals (refine VLoop.mk (ι := Nat × Option Addr × Nat) [13, 15, 50, 51, 52, 53, 54, 55, 56, 57, 58, 59, 60, 61, 62, 63] (fun (k, Q, cq) => [(50, .int .i64 k), (13, .slice Q k cq)]) (fun (k, Q, cq) => [.blk gb 39 (d.at A1 c1 A2 c2), .row (.slice P bl.length cp) 3 1 bl.length (NL bl), .row (.slice Q k cq) 3 1 k (IL (idsOf d.wa (bl.take k)))]) (fun i => i.1 ≤ bl.length) (fun i => bl.length - i.1) (0, _, _) (Nat.zero_le _) ?_ (OwnLe.mk [0, 1, 2] (by simp) rfl) (fun i u hi => ?_))
  all_goals first | (((conv => whnf); repeat (first | exact trivial | refine ⟨rfl, ?_⟩ | refine ⟨congrArg (Value.int .i64) (by first | omega | assumption | exact Eq.symm (by assumption)), ?_⟩)); done) | skip
  all_goals (obtain ⟨k, Q, cq⟩ := i)
  all_goals (replace hi : k ≤ bl.length := hi)
  all_goals ((conv => whnf); try dsimp only)
  all_goals by_cases hlt : k < bl.length
  all_goals first
    | (have hx := hbm _ (nth_mem hlt)
       have a1 : (NL bl)[mulS k 1]? = some (.int .i64 (nth bl k : Nat)) := nth_len hlt _ (by rw [mulS_eq]; omega)
       obtain ⟨b1, off1, rfl, hb1, hr1, hi1, _⟩ := AwS.look hA hx
       have hids := ids_take (f := d.wa) hlt
       (repeat' ((conv => whnf); first | refine go ?_ | (refine VSome.mk ?_; intro gQ hA'; first | subst hA' | cases hA' | (dsimp only at hA'; subst hA')) | refine And.intro ?_ ?_ | intro _ | (first | ((show VApp _ _ _ _ _ _ _); (apply VApp.pushAny; (focus ((repeat (first | exact At.here | apply At.there)); done)); (focus ((repeat (first | exact At.here | apply At.there)); done)); refine VAppPush.mk rfl rfl (by omega) (fun A' c' => ?_))))))
       (conv => whnf)
       refine VNext.mk (k + 1, _, _) hlt (by show bl.length - (k + 1) < bl.length - k; omega) ?_ (OwnLe.mk [0, 1, 2] (by simp) (by dsimp only; rw [hids, IL_app]; rfl))
       ((conv => whnf); repeat (first | exact trivial | refine ⟨rfl, ?_⟩ | refine ⟨congrArg (Value.int .i64) (by first | omega | assumption | exact Eq.symm (by assumption)), ?_⟩))
       done)
    | (have hk2 : k = bl.length := by omega
       subst hk2
       rw [List.take_length]
       (repeat' ((conv => whnf); first | refine go ?_ | (refine VSome.mk ?_; intro gQ hA'; first | subst hA' | cases hA' | (dsimp only at hA'; subst hA')) | refine And.intro ?_ ?_ | intro _ | (first | ((show VCall _ _ _ 144 _ _); refine VCall.grow _ (fun w1 m1 => hT _ _ w1 (Sees.any m1 fndA) (ht.on m1)) ?_))))
       (conv => whnf); refine VRet.mk fun w' m => ?_
       exact ⟨rfl, m.keeps.below⟩)
end Go.Proofs.YtadjhkehfklmnaaGreatDoor
