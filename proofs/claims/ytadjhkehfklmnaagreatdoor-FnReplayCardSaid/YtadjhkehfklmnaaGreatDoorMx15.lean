/-
  Texts joined: how the calls that the law reaches are walked, and the plain laws behind them.
  Conditions: none beyond each statement's own premises.
-/
import Derived.Test.YtadjhkehfklmnaaGreatDoorMx14
namespace Go.Proofs.YtadjhkehfklmnaaGreatDoor
set_option linter.unusedSimpArgs false
set_option linter.unusedVariables false
open Go.RowKit
set_option maxRecDepth 10000
def mixB (g f : Nat → Ba) (k i : Nat) : Ba := if i < k then g i else f i
theorem mixB_0 (g f : Nat → Ba) : mixB g f 0 = f := by funext i; exact if_neg (Nat.not_lt_zero i)
theorem mixB_at (g f : Nat → Ba) (k : Nat) : mixB g f k k = f k := if_neg (Nat.lt_irrefl k)
theorem mixB_suc (g f : Nat → Ba) (k : Nat) : upd (mixB g f k) k (g k) = mixB g f (k + 1) := by
  funext i
  by_cases h : i = k
  · subst h
    rw [upd_at]
    exact (if_pos (Nat.lt_succ_self _)).symm
  · rw [upd_ne _ _ h]
    unfold mixB
    by_cases h2 : i < k
    · rw [if_pos h2, if_pos (by omega)]
    · rw [if_neg h2, if_neg (by omega)]
theorem mixB_all (g f : Nat → Ba) (n : Nat) : BaS n (mixB g f n) = BaS n g := BaS.congr fun i hi => if_pos hi
theorem ba_elem {n : Nat} {f : Nat → Ba} {k : Nat} (hk : k < n) (j : Nat) (u : Value) (hu : (f k).cells[j]? = some u) : (BaS n f)[mulS k 3 + j]? = some u := by
  have hj : j < 3 := by
    rcases Nat.lt_or_ge j 3 with h | h
    · exact h
    · rw [List.getElem?_eq_none h] at hu; cases hu
  rw [mulS_eq]
  have := rowsN_get (f := fun i => (f i).cells) (s := 3) (fun _ => rfl) n k j hk hj
  exact this.trans hu
set_option maxHeartbeats 8000000 in
theorem sMove_v (A : Option Addr) (n c : Nat) (f : Nat → Ba) (a b v : Int) (w : World) (hg : bGood n f) (hf : bFlow n a b v) (hA : Seen w A (BaS n f)) :
    Calls Tryz.prog 193 #[.slice A n c, .agg (flC a b v).toArray] w fun e w' => ∃ v9, e = .returned v9 ∧ RetV (ι := Nat × Nat) (fun _ => True) (fun (g, c') => .slice (some ⟨g, 0, none⟩) n c') (fun (g, c') => [.row (.slice (some ⟨g, 0, none⟩) n c') 96 3 n (BaS n (bMv f a b v))]) (Base.of w) v9 w' := by
  have hn := hg.2
  obtain ⟨ha, hb, hab, hv⟩ := hf
  refine calls_of_vc tb_ok (args := [.slice A n c, .agg (flC a b v).toArray]) Tryz.func193 rfl ?_
  (repeat' ((conv => whnf); first | refine go ?_ | (refine VSome.mk ?_; intro gQ hA'; first | subst hA' | cases hA' | (dsimp only at hA'; subst hA')) | refine And.intro ?_ ?_ | intro _ | (first | ((show VApp _ _ _ _ _ _ _); refine VApp.copy 1 rfl rfl hA (BaS.len _ _) (by show 0 < n * 3; omega) (BaS.one _ _) (by omega) (fun g' c' => ?_)))))
  (conv => whnf)
  rename_i g3 _
  refine VLoop.mk (ι := Nat) [6, 7, 11, 12, 13, 14, 15, 16, 17, 18, 19, 20, 21, 22, 23, 24, 25, 26, 27, 28, 29, 30, 31, 32, 33, 34, 35, 36, 37, 38, 39, 40, 41, 42, 43, 44] (fun k => [(6, .int .i64 k)]) (fun k => [.blk g3 132 (flC a b v), .row (.slice (some ⟨g', 0, none⟩) n c') 96 3 n (BaS n (mixB (bMv f a b v) f k))]) (fun k => k ≤ n) (fun k => n - k) 0 (Nat.zero_le _) ?_ (OwnLe.mk [0, 1] (by simp) (by rw [mixB_0]; rfl)) (fun k u hk => ?_)
  · ((conv => whnf); repeat (first | exact trivial | refine ⟨rfl, ?_⟩ | refine ⟨congrArg (Value.int .i64) (by first | omega | assumption | exact Eq.symm (by assumption)), ?_⟩))
  by_cases hlt : k < n
  · have hq := hg.1 k hlt
    unfold Ba.ok at hq
    have hel := fun j u hu => ba_elem (f := mixB (bMv f a b v) f k) hlt j u (by rw [mixB_at]; exact hu)
    have hst : ∀ x : Ba, x = bMv f a b v k → setRange (BaS n (mixB (bMv f a b v) f k)) (k * 3) x.cells = BaS n (mixB (bMv f a b v) f (k + 1)) := fun x hx => by rw [hx, ba_row n _ k hlt, mixB_suc]
    (repeat' ((conv => whnf); first | refine go ?_ | (refine VSome.mk ?_; intro gQ hA'; first | subst hA' | cases hA' | (dsimp only at hA'; subst hA')) | refine And.intro ?_ ?_ | intro _ | (first | ((show VLoadN _ _ _ _ _ _); refine VLoadN.row (vs := (f k).cells) 1 rfl rfl (fun j u hj => hel j u hj) ?_) | ((show VStore _ _ _ _ _ _); refine VStore.rowAt 1 (k * 3) (by show mulS k 3 = k * 3; rw [mulS_eq]) rfl rfl (by rw [BaS.len]; show k * 3 + 3 ≤ n * 3; omega) rfl ?_))))
    all_goals (conv => whnf)
    all_goals first
      | (exfalso; omega; done)
      | (refine VNext.mk (k + 1) hlt (by omega) ?_ (OwnLe.mk [0, 1] (by simp) (by rw [← hst { f k with vol := (f k).vol - v } (bMv_from (by omega) (by omega)).symm]; rfl)); ((conv => whnf); repeat (first | exact trivial | refine ⟨rfl, ?_⟩ | refine ⟨congrArg (Value.int .i64) (by first | omega | assumption | exact Eq.symm (by assumption)), ?_⟩)); done)
      | (refine VNext.mk (k + 1) hlt (by omega) ?_ (OwnLe.mk [0, 1] (by simp) (by rw [← hst { f k with vol := (f k).vol + v } (bMv_to (by omega)).symm]; rfl)); ((conv => whnf); repeat (first | exact trivial | refine ⟨rfl, ?_⟩ | refine ⟨congrArg (Value.int .i64) (by first | omega | assumption | exact Eq.symm (by assumption)), ?_⟩)); done)
      | (refine VNext.mk (k + 1) hlt (by omega) ?_ (OwnLe.mk [0, 1] (by simp) (by rw [← hst (f k) (bMv_no (by omega) (by omega)).symm]; rfl)); ((conv => whnf); repeat (first | exact trivial | refine ⟨rfl, ?_⟩ | refine ⟨congrArg (Value.int .i64) (by first | omega | assumption | exact Eq.symm (by assumption)), ?_⟩)); done)
  · obtain rfl : n = k := by omega
    (repeat' ((conv => whnf); first | refine go ?_ | (refine VSome.mk ?_; intro gQ hA'; first | subst hA' | cases hA' | (dsimp only at hA'; subst hA')) | refine And.intro ?_ ?_ | intro _))
    (conv => whnf)
    refine VRet.mk fun w' m => ⟨(g', c'), trivial, rfl, ?_⟩
    rw [mixB_all] at m
    exact m.sel (ks := [1]) (by simp)
set_option maxHeartbeats 4000000 in
theorem iMoveW_v (A : Option Addr) (n c : Nat) (f : Nat → Ba) (a b v : Int) (w : World) (hg : bGood n f) (hf : bCan n f a b v) (hA : Seen w A (BaS n f)) :
    Calls Tryz.prog 146 #[.slice A n c, .agg (flC a b v).toArray] w fun e w' => ∃ v9, e = .returned v9 ∧ RetV (ι := Nat × Nat) (fun _ => True) (fun (g, c') => .tuple #[.slice (some ⟨g, 0, none⟩) n c', .bool true]) (fun (g, c') => [.row (.slice (some ⟨g, 0, none⟩) n c') 96 3 n (BaS n (bMv f a b v))]) (Base.of w) v9 w' := by
  have hn := hg.2
  have hF := fun w hA => isFlow_v A n c f a b v w hg hA
  rw [tr_yes hf.2.1] at hF
  have hG := fun A c w hA => iBas_v A n c (bMv f a b v) w (by omega) hA
  rw [tr_yes hf.2.2] at hG
  refine calls_of_vc tb_ok (args := [.slice A n c, .agg (flC a b v).toArray]) Tryz.func146 rfl ?_
  (repeat' ((conv => whnf); first | refine go ?_ | (refine VSome.mk ?_; intro gQ hA'; first | subst hA' | cases hA' | (dsimp only at hA'; subst hA')) | refine And.intro ?_ ?_ | intro _ | (first | ((show VCall _ _ _ 181 _ _); refine VCall.grow _ (fun w1 m1 => hF w1 seenA) ?_) | ((show VCall _ _ _ 182 _ _); refine VCall.ret (fun w1 m1 => iMove_v A n c f a b v w1 hg hf.2.1 seenA) (fun i _ => ?_); obtain ⟨g, c'⟩ := i) | ((show VCall _ _ _ 69 _ _); refine VCall.grow _ (fun w1 m1 => hG _ _ w1 seenA) ?_))))
  (conv => whnf)
  exact VRet.sel (g, c') trivial rfl [1] (by simp) rfl
theorem iMoveW_no (A : Option Addr) (n c : Nat) (f : Nat → Ba) (a b v : Int) (w : World) (hg : bGood n f) (hf : ¬ bCan n f a b v) (hA : Seen w A (BaS n f)) :
    Calls Tryz.prog 146 #[.slice A n c, .agg (flC a b v).toArray] w (Post (.tuple #[.slice none 0 0, .bool false]) w) := by
  have hn := hg.2
  have hF := fun w hA => isFlow_v A n c f a b v w hg hA
  have hG := fun A c w hA => iBas_v A n c (bMv f a b v) w (by omega) hA
  refine post_of_vc ?_
  refine calls_of_vc tb_ok (args := [.slice A n c, .agg (flC a b v).toArray]) Tryz.func146 rfl ?_
  by_cases h1 : bFlow n a b v
  · have h2 : ¬ bGood n (bMv f a b v) := fun h => hf ⟨hg, h1, h⟩
    rw [tr_yes h1] at hF
    rw [tr_no h2] at hG
    (repeat' ((conv => whnf); first | refine go ?_ | (refine VSome.mk ?_; intro gQ hA'; first | subst hA' | cases hA' | (dsimp only at hA'; subst hA')) | refine And.intro ?_ ?_ | intro _ | (first | ((show VCall _ _ _ 181 _ _); refine VCall.grow _ (fun w1 m1 => hF w1 seenA) ?_) | ((show VCall _ _ _ 182 _ _); refine VCall.ret (fun w1 m1 => iMove_v A n c f a b v w1 hg h1 seenA) (fun i _ => ?_); obtain ⟨g, c'⟩ := i) | ((show VCall _ _ _ 69 _ _); refine VCall.grow _ (fun w1 m1 => hG _ _ w1 seenA) ?_))))
    (conv => whnf); refine VRet.mk fun w' m => ?_
    exact ⟨rfl, m.keeps.below⟩
  · rw [tr_no h1] at hF
    (repeat' ((conv => whnf); first | refine go ?_ | (refine VSome.mk ?_; intro gQ hA'; first | subst hA' | cases hA' | (dsimp only at hA'; subst hA')) | refine And.intro ?_ ?_ | intro _ | (first | ((show VCall _ _ _ 181 _ _); refine VCall.grow _ (fun w1 m1 => hF w1 seenA) ?_))))
    (conv => whnf); refine VRet.mk fun w' m => ?_
    exact ⟨rfl, m.keeps.below⟩
set_option maxHeartbeats 4000000 in
theorem sMoveW_v (A : Option Addr) (n c : Nat) (f : Nat → Ba) (a b v : Int) (w : World) (hg : bGood n f) (hf : bCan n f a b v) (hA : Seen w A (BaS n f)) :
    Calls Tryz.prog 158 #[.slice A n c, .agg (flC a b v).toArray] w fun e w' => ∃ v9, e = .returned v9 ∧ RetV (ι := Nat × Nat) (fun _ => True) (fun (g, c') => .tuple #[.slice (some ⟨g, 0, none⟩) n c', .bool true]) (fun (g, c') => [.row (.slice (some ⟨g, 0, none⟩) n c') 96 3 n (BaS n (bMv f a b v))]) (Base.of w) v9 w' := by
  have hn := hg.2
  have hF := fun w => l10Flow_v n a b v w (by omega)
  rw [tr_yes hf.2.1] at hF
  have hG0 := fun w hA => sBas_v A n c f w (by omega) hA
  rw [tr_yes hg] at hG0
  have hG := fun A c w hA => sBas_v A n c (bMv f a b v) w (by omega) hA
  rw [tr_yes hf.2.2] at hG
  refine calls_of_vc tb_ok (args := [.slice A n c, .agg (flC a b v).toArray]) Tryz.func158 rfl ?_
  (repeat' ((conv => whnf); first | refine go ?_ | (refine VSome.mk ?_; intro gQ hA'; first | subst hA' | cases hA' | (dsimp only at hA'; subst hA')) | refine And.intro ?_ ?_ | intro _ | (first | ((show VCall _ _ _ 192 _ _); refine VCall.grow _ (fun w1 m1 => hF w1) ?_) | ((show VCall _ _ _ 193 _ _); refine VCall.ret (fun w1 m1 => sMove_v A n c f a b v w1 hg hf.2.1 seenA) (fun i _ => ?_); obtain ⟨g, c'⟩ := i) | ((show VCall _ _ _ 72 [.slice A n c] _); refine VCall.grow _ (fun w1 m1 => hG0 w1 seenA) ?_) | ((show VCall _ _ _ 72 [.slice (some ⟨_, 0, none⟩) n _] _); refine VCall.grow _ (fun w1 m1 => hG _ _ w1 seenA) ?_))))
  (conv => whnf)
  exact VRet.sel (g, c') trivial rfl [2] (by simp) rfl
theorem sMoveW_no (A : Option Addr) (n c : Nat) (f : Nat → Ba) (a b v : Int) (w : World) (hg : bGood n f) (hf : ¬ bCan n f a b v) (hA : Seen w A (BaS n f)) :
    Calls Tryz.prog 158 #[.slice A n c, .agg (flC a b v).toArray] w fun e w' => ∃ g : Nat, True ∧ Post (.tuple #[.slice (some ⟨g, 0, none⟩) 0 0, .bool false]) w e w' := by
  have hn := hg.2
  have hF := fun w => l10Flow_v n a b v w (by omega)
  have hG0 := fun w hA => sBas_v A n c f w (by omega) hA
  rw [tr_yes hg] at hG0
  have hG := fun A c w hA => sBas_v A n c (bMv f a b v) w (by omega) hA
  refine some_of_vc ?_
  refine calls_of_vc tb_ok (args := [.slice A n c, .agg (flC a b v).toArray]) Tryz.func158 rfl ?_
  by_cases h1 : bFlow n a b v
  · have h2 : ¬ bGood n (bMv f a b v) := fun h => hf ⟨hg, h1, h⟩
    rw [tr_yes h1] at hF
    rw [tr_no h2] at hG
    (repeat' ((conv => whnf); first | refine go ?_ | (refine VSome.mk ?_; intro gQ hA'; first | subst hA' | cases hA' | (dsimp only at hA'; subst hA')) | refine And.intro ?_ ?_ | intro _ | (first | ((show VCall _ _ _ 192 _ _); refine VCall.grow _ (fun w1 m1 => hF w1) ?_) | ((show VCall _ _ _ 193 _ _); refine VCall.ret (fun w1 m1 => sMove_v A n c f a b v w1 hg h1 seenA) (fun i _ => ?_); obtain ⟨g, c'⟩ := i) | ((show VCall _ _ _ 72 [.slice A n c] _); refine VCall.grow _ (fun w1 m1 => hG0 w1 seenA) ?_) | ((show VCall _ _ _ 72 [.slice (some ⟨_, 0, none⟩) n _] _); refine VCall.grow _ (fun w1 m1 => hG _ _ w1 seenA) ?_))))
    (conv => whnf); refine VRet.mk fun w' m => ?_
    exact ⟨_, trivial, rfl, m.keeps.below⟩
  · rw [tr_no h1] at hF
    (repeat' ((conv => whnf); first | refine go ?_ | (refine VSome.mk ?_; intro gQ hA'; first | subst hA' | cases hA' | (dsimp only at hA'; subst hA')) | refine And.intro ?_ ?_ | intro _ | (first | ((show VCall _ _ _ 192 _ _); refine VCall.grow _ (fun w1 m1 => hF w1) ?_) | ((show VCall _ _ _ 72 _ _); refine VCall.grow _ (fun w1 m1 => hG0 w1 seenA) ?_))))
    (conv => whnf); refine VRet.mk fun w' m => ?_
    exact ⟨_, trivial, rfl, m.keeps.below⟩
set_option maxHeartbeats 1600000 in
theorem iTotal_v (A : Option Addr) (n c : Nat) (f : Nat → Ba) (w : World) (hg : bGood n f) (hA : Seen w A (BaS n f)) :
    Calls Tryz.prog 147 #[.slice A n c] w (Post (.tuple #[.int .i64 (smI (fun i => (f i).vol) n), .bool true]) w) := by
  have hn := hg.2
  have hG := fun w hA => iBas_v A n c f w (by omega) hA
  rw [tr_yes hg] at hG
  refine post_of_vc ?_
  refine calls_of_vc tb_ok (args := [.slice A n c]) Tryz.func147 rfl ?_
  (repeat' ((conv => whnf); first | refine go ?_ | (refine VSome.mk ?_; intro gQ hA'; first | subst hA' | cases hA' | (dsimp only at hA'; subst hA')) | refine And.intro ?_ ?_ | intro _ | (first | ((show VCall _ _ _ 69 _ _); refine VCall.grow _ (fun w1 m1 => hG w1 seenA) ?_))))
  (conv => whnf)
  refine VLoop.mk (ι := Nat) [4, 6, 12, 13, 14, 15, 16, 17, 18, 19, 20] (fun k => [(12, .int .i64 k), (4, .int .i64 (smI (fun i => (f i).vol) k))]) (fun _ => []) (fun k => k ≤ n) (fun k => n - k) 0 (Nat.zero_le _) ?_ (OwnLe.mk [] (by simp) rfl) (fun k u hk => ?_)
  · ((conv => whnf); repeat (first | exact trivial | refine ⟨rfl, ?_⟩ | refine ⟨congrArg (Value.int .i64) (by first | omega | assumption | exact Eq.symm (by assumption)), ?_⟩))
  have hv := vols_in hg k hk
  by_cases hlt : k < n
  · obtain ⟨b, off, rfl, hb, hr, h0, _⟩ := BaS.look hA hlt
    have hq := hg.1 k hlt
    unfold Ba.ok at hq
    have hs : smI (fun i => (f i).vol) (k + 1) = smI (fun i => (f i).vol) k + (f k).vol := rfl
    (repeat' ((conv => whnf); first | refine go ?_ | (refine VSome.mk ?_; intro gQ hA'; first | subst hA' | cases hA' | (dsimp only at hA'; subst hA')) | refine And.intro ?_ ?_ | intro _))
    (conv => whnf)
    refine VNext.mk (k + 1) hlt (by omega) ?_ (OwnLe.mk [] (by simp) rfl)
    ((conv => whnf); repeat (first | exact trivial | refine ⟨rfl, ?_⟩ | refine ⟨congrArg (Value.int .i64) (by first | omega | assumption | exact Eq.symm (by assumption)), ?_⟩))
  · obtain rfl : k = n := by omega
    (repeat' ((conv => whnf); first | refine go ?_ | (refine VSome.mk ?_; intro gQ hA'; first | subst hA' | cases hA' | (dsimp only at hA'; subst hA')) | refine And.intro ?_ ?_ | intro _))
    (conv => whnf); refine VRet.mk fun w' m => ?_
    exact ⟨rfl, m.keeps.below⟩
set_option maxHeartbeats 1600000 in
theorem sTotal_v (A : Option Addr) (n c : Nat) (f : Nat → Ba) (w : World) (hg : bGood n f) (hA : Seen w A (BaS n f)) :
    Calls Tryz.prog 119 #[.slice A n c] w (Post (.tuple #[.int .i64 (smI (fun i => (f i).vol) n), .bool true]) w) := by
  have hn := hg.2
  have hG := fun w hA => sBas_v A n c f w (by omega) hA
  rw [tr_yes hg] at hG
  refine post_of_vc ?_
  refine calls_of_vc tb_ok (args := [.slice A n c]) Tryz.func119 rfl ?_
  (repeat' ((conv => whnf); first | refine go ?_ | (refine VSome.mk ?_; intro gQ hA'; first | subst hA' | cases hA' | (dsimp only at hA'; subst hA')) | refine And.intro ?_ ?_ | intro _ | (first | ((show VCall _ _ _ 72 _ _); refine VCall.grow _ (fun w1 m1 => hG w1 seenA) ?_))))
  (conv => whnf)
  refine VLoop.mk (ι := Nat) [4, 5, 9, 10, 11, 12, 13, 14, 15, 16, 17, 18, 19, 20, 21] (fun k => [(5, .int .i64 k), (4, .int .i64 (smI (fun i => (f i).vol) k))]) (fun _ => []) (fun k => k ≤ n) (fun k => n - k) 0 (Nat.zero_le _) ?_ (OwnLe.mk [] (by simp) rfl) (fun k u hk => ?_)
  · ((conv => whnf); repeat (first | exact trivial | refine ⟨rfl, ?_⟩ | refine ⟨congrArg (Value.int .i64) (by first | omega | assumption | exact Eq.symm (by assumption)), ?_⟩))
  have hv := vols_in hg k hk
  by_cases hlt : k < n
  · obtain ⟨b, off, rfl, hb, hr, h0, _⟩ := BaS.look hA hlt
    have hq := hg.1 k hlt
    unfold Ba.ok at hq
    have hs : smI (fun i => (f i).vol) (k + 1) = smI (fun i => (f i).vol) k + (f k).vol := rfl
    (repeat' ((conv => whnf); first | refine go ?_ | (refine VSome.mk ?_; intro gQ hA'; first | subst hA' | cases hA' | (dsimp only at hA'; subst hA')) | refine And.intro ?_ ?_ | intro _))
    (conv => whnf)
    refine VNext.mk (k + 1) hlt (by omega) ?_ (OwnLe.mk [] (by simp) rfl)
    ((conv => whnf); repeat (first | exact trivial | refine ⟨rfl, ?_⟩ | refine ⟨congrArg (Value.int .i64) (by first | omega | assumption | exact Eq.symm (by assumption)), ?_⟩))
  · obtain rfl : k = n := by omega
    (repeat' ((conv => whnf); first | refine go ?_ | (refine VSome.mk ?_; intro gQ hA'; first | subst hA' | cases hA' | (dsimp only at hA'; subst hA')) | refine And.intro ?_ ?_ | intro _))
    (conv => whnf); refine VRet.mk fun w' m => ?_
    exact ⟨rfl, m.keeps.below⟩
end Go.Proofs.YtadjhkehfklmnaaGreatDoor
namespace Go.Proofs.YtadjhkehfklmnaaGreatDoor
set_option linter.unusedSimpArgs false
set_option linter.unusedVariables false
open Go.RowKit
set_option maxRecDepth 10000
theorem IL_old {w0 : Base} {B : Option Addr} {L : List Int} (h : OldSeen w0 B (IL L)) (hl : 0 < L.length) : ∃ b off, B = some ⟨b, off, none⟩ ∧ b < w0.w.heap.size ∧ ¬ w0.lent b ∧ ∀ i, i < L.length → w0.w.cell? ⟨b, off + mulS i 1, none⟩ = some (.int .i64 (a0 L i)) := by
  obtain ⟨b, off, e, hb, hn, _⟩ := h 0 _ (IL_get hl 0 rfl)
  refine ⟨b, off, e, hb, hn, fun i hi => ?_⟩
  obtain ⟨b2, off2, e2, _, _, hc⟩ := h i _ (IL_get hi i rfl)
  rw [e] at e2
  cases e2
  rw [mulS_eq, Nat.mul_one]
  exact hc
theorem isOne_yes {x : Int} (h : x = 1) : isOne x = true := decide_eq_true h
theorem isOne_no {x : Int} (h : ¬ x = 1) : isOne x = false := decide_eq_false h
set_option maxHeartbeats 8000000 in
theorem iExStep_yes {w0 : Base} {w : World} (d : Co) (gc : Nat) (A1 : Option Addr) (c1 : Nat) (A2 : Option Addr) (c2 : Nat) (B : Option Addr) (c : Nat) (L : List Int) (hf : d.fit) (ht : Old2 w0) (hB : OldSeen w0 B (IL L)) (hl : 0 < L.length) (h : d.lock.okStep (a0 L 0)) (m0 : Mem w0 [.blk gc 39 (d.at A1 c1 A2 c2), .row (.slice A1 d.n c1) 96 3 d.n (BaS d.n d.ba), .row (.slice A2 d.m c2) 98 4 d.m (AwS d.m d.wa)] w) :
    Calls Tryz.prog 114 #[.pointer (some ⟨gc, 0, none⟩), .string (tx wStep), .slice B L.length c] w fun e w' => ∃ v, e = .returned v ∧ RetL (ι := Option Addr × Nat × Option Addr × Nat) (fun _ => True) (fun _ => .tuple #[.string (tx (wOk)), .bool true]) (fun (P1, k1, P2, k2) => [.blk gc 39 (({ d with lock := d.lock.move (a0 L 0) } : Co).at P1 k1 P2 k2), .row (.slice P1 ({ d with lock := d.lock.move (a0 L 0) } : Co).n k1) 96 3 ({ d with lock := d.lock.move (a0 L 0) } : Co).n (BaS ({ d with lock := d.lock.move (a0 L 0) } : Co).n ({ d with lock := d.lock.move (a0 L 0) } : Co).ba), .row (.slice P2 ({ d with lock := d.lock.move (a0 L 0) } : Co).m k2) 98 4 ({ d with lock := d.lock.move (a0 L 0) } : Co).m (AwS ({ d with lock := d.lock.move (a0 L 0) } : Co).m ({ d with lock := d.lock.move (a0 L 0) } : Co).wa)]) (fun _ => []) w0 v w' := by
  have hs := hf.1
  obtain ⟨bb, off, rfl, hbb, hnl, hcc⟩ := IL_old hB hl
  have hS := fun w => iStep_v d.lock (a0 L 0) w
  rw [Lo.step_yes h, tr_yes h] at hS
  refine calls_of_vcL (w0 := w0) tb_ok (args := [.pointer (some ⟨gc, 0, none⟩), .string (tx wStep), .slice (some ⟨bb, off, none⟩) L.length c]) Tryz.func114 rfl m0 ?_
  (repeat' ((conv => whnf); first | refine go ?_ | (refine VSome.mk ?_; intro gQ hA'; first | subst hA' | cases hA' | (dsimp only at hA'; subst hA')) | refine And.intro ?_ ?_ | intro _ | (first | ((show VCall _ _ _ 141 _ _); refine VCall.grow _ (fun w1 m1 => hS w1) ?_) | ((show VDraw _ _ _ #[{ dst := some 28, op := _, type := _, pos := _, after := _, guard := _ }, _, _, _, _, _, _, _, _, _, _, _, _, _] _ _); refine VDraw.mk (.take 0 (.take 1 (.take 2 (.take 3 (.take 4 (.take 5 (.take 6 (.br 7 (.take 8 (.take 9 (.take 10 (.br 11 (.br 12 (.take 13 .done) .done) .done)))) (.br 11 (.br 7 (.take 8 (.take 9 (.take 10 (.br 12 (.take 13 .done) .done)))) .done) .done))))))))) [0, 3] (by kernel_rfl) (by kernel_rfl) ?_) | ((show VIdx _ _ _ _ _ _ _); first | (refine VIdx.at_ rfl 0 rfl (by omega) ?_)) | ((show VLoad1 _ _ _ _ _); first | (refine VLoad1.mk _ (Rd.old hbb hnl (hcc 0 (by omega))) ?_) ))))
  all_goals (conv => whnf)
  all_goals exact VRet.mk fun w' m => ⟨(A1, c1, A2, c2), trivial, rfl, m.sel (ks := [0, 1, 2]) (by simp)⟩
set_option maxHeartbeats 8000000 in
theorem iExStep_no {w0 : Base} {w : World} (d : Co) (gc : Nat) (A1 : Option Addr) (c1 : Nat) (A2 : Option Addr) (c2 : Nat) (B : Option Addr) (c : Nat) (L : List Int) (hf : d.fit) (ht : Old2 w0) (hB : OldSeen w0 B (IL L)) (hl : 0 < L.length) (h : ¬ d.lock.okStep (a0 L 0)) (m0 : Mem w0 [.blk gc 39 (d.at A1 c1 A2 c2), .row (.slice A1 d.n c1) 96 3 d.n (BaS d.n d.ba), .row (.slice A2 d.m c2) 98 4 d.m (AwS d.m d.wa)] w) :
    Calls Tryz.prog 114 #[.pointer (some ⟨gc, 0, none⟩), .string (tx wStep), .slice B L.length c] w fun e w' => ∃ v, e = .returned v ∧ RetL (ι := Co × Option Addr × Nat × Option Addr × Nat × List UInt8) (fun _ => True) (fun (_, _, _, _, _, t) => .tuple #[.string (tx t), .bool false]) (fun (d', P1, k1, P2, k2, _) => [.blk gc 39 (d'.at P1 k1 P2 k2), .gone, .gone]) (fun _ => []) w0 v w' := by
  have hs := hf.1
  obtain ⟨bb, off, rfl, hbb, hnl, hcc⟩ := IL_old hB hl
  have hS := fun w => iStep_v d.lock (a0 L 0) w
  rw [Lo.step_no h, tr_no h] at hS
  refine calls_of_vcL (w0 := w0) tb_ok (args := [.pointer (some ⟨gc, 0, none⟩), .string (tx wStep), .slice (some ⟨bb, off, none⟩) L.length c]) Tryz.func114 rfl m0 ?_
  (repeat' ((conv => whnf); first | refine go ?_ | (refine VSome.mk ?_; intro gQ hA'; first | subst hA' | cases hA' | (dsimp only at hA'; subst hA')) | refine And.intro ?_ ?_ | intro _ | (first | ((show VCall _ _ _ 141 _ _); refine VCall.grow _ (fun w1 m1 => hS w1) ?_) | ((show VDraw _ _ _ #[{ dst := some 28, op := _, type := _, pos := _, after := _, guard := _ }, _, _, _, _, _, _, _, _, _, _, _, _, _] _ _); refine VDraw.mk (.take 0 (.take 1 (.take 2 (.take 3 (.take 4 (.take 5 (.take 6 (.br 7 (.take 8 (.take 9 (.take 10 (.br 11 (.br 12 (.take 13 .done) .done) .done)))) (.br 11 (.br 7 (.take 8 (.take 9 (.take 10 (.br 12 (.take 13 .done) .done)))) .done) .done))))))))) [0, 3] (by kernel_rfl) (by kernel_rfl) ?_) | ((show VIdx _ _ _ _ _ _ _); first | (refine VIdx.at_ rfl 0 rfl (by omega) ?_)) | ((show VLoad1 _ _ _ _ _); first | (refine VLoad1.mk _ (Rd.old hbb hnl (hcc 0 (by omega))) ?_) ))))
  all_goals (conv => whnf)
  all_goals exact VRet.mk fun w' m => ⟨({ d with lock := Lo.zero }, A1, c1, A2, c2, wOk), trivial, rfl, m.sel (ks := [0, 100, 101]) (by simp)⟩
set_option maxHeartbeats 8000000 in
theorem iExGo_v {w0 : Base} {w : World} (d : Co) (gc : Nat) (A1 : Option Addr) (c1 : Nat) (A2 : Option Addr) (c2 : Nat) (B : Option Addr) (c : Nat) (L : List Int) (hf : d.fit) (ht : Old2 w0) (hB : OldSeen w0 B (IL L)) (hl : 0 < L.length) (m0 : Mem w0 [.blk gc 39 (d.at A1 c1 A2 c2), .row (.slice A1 d.n c1) 96 3 d.n (BaS d.n d.ba), .row (.slice A2 d.m c2) 98 4 d.m (AwS d.m d.wa)] w) :
    Calls Tryz.prog 114 #[.pointer (some ⟨gc, 0, none⟩), .string (tx wGo), .slice B L.length c] w fun e w' => ∃ v, e = .returned v ∧ RetL (ι := Option Addr × Nat × Option Addr × Nat) (fun _ => True) (fun _ => .tuple #[.string (tx (Lib.itoa (d.lock.run (d.lock.plan (isOne (a0 L 0)))).1.level)), .bool true]) (fun (P1, k1, P2, k2) => [.blk gc 39 (({ d with lock := (d.lock.run (d.lock.plan (isOne (a0 L 0)))).1 } : Co).at P1 k1 P2 k2), .row (.slice P1 ({ d with lock := (d.lock.run (d.lock.plan (isOne (a0 L 0)))).1 } : Co).n k1) 96 3 ({ d with lock := (d.lock.run (d.lock.plan (isOne (a0 L 0)))).1 } : Co).n (BaS ({ d with lock := (d.lock.run (d.lock.plan (isOne (a0 L 0)))).1 } : Co).n ({ d with lock := (d.lock.run (d.lock.plan (isOne (a0 L 0)))).1 } : Co).ba), .row (.slice P2 ({ d with lock := (d.lock.run (d.lock.plan (isOne (a0 L 0)))).1 } : Co).m k2) 98 4 ({ d with lock := (d.lock.run (d.lock.plan (isOne (a0 L 0)))).1 } : Co).m (AwS ({ d with lock := (d.lock.run (d.lock.plan (isOne (a0 L 0)))).1 } : Co).m ({ d with lock := (d.lock.run (d.lock.plan (isOne (a0 L 0)))).1 } : Co).wa)]) (fun _ => []) w0 v w' := by
  have hs := hf.1
  obtain ⟨bb, off, rfl, hbb, hnl, hcc⟩ := IL_old hB hl
  have hw_Step : ¬ tx wGo = ({ data := #[115, 116, 101, 112] } : ByteArray) := by decide
  have hP := fun h w => iPlan_v d.lock h w hs
  have hR := fun h A c w hA => iRun_v d.lock A c (d.lock.plan h) w hs (Nat.le_trans (Lo.plan_len hs) (by decide)) hA
  have hr := fun h => Lo.plan_run hs h
  have hsf := fun h => (Lo.run_safe hs (d.lock.plan h)).1
  by_cases h1 : a0 L 0 = 1
  all_goals (first | (rw [isOne_yes h1]; replace hP := hP true; replace hR := hR true; replace hr := hr true; replace hsf := hsf true; done) | (rw [isOne_yes h1]; replace hP := hP true; replace hR := hR true; replace hr := hr true; replace hsf := hsf true) | (rw [isOne_no h1]; replace hP := hP false; replace hR := hR false; replace hr := hr false; replace hsf := hsf false))
  all_goals rw [hr] at hR
  all_goals (generalize (d.lock.run (d.lock.plan _)).1 = s2 at hR hsf ⊢)
  all_goals (have hlv := hsf.1; have hlv2 := hsf.2.1; have hlv3 := hsf.2.2.1; have hlv4 := hsf.2.2.2.1)
  all_goals (refine calls_of_vcL (w0 := w0) tb_ok (args := [.pointer (some ⟨gc, 0, none⟩), .string (tx wGo), .slice (some ⟨bb, off, none⟩) L.length c]) Tryz.func114 rfl m0 ?_)
  all_goals ((repeat' ((conv => whnf); first | refine go ?_ | (refine VSome.mk ?_; intro gQ hA'; first | subst hA' | cases hA' | (dsimp only at hA'; subst hA')) | refine And.intro ?_ ?_ | intro _ | (first | ((show VCall _ _ _ 142 _ _); refine VCall.ret (fun w1 m1 => hP w1) (fun i hi => ?_); obtain ⟨P, cp, n9, L9⟩ := i; obtain ⟨rfl, rfl⟩ := hi) | ((show VCall _ _ _ 143 _ _); refine VCall.grow _ (fun w1 m1 => hR _ _ w1 (Sees.any m1 fndA)) ?_) | ((show VCall _ _ _ 59 _ _); refine VCall.grow _ (fun w1 m1 => itoaZ_v _ w1 (by omega) (by omega) (ht.now m1).1) ?_) | ((show VDraw _ _ _ #[{ dst := some 46, op := _, type := _, pos := _, after := _, guard := _ }, _, _, _, _, _, _, _, _, _, _, _, _, _] _ _); refine VDraw.mk (.take 0 (.take 1 (.take 2 (.take 3 (.take 4 (.take 5 (.take 6 (.take 7 (.br 8 (.take 9 (.take 10 (.take 11 (.take 12 (.take 13 .done))))) .done))))))))) [0, 3] (by kernel_rfl) (by kernel_rfl) ?_) | ((show VIdx _ _ _ _ _ _ _); first | (refine VIdx.at_ rfl 0 rfl (by omega) ?_)) | ((show VLoad1 _ _ _ _ _); first | (refine VLoad1.mk _ (Rd.old hbb hnl (hcc 0 (by omega))) ?_) )))))
  all_goals (conv => whnf)
  all_goals exact VRet.mk fun w' m => ⟨(A1, c1, A2, c2), trivial, rfl, m.sel (ks := [0, 1, 2]) (by simp)⟩
set_option maxHeartbeats 8000000 in
theorem iExPlan_v {w0 : Base} {w : World} (d : Co) (gc : Nat) (A1 : Option Addr) (c1 : Nat) (A2 : Option Addr) (c2 : Nat) (B : Option Addr) (c : Nat) (L : List Int) (hf : d.fit) (ht : Old2 w0) (hB : OldSeen w0 B (IL L)) (hl : 0 < L.length) (m0 : Mem w0 [.blk gc 39 (d.at A1 c1 A2 c2), .row (.slice A1 d.n c1) 96 3 d.n (BaS d.n d.ba), .row (.slice A2 d.m c2) 98 4 d.m (AwS d.m d.wa)] w) :
    Calls Tryz.prog 114 #[.pointer (some ⟨gc, 0, none⟩), .string (tx wPlan), .slice B L.length c] w fun e w' => ∃ v, e = .returned v ∧ RetL (ι := Option Addr × Nat × Option Addr × Nat) (fun _ => True) (fun _ => .tuple #[.string (tx (ltx (d.lock.plan (isOne (a0 L 0))))), .bool true]) (fun (P1, k1, P2, k2) => [.blk gc 39 ((d : Co).at P1 k1 P2 k2), .row (.slice P1 (d : Co).n k1) 96 3 (d : Co).n (BaS (d : Co).n (d : Co).ba), .row (.slice P2 (d : Co).m k2) 98 4 (d : Co).m (AwS (d : Co).m (d : Co).wa)]) (fun _ => []) w0 v w' := by
  have hs := hf.1
  obtain ⟨bb, off, rfl, hbb, hnl, hcc⟩ := IL_old hB hl
  have hw_Step : ¬ tx wPlan = ({ data := #[115, 116, 101, 112] } : ByteArray) := by decide
  have hw_Go : ¬ tx wPlan = ({ data := #[103, 111] } : ByteArray) := by decide
  have hP := fun h w => iPlan_v d.lock h w hs
  have hT := fun h B c w hB ht => listText_v B c (d.lock.plan h) w (Nat.le_trans (Lo.plan_len hs) (by decide)) (fun x hx => by have := Lo.plan_in x hx; omega) hB ht
  by_cases h1 : a0 L 0 = 1
  all_goals (first | (rw [isOne_yes h1]; replace hP := hP true; replace hT := hT true) | (rw [isOne_no h1]; replace hP := hP false; replace hT := hT false))
  all_goals (refine calls_of_vcL (w0 := w0) tb_ok (args := [.pointer (some ⟨gc, 0, none⟩), .string (tx wPlan), .slice (some ⟨bb, off, none⟩) L.length c]) Tryz.func114 rfl m0 ?_)
  all_goals ((repeat' ((conv => whnf); first | refine go ?_ | (refine VSome.mk ?_; intro gQ hA'; first | subst hA' | cases hA' | (dsimp only at hA'; subst hA')) | refine And.intro ?_ ?_ | intro _ | (first | ((show VCall _ _ _ 142 _ _); refine VCall.ret (fun w1 m1 => hP w1) (fun i hi => ?_); obtain ⟨P, cp, n9, L9⟩ := i; obtain ⟨rfl, rfl⟩ := hi) | ((show VCall _ _ _ 144 _ _); refine VCall.grow _ (fun w1 m1 => hT _ _ w1 (Sees.any m1 fndA) (ht.now m1).1) ?_) | ((show VDraw _ _ _ #[{ dst := some 84, op := _, type := _, pos := _, after := _, guard := _ }, _, _, _, _, _, _, _, _, _, _, _, _, _] _ _); refine VDraw.mk (.take 0 (.take 1 (.take 2 (.take 3 (.take 4 (.take 5 (.take 6 (.take 7 (.br 8 (.take 9 (.take 10 (.take 11 (.take 12 (.take 13 .done))))) .done))))))))) [0, 3] (by kernel_rfl) (by kernel_rfl) ?_) | ((show VIdx _ _ _ _ _ _ _); first | (refine VIdx.at_ rfl 0 rfl (by omega) ?_)) | ((show VLoad1 _ _ _ _ _); first | (refine VLoad1.mk _ (Rd.old hbb hnl (hcc 0 (by omega))) ?_) )))))
  all_goals (conv => whnf)
  all_goals exact VRet.mk fun w' m => ⟨(A1, c1, A2, c2), trivial, rfl, m.sel (ks := [0, 1, 2]) (by simp)⟩
set_option maxHeartbeats 8000000 in
theorem iExHead_v {w0 : Base} {w : World} (d : Co) (gc : Nat) (A1 : Option Addr) (c1 : Nat) (A2 : Option Addr) (c2 : Nat) (B : Option Addr) (c : Nat) (L : List Int) (hf : d.fit) (ht : Old2 w0) (hB : OldSeen w0 B (IL L)) (hl : 0 < L.length) (m0 : Mem w0 [.blk gc 39 (d.at A1 c1 A2 c2), .row (.slice A1 d.n c1) 96 3 d.n (BaS d.n d.ba), .row (.slice A2 d.m c2) 98 4 d.m (AwS d.m d.wa)] w) :
    Calls Tryz.prog 114 #[.pointer (some ⟨gc, 0, none⟩), .string (tx wHead), .slice B L.length c] w fun e w' => ∃ v, e = .returned v ∧ RetL (ι := Option Addr × Nat × Option Addr × Nat) (fun _ => True) (fun _ => .tuple #[.string (tx (Lib.itoa (d.lock.head (isOne (a0 L 0))))), .bool true]) (fun (P1, k1, P2, k2) => [.blk gc 39 ((d : Co).at P1 k1 P2 k2), .row (.slice P1 (d : Co).n k1) 96 3 (d : Co).n (BaS (d : Co).n (d : Co).ba), .row (.slice P2 (d : Co).m k2) 98 4 (d : Co).m (AwS (d : Co).m (d : Co).wa)]) (fun _ => []) w0 v w' := by
  have hs := hf.1
  obtain ⟨bb, off, rfl, hbb, hnl, hcc⟩ := IL_old hB hl
  have hw_Step : ¬ tx wHead = ({ data := #[115, 116, 101, 112] } : ByteArray) := by decide
  have hw_Go : ¬ tx wHead = ({ data := #[103, 111] } : ByteArray) := by decide
  have hw_Plan : ¬ tx wHead = ({ data := #[112, 108, 97, 110] } : ByteArray) := by decide
  have hP := fun h w => iHeadAt_v d.lock h w hs
  have hb := fun h => Lo.head_in hs h
  by_cases h1 : a0 L 0 = 1
  all_goals (first | (rw [isOne_yes h1]; replace hP := hP true; replace hb := hb true) | (rw [isOne_no h1]; replace hP := hP false; replace hb := hb false))
  all_goals (generalize d.lock.head _ = hh at hP hb ⊢)
  all_goals (refine calls_of_vcL (w0 := w0) tb_ok (args := [.pointer (some ⟨gc, 0, none⟩), .string (tx wHead), .slice (some ⟨bb, off, none⟩) L.length c]) Tryz.func114 rfl m0 ?_)
  all_goals ((repeat' ((conv => whnf); first | refine go ?_ | (refine VSome.mk ?_; intro gQ hA'; first | subst hA' | cases hA' | (dsimp only at hA'; subst hA')) | refine And.intro ?_ ?_ | intro _ | (first | ((show VCall _ _ _ 145 _ _); refine VCall.grow _ (fun w1 m1 => hP w1) ?_) | ((show VCall _ _ _ 59 _ _); refine VCall.grow _ (fun w1 m1 => itoaZ_v _ w1 (by omega) (by omega) (ht.now m1).1) ?_) | ((show VDraw _ _ _ #[{ dst := some 101, op := _, type := _, pos := _, after := _, guard := _ }, _, _, _, _, _, _, _, _, _, _, _, _, _] _ _); refine VDraw.mk (.take 0 (.take 1 (.take 2 (.take 3 (.take 4 (.take 5 (.take 6 (.take 7 (.br 8 (.take 9 (.take 10 (.take 11 (.take 12 (.take 13 .done))))) .done))))))))) [0, 3] (by kernel_rfl) (by kernel_rfl) ?_) | ((show VIdx _ _ _ _ _ _ _); first | (refine VIdx.at_ rfl 0 rfl (by omega) ?_)) | ((show VLoad1 _ _ _ _ _); first | (refine VLoad1.mk _ (Rd.old hbb hnl (hcc 0 (by omega))) ?_) )))))
  all_goals (conv => whnf)
  all_goals exact VRet.mk fun w' m => ⟨(A1, c1, A2, c2), trivial, rfl, m.sel (ks := [0, 1, 2]) (by simp)⟩
set_option maxHeartbeats 8000000 in
theorem iExLevel_v {w0 : Base} {w : World} (d : Co) (gc : Nat) (A1 : Option Addr) (c1 : Nat) (A2 : Option Addr) (c2 : Nat) (B : Option Addr) (c : Nat) (L : List Int) (hf : d.fit) (ht : Old2 w0) (hB : OldSeen w0 B (IL L)) (m0 : Mem w0 [.blk gc 39 (d.at A1 c1 A2 c2), .row (.slice A1 d.n c1) 96 3 d.n (BaS d.n d.ba), .row (.slice A2 d.m c2) 98 4 d.m (AwS d.m d.wa)] w) :
    Calls Tryz.prog 114 #[.pointer (some ⟨gc, 0, none⟩), .string (tx wLevel), .slice B L.length c] w fun e w' => ∃ v, e = .returned v ∧ RetL (ι := Option Addr × Nat × Option Addr × Nat) (fun _ => True) (fun _ => .tuple #[.string (tx (Lib.itoa d.lock.level)), .bool true]) (fun (P1, k1, P2, k2) => [.blk gc 39 ((d : Co).at P1 k1 P2 k2), .row (.slice P1 (d : Co).n k1) 96 3 (d : Co).n (BaS (d : Co).n (d : Co).ba), .row (.slice P2 (d : Co).m k2) 98 4 (d : Co).m (AwS (d : Co).m (d : Co).wa)]) (fun _ => []) w0 v w' := by
  have hs := hf.1
  have hlv := hs.1
  have hlv2 := hs.2.1
  have hlv3 := hs.2.2.1
  have hlv4 := hs.2.2.2.1
  refine calls_of_vcL (w0 := w0) tb_ok (args := [.pointer (some ⟨gc, 0, none⟩), .string (tx wLevel), .slice B L.length c]) Tryz.func114 rfl m0 ?_
  have hw_Step : ¬ tx wLevel = ({ data := #[115, 116, 101, 112] } : ByteArray) := by decide
  have hw_Go : ¬ tx wLevel = ({ data := #[103, 111] } : ByteArray) := by decide
  have hw_Plan : ¬ tx wLevel = ({ data := #[112, 108, 97, 110] } : ByteArray) := by decide
  have hw_Head : ¬ tx wLevel = ({ data := #[104, 101, 97, 100] } : ByteArray) := by decide
  (repeat' ((conv => whnf); first | refine go ?_ | (refine VSome.mk ?_; intro gQ hA'; first | subst hA' | cases hA' | (dsimp only at hA'; subst hA')) | refine And.intro ?_ ?_ | intro _ | (first | ((show VCall _ _ _ 59 _ _); refine VCall.grow _ (fun w1 m1 => itoaZ_v _ w1 (by omega) (by omega) (ht.now m1).1) ?_))))
  all_goals (conv => whnf)
  all_goals exact VRet.mk fun w' m => ⟨(A1, c1, A2, c2), trivial, rfl, m.sel (ks := [0, 1, 2]) (by simp)⟩
end Go.Proofs.YtadjhkehfklmnaaGreatDoor
