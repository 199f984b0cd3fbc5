/-
  Texts joined: how the calls that the law reaches are walked, and the plain laws behind them.
  Conditions: none beyond each statement's own premises.
-/
import Derived.Test.YtadjhkehfklmnaaGreatDoorMy10
namespace Go.Proofs.YtadjhkehfklmnaaGreatDoor
set_option linter.unusedSimpArgs false
set_option linter.unusedVariables false
open Go.RowKit
set_option maxRecDepth 10000
theorem TS_look {w : World} {A : Option Addr} {l : List (List UInt8)} {i : Nat} (h : Seen w A (TS l)) (hi : i < l.length) : ∃ b off, A = some ⟨b, off, none⟩ ∧ b < w.heap.size ∧ w.cell? ⟨b, off + mulS i 1, none⟩ = some (.string (tx (l.getD i []))) := by
  have e : (TS l)[i]? = some (.string (tx (l.getD i []))) := by
    unfold TS
    rw [List.getElem?_map, List.getD_eq_getElem?_getD, List.getElem?_eq_getElem hi]
    rfl
  obtain ⟨b, off, e2, hb, hc⟩ := h i _ e
  exact ⟨b, off, e2, hb, by rw [mulS_eq, Nat.mul_one]; exact hc⟩
theorem idx2_v (g c : Nat) (a b x : List UInt8) (w : World) (hA : Seen w (some ⟨g, 0, none⟩) [.string (tx a), .string (tx b)]) : Calls Tryz.prog 140 #[.slice (some ⟨g, 0, none⟩) 2 c, .string (tx x)] w (Post (.int .i64 (Lib.idxOfS [tx a, tx b] (tx x))) w) := by
  refine (Tryz.slices_Index_string g 0 2 c [tx a, tx b] (tx x) w (Nat.le_refl 2) (by decide) fun j hj => ?_).mono fun e w' ⟨he, hw⟩ => ⟨he, by rw [hw]; exact Below.refl _ _⟩
  obtain ⟨b', off, e2, hb, hc⟩ := hA j (.string ([tx a, tx b].getD j ByteArray.empty)) (by
    have hj : j < 2 := hj
    rcases j with _ | _ | j
    · rfl
    · rfl
    · omega)
  cases e2
  exact hc
theorem idxOfS_fst (a b : ByteArray) : Lib.idxOfS [a, b] a = 0 := by simp [Lib.idxOfS, Lib.idxFromS]
theorem idxOfS_snd {a b : ByteArray} (h : ¬ b = a) : Lib.idxOfS [a, b] b = 1 := by simp [Lib.idxOfS, Lib.idxFromS, Ne.symm h]
theorem rw1_num {p : UInt8} {w : List UInt8} (h : p = 110) : rw1 p w = if (rdV w).2 = true then some (rdV w).1 else none := by unfold rw1; rw [if_pos h]
theorem rw1_side {p : UInt8} {w : List UInt8} (h : p = 115) : rw1 p w = if w = wLow then some 0 else if w = wHigh then some 1 else none := by subst h; rfl
theorem rw1_way {p : UInt8} {w : List UInt8} (h : ¬ p = 110) (h2 : ¬ p = 115) : rw1 p w = if w = wDown then some 0 else if w = wUp then some 1 else none := by unfold rw1; rw [if_neg h, if_neg h2]
def rdO (P : Option Addr) (cp : Nat) : Option (List Int) → Value
  | some L => .tuple #[.slice P L.length cp, .bool true]
  | none => .tuple #[.slice none 0 0, .bool false]
def rdN (P : Option Addr) (cp : Nat) : Option (List Int) → List Own
  | some L => [.row (.slice P L.length cp) 3 1 L.length (IL L)]
  | none => []
set_option maxHeartbeats 16000000 in
theorem readWords_v (B : Option Addr) (c : Nat) (ps : List UInt8) (ws : List (List UInt8)) (w : World) (hp : ps.length ≤ 1048576) (hn : ws.length ≤ 1048576) (hl : ∀ x ∈ ws, x.length ≤ 1048576) (hB : Seen w B (TS ws)) (ht : PT2 w) :
    Calls Tryz.prog 113 #[.string (tx ps), .slice B ws.length c] w fun e w' => ∃ v, e = .returned v ∧ RetV (ι := Option Addr × Nat) (fun _ => True) (fun (P, cp) => rdO P cp (rwZ ps ws)) (fun (P, cp) => rdN P cp (rwZ ps ws)) (Base.of w) v w' := by
  have hsz := tx_size ps
  refine calls_of_vc tb_ok (args := [.string (tx ps), .slice B ws.length c]) Tryz.func113 rfl ?_
  by_cases he : ws.length = ps.length
  · (repeat' ((conv => whnf); first | refine go ?_ | (refine VSome.mk ?_; intro gQ hA'; first | subst hA' | cases hA' | (dsimp only at hA'; subst hA')) | refine And.intro ?_ ?_ | intro _))
    (conv => whnf)
    refine VLoop.mk (ι := Nat × List Int × Option Addr × Nat) [4, 5, 6, 7, 8, 9, 10, 19, 20, 21, 22, 23, 24, 25, 26, 27, 28, 29, 30, 31, 32, 33, 34, 35, 36, 37, 38, 39, 40, 41, 42, 43, 44, 45, 46, 47, 48, 49, 50, 51, 52, 53, 54, 55, 56, 57, 58, 59, 60] (fun (k, L, P, cp) => [(19, .int .i64 k), (6, .slice P k cp)]) (fun (k, L, P, cp) => [.row (.slice P k cp) 3 1 k (IL L)]) (fun i => i.1 ≤ ws.length ∧ i.1 = i.2.1.length ∧ rwZ ps ws = (rwZ (ps.drop i.1) (ws.drop i.1)).map (i.2.1 ++ ·)) (fun i => ws.length - i.1) (0, [], _, _) ⟨Nat.zero_le _, rfl, by simp⟩ ?_ (OwnLe.mk [0] (by simp) rfl) (fun i u hi => ?_)
    · ((conv => whnf); repeat (first | exact trivial | refine ⟨rfl, ?_⟩ | refine ⟨congrArg (Value.int .i64) (by first | omega | assumption | exact Eq.symm (by assumption)), ?_⟩))
    obtain ⟨k, L, P, cp⟩ := i
    obtain ⟨hk, hkl, hZ⟩ := hi
    replace hk : k ≤ ws.length := hk
    replace hkl : k = L.length := hkl
    replace hZ : rwZ ps ws = (rwZ (ps.drop k) (ws.drop k)).map (L ++ ·) := hZ
    (conv => whnf)
    try dsimp only
    by_cases hlt : k < ws.length
    · have hlp : k < ps.length := by omega
      have hk2 : k < (tx ps).size := by omega
      have hg := getD_tx ps k hlp
      obtain ⟨b1, off1, rfl, hb1, hc1⟩ := TS_look hB hlt
      have hxl := hl (ws.getD k []) (by rw [List.getD_eq_getElem?_getD, List.getElem?_eq_getElem hlt]; exact List.getElem_mem hlt)
      rw [show ps.drop k = ps.getD k 0 :: ps.drop (k + 1) by rw [List.drop_eq_getElem_cons hlp, List.getD_eq_getElem?_getD, List.getElem?_eq_getElem hlp]; rfl, show ws.drop k = ws.getD k [] :: ws.drop (k + 1) by rw [List.drop_eq_getElem_cons hlt, List.getD_eq_getElem?_getD, List.getElem?_eq_getElem hlt]; rfl] at hZ
      have hbd := (tx ps)[k].toNat_lt
      have hin : ∀ x : Int, rw1 (ps.getD k 0) (ws.getD k []) = some x → k + 1 ≤ ws.length ∧ k + 1 = (L ++ [x]).length ∧ rwZ ps ws = (rwZ (ps.drop (k + 1)) (ws.drop (k + 1))).map ((L ++ [x]) ++ ·) := fun x hx => by
        exact ⟨hlt, by rw [List.length_append, hkl]; rfl, hZ.trans (rwZ_some hx L)⟩
      have hno : rw1 (ps.getD k 0) (ws.getD k []) = none → rwZ ps ws = none := fun hx => by
        rw [hZ, rwZ_none hx]; rfl
      clear hZ
      generalize ws.getD k [] = word at *
      generalize hpd : ps.getD k 0 = pd at *
      by_cases h1 : pd = 110
      · have hr := rw1_num (w := word) h1
        have hq : ((tx ps)[k].toNat : Int) = 110 := by rw [hg, h1]; rfl
        have hI := fun w ht => iParse_v word w hxl ht
        rcases hrd : rdV word with ⟨z, b⟩
        rw [hrd] at hI hr
        dsimp only at hI hr
        cases b
        · have hz := hno (hr.trans (if_neg (by simp)))
          rw [hz]
          (repeat' ((conv => whnf); first | refine go ?_ | (refine VSome.mk ?_; intro gQ hA'; first | subst hA' | cases hA' | (dsimp only at hA'; subst hA')) | refine And.intro ?_ ?_ | intro _ | (first | ((show VCall _ _ _ 139 _ _); refine VCall.grow _ (fun w1 m1 => hI w1 (ht.on m1)) ?_))))
          all_goals (conv => whnf)
          all_goals exact VRet.sel (none, 0) trivial rfl [] (by simp) rfl
        · have hy := hin z (hr.trans (if_pos rfl))
          (repeat' ((conv => whnf); first | refine go ?_ | (refine VSome.mk ?_; intro gQ hA'; first | subst hA' | cases hA' | (dsimp only at hA'; subst hA')) | refine And.intro ?_ ?_ | intro _ | (first | ((show VCall _ _ _ 139 _ _); refine VCall.grow _ (fun w1 m1 => hI w1 (ht.on m1)) ?_) | ((show VApp _ _ _ _ _ _ _); (apply VApp.pushAny; (focus ((repeat (first | exact At.here | apply At.there)); done)); (focus ((repeat (first | exact At.here | apply At.there)); done)); refine VAppPush.mk rfl rfl (by omega) (fun A' c' => ?_))))))
          all_goals (conv => whnf)
          all_goals (refine VNext.mk (k + 1, L ++ [z], _, _) hy (by show ws.length - (k + 1) < ws.length - k; omega) ?_ (OwnLe.mk [0] (by simp) (by dsimp only; rw [IL_app]; rfl)); ((conv => whnf); repeat (first | exact trivial | refine ⟨rfl, ?_⟩ | refine ⟨congrArg (Value.int .i64) (by first | omega | assumption | exact Eq.symm (by assumption)), ?_⟩)))
      · have hq1 : ¬ ((tx ps)[k].toNat : Int) = 110 := by rw [hg]; intro q; exact h1 (UInt8.toNat_inj.1 (by rw [show (110 : UInt8).toNat = 110 from rfl]; omega))
        by_cases h2 : pd = 115
        · have hq2 : ((tx ps)[k].toNat : Int) = 115 := by rw [hg, h2]; rfl
          have hr := rw1_side (w := word) h2
          by_cases ha : word = wLow
          · have hy := hin 0 (by rw [hr, if_pos ha])
            have ha2 : tx word = tx wLow := by rw [ha]
            have hx := fun g w hA => idx2_v g 2 wLow wHigh word w hA
            rw [show Lib.idxOfS [tx wLow, tx wHigh] (tx word) = 0 by rw [ha2]; exact idxOfS_fst _ _] at hx
            (repeat' ((conv => whnf); first | refine go ?_ | (refine VSome.mk ?_; intro gQ hA'; first | subst hA' | cases hA' | (dsimp only at hA'; subst hA')) | refine And.intro ?_ ?_ | intro _ | (first | ((show VCall _ _ _ 140 _ _); refine VCall.grow _ (fun w1 m1 => hx _ w1 (Sees.blk 1 rfl w1 m1)) ?_) | ((show VApp _ _ _ _ _ _ _); (apply VApp.pushAny; (focus ((repeat (first | exact At.here | apply At.there)); done)); (focus ((repeat (first | exact At.here | apply At.there)); done)); refine VAppPush.mk rfl rfl (by omega) (fun A' c' => ?_))))))
            all_goals (conv => whnf)
            all_goals (refine VNext.mk (k + 1, L ++ [0], _, _) hy (by show ws.length - (k + 1) < ws.length - k; omega) ?_ (OwnLe.mk [0] (by simp) (by dsimp only; rw [IL_app]; rfl)); ((conv => whnf); repeat (first | exact trivial | refine ⟨rfl, ?_⟩ | refine ⟨congrArg (Value.int .i64) (by first | omega | assumption | exact Eq.symm (by assumption)), ?_⟩)))
          · have ha2 : ¬ tx word = tx wLow := fun q => ha (tx_inj q)
            by_cases hb : word = wHigh
            · have hy := hin 1 (by rw [hr, if_neg ha, if_pos hb])
              have hb2 : tx word = tx wHigh := by rw [hb]
              have hx := fun g w hA => idx2_v g 2 wLow wHigh word w hA
              rw [show Lib.idxOfS [tx wLow, tx wHigh] (tx word) = 1 by rw [hb2]; exact idxOfS_snd (by decide)] at hx
              (repeat' ((conv => whnf); first | refine go ?_ | (refine VSome.mk ?_; intro gQ hA'; first | subst hA' | cases hA' | (dsimp only at hA'; subst hA')) | refine And.intro ?_ ?_ | intro _ | (first | ((show VCall _ _ _ 140 _ _); refine VCall.grow _ (fun w1 m1 => hx _ w1 (Sees.blk 1 rfl w1 m1)) ?_) | ((show VApp _ _ _ _ _ _ _); (apply VApp.pushAny; (focus ((repeat (first | exact At.here | apply At.there)); done)); (focus ((repeat (first | exact At.here | apply At.there)); done)); refine VAppPush.mk rfl rfl (by omega) (fun A' c' => ?_))))))
              all_goals (conv => whnf)
              all_goals (refine VNext.mk (k + 1, L ++ [1], _, _) hy (by show ws.length - (k + 1) < ws.length - k; omega) ?_ (OwnLe.mk [0] (by simp) (by dsimp only; rw [IL_app]; rfl)); ((conv => whnf); repeat (first | exact trivial | refine ⟨rfl, ?_⟩ | refine ⟨congrArg (Value.int .i64) (by first | omega | assumption | exact Eq.symm (by assumption)), ?_⟩)))
            · have hz := hno (by rw [hr, if_neg ha, if_neg hb])
              have hb2 : ¬ tx word = tx wHigh := fun q => hb (tx_inj q)
              have hx := fun g w hA => idx2_v g 2 wLow wHigh word w hA
              rw [hz]
              (repeat' ((conv => whnf); first | refine go ?_ | (refine VSome.mk ?_; intro gQ hA'; first | subst hA' | cases hA' | (dsimp only at hA'; subst hA')) | refine And.intro ?_ ?_ | intro _ | (first | ((show VCall _ _ _ 140 _ _); refine VCall.grow _ (fun w1 m1 => hx _ w1 (Sees.blk 1 rfl w1 m1)) ?_))))
              all_goals (conv => whnf)
              all_goals exact VRet.sel (none, 0) trivial rfl [] (by simp) rfl
        · have hq2 : ¬ ((tx ps)[k].toNat : Int) = 115 := by rw [hg]; intro q; exact h2 (UInt8.toNat_inj.1 (by rw [show (115 : UInt8).toNat = 115 from rfl]; omega))
          have hr := rw1_way (w := word) h1 h2
          by_cases ha : word = wDown
          · have hy := hin 0 (by rw [hr, if_pos ha])
            have ha2 : tx word = tx wDown := by rw [ha]
            have hx := fun g w hA => idx2_v g 2 wDown wUp word w hA
            rw [show Lib.idxOfS [tx wDown, tx wUp] (tx word) = 0 by rw [ha2]; exact idxOfS_fst _ _] at hx
            (repeat' ((conv => whnf); first | refine go ?_ | (refine VSome.mk ?_; intro gQ hA'; first | subst hA' | cases hA' | (dsimp only at hA'; subst hA')) | refine And.intro ?_ ?_ | intro _ | (first | ((show VCall _ _ _ 140 _ _); refine VCall.grow _ (fun w1 m1 => hx _ w1 (Sees.blk 1 rfl w1 m1)) ?_) | ((show VApp _ _ _ _ _ _ _); (apply VApp.pushAny; (focus ((repeat (first | exact At.here | apply At.there)); done)); (focus ((repeat (first | exact At.here | apply At.there)); done)); refine VAppPush.mk rfl rfl (by omega) (fun A' c' => ?_))))))
            all_goals (conv => whnf)
            all_goals (refine VNext.mk (k + 1, L ++ [0], _, _) hy (by show ws.length - (k + 1) < ws.length - k; omega) ?_ (OwnLe.mk [0] (by simp) (by dsimp only; rw [IL_app]; rfl)); ((conv => whnf); repeat (first | exact trivial | refine ⟨rfl, ?_⟩ | refine ⟨congrArg (Value.int .i64) (by first | omega | assumption | exact Eq.symm (by assumption)), ?_⟩)))
          · have ha2 : ¬ tx word = tx wDown := fun q => ha (tx_inj q)
            by_cases hb : word = wUp
            · have hy := hin 1 (by rw [hr, if_neg ha, if_pos hb])
              have hb2 : tx word = tx wUp := by rw [hb]
              have hx := fun g w hA => idx2_v g 2 wDown wUp word w hA
              rw [show Lib.idxOfS [tx wDown, tx wUp] (tx word) = 1 by rw [hb2]; exact idxOfS_snd (by decide)] at hx
              (repeat' ((conv => whnf); first | refine go ?_ | (refine VSome.mk ?_; intro gQ hA'; first | subst hA' | cases hA' | (dsimp only at hA'; subst hA')) | refine And.intro ?_ ?_ | intro _ | (first | ((show VCall _ _ _ 140 _ _); refine VCall.grow _ (fun w1 m1 => hx _ w1 (Sees.blk 1 rfl w1 m1)) ?_) | ((show VApp _ _ _ _ _ _ _); (apply VApp.pushAny; (focus ((repeat (first | exact At.here | apply At.there)); done)); (focus ((repeat (first | exact At.here | apply At.there)); done)); refine VAppPush.mk rfl rfl (by omega) (fun A' c' => ?_))))))
              all_goals (conv => whnf)
              all_goals (refine VNext.mk (k + 1, L ++ [1], _, _) hy (by show ws.length - (k + 1) < ws.length - k; omega) ?_ (OwnLe.mk [0] (by simp) (by dsimp only; rw [IL_app]; rfl)); ((conv => whnf); repeat (first | exact trivial | refine ⟨rfl, ?_⟩ | refine ⟨congrArg (Value.int .i64) (by first | omega | assumption | exact Eq.symm (by assumption)), ?_⟩)))
            · have hz := hno (by rw [hr, if_neg ha, if_neg hb])
              have hb2 : ¬ tx word = tx wUp := fun q => hb (tx_inj q)
              have hx := fun g w hA => idx2_v g 2 wDown wUp word w hA
              rw [hz]
              (repeat' ((conv => whnf); first | refine go ?_ | (refine VSome.mk ?_; intro gQ hA'; first | subst hA' | cases hA' | (dsimp only at hA'; subst hA')) | refine And.intro ?_ ?_ | intro _ | (first | ((show VCall _ _ _ 140 _ _); refine VCall.grow _ (fun w1 m1 => hx _ w1 (Sees.blk 1 rfl w1 m1)) ?_))))
              all_goals (conv => whnf)
              all_goals exact VRet.sel (none, 0) trivial rfl [] (by simp) rfl
    · obtain rfl : k = ws.length := by omega
      have hy : rwZ ps ws = some L := by
        rw [hZ, List.drop_eq_nil_of_le (by omega), List.drop_eq_nil_of_le (Nat.le_refl _)]
        show some (L ++ []) = _
        rw [List.append_nil]
      rw [hy, hkl]
      (repeat' ((conv => whnf); first | refine go ?_ | (refine VSome.mk ?_; intro gQ hA'; first | subst hA' | cases hA' | (dsimp only at hA'; subst hA')) | refine And.intro ?_ ?_ | intro _))
      (conv => whnf)
      exact VRet.sel (P, cp) trivial (by rw [rdO, ← hkl]) [0] (by simp) (by rw [rdN, ← hkl]; rfl)
  · have hz : rwZ ps ws = none := by
      cases e : rwZ ps ws with
      | none => rfl
      | some l => exact absurd (rwZ_len e).1 he
    rw [hz]
    (repeat' ((conv => whnf); first | refine go ?_ | (refine VSome.mk ?_; intro gQ hA'; first | subst hA' | cases hA' | (dsimp only at hA'; subst hA')) | refine And.intro ?_ ?_ | intro _))
    (conv => whnf)
    exact VRet.sel (none, 0) trivial rfl [] (by simp) rfl
end Go.Proofs.YtadjhkehfklmnaaGreatDoor
namespace Go.Proofs.YtadjhkehfklmnaaGreatDoor
set_option linter.unusedSimpArgs false
set_option linter.unusedVariables false
open Go.RowKit
set_option maxRecDepth 10000
theorem IL_lookM {w : World} {A : Option Addr} {l : List Int} {i : Nat} (h : Seen w A (IL l)) (hi : i < l.length) : ∃ b off, A = some ⟨b, off, none⟩ ∧ b < w.heap.size ∧ w.cell? ⟨b, off + mulS i 1, none⟩ = some (.int .i64 (l.getD i 0)) := by
  obtain ⟨b, off, e, hb, hc⟩ := IL_look h hi
  exact ⟨b, off, e, hb, by rw [mulS_eq, Nat.mul_one]; exact hc⟩
theorem join_tail_len (r : List Int) (h : ∀ x ∈ r, -999999 ≤ x ∧ x ≤ 999999) : (Lib.joinTail [32] (r.map Lib.itoa)).length ≤ 8 * r.length := by
  induction r with
  | nil => exact Nat.le_refl _
  | cons x r ih =>
    have h1 := (itoa_len (h x (by simp)).1 (h x (by simp)).2).2
    have h2 := ih fun y hy => h y (by simp [hy])
    have e : Lib.joinTail [32] ((x :: r).map Lib.itoa) = [32] ++ Lib.itoa x ++ Lib.joinTail [32] (r.map Lib.itoa) := by simp [Lib.joinTail]
    rw [e, List.length_append, List.length_append]
    show 1 + (Lib.itoa x).length + _ ≤ 8 * (r.length + 1)
    omega
theorem ltx_join {L : List Int} (h : 0 < L.length) : ltx L = Lib.join (L.map Lib.itoa) [32] := by
  cases L with
  | nil => simp at h
  | cons x r => rfl
theorem ltx_len {L : List Int} (h : ∀ x ∈ L, -999999 ≤ x ∧ x ≤ 999999) : (ltx L).length ≤ 8 * L.length + 4 := by
  cases L with
  | nil => decide
  | cons x r =>
    rw [ltx_cons, List.length_append, List.length_cons]
    have h1 := (itoa_len (h x (by simp)).1 (h x (by simp)).2).2
    have h2 := join_tail_len r fun y hy => h y (by simp [hy])
    omega
def ZS (L : List Int) : List Value := TS (L.map Lib.itoa)
theorem ZS_snoc (L : List Int) (x : Int) : ZS L ++ [.string (tx (Lib.itoa x))] = ZS (L ++ [x]) := by
  unfold ZS
  rw [List.map_append, TS_app]
  rfl
theorem join_v (A : Option Addr) (c : Nat) (L : List Int) (w : World) (h0 : 0 < L.length) (hl : L.length ≤ 1048576) (hv : ∀ x ∈ L, -999999 ≤ x ∧ x ≤ 999999) (hc : L.length ≤ c) (hA : Seen w A (ZS L)) : Calls Tryz.prog 179 #[.slice A L.length c, .string (tx [32])] w (Post (.string (tx (ltx L))) w) := by
  have hi : ∀ (j : Nat) x, (L.map fun n => tx (Lib.itoa n))[j]? = some x → ∃ b off, A = some ⟨b, off, none⟩ ∧ b < w.heap.size ∧ w.cell? ⟨b, off + j, none⟩ = some (.string x) := fun j x hx => hA j _ (by
    unfold ZS TS
    rw [List.getElem?_map] at hx
    rw [List.getElem?_map, List.getElem?_map]
    cases e : L[j]? with
    | none => rw [e] at hx; cases hx
    | some n => rw [e] at hx; cases hx; rfl)
  obtain ⟨b, off, rfl, hb, _⟩ := hi 0 (tx (Lib.itoa (L.getD 0 0))) (by
    rw [List.getElem?_map, List.getElem?_eq_getElem h0, List.getD_eq_getElem?_getD, List.getElem?_eq_getElem h0]; rfl)
  have hlen : (L.map fun n => tx (Lib.itoa n)).length = L.length := by simp
  have hd : ((L.map fun n => tx (Lib.itoa n)).map (·.data.toList)) = L.map Lib.itoa := by
    rw [List.map_map]
    congr 1
  have hjl := ltx_len hv
  rw [ltx_join h0] at hjl
  have h := Tryz.strings_Join b off c (L.map fun n => tx (Lib.itoa n)) (tx [32]) w (fun j x hx => by
    obtain ⟨b', off', e, _, h⟩ := hi j x hx
    cases e
    exact h) hb (by rw [hlen]; omega) (by rw [hlen]; exact hc) (by
    rw [hd]
    show (Lib.join (L.map Lib.itoa) [32]).length ≤ _
    omega)
  rw [hlen, hd] at h
  refine h.mono fun e w' ⟨he, hb⟩ => ⟨?_, hb⟩
  rw [he, ltx_join h0]
  rfl
set_option maxHeartbeats 4000000 in
theorem listText_v (B : Option Addr) (c : Nat) (L : List Int) (w : World) (hl : L.length ≤ 1048576) (hv : ∀ x ∈ L, -999999 ≤ x ∧ x ≤ 999999) (hB : Seen w B (IL L)) (ht : PTab w) :
    Calls Tryz.prog 144 #[.slice B L.length c] w (Post (.string (tx (ltx L))) w) := by
  refine post_of_vc ?_
  refine calls_of_vc tb_ok (args := [.slice B L.length c]) Tryz.func144 rfl ?_
  by_cases h0 : 0 < L.length
  · (repeat' ((conv => whnf); first | refine go ?_ | (refine VSome.mk ?_; intro gQ hA'; first | subst hA' | cases hA' | (dsimp only at hA'; subst hA')) | refine And.intro ?_ ?_ | intro _))
    (conv => whnf)
    refine VLoop.mk (ι := Nat × Option Addr × Nat) [3, 5, 12, 13, 14, 15, 16, 17, 18, 19, 20, 21] (fun (k, P, cp) => [(12, .int .i64 k), (3, .slice P k cp)]) (fun (k, P, cp) => [.row (.slice P k cp) 9 1 k (ZS (L.take k))]) (fun i => i.1 ≤ L.length ∧ i.1 ≤ i.2.2) (fun i => L.length - i.1) (0, _, 0) ⟨Nat.zero_le _, Nat.zero_le _⟩ ?_ (OwnLe.mk [0] (by simp) rfl) (fun i u hi => ?_)
    · ((conv => whnf); repeat (first | exact trivial | refine ⟨rfl, ?_⟩ | refine ⟨congrArg (Value.int .i64) (by first | omega | assumption | exact Eq.symm (by assumption)), ?_⟩))
    obtain ⟨k, P, cp⟩ := i
    obtain ⟨hk, hcp⟩ := hi
    replace hk : k ≤ L.length := hk
    replace hcp : k ≤ cp := hcp
    (conv => whnf)
    try dsimp only
    by_cases hlt : k < L.length
    · obtain ⟨b1, off1, rfl, hb1, hc1⟩ := IL_lookM hB hlt
      have hz := hv (L.getD k 0) (by rw [List.getD_eq_getElem?_getD, List.getElem?_eq_getElem hlt]; exact List.getElem_mem hlt)
      have ht1 : L.take (k + 1) = L.take k ++ [L.getD k 0] := by rw [List.take_add_one, List.getD_eq_getElem?_getD, List.getElem?_eq_getElem hlt]; rfl
      (repeat' ((conv => whnf); first | refine go ?_ | (refine VSome.mk ?_; intro gQ hA'; first | subst hA' | cases hA' | (dsimp only at hA'; subst hA')) | refine And.intro ?_ ?_ | intro _ | (first | ((show VCall _ _ _ 59 _ _); refine VCall.grow _ (fun w1 m1 => itoaZ_v _ w1 (by omega) (by omega) (ht.on m1)) ?_) | ((show VApp _ _ _ _ _ _ _); (apply VApp.pushAnyS; (focus ((repeat (first | exact At.here | apply At.there)); done)); (focus ((repeat (first | exact At.here | apply At.there)); done)); refine VAppPushS.mk rfl rfl (by omega) (by omega) (fun g' c' hcap => ?_))))))
      (conv => whnf)
      refine VNext.mk (k + 1, _, _) ⟨hlt, hcap⟩ (by show L.length - (k + 1) < L.length - k; omega) ?_ (OwnLe.mk [0] (by simp) (by dsimp only; rw [ht1, ← ZS_snoc]; rfl))
      ((conv => whnf); repeat (first | exact trivial | refine ⟨rfl, ?_⟩ | refine ⟨congrArg (Value.int .i64) (by first | omega | assumption | exact Eq.symm (by assumption)), ?_⟩))
    · obtain rfl : k = L.length := by omega
      have hJ := fun w => join_v P cp L w h0 hl hv hcp
      rw [List.take_length]
      (repeat' ((conv => whnf); first | refine go ?_ | (refine VSome.mk ?_; intro gQ hA'; first | subst hA' | cases hA' | (dsimp only at hA'; subst hA')) | refine And.intro ?_ ?_ | intro _ | (first | ((show VCall _ _ _ 179 _ _); refine VCall.grow _ (fun w1 m1 => hJ w1 (Sees.any m1 fndA)) ?_))))
      (conv => whnf); refine VRet.mk fun w' m => ?_
      exact ⟨rfl, m.keeps.below⟩
  · obtain rfl : L = [] := by cases L with
      | nil => rfl
      | cons x r => simp at h0
    (repeat' ((conv => whnf); first | refine go ?_ | (refine VSome.mk ?_; intro gQ hA'; first | subst hA' | cases hA' | (dsimp only at hA'; subst hA')) | refine And.intro ?_ ?_ | intro _))
    (conv => whnf); refine VRet.mk fun w' m => ?_
    exact ⟨rfl, m.keeps.below⟩
theorem isHigh_v (s : Lo) (w : World) (hs : s.safe) : Calls Tryz.prog 186 #[.agg s.cells.toArray] w (Post (.bool s.high) w) := by
  have hx := hs
  unfold Lo.safe at hx
  refine post_of_vc ?_
  refine calls_of_vc tb_ok (args := [.agg s.cells.toArray]) Tryz.func186 rfl ?_
  have e : s.high = decide (s.upper - s.level < s.level - s.lower) := rfl
  (repeat' ((conv => whnf); first | refine go ?_ | (refine VSome.mk ?_; intro gQ hA'; first | subst hA' | cases hA' | (dsimp only at hA'; subst hA')) | refine And.intro ?_ ?_ | intro _))
  all_goals ((conv => whnf); refine VRet.mk fun w' m => ?_)
  all_goals exact ⟨by first | rfl | (rw [e]; first | (rw [decide_eq_true (by assumption)]; done) | (rw [decide_eq_false (by assumption)]; done)), m.keeps.below⟩
theorem l28High_v (s : Lo) (w : World) (hs : s.safe) : Calls Tryz.prog 160 #[.agg s.cells.toArray] w (Post (.bool s.high) w) := by
  have hx := hs
  unfold Lo.safe at hx
  refine post_of_vc ?_
  refine calls_of_vc tb_ok (args := [.agg s.cells.toArray]) Tryz.func160 rfl ?_
  have e : s.high = decide (s.upper - s.level < s.level - s.lower) := rfl
  (repeat' ((conv => whnf); first | refine go ?_ | (refine VSome.mk ?_; intro gQ hA'; first | subst hA' | cases hA' | (dsimp only at hA'; subst hA')) | refine And.intro ?_ ?_ | intro _))
  all_goals ((conv => whnf); refine VRet.mk fun w' m => ?_)
  all_goals exact ⟨by first | rfl | (rw [e]; first | (rw [decide_eq_true (by assumption)]; done) | (rw [decide_eq_false (by assumption)]; done)), m.keeps.below⟩
theorem ltx_one {L : List Int} (h : 0 < L.length) : ltx (L.take 1) = Lib.itoa (L.getD 0 0) := by
  cases L with
  | nil => simp at h
  | cons x r =>
    show ltx [x] = _
    rw [ltx_cons]
    show Lib.itoa x ++ [] = Lib.itoa x
    exact List.append_nil _
theorem ltx_suc {L : List Int} {k : Nat} (h : 1 ≤ k) (hk : k < L.length) : ltx (L.take (k + 1)) = ltx (L.take k) ++ [32] ++ Lib.itoa (L.getD k 0) := by
  cases L with
  | nil => simp at hk
  | cons x r =>
    obtain ⟨j, rfl⟩ : ∃ j, k = j + 1 := ⟨k - 1, by omega⟩
    have hj : j < r.length := by simpa using hk
    rw [List.take_succ_cons, List.take_succ_cons, ltx_cons, ltx_cons, List.map_take, List.map_take]
    rw [Lib.joinTail_take_succ [32] (r.map Lib.itoa) j (Lib.itoa (r.getD j 0)) (by rw [List.getElem?_map, List.getElem?_eq_getElem hj, List.getD_eq_getElem?_getD, List.getElem?_eq_getElem hj]; rfl)]
    simp
set_option maxHeartbeats 4000000 in
theorem l28List_v (B : Option Addr) (c : Nat) (L : List Int) (w : World) (hl : L.length ≤ 1048576) (hv : ∀ x ∈ L, -999999 ≤ x ∧ x ≤ 999999) (hB : Seen w B (IL L)) :
    Calls Tryz.prog 155 #[.slice B L.length c] w (Post (.string (tx (ltx L))) w) := by
  refine post_of_vc ?_
  refine calls_of_vc tb_ok (args := [.slice B L.length c]) Tryz.func155 rfl ?_
  by_cases h0 : 0 < L.length
  · obtain ⟨b0, off0, rfl, hb0, hc0⟩ := IL_lookM hB h0
    have hz0 := hv (L.getD 0 0) (by rw [List.getD_eq_getElem?_getD, List.getElem?_eq_getElem h0]; exact List.getElem_mem h0)
    (repeat' ((conv => whnf); first | refine go ?_ | (refine VSome.mk ?_; intro gQ hA'; first | subst hA' | cases hA' | (dsimp only at hA'; subst hA')) | refine And.intro ?_ ?_ | intro _ | (first | ((show VCall _ _ _ 61 _ _); refine VCall.grow _ (fun w1 m1 => l1NumZ_v _ w1 (by omega) (by omega)) ?_))))
    (conv => whnf)
    refine VLoop.mk (ι := Nat × List UInt8) [3, 4, 12, 13, 14, 15, 16, 17, 18, 19, 20, 21, 22, 23, 24, 25] (fun (k, s) => [(4, .int .i64 k), (3, .string (tx s))]) (fun _ => []) (fun i => 1 ≤ i.1 ∧ i.1 ≤ L.length ∧ i.2 = ltx (L.take i.1)) (fun i => L.length - i.1) (1, Lib.itoa (L.getD 0 0)) ⟨Nat.le_refl _, h0, (ltx_one h0).symm⟩ ?_ (OwnLe.mk [] (by simp) rfl) (fun i u hi => ?_)
    · ((conv => whnf); repeat (first | exact trivial | refine ⟨rfl, ?_⟩ | refine ⟨congrArg (Value.int .i64) (by first | omega | assumption | exact Eq.symm (by assumption)), ?_⟩))
    obtain ⟨k, s⟩ := i
    obtain ⟨hk1, hk, hs⟩ := hi
    replace hk1 : 1 ≤ k := hk1
    replace hk : k ≤ L.length := hk
    replace hs : s = ltx (L.take k) := hs
    (conv => whnf)
    try dsimp only
    by_cases hlt : k < L.length
    · obtain ⟨b1, off1, e1, hb1, hc1⟩ := IL_lookM hB hlt
      cases e1
      have hz := hv (L.getD k 0) (by rw [List.getD_eq_getElem?_getD, List.getElem?_eq_getElem hlt]; exact List.getElem_mem hlt)
      have hle := ltx_len (L := L.take k) fun x hx => hv x (List.mem_of_mem_take hx)
      rw [List.length_take, ← hs] at hle
      have hi := (itoa_len hz.1 hz.2).2
      have hn := ltx_suc hk1 hlt
      rw [← hs] at hn
      (repeat' ((conv => whnf); first | refine go ?_ | (refine VSome.mk ?_; intro gQ hA'; first | subst hA' | cases hA' | (dsimp only at hA'; subst hA')) | refine And.intro ?_ ?_ | intro _ | (first | ((show VCall _ _ _ 61 _ _); refine VCall.grow _ (fun w1 m1 => l1NumZ_v _ w1 (by omega) (by omega)) ?_) | ((show VCat _ _ _); refine VCat.of (by simp only [List.length_append, List.length_cons, List.length_nil]; omega) ?_))))
      all_goals (conv => whnf)
      refine VNext.mk (k + 1, s ++ [32] ++ Lib.itoa (L.getD k 0)) ⟨by show 1 ≤ k + 1; omega, hlt, hn.symm⟩ (by show L.length - (k + 1) < L.length - k; omega) ?_ (OwnLe.mk [] (by simp) rfl)
      ((conv => whnf); repeat (first | exact trivial | refine ⟨rfl, ?_⟩ | refine ⟨congrArg (Value.int .i64) (by first | omega | assumption | exact Eq.symm (by assumption)), ?_⟩))
    · obtain rfl : k = L.length := by omega
      rw [List.take_length] at hs
      rw [← hs]
      (repeat' ((conv => whnf); first | refine go ?_ | (refine VSome.mk ?_; intro gQ hA'; first | subst hA' | cases hA' | (dsimp only at hA'; subst hA')) | refine And.intro ?_ ?_ | intro _))
      (conv => whnf); refine VRet.mk fun w' m => ?_
      exact ⟨rfl, m.keeps.below⟩
  · obtain rfl : L = [] := by cases L with
      | nil => rfl
      | cons x r => simp at h0
    (repeat' ((conv => whnf); first | refine go ?_ | (refine VSome.mk ?_; intro gQ hA'; first | subst hA' | cases hA' | (dsimp only at hA'; subst hA')) | refine And.intro ?_ ?_ | intro _))
    (conv => whnf); refine VRet.mk fun w' m => ?_
    exact ⟨rfl, m.keeps.below⟩
end Go.Proofs.YtadjhkehfklmnaaGreatDoor
namespace Go.Proofs.YtadjhkehfklmnaaGreatDoor
set_option linter.unusedSimpArgs false
set_option linter.unusedVariables false
open Go.RowKit
set_option maxRecDepth 10000
def numZ (ws : List (List UInt8)) : Option (List Int) := rwZ (List.replicate ws.length 110) ws
theorem sParse_v (l : List UInt8) (w : World) (hl : l.length ≤ 1048576) : Calls Tryz.prog 157 #[.string (tx l)] w (Post (.tuple #[.int .i64 (rdV l).1, .bool (rdV l).2]) w) := by
  have hI := fun w => l1Read_v l w hl
  rcases hrd : rdV l with ⟨z, b⟩
  rw [hrd] at hI
  refine post_of_vc ?_
  refine calls_of_vc tb_ok (args := [.string (tx l)]) Tryz.func157 rfl ?_
  cases b
  · (repeat' ((conv => whnf); first | refine go ?_ | (refine VSome.mk ?_; intro gQ hA'; first | subst hA' | cases hA' | (dsimp only at hA'; subst hA')) | refine And.intro ?_ ?_ | intro _ | (first | ((show VCall _ _ _ 191 _ _); refine VCall.grow _ (fun w1 m1 => hI w1) ?_))))
    all_goals ((conv => whnf); refine VRet.mk fun w' m => ?_)
    all_goals exact ⟨rfl, m.keeps.below⟩
  · (repeat' ((conv => whnf); first | refine go ?_ | (refine VSome.mk ?_; intro gQ hA'; first | subst hA' | cases hA' | (dsimp only at hA'; subst hA')) | refine And.intro ?_ ?_ | intro _ | (first | ((show VCall _ _ _ 191 _ _); refine VCall.grow _ (fun w1 m1 => hI w1) ?_))))
    all_goals ((conv => whnf); refine VRet.mk fun w' m => ?_)
    all_goals exact ⟨rfl, m.keeps.below⟩
def nuO (P : Option Addr) (cp : Nat) : Option (List Int) → Value
  | some L => .tuple #[.slice P L.length cp, .bool true]
  | none => .tuple #[.slice P 0 cp, .bool false]
def nuN (P : Option Addr) (cp : Nat) : Option (List Int) → List Own
  | some L => [.row (.slice P L.length cp) 3 1 L.length (IL L)]
  | none => [.row (.slice P 0 cp) 3 1 0 []]
theorem rwZ_rep_cons (ws : List (List UInt8)) (w : List UInt8) : rwZ (List.replicate (w :: ws).length 110) (w :: ws) = rwZ (110 :: List.replicate ws.length 110) (w :: ws) := rfl
set_option maxHeartbeats 8000000 in
theorem numbers_v (B : Option Addr) (c : Nat) (ws : List (List UInt8)) (w : World) (hn : ws.length ≤ 1048577) (hl : ∀ x ∈ ws, x.length ≤ 1048576) (hB : Seen w B (TS ws)) :
    Calls Tryz.prog 121 #[.slice B ws.length c] w fun e w' => ∃ v, e = .returned v ∧ RetV (ι := Option Addr × Nat) (fun _ => True) (fun (P, cp) => nuO P cp (numZ ws)) (fun (P, cp) => nuN P cp (numZ ws)) (Base.of w) v w' := by
  refine calls_of_vc tb_ok (args := [.slice B ws.length c]) Tryz.func121 rfl ?_
  (repeat' ((conv => whnf); first | refine go ?_ | (refine VSome.mk ?_; intro gQ hA'; first | subst hA' | cases hA' | (dsimp only at hA'; subst hA')) | refine And.intro ?_ ?_ | intro _))
  (conv => whnf)
  refine VLoop.mk (ι := Nat × List Int × Option Addr × Nat) [2, 3, 4, 5, 6, 7, 9, 10, 11, 12, 13, 14, 15, 16, 17, 18, 19, 20, 21, 22, 23, 24, 25, 26, 27, 28, 29] (fun (k, L, P, cp) => [(5, .int .i64 k), (4, .slice P k cp)]) (fun (k, L, P, cp) => [.row (.slice P k cp) 3 1 k (IL L)]) (fun i => i.1 ≤ ws.length ∧ i.1 = i.2.1.length ∧ numZ ws = (numZ (ws.drop i.1)).map (i.2.1 ++ ·)) (fun i => ws.length - i.1) (0, [], _, _) ⟨Nat.zero_le _, rfl, by simp⟩ ?_ (OwnLe.mk [0] (by simp) rfl) (fun i u hi => ?_)
  · ((conv => whnf); repeat (first | exact trivial | refine ⟨rfl, ?_⟩ | refine ⟨congrArg (Value.int .i64) (by first | omega | assumption | exact Eq.symm (by assumption)), ?_⟩))
  obtain ⟨k, L, P, cp⟩ := i
  obtain ⟨hk, hkl, hZ⟩ := hi
  replace hk : k ≤ ws.length := hk
  replace hkl : k = L.length := hkl
  replace hZ : numZ ws = (numZ (ws.drop k)).map (L ++ ·) := hZ
  (conv => whnf)
  try dsimp only
  by_cases hlt : k < ws.length
  · obtain ⟨b1, off1, rfl, hb1, hc1⟩ := TS_look hB hlt
    have hxl := hl (ws.getD k []) (by rw [List.getD_eq_getElem?_getD, List.getElem?_eq_getElem hlt]; exact List.getElem_mem hlt)
    rw [show ws.drop k = ws.getD k [] :: ws.drop (k + 1) by rw [List.drop_eq_getElem_cons hlt, List.getD_eq_getElem?_getD, List.getElem?_eq_getElem hlt]; rfl] at hZ
    unfold numZ at hZ
    rw [rwZ_rep_cons] at hZ
    have hin : ∀ x : Int, rw1 110 (ws.getD k []) = some x → k + 1 ≤ ws.length ∧ k + 1 = (L ++ [x]).length ∧ numZ ws = (numZ (ws.drop (k + 1))).map ((L ++ [x]) ++ ·) := fun x hx => by
      exact ⟨hlt, by rw [List.length_append, hkl]; rfl, hZ.trans (rwZ_some hx L)⟩
    have hno : rw1 110 (ws.getD k []) = none → numZ ws = none := fun hx => by
      unfold numZ
      rw [hZ, rwZ_none hx]; rfl
    clear hZ
    generalize ws.getD k [] = word at *
    have hr := rw1_num (w := word) (p := 110) rfl
    have hI := fun w => sParse_v word w hxl
    rcases hrd : rdV word with ⟨z, b⟩
    rw [hrd] at hI hr
    dsimp only at hI hr
    cases b
    · have hz := hno (hr.trans (if_neg (by simp)))
      rw [hz]
      (repeat' ((conv => whnf); first | refine go ?_ | (refine VSome.mk ?_; intro gQ hA'; first | subst hA' | cases hA' | (dsimp only at hA'; subst hA')) | refine And.intro ?_ ?_ | intro _ | (first | ((show VCall _ _ _ 157 _ _); refine VCall.grow _ (fun w1 m1 => hI w1) ?_))))
      all_goals (conv => whnf)
      all_goals exact VRet.sel (_, _) trivial rfl [1] (by simp) rfl
    · have hy := hin z (hr.trans (if_pos rfl))
      (repeat' ((conv => whnf); first | refine go ?_ | (refine VSome.mk ?_; intro gQ hA'; first | subst hA' | cases hA' | (dsimp only at hA'; subst hA')) | refine And.intro ?_ ?_ | intro _ | (first | ((show VCall _ _ _ 157 _ _); refine VCall.grow _ (fun w1 m1 => hI w1) ?_) | ((show VApp _ _ _ _ _ _ _); (apply VApp.pushAny; (focus ((repeat (first | exact At.here | apply At.there)); done)); (focus ((repeat (first | exact At.here | apply At.there)); done)); refine VAppPush.mk rfl rfl (by omega) (fun A' c' => ?_))))))
      all_goals (conv => whnf)
      all_goals (refine VNext.mk (k + 1, L ++ [z], _, _) hy (by show ws.length - (k + 1) < ws.length - k; omega) ?_ (OwnLe.mk [0] (by simp) (by dsimp only; rw [IL_app]; rfl)); ((conv => whnf); repeat (first | exact trivial | refine ⟨rfl, ?_⟩ | refine ⟨congrArg (Value.int .i64) (by first | omega | assumption | exact Eq.symm (by assumption)), ?_⟩)))
  · obtain rfl : k = ws.length := by omega
    have hy : numZ ws = some L := by
      rw [hZ, List.drop_eq_nil_of_le (Nat.le_refl _)]
      show some (L ++ []) = _
      rw [List.append_nil]
    rw [hy, hkl]
    (repeat' ((conv => whnf); first | refine go ?_ | (refine VSome.mk ?_; intro gQ hA'; first | subst hA' | cases hA' | (dsimp only at hA'; subst hA')) | refine And.intro ?_ ?_ | intro _))
    (conv => whnf)
    exact VRet.sel (P, cp) trivial (by rw [nuO, ← hkl]) [0] (by simp) (by rw [nuN, ← hkl]; rfl)
end Go.Proofs.YtadjhkehfklmnaaGreatDoor
namespace Go.Proofs.YtadjhkehfklmnaaGreatDoor
set_option linter.unusedSimpArgs false
set_option linter.unusedVariables false
open Go.RowKit
set_option maxRecDepth 10000
def okO (n : Nat) (f : Nat → Aw) (p : List Nat) (k : Nat) : Prop := nth p k < n ∧ nth p k ∉ p.take k ∧ ∀ j, j < k → (f (nth p j)).up = (f (nth p k)).up → ¬ bef (f (nth p k)) (f (nth p j))
theorem isO_at {n : Nat} {f : Nat → Aw} {p : List Nat} : isO n f p ↔ p.length = n ∧ ∀ k, k < p.length → okO n f p k := by
  constructor
  · rintro ⟨hl, h⟩
    refine ⟨hl, fun k hk => ?_⟩
    have e : p = p.take k ++ p[k] :: p.drop (k + 1) := by rw [← List.drop_eq_getElem_cons hk, List.take_append_drop]
    have en : nth p k = p[k] := by unfold nth; rw [List.getD_eq_getElem?_getD, List.getElem?_eq_getElem hk]; rfl
    obtain ⟨h1, h2, h3⟩ := h _ _ _ e
    unfold okO
    rw [en]
    refine ⟨h1, h2, fun j hj hu => h3 _ ?_ hu⟩
    exact mem_nth.2 ⟨j, by rw [List.length_take]; omega, nth_take hj⟩
  · rintro ⟨hl, h⟩
    refine ⟨hl, fun a x b e => ?_⟩
    have hk : a.length < p.length := by rw [e]; simp
    have en : nth p a.length = x := by
      unfold nth
      rw [e, List.getD_eq_getElem?_getD, List.getElem?_append_right (Nat.le_refl _), Nat.sub_self]
      rfl
    have et : p.take a.length = a := by rw [e]; exact List.take_left' rfl
    obtain ⟨h1, h2, h3⟩ := h a.length hk
    rw [en] at h1 h2 h3
    rw [et] at h2
    refine ⟨h1, h2, fun y hy hu => ?_⟩
    obtain ⟨j, hj, ej⟩ := mem_nth.1 hy
    have : nth p j = y := by rw [← ej, ← nth_take (p := p) hj, et]
    rw [← this] at hu ⊢
    exact h3 j hj hu
theorem isO_not {n : Nat} {f : Nat → Aw} {p : List Nat} {k : Nat} (hk : k < p.length) (h : ¬ okO n f p k) : ¬ isO n f p := fun g => h ((isO_at.1 g).2 k hk)
set_option maxHeartbeats 8000000 in
theorem isOrder_v (A B : Option Addr) (n c e : Nat) (f : Nat → Aw) (p : List Nat) (w : World) (hg : aGood n f) (hl : p.length ≤ 1048576) (he : p.length ≤ e) (hA : Seen w A (AwS n f)) (hB : Seen w B (NL p)) :
    Calls Tryz.prog 223 #[.slice A n c, .slice B p.length e] w (Post (.bool (tr (isO n f p))) w) := by
  have hn := hg.2
  have hG := fun A c w hA => iArr_v A n c f w (by omega) hA
  rw [tr_yes hg] at hG
  refine post_of_vc ?_
  refine calls_of_vc tb_ok (args := [.slice A n c, .slice B p.length e]) Tryz.func223 rfl ?_
  by_cases hln : p.length = n
  · (repeat' ((conv => whnf); first | refine go ?_ | (refine VSome.mk ?_; intro gQ hA'; first | subst hA' | cases hA' | (dsimp only at hA'; subst hA')) | refine And.intro ?_ ?_ | intro _ | (first | ((show VCall _ _ _ 88 _ _); refine VCall.grow _ (fun w1 m1 => hG _ _ w1 seenA) ?_))))
    (conv => whnf)
    refine VLoop.mk (ι := Nat) [4, 5, 6, 8, 21, 22, 23, 24, 25, 26, 27, 28, 29, 30, 31, 32, 33, 34, 35, 36, 37, 38, 39, 40, 41, 42, 43, 44, 45, 46, 47, 48, 49, 50, 51, 52, 53, 54, 55, 56, 57, 58, 59, 60, 61, 62, 63, 64, 65, 66, 67, 68, 69, 70, 71] (fun k => [(21, .int .i64 k)]) (fun _ => []) (fun k => k ≤ p.length ∧ ∀ i, i < k → okO n f p i) (fun k => p.length - k) 0 ⟨Nat.zero_le _, fun i h => absurd h (by omega)⟩ ?_ (OwnLe.mk [] (by simp) rfl) (fun k u hk => ?_)
    · ((conv => whnf); repeat (first | exact trivial | refine ⟨rfl, ?_⟩ | refine ⟨congrArg (Value.int .i64) (by first | omega | assumption | exact Eq.symm (by assumption)), ?_⟩))
    obtain ⟨hk, hok⟩ := hk
    by_cases hlt : k < p.length
    · obtain ⟨b2, off2, rfl, hb2, hc2⟩ := NL_look hB hlt
      have ht : Seen w (some ⟨b2, off2, none⟩) (NL (p.take k)) := by rw [← NL_take]; exact hB.head k
      have htl : (p.take k).length = k := by rw [List.length_take]; omega
      have hC := fun w hB => containsN_v (some ⟨b2, off2, none⟩) e (p.take k) (nth p k) w (by omega) hB
      rw [htl] at hC
      by_cases hin : nth p k < n
      · obtain ⟨b1, off1, rfl, hb1, hr1, _, hu1, _⟩ := AwS.look hA hin
        by_cases hmem : nth p k ∈ p.take k
        · rw [tr_yes hmem] at hC
          (repeat' ((conv => whnf); first | refine go ?_ | (refine VSome.mk ?_; intro gQ hA'; first | subst hA' | cases hA' | (dsimp only at hA'; subst hA')) | refine And.intro ?_ ?_ | intro _ | (first | ((show VCall _ _ _ 80 _ _); refine VCall.test _ (fun w1 _ => inside_v _ _ _ w1) ?_) | ((show VCall _ _ _ 221 _ _); refine VCall.grow _ (fun w1 m1 => hC w1 (Sees.old ht w1 m1)) ?_) | ((show VCut _ _ _ _ _ _ _); refine VCut.head k rfl (by omega) ?_))))
          all_goals ((conv => whnf); refine VRet.mk fun w' m => ?_)
          all_goals refine ⟨congrArg Value.bool ?_, m.keeps.below⟩
          all_goals (rw [tr_no (isO_not hlt (fun h => h.2.1 hmem))])
        · rw [tr_no hmem] at hC
          (repeat' ((conv => whnf); first | refine go ?_ | (refine VSome.mk ?_; intro gQ hA'; first | subst hA' | cases hA' | (dsimp only at hA'; subst hA')) | refine And.intro ?_ ?_ | intro _ | (first | ((show VCall _ _ _ 80 _ _); refine VCall.test _ (fun w1 _ => inside_v _ _ _ w1) ?_) | ((show VCall _ _ _ 221 _ _); refine VCall.grow _ (fun w1 m1 => hC w1 (Sees.old ht w1 m1)) ?_) | ((show VCut _ _ _ _ _ _ _); refine VCut.head k rfl (by omega) ?_))))
          (conv => whnf)
          refine VLoop.mk (ι := Nat) [4, 8, 43, 44, 45, 46, 47, 48, 49, 50, 51, 52, 53, 54, 55, 56, 57, 58, 59, 60, 61, 62, 63, 64, 65, 66, 67, 68, 69, 70] (fun j => [(43, .int .i64 j)]) (fun _ => []) (fun j => j ≤ k ∧ ∀ i, i < j → (f (nth p i)).up = (f (nth p k)).up → ¬ bef (f (nth p k)) (f (nth p i))) (fun j => k - j) 0 ⟨Nat.zero_le _, fun i h => absurd h (by omega)⟩ ?_ (OwnLe.mk [] (by simp) rfl) (fun j u hj => ?_)
          · ((conv => whnf); repeat (first | exact trivial | refine ⟨rfl, ?_⟩ | refine ⟨congrArg (Value.int .i64) (by first | omega | assumption | exact Eq.symm (by assumption)), ?_⟩))
          obtain ⟨hj, hno⟩ := hj
          by_cases hjl : j < k
          · obtain ⟨b3, off3, e3, hb3, hc3⟩ := NL_look hB (show j < p.length by omega)
            cases e3
            have hjn := (hok j hjl).1
            obtain ⟨b4, off4, e4, hb4, hr4, _, hu4, _⟩ := AwS.look hA hjn
            cases e4
            have hcm := cmA_in (f (nth p j)) (f (nth p k))
            have hCm := fun w => cmpArr_v (f (nth p j)) (f (nth p k)) w
            generalize cmA (f (nth p j)) (f (nth p k)) = cv at *
            (repeat' ((conv => whnf); first | refine go ?_ | (refine VSome.mk ?_; intro gQ hA'; first | subst hA' | cases hA' | (dsimp only at hA'; subst hA')) | refine And.intro ?_ ?_ | intro _ | (first | ((show VCall _ _ _ 243 _ _); refine VCall.grow _ (fun w1 _ => hCm w1) ?_) | ((show VDraw _ _ _ _ _ _); refine VDraw.mk (.take 0 (.take 1 (.take 2 (.take 3 (.take 4 (.take 5 (.take 6 (.take 7 (.take 8 (.take 9 (.take 10 (.take 11 (.take 12 (.take 13 (.take 14 (.take 15 (.take 16 (.take 17 (.take 18 (.take 19 (.br 20 (.take 21 (.take 22 .done)) .done))))))))))))))))))))) [] (by kernel_rfl) (by kernel_rfl) ?_))))
            (all_goals (conv => whnf))
            all_goals first | ((show VNext _ _ _ _ _ _ _ _ _); (refine VNext.mk (j + 1) ⟨hjl, upto_succ hno (fun hu hb => ?_)⟩ (by omega) ?_ (OwnLe.mk [] (by simp) rfl); rotate_left; (((conv => whnf); repeat (first | exact trivial | refine ⟨rfl, ?_⟩ | refine ⟨congrArg (Value.int .i64) (by first | omega | assumption | exact Eq.symm (by assumption)), ?_⟩))))) | ((show VRet _ _ _ _); (refine VRet.mk fun w' m => ⟨congrArg Value.bool ?_, m.keeps.below⟩; rw [tr_no (isO_not hlt (fun h => h.2.2 j hjl (by first | (simp_all; done) | assumption) (by rcases hcm with h5 | h5 | h5 <;> first | exact h5.1 | omega)))]))
            all_goals first | (rcases hcm with h5 | h5 | h5; exact absurd hb (bef_not h5.1); omega; exact absurd hb h5.2.1) | (simp_all; done)
          · obtain rfl : j = k := by omega
            (repeat' ((conv => whnf); first | refine go ?_ | (refine VSome.mk ?_; intro gQ hA'; first | subst hA' | cases hA' | (dsimp only at hA'; subst hA')) | refine And.intro ?_ ?_ | intro _))
            (all_goals (conv => whnf))
            all_goals first | ((show VNext _ _ _ _ _ _ _ _ _); (refine VNext.mk (j + 1) ⟨hlt, upto_succ hok ⟨hin, hmem, hno⟩⟩ (by omega) ?_ (OwnLe.mk [] (by simp) rfl); ((conv => whnf); repeat (first | exact trivial | refine ⟨rfl, ?_⟩ | refine ⟨congrArg (Value.int .i64) (by first | omega | assumption | exact Eq.symm (by assumption)), ?_⟩)))) | ((show VRet _ _ _ _); skip)
      · (repeat' ((conv => whnf); first | refine go ?_ | (refine VSome.mk ?_; intro gQ hA'; first | subst hA' | cases hA' | (dsimp only at hA'; subst hA')) | refine And.intro ?_ ?_ | intro _ | (first | ((show VCall _ _ _ 80 _ _); refine VCall.test _ (fun w1 _ => inside_v _ _ _ w1) ?_) | ((show VCut _ _ _ _ _ _ _); refine VCut.head k rfl (by omega) ?_))))
        all_goals first | (exfalso; omega; done) | skip
        all_goals ((conv => whnf); refine VRet.mk fun w' m => ?_)
        all_goals refine ⟨congrArg Value.bool ?_, m.keeps.below⟩
        all_goals (rw [tr_no (isO_not hlt (fun h => hin h.1))])
    · obtain rfl : k = p.length := by omega
      (repeat' ((conv => whnf); first | refine go ?_ | (refine VSome.mk ?_; intro gQ hA'; first | subst hA' | cases hA' | (dsimp only at hA'; subst hA')) | refine And.intro ?_ ?_ | intro _))
      (conv => whnf); refine VRet.mk fun w' m => ?_
      refine ⟨congrArg Value.bool ?_, m.keeps.below⟩
      rw [tr_yes (isO_at.2 ⟨hln, hok⟩)]
  · (repeat' ((conv => whnf); first | refine go ?_ | (refine VSome.mk ?_; intro gQ hA'; first | subst hA' | cases hA' | (dsimp only at hA'; subst hA')) | refine And.intro ?_ ?_ | intro _ | (first | ((show VCall _ _ _ 88 _ _); refine VCall.grow _ (fun w1 m1 => hG _ _ w1 seenA) ?_))))
    all_goals first | (exfalso; omega; done) | skip
    all_goals ((conv => whnf); refine VRet.mk fun w' m => ?_)
    all_goals refine ⟨congrArg Value.bool ?_, m.keeps.below⟩
    all_goals (rw [tr_no (fun h => hln h.1)])
set_option maxHeartbeats 8000000 in
theorem next8_v (A B : Option Addr) (n c e : Nat) (f : Nat → Aw) (p : List Nat) (i : Nat) (w : World) (hn : n ≤ 1048576) (hi : i < n) (hl : p.length ≤ 1048576) (hA : Seen w A (AwS n f)) (hB : Seen w B (NL p)) :
    Calls Tryz.prog 226 #[.slice A n c, .slice B p.length e, .int .i64 i] w (Post (.bool (tr (nxt n f p i))) w) := by
  have hH := fun w hB => has_v B e p i w hl hB
  refine post_of_vc ?_
  refine calls_of_vc tb_ok (args := [.slice A n c, .slice B p.length e, .int .i64 i]) Tryz.func226 rfl ?_
  by_cases hmem : i ∈ p
  · rw [tr_yes hmem] at hH
    (repeat' ((conv => whnf); first | refine go ?_ | (refine VSome.mk ?_; intro gQ hA'; first | subst hA' | cases hA' | (dsimp only at hA'; subst hA')) | refine And.intro ?_ ?_ | intro _ | (first | ((show VCall _ _ _ 246 _ _); refine VCall.grow _ (fun w1 m1 => hH w1 seenA) ?_))))
    (conv => whnf); refine VRet.mk fun w' m => ?_
    refine ⟨congrArg Value.bool ?_, m.keeps.below⟩
    rw [tr_no (fun h => h.1 hmem)]
  · rw [tr_no hmem] at hH
    (repeat' ((conv => whnf); first | refine go ?_ | (refine VSome.mk ?_; intro gQ hA'; first | subst hA' | cases hA' | (dsimp only at hA'; subst hA')) | refine And.intro ?_ ?_ | intro _ | (first | ((show VCall _ _ _ 246 _ _); refine VCall.grow _ (fun w1 m1 => hH w1 seenA) ?_))))
    (conv => whnf)
    refine VLoop.mk (ι := Nat) [6, 7, 11, 12, 13, 14, 15, 16, 17, 18, 19, 20, 21, 22, 23, 24, 25, 26, 27, 28, 29, 30, 31, 32, 33, 34, 35, 36, 37, 38, 39, 40, 41, 42, 43, 44, 45, 46, 47, 48, 49] (fun k => [(7, .int .i64 k)]) (fun _ => []) (fun k => k ≤ n ∧ ∀ j, j < k → j ≠ i → (f j).up = (f i).up → bef (f j) (f i) → j ∈ p) (fun k => n - k) 0 ⟨Nat.zero_le _, fun j h => absurd h (by omega)⟩ ?_ (OwnLe.mk [] (by simp) rfl) (fun k u hk => ?_)
    · ((conv => whnf); repeat (first | exact trivial | refine ⟨rfl, ?_⟩ | refine ⟨congrArg (Value.int .i64) (by first | omega | assumption | exact Eq.symm (by assumption)), ?_⟩))
    obtain ⟨hk, hno⟩ := hk
    obtain ⟨b1, off1, rfl, hb1, hr1, _, hu1, _⟩ := AwS.look hA hi
    by_cases hlt : k < n
    · obtain ⟨b4, off4, e4, hb4, hr4, _, hu4, _⟩ := AwS.look hA hlt
      cases e4
      (repeat' ((conv => whnf); first | refine go ?_ | (refine VSome.mk ?_; intro gQ hA'; first | subst hA' | cases hA' | (dsimp only at hA'; subst hA')) | refine And.intro ?_ ?_ | intro _ | (first | ((show VCall _ _ _ 247 _ _); refine VCall.test _ (fun w1 _ => before_v (f k) (f i) w1) ?_) | ((show VCall _ _ _ 246 _ _); refine VCall.test _ (fun w1 m1 => has_v B e p k w1 hl seenA) ?_) | ((show VDraw _ _ _ _ _ _); refine VDraw.mk (.take 0 (.take 1 (.take 2 (.take 3 (.take 4 (.take 5 (.take 6 (.take 7 (.take 8 (.take 9 (.take 10 (.take 11 (.take 12 (.take 13 (.take 14 (.take 15 (.take 16 (.take 17 (.take 18 (.take 19 (.take 20 (.take 21 (.take 22 (.take 23 (.take 24 (.br 25 (.take 26 (.take 27 (.take 28 (.take 29 (.br 30 (.take 31 (.take 32 .done)) .done))))) .done)))))))))))))))))))))))))) [] (by kernel_rfl) (by kernel_rfl) ?_))))
      (all_goals (conv => whnf))
      all_goals first | ((show VNext _ _ _ _ _ _ _ _ _); (refine VNext.mk (k + 1) ⟨hlt, upto_succ hno (fun h1 h2 h3 => ?_)⟩ (by omega) ?_ (OwnLe.mk [] (by simp) rfl); rotate_left; (((conv => whnf); repeat (first | exact trivial | refine ⟨rfl, ?_⟩ | refine ⟨congrArg (Value.int .i64) (by first | omega | assumption | exact Eq.symm (by assumption)), ?_⟩))))) | ((show VRet _ _ _ _); (refine VRet.mk fun w' m => ⟨congrArg Value.bool ?_, m.keeps.below⟩; rw [tr_no (fun h => absurd (h.2 k hlt (by omega) (by first | assumption | (simp_all; done)) (by assumption)) (by assumption))]))
      all_goals first | (exact absurd h3 (by assumption)) | assumption | (exfalso; omega; done) | (simp_all; done)
    · obtain rfl : k = n := by omega
      (repeat' ((conv => whnf); first | refine go ?_ | (refine VSome.mk ?_; intro gQ hA'; first | subst hA' | cases hA' | (dsimp only at hA'; subst hA')) | refine And.intro ?_ ?_ | intro _))
      (conv => whnf); refine VRet.mk fun w' m => ?_
      refine ⟨congrArg Value.bool ?_, m.keeps.below⟩
      rw [tr_yes ⟨hmem, fun j hj => hno j hj⟩]
end Go.Proofs.YtadjhkehfklmnaaGreatDoor
