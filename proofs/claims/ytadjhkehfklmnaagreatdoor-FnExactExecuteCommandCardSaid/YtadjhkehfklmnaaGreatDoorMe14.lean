/-
  Texts joined: how the calls that the law reaches are walked, and the plain laws behind them.
  Conditions: none beyond each statement's own premises.
-/
import Derived.Test.YtadjhkehfklmnaaGreatDoorMe13
namespace Go.Proofs.YtadjhkehfklmnaaGreatDoor
set_option linter.unusedSimpArgs false
set_option linter.unusedVariables false
open Go.RowKit
set_option maxRecDepth 10000
theorem TS_look {w : World} {A : Option Addr} {l : List (List UInt8)} {i : Nat} (h : Seen w A (TS l)) (hi : i < l.length) : ∃ b off, A = some ⟨b, off, none⟩ ∧ b < w.heap.size ∧ w.cell? ⟨b, off + mulS i 1, none⟩ = some (.string (tx (l.getD i []))) := by
  have e : (TS l)[i]? = some (.string (tx (l.getD i []))) := by
    unfold TS
    rw [List.getElem?_map, List.getD_eq_getElem?_getD, List.getElem?_eq_getElem hi]
    rfl
  obtain ⟨b, off, e2, hb, hc⟩ := h i _ e
  exact ⟨b, off, e2, hb, by rw [mulS_eq, Nat.mul_one]; exact hc⟩
theorem idx2_v (g c : Nat) (a b x : List UInt8) (w : World) (hA : Seen w (some ⟨g, 0, none⟩) [.string (tx a), .string (tx b)]) : Calls Tryz.prog 140 #[.slice (some ⟨g, 0, none⟩) 2 c, .string (tx x)] w (Post (.int .i64 (Lib.idxOfS [tx a, tx b] (tx x))) w) := by
  refine (Tryz.slices_Index_string g 0 2 c [tx a, tx b] (tx x) w (Nat.le_refl 2) (by decide) fun j hj => ?_).mono fun e w' ⟨he, hw⟩ => ⟨he, by rw [hw]; exact Below.refl _ _⟩
  obtain ⟨b', off, e2, hb, hc⟩ := hA j (.string ([tx a, tx b].getD j ByteArray.empty)) (by
    have hj : j < 2 := hj
    rcases j with _ | _ | j
    · rfl
    · rfl
    · omega)
  cases e2
  exact hc
theorem idxOfS_fst (a b : ByteArray) : Lib.idxOfS [a, b] a = 0 := by simp [Lib.idxOfS, Lib.idxFromS]
theorem idxOfS_snd {a b : ByteArray} (h : ¬ b = a) : Lib.idxOfS [a, b] b = 1 := by simp [Lib.idxOfS, Lib.idxFromS, Ne.symm h]
theorem rw1_num {p : UInt8} {w : List UInt8} (h : p = 110) : rw1 p w = if (rdV w).2 = true then some (rdV w).1 else none := by unfold rw1; rw [if_pos h]
theorem rw1_side {p : UInt8} {w : List UInt8} (h : p = 115) : rw1 p w = if w = wLow then some 0 else if w = wHigh then some 1 else none := by subst h; rfl
theorem rw1_way {p : UInt8} {w : List UInt8} (h : ¬ p = 110) (h2 : ¬ p = 115) : rw1 p w = if w = wDown then some 0 else if w = wUp then some 1 else none := by unfold rw1; rw [if_neg h, if_neg h2]
def rdO (P : Option Addr) (cp : Nat) : Option (List Int) → Value
  | some L => .tuple #[.slice P L.length cp, .bool true]
  | none => .tuple #[.slice none 0 0, .bool false]
def rdN (P : Option Addr) (cp : Nat) : Option (List Int) → List Own
  | some L => [.row (.slice P L.length cp) 3 1 L.length (IL L)]
  | none => []
set_option maxHeartbeats 16000000 in
theorem readWords_v (B : Option Addr) (c : Nat) (ps : List UInt8) (ws : List (List UInt8)) (w : World) (hp : ps.length ≤ 1048576) (hn : ws.length ≤ 1048576) (hl : ∀ x ∈ ws, x.length ≤ 1048576) (hB : Seen w B (TS ws)) (ht : PT2 w) :
    Calls Tryz.prog 113 #[.string (tx ps), .slice B ws.length c] w fun e w' => ∃ v, e = .returned v ∧ RetV (ι := Option Addr × Nat) (fun _ => True) (fun (P, cp) => rdO P cp (rwZ ps ws)) (fun (P, cp) => rdN P cp (rwZ ps ws)) (Base.of w) v w' := by
  have hsz := tx_size ps
  refine calls_of_vc tb_ok (args := [.string (tx ps), .slice B ws.length c]) Tryz.func113 rfl ?_
  by_cases he : ws.length = ps.length
  · (repeat' ((conv => whnf); first | refine go ?_ | (refine VSome.mk ?_; intro gQ hA'; first | subst hA' | cases hA' | (dsimp only at hA'; subst hA')) | refine And.intro ?_ ?_ | intro _))
    (conv => whnf)
    refine VLoop.mk (ι := Nat × List Int × Option Addr × Nat) [4, 5, 6, 7, 8, 9, 10, 19, 20, 21, 22, 23, 24, 25, 26, 27, 28, 29, 30, 31, 32, 33, 34, 35, 36, 37, 38, 39, 40, 41, 42, 43, 44, 45, 46, 47, 48, 49, 50, 51, 52, 53, 54, 55, 56, 57, 58, 59, 60] (fun (k, L, P, cp) => [(19, .int .i64 k), (6, .slice P k cp)]) (fun (k, L, P, cp) => [.row (.slice P k cp) 3 1 k (IL L)]) (fun i => i.1 ≤ ws.length ∧ i.1 = i.2.1.length ∧ rwZ ps ws = (rwZ (ps.drop i.1) (ws.drop i.1)).map (i.2.1 ++ ·)) (fun i => ws.length - i.1) (0, [], _, _) ⟨Nat.zero_le _, rfl, by simp⟩ ?_ (OwnLe.mk [0] (by simp) rfl) (fun i u hi => ?_)
    · ((conv => whnf); repeat (first | exact trivial | refine ⟨rfl, ?_⟩ | refine ⟨congrArg (Value.int .i64) (by first | omega | assumption | exact Eq.symm (by assumption)), ?_⟩))
    obtain ⟨k, L, P, cp⟩ := i
    obtain ⟨hk, hkl, hZ⟩ := hi
    replace hk : k ≤ ws.length := hk
    replace hkl : k = L.length := hkl
    replace hZ : rwZ ps ws = (rwZ (ps.drop k) (ws.drop k)).map (L ++ ·) := hZ
    (conv => whnf)
    try dsimp only
    by_cases hlt : k < ws.length
    · have hlp : k < ps.length := by omega
      have hk2 : k < (tx ps).size := by omega
      have hg := getD_tx ps k hlp
      obtain ⟨b1, off1, rfl, hb1, hc1⟩ := TS_look hB hlt
      have hxl := hl (ws.getD k []) (by rw [List.getD_eq_getElem?_getD, List.getElem?_eq_getElem hlt]; exact List.getElem_mem hlt)
      rw [show ps.drop k = ps.getD k 0 :: ps.drop (k + 1) by rw [List.drop_eq_getElem_cons hlp, List.getD_eq_getElem?_getD, List.getElem?_eq_getElem hlp]; rfl, show ws.drop k = ws.getD k [] :: ws.drop (k + 1) by rw [List.drop_eq_getElem_cons hlt, List.getD_eq_getElem?_getD, List.getElem?_eq_getElem hlt]; rfl] at hZ
      have hbd := (tx ps)[k].toNat_lt
      have hin : ∀ x : Int, rw1 (ps.getD k 0) (ws.getD k []) = some x → k + 1 ≤ ws.length ∧ k + 1 = (L ++ [x]).length ∧ rwZ ps ws = (rwZ (ps.drop (k + 1)) (ws.drop (k + 1))).map ((L ++ [x]) ++ ·) := fun x hx => by
        exact ⟨hlt, by rw [List.length_append, hkl]; rfl, hZ.trans (rwZ_some hx L)⟩
      have hno : rw1 (ps.getD k 0) (ws.getD k []) = none → rwZ ps ws = none := fun hx => by
        rw [hZ, rwZ_none hx]; rfl
      clear hZ
      generalize ws.getD k [] = word at *
      generalize hpd : ps.getD k 0 = pd at *
      by_cases h1 : pd = 110
      · have hr := rw1_num (w := word) h1
        have hq : ((tx ps)[k].toNat : Int) = 110 := by rw [hg, h1]; rfl
        have hI := fun w ht => iParse_v word w hxl ht
        rcases hrd : rdV word with ⟨z, b⟩
        rw [hrd] at hI hr
        dsimp only at hI hr
        cases b
        · have hz := hno (hr.trans (if_neg (by simp)))
          rw [hz]
          (repeat' ((conv => whnf); first | refine go ?_ | (refine VSome.mk ?_; intro gQ hA'; first | subst hA' | cases hA' | (dsimp only at hA'; subst hA')) | refine And.intro ?_ ?_ | intro _ | (first | ((show VCall _ _ _ 139 _ _); refine VCall.grow _ (fun w1 m1 => hI w1 (ht.on m1)) ?_))))
          all_goals (conv => whnf)
          all_goals exact VRet.sel (none, 0) trivial rfl [] (by simp) rfl
        · have hy := hin z (hr.trans (if_pos rfl))
          (repeat' ((conv => whnf); first | refine go ?_ | (refine VSome.mk ?_; intro gQ hA'; first | subst hA' | cases hA' | (dsimp only at hA'; subst hA')) | refine And.intro ?_ ?_ | intro _ | (first | ((show VCall _ _ _ 139 _ _); refine VCall.grow _ (fun w1 m1 => hI w1 (ht.on m1)) ?_) | ((show VApp _ _ _ _ _ _ _); (apply VApp.pushAny; (focus ((repeat (first | exact At.here | apply At.there)); done)); (focus ((repeat (first | exact At.here | apply At.there)); done)); refine VAppPush.mk rfl rfl (by omega) (fun A' c' => ?_))))))
          all_goals (conv => whnf)
          all_goals (refine VNext.mk (k + 1, L ++ [z], _, _) hy (by show ws.length - (k + 1) < ws.length - k; omega) ?_ (OwnLe.mk [0] (by simp) (by dsimp only; rw [IL_app]; rfl)); ((conv => whnf); repeat (first | exact trivial | refine ⟨rfl, ?_⟩ | refine ⟨congrArg (Value.int .i64) (by first | omega | assumption | exact Eq.symm (by assumption)), ?_⟩)))
      · have hq1 : ¬ ((tx ps)[k].toNat : Int) = 110 := by rw [hg]; intro q; exact h1 (UInt8.toNat_inj.1 (by rw [show (110 : UInt8).toNat = 110 from rfl]; omega))
        by_cases h2 : pd = 115
        · have hq2 : ((tx ps)[k].toNat : Int) = 115 := by rw [hg, h2]; rfl
          have hr := rw1_side (w := word) h2
          by_cases ha : word = wLow
          · have hy := hin 0 (by rw [hr, if_pos ha])
            have ha2 : tx word = tx wLow := by rw [ha]
            have hx := fun g w hA => idx2_v g 2 wLow wHigh word w hA
            rw [show Lib.idxOfS [tx wLow, tx wHigh] (tx word) = 0 by rw [ha2]; exact idxOfS_fst _ _] at hx
            (repeat' ((conv => whnf); first | refine go ?_ | (refine VSome.mk ?_; intro gQ hA'; first | subst hA' | cases hA' | (dsimp only at hA'; subst hA')) | refine And.intro ?_ ?_ | intro _ | (first | ((show VCall _ _ _ 140 _ _); refine VCall.grow _ (fun w1 m1 => hx _ w1 (Sees.blk 1 rfl w1 m1)) ?_) | ((show VApp _ _ _ _ _ _ _); (apply VApp.pushAny; (focus ((repeat (first | exact At.here | apply At.there)); done)); (focus ((repeat (first | exact At.here | apply At.there)); done)); refine VAppPush.mk rfl rfl (by omega) (fun A' c' => ?_))))))
            all_goals (conv => whnf)
            all_goals (refine VNext.mk (k + 1, L ++ [0], _, _) hy (by show ws.length - (k + 1) < ws.length - k; omega) ?_ (OwnLe.mk [0] (by simp) (by dsimp only; rw [IL_app]; rfl)); ((conv => whnf); repeat (first | exact trivial | refine ⟨rfl, ?_⟩ | refine ⟨congrArg (Value.int .i64) (by first | omega | assumption | exact Eq.symm (by assumption)), ?_⟩)))
          · have ha2 : ¬ tx word = tx wLow := fun q => ha (tx_inj q)
            by_cases hb : word = wHigh
            · have hy := hin 1 (by rw [hr, if_neg ha, if_pos hb])
              have hb2 : tx word = tx wHigh := by rw [hb]
              have hx := fun g w hA => idx2_v g 2 wLow wHigh word w hA
              rw [show Lib.idxOfS [tx wLow, tx wHigh] (tx word) = 1 by rw [hb2]; exact idxOfS_snd (by decide)] at hx
              (repeat' ((conv => whnf); first | refine go ?_ | (refine VSome.mk ?_; intro gQ hA'; first | subst hA' | cases hA' | (dsimp only at hA'; subst hA')) | refine And.intro ?_ ?_ | intro _ | (first | ((show VCall _ _ _ 140 _ _); refine VCall.grow _ (fun w1 m1 => hx _ w1 (Sees.blk 1 rfl w1 m1)) ?_) | ((show VApp _ _ _ _ _ _ _); (apply VApp.pushAny; (focus ((repeat (first | exact At.here | apply At.there)); done)); (focus ((repeat (first | exact At.here | apply At.there)); done)); refine VAppPush.mk rfl rfl (by omega) (fun A' c' => ?_))))))
              all_goals (conv => whnf)
              all_goals (refine VNext.mk (k + 1, L ++ [1], _, _) hy (by show ws.length - (k + 1) < ws.length - k; omega) ?_ (OwnLe.mk [0] (by simp) (by dsimp only; rw [IL_app]; rfl)); ((conv => whnf); repeat (first | exact trivial | refine ⟨rfl, ?_⟩ | refine ⟨congrArg (Value.int .i64) (by first | omega | assumption | exact Eq.symm (by assumption)), ?_⟩)))
            · have hz := hno (by rw [hr, if_neg ha, if_neg hb])
              have hb2 : ¬ tx word = tx wHigh := fun q => hb (tx_inj q)
              have hx := fun g w hA => idx2_v g 2 wLow wHigh word w hA
              rw [hz]
              (repeat' ((conv => whnf); first | refine go ?_ | (refine VSome.mk ?_; intro gQ hA'; first | subst hA' | cases hA' | (dsimp only at hA'; subst hA')) | refine And.intro ?_ ?_ | intro _ | (first | ((show VCall _ _ _ 140 _ _); refine VCall.grow _ (fun w1 m1 => hx _ w1 (Sees.blk 1 rfl w1 m1)) ?_))))
              all_goals (conv => whnf)
              all_goals exact VRet.sel (none, 0) trivial rfl [] (by simp) rfl
        · have hq2 : ¬ ((tx ps)[k].toNat : Int) = 115 := by rw [hg]; intro q; exact h2 (UInt8.toNat_inj.1 (by rw [show (115 : UInt8).toNat = 115 from rfl]; omega))
          have hr := rw1_way (w := word) h1 h2
          by_cases ha : word = wDown
          · have hy := hin 0 (by rw [hr, if_pos ha])
            have ha2 : tx word = tx wDown := by rw [ha]
            have hx := fun g w hA => idx2_v g 2 wDown wUp word w hA
            rw [show Lib.idxOfS [tx wDown, tx wUp] (tx word) = 0 by rw [ha2]; exact idxOfS_fst _ _] at hx
            (repeat' ((conv => whnf); first | refine go ?_ | (refine VSome.mk ?_; intro gQ hA'; first | subst hA' | cases hA' | (dsimp only at hA'; subst hA')) | refine And.intro ?_ ?_ | intro _ | (first | ((show VCall _ _ _ 140 _ _); refine VCall.grow _ (fun w1 m1 => hx _ w1 (Sees.blk 1 rfl w1 m1)) ?_) | ((show VApp _ _ _ _ _ _ _); (apply VApp.pushAny; (focus ((repeat (first | exact At.here | apply At.there)); done)); (focus ((repeat (first | exact At.here | apply At.there)); done)); refine VAppPush.mk rfl rfl (by omega) (fun A' c' => ?_))))))
            all_goals (conv => whnf)
            all_goals (refine VNext.mk (k + 1, L ++ [0], _, _) hy (by show ws.length - (k + 1) < ws.length - k; omega) ?_ (OwnLe.mk [0] (by simp) (by dsimp only; rw [IL_app]; rfl)); ((conv => whnf); repeat (first | exact trivial | refine ⟨rfl, ?_⟩ | refine ⟨congrArg (Value.int .i64) (by first | omega | assumption | exact Eq.symm (by assumption)), ?_⟩)))
          · have ha2 : ¬ tx word = tx wDown := fun q => ha (tx_inj q)
            by_cases hb : word = wUp
            · have hy := hin 1 (by rw [hr, if_neg ha, if_pos hb])
              have hb2 : tx word = tx wUp := by rw [hb]
              have hx := fun g w hA => idx2_v g 2 wDown wUp word w hA
              rw [show Lib.idxOfS [tx wDown, tx wUp] (tx word) = 1 by rw [hb2]; exact idxOfS_snd (by decide)] at hx
              (repeat' ((conv => whnf); first | refine go ?_ | (refine VSome.mk ?_; intro gQ hA'; first | subst hA' | cases hA' | (dsimp only at hA'; subst hA')) | refine And.intro ?_ ?_ | intro _ | (first | ((show VCall _ _ _ 140 _ _); refine VCall.grow _ (fun w1 m1 => hx _ w1 (Sees.blk 1 rfl w1 m1)) ?_) | ((show VApp _ _ _ _ _ _ _); (apply VApp.pushAny; (focus ((repeat (first | exact At.here | apply At.there)); done)); (focus ((repeat (first | exact At.here | apply At.there)); done)); refine VAppPush.mk rfl rfl (by omega) (fun A' c' => ?_))))))
              all_goals (conv => whnf)
              all_goals (refine VNext.mk (k + 1, L ++ [1], _, _) hy (by show ws.length - (k + 1) < ws.length - k; omega) ?_ (OwnLe.mk [0] (by simp) (by dsimp only; rw [IL_app]; rfl)); ((conv => whnf); repeat (first | exact trivial | refine ⟨rfl, ?_⟩ | refine ⟨congrArg (Value.int .i64) (by first | omega | assumption | exact Eq.symm (by assumption)), ?_⟩)))
            · have hz := hno (by rw [hr, if_neg ha, if_neg hb])
              have hb2 : ¬ tx word = tx wUp := fun q => hb (tx_inj q)
              have hx := fun g w hA => idx2_v g 2 wDown wUp word w hA
              rw [hz]
              (repeat' ((conv => whnf); first | refine go ?_ | (refine VSome.mk ?_; intro gQ hA'; first | subst hA' | cases hA' | (dsimp only at hA'; subst hA')) | refine And.intro ?_ ?_ | intro _ | (first | ((show VCall _ _ _ 140 _ _); refine VCall.grow _ (fun w1 m1 => hx _ w1 (Sees.blk 1 rfl w1 m1)) ?_))))
              all_goals (conv => whnf)
              all_goals exact VRet.sel (none, 0) trivial rfl [] (by simp) rfl
    · obtain rfl : k = ws.length := by omega
      have hy : rwZ ps ws = some L := by
        rw [hZ, List.drop_eq_nil_of_le (by omega), List.drop_eq_nil_of_le (Nat.le_refl _)]
        show some (L ++ []) = _
        rw [List.append_nil]
      rw [hy, hkl]
      (repeat' ((conv => whnf); first | refine go ?_ | (refine VSome.mk ?_; intro gQ hA'; first | subst hA' | cases hA' | (dsimp only at hA'; subst hA')) | refine And.intro ?_ ?_ | intro _))
      (conv => whnf)
      exact VRet.sel (P, cp) trivial (by rw [rdO, ← hkl]) [0] (by simp) (by rw [rdN, ← hkl]; rfl)
  · have hz : rwZ ps ws = none := by
      cases e : rwZ ps ws with
      | none => rfl
      | some l => exact absurd (rwZ_len e).1 he
    rw [hz]
    (repeat' ((conv => whnf); first | refine go ?_ | (refine VSome.mk ?_; intro gQ hA'; first | subst hA' | cases hA' | (dsimp only at hA'; subst hA')) | refine And.intro ?_ ?_ | intro _))
    (conv => whnf)
    exact VRet.sel (none, 0) trivial rfl [] (by simp) rfl
end Go.Proofs.YtadjhkehfklmnaaGreatDoor
namespace Go.Proofs.YtadjhkehfklmnaaGreatDoor
set_option linter.unusedSimpArgs false
set_option linter.unusedVariables false
open Go.RowKit
set_option maxRecDepth 10000
theorem IL_lookM {w : World} {A : Option Addr} {l : List Int} {i : Nat} (h : Seen w A (IL l)) (hi : i < l.length) : ∃ b off, A = some ⟨b, off, none⟩ ∧ b < w.heap.size ∧ w.cell? ⟨b, off + mulS i 1, none⟩ = some (.int .i64 (l.getD i 0)) := by
  obtain ⟨b, off, e, hb, hc⟩ := IL_look h hi
  exact ⟨b, off, e, hb, by rw [mulS_eq, Nat.mul_one]; exact hc⟩
theorem join_tail_len (r : List Int) (h : ∀ x ∈ r, -999999 ≤ x ∧ x ≤ 999999) : (Lib.joinTail [32] (r.map Lib.itoa)).length ≤ 8 * r.length := by
  induction r with
  | nil => exact Nat.le_refl _
  | cons x r ih =>
    have h1 := (itoa_len (h x (by simp)).1 (h x (by simp)).2).2
    have h2 := ih fun y hy => h y (by simp [hy])
    have e : Lib.joinTail [32] ((x :: r).map Lib.itoa) = [32] ++ Lib.itoa x ++ Lib.joinTail [32] (r.map Lib.itoa) := by simp [Lib.joinTail]
    rw [e, List.length_append, List.length_append]
    show 1 + (Lib.itoa x).length + _ ≤ 8 * (r.length + 1)
    omega
theorem ltx_join {L : List Int} (h : 0 < L.length) : ltx L = Lib.join (L.map Lib.itoa) [32] := by
  cases L with
  | nil => simp at h
  | cons x r => rfl
theorem ltx_len {L : List Int} (h : ∀ x ∈ L, -999999 ≤ x ∧ x ≤ 999999) : (ltx L).length ≤ 8 * L.length + 4 := by
  cases L with
  | nil => decide
  | cons x r =>
    rw [ltx_cons, List.length_append, List.length_cons]
    have h1 := (itoa_len (h x (by simp)).1 (h x (by simp)).2).2
    have h2 := join_tail_len r fun y hy => h y (by simp [hy])
    omega
def ZS (L : List Int) : List Value := TS (L.map Lib.itoa)
theorem ZS_snoc (L : List Int) (x : Int) : ZS L ++ [.string (tx (Lib.itoa x))] = ZS (L ++ [x]) := by
  unfold ZS
  rw [List.map_append, TS_app]
  rfl
theorem join_v (A : Option Addr) (c : Nat) (L : List Int) (w : World) (h0 : 0 < L.length) (hl : L.length ≤ 1048576) (hv : ∀ x ∈ L, -999999 ≤ x ∧ x ≤ 999999) (hc : L.length ≤ c) (hA : Seen w A (ZS L)) : Calls Tryz.prog 179 #[.slice A L.length c, .string (tx [32])] w (Post (.string (tx (ltx L))) w) := by
  have hi : ∀ (j : Nat) x, (L.map fun n => tx (Lib.itoa n))[j]? = some x → ∃ b off, A = some ⟨b, off, none⟩ ∧ b < w.heap.size ∧ w.cell? ⟨b, off + j, none⟩ = some (.string x) := fun j x hx => hA j _ (by
    unfold ZS TS
    rw [List.getElem?_map] at hx
    rw [List.getElem?_map, List.getElem?_map]
    cases e : L[j]? with
    | none => rw [e] at hx; cases hx
    | some n => rw [e] at hx; cases hx; rfl)
  obtain ⟨b, off, rfl, hb, _⟩ := hi 0 (tx (Lib.itoa (L.getD 0 0))) (by
    rw [List.getElem?_map, List.getElem?_eq_getElem h0, List.getD_eq_getElem?_getD, List.getElem?_eq_getElem h0]; rfl)
  have hlen : (L.map fun n => tx (Lib.itoa n)).length = L.length := by simp
  have hd : ((L.map fun n => tx (Lib.itoa n)).map (·.data.toList)) = L.map Lib.itoa := by
    rw [List.map_map]
    congr 1
  have hjl := ltx_len hv
  rw [ltx_join h0] at hjl
  have h := Tryz.strings_Join b off c (L.map fun n => tx (Lib.itoa n)) (tx [32]) w (fun j x hx => by
    obtain ⟨b', off', e, _, h⟩ := hi j x hx
    cases e
    exact h) hb (by rw [hlen]; omega) (by rw [hlen]; exact hc) (by
    rw [hd]
    show (Lib.join (L.map Lib.itoa) [32]).length ≤ _
    omega)
  rw [hlen, hd] at h
  refine h.mono fun e w' ⟨he, hb⟩ => ⟨?_, hb⟩
  rw [he, ltx_join h0]
  rfl
set_option maxHeartbeats 4000000 in
theorem listText_v (B : Option Addr) (c : Nat) (L : List Int) (w : World) (hl : L.length ≤ 1048576) (hv : ∀ x ∈ L, -999999 ≤ x ∧ x ≤ 999999) (hB : Seen w B (IL L)) (ht : PTab w) :
    Calls Tryz.prog 144 #[.slice B L.length c] w (Post (.string (tx (ltx L))) w) := by
  refine post_of_vc ?_
  refine calls_of_vc tb_ok (args := [.slice B L.length c]) Tryz.func144 rfl ?_
  by_cases h0 : 0 < L.length
  · (repeat' ((conv => whnf); first | refine go ?_ | (refine VSome.mk ?_; intro gQ hA'; first | subst hA' | cases hA' | (dsimp only at hA'; subst hA')) | refine And.intro ?_ ?_ | intro _))
    (conv => whnf)
    refine VLoop.mk (ι := Nat × Option Addr × Nat) [3, 5, 12, 13, 14, 15, 16, 17, 18, 19, 20, 21] (fun (k, P, cp) => [(12, .int .i64 k), (3, .slice P k cp)]) (fun (k, P, cp) => [.row (.slice P k cp) 9 1 k (ZS (L.take k))]) (fun i => i.1 ≤ L.length ∧ i.1 ≤ i.2.2) (fun i => L.length - i.1) (0, _, 0) ⟨Nat.zero_le _, Nat.zero_le _⟩ ?_ (OwnLe.mk [0] (by simp) rfl) (fun i u hi => ?_)
    · ((conv => whnf); repeat (first | exact trivial | refine ⟨rfl, ?_⟩ | refine ⟨congrArg (Value.int .i64) (by first | omega | assumption | exact Eq.symm (by assumption)), ?_⟩))
    obtain ⟨k, P, cp⟩ := i
    obtain ⟨hk, hcp⟩ := hi
    replace hk : k ≤ L.length := hk
    replace hcp : k ≤ cp := hcp
    (conv => whnf)
    try dsimp only
    by_cases hlt : k < L.length
    · obtain ⟨b1, off1, rfl, hb1, hc1⟩ := IL_lookM hB hlt
      have hz := hv (L.getD k 0) (by rw [List.getD_eq_getElem?_getD, List.getElem?_eq_getElem hlt]; exact List.getElem_mem hlt)
      have ht1 : L.take (k + 1) = L.take k ++ [L.getD k 0] := by rw [List.take_add_one, List.getD_eq_getElem?_getD, List.getElem?_eq_getElem hlt]; rfl
      (repeat' ((conv => whnf); first | refine go ?_ | (refine VSome.mk ?_; intro gQ hA'; first | subst hA' | cases hA' | (dsimp only at hA'; subst hA')) | refine And.intro ?_ ?_ | intro _ | (first | ((show VCall _ _ _ 59 _ _); refine VCall.grow _ (fun w1 m1 => itoaZ_v _ w1 (by omega) (by omega) (ht.on m1)) ?_) | ((show VApp _ _ _ _ _ _ _); (apply VApp.pushAnyS; (focus ((repeat (first | exact At.here | apply At.there)); done)); (focus ((repeat (first | exact At.here | apply At.there)); done)); refine VAppPushS.mk rfl rfl (by omega) (by omega) (fun g' c' hcap => ?_))))))
      (conv => whnf)
      refine VNext.mk (k + 1, _, _) ⟨hlt, hcap⟩ (by show L.length - (k + 1) < L.length - k; omega) ?_ (OwnLe.mk [0] (by simp) (by dsimp only; rw [ht1, ← ZS_snoc]; rfl))
      ((conv => whnf); repeat (first | exact trivial | refine ⟨rfl, ?_⟩ | refine ⟨congrArg (Value.int .i64) (by first | omega | assumption | exact Eq.symm (by assumption)), ?_⟩))
    · obtain rfl : k = L.length := by omega
      have hJ := fun w => join_v P cp L w h0 hl hv hcp
      rw [List.take_length]
      (repeat' ((conv => whnf); first | refine go ?_ | (refine VSome.mk ?_; intro gQ hA'; first | subst hA' | cases hA' | (dsimp only at hA'; subst hA')) | refine And.intro ?_ ?_ | intro _ | (first | ((show VCall _ _ _ 179 _ _); refine VCall.grow _ (fun w1 m1 => hJ w1 (Sees.any m1 fndA)) ?_))))
      (conv => whnf); refine VRet.mk fun w' m => ?_
      exact ⟨rfl, m.keeps.below⟩
  · obtain rfl : L = [] := by cases L with
      | nil => rfl
      | cons x r => simp at h0
    (repeat' ((conv => whnf); first | refine go ?_ | (refine VSome.mk ?_; intro gQ hA'; first | subst hA' | cases hA' | (dsimp only at hA'; subst hA')) | refine And.intro ?_ ?_ | intro _))
    (conv => whnf); refine VRet.mk fun w' m => ?_
    exact ⟨rfl, m.keeps.below⟩
theorem isHigh_v (s : Lo) (w : World) (hs : s.safe) : Calls Tryz.prog 186 #[.agg s.cells.toArray] w (Post (.bool s.high) w) := by
  have hx := hs
  unfold Lo.safe at hx
  refine post_of_vc ?_
  refine calls_of_vc tb_ok (args := [.agg s.cells.toArray]) Tryz.func186 rfl ?_
  have e : s.high = decide (s.upper - s.level < s.level - s.lower) := rfl
  (repeat' ((conv => whnf); first | refine go ?_ | (refine VSome.mk ?_; intro gQ hA'; first | subst hA' | cases hA' | (dsimp only at hA'; subst hA')) | refine And.intro ?_ ?_ | intro _))
  all_goals ((conv => whnf); refine VRet.mk fun w' m => ?_)
  all_goals exact ⟨by first | rfl | (rw [e]; first | (rw [decide_eq_true (by assumption)]; done) | (rw [decide_eq_false (by assumption)]; done)), m.keeps.below⟩
theorem l28High_v (s : Lo) (w : World) (hs : s.safe) : Calls Tryz.prog 160 #[.agg s.cells.toArray] w (Post (.bool s.high) w) := by
  have hx := hs
  unfold Lo.safe at hx
  refine post_of_vc ?_
  refine calls_of_vc tb_ok (args := [.agg s.cells.toArray]) Tryz.func160 rfl ?_
  have e : s.high = decide (s.upper - s.level < s.level - s.lower) := rfl
  (repeat' ((conv => whnf); first | refine go ?_ | (refine VSome.mk ?_; intro gQ hA'; first | subst hA' | cases hA' | (dsimp only at hA'; subst hA')) | refine And.intro ?_ ?_ | intro _))
  all_goals ((conv => whnf); refine VRet.mk fun w' m => ?_)
  all_goals exact ⟨by first | rfl | (rw [e]; first | (rw [decide_eq_true (by assumption)]; done) | (rw [decide_eq_false (by assumption)]; done)), m.keeps.below⟩
theorem ltx_one {L : List Int} (h : 0 < L.length) : ltx (L.take 1) = Lib.itoa (L.getD 0 0) := by
  cases L with
  | nil => simp at h
  | cons x r =>
    show ltx [x] = _
    rw [ltx_cons]
    show Lib.itoa x ++ [] = Lib.itoa x
    exact List.append_nil _
theorem ltx_suc {L : List Int} {k : Nat} (h : 1 ≤ k) (hk : k < L.length) : ltx (L.take (k + 1)) = ltx (L.take k) ++ [32] ++ Lib.itoa (L.getD k 0) := by
  cases L with
  | nil => simp at hk
  | cons x r =>
    obtain ⟨j, rfl⟩ : ∃ j, k = j + 1 := ⟨k - 1, by omega⟩
    have hj : j < r.length := by simpa using hk
    rw [List.take_succ_cons, List.take_succ_cons, ltx_cons, ltx_cons, List.map_take, List.map_take]
    rw [Lib.joinTail_take_succ [32] (r.map Lib.itoa) j (Lib.itoa (r.getD j 0)) (by rw [List.getElem?_map, List.getElem?_eq_getElem hj, List.getD_eq_getElem?_getD, List.getElem?_eq_getElem hj]; rfl)]
    simp
set_option maxHeartbeats 4000000 in
theorem l28List_v (B : Option Addr) (c : Nat) (L : List Int) (w : World) (hl : L.length ≤ 1048576) (hv : ∀ x ∈ L, -999999 ≤ x ∧ x ≤ 999999) (hB : Seen w B (IL L)) :
    Calls Tryz.prog 155 #[.slice B L.length c] w (Post (.string (tx (ltx L))) w) := by
  refine post_of_vc ?_
  refine calls_of_vc tb_ok (args := [.slice B L.length c]) Tryz.func155 rfl ?_
  by_cases h0 : 0 < L.length
  · obtain ⟨b0, off0, rfl, hb0, hc0⟩ := IL_lookM hB h0
    have hz0 := hv (L.getD 0 0) (by rw [List.getD_eq_getElem?_getD, List.getElem?_eq_getElem h0]; exact List.getElem_mem h0)
    (repeat' ((conv => whnf); first | refine go ?_ | (refine VSome.mk ?_; intro gQ hA'; first | subst hA' | cases hA' | (dsimp only at hA'; subst hA')) | refine And.intro ?_ ?_ | intro _ | (first | ((show VCall _ _ _ 61 _ _); refine VCall.grow _ (fun w1 m1 => l1NumZ_v _ w1 (by omega) (by omega)) ?_))))
    (conv => whnf)
    refine VLoop.mk (ι := Nat × List UInt8) [3, 4, 12, 13, 14, 15, 16, 17, 18, 19, 20, 21, 22, 23, 24, 25] (fun (k, s) => [(4, .int .i64 k), (3, .string (tx s))]) (fun _ => []) (fun i => 1 ≤ i.1 ∧ i.1 ≤ L.length ∧ i.2 = ltx (L.take i.1)) (fun i => L.length - i.1) (1, Lib.itoa (L.getD 0 0)) ⟨Nat.le_refl _, h0, (ltx_one h0).symm⟩ ?_ (OwnLe.mk [] (by simp) rfl) (fun i u hi => ?_)
    · ((conv => whnf); repeat (first | exact trivial | refine ⟨rfl, ?_⟩ | refine ⟨congrArg (Value.int .i64) (by first | omega | assumption | exact Eq.symm (by assumption)), ?_⟩))
    obtain ⟨k, s⟩ := i
    obtain ⟨hk1, hk, hs⟩ := hi
    replace hk1 : 1 ≤ k := hk1
    replace hk : k ≤ L.length := hk
    replace hs : s = ltx (L.take k) := hs
    (conv => whnf)
    try dsimp only
    by_cases hlt : k < L.length
    · obtain ⟨b1, off1, e1, hb1, hc1⟩ := IL_lookM hB hlt
      cases e1
      have hz := hv (L.getD k 0) (by rw [List.getD_eq_getElem?_getD, List.getElem?_eq_getElem hlt]; exact List.getElem_mem hlt)
      have hle := ltx_len (L := L.take k) fun x hx => hv x (List.mem_of_mem_take hx)
      rw [List.length_take, ← hs] at hle
      have hi := (itoa_len hz.1 hz.2).2
      have hn := ltx_suc hk1 hlt
      rw [← hs] at hn
      (repeat' ((conv => whnf); first | refine go ?_ | (refine VSome.mk ?_; intro gQ hA'; first | subst hA' | cases hA' | (dsimp only at hA'; subst hA')) | refine And.intro ?_ ?_ | intro _ | (first | ((show VCall _ _ _ 61 _ _); refine VCall.grow _ (fun w1 m1 => l1NumZ_v _ w1 (by omega) (by omega)) ?_) | ((show VCat _ _ _); refine VCat.of (by simp only [List.length_append, List.length_cons, List.length_nil]; omega) ?_))))
      all_goals (conv => whnf)
      refine VNext.mk (k + 1, s ++ [32] ++ Lib.itoa (L.getD k 0)) ⟨by show 1 ≤ k + 1; omega, hlt, hn.symm⟩ (by show L.length - (k + 1) < L.length - k; omega) ?_ (OwnLe.mk [] (by simp) rfl)
      ((conv => whnf); repeat (first | exact trivial | refine ⟨rfl, ?_⟩ | refine ⟨congrArg (Value.int .i64) (by first | omega | assumption | exact Eq.symm (by assumption)), ?_⟩))
    · obtain rfl : k = L.length := by omega
      rw [List.take_length] at hs
      rw [← hs]
      (repeat' ((conv => whnf); first | refine go ?_ | (refine VSome.mk ?_; intro gQ hA'; first | subst hA' | cases hA' | (dsimp only at hA'; subst hA')) | refine And.intro ?_ ?_ | intro _))
      (conv => whnf); refine VRet.mk fun w' m => ?_
      exact ⟨rfl, m.keeps.below⟩
  · obtain rfl : L = [] := by cases L with
      | nil => rfl
      | cons x r => simp at h0
    (repeat' ((conv => whnf); first | refine go ?_ | (refine VSome.mk ?_; intro gQ hA'; first | subst hA' | cases hA' | (dsimp only at hA'; subst hA')) | refine And.intro ?_ ?_ | intro _))
    (conv => whnf); refine VRet.mk fun w' m => ?_
    exact ⟨rfl, m.keeps.below⟩
end Go.Proofs.YtadjhkehfklmnaaGreatDoor
namespace Go.Proofs.YtadjhkehfklmnaaGreatDoor
set_option linter.unusedSimpArgs false
set_option linter.unusedVariables false
open Go.RowKit
set_option maxRecDepth 10000
def numZ (ws : List (List UInt8)) : Option (List Int) := rwZ (List.replicate ws.length 110) ws
theorem sParse_v (l : List UInt8) (w : World) (hl : l.length ≤ 1048576) : Calls Tryz.prog 157 #[.string (tx l)] w (Post (.tuple #[.int .i64 (rdV l).1, .bool (rdV l).2]) w) := by
  have hI := fun w => l1Read_v l w hl
  rcases hrd : rdV l with ⟨z, b⟩
  rw [hrd] at hI
  refine post_of_vc ?_
  refine calls_of_vc tb_ok (args := [.string (tx l)]) Tryz.func157 rfl ?_
  cases b
  · (repeat' ((conv => whnf); first | refine go ?_ | (refine VSome.mk ?_; intro gQ hA'; first | subst hA' | cases hA' | (dsimp only at hA'; subst hA')) | refine And.intro ?_ ?_ | intro _ | (first | ((show VCall _ _ _ 191 _ _); refine VCall.grow _ (fun w1 m1 => hI w1) ?_))))
    all_goals ((conv => whnf); refine VRet.mk fun w' m => ?_)
    all_goals exact ⟨rfl, m.keeps.below⟩
  · (repeat' ((conv => whnf); first | refine go ?_ | (refine VSome.mk ?_; intro gQ hA'; first | subst hA' | cases hA' | (dsimp only at hA'; subst hA')) | refine And.intro ?_ ?_ | intro _ | (first | ((show VCall _ _ _ 191 _ _); refine VCall.grow _ (fun w1 m1 => hI w1) ?_))))
    all_goals ((conv => whnf); refine VRet.mk fun w' m => ?_)
    all_goals exact ⟨rfl, m.keeps.below⟩
def nuO (P : Option Addr) (cp : Nat) : Option (List Int) → Value
  | some L => .tuple #[.slice P L.length cp, .bool true]
  | none => .tuple #[.slice P 0 cp, .bool false]
def nuN (P : Option Addr) (cp : Nat) : Option (List Int) → List Own
  | some L => [.row (.slice P L.length cp) 3 1 L.length (IL L)]
  | none => [.row (.slice P 0 cp) 3 1 0 []]
theorem rwZ_rep_cons (ws : List (List UInt8)) (w : List UInt8) : rwZ (List.replicate (w :: ws).length 110) (w :: ws) = rwZ (110 :: List.replicate ws.length 110) (w :: ws) := rfl
set_option maxHeartbeats 8000000 in
theorem numbers_v (B : Option Addr) (c : Nat) (ws : List (List UInt8)) (w : World) (hn : ws.length ≤ 1048577) (hl : ∀ x ∈ ws, x.length ≤ 1048576) (hB : Seen w B (TS ws)) :
    Calls Tryz.prog 121 #[.slice B ws.length c] w fun e w' => ∃ v, e = .returned v ∧ RetV (ι := Option Addr × Nat) (fun _ => True) (fun (P, cp) => nuO P cp (numZ ws)) (fun (P, cp) => nuN P cp (numZ ws)) (Base.of w) v w' := by
  refine calls_of_vc tb_ok (args := [.slice B ws.length c]) Tryz.func121 rfl ?_
  (repeat' ((conv => whnf); first | refine go ?_ | (refine VSome.mk ?_; intro gQ hA'; first | subst hA' | cases hA' | (dsimp only at hA'; subst hA')) | refine And.intro ?_ ?_ | intro _))
  (conv => whnf)
  refine VLoop.mk (ι := Nat × List Int × Option Addr × Nat) [2, 3, 4, 5, 6, 7, 9, 10, 11, 12, 13, 14, 15, 16, 17, 18, 19, 20, 21, 22, 23, 24, 25, 26, 27, 28, 29] (fun (k, L, P, cp) => [(5, .int .i64 k), (4, .slice P k cp)]) (fun (k, L, P, cp) => [.row (.slice P k cp) 3 1 k (IL L)]) (fun i => i.1 ≤ ws.length ∧ i.1 = i.2.1.length ∧ numZ ws = (numZ (ws.drop i.1)).map (i.2.1 ++ ·)) (fun i => ws.length - i.1) (0, [], _, _) ⟨Nat.zero_le _, rfl, by simp⟩ ?_ (OwnLe.mk [0] (by simp) rfl) (fun i u hi => ?_)
  · ((conv => whnf); repeat (first | exact trivial | refine ⟨rfl, ?_⟩ | refine ⟨congrArg (Value.int .i64) (by first | omega | assumption | exact Eq.symm (by assumption)), ?_⟩))
  obtain ⟨k, L, P, cp⟩ := i
  obtain ⟨hk, hkl, hZ⟩ := hi
  replace hk : k ≤ ws.length := hk
  replace hkl : k = L.length := hkl
  replace hZ : numZ ws = (numZ (ws.drop k)).map (L ++ ·) := hZ
  (conv => whnf)
  try dsimp only
  by_cases hlt : k < ws.length
  · obtain ⟨b1, off1, rfl, hb1, hc1⟩ := TS_look hB hlt
    have hxl := hl (ws.getD k []) (by rw [List.getD_eq_getElem?_getD, List.getElem?_eq_getElem hlt]; exact List.getElem_mem hlt)
    rw [show ws.drop k = ws.getD k [] :: ws.drop (k + 1) by rw [List.drop_eq_getElem_cons hlt, List.getD_eq_getElem?_getD, List.getElem?_eq_getElem hlt]; rfl] at hZ
    unfold numZ at hZ
    rw [rwZ_rep_cons] at hZ
    have hin : ∀ x : Int, rw1 110 (ws.getD k []) = some x → k + 1 ≤ ws.length ∧ k + 1 = (L ++ [x]).length ∧ numZ ws = (numZ (ws.drop (k + 1))).map ((L ++ [x]) ++ ·) := fun x hx => by
      exact ⟨hlt, by rw [List.length_append, hkl]; rfl, hZ.trans (rwZ_some hx L)⟩
    have hno : rw1 110 (ws.getD k []) = none → numZ ws = none := fun hx => by
      unfold numZ
      rw [hZ, rwZ_none hx]; rfl
    clear hZ
    generalize ws.getD k [] = word at *
    have hr := rw1_num (w := word) (p := 110) rfl
    have hI := fun w => sParse_v word w hxl
    rcases hrd : rdV word with ⟨z, b⟩
    rw [hrd] at hI hr
    dsimp only at hI hr
    cases b
    · have hz := hno (hr.trans (if_neg (by simp)))
      rw [hz]
      (repeat' ((conv => whnf); first | refine go ?_ | (refine VSome.mk ?_; intro gQ hA'; first | subst hA' | cases hA' | (dsimp only at hA'; subst hA')) | refine And.intro ?_ ?_ | intro _ | (first | ((show VCall _ _ _ 157 _ _); refine VCall.grow _ (fun w1 m1 => hI w1) ?_))))
      all_goals (conv => whnf)
      all_goals exact VRet.sel (_, _) trivial rfl [1] (by simp) rfl
    · have hy := hin z (hr.trans (if_pos rfl))
      (repeat' ((conv => whnf); first | refine go ?_ | (refine VSome.mk ?_; intro gQ hA'; first | subst hA' | cases hA' | (dsimp only at hA'; subst hA')) | refine And.intro ?_ ?_ | intro _ | (first | ((show VCall _ _ _ 157 _ _); refine VCall.grow _ (fun w1 m1 => hI w1) ?_) | ((show VApp _ _ _ _ _ _ _); (apply VApp.pushAny; (focus ((repeat (first | exact At.here | apply At.there)); done)); (focus ((repeat (first | exact At.here | apply At.there)); done)); refine VAppPush.mk rfl rfl (by omega) (fun A' c' => ?_))))))
      all_goals (conv => whnf)
      all_goals (refine VNext.mk (k + 1, L ++ [z], _, _) hy (by show ws.length - (k + 1) < ws.length - k; omega) ?_ (OwnLe.mk [0] (by simp) (by dsimp only; rw [IL_app]; rfl)); ((conv => whnf); repeat (first | exact trivial | refine ⟨rfl, ?_⟩ | refine ⟨congrArg (Value.int .i64) (by first | omega | assumption | exact Eq.symm (by assumption)), ?_⟩)))
  · obtain rfl : k = ws.length := by omega
    have hy : numZ ws = some L := by
      rw [hZ, List.drop_eq_nil_of_le (Nat.le_refl _)]
      show some (L ++ []) = _
      rw [List.append_nil]
    rw [hy, hkl]
    (repeat' ((conv => whnf); first | refine go ?_ | (refine VSome.mk ?_; intro gQ hA'; first | subst hA' | cases hA' | (dsimp only at hA'; subst hA')) | refine And.intro ?_ ?_ | intro _))
    (conv => whnf)
    exact VRet.sel (P, cp) trivial (by rw [nuO, ← hkl]) [0] (by simp) (by rw [nuN, ← hkl]; rfl)
end Go.Proofs.YtadjhkehfklmnaaGreatDoor
namespace Go.Proofs.YtadjhkehfklmnaaGreatDoor
set_option linter.unusedSimpArgs false
set_option linter.unusedVariables false
open Go.RowKit
set_option maxRecDepth 10000
/-! ### Executing, word by word -/
theorem Co.ex_step (d : Co) (l : List Int) : d.ex wStep l = if tr (d.lock.okStep (a0 l 0)) then some ({ d with lock := d.lock.move (a0 l 0) }, wOk) else none := rfl
theorem Co.ex_go (d : Co) (l : List Int) : d.ex wGo l = some ({ d with lock := (d.lock.run (d.lock.plan (isOne (a0 l 0)))).1 }, Lib.itoa (d.lock.run (d.lock.plan (isOne (a0 l 0)))).1.level) := by unfold Co.ex; rw [if_neg (by decide), if_pos rfl]
theorem Co.ex_plan (d : Co) (l : List Int) : d.ex wPlan l = some (d, ltx (d.lock.plan (isOne (a0 l 0)))) := by unfold Co.ex; rw [if_neg (by decide), if_neg (by decide), if_pos rfl]
theorem Co.ex_head (d : Co) (l : List Int) : d.ex wHead l = some (d, Lib.itoa (d.lock.head (isOne (a0 l 0)))) := by unfold Co.ex; rw [if_neg (by decide), if_neg (by decide), if_neg (by decide), if_pos rfl]
theorem Co.ex_level (d : Co) (l : List Int) : d.ex wLevel l = some (d, Lib.itoa d.lock.level) := by unfold Co.ex; rw [if_neg (by decide), if_neg (by decide), if_neg (by decide), if_neg (by decide), if_pos rfl]
theorem Co.ex_flow (d : Co) (l : List Int) : d.ex wFlow l = if tr (bCan d.n d.ba (a0 l 0) (a0 l 1) (a0 l 2)) then some ({ d with ba := bMv d.ba (a0 l 0) (a0 l 1) (a0 l 2) }, wOk) else none := by unfold Co.ex; rw [if_neg (by decide), if_neg (by decide), if_neg (by decide), if_neg (by decide), if_neg (by decide), if_pos rfl]
theorem Co.ex_water (d : Co) (l : List Int) : d.ex wWater l = some (d, Lib.itoa (smI (fun i => (d.ba i).vol) d.n)) := by unfold Co.ex; rw [if_neg (by decide), if_neg (by decide), if_neg (by decide), if_neg (by decide), if_neg (by decide), if_neg (by decide), if_pos rfl]
theorem Co.ex_arrive (d : Co) (l : List Int) : d.ex wArrive l = if tr (aGood (d.m + 1) (insF d.wa (plc d.wa (a0 l 0) d.m 0) ⟨a0 l 0, isOne (a0 l 1), a0 l 2, a0 l 3⟩)) then some (d.arr (plc d.wa (a0 l 0) d.m 0) ⟨a0 l 0, isOne (a0 l 1), a0 l 2, a0 l 3⟩, wOk) else none := by unfold Co.ex; rw [if_neg (by decide), if_neg (by decide), if_neg (by decide), if_neg (by decide), if_neg (by decide), if_neg (by decide), if_neg (by decide), if_pos rfl]
theorem Co.ex_leave (d : Co) (l : List Int) : d.ex wLeave l = match fnd d.wa (a0 l 0) d.m with
    | some k => some (d.lve k, wOk)
    | none => none := by unfold Co.ex; rw [if_neg (by decide), if_neg (by decide), if_neg (by decide), if_neg (by decide), if_neg (by decide), if_neg (by decide), if_neg (by decide), if_neg (by decide), if_pos rfl]; cases fnd d.wa (a0 l 0) d.m <;> rfl
theorem Co.ex_bound (d : Co) (l : List Int) : d.ex wBound l = if tr (1 ≤ a0 l 0 ∧ a0 l 0 ≤ 60) then some (d, Lib.itoa (loB d.wa (a0 l 0) d.lock.high d.m)) else none := by unfold Co.ex; rw [if_neg (by decide), if_neg (by decide), if_neg (by decide), if_neg (by decide), if_neg (by decide), if_neg (by decide), if_neg (by decide), if_neg (by decide), if_neg (by decide)]; by_cases h : 1 ≤ a0 l 0 ∧ a0 l 0 ≤ 60; (rw [ite_tr h, ite_tr h, if_pos rfl]); (rw [ite_ntr h, ite_ntr h])
theorem Co.ex_delay (d : Co) (l : List Int) : d.ex wDelay l = if tr (1 ≤ a0 l 0 ∧ a0 l 0 ≤ 60) then some (d, Lib.itoa (best d.m d.wa (a0 l 0) d.lock.high d.m []).2) else none := by unfold Co.ex; rw [if_neg (by decide), if_neg (by decide), if_neg (by decide), if_neg (by decide), if_neg (by decide), if_neg (by decide), if_neg (by decide), if_neg (by decide), if_neg (by decide)]; by_cases h : 1 ≤ a0 l 0 ∧ a0 l 0 ≤ 60; (rw [ite_tr h, ite_tr h, if_neg (by decide), if_pos rfl]); (rw [ite_ntr h, ite_ntr h])
theorem Co.ex_best (d : Co) (l : List Int) : d.ex wBest l = if tr (1 ≤ a0 l 0 ∧ a0 l 0 ≤ 60) then some (d, ltx (idsOf d.wa (best d.m d.wa (a0 l 0) d.lock.high d.m []).1)) else none := by unfold Co.ex; rw [if_neg (by decide), if_neg (by decide), if_neg (by decide), if_neg (by decide), if_neg (by decide), if_neg (by decide), if_neg (by decide), if_neg (by decide), if_neg (by decide)]; by_cases h : 1 ≤ a0 l 0 ∧ a0 l 0 ≤ 60; (rw [ite_tr h, ite_tr h, if_neg (by decide), if_neg (by decide)]); (rw [ite_ntr h, ite_ntr h])
/-! ### Lines by their parts -/
noncomputable def Co.fin (d : Co) : Option (Co × List UInt8) → Co × List UInt8
  | some r => r
  | none => (d, wAsk)
noncomputable def Co.cmdW (d : Co) (w : List UInt8) (r : List (List UInt8)) : Co × List UInt8 := match (if (pat w).2 = true then rwZ (pat w).1 r else none) with
  | some l => d.fin (d.ex w l)
  | none => (d, wAsk)
theorem Co.cmd_sps {line w : List UInt8} {r : List (List UInt8)} (h : sps 32 line = w :: r) (d : Co) : d.cmd line = d.cmdW w r := by
  unfold Co.cmd Co.cmdW parse
  rw [h]
  dsimp only
  by_cases h2 : (pat w).2 = true
  · rw [if_pos h2, if_pos h2]
    cases rwZ (pat w).1 r with
    | none => rfl
    | some l =>
      show (match d.ex w l with
        | some r => r
        | none => (d, wAsk)) = d.fin (d.ex w l)
      cases d.ex w l <;> rfl
  · rw [if_neg h2, if_neg h2]
theorem Co.cmdW_no {d : Co} {w : List UInt8} {r : List (List UInt8)} (h : (pat w).2 = true → rwZ (pat w).1 r = none) : d.cmdW w r = (d, wAsk) := by
  unfold Co.cmdW
  by_cases h2 : (pat w).2 = true
  · rw [if_pos h2, h h2]
  · rw [if_neg h2]
theorem Co.cmdW_yes {d : Co} {w : List UInt8} {r : List (List UInt8)} {l : List Int} (h1 : (pat w).2 = true) (h : rwZ (pat w).1 r = some l) : d.cmdW w r = d.fin (d.ex w l) := by
  unfold Co.cmdW
  rw [if_pos h1, h]
theorem pat_all (w : List UInt8) : ((w = wLevel ∨ w = wWater) ∧ pat w = ([], true)) ∨ ((w = wStep ∨ w = wLeave ∨ w = wBest ∨ w = wDelay ∨ w = wBound) ∧ pat w = ([110], true)) ∨ ((w = wGo ∨ w = wPlan ∨ w = wHead) ∧ pat w = ([115], true)) ∨ (w = wFlow ∧ pat w = ([110, 110, 110], true)) ∨ (w = wArrive ∧ pat w = ([110, 119, 110, 110], true)) ∨ ((¬ w = wLevel ∧ ¬ w = wWater ∧ ¬ w = wStep ∧ ¬ w = wLeave ∧ ¬ w = wBest ∧ ¬ w = wDelay ∧ ¬ w = wBound ∧ ¬ w = wGo ∧ ¬ w = wPlan ∧ ¬ w = wHead ∧ ¬ w = wFlow ∧ ¬ w = wArrive) ∧ pat w = ([], false)) := by
  by_cases h1 : w = wLevel ∨ w = wWater
  · exact .inl ⟨h1, by unfold pat; rw [if_pos h1]⟩
  by_cases h2 : w = wStep ∨ w = wLeave ∨ w = wBest ∨ w = wDelay ∨ w = wBound
  · exact .inr (.inl ⟨h2, by unfold pat; rw [if_neg h1, if_pos h2]⟩)
  by_cases h3 : w = wGo ∨ w = wPlan ∨ w = wHead
  · exact .inr (.inr (.inl ⟨h3, by unfold pat; rw [if_neg h1, if_neg h2, if_pos h3]⟩))
  by_cases h4 : w = wFlow
  · exact .inr (.inr (.inr (.inl ⟨h4, by unfold pat; rw [if_neg h1, if_neg h2, if_neg h3, if_pos h4]⟩)))
  by_cases h5 : w = wArrive
  · exact .inr (.inr (.inr (.inr (.inl ⟨h5, by unfold pat; rw [if_neg h1, if_neg h2, if_neg h3, if_neg h4, if_pos h5]⟩))))
  · refine .inr (.inr (.inr (.inr (.inr ⟨?_, by unfold pat; rw [if_neg h1, if_neg h2, if_neg h3, if_neg h4, if_neg h5]⟩))))
    simp only [not_or] at h1 h2 h3
    exact ⟨h1.1, h1.2, h2.1, h2.2.1, h2.2.2.1, h2.2.2.2.1, h2.2.2.2.2, h3.1, h3.2.1, h3.2.2, h4, h5⟩
theorem rwZ_no_len {ps : List UInt8} {ws : List (List UInt8)} (h : ¬ ws.length = ps.length) : rwZ ps ws = none := by
  cases e : rwZ ps ws with
  | none => rfl
  | some l => exact absurd (rwZ_len e).1 h
theorem rwZ_one (p : UInt8) (x : List UInt8) : rwZ [p] [x] = (rw1 p x).map fun y => [y] := by
  rw [rwZ_cons]
  cases rw1 p x <;> rfl
theorem rd_high : rdV wHigh = (0, false) := rdV_no_digit (k := 0) (by decide) (by decide)
theorem rd_low : rdV wLow = (0, false) := rdV_no_digit (k := 0) (by decide) (by decide)
theorem rw_num (x : List UInt8) : rw1 110 x = if (rdV x).2 = true then some (rdV x).1 else none := rw1_num rfl
def sideW (hi : Bool) : List UInt8 := if hi then wHigh else wLow
theorem rd_side (hi : Bool) : rdV (sideW hi) = (0, false) := by cases hi; exact rd_low; exact rd_high
theorem rw_side (hi : Bool) : rw1 115 (sideW hi) = some (if hi then 1 else 0) := by cases hi <;> rfl
theorem one_side (hi : Bool) : isOne (a0 [if hi then 1 else 0] 0) = hi := by cases hi <;> rfl
/-- A command with a side. -/
noncomputable def Co.sideV (d : Co) (w : List UInt8) (hi : Bool) : Co × List UInt8 :=
  if w = wPlan then (d, ltx (d.lock.plan hi)) else if w = wHead then (d, Lib.itoa (d.lock.head hi)) else if w = wGo then ({ d with lock := (d.lock.run (d.lock.plan hi)).1 }, Lib.itoa (d.lock.run (d.lock.plan hi)).1.level) else (d, wAsk)
theorem Co.cmdW_side (d : Co) (w : List UInt8) (hi : Bool) : d.cmdW w [sideW hi] = d.sideV w hi := by
  have hn : rwZ [110] [sideW hi] = none := by rw [rwZ_one, rw_num, rd_side]; rfl
  have hy : rwZ [115] [sideW hi] = some [if hi then 1 else 0] := by rw [rwZ_one, rw_side]; rfl
  rcases pat_all w with ⟨h, hp⟩ | ⟨h, hp⟩ | ⟨h, hp⟩ | ⟨h, hp⟩ | ⟨h, hp⟩ | ⟨h, hp⟩
  · rw [Co.cmdW_no fun _ => by rw [hp]; exact rwZ_no_len (by show ¬ (1 = 0); decide)]
    rcases h with h | h <;> (subst h; unfold Co.sideV; rw [if_neg (by decide), if_neg (by decide), if_neg (by decide)])
  · rw [Co.cmdW_no fun _ => by rw [hp]; exact hn]
    rcases h with h | h | h | h | h <;> (subst h; unfold Co.sideV; rw [if_neg (by decide), if_neg (by decide), if_neg (by decide)])
  · rw [Co.cmdW_yes (by rw [hp]) (by rw [hp]; exact hy)]
    rcases h with h | h | h
    · subst h; rw [Co.ex_go, one_side]; rfl
    · subst h; rw [Co.ex_plan, one_side]; rfl
    · subst h; rw [Co.ex_head, one_side]; rfl
  · rw [Co.cmdW_no fun _ => by rw [hp]; exact rwZ_no_len (by show ¬ (1 = 3); decide)]
    subst h; unfold Co.sideV; rw [if_neg (by decide), if_neg (by decide), if_neg (by decide)]
  · rw [Co.cmdW_no fun _ => by rw [hp]; exact rwZ_no_len (by show ¬ (1 = 4); decide)]
    subst h; unfold Co.sideV; rw [if_neg (by decide), if_neg (by decide), if_neg (by decide)]
  · rw [Co.cmdW_no fun q => by rw [hp] at q; exact absurd q (by decide)]
    obtain ⟨_, _, _, _, _, _, _, h8, h9, h10, _⟩ := h
    unfold Co.sideV; rw [if_neg h9, if_neg h10, if_neg h8]
theorem sps_single {c : UInt8} {l p : List UInt8} (h : sps c l = [p]) : l = p := by
  by_cases hc : c ∈ l
  · obtain ⟨e, hn⟩ := bfs_yes hc
    have e2 : sps c l = bfs c l :: sps c (afs c l) := by
      conv => lhs; rw [e]
      exact sps_cons hn
    rw [e2] at h
    injection h with h1 h2
    have := sps_ne c (afs c l)
    rw [h2] at this
    simp at this
  · rw [sps_none hc] at h
    injection h
theorem Co.cmd_level (d : Co) : d.cmd wLevel = (d, Lib.itoa d.lock.level) := by
  rw [Co.cmd_sps (w := wLevel) (r := []) (sps_none (by decide)) d, Co.cmdW_yes (l := []) rfl rfl, Co.ex_level]
  rfl
theorem Co.cmd_water (d : Co) : d.cmd wWater = (d, Lib.itoa (smI (fun i => (d.ba i).vol) d.n)) := by
  rw [Co.cmd_sps (w := wWater) (r := []) (sps_none (by decide)) d, Co.cmdW_yes (l := []) rfl rfl, Co.ex_water]
  rfl
/-- An arrival. -/
noncomputable def Co.arrV (d : Co) (a : Aw) : Co × List UInt8 := if tr (aGood (d.m + 1) (insF d.wa (plc d.wa a.id d.m 0) a)) then (d.arr (plc d.wa a.id d.m 0) a, wOk) else (d, wAsk)
theorem Co.arrV_yes {d : Co} {a : Aw} (h : aGood (d.m + 1) (insF d.wa (plc d.wa a.id d.m 0) a)) : d.arrV a = (d.arr (plc d.wa a.id d.m 0) a, wOk) := ite_tr h
theorem Co.arrV_no {d : Co} {a : Aw} (h : ¬ aGood (d.m + 1) (insF d.wa (plc d.wa a.id d.m 0) a)) : d.arrV a = (d, wAsk) := ite_ntr h
def wayW (up : Bool) : List UInt8 := if up then wUp else wDown
theorem rw_way (up : Bool) : rw1 119 (wayW up) = some (if up then 1 else 0) := by cases up <;> rfl
theorem one_way (up : Bool) : isOne (if up then 1 else 0) = up := by cases up <;> rfl
theorem rwZ_four (x y z : List UInt8) (up : Bool) : rwZ [110, 119, 110, 110] [x, wayW up, y, z] = (numZ [x, y, z]).map fun l => [a0 l 0, if up then 1 else 0, a0 l 1, a0 l 2] := by
  unfold numZ
  show rwZ [110, 119, 110, 110] [x, wayW up, y, z] = (rwZ [110, 110, 110] [x, y, z]).map _
  simp only [rwZ_cons, rw_way]
  cases rw1 110 x <;> cases rw1 110 y <;> cases rw1 110 z <;> rfl
theorem Co.cmdW_arr_no {d : Co} {x y z : List UInt8} {up : Bool} (h : numZ [x, y, z] = none) : d.cmdW wArrive [x, wayW up, y, z] = (d, wAsk) :=
  Co.cmdW_no fun _ => by
    show rwZ [110, 119, 110, 110] [x, wayW up, y, z] = none
    rw [rwZ_four, h]; rfl
theorem Co.cmdW_arr {d : Co} {x y z : List UInt8} {up : Bool} {l : List Int} (h : numZ [x, y, z] = some l) : d.cmdW wArrive [x, wayW up, y, z] = d.arrV ⟨a0 l 0, up, a0 l 1, a0 l 2⟩ := by
  rw [Co.cmdW_yes (l := [a0 l 0, if up then 1 else 0, a0 l 1, a0 l 2]) rfl (by
    show rwZ [110, 119, 110, 110] [x, wayW up, y, z] = _
    rw [rwZ_four, h]; rfl), Co.ex_arrive]
  show d.fin (if tr (aGood (d.m + 1) (insF d.wa (plc d.wa (a0 l 0) d.m 0) ⟨a0 l 0, isOne (if up then 1 else 0), a0 l 1, a0 l 2⟩)) = true then some (d.arr (plc d.wa (a0 l 0) d.m 0) ⟨a0 l 0, isOne (if up then 1 else 0), a0 l 1, a0 l 2⟩, wOk) else none) = _
  rw [one_way]
  by_cases hg : aGood (d.m + 1) (insF d.wa (plc d.wa (a0 l 0) d.m 0) ⟨a0 l 0, up, a0 l 1, a0 l 2⟩)
  · rw [ite_tr hg, Co.arrV_yes hg]; rfl
  · rw [ite_ntr hg, Co.arrV_no hg]; rfl
theorem numZ_cons_no {x : List UInt8} {ws : List (List UInt8)} (h : numZ (x :: ws) = none) : rw1 110 x = none ∨ numZ ws = none := by
  unfold numZ at h ⊢
  rw [rwZ_rep_cons, rwZ_cons] at h
  cases e : rw1 110 x with
  | none => exact .inl rfl
  | some y =>
    right
    rw [e] at h
    cases e2 : rwZ (List.replicate ws.length 110) ws with
    | none => rfl
    | some l => rw [e2] at h; cases h
/-- The words behind the first are not all numbers, and no side or way stands where one may. -/
theorem Co.cmdW_num_no {d : Co} {w : List UInt8} {r : List (List UInt8)} (h : numZ r = none) (h1 : ∀ hi, ¬ r = [sideW hi]) (h2 : ∀ x up y z, w = wArrive → ¬ r = [x, wayW up, y, z]) : d.cmdW w r = (d, wAsk) := by
  refine Co.cmdW_no fun hw => ?_
  rcases pat_all w with ⟨_, hp⟩ | ⟨_, hp⟩ | ⟨_, hp⟩ | ⟨_, hp⟩ | ⟨e, hp⟩ | ⟨_, hp⟩
  · rw [hp]
    cases r with
    | nil => cases h
    | cons x r => rfl
  · rw [hp]
    by_cases hl : r.length = 1
    · rw [show ([110] : List UInt8) = List.replicate r.length 110 by rw [hl]; rfl]; exact h
    · exact rwZ_no_len hl
  · rw [hp]
    by_cases hl : r.length = 1
    · obtain ⟨x, rfl⟩ := List.length_eq_one_iff.1 hl
      rw [rwZ_one, rw1_side rfl, if_neg (fun e => h1 false (by rw [e]; rfl)), if_neg (fun e => h1 true (by rw [e]; rfl))]
      rfl
    · exact rwZ_no_len hl
  · rw [hp]
    by_cases hl : r.length = 3
    · rw [show ([110, 110, 110] : List UInt8) = List.replicate r.length 110 by rw [hl]; rfl]; exact h
    · exact rwZ_no_len hl
  · rw [hp]
    by_cases hl : r.length = 4
    · match r, hl with
      | [x, v, y, z], _ =>
        have hv : rw1 119 v = none := by
          rw [rw1_way (by decide) (by decide), if_neg (fun q => h2 x false y z e (by rw [q]; rfl)), if_neg (fun q => h2 x true y z e (by rw [q]; rfl))]
        rw [rwZ_cons, rwZ_none hv]
        cases rw1 110 x <;> rfl
    · exact rwZ_no_len hl
  · rw [hp] at hw
    cases hw
/-- All numbers. -/
theorem Co.cmdW_num {d : Co} {w : List UInt8} {r : List (List UInt8)} {l : List Int} (h : numZ r = some l) (hw : w = wFlow ∧ r.length = 3 ∨ (w = wStep ∨ w = wLeave ∨ w = wBest ∨ w = wDelay ∨ w = wBound) ∧ r.length = 1) : d.cmdW w r = d.fin (d.ex w l) := by
  rcases hw with ⟨rfl, hl⟩ | ⟨hw, hl⟩
  · exact Co.cmdW_yes rfl (by
      show rwZ [110, 110, 110] r = _
      rw [show ([110, 110, 110] : List UInt8) = List.replicate r.length 110 by rw [hl]; rfl]; exact h)
  · have hp : pat w = ([110], true) := by unfold pat; rw [if_neg, if_pos hw]; rcases hw with e | e | e | e | e <;> (subst e; decide)
    exact Co.cmdW_yes (by rw [hp]) (by rw [hp, show ([110] : List UInt8) = List.replicate r.length 110 by rw [hl]; rfl]; exact h)
theorem numZ_rd {x : List UInt8} {ws : List (List UInt8)} {l : List Int} (h : numZ (x :: ws) = some l) : (rdV x).2 = true ∧ l = (rdV x).1 :: l.tail ∧ numZ ws = some l.tail := by
  unfold numZ at h ⊢
  rw [rwZ_rep_cons, rwZ_cons, rw_num] at h
  by_cases e : (rdV x).2 = true
  · rw [if_pos e] at h
    cases e2 : rwZ (List.replicate ws.length 110) ws with
    | none => rw [e2] at h; cases h
    | some l2 => rw [e2] at h; cases h; exact ⟨e, rfl, rfl⟩
  · rw [if_neg e] at h; cases h
/-- All numbers, and no such command. -/
theorem Co.cmdW_num_out {d : Co} {w : List UInt8} {r : List (List UInt8)} {l : List Int} (h : numZ r = some l) (h0 : ¬ (r.length = 0 ∧ (w = wLevel ∨ w = wWater))) (hw : ¬ (w = wFlow ∧ r.length = 3 ∨ (w = wStep ∨ w = wLeave ∨ w = wBest ∨ w = wDelay ∨ w = wBound) ∧ r.length = 1)) : d.cmdW w r = (d, wAsk) := by
  refine Co.cmdW_no fun hq => ?_
  rcases pat_all w with ⟨e, hp⟩ | ⟨e, hp⟩ | ⟨e, hp⟩ | ⟨e, hp⟩ | ⟨e, hp⟩ | ⟨e, hp⟩
  · rw [hp]; exact rwZ_no_len fun hl => h0 ⟨hl, e⟩
  · rw [hp]; exact rwZ_no_len fun hl => hw (.inr ⟨e, hl⟩)
  · rw [hp]
    by_cases hl : r.length = 1
    · obtain ⟨x, rfl⟩ := List.length_eq_one_iff.1 hl
      have hx := (numZ_rd h).1
      rw [rwZ_one, rw1_side rfl, if_neg (fun q => by rw [q, rd_low] at hx; cases hx), if_neg (fun q => by rw [q, rd_high] at hx; cases hx)]
      rfl
    · exact rwZ_no_len hl
  · rw [hp]; exact rwZ_no_len fun hl => hw (.inl ⟨e, hl⟩)
  · rw [hp]
    by_cases hl : r.length = 4
    · match r, hl with
      | [x, v, y, z], _ =>
        have hx := (numZ_rd (numZ_rd h).2.2).1
        have hv : rw1 119 v = none := by
          rw [rw1_way (by decide) (by decide), if_neg (fun q => by rw [q, show rdV wDown = (0, false) from rdV_no_digit (k := 0) (by decide) (by decide)] at hx; cases hx), if_neg (fun q => by rw [q, show rdV wUp = (0, false) from rdV_no_digit (k := 0) (by decide) (by decide)] at hx; cases hx)]
        rw [rwZ_cons, rwZ_none hv]
        cases rw1 110 x <;> rfl
    · exact rwZ_no_len hl
  · rw [hp] at hq; cases hq
end Go.Proofs.YtadjhkehfklmnaaGreatDoor
namespace Go.Proofs.YtadjhkehfklmnaaGreatDoor
set_option linter.unusedSimpArgs false
set_option linter.unusedVariables false
open Go.RowKit
set_option maxRecDepth 10000
theorem Lo.step_safe_no {s : Lo} {c : Int} (h : ¬ s.safe) : ¬ s.okStep c := fun h2 => h h2.1
theorem iStep_v (s : Lo) (c : Int) (w : World) : Calls Tryz.prog 141 #[.agg s.cells.toArray, .int .i64 c] w (Post (.tuple #[.agg (s.step c).cells.toArray, .bool (tr (s.okStep c))]) w) := by
  refine post_of_vc ?_
  refine calls_of_vc tb_ok (args := [.agg s.cells.toArray, .int .i64 c]) Tryz.func141 rfl ?_
  by_cases hs : s.safe
  · have hS := fun w => iSafe_v s w
    rw [tr_yes hs] at hS
    have hc := fun w => istep_v s c w hs
    generalize s.step c = t at *
    generalize tr (s.okStep c) = b at *
    cases b
    all_goals ((repeat' ((conv => whnf); first | refine go ?_ | (refine VSome.mk ?_; intro gQ hA'; first | subst hA' | cases hA' | (dsimp only at hA'; subst hA')) | refine And.intro ?_ ?_ | intro _ | (first | ((show VCall _ _ _ 87 _ _); refine VCall.grow _ (fun w1 _ => hS w1) ?_) | ((show VCall _ _ _ 176 _ _); refine VCall.grow _ (fun w1 _ => hc w1) ?_)))))
    all_goals ((conv => whnf); refine VRet.mk fun w' m => ?_)
    all_goals exact ⟨rfl, m.keeps.below⟩
  · have hS := fun w => iSafe_v s w
    rw [tr_no hs] at hS
    (repeat' ((conv => whnf); first | refine go ?_ | (refine VSome.mk ?_; intro gQ hA'; first | subst hA' | cases hA' | (dsimp only at hA'; subst hA')) | refine And.intro ?_ ?_ | intro _ | (first | ((show VCall _ _ _ 87 _ _); refine VCall.grow _ (fun w1 _ => hS w1) ?_))))
    (conv => whnf); refine VRet.mk fun w' m => ?_
    exact ⟨Lo.gate_no (Lo.step_safe_no hs) rfl, m.keeps.below⟩
set_option maxHeartbeats 1600000 in
theorem sWait_v (s : Lo) (w : World) (hs : s.safe) : Calls Tryz.prog 167 #[.agg s.cells.toArray] w (Post (.agg (s.move 9).cells.toArray) w) := by
  have hx := id hs
  unfold Lo.safe at hx
  refine post_of_vc ?_
  refine calls_of_vc tb_ok (args := [.agg s.cells.toArray]) Tryz.func167 rfl ?_
  (repeat' ((conv => whnf); first | refine go ?_ | (refine VSome.mk ?_; intro gQ hA'; first | subst hA' | cases hA' | (dsimp only at hA'; subst hA')) | refine And.intro ?_ ?_ | intro _ | (first | ((show VCall _ _ _ 166 _ _); refine VCall.grow _ (fun w1 _ => l1Most_v _ _ w1) ?_) | ((show VCall _ _ _ 203 _ _); refine VCall.grow _ (fun w1 _ => l1Least_v _ _ w1) ?_))))
  all_goals first | (exfalso; exact Lo.lp_hp hs (by assumption) (by assumption)) | skip
  all_goals ((conv => whnf); refine VRet.mk fun w' m => ?_)
  all_goals refine ⟨?_, m.keeps.below⟩
  all_goals first
    | (rw [← Lo.wait_lp (x := mx s.lower (s.level - 50)) hs (by assumption) rfl]; rfl)
    | (rw [← Lo.wait_hp (x := mn s.upper (s.level + 50)) (by assumption) (by assumption) rfl]; rfl)
    | (rw [← Lo.wait_none (by assumption) (by assumption)]; rfl)
theorem Lo.eq_cells {s t : Lo} (h : ¬ (s.lower = t.lower ∧ s.upper = t.upper ∧ s.level = t.level ∧ s.lg = t.lg ∧ s.hg = t.hg ∧ s.lp = t.lp ∧ s.hp = t.hp)) : ¬ s = t := fun e => by subst e; exact h ⟨rfl, rfl, rfl, rfl, rfl, rfl, rfl⟩
set_option maxHeartbeats 8000000 in
theorem sTurn_v (s : Lo) (c : Int) (w : World) (h1 : 1 ≤ c) (h2 : c ≤ 8) : Calls Tryz.prog 168 #[.agg s.cells.toArray, .int .i64 c] w (Post (.tuple #[.agg (s.move c).cells.toArray, .bool (tr (¬ s.move c = s))]) w) := by
  refine post_of_vc ?_
  have hc : c = 1 ∨ c = 2 ∨ c = 3 ∨ c = 4 ∨ c = 5 ∨ c = 6 ∨ c = 7 ∨ c = 8 := by omega
  rcases hc with rfl | rfl | rfl | rfl | rfl | rfl | rfl | rfl
  all_goals (refine calls_of_vc tb_ok (args := [.agg s.cells.toArray, .int .i64 _]) Tryz.func168 rfl ?_)
  all_goals ((repeat' ((conv => whnf); first | refine go ?_ | (refine VSome.mk ?_; intro gQ hA'; first | subst hA' | cases hA' | (dsimp only at hA'; subst hA')) | refine And.intro ?_ ?_ | intro _ | (first | ((show VRem _ _ _); refine VRem.nn (by omega) (by omega) ?_) | ((show VDraw _ _ _ _ _ _); refine VDraw.mk (.take 0 (.take 1 (.take 2 (.take 3 (.br 4 (.take 5 .done) .done))))) [0, 2] (by kernel_rfl) (by kernel_rfl) ?_)))))
  all_goals ((conv => whnf); refine VRet.mk fun w' m => ?_)
  all_goals refine ⟨?_, m.keeps.below⟩
  all_goals first
    | (rw [tr_no (fun h => h (Lo.set_lg (by first | assumption | exact Eq.symm (by assumption))))]; rfl)
    | (rw [tr_no (fun h => h (Lo.set_hg (by first | assumption | exact Eq.symm (by assumption))))]; rfl)
    | (rw [tr_no (fun h => h (Lo.set_lp (by first | assumption | exact Eq.symm (by assumption))))]; rfl)
    | (rw [tr_no (fun h => h (Lo.set_hp (by first | assumption | exact Eq.symm (by assumption))))]; rfl)
    | (rw [tr_yes (fun e => absurd (congrArg Lo.lg e) (by assumption))]; rfl)
    | (rw [tr_yes (fun e => absurd (congrArg Lo.hg e) (by assumption))]; rfl)
    | (rw [tr_yes (fun e => absurd (congrArg Lo.lp e) (by assumption))]; rfl)
    | (rw [tr_yes (fun e => absurd (congrArg Lo.hp e) (by assumption))]; rfl)
set_option maxHeartbeats 1600000 in
theorem sStep_v (s : Lo) (c : Int) (w : World) : Calls Tryz.prog 133 #[.agg s.cells.toArray, .int .i64 c] w (Post (.tuple #[.agg (s.step c).cells.toArray, .bool (tr (s.okStep c))]) w) := by
  refine post_of_vc ?_
  refine calls_of_vc tb_ok (args := [.agg s.cells.toArray, .int .i64 c]) Tryz.func133 rfl ?_
  by_cases hs : s.safe
  · have hS := fun w => sSafe_v s w
    rw [tr_yes hs] at hS
    by_cases hc : 1 ≤ c ∧ c ≤ 9
    · have hI := fun w => l1In_v c 1 9 w
      rw [tr_yes hc] at hI
      by_cases h9 : c = 9
      · subst h9
        (repeat' ((conv => whnf); first | refine go ?_ | (refine VSome.mk ?_; intro gQ hA'; first | subst hA' | cases hA' | (dsimp only at hA'; subst hA')) | refine And.intro ?_ ?_ | intro _ | (first | ((show VCall _ _ _ 91 _ _); refine VCall.grow _ (fun w1 _ => hS w1) ?_) | ((show VCall _ _ _ 109 _ _); refine VCall.grow _ (fun w1 _ => hI w1) ?_) | ((show VCall _ _ _ 167 _ _); refine VCall.grow _ (fun w1 _ => sWait_v s w1 hs) ?_))))
        (conv => whnf); refine VRet.mk fun w' m => ?_
        exact ⟨Lo.gate_yes (Lo.ok_wait hs) rfl, m.keeps.below⟩
      · have hT := fun w => sTurn_v s c w hc.1 (by omega)
        (repeat' ((conv => whnf); first | refine go ?_ | (refine VSome.mk ?_; intro gQ hA'; first | subst hA' | cases hA' | (dsimp only at hA'; subst hA')) | refine And.intro ?_ ?_ | intro _ | (first | ((show VCall _ _ _ 91 [.agg s.cells.toArray] _); refine VCall.grow _ (fun w1 _ => hS w1) ?_) | ((show VCall _ _ _ 109 _ _); refine VCall.grow _ (fun w1 _ => hI w1) ?_) | ((show VCall _ _ _ 168 _ _); refine VCall.grow _ (fun w1 _ => hT w1) ?_) | ((show VCall _ _ _ 91 [.agg (s.move c).cells.toArray] _); refine VCall.test _ (fun w1 _ => sSafe_v (s.move c) w1) ?_))))
        all_goals ((conv => whnf); refine VRet.mk fun w' m => ?_)
        all_goals refine ⟨?_, m.keeps.below⟩
        all_goals first
          | (refine Lo.gate_no (Lo.no_same (by omega) (nn_tr (by assumption))) rfl; done)
          | (refine Lo.gate_no (Lo.no_bad (by omega) rfl (by assumption)) rfl; done)
          | (refine Lo.gate_yes (Lo.ok_of hs hc.1 (by omega) rfl (tr_iff.1 (by assumption)) (by assumption)) rfl; done)
    · have hI := fun w => l1In_v c 1 9 w
      rw [tr_no hc] at hI
      (repeat' ((conv => whnf); first | refine go ?_ | (refine VSome.mk ?_; intro gQ hA'; first | subst hA' | cases hA' | (dsimp only at hA'; subst hA')) | refine And.intro ?_ ?_ | intro _ | (first | ((show VCall _ _ _ 91 _ _); refine VCall.grow _ (fun w1 _ => hS w1) ?_) | ((show VCall _ _ _ 109 _ _); refine VCall.grow _ (fun w1 _ => hI w1) ?_))))
      (conv => whnf); refine VRet.mk fun w' m => ?_
      exact ⟨Lo.gate_no (Lo.no_out (by omega)) rfl, m.keeps.below⟩
  · have hS := fun w => sSafe_v s w
    rw [tr_no hs] at hS
    (repeat' ((conv => whnf); first | refine go ?_ | (refine VSome.mk ?_; intro gQ hA'; first | subst hA' | cases hA' | (dsimp only at hA'; subst hA')) | refine And.intro ?_ ?_ | intro _ | (first | ((show VCall _ _ _ 91 _ _); refine VCall.grow _ (fun w1 _ => hS w1) ?_))))
    (conv => whnf); refine VRet.mk fun w' m => ?_
    exact ⟨Lo.gate_no (Lo.step_safe_no hs) rfl, m.keeps.below⟩
/-! ### Heads and minutes -/
theorem iHead_v (s : Lo) (h : Bool) (w : World) (hs : s.safe) : Calls Tryz.prog 180 #[.agg s.cells.toArray, .bool h] w (Post (.int .i64 (s.head h)) w) := by
  have hx := id hs
  unfold Lo.safe at hx
  refine post_of_vc ?_
  cases h
  all_goals (refine calls_of_vc tb_ok (args := [.agg s.cells.toArray, .bool _]) Tryz.func180 rfl ?_)
  all_goals ((repeat' ((conv => whnf); first | refine go ?_ | (refine VSome.mk ?_; intro gQ hA'; first | subst hA' | cases hA' | (dsimp only at hA'; subst hA')) | refine And.intro ?_ ?_ | intro _)))
  all_goals ((conv => whnf); refine VRet.mk fun w' m => ?_)
  all_goals exact ⟨rfl, m.keeps.below⟩
theorem sHead_v (s : Lo) (h : Bool) (w : World) (hs : s.safe) : Calls Tryz.prog 156 #[.agg s.cells.toArray, .bool h] w (Post (.int .i64 (s.head h)) w) := by
  have hx := id hs
  unfold Lo.safe at hx
  refine post_of_vc ?_
  cases h
  all_goals (refine calls_of_vc tb_ok (args := [.agg s.cells.toArray, .bool _]) Tryz.func156 rfl ?_)
  all_goals ((repeat' ((conv => whnf); first | refine go ?_ | (refine VSome.mk ?_; intro gQ hA'; first | subst hA' | cases hA' | (dsimp only at hA'; subst hA')) | refine And.intro ?_ ?_ | intro _)))
  all_goals ((conv => whnf); refine VRet.mk fun w' m => ?_)
  all_goals exact ⟨rfl, m.keeps.below⟩
theorem Lo.head_in {s : Lo} (hs : s.safe) (h : Bool) : 0 ≤ s.head h ∧ s.head h ≤ 2000 := by
  unfold Lo.safe at hs
  unfold Lo.head
  cases h <;> simp <;> omega
theorem Lo.mins_is {s : Lo} (hs : s.safe) (h : Bool) : (s.mins h : Int) = (s.head h + 44) / 50 := by
  have := Lo.head_in hs h
  unfold Lo.mins
  omega
theorem iMins_v (s : Lo) (h : Bool) (w : World) (hs : s.safe) : Calls Tryz.prog 177 #[.agg s.cells.toArray, .bool h] w (Post (.int .i64 (s.mins h : Nat)) w) := by
  have hh := Lo.head_in hs h
  have hm := Lo.mins_is hs h
  refine post_of_vc ?_
  refine calls_of_vc tb_ok (args := [.agg s.cells.toArray, .bool h]) Tryz.func177 rfl ?_
  (repeat' ((conv => whnf); first | refine go ?_ | (refine VSome.mk ?_; intro gQ hA'; first | subst hA' | cases hA' | (dsimp only at hA'; subst hA')) | refine And.intro ?_ ?_ | intro _ | (first | ((show VCall _ _ _ 180 _ _); refine VCall.grow _ (fun w1 _ => iHead_v s h w1 hs) ?_) | ((show VQuo _ _ _); refine VQuo.nn (by split <;> omega) (by omega) (by split <;> omega) ?_))))
  all_goals ((conv => whnf); refine VRet.mk fun w' m => ?_)
  all_goals refine ⟨congrArg (Value.int .i64) ?_, m.keeps.below⟩
  all_goals (rw [hm]; split <;> omega)
theorem sMins_v (s : Lo) (h : Bool) (w : World) (hs : s.safe) : Calls Tryz.prog 190 #[.agg s.cells.toArray, .bool h] w (Post (.int .i64 (s.mins h : Nat)) w) := by
  have hh := Lo.head_in hs h
  have hm := Lo.mins_is hs h
  have hx : (mx 0 (s.head h - 5) = 0 ∧ s.head h ≤ 5) ∨ (mx 0 (s.head h - 5) = s.head h - 5 ∧ 5 ≤ s.head h) := by unfold mx; split <;> omega
  refine post_of_vc ?_
  refine calls_of_vc tb_ok (args := [.agg s.cells.toArray, .bool h]) Tryz.func190 rfl ?_
  (repeat' ((conv => whnf); first | refine go ?_ | (refine VSome.mk ?_; intro gQ hA'; first | subst hA' | cases hA' | (dsimp only at hA'; subst hA')) | refine And.intro ?_ ?_ | intro _ | (first | ((show VCall _ _ _ 156 _ _); refine VCall.grow _ (fun w1 _ => sHead_v s h w1 hs) ?_) | ((show VCall _ _ _ 166 _ _); refine VCall.grow _ (fun w1 _ => l1Most_v _ _ w1) ?_))))
  all_goals ((conv => whnf); refine VRet.mk fun w' m => ?_)
  all_goals refine ⟨congrArg (Value.int .i64) ?_, m.keeps.below⟩
  all_goals (rw [hm]; omega)
theorem iHeadAt_v (s : Lo) (h : Bool) (w : World) (hs : s.safe) : Calls Tryz.prog 145 #[.agg s.cells.toArray, .bool h] w (Post (.tuple #[.int .i64 (s.head h), .bool true]) w) := by
  have hS := fun w => iSafe_v s w
  rw [tr_yes hs] at hS
  refine post_of_vc ?_
  refine calls_of_vc tb_ok (args := [.agg s.cells.toArray, .bool h]) Tryz.func145 rfl ?_
  (repeat' ((conv => whnf); first | refine go ?_ | (refine VSome.mk ?_; intro gQ hA'; first | subst hA' | cases hA' | (dsimp only at hA'; subst hA')) | refine And.intro ?_ ?_ | intro _ | (first | ((show VCall _ _ _ 87 _ _); refine VCall.grow _ (fun w1 _ => hS w1) ?_) | ((show VCall _ _ _ 180 _ _); refine VCall.grow _ (fun w1 _ => iHead_v s h w1 hs) ?_))))
  all_goals ((conv => whnf); refine VRet.mk fun w' m => ?_)
  all_goals exact ⟨rfl, m.keeps.below⟩
end Go.Proofs.YtadjhkehfklmnaaGreatDoor
