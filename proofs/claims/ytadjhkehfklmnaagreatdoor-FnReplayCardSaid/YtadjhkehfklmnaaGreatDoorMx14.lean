/-
  Texts joined: how the calls that the law reaches are walked, and the plain laws behind them.
  Conditions: none beyond each statement's own premises.
-/
import Derived.Test.YtadjhkehfklmnaaGreatDoorMx13
namespace Go.Proofs.YtadjhkehfklmnaaGreatDoor
set_option linter.unusedSimpArgs false
set_option linter.unusedVariables false
open Go.RowKit
set_option maxRecDepth 10000
theorem Co.ex_step (d : Co) (l : List Int) : d.ex wStep l = if tr (d.lock.okStep (a0 l 0)) then some ({ d with lock := d.lock.move (a0 l 0) }, wOk) else none := rfl
theorem Co.ex_go (d : Co) (l : List Int) : d.ex wGo l = some ({ d with lock := (d.lock.run (d.lock.plan (isOne (a0 l 0)))).1 }, Lib.itoa (d.lock.run (d.lock.plan (isOne (a0 l 0)))).1.level) := by unfold Co.ex; rw [if_neg (by decide), if_pos rfl]
theorem Co.ex_plan (d : Co) (l : List Int) : d.ex wPlan l = some (d, ltx (d.lock.plan (isOne (a0 l 0)))) := by unfold Co.ex; rw [if_neg (by decide), if_neg (by decide), if_pos rfl]
theorem Co.ex_head (d : Co) (l : List Int) : d.ex wHead l = some (d, Lib.itoa (d.lock.head (isOne (a0 l 0)))) := by unfold Co.ex; rw [if_neg (by decide), if_neg (by decide), if_neg (by decide), if_pos rfl]
theorem Co.ex_level (d : Co) (l : List Int) : d.ex wLevel l = some (d, Lib.itoa d.lock.level) := by unfold Co.ex; rw [if_neg (by decide), if_neg (by decide), if_neg (by decide), if_neg (by decide), if_pos rfl]
theorem Co.ex_flow (d : Co) (l : List Int) : d.ex wFlow l = if tr (bCan d.n d.ba (a0 l 0) (a0 l 1) (a0 l 2)) then some ({ d with ba := bMv d.ba (a0 l 0) (a0 l 1) (a0 l 2) }, wOk) else none := by unfold Co.ex; rw [if_neg (by decide), if_neg (by decide), if_neg (by decide), if_neg (by decide), if_neg (by decide), if_pos rfl]
theorem Co.ex_water (d : Co) (l : List Int) : d.ex wWater l = some (d, Lib.itoa (smI (fun i => (d.ba i).vol) d.n)) := by unfold Co.ex; rw [if_neg (by decide), if_neg (by decide), if_neg (by decide), if_neg (by decide), if_neg (by decide), if_neg (by decide), if_pos rfl]
theorem Co.ex_arrive (d : Co) (l : List Int) : d.ex wArrive l = if tr (aGood (d.m + 1) (insF d.wa (plc d.wa (a0 l 0) d.m 0) ⟨a0 l 0, isOne (a0 l 1), a0 l 2, a0 l 3⟩)) then some (d.arr (plc d.wa (a0 l 0) d.m 0) ⟨a0 l 0, isOne (a0 l 1), a0 l 2, a0 l 3⟩, wOk) else none := by unfold Co.ex; rw [if_neg (by decide), if_neg (by decide), if_neg (by decide), if_neg (by decide), if_neg (by decide), if_neg (by decide), if_neg (by decide), if_pos rfl]
theorem Co.ex_leave (d : Co) (l : List Int) : d.ex wLeave l = match fnd d.wa (a0 l 0) d.m with
    | some k => some (d.lve k, wOk)
    | none => none := by unfold Co.ex; rw [if_neg (by decide), if_neg (by decide), if_neg (by decide), if_neg (by decide), if_neg (by decide), if_neg (by decide), if_neg (by decide), if_neg (by decide), if_pos rfl]; cases fnd d.wa (a0 l 0) d.m <;> rfl
theorem Co.ex_bound (d : Co) (l : List Int) : d.ex wBound l = if tr (1 ≤ a0 l 0 ∧ a0 l 0 ≤ 60) then some (d, Lib.itoa (loB d.wa (a0 l 0) d.lock.high d.m)) else none := by unfold Co.ex; rw [if_neg (by decide), if_neg (by decide), if_neg (by decide), if_neg (by decide), if_neg (by decide), if_neg (by decide), if_neg (by decide), if_neg (by decide), if_neg (by decide)]; by_cases h : 1 ≤ a0 l 0 ∧ a0 l 0 ≤ 60; (rw [ite_tr h, ite_tr h, if_pos rfl]); (rw [ite_ntr h, ite_ntr h])
theorem Co.ex_delay (d : Co) (l : List Int) : d.ex wDelay l = if tr (1 ≤ a0 l 0 ∧ a0 l 0 ≤ 60) then some (d, Lib.itoa (best d.m d.wa (a0 l 0) d.lock.high d.m []).2) else none := by unfold Co.ex; rw [if_neg (by decide), if_neg (by decide), if_neg (by decide), if_neg (by decide), if_neg (by decide), if_neg (by decide), if_neg (by decide), if_neg (by decide), if_neg (by decide)]; by_cases h : 1 ≤ a0 l 0 ∧ a0 l 0 ≤ 60; (rw [ite_tr h, ite_tr h, if_neg (by decide), if_pos rfl]); (rw [ite_ntr h, ite_ntr h])
theorem Co.ex_best (d : Co) (l : List Int) : d.ex wBest l = if tr (1 ≤ a0 l 0 ∧ a0 l 0 ≤ 60) then some (d, ltx (idsOf d.wa (best d.m d.wa (a0 l 0) d.lock.high d.m []).1)) else none := by unfold Co.ex; rw [if_neg (by decide), if_neg (by decide), if_neg (by decide), if_neg (by decide), if_neg (by decide), if_neg (by decide), if_neg (by decide), if_neg (by decide), if_neg (by decide)]; by_cases h : 1 ≤ a0 l 0 ∧ a0 l 0 ≤ 60; (rw [ite_tr h, ite_tr h, if_neg (by decide), if_neg (by decide)]); (rw [ite_ntr h, ite_ntr h])
noncomputable def Co.fin (d : Co) : Option (Co × List UInt8) → Co × List UInt8
  | some r => r
  | none => (d, wAsk)
noncomputable def Co.cmdW (d : Co) (w : List UInt8) (r : List (List UInt8)) : Co × List UInt8 := match (if (pat w).2 = true then rwZ (pat w).1 r else none) with
  | some l => d.fin (d.ex w l)
  | none => (d, wAsk)
theorem Co.cmd_sps {line w : List UInt8} {r : List (List UInt8)} (h : sps 32 line = w :: r) (d : Co) : d.cmd line = d.cmdW w r := by
  unfold Co.cmd Co.cmdW parse
  rw [h]
  dsimp only
  by_cases h2 : (pat w).2 = true
  · rw [if_pos h2, if_pos h2]
    cases rwZ (pat w).1 r with
    | none => rfl
    | some l =>
      show (match d.ex w l with
        | some r => r
        | none => (d, wAsk)) = d.fin (d.ex w l)
      cases d.ex w l <;> rfl
  · rw [if_neg h2, if_neg h2]
theorem Co.cmdW_no {d : Co} {w : List UInt8} {r : List (List UInt8)} (h : (pat w).2 = true → rwZ (pat w).1 r = none) : d.cmdW w r = (d, wAsk) := by
  unfold Co.cmdW
  by_cases h2 : (pat w).2 = true
  · rw [if_pos h2, h h2]
  · rw [if_neg h2]
theorem Co.cmdW_yes {d : Co} {w : List UInt8} {r : List (List UInt8)} {l : List Int} (h1 : (pat w).2 = true) (h : rwZ (pat w).1 r = some l) : d.cmdW w r = d.fin (d.ex w l) := by
  unfold Co.cmdW
  rw [if_pos h1, h]
theorem pat_all (w : List UInt8) : ((w = wLevel ∨ w = wWater) ∧ pat w = ([], true)) ∨ ((w = wStep ∨ w = wLeave ∨ w = wBest ∨ w = wDelay ∨ w = wBound) ∧ pat w = ([110], true)) ∨ ((w = wGo ∨ w = wPlan ∨ w = wHead) ∧ pat w = ([115], true)) ∨ (w = wFlow ∧ pat w = ([110, 110, 110], true)) ∨ (w = wArrive ∧ pat w = ([110, 119, 110, 110], true)) ∨ ((¬ w = wLevel ∧ ¬ w = wWater ∧ ¬ w = wStep ∧ ¬ w = wLeave ∧ ¬ w = wBest ∧ ¬ w = wDelay ∧ ¬ w = wBound ∧ ¬ w = wGo ∧ ¬ w = wPlan ∧ ¬ w = wHead ∧ ¬ w = wFlow ∧ ¬ w = wArrive) ∧ pat w = ([], false)) := by
  by_cases h1 : w = wLevel ∨ w = wWater
  · exact .inl ⟨h1, by unfold pat; rw [if_pos h1]⟩
  by_cases h2 : w = wStep ∨ w = wLeave ∨ w = wBest ∨ w = wDelay ∨ w = wBound
  · exact .inr (.inl ⟨h2, by unfold pat; rw [if_neg h1, if_pos h2]⟩)
  by_cases h3 : w = wGo ∨ w = wPlan ∨ w = wHead
  · exact .inr (.inr (.inl ⟨h3, by unfold pat; rw [if_neg h1, if_neg h2, if_pos h3]⟩))
  by_cases h4 : w = wFlow
  · exact .inr (.inr (.inr (.inl ⟨h4, by unfold pat; rw [if_neg h1, if_neg h2, if_neg h3, if_pos h4]⟩)))
  by_cases h5 : w = wArrive
  · exact .inr (.inr (.inr (.inr (.inl ⟨h5, by unfold pat; rw [if_neg h1, if_neg h2, if_neg h3, if_neg h4, if_pos h5]⟩))))
  · refine .inr (.inr (.inr (.inr (.inr ⟨?_, by unfold pat; rw [if_neg h1, if_neg h2, if_neg h3, if_neg h4, if_neg h5]⟩))))
    simp only [not_or] at h1 h2 h3
    exact ⟨h1.1, h1.2, h2.1, h2.2.1, h2.2.2.1, h2.2.2.2.1, h2.2.2.2.2, h3.1, h3.2.1, h3.2.2, h4, h5⟩
theorem rwZ_no_len {ps : List UInt8} {ws : List (List UInt8)} (h : ¬ ws.length = ps.length) : rwZ ps ws = none := by
  cases e : rwZ ps ws with
  | none => rfl
  | some l => exact absurd (rwZ_len e).1 h
theorem rwZ_one (p : UInt8) (x : List UInt8) : rwZ [p] [x] = (rw1 p x).map fun y => [y] := by
  rw [rwZ_cons]
  cases rw1 p x <;> rfl
theorem rd_high : rdV wHigh = (0, false) := rdV_no_digit (k := 0) (by decide) (by decide)
theorem rd_low : rdV wLow = (0, false) := rdV_no_digit (k := 0) (by decide) (by decide)
theorem rw_num (x : List UInt8) : rw1 110 x = if (rdV x).2 = true then some (rdV x).1 else none := rw1_num rfl
def sideW (hi : Bool) : List UInt8 := if hi then wHigh else wLow
theorem rd_side (hi : Bool) : rdV (sideW hi) = (0, false) := by cases hi; exact rd_low; exact rd_high
theorem rw_side (hi : Bool) : rw1 115 (sideW hi) = some (if hi then 1 else 0) := by cases hi <;> rfl
theorem one_side (hi : Bool) : isOne (a0 [if hi then 1 else 0] 0) = hi := by cases hi <;> rfl
noncomputable def Co.sideV (d : Co) (w : List UInt8) (hi : Bool) : Co × List UInt8 :=
  if w = wPlan then (d, ltx (d.lock.plan hi)) else if w = wHead then (d, Lib.itoa (d.lock.head hi)) else if w = wGo then ({ d with lock := (d.lock.run (d.lock.plan hi)).1 }, Lib.itoa (d.lock.run (d.lock.plan hi)).1.level) else (d, wAsk)
theorem Co.cmdW_side (d : Co) (w : List UInt8) (hi : Bool) : d.cmdW w [sideW hi] = d.sideV w hi := by
  have hn : rwZ [110] [sideW hi] = none := by rw [rwZ_one, rw_num, rd_side]; rfl
  have hy : rwZ [115] [sideW hi] = some [if hi then 1 else 0] := by rw [rwZ_one, rw_side]; rfl
  rcases pat_all w with ⟨h, hp⟩ | ⟨h, hp⟩ | ⟨h, hp⟩ | ⟨h, hp⟩ | ⟨h, hp⟩ | ⟨h, hp⟩
  · rw [Co.cmdW_no fun _ => by rw [hp]; exact rwZ_no_len (by show ¬ (1 = 0); decide)]
    rcases h with h | h <;> (subst h; unfold Co.sideV; rw [if_neg (by decide), if_neg (by decide), if_neg (by decide)])
  · rw [Co.cmdW_no fun _ => by rw [hp]; exact hn]
    rcases h with h | h | h | h | h <;> (subst h; unfold Co.sideV; rw [if_neg (by decide), if_neg (by decide), if_neg (by decide)])
  · rw [Co.cmdW_yes (by rw [hp]) (by rw [hp]; exact hy)]
    rcases h with h | h | h
    · subst h; rw [Co.ex_go, one_side]; rfl
    · subst h; rw [Co.ex_plan, one_side]; rfl
    · subst h; rw [Co.ex_head, one_side]; rfl
  · rw [Co.cmdW_no fun _ => by rw [hp]; exact rwZ_no_len (by show ¬ (1 = 3); decide)]
    subst h; unfold Co.sideV; rw [if_neg (by decide), if_neg (by decide), if_neg (by decide)]
  · rw [Co.cmdW_no fun _ => by rw [hp]; exact rwZ_no_len (by show ¬ (1 = 4); decide)]
    subst h; unfold Co.sideV; rw [if_neg (by decide), if_neg (by decide), if_neg (by decide)]
  · rw [Co.cmdW_no fun q => by rw [hp] at q; exact absurd q (by decide)]
    obtain ⟨_, _, _, _, _, _, _, h8, h9, h10, _⟩ := h
    unfold Co.sideV; rw [if_neg h9, if_neg h10, if_neg h8]
theorem sps_single {c : UInt8} {l p : List UInt8} (h : sps c l = [p]) : l = p := by
  by_cases hc : c ∈ l
  · obtain ⟨e, hn⟩ := bfs_yes hc
    have e2 : sps c l = bfs c l :: sps c (afs c l) := by
      conv => lhs; rw [e]
      exact sps_cons hn
    rw [e2] at h
    injection h with h1 h2
    have := sps_ne c (afs c l)
    rw [h2] at this
    simp at this
  · rw [sps_none hc] at h
    injection h
theorem Co.cmd_level (d : Co) : d.cmd wLevel = (d, Lib.itoa d.lock.level) := by
  rw [Co.cmd_sps (w := wLevel) (r := []) (sps_none (by decide)) d, Co.cmdW_yes (l := []) rfl rfl, Co.ex_level]
  rfl
theorem Co.cmd_water (d : Co) : d.cmd wWater = (d, Lib.itoa (smI (fun i => (d.ba i).vol) d.n)) := by
  rw [Co.cmd_sps (w := wWater) (r := []) (sps_none (by decide)) d, Co.cmdW_yes (l := []) rfl rfl, Co.ex_water]
  rfl
noncomputable def Co.arrV (d : Co) (a : Aw) : Co × List UInt8 := if tr (aGood (d.m + 1) (insF d.wa (plc d.wa a.id d.m 0) a)) then (d.arr (plc d.wa a.id d.m 0) a, wOk) else (d, wAsk)
theorem Co.arrV_yes {d : Co} {a : Aw} (h : aGood (d.m + 1) (insF d.wa (plc d.wa a.id d.m 0) a)) : d.arrV a = (d.arr (plc d.wa a.id d.m 0) a, wOk) := ite_tr h
theorem Co.arrV_no {d : Co} {a : Aw} (h : ¬ aGood (d.m + 1) (insF d.wa (plc d.wa a.id d.m 0) a)) : d.arrV a = (d, wAsk) := ite_ntr h
def wayW (up : Bool) : List UInt8 := if up then wUp else wDown
theorem rw_way (up : Bool) : rw1 119 (wayW up) = some (if up then 1 else 0) := by cases up <;> rfl
theorem one_way (up : Bool) : isOne (if up then 1 else 0) = up := by cases up <;> rfl
theorem rwZ_four (x y z : List UInt8) (up : Bool) : rwZ [110, 119, 110, 110] [x, wayW up, y, z] = (numZ [x, y, z]).map fun l => [a0 l 0, if up then 1 else 0, a0 l 1, a0 l 2] := by
  unfold numZ
  show rwZ [110, 119, 110, 110] [x, wayW up, y, z] = (rwZ [110, 110, 110] [x, y, z]).map _
  simp only [rwZ_cons, rw_way]
  cases rw1 110 x <;> cases rw1 110 y <;> cases rw1 110 z <;> rfl
theorem Co.cmdW_arr_no {d : Co} {x y z : List UInt8} {up : Bool} (h : numZ [x, y, z] = none) : d.cmdW wArrive [x, wayW up, y, z] = (d, wAsk) :=
  Co.cmdW_no fun _ => by
    show rwZ [110, 119, 110, 110] [x, wayW up, y, z] = none
    rw [rwZ_four, h]; rfl
theorem Co.cmdW_arr {d : Co} {x y z : List UInt8} {up : Bool} {l : List Int} (h : numZ [x, y, z] = some l) : d.cmdW wArrive [x, wayW up, y, z] = d.arrV ⟨a0 l 0, up, a0 l 1, a0 l 2⟩ := by
  rw [Co.cmdW_yes (l := [a0 l 0, if up then 1 else 0, a0 l 1, a0 l 2]) rfl (by
    show rwZ [110, 119, 110, 110] [x, wayW up, y, z] = _
    rw [rwZ_four, h]; rfl), Co.ex_arrive]
  show d.fin (if tr (aGood (d.m + 1) (insF d.wa (plc d.wa (a0 l 0) d.m 0) ⟨a0 l 0, isOne (if up then 1 else 0), a0 l 1, a0 l 2⟩)) = true then some (d.arr (plc d.wa (a0 l 0) d.m 0) ⟨a0 l 0, isOne (if up then 1 else 0), a0 l 1, a0 l 2⟩, wOk) else none) = _
  rw [one_way]
  by_cases hg : aGood (d.m + 1) (insF d.wa (plc d.wa (a0 l 0) d.m 0) ⟨a0 l 0, up, a0 l 1, a0 l 2⟩)
  · rw [ite_tr hg, Co.arrV_yes hg]; rfl
  · rw [ite_ntr hg, Co.arrV_no hg]; rfl
theorem Co.cmdW_num_no {d : Co} {w : List UInt8} {r : List (List UInt8)} (h : numZ r = none) (h1 : ∀ hi, ¬ r = [sideW hi]) (h2 : ∀ x up y z, w = wArrive → ¬ r = [x, wayW up, y, z]) : d.cmdW w r = (d, wAsk) := by
  refine Co.cmdW_no fun hw => ?_
  rcases pat_all w with ⟨_, hp⟩ | ⟨_, hp⟩ | ⟨_, hp⟩ | ⟨_, hp⟩ | ⟨e, hp⟩ | ⟨_, hp⟩
  · rw [hp]
    cases r with
    | nil => cases h
    | cons x r => rfl
  · rw [hp]
    by_cases hl : r.length = 1
    · rw [show ([110] : List UInt8) = List.replicate r.length 110 by rw [hl]; rfl]; exact h
    · exact rwZ_no_len hl
  · rw [hp]
    by_cases hl : r.length = 1
    · obtain ⟨x, rfl⟩ := List.length_eq_one_iff.1 hl
      rw [rwZ_one, rw1_side rfl, if_neg (fun e => h1 false (by rw [e]; rfl)), if_neg (fun e => h1 true (by rw [e]; rfl))]
      rfl
    · exact rwZ_no_len hl
  · rw [hp]
    by_cases hl : r.length = 3
    · rw [show ([110, 110, 110] : List UInt8) = List.replicate r.length 110 by rw [hl]; rfl]; exact h
    · exact rwZ_no_len hl
  · rw [hp]
    by_cases hl : r.length = 4
    · match r, hl with
      | [x, v, y, z], _ =>
        have hv : rw1 119 v = none := by
          rw [rw1_way (by decide) (by decide), if_neg (fun q => h2 x false y z e (by rw [q]; rfl)), if_neg (fun q => h2 x true y z e (by rw [q]; rfl))]
        rw [rwZ_cons, rwZ_none hv]
        cases rw1 110 x <;> rfl
    · exact rwZ_no_len hl
  · rw [hp] at hw
    cases hw
theorem Co.cmdW_num {d : Co} {w : List UInt8} {r : List (List UInt8)} {l : List Int} (h : numZ r = some l) (hw : w = wFlow ∧ r.length = 3 ∨ (w = wStep ∨ w = wLeave ∨ w = wBest ∨ w = wDelay ∨ w = wBound) ∧ r.length = 1) : d.cmdW w r = d.fin (d.ex w l) := by
  rcases hw with ⟨rfl, hl⟩ | ⟨hw, hl⟩
  · exact Co.cmdW_yes rfl (by
      show rwZ [110, 110, 110] r = _
      rw [show ([110, 110, 110] : List UInt8) = List.replicate r.length 110 by rw [hl]; rfl]; exact h)
  · have hp : pat w = ([110], true) := by unfold pat; rw [if_neg, if_pos hw]; rcases hw with e | e | e | e | e <;> (subst e; decide)
    exact Co.cmdW_yes (by rw [hp]) (by rw [hp, show ([110] : List UInt8) = List.replicate r.length 110 by rw [hl]; rfl]; exact h)
theorem numZ_rd {x : List UInt8} {ws : List (List UInt8)} {l : List Int} (h : numZ (x :: ws) = some l) : (rdV x).2 = true ∧ l = (rdV x).1 :: l.tail ∧ numZ ws = some l.tail := by
  unfold numZ at h ⊢
  rw [rwZ_rep_cons, rwZ_cons, rw_num] at h
  by_cases e : (rdV x).2 = true
  · rw [if_pos e] at h
    cases e2 : rwZ (List.replicate ws.length 110) ws with
    | none => rw [e2] at h; cases h
    | some l2 => rw [e2] at h; cases h; exact ⟨e, rfl, rfl⟩
  · rw [if_neg e] at h; cases h
theorem Co.cmdW_num_out {d : Co} {w : List UInt8} {r : List (List UInt8)} {l : List Int} (h : numZ r = some l) (h0 : ¬ (r.length = 0 ∧ (w = wLevel ∨ w = wWater))) (hw : ¬ (w = wFlow ∧ r.length = 3 ∨ (w = wStep ∨ w = wLeave ∨ w = wBest ∨ w = wDelay ∨ w = wBound) ∧ r.length = 1)) : d.cmdW w r = (d, wAsk) := by
  refine Co.cmdW_no fun hq => ?_
  rcases pat_all w with ⟨e, hp⟩ | ⟨e, hp⟩ | ⟨e, hp⟩ | ⟨e, hp⟩ | ⟨e, hp⟩ | ⟨e, hp⟩
  · rw [hp]; exact rwZ_no_len fun hl => h0 ⟨hl, e⟩
  · rw [hp]; exact rwZ_no_len fun hl => hw (.inr ⟨e, hl⟩)
  · rw [hp]
    by_cases hl : r.length = 1
    · obtain ⟨x, rfl⟩ := List.length_eq_one_iff.1 hl
      have hx := (numZ_rd h).1
      rw [rwZ_one, rw1_side rfl, if_neg (fun q => by rw [q, rd_low] at hx; cases hx), if_neg (fun q => by rw [q, rd_high] at hx; cases hx)]
      rfl
    · exact rwZ_no_len hl
  · rw [hp]; exact rwZ_no_len fun hl => hw (.inl ⟨e, hl⟩)
  · rw [hp]
    by_cases hl : r.length = 4
    · match r, hl with
      | [x, v, y, z], _ =>
        have hx := (numZ_rd (numZ_rd h).2.2).1
        have hv : rw1 119 v = none := by
          rw [rw1_way (by decide) (by decide), if_neg (fun q => by rw [q, show rdV wDown = (0, false) from rdV_no_digit (k := 0) (by decide) (by decide)] at hx; cases hx), if_neg (fun q => by rw [q, show rdV wUp = (0, false) from rdV_no_digit (k := 0) (by decide) (by decide)] at hx; cases hx)]
        rw [rwZ_cons, rwZ_none hv]
        cases rw1 110 x <;> rfl
    · exact rwZ_no_len hl
  · rw [hp] at hq; cases hq
end Go.Proofs.YtadjhkehfklmnaaGreatDoor
namespace Go.Proofs.YtadjhkehfklmnaaGreatDoor
set_option linter.unusedSimpArgs false
set_option linter.unusedVariables false
open Go.RowKit
set_option maxRecDepth 10000
def isTab (g : Nat) : Prop := g = 1 ∨ g = 0 ∨ g = 6
def Old2 (w0 : Base) : Prop := PT2 w0.w ∧ ∀ g, isTab g → g < w0.w.heap.size ∧ ¬ w0.lent g
theorem cell_heap {w w' : World} {g : Nat} (e : w'.heap[g]? = w.heap[g]?) {off : Nat} {u : Value} (h : w.cell? ⟨g, off, none⟩ = some u) : w'.cell? ⟨g, off, none⟩ = some u := by
  unfold World.cell? at h ⊢
  dsimp only at h ⊢
  rw [e]
  exact h
theorem PT2.move {w w' : World} (h : PT2 w) (e : ∀ g, isTab g → w'.heap[g]? = w.heap[g]?) : PT2 w' := by
  obtain ⟨h1, ⟨x, h2⟩, te, pe, h3⟩ := h
  refine ⟨?_, ⟨x, cell_heap (e _ (.inr (.inl rfl))) h2⟩, te, pe, cell_heap (e _ (.inr (.inr rfl))) h3⟩
  unfold PTab Lib.TabIs World.var? at h1 ⊢
  simp only [gPTab, Option.bind_some] at h1 ⊢
  rw [e _ (.inl rfl)]
  exact h1
section
variable {w0 : Base} {own : List Own} {w : World}
theorem Old2.now (h : Old2 w0) (m : Mem w0 own w) : PT2 w := h.1.move fun g hg => m.keeps.block g (h.2 g hg).1 (h.2 g hg).2
theorem Old2.lend (h : Old2 w0) (m : Mem w0 own w) (ks : List Nat) : Old2 (Base.lendL w (fixOf ks own)) := ⟨h.now m, fun g hg => ⟨Nat.lt_of_lt_of_le (h.2 g hg).1 m.keeps.size, fun hx => by
  obtain ⟨p, o, ho, hbl⟩ := hx
  obtain ⟨k, _, hk | hk⟩ := fix_get ho
  · rcases ((m.ok k o hk).lt g hbl).1 with h1 | h1
    · have := (h.2 g hg).1; omega
    · exact (h.2 g hg).2 h1
  · rw [hk] at hbl; cases hbl⟩⟩
theorem Old2.old {w : World} (h : PT2 w) : Old2 (Base.of w) := ⟨h, fun g hg => ⟨by
  obtain ⟨h1, ⟨x, h2⟩, te, pe, h3⟩ := h
  rcases hg with e | e | e
  · rw [e]; exact cell_lt (h1.cell gPTab 0 (by rw [Lib.pow10Tab_length]; omega))
  · rw [e]; exact cell_lt h2
  · rw [e]; exact cell_lt h3, fun x => x⟩⟩
end
end Go.Proofs.YtadjhkehfklmnaaGreatDoor
namespace Go.Proofs.YtadjhkehfklmnaaGreatDoor
set_option linter.unusedSimpArgs false
set_option linter.unusedVariables false
open Go.RowKit
set_option maxRecDepth 10000
theorem Lo.step_safe_no {s : Lo} {c : Int} (h : ¬ s.safe) : ¬ s.okStep c := fun h2 => h h2.1
theorem iStep_v (s : Lo) (c : Int) (w : World) : Calls Tryz.prog 141 #[.agg s.cells.toArray, .int .i64 c] w (Post (.tuple #[.agg (s.step c).cells.toArray, .bool (tr (s.okStep c))]) w) := by
  refine post_of_vc ?_
  refine calls_of_vc tb_ok (args := [.agg s.cells.toArray, .int .i64 c]) Tryz.func141 rfl ?_
  by_cases hs : s.safe
  · have hS := fun w => iSafe_v s w
    rw [tr_yes hs] at hS
    have hc := fun w => istep_v s c w hs
    generalize s.step c = t at *
    generalize tr (s.okStep c) = b at *
    cases b
    all_goals ((repeat' ((conv => whnf); first | refine go ?_ | (refine VSome.mk ?_; intro gQ hA'; first | subst hA' | cases hA' | (dsimp only at hA'; subst hA')) | refine And.intro ?_ ?_ | intro _ | (first | ((show VCall _ _ _ 87 _ _); refine VCall.grow _ (fun w1 _ => hS w1) ?_) | ((show VCall _ _ _ 176 _ _); refine VCall.grow _ (fun w1 _ => hc w1) ?_)))))
    all_goals ((conv => whnf); refine VRet.mk fun w' m => ?_)
    all_goals exact ⟨rfl, m.keeps.below⟩
  · have hS := fun w => iSafe_v s w
    rw [tr_no hs] at hS
    (repeat' ((conv => whnf); first | refine go ?_ | (refine VSome.mk ?_; intro gQ hA'; first | subst hA' | cases hA' | (dsimp only at hA'; subst hA')) | refine And.intro ?_ ?_ | intro _ | (first | ((show VCall _ _ _ 87 _ _); refine VCall.grow _ (fun w1 _ => hS w1) ?_))))
    (conv => whnf); refine VRet.mk fun w' m => ?_
    exact ⟨Lo.gate_no (Lo.step_safe_no hs) rfl, m.keeps.below⟩
set_option maxHeartbeats 1600000 in
theorem sWait_v (s : Lo) (w : World) (hs : s.safe) : Calls Tryz.prog 167 #[.agg s.cells.toArray] w (Post (.agg (s.move 9).cells.toArray) w) := by
  have hx := id hs
  unfold Lo.safe at hx
  refine post_of_vc ?_
  refine calls_of_vc tb_ok (args := [.agg s.cells.toArray]) Tryz.func167 rfl ?_
  (repeat' ((conv => whnf); first | refine go ?_ | (refine VSome.mk ?_; intro gQ hA'; first | subst hA' | cases hA' | (dsimp only at hA'; subst hA')) | refine And.intro ?_ ?_ | intro _ | (first | ((show VCall _ _ _ 166 _ _); refine VCall.grow _ (fun w1 _ => l1Most_v _ _ w1) ?_) | ((show VCall _ _ _ 203 _ _); refine VCall.grow _ (fun w1 _ => l1Least_v _ _ w1) ?_))))
  all_goals first | (exfalso; exact Lo.lp_hp hs (by assumption) (by assumption)) | skip
  all_goals ((conv => whnf); refine VRet.mk fun w' m => ?_)
  all_goals refine ⟨?_, m.keeps.below⟩
  all_goals first
    | (rw [← Lo.wait_lp (x := mx s.lower (s.level - 50)) hs (by assumption) rfl]; rfl)
    | (rw [← Lo.wait_hp (x := mn s.upper (s.level + 50)) (by assumption) (by assumption) rfl]; rfl)
    | (rw [← Lo.wait_none (by assumption) (by assumption)]; rfl)
set_option maxHeartbeats 8000000 in
theorem sTurn_v (s : Lo) (c : Int) (w : World) (h1 : 1 ≤ c) (h2 : c ≤ 8) : Calls Tryz.prog 168 #[.agg s.cells.toArray, .int .i64 c] w (Post (.tuple #[.agg (s.move c).cells.toArray, .bool (tr (¬ s.move c = s))]) w) := by
  refine post_of_vc ?_
  have hc : c = 1 ∨ c = 2 ∨ c = 3 ∨ c = 4 ∨ c = 5 ∨ c = 6 ∨ c = 7 ∨ c = 8 := by omega
  rcases hc with rfl | rfl | rfl | rfl | rfl | rfl | rfl | rfl
  all_goals (refine calls_of_vc tb_ok (args := [.agg s.cells.toArray, .int .i64 _]) Tryz.func168 rfl ?_)
  all_goals ((repeat' ((conv => whnf); first | refine go ?_ | (refine VSome.mk ?_; intro gQ hA'; first | subst hA' | cases hA' | (dsimp only at hA'; subst hA')) | refine And.intro ?_ ?_ | intro _ | (first | ((show VRem _ _ _); refine VRem.nn (by omega) (by omega) ?_) | ((show VDraw _ _ _ _ _ _); refine VDraw.mk (.take 0 (.take 1 (.take 2 (.take 3 (.br 4 (.take 5 .done) .done))))) [0, 2] (by kernel_rfl) (by kernel_rfl) ?_)))))
  all_goals ((conv => whnf); refine VRet.mk fun w' m => ?_)
  all_goals refine ⟨?_, m.keeps.below⟩
  all_goals first
    | (rw [tr_no (fun h => h (Lo.set_lg (by first | assumption | exact Eq.symm (by assumption))))]; rfl)
    | (rw [tr_no (fun h => h (Lo.set_hg (by first | assumption | exact Eq.symm (by assumption))))]; rfl)
    | (rw [tr_no (fun h => h (Lo.set_lp (by first | assumption | exact Eq.symm (by assumption))))]; rfl)
    | (rw [tr_no (fun h => h (Lo.set_hp (by first | assumption | exact Eq.symm (by assumption))))]; rfl)
    | (rw [tr_yes (fun e => absurd (congrArg Lo.lg e) (by assumption))]; rfl)
    | (rw [tr_yes (fun e => absurd (congrArg Lo.hg e) (by assumption))]; rfl)
    | (rw [tr_yes (fun e => absurd (congrArg Lo.lp e) (by assumption))]; rfl)
    | (rw [tr_yes (fun e => absurd (congrArg Lo.hp e) (by assumption))]; rfl)
set_option maxHeartbeats 1600000 in
theorem sStep_v (s : Lo) (c : Int) (w : World) : Calls Tryz.prog 133 #[.agg s.cells.toArray, .int .i64 c] w (Post (.tuple #[.agg (s.step c).cells.toArray, .bool (tr (s.okStep c))]) w) := by
  refine post_of_vc ?_
  refine calls_of_vc tb_ok (args := [.agg s.cells.toArray, .int .i64 c]) Tryz.func133 rfl ?_
  by_cases hs : s.safe
  · have hS := fun w => sSafe_v s w
    rw [tr_yes hs] at hS
    by_cases hc : 1 ≤ c ∧ c ≤ 9
    · have hI := fun w => l1In_v c 1 9 w
      rw [tr_yes hc] at hI
      by_cases h9 : c = 9
      · subst h9
        (repeat' ((conv => whnf); first | refine go ?_ | (refine VSome.mk ?_; intro gQ hA'; first | subst hA' | cases hA' | (dsimp only at hA'; subst hA')) | refine And.intro ?_ ?_ | intro _ | (first | ((show VCall _ _ _ 91 _ _); refine VCall.grow _ (fun w1 _ => hS w1) ?_) | ((show VCall _ _ _ 109 _ _); refine VCall.grow _ (fun w1 _ => hI w1) ?_) | ((show VCall _ _ _ 167 _ _); refine VCall.grow _ (fun w1 _ => sWait_v s w1 hs) ?_))))
        (conv => whnf); refine VRet.mk fun w' m => ?_
        exact ⟨Lo.gate_yes (Lo.ok_wait hs) rfl, m.keeps.below⟩
      · have hT := fun w => sTurn_v s c w hc.1 (by omega)
        (repeat' ((conv => whnf); first | refine go ?_ | (refine VSome.mk ?_; intro gQ hA'; first | subst hA' | cases hA' | (dsimp only at hA'; subst hA')) | refine And.intro ?_ ?_ | intro _ | (first | ((show VCall _ _ _ 91 [.agg s.cells.toArray] _); refine VCall.grow _ (fun w1 _ => hS w1) ?_) | ((show VCall _ _ _ 109 _ _); refine VCall.grow _ (fun w1 _ => hI w1) ?_) | ((show VCall _ _ _ 168 _ _); refine VCall.grow _ (fun w1 _ => hT w1) ?_) | ((show VCall _ _ _ 91 [.agg (s.move c).cells.toArray] _); refine VCall.test _ (fun w1 _ => sSafe_v (s.move c) w1) ?_))))
        all_goals ((conv => whnf); refine VRet.mk fun w' m => ?_)
        all_goals refine ⟨?_, m.keeps.below⟩
        all_goals first
          | (refine Lo.gate_no (Lo.no_same (by omega) (nn_tr (by assumption))) rfl; done)
          | (refine Lo.gate_no (Lo.no_bad (by omega) rfl (by assumption)) rfl; done)
          | (refine Lo.gate_yes (Lo.ok_of hs hc.1 (by omega) rfl (tr_iff.1 (by assumption)) (by assumption)) rfl; done)
    · have hI := fun w => l1In_v c 1 9 w
      rw [tr_no hc] at hI
      (repeat' ((conv => whnf); first | refine go ?_ | (refine VSome.mk ?_; intro gQ hA'; first | subst hA' | cases hA' | (dsimp only at hA'; subst hA')) | refine And.intro ?_ ?_ | intro _ | (first | ((show VCall _ _ _ 91 _ _); refine VCall.grow _ (fun w1 _ => hS w1) ?_) | ((show VCall _ _ _ 109 _ _); refine VCall.grow _ (fun w1 _ => hI w1) ?_))))
      (conv => whnf); refine VRet.mk fun w' m => ?_
      exact ⟨Lo.gate_no (Lo.no_out (by omega)) rfl, m.keeps.below⟩
  · have hS := fun w => sSafe_v s w
    rw [tr_no hs] at hS
    (repeat' ((conv => whnf); first | refine go ?_ | (refine VSome.mk ?_; intro gQ hA'; first | subst hA' | cases hA' | (dsimp only at hA'; subst hA')) | refine And.intro ?_ ?_ | intro _ | (first | ((show VCall _ _ _ 91 _ _); refine VCall.grow _ (fun w1 _ => hS w1) ?_))))
    (conv => whnf); refine VRet.mk fun w' m => ?_
    exact ⟨Lo.gate_no (Lo.step_safe_no hs) rfl, m.keeps.below⟩
theorem iHead_v (s : Lo) (h : Bool) (w : World) (hs : s.safe) : Calls Tryz.prog 180 #[.agg s.cells.toArray, .bool h] w (Post (.int .i64 (s.head h)) w) := by
  have hx := id hs
  unfold Lo.safe at hx
  refine post_of_vc ?_
  cases h
  all_goals (refine calls_of_vc tb_ok (args := [.agg s.cells.toArray, .bool _]) Tryz.func180 rfl ?_)
  all_goals ((repeat' ((conv => whnf); first | refine go ?_ | (refine VSome.mk ?_; intro gQ hA'; first | subst hA' | cases hA' | (dsimp only at hA'; subst hA')) | refine And.intro ?_ ?_ | intro _)))
  all_goals ((conv => whnf); refine VRet.mk fun w' m => ?_)
  all_goals exact ⟨rfl, m.keeps.below⟩
theorem sHead_v (s : Lo) (h : Bool) (w : World) (hs : s.safe) : Calls Tryz.prog 156 #[.agg s.cells.toArray, .bool h] w (Post (.int .i64 (s.head h)) w) := by
  have hx := id hs
  unfold Lo.safe at hx
  refine post_of_vc ?_
  cases h
  all_goals (refine calls_of_vc tb_ok (args := [.agg s.cells.toArray, .bool _]) Tryz.func156 rfl ?_)
  all_goals ((repeat' ((conv => whnf); first | refine go ?_ | (refine VSome.mk ?_; intro gQ hA'; first | subst hA' | cases hA' | (dsimp only at hA'; subst hA')) | refine And.intro ?_ ?_ | intro _)))
  all_goals ((conv => whnf); refine VRet.mk fun w' m => ?_)
  all_goals exact ⟨rfl, m.keeps.below⟩
theorem Lo.head_in {s : Lo} (hs : s.safe) (h : Bool) : 0 ≤ s.head h ∧ s.head h ≤ 2000 := by
  unfold Lo.safe at hs
  unfold Lo.head
  cases h <;> simp <;> omega
theorem Lo.mins_is {s : Lo} (hs : s.safe) (h : Bool) : (s.mins h : Int) = (s.head h + 44) / 50 := by
  have := Lo.head_in hs h
  unfold Lo.mins
  omega
theorem iMins_v (s : Lo) (h : Bool) (w : World) (hs : s.safe) : Calls Tryz.prog 177 #[.agg s.cells.toArray, .bool h] w (Post (.int .i64 (s.mins h : Nat)) w) := by
  have hh := Lo.head_in hs h
  have hm := Lo.mins_is hs h
  refine post_of_vc ?_
  refine calls_of_vc tb_ok (args := [.agg s.cells.toArray, .bool h]) Tryz.func177 rfl ?_
  (repeat' ((conv => whnf); first | refine go ?_ | (refine VSome.mk ?_; intro gQ hA'; first | subst hA' | cases hA' | (dsimp only at hA'; subst hA')) | refine And.intro ?_ ?_ | intro _ | (first | ((show VCall _ _ _ 180 _ _); refine VCall.grow _ (fun w1 _ => iHead_v s h w1 hs) ?_) | ((show VQuo _ _ _); refine VQuo.nn (by split <;> omega) (by omega) (by split <;> omega) ?_))))
  all_goals ((conv => whnf); refine VRet.mk fun w' m => ?_)
  all_goals refine ⟨congrArg (Value.int .i64) ?_, m.keeps.below⟩
  all_goals (rw [hm]; split <;> omega)
theorem sMins_v (s : Lo) (h : Bool) (w : World) (hs : s.safe) : Calls Tryz.prog 190 #[.agg s.cells.toArray, .bool h] w (Post (.int .i64 (s.mins h : Nat)) w) := by
  have hh := Lo.head_in hs h
  have hm := Lo.mins_is hs h
  have hx : (mx 0 (s.head h - 5) = 0 ∧ s.head h ≤ 5) ∨ (mx 0 (s.head h - 5) = s.head h - 5 ∧ 5 ≤ s.head h) := by unfold mx; split <;> omega
  refine post_of_vc ?_
  refine calls_of_vc tb_ok (args := [.agg s.cells.toArray, .bool h]) Tryz.func190 rfl ?_
  (repeat' ((conv => whnf); first | refine go ?_ | (refine VSome.mk ?_; intro gQ hA'; first | subst hA' | cases hA' | (dsimp only at hA'; subst hA')) | refine And.intro ?_ ?_ | intro _ | (first | ((show VCall _ _ _ 156 _ _); refine VCall.grow _ (fun w1 _ => sHead_v s h w1 hs) ?_) | ((show VCall _ _ _ 166 _ _); refine VCall.grow _ (fun w1 _ => l1Most_v _ _ w1) ?_))))
  all_goals ((conv => whnf); refine VRet.mk fun w' m => ?_)
  all_goals refine ⟨congrArg (Value.int .i64) ?_, m.keeps.below⟩
  all_goals (rw [hm]; omega)
theorem iHeadAt_v (s : Lo) (h : Bool) (w : World) (hs : s.safe) : Calls Tryz.prog 145 #[.agg s.cells.toArray, .bool h] w (Post (.tuple #[.int .i64 (s.head h), .bool true]) w) := by
  have hS := fun w => iSafe_v s w
  rw [tr_yes hs] at hS
  refine post_of_vc ?_
  refine calls_of_vc tb_ok (args := [.agg s.cells.toArray, .bool h]) Tryz.func145 rfl ?_
  (repeat' ((conv => whnf); first | refine go ?_ | (refine VSome.mk ?_; intro gQ hA'; first | subst hA' | cases hA' | (dsimp only at hA'; subst hA')) | refine And.intro ?_ ?_ | intro _ | (first | ((show VCall _ _ _ 87 _ _); refine VCall.grow _ (fun w1 _ => hS w1) ?_) | ((show VCall _ _ _ 180 _ _); refine VCall.grow _ (fun w1 _ => iHead_v s h w1 hs) ?_))))
  all_goals ((conv => whnf); refine VRet.mk fun w' m => ?_)
  all_goals exact ⟨rfl, m.keeps.below⟩
end Go.Proofs.YtadjhkehfklmnaaGreatDoor
namespace Go.Proofs.YtadjhkehfklmnaaGreatDoor
set_option linter.unusedSimpArgs false
set_option linter.unusedVariables false
open Go.RowKit
set_option maxRecDepth 10000
theorem Lo.drop_yes {t : Lo} {L : List Int} {k : Nat} (hk : k < L.length) (h : t.okStep (L.getD k 0)) : t.run (L.drop k) = (((t.step (L.getD k 0)).run (L.drop (k + 1))).1, ((t.step (L.getD k 0)).run (L.drop (k + 1))).2 + 1) := by
  have e : L.getD k 0 = L[k] := by rw [List.getD_eq_getElem?_getD, List.getElem?_eq_getElem hk]; rfl
  rw [Lo.step_yes h]
  rw [e] at h ⊢
  rw [List.drop_eq_getElem_cons hk, Lo.run_yes h]
theorem Lo.drop_no {t : Lo} {L : List Int} {k : Nat} (hk : k < L.length) (h : ¬ t.okStep (L.getD k 0)) : t.run (L.drop k) = (t, 0) := by
  have e : L.getD k 0 = L[k] := by rw [List.getD_eq_getElem?_getD, List.getElem?_eq_getElem hk]; rfl
  rw [e] at h
  rw [List.drop_eq_getElem_cons hk, Lo.run_no h]
theorem Lo.drop_end {t : Lo} {L : List Int} : t.run (L.drop L.length) = (t, 0) := by rw [List.drop_length]; rfl
def Lo.upto (s : Lo) (L : List Int) (k : Nat) (t : Lo) : Prop := t.safe ∧ s.run L = ((t.run (L.drop k)).1, k + (t.run (L.drop k)).2)
theorem Lo.upto_0 {s : Lo} {L : List Int} (h : s.safe) : s.upto L 0 s := ⟨h, by simp⟩
theorem Lo.upto_suc {s t : Lo} {L : List Int} {k : Nat} (h : s.upto L k t) (hk : k < L.length) (hc : t.okStep (L.getD k 0)) : s.upto L (k + 1) (t.step (L.getD k 0)) := by
  refine ⟨by rw [Lo.step_yes hc]; exact hc.safe, ?_⟩
  rw [h.2, Lo.drop_yes hk hc]
  simp only [Prod.mk.injEq, true_and]
  omega
theorem Lo.upto_no {s t : Lo} {L : List Int} {k : Nat} (h : s.upto L k t) (hk : k < L.length) (hc : ¬ t.okStep (L.getD k 0)) : s.run L = (t, k) := by
  rw [h.2, Lo.drop_no hk hc]; rfl
theorem Lo.upto_end {s t : Lo} {L : List Int} (h : s.upto L L.length t) : s.run L = (t, L.length) := by
  rw [h.2, Lo.drop_end]; rfl
def Lo.runV (s : Lo) (r : Int) (x : Lo × Nat) : Value := .tuple #[.agg x.1.cells.toArray, .int .i64 (x.2 : Nat), .int .i64 r]
set_option maxHeartbeats 4000000 in
theorem irun_v (s : Lo) (A : Option Addr) (c : Nat) (L : List Int) (w : World) (hs : s.safe) (hl : L.length ≤ 1048576) (hA : Seen w A (IL L)) : Calls Tryz.prog 178 #[.agg s.cells.toArray, .slice A L.length c] w fun e w' => ∃ r : Int, True ∧ Post (s.runV r (s.run L)) w e w' := by
  refine some_of_vc ?_
  refine calls_of_vc tb_ok (args := [.agg s.cells.toArray, .slice A L.length c]) Tryz.func178 rfl ?_
  (repeat' ((conv => whnf); first | refine go ?_ | (refine VSome.mk ?_; intro gQ hA'; first | subst hA' | cases hA' | (dsimp only at hA'; subst hA')) | refine And.intro ?_ ?_ | intro _))
  (conv => whnf)
  rename_i g2 g4
  refine VLoop.mk (ι := Nat × Lo × Int) [5, 6, 7, 8, 9, 10, 11, 14, 15, 16, 17, 18, 19, 20, 21, 22, 23, 24, 25, 26, 27, 28, 29, 30, 31, 32, 33, 34, 35, 36, 37, 38, 39] (fun (k, t, r) => [(14, .int .i64 (k : Nat)), (7, .int .i64 r)]) (fun (k, t, r) => [.blk g2 34 t.cells, .blk g4 34 Lo.zero.cells]) (fun i => i.1 ≤ L.length ∧ s.upto L i.1 i.2.1 ∧ 0 ≤ i.2.2 ∧ i.2.2 ≤ 2000 * (i.1 : Int)) (fun i => L.length - i.1) (0, s, 0) ⟨Nat.zero_le _, Lo.upto_0 hs, Int.le_refl _, by show (0 : Int) ≤ _; omega⟩ ?_ (OwnLe.mk [0, 1] (by simp) rfl) (fun i u hi => ?_)
  · ((conv => whnf); repeat (first | exact trivial | refine ⟨rfl, ?_⟩ | refine ⟨congrArg (Value.int .i64) (by first | omega | assumption | exact Eq.symm (by assumption)), ?_⟩))
  obtain ⟨k, t, r⟩ := i
  obtain ⟨hk, hu, hr1, hr2⟩ := hi
  replace hk : k ≤ L.length := hk
  replace hu : s.upto L k t := hu
  replace hr1 : 0 ≤ r := hr1
  replace hr2 : r ≤ 2000 * (k : Int) := hr2
  by_cases hlt : k < L.length
  · obtain ⟨b, off, rfl, hb, hc⟩ := IL_look hA hlt
    have hS := fun w => istep_v t (L.getD k 0) w hu.1
    have hx := hu.1
    unfold Lo.safe at hx
    by_cases hok : t.okStep (L.getD k 0)
    · have hn := Lo.upto_suc hu hlt hok
      have hy := hn.1
      unfold Lo.safe at hy
      rw [tr_yes hok] at hS
      generalize t.step (L.getD k 0) = t2 at *
      (repeat' ((conv => whnf); first | refine go ?_ | (refine VSome.mk ?_; intro gQ hA'; first | subst hA' | cases hA' | (dsimp only at hA'; subst hA')) | refine And.intro ?_ ?_ | intro _ | (first | ((show VCall _ _ _ 176 _ _); refine VCall.grow _ (fun w1 _ => hS w1) ?_) | ((show VIn _ _); refine VIn.mk (by split <;> omega) (by split <;> omega) ?_))))
      all_goals (conv => whnf)
      all_goals (refine VNext.mk (k + 1, t2, r + (if t2.level - t.level < 0 then 0 else t2.level - t.level)) ⟨hlt, hn, ?_, ?_⟩ (by show L.length - (k + 1) < L.length - k; omega) ?_ (OwnLe.mk [0, 1] (by simp) rfl))
      all_goals first
        | (((conv => whnf); repeat (first | exact trivial | refine ⟨rfl, ?_⟩ | refine ⟨congrArg (Value.int .i64) (by first | omega | assumption | exact Eq.symm (by assumption)), ?_⟩)); done)
        | (show (0 : Int) ≤ r + (if _ < _ then _ else _); split <;> omega)
        | (show r + (if _ < _ then _ else _) ≤ 2000 * ((k + 1 : Nat) : Int); split <;> omega)
    · rw [tr_no hok] at hS
      have hn := Lo.upto_no hu hlt hok
      generalize t.step (L.getD k 0) = t2 at *
      (repeat' ((conv => whnf); first | refine go ?_ | (refine VSome.mk ?_; intro gQ hA'; first | subst hA' | cases hA' | (dsimp only at hA'; subst hA')) | refine And.intro ?_ ?_ | intro _ | (first | ((show VCall _ _ _ 176 _ _); refine VCall.grow _ (fun w1 _ => hS w1) ?_))))
      all_goals ((conv => whnf); refine VRet.mk fun w' m => ?_)
      all_goals exact ⟨r, trivial, by rw [hn]; rfl, m.keeps.below⟩
  · obtain rfl : k = L.length := by omega
    have hn := Lo.upto_end hu
    (repeat' ((conv => whnf); first | refine go ?_ | (refine VSome.mk ?_; intro gQ hA'; first | subst hA' | cases hA' | (dsimp only at hA'; subst hA')) | refine And.intro ?_ ?_ | intro _))
    (conv => whnf); refine VRet.mk fun w' m => ?_
    exact ⟨r, trivial, by rw [hn]; rfl, m.keeps.below⟩
set_option maxHeartbeats 4000000 in
theorem srun_v (s : Lo) (A : Option Addr) (c : Nat) (L : List Int) (w : World) (hs : s.safe) (hl : L.length ≤ 1048576) (hA : Seen w A (IL L)) : Calls Tryz.prog 132 #[.agg s.cells.toArray, .slice A L.length c] w fun e w' => ∃ r : Int, True ∧ Post (s.runV r (s.run L)) w e w' := by
  refine some_of_vc ?_
  refine calls_of_vc tb_ok (args := [.agg s.cells.toArray, .slice A L.length c]) Tryz.func132 rfl ?_
  (repeat' ((conv => whnf); first | refine go ?_ | (refine VSome.mk ?_; intro gQ hA'; first | subst hA' | cases hA' | (dsimp only at hA'; subst hA')) | refine And.intro ?_ ?_ | intro _))
  (conv => whnf)
  rename_i g2 g4
  refine VLoop.mk (ι := Nat × Lo × Int) [5, 6, 7, 8, 9, 10, 11, 12, 13, 14, 15, 16, 17, 18, 19, 20, 21, 22, 23, 24, 25, 26, 27, 28, 29, 30, 31, 32, 33, 34, 35, 36, 37, 38, 39] (fun (k, t, r) => [(8, .int .i64 (k : Nat)), (7, .int .i64 r)]) (fun (k, t, r) => [.blk g2 34 t.cells, .blk g4 34 Lo.zero.cells]) (fun i => i.1 ≤ L.length ∧ s.upto L i.1 i.2.1 ∧ 0 ≤ i.2.2 ∧ i.2.2 ≤ 2000 * (i.1 : Int)) (fun i => L.length - i.1) (0, s, 0) ⟨Nat.zero_le _, Lo.upto_0 hs, Int.le_refl _, by show (0 : Int) ≤ _; omega⟩ ?_ (OwnLe.mk [0, 1] (by simp) rfl) (fun i u hi => ?_)
  · ((conv => whnf); repeat (first | exact trivial | refine ⟨rfl, ?_⟩ | refine ⟨congrArg (Value.int .i64) (by first | omega | assumption | exact Eq.symm (by assumption)), ?_⟩))
  obtain ⟨k, t, r⟩ := i
  obtain ⟨hk, hu, hr1, hr2⟩ := hi
  replace hk : k ≤ L.length := hk
  replace hu : s.upto L k t := hu
  replace hr1 : 0 ≤ r := hr1
  replace hr2 : r ≤ 2000 * (k : Int) := hr2
  by_cases hlt : k < L.length
  · obtain ⟨b, off, rfl, hb, hc⟩ := IL_look hA hlt
    have hS := fun w => sStep_v t (L.getD k 0) w
    have hx := hu.1
    unfold Lo.safe at hx
    by_cases hok : t.okStep (L.getD k 0)
    · have hn := Lo.upto_suc hu hlt hok
      have hy := hn.1
      unfold Lo.safe at hy
      rw [tr_yes hok] at hS
      generalize t.step (L.getD k 0) = t2 at *
      have hm : 0 ≤ mx 0 (t2.level - t.level) ∧ mx 0 (t2.level - t.level) ≤ 2000 := by unfold mx; split <;> omega
      (repeat' ((conv => whnf); first | refine go ?_ | (refine VSome.mk ?_; intro gQ hA'; first | subst hA' | cases hA' | (dsimp only at hA'; subst hA')) | refine And.intro ?_ ?_ | intro _ | (first | ((show VCall _ _ _ 133 _ _); refine VCall.grow _ (fun w1 _ => hS w1) ?_) | ((show VCall _ _ _ 166 _ _); refine VCall.grow _ (fun w1 _ => l1Most_v _ _ w1) ?_) | ((show VDraw _ _ _ _ _ _); refine VDraw.mk (.take 0 (.take 1 (.take 2 (.take 3 (.take 4 (.br 5 (.take 6 (.take 7 (.take 8 (.br 9 (.br 10 (.take 11 .done) .done) .done)))) (.br 9 (.br 5 (.take 6 (.take 7 (.take 8 (.br 10 (.take 11 .done) .done)))) .done) .done))))))) [0] (by kernel_rfl) (by kernel_rfl) ?_))))
      all_goals (conv => whnf)
      all_goals (refine VNext.mk (k + 1, t2, r + mx 0 (t2.level - t.level)) ⟨hlt, hn, by show (0 : Int) ≤ r + _; omega, by show r + _ ≤ 2000 * ((k + 1 : Nat) : Int); omega⟩ (by show L.length - (k + 1) < L.length - k; omega) ?_ (OwnLe.mk [0, 1] (by simp) rfl))
      all_goals (((conv => whnf); repeat (first | exact trivial | refine ⟨rfl, ?_⟩ | refine ⟨congrArg (Value.int .i64) (by first | omega | assumption | exact Eq.symm (by assumption)), ?_⟩)))
    · rw [tr_no hok] at hS
      have hn := Lo.upto_no hu hlt hok
      generalize t.step (L.getD k 0) = t2 at *
      (repeat' ((conv => whnf); first | refine go ?_ | (refine VSome.mk ?_; intro gQ hA'; first | subst hA' | cases hA' | (dsimp only at hA'; subst hA')) | refine And.intro ?_ ?_ | intro _ | (first | ((show VCall _ _ _ 133 _ _); refine VCall.grow _ (fun w1 _ => hS w1) ?_) | ((show VDraw _ _ _ _ _ _); refine VDraw.mk (.take 0 (.take 1 (.take 2 (.take 3 (.take 4 (.br 5 (.take 6 (.take 7 (.take 8 (.br 9 (.br 10 (.take 11 .done) .done) .done)))) (.br 9 (.br 5 (.take 6 (.take 7 (.take 8 (.br 10 (.take 11 .done) .done)))) .done) .done))))))) [0] (by kernel_rfl) (by kernel_rfl) ?_))))
      all_goals ((conv => whnf); refine VRet.mk fun w' m => ?_)
      all_goals exact ⟨r, trivial, by rw [hn]; rfl, m.keeps.below⟩
  · obtain rfl : k = L.length := by omega
    have hn := Lo.upto_end hu
    (repeat' ((conv => whnf); first | refine go ?_ | (refine VSome.mk ?_; intro gQ hA'; first | subst hA' | cases hA' | (dsimp only at hA'; subst hA')) | refine And.intro ?_ ?_ | intro _))
    (conv => whnf); refine VRet.mk fun w' m => ?_
    exact ⟨r, trivial, by rw [hn]; rfl, m.keeps.below⟩
set_option maxHeartbeats 1600000 in
theorem iRun_v (s : Lo) (A : Option Addr) (c : Nat) (L : List Int) (w : World) (hs : s.safe) (hl : L.length ≤ 60) (hA : Seen w A (IL L)) : Calls Tryz.prog 143 #[.agg s.cells.toArray, .slice A L.length c] w (Post (.tuple #[.agg (s.run L).1.cells.toArray, .int .i64 ((s.run L).2 : Nat), .bool true]) w) := by
  have hS := fun w => iSafe_v s w
  rw [tr_yes hs] at hS
  refine post_of_vc ?_
  refine calls_of_vc tb_ok (args := [.agg s.cells.toArray, .slice A L.length c]) Tryz.func143 rfl ?_
  (repeat' ((conv => whnf); first | refine go ?_ | (refine VSome.mk ?_; intro gQ hA'; first | subst hA' | cases hA' | (dsimp only at hA'; subst hA')) | refine And.intro ?_ ?_ | intro _ | (first | ((show VCall _ _ _ 87 _ _); refine VCall.grow _ (fun w1 _ => hS w1) ?_) | ((show VCall _ _ _ 178 _ _); refine VCall.some _ _ (fun w1 m1 => irun_v s A c L w1 hs (by omega) seenA) (fun r _ => ?_)))))
  all_goals ((conv => whnf); refine VRet.mk fun w' m => ?_)
  all_goals exact ⟨rfl, m.keeps.below⟩
def planM (s : Lo) (h : Bool) (M : Nat) : List Int := if s.gate h then [] else ((if s.gate (!h) then [5 - cGate h] else []) ++ (if s.pad (!h) then [13 - cPad h] else []) ++ (if 0 < M ∧ s.pad h = false then [cPad h] else [])) ++ List.replicate M 9 ++ [cGate h]
def preM (s : Lo) (h : Bool) (M : Nat) : List Int := ((if s.gate (!h) then [5 - cGate h] else []) ++ (if s.pad (!h) then [13 - cPad h] else []) ++ (if 0 < M ∧ s.pad h = false then [cPad h] else []))
theorem plan_M (s : Lo) (h : Bool) : s.plan h = planM s h (s.mins h) := rfl
theorem rep_suc (k : Nat) (l : List Int) : l ++ List.replicate k 9 ++ [9] = l ++ List.replicate (k + 1) 9 := by
  rw [List.replicate_succ', List.append_assoc]
theorem IL_snoc (L : List Int) (x : Int) : IL L ++ [.int .i64 x] = IL (L ++ [x]) := (IL_app L [x]).symm
set_option maxHeartbeats 16000000 in
theorem iPlan_v (s : Lo) (h : Bool) (w : World) (hs : s.safe) : Calls Tryz.prog 142 #[.agg s.cells.toArray, .bool h] w fun e w' => ∃ v, e = .returned v ∧ RetV (ι := Option Addr × Nat × Nat × List Int) (fun (P, c, n, L) => L = s.plan h ∧ n = L.length) (fun (P, c, n, L) => .tuple #[.slice P n c, .bool true]) (fun (P, c, n, L) => [.row (.slice P n c) 3 1 n (IL L)]) (Base.of w) v w' := by
  have hS := fun w => iSafe_v s w
  rw [tr_yes hs] at hS
  have hM := fun w => iMins_v s h w hs
  have h40 := Lo.mins_le (h := h) hs
  rw [plan_M]
  generalize s.mins h = M at *
  obtain ⟨N, hN⟩ : ∃ N, M = N := ⟨_, rfl⟩
  obtain ⟨Q, hQ⟩ : ∃ Q, preM s h M = Q := ⟨_, rfl⟩
  obtain ⟨R, hR⟩ : ∃ R, planM s h M = R := ⟨_, rfl⟩
  obtain ⟨G, hG⟩ : ∃ G, cGate h = G := ⟨_, rfl⟩
  have hRQ : s.gate h = true ∨ R = Q ++ List.replicate N 9 ++ [G] := by
    cases hg : s.gate h
    · right
      rw [← hR, ← hQ, ← hN, ← hG]
      unfold planM preM
      rw [hg]
      rfl
    · exact .inl rfl
  have hQ3 : Q.length ≤ 3 := by
    rw [← hQ]
    unfold preM
    simp only [List.length_append]
    split <;> split <;> split <;> simp
  rw [hR]
  obtain ⟨a, b, v, g1, g2, p1, p2⟩ := s
  cases h <;> cases g1 <;> cases g2 <;> cases p1 <;> cases p2
  all_goals first | (exfalso; revert hs; simp [Lo.safe]; done) | skip
  all_goals cases M
  all_goals (refine calls_of_vc tb_ok (args := [.agg (Lo.cells ⟨a, b, v, _, _, _, _⟩).toArray, .bool _]) Tryz.func142 rfl ?_)
  all_goals ((repeat' ((conv => whnf); first | refine go ?_ | (refine VSome.mk ?_; intro gQ hA'; first | subst hA' | cases hA' | (dsimp only at hA'; subst hA')) | refine And.intro ?_ ?_ | intro _ | (first | ((show VCall _ _ _ 87 _ _); refine VCall.grow _ (fun w1 _ => hS w1) ?_) | ((show VCall _ _ _ 177 _ _); refine VCall.grow _ (fun w1 _ => hM w1) ?_) | ((show VDraw _ _ _ #[{ dst := some 16, op := _, type := _, pos := _, after := _, guard := _ }, _, _, _, _, _, _, _, _, _, _, _] _ _); refine VDraw.mk (.take 0 (.take 1 (.take 2 (.take 3 (.take 4 (.take 5 (.take 6 (.take 7 (.take 8 (.take 9 (.take 10 (.take 11 .done)))))))))))) [0] (by kernel_rfl) (by kernel_rfl) ?_) | ((show VDraw _ _ _ #[{ dst := some 26, op := _, type := _, pos := _, after := _, guard := _ }, _, _, _, _, _, _, _, _, _, _, _] _ _); refine VDraw.mk (.take 0 (.take 1 (.take 2 (.take 3 (.take 4 (.take 5 (.take 6 (.take 7 (.take 8 (.take 9 (.take 10 (.take 11 .done)))))))))))) [0] (by kernel_rfl) (by kernel_rfl) ?_) | ((show VApp _ _ _ _ _ _ _); (apply VApp.pushAny; (focus ((repeat (first | exact At.here | apply At.there)); done)); (focus ((repeat (first | exact At.here | apply At.there)); done)); refine VAppPush.mk rfl rfl (by omega) (fun A' c' => ?_))) | ((show VIdxA _ _ _ _ _ _); first | refine VIdxA.mk 0 rfl (by decide) ?_ | refine VIdxA.mk 1 rfl (by decide) ?_ | refine VIdxA.mk 2 rfl (by decide) ?_ | refine VIdxA.mk 3 rfl (by decide) ?_)))))
  all_goals (conv => whnf)
  all_goals first
    | ((show VRet _ _ _ _); exact VRet.sel (_, 0, 0, []) ⟨by rw [← hR]; rfl, rfl⟩ rfl [2] (by simp) rfl)
    | (have hR2 : R = Q ++ List.replicate N 9 ++ [G] := by
        rcases hRQ with hx | hx
        · cases hx
        · exact hx
       cases hG
       refine VLoop.mk (ι := Nat × List Int × Nat × Option Addr × Nat) [11, 65, 66, 67, 68, 69, 70] (fun (k, L, n, P, c) => [(65, .int .i64 k), (11, .slice P n c)]) (fun (k, L, n, P, c) => [.row (.slice P n c) 3 1 n (IL L), .blk _ 204 _]) (fun i => i.1 ≤ N ∧ i.2.1 = Q ++ List.replicate i.1 9 ∧ i.2.2.1 = i.2.1.length) (fun i => 50 - i.1) (0, Q ++ [], _, _, _) ⟨Nat.zero_le _, rfl, ?_⟩ ?_ (OwnLe.mk [2, 1] (by simp) (by rw [← hQ]; rfl)) (fun i u hi => ?_))
  all_goals first | (rw [← hQ]; rfl) | (((conv => whnf); repeat (first | exact trivial | refine ⟨rfl, ?_⟩ | refine ⟨congrArg (Value.int .i64) (by first | omega | assumption | exact Eq.symm (by assumption)), ?_⟩)); done) | skip
  all_goals obtain ⟨k, L, n, P, c⟩ := i
  all_goals obtain ⟨hk, hL, hn⟩ := hi
  all_goals replace hk : k ≤ N := hk
  all_goals replace hL : L = Q ++ List.replicate k 9 := hL
  all_goals replace hn : n = L.length := hn
  all_goals have hn50 : n ≤ 50 := by rw [hn, hL, List.length_append, List.length_replicate]; omega
  all_goals by_cases hlt : k < N
  all_goals first
    | (exfalso; omega; done)
    | (have hlt : k < N := hlt
       (repeat' ((conv => whnf); first | refine go ?_ | (refine VSome.mk ?_; intro gQ hA'; first | subst hA' | cases hA' | (dsimp only at hA'; subst hA')) | refine And.intro ?_ ?_ | intro _ | (first | ((show VApp _ _ _ _ _ _ _); (apply VApp.pushAny; (focus ((repeat (first | exact At.here | apply At.there)); done)); (focus ((repeat (first | exact At.here | apply At.there)); done)); refine VAppPush.mk rfl rfl (by omega) (fun A' c' => ?_))))))
       (conv => whnf)
       refine VNext.mk (k + 1, L ++ [9], n + 1, _, _) ⟨hlt, by show L ++ [9] = Q ++ List.replicate (k + 1) 9; rw [hL, rep_suc], by show n + 1 = (L ++ [9]).length; rw [List.length_append, hn]; rfl⟩ (by show 50 - (k + 1) < 50 - k; omega) ?_ (OwnLe.mk [0, 1] (by simp) (by first | (dsimp only; rw [← IL_snoc]; rfl) | (rw [← IL_snoc]; rfl)))
       ((conv => whnf); repeat (first | exact trivial | refine ⟨rfl, ?_⟩ | refine ⟨congrArg (Value.int .i64) (by first | omega | assumption | exact Eq.symm (by assumption)), ?_⟩)))
    | (have hkN : k = N := by omega
       subst hkN
       (repeat' ((conv => whnf); first | refine go ?_ | (refine VSome.mk ?_; intro gQ hA'; first | subst hA' | cases hA' | (dsimp only at hA'; subst hA')) | refine And.intro ?_ ?_ | intro _ | (first | ((show VApp _ _ _ _ _ _ _); (apply VApp.pushAny; (focus ((repeat (first | exact At.here | apply At.there)); done)); (focus ((repeat (first | exact At.here | apply At.there)); done)); refine VAppPush.mk rfl rfl (by omega) (fun A' c' => ?_))) | ((show VIdxA _ _ _ _ _ _); refine VIdxA.mk 3 rfl (by decide) ?_))))
       (conv => whnf)
       refine VRet.sel (_, _, n + 1, L ++ [_]) ⟨by rw [hR2, hL], by show n + 1 = (L ++ [_]).length; rw [List.length_append, hn]; rfl⟩ rfl [0] (by simp) (by first | (dsimp only; rw [← IL_snoc]; rfl) | (rw [← IL_snoc]; rfl)))
end Go.Proofs.YtadjhkehfklmnaaGreatDoor
namespace Go.Proofs.YtadjhkehfklmnaaGreatDoor
set_option linter.unusedSimpArgs false
set_option linter.unusedVariables false
open Go.RowKit
set_option maxRecDepth 10000
theorem mv_both {f : Nat → Ba} {ka kb : Nat} {v : Int} (h : ¬ ka = kb) : bMv f ka kb v = upd (upd f ka { f ka with vol := (f ka).vol - v }) kb { f kb with vol := (f kb).vol + v } := by
  funext i
  by_cases h1 : i = kb
  · subst h1
    rw [upd_at, bMv_to rfl]
  · rw [upd_ne _ _ h1]
    by_cases h2 : i = ka
    · subst h2
      rw [upd_at, bMv_from (by omega) rfl]
    · rw [upd_ne _ _ h2, bMv_no (by omega) (by omega)]
theorem mv_from {f : Nat → Ba} {ka : Nat} {v : Int} : bMv f ka (-1) v = upd f ka { f ka with vol := (f ka).vol - v } := by
  funext i
  by_cases h2 : i = ka
  · subst h2
    rw [upd_at, bMv_from (by omega) rfl]
  · rw [upd_ne _ _ h2, bMv_no (by omega) (by omega)]
theorem mv_to {f : Nat → Ba} {kb : Nat} {v : Int} : bMv f (-1) kb v = upd f kb { f kb with vol := (f kb).vol + v } := by
  funext i
  by_cases h2 : i = kb
  · subst h2
    rw [upd_at, bMv_to rfl]
  · rw [upd_ne _ _ h2, bMv_no (by omega) (by omega)]
theorem ba_get {n : Nat} {f : Nat → Ba} {k : Nat} (hk : k < n) (o : Nat) (e : o = k * 3) : (BaS n f)[o]? = some (.int .i64 (f k).vol) := by
  have := rowsN_get (f := fun i => (f i).cells) (s := 3) (fun _ => rfl) n k 0 hk (by omega)
  subst e
  exact this
def flC (a b v : Int) : List Value := [.int .i64 a, .int .i64 b, .int .i64 v]
set_option maxHeartbeats 1600000 in
theorem isFlow_v (A : Option Addr) (n c : Nat) (f : Nat → Ba) (a b v : Int) (w : World) (hg : bGood n f) (hA : Seen w A (BaS n f)) :
    Calls Tryz.prog 181 #[.slice A n c, .agg (flC a b v).toArray] w (Post (.bool (tr (bFlow n a b v))) w) := by
  have hn := hg.2
  have hG := fun w hA => iBas_v A n c f w (by omega) hA
  rw [tr_yes hg] at hG
  refine post_of_vc ?_
  refine calls_of_vc tb_ok (args := [.slice A n c, .agg (flC a b v).toArray]) Tryz.func181 rfl ?_
  (repeat' ((conv => whnf); first | refine go ?_ | (refine VSome.mk ?_; intro gQ hA'; first | subst hA' | cases hA' | (dsimp only at hA'; subst hA')) | refine And.intro ?_ ?_ | intro _ | (first | ((show VCall _ _ _ 69 _ _); refine VCall.grow _ (fun w1 m1 => hG w1 seenA) ?_) | ((show VCall _ _ _ 80 _ _); refine VCall.test _ (fun w1 _ => inside_v _ _ _ w1) ?_))))
  all_goals ((conv => whnf); refine VRet.mk fun w' m => ?_)
  all_goals refine ⟨congrArg Value.bool ?_, m.keeps.below⟩
  all_goals first | (rw [tr_yes (by unfold bFlow; omega)]; done) | (rw [tr_no (by unfold bFlow; omega)]; done)
set_option maxHeartbeats 1600000 in
theorem l10Flow_v (n : Nat) (a b v : Int) (w : World) (hn : n ≤ 1048576) :
    Calls Tryz.prog 192 #[.int .i64 n, .agg (flC a b v).toArray] w (Post (.bool (tr (bFlow n a b v))) w) := by
  refine post_of_vc ?_
  refine calls_of_vc tb_ok (args := [.int .i64 n, .agg (flC a b v).toArray]) Tryz.func192 rfl ?_
  (repeat' ((conv => whnf); first | refine go ?_ | (refine VSome.mk ?_; intro gQ hA'; first | subst hA' | cases hA' | (dsimp only at hA'; subst hA')) | refine And.intro ?_ ?_ | intro _ | (first | ((show VCall _ _ _ 109 _ _); refine VCall.test _ (fun w1 _ => l1In_v _ _ _ w1) ?_))))
  all_goals ((conv => whnf); refine VRet.mk fun w' m => ?_)
  all_goals refine ⟨congrArg Value.bool ?_, m.keeps.below⟩
  all_goals first | (rw [tr_yes (by unfold bFlow; omega)]; done) | (rw [tr_no (by unfold bFlow; omega)]; done)
set_option maxHeartbeats 8000000 in
theorem iMove_v (A : Option Addr) (n c : Nat) (f : Nat → Ba) (a b v : Int) (w : World) (hg : bGood n f) (hf : bFlow n a b v) (hA : Seen w A (BaS n f)) :
    Calls Tryz.prog 182 #[.slice A n c, .agg (flC a b v).toArray] w fun e w' => ∃ v9, e = .returned v9 ∧ RetV (ι := Nat × Nat) (fun _ => True) (fun (g, c') => .slice (some ⟨g, 0, none⟩) n c') (fun (g, c') => [.row (.slice (some ⟨g, 0, none⟩) n c') 96 3 n (BaS n (bMv f a b v))]) (Base.of w) v9 w' := by
  have hn := hg.2
  obtain ⟨ha, hb, hab, hv⟩ := hf
  have hca : a = -1 ∨ ∃ k : Nat, a = k ∧ k < n := by
    rcases Int.lt_or_le a 0 with h | h
    · left; omega
    · exact .inr ⟨a.toNat, by omega, by omega⟩
  have hcb : b = -1 ∨ ∃ k : Nat, b = k ∧ k < n := by
    rcases Int.lt_or_le b 0 with h | h
    · left; omega
    · exact .inr ⟨b.toNat, by omega, by omega⟩
  rcases hca with rfl | ⟨ka, rfl, hka⟩
  · rcases hcb with rfl | ⟨kb, rfl, hkb⟩
    · exact absurd rfl hab
    · have hq := hg.1 kb hkb
      unfold Ba.ok at hq
      have q1 : (BaS n f)[0 + mulS kb 3 + 0]? = some (.int .i64 (f kb).vol) := ba_get hkb _ (by rw [mulS_eq]; omega)
      refine calls_of_vc tb_ok (args := [.slice A n c, .agg (flC (-1) kb v).toArray]) Tryz.func182 rfl ?_
      (repeat' ((conv => whnf); first | refine go ?_ | (refine VSome.mk ?_; intro gQ hA'; first | subst hA' | cases hA' | (dsimp only at hA'; subst hA')) | refine And.intro ?_ ?_ | intro _ | (first | ((show VApp _ _ _ _ _ _ _); refine VApp.copy 1 rfl rfl hA (BaS.len _ _) (by show 0 < n * 3; omega) (BaS.one _ _) (by omega) (fun g' c' => ?_)) | ((show VDraw _ _ _ #[{ dst := some 26, op := _, type := _, pos := _, after := _, guard := _ }, _, _, _, _, _, _, _, _, _, _, _] _ _); refine VDraw.mk (.take 0 (.take 1 (.take 2 (.take 3 (.take 4 (.take 6 (.take 7 (.br 5 (.take 8 (.take 9 (.take 10 (.br 11 .done .done)))) .done)))))))) [0] (by kernel_rfl) (by kernel_rfl) ?_) | ((show VStore _ _ _ _ _ _); refine VStore.rowAt 1 (kb * 3) (by show 0 + mulS kb 3 + 0 = kb * 3; rw [mulS_eq]; omega) rfl rfl (by rw [BaS.len]; show kb * 3 + 1 ≤ n * 3; omega) rfl ?_))))
      all_goals (conv => whnf)
      all_goals (refine VRet.mk fun w' m => ⟨(g', c'), trivial, rfl, ?_⟩; rw [ba_cell n f kb hkb, ← mv_to] at m; exact m.sel (ks := [1]) (by simp))
  · rcases hcb with rfl | ⟨kb, rfl, hkb⟩
    · have hq := hg.1 ka hka
      unfold Ba.ok at hq
      have q1 : (BaS n f)[0 + mulS ka 3 + 0]? = some (.int .i64 (f ka).vol) := ba_get hka _ (by rw [mulS_eq]; omega)
      refine calls_of_vc tb_ok (args := [.slice A n c, .agg (flC ka (-1) v).toArray]) Tryz.func182 rfl ?_
      (repeat' ((conv => whnf); first | refine go ?_ | (refine VSome.mk ?_; intro gQ hA'; first | subst hA' | cases hA' | (dsimp only at hA'; subst hA')) | refine And.intro ?_ ?_ | intro _ | (first | ((show VApp _ _ _ _ _ _ _); refine VApp.copy 1 rfl rfl hA (BaS.len _ _) (by show 0 < n * 3; omega) (BaS.one _ _) (by omega) (fun g' c' => ?_)) | ((show VDraw _ _ _ #[{ dst := some 12, op := _, type := _, pos := _, after := _, guard := _ }, _, _, _, _, _, _, _, _, _, _, _] _ _); refine VDraw.mk (.take 0 (.take 1 (.take 2 (.take 3 (.take 4 (.take 6 (.take 7 (.br 5 (.take 8 (.take 9 (.take 10 (.br 11 .done .done)))) .done)))))))) [0] (by kernel_rfl) (by kernel_rfl) ?_) | ((show VStore _ _ _ _ _ _); refine VStore.rowAt 1 (ka * 3) (by show 0 + mulS ka 3 + 0 = ka * 3; rw [mulS_eq]; omega) rfl rfl (by rw [BaS.len]; show ka * 3 + 1 ≤ n * 3; omega) rfl ?_))))
      all_goals (conv => whnf)
      all_goals (refine VRet.mk fun w' m => ⟨(g', c'), trivial, rfl, ?_⟩; rw [ba_cell n f ka hka, ← mv_from] at m; exact m.sel (ks := [1]) (by simp))
    · have hne : ¬ ka = kb := fun h => hab (by rw [h])
      have hq := hg.1 ka hka
      have hq2 := hg.1 kb hkb
      unfold Ba.ok at hq hq2
      have q1 : (BaS n f)[0 + mulS ka 3 + 0]? = some (.int .i64 (f ka).vol) := ba_get hka _ (by rw [mulS_eq]; omega)
      have q2 : (setRange (BaS n f) (ka * 3) [.int .i64 ((f ka).vol - v)])[0 + mulS kb 3 + 0]? = some (.int .i64 (f kb).vol) := by
        rw [ba_cell n f ka hka, ba_get hkb _ (by rw [mulS_eq]; omega), upd_ne _ _ (fun h => hne h.symm)]
      refine calls_of_vc tb_ok (args := [.slice A n c, .agg (flC ka kb v).toArray]) Tryz.func182 rfl ?_
      (repeat' ((conv => whnf); first | refine go ?_ | (refine VSome.mk ?_; intro gQ hA'; first | subst hA' | cases hA' | (dsimp only at hA'; subst hA')) | refine And.intro ?_ ?_ | intro _ | (first | ((show VApp _ _ _ _ _ _ _); refine VApp.copy 1 rfl rfl hA (BaS.len _ _) (by show 0 < n * 3; omega) (BaS.one _ _) (by omega) (fun g' c' => ?_)) | ((show VDraw _ _ _ #[{ dst := some 12, op := _, type := _, pos := _, after := _, guard := _ }, _, _, _, _, _, _, _, _, _, _, _] _ _); refine VDraw.mk (.take 0 (.take 1 (.take 2 (.take 3 (.take 4 (.take 6 (.take 7 (.br 5 (.take 8 (.take 9 (.take 10 (.br 11 .done .done)))) .done)))))))) [0] (by kernel_rfl) (by kernel_rfl) ?_) | ((show VDraw _ _ _ #[{ dst := some 26, op := _, type := _, pos := _, after := _, guard := _ }, _, _, _, _, _, _, _, _, _, _, _] _ _); refine VDraw.mk (.take 0 (.take 1 (.take 2 (.take 3 (.take 4 (.take 6 (.take 7 (.br 5 (.take 8 (.take 9 (.take 10 (.br 11 .done .done)))) .done)))))))) [0] (by kernel_rfl) (by kernel_rfl) ?_) | ((show VStore _ _ _ _ _ _); first | refine VStore.rowAt 1 (ka * 3) (by show 0 + mulS ka 3 + 0 = ka * 3; rw [mulS_eq]; omega) rfl rfl (by rw [BaS.len]; show ka * 3 + 1 ≤ n * 3; omega) rfl ?_ | refine VStore.rowAt 1 (kb * 3) (by show 0 + mulS kb 3 + 0 = kb * 3; rw [mulS_eq]; omega) rfl rfl (by rw [setRange_length, BaS.len]; show kb * 3 + 1 ≤ n * 3; omega) rfl ?_))))
      all_goals (conv => whnf)
      all_goals (refine VRet.mk fun w' m => ⟨(g', c'), trivial, rfl, ?_⟩; rw [ba_cell n f ka hka] at m; have e9 : { f kb with vol := (f kb).vol + v } = { (upd f ka { f ka with vol := (f ka).vol - v }) kb with vol := (f kb).vol + v } := (by rw [upd_ne _ _ (fun h => hne h.symm)]); rw [ba_cell n _ kb hkb, ← e9, ← mv_both hne] at m; exact m.sel (ks := [1]) (by simp))
end Go.Proofs.YtadjhkehfklmnaaGreatDoor
