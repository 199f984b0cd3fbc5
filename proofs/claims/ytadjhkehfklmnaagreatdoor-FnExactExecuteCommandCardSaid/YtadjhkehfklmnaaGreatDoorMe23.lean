/-
  Texts joined: how the calls that the law reaches are walked, and the plain laws behind them.
  Conditions: none beyond each statement's own premises.
-/
import Derived.Test.YtadjhkehfklmnaaGreatDoorMe22
import Derived.Test.YtadjhkehfklmnaaGreatDoorCards
import Derived.Test.YtadjhkehfklmnaaGreatDoorTie
import Derived.LaidLaws
import Derived.LaidHandle
import Derived.Lib.LaidTab
import Derived.Lib.LaidIn
import Derived.Stop.LaidErr
import Derived.SevenTiedAt
import Derived.Handed
namespace Go.Proofs.YtadjhkehfklmnaaGreatDoor
set_option linter.unusedSimpArgs false
set_option linter.unusedVariables false
open Go.RowKit
set_option maxRecDepth 10000
theorem iEx_yes {w0 : Base} {w : World} (d : Co) (gc : Nat) (A1 : Option Addr) (c1 : Nat) (A2 : Option Addr) (c2 : Nat) (B : Option Addr) (c : Nat) (L : List Int) (hf : d.fit) (ht : Old2 w0) (hB : OldSeen w0 B (IL L)) (x : List UInt8) (hx : (pat x).2 = true) (hL : L.length = (pat x).1.length) {c' : Co} {t : List UInt8} (h : d.ex x L = some (c', t)) (m0 : Mem w0 [.blk gc 39 (d.at A1 c1 A2 c2), .row (.slice A1 d.n c1) 96 3 d.n (BaS d.n d.ba), .row (.slice A2 d.m c2) 98 4 d.m (AwS d.m d.wa)] w) :
    Calls Tryz.prog 114 #[.pointer (some ⟨gc, 0, none⟩), .string (tx x), .slice B L.length c] w fun e w' => ∃ v, e = .returned v ∧ RetL (ι := Option Addr × Nat × Option Addr × Nat) (fun _ => True) (fun _ => .tuple #[.string (tx (t)), .bool true]) (fun (P1, k1, P2, k2) => [.blk gc 39 ((c' : Co).at P1 k1 P2 k2), .row (.slice P1 (c' : Co).n k1) 96 3 (c' : Co).n (BaS (c' : Co).n (c' : Co).ba), .row (.slice P2 (c' : Co).m k2) 98 4 (c' : Co).m (AwS (c' : Co).m (c' : Co).wa)]) (fun _ => []) w0 v w' := by
  rcases pat_all x with ⟨e, hp⟩ | ⟨e, hp⟩ | ⟨e, hp⟩ | ⟨e, hp⟩ | ⟨e, hp⟩ | ⟨e, hp⟩
  · rcases e with rfl | rfl
    · rw [Co.ex_level] at h; cases h; exact iExLevel_v d gc A1 c1 A2 c2 B c L hf ht hB m0
    · rw [Co.ex_water] at h; cases h; exact iExWater_v d gc A1 c1 A2 c2 B c L hf ht hB m0
  · have hl : 0 < L.length := by rw [hL, hp]; decide
    rcases e with rfl | rfl | rfl | rfl | rfl
    · rw [Co.ex_step] at h
      by_cases h1 : d.lock.okStep (a0 L 0)
      · rw [ite_tr h1] at h; cases h; exact iExStep_yes d gc A1 c1 A2 c2 B c L hf ht hB hl h1 m0
      · rw [ite_ntr h1] at h; cases h
    · rw [Co.ex_leave] at h
      cases e : fnd d.wa (a0 L 0) d.m with
      | some i => rw [e] at h; cases h; exact iExLeave_yes d gc A1 c1 A2 c2 B c L hf ht hB hl e m0
      | none => rw [e] at h; cases h
    · rw [Co.ex_best] at h
      by_cases h1 : 1 ≤ a0 L 0 ∧ a0 L 0 ≤ 60
      · rw [ite_tr h1] at h; cases h; exact iExBest_v d gc A1 c1 A2 c2 B c L hf ht hB hl h1 m0
      · rw [ite_ntr h1] at h; cases h
    · rw [Co.ex_delay] at h
      by_cases h1 : 1 ≤ a0 L 0 ∧ a0 L 0 ≤ 60
      · rw [ite_tr h1] at h; cases h; exact iExDelay_v d gc A1 c1 A2 c2 B c L hf ht hB hl h1 m0
      · rw [ite_ntr h1] at h; cases h
    · rw [Co.ex_bound] at h
      by_cases h1 : 1 ≤ a0 L 0 ∧ a0 L 0 ≤ 60
      · rw [ite_tr h1] at h; cases h; exact iExBound_v d gc A1 c1 A2 c2 B c L hf ht hB hl h1 m0
      · rw [ite_ntr h1] at h; cases h
  · have hl : 0 < L.length := by rw [hL, hp]; decide
    rcases e with rfl | rfl | rfl
    · rw [Co.ex_go] at h; cases h; exact iExGo_v d gc A1 c1 A2 c2 B c L hf ht hB hl m0
    · rw [Co.ex_plan] at h; cases h; exact iExPlan_v d gc A1 c1 A2 c2 B c L hf ht hB hl m0
    · rw [Co.ex_head] at h; cases h; exact iExHead_v d gc A1 c1 A2 c2 B c L hf ht hB hl m0
  · have hl : L.length = 3 := by rw [hL, hp]; rfl
    subst e
    rw [Co.ex_flow] at h
    by_cases h1 : bCan d.n d.ba (a0 L 0) (a0 L 1) (a0 L 2)
    · rw [ite_tr h1] at h; cases h; exact iExFlow_yes d gc A1 c1 A2 c2 B c L hf ht hB hl h1 m0
    · rw [ite_ntr h1] at h; cases h
  · have hl : L.length = 4 := by rw [hL, hp]; rfl
    subst e
    rw [Co.ex_arrive] at h
    by_cases h1 : aGood (d.m + 1) (insF d.wa (plc d.wa (a0 L 0) d.m 0) ⟨a0 L 0, isOne (a0 L 1), a0 L 2, a0 L 3⟩)
    · rw [ite_tr h1] at h; cases h; exact iExArrive_yes d gc A1 c1 A2 c2 B c L hf ht hB hl h1 m0
    · rw [ite_ntr h1] at h; cases h
  · rw [hp] at hx; cases hx
theorem iEx_no {w0 : Base} {w : World} (d : Co) (gc : Nat) (A1 : Option Addr) (c1 : Nat) (A2 : Option Addr) (c2 : Nat) (B : Option Addr) (c : Nat) (L : List Int) (hf : d.fit) (ht : Old2 w0) (hB : OldSeen w0 B (IL L)) (x : List UInt8) (hx : (pat x).2 = true) (hL : L.length = (pat x).1.length) (h : d.ex x L = none) (m0 : Mem w0 [.blk gc 39 (d.at A1 c1 A2 c2), .row (.slice A1 d.n c1) 96 3 d.n (BaS d.n d.ba), .row (.slice A2 d.m c2) 98 4 d.m (AwS d.m d.wa)] w) :
    Calls Tryz.prog 114 #[.pointer (some ⟨gc, 0, none⟩), .string (tx x), .slice B L.length c] w fun e w' => ∃ v, e = .returned v ∧ RetL (ι := Co × Option Addr × Nat × Option Addr × Nat × List UInt8) (fun _ => True) (fun (_, _, _, _, _, t) => .tuple #[.string (tx t), .bool false]) (fun (d', P1, k1, P2, k2, _) => [.blk gc 39 (d'.at P1 k1 P2 k2), .gone, .gone]) (fun _ => []) w0 v w' := by
  rcases pat_all x with ⟨e, hp⟩ | ⟨e, hp⟩ | ⟨e, hp⟩ | ⟨e, hp⟩ | ⟨e, hp⟩ | ⟨e, hp⟩
  · rcases e with rfl | rfl
    · rw [Co.ex_level] at h; cases h
    · rw [Co.ex_water] at h; cases h
  · have hl : 0 < L.length := by rw [hL, hp]; decide
    rcases e with rfl | rfl | rfl | rfl | rfl
    · rw [Co.ex_step] at h
      by_cases h1 : d.lock.okStep (a0 L 0)
      · rw [ite_tr h1] at h; cases h
      · exact iExStep_no d gc A1 c1 A2 c2 B c L hf ht hB hl h1 m0
    · rw [Co.ex_leave] at h
      cases e : fnd d.wa (a0 L 0) d.m with
      | some i => rw [e] at h; cases h
      | none => exact iExLeave_no d gc A1 c1 A2 c2 B c L hf ht hB hl e m0
    · rw [Co.ex_best] at h
      by_cases h1 : 1 ≤ a0 L 0 ∧ a0 L 0 ≤ 60
      · rw [ite_tr h1] at h; cases h
      · exact iExOrd_no d gc A1 c1 A2 c2 B c L hf ht hB hl wBest (by decide) h1 m0
    · rw [Co.ex_delay] at h
      by_cases h1 : 1 ≤ a0 L 0 ∧ a0 L 0 ≤ 60
      · rw [ite_tr h1] at h; cases h
      · exact iExOrd_no d gc A1 c1 A2 c2 B c L hf ht hB hl wDelay (by decide) h1 m0
    · rw [Co.ex_bound] at h
      by_cases h1 : 1 ≤ a0 L 0 ∧ a0 L 0 ≤ 60
      · rw [ite_tr h1] at h; cases h
      · exact iExOrd_no d gc A1 c1 A2 c2 B c L hf ht hB hl wBound (by decide) h1 m0
  · rcases e with rfl | rfl | rfl
    · rw [Co.ex_go] at h; cases h
    · rw [Co.ex_plan] at h; cases h
    · rw [Co.ex_head] at h; cases h
  · have hl : L.length = 3 := by rw [hL, hp]; rfl
    subst e
    rw [Co.ex_flow] at h
    by_cases h1 : bCan d.n d.ba (a0 L 0) (a0 L 1) (a0 L 2)
    · rw [ite_tr h1] at h; cases h
    · exact iExFlow_no d gc A1 c1 A2 c2 B c L hf ht hB hl h1 m0
  · have hl : L.length = 4 := by rw [hL, hp]; rfl
    subst e
    rw [Co.ex_arrive] at h
    by_cases h1 : aGood (d.m + 1) (insF d.wa (plc d.wa (a0 L 0) d.m 0) ⟨a0 L 0, isOne (a0 L 1), a0 L 2, a0 L 3⟩)
    · rw [ite_tr h1] at h; cases h
    · exact iExArrive_no d gc A1 c1 A2 c2 B c L hf ht hB hl h1 m0
  · rw [hp] at hx; cases hx
theorem parse_sps {line x : List UInt8} {L : List Int} (h : parse line = some (x, L)) : ∃ r, sps 32 line = x :: r ∧ (pat x).2 = true ∧ rwZ (pat x).1 r = some L := by
  unfold parse at h
  cases e : sps 32 line with
  | nil => rw [e] at h; cases h
  | cons w r =>
    rw [e] at h
    dsimp only at h
    by_cases h2 : (pat w).2 = true
    · rw [if_pos h2] at h
      cases e2 : rwZ (pat w).1 r with
      | none => rw [e2] at h; cases h
      | some l => rw [e2] at h; cases h; exact ⟨r, rfl, h2, e2⟩
    · rw [if_neg h2] at h; cases h
theorem parse_none {line : List UInt8} (h : parse line = none) : ∃ x r, sps 32 line = x :: r ∧ ((pat x) = ([], false) ∨ (pat x).2 = true ∧ rwZ (pat x).1 r = none) := by
  unfold parse at h
  cases e : sps 32 line with
  | nil => have := sps_ne 32 line; rw [e] at this; simp at this
  | cons w r =>
    rw [e] at h
    dsimp only at h
    refine ⟨w, r, rfl, ?_⟩
    by_cases h2 : (pat w).2 = true
    · rw [if_pos h2] at h
      cases e2 : rwZ (pat w).1 r with
      | none => exact .inr ⟨h2, rfl⟩
      | some l => rw [e2] at h; cases h
    · rcases pat_all w with ⟨_, hp⟩ | ⟨_, hp⟩ | ⟨_, hp⟩ | ⟨_, hp⟩ | ⟨_, hp⟩ | ⟨_, hp⟩
      · rw [hp] at h2; exact absurd rfl h2
      · rw [hp] at h2; exact absurd rfl h2
      · rw [hp] at h2; exact absurd rfl h2
      · rw [hp] at h2; exact absurd rfl h2
      · rw [hp] at h2; exact absurd rfl h2
      · exact .inl hp
theorem pat_len (x : List UInt8) : (pat x).1.length ≤ 4 := by
  rcases pat_all x with ⟨_, hp⟩ | ⟨_, hp⟩ | ⟨_, hp⟩ | ⟨_, hp⟩ | ⟨_, hp⟩ | ⟨_, hp⟩ <;> (rw [hp]; decide)
set_option maxHeartbeats 8000000 in
theorem iLine_yes {w0 : Base} {w : World} (d : Co) (gc : Nat) (A1 : Option Addr) (c1 : Nat) (A2 : Option Addr) (c2 : Nat) (line : List UInt8) (hf : d.fit) (ht : Old2 w0) (hl : line.length ≤ 1048575) {x : List UInt8} {L : List Int} (hp : parse line = some (x, L)) {c' : Co} {t : List UInt8} (h : d.ex x L = some (c', t)) (m0 : Mem w0 [.blk gc 39 (d.at A1 c1 A2 c2), .row (.slice A1 d.n c1) 96 3 d.n (BaS d.n d.ba), .row (.slice A2 d.m c2) 98 4 d.m (AwS d.m d.wa)] w) :
    Calls Tryz.prog 77 #[.pointer (some ⟨gc, 0, none⟩), .string (tx line)] w fun e w' => ∃ v, e = .returned v ∧ RetL (ι := Option Addr × Nat × Option Addr × Nat) (fun _ => True) (fun _ => .tuple #[.string (tx (t)), .bool true]) (fun (P1, k1, P2, k2) => [.blk gc 39 ((c' : Co).at P1 k1 P2 k2), .row (.slice P1 (c' : Co).n k1) 96 3 (c' : Co).n (BaS (c' : Co).n (c' : Co).ba), .row (.slice P2 (c' : Co).m k2) 98 4 (c' : Co).m (AwS (c' : Co).m (c' : Co).wa)]) (fun _ => []) w0 v w' := by
  obtain ⟨r, hs, hx, hz⟩ := parse_sps hp
  have hL := (rwZ_len hz).2
  obtain ⟨hr1, hr2⟩ : r.length ≤ 1048576 ∧ ∀ y ∈ r, y.length ≤ 1048576 := by
    have h1 := sps_len 32 line
    have h2 := sps_total 32 _ line (Nat.le_refl _)
    rw [hs] at h1 h2
    simp only [List.length_cons] at h1
    exact ⟨by omega, fun y hy => by have := (h2 y (List.mem_cons_of_mem _ hy)).1; omega⟩
  have hSp := fun w ht => split_v line w (by omega) ht
  rw [hs] at hSp
  have hPt := fun w => pattern_v x w
  have hpl := pat_len x
  have hRd := fun B c w hB ht => readWords_v B c (pat x).1 r w (by omega) hr1 hr2 hB ht
  rw [hz] at hRd
  rw [hx] at hPt
  have hEx := fun w B c (w0 : Base) ht hB m => iEx_yes (w0 := w0) (w := w) d gc A1 c1 A2 c2 B c L hf ht hB x hx hL h m
  generalize (pat x).1 = ps at *
  refine calls_of_vcL (w0 := w0) tb_ok (args := [.pointer (some ⟨gc, 0, none⟩), .string (tx line)]) Tryz.func77 rfl m0 ?_
  all_goals (have q0 : (TS (x :: r))[mulS 0 1]? = some (.string (tx x)) := rfl; have q1 : (TS (x :: r))[0 + mulS 0 1]? = some (.string (tx x)) := rfl; have ql : 0 < (x :: r).length := Nat.succ_pos _)
  (repeat' ((conv => whnf); first | refine go ?_ | (refine VSome.mk ?_; intro gQ hA'; first | subst hA' | cases hA' | (dsimp only at hA'; subst hA')) | refine And.intro ?_ ?_ | intro _ | (first | ((show VCall _ _ _ 48 _ _); refine VCall.ret (fun w1 m1 => hSp w1 (ht.now m1)) (fun g9 _ => ?_)) | ((show VCall _ _ _ 112 _ _); refine VCall.grow _ (fun w1 m1 => hPt w1) ?_) | ((show VCall _ _ _ 113 _ _); refine VCall.ret (fun w1 m1 => hRd _ _ w1 (Seen.tail (B := _) (n := (x :: r).length) (k := 1) (Sees.any m1 fndA) hT9 (TS_len1 _)) (ht.now m1)) (fun i9 _ => ?_); obtain ⟨P, cp⟩ := i9) | ((show VIdx _ _ _ _ _ _ _); refine VIdx.at_ rfl 0 rfl ql ?_) | ((show VCut _ _ _ _ _ _ _); refine VCut.tail 1 rfl (by simp) (Nat.le_refl _) (Plain.some _ _) (fun B9 d9 hT9 _ => ?_)) | ((show VCall _ _ _ 114 [_, _, _] _); refine VCall.fullS [0, 1, 2] (by simp) (fun _ => rfl) (fun w1 m1 m2 => hEx w1 P cp _ (ht.lend m1 [0, 1, 2]) (OldSeen.anyRow m1 [0, 1, 2] (by repeat (first | exact At.here | apply At.there)) (by decide)) m2) (fun i hi => ?_)))))
  all_goals (conv => whnf)
  all_goals (obtain ⟨P1, k1, P2, k2⟩ := i; exact VRet.mk fun w' m => ⟨(P1, k1, P2, k2), trivial, rfl, m.sel (ks := [0, 1, 2]) (by simp)⟩)
set_option maxHeartbeats 8000000 in
theorem iLine_fail {w0 : Base} {w : World} (d : Co) (gc : Nat) (A1 : Option Addr) (c1 : Nat) (A2 : Option Addr) (c2 : Nat) (line : List UInt8) (hf : d.fit) (ht : Old2 w0) (hl : line.length ≤ 1048575) {x : List UInt8} {L : List Int} (hp : parse line = some (x, L)) (h : d.ex x L = none) (m0 : Mem w0 [.blk gc 39 (d.at A1 c1 A2 c2), .row (.slice A1 d.n c1) 96 3 d.n (BaS d.n d.ba), .row (.slice A2 d.m c2) 98 4 d.m (AwS d.m d.wa)] w) :
    Calls Tryz.prog 77 #[.pointer (some ⟨gc, 0, none⟩), .string (tx line)] w fun e w' => ∃ v, e = .returned v ∧ RetL (ι := Co × Option Addr × Nat × Option Addr × Nat × List UInt8) (fun _ => True) (fun (_, _, _, _, _, t) => .tuple #[.string (tx t), .bool false]) (fun (d', P1, k1, P2, k2, _) => [.blk gc 39 (d'.at P1 k1 P2 k2), .gone, .gone]) (fun _ => []) w0 v w' := by
  obtain ⟨r, hs, hx, hz⟩ := parse_sps hp
  have hL := (rwZ_len hz).2
  obtain ⟨hr1, hr2⟩ : r.length ≤ 1048576 ∧ ∀ y ∈ r, y.length ≤ 1048576 := by
    have h1 := sps_len 32 line
    have h2 := sps_total 32 _ line (Nat.le_refl _)
    rw [hs] at h1 h2
    simp only [List.length_cons] at h1
    exact ⟨by omega, fun y hy => by have := (h2 y (List.mem_cons_of_mem _ hy)).1; omega⟩
  have hSp := fun w ht => split_v line w (by omega) ht
  rw [hs] at hSp
  have hPt := fun w => pattern_v x w
  have hpl := pat_len x
  have hRd := fun B c w hB ht => readWords_v B c (pat x).1 r w (by omega) hr1 hr2 hB ht
  rw [hz] at hRd
  rw [hx] at hPt
  have hEx := fun w B c (w0 : Base) ht hB m => iEx_no (w0 := w0) (w := w) d gc A1 c1 A2 c2 B c L hf ht hB x hx hL h m
  generalize (pat x).1 = ps at *
  refine calls_of_vcL (w0 := w0) tb_ok (args := [.pointer (some ⟨gc, 0, none⟩), .string (tx line)]) Tryz.func77 rfl m0 ?_
  all_goals (have q0 : (TS (x :: r))[mulS 0 1]? = some (.string (tx x)) := rfl; have q1 : (TS (x :: r))[0 + mulS 0 1]? = some (.string (tx x)) := rfl; have ql : 0 < (x :: r).length := Nat.succ_pos _)
  (repeat' ((conv => whnf); first | refine go ?_ | (refine VSome.mk ?_; intro gQ hA'; first | subst hA' | cases hA' | (dsimp only at hA'; subst hA')) | refine And.intro ?_ ?_ | intro _ | (first | ((show VCall _ _ _ 48 _ _); refine VCall.ret (fun w1 m1 => hSp w1 (ht.now m1)) (fun g9 _ => ?_)) | ((show VCall _ _ _ 112 _ _); refine VCall.grow _ (fun w1 m1 => hPt w1) ?_) | ((show VCall _ _ _ 113 _ _); refine VCall.ret (fun w1 m1 => hRd _ _ w1 (Seen.tail (B := _) (n := (x :: r).length) (k := 1) (Sees.any m1 fndA) hT9 (TS_len1 _)) (ht.now m1)) (fun i9 _ => ?_); obtain ⟨P, cp⟩ := i9) | ((show VIdx _ _ _ _ _ _ _); refine VIdx.at_ rfl 0 rfl ql ?_) | ((show VCut _ _ _ _ _ _ _); refine VCut.tail 1 rfl (by simp) (Nat.le_refl _) (Plain.some _ _) (fun B9 d9 hT9 _ => ?_)) | ((show VCall _ _ _ 114 [_, _, _] _); refine VCall.fullS [0, 1, 2] (by simp) (fun _ => rfl) (fun w1 m1 m2 => hEx w1 P cp _ (ht.lend m1 [0, 1, 2]) (OldSeen.anyRow m1 [0, 1, 2] (by repeat (first | exact At.here | apply At.there)) (by decide)) m2) (fun i hi => ?_)))))
  all_goals (conv => whnf)
  all_goals (obtain ⟨d9, P1, k1, P2, k2, t9⟩ := i; exact VRet.mk fun w' m => ⟨(d9, P1, k1, P2, k2, t9), trivial, rfl, m.sel (ks := [0, 100, 101]) (by simp)⟩)
set_option maxHeartbeats 8000000 in
theorem iLine_bad {w0 : Base} {w : World} (d : Co) (gc : Nat) (A1 : Option Addr) (c1 : Nat) (A2 : Option Addr) (c2 : Nat) (line : List UInt8) (hf : d.fit) (ht : Old2 w0) (hl : line.length ≤ 1048575) {x : List UInt8} {r : List (List UInt8)} (hs : sps 32 line = x :: r) (hq : (pat x).2 = true) (hz : rwZ (pat x).1 r = none) (m0 : Mem w0 [.blk gc 39 (d.at A1 c1 A2 c2), .row (.slice A1 d.n c1) 96 3 d.n (BaS d.n d.ba), .row (.slice A2 d.m c2) 98 4 d.m (AwS d.m d.wa)] w) :
    Calls Tryz.prog 77 #[.pointer (some ⟨gc, 0, none⟩), .string (tx line)] w fun e w' => ∃ v, e = .returned v ∧ RetL (ι := Co × Option Addr × Nat × Option Addr × Nat × List UInt8) (fun _ => True) (fun (_, _, _, _, _, t) => .tuple #[.string (tx t), .bool false]) (fun (d', P1, k1, P2, k2, _) => [.blk gc 39 (d'.at P1 k1 P2 k2), .gone, .gone]) (fun _ => []) w0 v w' := by
  obtain ⟨hr1, hr2⟩ : r.length ≤ 1048576 ∧ ∀ y ∈ r, y.length ≤ 1048576 := by
    have h1 := sps_len 32 line
    have h2 := sps_total 32 _ line (Nat.le_refl _)
    rw [hs] at h1 h2
    simp only [List.length_cons] at h1
    exact ⟨by omega, fun y hy => by have := (h2 y (List.mem_cons_of_mem _ hy)).1; omega⟩
  have hSp := fun w ht => split_v line w (by omega) ht
  rw [hs] at hSp
  have hPt := fun w => pattern_v x w
  have hpl := pat_len x
  have hRd := fun B c w hB ht => readWords_v B c (pat x).1 r w (by omega) hr1 hr2 hB ht
  rw [hz] at hRd
  rw [hq] at hPt
  generalize (pat x).1 = ps at *
  refine calls_of_vcL (w0 := w0) tb_ok (args := [.pointer (some ⟨gc, 0, none⟩), .string (tx line)]) Tryz.func77 rfl m0 ?_
  all_goals (have q0 : (TS (x :: r))[mulS 0 1]? = some (.string (tx x)) := rfl; have q1 : (TS (x :: r))[0 + mulS 0 1]? = some (.string (tx x)) := rfl; have ql : 0 < (x :: r).length := Nat.succ_pos _)
  (repeat' ((conv => whnf); first | refine go ?_ | (refine VSome.mk ?_; intro gQ hA'; first | subst hA' | cases hA' | (dsimp only at hA'; subst hA')) | refine And.intro ?_ ?_ | intro _ | (first | ((show VCall _ _ _ 48 _ _); refine VCall.ret (fun w1 m1 => hSp w1 (ht.now m1)) (fun g9 _ => ?_)) | ((show VCall _ _ _ 112 _ _); refine VCall.grow _ (fun w1 m1 => hPt w1) ?_) | ((show VCall _ _ _ 113 _ _); refine VCall.ret (fun w1 m1 => hRd _ _ w1 (Seen.tail (B := _) (n := (x :: r).length) (k := 1) (Sees.any m1 fndA) hT9 (TS_len1 _)) (ht.now m1)) (fun i9 _ => ?_); obtain ⟨P, cp⟩ := i9) | ((show VIdx _ _ _ _ _ _ _); refine VIdx.at_ rfl 0 rfl ql ?_) | ((show VCut _ _ _ _ _ _ _); refine VCut.tail 1 rfl (by simp) (Nat.le_refl _) (Plain.some _ _) (fun B9 d9 hT9 _ => ?_)))))
  all_goals (conv => whnf)
  all_goals exact VRet.mk fun w' m => ⟨(d, A1, c1, A2, c2, []), trivial, rfl, m.sel (ks := [0, 100, 101]) (by simp)⟩
set_option maxHeartbeats 8000000 in
theorem iLine_out {w0 : Base} {w : World} (d : Co) (gc : Nat) (A1 : Option Addr) (c1 : Nat) (A2 : Option Addr) (c2 : Nat) (line : List UInt8) (hf : d.fit) (ht : Old2 w0) (hl : line.length ≤ 1048575) {x : List UInt8} {r : List (List UInt8)} (hs : sps 32 line = x :: r) (hq : pat x = ([], false)) (m0 : Mem w0 [.blk gc 39 (d.at A1 c1 A2 c2), .row (.slice A1 d.n c1) 96 3 d.n (BaS d.n d.ba), .row (.slice A2 d.m c2) 98 4 d.m (AwS d.m d.wa)] w) :
    Calls Tryz.prog 77 #[.pointer (some ⟨gc, 0, none⟩), .string (tx line)] w fun e w' => ∃ v, e = .returned v ∧ RetL (ι := Co × Option Addr × Nat × Option Addr × Nat × List UInt8) (fun _ => True) (fun (_, _, _, _, _, t) => .tuple #[.string (tx t), .bool false]) (fun (d', P1, k1, P2, k2, _) => [.blk gc 39 (d'.at P1 k1 P2 k2), .gone, .gone]) (fun _ => []) w0 v w' := by
  obtain ⟨hr1, hr2⟩ : r.length ≤ 1048576 ∧ ∀ y ∈ r, y.length ≤ 1048576 := by
    have h1 := sps_len 32 line
    have h2 := sps_total 32 _ line (Nat.le_refl _)
    rw [hs] at h1 h2
    simp only [List.length_cons] at h1
    exact ⟨by omega, fun y hy => by have := (h2 y (List.mem_cons_of_mem _ hy)).1; omega⟩
  have hSp := fun w ht => split_v line w (by omega) ht
  rw [hs] at hSp
  have hPt := fun w => pattern_v x w
  have hpl := pat_len x
  have hRd := fun B c w hB ht => readWords_v B c [] r w (by decide) hr1 hr2 hB ht
  rw [hq] at hPt
  cases e9 : rwZ [] r
  all_goals rw [e9] at hRd
  all_goals (refine calls_of_vcL (w0 := w0) tb_ok (args := [.pointer (some ⟨gc, 0, none⟩), .string (tx line)]) Tryz.func77 rfl m0 ?_)
  all_goals (have q0 : (TS (x :: r))[mulS 0 1]? = some (.string (tx x)) := rfl; have q1 : (TS (x :: r))[0 + mulS 0 1]? = some (.string (tx x)) := rfl; have ql : 0 < (x :: r).length := Nat.succ_pos _)
  all_goals ((repeat' ((conv => whnf); first | refine go ?_ | (refine VSome.mk ?_; intro gQ hA'; first | subst hA' | cases hA' | (dsimp only at hA'; subst hA')) | refine And.intro ?_ ?_ | intro _ | (first | ((show VCall _ _ _ 48 _ _); refine VCall.ret (fun w1 m1 => hSp w1 (ht.now m1)) (fun g9 _ => ?_)) | ((show VCall _ _ _ 112 _ _); refine VCall.grow _ (fun w1 m1 => hPt w1) ?_) | ((show VCall _ _ _ 113 _ _); refine VCall.ret (fun w1 m1 => hRd _ _ w1 (Seen.tail (B := _) (n := (x :: r).length) (k := 1) (Sees.any m1 fndA) hT9 (TS_len1 _)) (ht.now m1)) (fun i9 _ => ?_); obtain ⟨P, cp⟩ := i9) | ((show VIdx _ _ _ _ _ _ _); refine VIdx.at_ rfl 0 rfl ql ?_) | ((show VCut _ _ _ _ _ _ _); refine VCut.tail 1 rfl (by simp) (Nat.le_refl _) (Plain.some _ _) (fun B9 d9 hT9 _ => ?_))))))
  all_goals (conv => whnf)
  all_goals exact VRet.mk fun w' m => ⟨(d, A1, c1, A2, c2, []), trivial, rfl, m.sel (ks := [0, 100, 101]) (by simp)⟩
theorem iLine_no {w0 : Base} {w : World} (d : Co) (gc : Nat) (A1 : Option Addr) (c1 : Nat) (A2 : Option Addr) (c2 : Nat) (line : List UInt8) (hf : d.fit) (ht : Old2 w0) (hl : line.length ≤ 1048575) (h : ∀ x L, parse line = some (x, L) → d.ex x L = none) (m0 : Mem w0 [.blk gc 39 (d.at A1 c1 A2 c2), .row (.slice A1 d.n c1) 96 3 d.n (BaS d.n d.ba), .row (.slice A2 d.m c2) 98 4 d.m (AwS d.m d.wa)] w) :
    Calls Tryz.prog 77 #[.pointer (some ⟨gc, 0, none⟩), .string (tx line)] w fun e w' => ∃ v, e = .returned v ∧ RetL (ι := Co × Option Addr × Nat × Option Addr × Nat × List UInt8) (fun _ => True) (fun (_, _, _, _, _, t) => .tuple #[.string (tx t), .bool false]) (fun (d', P1, k1, P2, k2, _) => [.blk gc 39 (d'.at P1 k1 P2 k2), .gone, .gone]) (fun _ => []) w0 v w' := by
  cases hp : parse line with
  | none =>
    obtain ⟨x, r, hs, hq | ⟨hq, hz⟩⟩ := parse_none hp
    · exact iLine_out d gc A1 c1 A2 c2 line hf ht hl hs hq m0
    · exact iLine_bad d gc A1 c1 A2 c2 line hf ht hl hs hq hz m0
  | some p => exact iLine_fail d gc A1 c1 A2 c2 line hf ht hl (x := p.1) (L := p.2) hp (h _ _ hp) m0
end Go.Proofs.YtadjhkehfklmnaaGreatDoor
namespace Go.Proofs.YtadjhkehfklmnaaGreatDoor
set_option linter.unusedSimpArgs false
set_option linter.unusedVariables false
open Go.RowKit
set_option maxRecDepth 10000
theorem apV_ok {d p x r : List UInt8} {c : Int} (h : okL d p c ∧ okR x r) (hc : ¬ c = 60) : apV d p c x r = (p ++ (ln c.toNat x r ++ [10]), c + 1, 0) := by unfold apV; rw [tr_yes h, if_pos rfl, if_neg hc]
theorem Co.cmd_yes {d c' : Co} {line x t : List UInt8} {L : List Int} (h1 : parse line = some (x, L)) (h2 : d.ex x L = some (c', t)) : d.cmd line = (c', t) := by
  unfold Co.cmd; rw [h1]; dsimp only; rw [h2]
theorem Co.cmd_no {d : Co} {line : List UInt8} (h : ∀ x L, parse line = some (x, L) → d.ex x L = none) : d.cmd line = (d, wAsk) := by
  unfold Co.cmd
  cases e : parse line with
  | none => rfl
  | some p => obtain ⟨x, L⟩ := p; dsimp only; rw [h x L e]
theorem Co.cmd_cases (d : Co) (line : List UInt8) : (∃ x L c' t, parse line = some (x, L) ∧ d.ex x L = some (c', t)) ∨ ∀ x L, parse line = some (x, L) → d.ex x L = none := by
  cases e : parse line with
  | none => exact .inr fun x L h => by cases h
  | some p =>
    obtain ⟨x, L⟩ := p
    cases e2 : d.ex x L with
    | none => exact .inr fun x' L' h => by cases h; exact e2
    | some r => exact .inl ⟨x, L, r.1, r.2, rfl, e2⟩
set_option maxHeartbeats 16000000 in
theorem iExec_v (A1 A2 : Option Addr) (c1 c2 : Nat) (d : Co) (line : List UInt8) (w : World) (hs : d.small) (hl : line.length ≤ 9223372036854775807) (ht : PT2 w) (hA : Seen w A1 (BaS d.n d.ba)) (hB : Seen w A2 (AwS d.m d.wa)) (hP : Plain A1) (hQ : Plain A2) :
    Calls Tryz.prog 29 #[.agg (d.at A1 c1 A2 c2).toArray, .string (tx line)] w fun e w' => ∃ v, e = .returned v ∧ RetV (fun _ => True) (fun i => .tuple #[(d.exec line).1.cv i, .string (tx (d.exec line).2)]) (d.exec line).1.cn (Base.of w) v w' := by
  obtain ⟨hn, hm, hd, hp⟩ := hs
  have hO := Old2.old ht
  have hG := fun w ht hA hB => iCon_v A1 A2 c1 c2 d w hn hm hd hp ht hA hB
  by_cases hg : d.good
  · rw [tr_yes hg] at hG
    have hR := fun w => iGood_v line [] w hl (by decide)
    by_cases hr : okR line []
    · rw [tr_yes hr] at hR
      by_cases hc : d.log.count = 60
      · rw [Co.exec_full hg hr hc]
        refine calls_of_vc tb_ok (args := [.agg (d.at A1 c1 A2 c2).toArray, .string (tx line)]) Tryz.func29 rfl ?_
        (repeat' ((conv => whnf); first | refine go ?_ | (refine VSome.mk ?_; intro gQ hA'; first | subst hA' | cases hA' | (dsimp only at hA'; subst hA')) | refine And.intro ?_ ?_ | intro _ | (first | ((show VCall _ _ _ 39 _ _); refine VCall.grow _ (fun w1 m1 => hG w1 (ht.on m1).1 seenA seenA) ?_) | ((show VCall _ _ _ 76 _ _); refine VCall.grow _ (fun w1 m1 => hR w1) ?_) | ((show VCall _ _ _ 70 _ _); refine VCall.ret (fun w1 m1 => iNew_v _ _ _ _ d w1 hn hm seenA seenA hP hQ) (fun i _ => ?_); obtain ⟨⟨A9, c9⟩, B9, e9⟩ := i))))
        all_goals (conv => whnf)
        all_goals exact VRet.sel ((A9, c9), (B9, e9)) trivial rfl [2, 3] (by simp) rfl
      · have hl1 : line.length ≤ 160 := hr.2.2.2.1
        rcases d.cmd_cases line with ⟨x, L, c', t, h1, h2⟩ | hno
        · have hcmd := Co.cmd_yes h1 h2
          have hx := Co.exec_yes hg hr hc
          have hre := Co.rec_ok hg.fit hr
          rw [hcmd] at hx hre
          dsimp only at hx hre
          rw [hx]
          have hE := fun (w0 : Base) w gc A1 c1 A2 c2 ht m => iLine_yes (w0 := w0) (w := w) d gc A1 c1 A2 c2 line hg.fit ht (by omega) h1 h2 m
          have hsz := tx_size t
          have hAp := fun w ht => iApp_v d.du d.pe d.log.count line (cutR t) w (by rw [Co.du_len]; exact hd) (by rw [Co.pe_len]; exact hp) (by omega) (by have := hre.2.2.2.2.1; omega) ht
          rw [d.du_tx, d.pe_tx, apV_ok ⟨hg.2.2.2, hre⟩ hc] at hAp
          dsimp only at hAp
          by_cases hlong : 200 < t.length
          all_goals (first | rw [show cutR t = wLong from if_pos hlong] at hAp ⊢ | rw [show cutR t = t from if_neg hlong] at hAp ⊢)
          all_goals (refine calls_of_vc tb_ok (args := [.agg (d.at A1 c1 A2 c2).toArray, .string (tx line)]) Tryz.func29 rfl ?_)
          all_goals ((repeat' ((conv => whnf); first | refine go ?_ | (refine VSome.mk ?_; intro gQ hA'; first | subst hA' | cases hA' | (dsimp only at hA'; subst hA')) | refine And.intro ?_ ?_ | intro _ | (first | ((show VCall _ _ _ 39 _ _); refine VCall.grow _ (fun w1 m1 => hG w1 (ht.on m1).1 seenA seenA) ?_) | ((show VCall _ _ _ 76 _ _); refine VCall.grow _ (fun w1 m1 => hR w1) ?_) | ((show VCall _ _ _ 70 _ _); refine VCall.ret (fun w1 m1 => iNew_v _ _ _ _ d w1 hn hm seenA seenA hP hQ) (fun i _ => ?_); obtain ⟨⟨A9, c9⟩, B9, e9⟩ := i) | ((show VCall _ _ _ 77 [_, _] _); refine VCall.fullS [4, 2, 3] (by simp) (fun _ => rfl) (fun w1 m1 m2 => hE _ w1 _ A9 c9 B9 e9 (hO.lend m1 [4, 2, 3]) m2) (fun i hi => ?_); obtain ⟨P1, k1, P2, k2⟩ := i) | ((show VCall _ _ _ 78 _ _); refine VCall.grow _ (fun w1 m1 => hAp w1 (ht.on m1).1) ?_)))))
          all_goals (conv => whnf)
          all_goals exact VRet.sel ((P1, k1), (P2, k2)) trivial rfl [2, 3] (by simp) rfl
        · have hcmd := Co.cmd_no hno
          have hx := Co.exec_yes hg hr hc
          have hre := Co.rec_ok hg.fit hr
          rw [hcmd] at hx hre
          dsimp only at hx hre
          rw [show cutR wAsk = wAsk from rfl] at hx hre
          rw [hx]
          have hE := fun (w0 : Base) w gc A1 c1 A2 c2 ht m => iLine_no (w0 := w0) (w := w) d gc A1 c1 A2 c2 line hg.fit ht (by omega) hno m
          have hsz : ({ data := #[63] } : ByteArray).size = 1 := rfl
          have hAp := fun w ht => iApp_v d.du d.pe d.log.count line (wAsk) w (by rw [Co.du_len]; exact hd) (by rw [Co.pe_len]; exact hp) (by omega) (by have := hre.2.2.2.2.1; omega) ht
          rw [d.du_tx, d.pe_tx, apV_ok ⟨hg.2.2.2, hre⟩ hc] at hAp
          dsimp only at hAp
          refine calls_of_vc tb_ok (args := [.agg (d.at A1 c1 A2 c2).toArray, .string (tx line)]) Tryz.func29 rfl ?_
          (repeat' ((conv => whnf); first | refine go ?_ | (refine VSome.mk ?_; intro gQ hA'; first | subst hA' | cases hA' | (dsimp only at hA'; subst hA')) | refine And.intro ?_ ?_ | intro _ | (first | ((show VCall _ _ _ 39 _ _); refine VCall.grow _ (fun w1 m1 => hG w1 (ht.on m1).1 seenA seenA) ?_) | ((show VCall _ _ _ 76 _ _); refine VCall.grow _ (fun w1 m1 => hR w1) ?_) | ((show VCall _ _ _ 70 _ _); refine VCall.ret (fun w1 m1 => iNew_v _ _ _ _ d w1 hn hm seenA seenA hP hQ) (fun i _ => ?_); obtain ⟨⟨A9, c9⟩, B9, e9⟩ := i) | ((show VCall _ _ _ 77 [_, _] _); refine VCall.fullS [4, 2, 3] (by simp) (fun _ => rfl) (fun w1 m1 m2 => hE _ w1 _ A9 c9 B9 e9 (hO.lend m1 [4, 2, 3]) m2) (fun i hi => ?_); obtain ⟨d8, P1, k1, P2, k2, t8⟩ := i) | ((show VCall _ _ _ 78 _ _); refine VCall.grow _ (fun w1 m1 => hAp w1 (ht.on m1).1) ?_))))
          all_goals (conv => whnf)
          all_goals exact VRet.sel ((A9, c9), (B9, e9)) trivial rfl [5, 6] (by simp) rfl
    · rw [tr_no hr] at hR
      rw [Co.exec_bad hg hr]
      refine calls_of_vc tb_ok (args := [.agg (d.at A1 c1 A2 c2).toArray, .string (tx line)]) Tryz.func29 rfl ?_
      (repeat' ((conv => whnf); first | refine go ?_ | (refine VSome.mk ?_; intro gQ hA'; first | subst hA' | cases hA' | (dsimp only at hA'; subst hA')) | refine And.intro ?_ ?_ | intro _ | (first | ((show VCall _ _ _ 39 _ _); refine VCall.grow _ (fun w1 m1 => hG w1 (ht.on m1).1 seenA seenA) ?_) | ((show VCall _ _ _ 76 _ _); refine VCall.grow _ (fun w1 m1 => hR w1) ?_) | ((show VCall _ _ _ 70 _ _); refine VCall.ret (fun w1 m1 => iNew_v _ _ _ _ d w1 hn hm seenA seenA hP hQ) (fun i _ => ?_); obtain ⟨⟨A9, c9⟩, B9, e9⟩ := i))))
      all_goals (conv => whnf)
      all_goals exact VRet.sel ((A9, c9), (B9, e9)) trivial rfl [2, 3] (by simp) rfl
  · rw [tr_no hg] at hG
    rw [Co.exec_no hg]
    refine calls_of_vc tb_ok (args := [.agg (d.at A1 c1 A2 c2).toArray, .string (tx line)]) Tryz.func29 rfl ?_
    (repeat' ((conv => whnf); first | refine go ?_ | (refine VSome.mk ?_; intro gQ hA'; first | subst hA' | cases hA' | (dsimp only at hA'; subst hA')) | refine And.intro ?_ ?_ | intro _ | (first | ((show VCall _ _ _ 39 _ _); refine VCall.grow _ (fun w1 m1 => hG w1 (ht.on m1).1 seenA seenA) ?_) | ((show VCall _ _ _ 70 _ _); refine VCall.ret (fun w1 m1 => iNew_v _ _ _ _ d w1 hn hm seenA seenA hP hQ) (fun i _ => ?_); obtain ⟨⟨A9, c9⟩, B9, e9⟩ := i))))
    all_goals (conv => whnf)
    all_goals exact VRet.sel ((A9, c9), (B9, e9)) trivial rfl [2, 3] (by simp) rfl
end Go.Proofs.YtadjhkehfklmnaaGreatDoor
namespace Go.Proofs.YtadjhkehfklmnaaGreatDoor
set_option linter.unusedSimpArgs false
set_option linter.unusedVariables false
open Go.RowKit
set_option maxRecDepth 10000
theorem sRun_v {w0 : Base} {w : World} (d : Co) (A1 : Option Addr) (c1 : Nat) (A2 : Option Addr) (c2 : Nat) (line : List UInt8) (hf : d.fit) (hl : line.length ≤ 1048575) (m0 : Mem w0 [.row (.slice A1 d.n c1) 96 3 d.n (BaS d.n d.ba), .row (.slice A2 d.m c2) 98 4 d.m (AwS d.m d.wa)] w) :
    Calls Tryz.prog 86 #[.agg (d.at A1 c1 A2 c2).toArray, .string (tx line)] w fun e w' => ∃ v, e = .returned v ∧ RetL (ι := Option Addr × Nat × Option Addr × Nat) (fun _ => True) (fun (P1, k1, P2, k2) => .tuple #[.agg (((d.cmd line).1 : Co).at P1 k1 P2 k2).toArray, .string (tx (d.cmd line).2)]) (fun (P1, k1, P2, k2) => [.row (.slice P1 ((d.cmd line).1 : Co).n k1) 96 3 ((d.cmd line).1 : Co).n (BaS ((d.cmd line).1 : Co).n ((d.cmd line).1 : Co).ba), .row (.slice P2 ((d.cmd line).1 : Co).m k2) 98 4 ((d.cmd line).1 : Co).m (AwS ((d.cmd line).1 : Co).m ((d.cmd line).1 : Co).wa)]) (fun _ => []) w0 v w' := by
  by_cases e1 : line = wLevel
  · rw [show d.cmd line = (d, Lib.itoa d.lock.level) by rw [e1]; exact d.cmd_level]
    exact sRun_level d A1 c1 A2 c2 line hf hl e1 m0
  by_cases e2 : line = wWater
  · rw [show d.cmd line = (d, Lib.itoa (smI (fun i => (d.ba i).vol) d.n)) by rw [e2]; exact d.cmd_water]
    exact sRun_water d A1 c1 A2 c2 line hf hl e2 m0
  obtain ⟨x, r, hs⟩ : ∃ x r, sps 32 line = x :: r := by
    cases e : sps 32 line with
    | nil => have := sps_ne 32 line; rw [e] at this; simp at this
    | cons x r => exact ⟨x, r, rfl⟩
  obtain ⟨hr1, hr2⟩ : r.length ≤ 1048576 ∧ ∀ y ∈ r, y.length ≤ 1048576 := by
    have h1 := sps_len 32 line
    have h2 := sps_total 32 _ line (Nat.le_refl _)
    rw [hs] at h1 h2
    simp only [List.length_cons] at h1
    exact ⟨by omega, fun y hy => by have := (h2 y (List.mem_cons_of_mem _ hy)).1; omega⟩
  have h0 : ¬ (r.length = 0 ∧ (x = wLevel ∨ x = wWater)) := fun ⟨q, q2⟩ => by
    obtain rfl : r = [] := List.length_eq_zero_iff.1 q
    have := sps_single hs
    rcases q2 with q2 | q2
    · exact e1 (this.trans q2)
    · exact e2 (this.trans q2)
  rw [Co.cmd_sps hs]
  by_cases s1 : r = [wHigh]
  · subst s1
    rw [show d.cmdW x [wHigh] = d.sideV x true from d.cmdW_side x true]
    exact sRun_side d A1 c1 A2 c2 line hf hl e1 e2 x true hs m0
  by_cases s2 : r = [wLow]
  · subst s2
    rw [show d.cmdW x [wLow] = d.sideV x false from d.cmdW_side x false]
    exact sRun_side d A1 c1 A2 c2 line hf hl e1 e2 x false hs m0
  have hsd : ∀ hi, ¬ r = [sideW hi] := fun hi => by
    cases hi
    · exact s2
    · exact s1
  by_cases hw : ∃ y up z u, x = wArrive ∧ r = [y, wayW up, z, u]
  · obtain ⟨y, up, z, u, rfl, rfl⟩ := hw
    have hx : ∀ v ∈ [y, z, u], v.length ≤ 1048576 := fun v hv => hr2 v (by
      simp only [List.mem_cons, List.not_mem_nil, or_false] at hv ⊢
      rcases hv with h | h | h
      · exact .inl h
      · exact .inr (.inr (.inl h))
      · exact .inr (.inr (.inr h)))
    cases hz : numZ [y, z, u] with
    | none =>
      rw [Co.cmdW_arr_no hz]
      cases up
      · exact sRun_arr_bad_false d A1 c1 A2 c2 line hf hl e1 e2 y z u hs hx hz m0
      · exact sRun_arr_bad_true d A1 c1 A2 c2 line hf hl e1 e2 y z u hs hx hz m0
    | some l =>
      rw [Co.cmdW_arr hz]
      by_cases hg : aGood (d.m + 1) (insF d.wa (plc d.wa (a0 l 0) d.m 0) ⟨a0 l 0, up, a0 l 1, a0 l 2⟩)
      · rw [Co.arrV_yes hg]
        cases up
        · exact sRun_arr_yes_false d A1 c1 A2 c2 line hf hl e1 e2 y z u hs hx hz hg m0
        · exact sRun_arr_yes_true d A1 c1 A2 c2 line hf hl e1 e2 y z u hs hx hz hg m0
      · rw [Co.arrV_no hg]
        cases up
        · exact sRun_arr_no_false d A1 c1 A2 c2 line hf hl e1 e2 y z u hs hx hz hg m0
        · exact sRun_arr_no_true d A1 c1 A2 c2 line hf hl e1 e2 y z u hs hx hz hg m0
  have hwy : ∀ y up z u, x = wArrive → ¬ r = [y, wayW up, z, u] := fun y up z u h h2 => hw ⟨y, up, z, u, h, h2⟩
  by_cases l1 : r.length = 1
  · obtain ⟨y, rfl⟩ := List.length_eq_one_iff.1 l1
    have hy1 : ¬ y = wHigh := fun q => s1 (by rw [q])
    have hy2 : ¬ y = wLow := fun q => s2 (by rw [q])
    cases hz : numZ [y] with
    | none =>
      rw [Co.cmdW_num_no hz hsd hwy]
      exact sRun_one_bad d A1 c1 A2 c2 line hf hl e1 e2 x y hs hr2 hy1 hy2 hz m0
    | some l =>
      by_cases x1 : x = wStep
      · subst x1
        rw [Co.cmdW_num hz (.inr ⟨.inl rfl, rfl⟩), Co.ex_step]
        by_cases h : d.lock.okStep (a0 l 0)
        · rw [ite_tr h]; exact sRun_step_yes d A1 c1 A2 c2 line hf hl e1 e2 y hs hr2 hy1 hy2 hz h m0
        · rw [ite_ntr h]; exact sRun_step_no d A1 c1 A2 c2 line hf hl e1 e2 y hs hr2 hy1 hy2 hz h m0
      by_cases x2 : x = wLeave
      · subst x2
        rw [Co.cmdW_num hz (.inr ⟨.inr (.inl rfl), rfl⟩), Co.ex_leave]
        cases h : fnd d.wa (a0 l 0) d.m with
        | some i => exact sRun_leave_yes d A1 c1 A2 c2 line hf hl e1 e2 y hs hr2 hy1 hy2 hz h m0
        | none => exact sRun_leave_no d A1 c1 A2 c2 line hf hl e1 e2 y hs hr2 hy1 hy2 hz h m0
      by_cases hb : x = wBest ∨ x = wDelay ∨ x = wBound
      · rw [Co.cmdW_num hz (.inr ⟨.inr (.inr hb), rfl⟩), Co.askV_ex hb]
        exact sRun_ask d A1 c1 A2 c2 line hf hl e1 e2 x y hs hr2 hy1 hy2 hz x1 x2 m0
      · have hn : d.askV x (a0 l 0) = wAsk := Co.askV_no (fun q => hb (.inl q)) (fun q => hb (.inr (.inl q))) (fun q => hb (.inr (.inr q)))
        rw [Co.cmdW_num_out hz h0 (fun q => by
          rcases q with ⟨_, q⟩ | ⟨q, _⟩
          · exact absurd q (by show ¬ (1 = 3); decide)
          · rcases q with q | q | q
            · exact x1 q
            · exact x2 q
            · exact hb q), ← hn]
        exact sRun_ask d A1 c1 A2 c2 line hf hl e1 e2 x y hs hr2 hy1 hy2 hz x1 x2 m0
  · by_cases l4 : x = wArrive ∧ r.length = 4
    · obtain ⟨rfl, l4⟩ := l4
      obtain ⟨y, v, z, u, rfl⟩ : ∃ y v z u, r = [y, v, z, u] := by
        match r, l4 with
        | [y, v, z, u], _ => exact ⟨y, v, z, u, rfl⟩
      have hv1 : ¬ v = wUp := fun q => hwy y true z u rfl (by rw [q]; rfl)
      have hv2 : ¬ v = wDown := fun q => hwy y false z u rfl (by rw [q]; rfl)
      cases hz : numZ [y, v, z, u] with
      | none =>
        rw [Co.cmdW_num_no hz hsd hwy]
        exact sRun_way_bad d A1 c1 A2 c2 line hf hl e1 e2 y v z u hs hr2 hv1 hv2 hz m0
      | some l =>
        rw [Co.cmdW_num_out hz h0 (fun q => by
          rcases q with ⟨q, _⟩ | ⟨_, q⟩
          · exact absurd q (by decide)
          · exact l1 q)]
        exact sRun_way_out d A1 c1 A2 c2 line hf hl e1 e2 y v z u hs hr2 hv1 hv2 hz m0
    · cases hz : numZ r with
      | none =>
        rw [Co.cmdW_num_no hz hsd hwy]
        exact sRun_oth_bad d A1 c1 A2 c2 line hf hl e1 e2 x r hs hr1 hr2 l1 l4 hz m0
      | some l =>
        by_cases h3 : x = wFlow ∧ r.length = 3
        · obtain ⟨rfl, h3⟩ := h3
          obtain ⟨y, z, u, rfl⟩ : ∃ y z u, r = [y, z, u] := by
            match r, h3 with
            | [y, z, u], _ => exact ⟨y, z, u, rfl⟩
          rw [Co.cmdW_num hz (.inl ⟨rfl, rfl⟩), Co.ex_flow]
          by_cases h : bCan d.n d.ba (a0 l 0) (a0 l 1) (a0 l 2)
          · rw [ite_tr h]; exact sRun_flow_yes d A1 c1 A2 c2 line hf hl e1 e2 y z u hs hr2 hz h m0
          · rw [ite_ntr h]; exact sRun_flow_no d A1 c1 A2 c2 line hf hl e1 e2 y z u hs hr2 hz h m0
        · rw [Co.cmdW_num_out hz h0 (fun q => by
            rcases q with q | ⟨_, q⟩
            · exact h3 q
            · exact l1 q)]
          exact sRun_oth_out d A1 c1 A2 c2 line hf hl e1 e2 x r hs hr1 hr2 l1 l4 hz h3 m0
set_option maxHeartbeats 16000000 in
theorem sExec_v (A1 A2 : Option Addr) (c1 c2 : Nat) (d : Co) (line : List UInt8) (w : World) (hs : d.small) (hl : line.length ≤ 9223372036854775807) (hA : Seen w A1 (BaS d.n d.ba)) (hB : Seen w A2 (AwS d.m d.wa)) (hP : Plain A1) (hQ : Plain A2) :
    Calls Tryz.prog 38 #[.agg (d.at A1 c1 A2 c2).toArray, .string (tx line)] w fun e w' => ∃ v, e = .returned v ∧ RetV (fun _ => True) (fun i => .tuple #[(d.exec line).1.cv i, .string (tx (d.exec line).2)]) (d.exec line).1.cn (Base.of w) v w' := by
  obtain ⟨hn, hm, hd, hp⟩ := hs
  have hG := fun w hA hB => sG28_v A1 A2 c1 c2 d w hn hm hd hp hA hB
  by_cases hg : d.good
  · rw [tr_yes hg] at hG
    have hR := fun w => sGood_v line [] w hl (by decide)
    by_cases hr : okR line []
    · rw [tr_yes hr] at hR
      by_cases hc : d.log.count = 60
      · rw [Co.exec_full hg hr hc]
        refine calls_of_vc tb_ok (args := [.agg (d.at A1 c1 A2 c2).toArray, .string (tx line)]) Tryz.func38 rfl ?_
        (repeat' ((conv => whnf); first | refine go ?_ | (refine VSome.mk ?_; intro gQ hA'; first | subst hA' | cases hA' | (dsimp only at hA'; subst hA')) | refine And.intro ?_ ?_ | intro _ | (first | ((show VCall _ _ _ 45 _ _); refine VCall.grow _ (fun w1 m1 => hG w1 seenA seenA) ?_) | ((show VCall _ _ _ 85 _ _); refine VCall.grow _ (fun w1 m1 => hR w1) ?_) | ((show VCall _ _ _ 73 _ _); refine VCall.ret (fun w1 m1 => sOwn_v _ _ _ _ d w1 hn hm seenA seenA hP hQ) (fun i _ => ?_); obtain ⟨⟨A9, c9⟩, B9, e9⟩ := i))))
        all_goals (conv => whnf)
        all_goals exact VRet.sel ((A9, c9), (B9, e9)) trivial rfl [2, 3] (by simp) rfl
      · have hl1 : line.length ≤ 160 := hr.2.2.2.1
        have hx := Co.exec_yes hg hr hc
        have hre := Co.rec_ok hg.fit hr
        have hcm := Co.cmd_ok hg.fit line
        have hE := fun (w0 : Base) w A1 c1 A2 c2 m => sRun_v (w0 := w0) (w := w) d A1 c1 A2 c2 line hg.fit (by omega) m
        rw [hx]
        generalize d.cmd line = q at hre hcm hE ⊢
        obtain ⟨c', t⟩ := q
        dsimp only at hre hcm hE ⊢
        have hn' : c'.n ≤ 1048576 := by have := hcm.1.2.1.2; omega
        have hm' : c'.m ≤ 1048576 := by have := hcm.1.2.2.2; omega
        have hlog := hcm.2.1
        have hOw := fun A B c e w hA hB hP hQ => sOwn_v A B c e c' w hn' hm' hA hB hP hQ
        have hsz := tx_size t
        have hAp := fun w => sApp_v d.du d.pe d.log.count line (cutR t) w (by rw [Co.du_len]; exact hd) (by rw [Co.pe_len]; exact hp) (by omega) (by have := hre.2.2.2.2.1; omega)
        rw [d.du_tx, d.pe_tx, apV_ok ⟨hg.2.2.2, hre⟩ hc] at hAp
        dsimp only at hAp
        by_cases hlong : 200 < t.length
        all_goals (first | rw [show cutR t = wLong from if_pos hlong] at hAp ⊢ | rw [show cutR t = t from if_neg hlong] at hAp ⊢)
        all_goals (refine calls_of_vc tb_ok (args := [.agg (d.at A1 c1 A2 c2).toArray, .string (tx line)]) Tryz.func38 rfl ?_)
        all_goals ((repeat' ((conv => whnf); first | refine go ?_ | (refine VSome.mk ?_; intro gQ hA'; first | subst hA' | cases hA' | (dsimp only at hA'; subst hA')) | refine And.intro ?_ ?_ | intro _ | (first | ((show VCall _ _ _ 45 _ _); refine VCall.grow _ (fun w1 m1 => hG w1 seenA seenA) ?_) | ((show VCall _ _ _ 85 _ _); refine VCall.grow _ (fun w1 m1 => hR w1) ?_) | ((show VCall _ _ _ 73 [.agg (d.at _ _ _ _).toArray] _); refine VCall.ret (fun w1 m1 => sOwn_v _ _ _ _ d w1 hn hm seenA seenA hP hQ) (fun i _ => ?_); obtain ⟨⟨A9, c9⟩, B9, e9⟩ := i) | ((show VCall _ _ _ 86 [_, _] _); refine VCall.fullS [2, 3] (by simp) (fun _ => rfl) (fun w1 m1 m2 => hE _ w1 A9 c9 B9 e9 m2) (fun i hi => ?_); obtain ⟨P1, k1, P2, k2⟩ := i) | ((show VCall _ _ _ 73 [.agg (c'.at _ _ _ _).toArray] _); refine VCall.ret (fun w1 m1 => hOw _ _ _ _ w1 seenA seenA (m1.plain fndA) (m1.plain fndA)) (fun i _ => ?_); obtain ⟨⟨A8, c8⟩, B8, e8⟩ := i) | ((show VCall _ _ _ 64 _ _); refine VCall.grow _ (fun w1 m1 => hAp w1) ?_)))))
        all_goals (conv => whnf)
        all_goals exact VRet.sel ((A8, c8), (B8, e8)) trivial rfl [6, 7] (by simp) rfl
    · rw [tr_no hr] at hR
      rw [Co.exec_bad hg hr]
      refine calls_of_vc tb_ok (args := [.agg (d.at A1 c1 A2 c2).toArray, .string (tx line)]) Tryz.func38 rfl ?_
      (repeat' ((conv => whnf); first | refine go ?_ | (refine VSome.mk ?_; intro gQ hA'; first | subst hA' | cases hA' | (dsimp only at hA'; subst hA')) | refine And.intro ?_ ?_ | intro _ | (first | ((show VCall _ _ _ 45 _ _); refine VCall.grow _ (fun w1 m1 => hG w1 seenA seenA) ?_) | ((show VCall _ _ _ 85 _ _); refine VCall.grow _ (fun w1 m1 => hR w1) ?_) | ((show VCall _ _ _ 73 _ _); refine VCall.ret (fun w1 m1 => sOwn_v _ _ _ _ d w1 hn hm seenA seenA hP hQ) (fun i _ => ?_); obtain ⟨⟨A9, c9⟩, B9, e9⟩ := i))))
      all_goals (conv => whnf)
      all_goals exact VRet.sel ((A9, c9), (B9, e9)) trivial rfl [2, 3] (by simp) rfl
  · rw [tr_no hg] at hG
    rw [Co.exec_no hg]
    refine calls_of_vc tb_ok (args := [.agg (d.at A1 c1 A2 c2).toArray, .string (tx line)]) Tryz.func38 rfl ?_
    (repeat' ((conv => whnf); first | refine go ?_ | (refine VSome.mk ?_; intro gQ hA'; first | subst hA' | cases hA' | (dsimp only at hA'; subst hA')) | refine And.intro ?_ ?_ | intro _ | (first | ((show VCall _ _ _ 45 _ _); refine VCall.grow _ (fun w1 m1 => hG w1 seenA seenA) ?_) | ((show VCall _ _ _ 73 _ _); refine VCall.ret (fun w1 m1 => sOwn_v _ _ _ _ d w1 hn hm seenA seenA hP hQ) (fun i _ => ?_); obtain ⟨⟨A9, c9⟩, B9, e9⟩ := i))))
    all_goals (conv => whnf)
    all_goals exact VRet.sel ((A9, c9), (B9, e9)) trivial rfl [2, 3] (by simp) rfl
end Go.Proofs.YtadjhkehfklmnaaGreatDoor
namespace Go.Proofs.YtadjhkehfklmnaaGreatDoor.lawExecuteCommand
set_option linter.unusedSimpArgs false
set_option linter.unusedVariables false
open Go.ChangeShapes Go.WideShapes Go.ChangeAt Go.RowKit
set_option maxRecDepth 20000
set_option maxHeartbeats 4000000 in
theorem walk (A0_0 : Option Addr) (c0_0 : Nat) (A0_1 : Option Addr) (c0_1 : Nat) (d0 : Co) (x1 : ByteArray) (w : World) (hn0_0 : d0.n ≤ 9223372036854775807) (hn0_1 : d0.m ≤ 9223372036854775807) (hA0_0 : Seen w A0_0 (BaS d0.n d0.ba)) (hA0_1 : Seen w A0_1 (AwS d0.m d0.wa)) (hw0 : d0.wf) (hx1 : x1.size ≤ maxLen) (ht : PT2 w) :
    Calls Tryz.prog 8 #[.agg (d0.at A0_0 c0_0 A0_1 c0_1).toArray, .string x1] w (Post (.bool true) w) := by
  have hs0_d : d0.log.durable.size ≤ 9223372036854775807 := by have := hw0.2.2.2; unfold Lg.wf maxLen at this; omega
  have hs0_p : d0.log.pending.size ≤ 9223372036854775807 := by have := hw0.2.2.2; unfold Lg.wf maxLen at this; omega
  have hsz : x1.data.toList.length = x1.size := by rw [← tx_size, tx_list]
  have hcs := fun A B c e w (q1 : d0.n ≤ 1048576) (q2 : d0.m ≤ 1048576) (q3 : d0.log.durable.size ≤ 1048576) (q4 : d0.log.pending.size ≤ 1048576) q5 hA hB hP hQ => sExec_v A B c e d0 x1.data.toList w ⟨q1, q2, q3, q4⟩ q5 hA hB hP hQ
  have hci := fun A B c e w (q1 : d0.n ≤ 1048576) (q2 : d0.m ≤ 1048576) (q3 : d0.log.durable.size ≤ 1048576) (q4 : d0.log.pending.size ≤ 1048576) q5 ht hA hB hP hQ => iExec_v A B c e d0 x1.data.toList w ⟨q1, q2, q3, q4⟩ q5 ht hA hB hP hQ
  have hfs := fun (q1 : d0.n ≤ 1048576) (q2 : d0.m ≤ 1048576) (q3 : d0.log.durable.size ≤ 1048576) (q4 : d0.log.pending.size ≤ 1048576) => Co.exec_small (d := d0) ⟨q1, q2, q3, q4⟩ x1.data.toList
  rw [tx_list] at hcs hci
  generalize d0.exec x1.data.toList = ex at hcs hci hfs
  obtain ⟨co, rt⟩ := ex
  dsimp only at hcs hci hfs
  refine post_of_vc ?_
  refine calls_of_vc tb_ok (args := [.agg (d0.at A0_0 c0_0 A0_1 c0_1).toArray, .string x1]) Tryz.func8 rfl ?_
  (repeat' ((conv => whnf); first | refine go ?_ | (refine VSome.mk ?_; intro gQ hA'; first | subst hA' | cases hA' | (dsimp only at hA'; subst hA')) | refine And.intro ?_ ?_ | intro _ | (first | ((show VCall _ _ _ 9 _ _); refine VCall.some _ _ (fun w1 m1 => szConsole_v A0_0 c0_0 A0_1 c0_1 d0 _ w1 hn0_0 hn0_1 hs0_d hs0_p (by omega) (by omega)) (fun r hr => ?_)) | ((show VCall _ _ _ 11 _ _); refine VCall.ret (fun w1 m1 => toConsole_v A0_0 c0_0 A0_1 c0_1 d0 w1 (by omega) (by omega) seenA seenA) (fun g _ => ?_); obtain ⟨g1, g2⟩ := g) | ((show VCall _ _ _ 14 [.agg (Co.at d0 _ _ _ _).toArray, _] _); refine VCall.grow _ (fun w1 m1 => eqConsole_v _ _ _ _ _ _ _ _ d0 w1 (by omega) (by omega) seenA seenA seenA seenA) ?_) | ((show VCall _ _ _ 42 [.agg (Co.at d0 _ _ _ _).toArray, _] _); refine VCall.grow _ (fun w1 m1 => heldConsole_v _ _ _ _ d0 _ w1 (by omega) (by omega) (by omega) (by omega) seenA seenA) ?_) | ((show VCall _ _ _ 15 [.agg (Co.at d0 _ _ _ _).toArray, _] _); refine lend_Console d0 0 1 (by omega) rfl rfl (by omega) (by omega) (by omega) (by omega) ?_) | ((show VCall _ _ _ 15 [.agg (Co.at d0 _ _ _ _).toArray, _] _); refine lend_Console d0 1 2 (by omega) rfl rfl (by omega) (by omega) (by omega) (by omega) ?_) | ((show VCall _ _ _ 15 [.agg (Co.at d0 _ _ _ _).toArray, _] _); refine lend_Console d0 2 3 (by omega) rfl rfl (by omega) (by omega) (by omega) (by omega) ?_) | ((show VCall _ _ _ 15 [.agg (Co.at d0 _ _ _ _).toArray, _] _); refine lend_Console d0 3 4 (by omega) rfl rfl (by omega) (by omega) (by omega) (by omega) ?_) | ((show VCall _ _ _ 15 [.agg (Co.at d0 _ _ _ _).toArray, _] _); refine lend_Console d0 4 5 (by omega) rfl rfl (by omega) (by omega) (by omega) (by omega) ?_) | ((show VCall _ _ _ 15 [.agg (Co.at d0 _ _ _ _).toArray, _] _); refine lend_Console d0 5 6 (by omega) rfl rfl (by omega) (by omega) (by omega) (by omega) ?_) | ((show VCall _ _ _ 15 [.agg (Co.at d0 _ _ _ _).toArray, _] _); refine lend_Console d0 6 7 (by omega) rfl rfl (by omega) (by omega) (by omega) (by omega) ?_) | ((show VCall _ _ _ 15 [.agg (Co.at d0 _ _ _ _).toArray, _] _); refine lend_Console d0 7 8 (by omega) rfl rfl (by omega) (by omega) (by omega) (by omega) ?_) | ((show VCall _ _ _ 15 [.agg (Co.at d0 _ _ _ _).toArray, _] _); refine lend_Console d0 8 9 (by omega) rfl rfl (by omega) (by omega) (by omega) (by omega) ?_) | ((show VCall _ _ _ 15 [.agg (Co.at d0 _ _ _ _).toArray, _] _); refine lend_Console d0 9 10 (by omega) rfl rfl (by omega) (by omega) (by omega) (by omega) ?_) | ((show VCall _ _ _ 15 [.agg (Co.at d0 _ _ _ _).toArray, _] _); refine lend_Console d0 10 11 (by omega) rfl rfl (by omega) (by omega) (by omega) (by omega) ?_) | ((show VCall _ _ _ 15 [.agg (Co.at d0 _ _ _ _).toArray, _] _); refine lend_Console d0 11 12 (by omega) rfl rfl (by omega) (by omega) (by omega) (by omega) ?_) | ((show VCall _ _ _ 15 [.agg (Co.at d0 _ _ _ _).toArray, _] _); refine lend_Console d0 12 13 (by omega) rfl rfl (by omega) (by omega) (by omega) (by omega) ?_) | ((show VCall _ _ _ 15 [.agg (Co.at d0 _ _ _ _).toArray, _] _); refine lend_Console d0 13 14 (by omega) rfl rfl (by omega) (by omega) (by omega) (by omega) ?_) | ((show VCall _ _ _ 15 [.agg (Co.at d0 _ _ _ _).toArray, _] _); refine lend_Console d0 14 15 (by omega) rfl rfl (by omega) (by omega) (by omega) (by omega) ?_) | ((show VCall _ _ _ 15 [.agg (Co.at d0 _ _ _ _).toArray, _] _); refine lend_Console d0 15 16 (by omega) rfl rfl (by omega) (by omega) (by omega) (by omega) ?_) | ((show VCall _ _ _ 15 [.agg (Co.at d0 _ _ _ _).toArray, _] _); refine lend_Console d0 16 17 (by omega) rfl rfl (by omega) (by omega) (by omega) (by omega) ?_) | ((show VCall _ _ _ 15 [.agg (Co.at d0 _ _ _ _).toArray, _] _); refine lend_Console d0 17 18 (by omega) rfl rfl (by omega) (by omega) (by omega) (by omega) ?_) | ((show VCall _ _ _ 15 [.agg (Co.at d0 _ _ _ _).toArray, _] _); refine lend_Console d0 18 19 (by omega) rfl rfl (by omega) (by omega) (by omega) (by omega) ?_) | ((show VCall _ _ _ 15 [.agg (Co.at d0 _ _ _ _).toArray, _] _); refine lend_Console d0 19 20 (by omega) rfl rfl (by omega) (by omega) (by omega) (by omega) ?_) | ((show VCall _ _ _ 38 _ _); refine VCall.ret (fun w1 m1 => hcs _ _ _ _ w1 (by omega) (by omega) (by omega) (by omega) (by omega) seenA seenA (by first | assumption | exact Plain.none | exact Plain.some _ _ | exact Mem.plain (by assumption) (by repeat (first | exact At.here | apply At.there))) (by first | assumption | exact Plain.none | exact Plain.some _ _ | exact Mem.plain (by assumption) (by repeat (first | exact At.here | apply At.there)))) (fun i _ => ?_); obtain ⟨⟨P1, p1⟩, P2, p2⟩ := i) | ((show VCall _ _ _ 29 _ _); refine VCall.ret (fun w1 m1 => hci _ _ _ _ w1 (by omega) (by omega) (by omega) (by omega) (by omega) (ht.on m1) seenA seenA (by first | assumption | exact Plain.none | exact Plain.some _ _ | exact Mem.plain (by assumption) (by repeat (first | exact At.here | apply At.there))) (by first | assumption | exact Plain.none | exact Plain.some _ _ | exact Mem.plain (by assumption) (by repeat (first | exact At.here | apply At.there)))) (fun i _ => ?_); obtain ⟨⟨P1, p1⟩, P2, p2⟩ := i) | ((show VDraw _ _ _ _ _ _); refine VDraw.mk (.take 0 (.take 1 (.br 2 (.br 3 (.take 4 .done) .done) .done))) [0, 1, 2, 3, 4, 5, 6, 7, 8, 9, 10] (by kernel_rfl) (by kernel_rfl) ?_) | ((show VCall _ _ _ 14 [.agg (Co.at co _ _ _ _).toArray, _] _); refine VCall.grow _ (fun w1 m1 => eqConsole_v _ _ _ _ _ _ _ _ co w1 (hfs (by omega) (by omega) (by omega) (by omega)).1 (hfs (by omega) (by omega) (by omega) (by omega)).2.1 seenA seenA seenA seenA) ?_) | ((show VCall _ _ _ 42 [.agg (Co.at co _ _ _ _).toArray, _] _); refine VCall.grow _ (fun w1 m1 => heldConsole_v _ _ _ _ co _ w1 (hfs (by omega) (by omega) (by omega) (by omega)).1 (hfs (by omega) (by omega) (by omega) (by omega)).2.1 (by omega) (by omega) seenA seenA) ?_) | ((show VCall _ _ _ 15 [.agg (Co.at co _ _ _ _).toArray, _] _); refine lend_Console co 0 1 (by omega) rfl rfl (hfs (by omega) (by omega) (by omega) (by omega)).1 (hfs (by omega) (by omega) (by omega) (by omega)).2.1 (by omega) (by omega) ?_) | ((show VCall _ _ _ 15 [.agg (Co.at co _ _ _ _).toArray, _] _); refine lend_Console co 1 2 (by omega) rfl rfl (hfs (by omega) (by omega) (by omega) (by omega)).1 (hfs (by omega) (by omega) (by omega) (by omega)).2.1 (by omega) (by omega) ?_) | ((show VCall _ _ _ 15 [.agg (Co.at co _ _ _ _).toArray, _] _); refine lend_Console co 2 3 (by omega) rfl rfl (hfs (by omega) (by omega) (by omega) (by omega)).1 (hfs (by omega) (by omega) (by omega) (by omega)).2.1 (by omega) (by omega) ?_) | ((show VCall _ _ _ 15 [.agg (Co.at co _ _ _ _).toArray, _] _); refine lend_Console co 3 4 (by omega) rfl rfl (hfs (by omega) (by omega) (by omega) (by omega)).1 (hfs (by omega) (by omega) (by omega) (by omega)).2.1 (by omega) (by omega) ?_) | ((show VCall _ _ _ 15 [.agg (Co.at co _ _ _ _).toArray, _] _); refine lend_Console co 4 5 (by omega) rfl rfl (hfs (by omega) (by omega) (by omega) (by omega)).1 (hfs (by omega) (by omega) (by omega) (by omega)).2.1 (by omega) (by omega) ?_) | ((show VCall _ _ _ 15 [.agg (Co.at co _ _ _ _).toArray, _] _); refine lend_Console co 5 6 (by omega) rfl rfl (hfs (by omega) (by omega) (by omega) (by omega)).1 (hfs (by omega) (by omega) (by omega) (by omega)).2.1 (by omega) (by omega) ?_) | ((show VCall _ _ _ 15 [.agg (Co.at co _ _ _ _).toArray, _] _); refine lend_Console co 6 7 (by omega) rfl rfl (hfs (by omega) (by omega) (by omega) (by omega)).1 (hfs (by omega) (by omega) (by omega) (by omega)).2.1 (by omega) (by omega) ?_) | ((show VCall _ _ _ 15 [.agg (Co.at co _ _ _ _).toArray, _] _); refine lend_Console co 7 8 (by omega) rfl rfl (hfs (by omega) (by omega) (by omega) (by omega)).1 (hfs (by omega) (by omega) (by omega) (by omega)).2.1 (by omega) (by omega) ?_) | ((show VCall _ _ _ 15 [.agg (Co.at co _ _ _ _).toArray, _] _); refine lend_Console co 8 9 (by omega) rfl rfl (hfs (by omega) (by omega) (by omega) (by omega)).1 (hfs (by omega) (by omega) (by omega) (by omega)).2.1 (by omega) (by omega) ?_) | ((show VCall _ _ _ 15 [.agg (Co.at co _ _ _ _).toArray, _] _); refine lend_Console co 9 10 (by omega) rfl rfl (hfs (by omega) (by omega) (by omega) (by omega)).1 (hfs (by omega) (by omega) (by omega) (by omega)).2.1 (by omega) (by omega) ?_) | ((show VCall _ _ _ 15 [.agg (Co.at co _ _ _ _).toArray, _] _); refine lend_Console co 10 11 (by omega) rfl rfl (hfs (by omega) (by omega) (by omega) (by omega)).1 (hfs (by omega) (by omega) (by omega) (by omega)).2.1 (by omega) (by omega) ?_) | ((show VCall _ _ _ 15 [.agg (Co.at co _ _ _ _).toArray, _] _); refine lend_Console co 11 12 (by omega) rfl rfl (hfs (by omega) (by omega) (by omega) (by omega)).1 (hfs (by omega) (by omega) (by omega) (by omega)).2.1 (by omega) (by omega) ?_) | ((show VCall _ _ _ 15 [.agg (Co.at co _ _ _ _).toArray, _] _); refine lend_Console co 12 13 (by omega) rfl rfl (hfs (by omega) (by omega) (by omega) (by omega)).1 (hfs (by omega) (by omega) (by omega) (by omega)).2.1 (by omega) (by omega) ?_) | ((show VCall _ _ _ 15 [.agg (Co.at co _ _ _ _).toArray, _] _); refine lend_Console co 13 14 (by omega) rfl rfl (hfs (by omega) (by omega) (by omega) (by omega)).1 (hfs (by omega) (by omega) (by omega) (by omega)).2.1 (by omega) (by omega) ?_) | ((show VCall _ _ _ 15 [.agg (Co.at co _ _ _ _).toArray, _] _); refine lend_Console co 14 15 (by omega) rfl rfl (hfs (by omega) (by omega) (by omega) (by omega)).1 (hfs (by omega) (by omega) (by omega) (by omega)).2.1 (by omega) (by omega) ?_) | ((show VCall _ _ _ 15 [.agg (Co.at co _ _ _ _).toArray, _] _); refine lend_Console co 15 16 (by omega) rfl rfl (hfs (by omega) (by omega) (by omega) (by omega)).1 (hfs (by omega) (by omega) (by omega) (by omega)).2.1 (by omega) (by omega) ?_) | ((show VCall _ _ _ 15 [.agg (Co.at co _ _ _ _).toArray, _] _); refine lend_Console co 16 17 (by omega) rfl rfl (hfs (by omega) (by omega) (by omega) (by omega)).1 (hfs (by omega) (by omega) (by omega) (by omega)).2.1 (by omega) (by omega) ?_) | ((show VCall _ _ _ 15 [.agg (Co.at co _ _ _ _).toArray, _] _); refine lend_Console co 17 18 (by omega) rfl rfl (hfs (by omega) (by omega) (by omega) (by omega)).1 (hfs (by omega) (by omega) (by omega) (by omega)).2.1 (by omega) (by omega) ?_) | ((show VCall _ _ _ 15 [.agg (Co.at co _ _ _ _).toArray, _] _); refine lend_Console co 18 19 (by omega) rfl rfl (hfs (by omega) (by omega) (by omega) (by omega)).1 (hfs (by omega) (by omega) (by omega) (by omega)).2.1 (by omega) (by omega) ?_) | ((show VCall _ _ _ 15 [.agg (Co.at co _ _ _ _).toArray, _] _); refine lend_Console co 19 20 (by omega) rfl rfl (hfs (by omega) (by omega) (by omega) (by omega)).1 (hfs (by omega) (by omega) (by omega) (by omega)).2.1 (by omega) (by omega) ?_))))
  all_goals ((conv => whnf); refine VRet.mk fun w' m => ?_)
  all_goals exact ⟨rfl, m.keeps.below⟩
end Go.Proofs.YtadjhkehfklmnaaGreatDoor.lawExecuteCommand
namespace Go.Proofs.YtadjhkehfklmnaaGreatDoor
set_option linter.unusedSimpArgs false
set_option linter.unusedVariables false
open Go.ChangeShapes Go.WideShapes Go.ChangeAt Go.RowKit
set_option maxRecDepth 10000
theorem law_lift_shaped {H : Type} {enc : TypeId × Value → H} {C : Checked} {os : Os} {f : FuncId} {fn : Func} {s : ChangeSpec} {conds : List PathCond} {tb : TypeId} {laid : List (String × DataW Unit)}
    (own : ownKnob C.prog.godebug = none) (started : os.Started) (noInit : C.prog.inits.idxOf? f = none) (hfn : C.prog.funcs[f]? = some fn)
    (witness : ∃ (w : World) (tape : Tape) (i : Input), w.os = os ∧ (w.forCall tape i).Shaped C.prog ∧ i.vars = [] ∧ Input.okWide C.prog (w.forCall tape i) .any w.heap.size f i ∧
      ((s.pre enc C.prog fn conds false (w.forCall tape i).memory i.args ∧ laidMetH C.prog laid (w.forCall tape i).memory) ∧ sizedMet enc C.prog fn (OpenSpec.ofChange s) false (w.forCall tape i).memory i.args) ∧ Assume.holds {} C.prog (lone (Frame.enter C.prog f i.args .normal) [] (w.forCall tape i)))
    (hvars : s.vars = []) (hspec : ∀ ds : List (DataW H), ds.length = fn.params.size → s.fn H (ds ++ []) = { results := [.lit (.bool true)], args := ds })
    (hres : fn.resultTypes = #[tb]) (hbool : C.prog.underlying tb = some .bool) (hl : laidOutB C.prog = true)
    (hr : (fn.params.toList.all fun t => C.prog.readableRec t && decide (t < C.prog.types.size)) = true)
    (contract : ∀ (W : World) (base : Nat) (args : Array Value) (ds : List (DataW H)) (p : List MemPlace),
      (∀ (j : Nat) t v, fn.params[j]? = some t → args[j]? = some v → Value.okWide C.prog W .any base t v) →
      DataW.TrodAll enc C.prog W 0 (fun _ => true) true fn.params.toList args.toList ds p → laidMetH C.prog laid W → W.ShapedOpen C.prog → Calls C.prog f args W (Post (.bool true) W)) :
    ReturnsInHanded {} C os f .any (fun w args => (s.pre enc C.prog fn conds false w args ∧ laidMetH C.prog laid w) ∧ sizedMet enc C.prog fn (OpenSpec.ofChange s) false w args) (s.post enc C.prog fn false true false false) := by
  refine returnsInHanded_of_calls own started noInit witness ?_
  intro w tape i _ hsh _ hok hpre hholds
  obtain ⟨_, _, _, fn', hfn', _, _, _, _, hval0⟩ := hok
  have e0 : fn = fn' := (Option.some.inj (hfn'.symm.trans hfn)).symm
  subst e0
  obtain ⟨⟨⟨ds, gs, before, hw, hc⟩, hx⟩, hz⟩ := hpre
  have hw' := DataW.Whole.of_heap (w' := w.forCall tape i) (by rfl) hw
  have hL : laidMetH C.prog laid (w.forCall tape i) := hx.of_heap (by rfl)
  have main : ∀ (W : World) (base : Nat) (args : Array Value), W.ShapedOpen C.prog → (∀ (j : Nat) t v, fn.params[j]? = some t → args[j]? = some v → Value.okWide C.prog W .any base t v) → DataW.Whole enc C.prog fn.params.toList s.vars false W args.toList ds gs before → laidMetH C.prog laid W → Calls C.prog f args W fun e W' => ∃ v, e = .returned v ∧ s.post enc C.prog fn false true false false W args v W' := by
    intro W base args hsh hval hW hL
    have hW' := hW
    obtain ⟨p, q, hA, hV, rfl, _, _⟩ := hW
    rw [hvars] at hV
    obtain ⟨rfl, rfl⟩ := trodVars_none hV
    refine (contract W base args ds p hval hA hL hsh).mono fun e W' ⟨he, hb⟩ => ?_
    subst he
    have hlen : ds.length = fn.params.size := by
      have : ∀ (ts : List TypeId) (vs : List Value) (ds : List (DataW H)) (ps : List MemPlace), DataW.TrodAll enc C.prog W 0 (fun _ => true) true ts vs ds ps → ds.length = ts.length := by
        intro ts
        induction ts with
        | nil => intro vs ds ps h; cases vs <;> cases ds <;> simp [DataW.TrodAll] at h ⊢
        | cons t ts ih =>
          intro vs ds ps h
          obtain ⟨v, vs', d, ds', p, q, rfl, rfl, rfl, _, h2⟩ := trodAll_cons h
          simp [ih _ _ _ h2]
      simpa using this _ _ _ _ hA
    have hsp := hspec ds hlen
    refine ⟨_, rfl, ds, [], p ++ [], [], p, [], hW', ?_, ?_, ?_, hb.frame _, fun h => by cases h⟩
    · rw [hsp, hres]
      exact trodAll_mk1 (shut_bool hbool true)
    · rw [hsp]
      refine trodAll_below hl hb _ _ _ _ (fun t ht => ?_) (fun x hx => ?_) hA
      · have := List.all_eq_true.1 hr t ht
        simpa using this
      · exact hW'.lt x (by simpa using hx)
    · rw [hvars, hsp]
      rfl
  refine (main (w.forCall tape i) w.heap.size i.args hsh hval0 hw' hL).mono fun e W' ⟨v, he, hp⟩ => ?_
  subst he
  exact ChangeSpec.post_blind hp
/-! ### The tables -/
def litV : DataW Unit → List Value
  | .lit (.int k z) => [.int k z]
  | _ => []
def cellsD : DataW Unit → Array Value
  | .agg l => (l.flatMap fun d => match d with
    | .agg l2 => l2.flatMap litV
    | d => litV d).toArray
  | _ => #[]
noncomputable def putC (g : Nat) (cs : Array Value) (w : World) : World :=
  { w with heap := w.heap.modify g fun
      | .cells _ t frozen => .cells cs t frozen
      | o => o }
def laidL : List (String × DataW Unit) := [("math/bits.deBruijn32tab", Rows.laid_math_bits_deBruijn32tab), ("math/bits.deBruijn64tab", Rows.laid_math_bits_deBruijn64tab), ("internal/strconv.uint64pow10", Rows.laid_internal_strconv_uint64pow10), ("unicode/utf8.acceptRanges", Rows.laid_unicode_utf8_acceptRanges), ("strconv.ErrRange", Rows.laid_strconv_ErrRange), ("strconv.ErrSyntax", Rows.laid_strconv_ErrSyntax), ("unicode/utf8.first", Rows.laid_unicode_utf8_first)]
noncomputable def laidWorld (os : Os) : World :=
  let N := (World.settled Tryz.prog os).heap.size
  putC 4 (cellsD Rows.laid_math_bits_deBruijn32tab) (putC 5 (cellsD Rows.laid_math_bits_deBruijn64tab) (putC 1 (cellsD Rows.laid_internal_strconv_uint64pow10) (putC 3 (cellsD Rows.laid_unicode_utf8_acceptRanges) (putC 2 (cellsD Rows.laid_unicode_utf8_first)
    (putC 7 #[.iface 266 (.pointer (some ⟨N, 0, none⟩))] (putC 6 #[.iface 266 (.pointer (some ⟨N + 1, 0, none⟩))]
      (World.holding Tryz.prog os ⟨#[.cells #[.string ⟨#[118, 97, 108, 117, 101, 32, 111, 117, 116, 32, 111, 102, 32, 114, 97, 110, 103, 101]⟩] 268, .cells #[.string ⟨#[105, 110, 118, 97, 108, 105, 100, 32, 115, 121, 110, 116, 97, 120]⟩] 268], #[], []⟩)))))))
theorem laid_met (os : Os) (args : Array Value) : laidMetH Tryz.prog laidL ((laidWorld os).forCall (fun _ _ => 0) ⟨#[], args, []⟩).memory :=
  show laidMet Tryz.prog laidL _ from laidMet_of_run' 8 (by kernel_rfl) (by kernel_rfl)
/-! ### What a walk has of the list -/
theorem star_es : "*" ++ "errors.errorString" = "*errors.errorString" := by decide
theorem row_es (u : TypeId) (h : Tryz.prog.typeName? 3 u = some "*errors.errorString") : u = 266 :=
  typeName_ptr_named (nm := "errors.errorString") (by rw [star_es]; kernel_rfl) (by kernel_rfl) (by decide) u (by rw [star_es]; exact h)
theorem gES : Tryz.prog.globalNamed "strconv.ErrSyntax" = some 6 := by kernel_rfl
theorem gML : Tryz.prog.globalNamed "internal/bytealg.MaxLen" = some 0 := by kernel_rfl
theorem pt2_is {W : World} (h : laidMetH Tryz.prog laidL W) (hsh : W.ShapedOpen Tryz.prog) : PT2 W := by
  have h' : laidMet Tryz.prog laidL W := h
  have h3 := h'.tail.tail
  rw [show ("internal/strconv.uint64pow10", (Rows.laid_internal_strconv_uint64pow10 : DataW Unit)) = ("internal/strconv.uint64pow10", Lib.tabData .u64 Lib.pow10Tab) from by kernel_rfl] at h3
  have h5 : laidMet Tryz.prog [("strconv.ErrSyntax", .iface "*errors.errorString" (.ptr (.agg [.lit (.string [105, 110, 118, 97, 108, 105, 100, 32, 115, 121, 110, 116, 97, 120])]))), ("unicode/utf8.first", Rows.laid_unicode_utf8_first)] W := h'.tail.tail.tail.tail.tail
  refine ⟨Lib.tabIs_of_head (t := 215) (e := 87) (n := 20) gPTab (by kernel_rfl) (by kernel_rfl) (by kernel_rfl) (by kernel_rfl) (by kernel_rfl) h3, ?_, ?_⟩
  · exact cell_of_shapedOpen_int (zero := #[.int .i64 0]) (t := 3) hsh (of_decide_eq_true (by kernel_rfl)) (by kernel_rfl) rfl (by kernel_rfl) (by kernel_rfl) Tryz.underlying3
  · obtain ⟨a, s, hv, _⟩ := laid_sentinel h5 gES (ti := 201) (by kernel_rfl) Tryz.underlying201 row_es Tryz.underlying266 Tryz.underlying268 rfl rfl Tryz.underlying9 (by kernel_rfl) (by kernel_rfl)
    exact ⟨_, _, by have h0 := World.var?_cell gES hv 0; simpa using h0⟩
end Go.Proofs.YtadjhkehfklmnaaGreatDoor
namespace Go.Proofs.YtadjhkehfklmnaaGreatDoor
set_option linter.unusedSimpArgs false
set_option linter.unusedVariables false
open Go.ChangeShapes Go.WideShapes Go.ChangeAt Go.RowKit
set_option maxRecDepth 10000
theorem joined_parts {P : Program} {f : FuncId} {fn : Func} {s : ChangeSpec} {c : OpenClaim}
    (h1 : (c.wf (OpenSpec.ofChange s) && laidOutB P && mapsRowed P) = true)
    (h2 : (fn.params.all (P.readableRec ·) && namedTie P c.named s.vars && (c.stops == []) && (P.stops == []) && (c.knobs == []) && (P.stopKnobs == [])) = true)
    (h3 : (c.inPlace == P.inPlace f) = true) (h4 : (c.unfollowed == P.unfollowed f) = true) (h5 : (c.recurses == P.recurses f) = true) (h6 : (c.named == P.varsNamed f) = true)
    (h7 : ((c.maps == (fn.params.toList ++ s.plain.varTypes P).any (P.mapsRec ·)) && (c.ifaces == (fn.params.toList ++ s.plain.varTypes P).any (P.ifacesRec ·)) && (c.mapsOut == P.mapsAmong fn.resultTypes.toList) &&
      (c.loops == (fn.params.toList ++ s.plain.varTypes P).any (P.loopsFrom ·)) && (c.wideKeys == (fn.params.toList ++ s.plain.varTypes P ++ fn.resultTypes.toList).any (P.wideKeysFrom ·)) &&
      s.vars.all (P.varReadable ·) && fn.resultTypes.all (fun t => P.readableRec t && decide (t < P.types.size)) && (c.ifacesOut == fn.resultTypes.toList.any (P.ifacesRec ·)) && (c.loopsOut == fn.resultTypes.toList.any (P.loopsFrom ·))) = true)
    (h8 : ((c.plainKeys == P.plainKeys) && c.shortTexts.isNone && P.stopsHeard && P.mayEnter) = true) (h9 : ((c.lifted == P.liftsFinal) && (P.make == some c.make)) = true)
    (h10 : ((c.kinds == (if c.domain.isEmpty then [] else fn.params.toList.map fun t => match P.underlying t with | some (.int k) => some k | _ => none)) && (c.pinned == c.pinnedBy) &&
      (c.veiled == (fn.params.toList ++ s.plain.varTypes P ++ fn.resultTypes.toList).any (P.veiledRec ·)) && c.veiledFits P fn.params.toList (fn.params.toList ++ s.plain.varTypes P ++ fn.resultTypes.toList)) = true) : joinedFacts P f fn s c = true := by
  unfold joinedFacts
  rw [Bool.and_eq_true, Bool.and_eq_true] at h1
  rw [Bool.and_eq_true, Bool.and_eq_true, Bool.and_eq_true, Bool.and_eq_true, Bool.and_eq_true] at h2
  rw [Bool.and_eq_true, Bool.and_eq_true, Bool.and_eq_true, Bool.and_eq_true, Bool.and_eq_true, Bool.and_eq_true, Bool.and_eq_true, Bool.and_eq_true] at h7
  rw [Bool.and_eq_true, Bool.and_eq_true, Bool.and_eq_true] at h8
  rw [Bool.and_eq_true] at h9
  rw [Bool.and_eq_true, Bool.and_eq_true, Bool.and_eq_true] at h10
  obtain ⟨⟨a1, a2⟩, a3⟩ := h1
  obtain ⟨⟨⟨⟨⟨b1, b2⟩, b3⟩, b4⟩, b5⟩, b6⟩ := h2
  obtain ⟨⟨⟨⟨⟨⟨⟨⟨d1, d2⟩, d3⟩, d4⟩, d5⟩, d6⟩, d7⟩, d8⟩, d9⟩ := h7
  obtain ⟨⟨⟨e1, e2⟩, e3⟩, e4⟩ := h8
  obtain ⟨f1, f2⟩ := h9
  obtain ⟨⟨⟨g1, g2⟩, g3⟩, g4⟩ := h10
  rw [a1, a2, a3, b1, b2, b3, b4, b5, b6, h3, h4, h5, h6, d1, d2, d3, d4, d5, d6, d7, d8, d9, e1, e2, e3, e4, f1, f2]
  rw [Bool.and_eq_true, Bool.and_eq_true, Bool.and_eq_true, Bool.and_eq_true]
  exact ⟨⟨⟨⟨rfl, g1⟩, g2⟩, g3⟩, g4⟩
end Go.Proofs.YtadjhkehfklmnaaGreatDoor
