/-
  Texts joined: how the calls that the law reaches are walked, and the plain laws behind them.
  Conditions: none beyond each statement's own premises.
-/
import Derived.Test.YtadjhkehfklmnaaGreatDoorMy16
namespace Go.Proofs.YtadjhkehfklmnaaGreatDoor
set_option linter.unusedSimpArgs false
set_option linter.unusedVariables false
open Go.RowKit
set_option maxRecDepth 10000
theorem iEx_yes {w0 : Base} {w : World} (d : Co) (gc : Nat) (A1 : Option Addr) (c1 : Nat) (A2 : Option Addr) (c2 : Nat) (B : Option Addr) (c : Nat) (L : List Int) (hf : d.fit) (ht : Old2 w0) (hB : OldSeen w0 B (IL L)) (x : List UInt8) (hx : (pat x).2 = true) (hL : L.length = (pat x).1.length) {c' : Co} {t : List UInt8} (h : d.ex x L = some (c', t)) (m0 : Mem w0 [.blk gc 39 (d.at A1 c1 A2 c2), .row (.slice A1 d.n c1) 96 3 d.n (BaS d.n d.ba), .row (.slice A2 d.m c2) 98 4 d.m (AwS d.m d.wa)] w) :
    Calls Tryz.prog 114 #[.pointer (some ⟨gc, 0, none⟩), .string (tx x), .slice B L.length c] w fun e w' => ∃ v, e = .returned v ∧ RetL (ι := Option Addr × Nat × Option Addr × Nat) (fun _ => True) (fun _ => .tuple #[.string (tx (t)), .bool true]) (fun (P1, k1, P2, k2) => [.blk gc 39 ((c' : Co).at P1 k1 P2 k2), .row (.slice P1 (c' : Co).n k1) 96 3 (c' : Co).n (BaS (c' : Co).n (c' : Co).ba), .row (.slice P2 (c' : Co).m k2) 98 4 (c' : Co).m (AwS (c' : Co).m (c' : Co).wa)]) (fun _ => []) w0 v w' := by
  rcases pat_all x with ⟨e, hp⟩ | ⟨e, hp⟩ | ⟨e, hp⟩ | ⟨e, hp⟩ | ⟨e, hp⟩ | ⟨e, hp⟩
  · rcases e with rfl | rfl
    · rw [Co.ex_level] at h; cases h; exact iExLevel_v d gc A1 c1 A2 c2 B c L hf ht hB m0
    · rw [Co.ex_water] at h; cases h; exact iExWater_v d gc A1 c1 A2 c2 B c L hf ht hB m0
  · have hl : 0 < L.length := by rw [hL, hp]; decide
    rcases e with rfl | rfl | rfl | rfl | rfl
    · rw [Co.ex_step] at h
      by_cases h1 : d.lock.okStep (a0 L 0)
      · rw [ite_tr h1] at h; cases h; exact iExStep_yes d gc A1 c1 A2 c2 B c L hf ht hB hl h1 m0
      · rw [ite_ntr h1] at h; cases h
    · rw [Co.ex_leave] at h
      cases e : fnd d.wa (a0 L 0) d.m with
      | some i => rw [e] at h; cases h; exact iExLeave_yes d gc A1 c1 A2 c2 B c L hf ht hB hl e m0
      | none => rw [e] at h; cases h
    · rw [Co.ex_best] at h
      by_cases h1 : 1 ≤ a0 L 0 ∧ a0 L 0 ≤ 60
      · rw [ite_tr h1] at h; cases h; exact iExBest_v d gc A1 c1 A2 c2 B c L hf ht hB hl h1 m0
      · rw [ite_ntr h1] at h; cases h
    · rw [Co.ex_delay] at h
      by_cases h1 : 1 ≤ a0 L 0 ∧ a0 L 0 ≤ 60
      · rw [ite_tr h1] at h; cases h; exact iExDelay_v d gc A1 c1 A2 c2 B c L hf ht hB hl h1 m0
      · rw [ite_ntr h1] at h; cases h
    · rw [Co.ex_bound] at h
      by_cases h1 : 1 ≤ a0 L 0 ∧ a0 L 0 ≤ 60
      · rw [ite_tr h1] at h; cases h; exact iExBound_v d gc A1 c1 A2 c2 B c L hf ht hB hl h1 m0
      · rw [ite_ntr h1] at h; cases h
  · have hl : 0 < L.length := by rw [hL, hp]; decide
    rcases e with rfl | rfl | rfl
    · rw [Co.ex_go] at h; cases h; exact iExGo_v d gc A1 c1 A2 c2 B c L hf ht hB hl m0
    · rw [Co.ex_plan] at h; cases h; exact iExPlan_v d gc A1 c1 A2 c2 B c L hf ht hB hl m0
    · rw [Co.ex_head] at h; cases h; exact iExHead_v d gc A1 c1 A2 c2 B c L hf ht hB hl m0
  · have hl : L.length = 3 := by rw [hL, hp]; rfl
    subst e
    rw [Co.ex_flow] at h
    by_cases h1 : bCan d.n d.ba (a0 L 0) (a0 L 1) (a0 L 2)
    · rw [ite_tr h1] at h; cases h; exact iExFlow_yes d gc A1 c1 A2 c2 B c L hf ht hB hl h1 m0
    · rw [ite_ntr h1] at h; cases h
  · have hl : L.length = 4 := by rw [hL, hp]; rfl
    subst e
    rw [Co.ex_arrive] at h
    by_cases h1 : aGood (d.m + 1) (insF d.wa (plc d.wa (a0 L 0) d.m 0) ⟨a0 L 0, isOne (a0 L 1), a0 L 2, a0 L 3⟩)
    · rw [ite_tr h1] at h; cases h; exact iExArrive_yes d gc A1 c1 A2 c2 B c L hf ht hB hl h1 m0
    · rw [ite_ntr h1] at h; cases h
  · rw [hp] at hx; cases hx
theorem iEx_no {w0 : Base} {w : World} (d : Co) (gc : Nat) (A1 : Option Addr) (c1 : Nat) (A2 : Option Addr) (c2 : Nat) (B : Option Addr) (c : Nat) (L : List Int) (hf : d.fit) (ht : Old2 w0) (hB : OldSeen w0 B (IL L)) (x : List UInt8) (hx : (pat x).2 = true) (hL : L.length = (pat x).1.length) (h : d.ex x L = none) (m0 : Mem w0 [.blk gc 39 (d.at A1 c1 A2 c2), .row (.slice A1 d.n c1) 96 3 d.n (BaS d.n d.ba), .row (.slice A2 d.m c2) 98 4 d.m (AwS d.m d.wa)] w) :
    Calls Tryz.prog 114 #[.pointer (some ⟨gc, 0, none⟩), .string (tx x), .slice B L.length c] w fun e w' => ∃ v, e = .returned v ∧ RetL (ι := Co × Option Addr × Nat × Option Addr × Nat × List UInt8) (fun _ => True) (fun (_, _, _, _, _, t) => .tuple #[.string (tx t), .bool false]) (fun (d', P1, k1, P2, k2, _) => [.blk gc 39 (d'.at P1 k1 P2 k2), .gone, .gone]) (fun _ => []) w0 v w' := by
  rcases pat_all x with ⟨e, hp⟩ | ⟨e, hp⟩ | ⟨e, hp⟩ | ⟨e, hp⟩ | ⟨e, hp⟩ | ⟨e, hp⟩
  · rcases e with rfl | rfl
    · rw [Co.ex_level] at h; cases h
    · rw [Co.ex_water] at h; cases h
  · have hl : 0 < L.length := by rw [hL, hp]; decide
    rcases e with rfl | rfl | rfl | rfl | rfl
    · rw [Co.ex_step] at h
      by_cases h1 : d.lock.okStep (a0 L 0)
      · rw [ite_tr h1] at h; cases h
      · exact iExStep_no d gc A1 c1 A2 c2 B c L hf ht hB hl h1 m0
    · rw [Co.ex_leave] at h
      cases e : fnd d.wa (a0 L 0) d.m with
      | some i => rw [e] at h; cases h
      | none => exact iExLeave_no d gc A1 c1 A2 c2 B c L hf ht hB hl e m0
    · rw [Co.ex_best] at h
      by_cases h1 : 1 ≤ a0 L 0 ∧ a0 L 0 ≤ 60
      · rw [ite_tr h1] at h; cases h
      · exact iExOrd_no d gc A1 c1 A2 c2 B c L hf ht hB hl wBest (by decide) h1 m0
    · rw [Co.ex_delay] at h
      by_cases h1 : 1 ≤ a0 L 0 ∧ a0 L 0 ≤ 60
      · rw [ite_tr h1] at h; cases h
      · exact iExOrd_no d gc A1 c1 A2 c2 B c L hf ht hB hl wDelay (by decide) h1 m0
    · rw [Co.ex_bound] at h
      by_cases h1 : 1 ≤ a0 L 0 ∧ a0 L 0 ≤ 60
      · rw [ite_tr h1] at h; cases h
      · exact iExOrd_no d gc A1 c1 A2 c2 B c L hf ht hB hl wBound (by decide) h1 m0
  · rcases e with rfl | rfl | rfl
    · rw [Co.ex_go] at h; cases h
    · rw [Co.ex_plan] at h; cases h
    · rw [Co.ex_head] at h; cases h
  · have hl : L.length = 3 := by rw [hL, hp]; rfl
    subst e
    rw [Co.ex_flow] at h
    by_cases h1 : bCan d.n d.ba (a0 L 0) (a0 L 1) (a0 L 2)
    · rw [ite_tr h1] at h; cases h
    · exact iExFlow_no d gc A1 c1 A2 c2 B c L hf ht hB hl h1 m0
  · have hl : L.length = 4 := by rw [hL, hp]; rfl
    subst e
    rw [Co.ex_arrive] at h
    by_cases h1 : aGood (d.m + 1) (insF d.wa (plc d.wa (a0 L 0) d.m 0) ⟨a0 L 0, isOne (a0 L 1), a0 L 2, a0 L 3⟩)
    · rw [ite_tr h1] at h; cases h
    · exact iExArrive_no d gc A1 c1 A2 c2 B c L hf ht hB hl h1 m0
  · rw [hp] at hx; cases hx
theorem parse_sps {line x : List UInt8} {L : List Int} (h : parse line = some (x, L)) : ∃ r, sps 32 line = x :: r ∧ (pat x).2 = true ∧ rwZ (pat x).1 r = some L := by
  unfold parse at h
  cases e : sps 32 line with
  | nil => rw [e] at h; cases h
  | cons w r =>
    rw [e] at h
    dsimp only at h
    by_cases h2 : (pat w).2 = true
    · rw [if_pos h2] at h
      cases e2 : rwZ (pat w).1 r with
      | none => rw [e2] at h; cases h
      | some l => rw [e2] at h; cases h; exact ⟨r, rfl, h2, e2⟩
    · rw [if_neg h2] at h; cases h
theorem parse_none {line : List UInt8} (h : parse line = none) : ∃ x r, sps 32 line = x :: r ∧ ((pat x) = ([], false) ∨ (pat x).2 = true ∧ rwZ (pat x).1 r = none) := by
  unfold parse at h
  cases e : sps 32 line with
  | nil => have := sps_ne 32 line; rw [e] at this; simp at this
  | cons w r =>
    rw [e] at h
    dsimp only at h
    refine ⟨w, r, rfl, ?_⟩
    by_cases h2 : (pat w).2 = true
    · rw [if_pos h2] at h
      cases e2 : rwZ (pat w).1 r with
      | none => exact .inr ⟨h2, rfl⟩
      | some l => rw [e2] at h; cases h
    · rcases pat_all w with ⟨_, hp⟩ | ⟨_, hp⟩ | ⟨_, hp⟩ | ⟨_, hp⟩ | ⟨_, hp⟩ | ⟨_, hp⟩
      · rw [hp] at h2; exact absurd rfl h2
      · rw [hp] at h2; exact absurd rfl h2
      · rw [hp] at h2; exact absurd rfl h2
      · rw [hp] at h2; exact absurd rfl h2
      · rw [hp] at h2; exact absurd rfl h2
      · exact .inl hp
theorem pat_len (x : List UInt8) : (pat x).1.length ≤ 4 := by
  rcases pat_all x with ⟨_, hp⟩ | ⟨_, hp⟩ | ⟨_, hp⟩ | ⟨_, hp⟩ | ⟨_, hp⟩ | ⟨_, hp⟩ <;> (rw [hp]; decide)
set_option maxHeartbeats 8000000 in
theorem iLine_yes {w0 : Base} {w : World} (d : Co) (gc : Nat) (A1 : Option Addr) (c1 : Nat) (A2 : Option Addr) (c2 : Nat) (line : List UInt8) (hf : d.fit) (ht : Old2 w0) (hl : line.length ≤ 1048575) {x : List UInt8} {L : List Int} (hp : parse line = some (x, L)) {c' : Co} {t : List UInt8} (h : d.ex x L = some (c', t)) (m0 : Mem w0 [.blk gc 39 (d.at A1 c1 A2 c2), .row (.slice A1 d.n c1) 96 3 d.n (BaS d.n d.ba), .row (.slice A2 d.m c2) 98 4 d.m (AwS d.m d.wa)] w) :
    Calls Tryz.prog 77 #[.pointer (some ⟨gc, 0, none⟩), .string (tx line)] w fun e w' => ∃ v, e = .returned v ∧ RetL (ι := Option Addr × Nat × Option Addr × Nat) (fun _ => True) (fun _ => .tuple #[.string (tx (t)), .bool true]) (fun (P1, k1, P2, k2) => [.blk gc 39 ((c' : Co).at P1 k1 P2 k2), .row (.slice P1 (c' : Co).n k1) 96 3 (c' : Co).n (BaS (c' : Co).n (c' : Co).ba), .row (.slice P2 (c' : Co).m k2) 98 4 (c' : Co).m (AwS (c' : Co).m (c' : Co).wa)]) (fun _ => []) w0 v w' := by
  obtain ⟨r, hs, hx, hz⟩ := parse_sps hp
  have hL := (rwZ_len hz).2
  obtain ⟨hr1, hr2⟩ : r.length ≤ 1048576 ∧ ∀ y ∈ r, y.length ≤ 1048576 := by
    have h1 := sps_len 32 line
    have h2 := sps_total 32 _ line (Nat.le_refl _)
    rw [hs] at h1 h2
    simp only [List.length_cons] at h1
    exact ⟨by omega, fun y hy => by have := (h2 y (List.mem_cons_of_mem _ hy)).1; omega⟩
  have hSp := fun w ht => split_v line w (by omega) ht
  rw [hs] at hSp
  have hPt := fun w => pattern_v x w
  have hpl := pat_len x
  have hRd := fun B c w hB ht => readWords_v B c (pat x).1 r w (by omega) hr1 hr2 hB ht
  rw [hz] at hRd
  rw [hx] at hPt
  have hEx := fun w B c (w0 : Base) ht hB m => iEx_yes (w0 := w0) (w := w) d gc A1 c1 A2 c2 B c L hf ht hB x hx hL h m
  generalize (pat x).1 = ps at *
  refine calls_of_vcL (w0 := w0) tb_ok (args := [.pointer (some ⟨gc, 0, none⟩), .string (tx line)]) Tryz.func77 rfl m0 ?_
  all_goals (have q0 : (TS (x :: r))[mulS 0 1]? = some (.string (tx x)) := rfl; have q1 : (TS (x :: r))[0 + mulS 0 1]? = some (.string (tx x)) := rfl; have ql : 0 < (x :: r).length := Nat.succ_pos _)
  (repeat' ((conv => whnf); first | refine go ?_ | (refine VSome.mk ?_; intro gQ hA'; first | subst hA' | cases hA' | (dsimp only at hA'; subst hA')) | refine And.intro ?_ ?_ | intro _ | (first | ((show VCall _ _ _ 48 _ _); refine VCall.ret (fun w1 m1 => hSp w1 (ht.now m1)) (fun g9 _ => ?_)) | ((show VCall _ _ _ 112 _ _); refine VCall.grow _ (fun w1 m1 => hPt w1) ?_) | ((show VCall _ _ _ 113 _ _); refine VCall.ret (fun w1 m1 => hRd _ _ w1 (Seen.tail (B := _) (n := (x :: r).length) (k := 1) (Sees.any m1 fndA) hT9 (TS_len1 _)) (ht.now m1)) (fun i9 _ => ?_); obtain ⟨P, cp⟩ := i9) | ((show VIdx _ _ _ _ _ _ _); refine VIdx.at_ rfl 0 rfl ql ?_) | ((show VCut _ _ _ _ _ _ _); refine VCut.tail 1 rfl (by simp) (Nat.le_refl _) (Plain.some _ _) (fun B9 d9 hT9 _ => ?_)) | ((show VCall _ _ _ 114 [_, _, _] _); refine VCall.fullS [0, 1, 2] (by simp) (fun _ => rfl) (fun w1 m1 m2 => hEx w1 P cp _ (ht.lend m1 [0, 1, 2]) (OldSeen.anyRow m1 [0, 1, 2] (by repeat (first | exact At.here | apply At.there)) (by decide)) m2) (fun i hi => ?_)))))
  all_goals (conv => whnf)
  all_goals (obtain ⟨P1, k1, P2, k2⟩ := i; exact VRet.mk fun w' m => ⟨(P1, k1, P2, k2), trivial, rfl, m.sel (ks := [0, 1, 2]) (by simp)⟩)
set_option maxHeartbeats 8000000 in
theorem iLine_fail {w0 : Base} {w : World} (d : Co) (gc : Nat) (A1 : Option Addr) (c1 : Nat) (A2 : Option Addr) (c2 : Nat) (line : List UInt8) (hf : d.fit) (ht : Old2 w0) (hl : line.length ≤ 1048575) {x : List UInt8} {L : List Int} (hp : parse line = some (x, L)) (h : d.ex x L = none) (m0 : Mem w0 [.blk gc 39 (d.at A1 c1 A2 c2), .row (.slice A1 d.n c1) 96 3 d.n (BaS d.n d.ba), .row (.slice A2 d.m c2) 98 4 d.m (AwS d.m d.wa)] w) :
    Calls Tryz.prog 77 #[.pointer (some ⟨gc, 0, none⟩), .string (tx line)] w fun e w' => ∃ v, e = .returned v ∧ RetL (ι := Co × Option Addr × Nat × Option Addr × Nat × List UInt8) (fun _ => True) (fun (_, _, _, _, _, t) => .tuple #[.string (tx t), .bool false]) (fun (d', P1, k1, P2, k2, _) => [.blk gc 39 (d'.at P1 k1 P2 k2), .gone, .gone]) (fun _ => []) w0 v w' := by
  obtain ⟨r, hs, hx, hz⟩ := parse_sps hp
  have hL := (rwZ_len hz).2
  obtain ⟨hr1, hr2⟩ : r.length ≤ 1048576 ∧ ∀ y ∈ r, y.length ≤ 1048576 := by
    have h1 := sps_len 32 line
    have h2 := sps_total 32 _ line (Nat.le_refl _)
    rw [hs] at h1 h2
    simp only [List.length_cons] at h1
    exact ⟨by omega, fun y hy => by have := (h2 y (List.mem_cons_of_mem _ hy)).1; omega⟩
  have hSp := fun w ht => split_v line w (by omega) ht
  rw [hs] at hSp
  have hPt := fun w => pattern_v x w
  have hpl := pat_len x
  have hRd := fun B c w hB ht => readWords_v B c (pat x).1 r w (by omega) hr1 hr2 hB ht
  rw [hz] at hRd
  rw [hx] at hPt
  have hEx := fun w B c (w0 : Base) ht hB m => iEx_no (w0 := w0) (w := w) d gc A1 c1 A2 c2 B c L hf ht hB x hx hL h m
  generalize (pat x).1 = ps at *
  refine calls_of_vcL (w0 := w0) tb_ok (args := [.pointer (some ⟨gc, 0, none⟩), .string (tx line)]) Tryz.func77 rfl m0 ?_
  all_goals (have q0 : (TS (x :: r))[mulS 0 1]? = some (.string (tx x)) := rfl; have q1 : (TS (x :: r))[0 + mulS 0 1]? = some (.string (tx x)) := rfl; have ql : 0 < (x :: r).length := Nat.succ_pos _)
  (repeat' ((conv => whnf); first | refine go ?_ | (refine VSome.mk ?_; intro gQ hA'; first | subst hA' | cases hA' | (dsimp only at hA'; subst hA')) | refine And.intro ?_ ?_ | intro _ | (first | ((show VCall _ _ _ 48 _ _); refine VCall.ret (fun w1 m1 => hSp w1 (ht.now m1)) (fun g9 _ => ?_)) | ((show VCall _ _ _ 112 _ _); refine VCall.grow _ (fun w1 m1 => hPt w1) ?_) | ((show VCall _ _ _ 113 _ _); refine VCall.ret (fun w1 m1 => hRd _ _ w1 (Seen.tail (B := _) (n := (x :: r).length) (k := 1) (Sees.any m1 fndA) hT9 (TS_len1 _)) (ht.now m1)) (fun i9 _ => ?_); obtain ⟨P, cp⟩ := i9) | ((show VIdx _ _ _ _ _ _ _); refine VIdx.at_ rfl 0 rfl ql ?_) | ((show VCut _ _ _ _ _ _ _); refine VCut.tail 1 rfl (by simp) (Nat.le_refl _) (Plain.some _ _) (fun B9 d9 hT9 _ => ?_)) | ((show VCall _ _ _ 114 [_, _, _] _); refine VCall.fullS [0, 1, 2] (by simp) (fun _ => rfl) (fun w1 m1 m2 => hEx w1 P cp _ (ht.lend m1 [0, 1, 2]) (OldSeen.anyRow m1 [0, 1, 2] (by repeat (first | exact At.here | apply At.there)) (by decide)) m2) (fun i hi => ?_)))))
  all_goals (conv => whnf)
  all_goals (obtain ⟨d9, P1, k1, P2, k2, t9⟩ := i; exact VRet.mk fun w' m => ⟨(d9, P1, k1, P2, k2, t9), trivial, rfl, m.sel (ks := [0, 100, 101]) (by simp)⟩)
set_option maxHeartbeats 8000000 in
theorem iLine_bad {w0 : Base} {w : World} (d : Co) (gc : Nat) (A1 : Option Addr) (c1 : Nat) (A2 : Option Addr) (c2 : Nat) (line : List UInt8) (hf : d.fit) (ht : Old2 w0) (hl : line.length ≤ 1048575) {x : List UInt8} {r : List (List UInt8)} (hs : sps 32 line = x :: r) (hq : (pat x).2 = true) (hz : rwZ (pat x).1 r = none) (m0 : Mem w0 [.blk gc 39 (d.at A1 c1 A2 c2), .row (.slice A1 d.n c1) 96 3 d.n (BaS d.n d.ba), .row (.slice A2 d.m c2) 98 4 d.m (AwS d.m d.wa)] w) :
    Calls Tryz.prog 77 #[.pointer (some ⟨gc, 0, none⟩), .string (tx line)] w fun e w' => ∃ v, e = .returned v ∧ RetL (ι := Co × Option Addr × Nat × Option Addr × Nat × List UInt8) (fun _ => True) (fun (_, _, _, _, _, t) => .tuple #[.string (tx t), .bool false]) (fun (d', P1, k1, P2, k2, _) => [.blk gc 39 (d'.at P1 k1 P2 k2), .gone, .gone]) (fun _ => []) w0 v w' := by
  obtain ⟨hr1, hr2⟩ : r.length ≤ 1048576 ∧ ∀ y ∈ r, y.length ≤ 1048576 := by
    have h1 := sps_len 32 line
    have h2 := sps_total 32 _ line (Nat.le_refl _)
    rw [hs] at h1 h2
    simp only [List.length_cons] at h1
    exact ⟨by omega, fun y hy => by have := (h2 y (List.mem_cons_of_mem _ hy)).1; omega⟩
  have hSp := fun w ht => split_v line w (by omega) ht
  rw [hs] at hSp
  have hPt := fun w => pattern_v x w
  have hpl := pat_len x
  have hRd := fun B c w hB ht => readWords_v B c (pat x).1 r w (by omega) hr1 hr2 hB ht
  rw [hz] at hRd
  rw [hq] at hPt
  generalize (pat x).1 = ps at *
  refine calls_of_vcL (w0 := w0) tb_ok (args := [.pointer (some ⟨gc, 0, none⟩), .string (tx line)]) Tryz.func77 rfl m0 ?_
  all_goals (have q0 : (TS (x :: r))[mulS 0 1]? = some (.string (tx x)) := rfl; have q1 : (TS (x :: r))[0 + mulS 0 1]? = some (.string (tx x)) := rfl; have ql : 0 < (x :: r).length := Nat.succ_pos _)
  (repeat' ((conv => whnf); first | refine go ?_ | (refine VSome.mk ?_; intro gQ hA'; first | subst hA' | cases hA' | (dsimp only at hA'; subst hA')) | refine And.intro ?_ ?_ | intro _ | (first | ((show VCall _ _ _ 48 _ _); refine VCall.ret (fun w1 m1 => hSp w1 (ht.now m1)) (fun g9 _ => ?_)) | ((show VCall _ _ _ 112 _ _); refine VCall.grow _ (fun w1 m1 => hPt w1) ?_) | ((show VCall _ _ _ 113 _ _); refine VCall.ret (fun w1 m1 => hRd _ _ w1 (Seen.tail (B := _) (n := (x :: r).length) (k := 1) (Sees.any m1 fndA) hT9 (TS_len1 _)) (ht.now m1)) (fun i9 _ => ?_); obtain ⟨P, cp⟩ := i9) | ((show VIdx _ _ _ _ _ _ _); refine VIdx.at_ rfl 0 rfl ql ?_) | ((show VCut _ _ _ _ _ _ _); refine VCut.tail 1 rfl (by simp) (Nat.le_refl _) (Plain.some _ _) (fun B9 d9 hT9 _ => ?_)))))
  all_goals (conv => whnf)
  all_goals exact VRet.mk fun w' m => ⟨(d, A1, c1, A2, c2, []), trivial, rfl, m.sel (ks := [0, 100, 101]) (by simp)⟩
set_option maxHeartbeats 8000000 in
theorem iLine_out {w0 : Base} {w : World} (d : Co) (gc : Nat) (A1 : Option Addr) (c1 : Nat) (A2 : Option Addr) (c2 : Nat) (line : List UInt8) (hf : d.fit) (ht : Old2 w0) (hl : line.length ≤ 1048575) {x : List UInt8} {r : List (List UInt8)} (hs : sps 32 line = x :: r) (hq : pat x = ([], false)) (m0 : Mem w0 [.blk gc 39 (d.at A1 c1 A2 c2), .row (.slice A1 d.n c1) 96 3 d.n (BaS d.n d.ba), .row (.slice A2 d.m c2) 98 4 d.m (AwS d.m d.wa)] w) :
    Calls Tryz.prog 77 #[.pointer (some ⟨gc, 0, none⟩), .string (tx line)] w fun e w' => ∃ v, e = .returned v ∧ RetL (ι := Co × Option Addr × Nat × Option Addr × Nat × List UInt8) (fun _ => True) (fun (_, _, _, _, _, t) => .tuple #[.string (tx t), .bool false]) (fun (d', P1, k1, P2, k2, _) => [.blk gc 39 (d'.at P1 k1 P2 k2), .gone, .gone]) (fun _ => []) w0 v w' := by
  obtain ⟨hr1, hr2⟩ : r.length ≤ 1048576 ∧ ∀ y ∈ r, y.length ≤ 1048576 := by
    have h1 := sps_len 32 line
    have h2 := sps_total 32 _ line (Nat.le_refl _)
    rw [hs] at h1 h2
    simp only [List.length_cons] at h1
    exact ⟨by omega, fun y hy => by have := (h2 y (List.mem_cons_of_mem _ hy)).1; omega⟩
  have hSp := fun w ht => split_v line w (by omega) ht
  rw [hs] at hSp
  have hPt := fun w => pattern_v x w
  have hpl := pat_len x
  have hRd := fun B c w hB ht => readWords_v B c [] r w (by decide) hr1 hr2 hB ht
  rw [hq] at hPt
  cases e9 : rwZ [] r
  all_goals rw [e9] at hRd
  all_goals (refine calls_of_vcL (w0 := w0) tb_ok (args := [.pointer (some ⟨gc, 0, none⟩), .string (tx line)]) Tryz.func77 rfl m0 ?_)
  all_goals (have q0 : (TS (x :: r))[mulS 0 1]? = some (.string (tx x)) := rfl; have q1 : (TS (x :: r))[0 + mulS 0 1]? = some (.string (tx x)) := rfl; have ql : 0 < (x :: r).length := Nat.succ_pos _)
  all_goals ((repeat' ((conv => whnf); first | refine go ?_ | (refine VSome.mk ?_; intro gQ hA'; first | subst hA' | cases hA' | (dsimp only at hA'; subst hA')) | refine And.intro ?_ ?_ | intro _ | (first | ((show VCall _ _ _ 48 _ _); refine VCall.ret (fun w1 m1 => hSp w1 (ht.now m1)) (fun g9 _ => ?_)) | ((show VCall _ _ _ 112 _ _); refine VCall.grow _ (fun w1 m1 => hPt w1) ?_) | ((show VCall _ _ _ 113 _ _); refine VCall.ret (fun w1 m1 => hRd _ _ w1 (Seen.tail (B := _) (n := (x :: r).length) (k := 1) (Sees.any m1 fndA) hT9 (TS_len1 _)) (ht.now m1)) (fun i9 _ => ?_); obtain ⟨P, cp⟩ := i9) | ((show VIdx _ _ _ _ _ _ _); refine VIdx.at_ rfl 0 rfl ql ?_) | ((show VCut _ _ _ _ _ _ _); refine VCut.tail 1 rfl (by simp) (Nat.le_refl _) (Plain.some _ _) (fun B9 d9 hT9 _ => ?_))))))
  all_goals (conv => whnf)
  all_goals exact VRet.mk fun w' m => ⟨(d, A1, c1, A2, c2, []), trivial, rfl, m.sel (ks := [0, 100, 101]) (by simp)⟩
theorem iLine_no {w0 : Base} {w : World} (d : Co) (gc : Nat) (A1 : Option Addr) (c1 : Nat) (A2 : Option Addr) (c2 : Nat) (line : List UInt8) (hf : d.fit) (ht : Old2 w0) (hl : line.length ≤ 1048575) (h : ∀ x L, parse line = some (x, L) → d.ex x L = none) (m0 : Mem w0 [.blk gc 39 (d.at A1 c1 A2 c2), .row (.slice A1 d.n c1) 96 3 d.n (BaS d.n d.ba), .row (.slice A2 d.m c2) 98 4 d.m (AwS d.m d.wa)] w) :
    Calls Tryz.prog 77 #[.pointer (some ⟨gc, 0, none⟩), .string (tx line)] w fun e w' => ∃ v, e = .returned v ∧ RetL (ι := Co × Option Addr × Nat × Option Addr × Nat × List UInt8) (fun _ => True) (fun (_, _, _, _, _, t) => .tuple #[.string (tx t), .bool false]) (fun (d', P1, k1, P2, k2, _) => [.blk gc 39 (d'.at P1 k1 P2 k2), .gone, .gone]) (fun _ => []) w0 v w' := by
  cases hp : parse line with
  | none =>
    obtain ⟨x, r, hs, hq | ⟨hq, hz⟩⟩ := parse_none hp
    · exact iLine_out d gc A1 c1 A2 c2 line hf ht hl hs hq m0
    · exact iLine_bad d gc A1 c1 A2 c2 line hf ht hl hs hq hz m0
  | some p => exact iLine_fail d gc A1 c1 A2 c2 line hf ht hl (x := p.1) (L := p.2) hp (h _ _ hp) m0
end Go.Proofs.YtadjhkehfklmnaaGreatDoor
namespace Go.Proofs.YtadjhkehfklmnaaGreatDoor
set_option linter.unusedSimpArgs false
set_option linter.unusedVariables false
open Go.RowKit
set_option maxRecDepth 10000
theorem apV_ok {d p x r : List UInt8} {c : Int} (h : okL d p c ∧ okR x r) (hc : ¬ c = 60) : apV d p c x r = (p ++ (ln c.toNat x r ++ [10]), c + 1, 0) := by unfold apV; rw [tr_yes h, if_pos rfl, if_neg hc]
theorem Co.cmd_yes {d c' : Co} {line x t : List UInt8} {L : List Int} (h1 : parse line = some (x, L)) (h2 : d.ex x L = some (c', t)) : d.cmd line = (c', t) := by
  unfold Co.cmd; rw [h1]; dsimp only; rw [h2]
theorem Co.cmd_no {d : Co} {line : List UInt8} (h : ∀ x L, parse line = some (x, L) → d.ex x L = none) : d.cmd line = (d, wAsk) := by
  unfold Co.cmd
  cases e : parse line with
  | none => rfl
  | some p => obtain ⟨x, L⟩ := p; dsimp only; rw [h x L e]
theorem Co.cmd_cases (d : Co) (line : List UInt8) : (∃ x L c' t, parse line = some (x, L) ∧ d.ex x L = some (c', t)) ∨ ∀ x L, parse line = some (x, L) → d.ex x L = none := by
  cases e : parse line with
  | none => exact .inr fun x L h => by cases h
  | some p =>
    obtain ⟨x, L⟩ := p
    cases e2 : d.ex x L with
    | none => exact .inr fun x' L' h => by cases h; exact e2
    | some r => exact .inl ⟨x, L, r.1, r.2, rfl, e2⟩
set_option maxHeartbeats 16000000 in
theorem iExec_v (A1 A2 : Option Addr) (c1 c2 : Nat) (d : Co) (line : List UInt8) (w : World) (hs : d.small) (hl : line.length ≤ 9223372036854775807) (ht : PT2 w) (hA : Seen w A1 (BaS d.n d.ba)) (hB : Seen w A2 (AwS d.m d.wa)) (hP : Plain A1) (hQ : Plain A2) :
    Calls Tryz.prog 29 #[.agg (d.at A1 c1 A2 c2).toArray, .string (tx line)] w fun e w' => ∃ v, e = .returned v ∧ RetV (fun _ => True) (fun i => .tuple #[(d.exec line).1.cv i, .string (tx (d.exec line).2)]) (d.exec line).1.cn (Base.of w) v w' := by
  obtain ⟨hn, hm, hd, hp⟩ := hs
  have hO := Old2.old ht
  have hG := fun w ht hA hB => iCon_v A1 A2 c1 c2 d w hn hm hd hp ht hA hB
  by_cases hg : d.good
  · rw [tr_yes hg] at hG
    have hR := fun w => iGood_v line [] w hl (by decide)
    by_cases hr : okR line []
    · rw [tr_yes hr] at hR
      by_cases hc : d.log.count = 60
      · rw [Co.exec_full hg hr hc]
        refine calls_of_vc tb_ok (args := [.agg (d.at A1 c1 A2 c2).toArray, .string (tx line)]) Tryz.func29 rfl ?_
        (repeat' ((conv => whnf); first | refine go ?_ | (refine VSome.mk ?_; intro gQ hA'; first | subst hA' | cases hA' | (dsimp only at hA'; subst hA')) | refine And.intro ?_ ?_ | intro _ | (first | ((show VCall _ _ _ 39 _ _); refine VCall.grow _ (fun w1 m1 => hG w1 (ht.on m1).1 seenA seenA) ?_) | ((show VCall _ _ _ 76 _ _); refine VCall.grow _ (fun w1 m1 => hR w1) ?_) | ((show VCall _ _ _ 70 _ _); refine VCall.ret (fun w1 m1 => iNew_v _ _ _ _ d w1 hn hm seenA seenA hP hQ) (fun i _ => ?_); obtain ⟨⟨A9, c9⟩, B9, e9⟩ := i))))
        all_goals (conv => whnf)
        all_goals exact VRet.sel ((A9, c9), (B9, e9)) trivial rfl [2, 3] (by simp) rfl
      · have hl1 : line.length ≤ 160 := hr.2.2.2.1
        rcases d.cmd_cases line with ⟨x, L, c', t, h1, h2⟩ | hno
        · have hcmd := Co.cmd_yes h1 h2
          have hx := Co.exec_yes hg hr hc
          have hre := Co.rec_ok hg.fit hr
          rw [hcmd] at hx hre
          dsimp only at hx hre
          rw [hx]
          have hE := fun (w0 : Base) w gc A1 c1 A2 c2 ht m => iLine_yes (w0 := w0) (w := w) d gc A1 c1 A2 c2 line hg.fit ht (by omega) h1 h2 m
          have hsz := tx_size t
          have hAp := fun w ht => iApp_v d.du d.pe d.log.count line (cutR t) w (by rw [Co.du_len]; exact hd) (by rw [Co.pe_len]; exact hp) (by omega) (by have := hre.2.2.2.2.1; omega) ht
          rw [d.du_tx, d.pe_tx, apV_ok ⟨hg.2.2.2, hre⟩ hc] at hAp
          dsimp only at hAp
          by_cases hlong : 200 < t.length
          all_goals (first | rw [show cutR t = wLong from if_pos hlong] at hAp ⊢ | rw [show cutR t = t from if_neg hlong] at hAp ⊢)
          all_goals (refine calls_of_vc tb_ok (args := [.agg (d.at A1 c1 A2 c2).toArray, .string (tx line)]) Tryz.func29 rfl ?_)
          all_goals ((repeat' ((conv => whnf); first | refine go ?_ | (refine VSome.mk ?_; intro gQ hA'; first | subst hA' | cases hA' | (dsimp only at hA'; subst hA')) | refine And.intro ?_ ?_ | intro _ | (first | ((show VCall _ _ _ 39 _ _); refine VCall.grow _ (fun w1 m1 => hG w1 (ht.on m1).1 seenA seenA) ?_) | ((show VCall _ _ _ 76 _ _); refine VCall.grow _ (fun w1 m1 => hR w1) ?_) | ((show VCall _ _ _ 70 _ _); refine VCall.ret (fun w1 m1 => iNew_v _ _ _ _ d w1 hn hm seenA seenA hP hQ) (fun i _ => ?_); obtain ⟨⟨A9, c9⟩, B9, e9⟩ := i) | ((show VCall _ _ _ 77 [_, _] _); refine VCall.fullS [4, 2, 3] (by simp) (fun _ => rfl) (fun w1 m1 m2 => hE _ w1 _ A9 c9 B9 e9 (hO.lend m1 [4, 2, 3]) m2) (fun i hi => ?_); obtain ⟨P1, k1, P2, k2⟩ := i) | ((show VCall _ _ _ 78 _ _); refine VCall.grow _ (fun w1 m1 => hAp w1 (ht.on m1).1) ?_)))))
          all_goals (conv => whnf)
          all_goals exact VRet.sel ((P1, k1), (P2, k2)) trivial rfl [2, 3] (by simp) rfl
        · have hcmd := Co.cmd_no hno
          have hx := Co.exec_yes hg hr hc
          have hre := Co.rec_ok hg.fit hr
          rw [hcmd] at hx hre
          dsimp only at hx hre
          rw [show cutR wAsk = wAsk from rfl] at hx hre
          rw [hx]
          have hE := fun (w0 : Base) w gc A1 c1 A2 c2 ht m => iLine_no (w0 := w0) (w := w) d gc A1 c1 A2 c2 line hg.fit ht (by omega) hno m
          have hsz : ({ data := #[63] } : ByteArray).size = 1 := rfl
          have hAp := fun w ht => iApp_v d.du d.pe d.log.count line (wAsk) w (by rw [Co.du_len]; exact hd) (by rw [Co.pe_len]; exact hp) (by omega) (by have := hre.2.2.2.2.1; omega) ht
          rw [d.du_tx, d.pe_tx, apV_ok ⟨hg.2.2.2, hre⟩ hc] at hAp
          dsimp only at hAp
          refine calls_of_vc tb_ok (args := [.agg (d.at A1 c1 A2 c2).toArray, .string (tx line)]) Tryz.func29 rfl ?_
          (repeat' ((conv => whnf); first | refine go ?_ | (refine VSome.mk ?_; intro gQ hA'; first | subst hA' | cases hA' | (dsimp only at hA'; subst hA')) | refine And.intro ?_ ?_ | intro _ | (first | ((show VCall _ _ _ 39 _ _); refine VCall.grow _ (fun w1 m1 => hG w1 (ht.on m1).1 seenA seenA) ?_) | ((show VCall _ _ _ 76 _ _); refine VCall.grow _ (fun w1 m1 => hR w1) ?_) | ((show VCall _ _ _ 70 _ _); refine VCall.ret (fun w1 m1 => iNew_v _ _ _ _ d w1 hn hm seenA seenA hP hQ) (fun i _ => ?_); obtain ⟨⟨A9, c9⟩, B9, e9⟩ := i) | ((show VCall _ _ _ 77 [_, _] _); refine VCall.fullS [4, 2, 3] (by simp) (fun _ => rfl) (fun w1 m1 m2 => hE _ w1 _ A9 c9 B9 e9 (hO.lend m1 [4, 2, 3]) m2) (fun i hi => ?_); obtain ⟨d8, P1, k1, P2, k2, t8⟩ := i) | ((show VCall _ _ _ 78 _ _); refine VCall.grow _ (fun w1 m1 => hAp w1 (ht.on m1).1) ?_))))
          all_goals (conv => whnf)
          all_goals exact VRet.sel ((A9, c9), (B9, e9)) trivial rfl [5, 6] (by simp) rfl
    · rw [tr_no hr] at hR
      rw [Co.exec_bad hg hr]
      refine calls_of_vc tb_ok (args := [.agg (d.at A1 c1 A2 c2).toArray, .string (tx line)]) Tryz.func29 rfl ?_
      (repeat' ((conv => whnf); first | refine go ?_ | (refine VSome.mk ?_; intro gQ hA'; first | subst hA' | cases hA' | (dsimp only at hA'; subst hA')) | refine And.intro ?_ ?_ | intro _ | (first | ((show VCall _ _ _ 39 _ _); refine VCall.grow _ (fun w1 m1 => hG w1 (ht.on m1).1 seenA seenA) ?_) | ((show VCall _ _ _ 76 _ _); refine VCall.grow _ (fun w1 m1 => hR w1) ?_) | ((show VCall _ _ _ 70 _ _); refine VCall.ret (fun w1 m1 => iNew_v _ _ _ _ d w1 hn hm seenA seenA hP hQ) (fun i _ => ?_); obtain ⟨⟨A9, c9⟩, B9, e9⟩ := i))))
      all_goals (conv => whnf)
      all_goals exact VRet.sel ((A9, c9), (B9, e9)) trivial rfl [2, 3] (by simp) rfl
  · rw [tr_no hg] at hG
    rw [Co.exec_no hg]
    refine calls_of_vc tb_ok (args := [.agg (d.at A1 c1 A2 c2).toArray, .string (tx line)]) Tryz.func29 rfl ?_
    (repeat' ((conv => whnf); first | refine go ?_ | (refine VSome.mk ?_; intro gQ hA'; first | subst hA' | cases hA' | (dsimp only at hA'; subst hA')) | refine And.intro ?_ ?_ | intro _ | (first | ((show VCall _ _ _ 39 _ _); refine VCall.grow _ (fun w1 m1 => hG w1 (ht.on m1).1 seenA seenA) ?_) | ((show VCall _ _ _ 70 _ _); refine VCall.ret (fun w1 m1 => iNew_v _ _ _ _ d w1 hn hm seenA seenA hP hQ) (fun i _ => ?_); obtain ⟨⟨A9, c9⟩, B9, e9⟩ := i))))
    all_goals (conv => whnf)
    all_goals exact VRet.sel ((A9, c9), (B9, e9)) trivial rfl [2, 3] (by simp) rfl
end Go.Proofs.YtadjhkehfklmnaaGreatDoor
namespace Go.Proofs.YtadjhkehfklmnaaGreatDoor
set_option linter.unusedSimpArgs false
set_option linter.unusedVariables false
open Go.RowKit
set_option maxRecDepth 10000
set_option maxHeartbeats 16000000 in
theorem sPlan_v (s : Lo) (h : Bool) (w : World) (hs : s.safe) : Calls Tryz.prog 154 #[.agg s.cells.toArray, .bool h] w fun e w' => ∃ v, e = .returned v ∧ RetV (ι := Option Addr × Nat × Nat × List Int) (fun (P, c, n, L) => L = s.plan h ∧ n = L.length) (fun (P, c, n, L) => .tuple #[.slice P n c, .bool true]) (fun (P, c, n, L) => [.row (.slice P n c) 3 1 n (IL L)]) (Base.of w) v w' := by
  have hS := fun w => sSafe_v s w
  rw [tr_yes hs] at hS
  have hM := fun w => sMins_v s h w hs
  have h40 := Lo.mins_le (h := h) hs
  rw [plan_M]
  generalize s.mins h = M at *
  obtain ⟨N, hN⟩ : ∃ N, M = N := ⟨_, rfl⟩
  obtain ⟨Q, hQ⟩ : ∃ Q, preM s h M = Q := ⟨_, rfl⟩
  obtain ⟨R, hR⟩ : ∃ R, planM s h M = R := ⟨_, rfl⟩
  obtain ⟨G, hG⟩ : ∃ G, cGate h = G := ⟨_, rfl⟩
  have hRQ : s.gate h = true ∨ R = Q ++ List.replicate N 9 ++ [G] := by
    cases hg : s.gate h
    · right
      rw [← hR, ← hQ, ← hN, ← hG]
      unfold planM preM
      rw [hg]
      rfl
    · exact .inl rfl
  have hQ3 : Q.length ≤ 3 := by
    rw [← hQ]
    unfold preM
    simp only [List.length_append]
    split <;> split <;> split <;> simp
  rw [hR]
  obtain ⟨a, b, v, g1, g2, p1, p2⟩ := s
  cases h <;> cases g1 <;> cases g2 <;> cases p1 <;> cases p2
  all_goals first | (exfalso; revert hs; simp [Lo.safe]; done) | skip
  all_goals cases M
  all_goals (refine calls_of_vc tb_ok (args := [.agg (Lo.cells ⟨a, b, v, _, _, _, _⟩).toArray, .bool _]) Tryz.func154 rfl ?_)
  all_goals ((repeat' ((conv => whnf); first | refine go ?_ | (refine VSome.mk ?_; intro gQ hA'; first | subst hA' | cases hA' | (dsimp only at hA'; subst hA')) | refine And.intro ?_ ?_ | intro _ | (first | ((show VCall _ _ _ 91 _ _); refine VCall.grow _ (fun w1 _ => hS w1) ?_) | ((show VCall _ _ _ 190 _ _); refine VCall.grow _ (fun w1 _ => hM w1) ?_) | ((show VDraw _ _ _ #[{ dst := some 20, op := _, type := _, pos := _, after := _, guard := _ }, _, _, _, _, _, _, _] _ _); refine VDraw.mk (.take 0 (.take 1 (.take 2 (.take 3 (.take 4 (.take 5 (.take 6 (.take 7 .done)))))))) [0] (by kernel_rfl) (by kernel_rfl) ?_) | ((show VDraw _ _ _ #[{ dst := some 24, op := _, type := _, pos := _, after := _, guard := _ }, _, _, _, _, _] _ _); refine VDraw.mk (.take 0 (.take 1 (.take 2 (.take 3 (.take 4 (.take 5 .done)))))) [0] (by kernel_rfl) (by kernel_rfl) ?_) | ((show VApp _ _ _ _ _ _ _); (apply VApp.pushAny; (focus ((repeat (first | exact At.here | apply At.there)); done)); (focus ((repeat (first | exact At.here | apply At.there)); done)); refine VAppPush.mk rfl rfl (by omega) (fun A' c' => ?_))) | ((show VIdxA _ _ _ _ _ _); first | refine VIdxA.mk 0 rfl (by decide) ?_ | refine VIdxA.mk 1 rfl (by decide) ?_ | refine VIdxA.mk 2 rfl (by decide) ?_ | refine VIdxA.mk 3 rfl (by decide) ?_)))))
  all_goals (conv => whnf)
  all_goals first
    | ((show VRet _ _ _ _); exact VRet.sel (_, 0, 0, []) ⟨by rw [← hR]; rfl, rfl⟩ rfl [1] (by simp) rfl)
    | (have hR2 : R = Q ++ List.replicate N 9 ++ [G] := by
        rcases hRQ with hx | hx
        · cases hx
        · exact hx
       cases hG
       refine VLoop.mk (ι := Nat × List Int × Nat × Option Addr × Nat) [6, 14, 64, 65, 66, 67, 68, 69, 70, 71] (fun (k, L, n, P, c) => [(14, .int .i64 k), (6, .slice P n c)]) (fun (k, L, n, P, c) => [.row (.slice P n c) 3 1 n (IL L)]) (fun i => i.1 ≤ N ∧ i.2.1 = Q ++ List.replicate i.1 9 ∧ i.2.2.1 = i.2.1.length) (fun i => 50 - i.1) (0, Q ++ [], _, _, _) ⟨Nat.zero_le _, rfl, ?_⟩ ?_ (OwnLe.mk [1] (by simp) (by rw [← hQ]; rfl)) (fun i u hi => ?_))
  all_goals first | (rw [← hQ]; rfl) | (((conv => whnf); repeat (first | exact trivial | refine ⟨rfl, ?_⟩ | refine ⟨congrArg (Value.int .i64) (by first | omega | assumption | exact Eq.symm (by assumption)), ?_⟩)); done) | skip
  all_goals obtain ⟨k, L, n, P, c⟩ := i
  all_goals obtain ⟨hk, hL, hn⟩ := hi
  all_goals replace hk : k ≤ N := hk
  all_goals replace hL : L = Q ++ List.replicate k 9 := hL
  all_goals replace hn : n = L.length := hn
  all_goals have hn50 : n ≤ 50 := by rw [hn, hL, List.length_append, List.length_replicate]; omega
  all_goals by_cases hlt : k < N
  all_goals first
    | (exfalso; omega; done)
    | (have hlt : k < N := hlt
       (repeat' ((conv => whnf); first | refine go ?_ | (refine VSome.mk ?_; intro gQ hA'; first | subst hA' | cases hA' | (dsimp only at hA'; subst hA')) | refine And.intro ?_ ?_ | intro _ | (first | ((show VApp _ _ _ _ _ _ _); (apply VApp.pushAny; (focus ((repeat (first | exact At.here | apply At.there)); done)); (focus ((repeat (first | exact At.here | apply At.there)); done)); refine VAppPush.mk rfl rfl (by omega) (fun A' c' => ?_))))))
       (conv => whnf)
       refine VNext.mk (k + 1, L ++ [9], n + 1, _, _) ⟨hlt, by show L ++ [9] = Q ++ List.replicate (k + 1) 9; rw [hL, rep_suc], by show n + 1 = (L ++ [9]).length; rw [List.length_append, hn]; rfl⟩ (by show 50 - (k + 1) < 50 - k; omega) ?_ (OwnLe.mk [0] (by simp) (by first | (dsimp only; rw [← IL_snoc]; rfl) | (rw [← IL_snoc]; rfl)))
       ((conv => whnf); repeat (first | exact trivial | refine ⟨rfl, ?_⟩ | refine ⟨congrArg (Value.int .i64) (by first | omega | assumption | exact Eq.symm (by assumption)), ?_⟩)))
    | (have hkN : k = N := by omega
       subst hkN
       (repeat' ((conv => whnf); first | refine go ?_ | (refine VSome.mk ?_; intro gQ hA'; first | subst hA' | cases hA' | (dsimp only at hA'; subst hA')) | refine And.intro ?_ ?_ | intro _ | (first | ((show VApp _ _ _ _ _ _ _); (apply VApp.pushAny; (focus ((repeat (first | exact At.here | apply At.there)); done)); (focus ((repeat (first | exact At.here | apply At.there)); done)); refine VAppPush.mk rfl rfl (by omega) (fun A' c' => ?_))) | ((show VIdxA _ _ _ _ _ _); refine VIdxA.mk 3 rfl (by decide) ?_))))
       (conv => whnf)
       refine VRet.sel (_, _, n + 1, L ++ [_]) ⟨by rw [hR2, hL], by show n + 1 = (L ++ [_]).length; rw [List.length_append, hn]; rfl⟩ rfl [0] (by simp) (by first | (dsimp only; rw [← IL_snoc]; rfl) | (rw [← IL_snoc]; rfl)))
end Go.Proofs.YtadjhkehfklmnaaGreatDoor
namespace Go.Proofs.YtadjhkehfklmnaaGreatDoor
set_option linter.unusedSimpArgs false
set_option linter.unusedVariables false
open Go.RowKit
set_option maxRecDepth 10000
set_option maxHeartbeats 4000000 in
theorem sStep28_yes (d : Co) (A1 : Option Addr) (c1 : Nat) (A2 : Option Addr) (c2 : Nat) (x : Int) (w : World) (h : d.lock.okStep x) :
    Calls Tryz.prog 124 #[.agg (d.at A1 c1 A2 c2).toArray, .int .i64 x] w (Post (.tuple #[.agg (({ d with lock := d.lock.move x } : Co).at A1 c1 A2 c2).toArray, .string (tx wOk)]) w) := by
  have hS := fun w => sStep_v d.lock x w
  rw [Lo.step_yes h, tr_yes h] at hS
  refine post_of_vc ?_
  refine calls_of_vc tb_ok (args := [.agg (d.at A1 c1 A2 c2).toArray, .int .i64 x]) Tryz.func124 rfl ?_
  (repeat' ((conv => whnf); first | refine go ?_ | (refine VSome.mk ?_; intro gQ hA'; first | subst hA' | cases hA' | (dsimp only at hA'; subst hA')) | refine And.intro ?_ ?_ | intro _ | (first | ((show VCall _ _ _ 133 _ _); refine VCall.grow _ (fun w1 m1 => hS w1) ?_))))
  all_goals ((conv => whnf); refine VRet.mk fun w' m => ?_)
  all_goals exact ⟨rfl, m.keeps.below⟩
set_option maxHeartbeats 4000000 in
theorem sStep28_no (d : Co) (A1 : Option Addr) (c1 : Nat) (A2 : Option Addr) (c2 : Nat) (x : Int) (w : World) (h : ¬ d.lock.okStep x) :
    Calls Tryz.prog 124 #[.agg (d.at A1 c1 A2 c2).toArray, .int .i64 x] w (Post (.tuple #[.agg (d.at A1 c1 A2 c2).toArray, .string (tx wAsk)]) w) := by
  have hS := fun w => sStep_v d.lock x w
  rw [Lo.step_no h, tr_no h] at hS
  refine post_of_vc ?_
  refine calls_of_vc tb_ok (args := [.agg (d.at A1 c1 A2 c2).toArray, .int .i64 x]) Tryz.func124 rfl ?_
  (repeat' ((conv => whnf); first | refine go ?_ | (refine VSome.mk ?_; intro gQ hA'; first | subst hA' | cases hA' | (dsimp only at hA'; subst hA')) | refine And.intro ?_ ?_ | intro _ | (first | ((show VCall _ _ _ 133 _ _); refine VCall.grow _ (fun w1 m1 => hS w1) ?_))))
  all_goals ((conv => whnf); refine VRet.mk fun w' m => ?_)
  all_goals exact ⟨rfl, m.keeps.below⟩
theorem Co.sideV_plan (d : Co) (hi : Bool) : d.sideV wPlan hi = (d, ltx (d.lock.plan hi)) := rfl
theorem Co.sideV_head (d : Co) (hi : Bool) : d.sideV wHead hi = (d, Lib.itoa (d.lock.head hi)) := by unfold Co.sideV; rw [if_neg (by decide), if_pos rfl]
theorem Co.sideV_go (d : Co) (hi : Bool) : d.sideV wGo hi = ({ d with lock := (d.lock.run (d.lock.plan hi)).1 }, Lib.itoa (d.lock.run (d.lock.plan hi)).1.level) := by unfold Co.sideV; rw [if_neg (by decide), if_neg (by decide), if_pos rfl]
theorem Co.sideV_no (d : Co) (hi : Bool) {x : List UInt8} (h1 : ¬ x = wPlan) (h2 : ¬ x = wHead) (h3 : ¬ x = wGo) : d.sideV x hi = (d, wAsk) := by unfold Co.sideV; rw [if_neg h1, if_neg h2, if_neg h3]
set_option maxHeartbeats 8000000 in
theorem sSide_v (d : Co) (A1 : Option Addr) (c1 : Nat) (A2 : Option Addr) (c2 : Nat) (x : List UInt8) (hi : Bool) (w : World) (hs : d.lock.safe) :
    Calls Tryz.prog 120 #[.agg (d.at A1 c1 A2 c2).toArray, .string (tx x), .bool hi] w (Post (.tuple #[.agg ((d.sideV x hi).1.at A1 c1 A2 c2).toArray, .string (tx (d.sideV x hi).2)]) w) := by
  have hP := fun w => sPlan_v d.lock hi w hs
  refine post_of_vc ?_
  by_cases e1 : x = wPlan
  · subst e1
    rw [Co.sideV_plan]
    have hT := fun B c w hB => l28List_v B c (d.lock.plan hi) w (Nat.le_trans (Lo.plan_len hs) (by decide)) (fun x hx => by have := Lo.plan_in x hx; omega) hB
    cases hi
    all_goals (refine calls_of_vc tb_ok (args := [.agg (d.at A1 c1 A2 c2).toArray, .string (tx wPlan), .bool _]) Tryz.func120 rfl ?_)
    all_goals ((repeat' ((conv => whnf); first | refine go ?_ | (refine VSome.mk ?_; intro gQ hA'; first | subst hA' | cases hA' | (dsimp only at hA'; subst hA')) | refine And.intro ?_ ?_ | intro _ | (first | ((show VCall _ _ _ 154 _ _); refine VCall.ret (fun w1 m1 => hP w1) (fun i hi => ?_); obtain ⟨P, cp, n9, L9⟩ := i; obtain ⟨rfl, rfl⟩ := hi) | ((show VDraw _ _ _ #[{ dst := some 21, op := _, type := _, pos := _, after := _, guard := _ }, _, _, _, _] _ _); refine VDraw.mk (.take 0 (.take 1 (.br 2 (.br 3 (.take 4 .done) .done) .done))) [0] (by kernel_rfl) (by kernel_rfl) ?_) | ((show VDraw _ _ _ #[{ dst := some 26, op := _, type := _, pos := _, after := _, guard := _ }, _, _, _, _, _, _, _] _ _); refine VDraw.mk (.take 0 (.take 1 (.take 2 (.take 3 (.br 4 (.br 5 (.br 6 (.take 7 .done) .done) .done) .done))))) [0] (by kernel_rfl) (by kernel_rfl) ?_) | ((show VDraw _ _ _ #[{ dst := some 44, op := _, type := _, pos := _, after := _, guard := _ }, _, _, _, _, _, _] _ _); refine VDraw.mk (.take 0 (.take 1 (.take 2 (.take 3 (.br 4 (.br 5 (.take 6 .done) .done) .done))))) [0, 3] (by kernel_rfl) (by kernel_rfl) ?_) | ((show VCall _ _ _ 155 _ _); refine VCall.grow _ (fun w1 m1 => hT _ _ w1 (Sees.any m1 fndA)) ?_)))))
    all_goals ((conv => whnf); refine VRet.mk fun w' m => ?_)
    all_goals exact ⟨rfl, m.keeps.below⟩
  by_cases e2 : x = wHead
  · subst e2
    rw [Co.sideV_head]
    have hH := fun w => sHead_v d.lock hi w hs
    have hb := Lo.head_in hs hi
    generalize d.lock.head hi = hh at hH hb ⊢
    have hw1 : ¬ tx wHead = ({ data := #[112, 108, 97, 110] } : ByteArray) := by decide
    cases hi
    all_goals (refine calls_of_vc tb_ok (args := [.agg (d.at A1 c1 A2 c2).toArray, .string (tx wHead), .bool _]) Tryz.func120 rfl ?_)
    all_goals ((repeat' ((conv => whnf); first | refine go ?_ | (refine VSome.mk ?_; intro gQ hA'; first | subst hA' | cases hA' | (dsimp only at hA'; subst hA')) | refine And.intro ?_ ?_ | intro _ | (first | ((show VCall _ _ _ 154 _ _); refine VCall.ret (fun w1 m1 => hP w1) (fun i hi => ?_); obtain ⟨P, cp, n9, L9⟩ := i; obtain ⟨rfl, rfl⟩ := hi) | ((show VDraw _ _ _ #[{ dst := some 21, op := _, type := _, pos := _, after := _, guard := _ }, _, _, _, _] _ _); refine VDraw.mk (.take 0 (.take 1 (.br 2 (.br 3 (.take 4 .done) .done) .done))) [0] (by kernel_rfl) (by kernel_rfl) ?_) | ((show VDraw _ _ _ #[{ dst := some 26, op := _, type := _, pos := _, after := _, guard := _ }, _, _, _, _, _, _, _] _ _); refine VDraw.mk (.take 0 (.take 1 (.take 2 (.take 3 (.br 4 (.br 5 (.br 6 (.take 7 .done) .done) .done) .done))))) [0] (by kernel_rfl) (by kernel_rfl) ?_) | ((show VDraw _ _ _ #[{ dst := some 44, op := _, type := _, pos := _, after := _, guard := _ }, _, _, _, _, _, _] _ _); refine VDraw.mk (.take 0 (.take 1 (.take 2 (.take 3 (.br 4 (.br 5 (.take 6 .done) .done) .done))))) [0, 3] (by kernel_rfl) (by kernel_rfl) ?_) | ((show VCall _ _ _ 156 _ _); refine VCall.grow _ (fun w1 m1 => hH w1) ?_) | ((show VCall _ _ _ 61 _ _); refine VCall.grow _ (fun w1 m1 => l1NumZ_v _ w1 (by omega) (by omega)) ?_)))))
    all_goals ((conv => whnf); refine VRet.mk fun w' m => ?_)
    all_goals exact ⟨rfl, m.keeps.below⟩
  by_cases e3 : x = wGo
  · subst e3
    rw [Co.sideV_go]
    have hR := fun A c w hA => srun_v d.lock A c (d.lock.plan hi) w hs (Nat.le_trans (Lo.plan_len hs) (by decide)) hA
    have hsf := (Lo.run_safe hs (d.lock.plan hi)).1
    generalize d.lock.run (d.lock.plan hi) = s2 at hR hsf ⊢
    have hlv := hsf.1; have hlv2 := hsf.2.1; have hlv3 := hsf.2.2.1; have hlv4 := hsf.2.2.2.1
    have hw1 : ¬ tx wGo = ({ data := #[112, 108, 97, 110] } : ByteArray) := by decide
    have hw2 : ¬ tx wGo = ({ data := #[104, 101, 97, 100] } : ByteArray) := by decide
    cases hi
    all_goals (refine calls_of_vc tb_ok (args := [.agg (d.at A1 c1 A2 c2).toArray, .string (tx wGo), .bool _]) Tryz.func120 rfl ?_)
    all_goals ((repeat' ((conv => whnf); first | refine go ?_ | (refine VSome.mk ?_; intro gQ hA'; first | subst hA' | cases hA' | (dsimp only at hA'; subst hA')) | refine And.intro ?_ ?_ | intro _ | (first | ((show VCall _ _ _ 154 _ _); refine VCall.ret (fun w1 m1 => hP w1) (fun i hi => ?_); obtain ⟨P, cp, n9, L9⟩ := i; obtain ⟨rfl, rfl⟩ := hi) | ((show VDraw _ _ _ #[{ dst := some 21, op := _, type := _, pos := _, after := _, guard := _ }, _, _, _, _] _ _); refine VDraw.mk (.take 0 (.take 1 (.br 2 (.br 3 (.take 4 .done) .done) .done))) [0] (by kernel_rfl) (by kernel_rfl) ?_) | ((show VDraw _ _ _ #[{ dst := some 26, op := _, type := _, pos := _, after := _, guard := _ }, _, _, _, _, _, _, _] _ _); refine VDraw.mk (.take 0 (.take 1 (.take 2 (.take 3 (.br 4 (.br 5 (.br 6 (.take 7 .done) .done) .done) .done))))) [0] (by kernel_rfl) (by kernel_rfl) ?_) | ((show VDraw _ _ _ #[{ dst := some 44, op := _, type := _, pos := _, after := _, guard := _ }, _, _, _, _, _, _] _ _); refine VDraw.mk (.take 0 (.take 1 (.take 2 (.take 3 (.br 4 (.br 5 (.take 6 .done) .done) .done))))) [0, 3] (by kernel_rfl) (by kernel_rfl) ?_) | ((show VCall _ _ _ 132 _ _); refine VCall.some _ _ (fun w1 m1 => hR _ _ w1 (Sees.any m1 fndA)) (fun r9 _ => ?_)) | ((show VCall _ _ _ 61 _ _); refine VCall.grow _ (fun w1 m1 => l1NumZ_v _ w1 (by omega) (by omega)) ?_)))))
    all_goals ((conv => whnf); refine VRet.mk fun w' m => ?_)
    all_goals exact ⟨rfl, m.keeps.below⟩
  · rw [Co.sideV_no d hi e1 e2 e3]
    have hw1 : ¬ tx x = ({ data := #[112, 108, 97, 110] } : ByteArray) := fun q => e1 (tx_inj (q.trans (by rfl : _ = tx wPlan)))
    have hw2 : ¬ tx x = ({ data := #[104, 101, 97, 100] } : ByteArray) := fun q => e2 (tx_inj (q.trans (by rfl : _ = tx wHead)))
    have hw3 : ¬ tx x = ({ data := #[103, 111] } : ByteArray) := fun q => e3 (tx_inj (q.trans (by rfl : _ = tx wGo)))
    cases hi
    all_goals (refine calls_of_vc tb_ok (args := [.agg (d.at A1 c1 A2 c2).toArray, .string (tx x), .bool _]) Tryz.func120 rfl ?_)
    all_goals ((repeat' ((conv => whnf); first | refine go ?_ | (refine VSome.mk ?_; intro gQ hA'; first | subst hA' | cases hA' | (dsimp only at hA'; subst hA')) | refine And.intro ?_ ?_ | intro _ | (first | ((show VCall _ _ _ 154 _ _); refine VCall.ret (fun w1 m1 => hP w1) (fun i hi => ?_); obtain ⟨P, cp, n9, L9⟩ := i; obtain ⟨rfl, rfl⟩ := hi) | ((show VDraw _ _ _ #[{ dst := some 21, op := _, type := _, pos := _, after := _, guard := _ }, _, _, _, _] _ _); refine VDraw.mk (.take 0 (.take 1 (.br 2 (.br 3 (.take 4 .done) .done) .done))) [0] (by kernel_rfl) (by kernel_rfl) ?_) | ((show VDraw _ _ _ #[{ dst := some 26, op := _, type := _, pos := _, after := _, guard := _ }, _, _, _, _, _, _, _] _ _); refine VDraw.mk (.take 0 (.take 1 (.take 2 (.take 3 (.br 4 (.br 5 (.br 6 (.take 7 .done) .done) .done) .done))))) [0] (by kernel_rfl) (by kernel_rfl) ?_) | ((show VDraw _ _ _ #[{ dst := some 44, op := _, type := _, pos := _, after := _, guard := _ }, _, _, _, _, _, _] _ _); refine VDraw.mk (.take 0 (.take 1 (.take 2 (.take 3 (.br 4 (.br 5 (.take 6 .done) .done) .done))))) [0, 3] (by kernel_rfl) (by kernel_rfl) ?_)))))
    all_goals ((conv => whnf); refine VRet.mk fun w' m => ?_)
    all_goals exact ⟨rfl, m.keeps.below⟩
set_option maxHeartbeats 4000000 in
theorem sFlow28_yes (d : Co) (A1 : Option Addr) (c1 : Nat) (A2 : Option Addr) (c2 : Nat) (a b v : Int) (w : World) (hg : bGood d.n d.ba) (h : bCan d.n d.ba a b v) (hA : Seen w A1 (BaS d.n d.ba)) :
    Calls Tryz.prog 123 #[.agg (d.at A1 c1 A2 c2).toArray, .agg (flC a b v).toArray] w fun e w' => ∃ v9, e = .returned v9 ∧ RetV (ι := Nat × Nat) (fun _ => True) (fun (g, c') => .tuple #[.agg (({ d with ba := bMv d.ba a b v } : Co).at (some ⟨g, 0, none⟩) c' A2 c2).toArray, .string (tx wOk)]) (fun (g, c') => [.row (.slice (some ⟨g, 0, none⟩) d.n c') 96 3 d.n (BaS d.n (bMv d.ba a b v))]) (Base.of w) v9 w' := by
  have hM := fun A c w hA => sMoveW_v A d.n c d.ba a b v w hg h hA
  have hn := hg.2
  refine calls_of_vc tb_ok (args := [.agg (d.at A1 c1 A2 c2).toArray, .agg (flC a b v).toArray]) Tryz.func123 rfl ?_
  (repeat' ((conv => whnf); first | refine go ?_ | (refine VSome.mk ?_; intro gQ hA'; first | subst hA' | cases hA' | (dsimp only at hA'; subst hA')) | refine And.intro ?_ ?_ | intro _ | (first | ((show VCall _ _ _ 158 _ _); refine VCall.ret (fun w1 m1 => hM _ _ w1 seenA) (fun i hi => ?_); obtain ⟨g9, c9⟩ := i))))
  all_goals (conv => whnf)
  all_goals exact VRet.sel (g9, c9) trivial rfl [3] (by simp) rfl
set_option maxHeartbeats 4000000 in
theorem sFlow28_no (d : Co) (A1 : Option Addr) (c1 : Nat) (A2 : Option Addr) (c2 : Nat) (a b v : Int) (w : World) (hg : bGood d.n d.ba) (h : ¬ bCan d.n d.ba a b v) (hA : Seen w A1 (BaS d.n d.ba)) :
    Calls Tryz.prog 123 #[.agg (d.at A1 c1 A2 c2).toArray, .agg (flC a b v).toArray] w (Post (.tuple #[.agg (d.at A1 c1 A2 c2).toArray, .string (tx wAsk)]) w) := by
  have hM := fun A c w hA => sMoveW_no A d.n c d.ba a b v w hg h hA
  have hn := hg.2
  refine post_of_vc ?_
  refine calls_of_vc tb_ok (args := [.agg (d.at A1 c1 A2 c2).toArray, .agg (flC a b v).toArray]) Tryz.func123 rfl ?_
  (repeat' ((conv => whnf); first | refine go ?_ | (refine VSome.mk ?_; intro gQ hA'; first | subst hA' | cases hA' | (dsimp only at hA'; subst hA')) | refine And.intro ?_ ?_ | intro _ | (first | ((show VCall _ _ _ 158 _ _); refine VCall.some _ _ (fun w1 m1 => hM _ _ w1 seenA) (fun g9 _ => ?_)))))
  all_goals ((conv => whnf); refine VRet.mk fun w' m => ?_)
  all_goals exact ⟨rfl, m.keeps.below⟩
end Go.Proofs.YtadjhkehfklmnaaGreatDoor
