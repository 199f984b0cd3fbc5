/-
  Texts joined: how the calls that the law reaches are walked, and the plain laws behind them.
  Conditions: none beyond each statement's own premises.
-/
import Derived.Test.YtadjhkehfklmnaaGreatDoorMy15
namespace Go.Proofs.YtadjhkehfklmnaaGreatDoor
set_option linter.unusedSimpArgs false
set_option linter.unusedVariables false
open Go.RowKit
set_option maxRecDepth 10000
theorem IL_old {w0 : Base} {B : Option Addr} {L : List Int} (h : OldSeen w0 B (IL L)) (hl : 0 < L.length) : ∃ b off, B = some ⟨b, off, none⟩ ∧ b < w0.w.heap.size ∧ ¬ w0.lent b ∧ ∀ i, i < L.length → w0.w.cell? ⟨b, off + mulS i 1, none⟩ = some (.int .i64 (a0 L i)) := by
  obtain ⟨b, off, e, hb, hn, _⟩ := h 0 _ (IL_get hl 0 rfl)
  refine ⟨b, off, e, hb, hn, fun i hi => ?_⟩
  obtain ⟨b2, off2, e2, _, _, hc⟩ := h i _ (IL_get hi i rfl)
  rw [e] at e2
  cases e2
  rw [mulS_eq, Nat.mul_one]
  exact hc
theorem isOne_yes {x : Int} (h : x = 1) : isOne x = true := decide_eq_true h
theorem isOne_no {x : Int} (h : ¬ x = 1) : isOne x = false := decide_eq_false h
set_option maxHeartbeats 8000000 in
theorem iExStep_yes {w0 : Base} {w : World} (d : Co) (gc : Nat) (A1 : Option Addr) (c1 : Nat) (A2 : Option Addr) (c2 : Nat) (B : Option Addr) (c : Nat) (L : List Int) (hf : d.fit) (ht : Old2 w0) (hB : OldSeen w0 B (IL L)) (hl : 0 < L.length) (h : d.lock.okStep (a0 L 0)) (m0 : Mem w0 [.blk gc 39 (d.at A1 c1 A2 c2), .row (.slice A1 d.n c1) 96 3 d.n (BaS d.n d.ba), .row (.slice A2 d.m c2) 98 4 d.m (AwS d.m d.wa)] w) :
    Calls Tryz.prog 114 #[.pointer (some ⟨gc, 0, none⟩), .string (tx wStep), .slice B L.length c] w fun e w' => ∃ v, e = .returned v ∧ RetL (ι := Option Addr × Nat × Option Addr × Nat) (fun _ => True) (fun _ => .tuple #[.string (tx (wOk)), .bool true]) (fun (P1, k1, P2, k2) => [.blk gc 39 (({ d with lock := d.lock.move (a0 L 0) } : Co).at P1 k1 P2 k2), .row (.slice P1 ({ d with lock := d.lock.move (a0 L 0) } : Co).n k1) 96 3 ({ d with lock := d.lock.move (a0 L 0) } : Co).n (BaS ({ d with lock := d.lock.move (a0 L 0) } : Co).n ({ d with lock := d.lock.move (a0 L 0) } : Co).ba), .row (.slice P2 ({ d with lock := d.lock.move (a0 L 0) } : Co).m k2) 98 4 ({ d with lock := d.lock.move (a0 L 0) } : Co).m (AwS ({ d with lock := d.lock.move (a0 L 0) } : Co).m ({ d with lock := d.lock.move (a0 L 0) } : Co).wa)]) (fun _ => []) w0 v w' := by
  have hs := hf.1
  obtain ⟨bb, off, rfl, hbb, hnl, hcc⟩ := IL_old hB hl
  have hS := fun w => iStep_v d.lock (a0 L 0) w
  rw [Lo.step_yes h, tr_yes h] at hS
  refine calls_of_vcL (w0 := w0) tb_ok (args := [.pointer (some ⟨gc, 0, none⟩), .string (tx wStep), .slice (some ⟨bb, off, none⟩) L.length c]) Tryz.func114 rfl m0 ?_
  (repeat' ((conv => whnf); first | refine go ?_ | (refine VSome.mk ?_; intro gQ hA'; first | subst hA' | cases hA' | (dsimp only at hA'; subst hA')) | refine And.intro ?_ ?_ | intro _ | (first | ((show VCall _ _ _ 141 _ _); refine VCall.grow _ (fun w1 m1 => hS w1) ?_) | ((show VDraw _ _ _ #[{ dst := some 28, op := _, type := _, pos := _, after := _, guard := _ }, _, _, _, _, _, _, _, _, _, _, _, _, _] _ _); refine VDraw.mk (.take 0 (.take 1 (.take 2 (.take 3 (.take 4 (.take 5 (.take 6 (.br 7 (.take 8 (.take 9 (.take 10 (.br 11 (.br 12 (.take 13 .done) .done) .done)))) (.br 11 (.br 7 (.take 8 (.take 9 (.take 10 (.br 12 (.take 13 .done) .done)))) .done) .done))))))))) [0, 3] (by kernel_rfl) (by kernel_rfl) ?_) | ((show VIdx _ _ _ _ _ _ _); first | (refine VIdx.at_ rfl 0 rfl (by omega) ?_)) | ((show VLoad1 _ _ _ _ _); first | (refine VLoad1.mk _ (Rd.old hbb hnl (hcc 0 (by omega))) ?_) ))))
  all_goals (conv => whnf)
  all_goals exact VRet.mk fun w' m => ⟨(A1, c1, A2, c2), trivial, rfl, m.sel (ks := [0, 1, 2]) (by simp)⟩
set_option maxHeartbeats 8000000 in
theorem iExStep_no {w0 : Base} {w : World} (d : Co) (gc : Nat) (A1 : Option Addr) (c1 : Nat) (A2 : Option Addr) (c2 : Nat) (B : Option Addr) (c : Nat) (L : List Int) (hf : d.fit) (ht : Old2 w0) (hB : OldSeen w0 B (IL L)) (hl : 0 < L.length) (h : ¬ d.lock.okStep (a0 L 0)) (m0 : Mem w0 [.blk gc 39 (d.at A1 c1 A2 c2), .row (.slice A1 d.n c1) 96 3 d.n (BaS d.n d.ba), .row (.slice A2 d.m c2) 98 4 d.m (AwS d.m d.wa)] w) :
    Calls Tryz.prog 114 #[.pointer (some ⟨gc, 0, none⟩), .string (tx wStep), .slice B L.length c] w fun e w' => ∃ v, e = .returned v ∧ RetL (ι := Co × Option Addr × Nat × Option Addr × Nat × List UInt8) (fun _ => True) (fun (_, _, _, _, _, t) => .tuple #[.string (tx t), .bool false]) (fun (d', P1, k1, P2, k2, _) => [.blk gc 39 (d'.at P1 k1 P2 k2), .gone, .gone]) (fun _ => []) w0 v w' := by
  have hs := hf.1
  obtain ⟨bb, off, rfl, hbb, hnl, hcc⟩ := IL_old hB hl
  have hS := fun w => iStep_v d.lock (a0 L 0) w
  rw [Lo.step_no h, tr_no h] at hS
  refine calls_of_vcL (w0 := w0) tb_ok (args := [.pointer (some ⟨gc, 0, none⟩), .string (tx wStep), .slice (some ⟨bb, off, none⟩) L.length c]) Tryz.func114 rfl m0 ?_
  (repeat' ((conv => whnf); first | refine go ?_ | (refine VSome.mk ?_; intro gQ hA'; first | subst hA' | cases hA' | (dsimp only at hA'; subst hA')) | refine And.intro ?_ ?_ | intro _ | (first | ((show VCall _ _ _ 141 _ _); refine VCall.grow _ (fun w1 m1 => hS w1) ?_) | ((show VDraw _ _ _ #[{ dst := some 28, op := _, type := _, pos := _, after := _, guard := _ }, _, _, _, _, _, _, _, _, _, _, _, _, _] _ _); refine VDraw.mk (.take 0 (.take 1 (.take 2 (.take 3 (.take 4 (.take 5 (.take 6 (.br 7 (.take 8 (.take 9 (.take 10 (.br 11 (.br 12 (.take 13 .done) .done) .done)))) (.br 11 (.br 7 (.take 8 (.take 9 (.take 10 (.br 12 (.take 13 .done) .done)))) .done) .done))))))))) [0, 3] (by kernel_rfl) (by kernel_rfl) ?_) | ((show VIdx _ _ _ _ _ _ _); first | (refine VIdx.at_ rfl 0 rfl (by omega) ?_)) | ((show VLoad1 _ _ _ _ _); first | (refine VLoad1.mk _ (Rd.old hbb hnl (hcc 0 (by omega))) ?_) ))))
  all_goals (conv => whnf)
  all_goals exact VRet.mk fun w' m => ⟨({ d with lock := Lo.zero }, A1, c1, A2, c2, wOk), trivial, rfl, m.sel (ks := [0, 100, 101]) (by simp)⟩
set_option maxHeartbeats 8000000 in
theorem iExGo_v {w0 : Base} {w : World} (d : Co) (gc : Nat) (A1 : Option Addr) (c1 : Nat) (A2 : Option Addr) (c2 : Nat) (B : Option Addr) (c : Nat) (L : List Int) (hf : d.fit) (ht : Old2 w0) (hB : OldSeen w0 B (IL L)) (hl : 0 < L.length) (m0 : Mem w0 [.blk gc 39 (d.at A1 c1 A2 c2), .row (.slice A1 d.n c1) 96 3 d.n (BaS d.n d.ba), .row (.slice A2 d.m c2) 98 4 d.m (AwS d.m d.wa)] w) :
    Calls Tryz.prog 114 #[.pointer (some ⟨gc, 0, none⟩), .string (tx wGo), .slice B L.length c] w fun e w' => ∃ v, e = .returned v ∧ RetL (ι := Option Addr × Nat × Option Addr × Nat) (fun _ => True) (fun _ => .tuple #[.string (tx (Lib.itoa (d.lock.run (d.lock.plan (isOne (a0 L 0)))).1.level)), .bool true]) (fun (P1, k1, P2, k2) => [.blk gc 39 (({ d with lock := (d.lock.run (d.lock.plan (isOne (a0 L 0)))).1 } : Co).at P1 k1 P2 k2), .row (.slice P1 ({ d with lock := (d.lock.run (d.lock.plan (isOne (a0 L 0)))).1 } : Co).n k1) 96 3 ({ d with lock := (d.lock.run (d.lock.plan (isOne (a0 L 0)))).1 } : Co).n (BaS ({ d with lock := (d.lock.run (d.lock.plan (isOne (a0 L 0)))).1 } : Co).n ({ d with lock := (d.lock.run (d.lock.plan (isOne (a0 L 0)))).1 } : Co).ba), .row (.slice P2 ({ d with lock := (d.lock.run (d.lock.plan (isOne (a0 L 0)))).1 } : Co).m k2) 98 4 ({ d with lock := (d.lock.run (d.lock.plan (isOne (a0 L 0)))).1 } : Co).m (AwS ({ d with lock := (d.lock.run (d.lock.plan (isOne (a0 L 0)))).1 } : Co).m ({ d with lock := (d.lock.run (d.lock.plan (isOne (a0 L 0)))).1 } : Co).wa)]) (fun _ => []) w0 v w' := by
  have hs := hf.1
  obtain ⟨bb, off, rfl, hbb, hnl, hcc⟩ := IL_old hB hl
  have hw_Step : ¬ tx wGo = ({ data := #[115, 116, 101, 112] } : ByteArray) := by decide
  have hP := fun h w => iPlan_v d.lock h w hs
  have hR := fun h A c w hA => iRun_v d.lock A c (d.lock.plan h) w hs (Nat.le_trans (Lo.plan_len hs) (by decide)) hA
  have hr := fun h => Lo.plan_run hs h
  have hsf := fun h => (Lo.run_safe hs (d.lock.plan h)).1
  by_cases h1 : a0 L 0 = 1
  all_goals (first | (rw [isOne_yes h1]; replace hP := hP true; replace hR := hR true; replace hr := hr true; replace hsf := hsf true; done) | (rw [isOne_yes h1]; replace hP := hP true; replace hR := hR true; replace hr := hr true; replace hsf := hsf true) | (rw [isOne_no h1]; replace hP := hP false; replace hR := hR false; replace hr := hr false; replace hsf := hsf false))
  all_goals rw [hr] at hR
  all_goals (generalize (d.lock.run (d.lock.plan _)).1 = s2 at hR hsf ⊢)
  all_goals (have hlv := hsf.1; have hlv2 := hsf.2.1; have hlv3 := hsf.2.2.1; have hlv4 := hsf.2.2.2.1)
  all_goals (refine calls_of_vcL (w0 := w0) tb_ok (args := [.pointer (some ⟨gc, 0, none⟩), .string (tx wGo), .slice (some ⟨bb, off, none⟩) L.length c]) Tryz.func114 rfl m0 ?_)
  all_goals ((repeat' ((conv => whnf); first | refine go ?_ | (refine VSome.mk ?_; intro gQ hA'; first | subst hA' | cases hA' | (dsimp only at hA'; subst hA')) | refine And.intro ?_ ?_ | intro _ | (first | ((show VCall _ _ _ 142 _ _); refine VCall.ret (fun w1 m1 => hP w1) (fun i hi => ?_); obtain ⟨P, cp, n9, L9⟩ := i; obtain ⟨rfl, rfl⟩ := hi) | ((show VCall _ _ _ 143 _ _); refine VCall.grow _ (fun w1 m1 => hR _ _ w1 (Sees.any m1 fndA)) ?_) | ((show VCall _ _ _ 59 _ _); refine VCall.grow _ (fun w1 m1 => itoaZ_v _ w1 (by omega) (by omega) (ht.now m1).1) ?_) | ((show VDraw _ _ _ #[{ dst := some 46, op := _, type := _, pos := _, after := _, guard := _ }, _, _, _, _, _, _, _, _, _, _, _, _, _] _ _); refine VDraw.mk (.take 0 (.take 1 (.take 2 (.take 3 (.take 4 (.take 5 (.take 6 (.take 7 (.br 8 (.take 9 (.take 10 (.take 11 (.take 12 (.take 13 .done))))) .done))))))))) [0, 3] (by kernel_rfl) (by kernel_rfl) ?_) | ((show VIdx _ _ _ _ _ _ _); first | (refine VIdx.at_ rfl 0 rfl (by omega) ?_)) | ((show VLoad1 _ _ _ _ _); first | (refine VLoad1.mk _ (Rd.old hbb hnl (hcc 0 (by omega))) ?_) )))))
  all_goals (conv => whnf)
  all_goals exact VRet.mk fun w' m => ⟨(A1, c1, A2, c2), trivial, rfl, m.sel (ks := [0, 1, 2]) (by simp)⟩
set_option maxHeartbeats 8000000 in
theorem iExPlan_v {w0 : Base} {w : World} (d : Co) (gc : Nat) (A1 : Option Addr) (c1 : Nat) (A2 : Option Addr) (c2 : Nat) (B : Option Addr) (c : Nat) (L : List Int) (hf : d.fit) (ht : Old2 w0) (hB : OldSeen w0 B (IL L)) (hl : 0 < L.length) (m0 : Mem w0 [.blk gc 39 (d.at A1 c1 A2 c2), .row (.slice A1 d.n c1) 96 3 d.n (BaS d.n d.ba), .row (.slice A2 d.m c2) 98 4 d.m (AwS d.m d.wa)] w) :
    Calls Tryz.prog 114 #[.pointer (some ⟨gc, 0, none⟩), .string (tx wPlan), .slice B L.length c] w fun e w' => ∃ v, e = .returned v ∧ RetL (ι := Option Addr × Nat × Option Addr × Nat) (fun _ => True) (fun _ => .tuple #[.string (tx (ltx (d.lock.plan (isOne (a0 L 0))))), .bool true]) (fun (P1, k1, P2, k2) => [.blk gc 39 ((d : Co).at P1 k1 P2 k2), .row (.slice P1 (d : Co).n k1) 96 3 (d : Co).n (BaS (d : Co).n (d : Co).ba), .row (.slice P2 (d : Co).m k2) 98 4 (d : Co).m (AwS (d : Co).m (d : Co).wa)]) (fun _ => []) w0 v w' := by
  have hs := hf.1
  obtain ⟨bb, off, rfl, hbb, hnl, hcc⟩ := IL_old hB hl
  have hw_Step : ¬ tx wPlan = ({ data := #[115, 116, 101, 112] } : ByteArray) := by decide
  have hw_Go : ¬ tx wPlan = ({ data := #[103, 111] } : ByteArray) := by decide
  have hP := fun h w => iPlan_v d.lock h w hs
  have hT := fun h B c w hB ht => listText_v B c (d.lock.plan h) w (Nat.le_trans (Lo.plan_len hs) (by decide)) (fun x hx => by have := Lo.plan_in x hx; omega) hB ht
  by_cases h1 : a0 L 0 = 1
  all_goals (first | (rw [isOne_yes h1]; replace hP := hP true; replace hT := hT true) | (rw [isOne_no h1]; replace hP := hP false; replace hT := hT false))
  all_goals (refine calls_of_vcL (w0 := w0) tb_ok (args := [.pointer (some ⟨gc, 0, none⟩), .string (tx wPlan), .slice (some ⟨bb, off, none⟩) L.length c]) Tryz.func114 rfl m0 ?_)
  all_goals ((repeat' ((conv => whnf); first | refine go ?_ | (refine VSome.mk ?_; intro gQ hA'; first | subst hA' | cases hA' | (dsimp only at hA'; subst hA')) | refine And.intro ?_ ?_ | intro _ | (first | ((show VCall _ _ _ 142 _ _); refine VCall.ret (fun w1 m1 => hP w1) (fun i hi => ?_); obtain ⟨P, cp, n9, L9⟩ := i; obtain ⟨rfl, rfl⟩ := hi) | ((show VCall _ _ _ 144 _ _); refine VCall.grow _ (fun w1 m1 => hT _ _ w1 (Sees.any m1 fndA) (ht.now m1).1) ?_) | ((show VDraw _ _ _ #[{ dst := some 84, op := _, type := _, pos := _, after := _, guard := _ }, _, _, _, _, _, _, _, _, _, _, _, _, _] _ _); refine VDraw.mk (.take 0 (.take 1 (.take 2 (.take 3 (.take 4 (.take 5 (.take 6 (.take 7 (.br 8 (.take 9 (.take 10 (.take 11 (.take 12 (.take 13 .done))))) .done))))))))) [0, 3] (by kernel_rfl) (by kernel_rfl) ?_) | ((show VIdx _ _ _ _ _ _ _); first | (refine VIdx.at_ rfl 0 rfl (by omega) ?_)) | ((show VLoad1 _ _ _ _ _); first | (refine VLoad1.mk _ (Rd.old hbb hnl (hcc 0 (by omega))) ?_) )))))
  all_goals (conv => whnf)
  all_goals exact VRet.mk fun w' m => ⟨(A1, c1, A2, c2), trivial, rfl, m.sel (ks := [0, 1, 2]) (by simp)⟩
set_option maxHeartbeats 8000000 in
theorem iExHead_v {w0 : Base} {w : World} (d : Co) (gc : Nat) (A1 : Option Addr) (c1 : Nat) (A2 : Option Addr) (c2 : Nat) (B : Option Addr) (c : Nat) (L : List Int) (hf : d.fit) (ht : Old2 w0) (hB : OldSeen w0 B (IL L)) (hl : 0 < L.length) (m0 : Mem w0 [.blk gc 39 (d.at A1 c1 A2 c2), .row (.slice A1 d.n c1) 96 3 d.n (BaS d.n d.ba), .row (.slice A2 d.m c2) 98 4 d.m (AwS d.m d.wa)] w) :
    Calls Tryz.prog 114 #[.pointer (some ⟨gc, 0, none⟩), .string (tx wHead), .slice B L.length c] w fun e w' => ∃ v, e = .returned v ∧ RetL (ι := Option Addr × Nat × Option Addr × Nat) (fun _ => True) (fun _ => .tuple #[.string (tx (Lib.itoa (d.lock.head (isOne (a0 L 0))))), .bool true]) (fun (P1, k1, P2, k2) => [.blk gc 39 ((d : Co).at P1 k1 P2 k2), .row (.slice P1 (d : Co).n k1) 96 3 (d : Co).n (BaS (d : Co).n (d : Co).ba), .row (.slice P2 (d : Co).m k2) 98 4 (d : Co).m (AwS (d : Co).m (d : Co).wa)]) (fun _ => []) w0 v w' := by
  have hs := hf.1
  obtain ⟨bb, off, rfl, hbb, hnl, hcc⟩ := IL_old hB hl
  have hw_Step : ¬ tx wHead = ({ data := #[115, 116, 101, 112] } : ByteArray) := by decide
  have hw_Go : ¬ tx wHead = ({ data := #[103, 111] } : ByteArray) := by decide
  have hw_Plan : ¬ tx wHead = ({ data := #[112, 108, 97, 110] } : ByteArray) := by decide
  have hP := fun h w => iHeadAt_v d.lock h w hs
  have hb := fun h => Lo.head_in hs h
  by_cases h1 : a0 L 0 = 1
  all_goals (first | (rw [isOne_yes h1]; replace hP := hP true; replace hb := hb true) | (rw [isOne_no h1]; replace hP := hP false; replace hb := hb false))
  all_goals (generalize d.lock.head _ = hh at hP hb ⊢)
  all_goals (refine calls_of_vcL (w0 := w0) tb_ok (args := [.pointer (some ⟨gc, 0, none⟩), .string (tx wHead), .slice (some ⟨bb, off, none⟩) L.length c]) Tryz.func114 rfl m0 ?_)
  all_goals ((repeat' ((conv => whnf); first | refine go ?_ | (refine VSome.mk ?_; intro gQ hA'; first | subst hA' | cases hA' | (dsimp only at hA'; subst hA')) | refine And.intro ?_ ?_ | intro _ | (first | ((show VCall _ _ _ 145 _ _); refine VCall.grow _ (fun w1 m1 => hP w1) ?_) | ((show VCall _ _ _ 59 _ _); refine VCall.grow _ (fun w1 m1 => itoaZ_v _ w1 (by omega) (by omega) (ht.now m1).1) ?_) | ((show VDraw _ _ _ #[{ dst := some 101, op := _, type := _, pos := _, after := _, guard := _ }, _, _, _, _, _, _, _, _, _, _, _, _, _] _ _); refine VDraw.mk (.take 0 (.take 1 (.take 2 (.take 3 (.take 4 (.take 5 (.take 6 (.take 7 (.br 8 (.take 9 (.take 10 (.take 11 (.take 12 (.take 13 .done))))) .done))))))))) [0, 3] (by kernel_rfl) (by kernel_rfl) ?_) | ((show VIdx _ _ _ _ _ _ _); first | (refine VIdx.at_ rfl 0 rfl (by omega) ?_)) | ((show VLoad1 _ _ _ _ _); first | (refine VLoad1.mk _ (Rd.old hbb hnl (hcc 0 (by omega))) ?_) )))))
  all_goals (conv => whnf)
  all_goals exact VRet.mk fun w' m => ⟨(A1, c1, A2, c2), trivial, rfl, m.sel (ks := [0, 1, 2]) (by simp)⟩
set_option maxHeartbeats 8000000 in
theorem iExLevel_v {w0 : Base} {w : World} (d : Co) (gc : Nat) (A1 : Option Addr) (c1 : Nat) (A2 : Option Addr) (c2 : Nat) (B : Option Addr) (c : Nat) (L : List Int) (hf : d.fit) (ht : Old2 w0) (hB : OldSeen w0 B (IL L)) (m0 : Mem w0 [.blk gc 39 (d.at A1 c1 A2 c2), .row (.slice A1 d.n c1) 96 3 d.n (BaS d.n d.ba), .row (.slice A2 d.m c2) 98 4 d.m (AwS d.m d.wa)] w) :
    Calls Tryz.prog 114 #[.pointer (some ⟨gc, 0, none⟩), .string (tx wLevel), .slice B L.length c] w fun e w' => ∃ v, e = .returned v ∧ RetL (ι := Option Addr × Nat × Option Addr × Nat) (fun _ => True) (fun _ => .tuple #[.string (tx (Lib.itoa d.lock.level)), .bool true]) (fun (P1, k1, P2, k2) => [.blk gc 39 ((d : Co).at P1 k1 P2 k2), .row (.slice P1 (d : Co).n k1) 96 3 (d : Co).n (BaS (d : Co).n (d : Co).ba), .row (.slice P2 (d : Co).m k2) 98 4 (d : Co).m (AwS (d : Co).m (d : Co).wa)]) (fun _ => []) w0 v w' := by
  have hs := hf.1
  have hlv := hs.1
  have hlv2 := hs.2.1
  have hlv3 := hs.2.2.1
  have hlv4 := hs.2.2.2.1
  refine calls_of_vcL (w0 := w0) tb_ok (args := [.pointer (some ⟨gc, 0, none⟩), .string (tx wLevel), .slice B L.length c]) Tryz.func114 rfl m0 ?_
  have hw_Step : ¬ tx wLevel = ({ data := #[115, 116, 101, 112] } : ByteArray) := by decide
  have hw_Go : ¬ tx wLevel = ({ data := #[103, 111] } : ByteArray) := by decide
  have hw_Plan : ¬ tx wLevel = ({ data := #[112, 108, 97, 110] } : ByteArray) := by decide
  have hw_Head : ¬ tx wLevel = ({ data := #[104, 101, 97, 100] } : ByteArray) := by decide
  (repeat' ((conv => whnf); first | refine go ?_ | (refine VSome.mk ?_; intro gQ hA'; first | subst hA' | cases hA' | (dsimp only at hA'; subst hA')) | refine And.intro ?_ ?_ | intro _ | (first | ((show VCall _ _ _ 59 _ _); refine VCall.grow _ (fun w1 m1 => itoaZ_v _ w1 (by omega) (by omega) (ht.now m1).1) ?_))))
  all_goals (conv => whnf)
  all_goals exact VRet.mk fun w' m => ⟨(A1, c1, A2, c2), trivial, rfl, m.sel (ks := [0, 1, 2]) (by simp)⟩
end Go.Proofs.YtadjhkehfklmnaaGreatDoor
namespace Go.Proofs.YtadjhkehfklmnaaGreatDoor
set_option linter.unusedSimpArgs false
set_option linter.unusedVariables false
open Go.RowKit
set_option maxRecDepth 10000
set_option maxHeartbeats 8000000 in
theorem iExWater_v {w0 : Base} {w : World} (d : Co) (gc : Nat) (A1 : Option Addr) (c1 : Nat) (A2 : Option Addr) (c2 : Nat) (B : Option Addr) (c : Nat) (L : List Int) (hf : d.fit) (ht : Old2 w0) (hB : OldSeen w0 B (IL L)) (m0 : Mem w0 [.blk gc 39 (d.at A1 c1 A2 c2), .row (.slice A1 d.n c1) 96 3 d.n (BaS d.n d.ba), .row (.slice A2 d.m c2) 98 4 d.m (AwS d.m d.wa)] w) :
    Calls Tryz.prog 114 #[.pointer (some ⟨gc, 0, none⟩), .string (tx wWater), .slice B L.length c] w fun e w' => ∃ v, e = .returned v ∧ RetL (ι := Option Addr × Nat × Option Addr × Nat) (fun _ => True) (fun _ => .tuple #[.string (tx (Lib.itoa (smI (fun i => (d.ba i).vol) d.n))), .bool true]) (fun (P1, k1, P2, k2) => [.blk gc 39 ((d : Co).at P1 k1 P2 k2), .row (.slice P1 (d : Co).n k1) 96 3 (d : Co).n (BaS (d : Co).n (d : Co).ba), .row (.slice P2 (d : Co).m k2) 98 4 (d : Co).m (AwS (d : Co).m (d : Co).wa)]) (fun _ => []) w0 v w' := by
  have hb := hf.2.1
  have hn := hb.2
  have hv := vols_in hb d.n (Nat.le_refl _)
  have hw_Step : ¬ tx wWater = ({ data := #[115, 116, 101, 112] } : ByteArray) := by decide
  have hw_Go : ¬ tx wWater = ({ data := #[103, 111] } : ByteArray) := by decide
  have hw_Plan : ¬ tx wWater = ({ data := #[112, 108, 97, 110] } : ByteArray) := by decide
  have hw_Head : ¬ tx wWater = ({ data := #[104, 101, 97, 100] } : ByteArray) := by decide
  have hw_Level : ¬ tx wWater = ({ data := #[108, 101, 118, 101, 108] } : ByteArray) := by decide
  have hw_Flow : ¬ tx wWater = ({ data := #[102, 108, 111, 119] } : ByteArray) := by decide
  have hT := fun A c w hA => iTotal_v A d.n c d.ba w hb hA
  generalize smI (fun i => (d.ba i).vol) d.n = sv at hT hv ⊢
  refine calls_of_vcL (w0 := w0) tb_ok (args := [.pointer (some ⟨gc, 0, none⟩), .string (tx wWater), .slice B L.length c]) Tryz.func114 rfl m0 ?_
  (repeat' ((conv => whnf); first | refine go ?_ | (refine VSome.mk ?_; intro gQ hA'; first | subst hA' | cases hA' | (dsimp only at hA'; subst hA')) | refine And.intro ?_ ?_ | intro _ | (first | ((show VCall _ _ _ 147 _ _); refine VCall.grow _ (fun w1 m1 => hT _ _ w1 (Sees.any m1 fndA)) ?_) | ((show VCall _ _ _ 59 _ _); refine VCall.grow _ (fun w1 m1 => itoaZ_v _ w1 (by omega) (by omega) (ht.now m1).1) ?_))))
  all_goals (conv => whnf)
  all_goals exact VRet.mk fun w' m => ⟨(A1, c1, A2, c2), trivial, rfl, m.sel (ks := [0, 1, 2]) (by simp)⟩
set_option maxHeartbeats 8000000 in
theorem iExFlow_yes {w0 : Base} {w : World} (d : Co) (gc : Nat) (A1 : Option Addr) (c1 : Nat) (A2 : Option Addr) (c2 : Nat) (B : Option Addr) (c : Nat) (L : List Int) (hf : d.fit) (ht : Old2 w0) (hB : OldSeen w0 B (IL L)) (hl : L.length = 3) (h : bCan d.n d.ba (a0 L 0) (a0 L 1) (a0 L 2)) (m0 : Mem w0 [.blk gc 39 (d.at A1 c1 A2 c2), .row (.slice A1 d.n c1) 96 3 d.n (BaS d.n d.ba), .row (.slice A2 d.m c2) 98 4 d.m (AwS d.m d.wa)] w) :
    Calls Tryz.prog 114 #[.pointer (some ⟨gc, 0, none⟩), .string (tx wFlow), .slice B L.length c] w fun e w' => ∃ v, e = .returned v ∧ RetL (ι := Option Addr × Nat × Option Addr × Nat) (fun _ => True) (fun _ => .tuple #[.string (tx (wOk)), .bool true]) (fun (P1, k1, P2, k2) => [.blk gc 39 (({ d with ba := bMv d.ba (a0 L 0) (a0 L 1) (a0 L 2) } : Co).at P1 k1 P2 k2), .row (.slice P1 ({ d with ba := bMv d.ba (a0 L 0) (a0 L 1) (a0 L 2) } : Co).n k1) 96 3 ({ d with ba := bMv d.ba (a0 L 0) (a0 L 1) (a0 L 2) } : Co).n (BaS ({ d with ba := bMv d.ba (a0 L 0) (a0 L 1) (a0 L 2) } : Co).n ({ d with ba := bMv d.ba (a0 L 0) (a0 L 1) (a0 L 2) } : Co).ba), .row (.slice P2 ({ d with ba := bMv d.ba (a0 L 0) (a0 L 1) (a0 L 2) } : Co).m k2) 98 4 ({ d with ba := bMv d.ba (a0 L 0) (a0 L 1) (a0 L 2) } : Co).m (AwS ({ d with ba := bMv d.ba (a0 L 0) (a0 L 1) (a0 L 2) } : Co).m ({ d with ba := bMv d.ba (a0 L 0) (a0 L 1) (a0 L 2) } : Co).wa)]) (fun _ => []) w0 v w' := by
  have hb := hf.2.1
  have hn := hb.2
  obtain ⟨bb, off, rfl, hbb, hnl, hcc⟩ := IL_old hB (by omega)
  have hw_Step : ¬ tx wFlow = ({ data := #[115, 116, 101, 112] } : ByteArray) := by decide
  have hw_Go : ¬ tx wFlow = ({ data := #[103, 111] } : ByteArray) := by decide
  have hw_Plan : ¬ tx wFlow = ({ data := #[112, 108, 97, 110] } : ByteArray) := by decide
  have hw_Head : ¬ tx wFlow = ({ data := #[104, 101, 97, 100] } : ByteArray) := by decide
  have hw_Level : ¬ tx wFlow = ({ data := #[108, 101, 118, 101, 108] } : ByteArray) := by decide
  have hM := fun A c w hA => iMoveW_v A d.n c d.ba (a0 L 0) (a0 L 1) (a0 L 2) w hb h hA
  refine calls_of_vcL (w0 := w0) tb_ok (args := [.pointer (some ⟨gc, 0, none⟩), .string (tx wFlow), .slice (some ⟨bb, off, none⟩) L.length c]) Tryz.func114 rfl m0 ?_
  (repeat' ((conv => whnf); first | refine go ?_ | (refine VSome.mk ?_; intro gQ hA'; first | subst hA' | cases hA' | (dsimp only at hA'; subst hA')) | refine And.intro ?_ ?_ | intro _ | (first | ((show VCall _ _ _ 146 _ _); refine VCall.ret (fun w1 m1 => hM _ _ w1 (Sees.any m1 fndA)) (fun i hi => ?_); obtain ⟨g9, c9⟩ := i) | ((show VDraw _ _ _ #[{ dst := some 126, op := _, type := _, pos := _, after := _, guard := _ }, _, _, _, _, _, _, _, _, _, _, _, _, _, _, _, _, _, _, _] _ _); refine VDraw.mk (.take 0 (.take 1 (.take 2 (.take 3 (.take 4 (.take 5 (.take 6 (.take 7 (.take 8 (.take 9 (.take 10 (.take 11 (.take 12 (.take 13 (.br 14 (.take 15 (.take 16 (.take 17 (.take 18 (.take 19 .done))))) .done))))))))))))))) [0, 3] (by kernel_rfl) (by kernel_rfl) ?_) | ((show VIdx _ _ _ _ _ _ _); first | (refine VIdx.at_ rfl 0 rfl (by omega) ?_) | (refine VIdx.at_ rfl 1 rfl (by omega) ?_) | (refine VIdx.at_ rfl 2 rfl (by omega) ?_)) | ((show VLoad1 _ _ _ _ _); first | (refine VLoad1.mk _ (Rd.old hbb hnl (hcc 0 (by omega))) ?_) | (refine VLoad1.mk _ (Rd.old hbb hnl (hcc 1 (by omega))) ?_) | (refine VLoad1.mk _ (Rd.old hbb hnl (hcc 2 (by omega))) ?_) ))))
  all_goals (conv => whnf)
  all_goals exact VRet.mk fun w' m => ⟨(some ⟨g9, 0, none⟩, c9, A2, c2), trivial, rfl, m.sel (ks := [0, 4, 2]) (by simp)⟩
set_option maxHeartbeats 8000000 in
theorem iExFlow_no {w0 : Base} {w : World} (d : Co) (gc : Nat) (A1 : Option Addr) (c1 : Nat) (A2 : Option Addr) (c2 : Nat) (B : Option Addr) (c : Nat) (L : List Int) (hf : d.fit) (ht : Old2 w0) (hB : OldSeen w0 B (IL L)) (hl : L.length = 3) (h : ¬ bCan d.n d.ba (a0 L 0) (a0 L 1) (a0 L 2)) (m0 : Mem w0 [.blk gc 39 (d.at A1 c1 A2 c2), .row (.slice A1 d.n c1) 96 3 d.n (BaS d.n d.ba), .row (.slice A2 d.m c2) 98 4 d.m (AwS d.m d.wa)] w) :
    Calls Tryz.prog 114 #[.pointer (some ⟨gc, 0, none⟩), .string (tx wFlow), .slice B L.length c] w fun e w' => ∃ v, e = .returned v ∧ RetL (ι := Co × Option Addr × Nat × Option Addr × Nat × List UInt8) (fun _ => True) (fun (_, _, _, _, _, t) => .tuple #[.string (tx t), .bool false]) (fun (d', P1, k1, P2, k2, _) => [.blk gc 39 (d'.at P1 k1 P2 k2), .gone, .gone]) (fun _ => []) w0 v w' := by
  have hb := hf.2.1
  have hn := hb.2
  obtain ⟨bb, off, rfl, hbb, hnl, hcc⟩ := IL_old hB (by omega)
  have hw_Step : ¬ tx wFlow = ({ data := #[115, 116, 101, 112] } : ByteArray) := by decide
  have hw_Go : ¬ tx wFlow = ({ data := #[103, 111] } : ByteArray) := by decide
  have hw_Plan : ¬ tx wFlow = ({ data := #[112, 108, 97, 110] } : ByteArray) := by decide
  have hw_Head : ¬ tx wFlow = ({ data := #[104, 101, 97, 100] } : ByteArray) := by decide
  have hw_Level : ¬ tx wFlow = ({ data := #[108, 101, 118, 101, 108] } : ByteArray) := by decide
  have hM := fun A c w hA => iMoveW_no A d.n c d.ba (a0 L 0) (a0 L 1) (a0 L 2) w hb h hA
  refine calls_of_vcL (w0 := w0) tb_ok (args := [.pointer (some ⟨gc, 0, none⟩), .string (tx wFlow), .slice (some ⟨bb, off, none⟩) L.length c]) Tryz.func114 rfl m0 ?_
  (repeat' ((conv => whnf); first | refine go ?_ | (refine VSome.mk ?_; intro gQ hA'; first | subst hA' | cases hA' | (dsimp only at hA'; subst hA')) | refine And.intro ?_ ?_ | intro _ | (first | ((show VCall _ _ _ 146 _ _); refine VCall.grow _ (fun w1 m1 => hM _ _ w1 (Sees.any m1 fndA)) ?_) | ((show VDraw _ _ _ #[{ dst := some 126, op := _, type := _, pos := _, after := _, guard := _ }, _, _, _, _, _, _, _, _, _, _, _, _, _, _, _, _, _, _, _] _ _); refine VDraw.mk (.take 0 (.take 1 (.take 2 (.take 3 (.take 4 (.take 5 (.take 6 (.take 7 (.take 8 (.take 9 (.take 10 (.take 11 (.take 12 (.take 13 (.br 14 (.take 15 (.take 16 (.take 17 (.take 18 (.take 19 .done))))) .done))))))))))))))) [0, 3] (by kernel_rfl) (by kernel_rfl) ?_) | ((show VIdx _ _ _ _ _ _ _); first | (refine VIdx.at_ rfl 0 rfl (by omega) ?_) | (refine VIdx.at_ rfl 1 rfl (by omega) ?_) | (refine VIdx.at_ rfl 2 rfl (by omega) ?_)) | ((show VLoad1 _ _ _ _ _); first | (refine VLoad1.mk _ (Rd.old hbb hnl (hcc 0 (by omega))) ?_) | (refine VLoad1.mk _ (Rd.old hbb hnl (hcc 1 (by omega))) ?_) | (refine VLoad1.mk _ (Rd.old hbb hnl (hcc 2 (by omega))) ?_) ))))
  all_goals (conv => whnf)
  all_goals exact VRet.mk fun w' m => ⟨({ d with n := 0 }, none, 0, A2, c2, wOk), trivial, rfl, m.sel (ks := [0, 100, 101]) (by simp)⟩
set_option maxHeartbeats 8000000 in
theorem iExArrive_yes {w0 : Base} {w : World} (d : Co) (gc : Nat) (A1 : Option Addr) (c1 : Nat) (A2 : Option Addr) (c2 : Nat) (B : Option Addr) (c : Nat) (L : List Int) (hf : d.fit) (ht : Old2 w0) (hB : OldSeen w0 B (IL L)) (hl : L.length = 4) (h : aGood (d.m + 1) (insF d.wa (plc d.wa (a0 L 0) d.m 0) ⟨a0 L 0, isOne (a0 L 1), a0 L 2, a0 L 3⟩)) (m0 : Mem w0 [.blk gc 39 (d.at A1 c1 A2 c2), .row (.slice A1 d.n c1) 96 3 d.n (BaS d.n d.ba), .row (.slice A2 d.m c2) 98 4 d.m (AwS d.m d.wa)] w) :
    Calls Tryz.prog 114 #[.pointer (some ⟨gc, 0, none⟩), .string (tx wArrive), .slice B L.length c] w fun e w' => ∃ v, e = .returned v ∧ RetL (ι := Option Addr × Nat × Option Addr × Nat) (fun _ => True) (fun _ => .tuple #[.string (tx (wOk)), .bool true]) (fun (P1, k1, P2, k2) => [.blk gc 39 ((d.arr (plc d.wa (a0 L 0) d.m 0) ⟨a0 L 0, isOne (a0 L 1), a0 L 2, a0 L 3⟩ : Co).at P1 k1 P2 k2), .row (.slice P1 (d.arr (plc d.wa (a0 L 0) d.m 0) ⟨a0 L 0, isOne (a0 L 1), a0 L 2, a0 L 3⟩ : Co).n k1) 96 3 (d.arr (plc d.wa (a0 L 0) d.m 0) ⟨a0 L 0, isOne (a0 L 1), a0 L 2, a0 L 3⟩ : Co).n (BaS (d.arr (plc d.wa (a0 L 0) d.m 0) ⟨a0 L 0, isOne (a0 L 1), a0 L 2, a0 L 3⟩ : Co).n (d.arr (plc d.wa (a0 L 0) d.m 0) ⟨a0 L 0, isOne (a0 L 1), a0 L 2, a0 L 3⟩ : Co).ba), .row (.slice P2 (d.arr (plc d.wa (a0 L 0) d.m 0) ⟨a0 L 0, isOne (a0 L 1), a0 L 2, a0 L 3⟩ : Co).m k2) 98 4 (d.arr (plc d.wa (a0 L 0) d.m 0) ⟨a0 L 0, isOne (a0 L 1), a0 L 2, a0 L 3⟩ : Co).m (AwS (d.arr (plc d.wa (a0 L 0) d.m 0) ⟨a0 L 0, isOne (a0 L 1), a0 L 2, a0 L 3⟩ : Co).m (d.arr (plc d.wa (a0 L 0) d.m 0) ⟨a0 L 0, isOne (a0 L 1), a0 L 2, a0 L 3⟩ : Co).wa)]) (fun _ => []) w0 v w' := by
  have hm := hf.2.2.2
  obtain ⟨bb, off, rfl, hbb, hnl, hcc⟩ := IL_old hB (by omega)
  have hw_Step : ¬ tx wArrive = ({ data := #[115, 116, 101, 112] } : ByteArray) := by decide
  have hw_Go : ¬ tx wArrive = ({ data := #[103, 111] } : ByteArray) := by decide
  have hw_Plan : ¬ tx wArrive = ({ data := #[112, 108, 97, 110] } : ByteArray) := by decide
  have hw_Head : ¬ tx wArrive = ({ data := #[104, 101, 97, 100] } : ByteArray) := by decide
  have hw_Level : ¬ tx wArrive = ({ data := #[108, 101, 118, 101, 108] } : ByteArray) := by decide
  have hw_Flow : ¬ tx wArrive = ({ data := #[102, 108, 111, 119] } : ByteArray) := by decide
  have hw_Water : ¬ tx wArrive = ({ data := #[119, 97, 116, 101, 114] } : ByteArray) := by decide
  by_cases h1 : a0 L 1 = 1
  all_goals (first | rw [isOne_yes h1] at h ⊢ | rw [isOne_no h1] at h ⊢ | rw [isOne_yes h1] at h | rw [isOne_no h1] at h)
  · have hA := fun (w0 : Base) (w : World) m => iArrive_v (w0 := w0) (w := w) d gc A1 c1 A2 c2 ⟨a0 L 0, true, a0 L 2, a0 L 3⟩ hm m
    rw [tr_yes h] at hA
    refine calls_of_vcL (w0 := w0) tb_ok (args := [.pointer (some ⟨gc, 0, none⟩), .string (tx wArrive), .slice (some ⟨bb, off, none⟩) L.length c]) Tryz.func114 rfl m0 ?_
    (repeat' ((conv => whnf); first | refine go ?_ | (refine VSome.mk ?_; intro gQ hA'; first | subst hA' | cases hA' | (dsimp only at hA'; subst hA')) | refine And.intro ?_ ?_ | intro _ | (first | ((show VCall _ _ _ 148 [_, _] _); refine VCall.fullS [0, 2] (by simp) (fun _ => rfl) (fun w1 m1 m2 => hA _ w1 m2) (fun i hi => ?_); obtain ⟨g9, c9⟩ := i) | ((show VDraw _ _ _ #[{ dst := some 163, op := _, type := _, pos := _, after := _, guard := _ }, _, _, _, _, _, _, _, _, _, _, _, _, _, _, _, _, _] _ _); refine VDraw.mk (.take 0 (.take 1 (.take 2 (.take 3 (.take 4 (.take 5 (.take 6 (.take 7 (.take 8 (.take 9 (.take 10 (.take 11 (.take 12 (.take 13 (.take 14 (.br 15 (.take 16 (.take 17 .done)) .done)))))))))))))))) [3] (by kernel_rfl) (by kernel_rfl) ?_) | ((show VIdx _ _ _ _ _ _ _); first | (refine VIdx.at_ rfl 0 rfl (by omega) ?_) | (refine VIdx.at_ rfl 1 rfl (by omega) ?_) | (refine VIdx.at_ rfl 2 rfl (by omega) ?_) | (refine VIdx.at_ rfl 3 rfl (by omega) ?_)) | ((show VLoad1 _ _ _ _ _); first | (refine VLoad1.mk _ (Rd.old hbb hnl (hcc 0 (by omega))) ?_) | (refine VLoad1.mk _ (Rd.old hbb hnl (hcc 1 (by omega))) ?_) | (refine VLoad1.mk _ (Rd.old hbb hnl (hcc 2 (by omega))) ?_) | (refine VLoad1.mk _ (Rd.old hbb hnl (hcc 3 (by omega))) ?_) ))))
    all_goals (conv => whnf)
    all_goals exact VRet.mk fun w' m => ⟨(A1, c1, some ⟨g9, 0, none⟩, c9), trivial, rfl, m.sel (ks := [0, 1, 2]) (by simp)⟩
  · have hA := fun (w0 : Base) (w : World) m => iArrive_v (w0 := w0) (w := w) d gc A1 c1 A2 c2 ⟨a0 L 0, false, a0 L 2, a0 L 3⟩ hm m
    rw [tr_yes h] at hA
    refine calls_of_vcL (w0 := w0) tb_ok (args := [.pointer (some ⟨gc, 0, none⟩), .string (tx wArrive), .slice (some ⟨bb, off, none⟩) L.length c]) Tryz.func114 rfl m0 ?_
    (repeat' ((conv => whnf); first | refine go ?_ | (refine VSome.mk ?_; intro gQ hA'; first | subst hA' | cases hA' | (dsimp only at hA'; subst hA')) | refine And.intro ?_ ?_ | intro _ | (first | ((show VCall _ _ _ 148 [_, _] _); refine VCall.fullS [0, 2] (by simp) (fun _ => rfl) (fun w1 m1 m2 => hA _ w1 m2) (fun i hi => ?_); obtain ⟨g9, c9⟩ := i) | ((show VDraw _ _ _ #[{ dst := some 163, op := _, type := _, pos := _, after := _, guard := _ }, _, _, _, _, _, _, _, _, _, _, _, _, _, _, _, _, _] _ _); refine VDraw.mk (.take 0 (.take 1 (.take 2 (.take 3 (.take 4 (.take 5 (.take 6 (.take 7 (.take 8 (.take 9 (.take 10 (.take 11 (.take 12 (.take 13 (.take 14 (.br 15 (.take 16 (.take 17 .done)) .done)))))))))))))))) [3] (by kernel_rfl) (by kernel_rfl) ?_) | ((show VIdx _ _ _ _ _ _ _); first | (refine VIdx.at_ rfl 0 rfl (by omega) ?_) | (refine VIdx.at_ rfl 1 rfl (by omega) ?_) | (refine VIdx.at_ rfl 2 rfl (by omega) ?_) | (refine VIdx.at_ rfl 3 rfl (by omega) ?_)) | ((show VLoad1 _ _ _ _ _); first | (refine VLoad1.mk _ (Rd.old hbb hnl (hcc 0 (by omega))) ?_) | (refine VLoad1.mk _ (Rd.old hbb hnl (hcc 1 (by omega))) ?_) | (refine VLoad1.mk _ (Rd.old hbb hnl (hcc 2 (by omega))) ?_) | (refine VLoad1.mk _ (Rd.old hbb hnl (hcc 3 (by omega))) ?_) ))))
    all_goals (conv => whnf)
    all_goals exact VRet.mk fun w' m => ⟨(A1, c1, some ⟨g9, 0, none⟩, c9), trivial, rfl, m.sel (ks := [0, 1, 2]) (by simp)⟩
set_option maxHeartbeats 8000000 in
theorem iExArrive_no {w0 : Base} {w : World} (d : Co) (gc : Nat) (A1 : Option Addr) (c1 : Nat) (A2 : Option Addr) (c2 : Nat) (B : Option Addr) (c : Nat) (L : List Int) (hf : d.fit) (ht : Old2 w0) (hB : OldSeen w0 B (IL L)) (hl : L.length = 4) (h : ¬ aGood (d.m + 1) (insF d.wa (plc d.wa (a0 L 0) d.m 0) ⟨a0 L 0, isOne (a0 L 1), a0 L 2, a0 L 3⟩)) (m0 : Mem w0 [.blk gc 39 (d.at A1 c1 A2 c2), .row (.slice A1 d.n c1) 96 3 d.n (BaS d.n d.ba), .row (.slice A2 d.m c2) 98 4 d.m (AwS d.m d.wa)] w) :
    Calls Tryz.prog 114 #[.pointer (some ⟨gc, 0, none⟩), .string (tx wArrive), .slice B L.length c] w fun e w' => ∃ v, e = .returned v ∧ RetL (ι := Co × Option Addr × Nat × Option Addr × Nat × List UInt8) (fun _ => True) (fun (_, _, _, _, _, t) => .tuple #[.string (tx t), .bool false]) (fun (d', P1, k1, P2, k2, _) => [.blk gc 39 (d'.at P1 k1 P2 k2), .gone, .gone]) (fun _ => []) w0 v w' := by
  have hm := hf.2.2.2
  obtain ⟨bb, off, rfl, hbb, hnl, hcc⟩ := IL_old hB (by omega)
  have hw_Step : ¬ tx wArrive = ({ data := #[115, 116, 101, 112] } : ByteArray) := by decide
  have hw_Go : ¬ tx wArrive = ({ data := #[103, 111] } : ByteArray) := by decide
  have hw_Plan : ¬ tx wArrive = ({ data := #[112, 108, 97, 110] } : ByteArray) := by decide
  have hw_Head : ¬ tx wArrive = ({ data := #[104, 101, 97, 100] } : ByteArray) := by decide
  have hw_Level : ¬ tx wArrive = ({ data := #[108, 101, 118, 101, 108] } : ByteArray) := by decide
  have hw_Flow : ¬ tx wArrive = ({ data := #[102, 108, 111, 119] } : ByteArray) := by decide
  have hw_Water : ¬ tx wArrive = ({ data := #[119, 97, 116, 101, 114] } : ByteArray) := by decide
  by_cases h1 : a0 L 1 = 1
  all_goals (first | rw [isOne_yes h1] at h ⊢ | rw [isOne_no h1] at h ⊢ | rw [isOne_yes h1] at h | rw [isOne_no h1] at h)
  · have hA := fun (w0 : Base) (w : World) m => iArrive_v (w0 := w0) (w := w) d gc A1 c1 A2 c2 ⟨a0 L 0, true, a0 L 2, a0 L 3⟩ hm m
    rw [tr_no h] at hA
    refine calls_of_vcL (w0 := w0) tb_ok (args := [.pointer (some ⟨gc, 0, none⟩), .string (tx wArrive), .slice (some ⟨bb, off, none⟩) L.length c]) Tryz.func114 rfl m0 ?_
    (repeat' ((conv => whnf); first | refine go ?_ | (refine VSome.mk ?_; intro gQ hA'; first | subst hA' | cases hA' | (dsimp only at hA'; subst hA')) | refine And.intro ?_ ?_ | intro _ | (first | ((show VCall _ _ _ 148 [_, _] _); refine VCall.fullS [0, 2] (by simp) (fun _ => rfl) (fun w1 m1 m2 => hA _ w1 m2) (fun i hi => ?_); obtain ⟨g9, c9⟩ := i) | ((show VDraw _ _ _ #[{ dst := some 163, op := _, type := _, pos := _, after := _, guard := _ }, _, _, _, _, _, _, _, _, _, _, _, _, _, _, _, _, _] _ _); refine VDraw.mk (.take 0 (.take 1 (.take 2 (.take 3 (.take 4 (.take 5 (.take 6 (.take 7 (.take 8 (.take 9 (.take 10 (.take 11 (.take 12 (.take 13 (.take 14 (.br 15 (.take 16 (.take 17 .done)) .done)))))))))))))))) [3] (by kernel_rfl) (by kernel_rfl) ?_) | ((show VIdx _ _ _ _ _ _ _); first | (refine VIdx.at_ rfl 0 rfl (by omega) ?_) | (refine VIdx.at_ rfl 1 rfl (by omega) ?_) | (refine VIdx.at_ rfl 2 rfl (by omega) ?_) | (refine VIdx.at_ rfl 3 rfl (by omega) ?_)) | ((show VLoad1 _ _ _ _ _); first | (refine VLoad1.mk _ (Rd.old hbb hnl (hcc 0 (by omega))) ?_) | (refine VLoad1.mk _ (Rd.old hbb hnl (hcc 1 (by omega))) ?_) | (refine VLoad1.mk _ (Rd.old hbb hnl (hcc 2 (by omega))) ?_) | (refine VLoad1.mk _ (Rd.old hbb hnl (hcc 3 (by omega))) ?_) ))))
    all_goals (conv => whnf)
    all_goals exact VRet.mk fun w' m => ⟨(_, A1, c1, some ⟨g9, 0, none⟩, c9, wOk), trivial, rfl, m.sel (ks := [0, 100, 101]) (by simp)⟩
  · have hA := fun (w0 : Base) (w : World) m => iArrive_v (w0 := w0) (w := w) d gc A1 c1 A2 c2 ⟨a0 L 0, false, a0 L 2, a0 L 3⟩ hm m
    rw [tr_no h] at hA
    refine calls_of_vcL (w0 := w0) tb_ok (args := [.pointer (some ⟨gc, 0, none⟩), .string (tx wArrive), .slice (some ⟨bb, off, none⟩) L.length c]) Tryz.func114 rfl m0 ?_
    (repeat' ((conv => whnf); first | refine go ?_ | (refine VSome.mk ?_; intro gQ hA'; first | subst hA' | cases hA' | (dsimp only at hA'; subst hA')) | refine And.intro ?_ ?_ | intro _ | (first | ((show VCall _ _ _ 148 [_, _] _); refine VCall.fullS [0, 2] (by simp) (fun _ => rfl) (fun w1 m1 m2 => hA _ w1 m2) (fun i hi => ?_); obtain ⟨g9, c9⟩ := i) | ((show VDraw _ _ _ #[{ dst := some 163, op := _, type := _, pos := _, after := _, guard := _ }, _, _, _, _, _, _, _, _, _, _, _, _, _, _, _, _, _] _ _); refine VDraw.mk (.take 0 (.take 1 (.take 2 (.take 3 (.take 4 (.take 5 (.take 6 (.take 7 (.take 8 (.take 9 (.take 10 (.take 11 (.take 12 (.take 13 (.take 14 (.br 15 (.take 16 (.take 17 .done)) .done)))))))))))))))) [3] (by kernel_rfl) (by kernel_rfl) ?_) | ((show VIdx _ _ _ _ _ _ _); first | (refine VIdx.at_ rfl 0 rfl (by omega) ?_) | (refine VIdx.at_ rfl 1 rfl (by omega) ?_) | (refine VIdx.at_ rfl 2 rfl (by omega) ?_) | (refine VIdx.at_ rfl 3 rfl (by omega) ?_)) | ((show VLoad1 _ _ _ _ _); first | (refine VLoad1.mk _ (Rd.old hbb hnl (hcc 0 (by omega))) ?_) | (refine VLoad1.mk _ (Rd.old hbb hnl (hcc 1 (by omega))) ?_) | (refine VLoad1.mk _ (Rd.old hbb hnl (hcc 2 (by omega))) ?_) | (refine VLoad1.mk _ (Rd.old hbb hnl (hcc 3 (by omega))) ?_) ))))
    all_goals (conv => whnf)
    all_goals exact VRet.mk fun w' m => ⟨(_, A1, c1, some ⟨g9, 0, none⟩, c9, wOk), trivial, rfl, m.sel (ks := [0, 100, 101]) (by simp)⟩
set_option maxHeartbeats 8000000 in
theorem iExLeave_yes {w0 : Base} {w : World} (d : Co) (gc : Nat) (A1 : Option Addr) (c1 : Nat) (A2 : Option Addr) (c2 : Nat) (B : Option Addr) (c : Nat) (L : List Int) (hf : d.fit) (ht : Old2 w0) (hB : OldSeen w0 B (IL L)) (hl : 0 < L.length) {i : Nat} (h : fnd d.wa (a0 L 0) d.m = some i) (m0 : Mem w0 [.blk gc 39 (d.at A1 c1 A2 c2), .row (.slice A1 d.n c1) 96 3 d.n (BaS d.n d.ba), .row (.slice A2 d.m c2) 98 4 d.m (AwS d.m d.wa)] w) :
    Calls Tryz.prog 114 #[.pointer (some ⟨gc, 0, none⟩), .string (tx wLeave), .slice B L.length c] w fun e w' => ∃ v, e = .returned v ∧ RetL (ι := Option Addr × Nat × Option Addr × Nat) (fun _ => True) (fun _ => .tuple #[.string (tx (wOk)), .bool true]) (fun (P1, k1, P2, k2) => [.blk gc 39 ((d.lve i : Co).at P1 k1 P2 k2), .row (.slice P1 (d.lve i : Co).n k1) 96 3 (d.lve i : Co).n (BaS (d.lve i : Co).n (d.lve i : Co).ba), .row (.slice P2 (d.lve i : Co).m k2) 98 4 (d.lve i : Co).m (AwS (d.lve i : Co).m (d.lve i : Co).wa)]) (fun _ => []) w0 v w' := by
  have hg := hf.2.2
  have hm := hg.2
  have hw_Step : ¬ tx wLeave = ({ data := #[115, 116, 101, 112] } : ByteArray) := by decide
  have hw_Go : ¬ tx wLeave = ({ data := #[103, 111] } : ByteArray) := by decide
  have hw_Plan : ¬ tx wLeave = ({ data := #[112, 108, 97, 110] } : ByteArray) := by decide
  have hw_Head : ¬ tx wLeave = ({ data := #[104, 101, 97, 100] } : ByteArray) := by decide
  have hw_Level : ¬ tx wLeave = ({ data := #[108, 101, 118, 101, 108] } : ByteArray) := by decide
  have hw_Flow : ¬ tx wLeave = ({ data := #[102, 108, 111, 119] } : ByteArray) := by decide
  have hw_Water : ¬ tx wLeave = ({ data := #[119, 97, 116, 101, 114] } : ByteArray) := by decide
  have hw_Arrive : ¬ tx wLeave = ({ data := #[97, 114, 114, 105, 118, 101] } : ByteArray) := by decide
  have hi := (fnd_some h).1
  have hD := fun (w0 : Base) (w : World) g hbx hB m => delYes_v (w0 := w0) (w := w) A2 B d.m c2 g c i d.wa L hg hl hbx hB h m
  refine calls_of_vcL (w0 := w0) tb_ok (args := [.pointer (some ⟨gc, 0, none⟩), .string (tx wLeave), .slice B L.length c]) Tryz.func114 rfl m0 ?_
  (repeat' ((conv => whnf); first | refine go ?_ | (refine VSome.mk ?_; intro gQ hA'; first | subst hA' | cases hA' | (dsimp only at hA'; subst hA')) | refine And.intro ?_ ?_ | intro _ | (first | ((show VCall _ _ _ 149 [_, _] _); refine VCall.fullS [2] (by simp) (fun _ => rfl) (fun w1 m1 m2 => hD _ w1 _ (OldSeen.any m1 [2] (by repeat (first | exact At.here | apply At.there)) (by decide)) (hB.lend m1 [2]) m2) (fun i hi => ?_)) | ((show VDraw _ _ _ #[{ dst := some 195, op := _, type := _, pos := _, after := _, guard := _ }, _, _, _, _, _, _, _, _] _ _); refine VDraw.mk (.take 0 (.take 1 (.take 2 (.take 3 (.take 4 (.take 5 (.take 6 (.take 7 (.take 8 .done))))))))) [0] (by kernel_rfl) (by kernel_rfl) ?_))))
  all_goals (conv => whnf)
  all_goals exact VRet.mk fun w' m => ⟨(A1, c1, A2, c2), trivial, rfl, m.sel (ks := [0, 1, 2]) (by simp)⟩
set_option maxHeartbeats 8000000 in
theorem iExLeave_no {w0 : Base} {w : World} (d : Co) (gc : Nat) (A1 : Option Addr) (c1 : Nat) (A2 : Option Addr) (c2 : Nat) (B : Option Addr) (c : Nat) (L : List Int) (hf : d.fit) (ht : Old2 w0) (hB : OldSeen w0 B (IL L)) (hl : 0 < L.length) (h : fnd d.wa (a0 L 0) d.m = none) (m0 : Mem w0 [.blk gc 39 (d.at A1 c1 A2 c2), .row (.slice A1 d.n c1) 96 3 d.n (BaS d.n d.ba), .row (.slice A2 d.m c2) 98 4 d.m (AwS d.m d.wa)] w) :
    Calls Tryz.prog 114 #[.pointer (some ⟨gc, 0, none⟩), .string (tx wLeave), .slice B L.length c] w fun e w' => ∃ v, e = .returned v ∧ RetL (ι := Co × Option Addr × Nat × Option Addr × Nat × List UInt8) (fun _ => True) (fun (_, _, _, _, _, t) => .tuple #[.string (tx t), .bool false]) (fun (d', P1, k1, P2, k2, _) => [.blk gc 39 (d'.at P1 k1 P2 k2), .gone, .gone]) (fun _ => []) w0 v w' := by
  have hg := hf.2.2
  have hm := hg.2
  have hw_Step : ¬ tx wLeave = ({ data := #[115, 116, 101, 112] } : ByteArray) := by decide
  have hw_Go : ¬ tx wLeave = ({ data := #[103, 111] } : ByteArray) := by decide
  have hw_Plan : ¬ tx wLeave = ({ data := #[112, 108, 97, 110] } : ByteArray) := by decide
  have hw_Head : ¬ tx wLeave = ({ data := #[104, 101, 97, 100] } : ByteArray) := by decide
  have hw_Level : ¬ tx wLeave = ({ data := #[108, 101, 118, 101, 108] } : ByteArray) := by decide
  have hw_Flow : ¬ tx wLeave = ({ data := #[102, 108, 111, 119] } : ByteArray) := by decide
  have hw_Water : ¬ tx wLeave = ({ data := #[119, 97, 116, 101, 114] } : ByteArray) := by decide
  have hw_Arrive : ¬ tx wLeave = ({ data := #[97, 114, 114, 105, 118, 101] } : ByteArray) := by decide
  have hD := fun (w0 : Base) (w : World) g hbx hB m => delNo_v (w0 := w0) (w := w) A2 B d.m c2 g c d.wa L hm hl hbx hB h m
  refine calls_of_vcL (w0 := w0) tb_ok (args := [.pointer (some ⟨gc, 0, none⟩), .string (tx wLeave), .slice B L.length c]) Tryz.func114 rfl m0 ?_
  (repeat' ((conv => whnf); first | refine go ?_ | (refine VSome.mk ?_; intro gQ hA'; first | subst hA' | cases hA' | (dsimp only at hA'; subst hA')) | refine And.intro ?_ ?_ | intro _ | (first | ((show VCall _ _ _ 149 [_, _] _); refine VCall.fullS [2] (by simp) (fun _ => rfl) (fun w1 m1 m2 => hD _ w1 _ (OldSeen.any m1 [2] (by repeat (first | exact At.here | apply At.there)) (by decide)) (hB.lend m1 [2]) m2) (fun i hi => ?_)) | ((show VDraw _ _ _ #[{ dst := some 195, op := _, type := _, pos := _, after := _, guard := _ }, _, _, _, _, _, _, _, _] _ _); refine VDraw.mk (.take 0 (.take 1 (.take 2 (.take 3 (.take 4 (.take 5 (.take 6 (.take 7 (.take 8 .done))))))))) [0] (by kernel_rfl) (by kernel_rfl) ?_))))
  all_goals (conv => whnf)
  all_goals exact VRet.mk fun w' m => ⟨(d, A1, c1, A2, c2, wOk), trivial, rfl, m.sel (ks := [0, 100, 101]) (by simp)⟩
set_option maxHeartbeats 8000000 in
theorem iExBound_v {w0 : Base} {w : World} (d : Co) (gc : Nat) (A1 : Option Addr) (c1 : Nat) (A2 : Option Addr) (c2 : Nat) (B : Option Addr) (c : Nat) (L : List Int) (hf : d.fit) (ht : Old2 w0) (hB : OldSeen w0 B (IL L)) (hl : 0 < L.length) (h : 1 ≤ a0 L 0 ∧ a0 L 0 ≤ 60) (m0 : Mem w0 [.blk gc 39 (d.at A1 c1 A2 c2), .row (.slice A1 d.n c1) 96 3 d.n (BaS d.n d.ba), .row (.slice A2 d.m c2) 98 4 d.m (AwS d.m d.wa)] w) :
    Calls Tryz.prog 114 #[.pointer (some ⟨gc, 0, none⟩), .string (tx wBound), .slice B L.length c] w fun e w' => ∃ v, e = .returned v ∧ RetL (ι := Option Addr × Nat × Option Addr × Nat) (fun _ => True) (fun _ => .tuple #[.string (tx (Lib.itoa (loB d.wa (a0 L 0) d.lock.high d.m))), .bool true]) (fun (P1, k1, P2, k2) => [.blk gc 39 ((d : Co).at P1 k1 P2 k2), .row (.slice P1 (d : Co).n k1) 96 3 (d : Co).n (BaS (d : Co).n (d : Co).ba), .row (.slice P2 (d : Co).m k2) 98 4 (d : Co).m (AwS (d : Co).m (d : Co).wa)]) (fun _ => []) w0 v w' := by
  have hg := hf.2.2
  have hm := hg.2
  obtain ⟨bb, off, rfl, hbb, hnl, hcc⟩ := IL_old hB hl
  have hw_Step : ¬ tx wBound = ({ data := #[115, 116, 101, 112] } : ByteArray) := by decide
  have hw_Go : ¬ tx wBound = ({ data := #[103, 111] } : ByteArray) := by decide
  have hw_Plan : ¬ tx wBound = ({ data := #[112, 108, 97, 110] } : ByteArray) := by decide
  have hw_Head : ¬ tx wBound = ({ data := #[104, 101, 97, 100] } : ByteArray) := by decide
  have hw_Level : ¬ tx wBound = ({ data := #[108, 101, 118, 101, 108] } : ByteArray) := by decide
  have hw_Flow : ¬ tx wBound = ({ data := #[102, 108, 111, 119] } : ByteArray) := by decide
  have hw_Water : ¬ tx wBound = ({ data := #[119, 97, 116, 101, 114] } : ByteArray) := by decide
  have hw_Arrive : ¬ tx wBound = ({ data := #[97, 114, 114, 105, 118, 101] } : ByteArray) := by decide
  have hw_Leave : ¬ tx wBound = ({ data := #[108, 101, 97, 118, 101] } : ByteArray) := by decide
  have hO := fun w hA ht => iOrdBound_v d A1 c1 A2 c2 (a0 L 0) w hf.1 hg h.1 h.2 hA ht
  generalize tx (Lib.itoa (loB d.wa (a0 L 0) d.lock.high d.m)) = tt at hO ⊢
  refine calls_of_vcL (w0 := w0) tb_ok (args := [.pointer (some ⟨gc, 0, none⟩), .string (tx wBound), .slice (some ⟨bb, off, none⟩) L.length c]) Tryz.func114 rfl m0 ?_
  (repeat' ((conv => whnf); first | refine go ?_ | (refine VSome.mk ?_; intro gQ hA'; first | subst hA' | cases hA' | (dsimp only at hA'; subst hA')) | refine And.intro ?_ ?_ | intro _ | (first | ((show VCall _ _ _ 151 _ _); refine VCall.grow _ (fun w1 m1 => hO w1 (Sees.any m1 fndA) (ht.now m1).1) ?_) | ((show VDraw _ _ _ #[{ dst := some 202, op := _, type := _, pos := _, after := _, guard := _ }, _, _, _, _, _, _, _, _, _, _, _] _ _); refine VDraw.mk (.take 0 (.take 1 (.take 2 (.take 3 (.take 4 (.take 5 (.take 6 (.br 7 (.take 8 (.take 9 (.take 10 (.take 11 .done)))) .done)))))))) [0, 3] (by kernel_rfl) (by kernel_rfl) ?_) | ((show VIdx _ _ _ _ _ _ _); first | (refine VIdx.at_ rfl 0 rfl (by omega) ?_)) | ((show VLoad1 _ _ _ _ _); first | (refine VLoad1.mk _ (Rd.old hbb hnl (hcc 0 (by omega))) ?_) ))))
  all_goals (conv => whnf)
  all_goals exact VRet.mk fun w' m => ⟨(A1, c1, A2, c2), trivial, rfl, m.sel (ks := [0, 1, 2]) (by simp)⟩
set_option maxHeartbeats 8000000 in
theorem iExDelay_v {w0 : Base} {w : World} (d : Co) (gc : Nat) (A1 : Option Addr) (c1 : Nat) (A2 : Option Addr) (c2 : Nat) (B : Option Addr) (c : Nat) (L : List Int) (hf : d.fit) (ht : Old2 w0) (hB : OldSeen w0 B (IL L)) (hl : 0 < L.length) (h : 1 ≤ a0 L 0 ∧ a0 L 0 ≤ 60) (m0 : Mem w0 [.blk gc 39 (d.at A1 c1 A2 c2), .row (.slice A1 d.n c1) 96 3 d.n (BaS d.n d.ba), .row (.slice A2 d.m c2) 98 4 d.m (AwS d.m d.wa)] w) :
    Calls Tryz.prog 114 #[.pointer (some ⟨gc, 0, none⟩), .string (tx wDelay), .slice B L.length c] w fun e w' => ∃ v, e = .returned v ∧ RetL (ι := Option Addr × Nat × Option Addr × Nat) (fun _ => True) (fun _ => .tuple #[.string (tx (Lib.itoa (best d.m d.wa (a0 L 0) d.lock.high d.m []).2)), .bool true]) (fun (P1, k1, P2, k2) => [.blk gc 39 ((d : Co).at P1 k1 P2 k2), .row (.slice P1 (d : Co).n k1) 96 3 (d : Co).n (BaS (d : Co).n (d : Co).ba), .row (.slice P2 (d : Co).m k2) 98 4 (d : Co).m (AwS (d : Co).m (d : Co).wa)]) (fun _ => []) w0 v w' := by
  have hg := hf.2.2
  have hm := hg.2
  obtain ⟨bb, off, rfl, hbb, hnl, hcc⟩ := IL_old hB hl
  have hw_Step : ¬ tx wDelay = ({ data := #[115, 116, 101, 112] } : ByteArray) := by decide
  have hw_Go : ¬ tx wDelay = ({ data := #[103, 111] } : ByteArray) := by decide
  have hw_Plan : ¬ tx wDelay = ({ data := #[112, 108, 97, 110] } : ByteArray) := by decide
  have hw_Head : ¬ tx wDelay = ({ data := #[104, 101, 97, 100] } : ByteArray) := by decide
  have hw_Level : ¬ tx wDelay = ({ data := #[108, 101, 118, 101, 108] } : ByteArray) := by decide
  have hw_Flow : ¬ tx wDelay = ({ data := #[102, 108, 111, 119] } : ByteArray) := by decide
  have hw_Water : ¬ tx wDelay = ({ data := #[119, 97, 116, 101, 114] } : ByteArray) := by decide
  have hw_Arrive : ¬ tx wDelay = ({ data := #[97, 114, 114, 105, 118, 101] } : ByteArray) := by decide
  have hw_Leave : ¬ tx wDelay = ({ data := #[108, 101, 97, 118, 101] } : ByteArray) := by decide
  have hO := fun w hA ht => iOrdDelay_v d A1 c1 A2 c2 (a0 L 0) w hf.1 hg h.1 h.2 hA ht
  generalize tx (Lib.itoa (best d.m d.wa (a0 L 0) d.lock.high d.m []).2) = tt at hO ⊢
  refine calls_of_vcL (w0 := w0) tb_ok (args := [.pointer (some ⟨gc, 0, none⟩), .string (tx wDelay), .slice (some ⟨bb, off, none⟩) L.length c]) Tryz.func114 rfl m0 ?_
  (repeat' ((conv => whnf); first | refine go ?_ | (refine VSome.mk ?_; intro gQ hA'; first | subst hA' | cases hA' | (dsimp only at hA'; subst hA')) | refine And.intro ?_ ?_ | intro _ | (first | ((show VCall _ _ _ 151 _ _); refine VCall.grow _ (fun w1 m1 => hO w1 (Sees.any m1 fndA) (ht.now m1).1) ?_) | ((show VDraw _ _ _ #[{ dst := some 202, op := _, type := _, pos := _, after := _, guard := _ }, _, _, _, _, _, _, _, _, _, _, _] _ _); refine VDraw.mk (.take 0 (.take 1 (.take 2 (.take 3 (.take 4 (.take 5 (.take 6 (.br 7 (.take 8 (.take 9 (.take 10 (.take 11 .done)))) .done)))))))) [0, 3] (by kernel_rfl) (by kernel_rfl) ?_) | ((show VIdx _ _ _ _ _ _ _); first | (refine VIdx.at_ rfl 0 rfl (by omega) ?_)) | ((show VLoad1 _ _ _ _ _); first | (refine VLoad1.mk _ (Rd.old hbb hnl (hcc 0 (by omega))) ?_) ))))
  all_goals (conv => whnf)
  all_goals exact VRet.mk fun w' m => ⟨(A1, c1, A2, c2), trivial, rfl, m.sel (ks := [0, 1, 2]) (by simp)⟩
set_option maxHeartbeats 8000000 in
theorem iExBest_v {w0 : Base} {w : World} (d : Co) (gc : Nat) (A1 : Option Addr) (c1 : Nat) (A2 : Option Addr) (c2 : Nat) (B : Option Addr) (c : Nat) (L : List Int) (hf : d.fit) (ht : Old2 w0) (hB : OldSeen w0 B (IL L)) (hl : 0 < L.length) (h : 1 ≤ a0 L 0 ∧ a0 L 0 ≤ 60) (m0 : Mem w0 [.blk gc 39 (d.at A1 c1 A2 c2), .row (.slice A1 d.n c1) 96 3 d.n (BaS d.n d.ba), .row (.slice A2 d.m c2) 98 4 d.m (AwS d.m d.wa)] w) :
    Calls Tryz.prog 114 #[.pointer (some ⟨gc, 0, none⟩), .string (tx wBest), .slice B L.length c] w fun e w' => ∃ v, e = .returned v ∧ RetL (ι := Option Addr × Nat × Option Addr × Nat) (fun _ => True) (fun _ => .tuple #[.string (tx (ltx (idsOf d.wa (best d.m d.wa (a0 L 0) d.lock.high d.m []).1))), .bool true]) (fun (P1, k1, P2, k2) => [.blk gc 39 ((d : Co).at P1 k1 P2 k2), .row (.slice P1 (d : Co).n k1) 96 3 (d : Co).n (BaS (d : Co).n (d : Co).ba), .row (.slice P2 (d : Co).m k2) 98 4 (d : Co).m (AwS (d : Co).m (d : Co).wa)]) (fun _ => []) w0 v w' := by
  have hg := hf.2.2
  have hm := hg.2
  obtain ⟨bb, off, rfl, hbb, hnl, hcc⟩ := IL_old hB hl
  have hw_Step : ¬ tx wBest = ({ data := #[115, 116, 101, 112] } : ByteArray) := by decide
  have hw_Go : ¬ tx wBest = ({ data := #[103, 111] } : ByteArray) := by decide
  have hw_Plan : ¬ tx wBest = ({ data := #[112, 108, 97, 110] } : ByteArray) := by decide
  have hw_Head : ¬ tx wBest = ({ data := #[104, 101, 97, 100] } : ByteArray) := by decide
  have hw_Level : ¬ tx wBest = ({ data := #[108, 101, 118, 101, 108] } : ByteArray) := by decide
  have hw_Flow : ¬ tx wBest = ({ data := #[102, 108, 111, 119] } : ByteArray) := by decide
  have hw_Water : ¬ tx wBest = ({ data := #[119, 97, 116, 101, 114] } : ByteArray) := by decide
  have hw_Arrive : ¬ tx wBest = ({ data := #[97, 114, 114, 105, 118, 101] } : ByteArray) := by decide
  have hw_Leave : ¬ tx wBest = ({ data := #[108, 101, 97, 118, 101] } : ByteArray) := by decide
  have hO := fun w hA ht => iOrdBest_v d A1 c1 A2 c2 wBest (a0 L 0) w hf.1 hg h.1 h.2 (by decide) (by decide) hA ht
  generalize tx (ltx (idsOf d.wa (best d.m d.wa (a0 L 0) d.lock.high d.m []).1)) = tt at hO ⊢
  refine calls_of_vcL (w0 := w0) tb_ok (args := [.pointer (some ⟨gc, 0, none⟩), .string (tx wBest), .slice (some ⟨bb, off, none⟩) L.length c]) Tryz.func114 rfl m0 ?_
  (repeat' ((conv => whnf); first | refine go ?_ | (refine VSome.mk ?_; intro gQ hA'; first | subst hA' | cases hA' | (dsimp only at hA'; subst hA')) | refine And.intro ?_ ?_ | intro _ | (first | ((show VCall _ _ _ 151 _ _); refine VCall.grow _ (fun w1 m1 => hO w1 (Sees.any m1 fndA) (ht.now m1).1) ?_) | ((show VDraw _ _ _ #[{ dst := some 202, op := _, type := _, pos := _, after := _, guard := _ }, _, _, _, _, _, _, _, _, _, _, _] _ _); refine VDraw.mk (.take 0 (.take 1 (.take 2 (.take 3 (.take 4 (.take 5 (.take 6 (.br 7 (.take 8 (.take 9 (.take 10 (.take 11 .done)))) .done)))))))) [0, 3] (by kernel_rfl) (by kernel_rfl) ?_) | ((show VIdx _ _ _ _ _ _ _); first | (refine VIdx.at_ rfl 0 rfl (by omega) ?_)) | ((show VLoad1 _ _ _ _ _); first | (refine VLoad1.mk _ (Rd.old hbb hnl (hcc 0 (by omega))) ?_) ))))
  all_goals (conv => whnf)
  all_goals exact VRet.mk fun w' m => ⟨(A1, c1, A2, c2), trivial, rfl, m.sel (ks := [0, 1, 2]) (by simp)⟩
set_option maxHeartbeats 8000000 in
theorem iExOrd_no {w0 : Base} {w : World} (d : Co) (gc : Nat) (A1 : Option Addr) (c1 : Nat) (A2 : Option Addr) (c2 : Nat) (B : Option Addr) (c : Nat) (L : List Int) (hf : d.fit) (ht : Old2 w0) (hB : OldSeen w0 B (IL L)) (hl : 0 < L.length) (x : List UInt8) (hx : ¬ x = wStep ∧ ¬ x = wGo ∧ ¬ x = wPlan ∧ ¬ x = wHead ∧ ¬ x = wLevel ∧ ¬ x = wFlow ∧ ¬ x = wWater ∧ ¬ x = wArrive ∧ ¬ x = wLeave) (h : ¬ (1 ≤ a0 L 0 ∧ a0 L 0 ≤ 60)) (m0 : Mem w0 [.blk gc 39 (d.at A1 c1 A2 c2), .row (.slice A1 d.n c1) 96 3 d.n (BaS d.n d.ba), .row (.slice A2 d.m c2) 98 4 d.m (AwS d.m d.wa)] w) :
    Calls Tryz.prog 114 #[.pointer (some ⟨gc, 0, none⟩), .string (tx x), .slice B L.length c] w fun e w' => ∃ v, e = .returned v ∧ RetL (ι := Co × Option Addr × Nat × Option Addr × Nat × List UInt8) (fun _ => True) (fun (_, _, _, _, _, t) => .tuple #[.string (tx t), .bool false]) (fun (d', P1, k1, P2, k2, _) => [.blk gc 39 (d'.at P1 k1 P2 k2), .gone, .gone]) (fun _ => []) w0 v w' := by
  have hg := hf.2.2
  have hm := hg.2
  obtain ⟨bb, off, rfl, hbb, hnl, hcc⟩ := IL_old hB hl
  have hw_Step : ¬ tx x = ({ data := #[115, 116, 101, 112] } : ByteArray) := fun q => hx.1 (tx_inj (q.trans (by rfl : _ = tx wStep)))
  have hw_Go : ¬ tx x = ({ data := #[103, 111] } : ByteArray) := fun q => hx.2.1 (tx_inj (q.trans (by rfl : _ = tx wGo)))
  have hw_Plan : ¬ tx x = ({ data := #[112, 108, 97, 110] } : ByteArray) := fun q => hx.2.2.1 (tx_inj (q.trans (by rfl : _ = tx wPlan)))
  have hw_Head : ¬ tx x = ({ data := #[104, 101, 97, 100] } : ByteArray) := fun q => hx.2.2.2.1 (tx_inj (q.trans (by rfl : _ = tx wHead)))
  have hw_Level : ¬ tx x = ({ data := #[108, 101, 118, 101, 108] } : ByteArray) := fun q => hx.2.2.2.2.1 (tx_inj (q.trans (by rfl : _ = tx wLevel)))
  have hw_Flow : ¬ tx x = ({ data := #[102, 108, 111, 119] } : ByteArray) := fun q => hx.2.2.2.2.2.1 (tx_inj (q.trans (by rfl : _ = tx wFlow)))
  have hw_Water : ¬ tx x = ({ data := #[119, 97, 116, 101, 114] } : ByteArray) := fun q => hx.2.2.2.2.2.2.1 (tx_inj (q.trans (by rfl : _ = tx wWater)))
  have hw_Arrive : ¬ tx x = ({ data := #[97, 114, 114, 105, 118, 101] } : ByteArray) := fun q => hx.2.2.2.2.2.2.2.1 (tx_inj (q.trans (by rfl : _ = tx wArrive)))
  have hw_Leave : ¬ tx x = ({ data := #[108, 101, 97, 118, 101] } : ByteArray) := fun q => hx.2.2.2.2.2.2.2.2 (tx_inj (q.trans (by rfl : _ = tx wLeave)))
  have hO := fun w hA ht => iOrdNo_v d A1 c1 A2 c2 x (a0 L 0) w hf.1 hg h hA ht
  refine calls_of_vcL (w0 := w0) tb_ok (args := [.pointer (some ⟨gc, 0, none⟩), .string (tx x), .slice (some ⟨bb, off, none⟩) L.length c]) Tryz.func114 rfl m0 ?_
  (repeat' ((conv => whnf); first | refine go ?_ | (refine VSome.mk ?_; intro gQ hA'; first | subst hA' | cases hA' | (dsimp only at hA'; subst hA')) | refine And.intro ?_ ?_ | intro _ | (first | ((show VCall _ _ _ 151 _ _); refine VCall.some _ _ (fun w1 m1 => hO w1 (Sees.any m1 fndA) (ht.now m1).1) (fun t9 _ => ?_)) | ((show VDraw _ _ _ #[{ dst := some 202, op := _, type := _, pos := _, after := _, guard := _ }, _, _, _, _, _, _, _, _, _, _, _] _ _); refine VDraw.mk (.take 0 (.take 1 (.take 2 (.take 3 (.take 4 (.take 5 (.take 6 (.br 7 (.take 8 (.take 9 (.take 10 (.take 11 .done)))) .done)))))))) [0, 3] (by kernel_rfl) (by kernel_rfl) ?_) | ((show VIdx _ _ _ _ _ _ _); first | (refine VIdx.at_ rfl 0 rfl (by omega) ?_)) | ((show VLoad1 _ _ _ _ _); first | (refine VLoad1.mk _ (Rd.old hbb hnl (hcc 0 (by omega))) ?_) ))))
  all_goals (conv => whnf)
  all_goals exact VRet.mk fun w' m => ⟨(d, A1, c1, A2, c2, t9), trivial, rfl, m.sel (ks := [0, 100, 101]) (by simp)⟩
end Go.Proofs.YtadjhkehfklmnaaGreatDoor
