/-
  Texts joined: how the calls that the law reaches are walked, and the plain laws behind them.
  Conditions: none beyond each statement's own premises.
-/
import Derived.Test.YtadjhkehfklmnaaGreatDoorMx15
namespace Go.Proofs.YtadjhkehfklmnaaGreatDoor
set_option linter.unusedSimpArgs false
set_option linter.unusedVariables false
open Go.RowKit
set_option maxRecDepth 10000
set_option maxHeartbeats 8000000 in
theorem iExWater_v {w0 : Base} {w : World} (d : Co) (gc : Nat) (A1 : Option Addr) (c1 : Nat) (A2 : Option Addr) (c2 : Nat) (B : Option Addr) (c : Nat) (L : List Int) (hf : d.fit) (ht : Old2 w0) (hB : OldSeen w0 B (IL L)) (m0 : Mem w0 [.blk gc 39 (d.at A1 c1 A2 c2), .row (.slice A1 d.n c1) 96 3 d.n (BaS d.n d.ba), .row (.slice A2 d.m c2) 98 4 d.m (AwS d.m d.wa)] w) :
    Calls Tryz.prog 114 #[.pointer (some ⟨gc, 0, none⟩), .string (tx wWater), .slice B L.length c] w fun e w' => ∃ v, e = .returned v ∧ RetL (ι := Option Addr × Nat × Option Addr × Nat) (fun _ => True) (fun _ => .tuple #[.string (tx (Lib.itoa (smI (fun i => (d.ba i).vol) d.n))), .bool true]) (fun (P1, k1, P2, k2) => [.blk gc 39 ((d : Co).at P1 k1 P2 k2), .row (.slice P1 (d : Co).n k1) 96 3 (d : Co).n (BaS (d : Co).n (d : Co).ba), .row (.slice P2 (d : Co).m k2) 98 4 (d : Co).m (AwS (d : Co).m (d : Co).wa)]) (fun _ => []) w0 v w' := by
  have hb := hf.2.1
  have hn := hb.2
  have hv := vols_in hb d.n (Nat.le_refl _)
  have hw_Step : ¬ tx wWater = ({ data := #[115, 116, 101, 112] } : ByteArray) := by decide
  have hw_Go : ¬ tx wWater = ({ data := #[103, 111] } : ByteArray) := by decide
  have hw_Plan : ¬ tx wWater = ({ data := #[112, 108, 97, 110] } : ByteArray) := by decide
  have hw_Head : ¬ tx wWater = ({ data := #[104, 101, 97, 100] } : ByteArray) := by decide
  have hw_Level : ¬ tx wWater = ({ data := #[108, 101, 118, 101, 108] } : ByteArray) := by decide
  have hw_Flow : ¬ tx wWater = ({ data := #[102, 108, 111, 119] } : ByteArray) := by decide
  have hT := fun A c w hA => iTotal_v A d.n c d.ba w hb hA
  generalize smI (fun i => (d.ba i).vol) d.n = sv at hT hv ⊢
  refine calls_of_vcL (w0 := w0) tb_ok (args := [.pointer (some ⟨gc, 0, none⟩), .string (tx wWater), .slice B L.length c]) Tryz.func114 rfl m0 ?_
  (repeat' ((conv => whnf); first | refine go ?_ | (refine VSome.mk ?_; intro gQ hA'; first | subst hA' | cases hA' | (dsimp only at hA'; subst hA')) | refine And.intro ?_ ?_ | intro _ | (first | ((show VCall _ _ _ 147 _ _); refine VCall.grow _ (fun w1 m1 => hT _ _ w1 (Sees.any m1 fndA)) ?_) | ((show VCall _ _ _ 59 _ _); refine VCall.grow _ (fun w1 m1 => itoaZ_v _ w1 (by omega) (by omega) (ht.now m1).1) ?_))))
  all_goals (conv => whnf)
  all_goals exact VRet.mk fun w' m => ⟨(A1, c1, A2, c2), trivial, rfl, m.sel (ks := [0, 1, 2]) (by simp)⟩
set_option maxHeartbeats 8000000 in
theorem iExFlow_yes {w0 : Base} {w : World} (d : Co) (gc : Nat) (A1 : Option Addr) (c1 : Nat) (A2 : Option Addr) (c2 : Nat) (B : Option Addr) (c : Nat) (L : List Int) (hf : d.fit) (ht : Old2 w0) (hB : OldSeen w0 B (IL L)) (hl : L.length = 3) (h : bCan d.n d.ba (a0 L 0) (a0 L 1) (a0 L 2)) (m0 : Mem w0 [.blk gc 39 (d.at A1 c1 A2 c2), .row (.slice A1 d.n c1) 96 3 d.n (BaS d.n d.ba), .row (.slice A2 d.m c2) 98 4 d.m (AwS d.m d.wa)] w) :
    Calls Tryz.prog 114 #[.pointer (some ⟨gc, 0, none⟩), .string (tx wFlow), .slice B L.length c] w fun e w' => ∃ v, e = .returned v ∧ RetL (ι := Option Addr × Nat × Option Addr × Nat) (fun _ => True) (fun _ => .tuple #[.string (tx (wOk)), .bool true]) (fun (P1, k1, P2, k2) => [.blk gc 39 (({ d with ba := bMv d.ba (a0 L 0) (a0 L 1) (a0 L 2) } : Co).at P1 k1 P2 k2), .row (.slice P1 ({ d with ba := bMv d.ba (a0 L 0) (a0 L 1) (a0 L 2) } : Co).n k1) 96 3 ({ d with ba := bMv d.ba (a0 L 0) (a0 L 1) (a0 L 2) } : Co).n (BaS ({ d with ba := bMv d.ba (a0 L 0) (a0 L 1) (a0 L 2) } : Co).n ({ d with ba := bMv d.ba (a0 L 0) (a0 L 1) (a0 L 2) } : Co).ba), .row (.slice P2 ({ d with ba := bMv d.ba (a0 L 0) (a0 L 1) (a0 L 2) } : Co).m k2) 98 4 ({ d with ba := bMv d.ba (a0 L 0) (a0 L 1) (a0 L 2) } : Co).m (AwS ({ d with ba := bMv d.ba (a0 L 0) (a0 L 1) (a0 L 2) } : Co).m ({ d with ba := bMv d.ba (a0 L 0) (a0 L 1) (a0 L 2) } : Co).wa)]) (fun _ => []) w0 v w' := by
  have hb := hf.2.1
  have hn := hb.2
  obtain ⟨bb, off, rfl, hbb, hnl, hcc⟩ := IL_old hB (by omega)
  have hw_Step : ¬ tx wFlow = ({ data := #[115, 116, 101, 112] } : ByteArray) := by decide
  have hw_Go : ¬ tx wFlow = ({ data := #[103, 111] } : ByteArray) := by decide
  have hw_Plan : ¬ tx wFlow = ({ data := #[112, 108, 97, 110] } : ByteArray) := by decide
  have hw_Head : ¬ tx wFlow = ({ data := #[104, 101, 97, 100] } : ByteArray) := by decide
  have hw_Level : ¬ tx wFlow = ({ data := #[108, 101, 118, 101, 108] } : ByteArray) := by decide
  have hM := fun A c w hA => iMoveW_v A d.n c d.ba (a0 L 0) (a0 L 1) (a0 L 2) w hb h hA
  refine calls_of_vcL (w0 := w0) tb_ok (args := [.pointer (some ⟨gc, 0, none⟩), .string (tx wFlow), .slice (some ⟨bb, off, none⟩) L.length c]) Tryz.func114 rfl m0 ?_
  (repeat' ((conv => whnf); first | refine go ?_ | (refine VSome.mk ?_; intro gQ hA'; first | subst hA' | cases hA' | (dsimp only at hA'; subst hA')) | refine And.intro ?_ ?_ | intro _ | (first | ((show VCall _ _ _ 146 _ _); refine VCall.ret (fun w1 m1 => hM _ _ w1 (Sees.any m1 fndA)) (fun i hi => ?_); obtain ⟨g9, c9⟩ := i) | ((show VDraw _ _ _ #[{ dst := some 126, op := _, type := _, pos := _, after := _, guard := _ }, _, _, _, _, _, _, _, _, _, _, _, _, _, _, _, _, _, _, _] _ _); refine VDraw.mk (.take 0 (.take 1 (.take 2 (.take 3 (.take 4 (.take 5 (.take 6 (.take 7 (.take 8 (.take 9 (.take 10 (.take 11 (.take 12 (.take 13 (.br 14 (.take 15 (.take 16 (.take 17 (.take 18 (.take 19 .done))))) .done))))))))))))))) [0, 3] (by kernel_rfl) (by kernel_rfl) ?_) | ((show VIdx _ _ _ _ _ _ _); first | (refine VIdx.at_ rfl 0 rfl (by omega) ?_) | (refine VIdx.at_ rfl 1 rfl (by omega) ?_) | (refine VIdx.at_ rfl 2 rfl (by omega) ?_)) | ((show VLoad1 _ _ _ _ _); first | (refine VLoad1.mk _ (Rd.old hbb hnl (hcc 0 (by omega))) ?_) | (refine VLoad1.mk _ (Rd.old hbb hnl (hcc 1 (by omega))) ?_) | (refine VLoad1.mk _ (Rd.old hbb hnl (hcc 2 (by omega))) ?_) ))))
  all_goals (conv => whnf)
  all_goals exact VRet.mk fun w' m => ⟨(some ⟨g9, 0, none⟩, c9, A2, c2), trivial, rfl, m.sel (ks := [0, 4, 2]) (by simp)⟩
set_option maxHeartbeats 8000000 in
theorem iExFlow_no {w0 : Base} {w : World} (d : Co) (gc : Nat) (A1 : Option Addr) (c1 : Nat) (A2 : Option Addr) (c2 : Nat) (B : Option Addr) (c : Nat) (L : List Int) (hf : d.fit) (ht : Old2 w0) (hB : OldSeen w0 B (IL L)) (hl : L.length = 3) (h : ¬ bCan d.n d.ba (a0 L 0) (a0 L 1) (a0 L 2)) (m0 : Mem w0 [.blk gc 39 (d.at A1 c1 A2 c2), .row (.slice A1 d.n c1) 96 3 d.n (BaS d.n d.ba), .row (.slice A2 d.m c2) 98 4 d.m (AwS d.m d.wa)] w) :
    Calls Tryz.prog 114 #[.pointer (some ⟨gc, 0, none⟩), .string (tx wFlow), .slice B L.length c] w fun e w' => ∃ v, e = .returned v ∧ RetL (ι := Co × Option Addr × Nat × Option Addr × Nat × List UInt8) (fun _ => True) (fun (_, _, _, _, _, t) => .tuple #[.string (tx t), .bool false]) (fun (d', P1, k1, P2, k2, _) => [.blk gc 39 (d'.at P1 k1 P2 k2), .gone, .gone]) (fun _ => []) w0 v w' := by
  have hb := hf.2.1
  have hn := hb.2
  obtain ⟨bb, off, rfl, hbb, hnl, hcc⟩ := IL_old hB (by omega)
  have hw_Step : ¬ tx wFlow = ({ data := #[115, 116, 101, 112] } : ByteArray) := by decide
  have hw_Go : ¬ tx wFlow = ({ data := #[103, 111] } : ByteArray) := by decide
  have hw_Plan : ¬ tx wFlow = ({ data := #[112, 108, 97, 110] } : ByteArray) := by decide
  have hw_Head : ¬ tx wFlow = ({ data := #[104, 101, 97, 100] } : ByteArray) := by decide
  have hw_Level : ¬ tx wFlow = ({ data := #[108, 101, 118, 101, 108] } : ByteArray) := by decide
  have hM := fun A c w hA => iMoveW_no A d.n c d.ba (a0 L 0) (a0 L 1) (a0 L 2) w hb h hA
  refine calls_of_vcL (w0 := w0) tb_ok (args := [.pointer (some ⟨gc, 0, none⟩), .string (tx wFlow), .slice (some ⟨bb, off, none⟩) L.length c]) Tryz.func114 rfl m0 ?_
  (repeat' ((conv => whnf); first | refine go ?_ | (refine VSome.mk ?_; intro gQ hA'; first | subst hA' | cases hA' | (dsimp only at hA'; subst hA')) | refine And.intro ?_ ?_ | intro _ | (first | ((show VCall _ _ _ 146 _ _); refine VCall.grow _ (fun w1 m1 => hM _ _ w1 (Sees.any m1 fndA)) ?_) | ((show VDraw _ _ _ #[{ dst := some 126, op := _, type := _, pos := _, after := _, guard := _ }, _, _, _, _, _, _, _, _, _, _, _, _, _, _, _, _, _, _, _] _ _); refine VDraw.mk (.take 0 (.take 1 (.take 2 (.take 3 (.take 4 (.take 5 (.take 6 (.take 7 (.take 8 (.take 9 (.take 10 (.take 11 (.take 12 (.take 13 (.br 14 (.take 15 (.take 16 (.take 17 (.take 18 (.take 19 .done))))) .done))))))))))))))) [0, 3] (by kernel_rfl) (by kernel_rfl) ?_) | ((show VIdx _ _ _ _ _ _ _); first | (refine VIdx.at_ rfl 0 rfl (by omega) ?_) | (refine VIdx.at_ rfl 1 rfl (by omega) ?_) | (refine VIdx.at_ rfl 2 rfl (by omega) ?_)) | ((show VLoad1 _ _ _ _ _); first | (refine VLoad1.mk _ (Rd.old hbb hnl (hcc 0 (by omega))) ?_) | (refine VLoad1.mk _ (Rd.old hbb hnl (hcc 1 (by omega))) ?_) | (refine VLoad1.mk _ (Rd.old hbb hnl (hcc 2 (by omega))) ?_) ))))
  all_goals (conv => whnf)
  all_goals exact VRet.mk fun w' m => ⟨({ d with n := 0 }, none, 0, A2, c2, wOk), trivial, rfl, m.sel (ks := [0, 100, 101]) (by simp)⟩
set_option maxHeartbeats 8000000 in
theorem iExArrive_yes {w0 : Base} {w : World} (d : Co) (gc : Nat) (A1 : Option Addr) (c1 : Nat) (A2 : Option Addr) (c2 : Nat) (B : Option Addr) (c : Nat) (L : List Int) (hf : d.fit) (ht : Old2 w0) (hB : OldSeen w0 B (IL L)) (hl : L.length = 4) (h : aGood (d.m + 1) (insF d.wa (plc d.wa (a0 L 0) d.m 0) ⟨a0 L 0, isOne (a0 L 1), a0 L 2, a0 L 3⟩)) (m0 : Mem w0 [.blk gc 39 (d.at A1 c1 A2 c2), .row (.slice A1 d.n c1) 96 3 d.n (BaS d.n d.ba), .row (.slice A2 d.m c2) 98 4 d.m (AwS d.m d.wa)] w) :
    Calls Tryz.prog 114 #[.pointer (some ⟨gc, 0, none⟩), .string (tx wArrive), .slice B L.length c] w fun e w' => ∃ v, e = .returned v ∧ RetL (ι := Option Addr × Nat × Option Addr × Nat) (fun _ => True) (fun _ => .tuple #[.string (tx (wOk)), .bool true]) (fun (P1, k1, P2, k2) => [.blk gc 39 ((d.arr (plc d.wa (a0 L 0) d.m 0) ⟨a0 L 0, isOne (a0 L 1), a0 L 2, a0 L 3⟩ : Co).at P1 k1 P2 k2), .row (.slice P1 (d.arr (plc d.wa (a0 L 0) d.m 0) ⟨a0 L 0, isOne (a0 L 1), a0 L 2, a0 L 3⟩ : Co).n k1) 96 3 (d.arr (plc d.wa (a0 L 0) d.m 0) ⟨a0 L 0, isOne (a0 L 1), a0 L 2, a0 L 3⟩ : Co).n (BaS (d.arr (plc d.wa (a0 L 0) d.m 0) ⟨a0 L 0, isOne (a0 L 1), a0 L 2, a0 L 3⟩ : Co).n (d.arr (plc d.wa (a0 L 0) d.m 0) ⟨a0 L 0, isOne (a0 L 1), a0 L 2, a0 L 3⟩ : Co).ba), .row (.slice P2 (d.arr (plc d.wa (a0 L 0) d.m 0) ⟨a0 L 0, isOne (a0 L 1), a0 L 2, a0 L 3⟩ : Co).m k2) 98 4 (d.arr (plc d.wa (a0 L 0) d.m 0) ⟨a0 L 0, isOne (a0 L 1), a0 L 2, a0 L 3⟩ : Co).m (AwS (d.arr (plc d.wa (a0 L 0) d.m 0) ⟨a0 L 0, isOne (a0 L 1), a0 L 2, a0 L 3⟩ : Co).m (d.arr (plc d.wa (a0 L 0) d.m 0) ⟨a0 L 0, isOne (a0 L 1), a0 L 2, a0 L 3⟩ : Co).wa)]) (fun _ => []) w0 v w' := by
  have hm := hf.2.2.2
  obtain ⟨bb, off, rfl, hbb, hnl, hcc⟩ := IL_old hB (by omega)
  have hw_Step : ¬ tx wArrive = ({ data := #[115, 116, 101, 112] } : ByteArray) := by decide
  have hw_Go : ¬ tx wArrive = ({ data := #[103, 111] } : ByteArray) := by decide
  have hw_Plan : ¬ tx wArrive = ({ data := #[112, 108, 97, 110] } : ByteArray) := by decide
  have hw_Head : ¬ tx wArrive = ({ data := #[104, 101, 97, 100] } : ByteArray) := by decide
  have hw_Level : ¬ tx wArrive = ({ data := #[108, 101, 118, 101, 108] } : ByteArray) := by decide
  have hw_Flow : ¬ tx wArrive = ({ data := #[102, 108, 111, 119] } : ByteArray) := by decide
  have hw_Water : ¬ tx wArrive = ({ data := #[119, 97, 116, 101, 114] } : ByteArray) := by decide
  by_cases h1 : a0 L 1 = 1
  all_goals (first | rw [isOne_yes h1] at h ⊢ | rw [isOne_no h1] at h ⊢ | rw [isOne_yes h1] at h | rw [isOne_no h1] at h)
  · have hA := fun (w0 : Base) (w : World) m => iArrive_v (w0 := w0) (w := w) d gc A1 c1 A2 c2 ⟨a0 L 0, true, a0 L 2, a0 L 3⟩ hm m
    rw [tr_yes h] at hA
    refine calls_of_vcL (w0 := w0) tb_ok (args := [.pointer (some ⟨gc, 0, none⟩), .string (tx wArrive), .slice (some ⟨bb, off, none⟩) L.length c]) Tryz.func114 rfl m0 ?_
    (repeat' ((conv => whnf); first | refine go ?_ | (refine VSome.mk ?_; intro gQ hA'; first | subst hA' | cases hA' | (dsimp only at hA'; subst hA')) | refine And.intro ?_ ?_ | intro _ | (first | ((show VCall _ _ _ 148 [_, _] _); refine VCall.fullS [0, 2] (by simp) (fun _ => rfl) (fun w1 m1 m2 => hA _ w1 m2) (fun i hi => ?_); obtain ⟨g9, c9⟩ := i) | ((show VDraw _ _ _ #[{ dst := some 163, op := _, type := _, pos := _, after := _, guard := _ }, _, _, _, _, _, _, _, _, _, _, _, _, _, _, _, _, _] _ _); refine VDraw.mk (.take 0 (.take 1 (.take 2 (.take 3 (.take 4 (.take 5 (.take 6 (.take 7 (.take 8 (.take 9 (.take 10 (.take 11 (.take 12 (.take 13 (.take 14 (.br 15 (.take 16 (.take 17 .done)) .done)))))))))))))))) [3] (by kernel_rfl) (by kernel_rfl) ?_) | ((show VIdx _ _ _ _ _ _ _); first | (refine VIdx.at_ rfl 0 rfl (by omega) ?_) | (refine VIdx.at_ rfl 1 rfl (by omega) ?_) | (refine VIdx.at_ rfl 2 rfl (by omega) ?_) | (refine VIdx.at_ rfl 3 rfl (by omega) ?_)) | ((show VLoad1 _ _ _ _ _); first | (refine VLoad1.mk _ (Rd.old hbb hnl (hcc 0 (by omega))) ?_) | (refine VLoad1.mk _ (Rd.old hbb hnl (hcc 1 (by omega))) ?_) | (refine VLoad1.mk _ (Rd.old hbb hnl (hcc 2 (by omega))) ?_) | (refine VLoad1.mk _ (Rd.old hbb hnl (hcc 3 (by omega))) ?_) ))))
    all_goals (conv => whnf)
    all_goals exact VRet.mk fun w' m => ⟨(A1, c1, some ⟨g9, 0, none⟩, c9), trivial, rfl, m.sel (ks := [0, 1, 2]) (by simp)⟩
  · have hA := fun (w0 : Base) (w : World) m => iArrive_v (w0 := w0) (w := w) d gc A1 c1 A2 c2 ⟨a0 L 0, false, a0 L 2, a0 L 3⟩ hm m
    rw [tr_yes h] at hA
    refine calls_of_vcL (w0 := w0) tb_ok (args := [.pointer (some ⟨gc, 0, none⟩), .string (tx wArrive), .slice (some ⟨bb, off, none⟩) L.length c]) Tryz.func114 rfl m0 ?_
    (repeat' ((conv => whnf); first | refine go ?_ | (refine VSome.mk ?_; intro gQ hA'; first | subst hA' | cases hA' | (dsimp only at hA'; subst hA')) | refine And.intro ?_ ?_ | intro _ | (first | ((show VCall _ _ _ 148 [_, _] _); refine VCall.fullS [0, 2] (by simp) (fun _ => rfl) (fun w1 m1 m2 => hA _ w1 m2) (fun i hi => ?_); obtain ⟨g9, c9⟩ := i) | ((show VDraw _ _ _ #[{ dst := some 163, op := _, type := _, pos := _, after := _, guard := _ }, _, _, _, _, _, _, _, _, _, _, _, _, _, _, _, _, _] _ _); refine VDraw.mk (.take 0 (.take 1 (.take 2 (.take 3 (.take 4 (.take 5 (.take 6 (.take 7 (.take 8 (.take 9 (.take 10 (.take 11 (.take 12 (.take 13 (.take 14 (.br 15 (.take 16 (.take 17 .done)) .done)))))))))))))))) [3] (by kernel_rfl) (by kernel_rfl) ?_) | ((show VIdx _ _ _ _ _ _ _); first | (refine VIdx.at_ rfl 0 rfl (by omega) ?_) | (refine VIdx.at_ rfl 1 rfl (by omega) ?_) | (refine VIdx.at_ rfl 2 rfl (by omega) ?_) | (refine VIdx.at_ rfl 3 rfl (by omega) ?_)) | ((show VLoad1 _ _ _ _ _); first | (refine VLoad1.mk _ (Rd.old hbb hnl (hcc 0 (by omega))) ?_) | (refine VLoad1.mk _ (Rd.old hbb hnl (hcc 1 (by omega))) ?_) | (refine VLoad1.mk _ (Rd.old hbb hnl (hcc 2 (by omega))) ?_) | (refine VLoad1.mk _ (Rd.old hbb hnl (hcc 3 (by omega))) ?_) ))))
    all_goals (conv => whnf)
    all_goals exact VRet.mk fun w' m => ⟨(A1, c1, some ⟨g9, 0, none⟩, c9), trivial, rfl, m.sel (ks := [0, 1, 2]) (by simp)⟩
set_option maxHeartbeats 8000000 in
theorem iExArrive_no {w0 : Base} {w : World} (d : Co) (gc : Nat) (A1 : Option Addr) (c1 : Nat) (A2 : Option Addr) (c2 : Nat) (B : Option Addr) (c : Nat) (L : List Int) (hf : d.fit) (ht : Old2 w0) (hB : OldSeen w0 B (IL L)) (hl : L.length = 4) (h : ¬ aGood (d.m + 1) (insF d.wa (plc d.wa (a0 L 0) d.m 0) ⟨a0 L 0, isOne (a0 L 1), a0 L 2, a0 L 3⟩)) (m0 : Mem w0 [.blk gc 39 (d.at A1 c1 A2 c2), .row (.slice A1 d.n c1) 96 3 d.n (BaS d.n d.ba), .row (.slice A2 d.m c2) 98 4 d.m (AwS d.m d.wa)] w) :
    Calls Tryz.prog 114 #[.pointer (some ⟨gc, 0, none⟩), .string (tx wArrive), .slice B L.length c] w fun e w' => ∃ v, e = .returned v ∧ RetL (ι := Co × Option Addr × Nat × Option Addr × Nat × List UInt8) (fun _ => True) (fun (_, _, _, _, _, t) => .tuple #[.string (tx t), .bool false]) (fun (d', P1, k1, P2, k2, _) => [.blk gc 39 (d'.at P1 k1 P2 k2), .gone, .gone]) (fun _ => []) w0 v w' := by
  have hm := hf.2.2.2
  obtain ⟨bb, off, rfl, hbb, hnl, hcc⟩ := IL_old hB (by omega)
  have hw_Step : ¬ tx wArrive = ({ data := #[115, 116, 101, 112] } : ByteArray) := by decide
  have hw_Go : ¬ tx wArrive = ({ data := #[103, 111] } : ByteArray) := by decide
  have hw_Plan : ¬ tx wArrive = ({ data := #[112, 108, 97, 110] } : ByteArray) := by decide
  have hw_Head : ¬ tx wArrive = ({ data := #[104, 101, 97, 100] } : ByteArray) := by decide
  have hw_Level : ¬ tx wArrive = ({ data := #[108, 101, 118, 101, 108] } : ByteArray) := by decide
  have hw_Flow : ¬ tx wArrive = ({ data := #[102, 108, 111, 119] } : ByteArray) := by decide
  have hw_Water : ¬ tx wArrive = ({ data := #[119, 97, 116, 101, 114] } : ByteArray) := by decide
  by_cases h1 : a0 L 1 = 1
  all_goals (first | rw [isOne_yes h1] at h ⊢ | rw [isOne_no h1] at h ⊢ | rw [isOne_yes h1] at h | rw [isOne_no h1] at h)
  · have hA := fun (w0 : Base) (w : World) m => iArrive_v (w0 := w0) (w := w) d gc A1 c1 A2 c2 ⟨a0 L 0, true, a0 L 2, a0 L 3⟩ hm m
    rw [tr_no h] at hA
    refine calls_of_vcL (w0 := w0) tb_ok (args := [.pointer (some ⟨gc, 0, none⟩), .string (tx wArrive), .slice (some ⟨bb, off, none⟩) L.length c]) Tryz.func114 rfl m0 ?_
    (repeat' ((conv => whnf); first | refine go ?_ | (refine VSome.mk ?_; intro gQ hA'; first | subst hA' | cases hA' | (dsimp only at hA'; subst hA')) | refine And.intro ?_ ?_ | intro _ | (first | ((show VCall _ _ _ 148 [_, _] _); refine VCall.fullS [0, 2] (by simp) (fun _ => rfl) (fun w1 m1 m2 => hA _ w1 m2) (fun i hi => ?_); obtain ⟨g9, c9⟩ := i) | ((show VDraw _ _ _ #[{ dst := some 163, op := _, type := _, pos := _, after := _, guard := _ }, _, _, _, _, _, _, _, _, _, _, _, _, _, _, _, _, _] _ _); refine VDraw.mk (.take 0 (.take 1 (.take 2 (.take 3 (.take 4 (.take 5 (.take 6 (.take 7 (.take 8 (.take 9 (.take 10 (.take 11 (.take 12 (.take 13 (.take 14 (.br 15 (.take 16 (.take 17 .done)) .done)))))))))))))))) [3] (by kernel_rfl) (by kernel_rfl) ?_) | ((show VIdx _ _ _ _ _ _ _); first | (refine VIdx.at_ rfl 0 rfl (by omega) ?_) | (refine VIdx.at_ rfl 1 rfl (by omega) ?_) | (refine VIdx.at_ rfl 2 rfl (by omega) ?_) | (refine VIdx.at_ rfl 3 rfl (by omega) ?_)) | ((show VLoad1 _ _ _ _ _); first | (refine VLoad1.mk _ (Rd.old hbb hnl (hcc 0 (by omega))) ?_) | (refine VLoad1.mk _ (Rd.old hbb hnl (hcc 1 (by omega))) ?_) | (refine VLoad1.mk _ (Rd.old hbb hnl (hcc 2 (by omega))) ?_) | (refine VLoad1.mk _ (Rd.old hbb hnl (hcc 3 (by omega))) ?_) ))))
    all_goals (conv => whnf)
    all_goals exact VRet.mk fun w' m => ⟨(_, A1, c1, some ⟨g9, 0, none⟩, c9, wOk), trivial, rfl, m.sel (ks := [0, 100, 101]) (by simp)⟩
  · have hA := fun (w0 : Base) (w : World) m => iArrive_v (w0 := w0) (w := w) d gc A1 c1 A2 c2 ⟨a0 L 0, false, a0 L 2, a0 L 3⟩ hm m
    rw [tr_no h] at hA
    refine calls_of_vcL (w0 := w0) tb_ok (args := [.pointer (some ⟨gc, 0, none⟩), .string (tx wArrive), .slice (some ⟨bb, off, none⟩) L.length c]) Tryz.func114 rfl m0 ?_
    (repeat' ((conv => whnf); first | refine go ?_ | (refine VSome.mk ?_; intro gQ hA'; first | subst hA' | cases hA' | (dsimp only at hA'; subst hA')) | refine And.intro ?_ ?_ | intro _ | (first | ((show VCall _ _ _ 148 [_, _] _); refine VCall.fullS [0, 2] (by simp) (fun _ => rfl) (fun w1 m1 m2 => hA _ w1 m2) (fun i hi => ?_); obtain ⟨g9, c9⟩ := i) | ((show VDraw _ _ _ #[{ dst := some 163, op := _, type := _, pos := _, after := _, guard := _ }, _, _, _, _, _, _, _, _, _, _, _, _, _, _, _, _, _] _ _); refine VDraw.mk (.take 0 (.take 1 (.take 2 (.take 3 (.take 4 (.take 5 (.take 6 (.take 7 (.take 8 (.take 9 (.take 10 (.take 11 (.take 12 (.take 13 (.take 14 (.br 15 (.take 16 (.take 17 .done)) .done)))))))))))))))) [3] (by kernel_rfl) (by kernel_rfl) ?_) | ((show VIdx _ _ _ _ _ _ _); first | (refine VIdx.at_ rfl 0 rfl (by omega) ?_) | (refine VIdx.at_ rfl 1 rfl (by omega) ?_) | (refine VIdx.at_ rfl 2 rfl (by omega) ?_) | (refine VIdx.at_ rfl 3 rfl (by omega) ?_)) | ((show VLoad1 _ _ _ _ _); first | (refine VLoad1.mk _ (Rd.old hbb hnl (hcc 0 (by omega))) ?_) | (refine VLoad1.mk _ (Rd.old hbb hnl (hcc 1 (by omega))) ?_) | (refine VLoad1.mk _ (Rd.old hbb hnl (hcc 2 (by omega))) ?_) | (refine VLoad1.mk _ (Rd.old hbb hnl (hcc 3 (by omega))) ?_) ))))
    all_goals (conv => whnf)
    all_goals exact VRet.mk fun w' m => ⟨(_, A1, c1, some ⟨g9, 0, none⟩, c9, wOk), trivial, rfl, m.sel (ks := [0, 100, 101]) (by simp)⟩
set_option maxHeartbeats 8000000 in
theorem iExLeave_yes {w0 : Base} {w : World} (d : Co) (gc : Nat) (A1 : Option Addr) (c1 : Nat) (A2 : Option Addr) (c2 : Nat) (B : Option Addr) (c : Nat) (L : List Int) (hf : d.fit) (ht : Old2 w0) (hB : OldSeen w0 B (IL L)) (hl : 0 < L.length) {i : Nat} (h : fnd d.wa (a0 L 0) d.m = some i) (m0 : Mem w0 [.blk gc 39 (d.at A1 c1 A2 c2), .row (.slice A1 d.n c1) 96 3 d.n (BaS d.n d.ba), .row (.slice A2 d.m c2) 98 4 d.m (AwS d.m d.wa)] w) :
    Calls Tryz.prog 114 #[.pointer (some ⟨gc, 0, none⟩), .string (tx wLeave), .slice B L.length c] w fun e w' => ∃ v, e = .returned v ∧ RetL (ι := Option Addr × Nat × Option Addr × Nat) (fun _ => True) (fun _ => .tuple #[.string (tx (wOk)), .bool true]) (fun (P1, k1, P2, k2) => [.blk gc 39 ((d.lve i : Co).at P1 k1 P2 k2), .row (.slice P1 (d.lve i : Co).n k1) 96 3 (d.lve i : Co).n (BaS (d.lve i : Co).n (d.lve i : Co).ba), .row (.slice P2 (d.lve i : Co).m k2) 98 4 (d.lve i : Co).m (AwS (d.lve i : Co).m (d.lve i : Co).wa)]) (fun _ => []) w0 v w' := by
  have hg := hf.2.2
  have hm := hg.2
  have hw_Step : ¬ tx wLeave = ({ data := #[115, 116, 101, 112] } : ByteArray) := by decide
  have hw_Go : ¬ tx wLeave = ({ data := #[103, 111] } : ByteArray) := by decide
  have hw_Plan : ¬ tx wLeave = ({ data := #[112, 108, 97, 110] } : ByteArray) := by decide
  have hw_Head : ¬ tx wLeave = ({ data := #[104, 101, 97, 100] } : ByteArray) := by decide
  have hw_Level : ¬ tx wLeave = ({ data := #[108, 101, 118, 101, 108] } : ByteArray) := by decide
  have hw_Flow : ¬ tx wLeave = ({ data := #[102, 108, 111, 119] } : ByteArray) := by decide
  have hw_Water : ¬ tx wLeave = ({ data := #[119, 97, 116, 101, 114] } : ByteArray) := by decide
  have hw_Arrive : ¬ tx wLeave = ({ data := #[97, 114, 114, 105, 118, 101] } : ByteArray) := by decide
  have hi := (fnd_some h).1
  have hD := fun (w0 : Base) (w : World) g hbx hB m => delYes_v (w0 := w0) (w := w) A2 B d.m c2 g c i d.wa L hg hl hbx hB h m
  refine calls_of_vcL (w0 := w0) tb_ok (args := [.pointer (some ⟨gc, 0, none⟩), .string (tx wLeave), .slice B L.length c]) Tryz.func114 rfl m0 ?_
  (repeat' ((conv => whnf); first | refine go ?_ | (refine VSome.mk ?_; intro gQ hA'; first | subst hA' | cases hA' | (dsimp only at hA'; subst hA')) | refine And.intro ?_ ?_ | intro _ | (first | ((show VCall _ _ _ 149 [_, _] _); refine VCall.fullS [2] (by simp) (fun _ => rfl) (fun w1 m1 m2 => hD _ w1 _ (OldSeen.any m1 [2] (by repeat (first | exact At.here | apply At.there)) (by decide)) (hB.lend m1 [2]) m2) (fun i hi => ?_)) | ((show VDraw _ _ _ #[{ dst := some 195, op := _, type := _, pos := _, after := _, guard := _ }, _, _, _, _, _, _, _, _] _ _); refine VDraw.mk (.take 0 (.take 1 (.take 2 (.take 3 (.take 4 (.take 5 (.take 6 (.take 7 (.take 8 .done))))))))) [0] (by kernel_rfl) (by kernel_rfl) ?_))))
  all_goals (conv => whnf)
  all_goals exact VRet.mk fun w' m => ⟨(A1, c1, A2, c2), trivial, rfl, m.sel (ks := [0, 1, 2]) (by simp)⟩
set_option maxHeartbeats 8000000 in
theorem iExLeave_no {w0 : Base} {w : World} (d : Co) (gc : Nat) (A1 : Option Addr) (c1 : Nat) (A2 : Option Addr) (c2 : Nat) (B : Option Addr) (c : Nat) (L : List Int) (hf : d.fit) (ht : Old2 w0) (hB : OldSeen w0 B (IL L)) (hl : 0 < L.length) (h : fnd d.wa (a0 L 0) d.m = none) (m0 : Mem w0 [.blk gc 39 (d.at A1 c1 A2 c2), .row (.slice A1 d.n c1) 96 3 d.n (BaS d.n d.ba), .row (.slice A2 d.m c2) 98 4 d.m (AwS d.m d.wa)] w) :
    Calls Tryz.prog 114 #[.pointer (some ⟨gc, 0, none⟩), .string (tx wLeave), .slice B L.length c] w fun e w' => ∃ v, e = .returned v ∧ RetL (ι := Co × Option Addr × Nat × Option Addr × Nat × List UInt8) (fun _ => True) (fun (_, _, _, _, _, t) => .tuple #[.string (tx t), .bool false]) (fun (d', P1, k1, P2, k2, _) => [.blk gc 39 (d'.at P1 k1 P2 k2), .gone, .gone]) (fun _ => []) w0 v w' := by
  have hg := hf.2.2
  have hm := hg.2
  have hw_Step : ¬ tx wLeave = ({ data := #[115, 116, 101, 112] } : ByteArray) := by decide
  have hw_Go : ¬ tx wLeave = ({ data := #[103, 111] } : ByteArray) := by decide
  have hw_Plan : ¬ tx wLeave = ({ data := #[112, 108, 97, 110] } : ByteArray) := by decide
  have hw_Head : ¬ tx wLeave = ({ data := #[104, 101, 97, 100] } : ByteArray) := by decide
  have hw_Level : ¬ tx wLeave = ({ data := #[108, 101, 118, 101, 108] } : ByteArray) := by decide
  have hw_Flow : ¬ tx wLeave = ({ data := #[102, 108, 111, 119] } : ByteArray) := by decide
  have hw_Water : ¬ tx wLeave = ({ data := #[119, 97, 116, 101, 114] } : ByteArray) := by decide
  have hw_Arrive : ¬ tx wLeave = ({ data := #[97, 114, 114, 105, 118, 101] } : ByteArray) := by decide
  have hD := fun (w0 : Base) (w : World) g hbx hB m => delNo_v (w0 := w0) (w := w) A2 B d.m c2 g c d.wa L hm hl hbx hB h m
  refine calls_of_vcL (w0 := w0) tb_ok (args := [.pointer (some ⟨gc, 0, none⟩), .string (tx wLeave), .slice B L.length c]) Tryz.func114 rfl m0 ?_
  (repeat' ((conv => whnf); first | refine go ?_ | (refine VSome.mk ?_; intro gQ hA'; first | subst hA' | cases hA' | (dsimp only at hA'; subst hA')) | refine And.intro ?_ ?_ | intro _ | (first | ((show VCall _ _ _ 149 [_, _] _); refine VCall.fullS [2] (by simp) (fun _ => rfl) (fun w1 m1 m2 => hD _ w1 _ (OldSeen.any m1 [2] (by repeat (first | exact At.here | apply At.there)) (by decide)) (hB.lend m1 [2]) m2) (fun i hi => ?_)) | ((show VDraw _ _ _ #[{ dst := some 195, op := _, type := _, pos := _, after := _, guard := _ }, _, _, _, _, _, _, _, _] _ _); refine VDraw.mk (.take 0 (.take 1 (.take 2 (.take 3 (.take 4 (.take 5 (.take 6 (.take 7 (.take 8 .done))))))))) [0] (by kernel_rfl) (by kernel_rfl) ?_))))
  all_goals (conv => whnf)
  all_goals exact VRet.mk fun w' m => ⟨(d, A1, c1, A2, c2, wOk), trivial, rfl, m.sel (ks := [0, 100, 101]) (by simp)⟩
set_option maxHeartbeats 8000000 in
theorem iExBound_v {w0 : Base} {w : World} (d : Co) (gc : Nat) (A1 : Option Addr) (c1 : Nat) (A2 : Option Addr) (c2 : Nat) (B : Option Addr) (c : Nat) (L : List Int) (hf : d.fit) (ht : Old2 w0) (hB : OldSeen w0 B (IL L)) (hl : 0 < L.length) (h : 1 ≤ a0 L 0 ∧ a0 L 0 ≤ 60) (m0 : Mem w0 [.blk gc 39 (d.at A1 c1 A2 c2), .row (.slice A1 d.n c1) 96 3 d.n (BaS d.n d.ba), .row (.slice A2 d.m c2) 98 4 d.m (AwS d.m d.wa)] w) :
    Calls Tryz.prog 114 #[.pointer (some ⟨gc, 0, none⟩), .string (tx wBound), .slice B L.length c] w fun e w' => ∃ v, e = .returned v ∧ RetL (ι := Option Addr × Nat × Option Addr × Nat) (fun _ => True) (fun _ => .tuple #[.string (tx (Lib.itoa (loB d.wa (a0 L 0) d.lock.high d.m))), .bool true]) (fun (P1, k1, P2, k2) => [.blk gc 39 ((d : Co).at P1 k1 P2 k2), .row (.slice P1 (d : Co).n k1) 96 3 (d : Co).n (BaS (d : Co).n (d : Co).ba), .row (.slice P2 (d : Co).m k2) 98 4 (d : Co).m (AwS (d : Co).m (d : Co).wa)]) (fun _ => []) w0 v w' := by
  have hg := hf.2.2
  have hm := hg.2
  obtain ⟨bb, off, rfl, hbb, hnl, hcc⟩ := IL_old hB hl
  have hw_Step : ¬ tx wBound = ({ data := #[115, 116, 101, 112] } : ByteArray) := by decide
  have hw_Go : ¬ tx wBound = ({ data := #[103, 111] } : ByteArray) := by decide
  have hw_Plan : ¬ tx wBound = ({ data := #[112, 108, 97, 110] } : ByteArray) := by decide
  have hw_Head : ¬ tx wBound = ({ data := #[104, 101, 97, 100] } : ByteArray) := by decide
  have hw_Level : ¬ tx wBound = ({ data := #[108, 101, 118, 101, 108] } : ByteArray) := by decide
  have hw_Flow : ¬ tx wBound = ({ data := #[102, 108, 111, 119] } : ByteArray) := by decide
  have hw_Water : ¬ tx wBound = ({ data := #[119, 97, 116, 101, 114] } : ByteArray) := by decide
  have hw_Arrive : ¬ tx wBound = ({ data := #[97, 114, 114, 105, 118, 101] } : ByteArray) := by decide
  have hw_Leave : ¬ tx wBound = ({ data := #[108, 101, 97, 118, 101] } : ByteArray) := by decide
  have hO := fun w hA ht => iOrdBound_v d A1 c1 A2 c2 (a0 L 0) w hf.1 hg h.1 h.2 hA ht
  generalize tx (Lib.itoa (loB d.wa (a0 L 0) d.lock.high d.m)) = tt at hO ⊢
  refine calls_of_vcL (w0 := w0) tb_ok (args := [.pointer (some ⟨gc, 0, none⟩), .string (tx wBound), .slice (some ⟨bb, off, none⟩) L.length c]) Tryz.func114 rfl m0 ?_
  (repeat' ((conv => whnf); first | refine go ?_ | (refine VSome.mk ?_; intro gQ hA'; first | subst hA' | cases hA' | (dsimp only at hA'; subst hA')) | refine And.intro ?_ ?_ | intro _ | (first | ((show VCall _ _ _ 151 _ _); refine VCall.grow _ (fun w1 m1 => hO w1 (Sees.any m1 fndA) (ht.now m1).1) ?_) | ((show VDraw _ _ _ #[{ dst := some 202, op := _, type := _, pos := _, after := _, guard := _ }, _, _, _, _, _, _, _, _, _, _, _] _ _); refine VDraw.mk (.take 0 (.take 1 (.take 2 (.take 3 (.take 4 (.take 5 (.take 6 (.br 7 (.take 8 (.take 9 (.take 10 (.take 11 .done)))) .done)))))))) [0, 3] (by kernel_rfl) (by kernel_rfl) ?_) | ((show VIdx _ _ _ _ _ _ _); first | (refine VIdx.at_ rfl 0 rfl (by omega) ?_)) | ((show VLoad1 _ _ _ _ _); first | (refine VLoad1.mk _ (Rd.old hbb hnl (hcc 0 (by omega))) ?_) ))))
  all_goals (conv => whnf)
  all_goals exact VRet.mk fun w' m => ⟨(A1, c1, A2, c2), trivial, rfl, m.sel (ks := [0, 1, 2]) (by simp)⟩
set_option maxHeartbeats 8000000 in
theorem iExDelay_v {w0 : Base} {w : World} (d : Co) (gc : Nat) (A1 : Option Addr) (c1 : Nat) (A2 : Option Addr) (c2 : Nat) (B : Option Addr) (c : Nat) (L : List Int) (hf : d.fit) (ht : Old2 w0) (hB : OldSeen w0 B (IL L)) (hl : 0 < L.length) (h : 1 ≤ a0 L 0 ∧ a0 L 0 ≤ 60) (m0 : Mem w0 [.blk gc 39 (d.at A1 c1 A2 c2), .row (.slice A1 d.n c1) 96 3 d.n (BaS d.n d.ba), .row (.slice A2 d.m c2) 98 4 d.m (AwS d.m d.wa)] w) :
    Calls Tryz.prog 114 #[.pointer (some ⟨gc, 0, none⟩), .string (tx wDelay), .slice B L.length c] w fun e w' => ∃ v, e = .returned v ∧ RetL (ι := Option Addr × Nat × Option Addr × Nat) (fun _ => True) (fun _ => .tuple #[.string (tx (Lib.itoa (best d.m d.wa (a0 L 0) d.lock.high d.m []).2)), .bool true]) (fun (P1, k1, P2, k2) => [.blk gc 39 ((d : Co).at P1 k1 P2 k2), .row (.slice P1 (d : Co).n k1) 96 3 (d : Co).n (BaS (d : Co).n (d : Co).ba), .row (.slice P2 (d : Co).m k2) 98 4 (d : Co).m (AwS (d : Co).m (d : Co).wa)]) (fun _ => []) w0 v w' := by
  have hg := hf.2.2
  have hm := hg.2
  obtain ⟨bb, off, rfl, hbb, hnl, hcc⟩ := IL_old hB hl
  have hw_Step : ¬ tx wDelay = ({ data := #[115, 116, 101, 112] } : ByteArray) := by decide
  have hw_Go : ¬ tx wDelay = ({ data := #[103, 111] } : ByteArray) := by decide
  have hw_Plan : ¬ tx wDelay = ({ data := #[112, 108, 97, 110] } : ByteArray) := by decide
  have hw_Head : ¬ tx wDelay = ({ data := #[104, 101, 97, 100] } : ByteArray) := by decide
  have hw_Level : ¬ tx wDelay = ({ data := #[108, 101, 118, 101, 108] } : ByteArray) := by decide
  have hw_Flow : ¬ tx wDelay = ({ data := #[102, 108, 111, 119] } : ByteArray) := by decide
  have hw_Water : ¬ tx wDelay = ({ data := #[119, 97, 116, 101, 114] } : ByteArray) := by decide
  have hw_Arrive : ¬ tx wDelay = ({ data := #[97, 114, 114, 105, 118, 101] } : ByteArray) := by decide
  have hw_Leave : ¬ tx wDelay = ({ data := #[108, 101, 97, 118, 101] } : ByteArray) := by decide
  have hO := fun w hA ht => iOrdDelay_v d A1 c1 A2 c2 (a0 L 0) w hf.1 hg h.1 h.2 hA ht
  generalize tx (Lib.itoa (best d.m d.wa (a0 L 0) d.lock.high d.m []).2) = tt at hO ⊢
  refine calls_of_vcL (w0 := w0) tb_ok (args := [.pointer (some ⟨gc, 0, none⟩), .string (tx wDelay), .slice (some ⟨bb, off, none⟩) L.length c]) Tryz.func114 rfl m0 ?_
  (repeat' ((conv => whnf); first | refine go ?_ | (refine VSome.mk ?_; intro gQ hA'; first | subst hA' | cases hA' | (dsimp only at hA'; subst hA')) | refine And.intro ?_ ?_ | intro _ | (first | ((show VCall _ _ _ 151 _ _); refine VCall.grow _ (fun w1 m1 => hO w1 (Sees.any m1 fndA) (ht.now m1).1) ?_) | ((show VDraw _ _ _ #[{ dst := some 202, op := _, type := _, pos := _, after := _, guard := _ }, _, _, _, _, _, _, _, _, _, _, _] _ _); refine VDraw.mk (.take 0 (.take 1 (.take 2 (.take 3 (.take 4 (.take 5 (.take 6 (.br 7 (.take 8 (.take 9 (.take 10 (.take 11 .done)))) .done)))))))) [0, 3] (by kernel_rfl) (by kernel_rfl) ?_) | ((show VIdx _ _ _ _ _ _ _); first | (refine VIdx.at_ rfl 0 rfl (by omega) ?_)) | ((show VLoad1 _ _ _ _ _); first | (refine VLoad1.mk _ (Rd.old hbb hnl (hcc 0 (by omega))) ?_) ))))
  all_goals (conv => whnf)
  all_goals exact VRet.mk fun w' m => ⟨(A1, c1, A2, c2), trivial, rfl, m.sel (ks := [0, 1, 2]) (by simp)⟩
set_option maxHeartbeats 8000000 in
theorem iExBest_v {w0 : Base} {w : World} (d : Co) (gc : Nat) (A1 : Option Addr) (c1 : Nat) (A2 : Option Addr) (c2 : Nat) (B : Option Addr) (c : Nat) (L : List Int) (hf : d.fit) (ht : Old2 w0) (hB : OldSeen w0 B (IL L)) (hl : 0 < L.length) (h : 1 ≤ a0 L 0 ∧ a0 L 0 ≤ 60) (m0 : Mem w0 [.blk gc 39 (d.at A1 c1 A2 c2), .row (.slice A1 d.n c1) 96 3 d.n (BaS d.n d.ba), .row (.slice A2 d.m c2) 98 4 d.m (AwS d.m d.wa)] w) :
    Calls Tryz.prog 114 #[.pointer (some ⟨gc, 0, none⟩), .string (tx wBest), .slice B L.length c] w fun e w' => ∃ v, e = .returned v ∧ RetL (ι := Option Addr × Nat × Option Addr × Nat) (fun _ => True) (fun _ => .tuple #[.string (tx (ltx (idsOf d.wa (best d.m d.wa (a0 L 0) d.lock.high d.m []).1))), .bool true]) (fun (P1, k1, P2, k2) => [.blk gc 39 ((d : Co).at P1 k1 P2 k2), .row (.slice P1 (d : Co).n k1) 96 3 (d : Co).n (BaS (d : Co).n (d : Co).ba), .row (.slice P2 (d : Co).m k2) 98 4 (d : Co).m (AwS (d : Co).m (d : Co).wa)]) (fun _ => []) w0 v w' := by
  have hg := hf.2.2
  have hm := hg.2
  obtain ⟨bb, off, rfl, hbb, hnl, hcc⟩ := IL_old hB hl
  have hw_Step : ¬ tx wBest = ({ data := #[115, 116, 101, 112] } : ByteArray) := by decide
  have hw_Go : ¬ tx wBest = ({ data := #[103, 111] } : ByteArray) := by decide
  have hw_Plan : ¬ tx wBest = ({ data := #[112, 108, 97, 110] } : ByteArray) := by decide
  have hw_Head : ¬ tx wBest = ({ data := #[104, 101, 97, 100] } : ByteArray) := by decide
  have hw_Level : ¬ tx wBest = ({ data := #[108, 101, 118, 101, 108] } : ByteArray) := by decide
  have hw_Flow : ¬ tx wBest = ({ data := #[102, 108, 111, 119] } : ByteArray) := by decide
  have hw_Water : ¬ tx wBest = ({ data := #[119, 97, 116, 101, 114] } : ByteArray) := by decide
  have hw_Arrive : ¬ tx wBest = ({ data := #[97, 114, 114, 105, 118, 101] } : ByteArray) := by decide
  have hw_Leave : ¬ tx wBest = ({ data := #[108, 101, 97, 118, 101] } : ByteArray) := by decide
  have hO := fun w hA ht => iOrdBest_v d A1 c1 A2 c2 wBest (a0 L 0) w hf.1 hg h.1 h.2 (by decide) (by decide) hA ht
  generalize tx (ltx (idsOf d.wa (best d.m d.wa (a0 L 0) d.lock.high d.m []).1)) = tt at hO ⊢
  refine calls_of_vcL (w0 := w0) tb_ok (args := [.pointer (some ⟨gc, 0, none⟩), .string (tx wBest), .slice (some ⟨bb, off, none⟩) L.length c]) Tryz.func114 rfl m0 ?_
  (repeat' ((conv => whnf); first | refine go ?_ | (refine VSome.mk ?_; intro gQ hA'; first | subst hA' | cases hA' | (dsimp only at hA'; subst hA')) | refine And.intro ?_ ?_ | intro _ | (first | ((show VCall _ _ _ 151 _ _); refine VCall.grow _ (fun w1 m1 => hO w1 (Sees.any m1 fndA) (ht.now m1).1) ?_) | ((show VDraw _ _ _ #[{ dst := some 202, op := _, type := _, pos := _, after := _, guard := _ }, _, _, _, _, _, _, _, _, _, _, _] _ _); refine VDraw.mk (.take 0 (.take 1 (.take 2 (.take 3 (.take 4 (.take 5 (.take 6 (.br 7 (.take 8 (.take 9 (.take 10 (.take 11 .done)))) .done)))))))) [0, 3] (by kernel_rfl) (by kernel_rfl) ?_) | ((show VIdx _ _ _ _ _ _ _); first | (refine VIdx.at_ rfl 0 rfl (by omega) ?_)) | ((show VLoad1 _ _ _ _ _); first | (refine VLoad1.mk _ (Rd.old hbb hnl (hcc 0 (by omega))) ?_) ))))
  all_goals (conv => whnf)
  all_goals exact VRet.mk fun w' m => ⟨(A1, c1, A2, c2), trivial, rfl, m.sel (ks := [0, 1, 2]) (by simp)⟩
set_option maxHeartbeats 8000000 in
theorem iExOrd_no {w0 : Base} {w : World} (d : Co) (gc : Nat) (A1 : Option Addr) (c1 : Nat) (A2 : Option Addr) (c2 : Nat) (B : Option Addr) (c : Nat) (L : List Int) (hf : d.fit) (ht : Old2 w0) (hB : OldSeen w0 B (IL L)) (hl : 0 < L.length) (x : List UInt8) (hx : ¬ x = wStep ∧ ¬ x = wGo ∧ ¬ x = wPlan ∧ ¬ x = wHead ∧ ¬ x = wLevel ∧ ¬ x = wFlow ∧ ¬ x = wWater ∧ ¬ x = wArrive ∧ ¬ x = wLeave) (h : ¬ (1 ≤ a0 L 0 ∧ a0 L 0 ≤ 60)) (m0 : Mem w0 [.blk gc 39 (d.at A1 c1 A2 c2), .row (.slice A1 d.n c1) 96 3 d.n (BaS d.n d.ba), .row (.slice A2 d.m c2) 98 4 d.m (AwS d.m d.wa)] w) :
    Calls Tryz.prog 114 #[.pointer (some ⟨gc, 0, none⟩), .string (tx x), .slice B L.length c] w fun e w' => ∃ v, e = .returned v ∧ RetL (ι := Co × Option Addr × Nat × Option Addr × Nat × List UInt8) (fun _ => True) (fun (_, _, _, _, _, t) => .tuple #[.string (tx t), .bool false]) (fun (d', P1, k1, P2, k2, _) => [.blk gc 39 (d'.at P1 k1 P2 k2), .gone, .gone]) (fun _ => []) w0 v w' := by
  have hg := hf.2.2
  have hm := hg.2
  obtain ⟨bb, off, rfl, hbb, hnl, hcc⟩ := IL_old hB hl
  have hw_Step : ¬ tx x = ({ data := #[115, 116, 101, 112] } : ByteArray) := fun q => hx.1 (tx_inj (q.trans (by rfl : _ = tx wStep)))
  have hw_Go : ¬ tx x = ({ data := #[103, 111] } : ByteArray) := fun q => hx.2.1 (tx_inj (q.trans (by rfl : _ = tx wGo)))
  have hw_Plan : ¬ tx x = ({ data := #[112, 108, 97, 110] } : ByteArray) := fun q => hx.2.2.1 (tx_inj (q.trans (by rfl : _ = tx wPlan)))
  have hw_Head : ¬ tx x = ({ data := #[104, 101, 97, 100] } : ByteArray) := fun q => hx.2.2.2.1 (tx_inj (q.trans (by rfl : _ = tx wHead)))
  have hw_Level : ¬ tx x = ({ data := #[108, 101, 118, 101, 108] } : ByteArray) := fun q => hx.2.2.2.2.1 (tx_inj (q.trans (by rfl : _ = tx wLevel)))
  have hw_Flow : ¬ tx x = ({ data := #[102, 108, 111, 119] } : ByteArray) := fun q => hx.2.2.2.2.2.1 (tx_inj (q.trans (by rfl : _ = tx wFlow)))
  have hw_Water : ¬ tx x = ({ data := #[119, 97, 116, 101, 114] } : ByteArray) := fun q => hx.2.2.2.2.2.2.1 (tx_inj (q.trans (by rfl : _ = tx wWater)))
  have hw_Arrive : ¬ tx x = ({ data := #[97, 114, 114, 105, 118, 101] } : ByteArray) := fun q => hx.2.2.2.2.2.2.2.1 (tx_inj (q.trans (by rfl : _ = tx wArrive)))
  have hw_Leave : ¬ tx x = ({ data := #[108, 101, 97, 118, 101] } : ByteArray) := fun q => hx.2.2.2.2.2.2.2.2 (tx_inj (q.trans (by rfl : _ = tx wLeave)))
  have hO := fun w hA ht => iOrdNo_v d A1 c1 A2 c2 x (a0 L 0) w hf.1 hg h hA ht
  refine calls_of_vcL (w0 := w0) tb_ok (args := [.pointer (some ⟨gc, 0, none⟩), .string (tx x), .slice (some ⟨bb, off, none⟩) L.length c]) Tryz.func114 rfl m0 ?_
  (repeat' ((conv => whnf); first | refine go ?_ | (refine VSome.mk ?_; intro gQ hA'; first | subst hA' | cases hA' | (dsimp only at hA'; subst hA')) | refine And.intro ?_ ?_ | intro _ | (first | ((show VCall _ _ _ 151 _ _); refine VCall.some _ _ (fun w1 m1 => hO w1 (Sees.any m1 fndA) (ht.now m1).1) (fun t9 _ => ?_)) | ((show VDraw _ _ _ #[{ dst := some 202, op := _, type := _, pos := _, after := _, guard := _ }, _, _, _, _, _, _, _, _, _, _, _] _ _); refine VDraw.mk (.take 0 (.take 1 (.take 2 (.take 3 (.take 4 (.take 5 (.take 6 (.br 7 (.take 8 (.take 9 (.take 10 (.take 11 .done)))) .done)))))))) [0, 3] (by kernel_rfl) (by kernel_rfl) ?_) | ((show VIdx _ _ _ _ _ _ _); first | (refine VIdx.at_ rfl 0 rfl (by omega) ?_)) | ((show VLoad1 _ _ _ _ _); first | (refine VLoad1.mk _ (Rd.old hbb hnl (hcc 0 (by omega))) ?_) ))))
  all_goals (conv => whnf)
  all_goals exact VRet.mk fun w' m => ⟨(d, A1, c1, A2, c2, t9), trivial, rfl, m.sel (ks := [0, 100, 101]) (by simp)⟩
end Go.Proofs.YtadjhkehfklmnaaGreatDoor
namespace Go.Proofs.YtadjhkehfklmnaaGreatDoor
set_option linter.unusedSimpArgs false
set_option linter.unusedVariables false
open Go.RowKit
set_option maxRecDepth 10000
theorem iEx_yes {w0 : Base} {w : World} (d : Co) (gc : Nat) (A1 : Option Addr) (c1 : Nat) (A2 : Option Addr) (c2 : Nat) (B : Option Addr) (c : Nat) (L : List Int) (hf : d.fit) (ht : Old2 w0) (hB : OldSeen w0 B (IL L)) (x : List UInt8) (hx : (pat x).2 = true) (hL : L.length = (pat x).1.length) {c' : Co} {t : List UInt8} (h : d.ex x L = some (c', t)) (m0 : Mem w0 [.blk gc 39 (d.at A1 c1 A2 c2), .row (.slice A1 d.n c1) 96 3 d.n (BaS d.n d.ba), .row (.slice A2 d.m c2) 98 4 d.m (AwS d.m d.wa)] w) :
    Calls Tryz.prog 114 #[.pointer (some ⟨gc, 0, none⟩), .string (tx x), .slice B L.length c] w fun e w' => ∃ v, e = .returned v ∧ RetL (ι := Option Addr × Nat × Option Addr × Nat) (fun _ => True) (fun _ => .tuple #[.string (tx (t)), .bool true]) (fun (P1, k1, P2, k2) => [.blk gc 39 ((c' : Co).at P1 k1 P2 k2), .row (.slice P1 (c' : Co).n k1) 96 3 (c' : Co).n (BaS (c' : Co).n (c' : Co).ba), .row (.slice P2 (c' : Co).m k2) 98 4 (c' : Co).m (AwS (c' : Co).m (c' : Co).wa)]) (fun _ => []) w0 v w' := by
  rcases pat_all x with ⟨e, hp⟩ | ⟨e, hp⟩ | ⟨e, hp⟩ | ⟨e, hp⟩ | ⟨e, hp⟩ | ⟨e, hp⟩
  · rcases e with rfl | rfl
    · rw [Co.ex_level] at h; cases h; exact iExLevel_v d gc A1 c1 A2 c2 B c L hf ht hB m0
    · rw [Co.ex_water] at h; cases h; exact iExWater_v d gc A1 c1 A2 c2 B c L hf ht hB m0
  · have hl : 0 < L.length := by rw [hL, hp]; decide
    rcases e with rfl | rfl | rfl | rfl | rfl
    · rw [Co.ex_step] at h
      by_cases h1 : d.lock.okStep (a0 L 0)
      · rw [ite_tr h1] at h; cases h; exact iExStep_yes d gc A1 c1 A2 c2 B c L hf ht hB hl h1 m0
      · rw [ite_ntr h1] at h; cases h
    · rw [Co.ex_leave] at h
      cases e : fnd d.wa (a0 L 0) d.m with
      | some i => rw [e] at h; cases h; exact iExLeave_yes d gc A1 c1 A2 c2 B c L hf ht hB hl e m0
      | none => rw [e] at h; cases h
    · rw [Co.ex_best] at h
      by_cases h1 : 1 ≤ a0 L 0 ∧ a0 L 0 ≤ 60
      · rw [ite_tr h1] at h; cases h; exact iExBest_v d gc A1 c1 A2 c2 B c L hf ht hB hl h1 m0
      · rw [ite_ntr h1] at h; cases h
    · rw [Co.ex_delay] at h
      by_cases h1 : 1 ≤ a0 L 0 ∧ a0 L 0 ≤ 60
      · rw [ite_tr h1] at h; cases h; exact iExDelay_v d gc A1 c1 A2 c2 B c L hf ht hB hl h1 m0
      · rw [ite_ntr h1] at h; cases h
    · rw [Co.ex_bound] at h
      by_cases h1 : 1 ≤ a0 L 0 ∧ a0 L 0 ≤ 60
      · rw [ite_tr h1] at h; cases h; exact iExBound_v d gc A1 c1 A2 c2 B c L hf ht hB hl h1 m0
      · rw [ite_ntr h1] at h; cases h
  · have hl : 0 < L.length := by rw [hL, hp]; decide
    rcases e with rfl | rfl | rfl
    · rw [Co.ex_go] at h; cases h; exact iExGo_v d gc A1 c1 A2 c2 B c L hf ht hB hl m0
    · rw [Co.ex_plan] at h; cases h; exact iExPlan_v d gc A1 c1 A2 c2 B c L hf ht hB hl m0
    · rw [Co.ex_head] at h; cases h; exact iExHead_v d gc A1 c1 A2 c2 B c L hf ht hB hl m0
  · have hl : L.length = 3 := by rw [hL, hp]; rfl
    subst e
    rw [Co.ex_flow] at h
    by_cases h1 : bCan d.n d.ba (a0 L 0) (a0 L 1) (a0 L 2)
    · rw [ite_tr h1] at h; cases h; exact iExFlow_yes d gc A1 c1 A2 c2 B c L hf ht hB hl h1 m0
    · rw [ite_ntr h1] at h; cases h
  · have hl : L.length = 4 := by rw [hL, hp]; rfl
    subst e
    rw [Co.ex_arrive] at h
    by_cases h1 : aGood (d.m + 1) (insF d.wa (plc d.wa (a0 L 0) d.m 0) ⟨a0 L 0, isOne (a0 L 1), a0 L 2, a0 L 3⟩)
    · rw [ite_tr h1] at h; cases h; exact iExArrive_yes d gc A1 c1 A2 c2 B c L hf ht hB hl h1 m0
    · rw [ite_ntr h1] at h; cases h
  · rw [hp] at hx; cases hx
theorem iEx_no {w0 : Base} {w : World} (d : Co) (gc : Nat) (A1 : Option Addr) (c1 : Nat) (A2 : Option Addr) (c2 : Nat) (B : Option Addr) (c : Nat) (L : List Int) (hf : d.fit) (ht : Old2 w0) (hB : OldSeen w0 B (IL L)) (x : List UInt8) (hx : (pat x).2 = true) (hL : L.length = (pat x).1.length) (h : d.ex x L = none) (m0 : Mem w0 [.blk gc 39 (d.at A1 c1 A2 c2), .row (.slice A1 d.n c1) 96 3 d.n (BaS d.n d.ba), .row (.slice A2 d.m c2) 98 4 d.m (AwS d.m d.wa)] w) :
    Calls Tryz.prog 114 #[.pointer (some ⟨gc, 0, none⟩), .string (tx x), .slice B L.length c] w fun e w' => ∃ v, e = .returned v ∧ RetL (ι := Co × Option Addr × Nat × Option Addr × Nat × List UInt8) (fun _ => True) (fun (_, _, _, _, _, t) => .tuple #[.string (tx t), .bool false]) (fun (d', P1, k1, P2, k2, _) => [.blk gc 39 (d'.at P1 k1 P2 k2), .gone, .gone]) (fun _ => []) w0 v w' := by
  rcases pat_all x with ⟨e, hp⟩ | ⟨e, hp⟩ | ⟨e, hp⟩ | ⟨e, hp⟩ | ⟨e, hp⟩ | ⟨e, hp⟩
  · rcases e with rfl | rfl
    · rw [Co.ex_level] at h; cases h
    · rw [Co.ex_water] at h; cases h
  · have hl : 0 < L.length := by rw [hL, hp]; decide
    rcases e with rfl | rfl | rfl | rfl | rfl
    · rw [Co.ex_step] at h
      by_cases h1 : d.lock.okStep (a0 L 0)
      · rw [ite_tr h1] at h; cases h
      · exact iExStep_no d gc A1 c1 A2 c2 B c L hf ht hB hl h1 m0
    · rw [Co.ex_leave] at h
      cases e : fnd d.wa (a0 L 0) d.m with
      | some i => rw [e] at h; cases h
      | none => exact iExLeave_no d gc A1 c1 A2 c2 B c L hf ht hB hl e m0
    · rw [Co.ex_best] at h
      by_cases h1 : 1 ≤ a0 L 0 ∧ a0 L 0 ≤ 60
      · rw [ite_tr h1] at h; cases h
      · exact iExOrd_no d gc A1 c1 A2 c2 B c L hf ht hB hl wBest (by decide) h1 m0
    · rw [Co.ex_delay] at h
      by_cases h1 : 1 ≤ a0 L 0 ∧ a0 L 0 ≤ 60
      · rw [ite_tr h1] at h; cases h
      · exact iExOrd_no d gc A1 c1 A2 c2 B c L hf ht hB hl wDelay (by decide) h1 m0
    · rw [Co.ex_bound] at h
      by_cases h1 : 1 ≤ a0 L 0 ∧ a0 L 0 ≤ 60
      · rw [ite_tr h1] at h; cases h
      · exact iExOrd_no d gc A1 c1 A2 c2 B c L hf ht hB hl wBound (by decide) h1 m0
  · rcases e with rfl | rfl | rfl
    · rw [Co.ex_go] at h; cases h
    · rw [Co.ex_plan] at h; cases h
    · rw [Co.ex_head] at h; cases h
  · have hl : L.length = 3 := by rw [hL, hp]; rfl
    subst e
    rw [Co.ex_flow] at h
    by_cases h1 : bCan d.n d.ba (a0 L 0) (a0 L 1) (a0 L 2)
    · rw [ite_tr h1] at h; cases h
    · exact iExFlow_no d gc A1 c1 A2 c2 B c L hf ht hB hl h1 m0
  · have hl : L.length = 4 := by rw [hL, hp]; rfl
    subst e
    rw [Co.ex_arrive] at h
    by_cases h1 : aGood (d.m + 1) (insF d.wa (plc d.wa (a0 L 0) d.m 0) ⟨a0 L 0, isOne (a0 L 1), a0 L 2, a0 L 3⟩)
    · rw [ite_tr h1] at h; cases h
    · exact iExArrive_no d gc A1 c1 A2 c2 B c L hf ht hB hl h1 m0
  · rw [hp] at hx; cases hx
theorem parse_sps {line x : List UInt8} {L : List Int} (h : parse line = some (x, L)) : ∃ r, sps 32 line = x :: r ∧ (pat x).2 = true ∧ rwZ (pat x).1 r = some L := by
  unfold parse at h
  cases e : sps 32 line with
  | nil => rw [e] at h; cases h
  | cons w r =>
    rw [e] at h
    dsimp only at h
    by_cases h2 : (pat w).2 = true
    · rw [if_pos h2] at h
      cases e2 : rwZ (pat w).1 r with
      | none => rw [e2] at h; cases h
      | some l => rw [e2] at h; cases h; exact ⟨r, rfl, h2, e2⟩
    · rw [if_neg h2] at h; cases h
theorem parse_none {line : List UInt8} (h : parse line = none) : ∃ x r, sps 32 line = x :: r ∧ ((pat x) = ([], false) ∨ (pat x).2 = true ∧ rwZ (pat x).1 r = none) := by
  unfold parse at h
  cases e : sps 32 line with
  | nil => have := sps_ne 32 line; rw [e] at this; simp at this
  | cons w r =>
    rw [e] at h
    dsimp only at h
    refine ⟨w, r, rfl, ?_⟩
    by_cases h2 : (pat w).2 = true
    · rw [if_pos h2] at h
      cases e2 : rwZ (pat w).1 r with
      | none => exact .inr ⟨h2, rfl⟩
      | some l => rw [e2] at h; cases h
    · rcases pat_all w with ⟨_, hp⟩ | ⟨_, hp⟩ | ⟨_, hp⟩ | ⟨_, hp⟩ | ⟨_, hp⟩ | ⟨_, hp⟩
      · rw [hp] at h2; exact absurd rfl h2
      · rw [hp] at h2; exact absurd rfl h2
      · rw [hp] at h2; exact absurd rfl h2
      · rw [hp] at h2; exact absurd rfl h2
      · rw [hp] at h2; exact absurd rfl h2
      · exact .inl hp
theorem pat_len (x : List UInt8) : (pat x).1.length ≤ 4 := by
  rcases pat_all x with ⟨_, hp⟩ | ⟨_, hp⟩ | ⟨_, hp⟩ | ⟨_, hp⟩ | ⟨_, hp⟩ | ⟨_, hp⟩ <;> (rw [hp]; decide)
set_option maxHeartbeats 8000000 in
theorem iLine_yes {w0 : Base} {w : World} (d : Co) (gc : Nat) (A1 : Option Addr) (c1 : Nat) (A2 : Option Addr) (c2 : Nat) (line : List UInt8) (hf : d.fit) (ht : Old2 w0) (hl : line.length ≤ 1048575) {x : List UInt8} {L : List Int} (hp : parse line = some (x, L)) {c' : Co} {t : List UInt8} (h : d.ex x L = some (c', t)) (m0 : Mem w0 [.blk gc 39 (d.at A1 c1 A2 c2), .row (.slice A1 d.n c1) 96 3 d.n (BaS d.n d.ba), .row (.slice A2 d.m c2) 98 4 d.m (AwS d.m d.wa)] w) :
    Calls Tryz.prog 77 #[.pointer (some ⟨gc, 0, none⟩), .string (tx line)] w fun e w' => ∃ v, e = .returned v ∧ RetL (ι := Option Addr × Nat × Option Addr × Nat) (fun _ => True) (fun _ => .tuple #[.string (tx (t)), .bool true]) (fun (P1, k1, P2, k2) => [.blk gc 39 ((c' : Co).at P1 k1 P2 k2), .row (.slice P1 (c' : Co).n k1) 96 3 (c' : Co).n (BaS (c' : Co).n (c' : Co).ba), .row (.slice P2 (c' : Co).m k2) 98 4 (c' : Co).m (AwS (c' : Co).m (c' : Co).wa)]) (fun _ => []) w0 v w' := by
  obtain ⟨r, hs, hx, hz⟩ := parse_sps hp
  have hL := (rwZ_len hz).2
  obtain ⟨hr1, hr2⟩ : r.length ≤ 1048576 ∧ ∀ y ∈ r, y.length ≤ 1048576 := by
    have h1 := sps_len 32 line
    have h2 := sps_total 32 _ line (Nat.le_refl _)
    rw [hs] at h1 h2
    simp only [List.length_cons] at h1
    exact ⟨by omega, fun y hy => by have := (h2 y (List.mem_cons_of_mem _ hy)).1; omega⟩
  have hSp := fun w ht => split_v line w (by omega) ht
  rw [hs] at hSp
  have hPt := fun w => pattern_v x w
  have hpl := pat_len x
  have hRd := fun B c w hB ht => readWords_v B c (pat x).1 r w (by omega) hr1 hr2 hB ht
  rw [hz] at hRd
  rw [hx] at hPt
  have hEx := fun w B c (w0 : Base) ht hB m => iEx_yes (w0 := w0) (w := w) d gc A1 c1 A2 c2 B c L hf ht hB x hx hL h m
  generalize (pat x).1 = ps at *
  refine calls_of_vcL (w0 := w0) tb_ok (args := [.pointer (some ⟨gc, 0, none⟩), .string (tx line)]) Tryz.func77 rfl m0 ?_
  all_goals (have q0 : (TS (x :: r))[mulS 0 1]? = some (.string (tx x)) := rfl; have q1 : (TS (x :: r))[0 + mulS 0 1]? = some (.string (tx x)) := rfl; have ql : 0 < (x :: r).length := Nat.succ_pos _)
  (repeat' ((conv => whnf); first | refine go ?_ | (refine VSome.mk ?_; intro gQ hA'; first | subst hA' | cases hA' | (dsimp only at hA'; subst hA')) | refine And.intro ?_ ?_ | intro _ | (first | ((show VCall _ _ _ 48 _ _); refine VCall.ret (fun w1 m1 => hSp w1 (ht.now m1)) (fun g9 _ => ?_)) | ((show VCall _ _ _ 112 _ _); refine VCall.grow _ (fun w1 m1 => hPt w1) ?_) | ((show VCall _ _ _ 113 _ _); refine VCall.ret (fun w1 m1 => hRd _ _ w1 (Seen.tail (B := _) (n := (x :: r).length) (k := 1) (Sees.any m1 fndA) hT9 (TS_len1 _)) (ht.now m1)) (fun i9 _ => ?_); obtain ⟨P, cp⟩ := i9) | ((show VIdx _ _ _ _ _ _ _); refine VIdx.at_ rfl 0 rfl ql ?_) | ((show VCut _ _ _ _ _ _ _); refine VCut.tail 1 rfl (by simp) (Nat.le_refl _) (Plain.some _ _) (fun B9 d9 hT9 _ => ?_)) | ((show VCall _ _ _ 114 [_, _, _] _); refine VCall.fullS [0, 1, 2] (by simp) (fun _ => rfl) (fun w1 m1 m2 => hEx w1 P cp _ (ht.lend m1 [0, 1, 2]) (OldSeen.anyRow m1 [0, 1, 2] (by repeat (first | exact At.here | apply At.there)) (by decide)) m2) (fun i hi => ?_)))))
  all_goals (conv => whnf)
  all_goals (obtain ⟨P1, k1, P2, k2⟩ := i; exact VRet.mk fun w' m => ⟨(P1, k1, P2, k2), trivial, rfl, m.sel (ks := [0, 1, 2]) (by simp)⟩)
set_option maxHeartbeats 8000000 in
theorem iLine_fail {w0 : Base} {w : World} (d : Co) (gc : Nat) (A1 : Option Addr) (c1 : Nat) (A2 : Option Addr) (c2 : Nat) (line : List UInt8) (hf : d.fit) (ht : Old2 w0) (hl : line.length ≤ 1048575) {x : List UInt8} {L : List Int} (hp : parse line = some (x, L)) (h : d.ex x L = none) (m0 : Mem w0 [.blk gc 39 (d.at A1 c1 A2 c2), .row (.slice A1 d.n c1) 96 3 d.n (BaS d.n d.ba), .row (.slice A2 d.m c2) 98 4 d.m (AwS d.m d.wa)] w) :
    Calls Tryz.prog 77 #[.pointer (some ⟨gc, 0, none⟩), .string (tx line)] w fun e w' => ∃ v, e = .returned v ∧ RetL (ι := Co × Option Addr × Nat × Option Addr × Nat × List UInt8) (fun _ => True) (fun (_, _, _, _, _, t) => .tuple #[.string (tx t), .bool false]) (fun (d', P1, k1, P2, k2, _) => [.blk gc 39 (d'.at P1 k1 P2 k2), .gone, .gone]) (fun _ => []) w0 v w' := by
  obtain ⟨r, hs, hx, hz⟩ := parse_sps hp
  have hL := (rwZ_len hz).2
  obtain ⟨hr1, hr2⟩ : r.length ≤ 1048576 ∧ ∀ y ∈ r, y.length ≤ 1048576 := by
    have h1 := sps_len 32 line
    have h2 := sps_total 32 _ line (Nat.le_refl _)
    rw [hs] at h1 h2
    simp only [List.length_cons] at h1
    exact ⟨by omega, fun y hy => by have := (h2 y (List.mem_cons_of_mem _ hy)).1; omega⟩
  have hSp := fun w ht => split_v line w (by omega) ht
  rw [hs] at hSp
  have hPt := fun w => pattern_v x w
  have hpl := pat_len x
  have hRd := fun B c w hB ht => readWords_v B c (pat x).1 r w (by omega) hr1 hr2 hB ht
  rw [hz] at hRd
  rw [hx] at hPt
  have hEx := fun w B c (w0 : Base) ht hB m => iEx_no (w0 := w0) (w := w) d gc A1 c1 A2 c2 B c L hf ht hB x hx hL h m
  generalize (pat x).1 = ps at *
  refine calls_of_vcL (w0 := w0) tb_ok (args := [.pointer (some ⟨gc, 0, none⟩), .string (tx line)]) Tryz.func77 rfl m0 ?_
  all_goals (have q0 : (TS (x :: r))[mulS 0 1]? = some (.string (tx x)) := rfl; have q1 : (TS (x :: r))[0 + mulS 0 1]? = some (.string (tx x)) := rfl; have ql : 0 < (x :: r).length := Nat.succ_pos _)
  (repeat' ((conv => whnf); first | refine go ?_ | (refine VSome.mk ?_; intro gQ hA'; first | subst hA' | cases hA' | (dsimp only at hA'; subst hA')) | refine And.intro ?_ ?_ | intro _ | (first | ((show VCall _ _ _ 48 _ _); refine VCall.ret (fun w1 m1 => hSp w1 (ht.now m1)) (fun g9 _ => ?_)) | ((show VCall _ _ _ 112 _ _); refine VCall.grow _ (fun w1 m1 => hPt w1) ?_) | ((show VCall _ _ _ 113 _ _); refine VCall.ret (fun w1 m1 => hRd _ _ w1 (Seen.tail (B := _) (n := (x :: r).length) (k := 1) (Sees.any m1 fndA) hT9 (TS_len1 _)) (ht.now m1)) (fun i9 _ => ?_); obtain ⟨P, cp⟩ := i9) | ((show VIdx _ _ _ _ _ _ _); refine VIdx.at_ rfl 0 rfl ql ?_) | ((show VCut _ _ _ _ _ _ _); refine VCut.tail 1 rfl (by simp) (Nat.le_refl _) (Plain.some _ _) (fun B9 d9 hT9 _ => ?_)) | ((show VCall _ _ _ 114 [_, _, _] _); refine VCall.fullS [0, 1, 2] (by simp) (fun _ => rfl) (fun w1 m1 m2 => hEx w1 P cp _ (ht.lend m1 [0, 1, 2]) (OldSeen.anyRow m1 [0, 1, 2] (by repeat (first | exact At.here | apply At.there)) (by decide)) m2) (fun i hi => ?_)))))
  all_goals (conv => whnf)
  all_goals (obtain ⟨d9, P1, k1, P2, k2, t9⟩ := i; exact VRet.mk fun w' m => ⟨(d9, P1, k1, P2, k2, t9), trivial, rfl, m.sel (ks := [0, 100, 101]) (by simp)⟩)
set_option maxHeartbeats 8000000 in
theorem iLine_bad {w0 : Base} {w : World} (d : Co) (gc : Nat) (A1 : Option Addr) (c1 : Nat) (A2 : Option Addr) (c2 : Nat) (line : List UInt8) (hf : d.fit) (ht : Old2 w0) (hl : line.length ≤ 1048575) {x : List UInt8} {r : List (List UInt8)} (hs : sps 32 line = x :: r) (hq : (pat x).2 = true) (hz : rwZ (pat x).1 r = none) (m0 : Mem w0 [.blk gc 39 (d.at A1 c1 A2 c2), .row (.slice A1 d.n c1) 96 3 d.n (BaS d.n d.ba), .row (.slice A2 d.m c2) 98 4 d.m (AwS d.m d.wa)] w) :
    Calls Tryz.prog 77 #[.pointer (some ⟨gc, 0, none⟩), .string (tx line)] w fun e w' => ∃ v, e = .returned v ∧ RetL (ι := Co × Option Addr × Nat × Option Addr × Nat × List UInt8) (fun _ => True) (fun (_, _, _, _, _, t) => .tuple #[.string (tx t), .bool false]) (fun (d', P1, k1, P2, k2, _) => [.blk gc 39 (d'.at P1 k1 P2 k2), .gone, .gone]) (fun _ => []) w0 v w' := by
  obtain ⟨hr1, hr2⟩ : r.length ≤ 1048576 ∧ ∀ y ∈ r, y.length ≤ 1048576 := by
    have h1 := sps_len 32 line
    have h2 := sps_total 32 _ line (Nat.le_refl _)
    rw [hs] at h1 h2
    simp only [List.length_cons] at h1
    exact ⟨by omega, fun y hy => by have := (h2 y (List.mem_cons_of_mem _ hy)).1; omega⟩
  have hSp := fun w ht => split_v line w (by omega) ht
  rw [hs] at hSp
  have hPt := fun w => pattern_v x w
  have hpl := pat_len x
  have hRd := fun B c w hB ht => readWords_v B c (pat x).1 r w (by omega) hr1 hr2 hB ht
  rw [hz] at hRd
  rw [hq] at hPt
  generalize (pat x).1 = ps at *
  refine calls_of_vcL (w0 := w0) tb_ok (args := [.pointer (some ⟨gc, 0, none⟩), .string (tx line)]) Tryz.func77 rfl m0 ?_
  all_goals (have q0 : (TS (x :: r))[mulS 0 1]? = some (.string (tx x)) := rfl; have q1 : (TS (x :: r))[0 + mulS 0 1]? = some (.string (tx x)) := rfl; have ql : 0 < (x :: r).length := Nat.succ_pos _)
  (repeat' ((conv => whnf); first | refine go ?_ | (refine VSome.mk ?_; intro gQ hA'; first | subst hA' | cases hA' | (dsimp only at hA'; subst hA')) | refine And.intro ?_ ?_ | intro _ | (first | ((show VCall _ _ _ 48 _ _); refine VCall.ret (fun w1 m1 => hSp w1 (ht.now m1)) (fun g9 _ => ?_)) | ((show VCall _ _ _ 112 _ _); refine VCall.grow _ (fun w1 m1 => hPt w1) ?_) | ((show VCall _ _ _ 113 _ _); refine VCall.ret (fun w1 m1 => hRd _ _ w1 (Seen.tail (B := _) (n := (x :: r).length) (k := 1) (Sees.any m1 fndA) hT9 (TS_len1 _)) (ht.now m1)) (fun i9 _ => ?_); obtain ⟨P, cp⟩ := i9) | ((show VIdx _ _ _ _ _ _ _); refine VIdx.at_ rfl 0 rfl ql ?_) | ((show VCut _ _ _ _ _ _ _); refine VCut.tail 1 rfl (by simp) (Nat.le_refl _) (Plain.some _ _) (fun B9 d9 hT9 _ => ?_)))))
  all_goals (conv => whnf)
  all_goals exact VRet.mk fun w' m => ⟨(d, A1, c1, A2, c2, []), trivial, rfl, m.sel (ks := [0, 100, 101]) (by simp)⟩
set_option maxHeartbeats 8000000 in
theorem iLine_out {w0 : Base} {w : World} (d : Co) (gc : Nat) (A1 : Option Addr) (c1 : Nat) (A2 : Option Addr) (c2 : Nat) (line : List UInt8) (hf : d.fit) (ht : Old2 w0) (hl : line.length ≤ 1048575) {x : List UInt8} {r : List (List UInt8)} (hs : sps 32 line = x :: r) (hq : pat x = ([], false)) (m0 : Mem w0 [.blk gc 39 (d.at A1 c1 A2 c2), .row (.slice A1 d.n c1) 96 3 d.n (BaS d.n d.ba), .row (.slice A2 d.m c2) 98 4 d.m (AwS d.m d.wa)] w) :
    Calls Tryz.prog 77 #[.pointer (some ⟨gc, 0, none⟩), .string (tx line)] w fun e w' => ∃ v, e = .returned v ∧ RetL (ι := Co × Option Addr × Nat × Option Addr × Nat × List UInt8) (fun _ => True) (fun (_, _, _, _, _, t) => .tuple #[.string (tx t), .bool false]) (fun (d', P1, k1, P2, k2, _) => [.blk gc 39 (d'.at P1 k1 P2 k2), .gone, .gone]) (fun _ => []) w0 v w' := by
  obtain ⟨hr1, hr2⟩ : r.length ≤ 1048576 ∧ ∀ y ∈ r, y.length ≤ 1048576 := by
    have h1 := sps_len 32 line
    have h2 := sps_total 32 _ line (Nat.le_refl _)
    rw [hs] at h1 h2
    simp only [List.length_cons] at h1
    exact ⟨by omega, fun y hy => by have := (h2 y (List.mem_cons_of_mem _ hy)).1; omega⟩
  have hSp := fun w ht => split_v line w (by omega) ht
  rw [hs] at hSp
  have hPt := fun w => pattern_v x w
  have hpl := pat_len x
  have hRd := fun B c w hB ht => readWords_v B c [] r w (by decide) hr1 hr2 hB ht
  rw [hq] at hPt
  cases e9 : rwZ [] r
  all_goals rw [e9] at hRd
  all_goals (refine calls_of_vcL (w0 := w0) tb_ok (args := [.pointer (some ⟨gc, 0, none⟩), .string (tx line)]) Tryz.func77 rfl m0 ?_)
  all_goals (have q0 : (TS (x :: r))[mulS 0 1]? = some (.string (tx x)) := rfl; have q1 : (TS (x :: r))[0 + mulS 0 1]? = some (.string (tx x)) := rfl; have ql : 0 < (x :: r).length := Nat.succ_pos _)
  all_goals ((repeat' ((conv => whnf); first | refine go ?_ | (refine VSome.mk ?_; intro gQ hA'; first | subst hA' | cases hA' | (dsimp only at hA'; subst hA')) | refine And.intro ?_ ?_ | intro _ | (first | ((show VCall _ _ _ 48 _ _); refine VCall.ret (fun w1 m1 => hSp w1 (ht.now m1)) (fun g9 _ => ?_)) | ((show VCall _ _ _ 112 _ _); refine VCall.grow _ (fun w1 m1 => hPt w1) ?_) | ((show VCall _ _ _ 113 _ _); refine VCall.ret (fun w1 m1 => hRd _ _ w1 (Seen.tail (B := _) (n := (x :: r).length) (k := 1) (Sees.any m1 fndA) hT9 (TS_len1 _)) (ht.now m1)) (fun i9 _ => ?_); obtain ⟨P, cp⟩ := i9) | ((show VIdx _ _ _ _ _ _ _); refine VIdx.at_ rfl 0 rfl ql ?_) | ((show VCut _ _ _ _ _ _ _); refine VCut.tail 1 rfl (by simp) (Nat.le_refl _) (Plain.some _ _) (fun B9 d9 hT9 _ => ?_))))))
  all_goals (conv => whnf)
  all_goals exact VRet.mk fun w' m => ⟨(d, A1, c1, A2, c2, []), trivial, rfl, m.sel (ks := [0, 100, 101]) (by simp)⟩
theorem iLine_no {w0 : Base} {w : World} (d : Co) (gc : Nat) (A1 : Option Addr) (c1 : Nat) (A2 : Option Addr) (c2 : Nat) (line : List UInt8) (hf : d.fit) (ht : Old2 w0) (hl : line.length ≤ 1048575) (h : ∀ x L, parse line = some (x, L) → d.ex x L = none) (m0 : Mem w0 [.blk gc 39 (d.at A1 c1 A2 c2), .row (.slice A1 d.n c1) 96 3 d.n (BaS d.n d.ba), .row (.slice A2 d.m c2) 98 4 d.m (AwS d.m d.wa)] w) :
    Calls Tryz.prog 77 #[.pointer (some ⟨gc, 0, none⟩), .string (tx line)] w fun e w' => ∃ v, e = .returned v ∧ RetL (ι := Co × Option Addr × Nat × Option Addr × Nat × List UInt8) (fun _ => True) (fun (_, _, _, _, _, t) => .tuple #[.string (tx t), .bool false]) (fun (d', P1, k1, P2, k2, _) => [.blk gc 39 (d'.at P1 k1 P2 k2), .gone, .gone]) (fun _ => []) w0 v w' := by
  cases hp : parse line with
  | none =>
    obtain ⟨x, r, hs, hq | ⟨hq, hz⟩⟩ := parse_none hp
    · exact iLine_out d gc A1 c1 A2 c2 line hf ht hl hs hq m0
    · exact iLine_bad d gc A1 c1 A2 c2 line hf ht hl hs hq hz m0
  | some p => exact iLine_fail d gc A1 c1 A2 c2 line hf ht hl (x := p.1) (L := p.2) hp (h _ _ hp) m0
end Go.Proofs.YtadjhkehfklmnaaGreatDoor
namespace Go.Proofs.YtadjhkehfklmnaaGreatDoor
set_option linter.unusedSimpArgs false
set_option linter.unusedVariables false
open Go.RowKit
set_option maxRecDepth 10000
theorem apV_ok {d p x r : List UInt8} {c : Int} (h : okL d p c ∧ okR x r) (hc : ¬ c = 60) : apV d p c x r = (p ++ (ln c.toNat x r ++ [10]), c + 1, 0) := by unfold apV; rw [tr_yes h, if_pos rfl, if_neg hc]
theorem Co.cmd_yes {d c' : Co} {line x t : List UInt8} {L : List Int} (h1 : parse line = some (x, L)) (h2 : d.ex x L = some (c', t)) : d.cmd line = (c', t) := by
  unfold Co.cmd; rw [h1]; dsimp only; rw [h2]
theorem Co.cmd_no {d : Co} {line : List UInt8} (h : ∀ x L, parse line = some (x, L) → d.ex x L = none) : d.cmd line = (d, wAsk) := by
  unfold Co.cmd
  cases e : parse line with
  | none => rfl
  | some p => obtain ⟨x, L⟩ := p; dsimp only; rw [h x L e]
theorem Co.cmd_cases (d : Co) (line : List UInt8) : (∃ x L c' t, parse line = some (x, L) ∧ d.ex x L = some (c', t)) ∨ ∀ x L, parse line = some (x, L) → d.ex x L = none := by
  cases e : parse line with
  | none => exact .inr fun x L h => by cases h
  | some p =>
    obtain ⟨x, L⟩ := p
    cases e2 : d.ex x L with
    | none => exact .inr fun x' L' h => by cases h; exact e2
    | some r => exact .inl ⟨x, L, r.1, r.2, rfl, e2⟩
set_option maxHeartbeats 16000000 in
theorem iExec_v (A1 A2 : Option Addr) (c1 c2 : Nat) (d : Co) (line : List UInt8) (w : World) (hs : d.small) (hl : line.length ≤ 9223372036854775807) (ht : PT2 w) (hA : Seen w A1 (BaS d.n d.ba)) (hB : Seen w A2 (AwS d.m d.wa)) (hP : Plain A1) (hQ : Plain A2) :
    Calls Tryz.prog 29 #[.agg (d.at A1 c1 A2 c2).toArray, .string (tx line)] w fun e w' => ∃ v, e = .returned v ∧ RetV (fun _ => True) (fun i => .tuple #[(d.exec line).1.cv i, .string (tx (d.exec line).2)]) (d.exec line).1.cn (Base.of w) v w' := by
  obtain ⟨hn, hm, hd, hp⟩ := hs
  have hO := Old2.old ht
  have hG := fun w ht hA hB => iCon_v A1 A2 c1 c2 d w hn hm hd hp ht hA hB
  by_cases hg : d.good
  · rw [tr_yes hg] at hG
    have hR := fun w => iGood_v line [] w hl (by decide)
    by_cases hr : okR line []
    · rw [tr_yes hr] at hR
      by_cases hc : d.log.count = 60
      · rw [Co.exec_full hg hr hc]
        refine calls_of_vc tb_ok (args := [.agg (d.at A1 c1 A2 c2).toArray, .string (tx line)]) Tryz.func29 rfl ?_
        (repeat' ((conv => whnf); first | refine go ?_ | (refine VSome.mk ?_; intro gQ hA'; first | subst hA' | cases hA' | (dsimp only at hA'; subst hA')) | refine And.intro ?_ ?_ | intro _ | (first | ((show VCall _ _ _ 39 _ _); refine VCall.grow _ (fun w1 m1 => hG w1 (ht.on m1).1 seenA seenA) ?_) | ((show VCall _ _ _ 76 _ _); refine VCall.grow _ (fun w1 m1 => hR w1) ?_) | ((show VCall _ _ _ 70 _ _); refine VCall.ret (fun w1 m1 => iNew_v _ _ _ _ d w1 hn hm seenA seenA hP hQ) (fun i _ => ?_); obtain ⟨⟨A9, c9⟩, B9, e9⟩ := i))))
        all_goals (conv => whnf)
        all_goals exact VRet.sel ((A9, c9), (B9, e9)) trivial rfl [2, 3] (by simp) rfl
      · have hl1 : line.length ≤ 160 := hr.2.2.2.1
        rcases d.cmd_cases line with ⟨x, L, c', t, h1, h2⟩ | hno
        · have hcmd := Co.cmd_yes h1 h2
          have hx := Co.exec_yes hg hr hc
          have hre := Co.rec_ok hg.fit hr
          rw [hcmd] at hx hre
          dsimp only at hx hre
          rw [hx]
          have hE := fun (w0 : Base) w gc A1 c1 A2 c2 ht m => iLine_yes (w0 := w0) (w := w) d gc A1 c1 A2 c2 line hg.fit ht (by omega) h1 h2 m
          have hsz := tx_size t
          have hAp := fun w ht => iApp_v d.du d.pe d.log.count line (cutR t) w (by rw [Co.du_len]; exact hd) (by rw [Co.pe_len]; exact hp) (by omega) (by have := hre.2.2.2.2.1; omega) ht
          rw [d.du_tx, d.pe_tx, apV_ok ⟨hg.2.2.2, hre⟩ hc] at hAp
          dsimp only at hAp
          by_cases hlong : 200 < t.length
          all_goals (first | rw [show cutR t = wLong from if_pos hlong] at hAp ⊢ | rw [show cutR t = t from if_neg hlong] at hAp ⊢)
          all_goals (refine calls_of_vc tb_ok (args := [.agg (d.at A1 c1 A2 c2).toArray, .string (tx line)]) Tryz.func29 rfl ?_)
          all_goals ((repeat' ((conv => whnf); first | refine go ?_ | (refine VSome.mk ?_; intro gQ hA'; first | subst hA' | cases hA' | (dsimp only at hA'; subst hA')) | refine And.intro ?_ ?_ | intro _ | (first | ((show VCall _ _ _ 39 _ _); refine VCall.grow _ (fun w1 m1 => hG w1 (ht.on m1).1 seenA seenA) ?_) | ((show VCall _ _ _ 76 _ _); refine VCall.grow _ (fun w1 m1 => hR w1) ?_) | ((show VCall _ _ _ 70 _ _); refine VCall.ret (fun w1 m1 => iNew_v _ _ _ _ d w1 hn hm seenA seenA hP hQ) (fun i _ => ?_); obtain ⟨⟨A9, c9⟩, B9, e9⟩ := i) | ((show VCall _ _ _ 77 [_, _] _); refine VCall.fullS [4, 2, 3] (by simp) (fun _ => rfl) (fun w1 m1 m2 => hE _ w1 _ A9 c9 B9 e9 (hO.lend m1 [4, 2, 3]) m2) (fun i hi => ?_); obtain ⟨P1, k1, P2, k2⟩ := i) | ((show VCall _ _ _ 78 _ _); refine VCall.grow _ (fun w1 m1 => hAp w1 (ht.on m1).1) ?_)))))
          all_goals (conv => whnf)
          all_goals exact VRet.sel ((P1, k1), (P2, k2)) trivial rfl [2, 3] (by simp) rfl
        · have hcmd := Co.cmd_no hno
          have hx := Co.exec_yes hg hr hc
          have hre := Co.rec_ok hg.fit hr
          rw [hcmd] at hx hre
          dsimp only at hx hre
          rw [show cutR wAsk = wAsk from rfl] at hx hre
          rw [hx]
          have hE := fun (w0 : Base) w gc A1 c1 A2 c2 ht m => iLine_no (w0 := w0) (w := w) d gc A1 c1 A2 c2 line hg.fit ht (by omega) hno m
          have hsz : ({ data := #[63] } : ByteArray).size = 1 := rfl
          have hAp := fun w ht => iApp_v d.du d.pe d.log.count line (wAsk) w (by rw [Co.du_len]; exact hd) (by rw [Co.pe_len]; exact hp) (by omega) (by have := hre.2.2.2.2.1; omega) ht
          rw [d.du_tx, d.pe_tx, apV_ok ⟨hg.2.2.2, hre⟩ hc] at hAp
          dsimp only at hAp
          refine calls_of_vc tb_ok (args := [.agg (d.at A1 c1 A2 c2).toArray, .string (tx line)]) Tryz.func29 rfl ?_
          (repeat' ((conv => whnf); first | refine go ?_ | (refine VSome.mk ?_; intro gQ hA'; first | subst hA' | cases hA' | (dsimp only at hA'; subst hA')) | refine And.intro ?_ ?_ | intro _ | (first | ((show VCall _ _ _ 39 _ _); refine VCall.grow _ (fun w1 m1 => hG w1 (ht.on m1).1 seenA seenA) ?_) | ((show VCall _ _ _ 76 _ _); refine VCall.grow _ (fun w1 m1 => hR w1) ?_) | ((show VCall _ _ _ 70 _ _); refine VCall.ret (fun w1 m1 => iNew_v _ _ _ _ d w1 hn hm seenA seenA hP hQ) (fun i _ => ?_); obtain ⟨⟨A9, c9⟩, B9, e9⟩ := i) | ((show VCall _ _ _ 77 [_, _] _); refine VCall.fullS [4, 2, 3] (by simp) (fun _ => rfl) (fun w1 m1 m2 => hE _ w1 _ A9 c9 B9 e9 (hO.lend m1 [4, 2, 3]) m2) (fun i hi => ?_); obtain ⟨d8, P1, k1, P2, k2, t8⟩ := i) | ((show VCall _ _ _ 78 _ _); refine VCall.grow _ (fun w1 m1 => hAp w1 (ht.on m1).1) ?_))))
          all_goals (conv => whnf)
          all_goals exact VRet.sel ((A9, c9), (B9, e9)) trivial rfl [5, 6] (by simp) rfl
    · rw [tr_no hr] at hR
      rw [Co.exec_bad hg hr]
      refine calls_of_vc tb_ok (args := [.agg (d.at A1 c1 A2 c2).toArray, .string (tx line)]) Tryz.func29 rfl ?_
      (repeat' ((conv => whnf); first | refine go ?_ | (refine VSome.mk ?_; intro gQ hA'; first | subst hA' | cases hA' | (dsimp only at hA'; subst hA')) | refine And.intro ?_ ?_ | intro _ | (first | ((show VCall _ _ _ 39 _ _); refine VCall.grow _ (fun w1 m1 => hG w1 (ht.on m1).1 seenA seenA) ?_) | ((show VCall _ _ _ 76 _ _); refine VCall.grow _ (fun w1 m1 => hR w1) ?_) | ((show VCall _ _ _ 70 _ _); refine VCall.ret (fun w1 m1 => iNew_v _ _ _ _ d w1 hn hm seenA seenA hP hQ) (fun i _ => ?_); obtain ⟨⟨A9, c9⟩, B9, e9⟩ := i))))
      all_goals (conv => whnf)
      all_goals exact VRet.sel ((A9, c9), (B9, e9)) trivial rfl [2, 3] (by simp) rfl
  · rw [tr_no hg] at hG
    rw [Co.exec_no hg]
    refine calls_of_vc tb_ok (args := [.agg (d.at A1 c1 A2 c2).toArray, .string (tx line)]) Tryz.func29 rfl ?_
    (repeat' ((conv => whnf); first | refine go ?_ | (refine VSome.mk ?_; intro gQ hA'; first | subst hA' | cases hA' | (dsimp only at hA'; subst hA')) | refine And.intro ?_ ?_ | intro _ | (first | ((show VCall _ _ _ 39 _ _); refine VCall.grow _ (fun w1 m1 => hG w1 (ht.on m1).1 seenA seenA) ?_) | ((show VCall _ _ _ 70 _ _); refine VCall.ret (fun w1 m1 => iNew_v _ _ _ _ d w1 hn hm seenA seenA hP hQ) (fun i _ => ?_); obtain ⟨⟨A9, c9⟩, B9, e9⟩ := i))))
    all_goals (conv => whnf)
    all_goals exact VRet.sel ((A9, c9), (B9, e9)) trivial rfl [2, 3] (by simp) rfl
end Go.Proofs.YtadjhkehfklmnaaGreatDoor
