/-
  Texts joined: how the calls that the law reaches are walked, and the plain laws behind them.
  Conditions: none beyond each statement's own premises.
-/
import Derived.Test.YtadjhkehfklmnaaGreatDoorMy18
namespace Go.Proofs.YtadjhkehfklmnaaGreatDoor
set_option linter.unusedSimpArgs false
set_option linter.unusedVariables false
open Go.RowKit
set_option maxRecDepth 10000
set_option maxHeartbeats 16000000 in
theorem sRun_arr_bad_true {w0 : Base} {w : World} (d : Co) (A1 : Option Addr) (c1 : Nat) (A2 : Option Addr) (c2 : Nat) (line : List UInt8) (hf : d.fit) (hl : line.length ≤ 1048575) (hq1 : ¬ line = wLevel) (hq2 : ¬ line = wWater) (x y z : List UInt8) (hs : sps 32 line = [wArrive, x, wUp, y, z]) (hx : ∀ v ∈ [x, y, z], v.length ≤ 1048576) (hz : numZ [x, y, z] = none) (m0 : Mem w0 [.row (.slice A1 d.n c1) 96 3 d.n (BaS d.n d.ba), .row (.slice A2 d.m c2) 98 4 d.m (AwS d.m d.wa)] w) :
    Calls Tryz.prog 86 #[.agg (d.at A1 c1 A2 c2).toArray, .string (tx line)] w fun e w' => ∃ v, e = .returned v ∧ RetL (ι := Option Addr × Nat × Option Addr × Nat) (fun _ => True) (fun (P1, k1, P2, k2) => .tuple #[.agg ((((d, wAsk)).1 : Co).at P1 k1 P2 k2).toArray, .string (tx ((d, wAsk)).2)]) (fun (P1, k1, P2, k2) => [.row (.slice P1 (((d, wAsk)).1 : Co).n k1) 96 3 (((d, wAsk)).1 : Co).n (BaS (((d, wAsk)).1 : Co).n (((d, wAsk)).1 : Co).ba), .row (.slice P2 (((d, wAsk)).1 : Co).m k2) 98 4 (((d, wAsk)).1 : Co).m (AwS (((d, wAsk)).1 : Co).m (((d, wAsk)).1 : Co).wa)]) (fun _ => []) w0 v w' := by
  have hSp := fun w => l1Split_v 32 32 line w rfl (by omega)
  rw [hs] at hSp
  have hn_linewLevel : ¬ tx line = ({ data := #[108, 101, 118, 101, 108] } : ByteArray) := fun q => hq1 (tx_inj (q.trans (by rfl : _ = tx wLevel)))
  have hn_linewWater : ¬ tx line = ({ data := #[119, 97, 116, 101, 114] } : ByteArray) := fun q => hq2 (tx_inj (q.trans (by rfl : _ = tx wWater)))
  have q0 : (TS [wArrive, x, wUp, y, z])[mulS 0 1]? = some (.string (tx (wArrive))) := rfl
  have q1 : (TS [wArrive, x, wUp, y, z])[mulS 1 1]? = some (.string (tx (x))) := rfl
  have q2 : (TS [wArrive, x, wUp, y, z])[mulS 2 1]? = some (.string (tx (wUp))) := rfl
  have q3 : (TS [wArrive, x, wUp, y, z])[mulS 3 1]? = some (.string (tx (y))) := rfl
  have q4 : (TS [wArrive, x, wUp, y, z])[mulS 4 1]? = some (.string (tx (z))) := rfl
  have hlt : [wArrive, x, wUp, y, z].length = 5 := rfl
  have hN := fun B c w (hB : Seen w B [.string (tx x), .string (tx y), .string (tx z)]) => numbers_v B c [x, y, z] w (by show 3 ≤ 1048577; decide) hx hB
  rw [hz, show [x, y, z].length = 3 from rfl] at hN
  refine calls_of_vcL (w0 := w0) tb_ok (args := [.agg (d.at A1 c1 A2 c2).toArray, .string (tx line)]) Tryz.func86 rfl m0 ?_
  (repeat' ((conv => whnf); first | refine go ?_ | (refine VSome.mk ?_; intro gQ hA'; first | subst hA' | cases hA' | (dsimp only at hA'; subst hA')) | refine And.intro ?_ ?_ | intro _ | (first | ((show VCall _ _ _ 44 _ _); refine VCall.ret (fun w1 m1 => hSp w1) (fun i _ => ?_); obtain ⟨g9, c9⟩ := i) | ((show VCall _ _ _ 121 _ _); refine VCall.ret (fun w1 m1 => hN _ _ w1 (Sees.blk 5 rfl w1 m1)) (fun i9 _ => ?_); obtain ⟨P, cp⟩ := i9) | ((show VDraw _ _ _ #[{ dst := some 86, op := _, type := _, pos := _, after := _, guard := _ }, _, _, _, _, _, _, _, _, _, _, _, _, _, _, _] _ _); refine VDraw.mk (.take 0 (.take 1 (.take 2 (.take 3 (.take 4 (.take 5 (.take 6 (.take 7 (.take 8 (.br 9 (.br 10 (.take 11 (.take 12 (.take 13 (.take 14 (.take 15 .done))))) .done) .done)))))))))) [4] (by kernel_rfl) (by kernel_rfl) ?_) | ((show VIdx _ _ _ _ _ _ _); first | refine VIdx.at_ rfl 0 rfl (by omega) ?_ | refine VIdx.at_ rfl 1 rfl (by omega) ?_ | refine VIdx.at_ rfl 2 rfl (by omega) ?_ | refine VIdx.at_ rfl 3 rfl (by omega) ?_ | refine VIdx.at_ rfl 4 rfl (by omega) ?_) | ((show VIdx _ _ _ _ _ _ _); apply VIdx.any; (focus ((repeat (first | exact At.here | apply At.there)); done)); (first | refine VIdxR.mk 0 rfl (by omega) ?_ | refine VIdxR.mk 1 rfl (by omega) ?_ | refine VIdxR.mk 2 rfl (by omega) ?_); intro gQ hA'; first | subst hA' | (cases hA')))))
  all_goals (conv => whnf)
  all_goals exact VRet.mk fun w' m => ⟨(A1, c1, A2, c2), trivial, rfl, m.sel (ks := [0, 1]) (by simp)⟩
set_option maxHeartbeats 16000000 in
theorem sRun_arr_yes_true {w0 : Base} {w : World} (d : Co) (A1 : Option Addr) (c1 : Nat) (A2 : Option Addr) (c2 : Nat) (line : List UInt8) (hf : d.fit) (hl : line.length ≤ 1048575) (hq1 : ¬ line = wLevel) (hq2 : ¬ line = wWater) (x y z : List UInt8) (hs : sps 32 line = [wArrive, x, wUp, y, z]) (hx : ∀ v ∈ [x, y, z], v.length ≤ 1048576) {l : List Int} (hz : numZ [x, y, z] = some l) (h : aGood (d.m + 1) (insF d.wa (plc d.wa (a0 l 0) d.m 0) ⟨a0 l 0, true, a0 l 1, a0 l 2⟩)) (m0 : Mem w0 [.row (.slice A1 d.n c1) 96 3 d.n (BaS d.n d.ba), .row (.slice A2 d.m c2) 98 4 d.m (AwS d.m d.wa)] w) :
    Calls Tryz.prog 86 #[.agg (d.at A1 c1 A2 c2).toArray, .string (tx line)] w fun e w' => ∃ v, e = .returned v ∧ RetL (ι := Option Addr × Nat × Option Addr × Nat) (fun _ => True) (fun (P1, k1, P2, k2) => .tuple #[.agg ((((d.arr (plc d.wa (a0 l 0) d.m 0) ⟨a0 l 0, true, a0 l 1, a0 l 2⟩, wOk)).1 : Co).at P1 k1 P2 k2).toArray, .string (tx ((d.arr (plc d.wa (a0 l 0) d.m 0) ⟨a0 l 0, true, a0 l 1, a0 l 2⟩, wOk)).2)]) (fun (P1, k1, P2, k2) => [.row (.slice P1 (((d.arr (plc d.wa (a0 l 0) d.m 0) ⟨a0 l 0, true, a0 l 1, a0 l 2⟩, wOk)).1 : Co).n k1) 96 3 (((d.arr (plc d.wa (a0 l 0) d.m 0) ⟨a0 l 0, true, a0 l 1, a0 l 2⟩, wOk)).1 : Co).n (BaS (((d.arr (plc d.wa (a0 l 0) d.m 0) ⟨a0 l 0, true, a0 l 1, a0 l 2⟩, wOk)).1 : Co).n (((d.arr (plc d.wa (a0 l 0) d.m 0) ⟨a0 l 0, true, a0 l 1, a0 l 2⟩, wOk)).1 : Co).ba), .row (.slice P2 (((d.arr (plc d.wa (a0 l 0) d.m 0) ⟨a0 l 0, true, a0 l 1, a0 l 2⟩, wOk)).1 : Co).m k2) 98 4 (((d.arr (plc d.wa (a0 l 0) d.m 0) ⟨a0 l 0, true, a0 l 1, a0 l 2⟩, wOk)).1 : Co).m (AwS (((d.arr (plc d.wa (a0 l 0) d.m 0) ⟨a0 l 0, true, a0 l 1, a0 l 2⟩, wOk)).1 : Co).m (((d.arr (plc d.wa (a0 l 0) d.m 0) ⟨a0 l 0, true, a0 l 1, a0 l 2⟩, wOk)).1 : Co).wa)]) (fun _ => []) w0 v w' := by
  have hSp := fun w => l1Split_v 32 32 line w rfl (by omega)
  rw [hs] at hSp
  have hn_linewLevel : ¬ tx line = ({ data := #[108, 101, 118, 101, 108] } : ByteArray) := fun q => hq1 (tx_inj (q.trans (by rfl : _ = tx wLevel)))
  have hn_linewWater : ¬ tx line = ({ data := #[119, 97, 116, 101, 114] } : ByteArray) := fun q => hq2 (tx_inj (q.trans (by rfl : _ = tx wWater)))
  have q0 : (TS [wArrive, x, wUp, y, z])[mulS 0 1]? = some (.string (tx (wArrive))) := rfl
  have q1 : (TS [wArrive, x, wUp, y, z])[mulS 1 1]? = some (.string (tx (x))) := rfl
  have q2 : (TS [wArrive, x, wUp, y, z])[mulS 2 1]? = some (.string (tx (wUp))) := rfl
  have q3 : (TS [wArrive, x, wUp, y, z])[mulS 3 1]? = some (.string (tx (y))) := rfl
  have q4 : (TS [wArrive, x, wUp, y, z])[mulS 4 1]? = some (.string (tx (z))) := rfl
  have hlt : [wArrive, x, wUp, y, z].length = 5 := rfl
  have hN := fun B c w (hB : Seen w B [.string (tx x), .string (tx y), .string (tx z)]) => numbers_v B c [x, y, z] w (by show 3 ≤ 1048577; decide) hx hB
  rw [hz, show [x, y, z].length = 3 from rfl] at hN
  have hll : l.length = 3 := numZ_len hz
  have p0 : (IL l)[mulS 0 1]? = some (.int .i64 (a0 l 0)) := IL_get (by omega) _ (by rw [mulS_eq])
  have p1 : (IL l)[mulS 1 1]? = some (.int .i64 (a0 l 1)) := IL_get (by omega) _ (by rw [mulS_eq])
  have p2 : (IL l)[mulS 2 1]? = some (.int .i64 (a0 l 2)) := IL_get (by omega) _ (by rw [mulS_eq])
  have hm := hf.2.2.2
  have hAr := fun A2 c2 w hc hP hA => sArrive_yes d A1 c1 A2 c2 ⟨a0 l 0, true, a0 l 1, a0 l 2⟩ w hm h hc hP hA
  refine calls_of_vcL (w0 := w0) tb_ok (args := [.agg (d.at A1 c1 A2 c2).toArray, .string (tx line)]) Tryz.func86 rfl m0 ?_
  (repeat' ((conv => whnf); first | refine go ?_ | (refine VSome.mk ?_; intro gQ hA'; first | subst hA' | cases hA' | (dsimp only at hA'; subst hA')) | refine And.intro ?_ ?_ | intro _ | (first | ((show VCall _ _ _ 44 _ _); refine VCall.ret (fun w1 m1 => hSp w1) (fun i _ => ?_); obtain ⟨g9, c9⟩ := i) | ((show VCall _ _ _ 121 _ _); refine VCall.ret (fun w1 m1 => hN _ _ w1 (Sees.blk 5 rfl w1 m1)) (fun i9 _ => ?_); obtain ⟨P, cp⟩ := i9) | ((show VCall _ _ _ 122 _ _); refine VCall.ret (fun w1 m1 => hAr _ _ w1 (m1.cap fndA) (m1.plain fndA) seenA) (fun i8 _ => ?_); obtain ⟨P8, c8⟩ := i8) | ((show VDraw _ _ _ #[{ dst := some 86, op := _, type := _, pos := _, after := _, guard := _ }, _, _, _, _, _, _, _, _, _, _, _, _, _, _, _] _ _); refine VDraw.mk (.take 0 (.take 1 (.take 2 (.take 3 (.take 4 (.take 5 (.take 6 (.take 7 (.take 8 (.br 9 (.br 10 (.take 11 (.take 12 (.take 13 (.take 14 (.take 15 .done))))) .done) .done)))))))))) [4] (by kernel_rfl) (by kernel_rfl) ?_) | ((show VDraw _ _ _ #[{ dst := some 102, op := _, type := _, pos := _, after := _, guard := _ }, _, _, _, _, _, _, _, _, _, _, _, _, _, _, _, _, _, _, _] _ _); refine VDraw.mk (.take 0 (.take 1 (.take 2 (.take 3 (.take 4 (.take 5 (.take 6 (.take 7 (.take 8 (.take 9 (.take 10 (.take 11 (.take 12 (.take 13 (.take 14 (.br 15 (.take 16 (.take 17 (.br 18 (.take 19 .done) .done))) .done)))))))))))))))) [2, 4, 6] (by kernel_rfl) (by kernel_rfl) ?_) | ((show VIdx _ _ _ _ _ _ _); first | refine VIdx.at_ rfl 0 rfl (by omega) ?_ | refine VIdx.at_ rfl 1 rfl (by omega) ?_ | refine VIdx.at_ rfl 2 rfl (by omega) ?_ | refine VIdx.at_ rfl 3 rfl (by omega) ?_ | refine VIdx.at_ rfl 4 rfl (by omega) ?_) | ((show VIdx _ _ _ _ _ _ _); apply VIdx.any; (focus ((repeat (first | exact At.here | apply At.there)); done)); (first | refine VIdxR.mk 0 rfl (by omega) ?_ | refine VIdxR.mk 1 rfl (by omega) ?_ | refine VIdxR.mk 2 rfl (by omega) ?_); intro gQ hA'; first | subst hA' | (cases hA')))))
  all_goals (conv => whnf)
  all_goals exact VRet.mk fun w' m => ⟨(A1, c1, P8, c8), trivial, rfl, m.sel (ks := [0, 7]) (by simp)⟩
set_option maxHeartbeats 16000000 in
theorem sRun_arr_no_true {w0 : Base} {w : World} (d : Co) (A1 : Option Addr) (c1 : Nat) (A2 : Option Addr) (c2 : Nat) (line : List UInt8) (hf : d.fit) (hl : line.length ≤ 1048575) (hq1 : ¬ line = wLevel) (hq2 : ¬ line = wWater) (x y z : List UInt8) (hs : sps 32 line = [wArrive, x, wUp, y, z]) (hx : ∀ v ∈ [x, y, z], v.length ≤ 1048576) {l : List Int} (hz : numZ [x, y, z] = some l) (h : ¬ aGood (d.m + 1) (insF d.wa (plc d.wa (a0 l 0) d.m 0) ⟨a0 l 0, true, a0 l 1, a0 l 2⟩)) (m0 : Mem w0 [.row (.slice A1 d.n c1) 96 3 d.n (BaS d.n d.ba), .row (.slice A2 d.m c2) 98 4 d.m (AwS d.m d.wa)] w) :
    Calls Tryz.prog 86 #[.agg (d.at A1 c1 A2 c2).toArray, .string (tx line)] w fun e w' => ∃ v, e = .returned v ∧ RetL (ι := Option Addr × Nat × Option Addr × Nat) (fun _ => True) (fun (P1, k1, P2, k2) => .tuple #[.agg ((((d, wAsk)).1 : Co).at P1 k1 P2 k2).toArray, .string (tx ((d, wAsk)).2)]) (fun (P1, k1, P2, k2) => [.row (.slice P1 (((d, wAsk)).1 : Co).n k1) 96 3 (((d, wAsk)).1 : Co).n (BaS (((d, wAsk)).1 : Co).n (((d, wAsk)).1 : Co).ba), .row (.slice P2 (((d, wAsk)).1 : Co).m k2) 98 4 (((d, wAsk)).1 : Co).m (AwS (((d, wAsk)).1 : Co).m (((d, wAsk)).1 : Co).wa)]) (fun _ => []) w0 v w' := by
  have hSp := fun w => l1Split_v 32 32 line w rfl (by omega)
  rw [hs] at hSp
  have hn_linewLevel : ¬ tx line = ({ data := #[108, 101, 118, 101, 108] } : ByteArray) := fun q => hq1 (tx_inj (q.trans (by rfl : _ = tx wLevel)))
  have hn_linewWater : ¬ tx line = ({ data := #[119, 97, 116, 101, 114] } : ByteArray) := fun q => hq2 (tx_inj (q.trans (by rfl : _ = tx wWater)))
  have q0 : (TS [wArrive, x, wUp, y, z])[mulS 0 1]? = some (.string (tx (wArrive))) := rfl
  have q1 : (TS [wArrive, x, wUp, y, z])[mulS 1 1]? = some (.string (tx (x))) := rfl
  have q2 : (TS [wArrive, x, wUp, y, z])[mulS 2 1]? = some (.string (tx (wUp))) := rfl
  have q3 : (TS [wArrive, x, wUp, y, z])[mulS 3 1]? = some (.string (tx (y))) := rfl
  have q4 : (TS [wArrive, x, wUp, y, z])[mulS 4 1]? = some (.string (tx (z))) := rfl
  have hlt : [wArrive, x, wUp, y, z].length = 5 := rfl
  have hN := fun B c w (hB : Seen w B [.string (tx x), .string (tx y), .string (tx z)]) => numbers_v B c [x, y, z] w (by show 3 ≤ 1048577; decide) hx hB
  rw [hz, show [x, y, z].length = 3 from rfl] at hN
  have hll : l.length = 3 := numZ_len hz
  have p0 : (IL l)[mulS 0 1]? = some (.int .i64 (a0 l 0)) := IL_get (by omega) _ (by rw [mulS_eq])
  have p1 : (IL l)[mulS 1 1]? = some (.int .i64 (a0 l 1)) := IL_get (by omega) _ (by rw [mulS_eq])
  have p2 : (IL l)[mulS 2 1]? = some (.int .i64 (a0 l 2)) := IL_get (by omega) _ (by rw [mulS_eq])
  have hm := hf.2.2.2
  have hAr := fun A2 c2 w hc hP hA => sArrive_no d A1 c1 A2 c2 ⟨a0 l 0, true, a0 l 1, a0 l 2⟩ w hm h hc hP hA
  refine calls_of_vcL (w0 := w0) tb_ok (args := [.agg (d.at A1 c1 A2 c2).toArray, .string (tx line)]) Tryz.func86 rfl m0 ?_
  (repeat' ((conv => whnf); first | refine go ?_ | (refine VSome.mk ?_; intro gQ hA'; first | subst hA' | cases hA' | (dsimp only at hA'; subst hA')) | refine And.intro ?_ ?_ | intro _ | (first | ((show VCall _ _ _ 44 _ _); refine VCall.ret (fun w1 m1 => hSp w1) (fun i _ => ?_); obtain ⟨g9, c9⟩ := i) | ((show VCall _ _ _ 121 _ _); refine VCall.ret (fun w1 m1 => hN _ _ w1 (Sees.blk 5 rfl w1 m1)) (fun i9 _ => ?_); obtain ⟨P, cp⟩ := i9) | ((show VCall _ _ _ 122 _ _); refine VCall.grow _ (fun w1 m1 => hAr _ _ w1 (m1.cap fndA) (m1.plain fndA) seenA) ?_) | ((show VDraw _ _ _ #[{ dst := some 86, op := _, type := _, pos := _, after := _, guard := _ }, _, _, _, _, _, _, _, _, _, _, _, _, _, _, _] _ _); refine VDraw.mk (.take 0 (.take 1 (.take 2 (.take 3 (.take 4 (.take 5 (.take 6 (.take 7 (.take 8 (.br 9 (.br 10 (.take 11 (.take 12 (.take 13 (.take 14 (.take 15 .done))))) .done) .done)))))))))) [4] (by kernel_rfl) (by kernel_rfl) ?_) | ((show VDraw _ _ _ #[{ dst := some 102, op := _, type := _, pos := _, after := _, guard := _ }, _, _, _, _, _, _, _, _, _, _, _, _, _, _, _, _, _, _, _] _ _); refine VDraw.mk (.take 0 (.take 1 (.take 2 (.take 3 (.take 4 (.take 5 (.take 6 (.take 7 (.take 8 (.take 9 (.take 10 (.take 11 (.take 12 (.take 13 (.take 14 (.br 15 (.take 16 (.take 17 (.br 18 (.take 19 .done) .done))) .done)))))))))))))))) [2, 4, 6] (by kernel_rfl) (by kernel_rfl) ?_) | ((show VIdx _ _ _ _ _ _ _); first | refine VIdx.at_ rfl 0 rfl (by omega) ?_ | refine VIdx.at_ rfl 1 rfl (by omega) ?_ | refine VIdx.at_ rfl 2 rfl (by omega) ?_ | refine VIdx.at_ rfl 3 rfl (by omega) ?_ | refine VIdx.at_ rfl 4 rfl (by omega) ?_) | ((show VIdx _ _ _ _ _ _ _); apply VIdx.any; (focus ((repeat (first | exact At.here | apply At.there)); done)); (first | refine VIdxR.mk 0 rfl (by omega) ?_ | refine VIdxR.mk 1 rfl (by omega) ?_ | refine VIdxR.mk 2 rfl (by omega) ?_); intro gQ hA'; first | subst hA' | (cases hA')))))
  all_goals (conv => whnf)
  all_goals exact VRet.mk fun w' m => ⟨(A1, c1, A2, c2), trivial, rfl, m.sel (ks := [0, 1]) (by simp)⟩
set_option maxHeartbeats 16000000 in
theorem sRun_arr_bad_false {w0 : Base} {w : World} (d : Co) (A1 : Option Addr) (c1 : Nat) (A2 : Option Addr) (c2 : Nat) (line : List UInt8) (hf : d.fit) (hl : line.length ≤ 1048575) (hq1 : ¬ line = wLevel) (hq2 : ¬ line = wWater) (x y z : List UInt8) (hs : sps 32 line = [wArrive, x, wDown, y, z]) (hx : ∀ v ∈ [x, y, z], v.length ≤ 1048576) (hz : numZ [x, y, z] = none) (m0 : Mem w0 [.row (.slice A1 d.n c1) 96 3 d.n (BaS d.n d.ba), .row (.slice A2 d.m c2) 98 4 d.m (AwS d.m d.wa)] w) :
    Calls Tryz.prog 86 #[.agg (d.at A1 c1 A2 c2).toArray, .string (tx line)] w fun e w' => ∃ v, e = .returned v ∧ RetL (ι := Option Addr × Nat × Option Addr × Nat) (fun _ => True) (fun (P1, k1, P2, k2) => .tuple #[.agg ((((d, wAsk)).1 : Co).at P1 k1 P2 k2).toArray, .string (tx ((d, wAsk)).2)]) (fun (P1, k1, P2, k2) => [.row (.slice P1 (((d, wAsk)).1 : Co).n k1) 96 3 (((d, wAsk)).1 : Co).n (BaS (((d, wAsk)).1 : Co).n (((d, wAsk)).1 : Co).ba), .row (.slice P2 (((d, wAsk)).1 : Co).m k2) 98 4 (((d, wAsk)).1 : Co).m (AwS (((d, wAsk)).1 : Co).m (((d, wAsk)).1 : Co).wa)]) (fun _ => []) w0 v w' := by
  have hSp := fun w => l1Split_v 32 32 line w rfl (by omega)
  rw [hs] at hSp
  have hn_linewLevel : ¬ tx line = ({ data := #[108, 101, 118, 101, 108] } : ByteArray) := fun q => hq1 (tx_inj (q.trans (by rfl : _ = tx wLevel)))
  have hn_linewWater : ¬ tx line = ({ data := #[119, 97, 116, 101, 114] } : ByteArray) := fun q => hq2 (tx_inj (q.trans (by rfl : _ = tx wWater)))
  have q0 : (TS [wArrive, x, wDown, y, z])[mulS 0 1]? = some (.string (tx (wArrive))) := rfl
  have q1 : (TS [wArrive, x, wDown, y, z])[mulS 1 1]? = some (.string (tx (x))) := rfl
  have q2 : (TS [wArrive, x, wDown, y, z])[mulS 2 1]? = some (.string (tx (wDown))) := rfl
  have q3 : (TS [wArrive, x, wDown, y, z])[mulS 3 1]? = some (.string (tx (y))) := rfl
  have q4 : (TS [wArrive, x, wDown, y, z])[mulS 4 1]? = some (.string (tx (z))) := rfl
  have hlt : [wArrive, x, wDown, y, z].length = 5 := rfl
  have hw : ¬ tx wDown = ({ data := #[117, 112] } : ByteArray) := by decide
  have hN := fun B c w (hB : Seen w B [.string (tx x), .string (tx y), .string (tx z)]) => numbers_v B c [x, y, z] w (by show 3 ≤ 1048577; decide) hx hB
  rw [hz, show [x, y, z].length = 3 from rfl] at hN
  refine calls_of_vcL (w0 := w0) tb_ok (args := [.agg (d.at A1 c1 A2 c2).toArray, .string (tx line)]) Tryz.func86 rfl m0 ?_
  (repeat' ((conv => whnf); first | refine go ?_ | (refine VSome.mk ?_; intro gQ hA'; first | subst hA' | cases hA' | (dsimp only at hA'; subst hA')) | refine And.intro ?_ ?_ | intro _ | (first | ((show VCall _ _ _ 44 _ _); refine VCall.ret (fun w1 m1 => hSp w1) (fun i _ => ?_); obtain ⟨g9, c9⟩ := i) | ((show VCall _ _ _ 121 _ _); refine VCall.ret (fun w1 m1 => hN _ _ w1 (Sees.blk 5 rfl w1 m1)) (fun i9 _ => ?_); obtain ⟨P, cp⟩ := i9) | ((show VDraw _ _ _ #[{ dst := some 86, op := _, type := _, pos := _, after := _, guard := _ }, _, _, _, _, _, _, _, _, _, _, _, _, _, _, _] _ _); refine VDraw.mk (.take 0 (.take 1 (.take 2 (.take 3 (.take 4 (.take 5 (.take 6 (.take 7 (.take 8 (.br 9 (.br 10 (.take 11 (.take 12 (.take 13 (.take 14 (.take 15 .done))))) .done) .done)))))))))) [4] (by kernel_rfl) (by kernel_rfl) ?_) | ((show VIdx _ _ _ _ _ _ _); first | refine VIdx.at_ rfl 0 rfl (by omega) ?_ | refine VIdx.at_ rfl 1 rfl (by omega) ?_ | refine VIdx.at_ rfl 2 rfl (by omega) ?_ | refine VIdx.at_ rfl 3 rfl (by omega) ?_ | refine VIdx.at_ rfl 4 rfl (by omega) ?_) | ((show VIdx _ _ _ _ _ _ _); apply VIdx.any; (focus ((repeat (first | exact At.here | apply At.there)); done)); (first | refine VIdxR.mk 0 rfl (by omega) ?_ | refine VIdxR.mk 1 rfl (by omega) ?_ | refine VIdxR.mk 2 rfl (by omega) ?_); intro gQ hA'; first | subst hA' | (cases hA')))))
  all_goals (conv => whnf)
  all_goals exact VRet.mk fun w' m => ⟨(A1, c1, A2, c2), trivial, rfl, m.sel (ks := [0, 1]) (by simp)⟩
set_option maxHeartbeats 16000000 in
theorem sRun_arr_yes_false {w0 : Base} {w : World} (d : Co) (A1 : Option Addr) (c1 : Nat) (A2 : Option Addr) (c2 : Nat) (line : List UInt8) (hf : d.fit) (hl : line.length ≤ 1048575) (hq1 : ¬ line = wLevel) (hq2 : ¬ line = wWater) (x y z : List UInt8) (hs : sps 32 line = [wArrive, x, wDown, y, z]) (hx : ∀ v ∈ [x, y, z], v.length ≤ 1048576) {l : List Int} (hz : numZ [x, y, z] = some l) (h : aGood (d.m + 1) (insF d.wa (plc d.wa (a0 l 0) d.m 0) ⟨a0 l 0, false, a0 l 1, a0 l 2⟩)) (m0 : Mem w0 [.row (.slice A1 d.n c1) 96 3 d.n (BaS d.n d.ba), .row (.slice A2 d.m c2) 98 4 d.m (AwS d.m d.wa)] w) :
    Calls Tryz.prog 86 #[.agg (d.at A1 c1 A2 c2).toArray, .string (tx line)] w fun e w' => ∃ v, e = .returned v ∧ RetL (ι := Option Addr × Nat × Option Addr × Nat) (fun _ => True) (fun (P1, k1, P2, k2) => .tuple #[.agg ((((d.arr (plc d.wa (a0 l 0) d.m 0) ⟨a0 l 0, false, a0 l 1, a0 l 2⟩, wOk)).1 : Co).at P1 k1 P2 k2).toArray, .string (tx ((d.arr (plc d.wa (a0 l 0) d.m 0) ⟨a0 l 0, false, a0 l 1, a0 l 2⟩, wOk)).2)]) (fun (P1, k1, P2, k2) => [.row (.slice P1 (((d.arr (plc d.wa (a0 l 0) d.m 0) ⟨a0 l 0, false, a0 l 1, a0 l 2⟩, wOk)).1 : Co).n k1) 96 3 (((d.arr (plc d.wa (a0 l 0) d.m 0) ⟨a0 l 0, false, a0 l 1, a0 l 2⟩, wOk)).1 : Co).n (BaS (((d.arr (plc d.wa (a0 l 0) d.m 0) ⟨a0 l 0, false, a0 l 1, a0 l 2⟩, wOk)).1 : Co).n (((d.arr (plc d.wa (a0 l 0) d.m 0) ⟨a0 l 0, false, a0 l 1, a0 l 2⟩, wOk)).1 : Co).ba), .row (.slice P2 (((d.arr (plc d.wa (a0 l 0) d.m 0) ⟨a0 l 0, false, a0 l 1, a0 l 2⟩, wOk)).1 : Co).m k2) 98 4 (((d.arr (plc d.wa (a0 l 0) d.m 0) ⟨a0 l 0, false, a0 l 1, a0 l 2⟩, wOk)).1 : Co).m (AwS (((d.arr (plc d.wa (a0 l 0) d.m 0) ⟨a0 l 0, false, a0 l 1, a0 l 2⟩, wOk)).1 : Co).m (((d.arr (plc d.wa (a0 l 0) d.m 0) ⟨a0 l 0, false, a0 l 1, a0 l 2⟩, wOk)).1 : Co).wa)]) (fun _ => []) w0 v w' := by
  have hSp := fun w => l1Split_v 32 32 line w rfl (by omega)
  rw [hs] at hSp
  have hn_linewLevel : ¬ tx line = ({ data := #[108, 101, 118, 101, 108] } : ByteArray) := fun q => hq1 (tx_inj (q.trans (by rfl : _ = tx wLevel)))
  have hn_linewWater : ¬ tx line = ({ data := #[119, 97, 116, 101, 114] } : ByteArray) := fun q => hq2 (tx_inj (q.trans (by rfl : _ = tx wWater)))
  have q0 : (TS [wArrive, x, wDown, y, z])[mulS 0 1]? = some (.string (tx (wArrive))) := rfl
  have q1 : (TS [wArrive, x, wDown, y, z])[mulS 1 1]? = some (.string (tx (x))) := rfl
  have q2 : (TS [wArrive, x, wDown, y, z])[mulS 2 1]? = some (.string (tx (wDown))) := rfl
  have q3 : (TS [wArrive, x, wDown, y, z])[mulS 3 1]? = some (.string (tx (y))) := rfl
  have q4 : (TS [wArrive, x, wDown, y, z])[mulS 4 1]? = some (.string (tx (z))) := rfl
  have hlt : [wArrive, x, wDown, y, z].length = 5 := rfl
  have hw : ¬ tx wDown = ({ data := #[117, 112] } : ByteArray) := by decide
  have hN := fun B c w (hB : Seen w B [.string (tx x), .string (tx y), .string (tx z)]) => numbers_v B c [x, y, z] w (by show 3 ≤ 1048577; decide) hx hB
  rw [hz, show [x, y, z].length = 3 from rfl] at hN
  have hll : l.length = 3 := numZ_len hz
  have p0 : (IL l)[mulS 0 1]? = some (.int .i64 (a0 l 0)) := IL_get (by omega) _ (by rw [mulS_eq])
  have p1 : (IL l)[mulS 1 1]? = some (.int .i64 (a0 l 1)) := IL_get (by omega) _ (by rw [mulS_eq])
  have p2 : (IL l)[mulS 2 1]? = some (.int .i64 (a0 l 2)) := IL_get (by omega) _ (by rw [mulS_eq])
  have hm := hf.2.2.2
  have hAr := fun A2 c2 w hc hP hA => sArrive_yes d A1 c1 A2 c2 ⟨a0 l 0, false, a0 l 1, a0 l 2⟩ w hm h hc hP hA
  refine calls_of_vcL (w0 := w0) tb_ok (args := [.agg (d.at A1 c1 A2 c2).toArray, .string (tx line)]) Tryz.func86 rfl m0 ?_
  (repeat' ((conv => whnf); first | refine go ?_ | (refine VSome.mk ?_; intro gQ hA'; first | subst hA' | cases hA' | (dsimp only at hA'; subst hA')) | refine And.intro ?_ ?_ | intro _ | (first | ((show VCall _ _ _ 44 _ _); refine VCall.ret (fun w1 m1 => hSp w1) (fun i _ => ?_); obtain ⟨g9, c9⟩ := i) | ((show VCall _ _ _ 121 _ _); refine VCall.ret (fun w1 m1 => hN _ _ w1 (Sees.blk 5 rfl w1 m1)) (fun i9 _ => ?_); obtain ⟨P, cp⟩ := i9) | ((show VCall _ _ _ 122 _ _); refine VCall.ret (fun w1 m1 => hAr _ _ w1 (m1.cap fndA) (m1.plain fndA) seenA) (fun i8 _ => ?_); obtain ⟨P8, c8⟩ := i8) | ((show VDraw _ _ _ #[{ dst := some 86, op := _, type := _, pos := _, after := _, guard := _ }, _, _, _, _, _, _, _, _, _, _, _, _, _, _, _] _ _); refine VDraw.mk (.take 0 (.take 1 (.take 2 (.take 3 (.take 4 (.take 5 (.take 6 (.take 7 (.take 8 (.br 9 (.br 10 (.take 11 (.take 12 (.take 13 (.take 14 (.take 15 .done))))) .done) .done)))))))))) [4] (by kernel_rfl) (by kernel_rfl) ?_) | ((show VDraw _ _ _ #[{ dst := some 102, op := _, type := _, pos := _, after := _, guard := _ }, _, _, _, _, _, _, _, _, _, _, _, _, _, _, _, _, _, _, _] _ _); refine VDraw.mk (.take 0 (.take 1 (.take 2 (.take 3 (.take 4 (.take 5 (.take 6 (.take 7 (.take 8 (.take 9 (.take 10 (.take 11 (.take 12 (.take 13 (.take 14 (.br 15 (.take 16 (.take 17 (.br 18 (.take 19 .done) .done))) .done)))))))))))))))) [2, 4, 6] (by kernel_rfl) (by kernel_rfl) ?_) | ((show VIdx _ _ _ _ _ _ _); first | refine VIdx.at_ rfl 0 rfl (by omega) ?_ | refine VIdx.at_ rfl 1 rfl (by omega) ?_ | refine VIdx.at_ rfl 2 rfl (by omega) ?_ | refine VIdx.at_ rfl 3 rfl (by omega) ?_ | refine VIdx.at_ rfl 4 rfl (by omega) ?_) | ((show VIdx _ _ _ _ _ _ _); apply VIdx.any; (focus ((repeat (first | exact At.here | apply At.there)); done)); (first | refine VIdxR.mk 0 rfl (by omega) ?_ | refine VIdxR.mk 1 rfl (by omega) ?_ | refine VIdxR.mk 2 rfl (by omega) ?_); intro gQ hA'; first | subst hA' | (cases hA')))))
  all_goals (conv => whnf)
  all_goals exact VRet.mk fun w' m => ⟨(A1, c1, P8, c8), trivial, rfl, m.sel (ks := [0, 7]) (by simp)⟩
set_option maxHeartbeats 16000000 in
theorem sRun_arr_no_false {w0 : Base} {w : World} (d : Co) (A1 : Option Addr) (c1 : Nat) (A2 : Option Addr) (c2 : Nat) (line : List UInt8) (hf : d.fit) (hl : line.length ≤ 1048575) (hq1 : ¬ line = wLevel) (hq2 : ¬ line = wWater) (x y z : List UInt8) (hs : sps 32 line = [wArrive, x, wDown, y, z]) (hx : ∀ v ∈ [x, y, z], v.length ≤ 1048576) {l : List Int} (hz : numZ [x, y, z] = some l) (h : ¬ aGood (d.m + 1) (insF d.wa (plc d.wa (a0 l 0) d.m 0) ⟨a0 l 0, false, a0 l 1, a0 l 2⟩)) (m0 : Mem w0 [.row (.slice A1 d.n c1) 96 3 d.n (BaS d.n d.ba), .row (.slice A2 d.m c2) 98 4 d.m (AwS d.m d.wa)] w) :
    Calls Tryz.prog 86 #[.agg (d.at A1 c1 A2 c2).toArray, .string (tx line)] w fun e w' => ∃ v, e = .returned v ∧ RetL (ι := Option Addr × Nat × Option Addr × Nat) (fun _ => True) (fun (P1, k1, P2, k2) => .tuple #[.agg ((((d, wAsk)).1 : Co).at P1 k1 P2 k2).toArray, .string (tx ((d, wAsk)).2)]) (fun (P1, k1, P2, k2) => [.row (.slice P1 (((d, wAsk)).1 : Co).n k1) 96 3 (((d, wAsk)).1 : Co).n (BaS (((d, wAsk)).1 : Co).n (((d, wAsk)).1 : Co).ba), .row (.slice P2 (((d, wAsk)).1 : Co).m k2) 98 4 (((d, wAsk)).1 : Co).m (AwS (((d, wAsk)).1 : Co).m (((d, wAsk)).1 : Co).wa)]) (fun _ => []) w0 v w' := by
  have hSp := fun w => l1Split_v 32 32 line w rfl (by omega)
  rw [hs] at hSp
  have hn_linewLevel : ¬ tx line = ({ data := #[108, 101, 118, 101, 108] } : ByteArray) := fun q => hq1 (tx_inj (q.trans (by rfl : _ = tx wLevel)))
  have hn_linewWater : ¬ tx line = ({ data := #[119, 97, 116, 101, 114] } : ByteArray) := fun q => hq2 (tx_inj (q.trans (by rfl : _ = tx wWater)))
  have q0 : (TS [wArrive, x, wDown, y, z])[mulS 0 1]? = some (.string (tx (wArrive))) := rfl
  have q1 : (TS [wArrive, x, wDown, y, z])[mulS 1 1]? = some (.string (tx (x))) := rfl
  have q2 : (TS [wArrive, x, wDown, y, z])[mulS 2 1]? = some (.string (tx (wDown))) := rfl
  have q3 : (TS [wArrive, x, wDown, y, z])[mulS 3 1]? = some (.string (tx (y))) := rfl
  have q4 : (TS [wArrive, x, wDown, y, z])[mulS 4 1]? = some (.string (tx (z))) := rfl
  have hlt : [wArrive, x, wDown, y, z].length = 5 := rfl
  have hw : ¬ tx wDown = ({ data := #[117, 112] } : ByteArray) := by decide
  have hN := fun B c w (hB : Seen w B [.string (tx x), .string (tx y), .string (tx z)]) => numbers_v B c [x, y, z] w (by show 3 ≤ 1048577; decide) hx hB
  rw [hz, show [x, y, z].length = 3 from rfl] at hN
  have hll : l.length = 3 := numZ_len hz
  have p0 : (IL l)[mulS 0 1]? = some (.int .i64 (a0 l 0)) := IL_get (by omega) _ (by rw [mulS_eq])
  have p1 : (IL l)[mulS 1 1]? = some (.int .i64 (a0 l 1)) := IL_get (by omega) _ (by rw [mulS_eq])
  have p2 : (IL l)[mulS 2 1]? = some (.int .i64 (a0 l 2)) := IL_get (by omega) _ (by rw [mulS_eq])
  have hm := hf.2.2.2
  have hAr := fun A2 c2 w hc hP hA => sArrive_no d A1 c1 A2 c2 ⟨a0 l 0, false, a0 l 1, a0 l 2⟩ w hm h hc hP hA
  refine calls_of_vcL (w0 := w0) tb_ok (args := [.agg (d.at A1 c1 A2 c2).toArray, .string (tx line)]) Tryz.func86 rfl m0 ?_
  (repeat' ((conv => whnf); first | refine go ?_ | (refine VSome.mk ?_; intro gQ hA'; first | subst hA' | cases hA' | (dsimp only at hA'; subst hA')) | refine And.intro ?_ ?_ | intro _ | (first | ((show VCall _ _ _ 44 _ _); refine VCall.ret (fun w1 m1 => hSp w1) (fun i _ => ?_); obtain ⟨g9, c9⟩ := i) | ((show VCall _ _ _ 121 _ _); refine VCall.ret (fun w1 m1 => hN _ _ w1 (Sees.blk 5 rfl w1 m1)) (fun i9 _ => ?_); obtain ⟨P, cp⟩ := i9) | ((show VCall _ _ _ 122 _ _); refine VCall.grow _ (fun w1 m1 => hAr _ _ w1 (m1.cap fndA) (m1.plain fndA) seenA) ?_) | ((show VDraw _ _ _ #[{ dst := some 86, op := _, type := _, pos := _, after := _, guard := _ }, _, _, _, _, _, _, _, _, _, _, _, _, _, _, _] _ _); refine VDraw.mk (.take 0 (.take 1 (.take 2 (.take 3 (.take 4 (.take 5 (.take 6 (.take 7 (.take 8 (.br 9 (.br 10 (.take 11 (.take 12 (.take 13 (.take 14 (.take 15 .done))))) .done) .done)))))))))) [4] (by kernel_rfl) (by kernel_rfl) ?_) | ((show VDraw _ _ _ #[{ dst := some 102, op := _, type := _, pos := _, after := _, guard := _ }, _, _, _, _, _, _, _, _, _, _, _, _, _, _, _, _, _, _, _] _ _); refine VDraw.mk (.take 0 (.take 1 (.take 2 (.take 3 (.take 4 (.take 5 (.take 6 (.take 7 (.take 8 (.take 9 (.take 10 (.take 11 (.take 12 (.take 13 (.take 14 (.br 15 (.take 16 (.take 17 (.br 18 (.take 19 .done) .done))) .done)))))))))))))))) [2, 4, 6] (by kernel_rfl) (by kernel_rfl) ?_) | ((show VIdx _ _ _ _ _ _ _); first | refine VIdx.at_ rfl 0 rfl (by omega) ?_ | refine VIdx.at_ rfl 1 rfl (by omega) ?_ | refine VIdx.at_ rfl 2 rfl (by omega) ?_ | refine VIdx.at_ rfl 3 rfl (by omega) ?_ | refine VIdx.at_ rfl 4 rfl (by omega) ?_) | ((show VIdx _ _ _ _ _ _ _); apply VIdx.any; (focus ((repeat (first | exact At.here | apply At.there)); done)); (first | refine VIdxR.mk 0 rfl (by omega) ?_ | refine VIdxR.mk 1 rfl (by omega) ?_ | refine VIdxR.mk 2 rfl (by omega) ?_); intro gQ hA'; first | subst hA' | (cases hA')))))
  all_goals (conv => whnf)
  all_goals exact VRet.mk fun w' m => ⟨(A1, c1, A2, c2), trivial, rfl, m.sel (ks := [0, 1]) (by simp)⟩
end Go.Proofs.YtadjhkehfklmnaaGreatDoor
