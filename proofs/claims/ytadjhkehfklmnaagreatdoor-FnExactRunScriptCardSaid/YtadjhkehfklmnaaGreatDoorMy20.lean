/-
  Texts joined: how the calls that the law reaches are walked, and the plain laws behind them.
  Conditions: none beyond each statement's own premises.
-/
import Derived.Test.YtadjhkehfklmnaaGreatDoorMy19
namespace Go.Proofs.YtadjhkehfklmnaaGreatDoor
set_option linter.unusedSimpArgs false
set_option linter.unusedVariables false
open Go.RowKit
set_option maxRecDepth 10000
theorem l1SplitC_v (l : List UInt8) (w : World) (hl : l.length ≤ 2097152) :
    Calls Tryz.prog 44 #[.string (tx l), .int .u8 32] w fun e w' => ∃ v, e = .returned v ∧ RetV (ι := Nat × Nat) (fun (g, c) => (sps 32 l).length ≤ c) (fun (g, c) => .slice (some ⟨g, 0, none⟩) (sps 32 l).length c) (fun (g, c) => [.row (.slice (some ⟨g, 0, none⟩) (sps 32 l).length c) 9 1 (sps 32 l).length (TS (sps 32 l))]) (Base.of w) v w' :=
  (l1Split_v 32 32 l w rfl hl).mono fun e w' ⟨v, he, i, hi, hv, m⟩ => ⟨v, he, i, m.cap At.here, hv, m⟩
set_option maxHeartbeats 16000000 in
theorem sRun_one_bad {w0 : Base} {w : World} (d : Co) (A1 : Option Addr) (c1 : Nat) (A2 : Option Addr) (c2 : Nat) (line : List UInt8) (hf : d.fit) (hl : line.length ≤ 1048575) (hq1 : ¬ line = wLevel) (hq2 : ¬ line = wWater) (x y : List UInt8) (hs : sps 32 line = [x, y]) (hx : ∀ v ∈ [y], v.length ≤ 1048576) (hy1 : ¬ y = wHigh) (hy2 : ¬ y = wLow) (hz : numZ [y] = none) (m0 : Mem w0 [.row (.slice A1 d.n c1) 96 3 d.n (BaS d.n d.ba), .row (.slice A2 d.m c2) 98 4 d.m (AwS d.m d.wa)] w) :
    Calls Tryz.prog 86 #[.agg (d.at A1 c1 A2 c2).toArray, .string (tx line)] w fun e w' => ∃ v, e = .returned v ∧ RetL (ι := Option Addr × Nat × Option Addr × Nat) (fun _ => True) (fun (P1, k1, P2, k2) => .tuple #[.agg ((((d, wAsk)).1 : Co).at P1 k1 P2 k2).toArray, .string (tx ((d, wAsk)).2)]) (fun (P1, k1, P2, k2) => [.row (.slice P1 (((d, wAsk)).1 : Co).n k1) 96 3 (((d, wAsk)).1 : Co).n (BaS (((d, wAsk)).1 : Co).n (((d, wAsk)).1 : Co).ba), .row (.slice P2 (((d, wAsk)).1 : Co).m k2) 98 4 (((d, wAsk)).1 : Co).m (AwS (((d, wAsk)).1 : Co).m (((d, wAsk)).1 : Co).wa)]) (fun _ => []) w0 v w' := by
  have hSp := fun w => l1SplitC_v line w (by omega)
  rw [hs] at hSp
  have hn_linewLevel : ¬ tx line = ({ data := #[108, 101, 118, 101, 108] } : ByteArray) := fun q => hq1 (tx_inj (q.trans (by rfl : _ = tx wLevel)))
  have hn_linewWater : ¬ tx line = ({ data := #[119, 97, 116, 101, 114] } : ByteArray) := fun q => hq2 (tx_inj (q.trans (by rfl : _ = tx wWater)))
  have q0 : (TS [x, y])[mulS 0 1]? = some (.string (tx (x))) := rfl
  have q1 : (TS [x, y])[mulS 1 1]? = some (.string (tx (y))) := rfl
  have hlt : [x, y].length = 2 := rfl
  have hn_ywHigh : ¬ tx y = ({ data := #[104, 105, 103, 104] } : ByteArray) := fun q => hy1 (tx_inj (q.trans (by rfl : _ = tx wHigh)))
  have hn_ywLow : ¬ tx y = ({ data := #[108, 111, 119] } : ByteArray) := fun q => hy2 (tx_inj (q.trans (by rfl : _ = tx wLow)))
  have hN := fun B c w hB => numbers_v B c [y] w (by show 1 ≤ 1048577; decide) hx hB
  rw [hz] at hN
  refine calls_of_vcL (w0 := w0) tb_ok (args := [.agg (d.at A1 c1 A2 c2).toArray, .string (tx line)]) Tryz.func86 rfl m0 ?_
  (repeat' ((conv => whnf); first | refine go ?_ | (refine VSome.mk ?_; intro gQ hA'; first | subst hA' | cases hA' | (dsimp only at hA'; subst hA')) | refine And.intro ?_ ?_ | intro _ | (first | ((show VCall _ _ _ 44 _ _); refine VCall.ret (fun w1 m1 => hSp w1) (fun i hcap => ?_); obtain ⟨g9, c9⟩ := i; dsimp only at hcap) | ((show VCall _ _ _ 121 _ _); refine VCall.ret (fun w1 m1 => hN _ _ w1 (Seen.tail (B := _) (n := [x, y].length) (k := 1) (Sees.any m1 fndA) hT9 (TS_len1 _))) (fun i9 _ => ?_); obtain ⟨P, cp⟩ := i9)   | ((show VIdx _ _ _ _ _ _ _); first | refine VIdx.at_ rfl 0 rfl (by omega) ?_ | refine VIdx.at_ rfl 1 rfl (by omega) ?_ | refine VIdx.at_ rfl 2 rfl (by omega) ?_ | refine VIdx.at_ rfl 3 rfl (by omega) ?_ | refine VIdx.at_ rfl 4 rfl (by omega) ?_) | ((show VIdx _ _ _ _ _ _ _); apply VIdx.any; (focus ((repeat (first | exact At.here | apply At.there)); done)); (first | refine VIdxR.mk 0 rfl (by omega) ?_ | refine VIdxR.mk 1 rfl (by omega) ?_ | refine VIdxR.mk 2 rfl (by omega) ?_); intro gQ hA'; first | subst hA' | (cases hA')) | ((show VCut _ _ _ _ _ _ _); refine VCut.tail 1 rfl (by omega) (by omega) (Plain.some _ _) (fun B9 d9 hT9 _ => ?_)))))
  all_goals (conv => whnf)
  all_goals exact VRet.mk fun w' m => ⟨(A1, c1, A2, c2), trivial, rfl, m.sel (ks := [0, 1]) (by simp)⟩
set_option maxHeartbeats 16000000 in
theorem sRun_step_yes {w0 : Base} {w : World} (d : Co) (A1 : Option Addr) (c1 : Nat) (A2 : Option Addr) (c2 : Nat) (line : List UInt8) (hf : d.fit) (hl : line.length ≤ 1048575) (hq1 : ¬ line = wLevel) (hq2 : ¬ line = wWater) (y : List UInt8) (hs : sps 32 line = [wStep, y]) (hx : ∀ v ∈ [y], v.length ≤ 1048576) (hy1 : ¬ y = wHigh) (hy2 : ¬ y = wLow) {l : List Int} (hz : numZ [y] = some l) (h : d.lock.okStep (a0 l 0)) (m0 : Mem w0 [.row (.slice A1 d.n c1) 96 3 d.n (BaS d.n d.ba), .row (.slice A2 d.m c2) 98 4 d.m (AwS d.m d.wa)] w) :
    Calls Tryz.prog 86 #[.agg (d.at A1 c1 A2 c2).toArray, .string (tx line)] w fun e w' => ∃ v, e = .returned v ∧ RetL (ι := Option Addr × Nat × Option Addr × Nat) (fun _ => True) (fun (P1, k1, P2, k2) => .tuple #[.agg (((({ d with lock := d.lock.move (a0 l 0) }, wOk)).1 : Co).at P1 k1 P2 k2).toArray, .string (tx (({ d with lock := d.lock.move (a0 l 0) }, wOk)).2)]) (fun (P1, k1, P2, k2) => [.row (.slice P1 ((({ d with lock := d.lock.move (a0 l 0) }, wOk)).1 : Co).n k1) 96 3 ((({ d with lock := d.lock.move (a0 l 0) }, wOk)).1 : Co).n (BaS ((({ d with lock := d.lock.move (a0 l 0) }, wOk)).1 : Co).n ((({ d with lock := d.lock.move (a0 l 0) }, wOk)).1 : Co).ba), .row (.slice P2 ((({ d with lock := d.lock.move (a0 l 0) }, wOk)).1 : Co).m k2) 98 4 ((({ d with lock := d.lock.move (a0 l 0) }, wOk)).1 : Co).m (AwS ((({ d with lock := d.lock.move (a0 l 0) }, wOk)).1 : Co).m ((({ d with lock := d.lock.move (a0 l 0) }, wOk)).1 : Co).wa)]) (fun _ => []) w0 v w' := by
  have hSp := fun w => l1SplitC_v line w (by omega)
  rw [hs] at hSp
  have hn_linewLevel : ¬ tx line = ({ data := #[108, 101, 118, 101, 108] } : ByteArray) := fun q => hq1 (tx_inj (q.trans (by rfl : _ = tx wLevel)))
  have hn_linewWater : ¬ tx line = ({ data := #[119, 97, 116, 101, 114] } : ByteArray) := fun q => hq2 (tx_inj (q.trans (by rfl : _ = tx wWater)))
  have q0 : (TS [wStep, y])[mulS 0 1]? = some (.string (tx (wStep))) := rfl
  have q1 : (TS [wStep, y])[mulS 1 1]? = some (.string (tx (y))) := rfl
  have hlt : [wStep, y].length = 2 := rfl
  have hn_ywHigh : ¬ tx y = ({ data := #[104, 105, 103, 104] } : ByteArray) := fun q => hy1 (tx_inj (q.trans (by rfl : _ = tx wHigh)))
  have hn_ywLow : ¬ tx y = ({ data := #[108, 111, 119] } : ByteArray) := fun q => hy2 (tx_inj (q.trans (by rfl : _ = tx wLow)))
  have hw1 : ¬ tx wStep = ({ data := #[102, 108, 111, 119] } : ByteArray) := by decide
  have hll : l.length = 1 := numZ_len hz
  have p0 : (IL l)[mulS 0 1]? = some (.int .i64 (a0 l 0)) := IL_get (by omega) _ (by rw [mulS_eq])
  have hN := fun B c w hB => numbers_v B c [y] w (by show 1 ≤ 1048577; decide) hx hB
  rw [hz] at hN
  have hSt := fun w => sStep28_yes d A1 c1 A2 c2 (a0 l 0) w h
  refine calls_of_vcL (w0 := w0) tb_ok (args := [.agg (d.at A1 c1 A2 c2).toArray, .string (tx line)]) Tryz.func86 rfl m0 ?_
  (repeat' ((conv => whnf); first | refine go ?_ | (refine VSome.mk ?_; intro gQ hA'; first | subst hA' | cases hA' | (dsimp only at hA'; subst hA')) | refine And.intro ?_ ?_ | intro _ | (first | ((show VCall _ _ _ 44 _ _); refine VCall.ret (fun w1 m1 => hSp w1) (fun i hcap => ?_); obtain ⟨g9, c9⟩ := i; dsimp only at hcap) | ((show VCall _ _ _ 121 _ _); refine VCall.ret (fun w1 m1 => hN _ _ w1 (Seen.tail (B := _) (n := [wStep, y].length) (k := 1) (Sees.any m1 fndA) hT9 (TS_len1 _))) (fun i9 _ => ?_); obtain ⟨P, cp⟩ := i9) | ((show VCall _ _ _ 124 _ _); refine VCall.grow _ (fun w1 m1 => hSt w1) ?_) | ((show VDraw _ _ _ #[{ dst := some 162, op := _, type := _, pos := _, after := _, guard := _ }, _, _, _, _, _, _, _, _] _ _); refine VDraw.mk (.take 0 (.take 1 (.take 2 (.take 3 (.br 4 (.take 5 (.take 6 (.br 7 (.take 8 .done) .done))) .done))))) [2, 5] (by kernel_rfl) (by kernel_rfl) ?_) | ((show VIdx _ _ _ _ _ _ _); first | refine VIdx.at_ rfl 0 rfl (by omega) ?_ | refine VIdx.at_ rfl 1 rfl (by omega) ?_ | refine VIdx.at_ rfl 2 rfl (by omega) ?_ | refine VIdx.at_ rfl 3 rfl (by omega) ?_ | refine VIdx.at_ rfl 4 rfl (by omega) ?_) | ((show VIdx _ _ _ _ _ _ _); apply VIdx.any; (focus ((repeat (first | exact At.here | apply At.there)); done)); (first | refine VIdxR.mk 0 rfl (by omega) ?_ | refine VIdxR.mk 1 rfl (by omega) ?_ | refine VIdxR.mk 2 rfl (by omega) ?_); intro gQ hA'; first | subst hA' | (cases hA')) | ((show VCut _ _ _ _ _ _ _); refine VCut.tail 1 rfl (by omega) (by omega) (Plain.some _ _) (fun B9 d9 hT9 _ => ?_)))))
  all_goals (conv => whnf)
  all_goals exact VRet.mk fun w' m => ⟨(A1, c1, A2, c2), trivial, rfl, m.sel (ks := [0, 1]) (by simp)⟩
set_option maxHeartbeats 16000000 in
theorem sRun_step_no {w0 : Base} {w : World} (d : Co) (A1 : Option Addr) (c1 : Nat) (A2 : Option Addr) (c2 : Nat) (line : List UInt8) (hf : d.fit) (hl : line.length ≤ 1048575) (hq1 : ¬ line = wLevel) (hq2 : ¬ line = wWater) (y : List UInt8) (hs : sps 32 line = [wStep, y]) (hx : ∀ v ∈ [y], v.length ≤ 1048576) (hy1 : ¬ y = wHigh) (hy2 : ¬ y = wLow) {l : List Int} (hz : numZ [y] = some l) (h : ¬ d.lock.okStep (a0 l 0)) (m0 : Mem w0 [.row (.slice A1 d.n c1) 96 3 d.n (BaS d.n d.ba), .row (.slice A2 d.m c2) 98 4 d.m (AwS d.m d.wa)] w) :
    Calls Tryz.prog 86 #[.agg (d.at A1 c1 A2 c2).toArray, .string (tx line)] w fun e w' => ∃ v, e = .returned v ∧ RetL (ι := Option Addr × Nat × Option Addr × Nat) (fun _ => True) (fun (P1, k1, P2, k2) => .tuple #[.agg ((((d, wAsk)).1 : Co).at P1 k1 P2 k2).toArray, .string (tx ((d, wAsk)).2)]) (fun (P1, k1, P2, k2) => [.row (.slice P1 (((d, wAsk)).1 : Co).n k1) 96 3 (((d, wAsk)).1 : Co).n (BaS (((d, wAsk)).1 : Co).n (((d, wAsk)).1 : Co).ba), .row (.slice P2 (((d, wAsk)).1 : Co).m k2) 98 4 (((d, wAsk)).1 : Co).m (AwS (((d, wAsk)).1 : Co).m (((d, wAsk)).1 : Co).wa)]) (fun _ => []) w0 v w' := by
  have hSp := fun w => l1SplitC_v line w (by omega)
  rw [hs] at hSp
  have hn_linewLevel : ¬ tx line = ({ data := #[108, 101, 118, 101, 108] } : ByteArray) := fun q => hq1 (tx_inj (q.trans (by rfl : _ = tx wLevel)))
  have hn_linewWater : ¬ tx line = ({ data := #[119, 97, 116, 101, 114] } : ByteArray) := fun q => hq2 (tx_inj (q.trans (by rfl : _ = tx wWater)))
  have q0 : (TS [wStep, y])[mulS 0 1]? = some (.string (tx (wStep))) := rfl
  have q1 : (TS [wStep, y])[mulS 1 1]? = some (.string (tx (y))) := rfl
  have hlt : [wStep, y].length = 2 := rfl
  have hn_ywHigh : ¬ tx y = ({ data := #[104, 105, 103, 104] } : ByteArray) := fun q => hy1 (tx_inj (q.trans (by rfl : _ = tx wHigh)))
  have hn_ywLow : ¬ tx y = ({ data := #[108, 111, 119] } : ByteArray) := fun q => hy2 (tx_inj (q.trans (by rfl : _ = tx wLow)))
  have hw1 : ¬ tx wStep = ({ data := #[102, 108, 111, 119] } : ByteArray) := by decide
  have hll : l.length = 1 := numZ_len hz
  have p0 : (IL l)[mulS 0 1]? = some (.int .i64 (a0 l 0)) := IL_get (by omega) _ (by rw [mulS_eq])
  have hN := fun B c w hB => numbers_v B c [y] w (by show 1 ≤ 1048577; decide) hx hB
  rw [hz] at hN
  have hSt := fun w => sStep28_no d A1 c1 A2 c2 (a0 l 0) w h
  refine calls_of_vcL (w0 := w0) tb_ok (args := [.agg (d.at A1 c1 A2 c2).toArray, .string (tx line)]) Tryz.func86 rfl m0 ?_
  (repeat' ((conv => whnf); first | refine go ?_ | (refine VSome.mk ?_; intro gQ hA'; first | subst hA' | cases hA' | (dsimp only at hA'; subst hA')) | refine And.intro ?_ ?_ | intro _ | (first | ((show VCall _ _ _ 44 _ _); refine VCall.ret (fun w1 m1 => hSp w1) (fun i hcap => ?_); obtain ⟨g9, c9⟩ := i; dsimp only at hcap) | ((show VCall _ _ _ 121 _ _); refine VCall.ret (fun w1 m1 => hN _ _ w1 (Seen.tail (B := _) (n := [wStep, y].length) (k := 1) (Sees.any m1 fndA) hT9 (TS_len1 _))) (fun i9 _ => ?_); obtain ⟨P, cp⟩ := i9) | ((show VCall _ _ _ 124 _ _); refine VCall.grow _ (fun w1 m1 => hSt w1) ?_) | ((show VDraw _ _ _ #[{ dst := some 162, op := _, type := _, pos := _, after := _, guard := _ }, _, _, _, _, _, _, _, _] _ _); refine VDraw.mk (.take 0 (.take 1 (.take 2 (.take 3 (.br 4 (.take 5 (.take 6 (.br 7 (.take 8 .done) .done))) .done))))) [2, 5] (by kernel_rfl) (by kernel_rfl) ?_) | ((show VIdx _ _ _ _ _ _ _); first | refine VIdx.at_ rfl 0 rfl (by omega) ?_ | refine VIdx.at_ rfl 1 rfl (by omega) ?_ | refine VIdx.at_ rfl 2 rfl (by omega) ?_ | refine VIdx.at_ rfl 3 rfl (by omega) ?_ | refine VIdx.at_ rfl 4 rfl (by omega) ?_) | ((show VIdx _ _ _ _ _ _ _); apply VIdx.any; (focus ((repeat (first | exact At.here | apply At.there)); done)); (first | refine VIdxR.mk 0 rfl (by omega) ?_ | refine VIdxR.mk 1 rfl (by omega) ?_ | refine VIdxR.mk 2 rfl (by omega) ?_); intro gQ hA'; first | subst hA' | (cases hA')) | ((show VCut _ _ _ _ _ _ _); refine VCut.tail 1 rfl (by omega) (by omega) (Plain.some _ _) (fun B9 d9 hT9 _ => ?_)))))
  all_goals (conv => whnf)
  all_goals exact VRet.mk fun w' m => ⟨(A1, c1, A2, c2), trivial, rfl, m.sel (ks := [0, 1]) (by simp)⟩
set_option maxHeartbeats 16000000 in
theorem sRun_leave_yes {w0 : Base} {w : World} (d : Co) (A1 : Option Addr) (c1 : Nat) (A2 : Option Addr) (c2 : Nat) (line : List UInt8) (hf : d.fit) (hl : line.length ≤ 1048575) (hq1 : ¬ line = wLevel) (hq2 : ¬ line = wWater) (y : List UInt8) (hs : sps 32 line = [wLeave, y]) (hx : ∀ v ∈ [y], v.length ≤ 1048576) (hy1 : ¬ y = wHigh) (hy2 : ¬ y = wLow) {l : List Int} (hz : numZ [y] = some l) {i : Nat} (h : fnd d.wa (a0 l 0) d.m = some i) (m0 : Mem w0 [.row (.slice A1 d.n c1) 96 3 d.n (BaS d.n d.ba), .row (.slice A2 d.m c2) 98 4 d.m (AwS d.m d.wa)] w) :
    Calls Tryz.prog 86 #[.agg (d.at A1 c1 A2 c2).toArray, .string (tx line)] w fun e w' => ∃ v, e = .returned v ∧ RetL (ι := Option Addr × Nat × Option Addr × Nat) (fun _ => True) (fun (P1, k1, P2, k2) => .tuple #[.agg ((((d.lve i, wOk)).1 : Co).at P1 k1 P2 k2).toArray, .string (tx ((d.lve i, wOk)).2)]) (fun (P1, k1, P2, k2) => [.row (.slice P1 (((d.lve i, wOk)).1 : Co).n k1) 96 3 (((d.lve i, wOk)).1 : Co).n (BaS (((d.lve i, wOk)).1 : Co).n (((d.lve i, wOk)).1 : Co).ba), .row (.slice P2 (((d.lve i, wOk)).1 : Co).m k2) 98 4 (((d.lve i, wOk)).1 : Co).m (AwS (((d.lve i, wOk)).1 : Co).m (((d.lve i, wOk)).1 : Co).wa)]) (fun _ => []) w0 v w' := by
  have hSp := fun w => l1SplitC_v line w (by omega)
  rw [hs] at hSp
  have hn_linewLevel : ¬ tx line = ({ data := #[108, 101, 118, 101, 108] } : ByteArray) := fun q => hq1 (tx_inj (q.trans (by rfl : _ = tx wLevel)))
  have hn_linewWater : ¬ tx line = ({ data := #[119, 97, 116, 101, 114] } : ByteArray) := fun q => hq2 (tx_inj (q.trans (by rfl : _ = tx wWater)))
  have q0 : (TS [wLeave, y])[mulS 0 1]? = some (.string (tx (wLeave))) := rfl
  have q1 : (TS [wLeave, y])[mulS 1 1]? = some (.string (tx (y))) := rfl
  have hlt : [wLeave, y].length = 2 := rfl
  have hn_ywHigh : ¬ tx y = ({ data := #[104, 105, 103, 104] } : ByteArray) := fun q => hy1 (tx_inj (q.trans (by rfl : _ = tx wHigh)))
  have hn_ywLow : ¬ tx y = ({ data := #[108, 111, 119] } : ByteArray) := fun q => hy2 (tx_inj (q.trans (by rfl : _ = tx wLow)))
  have hw1 : ¬ tx wLeave = ({ data := #[102, 108, 111, 119] } : ByteArray) := by decide
  have hw2 : ¬ tx wLeave = ({ data := #[115, 116, 101, 112] } : ByteArray) := by decide
  have hll : l.length = 1 := numZ_len hz
  have p0 : (IL l)[mulS 0 1]? = some (.int .i64 (a0 l 0)) := IL_get (by omega) _ (by rw [mulS_eq])
  have hN := fun B c w hB => numbers_v B c [y] w (by show 1 ≤ 1048577; decide) hx hB
  rw [hz] at hN
  have hm := hf.2.2.2
  have hLv := fun A2 c2 w hc hP hA => sLeave_v d A1 c1 A2 c2 (a0 l 0) i w hm h hc hP hA
  refine calls_of_vcL (w0 := w0) tb_ok (args := [.agg (d.at A1 c1 A2 c2).toArray, .string (tx line)]) Tryz.func86 rfl m0 ?_
  (repeat' ((conv => whnf); first | refine go ?_ | (refine VSome.mk ?_; intro gQ hA'; first | subst hA' | cases hA' | (dsimp only at hA'; subst hA')) | refine And.intro ?_ ?_ | intro _ | (first | ((show VCall _ _ _ 44 _ _); refine VCall.ret (fun w1 m1 => hSp w1) (fun i hcap => ?_); obtain ⟨g9, c9⟩ := i; dsimp only at hcap) | ((show VCall _ _ _ 121 _ _); refine VCall.ret (fun w1 m1 => hN _ _ w1 (Seen.tail (B := _) (n := [wLeave, y].length) (k := 1) (Sees.any m1 fndA) hT9 (TS_len1 _))) (fun i9 _ => ?_); obtain ⟨P, cp⟩ := i9) | ((show VCall _ _ _ 125 _ _); refine VCall.ret (fun w1 m1 => hLv _ _ w1 (m1.cap fndA) (m1.plain fndA) seenA) (fun i8 _ => ?_); obtain ⟨P8, c8⟩ := i8) | ((show VDraw _ _ _ #[{ dst := some 174, op := _, type := _, pos := _, after := _, guard := _ }, _, _, _, _, _, _, _, _] _ _); refine VDraw.mk (.take 0 (.take 1 (.take 2 (.take 3 (.br 4 (.take 5 (.take 6 (.br 7 (.take 8 .done) .done))) .done))))) [2, 5] (by kernel_rfl) (by kernel_rfl) ?_) | ((show VIdx _ _ _ _ _ _ _); first | refine VIdx.at_ rfl 0 rfl (by omega) ?_ | refine VIdx.at_ rfl 1 rfl (by omega) ?_ | refine VIdx.at_ rfl 2 rfl (by omega) ?_ | refine VIdx.at_ rfl 3 rfl (by omega) ?_ | refine VIdx.at_ rfl 4 rfl (by omega) ?_) | ((show VIdx _ _ _ _ _ _ _); apply VIdx.any; (focus ((repeat (first | exact At.here | apply At.there)); done)); (first | refine VIdxR.mk 0 rfl (by omega) ?_ | refine VIdxR.mk 1 rfl (by omega) ?_ | refine VIdxR.mk 2 rfl (by omega) ?_); intro gQ hA'; first | subst hA' | (cases hA')) | ((show VCut _ _ _ _ _ _ _); refine VCut.tail 1 rfl (by omega) (by omega) (Plain.some _ _) (fun B9 d9 hT9 _ => ?_)))))
  all_goals (conv => whnf)
  all_goals exact VRet.mk fun w' m => ⟨(A1, c1, P8, c8), trivial, rfl, m.sel (ks := [0, 6]) (by simp)⟩
set_option maxHeartbeats 16000000 in
theorem sRun_leave_no {w0 : Base} {w : World} (d : Co) (A1 : Option Addr) (c1 : Nat) (A2 : Option Addr) (c2 : Nat) (line : List UInt8) (hf : d.fit) (hl : line.length ≤ 1048575) (hq1 : ¬ line = wLevel) (hq2 : ¬ line = wWater) (y : List UInt8) (hs : sps 32 line = [wLeave, y]) (hx : ∀ v ∈ [y], v.length ≤ 1048576) (hy1 : ¬ y = wHigh) (hy2 : ¬ y = wLow) {l : List Int} (hz : numZ [y] = some l) (h : fnd d.wa (a0 l 0) d.m = none) (m0 : Mem w0 [.row (.slice A1 d.n c1) 96 3 d.n (BaS d.n d.ba), .row (.slice A2 d.m c2) 98 4 d.m (AwS d.m d.wa)] w) :
    Calls Tryz.prog 86 #[.agg (d.at A1 c1 A2 c2).toArray, .string (tx line)] w fun e w' => ∃ v, e = .returned v ∧ RetL (ι := Option Addr × Nat × Option Addr × Nat) (fun _ => True) (fun (P1, k1, P2, k2) => .tuple #[.agg ((((d, wAsk)).1 : Co).at P1 k1 P2 k2).toArray, .string (tx ((d, wAsk)).2)]) (fun (P1, k1, P2, k2) => [.row (.slice P1 (((d, wAsk)).1 : Co).n k1) 96 3 (((d, wAsk)).1 : Co).n (BaS (((d, wAsk)).1 : Co).n (((d, wAsk)).1 : Co).ba), .row (.slice P2 (((d, wAsk)).1 : Co).m k2) 98 4 (((d, wAsk)).1 : Co).m (AwS (((d, wAsk)).1 : Co).m (((d, wAsk)).1 : Co).wa)]) (fun _ => []) w0 v w' := by
  have hSp := fun w => l1SplitC_v line w (by omega)
  rw [hs] at hSp
  have hn_linewLevel : ¬ tx line = ({ data := #[108, 101, 118, 101, 108] } : ByteArray) := fun q => hq1 (tx_inj (q.trans (by rfl : _ = tx wLevel)))
  have hn_linewWater : ¬ tx line = ({ data := #[119, 97, 116, 101, 114] } : ByteArray) := fun q => hq2 (tx_inj (q.trans (by rfl : _ = tx wWater)))
  have q0 : (TS [wLeave, y])[mulS 0 1]? = some (.string (tx (wLeave))) := rfl
  have q1 : (TS [wLeave, y])[mulS 1 1]? = some (.string (tx (y))) := rfl
  have hlt : [wLeave, y].length = 2 := rfl
  have hn_ywHigh : ¬ tx y = ({ data := #[104, 105, 103, 104] } : ByteArray) := fun q => hy1 (tx_inj (q.trans (by rfl : _ = tx wHigh)))
  have hn_ywLow : ¬ tx y = ({ data := #[108, 111, 119] } : ByteArray) := fun q => hy2 (tx_inj (q.trans (by rfl : _ = tx wLow)))
  have hw1 : ¬ tx wLeave = ({ data := #[102, 108, 111, 119] } : ByteArray) := by decide
  have hw2 : ¬ tx wLeave = ({ data := #[115, 116, 101, 112] } : ByteArray) := by decide
  have hll : l.length = 1 := numZ_len hz
  have p0 : (IL l)[mulS 0 1]? = some (.int .i64 (a0 l 0)) := IL_get (by omega) _ (by rw [mulS_eq])
  have hN := fun B c w hB => numbers_v B c [y] w (by show 1 ≤ 1048577; decide) hx hB
  rw [hz] at hN
  have hm := hf.2.2.2
  have hLv := fun A2 c2 w hA => sLeave_no d A1 c1 A2 c2 (a0 l 0) w hm h hA
  refine calls_of_vcL (w0 := w0) tb_ok (args := [.agg (d.at A1 c1 A2 c2).toArray, .string (tx line)]) Tryz.func86 rfl m0 ?_
  (repeat' ((conv => whnf); first | refine go ?_ | (refine VSome.mk ?_; intro gQ hA'; first | subst hA' | cases hA' | (dsimp only at hA'; subst hA')) | refine And.intro ?_ ?_ | intro _ | (first | ((show VCall _ _ _ 44 _ _); refine VCall.ret (fun w1 m1 => hSp w1) (fun i hcap => ?_); obtain ⟨g9, c9⟩ := i; dsimp only at hcap) | ((show VCall _ _ _ 121 _ _); refine VCall.ret (fun w1 m1 => hN _ _ w1 (Seen.tail (B := _) (n := [wLeave, y].length) (k := 1) (Sees.any m1 fndA) hT9 (TS_len1 _))) (fun i9 _ => ?_); obtain ⟨P, cp⟩ := i9) | ((show VCall _ _ _ 125 _ _); refine VCall.grow _ (fun w1 m1 => hLv _ _ w1 seenA) ?_) | ((show VDraw _ _ _ #[{ dst := some 174, op := _, type := _, pos := _, after := _, guard := _ }, _, _, _, _, _, _, _, _] _ _); refine VDraw.mk (.take 0 (.take 1 (.take 2 (.take 3 (.br 4 (.take 5 (.take 6 (.br 7 (.take 8 .done) .done))) .done))))) [2, 5] (by kernel_rfl) (by kernel_rfl) ?_) | ((show VIdx _ _ _ _ _ _ _); first | refine VIdx.at_ rfl 0 rfl (by omega) ?_ | refine VIdx.at_ rfl 1 rfl (by omega) ?_ | refine VIdx.at_ rfl 2 rfl (by omega) ?_ | refine VIdx.at_ rfl 3 rfl (by omega) ?_ | refine VIdx.at_ rfl 4 rfl (by omega) ?_) | ((show VIdx _ _ _ _ _ _ _); apply VIdx.any; (focus ((repeat (first | exact At.here | apply At.there)); done)); (first | refine VIdxR.mk 0 rfl (by omega) ?_ | refine VIdxR.mk 1 rfl (by omega) ?_ | refine VIdxR.mk 2 rfl (by omega) ?_); intro gQ hA'; first | subst hA' | (cases hA')) | ((show VCut _ _ _ _ _ _ _); refine VCut.tail 1 rfl (by omega) (by omega) (Plain.some _ _) (fun B9 d9 hT9 _ => ?_)))))
  all_goals (conv => whnf)
  all_goals exact VRet.mk fun w' m => ⟨(A1, c1, A2, c2), trivial, rfl, m.sel (ks := [0, 1]) (by simp)⟩
set_option maxHeartbeats 16000000 in
theorem sRun_ask {w0 : Base} {w : World} (d : Co) (A1 : Option Addr) (c1 : Nat) (A2 : Option Addr) (c2 : Nat) (line : List UInt8) (hf : d.fit) (hl : line.length ≤ 1048575) (hq1 : ¬ line = wLevel) (hq2 : ¬ line = wWater) (x y : List UInt8) (hs : sps 32 line = [x, y]) (hx : ∀ v ∈ [y], v.length ≤ 1048576) (hy1 : ¬ y = wHigh) (hy2 : ¬ y = wLow) {l : List Int} (hz : numZ [y] = some l) (h1 : ¬ x = wStep) (h2 : ¬ x = wLeave) (m0 : Mem w0 [.row (.slice A1 d.n c1) 96 3 d.n (BaS d.n d.ba), .row (.slice A2 d.m c2) 98 4 d.m (AwS d.m d.wa)] w) :
    Calls Tryz.prog 86 #[.agg (d.at A1 c1 A2 c2).toArray, .string (tx line)] w fun e w' => ∃ v, e = .returned v ∧ RetL (ι := Option Addr × Nat × Option Addr × Nat) (fun _ => True) (fun (P1, k1, P2, k2) => .tuple #[.agg ((((d, d.askV x (a0 l 0))).1 : Co).at P1 k1 P2 k2).toArray, .string (tx ((d, d.askV x (a0 l 0))).2)]) (fun (P1, k1, P2, k2) => [.row (.slice P1 (((d, d.askV x (a0 l 0))).1 : Co).n k1) 96 3 (((d, d.askV x (a0 l 0))).1 : Co).n (BaS (((d, d.askV x (a0 l 0))).1 : Co).n (((d, d.askV x (a0 l 0))).1 : Co).ba), .row (.slice P2 (((d, d.askV x (a0 l 0))).1 : Co).m k2) 98 4 (((d, d.askV x (a0 l 0))).1 : Co).m (AwS (((d, d.askV x (a0 l 0))).1 : Co).m (((d, d.askV x (a0 l 0))).1 : Co).wa)]) (fun _ => []) w0 v w' := by
  have hSp := fun w => l1SplitC_v line w (by omega)
  rw [hs] at hSp
  have hn_linewLevel : ¬ tx line = ({ data := #[108, 101, 118, 101, 108] } : ByteArray) := fun q => hq1 (tx_inj (q.trans (by rfl : _ = tx wLevel)))
  have hn_linewWater : ¬ tx line = ({ data := #[119, 97, 116, 101, 114] } : ByteArray) := fun q => hq2 (tx_inj (q.trans (by rfl : _ = tx wWater)))
  have q0 : (TS [x, y])[mulS 0 1]? = some (.string (tx (x))) := rfl
  have q1 : (TS [x, y])[mulS 1 1]? = some (.string (tx (y))) := rfl
  have hlt : [x, y].length = 2 := rfl
  have hn_ywHigh : ¬ tx y = ({ data := #[104, 105, 103, 104] } : ByteArray) := fun q => hy1 (tx_inj (q.trans (by rfl : _ = tx wHigh)))
  have hn_ywLow : ¬ tx y = ({ data := #[108, 111, 119] } : ByteArray) := fun q => hy2 (tx_inj (q.trans (by rfl : _ = tx wLow)))
  have hn_xwStep : ¬ tx x = ({ data := #[115, 116, 101, 112] } : ByteArray) := fun q => h1 (tx_inj (q.trans (by rfl : _ = tx wStep)))
  have hn_xwLeave : ¬ tx x = ({ data := #[108, 101, 97, 118, 101] } : ByteArray) := fun q => h2 (tx_inj (q.trans (by rfl : _ = tx wLeave)))
  have hll : l.length = 1 := numZ_len hz
  have p0 : (IL l)[mulS 0 1]? = some (.int .i64 (a0 l 0)) := IL_get (by omega) _ (by rw [mulS_eq])
  have hN := fun B c w hB => numbers_v B c [y] w (by show 1 ≤ 1048577; decide) hx hB
  rw [hz] at hN
  have hm := hf.2.2.2
  have hAs := fun A2 c2 w hc hP hA => sAsk_v d A1 c1 A2 c2 x (a0 l 0) w hf.1 hf.2.2 hc hP hA
  generalize d.askV x (a0 l 0) = tt at hAs ⊢
  refine calls_of_vcL (w0 := w0) tb_ok (args := [.agg (d.at A1 c1 A2 c2).toArray, .string (tx line)]) Tryz.func86 rfl m0 ?_
  (repeat' ((conv => whnf); first | refine go ?_ | (refine VSome.mk ?_; intro gQ hA'; first | subst hA' | cases hA' | (dsimp only at hA'; subst hA')) | refine And.intro ?_ ?_ | intro _ | (first | ((show VCall _ _ _ 44 _ _); refine VCall.ret (fun w1 m1 => hSp w1) (fun i hcap => ?_); obtain ⟨g9, c9⟩ := i; dsimp only at hcap) | ((show VCall _ _ _ 121 _ _); refine VCall.ret (fun w1 m1 => hN _ _ w1 (Seen.tail (B := _) (n := [x, y].length) (k := 1) (Sees.any m1 fndA) hT9 (TS_len1 _))) (fun i9 _ => ?_); obtain ⟨P, cp⟩ := i9) | ((show VCall _ _ _ 126 _ _); refine VCall.grow _ (fun w1 m1 => hAs _ _ w1 (m1.cap fndA) (m1.plain fndA) seenA) ?_) | ((show VDraw _ _ _ #[{ dst := some 181, op := _, type := _, pos := _, after := _, guard := _ }, _, _, _, _, _, _, _, _, _, _] _ _); refine VDraw.mk (.take 0 (.take 1 (.take 2 (.take 3 (.take 4 (.take 5 (.take 6 (.take 7 (.br 8 (.br 9 (.take 10 .done) .done) .done))))))))) [2, 4, 5] (by kernel_rfl) (by kernel_rfl) ?_) | ((show VIdx _ _ _ _ _ _ _); first | refine VIdx.at_ rfl 0 rfl (by omega) ?_ | refine VIdx.at_ rfl 1 rfl (by omega) ?_ | refine VIdx.at_ rfl 2 rfl (by omega) ?_ | refine VIdx.at_ rfl 3 rfl (by omega) ?_ | refine VIdx.at_ rfl 4 rfl (by omega) ?_) | ((show VIdx _ _ _ _ _ _ _); apply VIdx.any; (focus ((repeat (first | exact At.here | apply At.there)); done)); (first | refine VIdxR.mk 0 rfl (by omega) ?_ | refine VIdxR.mk 1 rfl (by omega) ?_ | refine VIdxR.mk 2 rfl (by omega) ?_); intro gQ hA'; first | subst hA' | (cases hA')) | ((show VCut _ _ _ _ _ _ _); refine VCut.tail 1 rfl (by omega) (by omega) (Plain.some _ _) (fun B9 d9 hT9 _ => ?_)))))
  all_goals (conv => whnf)
  all_goals exact VRet.mk fun w' m => ⟨(A1, c1, A2, c2), trivial, rfl, m.sel (ks := [0, 1]) (by simp)⟩
set_option maxHeartbeats 16000000 in
theorem sRun_flow_yes {w0 : Base} {w : World} (d : Co) (A1 : Option Addr) (c1 : Nat) (A2 : Option Addr) (c2 : Nat) (line : List UInt8) (hf : d.fit) (hl : line.length ≤ 1048575) (hq1 : ¬ line = wLevel) (hq2 : ¬ line = wWater) (y z u : List UInt8) (hs : sps 32 line = [wFlow, y, z, u]) (hx : ∀ v ∈ [y, z, u], v.length ≤ 1048576) {l : List Int} (hz : numZ [y, z, u] = some l) (h : bCan d.n d.ba (a0 l 0) (a0 l 1) (a0 l 2)) (m0 : Mem w0 [.row (.slice A1 d.n c1) 96 3 d.n (BaS d.n d.ba), .row (.slice A2 d.m c2) 98 4 d.m (AwS d.m d.wa)] w) :
    Calls Tryz.prog 86 #[.agg (d.at A1 c1 A2 c2).toArray, .string (tx line)] w fun e w' => ∃ v, e = .returned v ∧ RetL (ι := Option Addr × Nat × Option Addr × Nat) (fun _ => True) (fun (P1, k1, P2, k2) => .tuple #[.agg (((({ d with ba := bMv d.ba (a0 l 0) (a0 l 1) (a0 l 2) }, wOk)).1 : Co).at P1 k1 P2 k2).toArray, .string (tx (({ d with ba := bMv d.ba (a0 l 0) (a0 l 1) (a0 l 2) }, wOk)).2)]) (fun (P1, k1, P2, k2) => [.row (.slice P1 ((({ d with ba := bMv d.ba (a0 l 0) (a0 l 1) (a0 l 2) }, wOk)).1 : Co).n k1) 96 3 ((({ d with ba := bMv d.ba (a0 l 0) (a0 l 1) (a0 l 2) }, wOk)).1 : Co).n (BaS ((({ d with ba := bMv d.ba (a0 l 0) (a0 l 1) (a0 l 2) }, wOk)).1 : Co).n ((({ d with ba := bMv d.ba (a0 l 0) (a0 l 1) (a0 l 2) }, wOk)).1 : Co).ba), .row (.slice P2 ((({ d with ba := bMv d.ba (a0 l 0) (a0 l 1) (a0 l 2) }, wOk)).1 : Co).m k2) 98 4 ((({ d with ba := bMv d.ba (a0 l 0) (a0 l 1) (a0 l 2) }, wOk)).1 : Co).m (AwS ((({ d with ba := bMv d.ba (a0 l 0) (a0 l 1) (a0 l 2) }, wOk)).1 : Co).m ((({ d with ba := bMv d.ba (a0 l 0) (a0 l 1) (a0 l 2) }, wOk)).1 : Co).wa)]) (fun _ => []) w0 v w' := by
  have hSp := fun w => l1SplitC_v line w (by omega)
  rw [hs] at hSp
  have hn_linewLevel : ¬ tx line = ({ data := #[108, 101, 118, 101, 108] } : ByteArray) := fun q => hq1 (tx_inj (q.trans (by rfl : _ = tx wLevel)))
  have hn_linewWater : ¬ tx line = ({ data := #[119, 97, 116, 101, 114] } : ByteArray) := fun q => hq2 (tx_inj (q.trans (by rfl : _ = tx wWater)))
  have q0 : (TS [wFlow, y, z, u])[mulS 0 1]? = some (.string (tx (wFlow))) := rfl
  have q1 : (TS [wFlow, y, z, u])[mulS 1 1]? = some (.string (tx (y))) := rfl
  have q2 : (TS [wFlow, y, z, u])[mulS 2 1]? = some (.string (tx (z))) := rfl
  have q3 : (TS [wFlow, y, z, u])[mulS 3 1]? = some (.string (tx (u))) := rfl
  have hlt : [wFlow, y, z, u].length = 4 := rfl
  have hll : l.length = 3 := numZ_len hz
  have p0 : (IL l)[mulS 0 1]? = some (.int .i64 (a0 l 0)) := IL_get (by omega) _ (by rw [mulS_eq])
  have p1 : (IL l)[mulS 1 1]? = some (.int .i64 (a0 l 1)) := IL_get (by omega) _ (by rw [mulS_eq])
  have p2 : (IL l)[mulS 2 1]? = some (.int .i64 (a0 l 2)) := IL_get (by omega) _ (by rw [mulS_eq])
  have hN := fun B c w hB => numbers_v B c [y, z, u] w (by show 3 ≤ 1048577; decide) hx hB
  rw [hz] at hN
  have hb := hf.2.1
  have hn := hb.2
  have hFl := fun A1 c1 w hA => sFlow28_yes d A1 c1 A2 c2 (a0 l 0) (a0 l 1) (a0 l 2) w hb h hA
  refine calls_of_vcL (w0 := w0) tb_ok (args := [.agg (d.at A1 c1 A2 c2).toArray, .string (tx line)]) Tryz.func86 rfl m0 ?_
  (repeat' ((conv => whnf); first | refine go ?_ | (refine VSome.mk ?_; intro gQ hA'; first | subst hA' | cases hA' | (dsimp only at hA'; subst hA')) | refine And.intro ?_ ?_ | intro _ | (first | ((show VCall _ _ _ 44 _ _); refine VCall.ret (fun w1 m1 => hSp w1) (fun i hcap => ?_); obtain ⟨g9, c9⟩ := i; dsimp only at hcap) | ((show VCall _ _ _ 121 _ _); refine VCall.ret (fun w1 m1 => hN _ _ w1 (Seen.tail (B := _) (n := [wFlow, y, z, u].length) (k := 1) (Sees.any m1 fndA) hT9 (TS_len1 _))) (fun i9 _ => ?_); obtain ⟨P, cp⟩ := i9) | ((show VCall _ _ _ 123 _ _); refine VCall.ret (fun w1 m1 => hFl _ _ w1 seenA) (fun i8 _ => ?_); obtain ⟨P8, c8⟩ := i8) | ((show VDraw _ _ _ #[{ dst := some 139, op := _, type := _, pos := _, after := _, guard := _ }, _, _, _, _, _, _, _, _, _, _, _, _, _, _, _] _ _); refine VDraw.mk (.take 0 (.take 1 (.take 2 (.take 3 (.take 4 (.take 5 (.take 6 (.take 7 (.take 8 (.take 9 (.take 10 (.br 11 (.take 12 (.take 13 (.br 14 (.take 15 .done) .done))) .done)))))))))))) [2, 5] (by kernel_rfl) (by kernel_rfl) ?_) | ((show VIdx _ _ _ _ _ _ _); first | refine VIdx.at_ rfl 0 rfl (by omega) ?_ | refine VIdx.at_ rfl 1 rfl (by omega) ?_ | refine VIdx.at_ rfl 2 rfl (by omega) ?_ | refine VIdx.at_ rfl 3 rfl (by omega) ?_ | refine VIdx.at_ rfl 4 rfl (by omega) ?_) | ((show VIdx _ _ _ _ _ _ _); apply VIdx.any; (focus ((repeat (first | exact At.here | apply At.there)); done)); (first | refine VIdxR.mk 0 rfl (by omega) ?_ | refine VIdxR.mk 1 rfl (by omega) ?_ | refine VIdxR.mk 2 rfl (by omega) ?_); intro gQ hA'; first | subst hA' | (cases hA')) | ((show VCut _ _ _ _ _ _ _); refine VCut.tail 1 rfl (by omega) (by omega) (Plain.some _ _) (fun B9 d9 hT9 _ => ?_)))))
  all_goals (conv => whnf)
  all_goals exact VRet.mk fun w' m => ⟨(some ⟨P8, 0, none⟩, c8, A2, c2), trivial, rfl, m.sel (ks := [6, 1]) (by simp)⟩
set_option maxHeartbeats 16000000 in
theorem sRun_flow_no {w0 : Base} {w : World} (d : Co) (A1 : Option Addr) (c1 : Nat) (A2 : Option Addr) (c2 : Nat) (line : List UInt8) (hf : d.fit) (hl : line.length ≤ 1048575) (hq1 : ¬ line = wLevel) (hq2 : ¬ line = wWater) (y z u : List UInt8) (hs : sps 32 line = [wFlow, y, z, u]) (hx : ∀ v ∈ [y, z, u], v.length ≤ 1048576) {l : List Int} (hz : numZ [y, z, u] = some l) (h : ¬ bCan d.n d.ba (a0 l 0) (a0 l 1) (a0 l 2)) (m0 : Mem w0 [.row (.slice A1 d.n c1) 96 3 d.n (BaS d.n d.ba), .row (.slice A2 d.m c2) 98 4 d.m (AwS d.m d.wa)] w) :
    Calls Tryz.prog 86 #[.agg (d.at A1 c1 A2 c2).toArray, .string (tx line)] w fun e w' => ∃ v, e = .returned v ∧ RetL (ι := Option Addr × Nat × Option Addr × Nat) (fun _ => True) (fun (P1, k1, P2, k2) => .tuple #[.agg ((((d, wAsk)).1 : Co).at P1 k1 P2 k2).toArray, .string (tx ((d, wAsk)).2)]) (fun (P1, k1, P2, k2) => [.row (.slice P1 (((d, wAsk)).1 : Co).n k1) 96 3 (((d, wAsk)).1 : Co).n (BaS (((d, wAsk)).1 : Co).n (((d, wAsk)).1 : Co).ba), .row (.slice P2 (((d, wAsk)).1 : Co).m k2) 98 4 (((d, wAsk)).1 : Co).m (AwS (((d, wAsk)).1 : Co).m (((d, wAsk)).1 : Co).wa)]) (fun _ => []) w0 v w' := by
  have hSp := fun w => l1SplitC_v line w (by omega)
  rw [hs] at hSp
  have hn_linewLevel : ¬ tx line = ({ data := #[108, 101, 118, 101, 108] } : ByteArray) := fun q => hq1 (tx_inj (q.trans (by rfl : _ = tx wLevel)))
  have hn_linewWater : ¬ tx line = ({ data := #[119, 97, 116, 101, 114] } : ByteArray) := fun q => hq2 (tx_inj (q.trans (by rfl : _ = tx wWater)))
  have q0 : (TS [wFlow, y, z, u])[mulS 0 1]? = some (.string (tx (wFlow))) := rfl
  have q1 : (TS [wFlow, y, z, u])[mulS 1 1]? = some (.string (tx (y))) := rfl
  have q2 : (TS [wFlow, y, z, u])[mulS 2 1]? = some (.string (tx (z))) := rfl
  have q3 : (TS [wFlow, y, z, u])[mulS 3 1]? = some (.string (tx (u))) := rfl
  have hlt : [wFlow, y, z, u].length = 4 := rfl
  have hll : l.length = 3 := numZ_len hz
  have p0 : (IL l)[mulS 0 1]? = some (.int .i64 (a0 l 0)) := IL_get (by omega) _ (by rw [mulS_eq])
  have p1 : (IL l)[mulS 1 1]? = some (.int .i64 (a0 l 1)) := IL_get (by omega) _ (by rw [mulS_eq])
  have p2 : (IL l)[mulS 2 1]? = some (.int .i64 (a0 l 2)) := IL_get (by omega) _ (by rw [mulS_eq])
  have hN := fun B c w hB => numbers_v B c [y, z, u] w (by show 3 ≤ 1048577; decide) hx hB
  rw [hz] at hN
  have hb := hf.2.1
  have hn := hb.2
  have hFl := fun A1 c1 w hA => sFlow28_no d A1 c1 A2 c2 (a0 l 0) (a0 l 1) (a0 l 2) w hb h hA
  refine calls_of_vcL (w0 := w0) tb_ok (args := [.agg (d.at A1 c1 A2 c2).toArray, .string (tx line)]) Tryz.func86 rfl m0 ?_
  (repeat' ((conv => whnf); first | refine go ?_ | (refine VSome.mk ?_; intro gQ hA'; first | subst hA' | cases hA' | (dsimp only at hA'; subst hA')) | refine And.intro ?_ ?_ | intro _ | (first | ((show VCall _ _ _ 44 _ _); refine VCall.ret (fun w1 m1 => hSp w1) (fun i hcap => ?_); obtain ⟨g9, c9⟩ := i; dsimp only at hcap) | ((show VCall _ _ _ 121 _ _); refine VCall.ret (fun w1 m1 => hN _ _ w1 (Seen.tail (B := _) (n := [wFlow, y, z, u].length) (k := 1) (Sees.any m1 fndA) hT9 (TS_len1 _))) (fun i9 _ => ?_); obtain ⟨P, cp⟩ := i9) | ((show VCall _ _ _ 123 _ _); refine VCall.grow _ (fun w1 m1 => hFl _ _ w1 seenA) ?_) | ((show VDraw _ _ _ #[{ dst := some 139, op := _, type := _, pos := _, after := _, guard := _ }, _, _, _, _, _, _, _, _, _, _, _, _, _, _, _] _ _); refine VDraw.mk (.take 0 (.take 1 (.take 2 (.take 3 (.take 4 (.take 5 (.take 6 (.take 7 (.take 8 (.take 9 (.take 10 (.br 11 (.take 12 (.take 13 (.br 14 (.take 15 .done) .done))) .done)))))))))))) [2, 5] (by kernel_rfl) (by kernel_rfl) ?_) | ((show VIdx _ _ _ _ _ _ _); first | refine VIdx.at_ rfl 0 rfl (by omega) ?_ | refine VIdx.at_ rfl 1 rfl (by omega) ?_ | refine VIdx.at_ rfl 2 rfl (by omega) ?_ | refine VIdx.at_ rfl 3 rfl (by omega) ?_ | refine VIdx.at_ rfl 4 rfl (by omega) ?_) | ((show VIdx _ _ _ _ _ _ _); apply VIdx.any; (focus ((repeat (first | exact At.here | apply At.there)); done)); (first | refine VIdxR.mk 0 rfl (by omega) ?_ | refine VIdxR.mk 1 rfl (by omega) ?_ | refine VIdxR.mk 2 rfl (by omega) ?_); intro gQ hA'; first | subst hA' | (cases hA')) | ((show VCut _ _ _ _ _ _ _); refine VCut.tail 1 rfl (by omega) (by omega) (Plain.some _ _) (fun B9 d9 hT9 _ => ?_)))))
  all_goals (conv => whnf)
  all_goals exact VRet.mk fun w' m => ⟨(A1, c1, A2, c2), trivial, rfl, m.sel (ks := [0, 1]) (by simp)⟩
set_option maxHeartbeats 16000000 in
theorem sRun_oth_bad {w0 : Base} {w : World} (d : Co) (A1 : Option Addr) (c1 : Nat) (A2 : Option Addr) (c2 : Nat) (line : List UInt8) (hf : d.fit) (hl : line.length ≤ 1048575) (hq1 : ¬ line = wLevel) (hq2 : ¬ line = wWater) (x : List UInt8) (r : List (List UInt8)) (hs : sps 32 line = x :: r) (hr : r.length ≤ 1048576) (hx : ∀ v ∈ r, v.length ≤ 1048576) (h1 : ¬ r.length = 1) (h4 : ¬ (x = wArrive ∧ r.length = 4)) (hz : numZ r = none) (m0 : Mem w0 [.row (.slice A1 d.n c1) 96 3 d.n (BaS d.n d.ba), .row (.slice A2 d.m c2) 98 4 d.m (AwS d.m d.wa)] w) :
    Calls Tryz.prog 86 #[.agg (d.at A1 c1 A2 c2).toArray, .string (tx line)] w fun e w' => ∃ v, e = .returned v ∧ RetL (ι := Option Addr × Nat × Option Addr × Nat) (fun _ => True) (fun (P1, k1, P2, k2) => .tuple #[.agg ((((d, wAsk)).1 : Co).at P1 k1 P2 k2).toArray, .string (tx ((d, wAsk)).2)]) (fun (P1, k1, P2, k2) => [.row (.slice P1 (((d, wAsk)).1 : Co).n k1) 96 3 (((d, wAsk)).1 : Co).n (BaS (((d, wAsk)).1 : Co).n (((d, wAsk)).1 : Co).ba), .row (.slice P2 (((d, wAsk)).1 : Co).m k2) 98 4 (((d, wAsk)).1 : Co).m (AwS (((d, wAsk)).1 : Co).m (((d, wAsk)).1 : Co).wa)]) (fun _ => []) w0 v w' := by
  have hSp := fun w => l1SplitC_v line w (by omega)
  rw [hs] at hSp
  have hn_linewLevel : ¬ tx line = ({ data := #[108, 101, 118, 101, 108] } : ByteArray) := fun q => hq1 (tx_inj (q.trans (by rfl : _ = tx wLevel)))
  have hn_linewWater : ¬ tx line = ({ data := #[119, 97, 116, 101, 114] } : ByteArray) := fun q => hq2 (tx_inj (q.trans (by rfl : _ = tx wWater)))
  have q0 : (TS (x :: r))[mulS 0 1]? = some (.string (tx x)) := rfl
  have hlt : (x :: r).length = r.length + 1 := rfl
  have hN := fun B c w hB => numbers_v B c r w (by omega) hx hB
  rw [hz] at hN
  have ha : r.length = 4 → ¬ tx x = ({ data := #[97, 114, 114, 105, 118, 101] } : ByteArray) := fun q1 q => h4 ⟨tx_inj (q.trans (by rfl : _ = tx wArrive)), q1⟩
  by_cases e4 : r.length = 4
  · replace ha := ha e4
    refine calls_of_vcL (w0 := w0) tb_ok (args := [.agg (d.at A1 c1 A2 c2).toArray, .string (tx line)]) Tryz.func86 rfl m0 ?_
    (repeat' ((conv => whnf); first | refine go ?_ | (refine VSome.mk ?_; intro gQ hA'; first | subst hA' | cases hA' | (dsimp only at hA'; subst hA')) | refine And.intro ?_ ?_ | intro _ | (first | ((show VCall _ _ _ 44 _ _); refine VCall.ret (fun w1 m1 => hSp w1) (fun i hcap => ?_); obtain ⟨g9, c9⟩ := i; dsimp only at hcap) | ((show VCall _ _ _ 121 _ _); refine VCall.ret (fun w1 m1 => hN _ _ w1 (Seen.tail (B := _) (n := (x :: r).length) (k := 1) (Sees.any m1 fndA) hT9 (TS_len1 _))) (fun i9 _ => ?_); obtain ⟨P, cp⟩ := i9) | ((show VIdx _ _ _ _ _ _ _); first | refine VIdx.at_ rfl 0 rfl (by omega) ?_ | refine VIdx.at_ rfl 1 rfl (by omega) ?_ | refine VIdx.at_ rfl 2 rfl (by omega) ?_ | refine VIdx.at_ rfl 3 rfl (by omega) ?_ | refine VIdx.at_ rfl 4 rfl (by omega) ?_) | ((show VIdx _ _ _ _ _ _ _); apply VIdx.any; (focus ((repeat (first | exact At.here | apply At.there)); done)); (first | refine VIdxR.mk 0 rfl (by omega) ?_ | refine VIdxR.mk 1 rfl (by omega) ?_ | refine VIdxR.mk 2 rfl (by omega) ?_); intro gQ hA'; first | subst hA' | (cases hA')) | ((show VCut _ _ _ _ _ _ _); refine VCut.tail 1 rfl (by omega) (by omega) (Plain.some _ _) (fun B9 d9 hT9 _ => ?_)))))
    all_goals (conv => whnf)
    all_goals exact VRet.mk fun w' m => ⟨(A1, c1, A2, c2), trivial, rfl, m.sel (ks := [0, 1]) (by simp)⟩
  · clear ha
    refine calls_of_vcL (w0 := w0) tb_ok (args := [.agg (d.at A1 c1 A2 c2).toArray, .string (tx line)]) Tryz.func86 rfl m0 ?_
    (repeat' ((conv => whnf); first | refine go ?_ | (refine VSome.mk ?_; intro gQ hA'; first | subst hA' | cases hA' | (dsimp only at hA'; subst hA')) | refine And.intro ?_ ?_ | intro _ | (first | ((show VCall _ _ _ 44 _ _); refine VCall.ret (fun w1 m1 => hSp w1) (fun i hcap => ?_); obtain ⟨g9, c9⟩ := i; dsimp only at hcap) | ((show VCall _ _ _ 121 _ _); refine VCall.ret (fun w1 m1 => hN _ _ w1 (Seen.tail (B := _) (n := (x :: r).length) (k := 1) (Sees.any m1 fndA) hT9 (TS_len1 _))) (fun i9 _ => ?_); obtain ⟨P, cp⟩ := i9) | ((show VIdx _ _ _ _ _ _ _); first | refine VIdx.at_ rfl 0 rfl (by omega) ?_ | refine VIdx.at_ rfl 1 rfl (by omega) ?_ | refine VIdx.at_ rfl 2 rfl (by omega) ?_ | refine VIdx.at_ rfl 3 rfl (by omega) ?_ | refine VIdx.at_ rfl 4 rfl (by omega) ?_) | ((show VIdx _ _ _ _ _ _ _); apply VIdx.any; (focus ((repeat (first | exact At.here | apply At.there)); done)); (first | refine VIdxR.mk 0 rfl (by omega) ?_ | refine VIdxR.mk 1 rfl (by omega) ?_ | refine VIdxR.mk 2 rfl (by omega) ?_); intro gQ hA'; first | subst hA' | (cases hA')) | ((show VCut _ _ _ _ _ _ _); refine VCut.tail 1 rfl (by omega) (by omega) (Plain.some _ _) (fun B9 d9 hT9 _ => ?_)))))
    all_goals (conv => whnf)
    all_goals exact VRet.mk fun w' m => ⟨(A1, c1, A2, c2), trivial, rfl, m.sel (ks := [0, 1]) (by simp)⟩
set_option maxHeartbeats 16000000 in
theorem sRun_oth_out {w0 : Base} {w : World} (d : Co) (A1 : Option Addr) (c1 : Nat) (A2 : Option Addr) (c2 : Nat) (line : List UInt8) (hf : d.fit) (hl : line.length ≤ 1048575) (hq1 : ¬ line = wLevel) (hq2 : ¬ line = wWater) (x : List UInt8) (r : List (List UInt8)) (hs : sps 32 line = x :: r) (hr : r.length ≤ 1048576) (hx : ∀ v ∈ r, v.length ≤ 1048576) (h1 : ¬ r.length = 1) (h4 : ¬ (x = wArrive ∧ r.length = 4)) {l : List Int} (hz : numZ r = some l) (h3 : ¬ (x = wFlow ∧ r.length = 3)) (m0 : Mem w0 [.row (.slice A1 d.n c1) 96 3 d.n (BaS d.n d.ba), .row (.slice A2 d.m c2) 98 4 d.m (AwS d.m d.wa)] w) :
    Calls Tryz.prog 86 #[.agg (d.at A1 c1 A2 c2).toArray, .string (tx line)] w fun e w' => ∃ v, e = .returned v ∧ RetL (ι := Option Addr × Nat × Option Addr × Nat) (fun _ => True) (fun (P1, k1, P2, k2) => .tuple #[.agg ((((d, wAsk)).1 : Co).at P1 k1 P2 k2).toArray, .string (tx ((d, wAsk)).2)]) (fun (P1, k1, P2, k2) => [.row (.slice P1 (((d, wAsk)).1 : Co).n k1) 96 3 (((d, wAsk)).1 : Co).n (BaS (((d, wAsk)).1 : Co).n (((d, wAsk)).1 : Co).ba), .row (.slice P2 (((d, wAsk)).1 : Co).m k2) 98 4 (((d, wAsk)).1 : Co).m (AwS (((d, wAsk)).1 : Co).m (((d, wAsk)).1 : Co).wa)]) (fun _ => []) w0 v w' := by
  have hSp := fun w => l1SplitC_v line w (by omega)
  rw [hs] at hSp
  have hn_linewLevel : ¬ tx line = ({ data := #[108, 101, 118, 101, 108] } : ByteArray) := fun q => hq1 (tx_inj (q.trans (by rfl : _ = tx wLevel)))
  have hn_linewWater : ¬ tx line = ({ data := #[119, 97, 116, 101, 114] } : ByteArray) := fun q => hq2 (tx_inj (q.trans (by rfl : _ = tx wWater)))
  have q0 : (TS (x :: r))[mulS 0 1]? = some (.string (tx x)) := rfl
  have hlt : (x :: r).length = r.length + 1 := rfl
  have hN := fun B c w hB => numbers_v B c r w (by omega) hx hB
  rw [hz] at hN
  have ha : r.length = 4 → ¬ tx x = ({ data := #[97, 114, 114, 105, 118, 101] } : ByteArray) := fun q1 q => h4 ⟨tx_inj (q.trans (by rfl : _ = tx wArrive)), q1⟩
  have hb : r.length = 3 → ¬ tx x = ({ data := #[102, 108, 111, 119] } : ByteArray) := fun q1 q => h3 ⟨tx_inj (q.trans (by rfl : _ = tx wFlow)), q1⟩
  by_cases e4 : r.length = 4
  · replace ha := ha e4
    clear hb
    refine calls_of_vcL (w0 := w0) tb_ok (args := [.agg (d.at A1 c1 A2 c2).toArray, .string (tx line)]) Tryz.func86 rfl m0 ?_
    (repeat' ((conv => whnf); first | refine go ?_ | (refine VSome.mk ?_; intro gQ hA'; first | subst hA' | cases hA' | (dsimp only at hA'; subst hA')) | refine And.intro ?_ ?_ | intro _ | (first | ((show VCall _ _ _ 44 _ _); refine VCall.ret (fun w1 m1 => hSp w1) (fun i hcap => ?_); obtain ⟨g9, c9⟩ := i; dsimp only at hcap) | ((show VCall _ _ _ 121 _ _); refine VCall.ret (fun w1 m1 => hN _ _ w1 (Seen.tail (B := _) (n := (x :: r).length) (k := 1) (Sees.any m1 fndA) hT9 (TS_len1 _))) (fun i9 _ => ?_); obtain ⟨P, cp⟩ := i9) | ((show VIdx _ _ _ _ _ _ _); first | refine VIdx.at_ rfl 0 rfl (by omega) ?_ | refine VIdx.at_ rfl 1 rfl (by omega) ?_ | refine VIdx.at_ rfl 2 rfl (by omega) ?_ | refine VIdx.at_ rfl 3 rfl (by omega) ?_ | refine VIdx.at_ rfl 4 rfl (by omega) ?_) | ((show VIdx _ _ _ _ _ _ _); apply VIdx.any; (focus ((repeat (first | exact At.here | apply At.there)); done)); (first | refine VIdxR.mk 0 rfl (by omega) ?_ | refine VIdxR.mk 1 rfl (by omega) ?_ | refine VIdxR.mk 2 rfl (by omega) ?_); intro gQ hA'; first | subst hA' | (cases hA')) | ((show VCut _ _ _ _ _ _ _); refine VCut.tail 1 rfl (by omega) (by omega) (Plain.some _ _) (fun B9 d9 hT9 _ => ?_)))))
    all_goals (conv => whnf)
    all_goals exact VRet.mk fun w' m => ⟨(A1, c1, A2, c2), trivial, rfl, m.sel (ks := [0, 1]) (by simp)⟩
  clear ha
  by_cases e3 : r.length = 3
  · replace hb := hb e3
    refine calls_of_vcL (w0 := w0) tb_ok (args := [.agg (d.at A1 c1 A2 c2).toArray, .string (tx line)]) Tryz.func86 rfl m0 ?_
    (repeat' ((conv => whnf); first | refine go ?_ | (refine VSome.mk ?_; intro gQ hA'; first | subst hA' | cases hA' | (dsimp only at hA'; subst hA')) | refine And.intro ?_ ?_ | intro _ | (first | ((show VCall _ _ _ 44 _ _); refine VCall.ret (fun w1 m1 => hSp w1) (fun i hcap => ?_); obtain ⟨g9, c9⟩ := i; dsimp only at hcap) | ((show VCall _ _ _ 121 _ _); refine VCall.ret (fun w1 m1 => hN _ _ w1 (Seen.tail (B := _) (n := (x :: r).length) (k := 1) (Sees.any m1 fndA) hT9 (TS_len1 _))) (fun i9 _ => ?_); obtain ⟨P, cp⟩ := i9) | ((show VIdx _ _ _ _ _ _ _); first | refine VIdx.at_ rfl 0 rfl (by omega) ?_ | refine VIdx.at_ rfl 1 rfl (by omega) ?_ | refine VIdx.at_ rfl 2 rfl (by omega) ?_ | refine VIdx.at_ rfl 3 rfl (by omega) ?_ | refine VIdx.at_ rfl 4 rfl (by omega) ?_) | ((show VIdx _ _ _ _ _ _ _); apply VIdx.any; (focus ((repeat (first | exact At.here | apply At.there)); done)); (first | refine VIdxR.mk 0 rfl (by omega) ?_ | refine VIdxR.mk 1 rfl (by omega) ?_ | refine VIdxR.mk 2 rfl (by omega) ?_); intro gQ hA'; first | subst hA' | (cases hA')) | ((show VCut _ _ _ _ _ _ _); refine VCut.tail 1 rfl (by omega) (by omega) (Plain.some _ _) (fun B9 d9 hT9 _ => ?_)))))
    all_goals (conv => whnf)
    all_goals exact VRet.mk fun w' m => ⟨(A1, c1, A2, c2), trivial, rfl, m.sel (ks := [0, 1]) (by simp)⟩
  · clear hb
    refine calls_of_vcL (w0 := w0) tb_ok (args := [.agg (d.at A1 c1 A2 c2).toArray, .string (tx line)]) Tryz.func86 rfl m0 ?_
    (repeat' ((conv => whnf); first | refine go ?_ | (refine VSome.mk ?_; intro gQ hA'; first | subst hA' | cases hA' | (dsimp only at hA'; subst hA')) | refine And.intro ?_ ?_ | intro _ | (first | ((show VCall _ _ _ 44 _ _); refine VCall.ret (fun w1 m1 => hSp w1) (fun i hcap => ?_); obtain ⟨g9, c9⟩ := i; dsimp only at hcap) | ((show VCall _ _ _ 121 _ _); refine VCall.ret (fun w1 m1 => hN _ _ w1 (Seen.tail (B := _) (n := (x :: r).length) (k := 1) (Sees.any m1 fndA) hT9 (TS_len1 _))) (fun i9 _ => ?_); obtain ⟨P, cp⟩ := i9) | ((show VIdx _ _ _ _ _ _ _); first | refine VIdx.at_ rfl 0 rfl (by omega) ?_ | refine VIdx.at_ rfl 1 rfl (by omega) ?_ | refine VIdx.at_ rfl 2 rfl (by omega) ?_ | refine VIdx.at_ rfl 3 rfl (by omega) ?_ | refine VIdx.at_ rfl 4 rfl (by omega) ?_) | ((show VIdx _ _ _ _ _ _ _); apply VIdx.any; (focus ((repeat (first | exact At.here | apply At.there)); done)); (first | refine VIdxR.mk 0 rfl (by omega) ?_ | refine VIdxR.mk 1 rfl (by omega) ?_ | refine VIdxR.mk 2 rfl (by omega) ?_); intro gQ hA'; first | subst hA' | (cases hA')) | ((show VCut _ _ _ _ _ _ _); refine VCut.tail 1 rfl (by omega) (by omega) (Plain.some _ _) (fun B9 d9 hT9 _ => ?_)))))
    all_goals (conv => whnf)
    all_goals exact VRet.mk fun w' m => ⟨(A1, c1, A2, c2), trivial, rfl, m.sel (ks := [0, 1]) (by simp)⟩
set_option maxHeartbeats 16000000 in
theorem sRun_way_bad {w0 : Base} {w : World} (d : Co) (A1 : Option Addr) (c1 : Nat) (A2 : Option Addr) (c2 : Nat) (line : List UInt8) (hf : d.fit) (hl : line.length ≤ 1048575) (hq1 : ¬ line = wLevel) (hq2 : ¬ line = wWater) (y v z u : List UInt8) (hs : sps 32 line = [wArrive, y, v, z, u]) (hx : ∀ x ∈ [y, v, z, u], x.length ≤ 1048576) (hv1 : ¬ v = wUp) (hv2 : ¬ v = wDown) (hz : numZ [y, v, z, u] = none) (m0 : Mem w0 [.row (.slice A1 d.n c1) 96 3 d.n (BaS d.n d.ba), .row (.slice A2 d.m c2) 98 4 d.m (AwS d.m d.wa)] w) :
    Calls Tryz.prog 86 #[.agg (d.at A1 c1 A2 c2).toArray, .string (tx line)] w fun e w' => ∃ v, e = .returned v ∧ RetL (ι := Option Addr × Nat × Option Addr × Nat) (fun _ => True) (fun (P1, k1, P2, k2) => .tuple #[.agg ((((d, wAsk)).1 : Co).at P1 k1 P2 k2).toArray, .string (tx ((d, wAsk)).2)]) (fun (P1, k1, P2, k2) => [.row (.slice P1 (((d, wAsk)).1 : Co).n k1) 96 3 (((d, wAsk)).1 : Co).n (BaS (((d, wAsk)).1 : Co).n (((d, wAsk)).1 : Co).ba), .row (.slice P2 (((d, wAsk)).1 : Co).m k2) 98 4 (((d, wAsk)).1 : Co).m (AwS (((d, wAsk)).1 : Co).m (((d, wAsk)).1 : Co).wa)]) (fun _ => []) w0 v w' := by
  have hSp := fun w => l1SplitC_v line w (by omega)
  rw [hs] at hSp
  have hn_linewLevel : ¬ tx line = ({ data := #[108, 101, 118, 101, 108] } : ByteArray) := fun q => hq1 (tx_inj (q.trans (by rfl : _ = tx wLevel)))
  have hn_linewWater : ¬ tx line = ({ data := #[119, 97, 116, 101, 114] } : ByteArray) := fun q => hq2 (tx_inj (q.trans (by rfl : _ = tx wWater)))
  have q0 : (TS [wArrive, y, v, z, u])[mulS 0 1]? = some (.string (tx (wArrive))) := rfl
  have q1 : (TS [wArrive, y, v, z, u])[mulS 1 1]? = some (.string (tx (y))) := rfl
  have q2 : (TS [wArrive, y, v, z, u])[mulS 2 1]? = some (.string (tx (v))) := rfl
  have q3 : (TS [wArrive, y, v, z, u])[mulS 3 1]? = some (.string (tx (z))) := rfl
  have q4 : (TS [wArrive, y, v, z, u])[mulS 4 1]? = some (.string (tx (u))) := rfl
  have hlt : [wArrive, y, v, z, u].length = 5 := rfl
  have hn_vwUp : ¬ tx v = ({ data := #[117, 112] } : ByteArray) := fun q => hv1 (tx_inj (q.trans (by rfl : _ = tx wUp)))
  have hn_vwDown : ¬ tx v = ({ data := #[100, 111, 119, 110] } : ByteArray) := fun q => hv2 (tx_inj (q.trans (by rfl : _ = tx wDown)))
  have hw1 : ¬ tx wArrive = ({ data := #[102, 108, 111, 119] } : ByteArray) := by decide
  have hN := fun B c w hB => numbers_v B c [y, v, z, u] w (by show 4 ≤ 1048577; decide) hx hB
  rw [hz] at hN
  refine calls_of_vcL (w0 := w0) tb_ok (args := [.agg (d.at A1 c1 A2 c2).toArray, .string (tx line)]) Tryz.func86 rfl m0 ?_
  (repeat' ((conv => whnf); first | refine go ?_ | (refine VSome.mk ?_; intro gQ hA'; first | subst hA' | cases hA' | (dsimp only at hA'; subst hA')) | refine And.intro ?_ ?_ | intro _ | (first | ((show VCall _ _ _ 44 _ _); refine VCall.ret (fun w1 m1 => hSp w1) (fun i hcap => ?_); obtain ⟨g9, c9⟩ := i; dsimp only at hcap) | ((show VCall _ _ _ 121 _ _); refine VCall.ret (fun w1 m1 => hN _ _ w1 (Seen.tail (B := _) (n := [wArrive, y, v, z, u].length) (k := 1) (Sees.any m1 fndA) hT9 (TS_len1 _))) (fun i9 _ => ?_); obtain ⟨P, cp⟩ := i9)   | ((show VIdx _ _ _ _ _ _ _); first | refine VIdx.at_ rfl 0 rfl (by omega) ?_ | refine VIdx.at_ rfl 1 rfl (by omega) ?_ | refine VIdx.at_ rfl 2 rfl (by omega) ?_ | refine VIdx.at_ rfl 3 rfl (by omega) ?_ | refine VIdx.at_ rfl 4 rfl (by omega) ?_) | ((show VIdx _ _ _ _ _ _ _); apply VIdx.any; (focus ((repeat (first | exact At.here | apply At.there)); done)); (first | refine VIdxR.mk 0 rfl (by omega) ?_ | refine VIdxR.mk 1 rfl (by omega) ?_ | refine VIdxR.mk 2 rfl (by omega) ?_); intro gQ hA'; first | subst hA' | (cases hA')) | ((show VCut _ _ _ _ _ _ _); refine VCut.tail 1 rfl (by omega) (by omega) (Plain.some _ _) (fun B9 d9 hT9 _ => ?_)))))
  all_goals (conv => whnf)
  all_goals exact VRet.mk fun w' m => ⟨(A1, c1, A2, c2), trivial, rfl, m.sel (ks := [0, 1]) (by simp)⟩
set_option maxHeartbeats 16000000 in
theorem sRun_way_out {w0 : Base} {w : World} (d : Co) (A1 : Option Addr) (c1 : Nat) (A2 : Option Addr) (c2 : Nat) (line : List UInt8) (hf : d.fit) (hl : line.length ≤ 1048575) (hq1 : ¬ line = wLevel) (hq2 : ¬ line = wWater) (y v z u : List UInt8) (hs : sps 32 line = [wArrive, y, v, z, u]) (hx : ∀ x ∈ [y, v, z, u], x.length ≤ 1048576) (hv1 : ¬ v = wUp) (hv2 : ¬ v = wDown) {l : List Int} (hz : numZ [y, v, z, u] = some l) (m0 : Mem w0 [.row (.slice A1 d.n c1) 96 3 d.n (BaS d.n d.ba), .row (.slice A2 d.m c2) 98 4 d.m (AwS d.m d.wa)] w) :
    Calls Tryz.prog 86 #[.agg (d.at A1 c1 A2 c2).toArray, .string (tx line)] w fun e w' => ∃ v, e = .returned v ∧ RetL (ι := Option Addr × Nat × Option Addr × Nat) (fun _ => True) (fun (P1, k1, P2, k2) => .tuple #[.agg ((((d, wAsk)).1 : Co).at P1 k1 P2 k2).toArray, .string (tx ((d, wAsk)).2)]) (fun (P1, k1, P2, k2) => [.row (.slice P1 (((d, wAsk)).1 : Co).n k1) 96 3 (((d, wAsk)).1 : Co).n (BaS (((d, wAsk)).1 : Co).n (((d, wAsk)).1 : Co).ba), .row (.slice P2 (((d, wAsk)).1 : Co).m k2) 98 4 (((d, wAsk)).1 : Co).m (AwS (((d, wAsk)).1 : Co).m (((d, wAsk)).1 : Co).wa)]) (fun _ => []) w0 v w' := by
  have hSp := fun w => l1SplitC_v line w (by omega)
  rw [hs] at hSp
  have hn_linewLevel : ¬ tx line = ({ data := #[108, 101, 118, 101, 108] } : ByteArray) := fun q => hq1 (tx_inj (q.trans (by rfl : _ = tx wLevel)))
  have hn_linewWater : ¬ tx line = ({ data := #[119, 97, 116, 101, 114] } : ByteArray) := fun q => hq2 (tx_inj (q.trans (by rfl : _ = tx wWater)))
  have q0 : (TS [wArrive, y, v, z, u])[mulS 0 1]? = some (.string (tx (wArrive))) := rfl
  have q1 : (TS [wArrive, y, v, z, u])[mulS 1 1]? = some (.string (tx (y))) := rfl
  have q2 : (TS [wArrive, y, v, z, u])[mulS 2 1]? = some (.string (tx (v))) := rfl
  have q3 : (TS [wArrive, y, v, z, u])[mulS 3 1]? = some (.string (tx (z))) := rfl
  have q4 : (TS [wArrive, y, v, z, u])[mulS 4 1]? = some (.string (tx (u))) := rfl
  have hlt : [wArrive, y, v, z, u].length = 5 := rfl
  have hn_vwUp : ¬ tx v = ({ data := #[117, 112] } : ByteArray) := fun q => hv1 (tx_inj (q.trans (by rfl : _ = tx wUp)))
  have hn_vwDown : ¬ tx v = ({ data := #[100, 111, 119, 110] } : ByteArray) := fun q => hv2 (tx_inj (q.trans (by rfl : _ = tx wDown)))
  have hw1 : ¬ tx wArrive = ({ data := #[102, 108, 111, 119] } : ByteArray) := by decide
  have hN := fun B c w hB => numbers_v B c [y, v, z, u] w (by show 4 ≤ 1048577; decide) hx hB
  rw [hz] at hN
  refine calls_of_vcL (w0 := w0) tb_ok (args := [.agg (d.at A1 c1 A2 c2).toArray, .string (tx line)]) Tryz.func86 rfl m0 ?_
  (repeat' ((conv => whnf); first | refine go ?_ | (refine VSome.mk ?_; intro gQ hA'; first | subst hA' | cases hA' | (dsimp only at hA'; subst hA')) | refine And.intro ?_ ?_ | intro _ | (first | ((show VCall _ _ _ 44 _ _); refine VCall.ret (fun w1 m1 => hSp w1) (fun i hcap => ?_); obtain ⟨g9, c9⟩ := i; dsimp only at hcap) | ((show VCall _ _ _ 121 _ _); refine VCall.ret (fun w1 m1 => hN _ _ w1 (Seen.tail (B := _) (n := [wArrive, y, v, z, u].length) (k := 1) (Sees.any m1 fndA) hT9 (TS_len1 _))) (fun i9 _ => ?_); obtain ⟨P, cp⟩ := i9)   | ((show VIdx _ _ _ _ _ _ _); first | refine VIdx.at_ rfl 0 rfl (by omega) ?_ | refine VIdx.at_ rfl 1 rfl (by omega) ?_ | refine VIdx.at_ rfl 2 rfl (by omega) ?_ | refine VIdx.at_ rfl 3 rfl (by omega) ?_ | refine VIdx.at_ rfl 4 rfl (by omega) ?_) | ((show VIdx _ _ _ _ _ _ _); apply VIdx.any; (focus ((repeat (first | exact At.here | apply At.there)); done)); (first | refine VIdxR.mk 0 rfl (by omega) ?_ | refine VIdxR.mk 1 rfl (by omega) ?_ | refine VIdxR.mk 2 rfl (by omega) ?_); intro gQ hA'; first | subst hA' | (cases hA')) | ((show VCut _ _ _ _ _ _ _); refine VCut.tail 1 rfl (by omega) (by omega) (Plain.some _ _) (fun B9 d9 hT9 _ => ?_)))))
  all_goals (conv => whnf)
  all_goals exact VRet.mk fun w' m => ⟨(A1, c1, A2, c2), trivial, rfl, m.sel (ks := [0, 1]) (by simp)⟩
end Go.Proofs.YtadjhkehfklmnaaGreatDoor
namespace Go.Proofs.YtadjhkehfklmnaaGreatDoor
set_option linter.unusedSimpArgs false
set_option linter.unusedVariables false
open Go.RowKit
set_option maxRecDepth 10000
theorem sRun_v {w0 : Base} {w : World} (d : Co) (A1 : Option Addr) (c1 : Nat) (A2 : Option Addr) (c2 : Nat) (line : List UInt8) (hf : d.fit) (hl : line.length ≤ 1048575) (m0 : Mem w0 [.row (.slice A1 d.n c1) 96 3 d.n (BaS d.n d.ba), .row (.slice A2 d.m c2) 98 4 d.m (AwS d.m d.wa)] w) :
    Calls Tryz.prog 86 #[.agg (d.at A1 c1 A2 c2).toArray, .string (tx line)] w fun e w' => ∃ v, e = .returned v ∧ RetL (ι := Option Addr × Nat × Option Addr × Nat) (fun _ => True) (fun (P1, k1, P2, k2) => .tuple #[.agg (((d.cmd line).1 : Co).at P1 k1 P2 k2).toArray, .string (tx (d.cmd line).2)]) (fun (P1, k1, P2, k2) => [.row (.slice P1 ((d.cmd line).1 : Co).n k1) 96 3 ((d.cmd line).1 : Co).n (BaS ((d.cmd line).1 : Co).n ((d.cmd line).1 : Co).ba), .row (.slice P2 ((d.cmd line).1 : Co).m k2) 98 4 ((d.cmd line).1 : Co).m (AwS ((d.cmd line).1 : Co).m ((d.cmd line).1 : Co).wa)]) (fun _ => []) w0 v w' := by
  by_cases e1 : line = wLevel
  · rw [show d.cmd line = (d, Lib.itoa d.lock.level) by rw [e1]; exact d.cmd_level]
    exact sRun_level d A1 c1 A2 c2 line hf hl e1 m0
  by_cases e2 : line = wWater
  · rw [show d.cmd line = (d, Lib.itoa (smI (fun i => (d.ba i).vol) d.n)) by rw [e2]; exact d.cmd_water]
    exact sRun_water d A1 c1 A2 c2 line hf hl e2 m0
  obtain ⟨x, r, hs⟩ : ∃ x r, sps 32 line = x :: r := by
    cases e : sps 32 line with
    | nil => have := sps_ne 32 line; rw [e] at this; simp at this
    | cons x r => exact ⟨x, r, rfl⟩
  obtain ⟨hr1, hr2⟩ : r.length ≤ 1048576 ∧ ∀ y ∈ r, y.length ≤ 1048576 := by
    have h1 := sps_len 32 line
    have h2 := sps_total 32 _ line (Nat.le_refl _)
    rw [hs] at h1 h2
    simp only [List.length_cons] at h1
    exact ⟨by omega, fun y hy => by have := (h2 y (List.mem_cons_of_mem _ hy)).1; omega⟩
  have h0 : ¬ (r.length = 0 ∧ (x = wLevel ∨ x = wWater)) := fun ⟨q, q2⟩ => by
    obtain rfl : r = [] := List.length_eq_zero_iff.1 q
    have := sps_single hs
    rcases q2 with q2 | q2
    · exact e1 (this.trans q2)
    · exact e2 (this.trans q2)
  rw [Co.cmd_sps hs]
  by_cases s1 : r = [wHigh]
  · subst s1
    rw [show d.cmdW x [wHigh] = d.sideV x true from d.cmdW_side x true]
    exact sRun_side d A1 c1 A2 c2 line hf hl e1 e2 x true hs m0
  by_cases s2 : r = [wLow]
  · subst s2
    rw [show d.cmdW x [wLow] = d.sideV x false from d.cmdW_side x false]
    exact sRun_side d A1 c1 A2 c2 line hf hl e1 e2 x false hs m0
  have hsd : ∀ hi, ¬ r = [sideW hi] := fun hi => by
    cases hi
    · exact s2
    · exact s1
  by_cases hw : ∃ y up z u, x = wArrive ∧ r = [y, wayW up, z, u]
  · obtain ⟨y, up, z, u, rfl, rfl⟩ := hw
    have hx : ∀ v ∈ [y, z, u], v.length ≤ 1048576 := fun v hv => hr2 v (by
      simp only [List.mem_cons, List.not_mem_nil, or_false] at hv ⊢
      rcases hv with h | h | h
      · exact .inl h
      · exact .inr (.inr (.inl h))
      · exact .inr (.inr (.inr h)))
    cases hz : numZ [y, z, u] with
    | none =>
      rw [Co.cmdW_arr_no hz]
      cases up
      · exact sRun_arr_bad_false d A1 c1 A2 c2 line hf hl e1 e2 y z u hs hx hz m0
      · exact sRun_arr_bad_true d A1 c1 A2 c2 line hf hl e1 e2 y z u hs hx hz m0
    | some l =>
      rw [Co.cmdW_arr hz]
      by_cases hg : aGood (d.m + 1) (insF d.wa (plc d.wa (a0 l 0) d.m 0) ⟨a0 l 0, up, a0 l 1, a0 l 2⟩)
      · rw [Co.arrV_yes hg]
        cases up
        · exact sRun_arr_yes_false d A1 c1 A2 c2 line hf hl e1 e2 y z u hs hx hz hg m0
        · exact sRun_arr_yes_true d A1 c1 A2 c2 line hf hl e1 e2 y z u hs hx hz hg m0
      · rw [Co.arrV_no hg]
        cases up
        · exact sRun_arr_no_false d A1 c1 A2 c2 line hf hl e1 e2 y z u hs hx hz hg m0
        · exact sRun_arr_no_true d A1 c1 A2 c2 line hf hl e1 e2 y z u hs hx hz hg m0
  have hwy : ∀ y up z u, x = wArrive → ¬ r = [y, wayW up, z, u] := fun y up z u h h2 => hw ⟨y, up, z, u, h, h2⟩
  by_cases l1 : r.length = 1
  · obtain ⟨y, rfl⟩ := List.length_eq_one_iff.1 l1
    have hy1 : ¬ y = wHigh := fun q => s1 (by rw [q])
    have hy2 : ¬ y = wLow := fun q => s2 (by rw [q])
    cases hz : numZ [y] with
    | none =>
      rw [Co.cmdW_num_no hz hsd hwy]
      exact sRun_one_bad d A1 c1 A2 c2 line hf hl e1 e2 x y hs hr2 hy1 hy2 hz m0
    | some l =>
      by_cases x1 : x = wStep
      · subst x1
        rw [Co.cmdW_num hz (.inr ⟨.inl rfl, rfl⟩), Co.ex_step]
        by_cases h : d.lock.okStep (a0 l 0)
        · rw [ite_tr h]; exact sRun_step_yes d A1 c1 A2 c2 line hf hl e1 e2 y hs hr2 hy1 hy2 hz h m0
        · rw [ite_ntr h]; exact sRun_step_no d A1 c1 A2 c2 line hf hl e1 e2 y hs hr2 hy1 hy2 hz h m0
      by_cases x2 : x = wLeave
      · subst x2
        rw [Co.cmdW_num hz (.inr ⟨.inr (.inl rfl), rfl⟩), Co.ex_leave]
        cases h : fnd d.wa (a0 l 0) d.m with
        | some i => exact sRun_leave_yes d A1 c1 A2 c2 line hf hl e1 e2 y hs hr2 hy1 hy2 hz h m0
        | none => exact sRun_leave_no d A1 c1 A2 c2 line hf hl e1 e2 y hs hr2 hy1 hy2 hz h m0
      by_cases hb : x = wBest ∨ x = wDelay ∨ x = wBound
      · rw [Co.cmdW_num hz (.inr ⟨.inr (.inr hb), rfl⟩), Co.askV_ex hb]
        exact sRun_ask d A1 c1 A2 c2 line hf hl e1 e2 x y hs hr2 hy1 hy2 hz x1 x2 m0
      · have hn : d.askV x (a0 l 0) = wAsk := Co.askV_no (fun q => hb (.inl q)) (fun q => hb (.inr (.inl q))) (fun q => hb (.inr (.inr q)))
        rw [Co.cmdW_num_out hz h0 (fun q => by
          rcases q with ⟨_, q⟩ | ⟨q, _⟩
          · exact absurd q (by show ¬ (1 = 3); decide)
          · rcases q with q | q | q
            · exact x1 q
            · exact x2 q
            · exact hb q), ← hn]
        exact sRun_ask d A1 c1 A2 c2 line hf hl e1 e2 x y hs hr2 hy1 hy2 hz x1 x2 m0
  · by_cases l4 : x = wArrive ∧ r.length = 4
    · obtain ⟨rfl, l4⟩ := l4
      obtain ⟨y, v, z, u, rfl⟩ : ∃ y v z u, r = [y, v, z, u] := by
        match r, l4 with
        | [y, v, z, u], _ => exact ⟨y, v, z, u, rfl⟩
      have hv1 : ¬ v = wUp := fun q => hwy y true z u rfl (by rw [q]; rfl)
      have hv2 : ¬ v = wDown := fun q => hwy y false z u rfl (by rw [q]; rfl)
      cases hz : numZ [y, v, z, u] with
      | none =>
        rw [Co.cmdW_num_no hz hsd hwy]
        exact sRun_way_bad d A1 c1 A2 c2 line hf hl e1 e2 y v z u hs hr2 hv1 hv2 hz m0
      | some l =>
        rw [Co.cmdW_num_out hz h0 (fun q => by
          rcases q with ⟨q, _⟩ | ⟨_, q⟩
          · exact absurd q (by decide)
          · exact l1 q)]
        exact sRun_way_out d A1 c1 A2 c2 line hf hl e1 e2 y v z u hs hr2 hv1 hv2 hz m0
    · cases hz : numZ r with
      | none =>
        rw [Co.cmdW_num_no hz hsd hwy]
        exact sRun_oth_bad d A1 c1 A2 c2 line hf hl e1 e2 x r hs hr1 hr2 l1 l4 hz m0
      | some l =>
        by_cases h3 : x = wFlow ∧ r.length = 3
        · obtain ⟨rfl, h3⟩ := h3
          obtain ⟨y, z, u, rfl⟩ : ∃ y z u, r = [y, z, u] := by
            match r, h3 with
            | [y, z, u], _ => exact ⟨y, z, u, rfl⟩
          rw [Co.cmdW_num hz (.inl ⟨rfl, rfl⟩), Co.ex_flow]
          by_cases h : bCan d.n d.ba (a0 l 0) (a0 l 1) (a0 l 2)
          · rw [ite_tr h]; exact sRun_flow_yes d A1 c1 A2 c2 line hf hl e1 e2 y z u hs hr2 hz h m0
          · rw [ite_ntr h]; exact sRun_flow_no d A1 c1 A2 c2 line hf hl e1 e2 y z u hs hr2 hz h m0
        · rw [Co.cmdW_num_out hz h0 (fun q => by
            rcases q with q | ⟨_, q⟩
            · exact h3 q
            · exact l1 q)]
          exact sRun_oth_out d A1 c1 A2 c2 line hf hl e1 e2 x r hs hr1 hr2 l1 l4 hz h3 m0
set_option maxHeartbeats 16000000 in
theorem sExec_v (A1 A2 : Option Addr) (c1 c2 : Nat) (d : Co) (line : List UInt8) (w : World) (hs : d.small) (hl : line.length ≤ 9223372036854775807) (hA : Seen w A1 (BaS d.n d.ba)) (hB : Seen w A2 (AwS d.m d.wa)) (hP : Plain A1) (hQ : Plain A2) :
    Calls Tryz.prog 38 #[.agg (d.at A1 c1 A2 c2).toArray, .string (tx line)] w fun e w' => ∃ v, e = .returned v ∧ RetV (fun _ => True) (fun i => .tuple #[(d.exec line).1.cv i, .string (tx (d.exec line).2)]) (d.exec line).1.cn (Base.of w) v w' := by
  obtain ⟨hn, hm, hd, hp⟩ := hs
  have hG := fun w hA hB => sG28_v A1 A2 c1 c2 d w hn hm hd hp hA hB
  by_cases hg : d.good
  · rw [tr_yes hg] at hG
    have hR := fun w => sGood_v line [] w hl (by decide)
    by_cases hr : okR line []
    · rw [tr_yes hr] at hR
      by_cases hc : d.log.count = 60
      · rw [Co.exec_full hg hr hc]
        refine calls_of_vc tb_ok (args := [.agg (d.at A1 c1 A2 c2).toArray, .string (tx line)]) Tryz.func38 rfl ?_
        (repeat' ((conv => whnf); first | refine go ?_ | (refine VSome.mk ?_; intro gQ hA'; first | subst hA' | cases hA' | (dsimp only at hA'; subst hA')) | refine And.intro ?_ ?_ | intro _ | (first | ((show VCall _ _ _ 45 _ _); refine VCall.grow _ (fun w1 m1 => hG w1 seenA seenA) ?_) | ((show VCall _ _ _ 85 _ _); refine VCall.grow _ (fun w1 m1 => hR w1) ?_) | ((show VCall _ _ _ 73 _ _); refine VCall.ret (fun w1 m1 => sOwn_v _ _ _ _ d w1 hn hm seenA seenA hP hQ) (fun i _ => ?_); obtain ⟨⟨A9, c9⟩, B9, e9⟩ := i))))
        all_goals (conv => whnf)
        all_goals exact VRet.sel ((A9, c9), (B9, e9)) trivial rfl [2, 3] (by simp) rfl
      · have hl1 : line.length ≤ 160 := hr.2.2.2.1
        have hx := Co.exec_yes hg hr hc
        have hre := Co.rec_ok hg.fit hr
        have hcm := Co.cmd_ok hg.fit line
        have hE := fun (w0 : Base) w A1 c1 A2 c2 m => sRun_v (w0 := w0) (w := w) d A1 c1 A2 c2 line hg.fit (by omega) m
        rw [hx]
        generalize d.cmd line = q at hre hcm hE ⊢
        obtain ⟨c', t⟩ := q
        dsimp only at hre hcm hE ⊢
        have hn' : c'.n ≤ 1048576 := by have := hcm.1.2.1.2; omega
        have hm' : c'.m ≤ 1048576 := by have := hcm.1.2.2.2; omega
        have hlog := hcm.2.1
        have hOw := fun A B c e w hA hB hP hQ => sOwn_v A B c e c' w hn' hm' hA hB hP hQ
        have hsz := tx_size t
        have hAp := fun w => sApp_v d.du d.pe d.log.count line (cutR t) w (by rw [Co.du_len]; exact hd) (by rw [Co.pe_len]; exact hp) (by omega) (by have := hre.2.2.2.2.1; omega)
        rw [d.du_tx, d.pe_tx, apV_ok ⟨hg.2.2.2, hre⟩ hc] at hAp
        dsimp only at hAp
        by_cases hlong : 200 < t.length
        all_goals (first | rw [show cutR t = wLong from if_pos hlong] at hAp ⊢ | rw [show cutR t = t from if_neg hlong] at hAp ⊢)
        all_goals (refine calls_of_vc tb_ok (args := [.agg (d.at A1 c1 A2 c2).toArray, .string (tx line)]) Tryz.func38 rfl ?_)
        all_goals ((repeat' ((conv => whnf); first | refine go ?_ | (refine VSome.mk ?_; intro gQ hA'; first | subst hA' | cases hA' | (dsimp only at hA'; subst hA')) | refine And.intro ?_ ?_ | intro _ | (first | ((show VCall _ _ _ 45 _ _); refine VCall.grow _ (fun w1 m1 => hG w1 seenA seenA) ?_) | ((show VCall _ _ _ 85 _ _); refine VCall.grow _ (fun w1 m1 => hR w1) ?_) | ((show VCall _ _ _ 73 [.agg (d.at _ _ _ _).toArray] _); refine VCall.ret (fun w1 m1 => sOwn_v _ _ _ _ d w1 hn hm seenA seenA hP hQ) (fun i _ => ?_); obtain ⟨⟨A9, c9⟩, B9, e9⟩ := i) | ((show VCall _ _ _ 86 [_, _] _); refine VCall.fullS [2, 3] (by simp) (fun _ => rfl) (fun w1 m1 m2 => hE _ w1 A9 c9 B9 e9 m2) (fun i hi => ?_); obtain ⟨P1, k1, P2, k2⟩ := i) | ((show VCall _ _ _ 73 [.agg (c'.at _ _ _ _).toArray] _); refine VCall.ret (fun w1 m1 => hOw _ _ _ _ w1 seenA seenA (m1.plain fndA) (m1.plain fndA)) (fun i _ => ?_); obtain ⟨⟨A8, c8⟩, B8, e8⟩ := i) | ((show VCall _ _ _ 64 _ _); refine VCall.grow _ (fun w1 m1 => hAp w1) ?_)))))
        all_goals (conv => whnf)
        all_goals exact VRet.sel ((A8, c8), (B8, e8)) trivial rfl [6, 7] (by simp) rfl
    · rw [tr_no hr] at hR
      rw [Co.exec_bad hg hr]
      refine calls_of_vc tb_ok (args := [.agg (d.at A1 c1 A2 c2).toArray, .string (tx line)]) Tryz.func38 rfl ?_
      (repeat' ((conv => whnf); first | refine go ?_ | (refine VSome.mk ?_; intro gQ hA'; first | subst hA' | cases hA' | (dsimp only at hA'; subst hA')) | refine And.intro ?_ ?_ | intro _ | (first | ((show VCall _ _ _ 45 _ _); refine VCall.grow _ (fun w1 m1 => hG w1 seenA seenA) ?_) | ((show VCall _ _ _ 85 _ _); refine VCall.grow _ (fun w1 m1 => hR w1) ?_) | ((show VCall _ _ _ 73 _ _); refine VCall.ret (fun w1 m1 => sOwn_v _ _ _ _ d w1 hn hm seenA seenA hP hQ) (fun i _ => ?_); obtain ⟨⟨A9, c9⟩, B9, e9⟩ := i))))
      all_goals (conv => whnf)
      all_goals exact VRet.sel ((A9, c9), (B9, e9)) trivial rfl [2, 3] (by simp) rfl
  · rw [tr_no hg] at hG
    rw [Co.exec_no hg]
    refine calls_of_vc tb_ok (args := [.agg (d.at A1 c1 A2 c2).toArray, .string (tx line)]) Tryz.func38 rfl ?_
    (repeat' ((conv => whnf); first | refine go ?_ | (refine VSome.mk ?_; intro gQ hA'; first | subst hA' | cases hA' | (dsimp only at hA'; subst hA')) | refine And.intro ?_ ?_ | intro _ | (first | ((show VCall _ _ _ 45 _ _); refine VCall.grow _ (fun w1 m1 => hG w1 seenA seenA) ?_) | ((show VCall _ _ _ 73 _ _); refine VCall.ret (fun w1 m1 => sOwn_v _ _ _ _ d w1 hn hm seenA seenA hP hQ) (fun i _ => ?_); obtain ⟨⟨A9, c9⟩, B9, e9⟩ := i))))
    all_goals (conv => whnf)
    all_goals exact VRet.sel ((A9, c9), (B9, e9)) trivial rfl [2, 3] (by simp) rfl
end Go.Proofs.YtadjhkehfklmnaaGreatDoor
