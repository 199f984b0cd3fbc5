/-
  Texts joined: how the calls that the law reaches are walked, and the plain laws behind them.
  Conditions: none beyond each statement's own premises.
-/
import Derived.Test.YtadjhkehfklmnaaGreatDoorMe20
namespace Go.Proofs.YtadjhkehfklmnaaGreatDoor
set_option linter.unusedSimpArgs false
set_option linter.unusedVariables false
open Go.RowKit
set_option maxRecDepth 10000
theorem l1SplitC_v (l : List UInt8) (w : World) (hl : l.length ≤ 2097152) :
    Calls Tryz.prog 44 #[.string (tx l), .int .u8 32] w fun e w' => ∃ v, e = .returned v ∧ RetV (ι := Nat × Nat) (fun (g, c) => (sps 32 l).length ≤ c) (fun (g, c) => .slice (some ⟨g, 0, none⟩) (sps 32 l).length c) (fun (g, c) => [.row (.slice (some ⟨g, 0, none⟩) (sps 32 l).length c) 9 1 (sps 32 l).length (TS (sps 32 l))]) (Base.of w) v w' :=
  (l1Split_v 32 32 l w rfl hl).mono fun e w' ⟨v, he, i, hi, hv, m⟩ => ⟨v, he, i, m.cap At.here, hv, m⟩
set_option maxHeartbeats 16000000 in
theorem sRun_one_bad {w0 : Base} {w : World} (d : Co) (A1 : Option Addr) (c1 : Nat) (A2 : Option Addr) (c2 : Nat) (line : List UInt8) (hf : d.fit) (hl : line.length ≤ 1048575) (hq1 : ¬ line = wLevel) (hq2 : ¬ line = wWater) (x y : List UInt8) (hs : sps 32 line = [x, y]) (hx : ∀ v ∈ [y], v.length ≤ 1048576) (hy1 : ¬ y = wHigh) (hy2 : ¬ y = wLow) (hz : numZ [y] = none) (m0 : Mem w0 [.row (.slice A1 d.n c1) 96 3 d.n (BaS d.n d.ba), .row (.slice A2 d.m c2) 98 4 d.m (AwS d.m d.wa)] w) :
    Calls Tryz.prog 86 #[.agg (d.at A1 c1 A2 c2).toArray, .string (tx line)] w fun e w' => ∃ v, e = .returned v ∧ RetL (ι := Option Addr × Nat × Option Addr × Nat) (fun _ => True) (fun (P1, k1, P2, k2) => .tuple #[.agg ((((d, wAsk)).1 : Co).at P1 k1 P2 k2).toArray, .string (tx ((d, wAsk)).2)]) (fun (P1, k1, P2, k2) => [.row (.slice P1 (((d, wAsk)).1 : Co).n k1) 96 3 (((d, wAsk)).1 : Co).n (BaS (((d, wAsk)).1 : Co).n (((d, wAsk)).1 : Co).ba), .row (.slice P2 (((d, wAsk)).1 : Co).m k2) 98 4 (((d, wAsk)).1 : Co).m (AwS (((d, wAsk)).1 : Co).m (((d, wAsk)).1 : Co).wa)]) (fun _ => []) w0 v w' := by
  have hSp := fun w => l1SplitC_v line w (by omega)
  rw [hs] at hSp
  have hn_linewLevel : ¬ tx line = ({ data := #[108, 101, 118, 101, 108] } : ByteArray) := fun q => hq1 (tx_inj (q.trans (by rfl : _ = tx wLevel)))
  have hn_linewWater : ¬ tx line = ({ data := #[119, 97, 116, 101, 114] } : ByteArray) := fun q => hq2 (tx_inj (q.trans (by rfl : _ = tx wWater)))
  have q0 : (TS [x, y])[mulS 0 1]? = some (.string (tx (x))) := rfl
  have q1 : (TS [x, y])[mulS 1 1]? = some (.string (tx (y))) := rfl
  have hlt : [x, y].length = 2 := rfl
  have hn_ywHigh : ¬ tx y = ({ data := #[104, 105, 103, 104] } : ByteArray) := fun q => hy1 (tx_inj (q.trans (by rfl : _ = tx wHigh)))
  have hn_ywLow : ¬ tx y = ({ data := #[108, 111, 119] } : ByteArray) := fun q => hy2 (tx_inj (q.trans (by rfl : _ = tx wLow)))
  have hN := fun B c w hB => numbers_v B c [y] w (by show 1 ≤ 1048577; decide) hx hB
  rw [hz] at hN
  refine calls_of_vcL (w0 := w0) tb_ok (args := [.agg (d.at A1 c1 A2 c2).toArray, .string (tx line)]) Tryz.func86 rfl m0 ?_
  (repeat' ((conv => whnf); first | refine go ?_ | (refine VSome.mk ?_; intro gQ hA'; first | subst hA' | cases hA' | (dsimp only at hA'; subst hA')) | refine And.intro ?_ ?_ | intro _ | (first | ((show VCall _ _ _ 44 _ _); refine VCall.ret (fun w1 m1 => hSp w1) (fun i hcap => ?_); obtain ⟨g9, c9⟩ := i; dsimp only at hcap) | ((show VCall _ _ _ 121 _ _); refine VCall.ret (fun w1 m1 => hN _ _ w1 (Seen.tail (B := _) (n := [x, y].length) (k := 1) (Sees.any m1 fndA) hT9 (TS_len1 _))) (fun i9 _ => ?_); obtain ⟨P, cp⟩ := i9)   | ((show VIdx _ _ _ _ _ _ _); first | refine VIdx.at_ rfl 0 rfl (by omega) ?_ | refine VIdx.at_ rfl 1 rfl (by omega) ?_ | refine VIdx.at_ rfl 2 rfl (by omega) ?_ | refine VIdx.at_ rfl 3 rfl (by omega) ?_ | refine VIdx.at_ rfl 4 rfl (by omega) ?_) | ((show VIdx _ _ _ _ _ _ _); apply VIdx.any; (focus ((repeat (first | exact At.here | apply At.there)); done)); (first | refine VIdxR.mk 0 rfl (by omega) ?_ | refine VIdxR.mk 1 rfl (by omega) ?_ | refine VIdxR.mk 2 rfl (by omega) ?_); intro gQ hA'; first | subst hA' | (cases hA')) | ((show VCut _ _ _ _ _ _ _); refine VCut.tail 1 rfl (by omega) (by omega) (Plain.some _ _) (fun B9 d9 hT9 _ => ?_)))))
  all_goals (conv => whnf)
  all_goals exact VRet.mk fun w' m => ⟨(A1, c1, A2, c2), trivial, rfl, m.sel (ks := [0, 1]) (by simp)⟩
set_option maxHeartbeats 16000000 in
theorem sRun_step_yes {w0 : Base} {w : World} (d : Co) (A1 : Option Addr) (c1 : Nat) (A2 : Option Addr) (c2 : Nat) (line : List UInt8) (hf : d.fit) (hl : line.length ≤ 1048575) (hq1 : ¬ line = wLevel) (hq2 : ¬ line = wWater) (y : List UInt8) (hs : sps 32 line = [wStep, y]) (hx : ∀ v ∈ [y], v.length ≤ 1048576) (hy1 : ¬ y = wHigh) (hy2 : ¬ y = wLow) {l : List Int} (hz : numZ [y] = some l) (h : d.lock.okStep (a0 l 0)) (m0 : Mem w0 [.row (.slice A1 d.n c1) 96 3 d.n (BaS d.n d.ba), .row (.slice A2 d.m c2) 98 4 d.m (AwS d.m d.wa)] w) :
    Calls Tryz.prog 86 #[.agg (d.at A1 c1 A2 c2).toArray, .string (tx line)] w fun e w' => ∃ v, e = .returned v ∧ RetL (ι := Option Addr × Nat × Option Addr × Nat) (fun _ => True) (fun (P1, k1, P2, k2) => .tuple #[.agg (((({ d with lock := d.lock.move (a0 l 0) }, wOk)).1 : Co).at P1 k1 P2 k2).toArray, .string (tx (({ d with lock := d.lock.move (a0 l 0) }, wOk)).2)]) (fun (P1, k1, P2, k2) => [.row (.slice P1 ((({ d with lock := d.lock.move (a0 l 0) }, wOk)).1 : Co).n k1) 96 3 ((({ d with lock := d.lock.move (a0 l 0) }, wOk)).1 : Co).n (BaS ((({ d with lock := d.lock.move (a0 l 0) }, wOk)).1 : Co).n ((({ d with lock := d.lock.move (a0 l 0) }, wOk)).1 : Co).ba), .row (.slice P2 ((({ d with lock := d.lock.move (a0 l 0) }, wOk)).1 : Co).m k2) 98 4 ((({ d with lock := d.lock.move (a0 l 0) }, wOk)).1 : Co).m (AwS ((({ d with lock := d.lock.move (a0 l 0) }, wOk)).1 : Co).m ((({ d with lock := d.lock.move (a0 l 0) }, wOk)).1 : Co).wa)]) (fun _ => []) w0 v w' := by
  have hSp := fun w => l1SplitC_v line w (by omega)
  rw [hs] at hSp
  have hn_linewLevel : ¬ tx line = ({ data := #[108, 101, 118, 101, 108] } : ByteArray) := fun q => hq1 (tx_inj (q.trans (by rfl : _ = tx wLevel)))
  have hn_linewWater : ¬ tx line = ({ data := #[119, 97, 116, 101, 114] } : ByteArray) := fun q => hq2 (tx_inj (q.trans (by rfl : _ = tx wWater)))
  have q0 : (TS [wStep, y])[mulS 0 1]? = some (.string (tx (wStep))) := rfl
  have q1 : (TS [wStep, y])[mulS 1 1]? = some (.string (tx (y))) := rfl
  have hlt : [wStep, y].length = 2 := rfl
  have hn_ywHigh : ¬ tx y = ({ data := #[104, 105, 103, 104] } : ByteArray) := fun q => hy1 (tx_inj (q.trans (by rfl : _ = tx wHigh)))
  have hn_ywLow : ¬ tx y = ({ data := #[108, 111, 119] } : ByteArray) := fun q => hy2 (tx_inj (q.trans (by rfl : _ = tx wLow)))
  have hw1 : ¬ tx wStep = ({ data := #[102, 108, 111, 119] } : ByteArray) := by decide
  have hll : l.length = 1 := numZ_len hz
  have p0 : (IL l)[mulS 0 1]? = some (.int .i64 (a0 l 0)) := IL_get (by omega) _ (by rw [mulS_eq])
  have hN := fun B c w hB => numbers_v B c [y] w (by show 1 ≤ 1048577; decide) hx hB
  rw [hz] at hN
  have hSt := fun w => sStep28_yes d A1 c1 A2 c2 (a0 l 0) w h
  refine calls_of_vcL (w0 := w0) tb_ok (args := [.agg (d.at A1 c1 A2 c2).toArray, .string (tx line)]) Tryz.func86 rfl m0 ?_
  (repeat' ((conv => whnf); first | refine go ?_ | (refine VSome.mk ?_; intro gQ hA'; first | subst hA' | cases hA' | (dsimp only at hA'; subst hA')) | refine And.intro ?_ ?_ | intro _ | (first | ((show VCall _ _ _ 44 _ _); refine VCall.ret (fun w1 m1 => hSp w1) (fun i hcap => ?_); obtain ⟨g9, c9⟩ := i; dsimp only at hcap) | ((show VCall _ _ _ 121 _ _); refine VCall.ret (fun w1 m1 => hN _ _ w1 (Seen.tail (B := _) (n := [wStep, y].length) (k := 1) (Sees.any m1 fndA) hT9 (TS_len1 _))) (fun i9 _ => ?_); obtain ⟨P, cp⟩ := i9) | ((show VCall _ _ _ 124 _ _); refine VCall.grow _ (fun w1 m1 => hSt w1) ?_) | ((show VDraw _ _ _ #[{ dst := some 162, op := _, type := _, pos := _, after := _, guard := _ }, _, _, _, _, _, _, _, _] _ _); refine VDraw.mk (.take 0 (.take 1 (.take 2 (.take 3 (.br 4 (.take 5 (.take 6 (.br 7 (.take 8 .done) .done))) .done))))) [2, 5] (by kernel_rfl) (by kernel_rfl) ?_) | ((show VIdx _ _ _ _ _ _ _); first | refine VIdx.at_ rfl 0 rfl (by omega) ?_ | refine VIdx.at_ rfl 1 rfl (by omega) ?_ | refine VIdx.at_ rfl 2 rfl (by omega) ?_ | refine VIdx.at_ rfl 3 rfl (by omega) ?_ | refine VIdx.at_ rfl 4 rfl (by omega) ?_) | ((show VIdx _ _ _ _ _ _ _); apply VIdx.any; (focus ((repeat (first | exact At.here | apply At.there)); done)); (first | refine VIdxR.mk 0 rfl (by omega) ?_ | refine VIdxR.mk 1 rfl (by omega) ?_ | refine VIdxR.mk 2 rfl (by omega) ?_); intro gQ hA'; first | subst hA' | (cases hA')) | ((show VCut _ _ _ _ _ _ _); refine VCut.tail 1 rfl (by omega) (by omega) (Plain.some _ _) (fun B9 d9 hT9 _ => ?_)))))
  all_goals (conv => whnf)
  all_goals exact VRet.mk fun w' m => ⟨(A1, c1, A2, c2), trivial, rfl, m.sel (ks := [0, 1]) (by simp)⟩
set_option maxHeartbeats 16000000 in
theorem sRun_step_no {w0 : Base} {w : World} (d : Co) (A1 : Option Addr) (c1 : Nat) (A2 : Option Addr) (c2 : Nat) (line : List UInt8) (hf : d.fit) (hl : line.length ≤ 1048575) (hq1 : ¬ line = wLevel) (hq2 : ¬ line = wWater) (y : List UInt8) (hs : sps 32 line = [wStep, y]) (hx : ∀ v ∈ [y], v.length ≤ 1048576) (hy1 : ¬ y = wHigh) (hy2 : ¬ y = wLow) {l : List Int} (hz : numZ [y] = some l) (h : ¬ d.lock.okStep (a0 l 0)) (m0 : Mem w0 [.row (.slice A1 d.n c1) 96 3 d.n (BaS d.n d.ba), .row (.slice A2 d.m c2) 98 4 d.m (AwS d.m d.wa)] w) :
    Calls Tryz.prog 86 #[.agg (d.at A1 c1 A2 c2).toArray, .string (tx line)] w fun e w' => ∃ v, e = .returned v ∧ RetL (ι := Option Addr × Nat × Option Addr × Nat) (fun _ => True) (fun (P1, k1, P2, k2) => .tuple #[.agg ((((d, wAsk)).1 : Co).at P1 k1 P2 k2).toArray, .string (tx ((d, wAsk)).2)]) (fun (P1, k1, P2, k2) => [.row (.slice P1 (((d, wAsk)).1 : Co).n k1) 96 3 (((d, wAsk)).1 : Co).n (BaS (((d, wAsk)).1 : Co).n (((d, wAsk)).1 : Co).ba), .row (.slice P2 (((d, wAsk)).1 : Co).m k2) 98 4 (((d, wAsk)).1 : Co).m (AwS (((d, wAsk)).1 : Co).m (((d, wAsk)).1 : Co).wa)]) (fun _ => []) w0 v w' := by
  have hSp := fun w => l1SplitC_v line w (by omega)
  rw [hs] at hSp
  have hn_linewLevel : ¬ tx line = ({ data := #[108, 101, 118, 101, 108] } : ByteArray) := fun q => hq1 (tx_inj (q.trans (by rfl : _ = tx wLevel)))
  have hn_linewWater : ¬ tx line = ({ data := #[119, 97, 116, 101, 114] } : ByteArray) := fun q => hq2 (tx_inj (q.trans (by rfl : _ = tx wWater)))
  have q0 : (TS [wStep, y])[mulS 0 1]? = some (.string (tx (wStep))) := rfl
  have q1 : (TS [wStep, y])[mulS 1 1]? = some (.string (tx (y))) := rfl
  have hlt : [wStep, y].length = 2 := rfl
  have hn_ywHigh : ¬ tx y = ({ data := #[104, 105, 103, 104] } : ByteArray) := fun q => hy1 (tx_inj (q.trans (by rfl : _ = tx wHigh)))
  have hn_ywLow : ¬ tx y = ({ data := #[108, 111, 119] } : ByteArray) := fun q => hy2 (tx_inj (q.trans (by rfl : _ = tx wLow)))
  have hw1 : ¬ tx wStep = ({ data := #[102, 108, 111, 119] } : ByteArray) := by decide
  have hll : l.length = 1 := numZ_len hz
  have p0 : (IL l)[mulS 0 1]? = some (.int .i64 (a0 l 0)) := IL_get (by omega) _ (by rw [mulS_eq])
  have hN := fun B c w hB => numbers_v B c [y] w (by show 1 ≤ 1048577; decide) hx hB
  rw [hz] at hN
  have hSt := fun w => sStep28_no d A1 c1 A2 c2 (a0 l 0) w h
  refine calls_of_vcL (w0 := w0) tb_ok (args := [.agg (d.at A1 c1 A2 c2).toArray, .string (tx line)]) Tryz.func86 rfl m0 ?_
  (repeat' ((conv => whnf); first | refine go ?_ | (refine VSome.mk ?_; intro gQ hA'; first | subst hA' | cases hA' | (dsimp only at hA'; subst hA')) | refine And.intro ?_ ?_ | intro _ | (first | ((show VCall _ _ _ 44 _ _); refine VCall.ret (fun w1 m1 => hSp w1) (fun i hcap => ?_); obtain ⟨g9, c9⟩ := i; dsimp only at hcap) | ((show VCall _ _ _ 121 _ _); refine VCall.ret (fun w1 m1 => hN _ _ w1 (Seen.tail (B := _) (n := [wStep, y].length) (k := 1) (Sees.any m1 fndA) hT9 (TS_len1 _))) (fun i9 _ => ?_); obtain ⟨P, cp⟩ := i9) | ((show VCall _ _ _ 124 _ _); refine VCall.grow _ (fun w1 m1 => hSt w1) ?_) | ((show VDraw _ _ _ #[{ dst := some 162, op := _, type := _, pos := _, after := _, guard := _ }, _, _, _, _, _, _, _, _] _ _); refine VDraw.mk (.take 0 (.take 1 (.take 2 (.take 3 (.br 4 (.take 5 (.take 6 (.br 7 (.take 8 .done) .done))) .done))))) [2, 5] (by kernel_rfl) (by kernel_rfl) ?_) | ((show VIdx _ _ _ _ _ _ _); first | refine VIdx.at_ rfl 0 rfl (by omega) ?_ | refine VIdx.at_ rfl 1 rfl (by omega) ?_ | refine VIdx.at_ rfl 2 rfl (by omega) ?_ | refine VIdx.at_ rfl 3 rfl (by omega) ?_ | refine VIdx.at_ rfl 4 rfl (by omega) ?_) | ((show VIdx _ _ _ _ _ _ _); apply VIdx.any; (focus ((repeat (first | exact At.here | apply At.there)); done)); (first | refine VIdxR.mk 0 rfl (by omega) ?_ | refine VIdxR.mk 1 rfl (by omega) ?_ | refine VIdxR.mk 2 rfl (by omega) ?_); intro gQ hA'; first | subst hA' | (cases hA')) | ((show VCut _ _ _ _ _ _ _); refine VCut.tail 1 rfl (by omega) (by omega) (Plain.some _ _) (fun B9 d9 hT9 _ => ?_)))))
  all_goals (conv => whnf)
  all_goals exact VRet.mk fun w' m => ⟨(A1, c1, A2, c2), trivial, rfl, m.sel (ks := [0, 1]) (by simp)⟩
set_option maxHeartbeats 16000000 in
theorem sRun_leave_yes {w0 : Base} {w : World} (d : Co) (A1 : Option Addr) (c1 : Nat) (A2 : Option Addr) (c2 : Nat) (line : List UInt8) (hf : d.fit) (hl : line.length ≤ 1048575) (hq1 : ¬ line = wLevel) (hq2 : ¬ line = wWater) (y : List UInt8) (hs : sps 32 line = [wLeave, y]) (hx : ∀ v ∈ [y], v.length ≤ 1048576) (hy1 : ¬ y = wHigh) (hy2 : ¬ y = wLow) {l : List Int} (hz : numZ [y] = some l) {i : Nat} (h : fnd d.wa (a0 l 0) d.m = some i) (m0 : Mem w0 [.row (.slice A1 d.n c1) 96 3 d.n (BaS d.n d.ba), .row (.slice A2 d.m c2) 98 4 d.m (AwS d.m d.wa)] w) :
    Calls Tryz.prog 86 #[.agg (d.at A1 c1 A2 c2).toArray, .string (tx line)] w fun e w' => ∃ v, e = .returned v ∧ RetL (ι := Option Addr × Nat × Option Addr × Nat) (fun _ => True) (fun (P1, k1, P2, k2) => .tuple #[.agg ((((d.lve i, wOk)).1 : Co).at P1 k1 P2 k2).toArray, .string (tx ((d.lve i, wOk)).2)]) (fun (P1, k1, P2, k2) => [.row (.slice P1 (((d.lve i, wOk)).1 : Co).n k1) 96 3 (((d.lve i, wOk)).1 : Co).n (BaS (((d.lve i, wOk)).1 : Co).n (((d.lve i, wOk)).1 : Co).ba), .row (.slice P2 (((d.lve i, wOk)).1 : Co).m k2) 98 4 (((d.lve i, wOk)).1 : Co).m (AwS (((d.lve i, wOk)).1 : Co).m (((d.lve i, wOk)).1 : Co).wa)]) (fun _ => []) w0 v w' := by
  have hSp := fun w => l1SplitC_v line w (by omega)
  rw [hs] at hSp
  have hn_linewLevel : ¬ tx line = ({ data := #[108, 101, 118, 101, 108] } : ByteArray) := fun q => hq1 (tx_inj (q.trans (by rfl : _ = tx wLevel)))
  have hn_linewWater : ¬ tx line = ({ data := #[119, 97, 116, 101, 114] } : ByteArray) := fun q => hq2 (tx_inj (q.trans (by rfl : _ = tx wWater)))
  have q0 : (TS [wLeave, y])[mulS 0 1]? = some (.string (tx (wLeave))) := rfl
  have q1 : (TS [wLeave, y])[mulS 1 1]? = some (.string (tx (y))) := rfl
  have hlt : [wLeave, y].length = 2 := rfl
  have hn_ywHigh : ¬ tx y = ({ data := #[104, 105, 103, 104] } : ByteArray) := fun q => hy1 (tx_inj (q.trans (by rfl : _ = tx wHigh)))
  have hn_ywLow : ¬ tx y = ({ data := #[108, 111, 119] } : ByteArray) := fun q => hy2 (tx_inj (q.trans (by rfl : _ = tx wLow)))
  have hw1 : ¬ tx wLeave = ({ data := #[102, 108, 111, 119] } : ByteArray) := by decide
  have hw2 : ¬ tx wLeave = ({ data := #[115, 116, 101, 112] } : ByteArray) := by decide
  have hll : l.length = 1 := numZ_len hz
  have p0 : (IL l)[mulS 0 1]? = some (.int .i64 (a0 l 0)) := IL_get (by omega) _ (by rw [mulS_eq])
  have hN := fun B c w hB => numbers_v B c [y] w (by show 1 ≤ 1048577; decide) hx hB
  rw [hz] at hN
  have hm := hf.2.2.2
  have hLv := fun A2 c2 w hc hP hA => sLeave_v d A1 c1 A2 c2 (a0 l 0) i w hm h hc hP hA
  refine calls_of_vcL (w0 := w0) tb_ok (args := [.agg (d.at A1 c1 A2 c2).toArray, .string (tx line)]) Tryz.func86 rfl m0 ?_
  (repeat' ((conv => whnf); first | refine go ?_ | (refine VSome.mk ?_; intro gQ hA'; first | subst hA' | cases hA' | (dsimp only at hA'; subst hA')) | refine And.intro ?_ ?_ | intro _ | (first | ((show VCall _ _ _ 44 _ _); refine VCall.ret (fun w1 m1 => hSp w1) (fun i hcap => ?_); obtain ⟨g9, c9⟩ := i; dsimp only at hcap) | ((show VCall _ _ _ 121 _ _); refine VCall.ret (fun w1 m1 => hN _ _ w1 (Seen.tail (B := _) (n := [wLeave, y].length) (k := 1) (Sees.any m1 fndA) hT9 (TS_len1 _))) (fun i9 _ => ?_); obtain ⟨P, cp⟩ := i9) | ((show VCall _ _ _ 125 _ _); refine VCall.ret (fun w1 m1 => hLv _ _ w1 (m1.cap fndA) (m1.plain fndA) seenA) (fun i8 _ => ?_); obtain ⟨P8, c8⟩ := i8) | ((show VDraw _ _ _ #[{ dst := some 174, op := _, type := _, pos := _, after := _, guard := _ }, _, _, _, _, _, _, _, _] _ _); refine VDraw.mk (.take 0 (.take 1 (.take 2 (.take 3 (.br 4 (.take 5 (.take 6 (.br 7 (.take 8 .done) .done))) .done))))) [2, 5] (by kernel_rfl) (by kernel_rfl) ?_) | ((show VIdx _ _ _ _ _ _ _); first | refine VIdx.at_ rfl 0 rfl (by omega) ?_ | refine VIdx.at_ rfl 1 rfl (by omega) ?_ | refine VIdx.at_ rfl 2 rfl (by omega) ?_ | refine VIdx.at_ rfl 3 rfl (by omega) ?_ | refine VIdx.at_ rfl 4 rfl (by omega) ?_) | ((show VIdx _ _ _ _ _ _ _); apply VIdx.any; (focus ((repeat (first | exact At.here | apply At.there)); done)); (first | refine VIdxR.mk 0 rfl (by omega) ?_ | refine VIdxR.mk 1 rfl (by omega) ?_ | refine VIdxR.mk 2 rfl (by omega) ?_); intro gQ hA'; first | subst hA' | (cases hA')) | ((show VCut _ _ _ _ _ _ _); refine VCut.tail 1 rfl (by omega) (by omega) (Plain.some _ _) (fun B9 d9 hT9 _ => ?_)))))
  all_goals (conv => whnf)
  all_goals exact VRet.mk fun w' m => ⟨(A1, c1, P8, c8), trivial, rfl, m.sel (ks := [0, 6]) (by simp)⟩
set_option maxHeartbeats 16000000 in
theorem sRun_leave_no {w0 : Base} {w : World} (d : Co) (A1 : Option Addr) (c1 : Nat) (A2 : Option Addr) (c2 : Nat) (line : List UInt8) (hf : d.fit) (hl : line.length ≤ 1048575) (hq1 : ¬ line = wLevel) (hq2 : ¬ line = wWater) (y : List UInt8) (hs : sps 32 line = [wLeave, y]) (hx : ∀ v ∈ [y], v.length ≤ 1048576) (hy1 : ¬ y = wHigh) (hy2 : ¬ y = wLow) {l : List Int} (hz : numZ [y] = some l) (h : fnd d.wa (a0 l 0) d.m = none) (m0 : Mem w0 [.row (.slice A1 d.n c1) 96 3 d.n (BaS d.n d.ba), .row (.slice A2 d.m c2) 98 4 d.m (AwS d.m d.wa)] w) :
    Calls Tryz.prog 86 #[.agg (d.at A1 c1 A2 c2).toArray, .string (tx line)] w fun e w' => ∃ v, e = .returned v ∧ RetL (ι := Option Addr × Nat × Option Addr × Nat) (fun _ => True) (fun (P1, k1, P2, k2) => .tuple #[.agg ((((d, wAsk)).1 : Co).at P1 k1 P2 k2).toArray, .string (tx ((d, wAsk)).2)]) (fun (P1, k1, P2, k2) => [.row (.slice P1 (((d, wAsk)).1 : Co).n k1) 96 3 (((d, wAsk)).1 : Co).n (BaS (((d, wAsk)).1 : Co).n (((d, wAsk)).1 : Co).ba), .row (.slice P2 (((d, wAsk)).1 : Co).m k2) 98 4 (((d, wAsk)).1 : Co).m (AwS (((d, wAsk)).1 : Co).m (((d, wAsk)).1 : Co).wa)]) (fun _ => []) w0 v w' := by
  have hSp := fun w => l1SplitC_v line w (by omega)
  rw [hs] at hSp
  have hn_linewLevel : ¬ tx line = ({ data := #[108, 101, 118, 101, 108] } : ByteArray) := fun q => hq1 (tx_inj (q.trans (by rfl : _ = tx wLevel)))
  have hn_linewWater : ¬ tx line = ({ data := #[119, 97, 116, 101, 114] } : ByteArray) := fun q => hq2 (tx_inj (q.trans (by rfl : _ = tx wWater)))
  have q0 : (TS [wLeave, y])[mulS 0 1]? = some (.string (tx (wLeave))) := rfl
  have q1 : (TS [wLeave, y])[mulS 1 1]? = some (.string (tx (y))) := rfl
  have hlt : [wLeave, y].length = 2 := rfl
  have hn_ywHigh : ¬ tx y = ({ data := #[104, 105, 103, 104] } : ByteArray) := fun q => hy1 (tx_inj (q.trans (by rfl : _ = tx wHigh)))
  have hn_ywLow : ¬ tx y = ({ data := #[108, 111, 119] } : ByteArray) := fun q => hy2 (tx_inj (q.trans (by rfl : _ = tx wLow)))
  have hw1 : ¬ tx wLeave = ({ data := #[102, 108, 111, 119] } : ByteArray) := by decide
  have hw2 : ¬ tx wLeave = ({ data := #[115, 116, 101, 112] } : ByteArray) := by decide
  have hll : l.length = 1 := numZ_len hz
  have p0 : (IL l)[mulS 0 1]? = some (.int .i64 (a0 l 0)) := IL_get (by omega) _ (by rw [mulS_eq])
  have hN := fun B c w hB => numbers_v B c [y] w (by show 1 ≤ 1048577; decide) hx hB
  rw [hz] at hN
  have hm := hf.2.2.2
  have hLv := fun A2 c2 w hA => sLeave_no d A1 c1 A2 c2 (a0 l 0) w hm h hA
  refine calls_of_vcL (w0 := w0) tb_ok (args := [.agg (d.at A1 c1 A2 c2).toArray, .string (tx line)]) Tryz.func86 rfl m0 ?_
  (repeat' ((conv => whnf); first | refine go ?_ | (refine VSome.mk ?_; intro gQ hA'; first | subst hA' | cases hA' | (dsimp only at hA'; subst hA')) | refine And.intro ?_ ?_ | intro _ | (first | ((show VCall _ _ _ 44 _ _); refine VCall.ret (fun w1 m1 => hSp w1) (fun i hcap => ?_); obtain ⟨g9, c9⟩ := i; dsimp only at hcap) | ((show VCall _ _ _ 121 _ _); refine VCall.ret (fun w1 m1 => hN _ _ w1 (Seen.tail (B := _) (n := [wLeave, y].length) (k := 1) (Sees.any m1 fndA) hT9 (TS_len1 _))) (fun i9 _ => ?_); obtain ⟨P, cp⟩ := i9) | ((show VCall _ _ _ 125 _ _); refine VCall.grow _ (fun w1 m1 => hLv _ _ w1 seenA) ?_) | ((show VDraw _ _ _ #[{ dst := some 174, op := _, type := _, pos := _, after := _, guard := _ }, _, _, _, _, _, _, _, _] _ _); refine VDraw.mk (.take 0 (.take 1 (.take 2 (.take 3 (.br 4 (.take 5 (.take 6 (.br 7 (.take 8 .done) .done))) .done))))) [2, 5] (by kernel_rfl) (by kernel_rfl) ?_) | ((show VIdx _ _ _ _ _ _ _); first | refine VIdx.at_ rfl 0 rfl (by omega) ?_ | refine VIdx.at_ rfl 1 rfl (by omega) ?_ | refine VIdx.at_ rfl 2 rfl (by omega) ?_ | refine VIdx.at_ rfl 3 rfl (by omega) ?_ | refine VIdx.at_ rfl 4 rfl (by omega) ?_) | ((show VIdx _ _ _ _ _ _ _); apply VIdx.any; (focus ((repeat (first | exact At.here | apply At.there)); done)); (first | refine VIdxR.mk 0 rfl (by omega) ?_ | refine VIdxR.mk 1 rfl (by omega) ?_ | refine VIdxR.mk 2 rfl (by omega) ?_); intro gQ hA'; first | subst hA' | (cases hA')) | ((show VCut _ _ _ _ _ _ _); refine VCut.tail 1 rfl (by omega) (by omega) (Plain.some _ _) (fun B9 d9 hT9 _ => ?_)))))
  all_goals (conv => whnf)
  all_goals exact VRet.mk fun w' m => ⟨(A1, c1, A2, c2), trivial, rfl, m.sel (ks := [0, 1]) (by simp)⟩
set_option maxHeartbeats 16000000 in
theorem sRun_ask {w0 : Base} {w : World} (d : Co) (A1 : Option Addr) (c1 : Nat) (A2 : Option Addr) (c2 : Nat) (line : List UInt8) (hf : d.fit) (hl : line.length ≤ 1048575) (hq1 : ¬ line = wLevel) (hq2 : ¬ line = wWater) (x y : List UInt8) (hs : sps 32 line = [x, y]) (hx : ∀ v ∈ [y], v.length ≤ 1048576) (hy1 : ¬ y = wHigh) (hy2 : ¬ y = wLow) {l : List Int} (hz : numZ [y] = some l) (h1 : ¬ x = wStep) (h2 : ¬ x = wLeave) (m0 : Mem w0 [.row (.slice A1 d.n c1) 96 3 d.n (BaS d.n d.ba), .row (.slice A2 d.m c2) 98 4 d.m (AwS d.m d.wa)] w) :
    Calls Tryz.prog 86 #[.agg (d.at A1 c1 A2 c2).toArray, .string (tx line)] w fun e w' => ∃ v, e = .returned v ∧ RetL (ι := Option Addr × Nat × Option Addr × Nat) (fun _ => True) (fun (P1, k1, P2, k2) => .tuple #[.agg ((((d, d.askV x (a0 l 0))).1 : Co).at P1 k1 P2 k2).toArray, .string (tx ((d, d.askV x (a0 l 0))).2)]) (fun (P1, k1, P2, k2) => [.row (.slice P1 (((d, d.askV x (a0 l 0))).1 : Co).n k1) 96 3 (((d, d.askV x (a0 l 0))).1 : Co).n (BaS (((d, d.askV x (a0 l 0))).1 : Co).n (((d, d.askV x (a0 l 0))).1 : Co).ba), .row (.slice P2 (((d, d.askV x (a0 l 0))).1 : Co).m k2) 98 4 (((d, d.askV x (a0 l 0))).1 : Co).m (AwS (((d, d.askV x (a0 l 0))).1 : Co).m (((d, d.askV x (a0 l 0))).1 : Co).wa)]) (fun _ => []) w0 v w' := by
  have hSp := fun w => l1SplitC_v line w (by omega)
  rw [hs] at hSp
  have hn_linewLevel : ¬ tx line = ({ data := #[108, 101, 118, 101, 108] } : ByteArray) := fun q => hq1 (tx_inj (q.trans (by rfl : _ = tx wLevel)))
  have hn_linewWater : ¬ tx line = ({ data := #[119, 97, 116, 101, 114] } : ByteArray) := fun q => hq2 (tx_inj (q.trans (by rfl : _ = tx wWater)))
  have q0 : (TS [x, y])[mulS 0 1]? = some (.string (tx (x))) := rfl
  have q1 : (TS [x, y])[mulS 1 1]? = some (.string (tx (y))) := rfl
  have hlt : [x, y].length = 2 := rfl
  have hn_ywHigh : ¬ tx y = ({ data := #[104, 105, 103, 104] } : ByteArray) := fun q => hy1 (tx_inj (q.trans (by rfl : _ = tx wHigh)))
  have hn_ywLow : ¬ tx y = ({ data := #[108, 111, 119] } : ByteArray) := fun q => hy2 (tx_inj (q.trans (by rfl : _ = tx wLow)))
  have hn_xwStep : ¬ tx x = ({ data := #[115, 116, 101, 112] } : ByteArray) := fun q => h1 (tx_inj (q.trans (by rfl : _ = tx wStep)))
  have hn_xwLeave : ¬ tx x = ({ data := #[108, 101, 97, 118, 101] } : ByteArray) := fun q => h2 (tx_inj (q.trans (by rfl : _ = tx wLeave)))
  have hll : l.length = 1 := numZ_len hz
  have p0 : (IL l)[mulS 0 1]? = some (.int .i64 (a0 l 0)) := IL_get (by omega) _ (by rw [mulS_eq])
  have hN := fun B c w hB => numbers_v B c [y] w (by show 1 ≤ 1048577; decide) hx hB
  rw [hz] at hN
  have hm := hf.2.2.2
  have hAs := fun A2 c2 w hc hP hA => sAsk_v d A1 c1 A2 c2 x (a0 l 0) w hf.1 hf.2.2 hc hP hA
  generalize d.askV x (a0 l 0) = tt at hAs ⊢
  refine calls_of_vcL (w0 := w0) tb_ok (args := [.agg (d.at A1 c1 A2 c2).toArray, .string (tx line)]) Tryz.func86 rfl m0 ?_
  (repeat' ((conv => whnf); first | refine go ?_ | (refine VSome.mk ?_; intro gQ hA'; first | subst hA' | cases hA' | (dsimp only at hA'; subst hA')) | refine And.intro ?_ ?_ | intro _ | (first | ((show VCall _ _ _ 44 _ _); refine VCall.ret (fun w1 m1 => hSp w1) (fun i hcap => ?_); obtain ⟨g9, c9⟩ := i; dsimp only at hcap) | ((show VCall _ _ _ 121 _ _); refine VCall.ret (fun w1 m1 => hN _ _ w1 (Seen.tail (B := _) (n := [x, y].length) (k := 1) (Sees.any m1 fndA) hT9 (TS_len1 _))) (fun i9 _ => ?_); obtain ⟨P, cp⟩ := i9) | ((show VCall _ _ _ 126 _ _); refine VCall.grow _ (fun w1 m1 => hAs _ _ w1 (m1.cap fndA) (m1.plain fndA) seenA) ?_) | ((show VDraw _ _ _ #[{ dst := some 181, op := _, type := _, pos := _, after := _, guard := _ }, _, _, _, _, _, _, _, _, _, _] _ _); refine VDraw.mk (.take 0 (.take 1 (.take 2 (.take 3 (.take 4 (.take 5 (.take 6 (.take 7 (.br 8 (.br 9 (.take 10 .done) .done) .done))))))))) [2, 4, 5] (by kernel_rfl) (by kernel_rfl) ?_) | ((show VIdx _ _ _ _ _ _ _); first | refine VIdx.at_ rfl 0 rfl (by omega) ?_ | refine VIdx.at_ rfl 1 rfl (by omega) ?_ | refine VIdx.at_ rfl 2 rfl (by omega) ?_ | refine VIdx.at_ rfl 3 rfl (by omega) ?_ | refine VIdx.at_ rfl 4 rfl (by omega) ?_) | ((show VIdx _ _ _ _ _ _ _); apply VIdx.any; (focus ((repeat (first | exact At.here | apply At.there)); done)); (first | refine VIdxR.mk 0 rfl (by omega) ?_ | refine VIdxR.mk 1 rfl (by omega) ?_ | refine VIdxR.mk 2 rfl (by omega) ?_); intro gQ hA'; first | subst hA' | (cases hA')) | ((show VCut _ _ _ _ _ _ _); refine VCut.tail 1 rfl (by omega) (by omega) (Plain.some _ _) (fun B9 d9 hT9 _ => ?_)))))
  all_goals (conv => whnf)
  all_goals exact VRet.mk fun w' m => ⟨(A1, c1, A2, c2), trivial, rfl, m.sel (ks := [0, 1]) (by simp)⟩
set_option maxHeartbeats 16000000 in
theorem sRun_flow_yes {w0 : Base} {w : World} (d : Co) (A1 : Option Addr) (c1 : Nat) (A2 : Option Addr) (c2 : Nat) (line : List UInt8) (hf : d.fit) (hl : line.length ≤ 1048575) (hq1 : ¬ line = wLevel) (hq2 : ¬ line = wWater) (y z u : List UInt8) (hs : sps 32 line = [wFlow, y, z, u]) (hx : ∀ v ∈ [y, z, u], v.length ≤ 1048576) {l : List Int} (hz : numZ [y, z, u] = some l) (h : bCan d.n d.ba (a0 l 0) (a0 l 1) (a0 l 2)) (m0 : Mem w0 [.row (.slice A1 d.n c1) 96 3 d.n (BaS d.n d.ba), .row (.slice A2 d.m c2) 98 4 d.m (AwS d.m d.wa)] w) :
    Calls Tryz.prog 86 #[.agg (d.at A1 c1 A2 c2).toArray, .string (tx line)] w fun e w' => ∃ v, e = .returned v ∧ RetL (ι := Option Addr × Nat × Option Addr × Nat) (fun _ => True) (fun (P1, k1, P2, k2) => .tuple #[.agg (((({ d with ba := bMv d.ba (a0 l 0) (a0 l 1) (a0 l 2) }, wOk)).1 : Co).at P1 k1 P2 k2).toArray, .string (tx (({ d with ba := bMv d.ba (a0 l 0) (a0 l 1) (a0 l 2) }, wOk)).2)]) (fun (P1, k1, P2, k2) => [.row (.slice P1 ((({ d with ba := bMv d.ba (a0 l 0) (a0 l 1) (a0 l 2) }, wOk)).1 : Co).n k1) 96 3 ((({ d with ba := bMv d.ba (a0 l 0) (a0 l 1) (a0 l 2) }, wOk)).1 : Co).n (BaS ((({ d with ba := bMv d.ba (a0 l 0) (a0 l 1) (a0 l 2) }, wOk)).1 : Co).n ((({ d with ba := bMv d.ba (a0 l 0) (a0 l 1) (a0 l 2) }, wOk)).1 : Co).ba), .row (.slice P2 ((({ d with ba := bMv d.ba (a0 l 0) (a0 l 1) (a0 l 2) }, wOk)).1 : Co).m k2) 98 4 ((({ d with ba := bMv d.ba (a0 l 0) (a0 l 1) (a0 l 2) }, wOk)).1 : Co).m (AwS ((({ d with ba := bMv d.ba (a0 l 0) (a0 l 1) (a0 l 2) }, wOk)).1 : Co).m ((({ d with ba := bMv d.ba (a0 l 0) (a0 l 1) (a0 l 2) }, wOk)).1 : Co).wa)]) (fun _ => []) w0 v w' := by
  have hSp := fun w => l1SplitC_v line w (by omega)
  rw [hs] at hSp
  have hn_linewLevel : ¬ tx line = ({ data := #[108, 101, 118, 101, 108] } : ByteArray) := fun q => hq1 (tx_inj (q.trans (by rfl : _ = tx wLevel)))
  have hn_linewWater : ¬ tx line = ({ data := #[119, 97, 116, 101, 114] } : ByteArray) := fun q => hq2 (tx_inj (q.trans (by rfl : _ = tx wWater)))
  have q0 : (TS [wFlow, y, z, u])[mulS 0 1]? = some (.string (tx (wFlow))) := rfl
  have q1 : (TS [wFlow, y, z, u])[mulS 1 1]? = some (.string (tx (y))) := rfl
  have q2 : (TS [wFlow, y, z, u])[mulS 2 1]? = some (.string (tx (z))) := rfl
  have q3 : (TS [wFlow, y, z, u])[mulS 3 1]? = some (.string (tx (u))) := rfl
  have hlt : [wFlow, y, z, u].length = 4 := rfl
  have hll : l.length = 3 := numZ_len hz
  have p0 : (IL l)[mulS 0 1]? = some (.int .i64 (a0 l 0)) := IL_get (by omega) _ (by rw [mulS_eq])
  have p1 : (IL l)[mulS 1 1]? = some (.int .i64 (a0 l 1)) := IL_get (by omega) _ (by rw [mulS_eq])
  have p2 : (IL l)[mulS 2 1]? = some (.int .i64 (a0 l 2)) := IL_get (by omega) _ (by rw [mulS_eq])
  have hN := fun B c w hB => numbers_v B c [y, z, u] w (by show 3 ≤ 1048577; decide) hx hB
  rw [hz] at hN
  have hb := hf.2.1
  have hn := hb.2
  have hFl := fun A1 c1 w hA => sFlow28_yes d A1 c1 A2 c2 (a0 l 0) (a0 l 1) (a0 l 2) w hb h hA
  refine calls_of_vcL (w0 := w0) tb_ok (args := [.agg (d.at A1 c1 A2 c2).toArray, .string (tx line)]) Tryz.func86 rfl m0 ?_
  (repeat' ((conv => whnf); first | refine go ?_ | (refine VSome.mk ?_; intro gQ hA'; first | subst hA' | cases hA' | (dsimp only at hA'; subst hA')) | refine And.intro ?_ ?_ | intro _ | (first | ((show VCall _ _ _ 44 _ _); refine VCall.ret (fun w1 m1 => hSp w1) (fun i hcap => ?_); obtain ⟨g9, c9⟩ := i; dsimp only at hcap) | ((show VCall _ _ _ 121 _ _); refine VCall.ret (fun w1 m1 => hN _ _ w1 (Seen.tail (B := _) (n := [wFlow, y, z, u].length) (k := 1) (Sees.any m1 fndA) hT9 (TS_len1 _))) (fun i9 _ => ?_); obtain ⟨P, cp⟩ := i9) | ((show VCall _ _ _ 123 _ _); refine VCall.ret (fun w1 m1 => hFl _ _ w1 seenA) (fun i8 _ => ?_); obtain ⟨P8, c8⟩ := i8) | ((show VDraw _ _ _ #[{ dst := some 139, op := _, type := _, pos := _, after := _, guard := _ }, _, _, _, _, _, _, _, _, _, _, _, _, _, _, _] _ _); refine VDraw.mk (.take 0 (.take 1 (.take 2 (.take 3 (.take 4 (.take 5 (.take 6 (.take 7 (.take 8 (.take 9 (.take 10 (.br 11 (.take 12 (.take 13 (.br 14 (.take 15 .done) .done))) .done)))))))))))) [2, 5] (by kernel_rfl) (by kernel_rfl) ?_) | ((show VIdx _ _ _ _ _ _ _); first | refine VIdx.at_ rfl 0 rfl (by omega) ?_ | refine VIdx.at_ rfl 1 rfl (by omega) ?_ | refine VIdx.at_ rfl 2 rfl (by omega) ?_ | refine VIdx.at_ rfl 3 rfl (by omega) ?_ | refine VIdx.at_ rfl 4 rfl (by omega) ?_) | ((show VIdx _ _ _ _ _ _ _); apply VIdx.any; (focus ((repeat (first | exact At.here | apply At.there)); done)); (first | refine VIdxR.mk 0 rfl (by omega) ?_ | refine VIdxR.mk 1 rfl (by omega) ?_ | refine VIdxR.mk 2 rfl (by omega) ?_); intro gQ hA'; first | subst hA' | (cases hA')) | ((show VCut _ _ _ _ _ _ _); refine VCut.tail 1 rfl (by omega) (by omega) (Plain.some _ _) (fun B9 d9 hT9 _ => ?_)))))
  all_goals (conv => whnf)
  all_goals exact VRet.mk fun w' m => ⟨(some ⟨P8, 0, none⟩, c8, A2, c2), trivial, rfl, m.sel (ks := [6, 1]) (by simp)⟩
set_option maxHeartbeats 16000000 in
theorem sRun_flow_no {w0 : Base} {w : World} (d : Co) (A1 : Option Addr) (c1 : Nat) (A2 : Option Addr) (c2 : Nat) (line : List UInt8) (hf : d.fit) (hl : line.length ≤ 1048575) (hq1 : ¬ line = wLevel) (hq2 : ¬ line = wWater) (y z u : List UInt8) (hs : sps 32 line = [wFlow, y, z, u]) (hx : ∀ v ∈ [y, z, u], v.length ≤ 1048576) {l : List Int} (hz : numZ [y, z, u] = some l) (h : ¬ bCan d.n d.ba (a0 l 0) (a0 l 1) (a0 l 2)) (m0 : Mem w0 [.row (.slice A1 d.n c1) 96 3 d.n (BaS d.n d.ba), .row (.slice A2 d.m c2) 98 4 d.m (AwS d.m d.wa)] w) :
    Calls Tryz.prog 86 #[.agg (d.at A1 c1 A2 c2).toArray, .string (tx line)] w fun e w' => ∃ v, e = .returned v ∧ RetL (ι := Option Addr × Nat × Option Addr × Nat) (fun _ => True) (fun (P1, k1, P2, k2) => .tuple #[.agg ((((d, wAsk)).1 : Co).at P1 k1 P2 k2).toArray, .string (tx ((d, wAsk)).2)]) (fun (P1, k1, P2, k2) => [.row (.slice P1 (((d, wAsk)).1 : Co).n k1) 96 3 (((d, wAsk)).1 : Co).n (BaS (((d, wAsk)).1 : Co).n (((d, wAsk)).1 : Co).ba), .row (.slice P2 (((d, wAsk)).1 : Co).m k2) 98 4 (((d, wAsk)).1 : Co).m (AwS (((d, wAsk)).1 : Co).m (((d, wAsk)).1 : Co).wa)]) (fun _ => []) w0 v w' := by
  have hSp := fun w => l1SplitC_v line w (by omega)
  rw [hs] at hSp
  have hn_linewLevel : ¬ tx line = ({ data := #[108, 101, 118, 101, 108] } : ByteArray) := fun q => hq1 (tx_inj (q.trans (by rfl : _ = tx wLevel)))
  have hn_linewWater : ¬ tx line = ({ data := #[119, 97, 116, 101, 114] } : ByteArray) := fun q => hq2 (tx_inj (q.trans (by rfl : _ = tx wWater)))
  have q0 : (TS [wFlow, y, z, u])[mulS 0 1]? = some (.string (tx (wFlow))) := rfl
  have q1 : (TS [wFlow, y, z, u])[mulS 1 1]? = some (.string (tx (y))) := rfl
  have q2 : (TS [wFlow, y, z, u])[mulS 2 1]? = some (.string (tx (z))) := rfl
  have q3 : (TS [wFlow, y, z, u])[mulS 3 1]? = some (.string (tx (u))) := rfl
  have hlt : [wFlow, y, z, u].length = 4 := rfl
  have hll : l.length = 3 := numZ_len hz
  have p0 : (IL l)[mulS 0 1]? = some (.int .i64 (a0 l 0)) := IL_get (by omega) _ (by rw [mulS_eq])
  have p1 : (IL l)[mulS 1 1]? = some (.int .i64 (a0 l 1)) := IL_get (by omega) _ (by rw [mulS_eq])
  have p2 : (IL l)[mulS 2 1]? = some (.int .i64 (a0 l 2)) := IL_get (by omega) _ (by rw [mulS_eq])
  have hN := fun B c w hB => numbers_v B c [y, z, u] w (by show 3 ≤ 1048577; decide) hx hB
  rw [hz] at hN
  have hb := hf.2.1
  have hn := hb.2
  have hFl := fun A1 c1 w hA => sFlow28_no d A1 c1 A2 c2 (a0 l 0) (a0 l 1) (a0 l 2) w hb h hA
  refine calls_of_vcL (w0 := w0) tb_ok (args := [.agg (d.at A1 c1 A2 c2).toArray, .string (tx line)]) Tryz.func86 rfl m0 ?_
  (repeat' ((conv => whnf); first | refine go ?_ | (refine VSome.mk ?_; intro gQ hA'; first | subst hA' | cases hA' | (dsimp only at hA'; subst hA')) | refine And.intro ?_ ?_ | intro _ | (first | ((show VCall _ _ _ 44 _ _); refine VCall.ret (fun w1 m1 => hSp w1) (fun i hcap => ?_); obtain ⟨g9, c9⟩ := i; dsimp only at hcap) | ((show VCall _ _ _ 121 _ _); refine VCall.ret (fun w1 m1 => hN _ _ w1 (Seen.tail (B := _) (n := [wFlow, y, z, u].length) (k := 1) (Sees.any m1 fndA) hT9 (TS_len1 _))) (fun i9 _ => ?_); obtain ⟨P, cp⟩ := i9) | ((show VCall _ _ _ 123 _ _); refine VCall.grow _ (fun w1 m1 => hFl _ _ w1 seenA) ?_) | ((show VDraw _ _ _ #[{ dst := some 139, op := _, type := _, pos := _, after := _, guard := _ }, _, _, _, _, _, _, _, _, _, _, _, _, _, _, _] _ _); refine VDraw.mk (.take 0 (.take 1 (.take 2 (.take 3 (.take 4 (.take 5 (.take 6 (.take 7 (.take 8 (.take 9 (.take 10 (.br 11 (.take 12 (.take 13 (.br 14 (.take 15 .done) .done))) .done)))))))))))) [2, 5] (by kernel_rfl) (by kernel_rfl) ?_) | ((show VIdx _ _ _ _ _ _ _); first | refine VIdx.at_ rfl 0 rfl (by omega) ?_ | refine VIdx.at_ rfl 1 rfl (by omega) ?_ | refine VIdx.at_ rfl 2 rfl (by omega) ?_ | refine VIdx.at_ rfl 3 rfl (by omega) ?_ | refine VIdx.at_ rfl 4 rfl (by omega) ?_) | ((show VIdx _ _ _ _ _ _ _); apply VIdx.any; (focus ((repeat (first | exact At.here | apply At.there)); done)); (first | refine VIdxR.mk 0 rfl (by omega) ?_ | refine VIdxR.mk 1 rfl (by omega) ?_ | refine VIdxR.mk 2 rfl (by omega) ?_); intro gQ hA'; first | subst hA' | (cases hA')) | ((show VCut _ _ _ _ _ _ _); refine VCut.tail 1 rfl (by omega) (by omega) (Plain.some _ _) (fun B9 d9 hT9 _ => ?_)))))
  all_goals (conv => whnf)
  all_goals exact VRet.mk fun w' m => ⟨(A1, c1, A2, c2), trivial, rfl, m.sel (ks := [0, 1]) (by simp)⟩
set_option maxHeartbeats 16000000 in
theorem sRun_oth_bad {w0 : Base} {w : World} (d : Co) (A1 : Option Addr) (c1 : Nat) (A2 : Option Addr) (c2 : Nat) (line : List UInt8) (hf : d.fit) (hl : line.length ≤ 1048575) (hq1 : ¬ line = wLevel) (hq2 : ¬ line = wWater) (x : List UInt8) (r : List (List UInt8)) (hs : sps 32 line = x :: r) (hr : r.length ≤ 1048576) (hx : ∀ v ∈ r, v.length ≤ 1048576) (h1 : ¬ r.length = 1) (h4 : ¬ (x = wArrive ∧ r.length = 4)) (hz : numZ r = none) (m0 : Mem w0 [.row (.slice A1 d.n c1) 96 3 d.n (BaS d.n d.ba), .row (.slice A2 d.m c2) 98 4 d.m (AwS d.m d.wa)] w) :
    Calls Tryz.prog 86 #[.agg (d.at A1 c1 A2 c2).toArray, .string (tx line)] w fun e w' => ∃ v, e = .returned v ∧ RetL (ι := Option Addr × Nat × Option Addr × Nat) (fun _ => True) (fun (P1, k1, P2, k2) => .tuple #[.agg ((((d, wAsk)).1 : Co).at P1 k1 P2 k2).toArray, .string (tx ((d, wAsk)).2)]) (fun (P1, k1, P2, k2) => [.row (.slice P1 (((d, wAsk)).1 : Co).n k1) 96 3 (((d, wAsk)).1 : Co).n (BaS (((d, wAsk)).1 : Co).n (((d, wAsk)).1 : Co).ba), .row (.slice P2 (((d, wAsk)).1 : Co).m k2) 98 4 (((d, wAsk)).1 : Co).m (AwS (((d, wAsk)).1 : Co).m (((d, wAsk)).1 : Co).wa)]) (fun _ => []) w0 v w' := by
  have hSp := fun w => l1SplitC_v line w (by omega)
  rw [hs] at hSp
  have hn_linewLevel : ¬ tx line = ({ data := #[108, 101, 118, 101, 108] } : ByteArray) := fun q => hq1 (tx_inj (q.trans (by rfl : _ = tx wLevel)))
  have hn_linewWater : ¬ tx line = ({ data := #[119, 97, 116, 101, 114] } : ByteArray) := fun q => hq2 (tx_inj (q.trans (by rfl : _ = tx wWater)))
  have q0 : (TS (x :: r))[mulS 0 1]? = some (.string (tx x)) := rfl
  have hlt : (x :: r).length = r.length + 1 := rfl
  have hN := fun B c w hB => numbers_v B c r w (by omega) hx hB
  rw [hz] at hN
  have ha : r.length = 4 → ¬ tx x = ({ data := #[97, 114, 114, 105, 118, 101] } : ByteArray) := fun q1 q => h4 ⟨tx_inj (q.trans (by rfl : _ = tx wArrive)), q1⟩
  by_cases e4 : r.length = 4
  · replace ha := ha e4
    refine calls_of_vcL (w0 := w0) tb_ok (args := [.agg (d.at A1 c1 A2 c2).toArray, .string (tx line)]) Tryz.func86 rfl m0 ?_
    (repeat' ((conv => whnf); first | refine go ?_ | (refine VSome.mk ?_; intro gQ hA'; first | subst hA' | cases hA' | (dsimp only at hA'; subst hA')) | refine And.intro ?_ ?_ | intro _ | (first | ((show VCall _ _ _ 44 _ _); refine VCall.ret (fun w1 m1 => hSp w1) (fun i hcap => ?_); obtain ⟨g9, c9⟩ := i; dsimp only at hcap) | ((show VCall _ _ _ 121 _ _); refine VCall.ret (fun w1 m1 => hN _ _ w1 (Seen.tail (B := _) (n := (x :: r).length) (k := 1) (Sees.any m1 fndA) hT9 (TS_len1 _))) (fun i9 _ => ?_); obtain ⟨P, cp⟩ := i9) | ((show VIdx _ _ _ _ _ _ _); first | refine VIdx.at_ rfl 0 rfl (by omega) ?_ | refine VIdx.at_ rfl 1 rfl (by omega) ?_ | refine VIdx.at_ rfl 2 rfl (by omega) ?_ | refine VIdx.at_ rfl 3 rfl (by omega) ?_ | refine VIdx.at_ rfl 4 rfl (by omega) ?_) | ((show VIdx _ _ _ _ _ _ _); apply VIdx.any; (focus ((repeat (first | exact At.here | apply At.there)); done)); (first | refine VIdxR.mk 0 rfl (by omega) ?_ | refine VIdxR.mk 1 rfl (by omega) ?_ | refine VIdxR.mk 2 rfl (by omega) ?_); intro gQ hA'; first | subst hA' | (cases hA')) | ((show VCut _ _ _ _ _ _ _); refine VCut.tail 1 rfl (by omega) (by omega) (Plain.some _ _) (fun B9 d9 hT9 _ => ?_)))))
    all_goals (conv => whnf)
    all_goals exact VRet.mk fun w' m => ⟨(A1, c1, A2, c2), trivial, rfl, m.sel (ks := [0, 1]) (by simp)⟩
  · clear ha
    refine calls_of_vcL (w0 := w0) tb_ok (args := [.agg (d.at A1 c1 A2 c2).toArray, .string (tx line)]) Tryz.func86 rfl m0 ?_
    (repeat' ((conv => whnf); first | refine go ?_ | (refine VSome.mk ?_; intro gQ hA'; first | subst hA' | cases hA' | (dsimp only at hA'; subst hA')) | refine And.intro ?_ ?_ | intro _ | (first | ((show VCall _ _ _ 44 _ _); refine VCall.ret (fun w1 m1 => hSp w1) (fun i hcap => ?_); obtain ⟨g9, c9⟩ := i; dsimp only at hcap) | ((show VCall _ _ _ 121 _ _); refine VCall.ret (fun w1 m1 => hN _ _ w1 (Seen.tail (B := _) (n := (x :: r).length) (k := 1) (Sees.any m1 fndA) hT9 (TS_len1 _))) (fun i9 _ => ?_); obtain ⟨P, cp⟩ := i9) | ((show VIdx _ _ _ _ _ _ _); first | refine VIdx.at_ rfl 0 rfl (by omega) ?_ | refine VIdx.at_ rfl 1 rfl (by omega) ?_ | refine VIdx.at_ rfl 2 rfl (by omega) ?_ | refine VIdx.at_ rfl 3 rfl (by omega) ?_ | refine VIdx.at_ rfl 4 rfl (by omega) ?_) | ((show VIdx _ _ _ _ _ _ _); apply VIdx.any; (focus ((repeat (first | exact At.here | apply At.there)); done)); (first | refine VIdxR.mk 0 rfl (by omega) ?_ | refine VIdxR.mk 1 rfl (by omega) ?_ | refine VIdxR.mk 2 rfl (by omega) ?_); intro gQ hA'; first | subst hA' | (cases hA')) | ((show VCut _ _ _ _ _ _ _); refine VCut.tail 1 rfl (by omega) (by omega) (Plain.some _ _) (fun B9 d9 hT9 _ => ?_)))))
    all_goals (conv => whnf)
    all_goals exact VRet.mk fun w' m => ⟨(A1, c1, A2, c2), trivial, rfl, m.sel (ks := [0, 1]) (by simp)⟩
set_option maxHeartbeats 16000000 in
theorem sRun_oth_out {w0 : Base} {w : World} (d : Co) (A1 : Option Addr) (c1 : Nat) (A2 : Option Addr) (c2 : Nat) (line : List UInt8) (hf : d.fit) (hl : line.length ≤ 1048575) (hq1 : ¬ line = wLevel) (hq2 : ¬ line = wWater) (x : List UInt8) (r : List (List UInt8)) (hs : sps 32 line = x :: r) (hr : r.length ≤ 1048576) (hx : ∀ v ∈ r, v.length ≤ 1048576) (h1 : ¬ r.length = 1) (h4 : ¬ (x = wArrive ∧ r.length = 4)) {l : List Int} (hz : numZ r = some l) (h3 : ¬ (x = wFlow ∧ r.length = 3)) (m0 : Mem w0 [.row (.slice A1 d.n c1) 96 3 d.n (BaS d.n d.ba), .row (.slice A2 d.m c2) 98 4 d.m (AwS d.m d.wa)] w) :
    Calls Tryz.prog 86 #[.agg (d.at A1 c1 A2 c2).toArray, .string (tx line)] w fun e w' => ∃ v, e = .returned v ∧ RetL (ι := Option Addr × Nat × Option Addr × Nat) (fun _ => True) (fun (P1, k1, P2, k2) => .tuple #[.agg ((((d, wAsk)).1 : Co).at P1 k1 P2 k2).toArray, .string (tx ((d, wAsk)).2)]) (fun (P1, k1, P2, k2) => [.row (.slice P1 (((d, wAsk)).1 : Co).n k1) 96 3 (((d, wAsk)).1 : Co).n (BaS (((d, wAsk)).1 : Co).n (((d, wAsk)).1 : Co).ba), .row (.slice P2 (((d, wAsk)).1 : Co).m k2) 98 4 (((d, wAsk)).1 : Co).m (AwS (((d, wAsk)).1 : Co).m (((d, wAsk)).1 : Co).wa)]) (fun _ => []) w0 v w' := by
  have hSp := fun w => l1SplitC_v line w (by omega)
  rw [hs] at hSp
  have hn_linewLevel : ¬ tx line = ({ data := #[108, 101, 118, 101, 108] } : ByteArray) := fun q => hq1 (tx_inj (q.trans (by rfl : _ = tx wLevel)))
  have hn_linewWater : ¬ tx line = ({ data := #[119, 97, 116, 101, 114] } : ByteArray) := fun q => hq2 (tx_inj (q.trans (by rfl : _ = tx wWater)))
  have q0 : (TS (x :: r))[mulS 0 1]? = some (.string (tx x)) := rfl
  have hlt : (x :: r).length = r.length + 1 := rfl
  have hN := fun B c w hB => numbers_v B c r w (by omega) hx hB
  rw [hz] at hN
  have ha : r.length = 4 → ¬ tx x = ({ data := #[97, 114, 114, 105, 118, 101] } : ByteArray) := fun q1 q => h4 ⟨tx_inj (q.trans (by rfl : _ = tx wArrive)), q1⟩
  have hb : r.length = 3 → ¬ tx x = ({ data := #[102, 108, 111, 119] } : ByteArray) := fun q1 q => h3 ⟨tx_inj (q.trans (by rfl : _ = tx wFlow)), q1⟩
  by_cases e4 : r.length = 4
  · replace ha := ha e4
    clear hb
    refine calls_of_vcL (w0 := w0) tb_ok (args := [.agg (d.at A1 c1 A2 c2).toArray, .string (tx line)]) Tryz.func86 rfl m0 ?_
    (repeat' ((conv => whnf); first | refine go ?_ | (refine VSome.mk ?_; intro gQ hA'; first | subst hA' | cases hA' | (dsimp only at hA'; subst hA')) | refine And.intro ?_ ?_ | intro _ | (first | ((show VCall _ _ _ 44 _ _); refine VCall.ret (fun w1 m1 => hSp w1) (fun i hcap => ?_); obtain ⟨g9, c9⟩ := i; dsimp only at hcap) | ((show VCall _ _ _ 121 _ _); refine VCall.ret (fun w1 m1 => hN _ _ w1 (Seen.tail (B := _) (n := (x :: r).length) (k := 1) (Sees.any m1 fndA) hT9 (TS_len1 _))) (fun i9 _ => ?_); obtain ⟨P, cp⟩ := i9) | ((show VIdx _ _ _ _ _ _ _); first | refine VIdx.at_ rfl 0 rfl (by omega) ?_ | refine VIdx.at_ rfl 1 rfl (by omega) ?_ | refine VIdx.at_ rfl 2 rfl (by omega) ?_ | refine VIdx.at_ rfl 3 rfl (by omega) ?_ | refine VIdx.at_ rfl 4 rfl (by omega) ?_) | ((show VIdx _ _ _ _ _ _ _); apply VIdx.any; (focus ((repeat (first | exact At.here | apply At.there)); done)); (first | refine VIdxR.mk 0 rfl (by omega) ?_ | refine VIdxR.mk 1 rfl (by omega) ?_ | refine VIdxR.mk 2 rfl (by omega) ?_); intro gQ hA'; first | subst hA' | (cases hA')) | ((show VCut _ _ _ _ _ _ _); refine VCut.tail 1 rfl (by omega) (by omega) (Plain.some _ _) (fun B9 d9 hT9 _ => ?_)))))
    all_goals (conv => whnf)
    all_goals exact VRet.mk fun w' m => ⟨(A1, c1, A2, c2), trivial, rfl, m.sel (ks := [0, 1]) (by simp)⟩
  clear ha
  by_cases e3 : r.length = 3
  · replace hb := hb e3
    refine calls_of_vcL (w0 := w0) tb_ok (args := [.agg (d.at A1 c1 A2 c2).toArray, .string (tx line)]) Tryz.func86 rfl m0 ?_
    (repeat' ((conv => whnf); first | refine go ?_ | (refine VSome.mk ?_; intro gQ hA'; first | subst hA' | cases hA' | (dsimp only at hA'; subst hA')) | refine And.intro ?_ ?_ | intro _ | (first | ((show VCall _ _ _ 44 _ _); refine VCall.ret (fun w1 m1 => hSp w1) (fun i hcap => ?_); obtain ⟨g9, c9⟩ := i; dsimp only at hcap) | ((show VCall _ _ _ 121 _ _); refine VCall.ret (fun w1 m1 => hN _ _ w1 (Seen.tail (B := _) (n := (x :: r).length) (k := 1) (Sees.any m1 fndA) hT9 (TS_len1 _))) (fun i9 _ => ?_); obtain ⟨P, cp⟩ := i9) | ((show VIdx _ _ _ _ _ _ _); first | refine VIdx.at_ rfl 0 rfl (by omega) ?_ | refine VIdx.at_ rfl 1 rfl (by omega) ?_ | refine VIdx.at_ rfl 2 rfl (by omega) ?_ | refine VIdx.at_ rfl 3 rfl (by omega) ?_ | refine VIdx.at_ rfl 4 rfl (by omega) ?_) | ((show VIdx _ _ _ _ _ _ _); apply VIdx.any; (focus ((repeat (first | exact At.here | apply At.there)); done)); (first | refine VIdxR.mk 0 rfl (by omega) ?_ | refine VIdxR.mk 1 rfl (by omega) ?_ | refine VIdxR.mk 2 rfl (by omega) ?_); intro gQ hA'; first | subst hA' | (cases hA')) | ((show VCut _ _ _ _ _ _ _); refine VCut.tail 1 rfl (by omega) (by omega) (Plain.some _ _) (fun B9 d9 hT9 _ => ?_)))))
    all_goals (conv => whnf)
    all_goals exact VRet.mk fun w' m => ⟨(A1, c1, A2, c2), trivial, rfl, m.sel (ks := [0, 1]) (by simp)⟩
  · clear hb
    refine calls_of_vcL (w0 := w0) tb_ok (args := [.agg (d.at A1 c1 A2 c2).toArray, .string (tx line)]) Tryz.func86 rfl m0 ?_
    (repeat' ((conv => whnf); first | refine go ?_ | (refine VSome.mk ?_; intro gQ hA'; first | subst hA' | cases hA' | (dsimp only at hA'; subst hA')) | refine And.intro ?_ ?_ | intro _ | (first | ((show VCall _ _ _ 44 _ _); refine VCall.ret (fun w1 m1 => hSp w1) (fun i hcap => ?_); obtain ⟨g9, c9⟩ := i; dsimp only at hcap) | ((show VCall _ _ _ 121 _ _); refine VCall.ret (fun w1 m1 => hN _ _ w1 (Seen.tail (B := _) (n := (x :: r).length) (k := 1) (Sees.any m1 fndA) hT9 (TS_len1 _))) (fun i9 _ => ?_); obtain ⟨P, cp⟩ := i9) | ((show VIdx _ _ _ _ _ _ _); first | refine VIdx.at_ rfl 0 rfl (by omega) ?_ | refine VIdx.at_ rfl 1 rfl (by omega) ?_ | refine VIdx.at_ rfl 2 rfl (by omega) ?_ | refine VIdx.at_ rfl 3 rfl (by omega) ?_ | refine VIdx.at_ rfl 4 rfl (by omega) ?_) | ((show VIdx _ _ _ _ _ _ _); apply VIdx.any; (focus ((repeat (first | exact At.here | apply At.there)); done)); (first | refine VIdxR.mk 0 rfl (by omega) ?_ | refine VIdxR.mk 1 rfl (by omega) ?_ | refine VIdxR.mk 2 rfl (by omega) ?_); intro gQ hA'; first | subst hA' | (cases hA')) | ((show VCut _ _ _ _ _ _ _); refine VCut.tail 1 rfl (by omega) (by omega) (Plain.some _ _) (fun B9 d9 hT9 _ => ?_)))))
    all_goals (conv => whnf)
    all_goals exact VRet.mk fun w' m => ⟨(A1, c1, A2, c2), trivial, rfl, m.sel (ks := [0, 1]) (by simp)⟩
set_option maxHeartbeats 16000000 in
theorem sRun_way_bad {w0 : Base} {w : World} (d : Co) (A1 : Option Addr) (c1 : Nat) (A2 : Option Addr) (c2 : Nat) (line : List UInt8) (hf : d.fit) (hl : line.length ≤ 1048575) (hq1 : ¬ line = wLevel) (hq2 : ¬ line = wWater) (y v z u : List UInt8) (hs : sps 32 line = [wArrive, y, v, z, u]) (hx : ∀ x ∈ [y, v, z, u], x.length ≤ 1048576) (hv1 : ¬ v = wUp) (hv2 : ¬ v = wDown) (hz : numZ [y, v, z, u] = none) (m0 : Mem w0 [.row (.slice A1 d.n c1) 96 3 d.n (BaS d.n d.ba), .row (.slice A2 d.m c2) 98 4 d.m (AwS d.m d.wa)] w) :
    Calls Tryz.prog 86 #[.agg (d.at A1 c1 A2 c2).toArray, .string (tx line)] w fun e w' => ∃ v, e = .returned v ∧ RetL (ι := Option Addr × Nat × Option Addr × Nat) (fun _ => True) (fun (P1, k1, P2, k2) => .tuple #[.agg ((((d, wAsk)).1 : Co).at P1 k1 P2 k2).toArray, .string (tx ((d, wAsk)).2)]) (fun (P1, k1, P2, k2) => [.row (.slice P1 (((d, wAsk)).1 : Co).n k1) 96 3 (((d, wAsk)).1 : Co).n (BaS (((d, wAsk)).1 : Co).n (((d, wAsk)).1 : Co).ba), .row (.slice P2 (((d, wAsk)).1 : Co).m k2) 98 4 (((d, wAsk)).1 : Co).m (AwS (((d, wAsk)).1 : Co).m (((d, wAsk)).1 : Co).wa)]) (fun _ => []) w0 v w' := by
  have hSp := fun w => l1SplitC_v line w (by omega)
  rw [hs] at hSp
  have hn_linewLevel : ¬ tx line = ({ data := #[108, 101, 118, 101, 108] } : ByteArray) := fun q => hq1 (tx_inj (q.trans (by rfl : _ = tx wLevel)))
  have hn_linewWater : ¬ tx line = ({ data := #[119, 97, 116, 101, 114] } : ByteArray) := fun q => hq2 (tx_inj (q.trans (by rfl : _ = tx wWater)))
  have q0 : (TS [wArrive, y, v, z, u])[mulS 0 1]? = some (.string (tx (wArrive))) := rfl
  have q1 : (TS [wArrive, y, v, z, u])[mulS 1 1]? = some (.string (tx (y))) := rfl
  have q2 : (TS [wArrive, y, v, z, u])[mulS 2 1]? = some (.string (tx (v))) := rfl
  have q3 : (TS [wArrive, y, v, z, u])[mulS 3 1]? = some (.string (tx (z))) := rfl
  have q4 : (TS [wArrive, y, v, z, u])[mulS 4 1]? = some (.string (tx (u))) := rfl
  have hlt : [wArrive, y, v, z, u].length = 5 := rfl
  have hn_vwUp : ¬ tx v = ({ data := #[117, 112] } : ByteArray) := fun q => hv1 (tx_inj (q.trans (by rfl : _ = tx wUp)))
  have hn_vwDown : ¬ tx v = ({ data := #[100, 111, 119, 110] } : ByteArray) := fun q => hv2 (tx_inj (q.trans (by rfl : _ = tx wDown)))
  have hw1 : ¬ tx wArrive = ({ data := #[102, 108, 111, 119] } : ByteArray) := by decide
  have hN := fun B c w hB => numbers_v B c [y, v, z, u] w (by show 4 ≤ 1048577; decide) hx hB
  rw [hz] at hN
  refine calls_of_vcL (w0 := w0) tb_ok (args := [.agg (d.at A1 c1 A2 c2).toArray, .string (tx line)]) Tryz.func86 rfl m0 ?_
  (repeat' ((conv => whnf); first | refine go ?_ | (refine VSome.mk ?_; intro gQ hA'; first | subst hA' | cases hA' | (dsimp only at hA'; subst hA')) | refine And.intro ?_ ?_ | intro _ | (first | ((show VCall _ _ _ 44 _ _); refine VCall.ret (fun w1 m1 => hSp w1) (fun i hcap => ?_); obtain ⟨g9, c9⟩ := i; dsimp only at hcap) | ((show VCall _ _ _ 121 _ _); refine VCall.ret (fun w1 m1 => hN _ _ w1 (Seen.tail (B := _) (n := [wArrive, y, v, z, u].length) (k := 1) (Sees.any m1 fndA) hT9 (TS_len1 _))) (fun i9 _ => ?_); obtain ⟨P, cp⟩ := i9)   | ((show VIdx _ _ _ _ _ _ _); first | refine VIdx.at_ rfl 0 rfl (by omega) ?_ | refine VIdx.at_ rfl 1 rfl (by omega) ?_ | refine VIdx.at_ rfl 2 rfl (by omega) ?_ | refine VIdx.at_ rfl 3 rfl (by omega) ?_ | refine VIdx.at_ rfl 4 rfl (by omega) ?_) | ((show VIdx _ _ _ _ _ _ _); apply VIdx.any; (focus ((repeat (first | exact At.here | apply At.there)); done)); (first | refine VIdxR.mk 0 rfl (by omega) ?_ | refine VIdxR.mk 1 rfl (by omega) ?_ | refine VIdxR.mk 2 rfl (by omega) ?_); intro gQ hA'; first | subst hA' | (cases hA')) | ((show VCut _ _ _ _ _ _ _); refine VCut.tail 1 rfl (by omega) (by omega) (Plain.some _ _) (fun B9 d9 hT9 _ => ?_)))))
  all_goals (conv => whnf)
  all_goals exact VRet.mk fun w' m => ⟨(A1, c1, A2, c2), trivial, rfl, m.sel (ks := [0, 1]) (by simp)⟩
set_option maxHeartbeats 16000000 in
theorem sRun_way_out {w0 : Base} {w : World} (d : Co) (A1 : Option Addr) (c1 : Nat) (A2 : Option Addr) (c2 : Nat) (line : List UInt8) (hf : d.fit) (hl : line.length ≤ 1048575) (hq1 : ¬ line = wLevel) (hq2 : ¬ line = wWater) (y v z u : List UInt8) (hs : sps 32 line = [wArrive, y, v, z, u]) (hx : ∀ x ∈ [y, v, z, u], x.length ≤ 1048576) (hv1 : ¬ v = wUp) (hv2 : ¬ v = wDown) {l : List Int} (hz : numZ [y, v, z, u] = some l) (m0 : Mem w0 [.row (.slice A1 d.n c1) 96 3 d.n (BaS d.n d.ba), .row (.slice A2 d.m c2) 98 4 d.m (AwS d.m d.wa)] w) :
    Calls Tryz.prog 86 #[.agg (d.at A1 c1 A2 c2).toArray, .string (tx line)] w fun e w' => ∃ v, e = .returned v ∧ RetL (ι := Option Addr × Nat × Option Addr × Nat) (fun _ => True) (fun (P1, k1, P2, k2) => .tuple #[.agg ((((d, wAsk)).1 : Co).at P1 k1 P2 k2).toArray, .string (tx ((d, wAsk)).2)]) (fun (P1, k1, P2, k2) => [.row (.slice P1 (((d, wAsk)).1 : Co).n k1) 96 3 (((d, wAsk)).1 : Co).n (BaS (((d, wAsk)).1 : Co).n (((d, wAsk)).1 : Co).ba), .row (.slice P2 (((d, wAsk)).1 : Co).m k2) 98 4 (((d, wAsk)).1 : Co).m (AwS (((d, wAsk)).1 : Co).m (((d, wAsk)).1 : Co).wa)]) (fun _ => []) w0 v w' := by
  have hSp := fun w => l1SplitC_v line w (by omega)
  rw [hs] at hSp
  have hn_linewLevel : ¬ tx line = ({ data := #[108, 101, 118, 101, 108] } : ByteArray) := fun q => hq1 (tx_inj (q.trans (by rfl : _ = tx wLevel)))
  have hn_linewWater : ¬ tx line = ({ data := #[119, 97, 116, 101, 114] } : ByteArray) := fun q => hq2 (tx_inj (q.trans (by rfl : _ = tx wWater)))
  have q0 : (TS [wArrive, y, v, z, u])[mulS 0 1]? = some (.string (tx (wArrive))) := rfl
  have q1 : (TS [wArrive, y, v, z, u])[mulS 1 1]? = some (.string (tx (y))) := rfl
  have q2 : (TS [wArrive, y, v, z, u])[mulS 2 1]? = some (.string (tx (v))) := rfl
  have q3 : (TS [wArrive, y, v, z, u])[mulS 3 1]? = some (.string (tx (z))) := rfl
  have q4 : (TS [wArrive, y, v, z, u])[mulS 4 1]? = some (.string (tx (u))) := rfl
  have hlt : [wArrive, y, v, z, u].length = 5 := rfl
  have hn_vwUp : ¬ tx v = ({ data := #[117, 112] } : ByteArray) := fun q => hv1 (tx_inj (q.trans (by rfl : _ = tx wUp)))
  have hn_vwDown : ¬ tx v = ({ data := #[100, 111, 119, 110] } : ByteArray) := fun q => hv2 (tx_inj (q.trans (by rfl : _ = tx wDown)))
  have hw1 : ¬ tx wArrive = ({ data := #[102, 108, 111, 119] } : ByteArray) := by decide
  have hN := fun B c w hB => numbers_v B c [y, v, z, u] w (by show 4 ≤ 1048577; decide) hx hB
  rw [hz] at hN
  refine calls_of_vcL (w0 := w0) tb_ok (args := [.agg (d.at A1 c1 A2 c2).toArray, .string (tx line)]) Tryz.func86 rfl m0 ?_
  (repeat' ((conv => whnf); first | refine go ?_ | (refine VSome.mk ?_; intro gQ hA'; first | subst hA' | cases hA' | (dsimp only at hA'; subst hA')) | refine And.intro ?_ ?_ | intro _ | (first | ((show VCall _ _ _ 44 _ _); refine VCall.ret (fun w1 m1 => hSp w1) (fun i hcap => ?_); obtain ⟨g9, c9⟩ := i; dsimp only at hcap) | ((show VCall _ _ _ 121 _ _); refine VCall.ret (fun w1 m1 => hN _ _ w1 (Seen.tail (B := _) (n := [wArrive, y, v, z, u].length) (k := 1) (Sees.any m1 fndA) hT9 (TS_len1 _))) (fun i9 _ => ?_); obtain ⟨P, cp⟩ := i9)   | ((show VIdx _ _ _ _ _ _ _); first | refine VIdx.at_ rfl 0 rfl (by omega) ?_ | refine VIdx.at_ rfl 1 rfl (by omega) ?_ | refine VIdx.at_ rfl 2 rfl (by omega) ?_ | refine VIdx.at_ rfl 3 rfl (by omega) ?_ | refine VIdx.at_ rfl 4 rfl (by omega) ?_) | ((show VIdx _ _ _ _ _ _ _); apply VIdx.any; (focus ((repeat (first | exact At.here | apply At.there)); done)); (first | refine VIdxR.mk 0 rfl (by omega) ?_ | refine VIdxR.mk 1 rfl (by omega) ?_ | refine VIdxR.mk 2 rfl (by omega) ?_); intro gQ hA'; first | subst hA' | (cases hA')) | ((show VCut _ _ _ _ _ _ _); refine VCut.tail 1 rfl (by omega) (by omega) (Plain.some _ _) (fun B9 d9 hT9 _ => ?_)))))
  all_goals (conv => whnf)
  all_goals exact VRet.mk fun w' m => ⟨(A1, c1, A2, c2), trivial, rfl, m.sel (ks := [0, 1]) (by simp)⟩
end Go.Proofs.YtadjhkehfklmnaaGreatDoor
namespace Go.Proofs.YtadjhkehfklmnaaGreatDoor
set_option linter.unusedSimpArgs false
set_option linter.unusedVariables false
open Go.RowKit
set_option maxRecDepth 10000
def isTab (g : Nat) : Prop := g = 1 ∨ g = 0 ∨ g = 6
/-- The library's variables hold what they should, and are not lent. -/
def Old2 (w0 : Base) : Prop := PT2 w0.w ∧ ∀ g, isTab g → g < w0.w.heap.size ∧ ¬ w0.lent g
theorem cell_heap {w w' : World} {g : Nat} (e : w'.heap[g]? = w.heap[g]?) {off : Nat} {u : Value} (h : w.cell? ⟨g, off, none⟩ = some u) : w'.cell? ⟨g, off, none⟩ = some u := by
  unfold World.cell? at h ⊢
  dsimp only at h ⊢
  rw [e]
  exact h
theorem PT2.move {w w' : World} (h : PT2 w) (e : ∀ g, isTab g → w'.heap[g]? = w.heap[g]?) : PT2 w' := by
  obtain ⟨h1, ⟨x, h2⟩, te, pe, h3⟩ := h
  refine ⟨?_, ⟨x, cell_heap (e _ (.inr (.inl rfl))) h2⟩, te, pe, cell_heap (e _ (.inr (.inr rfl))) h3⟩
  unfold PTab Lib.TabIs World.var? at h1 ⊢
  simp only [gPTab, Option.bind_some] at h1 ⊢
  rw [e _ (.inl rfl)]
  exact h1
section
variable {w0 : Base} {own : List Own} {w : World}
theorem Old2.now (h : Old2 w0) (m : Mem w0 own w) : PT2 w := h.1.move fun g hg => m.keeps.block g (h.2 g hg).1 (h.2 g hg).2
theorem Old2.lend (h : Old2 w0) (m : Mem w0 own w) (ks : List Nat) : Old2 (Base.lendL w (fixOf ks own)) := ⟨h.now m, fun g hg => ⟨Nat.lt_of_lt_of_le (h.2 g hg).1 m.keeps.size, fun hx => by
  obtain ⟨p, o, ho, hbl⟩ := hx
  obtain ⟨k, _, hk | hk⟩ := fix_get ho
  · rcases ((m.ok k o hk).lt g hbl).1 with h1 | h1
    · have := (h.2 g hg).1; omega
    · exact (h.2 g hg).2 h1
  · rw [hk] at hbl; cases hbl⟩⟩
theorem Old2.old {w : World} (h : PT2 w) : Old2 (Base.of w) := ⟨h, fun g hg => ⟨by
  obtain ⟨h1, ⟨x, h2⟩, te, pe, h3⟩ := h
  rcases hg with e | e | e
  · rw [e]; exact cell_lt (h1.cell gPTab 0 (by rw [Lib.pow10Tab_length]; omega))
  · rw [e]; exact cell_lt h2
  · rw [e]; exact cell_lt h3, fun x => x⟩⟩
end
end Go.Proofs.YtadjhkehfklmnaaGreatDoor
