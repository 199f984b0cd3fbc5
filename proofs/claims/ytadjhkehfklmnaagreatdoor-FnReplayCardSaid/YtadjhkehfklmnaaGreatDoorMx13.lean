/-
  Texts joined: how the calls that the law reaches are walked, and the plain laws behind them.
  Conditions: none beyond each statement's own premises.
-/
import Derived.Test.YtadjhkehfklmnaaGreatDoorMx12
import Derived.Laws.CopyRow
import Derived.Lib.AppendZerosOnto
import Derived.Lib.Overlaps
namespace Go.Proofs.YtadjhkehfklmnaaGreatDoor
set_option linter.unusedSimpArgs false
set_option linter.unusedVariables false
open Go.RowKit
set_option maxRecDepth 10000
theorem ids_take {f : Nat → Aw} {l : List Nat} {k : Nat} (h : k < l.length) : idsOf f (l.take (k + 1)) = idsOf f (l.take k) ++ [(f (nth l k)).id] := by
  unfold idsOf nth
  rw [List.take_add_one, List.getElem?_eq_getElem h, List.map_append, List.getD_eq_getElem?_getD, List.getElem?_eq_getElem h]
  rfl
set_option maxHeartbeats 8000000 in
theorem iOrdBest_v (d : Co) (A1 : Option Addr) (c1 : Nat) (A2 : Option Addr) (c2 : Nat) (x : List UInt8) (mi : Int) (w : World) (hs : d.lock.safe) (hg : aGood d.m d.wa) (h1 : 1 ≤ mi) (h2 : mi ≤ 60) (hx1 : ¬ x = wBound) (hx2 : ¬ x = wDelay) (hA : Seen w A2 (AwS d.m d.wa)) (ht : PTab w) :
    Calls Tryz.prog 151 #[.agg (d.at A1 c1 A2 c2).toArray, .string (tx x), .int .i64 mi] w (Post (.tuple #[.string (tx (ltx (idsOf d.wa (best d.m d.wa mi d.lock.high d.m []).1))), .bool true]) w) := by
  have hn := hg.2
  have hw1 : ¬ tx x = ({ data := #[98, 111, 117, 110, 100] } : ByteArray) := fun q => hx1 (tx_inj (q.trans (by rfl : _ = tx wBound)))
  have hw2 : ¬ tx x = ({ data := #[100, 101, 108, 97, 121] } : ByteArray) := fun q => hx2 (tx_inj (q.trans (by rfl : _ = tx wDelay)))
  refine post_of_vc ?_
  refine calls_of_vc tb_ok (args := [.agg (d.at A1 c1 A2 c2).toArray, .string (tx x), .int .i64 mi]) Tryz.func151 rfl ?_
  have hH := fun w => isHigh_v d.lock w hs
  have hL := fun w hA => iBest_v A2 d.m c2 d.wa d.lock.high mi w hg h1 h2 hA
  have hbi := best_in (f := d.wa) (hi := d.lock.high) hg (show 0 ≤ mi by omega) h2 d.m [] vld_nil (by simp)
  rcases hb : best d.m d.wa mi d.lock.high d.m [] with ⟨bl, bx⟩
  rw [hb] at hL hbi
  dsimp only at hbi
  obtain ⟨hv, hbl, _, _⟩ := hbi
  obtain ⟨_, hbm⟩ := vld_nd hv
  have hT := fun (B : Option Addr) (c : Nat) w hB ht => listText_v B c (idsOf d.wa bl) w (by simp [idsOf]; omega) (fun y hy => by
    obtain ⟨i, hi, rfl⟩ := List.mem_map.1 hy
    have := (hg.1 i (hbm i hi)).1
    omega) hB ht
  rw [show (idsOf d.wa bl).length = bl.length by simp [idsOf]] at hT
  rcases hh : d.lock.high with _ | _
  all_goals rw [hh] at hH hL
  all_goals ((repeat' ((conv => whnf); first | refine go ?_ | (refine VSome.mk ?_; intro gQ hA'; first | subst hA' | cases hA' | (dsimp only at hA'; subst hA')) | refine And.intro ?_ ?_ | intro _ | (first | ((show VCall _ _ _ 186 _ _); refine VCall.grow _ (fun w1 m1 => hH w1) ?_) | ((show VCall _ _ _ 187 _ _); refine VCall.ret (fun w1 m1 => hL w1 seenA) (fun i hi => ?_); obtain ⟨l, x, P, cp⟩ := i; cases hi) | ((show VDraw _ _ _ #[{ dst := some 32, op := _, type := _, pos := _, after := _, guard := _ }, _, _, _, _, _, _, _, _, _, _, _, _, _] _ _); refine VDraw.mk (.take 0 (.take 1 (.take 2 (.take 3 (.take 5 (.br 4 (.br 6 (.take 7 (.take 8 (.take 9 (.take 10 (.take 11 (.take 12 (.take 13 .done))))))) .done) .done)))))) [0] (by kernel_rfl) (by kernel_rfl) ?_)))))
  all_goals (conv => whnf)
  all_goals rename_i gb _ _ _ _ _
  all_goals (refine VLoop.mk (ι := Nat × Option Addr × Nat) [13, 15, 50, 51, 52, 53, 54, 55, 56, 57, 58, 59, 60, 61, 62, 63] (fun (k, Q, cq) => [(50, .int .i64 k), (13, .slice Q k cq)]) (fun (k, Q, cq) => [.blk gb 39 (d.at A1 c1 A2 c2), .row (.slice P bl.length cp) 3 1 bl.length (NL bl), .row (.slice Q k cq) 3 1 k (IL (idsOf d.wa (bl.take k)))]) (fun i => i.1 ≤ bl.length) (fun i => bl.length - i.1) (0, _, _) (Nat.zero_le _) ?_ (OwnLe.mk [0, 1, 2] (by simp) rfl) (fun i u hi => ?_))
  all_goals first | (((conv => whnf); repeat (first | exact trivial | refine ⟨rfl, ?_⟩ | refine ⟨congrArg (Value.int .i64) (by first | omega | assumption | exact Eq.symm (by assumption)), ?_⟩)); done) | skip
  all_goals (obtain ⟨k, Q, cq⟩ := i)
  all_goals (replace hi : k ≤ bl.length := hi)
  all_goals ((conv => whnf); try dsimp only)
  all_goals by_cases hlt : k < bl.length
  all_goals first
    | (have hx := hbm _ (nth_mem hlt)
       have a1 : (NL bl)[mulS k 1]? = some (.int .i64 (nth bl k : Nat)) := nth_len hlt _ (by rw [mulS_eq]; omega)
       obtain ⟨b1, off1, rfl, hb1, hr1, hi1, _⟩ := AwS.look hA hx
       have hids := ids_take (f := d.wa) hlt
       (repeat' ((conv => whnf); first | refine go ?_ | (refine VSome.mk ?_; intro gQ hA'; first | subst hA' | cases hA' | (dsimp only at hA'; subst hA')) | refine And.intro ?_ ?_ | intro _ | (first | ((show VApp _ _ _ _ _ _ _); (apply VApp.pushAny; (focus ((repeat (first | exact At.here | apply At.there)); done)); (focus ((repeat (first | exact At.here | apply At.there)); done)); refine VAppPush.mk rfl rfl (by omega) (fun A' c' => ?_))))))
       (conv => whnf)
       refine VNext.mk (k + 1, _, _) hlt (by show bl.length - (k + 1) < bl.length - k; omega) ?_ (OwnLe.mk [0, 1, 2] (by simp) (by dsimp only; rw [hids, IL_app]; rfl))
       ((conv => whnf); repeat (first | exact trivial | refine ⟨rfl, ?_⟩ | refine ⟨congrArg (Value.int .i64) (by first | omega | assumption | exact Eq.symm (by assumption)), ?_⟩))
       done)
    | (have hk2 : k = bl.length := by omega
       subst hk2
       rw [List.take_length]
       (repeat' ((conv => whnf); first | refine go ?_ | (refine VSome.mk ?_; intro gQ hA'; first | subst hA' | cases hA' | (dsimp only at hA'; subst hA')) | refine And.intro ?_ ?_ | intro _ | (first | ((show VCall _ _ _ 144 _ _); refine VCall.grow _ (fun w1 m1 => hT _ _ w1 (Sees.any m1 fndA) (ht.on m1)) ?_))))
       (conv => whnf); refine VRet.mk fun w' m => ?_
       exact ⟨rfl, m.keeps.below⟩)
end Go.Proofs.YtadjhkehfklmnaaGreatDoor
namespace Go.Proofs.YtadjhkehfklmnaaGreatDoor
set_option linter.unusedSimpArgs false
set_option linter.unusedVariables false
open Go.RowKit
set_option maxRecDepth 10000
section
variable {P : Program} {T : Tab} {w0 : Base} {own : List Own} {w : World}
theorem Mem.put {k g n c n2 size o : Nat} {e : TypeId} {xs vs ys : List Value} (m : Mem w0 own w) (hk : own[k]? = some (.row (.slice (some ⟨g, 0, none⟩) n c) e size n xs)) (h1 : vs.all (·.oneCell') = true) (ho : o ≤ xs.length) (hy : xs.take o ++ vs ++ xs.drop (o + vs.length) = ys) (hyl : ys.length = n2 * size) (hn2 : n2 ≤ c) :
    ∃ w', (storeCells ⟨g, o, none⟩ vs).run P w = .ok () w' ∧ Mem w0 (own.set k (.row (.slice (some ⟨g, 0, none⟩) n2 c) e size n2 ys)) w' := by
  have h0 := m.ok k _ hk
  obtain ⟨h00, h11, h2⟩ := h0
  rcases h2 with ⟨e1, _⟩ | ⟨g', cap, cur, e1, hb, hg, hn, hm, hs, ht⟩
  · cases e1
  cases e1
  have hcs : n2 * size ≤ c * size := Nat.mul_le_mul_right _ hn2
  have hyl2 : ys.length = o + vs.length + (xs.length - (o + vs.length)) := by
    rw [← hy, List.length_append, List.length_append, List.length_take, List.length_drop]
    omega
  have hcl : cur.toList.length = c * size := by rw [Array.length_toList]; exact hs
  have hxl : xs.length ≤ c * size := by rw [h11]; exact Nat.mul_le_mul_right _ hn
  refine ⟨_, run_storeCells_at P g o e vs 0 cur w hg (by omega) (all_one h1), ?_⟩
  rw [Nat.add_zero]
  refine m.turn hk ?_ ⟨fun b hb => h00 b hb, hyl, .inr ⟨g, c, _, rfl, Nat.zero_le _, setRow_heap w g cur _ e _ hg, hn2, hm, ?_, ?_⟩⟩ (fun b hb hlt => ?_) (fun b hb => .inl hb)
  · refine m.keeps.step rfl rfl rfl (by rw [setRow_size]; exact Nat.le_refl _) fun b hb hl => setRow_other _ _ _ _ fun e2 => ?_
    rcases h00 g rfl with q | q
    · omega
    · exact hl (e2 ▸ q)
  · rw [List.size_toArray, List.length_append, List.length_append, List.length_take, List.length_drop]
    omega
  · rw [← hyl, hyl2, ← hy]
    rw [← ht]
    have hn3 : n * size ≤ c * size := Nat.mul_le_mul_right _ hn
    have e2 : (cur.toList.take (n * size)).length = n * size := by rw [List.length_take, hcl]; omega
    have ho2 : o ≤ n * size := by omega
    rw [e2, List.take_take, Nat.min_eq_left ho2, List.drop_take]
    show List.take _ (List.take o cur.toList ++ vs ++ List.drop (o + vs.length) cur.toList) = _
    have e3 : (cur.toList.take o ++ vs).length = o + vs.length := by rw [List.length_append, List.length_take, hcl]; omega
    rw [List.take_append, e3, List.take_of_length_le (by omega), show o + vs.length + (n * size - (o + vs.length)) - (o + vs.length) = n * size - (o + vs.length) by omega]
  · exact setRow_other _ _ _ _ fun e2 => hb (by rw [e2]; rfl)
theorem copy_run (w : World) (dT sT ty elem : TypeId) (g o dLen dCap : Nat) (a : Addr) (sLen sCap : Nat) (cs : List Value) (i : TypeInfo) (hu : P.underlying dT = some (.slice elem)) (hi : P.info? elem = some i) (hn : cs.length = Nat.min sLen dLen * i.size)
    (hsrc : ∀ j v, cs[j]? = some v → w.cell? (a.add j) = some v) {w' : World} (hst : (storeCells ⟨g, o, none⟩ cs).run P w = .ok () w') :
    (Builtin.copy_ #[dT, sT] ty #[.slice (some ⟨g, o, none⟩) dLen dCap, .slice (some a) sLen sCap]).run P w = .ok (goInt (Nat.min sLen dLen)) w' := by
  have hl := run_loadCells_list (P := P) w a cs hsrc
  simp [Builtin.copy_, run_underlying hu, Builtin.lenOf, Builtin.firstCells, sizeOf, typeInfo, hi, ← hn, hl, hst]
theorem VRawB.copyAt (hT : TabOk P T) {K : Value → List Own → Prop} {t t' e : TypeId} {ti ei : TI} (hd : ti.desc = .slice e) (ht : T.ty t = some ti) (he : T.ty e = some ei) {k g n c o dLen dCap b off sLen sCap : Nat} {xs : List Value} (hk : own[k]? = some (.row (.slice (some ⟨g, 0, none⟩) n c) e ei.size n xs))
    (q : Nat) (hq : Nat.min sLen dLen = q) (vs : List Value) (hl : vs.length = q * ei.size) (hr : ∀ (j : Nat) u, vs[j]? = some u → Rd w0 own b (off + j) u) (h1 : vs.all (·.oneCell') = true) (n2 : Nat) (ys : List Value) (ho : o ≤ xs.length) (hy : xs.take o ++ vs ++ xs.drop (o + vs.length) = ys) (hyl : ys.length = n2 * ei.size) (hn2 : n2 ≤ c)
    (kk : K (goInt q) (own.set k (.row (.slice (some ⟨g, 0, none⟩) n2 c) e ei.size n2 ys))) : VRawB P w0 own .copy [t, t'] [.slice (some ⟨g, o, none⟩) dLen dCap, .slice (some ⟨b, off, none⟩) sLen sCap] K := by
  refine .mk (ι := Unit) (fun _ => True) (fun _ => goInt q) (fun _ => own.set k (.row (.slice (some ⟨g, 0, none⟩) n2 c) e ei.size n2 ys)) (fun ty cs w m => ?_) (fun _ _ => kk)
  obtain ⟨w', hst, m'⟩ := m.put (P := P) hk h1 ho hy hyl hn2
  obtain ⟨i, z, q1, q2, _, _, _⟩ := hT.info e _ he
  have hu := hT.und t _ ht
  rw [hd] at hu
  subst hq
  have h := copy_run (P := P) w t t' ty e g o dLen dCap ⟨b, off, none⟩ sLen sCap vs i hu q1 (by rw [q2]; exact hl) (fun j u hj => by rw [add_none]; exact (hr j u hj).cell m.toMemR) hst
  refine ⟨(), w', trivial, ?_, m'⟩
  show (builtin .copy #[t, t'] ty cs #[.slice (some ⟨g, o, none⟩) dLen dCap, .slice (some ⟨b, off, none⟩) sLen sCap]).run P w = _
  simp only [builtin, Sem.run_bind, h, Result.andThen_ok, Sem.run_pure]
theorem zerosB_one {zero : List Value} (h : zero.all (·.oneCell') = true) : ∀ n, (zerosB zero n).all (·.oneCell') = true
  | 0 => rfl
  | n + 1 => by rw [zerosB, List.all_append, h, zerosB_one h n]; rfl
theorem zeroCells_eq {zero : List Value} {cs : Array Value} (e : cs = zero.toArray) (h : 0 < zero.length) (n : Nat) : Builtin.zeroCells cs n = (zerosB zero n).toArray := by
  subst e
  rw [← zerosB_eq zero n h]
  unfold Builtin.zeroCells
  rw [List.size_toArray]
theorem VRawB.clearTail (hT : TabOk P T) {K : Value → List Own → Prop} {t e : TypeId} {ti ei : TI} (hd : ti.desc = .slice e) (ht : T.ty t = some ti) (he : T.ty e = some ei) (hs0 : 0 < ei.size) (hz1 : ei.zero.all (·.oneCell') = true) {k g n c o m d : Nat} {xs : List Value} (hk : own[k]? = some (.row (.slice (some ⟨g, 0, none⟩) n c) e ei.size n xs))
    (n2 : Nat) (ho : o = n2 * ei.size) (hm : n2 + m = n) (hm0 : 0 < m)
    (kk : K (.tuple #[]) (own.set k (.row (.slice (some ⟨g, 0, none⟩) n2 c) e ei.size n2 (xs.take (n2 * ei.size))))) : VRawB P w0 own .clear [t] [.slice (some ⟨g, o, none⟩) m d] K := by
  refine .mk (ι := Unit) (fun _ => True) (fun _ => .tuple #[]) (fun _ => own.set k (.row (.slice (some ⟨g, 0, none⟩) n2 c) e ei.size n2 (xs.take (n2 * ei.size)))) (fun ty cs w mm => ?_) (fun _ _ => kk)
  have hzl := hT.zl e _ he
  have h0 := mm.ok k _ hk
  have hxl : xs.length = n * ei.size := h0.2.1
  have hnc : n ≤ c := row_cap mm hk
  have hmul : n2 * ei.size + m * ei.size = n * ei.size := by rw [← Nat.add_mul, hm]
  have hvl : (zerosB ei.zero m).length = m * ei.size := by rw [zerosB_length, hzl]
  obtain ⟨w', hst, m'⟩ := mm.put (P := P) (n2 := n) hk (zerosB_one hz1 m) (o := o) (by omega) rfl (by rw [List.length_append, List.length_append, List.length_take, List.length_drop, hvl, hxl]; omega) hnc
  have m2 := m'.shrink (k := k) (n2 := n2) (get_set hk) (by omega)
  rw [List.set_set, show (xs.take o ++ zerosB ei.zero m ++ xs.drop (o + (zerosB ei.zero m).length)).take (n2 * ei.size) = xs.take (n2 * ei.size) by
    rw [List.append_assoc, List.take_append_of_le_length (by rw [List.length_take]; omega), List.take_take, ho, Nat.min_self]] at m2
  obtain ⟨z, hz, hr⟩ := hT.zv he w
  have hu := hT.und t _ ht
  rw [hd] at hu
  refine ⟨(), w', trivial, ?_, m2⟩
  show (builtin .clear #[t] ty cs #[.slice (some ⟨g, o, none⟩) m d]).run P w = _
  obtain ⟨m1, rfl⟩ : ∃ m1, m = m1 + 1 := ⟨m - 1, by omega⟩
  have hzc : (Builtin.zeroCells z.cells (m1 + 1)).toList = zerosB ei.zero (m1 + 1) := by rw [zeroCells_eq hz (by omega)]
  have h : (Builtin.clear_ #[t] ty #[.slice (some ⟨g, o, none⟩) (m1 + 1) d]).run P w = .ok (.tuple #[]) w' := by
    simp [Builtin.clear_, run_underlying hu, hr, hzc, hst]
  simp only [builtin, Sem.run_bind, h, Result.andThen_ok, Sem.run_pure]
theorem VRawB.growZeros (hT : TabOk P T) {K : Value → List Own → Prop} {t tn e : TypeId} {ti tj ei : TI} {kq kn : IntKind} (hd : ti.desc = .slice e) (ht : T.ty t = some ti) (hdn : tj.desc = .int kn) (htn : T.ty tn = some tj) (he : T.ty e = some ei) (hs0 : 0 < ei.size) (hb : ei.bytes ≤ 4096) {k g n c i q : Nat} {x : Int} {xs : List Value} (hk : own[k]? = some (.row (.slice (some ⟨g, 0, none⟩) n c) e ei.size n xs))
    (hx : x = (q : Int)) (hi : i ≤ n) (hq : 0 < q) (hc : c < i + q) (hm : i + q ≤ 1048576)
    (kk : ∀ g' c', i + q ≤ c' → K (.slice (some ⟨g', 0, none⟩) (i + q) c') (own ++ [.row (.slice (some ⟨g', 0, none⟩) (i + q) c') e ei.size (i + q) (xs.take (i * ei.size) ++ zerosB ei.zero q)])) : VRawB P w0 own .append [t, tn] [.slice (some ⟨g, 0, none⟩) i c, .int kq x] K := by
  subst hx
  refine .mk (ι := Nat × Nat) (fun i9 => i + q ≤ i9.2) (fun i9 => .slice (some ⟨i9.1, 0, none⟩) (i + q) i9.2) (fun i9 => own ++ [.row (.slice (some ⟨i9.1, 0, none⟩) (i + q) i9.2) e ei.size (i + q) (xs.take (i * ei.size) ++ zerosB ei.zero q)]) (fun ty cs w mm => ?_) (fun i9 h9 => kk _ _ h9)
  have hzl := hT.zl e _ he
  have hu := hT.und t _ ht
  rw [hd] at hu
  have hun := hT.und tn _ htn
  rw [hdn] at hun
  obtain ⟨ix, z, q1, q2, q3, q4, q5⟩ := hT.info e _ he
  have h0 := mm.ok k _ hk
  have hxl : xs.length = n * ei.size := h0.2.1
  have hni : i * ei.size ≤ n * ei.size := Nat.mul_le_mul_right _ hi
  have hol : (xs.take (i * ei.size)).length = i * ei.size := by rw [List.length_take]; omega
  have hcell : ∀ j u, (xs.take (i * ei.size))[j]? = some u → w.drew.cell? ((⟨g, 0, none⟩ : Addr).add j) = some u := fun j u hj => by
    rw [add_none]
    have hj2 : xs[j]? = some u := by
      rw [List.getElem?_take] at hj
      split at hj
      · exact hj
      · cases hj
    show w.cell? _ = _
    rw [Nat.zero_add]
    exact (Rd.row k hk hj2).cell mm.toMemR
  have hf := run_firstCells_some (P := P) w.drew ix.size i ⟨g, 0, none⟩ i c (xs.take (i * ei.size)) (by rw [hol, q2]) hcell
  have hnx := nextslicecap_le (need := i + q) (old := c) hc
  have hfit : Builtin.nextslicecap (i + q) c * ix.bytes ≤ 281474976710656 := by
    have : Builtin.nextslicecap (i + q) c * ix.bytes ≤ 2097152 * 4096 := Nat.mul_le_mul (by omega) (by omega)
    omega
  have hfit2 : q * ix.bytes ≤ 281474976710656 := by
    have : q * ix.bytes ≤ 1048576 * 4096 := Nat.mul_le_mul (by omega) (by omega)
    omega
  have hr := Lib.run_append_grow_zeros (P := P) w t tn ty e ix z kq kn hu hun q1 q4 (some ⟨g, 0, none⟩) i c (xs.take (i * ei.size)) hf q hq (by omega) hc (by omega) hfit2 hfit
  have hge := grownCap_ge w (i + q) c e
  have hle := grownCap_le_maxLen w (i + q) c e (by unfold maxLen; omega)
  generalize grownCap w (i + q) c e = cc at *
  rw [zeroCells_eq q5 (by omega), zeroCells_eq q5 (by omega), List.append_toArray, List.append_toArray] at hr
  have m1 := mm.drew.alloc e (xs.take (i * ei.size) ++ zerosB ei.zero q ++ zerosB ei.zero (cc - (i + q)))
  have hcl : (xs.take (i * ei.size) ++ zerosB ei.zero q ++ zerosB ei.zero (cc - (i + q))).length = cc * ei.size := by
    rw [List.length_append, List.length_append, hol, zerosB_length, zerosB_length, hzl, ← Nat.add_mul, ← Nat.add_mul]
    congr 1
    omega
  have hsz : w.drew.heap.size = w.heap.size := rfl
  have hlast : ∀ o : Own, (own ++ [o])[own.length]? = some o := fun o => by rw [List.getElem?_append_right (Nat.le_refl _), Nat.sub_self]; rfl
  have e9 : ∀ x y : Own, (own ++ [x]).set own.length y = own ++ [y] := fun x y => by simp
  have m2 := Mem.turnRow (hlast _) hcl hle m1
  rw [e9] at m2
  have m3 := m2.shrink (hlast _) hge
  rw [e9, List.take_append_of_le_length (by rw [List.length_append, hol, zerosB_length, hzl, Nat.add_mul]; exact Nat.le_refl _), List.take_of_length_le (by rw [List.length_append, hol, zerosB_length, hzl, Nat.add_mul]; exact Nat.le_refl _)] at m3
  refine ⟨(w.heap.size, cc), _, hge, ?_, m3⟩
  show (builtin .append #[t, tn] ty cs #[.slice (some ⟨g, 0, none⟩) i c, .int kq q]).run P w = _
  simp only [builtin, Sem.run_bind, hr, Result.andThen_ok, Sem.run_pure]
  rfl
end
end Go.Proofs.YtadjhkehfklmnaaGreatDoor
namespace Go.Proofs.YtadjhkehfklmnaaGreatDoor
set_option linter.unusedSimpArgs false
set_option linter.unusedVariables false
open Go.RowKit
set_option maxRecDepth 10000
set_option maxHeartbeats 1600000 in
theorem delC_v (B : Option Addr) (g c : Nat) (L : List Int) (a : Aw) (w : World) (hl : 0 < L.length) (hb : Seen w (some ⟨g, 0, none⟩) [.slice B L.length c]) (hB : Seen w B (IL L)) :
    Calls Tryz.prog 150 #[.agg a.cells.toArray, .pointer (some ⟨g, 0, none⟩)] w (Post (.bool (tr (a.id = a0 L 0))) w) := by
  obtain ⟨b0, off0, e0, hb0, hc0⟩ := hb 0 _ rfl
  cases e0
  obtain ⟨b1, off1, rfl, hb1, hc1⟩ := IL_lookM hB hl
  change w.cell? _ = some (.int .i64 (a0 L 0)) at hc1
  refine post_of_vc ?_
  refine calls_of_vc tb_ok (args := [.agg a.cells.toArray, .pointer (some ⟨g, 0, none⟩)]) Tryz.func150 rfl ?_
  by_cases h : a.id = a0 L 0
  · rw [tr_yes h]
    (repeat' ((conv => whnf); first | refine go ?_ | (refine VSome.mk ?_; intro gQ hA'; first | subst hA' | cases hA' | (dsimp only at hA'; subst hA')) | refine And.intro ?_ ?_ | intro _ | (first | ((show VDraw _ _ _ _ _ _); refine VDraw.mk (.take 0 (.take 1 (.take 2 (.take 3 (.take 4 (.take 5 (.take 6 .done))))))) [0] (by kernel_rfl) (by kernel_rfl) ?_))))
    all_goals ((conv => whnf); refine VRet.mk fun w' m => ?_)
    all_goals exact ⟨congrArg Value.bool (by first | exact decide_eq_true h | rfl), m.keeps.below⟩
  · rw [tr_no h]
    (repeat' ((conv => whnf); first | refine go ?_ | (refine VSome.mk ?_; intro gQ hA'; first | subst hA' | cases hA' | (dsimp only at hA'; subst hA')) | refine And.intro ?_ ?_ | intro _ | (first | ((show VDraw _ _ _ _ _ _); refine VDraw.mk (.take 0 (.take 1 (.take 2 (.take 3 (.take 4 (.take 5 (.take 6 .done))))))) [0] (by kernel_rfl) (by kernel_rfl) ?_))))
    all_goals ((conv => whnf); refine VRet.mk fun w' m => ?_)
    all_goals exact ⟨congrArg Value.bool (by first | exact decide_eq_false h | rfl), m.keeps.below⟩
def ixO (o : Option Nat) : Int := match o with
  | some i => i
  | none => -1
set_option maxHeartbeats 4000000 in
theorem idxF_v (A B : Option Addr) (n cp g c : Nat) (f : Nat → Aw) (L : List Int) (w : World) (hn : n ≤ 1048576) (hl : 0 < L.length) (hb : Seen w (some ⟨g, 0, none⟩) [.slice B L.length c]) (hB : Seen w B (IL L)) (hA : Seen w A (AwS n f)) :
    Calls Tryz.prog 184 #[.slice A n cp, .func (.func 150) #[] #[.pointer (some ⟨g, 0, none⟩)]] w (Post (.int .i64 (ixO (fnd f (a0 L 0) n))) w) := by
  refine post_of_vc ?_
  refine calls_of_vc tb_ok (args := [.slice A n cp, .func (.func 150) #[] #[.pointer (some ⟨g, 0, none⟩)]]) Tryz.func184 rfl ?_
  (repeat' ((conv => whnf); first | refine go ?_ | (refine VSome.mk ?_; intro gQ hA'; first | subst hA' | cases hA' | (dsimp only at hA'; subst hA')) | refine And.intro ?_ ?_ | intro _))
  (conv => whnf)
  refine VLoop.mk (ι := Nat) [4, 5, 8, 9, 10, 11, 12, 13, 14, 15, 16, 17, 18] (fun k => [(8, .int .i64 k)]) (fun _ => []) (fun k => k ≤ n ∧ ∀ j, j < k → ¬ (f j).id = a0 L 0) (fun k => n - k) 0 ⟨Nat.zero_le _, fun j hj => absurd hj (Nat.not_lt_zero j)⟩ ?_ (OwnLe.mk [] (by simp) rfl) (fun k u hk => ?_)
  · ((conv => whnf); repeat (first | exact trivial | refine ⟨rfl, ?_⟩ | refine ⟨congrArg (Value.int .i64) (by first | omega | assumption | exact Eq.symm (by assumption)), ?_⟩))
  obtain ⟨hk, hno⟩ := hk
  by_cases hlt : k < n
  · obtain ⟨b1, off1, rfl, hb1, hr1, _⟩ := AwS.look hA hlt
    have hC := fun w hb hB => delC_v B g c L (f k) w hl hb hB
    have hw : ∀ {w1 : World} {own : List Own}, Mem (Base.of w) own w1 → Seen w1 (some ⟨g, 0, none⟩) [.slice B L.length c] ∧ Seen w1 B (IL L) := fun m1 => ⟨hb.below m1.keeps.below, hB.below m1.keeps.below⟩
    by_cases hx : (f k).id = a0 L 0
    · have hf := fnd_is hlt hx hno
      rw [tr_yes hx] at hC
      rw [hf]
      (repeat' ((conv => whnf); first | refine go ?_ | (refine VSome.mk ?_; intro gQ hA'; first | subst hA' | cases hA' | (dsimp only at hA'; subst hA')) | refine And.intro ?_ ?_ | intro _ | (first | ((show VCall _ _ _ 150 _ _); refine VCall.grow _ (fun w1 m1 => hC w1 (hw m1).1 (hw m1).2) ?_))))
      all_goals ((conv => whnf); refine VRet.mk fun w' m => ?_)
      all_goals exact ⟨rfl, m.keeps.below⟩
    · rw [tr_no hx] at hC
      (repeat' ((conv => whnf); first | refine go ?_ | (refine VSome.mk ?_; intro gQ hA'; first | subst hA' | cases hA' | (dsimp only at hA'; subst hA')) | refine And.intro ?_ ?_ | intro _ | (first | ((show VCall _ _ _ 150 _ _); refine VCall.grow _ (fun w1 m1 => hC w1 (hw m1).1 (hw m1).2) ?_))))
      all_goals (conv => whnf)
      all_goals (refine VNext.mk (k + 1) ⟨hlt, fun j hj => ?_⟩ (by omega) ?_ (OwnLe.mk [] (by simp) rfl))
      · rcases Nat.lt_or_ge j k with h | h
        · exact hno j h
        · obtain rfl : j = k := by omega
          exact hx
      · ((conv => whnf); repeat (first | exact trivial | refine ⟨rfl, ?_⟩ | refine ⟨congrArg (Value.int .i64) (by first | omega | assumption | exact Eq.symm (by assumption)), ?_⟩))
  · obtain rfl : k = n := by omega
    have hf : fnd f (a0 L 0) k = none := by
      cases e : fnd f (a0 L 0) k with
      | none => rfl
      | some i => exact absurd (fnd_some e).2.1 (hno i (fnd_some e).1)
    rw [hf]
    (repeat' ((conv => whnf); first | refine go ?_ | (refine VSome.mk ?_; intro gQ hA'; first | subst hA' | cases hA' | (dsimp only at hA'; subst hA')) | refine And.intro ?_ ?_ | intro _))
    (conv => whnf); refine VRet.mk fun w' m => ?_
    exact ⟨rfl, m.keeps.below⟩
def mvF (f : Nat → Aw) (i j r : Nat) : Aw := if i ≤ r ∧ r + 1 < j then f (r + 1) else f r
theorem mvF_0 (f : Nat → Aw) (i r : Nat) : mvF f i (i + 1) r = f r := by unfold mvF; rw [if_neg (by omega)]
theorem mvF_at (f : Nat → Aw) (i j : Nat) : mvF f i j j = f j := by unfold mvF; rw [if_neg (by omega)]
theorem mvF_suc (f : Nat → Aw) {i j : Nat} (h : i < j) (r : Nat) : upd (mvF f i j) (j - 1) (f j) r = mvF f i (j + 1) r := by
  unfold upd mvF
  by_cases h1 : r = j - 1
  · subst h1
    rw [if_pos rfl, if_pos (by omega), show j - 1 + 1 = j by omega]
  · rw [if_neg h1]
    by_cases h2 : i ≤ r ∧ r + 1 < j
    · rw [if_pos h2, if_pos (by omega)]
    · rw [if_neg h2, if_neg (by omega)]
theorem mvF_end (f : Nat → Aw) {i n r : Nat} (h : r < n - 1) : mvF f i n r = delF f i r := by
  unfold mvF delF
  by_cases h1 : r < i
  · rw [if_neg (by omega), if_pos h1]
  · rw [if_pos (by omega), if_neg h1]
end Go.Proofs.YtadjhkehfklmnaaGreatDoor
namespace Go.Proofs.YtadjhkehfklmnaaGreatDoor
set_option linter.unusedSimpArgs false
set_option linter.unusedVariables false
open Go.RowKit
set_option maxRecDepth 10000
set_option maxHeartbeats 4000000 in
theorem delNo_v {w0 : Base} {w : World} (P B : Option Addr) (n cp g c : Nat) (f : Nat → Aw) (L : List Int) (hn : n ≤ 6) (hl : 0 < L.length) (hbx : OldSeen w0 (some ⟨g, 0, none⟩) [.slice B L.length c]) (hB : OldSeen w0 B (IL L)) (hf : fnd f (a0 L 0) n = none) (m0 : Mem w0 [.row (.slice P n cp) 98 4 n (AwS n f)] w) :
    Calls Tryz.prog 149 #[.slice P n cp, .func (.func 150) #[] #[.pointer (some ⟨g, 0, none⟩)]] w fun e w' => ∃ v, e = .returned v ∧ RetL (ι := Unit) (fun _ => True) (fun _ => .slice P n cp) (fun _ => [.row (.slice P n cp) 98 4 n (AwS n f)]) (fun _ => []) w0 v w' := by
  have hI := fun w hb hB hA => idxF_v P B n cp g c f L w (by omega) hl hb hB hA
  rw [hf, show ixO none = -1 from rfl] at hI
  refine calls_of_vcL (w0 := w0) tb_ok (args := [.slice P n cp, .func (.func 150) #[] #[.pointer (some ⟨g, 0, none⟩)]]) Tryz.func149 rfl m0 ?_
  (repeat' ((conv => whnf); first | refine go ?_ | (refine VSome.mk ?_; intro gQ hA'; first | subst hA' | cases hA' | (dsimp only at hA'; subst hA')) | refine And.intro ?_ ?_ | intro _ | (first | ((show VCall _ _ _ 184 _ _); refine VCall.grow _ (fun w1 m1 => hI w1 (hbx.now m1) (hB.now m1) (Sees.any m1 fndA)) ?_))))
  all_goals (conv => whnf)
  all_goals exact VRet.mk fun w' m => ⟨(), trivial, rfl, m.sel (ks := [0]) (by simp)⟩
set_option maxHeartbeats 8000000 in
theorem delYes_v {w0 : Base} {w : World} (P B : Option Addr) (n cp g c i : Nat) (f : Nat → Aw) (L : List Int) (hg : aGood n f) (hl : 0 < L.length) (hbx : OldSeen w0 (some ⟨g, 0, none⟩) [.slice B L.length c]) (hB : OldSeen w0 B (IL L)) (hf : fnd f (a0 L 0) n = some i) (m0 : Mem w0 [.row (.slice P n cp) 98 4 n (AwS n f)] w) :
    Calls Tryz.prog 149 #[.slice P n cp, .func (.func 150) #[] #[.pointer (some ⟨g, 0, none⟩)]] w fun e w' => ∃ v, e = .returned v ∧ RetL (ι := Unit) (fun _ => True) (fun _ => .slice P (n - 1) cp) (fun _ => [.row (.slice P (n - 1) cp) 98 4 (n - 1) (AwS (n - 1) (delF f i))]) (fun _ => []) w0 v w' := by
  have hn := hg.2
  obtain ⟨hi1, hi2, hi3⟩ := fnd_some hf
  obtain ⟨gP, rfl⟩ := row_some m0 (k := 0) rfl (by omega)
  have hcp := row_cap m0 (k := 0) rfl
  have hI := fun w hb hB hA => idxF_v (some ⟨gP, 0, none⟩) B n cp g c f L w (by omega) hl hb hB hA
  rw [hf, show ixO (some i) = (i : Int) from rfl] at hI
  have hC := fun a w hb hB => delC_v B g c L a w hl hb hB
  refine calls_of_vcL (w0 := w0) tb_ok (args := [.slice (some ⟨gP, 0, none⟩) n cp, .func (.func 150) #[] #[.pointer (some ⟨g, 0, none⟩)]]) Tryz.func149 rfl m0 ?_
  (repeat' ((conv => whnf); first | refine go ?_ | (refine VSome.mk ?_; intro gQ hA'; first | subst hA' | cases hA' | (dsimp only at hA'; subst hA')) | refine And.intro ?_ ?_ | intro _ | (first | ((show VCall _ _ _ 184 _ _); refine VCall.grow _ (fun w1 m1 => hI w1 (hbx.now m1) (hB.now m1) (Sees.any m1 fndA)) ?_))))
  (conv => whnf)
  refine VLoop.mk (ι := Nat) [5, 6, 7, 16, 17, 18, 19, 20, 21, 22, 23, 24, 25, 26, 27, 28, 29, 30, 31, 32, 33, 34, 35] (fun d => [(6, .int .i64 ((d : Int) + 1)), (5, .int .i64 d)]) (fun d => [.row (.slice (some ⟨gP, 0, none⟩) n cp) 98 4 n (AwS n (mvF f i (d + 1)))]) (fun d => i ≤ d ∧ d + 1 ≤ n) (fun d => n - d) i ⟨Nat.le_refl _, hi1⟩ ?_ (OwnLe.mk [0] (by simp) (by rw [AwS.congr (g := f) fun r _ => mvF_0 f i r]; rfl)) (fun d u hd => ?_)
  · ((conv => whnf); repeat (first | exact trivial | refine ⟨rfl, ?_⟩ | refine ⟨congrArg (Value.int .i64) (by first | omega | assumption | exact Eq.symm (by assumption)), ?_⟩))
  obtain ⟨hd1, hd2⟩ := hd
  by_cases hlt : d + 1 < n
  · have hx : (d : Int) + 1 = ((d + 1 : Nat) : Int) := by omega
    have hne : ¬ (f (d + 1)).id = a0 L 0 := by have := hg.lt (i := i) (j := d + 1) (by omega) hlt; omega
    have hC1 := hC (f (d + 1))
    rw [tr_no hne] at hC1
    have hel : ∀ (j : Nat) u, (f (d + 1)).cells[j]? = some u → (AwS n (mvF f i (d + 1)))[mulS (d + 1) 4 + j]? = some u := fun j u hj => by
      have hj4 : j < 4 := (List.getElem?_eq_some_iff.1 hj).1
      unfold AwS
      rw [mulS_eq, rowsN_get (f := fun r => (mvF f i (d + 1) r).cells) (s := 4) (fun _ => rfl) n (d + 1) j hlt hj4, mvF_at]
      exact hj
    have hst : setRange (AwS n (mvF f i (d + 1))) (d * 4) (f (d + 1)).cells = AwS n (mvF f i (d + 1 + 1)) := by
      unfold AwS
      rw [rowsN_set Aw.cells (s := 4) (fun _ => rfl) (mvF f i (d + 1)) (f (d + 1)) (by omega)]
      exact rowsN_congr fun r _ => by rw [← mvF_suc f (show i < d + 1 by omega)]; rfl
    (repeat' ((conv => whnf); first | refine go ?_ | (refine VSome.mk ?_; intro gQ hA'; first | subst hA' | cases hA' | (dsimp only at hA'; subst hA')) | refine And.intro ?_ ?_ | intro _ | (first | ((show VCall _ _ _ 150 _ _); refine VCall.grow _ (fun w1 m1 => hC1 w1 (hbx.now m1) (hB.now m1)) ?_) | ((show VLoadN _ _ _ _ _ _); refine VLoadN.row (vs := (f (d + 1)).cells) 0 rfl rfl (fun j u hj => hel j u hj) ?_) | ((show VStore _ _ _ _ _ _); refine VStore.rowAt 0 (d * 4) (by show mulS d 4 = d * 4; rw [mulS_eq]) rfl rfl (by rw [AwS.len]; show d * 4 + 4 ≤ n * 4; omega) rfl ?_))))
    all_goals (conv => whnf)
    all_goals (refine VNext.mk (d + 1) ⟨by omega, by omega⟩ (by omega) ?_ (OwnLe.mk [0] (by simp) (by rw [← hst]; rfl)); ((conv => whnf); repeat (first | exact trivial | refine ⟨rfl, ?_⟩ | refine ⟨congrArg (Value.int .i64) (by first | omega | assumption | exact Eq.symm (by assumption)), ?_⟩)))
  · obtain rfl : n = d + 1 := by omega
    have hfin : (AwS (d + 1) (mvF f i (d + 1))).take (d * 4) = AwS d (delF f i) := by
      unfold AwS
      rw [rowsN_take (f := fun r => (mvF f i (d + 1) r).cells) (s := 4) (fun _ => rfl) (Nat.le_succ d)]
      exact rowsN_congr fun r hr => by rw [mvF_end f (i := i) (n := d + 1) (show r < d + 1 - 1 from hr)]
    (repeat' ((conv => whnf); first | refine go ?_ | (refine VSome.mk ?_; intro gQ hA'; first | subst hA' | cases hA' | (dsimp only at hA'; subst hA')) | refine And.intro ?_ ?_ | intro _ | (first | ((show VCut _ _ _ _ none _ _); refine VCut.head d rfl (by omega) ?_) | ((show VCut _ _ _ _ _ _ _); refine VCut.lt gP 0 d (d + 1) rfl rfl rfl (by omega) (by omega) (by omega) ?_) | ((show VRawB _ _ _ _ _ _ _); refine VRawB.clearTail tb_ok rfl rfl rfl (by decide) rfl (k := 0) rfl d (by show 0 + mulS d 4 = d * 4; rw [mulS_eq]; omega) (by omega) (by omega) ?_))))
    all_goals (conv => whnf)
    exact VRet.mk fun w' m => ⟨(), trivial, rfl, by
      have m2 := m.sel (ks := [0]) (by simp)
      change Mem w0 [.row (.slice (some ⟨gP, 0, none⟩) d cp) 98 4 d ((AwS (d + 1) (mvF f i (d + 1))).take (d * 4))] w' at m2
      rw [hfin] at m2
      exact m2⟩
end Go.Proofs.YtadjhkehfklmnaaGreatDoor
namespace Go.Proofs.YtadjhkehfklmnaaGreatDoor
set_option linter.unusedSimpArgs false
set_option linter.unusedVariables false
open Go.RowKit
set_option maxRecDepth 10000
section
variable {α : Type}
theorem lst_room {xs L2 ac : List α} {p q : Nat} (h2 : L2 = xs.drop p) (hp : p + q ≤ xs.length) (hq : ac.length = q) :
    (xs.take (p + q) ++ L2 ++ xs.drop (p + q + L2.length)).take p ++ ac ++ (xs.take (p + q) ++ L2 ++ xs.drop (p + q + L2.length)).drop (p + ac.length) = xs.take p ++ ac ++ xs.drop p := by
  have e1 : (xs.take (p + q)).length = p + q := by rw [List.length_take]; omega
  have e2 : L2.length = xs.length - p := by rw [h2, List.length_drop]
  have e3 : xs.drop (p + q + L2.length) = [] := List.drop_eq_nil_of_le (by omega)
  have e4 : (xs.take (p + q) ++ L2).drop (p + q) = L2 := by
    conv => lhs; arg 1; rw [← e1]
    exact List.drop_left
  rw [e3, List.append_nil, List.take_append_of_le_length (by omega), List.take_take, Nat.min_eq_left (by omega), hq, e4, h2]
theorem lst_grow {L1 Z L2 ac : List α} {p q : Nat} (h1 : L1.length = p) (hz : Z.length = q + L2.length) (hq : ac.length = q) :
    ((L1 ++ Z).take p ++ ac ++ (L1 ++ Z).drop (p + ac.length)).take (p + q) ++ L2 ++ ((L1 ++ Z).take p ++ ac ++ (L1 ++ Z).drop (p + ac.length)).drop (p + q + L2.length) = L1 ++ ac ++ L2 := by
  have e1 : (L1 ++ Z).take p = L1 := by rw [← h1]; exact List.take_left
  have e2 : (L1 ++ ac).length = p + q := by rw [List.length_append]; omega
  have e3 : (L1 ++ ac ++ (L1 ++ Z).drop (p + ac.length)).drop (p + q + L2.length) = [] := List.drop_eq_nil_of_le (by
    simp only [List.length_append, List.length_drop]
    omega)
  rw [e1, e3, List.append_nil, ← e2, List.take_left]
end
theorem ins_row (n k : Nat) (f : Nat → Aw) (a : Aw) (hk : k ≤ n) : (AwS n f).take (k * 4) ++ a.cells ++ (AwS n f).drop (k * 4) = AwS (n + 1) (insF f k a) := by
  unfold AwS
  exact rows_ins Aw.cells (fun _ => rfl) f a hk
theorem VRawF.apart {w0 : Base} {own : List Own} {K : Value → List Own → Prop} {k j g gv c n o la ca lb cb : Nat} {xs cs : List Value} (hk : own[k]? = some (.row (.slice (some ⟨g, 0, none⟩) n c) 98 4 n xs)) (hj : own[j]? = some (.blk gv 98 cs)) (hkj : k ≠ j) (hc : 0 < c) (hcs : 0 < cs.length) (kk : K (.bool false) own) :
    VRawF Tryz.prog w0 own 215 [.slice (some ⟨gv, 0, none⟩) la ca, .slice (some ⟨g, o, none⟩) lb cb] K := by
  refine .mk (ι := Unit) (fun _ => True) (fun _ => .bool false) (fun _ => own) (fun w m => ⟨(), w, trivial, ?_, m⟩) (fun _ _ => kk)
  have h1 := m.ok k _ hk
  have h2 := m.ok j _ hj
  have hne : gv ≠ g := fun e => m.sep k j _ _ g hkj hk hj rfl (by rw [e]; rfl)
  obtain ⟨_, hxl, h3⟩ := h1
  rcases h3 with ⟨e1, _⟩ | ⟨g', cap, cur, e1, _, hg, hn, _, hs, _⟩
  · cases e1
  cases e1
  have hv := h2.2
  obtain ⟨z, hz⟩ : ∃ z : Nat, ∀ w, (Go.sizeOf 98).run Tryz.prog w = .ok z w := ⟨_, fun w => TabOk.sz tb_ok (t := 98) rfl w⟩
  show (callFunc 215 #[.slice (some ⟨gv, 0, none⟩) la ca, .slice (some ⟨g, o, none⟩) lb cb]).run Tryz.prog w = _
  rw [run_callFunc_extern Tryz.func215 (by kernel_rfl) (by kernel_rfl) (by kernel_rfl) (e := Extern.SlicesOverlaps.overlaps #[36, 36] #[4]) (by kernel_rfl),
    Lib.run_overlaps_apart w 36 4 98 Tryz.underlying36 z hz ⟨gv, 0, none⟩ ⟨g, o, none⟩ la ca lb cb hne 98 98 cs.length (c * 4) (by unfold World.shape?; rw [hv]; simp) (by unfold World.shape?; rw [hg]; simp [hs]) (by omega) (by unfold World.frozen?; rw [hv]; simp) (by unfold World.frozen?; rw [hv]; simp)]
  rfl
theorem VRawB.growTo {P : Program} {T : Tab} (hT : TabOk P T) {w0 : Base} {own : List Own} {K : Value → List Own → Prop} {t tn e : TypeId} {ti tj ei : TI} {kq kn : IntKind} (hd : ti.desc = .slice e) (ht : T.ty t = some ti) (hdn : tj.desc = .int kn) (htn : T.ty tn = some tj) (he : T.ty e = some ei) (hs0 : 0 < ei.size) (hb : ei.bytes ≤ 4096) {k g n c i q : Nat} {x : Int} {xs : List Value} (hk : own[k]? = some (.row (.slice (some ⟨g, 0, none⟩) n c) e ei.size n xs))
    (N : Nat) (hN : i + q = N) (hx : x = (q : Int)) (hi : i ≤ n) (hq : 0 < q) (hc : c < N) (hm : N ≤ 1048576)
    (kk : ∀ g' c', N ≤ c' → K (.slice (some ⟨g', 0, none⟩) N c') (own ++ [.row (.slice (some ⟨g', 0, none⟩) N c') e ei.size N (xs.take (i * ei.size) ++ zerosB ei.zero q)])) : VRawB P w0 own .append [t, tn] [.slice (some ⟨g, 0, none⟩) i c, .int kq x] K := by
  subst hN
  exact VRawB.growZeros hT hd ht hdn htn he hs0 hb hk hx hi hq hc hm kk
theorem VRawB.capOf {P : Program} {T : Tab} (hT : TabOk P T) {w0 : Base} {own : List Own} {K : Value → List Own → Prop} {t e : TypeId} {ti : TI} (hd : ti.desc = .slice e) (ht : T.ty t = some ti) {A : Option Addr} {n c : Nat} (kk : K (.int .i64 c) own) : VRawB P w0 own .cap [t] [.slice A n c] K := by
  refine .mk (ι := Unit) (fun _ => True) (fun _ => .int .i64 c) (fun _ => own) (fun ty cs w m => ⟨(), w, trivial, ?_, m⟩) (fun _ _ => kk)
  have hu := hT.und t _ ht
  rw [hd] at hu
  have h : (Builtin.cap_ #[t] ty #[.slice A n c]).run P w = .ok (.int .i64 c) w := by simp [Builtin.cap_, run_underlying hu, goInt]
  show (builtin .cap #[t] ty cs #[.slice A n c]).run P w = _
  simp only [builtin, Sem.run_bind, h, Result.andThen_ok, Sem.run_pure]
set_option maxHeartbeats 8000000 in
theorem insert_v {w0 : Base} {w : World} (P : Option Addr) (n cp gv k : Nat) (f : Nat → Aw) (a : Aw) (hn : n ≤ 6) (hk : k ≤ n) (m0 : Mem w0 [.row (.slice P n cp) 98 4 n (AwS n f), .blk gv 98 a.cells] w) :
    Calls Tryz.prog 183 #[.slice P n cp, .int .i64 k, .slice (some ⟨gv, 0, none⟩) 1 1] w fun e w' => ∃ v, e = .returned v ∧ RetL (ι := Nat × Nat) (fun i => n + 1 ≤ i.2) (fun (g, c) => .slice (some ⟨g, 0, none⟩) (n + 1) c) (fun (g, c) => [.row (.slice (some ⟨g, 0, none⟩) (n + 1) c) 98 4 (n + 1) (AwS (n + 1) (insF f k a)), .gone]) (fun _ => []) w0 v w' := by
  have hcp := row_cap m0 (k := 0) rfl
  have hP : Plain P := m0.plain At.here
  have hfin := ins_row n k f a hk
  refine calls_of_vcL (w0 := w0) tb_ok (args := [.slice P n cp, .int .i64 k, .slice (some ⟨gv, 0, none⟩) 1 1]) Tryz.func183 rfl m0 ?_
  by_cases hkn : k = n
  · subst hkn
    have e1 : (AwS k f).take (k * 4) = AwS k f := List.take_of_length_le (by rw [AwS.len]; exact Nat.le_refl _)
    have e2 : (AwS k f).drop (k * 4) = [] := List.drop_eq_nil_of_le (by rw [AwS.len]; exact Nat.le_refl _)
    rw [e1, e2, List.append_nil] at hfin
    (repeat' ((conv => whnf); first | refine go ?_ | (refine VSome.mk ?_; intro gQ hA'; first | subst hA' | cases hA' | (dsimp only at hA'; subst hA')) | refine And.intro ?_ ?_ | intro _ | (first | ((show VCut _ _ _ _ _ _ _); refine VCut.tail k rfl (by omega) (by omega) hP (fun C d _ _ => ?_)) | ((show VApp _ _ _ _ _ _ _); (apply VApp.pushAnyS; (focus ((repeat (first | exact At.here | apply At.there)); done)); (focus ((repeat (first | exact At.here | apply At.there)); done)); refine VAppPushS.mk rfl rfl (by omega) (by omega) (fun g' c' hcap => ?_))))))
    all_goals (conv => whnf)
    all_goals exact VRet.mk fun w' m => ⟨(g', c'), hcap, rfl, by
      have m2 := m.sel (ks := [0, 100]) (by simp)
      change Mem w0 [.row (.slice (some ⟨g', 0, none⟩) (k + 1) c') 98 4 (k + 1) (AwS k f ++ a.cells), .gone] w' at m2
      rw [hfin] at m2
      exact m2⟩
  obtain ⟨gP, rfl⟩ := row_some m0 (k := 0) rfl (by omega)
  have hl2 : ((AwS n f).drop (k * 4)).length = (n - k) * 4 := by rw [List.length_drop, AwS.len, Nat.sub_mul]
  have hone : ((AwS n f).drop (k * 4)).all (·.oneCell') = true := List.all_eq_true.2 fun x hx => List.all_eq_true.1 (AwS.one n f) x (List.mem_of_mem_drop hx)
  have hr2 : ∀ (j : Nat) u, ((AwS n f).drop (k * 4))[j]? = some u → (AwS n f)[0 + mulS k 4 + j]? = some u := fun j u hj => by
    rw [List.getElem?_drop] at hj
    rw [Nat.zero_add, mulS_eq]
    exact hj
  have hr3 : ∀ (j : Nat) u, a.cells[j]? = some u → a.cells[0 + j]? = some u := fun j u hj => by rw [Nat.zero_add]; exact hj
  have hp1 : 0 + mulS k 4 = k * 4 := by rw [mulS_eq]; omega
  have hp2 : 0 + mulS (k + 1) 4 = k * 4 + 4 := by rw [mulS_eq]; omega
  have hln := AwS.len n f
  have hac : a.cells.length = 4 := rfl
  have hcast2 : (k : Int) + 1 = ((k + 1 : Nat) : Int) := by omega
  by_cases hroom : n + 1 ≤ cp
  · have hlst := lst_room (xs := AwS n f) (L2 := (AwS n f).drop (k * 4)) (ac := a.cells) (p := k * 4) (q := 4) rfl (by omega) rfl
    rw [hfin] at hlst
    have hm1 : Nat.min (n + 1 - k) (n + 1 - (k + 1)) = n - k := by simp only [Nat.min_def]; split <;> omega
    have hm2 : Nat.min 1 (n + 1 - k) = 1 := by simp only [Nat.min_def]; split <;> omega
    have hcast : (n : Int) + 1 = ((n + 1 : Nat) : Int) := by omega
    have hys : ((AwS n f).take (k * 4 + 4) ++ (AwS n f).drop (k * 4) ++ (AwS n f).drop (k * 4 + 4 + ((AwS n f).drop (k * 4)).length)).length = (n + 1) * 4 := by
      rw [List.length_append, List.length_append, hl2, List.length_take, List.length_drop, hln]
      omega
    (repeat' ((conv => whnf); first | refine go ?_ | (refine VSome.mk ?_; intro gQ hA'; first | subst hA' | cases hA' | (dsimp only at hA'; subst hA')) | refine And.intro ?_ ?_ | intro _ | (first | ((show VDraw _ _ _ #[{ dst := some 69, op := _, type := _, pos := _, after := _, guard := _ }, _, _, _, _, _, _, _, _] _ _); refine VDraw.mk (.take 0 (.take 1 (.take 2 (.take 3 (.take 4 (.take 5 (.take 6 (.take 7 (.br 8 .done .done))))))))) [] (by kernel_rfl) (by kernel_rfl) ?_) | ((show VCut _ _ _ _ none _ _); refine VCut.head (n + 1) hcast (by omega) ?_) | ((show VCut _ _ _ _ _ none _); first | refine VCut.lt gP 0 k n rfl rfl rfl (by omega) (by omega) (by omega) ?_ | refine VCut.lt gP 0 (k + 1) (n + 1) rfl hcast2 rfl (by omega) (by omega) (by omega) ?_ | refine VCut.lt gP 0 k (n + 1) rfl rfl rfl (by omega) (by omega) (by omega) ?_) | ((show VRawF _ _ _ _ _ _); refine VRawF.apart (k := 0) (j := 1) rfl rfl (by decide) (by omega) (Nat.succ_pos 3) ?_) | ((show VRawB _ _ _ .cap _ _ _); refine VRawB.capOf tb_ok rfl rfl ?_) | ((show VRawB _ _ _ .copy _ _ _); first | refine VRawB.copyAt tb_ok rfl rfl rfl (k := 0) rfl (n - k) hm1 ((AwS n f).drop (k * 4)) hl2 (fun j u hj => Rd.row 0 rfl (hr2 j u hj)) hone (n + 1) ((AwS n f).take (k * 4 + 4) ++ (AwS n f).drop (k * 4) ++ (AwS n f).drop (k * 4 + 4 + ((AwS n f).drop (k * 4)).length)) (by show 0 + mulS (k + 1) 4 ≤ _; omega) (by show List.take (0 + mulS (k + 1) 4) _ ++ _ ++ List.drop (0 + mulS (k + 1) 4 + _) _ = _; rw [hp2]) hys hroom ?_ | refine VRawB.copyAt tb_ok rfl rfl rfl (k := 0) rfl 1 hm2 a.cells rfl (fun j u hj => Rd.own 1 rfl (hr3 j u hj)) rfl (n + 1) (AwS (n + 1) (insF f k a)) (by show 0 + mulS k 4 ≤ _; rw [List.length_append, List.length_append, hl2, List.length_take, List.length_drop, hln]; omega) (by show List.take (0 + mulS k 4) _ ++ _ ++ List.drop (0 + mulS k 4 + _) _ = _; rw [hp1]; exact hlst) (AwS.len _ _) hroom ?_))))
    all_goals (conv => whnf)
    all_goals exact VRet.mk fun w' m => ⟨(gP, cp), hroom, rfl, m.sel (ks := [0, 100]) (by simp)⟩
  · have hL1 : ((AwS n f).take (k * 4)).length = k * 4 := by rw [List.length_take]; omega
    have hZ : ∀ z : List Value, z.length = 4 → (zerosB z (n + 1 - k)).length = 4 + ((AwS n f).drop (k * 4)).length := fun z hz => by rw [zerosB_length, hz, hl2]; omega
    have hlst := fun z hz => lst_grow (L1 := (AwS n f).take (k * 4)) (Z := zerosB z (n + 1 - k)) (L2 := (AwS n f).drop (k * 4)) (ac := a.cells) (p := k * 4) (q := 4) hL1 (hZ z hz) rfl
    rw [hfin] at hlst
    have hm1 : Nat.min (n - k) (n + 1 - (k + 1)) = n - k := by simp only [Nat.min_def]; split <;> omega
    have hm2 : Nat.min 1 (n + 1 - k) = 1 := by simp only [Nat.min_def]; split <;> omega
    obtain ⟨zz, hzz⟩ : ∃ zz : List Value, zz = [.int .i64 0, .bool false, .int .i64 0, .int .i64 0] := ⟨_, rfl⟩
    have hzl : zz.length = 4 := by rw [hzz]; rfl
    obtain ⟨G, hGe⟩ : ∃ G, G = (AwS n f).take (k * 4) ++ zerosB zz (n + 1 - k) := ⟨_, rfl⟩
    obtain ⟨G1, hG1e⟩ : ∃ G1, G1 = G.take (k * 4) ++ a.cells ++ G.drop (k * 4 + a.cells.length) := ⟨_, rfl⟩
    have hG : G.length = (n + 1) * 4 := by rw [hGe, List.length_append, hL1, hZ zz hzl, hl2]; omega
    have hG1 : G1.length = (n + 1) * 4 := by rw [hG1e, List.length_append, List.length_append, List.length_take, List.length_drop, hG, hac]; omega
    have hlz := hlst zz hzl
    rw [← hGe, ← hG1e] at hlz
    have hGx : (AwS n f).take (k * 4) ++ zerosB [.int .i64 0, .bool false, .int .i64 0, .int .i64 0] (n + 1 - k) = G := by rw [hGe, hzz]
    have hxq : (n : Int) + 1 - (k : Int) = ((n + 1 - k : Nat) : Int) := by omega
    (repeat' ((conv => whnf); first | refine go ?_ | (refine VSome.mk ?_; intro gQ hA'; first | subst hA' | cases hA' | (dsimp only at hA'; subst hA')) | refine And.intro ?_ ?_ | intro _ | (first | ((show VDraw _ _ _ #[{ dst := some 46, op := _, type := _, pos := _, after := _, guard := _ }, _, _, _, _, _, _, _, _] _ _); refine VDraw.mk (.take 0 (.take 1 (.take 2 (.take 3 (.take 4 (.take 5 (.take 6 (.take 7 (.br 8 .done .done))))))))) [] (by kernel_rfl) (by kernel_rfl) ?_) | ((show VCut _ _ _ _ none _ _); refine VCut.head k rfl (by omega) ?_) | ((show VCut _ _ _ _ _ none _); first | refine VCut.lt _ 0 k n rfl rfl rfl (by omega) (by omega) (by omega) ?_ | refine VCut.lt _ 0 (k + 1) (n + 1) rfl hcast2 rfl (by omega) (by omega) (by omega) ?_ | refine VCut.lt _ 0 k (n + 1) rfl rfl rfl (by omega) (by omega) (by omega) ?_) | ((show VRawB _ _ _ .cap _ _ _); refine VRawB.capOf tb_ok rfl rfl ?_) | ((show VRawB _ _ _ .append _ _ _); refine VRawB.growTo tb_ok rfl rfl rfl rfl rfl (by decide) (by decide) (k := 0) rfl (q := n + 1 - k) (n + 1) (by omega) hxq (by omega) (by omega) (by omega) (by omega) (fun g2 c2 hc2 => ?_)) | ((show VRawB _ _ _ .copy _ _ _); first | refine VRawB.copyAt tb_ok rfl rfl rfl (k := 2) rfl 1 hm2 a.cells rfl (fun j u hj => Rd.own 1 rfl (hr3 j u hj)) rfl (n + 1) G1 (by show 0 + mulS k 4 ≤ _; exact Nat.le_trans (by omega) (Nat.le_of_eq (hG.symm.trans (congrArg List.length hGx.symm)))) (by show List.take (0 + mulS k 4) ((AwS n f).take (k * 4) ++ zerosB [.int .i64 0, .bool false, .int .i64 0, .int .i64 0] (n + 1 - k)) ++ _ ++ List.drop (0 + mulS k 4 + _) ((AwS n f).take (k * 4) ++ zerosB [.int .i64 0, .bool false, .int .i64 0, .int .i64 0] (n + 1 - k)) = _; rw [hp1, hGx, hG1e]) hG1 hc2 ?_ | refine VRawB.copyAt tb_ok rfl rfl rfl (k := 2) rfl (n - k) hm1 ((AwS n f).drop (k * 4)) hl2 (fun j u hj => Rd.row 0 rfl (hr2 j u hj)) hone (n + 1) (AwS (n + 1) (insF f k a)) (by show 0 + mulS (k + 1) 4 ≤ _; omega) (by show List.take (0 + mulS (k + 1) 4) G1 ++ _ ++ List.drop (0 + mulS (k + 1) 4 + _) G1 = _; rw [hp2]; exact hlz) (AwS.len _ _) hc2 ?_))))
    all_goals (conv => whnf)
    all_goals exact VRet.mk fun w' m => ⟨(g2, c2), hc2, rfl, m.sel (ks := [2, 100]) (by simp)⟩
end Go.Proofs.YtadjhkehfklmnaaGreatDoor
namespace Go.Proofs.YtadjhkehfklmnaaGreatDoor
set_option linter.unusedSimpArgs false
set_option linter.unusedVariables false
open Go.RowKit
set_option maxRecDepth 10000
theorem aw_id {n k : Nat} {f : Nat → Aw} (h : k < n) : (AwS n f)[mulS k 4 + 0]? = some (.int .i64 (f k).id) := by
  unfold AwS
  rw [mulS_eq, rowsN_get (f := fun i => (f i).cells) (s := 4) (fun _ => rfl) n k 0 h (by decide)]
  rfl
set_option maxHeartbeats 8000000 in
theorem iArrive_v {w0 : Base} {w : World} (d : Co) (gc : Nat) (A1 : Option Addr) (c1 : Nat) (A2 : Option Addr) (c2 : Nat) (a : Aw) (hn : d.m ≤ 6) (m0 : Mem w0 [.blk gc 39 (d.at A1 c1 A2 c2), .row (.slice A2 d.m c2) 98 4 d.m (AwS d.m d.wa)] w) :
    Calls Tryz.prog 148 #[.pointer (some ⟨gc, 0, none⟩), .agg a.cells.toArray] w fun e w' => ∃ v, e = .returned v ∧ RetL (ι := Nat × Nat) (fun _ => True) (fun _ => .bool (tr (aGood (d.m + 1) (insF d.wa (plc d.wa a.id d.m 0) a)))) (fun (g, c) => [.blk gc 39 ((d.arr (plc d.wa a.id d.m 0) a).at A1 c1 (some ⟨g, 0, none⟩) c), .row (.slice (some ⟨g, 0, none⟩) (d.m + 1) c) 98 4 (d.m + 1) (AwS (d.m + 1) (insF d.wa (plc d.wa a.id d.m 0) a))]) (fun _ => []) w0 v w' := by
  refine calls_of_vcL (w0 := w0) tb_ok (args := [.pointer (some ⟨gc, 0, none⟩), .agg a.cells.toArray]) Tryz.func148 rfl m0 ?_
  (repeat' ((conv => whnf); first | refine go ?_ | (refine VSome.mk ?_; intro gQ hA'; first | subst hA' | cases hA' | (dsimp only at hA'; subst hA')) | refine And.intro ?_ ?_ | intro _))
  rename_i g3
  (conv => whnf)
  refine VLoop.mk (ι := Nat) [5, 6, 7, 8, 9, 10, 11, 12, 13, 14, 15, 16, 17, 18, 19, 20, 21, 22, 23, 24, 25, 26, 27] (fun k => [(5, .int .i64 k)]) (fun _ => [.blk gc 39 (d.at A1 c1 A2 c2), .row (.slice A2 d.m c2) 98 4 d.m (AwS d.m d.wa), .blk g3 98 a.cells]) (fun k => k ≤ d.m ∧ plc d.wa a.id d.m 0 = plc d.wa a.id (d.m - k) k) (fun k => d.m - k) 0 ⟨Nat.zero_le _, rfl⟩ ?_ (OwnLe.mk [0, 1, 2] (by simp) rfl) (fun k u hk => ?_)
  · ((conv => whnf); repeat (first | exact trivial | refine ⟨rfl, ?_⟩ | refine ⟨congrArg (Value.int .i64) (by first | omega | assumption | exact Eq.symm (by assumption)), ?_⟩))
  obtain ⟨hk, hp⟩ := hk
  by_cases hgo : k < d.m ∧ (d.wa k).id < a.id
  · have h1 := aw_id (f := d.wa) hgo.1
    have h2 := hgo.1
    have h3 := hgo.2
    have e : d.m - k = (d.m - (k + 1)) + 1 := by omega
    (repeat' ((conv => whnf); first | refine go ?_ | (refine VSome.mk ?_; intro gQ hA'; first | subst hA' | cases hA' | (dsimp only at hA'; subst hA')) | refine And.intro ?_ ?_ | intro _ | (first | ((show VDraw _ _ _ #[{ dst := some 6, op := _, type := _, pos := _, after := _, guard := _ }, _, _, _, _, _, _, _, _, _, _, _, _, _, _, _, _, _, _, _] _ _); refine VDraw.mk (.take 0 (.take 1 (.take 2 (.take 3 (.take 4 (.take 5 (.take 6 (.take 7 (.take 8 (.take 9 (.take 10 (.take 11 (.take 12 (.take 13 (.take 14 (.take 15 (.take 16 (.take 17 (.take 18 (.take 19 .done)))))))))))))))))))) [0, 1, 2] (by kernel_rfl) (by kernel_rfl) ?_))))
    all_goals (conv => whnf)
    all_goals (refine VNext.mk (k + 1) ⟨by omega, by rw [hp, e, plc_go h3]⟩ (by omega) ?_ (OwnLe.mk [0, 1, 2] (by simp) rfl); ((conv => whnf); repeat (first | exact trivial | refine ⟨rfl, ?_⟩ | refine ⟨congrArg (Value.int .i64) (by first | omega | assumption | exact Eq.symm (by assumption)), ?_⟩)))
  · have hpk : plc d.wa a.id d.m 0 = k := by
      rw [hp]
      rcases Nat.lt_or_ge k d.m with h | h
      · rw [show d.m - k = (d.m - (k + 1)) + 1 by omega, plc_stop (fun q => hgo ⟨h, q⟩)]
      · rw [show d.m - k = 0 by omega]; rfl
    rw [hpk]
    by_cases h2 : k < d.m
    · have h1 := aw_id (f := d.wa) h2
      have h3 : ¬ (d.wa k).id < a.id := fun q => hgo ⟨h2, q⟩
      (repeat' ((conv => whnf); first | refine go ?_ | (refine VSome.mk ?_; intro gQ hA'; first | subst hA' | cases hA' | (dsimp only at hA'; subst hA')) | refine And.intro ?_ ?_ | intro _ | (first | ((show VDraw _ _ _ #[{ dst := some 6, op := _, type := _, pos := _, after := _, guard := _ }, _, _, _, _, _, _, _, _, _, _, _, _, _, _, _, _, _, _, _] _ _); refine VDraw.mk (.take 0 (.take 1 (.take 2 (.take 3 (.take 4 (.take 5 (.take 6 (.take 7 (.take 8 (.take 9 (.take 10 (.take 11 (.take 12 (.take 13 (.take 14 (.take 15 (.take 16 (.take 17 (.take 18 (.take 19 .done)))))))))))))))))))) [0, 1, 2] (by kernel_rfl) (by kernel_rfl) ?_) | ((show VDraw _ _ _ #[{ dst := some 28, op := _, type := _, pos := _, after := _, guard := _ }, _, _, _, _, _, _, _, _, _, _, _] _ _); refine VDraw.mk (.take 0 (.take 1 (.take 2 (.take 3 (.take 5 (.take 6 (.br 4 (.br 7 (.br 8 (.take 9 (.take 10 (.br 11 .done .done))) .done) .done) (.br 7 (.br 4 (.br 8 (.take 9 (.take 10 (.br 11 .done .done))) .done) .done) .done)))))))) [2] (by kernel_rfl) (by kernel_rfl) ?_) | ((show VCall _ _ _ 183 _ _); refine VCall.fullS [1, 3] (by simp) (fun _ => rfl) (fun w1 m1 m2 => insert_v _ d.m c2 _ k d.wa a hn hk m2) (fun (g, c) hi => ?_)) | ((show VCall _ _ _ 88 _ _); refine VCall.test _ (fun w1 m1 => iArr_v _ _ _ _ w1 (by omega) (Sees.any m1 fndA)) ?_))))
      all_goals (conv => whnf)
      all_goals first | exact VRet.mk fun w' m => ⟨(g, c), trivial, congrArg Value.bool (tr_yes (by assumption)).symm, m.sel (ks := [0, 1]) (by simp)⟩ | exact VRet.mk fun w' m => ⟨(g, c), trivial, congrArg Value.bool (tr_no (by assumption)).symm, m.sel (ks := [0, 1]) (by simp)⟩
    · have hkm : k = d.m := by omega
      (repeat' ((conv => whnf); first | refine go ?_ | (refine VSome.mk ?_; intro gQ hA'; first | subst hA' | cases hA' | (dsimp only at hA'; subst hA')) | refine And.intro ?_ ?_ | intro _ | (first | ((show VDraw _ _ _ #[{ dst := some 6, op := _, type := _, pos := _, after := _, guard := _ }, _, _, _, _, _, _, _, _, _, _, _, _, _, _, _, _, _, _, _] _ _); refine VDraw.mk (.take 0 (.take 1 (.take 2 (.take 3 (.take 4 (.take 5 (.take 6 (.take 7 (.take 8 (.take 9 (.take 10 (.take 11 (.take 12 (.take 13 (.take 14 (.take 15 (.take 16 (.take 17 (.take 18 (.take 19 .done)))))))))))))))))))) [0, 1, 2] (by kernel_rfl) (by kernel_rfl) ?_) | ((show VDraw _ _ _ #[{ dst := some 28, op := _, type := _, pos := _, after := _, guard := _ }, _, _, _, _, _, _, _, _, _, _, _] _ _); refine VDraw.mk (.take 0 (.take 1 (.take 2 (.take 3 (.take 5 (.take 6 (.br 4 (.br 7 (.br 8 (.take 9 (.take 10 (.br 11 .done .done))) .done) .done) (.br 7 (.br 4 (.br 8 (.take 9 (.take 10 (.br 11 .done .done))) .done) .done) .done)))))))) [2] (by kernel_rfl) (by kernel_rfl) ?_) | ((show VCall _ _ _ 183 _ _); refine VCall.fullS [1, 3] (by simp) (fun _ => rfl) (fun w1 m1 m2 => insert_v _ d.m c2 _ k d.wa a hn hk m2) (fun (g, c) hi => ?_)) | ((show VCall _ _ _ 88 _ _); refine VCall.test _ (fun w1 m1 => iArr_v _ _ _ _ w1 (by omega) (Sees.any m1 fndA)) ?_))))
      all_goals (conv => whnf)
      all_goals first | exact VRet.mk fun w' m => ⟨(g, c), trivial, congrArg Value.bool (tr_yes (by assumption)).symm, m.sel (ks := [0, 1]) (by simp)⟩ | exact VRet.mk fun w' m => ⟨(g, c), trivial, congrArg Value.bool (tr_no (by assumption)).symm, m.sel (ks := [0, 1]) (by simp)⟩
end Go.Proofs.YtadjhkehfklmnaaGreatDoor
