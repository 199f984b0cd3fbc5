/-
  Texts joined: how the calls that the law reaches are walked, and the plain laws behind them.
  Conditions: none beyond each statement's own premises.
-/
import Derived.Test.YtadjhkehfklmnaaGreatDoorMy13
import Derived.Laws.CopyRow
import Derived.Lib.AppendZerosOnto
import Derived.Lib.Overlaps
namespace Go.Proofs.YtadjhkehfklmnaaGreatDoor
set_option linter.unusedSimpArgs false
set_option linter.unusedVariables false
open Go.RowKit
set_option maxRecDepth 10000
section
variable {P : Program} {T : Tab} {w0 : Base} {own : List Own} {w : World}
theorem Mem.put {k g n c n2 size o : Nat} {e : TypeId} {xs vs ys : List Value} (m : Mem w0 own w) (hk : own[k]? = some (.row (.slice (some ⟨g, 0, none⟩) n c) e size n xs)) (h1 : vs.all (·.oneCell') = true) (ho : o ≤ xs.length) (hy : xs.take o ++ vs ++ xs.drop (o + vs.length) = ys) (hyl : ys.length = n2 * size) (hn2 : n2 ≤ c) :
    ∃ w', (storeCells ⟨g, o, none⟩ vs).run P w = .ok () w' ∧ Mem w0 (own.set k (.row (.slice (some ⟨g, 0, none⟩) n2 c) e size n2 ys)) w' := by
  have h0 := m.ok k _ hk
  obtain ⟨h00, h11, h2⟩ := h0
  rcases h2 with ⟨e1, _⟩ | ⟨g', cap, cur, e1, hb, hg, hn, hm, hs, ht⟩
  · cases e1
  cases e1
  have hcs : n2 * size ≤ c * size := Nat.mul_le_mul_right _ hn2
  have hyl2 : ys.length = o + vs.length + (xs.length - (o + vs.length)) := by
    rw [← hy, List.length_append, List.length_append, List.length_take, List.length_drop]
    omega
  have hcl : cur.toList.length = c * size := by rw [Array.length_toList]; exact hs
  have hxl : xs.length ≤ c * size := by rw [h11]; exact Nat.mul_le_mul_right _ hn
  refine ⟨_, run_storeCells_at P g o e vs 0 cur w hg (by omega) (all_one h1), ?_⟩
  rw [Nat.add_zero]
  refine m.turn hk ?_ ⟨fun b hb => h00 b hb, hyl, .inr ⟨g, c, _, rfl, Nat.zero_le _, setRow_heap w g cur _ e _ hg, hn2, hm, ?_, ?_⟩⟩ (fun b hb hlt => ?_) (fun b hb => .inl hb)
  · refine m.keeps.step rfl rfl rfl (by rw [setRow_size]; exact Nat.le_refl _) fun b hb hl => setRow_other _ _ _ _ fun e2 => ?_
    rcases h00 g rfl with q | q
    · omega
    · exact hl (e2 ▸ q)
  · rw [List.size_toArray, List.length_append, List.length_append, List.length_take, List.length_drop]
    omega
  · rw [← hyl, hyl2, ← hy]
    rw [← ht]
    have hn3 : n * size ≤ c * size := Nat.mul_le_mul_right _ hn
    have e2 : (cur.toList.take (n * size)).length = n * size := by rw [List.length_take, hcl]; omega
    have ho2 : o ≤ n * size := by omega
    rw [e2, List.take_take, Nat.min_eq_left ho2, List.drop_take]
    show List.take _ (List.take o cur.toList ++ vs ++ List.drop (o + vs.length) cur.toList) = _
    have e3 : (cur.toList.take o ++ vs).length = o + vs.length := by rw [List.length_append, List.length_take, hcl]; omega
    rw [List.take_append, e3, List.take_of_length_le (by omega), show o + vs.length + (n * size - (o + vs.length)) - (o + vs.length) = n * size - (o + vs.length) by omega]
  · exact setRow_other _ _ _ _ fun e2 => hb (by rw [e2]; rfl)
theorem copy_run (w : World) (dT sT ty elem : TypeId) (g o dLen dCap : Nat) (a : Addr) (sLen sCap : Nat) (cs : List Value) (i : TypeInfo) (hu : P.underlying dT = some (.slice elem)) (hi : P.info? elem = some i) (hn : cs.length = Nat.min sLen dLen * i.size)
    (hsrc : ∀ j v, cs[j]? = some v → w.cell? (a.add j) = some v) {w' : World} (hst : (storeCells ⟨g, o, none⟩ cs).run P w = .ok () w') :
    (Builtin.copy_ #[dT, sT] ty #[.slice (some ⟨g, o, none⟩) dLen dCap, .slice (some a) sLen sCap]).run P w = .ok (goInt (Nat.min sLen dLen)) w' := by
  have hl := run_loadCells_list (P := P) w a cs hsrc
  simp [Builtin.copy_, run_underlying hu, Builtin.lenOf, Builtin.firstCells, sizeOf, typeInfo, hi, ← hn, hl, hst]
theorem VRawB.copyAt (hT : TabOk P T) {K : Value → List Own → Prop} {t t' e : TypeId} {ti ei : TI} (hd : ti.desc = .slice e) (ht : T.ty t = some ti) (he : T.ty e = some ei) {k g n c o dLen dCap b off sLen sCap : Nat} {xs : List Value} (hk : own[k]? = some (.row (.slice (some ⟨g, 0, none⟩) n c) e ei.size n xs))
    (q : Nat) (hq : Nat.min sLen dLen = q) (vs : List Value) (hl : vs.length = q * ei.size) (hr : ∀ (j : Nat) u, vs[j]? = some u → Rd w0 own b (off + j) u) (h1 : vs.all (·.oneCell') = true) (n2 : Nat) (ys : List Value) (ho : o ≤ xs.length) (hy : xs.take o ++ vs ++ xs.drop (o + vs.length) = ys) (hyl : ys.length = n2 * ei.size) (hn2 : n2 ≤ c)
    (kk : K (goInt q) (own.set k (.row (.slice (some ⟨g, 0, none⟩) n2 c) e ei.size n2 ys))) : VRawB P w0 own .copy [t, t'] [.slice (some ⟨g, o, none⟩) dLen dCap, .slice (some ⟨b, off, none⟩) sLen sCap] K := by
  refine .mk (ι := Unit) (fun _ => True) (fun _ => goInt q) (fun _ => own.set k (.row (.slice (some ⟨g, 0, none⟩) n2 c) e ei.size n2 ys)) (fun ty cs w m => ?_) (fun _ _ => kk)
  obtain ⟨w', hst, m'⟩ := m.put (P := P) hk h1 ho hy hyl hn2
  obtain ⟨i, z, q1, q2, _, _, _⟩ := hT.info e _ he
  have hu := hT.und t _ ht
  rw [hd] at hu
  subst hq
  have h := copy_run (P := P) w t t' ty e g o dLen dCap ⟨b, off, none⟩ sLen sCap vs i hu q1 (by rw [q2]; exact hl) (fun j u hj => by rw [add_none]; exact (hr j u hj).cell m.toMemR) hst
  refine ⟨(), w', trivial, ?_, m'⟩
  show (builtin .copy #[t, t'] ty cs #[.slice (some ⟨g, o, none⟩) dLen dCap, .slice (some ⟨b, off, none⟩) sLen sCap]).run P w = _
  simp only [builtin, Sem.run_bind, h, Result.andThen_ok, Sem.run_pure]
theorem zerosB_one {zero : List Value} (h : zero.all (·.oneCell') = true) : ∀ n, (zerosB zero n).all (·.oneCell') = true
  | 0 => rfl
  | n + 1 => by rw [zerosB, List.all_append, h, zerosB_one h n]; rfl
theorem zeroCells_eq {zero : List Value} {cs : Array Value} (e : cs = zero.toArray) (h : 0 < zero.length) (n : Nat) : Builtin.zeroCells cs n = (zerosB zero n).toArray := by
  subst e
  rw [← zerosB_eq zero n h]
  unfold Builtin.zeroCells
  rw [List.size_toArray]
theorem VRawB.clearTail (hT : TabOk P T) {K : Value → List Own → Prop} {t e : TypeId} {ti ei : TI} (hd : ti.desc = .slice e) (ht : T.ty t = some ti) (he : T.ty e = some ei) (hs0 : 0 < ei.size) (hz1 : ei.zero.all (·.oneCell') = true) {k g n c o m d : Nat} {xs : List Value} (hk : own[k]? = some (.row (.slice (some ⟨g, 0, none⟩) n c) e ei.size n xs))
    (n2 : Nat) (ho : o = n2 * ei.size) (hm : n2 + m = n) (hm0 : 0 < m)
    (kk : K (.tuple #[]) (own.set k (.row (.slice (some ⟨g, 0, none⟩) n2 c) e ei.size n2 (xs.take (n2 * ei.size))))) : VRawB P w0 own .clear [t] [.slice (some ⟨g, o, none⟩) m d] K := by
  refine .mk (ι := Unit) (fun _ => True) (fun _ => .tuple #[]) (fun _ => own.set k (.row (.slice (some ⟨g, 0, none⟩) n2 c) e ei.size n2 (xs.take (n2 * ei.size)))) (fun ty cs w mm => ?_) (fun _ _ => kk)
  have hzl := hT.zl e _ he
  have h0 := mm.ok k _ hk
  have hxl : xs.length = n * ei.size := h0.2.1
  have hnc : n ≤ c := row_cap mm hk
  have hmul : n2 * ei.size + m * ei.size = n * ei.size := by rw [← Nat.add_mul, hm]
  have hvl : (zerosB ei.zero m).length = m * ei.size := by rw [zerosB_length, hzl]
  obtain ⟨w', hst, m'⟩ := mm.put (P := P) (n2 := n) hk (zerosB_one hz1 m) (o := o) (by omega) rfl (by rw [List.length_append, List.length_append, List.length_take, List.length_drop, hvl, hxl]; omega) hnc
  have m2 := m'.shrink (k := k) (n2 := n2) (get_set hk) (by omega)
  rw [List.set_set, show (xs.take o ++ zerosB ei.zero m ++ xs.drop (o + (zerosB ei.zero m).length)).take (n2 * ei.size) = xs.take (n2 * ei.size) by
    rw [List.append_assoc, List.take_append_of_le_length (by rw [List.length_take]; omega), List.take_take, ho, Nat.min_self]] at m2
  obtain ⟨z, hz, hr⟩ := hT.zv he w
  have hu := hT.und t _ ht
  rw [hd] at hu
  refine ⟨(), w', trivial, ?_, m2⟩
  show (builtin .clear #[t] ty cs #[.slice (some ⟨g, o, none⟩) m d]).run P w = _
  obtain ⟨m1, rfl⟩ : ∃ m1, m = m1 + 1 := ⟨m - 1, by omega⟩
  have hzc : (Builtin.zeroCells z.cells (m1 + 1)).toList = zerosB ei.zero (m1 + 1) := by rw [zeroCells_eq hz (by omega)]
  have h : (Builtin.clear_ #[t] ty #[.slice (some ⟨g, o, none⟩) (m1 + 1) d]).run P w = .ok (.tuple #[]) w' := by
    simp [Builtin.clear_, run_underlying hu, hr, hzc, hst]
  simp only [builtin, Sem.run_bind, h, Result.andThen_ok, Sem.run_pure]
theorem VRawB.growZeros (hT : TabOk P T) {K : Value → List Own → Prop} {t tn e : TypeId} {ti tj ei : TI} {kq kn : IntKind} (hd : ti.desc = .slice e) (ht : T.ty t = some ti) (hdn : tj.desc = .int kn) (htn : T.ty tn = some tj) (he : T.ty e = some ei) (hs0 : 0 < ei.size) (hb : ei.bytes ≤ 4096) {k g n c i q : Nat} {x : Int} {xs : List Value} (hk : own[k]? = some (.row (.slice (some ⟨g, 0, none⟩) n c) e ei.size n xs))
    (hx : x = (q : Int)) (hi : i ≤ n) (hq : 0 < q) (hc : c < i + q) (hm : i + q ≤ 1048576)
    (kk : ∀ g' c', i + q ≤ c' → K (.slice (some ⟨g', 0, none⟩) (i + q) c') (own ++ [.row (.slice (some ⟨g', 0, none⟩) (i + q) c') e ei.size (i + q) (xs.take (i * ei.size) ++ zerosB ei.zero q)])) : VRawB P w0 own .append [t, tn] [.slice (some ⟨g, 0, none⟩) i c, .int kq x] K := by
  subst hx
  refine .mk (ι := Nat × Nat) (fun i9 => i + q ≤ i9.2) (fun i9 => .slice (some ⟨i9.1, 0, none⟩) (i + q) i9.2) (fun i9 => own ++ [.row (.slice (some ⟨i9.1, 0, none⟩) (i + q) i9.2) e ei.size (i + q) (xs.take (i * ei.size) ++ zerosB ei.zero q)]) (fun ty cs w mm => ?_) (fun i9 h9 => kk _ _ h9)
  have hzl := hT.zl e _ he
  have hu := hT.und t _ ht
  rw [hd] at hu
  have hun := hT.und tn _ htn
  rw [hdn] at hun
  obtain ⟨ix, z, q1, q2, q3, q4, q5⟩ := hT.info e _ he
  have h0 := mm.ok k _ hk
  have hxl : xs.length = n * ei.size := h0.2.1
  have hni : i * ei.size ≤ n * ei.size := Nat.mul_le_mul_right _ hi
  have hol : (xs.take (i * ei.size)).length = i * ei.size := by rw [List.length_take]; omega
  have hcell : ∀ j u, (xs.take (i * ei.size))[j]? = some u → w.drew.cell? ((⟨g, 0, none⟩ : Addr).add j) = some u := fun j u hj => by
    rw [add_none]
    have hj2 : xs[j]? = some u := by
      rw [List.getElem?_take] at hj
      split at hj
      · exact hj
      · cases hj
    show w.cell? _ = _
    rw [Nat.zero_add]
    exact (Rd.row k hk hj2).cell mm.toMemR
  have hf := run_firstCells_some (P := P) w.drew ix.size i ⟨g, 0, none⟩ i c (xs.take (i * ei.size)) (by rw [hol, q2]) hcell
  have hnx := nextslicecap_le (need := i + q) (old := c) hc
  have hfit : Builtin.nextslicecap (i + q) c * ix.bytes ≤ 281474976710656 := by
    have : Builtin.nextslicecap (i + q) c * ix.bytes ≤ 2097152 * 4096 := Nat.mul_le_mul (by omega) (by omega)
    omega
  have hfit2 : q * ix.bytes ≤ 281474976710656 := by
    have : q * ix.bytes ≤ 1048576 * 4096 := Nat.mul_le_mul (by omega) (by omega)
    omega
  have hr := Lib.run_append_grow_zeros (P := P) w t tn ty e ix z kq kn hu hun q1 q4 (some ⟨g, 0, none⟩) i c (xs.take (i * ei.size)) hf q hq (by omega) hc (by omega) hfit2 hfit
  have hge := grownCap_ge w (i + q) c e
  have hle := grownCap_le_maxLen w (i + q) c e (by unfold maxLen; omega)
  generalize grownCap w (i + q) c e = cc at *
  rw [zeroCells_eq q5 (by omega), zeroCells_eq q5 (by omega), List.append_toArray, List.append_toArray] at hr
  have m1 := mm.drew.alloc e (xs.take (i * ei.size) ++ zerosB ei.zero q ++ zerosB ei.zero (cc - (i + q)))
  have hcl : (xs.take (i * ei.size) ++ zerosB ei.zero q ++ zerosB ei.zero (cc - (i + q))).length = cc * ei.size := by
    rw [List.length_append, List.length_append, hol, zerosB_length, zerosB_length, hzl, ← Nat.add_mul, ← Nat.add_mul]
    congr 1
    omega
  have hsz : w.drew.heap.size = w.heap.size := rfl
  have hlast : ∀ o : Own, (own ++ [o])[own.length]? = some o := fun o => by rw [List.getElem?_append_right (Nat.le_refl _), Nat.sub_self]; rfl
  have e9 : ∀ x y : Own, (own ++ [x]).set own.length y = own ++ [y] := fun x y => by simp
  have m2 := Mem.turnRow (hlast _) hcl hle m1
  rw [e9] at m2
  have m3 := m2.shrink (hlast _) hge
  rw [e9, List.take_append_of_le_length (by rw [List.length_append, hol, zerosB_length, hzl, Nat.add_mul]; exact Nat.le_refl _), List.take_of_length_le (by rw [List.length_append, hol, zerosB_length, hzl, Nat.add_mul]; exact Nat.le_refl _)] at m3
  refine ⟨(w.heap.size, cc), _, hge, ?_, m3⟩
  show (builtin .append #[t, tn] ty cs #[.slice (some ⟨g, 0, none⟩) i c, .int kq q]).run P w = _
  simp only [builtin, Sem.run_bind, hr, Result.andThen_ok, Sem.run_pure]
  rfl
end
end Go.Proofs.YtadjhkehfklmnaaGreatDoor
namespace Go.Proofs.YtadjhkehfklmnaaGreatDoor
set_option linter.unusedSimpArgs false
set_option linter.unusedVariables false
open Go.RowKit
set_option maxRecDepth 10000
set_option maxHeartbeats 1600000 in
theorem delC_v (B : Option Addr) (g c : Nat) (L : List Int) (a : Aw) (w : World) (hl : 0 < L.length) (hb : Seen w (some ⟨g, 0, none⟩) [.slice B L.length c]) (hB : Seen w B (IL L)) :
    Calls Tryz.prog 150 #[.agg a.cells.toArray, .pointer (some ⟨g, 0, none⟩)] w (Post (.bool (tr (a.id = a0 L 0))) w) := by
  obtain ⟨b0, off0, e0, hb0, hc0⟩ := hb 0 _ rfl
  cases e0
  obtain ⟨b1, off1, rfl, hb1, hc1⟩ := IL_lookM hB hl
  change w.cell? _ = some (.int .i64 (a0 L 0)) at hc1
  refine post_of_vc ?_
  refine calls_of_vc tb_ok (args := [.agg a.cells.toArray, .pointer (some ⟨g, 0, none⟩)]) Tryz.func150 rfl ?_
  by_cases h : a.id = a0 L 0
  · rw [tr_yes h]
    (repeat' ((conv => whnf); first | refine go ?_ | (refine VSome.mk ?_; intro gQ hA'; first | subst hA' | cases hA' | (dsimp only at hA'; subst hA')) | refine And.intro ?_ ?_ | intro _ | (first | ((show VDraw _ _ _ _ _ _); refine VDraw.mk (.take 0 (.take 1 (.take 2 (.take 3 (.take 4 (.take 5 (.take 6 .done))))))) [0] (by kernel_rfl) (by kernel_rfl) ?_))))
    all_goals ((conv => whnf); refine VRet.mk fun w' m => ?_)
    all_goals exact ⟨congrArg Value.bool (by first | exact decide_eq_true h | rfl), m.keeps.below⟩
  · rw [tr_no h]
    (repeat' ((conv => whnf); first | refine go ?_ | (refine VSome.mk ?_; intro gQ hA'; first | subst hA' | cases hA' | (dsimp only at hA'; subst hA')) | refine And.intro ?_ ?_ | intro _ | (first | ((show VDraw _ _ _ _ _ _); refine VDraw.mk (.take 0 (.take 1 (.take 2 (.take 3 (.take 4 (.take 5 (.take 6 .done))))))) [0] (by kernel_rfl) (by kernel_rfl) ?_))))
    all_goals ((conv => whnf); refine VRet.mk fun w' m => ?_)
    all_goals exact ⟨congrArg Value.bool (by first | exact decide_eq_false h | rfl), m.keeps.below⟩
def ixO (o : Option Nat) : Int := match o with
  | some i => i
  | none => -1
set_option maxHeartbeats 4000000 in
theorem idxF_v (A B : Option Addr) (n cp g c : Nat) (f : Nat → Aw) (L : List Int) (w : World) (hn : n ≤ 1048576) (hl : 0 < L.length) (hb : Seen w (some ⟨g, 0, none⟩) [.slice B L.length c]) (hB : Seen w B (IL L)) (hA : Seen w A (AwS n f)) :
    Calls Tryz.prog 184 #[.slice A n cp, .func (.func 150) #[] #[.pointer (some ⟨g, 0, none⟩)]] w (Post (.int .i64 (ixO (fnd f (a0 L 0) n))) w) := by
  refine post_of_vc ?_
  refine calls_of_vc tb_ok (args := [.slice A n cp, .func (.func 150) #[] #[.pointer (some ⟨g, 0, none⟩)]]) Tryz.func184 rfl ?_
  (repeat' ((conv => whnf); first | refine go ?_ | (refine VSome.mk ?_; intro gQ hA'; first | subst hA' | cases hA' | (dsimp only at hA'; subst hA')) | refine And.intro ?_ ?_ | intro _))
  (conv => whnf)
  refine VLoop.mk (ι := Nat) [4, 5, 8, 9, 10, 11, 12, 13, 14, 15, 16, 17, 18] (fun k => [(8, .int .i64 k)]) (fun _ => []) (fun k => k ≤ n ∧ ∀ j, j < k → ¬ (f j).id = a0 L 0) (fun k => n - k) 0 ⟨Nat.zero_le _, fun j hj => absurd hj (Nat.not_lt_zero j)⟩ ?_ (OwnLe.mk [] (by simp) rfl) (fun k u hk => ?_)
  · ((conv => whnf); repeat (first | exact trivial | refine ⟨rfl, ?_⟩ | refine ⟨congrArg (Value.int .i64) (by first | omega | assumption | exact Eq.symm (by assumption)), ?_⟩))
  obtain ⟨hk, hno⟩ := hk
  by_cases hlt : k < n
  · obtain ⟨b1, off1, rfl, hb1, hr1, _⟩ := AwS.look hA hlt
    have hC := fun w hb hB => delC_v B g c L (f k) w hl hb hB
    have hw : ∀ {w1 : World} {own : List Own}, Mem (Base.of w) own w1 → Seen w1 (some ⟨g, 0, none⟩) [.slice B L.length c] ∧ Seen w1 B (IL L) := fun m1 => ⟨hb.below m1.keeps.below, hB.below m1.keeps.below⟩
    by_cases hx : (f k).id = a0 L 0
    · have hf := fnd_is hlt hx hno
      rw [tr_yes hx] at hC
      rw [hf]
      (repeat' ((conv => whnf); first | refine go ?_ | (refine VSome.mk ?_; intro gQ hA'; first | subst hA' | cases hA' | (dsimp only at hA'; subst hA')) | refine And.intro ?_ ?_ | intro _ | (first | ((show VCall _ _ _ 150 _ _); refine VCall.grow _ (fun w1 m1 => hC w1 (hw m1).1 (hw m1).2) ?_))))
      all_goals ((conv => whnf); refine VRet.mk fun w' m => ?_)
      all_goals exact ⟨rfl, m.keeps.below⟩
    · rw [tr_no hx] at hC
      (repeat' ((conv => whnf); first | refine go ?_ | (refine VSome.mk ?_; intro gQ hA'; first | subst hA' | cases hA' | (dsimp only at hA'; subst hA')) | refine And.intro ?_ ?_ | intro _ | (first | ((show VCall _ _ _ 150 _ _); refine VCall.grow _ (fun w1 m1 => hC w1 (hw m1).1 (hw m1).2) ?_))))
      all_goals (conv => whnf)
      all_goals (refine VNext.mk (k + 1) ⟨hlt, fun j hj => ?_⟩ (by omega) ?_ (OwnLe.mk [] (by simp) rfl))
      · rcases Nat.lt_or_ge j k with h | h
        · exact hno j h
        · obtain rfl : j = k := by omega
          exact hx
      · ((conv => whnf); repeat (first | exact trivial | refine ⟨rfl, ?_⟩ | refine ⟨congrArg (Value.int .i64) (by first | omega | assumption | exact Eq.symm (by assumption)), ?_⟩))
  · obtain rfl : k = n := by omega
    have hf : fnd f (a0 L 0) k = none := by
      cases e : fnd f (a0 L 0) k with
      | none => rfl
      | some i => exact absurd (fnd_some e).2.1 (hno i (fnd_some e).1)
    rw [hf]
    (repeat' ((conv => whnf); first | refine go ?_ | (refine VSome.mk ?_; intro gQ hA'; first | subst hA' | cases hA' | (dsimp only at hA'; subst hA')) | refine And.intro ?_ ?_ | intro _))
    (conv => whnf); refine VRet.mk fun w' m => ?_
    exact ⟨rfl, m.keeps.below⟩
def mvF (f : Nat → Aw) (i j r : Nat) : Aw := if i ≤ r ∧ r + 1 < j then f (r + 1) else f r
theorem mvF_0 (f : Nat → Aw) (i r : Nat) : mvF f i (i + 1) r = f r := by unfold mvF; rw [if_neg (by omega)]
theorem mvF_at (f : Nat → Aw) (i j : Nat) : mvF f i j j = f j := by unfold mvF; rw [if_neg (by omega)]
theorem mvF_suc (f : Nat → Aw) {i j : Nat} (h : i < j) (r : Nat) : upd (mvF f i j) (j - 1) (f j) r = mvF f i (j + 1) r := by
  unfold upd mvF
  by_cases h1 : r = j - 1
  · subst h1
    rw [if_pos rfl, if_pos (by omega), show j - 1 + 1 = j by omega]
  · rw [if_neg h1]
    by_cases h2 : i ≤ r ∧ r + 1 < j
    · rw [if_pos h2, if_pos (by omega)]
    · rw [if_neg h2, if_neg (by omega)]
theorem mvF_end (f : Nat → Aw) {i n r : Nat} (h : r < n - 1) : mvF f i n r = delF f i r := by
  unfold mvF delF
  by_cases h1 : r < i
  · rw [if_neg (by omega), if_pos h1]
  · rw [if_pos (by omega), if_neg h1]
end Go.Proofs.YtadjhkehfklmnaaGreatDoor
namespace Go.Proofs.YtadjhkehfklmnaaGreatDoor
set_option linter.unusedSimpArgs false
set_option linter.unusedVariables false
open Go.RowKit
set_option maxRecDepth 10000
set_option maxHeartbeats 4000000 in
theorem delNo_v {w0 : Base} {w : World} (P B : Option Addr) (n cp g c : Nat) (f : Nat → Aw) (L : List Int) (hn : n ≤ 6) (hl : 0 < L.length) (hbx : OldSeen w0 (some ⟨g, 0, none⟩) [.slice B L.length c]) (hB : OldSeen w0 B (IL L)) (hf : fnd f (a0 L 0) n = none) (m0 : Mem w0 [.row (.slice P n cp) 98 4 n (AwS n f)] w) :
    Calls Tryz.prog 149 #[.slice P n cp, .func (.func 150) #[] #[.pointer (some ⟨g, 0, none⟩)]] w fun e w' => ∃ v, e = .returned v ∧ RetL (ι := Unit) (fun _ => True) (fun _ => .slice P n cp) (fun _ => [.row (.slice P n cp) 98 4 n (AwS n f)]) (fun _ => []) w0 v w' := by
  have hI := fun w hb hB hA => idxF_v P B n cp g c f L w (by omega) hl hb hB hA
  rw [hf, show ixO none = -1 from rfl] at hI
  refine calls_of_vcL (w0 := w0) tb_ok (args := [.slice P n cp, .func (.func 150) #[] #[.pointer (some ⟨g, 0, none⟩)]]) Tryz.func149 rfl m0 ?_
  (repeat' ((conv => whnf); first | refine go ?_ | (refine VSome.mk ?_; intro gQ hA'; first | subst hA' | cases hA' | (dsimp only at hA'; subst hA')) | refine And.intro ?_ ?_ | intro _ | (first | ((show VCall _ _ _ 184 _ _); refine VCall.grow _ (fun w1 m1 => hI w1 (hbx.now m1) (hB.now m1) (Sees.any m1 fndA)) ?_))))
  all_goals (conv => whnf)
  all_goals exact VRet.mk fun w' m => ⟨(), trivial, rfl, m.sel (ks := [0]) (by simp)⟩
set_option maxHeartbeats 8000000 in
theorem delYes_v {w0 : Base} {w : World} (P B : Option Addr) (n cp g c i : Nat) (f : Nat → Aw) (L : List Int) (hg : aGood n f) (hl : 0 < L.length) (hbx : OldSeen w0 (some ⟨g, 0, none⟩) [.slice B L.length c]) (hB : OldSeen w0 B (IL L)) (hf : fnd f (a0 L 0) n = some i) (m0 : Mem w0 [.row (.slice P n cp) 98 4 n (AwS n f)] w) :
    Calls Tryz.prog 149 #[.slice P n cp, .func (.func 150) #[] #[.pointer (some ⟨g, 0, none⟩)]] w fun e w' => ∃ v, e = .returned v ∧ RetL (ι := Unit) (fun _ => True) (fun _ => .slice P (n - 1) cp) (fun _ => [.row (.slice P (n - 1) cp) 98 4 (n - 1) (AwS (n - 1) (delF f i))]) (fun _ => []) w0 v w' := by
  have hn := hg.2
  obtain ⟨hi1, hi2, hi3⟩ := fnd_some hf
  obtain ⟨gP, rfl⟩ := row_some m0 (k := 0) rfl (by omega)
  have hcp := row_cap m0 (k := 0) rfl
  have hI := fun w hb hB hA => idxF_v (some ⟨gP, 0, none⟩) B n cp g c f L w (by omega) hl hb hB hA
  rw [hf, show ixO (some i) = (i : Int) from rfl] at hI
  have hC := fun a w hb hB => delC_v B g c L a w hl hb hB
  refine calls_of_vcL (w0 := w0) tb_ok (args := [.slice (some ⟨gP, 0, none⟩) n cp, .func (.func 150) #[] #[.pointer (some ⟨g, 0, none⟩)]]) Tryz.func149 rfl m0 ?_
  (repeat' ((conv => whnf); first | refine go ?_ | (refine VSome.mk ?_; intro gQ hA'; first | subst hA' | cases hA' | (dsimp only at hA'; subst hA')) | refine And.intro ?_ ?_ | intro _ | (first | ((show VCall _ _ _ 184 _ _); refine VCall.grow _ (fun w1 m1 => hI w1 (hbx.now m1) (hB.now m1) (Sees.any m1 fndA)) ?_))))
  (conv => whnf)
  refine VLoop.mk (ι := Nat) [5, 6, 7, 16, 17, 18, 19, 20, 21, 22, 23, 24, 25, 26, 27, 28, 29, 30, 31, 32, 33, 34, 35] (fun d => [(6, .int .i64 ((d : Int) + 1)), (5, .int .i64 d)]) (fun d => [.row (.slice (some ⟨gP, 0, none⟩) n cp) 98 4 n (AwS n (mvF f i (d + 1)))]) (fun d => i ≤ d ∧ d + 1 ≤ n) (fun d => n - d) i ⟨Nat.le_refl _, hi1⟩ ?_ (OwnLe.mk [0] (by simp) (by rw [AwS.congr (g := f) fun r _ => mvF_0 f i r]; rfl)) (fun d u hd => ?_)
  · ((conv => whnf); repeat (first | exact trivial | refine ⟨rfl, ?_⟩ | refine ⟨congrArg (Value.int .i64) (by first | omega | assumption | exact Eq.symm (by assumption)), ?_⟩))
  obtain ⟨hd1, hd2⟩ := hd
  by_cases hlt : d + 1 < n
  · have hx : (d : Int) + 1 = ((d + 1 : Nat) : Int) := by omega
    have hne : ¬ (f (d + 1)).id = a0 L 0 := by have := hg.lt (i := i) (j := d + 1) (by omega) hlt; omega
    have hC1 := hC (f (d + 1))
    rw [tr_no hne] at hC1
    have hel : ∀ (j : Nat) u, (f (d + 1)).cells[j]? = some u → (AwS n (mvF f i (d + 1)))[mulS (d + 1) 4 + j]? = some u := fun j u hj => by
      have hj4 : j < 4 := (List.getElem?_eq_some_iff.1 hj).1
      unfold AwS
      rw [mulS_eq, rowsN_get (f := fun r => (mvF f i (d + 1) r).cells) (s := 4) (fun _ => rfl) n (d + 1) j hlt hj4, mvF_at]
      exact hj
    have hst : setRange (AwS n (mvF f i (d + 1))) (d * 4) (f (d + 1)).cells = AwS n (mvF f i (d + 1 + 1)) := by
      unfold AwS
      rw [rowsN_set Aw.cells (s := 4) (fun _ => rfl) (mvF f i (d + 1)) (f (d + 1)) (by omega)]
      exact rowsN_congr fun r _ => by rw [← mvF_suc f (show i < d + 1 by omega)]; rfl
    (repeat' ((conv => whnf); first | refine go ?_ | (refine VSome.mk ?_; intro gQ hA'; first | subst hA' | cases hA' | (dsimp only at hA'; subst hA')) | refine And.intro ?_ ?_ | intro _ | (first | ((show VCall _ _ _ 150 _ _); refine VCall.grow _ (fun w1 m1 => hC1 w1 (hbx.now m1) (hB.now m1)) ?_) | ((show VLoadN _ _ _ _ _ _); refine VLoadN.row (vs := (f (d + 1)).cells) 0 rfl rfl (fun j u hj => hel j u hj) ?_) | ((show VStore _ _ _ _ _ _); refine VStore.rowAt 0 (d * 4) (by show mulS d 4 = d * 4; rw [mulS_eq]) rfl rfl (by rw [AwS.len]; show d * 4 + 4 ≤ n * 4; omega) rfl ?_))))
    all_goals (conv => whnf)
    all_goals (refine VNext.mk (d + 1) ⟨by omega, by omega⟩ (by omega) ?_ (OwnLe.mk [0] (by simp) (by rw [← hst]; rfl)); ((conv => whnf); repeat (first | exact trivial | refine ⟨rfl, ?_⟩ | refine ⟨congrArg (Value.int .i64) (by first | omega | assumption | exact Eq.symm (by assumption)), ?_⟩)))
  · obtain rfl : n = d + 1 := by omega
    have hfin : (AwS (d + 1) (mvF f i (d + 1))).take (d * 4) = AwS d (delF f i) := by
      unfold AwS
      rw [rowsN_take (f := fun r => (mvF f i (d + 1) r).cells) (s := 4) (fun _ => rfl) (Nat.le_succ d)]
      exact rowsN_congr fun r hr => by rw [mvF_end f (i := i) (n := d + 1) (show r < d + 1 - 1 from hr)]
    (repeat' ((conv => whnf); first | refine go ?_ | (refine VSome.mk ?_; intro gQ hA'; first | subst hA' | cases hA' | (dsimp only at hA'; subst hA')) | refine And.intro ?_ ?_ | intro _ | (first | ((show VCut _ _ _ _ none _ _); refine VCut.head d rfl (by omega) ?_) | ((show VCut _ _ _ _ _ _ _); refine VCut.lt gP 0 d (d + 1) rfl rfl rfl (by omega) (by omega) (by omega) ?_) | ((show VRawB _ _ _ _ _ _ _); refine VRawB.clearTail tb_ok rfl rfl rfl (by decide) rfl (k := 0) rfl d (by show 0 + mulS d 4 = d * 4; rw [mulS_eq]; omega) (by omega) (by omega) ?_))))
    all_goals (conv => whnf)
    exact VRet.mk fun w' m => ⟨(), trivial, rfl, by
      have m2 := m.sel (ks := [0]) (by simp)
      change Mem w0 [.row (.slice (some ⟨gP, 0, none⟩) d cp) 98 4 d ((AwS (d + 1) (mvF f i (d + 1))).take (d * 4))] w' at m2
      rw [hfin] at m2
      exact m2⟩
end Go.Proofs.YtadjhkehfklmnaaGreatDoor
namespace Go.Proofs.YtadjhkehfklmnaaGreatDoor
set_option linter.unusedSimpArgs false
set_option linter.unusedVariables false
open Go.RowKit
set_option maxRecDepth 10000
section
variable {α : Type}
theorem lst_room {xs L2 ac : List α} {p q : Nat} (h2 : L2 = xs.drop p) (hp : p + q ≤ xs.length) (hq : ac.length = q) :
    (xs.take (p + q) ++ L2 ++ xs.drop (p + q + L2.length)).take p ++ ac ++ (xs.take (p + q) ++ L2 ++ xs.drop (p + q + L2.length)).drop (p + ac.length) = xs.take p ++ ac ++ xs.drop p := by
  have e1 : (xs.take (p + q)).length = p + q := by rw [List.length_take]; omega
  have e2 : L2.length = xs.length - p := by rw [h2, List.length_drop]
  have e3 : xs.drop (p + q + L2.length) = [] := List.drop_eq_nil_of_le (by omega)
  have e4 : (xs.take (p + q) ++ L2).drop (p + q) = L2 := by
    conv => lhs; arg 1; rw [← e1]
    exact List.drop_left
  rw [e3, List.append_nil, List.take_append_of_le_length (by omega), List.take_take, Nat.min_eq_left (by omega), hq, e4, h2]
theorem lst_grow {L1 Z L2 ac : List α} {p q : Nat} (h1 : L1.length = p) (hz : Z.length = q + L2.length) (hq : ac.length = q) :
    ((L1 ++ Z).take p ++ ac ++ (L1 ++ Z).drop (p + ac.length)).take (p + q) ++ L2 ++ ((L1 ++ Z).take p ++ ac ++ (L1 ++ Z).drop (p + ac.length)).drop (p + q + L2.length) = L1 ++ ac ++ L2 := by
  have e1 : (L1 ++ Z).take p = L1 := by rw [← h1]; exact List.take_left
  have e2 : (L1 ++ ac).length = p + q := by rw [List.length_append]; omega
  have e3 : (L1 ++ ac ++ (L1 ++ Z).drop (p + ac.length)).drop (p + q + L2.length) = [] := List.drop_eq_nil_of_le (by
    simp only [List.length_append, List.length_drop]
    omega)
  rw [e1, e3, List.append_nil, ← e2, List.take_left]
end
theorem ins_row (n k : Nat) (f : Nat → Aw) (a : Aw) (hk : k ≤ n) : (AwS n f).take (k * 4) ++ a.cells ++ (AwS n f).drop (k * 4) = AwS (n + 1) (insF f k a) := by
  unfold AwS
  exact rows_ins Aw.cells (fun _ => rfl) f a hk
theorem VRawF.apart {w0 : Base} {own : List Own} {K : Value → List Own → Prop} {k j g gv c n o la ca lb cb : Nat} {xs cs : List Value} (hk : own[k]? = some (.row (.slice (some ⟨g, 0, none⟩) n c) 98 4 n xs)) (hj : own[j]? = some (.blk gv 98 cs)) (hkj : k ≠ j) (hc : 0 < c) (hcs : 0 < cs.length) (kk : K (.bool false) own) :
    VRawF Tryz.prog w0 own 215 [.slice (some ⟨gv, 0, none⟩) la ca, .slice (some ⟨g, o, none⟩) lb cb] K := by
  refine .mk (ι := Unit) (fun _ => True) (fun _ => .bool false) (fun _ => own) (fun w m => ⟨(), w, trivial, ?_, m⟩) (fun _ _ => kk)
  have h1 := m.ok k _ hk
  have h2 := m.ok j _ hj
  have hne : gv ≠ g := fun e => m.sep k j _ _ g hkj hk hj rfl (by rw [e]; rfl)
  obtain ⟨_, hxl, h3⟩ := h1
  rcases h3 with ⟨e1, _⟩ | ⟨g', cap, cur, e1, _, hg, hn, _, hs, _⟩
  · cases e1
  cases e1
  have hv := h2.2
  obtain ⟨z, hz⟩ : ∃ z : Nat, ∀ w, (Go.sizeOf 98).run Tryz.prog w = .ok z w := ⟨_, fun w => TabOk.sz tb_ok (t := 98) rfl w⟩
  show (callFunc 215 #[.slice (some ⟨gv, 0, none⟩) la ca, .slice (some ⟨g, o, none⟩) lb cb]).run Tryz.prog w = _
  rw [run_callFunc_extern Tryz.func215 (by kernel_rfl) (by kernel_rfl) (by kernel_rfl) (e := Extern.SlicesOverlaps.overlaps #[36, 36] #[4]) (by kernel_rfl),
    Lib.run_overlaps_apart w 36 4 98 Tryz.underlying36 z hz ⟨gv, 0, none⟩ ⟨g, o, none⟩ la ca lb cb hne 98 98 cs.length (c * 4) (by unfold World.shape?; rw [hv]; simp) (by unfold World.shape?; rw [hg]; simp [hs]) (by omega) (by unfold World.frozen?; rw [hv]; simp) (by unfold World.frozen?; rw [hv]; simp)]
  rfl
theorem VRawB.growTo {P : Program} {T : Tab} (hT : TabOk P T) {w0 : Base} {own : List Own} {K : Value → List Own → Prop} {t tn e : TypeId} {ti tj ei : TI} {kq kn : IntKind} (hd : ti.desc = .slice e) (ht : T.ty t = some ti) (hdn : tj.desc = .int kn) (htn : T.ty tn = some tj) (he : T.ty e = some ei) (hs0 : 0 < ei.size) (hb : ei.bytes ≤ 4096) {k g n c i q : Nat} {x : Int} {xs : List Value} (hk : own[k]? = some (.row (.slice (some ⟨g, 0, none⟩) n c) e ei.size n xs))
    (N : Nat) (hN : i + q = N) (hx : x = (q : Int)) (hi : i ≤ n) (hq : 0 < q) (hc : c < N) (hm : N ≤ 1048576)
    (kk : ∀ g' c', N ≤ c' → K (.slice (some ⟨g', 0, none⟩) N c') (own ++ [.row (.slice (some ⟨g', 0, none⟩) N c') e ei.size N (xs.take (i * ei.size) ++ zerosB ei.zero q)])) : VRawB P w0 own .append [t, tn] [.slice (some ⟨g, 0, none⟩) i c, .int kq x] K := by
  subst hN
  exact VRawB.growZeros hT hd ht hdn htn he hs0 hb hk hx hi hq hc hm kk
theorem VRawB.capOf {P : Program} {T : Tab} (hT : TabOk P T) {w0 : Base} {own : List Own} {K : Value → List Own → Prop} {t e : TypeId} {ti : TI} (hd : ti.desc = .slice e) (ht : T.ty t = some ti) {A : Option Addr} {n c : Nat} (kk : K (.int .i64 c) own) : VRawB P w0 own .cap [t] [.slice A n c] K := by
  refine .mk (ι := Unit) (fun _ => True) (fun _ => .int .i64 c) (fun _ => own) (fun ty cs w m => ⟨(), w, trivial, ?_, m⟩) (fun _ _ => kk)
  have hu := hT.und t _ ht
  rw [hd] at hu
  have h : (Builtin.cap_ #[t] ty #[.slice A n c]).run P w = .ok (.int .i64 c) w := by simp [Builtin.cap_, run_underlying hu, goInt]
  show (builtin .cap #[t] ty cs #[.slice A n c]).run P w = _
  simp only [builtin, Sem.run_bind, h, Result.andThen_ok, Sem.run_pure]
set_option maxHeartbeats 8000000 in
theorem insert_v {w0 : Base} {w : World} (P : Option Addr) (n cp gv k : Nat) (f : Nat → Aw) (a : Aw) (hn : n ≤ 6) (hk : k ≤ n) (m0 : Mem w0 [.row (.slice P n cp) 98 4 n (AwS n f), .blk gv 98 a.cells] w) :
    Calls Tryz.prog 183 #[.slice P n cp, .int .i64 k, .slice (some ⟨gv, 0, none⟩) 1 1] w fun e w' => ∃ v, e = .returned v ∧ RetL (ι := Nat × Nat) (fun i => n + 1 ≤ i.2) (fun (g, c) => .slice (some ⟨g, 0, none⟩) (n + 1) c) (fun (g, c) => [.row (.slice (some ⟨g, 0, none⟩) (n + 1) c) 98 4 (n + 1) (AwS (n + 1) (insF f k a)), .gone]) (fun _ => []) w0 v w' := by
  have hcp := row_cap m0 (k := 0) rfl
  have hP : Plain P := m0.plain At.here
  have hfin := ins_row n k f a hk
  refine calls_of_vcL (w0 := w0) tb_ok (args := [.slice P n cp, .int .i64 k, .slice (some ⟨gv, 0, none⟩) 1 1]) Tryz.func183 rfl m0 ?_
  by_cases hkn : k = n
  · subst hkn
    have e1 : (AwS k f).take (k * 4) = AwS k f := List.take_of_length_le (by rw [AwS.len]; exact Nat.le_refl _)
    have e2 : (AwS k f).drop (k * 4) = [] := List.drop_eq_nil_of_le (by rw [AwS.len]; exact Nat.le_refl _)
    rw [e1, e2, List.append_nil] at hfin
    (repeat' ((conv => whnf); first | refine go ?_ | (refine VSome.mk ?_; intro gQ hA'; first | subst hA' | cases hA' | (dsimp only at hA'; subst hA')) | refine And.intro ?_ ?_ | intro _ | (first | ((show VCut _ _ _ _ _ _ _); refine VCut.tail k rfl (by omega) (by omega) hP (fun C d _ _ => ?_)) | ((show VApp _ _ _ _ _ _ _); (apply VApp.pushAnyS; (focus ((repeat (first | exact At.here | apply At.there)); done)); (focus ((repeat (first | exact At.here | apply At.there)); done)); refine VAppPushS.mk rfl rfl (by omega) (by omega) (fun g' c' hcap => ?_))))))
    all_goals (conv => whnf)
    all_goals exact VRet.mk fun w' m => ⟨(g', c'), hcap, rfl, by
      have m2 := m.sel (ks := [0, 100]) (by simp)
      change Mem w0 [.row (.slice (some ⟨g', 0, none⟩) (k + 1) c') 98 4 (k + 1) (AwS k f ++ a.cells), .gone] w' at m2
      rw [hfin] at m2
      exact m2⟩
  obtain ⟨gP, rfl⟩ := row_some m0 (k := 0) rfl (by omega)
  have hl2 : ((AwS n f).drop (k * 4)).length = (n - k) * 4 := by rw [List.length_drop, AwS.len, Nat.sub_mul]
  have hone : ((AwS n f).drop (k * 4)).all (·.oneCell') = true := List.all_eq_true.2 fun x hx => List.all_eq_true.1 (AwS.one n f) x (List.mem_of_mem_drop hx)
  have hr2 : ∀ (j : Nat) u, ((AwS n f).drop (k * 4))[j]? = some u → (AwS n f)[0 + mulS k 4 + j]? = some u := fun j u hj => by
    rw [List.getElem?_drop] at hj
    rw [Nat.zero_add, mulS_eq]
    exact hj
  have hr3 : ∀ (j : Nat) u, a.cells[j]? = some u → a.cells[0 + j]? = some u := fun j u hj => by rw [Nat.zero_add]; exact hj
  have hp1 : 0 + mulS k 4 = k * 4 := by rw [mulS_eq]; omega
  have hp2 : 0 + mulS (k + 1) 4 = k * 4 + 4 := by rw [mulS_eq]; omega
  have hln := AwS.len n f
  have hac : a.cells.length = 4 := rfl
  have hcast2 : (k : Int) + 1 = ((k + 1 : Nat) : Int) := by omega
  by_cases hroom : n + 1 ≤ cp
  · have hlst := lst_room (xs := AwS n f) (L2 := (AwS n f).drop (k * 4)) (ac := a.cells) (p := k * 4) (q := 4) rfl (by omega) rfl
    rw [hfin] at hlst
    have hm1 : Nat.min (n + 1 - k) (n + 1 - (k + 1)) = n - k := by simp only [Nat.min_def]; split <;> omega
    have hm2 : Nat.min 1 (n + 1 - k) = 1 := by simp only [Nat.min_def]; split <;> omega
    have hcast : (n : Int) + 1 = ((n + 1 : Nat) : Int) := by omega
    have hys : ((AwS n f).take (k * 4 + 4) ++ (AwS n f).drop (k * 4) ++ (AwS n f).drop (k * 4 + 4 + ((AwS n f).drop (k * 4)).length)).length = (n + 1) * 4 := by
      rw [List.length_append, List.length_append, hl2, List.length_take, List.length_drop, hln]
      omega
    (repeat' ((conv => whnf); first | refine go ?_ | (refine VSome.mk ?_; intro gQ hA'; first | subst hA' | cases hA' | (dsimp only at hA'; subst hA')) | refine And.intro ?_ ?_ | intro _ | (first | ((show VDraw _ _ _ #[{ dst := some 69, op := _, type := _, pos := _, after := _, guard := _ }, _, _, _, _, _, _, _, _] _ _); refine VDraw.mk (.take 0 (.take 1 (.take 2 (.take 3 (.take 4 (.take 5 (.take 6 (.take 7 (.br 8 .done .done))))))))) [] (by kernel_rfl) (by kernel_rfl) ?_) | ((show VCut _ _ _ _ none _ _); refine VCut.head (n + 1) hcast (by omega) ?_) | ((show VCut _ _ _ _ _ none _); first | refine VCut.lt gP 0 k n rfl rfl rfl (by omega) (by omega) (by omega) ?_ | refine VCut.lt gP 0 (k + 1) (n + 1) rfl hcast2 rfl (by omega) (by omega) (by omega) ?_ | refine VCut.lt gP 0 k (n + 1) rfl rfl rfl (by omega) (by omega) (by omega) ?_) | ((show VRawF _ _ _ _ _ _); refine VRawF.apart (k := 0) (j := 1) rfl rfl (by decide) (by omega) (Nat.succ_pos 3) ?_) | ((show VRawB _ _ _ .cap _ _ _); refine VRawB.capOf tb_ok rfl rfl ?_) | ((show VRawB _ _ _ .copy _ _ _); first | refine VRawB.copyAt tb_ok rfl rfl rfl (k := 0) rfl (n - k) hm1 ((AwS n f).drop (k * 4)) hl2 (fun j u hj => Rd.row 0 rfl (hr2 j u hj)) hone (n + 1) ((AwS n f).take (k * 4 + 4) ++ (AwS n f).drop (k * 4) ++ (AwS n f).drop (k * 4 + 4 + ((AwS n f).drop (k * 4)).length)) (by show 0 + mulS (k + 1) 4 ≤ _; omega) (by show List.take (0 + mulS (k + 1) 4) _ ++ _ ++ List.drop (0 + mulS (k + 1) 4 + _) _ = _; rw [hp2]) hys hroom ?_ | refine VRawB.copyAt tb_ok rfl rfl rfl (k := 0) rfl 1 hm2 a.cells rfl (fun j u hj => Rd.own 1 rfl (hr3 j u hj)) rfl (n + 1) (AwS (n + 1) (insF f k a)) (by show 0 + mulS k 4 ≤ _; rw [List.length_append, List.length_append, hl2, List.length_take, List.length_drop, hln]; omega) (by show List.take (0 + mulS k 4) _ ++ _ ++ List.drop (0 + mulS k 4 + _) _ = _; rw [hp1]; exact hlst) (AwS.len _ _) hroom ?_))))
    all_goals (conv => whnf)
    all_goals exact VRet.mk fun w' m => ⟨(gP, cp), hroom, rfl, m.sel (ks := [0, 100]) (by simp)⟩
  · have hL1 : ((AwS n f).take (k * 4)).length = k * 4 := by rw [List.length_take]; omega
    have hZ : ∀ z : List Value, z.length = 4 → (zerosB z (n + 1 - k)).length = 4 + ((AwS n f).drop (k * 4)).length := fun z hz => by rw [zerosB_length, hz, hl2]; omega
    have hlst := fun z hz => lst_grow (L1 := (AwS n f).take (k * 4)) (Z := zerosB z (n + 1 - k)) (L2 := (AwS n f).drop (k * 4)) (ac := a.cells) (p := k * 4) (q := 4) hL1 (hZ z hz) rfl
    rw [hfin] at hlst
    have hm1 : Nat.min (n - k) (n + 1 - (k + 1)) = n - k := by simp only [Nat.min_def]; split <;> omega
    have hm2 : Nat.min 1 (n + 1 - k) = 1 := by simp only [Nat.min_def]; split <;> omega
    obtain ⟨zz, hzz⟩ : ∃ zz : List Value, zz = [.int .i64 0, .bool false, .int .i64 0, .int .i64 0] := ⟨_, rfl⟩
    have hzl : zz.length = 4 := by rw [hzz]; rfl
    obtain ⟨G, hGe⟩ : ∃ G, G = (AwS n f).take (k * 4) ++ zerosB zz (n + 1 - k) := ⟨_, rfl⟩
    obtain ⟨G1, hG1e⟩ : ∃ G1, G1 = G.take (k * 4) ++ a.cells ++ G.drop (k * 4 + a.cells.length) := ⟨_, rfl⟩
    have hG : G.length = (n + 1) * 4 := by rw [hGe, List.length_append, hL1, hZ zz hzl, hl2]; omega
    have hG1 : G1.length = (n + 1) * 4 := by rw [hG1e, List.length_append, List.length_append, List.length_take, List.length_drop, hG, hac]; omega
    have hlz := hlst zz hzl
    rw [← hGe, ← hG1e] at hlz
    have hGx : (AwS n f).take (k * 4) ++ zerosB [.int .i64 0, .bool false, .int .i64 0, .int .i64 0] (n + 1 - k) = G := by rw [hGe, hzz]
    have hxq : (n : Int) + 1 - (k : Int) = ((n + 1 - k : Nat) : Int) := by omega
    (repeat' ((conv => whnf); first | refine go ?_ | (refine VSome.mk ?_; intro gQ hA'; first | subst hA' | cases hA' | (dsimp only at hA'; subst hA')) | refine And.intro ?_ ?_ | intro _ | (first | ((show VDraw _ _ _ #[{ dst := some 46, op := _, type := _, pos := _, after := _, guard := _ }, _, _, _, _, _, _, _, _] _ _); refine VDraw.mk (.take 0 (.take 1 (.take 2 (.take 3 (.take 4 (.take 5 (.take 6 (.take 7 (.br 8 .done .done))))))))) [] (by kernel_rfl) (by kernel_rfl) ?_) | ((show VCut _ _ _ _ none _ _); refine VCut.head k rfl (by omega) ?_) | ((show VCut _ _ _ _ _ none _); first | refine VCut.lt _ 0 k n rfl rfl rfl (by omega) (by omega) (by omega) ?_ | refine VCut.lt _ 0 (k + 1) (n + 1) rfl hcast2 rfl (by omega) (by omega) (by omega) ?_ | refine VCut.lt _ 0 k (n + 1) rfl rfl rfl (by omega) (by omega) (by omega) ?_) | ((show VRawB _ _ _ .cap _ _ _); refine VRawB.capOf tb_ok rfl rfl ?_) | ((show VRawB _ _ _ .append _ _ _); refine VRawB.growTo tb_ok rfl rfl rfl rfl rfl (by decide) (by decide) (k := 0) rfl (q := n + 1 - k) (n + 1) (by omega) hxq (by omega) (by omega) (by omega) (by omega) (fun g2 c2 hc2 => ?_)) | ((show VRawB _ _ _ .copy _ _ _); first | refine VRawB.copyAt tb_ok rfl rfl rfl (k := 2) rfl 1 hm2 a.cells rfl (fun j u hj => Rd.own 1 rfl (hr3 j u hj)) rfl (n + 1) G1 (by show 0 + mulS k 4 ≤ _; exact Nat.le_trans (by omega) (Nat.le_of_eq (hG.symm.trans (congrArg List.length hGx.symm)))) (by show List.take (0 + mulS k 4) ((AwS n f).take (k * 4) ++ zerosB [.int .i64 0, .bool false, .int .i64 0, .int .i64 0] (n + 1 - k)) ++ _ ++ List.drop (0 + mulS k 4 + _) ((AwS n f).take (k * 4) ++ zerosB [.int .i64 0, .bool false, .int .i64 0, .int .i64 0] (n + 1 - k)) = _; rw [hp1, hGx, hG1e]) hG1 hc2 ?_ | refine VRawB.copyAt tb_ok rfl rfl rfl (k := 2) rfl (n - k) hm1 ((AwS n f).drop (k * 4)) hl2 (fun j u hj => Rd.row 0 rfl (hr2 j u hj)) hone (n + 1) (AwS (n + 1) (insF f k a)) (by show 0 + mulS (k + 1) 4 ≤ _; omega) (by show List.take (0 + mulS (k + 1) 4) G1 ++ _ ++ List.drop (0 + mulS (k + 1) 4 + _) G1 = _; rw [hp2]; exact hlz) (AwS.len _ _) hc2 ?_))))
    all_goals (conv => whnf)
    all_goals exact VRet.mk fun w' m => ⟨(g2, c2), hc2, rfl, m.sel (ks := [2, 100]) (by simp)⟩
end Go.Proofs.YtadjhkehfklmnaaGreatDoor
namespace Go.Proofs.YtadjhkehfklmnaaGreatDoor
set_option linter.unusedSimpArgs false
set_option linter.unusedVariables false
open Go.RowKit
set_option maxRecDepth 10000
theorem aw_id {n k : Nat} {f : Nat → Aw} (h : k < n) : (AwS n f)[mulS k 4 + 0]? = some (.int .i64 (f k).id) := by
  unfold AwS
  rw [mulS_eq, rowsN_get (f := fun i => (f i).cells) (s := 4) (fun _ => rfl) n k 0 h (by decide)]
  rfl
set_option maxHeartbeats 8000000 in
theorem iArrive_v {w0 : Base} {w : World} (d : Co) (gc : Nat) (A1 : Option Addr) (c1 : Nat) (A2 : Option Addr) (c2 : Nat) (a : Aw) (hn : d.m ≤ 6) (m0 : Mem w0 [.blk gc 39 (d.at A1 c1 A2 c2), .row (.slice A2 d.m c2) 98 4 d.m (AwS d.m d.wa)] w) :
    Calls Tryz.prog 148 #[.pointer (some ⟨gc, 0, none⟩), .agg a.cells.toArray] w fun e w' => ∃ v, e = .returned v ∧ RetL (ι := Nat × Nat) (fun _ => True) (fun _ => .bool (tr (aGood (d.m + 1) (insF d.wa (plc d.wa a.id d.m 0) a)))) (fun (g, c) => [.blk gc 39 ((d.arr (plc d.wa a.id d.m 0) a).at A1 c1 (some ⟨g, 0, none⟩) c), .row (.slice (some ⟨g, 0, none⟩) (d.m + 1) c) 98 4 (d.m + 1) (AwS (d.m + 1) (insF d.wa (plc d.wa a.id d.m 0) a))]) (fun _ => []) w0 v w' := by
  refine calls_of_vcL (w0 := w0) tb_ok (args := [.pointer (some ⟨gc, 0, none⟩), .agg a.cells.toArray]) Tryz.func148 rfl m0 ?_
  (repeat' ((conv => whnf); first | refine go ?_ | (refine VSome.mk ?_; intro gQ hA'; first | subst hA' | cases hA' | (dsimp only at hA'; subst hA')) | refine And.intro ?_ ?_ | intro _))
  rename_i g3
  (conv => whnf)
  refine VLoop.mk (ι := Nat) [5, 6, 7, 8, 9, 10, 11, 12, 13, 14, 15, 16, 17, 18, 19, 20, 21, 22, 23, 24, 25, 26, 27] (fun k => [(5, .int .i64 k)]) (fun _ => [.blk gc 39 (d.at A1 c1 A2 c2), .row (.slice A2 d.m c2) 98 4 d.m (AwS d.m d.wa), .blk g3 98 a.cells]) (fun k => k ≤ d.m ∧ plc d.wa a.id d.m 0 = plc d.wa a.id (d.m - k) k) (fun k => d.m - k) 0 ⟨Nat.zero_le _, rfl⟩ ?_ (OwnLe.mk [0, 1, 2] (by simp) rfl) (fun k u hk => ?_)
  · ((conv => whnf); repeat (first | exact trivial | refine ⟨rfl, ?_⟩ | refine ⟨congrArg (Value.int .i64) (by first | omega | assumption | exact Eq.symm (by assumption)), ?_⟩))
  obtain ⟨hk, hp⟩ := hk
  by_cases hgo : k < d.m ∧ (d.wa k).id < a.id
  · have h1 := aw_id (f := d.wa) hgo.1
    have h2 := hgo.1
    have h3 := hgo.2
    have e : d.m - k = (d.m - (k + 1)) + 1 := by omega
    (repeat' ((conv => whnf); first | refine go ?_ | (refine VSome.mk ?_; intro gQ hA'; first | subst hA' | cases hA' | (dsimp only at hA'; subst hA')) | refine And.intro ?_ ?_ | intro _ | (first | ((show VDraw _ _ _ #[{ dst := some 6, op := _, type := _, pos := _, after := _, guard := _ }, _, _, _, _, _, _, _, _, _, _, _, _, _, _, _, _, _, _, _] _ _); refine VDraw.mk (.take 0 (.take 1 (.take 2 (.take 3 (.take 4 (.take 5 (.take 6 (.take 7 (.take 8 (.take 9 (.take 10 (.take 11 (.take 12 (.take 13 (.take 14 (.take 15 (.take 16 (.take 17 (.take 18 (.take 19 .done)))))))))))))))))))) [0, 1, 2] (by kernel_rfl) (by kernel_rfl) ?_))))
    all_goals (conv => whnf)
    all_goals (refine VNext.mk (k + 1) ⟨by omega, by rw [hp, e, plc_go h3]⟩ (by omega) ?_ (OwnLe.mk [0, 1, 2] (by simp) rfl); ((conv => whnf); repeat (first | exact trivial | refine ⟨rfl, ?_⟩ | refine ⟨congrArg (Value.int .i64) (by first | omega | assumption | exact Eq.symm (by assumption)), ?_⟩)))
  · have hpk : plc d.wa a.id d.m 0 = k := by
      rw [hp]
      rcases Nat.lt_or_ge k d.m with h | h
      · rw [show d.m - k = (d.m - (k + 1)) + 1 by omega, plc_stop (fun q => hgo ⟨h, q⟩)]
      · rw [show d.m - k = 0 by omega]; rfl
    rw [hpk]
    by_cases h2 : k < d.m
    · have h1 := aw_id (f := d.wa) h2
      have h3 : ¬ (d.wa k).id < a.id := fun q => hgo ⟨h2, q⟩
      (repeat' ((conv => whnf); first | refine go ?_ | (refine VSome.mk ?_; intro gQ hA'; first | subst hA' | cases hA' | (dsimp only at hA'; subst hA')) | refine And.intro ?_ ?_ | intro _ | (first | ((show VDraw _ _ _ #[{ dst := some 6, op := _, type := _, pos := _, after := _, guard := _ }, _, _, _, _, _, _, _, _, _, _, _, _, _, _, _, _, _, _, _] _ _); refine VDraw.mk (.take 0 (.take 1 (.take 2 (.take 3 (.take 4 (.take 5 (.take 6 (.take 7 (.take 8 (.take 9 (.take 10 (.take 11 (.take 12 (.take 13 (.take 14 (.take 15 (.take 16 (.take 17 (.take 18 (.take 19 .done)))))))))))))))))))) [0, 1, 2] (by kernel_rfl) (by kernel_rfl) ?_) | ((show VDraw _ _ _ #[{ dst := some 28, op := _, type := _, pos := _, after := _, guard := _ }, _, _, _, _, _, _, _, _, _, _, _] _ _); refine VDraw.mk (.take 0 (.take 1 (.take 2 (.take 3 (.take 5 (.take 6 (.br 4 (.br 7 (.br 8 (.take 9 (.take 10 (.br 11 .done .done))) .done) .done) (.br 7 (.br 4 (.br 8 (.take 9 (.take 10 (.br 11 .done .done))) .done) .done) .done)))))))) [2] (by kernel_rfl) (by kernel_rfl) ?_) | ((show VCall _ _ _ 183 _ _); refine VCall.fullS [1, 3] (by simp) (fun _ => rfl) (fun w1 m1 m2 => insert_v _ d.m c2 _ k d.wa a hn hk m2) (fun (g, c) hi => ?_)) | ((show VCall _ _ _ 88 _ _); refine VCall.test _ (fun w1 m1 => iArr_v _ _ _ _ w1 (by omega) (Sees.any m1 fndA)) ?_))))
      all_goals (conv => whnf)
      all_goals first | exact VRet.mk fun w' m => ⟨(g, c), trivial, congrArg Value.bool (tr_yes (by assumption)).symm, m.sel (ks := [0, 1]) (by simp)⟩ | exact VRet.mk fun w' m => ⟨(g, c), trivial, congrArg Value.bool (tr_no (by assumption)).symm, m.sel (ks := [0, 1]) (by simp)⟩
    · have hkm : k = d.m := by omega
      (repeat' ((conv => whnf); first | refine go ?_ | (refine VSome.mk ?_; intro gQ hA'; first | subst hA' | cases hA' | (dsimp only at hA'; subst hA')) | refine And.intro ?_ ?_ | intro _ | (first | ((show VDraw _ _ _ #[{ dst := some 6, op := _, type := _, pos := _, after := _, guard := _ }, _, _, _, _, _, _, _, _, _, _, _, _, _, _, _, _, _, _, _] _ _); refine VDraw.mk (.take 0 (.take 1 (.take 2 (.take 3 (.take 4 (.take 5 (.take 6 (.take 7 (.take 8 (.take 9 (.take 10 (.take 11 (.take 12 (.take 13 (.take 14 (.take 15 (.take 16 (.take 17 (.take 18 (.take 19 .done)))))))))))))))))))) [0, 1, 2] (by kernel_rfl) (by kernel_rfl) ?_) | ((show VDraw _ _ _ #[{ dst := some 28, op := _, type := _, pos := _, after := _, guard := _ }, _, _, _, _, _, _, _, _, _, _, _] _ _); refine VDraw.mk (.take 0 (.take 1 (.take 2 (.take 3 (.take 5 (.take 6 (.br 4 (.br 7 (.br 8 (.take 9 (.take 10 (.br 11 .done .done))) .done) .done) (.br 7 (.br 4 (.br 8 (.take 9 (.take 10 (.br 11 .done .done))) .done) .done) .done)))))))) [2] (by kernel_rfl) (by kernel_rfl) ?_) | ((show VCall _ _ _ 183 _ _); refine VCall.fullS [1, 3] (by simp) (fun _ => rfl) (fun w1 m1 m2 => insert_v _ d.m c2 _ k d.wa a hn hk m2) (fun (g, c) hi => ?_)) | ((show VCall _ _ _ 88 _ _); refine VCall.test _ (fun w1 m1 => iArr_v _ _ _ _ w1 (by omega) (Sees.any m1 fndA)) ?_))))
      all_goals (conv => whnf)
      all_goals first | exact VRet.mk fun w' m => ⟨(g, c), trivial, congrArg Value.bool (tr_yes (by assumption)).symm, m.sel (ks := [0, 1]) (by simp)⟩ | exact VRet.mk fun w' m => ⟨(g, c), trivial, congrArg Value.bool (tr_no (by assumption)).symm, m.sel (ks := [0, 1]) (by simp)⟩
end Go.Proofs.YtadjhkehfklmnaaGreatDoor
namespace Go.Proofs.YtadjhkehfklmnaaGreatDoor
set_option linter.unusedSimpArgs false
set_option linter.unusedVariables false
open Go.RowKit
set_option maxRecDepth 10000
theorem Co.ex_step (d : Co) (l : List Int) : d.ex wStep l = if tr (d.lock.okStep (a0 l 0)) then some ({ d with lock := d.lock.move (a0 l 0) }, wOk) else none := rfl
theorem Co.ex_go (d : Co) (l : List Int) : d.ex wGo l = some ({ d with lock := (d.lock.run (d.lock.plan (isOne (a0 l 0)))).1 }, Lib.itoa (d.lock.run (d.lock.plan (isOne (a0 l 0)))).1.level) := by unfold Co.ex; rw [if_neg (by decide), if_pos rfl]
theorem Co.ex_plan (d : Co) (l : List Int) : d.ex wPlan l = some (d, ltx (d.lock.plan (isOne (a0 l 0)))) := by unfold Co.ex; rw [if_neg (by decide), if_neg (by decide), if_pos rfl]
theorem Co.ex_head (d : Co) (l : List Int) : d.ex wHead l = some (d, Lib.itoa (d.lock.head (isOne (a0 l 0)))) := by unfold Co.ex; rw [if_neg (by decide), if_neg (by decide), if_neg (by decide), if_pos rfl]
theorem Co.ex_level (d : Co) (l : List Int) : d.ex wLevel l = some (d, Lib.itoa d.lock.level) := by unfold Co.ex; rw [if_neg (by decide), if_neg (by decide), if_neg (by decide), if_neg (by decide), if_pos rfl]
theorem Co.ex_flow (d : Co) (l : List Int) : d.ex wFlow l = if tr (bCan d.n d.ba (a0 l 0) (a0 l 1) (a0 l 2)) then some ({ d with ba := bMv d.ba (a0 l 0) (a0 l 1) (a0 l 2) }, wOk) else none := by unfold Co.ex; rw [if_neg (by decide), if_neg (by decide), if_neg (by decide), if_neg (by decide), if_neg (by decide), if_pos rfl]
theorem Co.ex_water (d : Co) (l : List Int) : d.ex wWater l = some (d, Lib.itoa (smI (fun i => (d.ba i).vol) d.n)) := by unfold Co.ex; rw [if_neg (by decide), if_neg (by decide), if_neg (by decide), if_neg (by decide), if_neg (by decide), if_neg (by decide), if_pos rfl]
theorem Co.ex_arrive (d : Co) (l : List Int) : d.ex wArrive l = if tr (aGood (d.m + 1) (insF d.wa (plc d.wa (a0 l 0) d.m 0) ⟨a0 l 0, isOne (a0 l 1), a0 l 2, a0 l 3⟩)) then some (d.arr (plc d.wa (a0 l 0) d.m 0) ⟨a0 l 0, isOne (a0 l 1), a0 l 2, a0 l 3⟩, wOk) else none := by unfold Co.ex; rw [if_neg (by decide), if_neg (by decide), if_neg (by decide), if_neg (by decide), if_neg (by decide), if_neg (by decide), if_neg (by decide), if_pos rfl]
theorem Co.ex_leave (d : Co) (l : List Int) : d.ex wLeave l = match fnd d.wa (a0 l 0) d.m with
    | some k => some (d.lve k, wOk)
    | none => none := by unfold Co.ex; rw [if_neg (by decide), if_neg (by decide), if_neg (by decide), if_neg (by decide), if_neg (by decide), if_neg (by decide), if_neg (by decide), if_neg (by decide), if_pos rfl]; cases fnd d.wa (a0 l 0) d.m <;> rfl
theorem Co.ex_bound (d : Co) (l : List Int) : d.ex wBound l = if tr (1 ≤ a0 l 0 ∧ a0 l 0 ≤ 60) then some (d, Lib.itoa (loB d.wa (a0 l 0) d.lock.high d.m)) else none := by unfold Co.ex; rw [if_neg (by decide), if_neg (by decide), if_neg (by decide), if_neg (by decide), if_neg (by decide), if_neg (by decide), if_neg (by decide), if_neg (by decide), if_neg (by decide)]; by_cases h : 1 ≤ a0 l 0 ∧ a0 l 0 ≤ 60; (rw [ite_tr h, ite_tr h, if_pos rfl]); (rw [ite_ntr h, ite_ntr h])
theorem Co.ex_delay (d : Co) (l : List Int) : d.ex wDelay l = if tr (1 ≤ a0 l 0 ∧ a0 l 0 ≤ 60) then some (d, Lib.itoa (best d.m d.wa (a0 l 0) d.lock.high d.m []).2) else none := by unfold Co.ex; rw [if_neg (by decide), if_neg (by decide), if_neg (by decide), if_neg (by decide), if_neg (by decide), if_neg (by decide), if_neg (by decide), if_neg (by decide), if_neg (by decide)]; by_cases h : 1 ≤ a0 l 0 ∧ a0 l 0 ≤ 60; (rw [ite_tr h, ite_tr h, if_neg (by decide), if_pos rfl]); (rw [ite_ntr h, ite_ntr h])
theorem Co.ex_best (d : Co) (l : List Int) : d.ex wBest l = if tr (1 ≤ a0 l 0 ∧ a0 l 0 ≤ 60) then some (d, ltx (idsOf d.wa (best d.m d.wa (a0 l 0) d.lock.high d.m []).1)) else none := by unfold Co.ex; rw [if_neg (by decide), if_neg (by decide), if_neg (by decide), if_neg (by decide), if_neg (by decide), if_neg (by decide), if_neg (by decide), if_neg (by decide), if_neg (by decide)]; by_cases h : 1 ≤ a0 l 0 ∧ a0 l 0 ≤ 60; (rw [ite_tr h, ite_tr h, if_neg (by decide), if_neg (by decide)]); (rw [ite_ntr h, ite_ntr h])
noncomputable def Co.fin (d : Co) : Option (Co × List UInt8) → Co × List UInt8
  | some r => r
  | none => (d, wAsk)
noncomputable def Co.cmdW (d : Co) (w : List UInt8) (r : List (List UInt8)) : Co × List UInt8 := match (if (pat w).2 = true then rwZ (pat w).1 r else none) with
  | some l => d.fin (d.ex w l)
  | none => (d, wAsk)
theorem Co.cmd_sps {line w : List UInt8} {r : List (List UInt8)} (h : sps 32 line = w :: r) (d : Co) : d.cmd line = d.cmdW w r := by
  unfold Co.cmd Co.cmdW parse
  rw [h]
  dsimp only
  by_cases h2 : (pat w).2 = true
  · rw [if_pos h2, if_pos h2]
    cases rwZ (pat w).1 r with
    | none => rfl
    | some l =>
      show (match d.ex w l with
        | some r => r
        | none => (d, wAsk)) = d.fin (d.ex w l)
      cases d.ex w l <;> rfl
  · rw [if_neg h2, if_neg h2]
theorem Co.cmdW_no {d : Co} {w : List UInt8} {r : List (List UInt8)} (h : (pat w).2 = true → rwZ (pat w).1 r = none) : d.cmdW w r = (d, wAsk) := by
  unfold Co.cmdW
  by_cases h2 : (pat w).2 = true
  · rw [if_pos h2, h h2]
  · rw [if_neg h2]
theorem Co.cmdW_yes {d : Co} {w : List UInt8} {r : List (List UInt8)} {l : List Int} (h1 : (pat w).2 = true) (h : rwZ (pat w).1 r = some l) : d.cmdW w r = d.fin (d.ex w l) := by
  unfold Co.cmdW
  rw [if_pos h1, h]
theorem pat_all (w : List UInt8) : ((w = wLevel ∨ w = wWater) ∧ pat w = ([], true)) ∨ ((w = wStep ∨ w = wLeave ∨ w = wBest ∨ w = wDelay ∨ w = wBound) ∧ pat w = ([110], true)) ∨ ((w = wGo ∨ w = wPlan ∨ w = wHead) ∧ pat w = ([115], true)) ∨ (w = wFlow ∧ pat w = ([110, 110, 110], true)) ∨ (w = wArrive ∧ pat w = ([110, 119, 110, 110], true)) ∨ ((¬ w = wLevel ∧ ¬ w = wWater ∧ ¬ w = wStep ∧ ¬ w = wLeave ∧ ¬ w = wBest ∧ ¬ w = wDelay ∧ ¬ w = wBound ∧ ¬ w = wGo ∧ ¬ w = wPlan ∧ ¬ w = wHead ∧ ¬ w = wFlow ∧ ¬ w = wArrive) ∧ pat w = ([], false)) := by
  by_cases h1 : w = wLevel ∨ w = wWater
  · exact .inl ⟨h1, by unfold pat; rw [if_pos h1]⟩
  by_cases h2 : w = wStep ∨ w = wLeave ∨ w = wBest ∨ w = wDelay ∨ w = wBound
  · exact .inr (.inl ⟨h2, by unfold pat; rw [if_neg h1, if_pos h2]⟩)
  by_cases h3 : w = wGo ∨ w = wPlan ∨ w = wHead
  · exact .inr (.inr (.inl ⟨h3, by unfold pat; rw [if_neg h1, if_neg h2, if_pos h3]⟩))
  by_cases h4 : w = wFlow
  · exact .inr (.inr (.inr (.inl ⟨h4, by unfold pat; rw [if_neg h1, if_neg h2, if_neg h3, if_pos h4]⟩)))
  by_cases h5 : w = wArrive
  · exact .inr (.inr (.inr (.inr (.inl ⟨h5, by unfold pat; rw [if_neg h1, if_neg h2, if_neg h3, if_neg h4, if_pos h5]⟩))))
  · refine .inr (.inr (.inr (.inr (.inr ⟨?_, by unfold pat; rw [if_neg h1, if_neg h2, if_neg h3, if_neg h4, if_neg h5]⟩))))
    simp only [not_or] at h1 h2 h3
    exact ⟨h1.1, h1.2, h2.1, h2.2.1, h2.2.2.1, h2.2.2.2.1, h2.2.2.2.2, h3.1, h3.2.1, h3.2.2, h4, h5⟩
theorem rwZ_no_len {ps : List UInt8} {ws : List (List UInt8)} (h : ¬ ws.length = ps.length) : rwZ ps ws = none := by
  cases e : rwZ ps ws with
  | none => rfl
  | some l => exact absurd (rwZ_len e).1 h
theorem rwZ_one (p : UInt8) (x : List UInt8) : rwZ [p] [x] = (rw1 p x).map fun y => [y] := by
  rw [rwZ_cons]
  cases rw1 p x <;> rfl
theorem rd_high : rdV wHigh = (0, false) := rdV_no_digit (k := 0) (by decide) (by decide)
theorem rd_low : rdV wLow = (0, false) := rdV_no_digit (k := 0) (by decide) (by decide)
theorem rw_num (x : List UInt8) : rw1 110 x = if (rdV x).2 = true then some (rdV x).1 else none := rw1_num rfl
def sideW (hi : Bool) : List UInt8 := if hi then wHigh else wLow
theorem rd_side (hi : Bool) : rdV (sideW hi) = (0, false) := by cases hi; exact rd_low; exact rd_high
theorem rw_side (hi : Bool) : rw1 115 (sideW hi) = some (if hi then 1 else 0) := by cases hi <;> rfl
theorem one_side (hi : Bool) : isOne (a0 [if hi then 1 else 0] 0) = hi := by cases hi <;> rfl
noncomputable def Co.sideV (d : Co) (w : List UInt8) (hi : Bool) : Co × List UInt8 :=
  if w = wPlan then (d, ltx (d.lock.plan hi)) else if w = wHead then (d, Lib.itoa (d.lock.head hi)) else if w = wGo then ({ d with lock := (d.lock.run (d.lock.plan hi)).1 }, Lib.itoa (d.lock.run (d.lock.plan hi)).1.level) else (d, wAsk)
theorem Co.cmdW_side (d : Co) (w : List UInt8) (hi : Bool) : d.cmdW w [sideW hi] = d.sideV w hi := by
  have hn : rwZ [110] [sideW hi] = none := by rw [rwZ_one, rw_num, rd_side]; rfl
  have hy : rwZ [115] [sideW hi] = some [if hi then 1 else 0] := by rw [rwZ_one, rw_side]; rfl
  rcases pat_all w with ⟨h, hp⟩ | ⟨h, hp⟩ | ⟨h, hp⟩ | ⟨h, hp⟩ | ⟨h, hp⟩ | ⟨h, hp⟩
  · rw [Co.cmdW_no fun _ => by rw [hp]; exact rwZ_no_len (by show ¬ (1 = 0); decide)]
    rcases h with h | h <;> (subst h; unfold Co.sideV; rw [if_neg (by decide), if_neg (by decide), if_neg (by decide)])
  · rw [Co.cmdW_no fun _ => by rw [hp]; exact hn]
    rcases h with h | h | h | h | h <;> (subst h; unfold Co.sideV; rw [if_neg (by decide), if_neg (by decide), if_neg (by decide)])
  · rw [Co.cmdW_yes (by rw [hp]) (by rw [hp]; exact hy)]
    rcases h with h | h | h
    · subst h; rw [Co.ex_go, one_side]; rfl
    · subst h; rw [Co.ex_plan, one_side]; rfl
    · subst h; rw [Co.ex_head, one_side]; rfl
  · rw [Co.cmdW_no fun _ => by rw [hp]; exact rwZ_no_len (by show ¬ (1 = 3); decide)]
    subst h; unfold Co.sideV; rw [if_neg (by decide), if_neg (by decide), if_neg (by decide)]
  · rw [Co.cmdW_no fun _ => by rw [hp]; exact rwZ_no_len (by show ¬ (1 = 4); decide)]
    subst h; unfold Co.sideV; rw [if_neg (by decide), if_neg (by decide), if_neg (by decide)]
  · rw [Co.cmdW_no fun q => by rw [hp] at q; exact absurd q (by decide)]
    obtain ⟨_, _, _, _, _, _, _, h8, h9, h10, _⟩ := h
    unfold Co.sideV; rw [if_neg h9, if_neg h10, if_neg h8]
theorem sps_single {c : UInt8} {l p : List UInt8} (h : sps c l = [p]) : l = p := by
  by_cases hc : c ∈ l
  · obtain ⟨e, hn⟩ := bfs_yes hc
    have e2 : sps c l = bfs c l :: sps c (afs c l) := by
      conv => lhs; rw [e]
      exact sps_cons hn
    rw [e2] at h
    injection h with h1 h2
    have := sps_ne c (afs c l)
    rw [h2] at this
    simp at this
  · rw [sps_none hc] at h
    injection h
theorem Co.cmd_level (d : Co) : d.cmd wLevel = (d, Lib.itoa d.lock.level) := by
  rw [Co.cmd_sps (w := wLevel) (r := []) (sps_none (by decide)) d, Co.cmdW_yes (l := []) rfl rfl, Co.ex_level]
  rfl
theorem Co.cmd_water (d : Co) : d.cmd wWater = (d, Lib.itoa (smI (fun i => (d.ba i).vol) d.n)) := by
  rw [Co.cmd_sps (w := wWater) (r := []) (sps_none (by decide)) d, Co.cmdW_yes (l := []) rfl rfl, Co.ex_water]
  rfl
noncomputable def Co.arrV (d : Co) (a : Aw) : Co × List UInt8 := if tr (aGood (d.m + 1) (insF d.wa (plc d.wa a.id d.m 0) a)) then (d.arr (plc d.wa a.id d.m 0) a, wOk) else (d, wAsk)
theorem Co.arrV_yes {d : Co} {a : Aw} (h : aGood (d.m + 1) (insF d.wa (plc d.wa a.id d.m 0) a)) : d.arrV a = (d.arr (plc d.wa a.id d.m 0) a, wOk) := ite_tr h
theorem Co.arrV_no {d : Co} {a : Aw} (h : ¬ aGood (d.m + 1) (insF d.wa (plc d.wa a.id d.m 0) a)) : d.arrV a = (d, wAsk) := ite_ntr h
def wayW (up : Bool) : List UInt8 := if up then wUp else wDown
theorem rw_way (up : Bool) : rw1 119 (wayW up) = some (if up then 1 else 0) := by cases up <;> rfl
theorem one_way (up : Bool) : isOne (if up then 1 else 0) = up := by cases up <;> rfl
theorem rwZ_four (x y z : List UInt8) (up : Bool) : rwZ [110, 119, 110, 110] [x, wayW up, y, z] = (numZ [x, y, z]).map fun l => [a0 l 0, if up then 1 else 0, a0 l 1, a0 l 2] := by
  unfold numZ
  show rwZ [110, 119, 110, 110] [x, wayW up, y, z] = (rwZ [110, 110, 110] [x, y, z]).map _
  simp only [rwZ_cons, rw_way]
  cases rw1 110 x <;> cases rw1 110 y <;> cases rw1 110 z <;> rfl
theorem Co.cmdW_arr_no {d : Co} {x y z : List UInt8} {up : Bool} (h : numZ [x, y, z] = none) : d.cmdW wArrive [x, wayW up, y, z] = (d, wAsk) :=
  Co.cmdW_no fun _ => by
    show rwZ [110, 119, 110, 110] [x, wayW up, y, z] = none
    rw [rwZ_four, h]; rfl
theorem Co.cmdW_arr {d : Co} {x y z : List UInt8} {up : Bool} {l : List Int} (h : numZ [x, y, z] = some l) : d.cmdW wArrive [x, wayW up, y, z] = d.arrV ⟨a0 l 0, up, a0 l 1, a0 l 2⟩ := by
  rw [Co.cmdW_yes (l := [a0 l 0, if up then 1 else 0, a0 l 1, a0 l 2]) rfl (by
    show rwZ [110, 119, 110, 110] [x, wayW up, y, z] = _
    rw [rwZ_four, h]; rfl), Co.ex_arrive]
  show d.fin (if tr (aGood (d.m + 1) (insF d.wa (plc d.wa (a0 l 0) d.m 0) ⟨a0 l 0, isOne (if up then 1 else 0), a0 l 1, a0 l 2⟩)) = true then some (d.arr (plc d.wa (a0 l 0) d.m 0) ⟨a0 l 0, isOne (if up then 1 else 0), a0 l 1, a0 l 2⟩, wOk) else none) = _
  rw [one_way]
  by_cases hg : aGood (d.m + 1) (insF d.wa (plc d.wa (a0 l 0) d.m 0) ⟨a0 l 0, up, a0 l 1, a0 l 2⟩)
  · rw [ite_tr hg, Co.arrV_yes hg]; rfl
  · rw [ite_ntr hg, Co.arrV_no hg]; rfl
theorem Co.cmdW_num_no {d : Co} {w : List UInt8} {r : List (List UInt8)} (h : numZ r = none) (h1 : ∀ hi, ¬ r = [sideW hi]) (h2 : ∀ x up y z, w = wArrive → ¬ r = [x, wayW up, y, z]) : d.cmdW w r = (d, wAsk) := by
  refine Co.cmdW_no fun hw => ?_
  rcases pat_all w with ⟨_, hp⟩ | ⟨_, hp⟩ | ⟨_, hp⟩ | ⟨_, hp⟩ | ⟨e, hp⟩ | ⟨_, hp⟩
  · rw [hp]
    cases r with
    | nil => cases h
    | cons x r => rfl
  · rw [hp]
    by_cases hl : r.length = 1
    · rw [show ([110] : List UInt8) = List.replicate r.length 110 by rw [hl]; rfl]; exact h
    · exact rwZ_no_len hl
  · rw [hp]
    by_cases hl : r.length = 1
    · obtain ⟨x, rfl⟩ := List.length_eq_one_iff.1 hl
      rw [rwZ_one, rw1_side rfl, if_neg (fun e => h1 false (by rw [e]; rfl)), if_neg (fun e => h1 true (by rw [e]; rfl))]
      rfl
    · exact rwZ_no_len hl
  · rw [hp]
    by_cases hl : r.length = 3
    · rw [show ([110, 110, 110] : List UInt8) = List.replicate r.length 110 by rw [hl]; rfl]; exact h
    · exact rwZ_no_len hl
  · rw [hp]
    by_cases hl : r.length = 4
    · match r, hl with
      | [x, v, y, z], _ =>
        have hv : rw1 119 v = none := by
          rw [rw1_way (by decide) (by decide), if_neg (fun q => h2 x false y z e (by rw [q]; rfl)), if_neg (fun q => h2 x true y z e (by rw [q]; rfl))]
        rw [rwZ_cons, rwZ_none hv]
        cases rw1 110 x <;> rfl
    · exact rwZ_no_len hl
  · rw [hp] at hw
    cases hw
theorem Co.cmdW_num {d : Co} {w : List UInt8} {r : List (List UInt8)} {l : List Int} (h : numZ r = some l) (hw : w = wFlow ∧ r.length = 3 ∨ (w = wStep ∨ w = wLeave ∨ w = wBest ∨ w = wDelay ∨ w = wBound) ∧ r.length = 1) : d.cmdW w r = d.fin (d.ex w l) := by
  rcases hw with ⟨rfl, hl⟩ | ⟨hw, hl⟩
  · exact Co.cmdW_yes rfl (by
      show rwZ [110, 110, 110] r = _
      rw [show ([110, 110, 110] : List UInt8) = List.replicate r.length 110 by rw [hl]; rfl]; exact h)
  · have hp : pat w = ([110], true) := by unfold pat; rw [if_neg, if_pos hw]; rcases hw with e | e | e | e | e <;> (subst e; decide)
    exact Co.cmdW_yes (by rw [hp]) (by rw [hp, show ([110] : List UInt8) = List.replicate r.length 110 by rw [hl]; rfl]; exact h)
theorem numZ_rd {x : List UInt8} {ws : List (List UInt8)} {l : List Int} (h : numZ (x :: ws) = some l) : (rdV x).2 = true ∧ l = (rdV x).1 :: l.tail ∧ numZ ws = some l.tail := by
  unfold numZ at h ⊢
  rw [rwZ_rep_cons, rwZ_cons, rw_num] at h
  by_cases e : (rdV x).2 = true
  · rw [if_pos e] at h
    cases e2 : rwZ (List.replicate ws.length 110) ws with
    | none => rw [e2] at h; cases h
    | some l2 => rw [e2] at h; cases h; exact ⟨e, rfl, rfl⟩
  · rw [if_neg e] at h; cases h
theorem Co.cmdW_num_out {d : Co} {w : List UInt8} {r : List (List UInt8)} {l : List Int} (h : numZ r = some l) (h0 : ¬ (r.length = 0 ∧ (w = wLevel ∨ w = wWater))) (hw : ¬ (w = wFlow ∧ r.length = 3 ∨ (w = wStep ∨ w = wLeave ∨ w = wBest ∨ w = wDelay ∨ w = wBound) ∧ r.length = 1)) : d.cmdW w r = (d, wAsk) := by
  refine Co.cmdW_no fun hq => ?_
  rcases pat_all w with ⟨e, hp⟩ | ⟨e, hp⟩ | ⟨e, hp⟩ | ⟨e, hp⟩ | ⟨e, hp⟩ | ⟨e, hp⟩
  · rw [hp]; exact rwZ_no_len fun hl => h0 ⟨hl, e⟩
  · rw [hp]; exact rwZ_no_len fun hl => hw (.inr ⟨e, hl⟩)
  · rw [hp]
    by_cases hl : r.length = 1
    · obtain ⟨x, rfl⟩ := List.length_eq_one_iff.1 hl
      have hx := (numZ_rd h).1
      rw [rwZ_one, rw1_side rfl, if_neg (fun q => by rw [q, rd_low] at hx; cases hx), if_neg (fun q => by rw [q, rd_high] at hx; cases hx)]
      rfl
    · exact rwZ_no_len hl
  · rw [hp]; exact rwZ_no_len fun hl => hw (.inl ⟨e, hl⟩)
  · rw [hp]
    by_cases hl : r.length = 4
    · match r, hl with
      | [x, v, y, z], _ =>
        have hx := (numZ_rd (numZ_rd h).2.2).1
        have hv : rw1 119 v = none := by
          rw [rw1_way (by decide) (by decide), if_neg (fun q => by rw [q, show rdV wDown = (0, false) from rdV_no_digit (k := 0) (by decide) (by decide)] at hx; cases hx), if_neg (fun q => by rw [q, show rdV wUp = (0, false) from rdV_no_digit (k := 0) (by decide) (by decide)] at hx; cases hx)]
        rw [rwZ_cons, rwZ_none hv]
        cases rw1 110 x <;> rfl
    · exact rwZ_no_len hl
  · rw [hp] at hq; cases hq
end Go.Proofs.YtadjhkehfklmnaaGreatDoor
namespace Go.Proofs.YtadjhkehfklmnaaGreatDoor
set_option linter.unusedSimpArgs false
set_option linter.unusedVariables false
open Go.RowKit
set_option maxRecDepth 10000
def isTab (g : Nat) : Prop := g = 1 ∨ g = 0 ∨ g = 6
def Old2 (w0 : Base) : Prop := PT2 w0.w ∧ ∀ g, isTab g → g < w0.w.heap.size ∧ ¬ w0.lent g
theorem cell_heap {w w' : World} {g : Nat} (e : w'.heap[g]? = w.heap[g]?) {off : Nat} {u : Value} (h : w.cell? ⟨g, off, none⟩ = some u) : w'.cell? ⟨g, off, none⟩ = some u := by
  unfold World.cell? at h ⊢
  dsimp only at h ⊢
  rw [e]
  exact h
theorem PT2.move {w w' : World} (h : PT2 w) (e : ∀ g, isTab g → w'.heap[g]? = w.heap[g]?) : PT2 w' := by
  obtain ⟨h1, ⟨x, h2⟩, te, pe, h3⟩ := h
  refine ⟨?_, ⟨x, cell_heap (e _ (.inr (.inl rfl))) h2⟩, te, pe, cell_heap (e _ (.inr (.inr rfl))) h3⟩
  unfold PTab Lib.TabIs World.var? at h1 ⊢
  simp only [gPTab, Option.bind_some] at h1 ⊢
  rw [e _ (.inl rfl)]
  exact h1
section
variable {w0 : Base} {own : List Own} {w : World}
theorem Old2.now (h : Old2 w0) (m : Mem w0 own w) : PT2 w := h.1.move fun g hg => m.keeps.block g (h.2 g hg).1 (h.2 g hg).2
theorem Old2.lend (h : Old2 w0) (m : Mem w0 own w) (ks : List Nat) : Old2 (Base.lendL w (fixOf ks own)) := ⟨h.now m, fun g hg => ⟨Nat.lt_of_lt_of_le (h.2 g hg).1 m.keeps.size, fun hx => by
  obtain ⟨p, o, ho, hbl⟩ := hx
  obtain ⟨k, _, hk | hk⟩ := fix_get ho
  · rcases ((m.ok k o hk).lt g hbl).1 with h1 | h1
    · have := (h.2 g hg).1; omega
    · exact (h.2 g hg).2 h1
  · rw [hk] at hbl; cases hbl⟩⟩
theorem Old2.old {w : World} (h : PT2 w) : Old2 (Base.of w) := ⟨h, fun g hg => ⟨by
  obtain ⟨h1, ⟨x, h2⟩, te, pe, h3⟩ := h
  rcases hg with e | e | e
  · rw [e]; exact cell_lt (h1.cell gPTab 0 (by rw [Lib.pow10Tab_length]; omega))
  · rw [e]; exact cell_lt h2
  · rw [e]; exact cell_lt h3, fun x => x⟩⟩
end
end Go.Proofs.YtadjhkehfklmnaaGreatDoor
