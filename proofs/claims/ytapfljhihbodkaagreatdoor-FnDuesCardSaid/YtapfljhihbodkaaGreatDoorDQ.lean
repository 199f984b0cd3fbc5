/-
  Draws: one of some ints, one of some texts; what a callee sees in the caller's own things.
  Conditions: none beyond each statement's own premises.
-/
import Derived.Test.YtapfljhihbodkaaGreatDoorDR
namespace Go.Proofs.YtapfljhihbodkaaGreatDoor
set_option linter.unusedSimpArgs false
set_option linter.unusedVariables false
open Go.RowKit
set_option maxRecDepth 10000
section
variable {w0 : Base} {own : List Own} {w : World}
/-- What a callee reads in an own row that is not lent to it. -/
theorem OldSeen.row (m : Mem w0 own w) (ks : List Nat) (j : Nat) {A : Option Addr} {n c : Nat} {ty : TypeId} {size n' : Nat} {cs : List Value} (hj : own[j]? = some (.row (.slice A n c) ty size n' cs)) (hn : j ∉ ks) : OldSeen (Base.lendL w (fixOf ks own)) A cs := fun i u hi => by
  have h := (m.ok j _ hj).2
  rcases h.2 with ⟨_, h0⟩ | ⟨g, cap, cur, e, _, hg, _⟩
  · have := h.1
    subst h0
    rw [Nat.zero_mul] at this
    have : cs = [] := List.eq_nil_of_length_eq_zero this
    subst this
    simp at hi
  · injection e with e1
    subst e1
    have hc := h.cells (g := g) rfl i u hi
    rw [show (⟨g, 0, none⟩ : Addr).add i = ⟨g, 0 + i, none⟩ from by unfold Addr.add; split <;> simp_all] at hc
    refine ⟨g, 0, rfl, (Array.getElem?_eq_some_iff.1 hg).1, fun hx => ?_, hc⟩
    obtain ⟨p, o, ho, hbl⟩ := hx
    obtain ⟨k, hk1, hk | hk⟩ := fix_get ho
    · exact m.sep j k _ _ g (fun e => hn (by rw [e]; exact List.mem_of_getElem? hk1)) hj hk rfl hbl
    · rw [hk] at hbl; cases hbl
theorem OldSeen.take {A : Option Addr} {cs : List Value} (h : OldSeen w0 A cs) (k : Nat) : OldSeen w0 A (cs.take k) := fun j u hj => by
  rw [List.getElem?_take] at hj
  split at hj
  · exact h j u hj
  · cases hj
theorem OldSeen.mine {A : Option Addr} {cs : List Value} (h : OldSeen w0 A cs) {j : Nat} {u : Value} (hj : cs[j]? = some u) : ∃ b off, A = some ⟨b, off, none⟩ ∧ b < w0.w.heap.size ∧ ¬ w0.lent b := by
  obtain ⟨b, off, e, hb, hl, _⟩ := h j u hj
  exact ⟨b, off, e, hb, hl⟩
theorem OldSeen.cell {b off j : Nat} {u : Value} {cs : List Value} (h : OldSeen w0 (some ⟨b, off, none⟩) cs) (hj : cs[j]? = some u) : w0.w.cell? ⟨b, off + j, none⟩ = some u := by
  obtain ⟨b', off', e, _, _, hc⟩ := h j u hj
  cases e
  exact hc
end
def okInt : List Value → Bool
  | [] => true
  | .int .i64 _ :: r => okInt r
  | _ => false
theorem okInt_at : ∀ {cs : List Value} {j : Nat}, okInt cs = true → j < cs.length → ∃ x : Int, cs[j]? = some (.int .i64 x)
  | [], j, _, hj => absurd hj (by simp)
  | v :: r, j, h, hj => by
    unfold okInt at h
    split at h
    · rename_i e; cases e
    · rename_i x r' e
      cases e
      rcases j with _ | j
      · exact ⟨_, rfl⟩
      · obtain ⟨x, h1⟩ := okInt_at h (j := j) (by simpa using hj)
        exact ⟨x, by simpa using h1⟩
    · cases h
set_option maxHeartbeats 800000 in
theorem amongI_v {w0 : Base} {w : World} (l : List UInt8) (A : Option Addr) (c : Nat) (at_ sd : Int) (g : Nat) (B : Option Addr) (n d : Nat) (cs : List Value) (hA : OldSeen w0 A (YS l)) (hl : l.length ≤ 1048576) (h0 : 0 ≤ at_) (h1 : at_ ≤ 4611686018427380000) (hB : OldSeen w0 B cs) (hn : n = cs.length) (hp : 0 < n) (hn2 : n ≤ 1048576) (hb : okInt cs = true) (m0 : Mem w0 [.blk g 49 (cuC A l.length c at_ sd)] w) :
    Calls Tryz.prog 21 #[.pointer (some ⟨g, 0, none⟩), .slice B n d] w fun e w' => ∃ v, e = .returned v ∧ RetL (ι := Int × Int × Int) (fun (x, a, s) => at_ ≤ a ∧ a ≤ at_ + 2) (fun (x, a, s) => .int .i64 x) (fun (x, a, s) => [.blk g 49 (cuC A l.length c a s)]) (fun _ => []) w0 v w' := by
  refine calls_of_vcL (w0 := w0) tb_ok (args := [.pointer (some ⟨g, 0, none⟩), .slice B n d]) Tryz.func21 rfl m0 ?_
  (repeat' (first | ((conv => whnf); first | (show VIf _ _ _; first | refine VIf.mk (fun _ => ?_) (fun h => absurd rfl h) | refine VIf.mk (fun h => Bool.noConfusion h) (fun _ => ?_) | refine VIf.mk (fun _ => ?_) (fun h => absurd (by assumption) h) | refine VIf.mk (fun h => absurd h (by assumption)) (fun _ => ?_) | refine VIf.mk (fun _ => ?_) (fun h => absurd (by omega) h) | refine VIf.mk (fun h => absurd h (by omega)) (fun _ => ?_) | refine VIf.mk (fun _ => ?_) (fun _ => ?_)) | (show VIn _ _; refine VIn.mk (by omega) (by omega) ?_) | (show VLoad1 _ _ _ _ _; first | (apply VLoad1.any; (focus ((repeat (first | exact Has.here rfl | exact Has.row (by assumption) | apply Has.there)); done))) | refine VLoad1.mk _ (Rd.old (by assumption) (fun h => h) (by assumption)) ?_) | (show VLoadN _ _ _ _ _ _; first | refine VLoadN.at_ (by assumption) rfl ?_ | (apply VLoadN.any; (focus ((repeat (first | exact At.here | apply At.there)); done)); (focus (exact Nat.le_of_ble_eq_true rfl)))) | (show VStore _ _ _ _ _ _; (apply VStore.any; (focus ((repeat (first | exact At.here | apply At.there)); done)); refine VStoreAt.mk rfl rfl (Nat.le_of_ble_eq_true rfl) rfl ?_)) | (show VIdx _ _ _ _ _ _ _; first | (apply VIdx.any; (focus ((repeat (first | exact At.here | apply At.there)); done)); (first | refine VIdxR.mk _ rfl (by omega) ?_ | refine VIdxR.mk _ (by assumption) (by omega) ?_); intro gQ hA'; first | subst hA' | (cases hA') | (replace hA' := Option.some.inj hA'; cases hA') | (dsimp only at hA'; subst hA')) | refine VIdx.at_ rfl _ rfl (by omega) ?_ | refine VIdx.at_ rfl _ (by assumption) (by omega) ?_ | refine VIdx.at_ rfl 0 rfl (by omega) ?_) | (show VQuo _ _ _; refine VQuo.nn (by omega) (by omega) (by omega) ?_) | (show VRem _ _ _; refine VRem.nn (by omega) (by omega) ?_) | (show VStrIx _ _ _; first | refine VStrIx.mk _ rfl (by omega) ?_ | refine VStrIx.mk _ (by assumption) (by omega) ?_) | (show VU64 _ _; refine VU64.mk (fun _ _ _ => ?_)) | (show VAnd64 _ _; refine VAnd64.mk (by omega) (fun _ _ _ => ?_)) | (show VShr64 _ _ _; refine VShr64.mk (by omega) (by omega) (fun _ _ _ => ?_)) | (show VCat _ _ _; refine VCat.mk (by omega) ?_) | (show VKeep _ _; refine VKeep.mk rfl ?_) | (show VDone _ _; refine VDone.same ?_) | (show _ ∧ True; refine And.intro ?_ trivial) | (show _ ∧ _; refine And.intro ?_ ?_) | intro _) | ((conv => whnf); (first | ((show VCall _ _ _ 22 [_, _] _); refine VCall.fullS [0] (by simp) (fun _ => rfl) (fun w1 m1 m2 => pick_v l A c _ _ _ g (hA.lend m1 [0]) hl (by omega) (by omega) m2) (fun (r, a, s) hi => ?_); obtain ⟨i1, i2, i3, i4⟩ := hi)))))
  obtain ⟨j, rfl⟩ := Int.eq_ofNat_of_zero_le i1
  have hj : j < cs.length := by omega
  obtain ⟨x, hx⟩ := okInt_at hb hj
  obtain ⟨bb, off, rfl, hbb, hnl, hc⟩ := hB j _ hx
  (repeat' (first | ((conv => whnf); first | (show VIf _ _ _; first | refine VIf.mk (fun _ => ?_) (fun h => absurd rfl h) | refine VIf.mk (fun h => Bool.noConfusion h) (fun _ => ?_) | refine VIf.mk (fun _ => ?_) (fun h => absurd (by assumption) h) | refine VIf.mk (fun h => absurd h (by assumption)) (fun _ => ?_) | refine VIf.mk (fun _ => ?_) (fun h => absurd (by omega) h) | refine VIf.mk (fun h => absurd h (by omega)) (fun _ => ?_) | refine VIf.mk (fun _ => ?_) (fun _ => ?_)) | (show VIn _ _; refine VIn.mk (by omega) (by omega) ?_) | (show VLoad1 _ _ _ _ _; first | (apply VLoad1.any; (focus ((repeat (first | exact Has.here rfl | exact Has.row (by assumption) | apply Has.there)); done))) | refine VLoad1.mk _ (Rd.old (by assumption) (fun h => h) (by assumption)) ?_) | (show VLoadN _ _ _ _ _ _; first | refine VLoadN.at_ (by assumption) rfl ?_ | (apply VLoadN.any; (focus ((repeat (first | exact At.here | apply At.there)); done)); (focus (exact Nat.le_of_ble_eq_true rfl)))) | (show VStore _ _ _ _ _ _; (apply VStore.any; (focus ((repeat (first | exact At.here | apply At.there)); done)); refine VStoreAt.mk rfl rfl (Nat.le_of_ble_eq_true rfl) rfl ?_)) | (show VIdx _ _ _ _ _ _ _; first | (apply VIdx.any; (focus ((repeat (first | exact At.here | apply At.there)); done)); (first | refine VIdxR.mk _ rfl (by omega) ?_ | refine VIdxR.mk _ (by assumption) (by omega) ?_); intro gQ hA'; first | subst hA' | (cases hA') | (replace hA' := Option.some.inj hA'; cases hA') | (dsimp only at hA'; subst hA')) | refine VIdx.at_ rfl _ rfl (by omega) ?_ | refine VIdx.at_ rfl _ (by assumption) (by omega) ?_ | refine VIdx.at_ rfl 0 rfl (by omega) ?_) | (show VQuo _ _ _; refine VQuo.nn (by omega) (by omega) (by omega) ?_) | (show VRem _ _ _; refine VRem.nn (by omega) (by omega) ?_) | (show VStrIx _ _ _; first | refine VStrIx.mk _ rfl (by omega) ?_ | refine VStrIx.mk _ (by assumption) (by omega) ?_) | (show VU64 _ _; refine VU64.mk (fun _ _ _ => ?_)) | (show VAnd64 _ _; refine VAnd64.mk (by omega) (fun _ _ _ => ?_)) | (show VShr64 _ _ _; refine VShr64.mk (by omega) (by omega) (fun _ _ _ => ?_)) | (show VCat _ _ _; refine VCat.mk (by omega) ?_) | (show VKeep _ _; refine VKeep.mk rfl ?_) | (show VDone _ _; refine VDone.same ?_) | (show _ ∧ True; refine And.intro ?_ trivial) | (show _ ∧ _; refine And.intro ?_ ?_) | intro _) | ((conv => whnf); (first | ((show VIdx _ _ _ _ _ _ _); refine VIdx.at_ rfl j rfl (by omega) ?_) | ((show VLoad1 _ _ _ _ _); refine VLoad1.mk _ (Rd.old hbb hnl (by show w0.w.cell? ⟨bb, off + mulS j 1, none⟩ = _; rw [mulS_eq, Nat.mul_one]; exact hc)) ?_)))))
  all_goals (conv => whnf)
  all_goals refine VRet.mk fun w' m => ⟨(x, _, _), ⟨i3, i4⟩, rfl, m⟩
def okIntB (b : Int) : List Value → Bool
  | [] => true
  | .int .i64 x :: r => decide (-b ≤ x) && decide (x ≤ b) && okIntB b r
  | _ => false
theorem okIntB_at {b : Int} : ∀ {cs : List Value} {j : Nat}, okIntB b cs = true → j < cs.length → ∃ x : Int, cs[j]? = some (.int .i64 x) ∧ -b ≤ x ∧ x ≤ b
  | [], j, _, hj => absurd hj (by simp)
  | v :: r, j, h, hj => by
    unfold okIntB at h
    split at h
    · rename_i e; cases e
    · rename_i x r' e
      cases e
      simp only [Bool.and_eq_true, decide_eq_true_eq] at h
      rcases j with _ | j
      · exact ⟨_, rfl, h.1.1, h.1.2⟩
      · obtain ⟨x, h1, h2⟩ := okIntB_at h.2 (j := j) (by simpa using hj)
        exact ⟨x, by simpa using h1, h2⟩
    · cases h
set_option maxHeartbeats 800000 in
theorem amongB_v {w0 : Base} {w : World} (l : List UInt8) (A : Option Addr) (c : Nat) (at_ sd : Int) (g : Nat) (B : Option Addr) (n d : Nat) (cs : List Value) (hA : OldSeen w0 A (YS l)) (hl : l.length ≤ 1048576) (h0 : 0 ≤ at_) (h1 : at_ ≤ 4611686018427380000) (hB : OldSeen w0 B cs) (hn : n = cs.length) (hp : 0 < n) (hn2 : n ≤ 1048576) (bd : Int) (hb : okIntB bd cs = true) (m0 : Mem w0 [.blk g 49 (cuC A l.length c at_ sd)] w) :
    Calls Tryz.prog 21 #[.pointer (some ⟨g, 0, none⟩), .slice B n d] w fun e w' => ∃ v, e = .returned v ∧ RetL (ι := Int × Int × Int) (fun (x, a, s) => (-bd ≤ x ∧ x ≤ bd) ∧ at_ ≤ a ∧ a ≤ at_ + 2) (fun (x, a, s) => .int .i64 x) (fun (x, a, s) => [.blk g 49 (cuC A l.length c a s)]) (fun _ => []) w0 v w' := by
  refine calls_of_vcL (w0 := w0) tb_ok (args := [.pointer (some ⟨g, 0, none⟩), .slice B n d]) Tryz.func21 rfl m0 ?_
  (repeat' (first | ((conv => whnf); first | (show VIf _ _ _; first | refine VIf.mk (fun _ => ?_) (fun h => absurd rfl h) | refine VIf.mk (fun h => Bool.noConfusion h) (fun _ => ?_) | refine VIf.mk (fun _ => ?_) (fun h => absurd (by assumption) h) | refine VIf.mk (fun h => absurd h (by assumption)) (fun _ => ?_) | refine VIf.mk (fun _ => ?_) (fun h => absurd (by omega) h) | refine VIf.mk (fun h => absurd h (by omega)) (fun _ => ?_) | refine VIf.mk (fun _ => ?_) (fun _ => ?_)) | (show VIn _ _; refine VIn.mk (by omega) (by omega) ?_) | (show VLoad1 _ _ _ _ _; first | (apply VLoad1.any; (focus ((repeat (first | exact Has.here rfl | exact Has.row (by assumption) | apply Has.there)); done))) | refine VLoad1.mk _ (Rd.old (by assumption) (fun h => h) (by assumption)) ?_) | (show VLoadN _ _ _ _ _ _; first | refine VLoadN.at_ (by assumption) rfl ?_ | (apply VLoadN.any; (focus ((repeat (first | exact At.here | apply At.there)); done)); (focus (exact Nat.le_of_ble_eq_true rfl)))) | (show VStore _ _ _ _ _ _; (apply VStore.any; (focus ((repeat (first | exact At.here | apply At.there)); done)); refine VStoreAt.mk rfl rfl (Nat.le_of_ble_eq_true rfl) rfl ?_)) | (show VIdx _ _ _ _ _ _ _; first | (apply VIdx.any; (focus ((repeat (first | exact At.here | apply At.there)); done)); (first | refine VIdxR.mk _ rfl (by omega) ?_ | refine VIdxR.mk _ (by assumption) (by omega) ?_); intro gQ hA'; first | subst hA' | (cases hA') | (replace hA' := Option.some.inj hA'; cases hA') | (dsimp only at hA'; subst hA')) | refine VIdx.at_ rfl _ rfl (by omega) ?_ | refine VIdx.at_ rfl _ (by assumption) (by omega) ?_ | refine VIdx.at_ rfl 0 rfl (by omega) ?_) | (show VQuo _ _ _; refine VQuo.nn (by omega) (by omega) (by omega) ?_) | (show VRem _ _ _; refine VRem.nn (by omega) (by omega) ?_) | (show VStrIx _ _ _; first | refine VStrIx.mk _ rfl (by omega) ?_ | refine VStrIx.mk _ (by assumption) (by omega) ?_) | (show VU64 _ _; refine VU64.mk (fun _ _ _ => ?_)) | (show VAnd64 _ _; refine VAnd64.mk (by omega) (fun _ _ _ => ?_)) | (show VShr64 _ _ _; refine VShr64.mk (by omega) (by omega) (fun _ _ _ => ?_)) | (show VCat _ _ _; refine VCat.mk (by omega) ?_) | (show VKeep _ _; refine VKeep.mk rfl ?_) | (show VDone _ _; refine VDone.same ?_) | (show _ ∧ True; refine And.intro ?_ trivial) | (show _ ∧ _; refine And.intro ?_ ?_) | intro _) | ((conv => whnf); (first | ((show VCall _ _ _ 22 [_, _] _); refine VCall.fullS [0] (by simp) (fun _ => rfl) (fun w1 m1 m2 => pick_v l A c _ _ _ g (hA.lend m1 [0]) hl (by omega) (by omega) m2) (fun (r, a, s) hi => ?_); obtain ⟨i1, i2, i3, i4⟩ := hi)))))
  obtain ⟨j, rfl⟩ := Int.eq_ofNat_of_zero_le i1
  have hj : j < cs.length := by omega
  obtain ⟨x, hx, hxb⟩ := okIntB_at hb hj
  obtain ⟨bb, off, rfl, hbb, hnl, hc⟩ := hB j _ hx
  (repeat' (first | ((conv => whnf); first | (show VIf _ _ _; first | refine VIf.mk (fun _ => ?_) (fun h => absurd rfl h) | refine VIf.mk (fun h => Bool.noConfusion h) (fun _ => ?_) | refine VIf.mk (fun _ => ?_) (fun h => absurd (by assumption) h) | refine VIf.mk (fun h => absurd h (by assumption)) (fun _ => ?_) | refine VIf.mk (fun _ => ?_) (fun h => absurd (by omega) h) | refine VIf.mk (fun h => absurd h (by omega)) (fun _ => ?_) | refine VIf.mk (fun _ => ?_) (fun _ => ?_)) | (show VIn _ _; refine VIn.mk (by omega) (by omega) ?_) | (show VLoad1 _ _ _ _ _; first | (apply VLoad1.any; (focus ((repeat (first | exact Has.here rfl | exact Has.row (by assumption) | apply Has.there)); done))) | refine VLoad1.mk _ (Rd.old (by assumption) (fun h => h) (by assumption)) ?_) | (show VLoadN _ _ _ _ _ _; first | refine VLoadN.at_ (by assumption) rfl ?_ | (apply VLoadN.any; (focus ((repeat (first | exact At.here | apply At.there)); done)); (focus (exact Nat.le_of_ble_eq_true rfl)))) | (show VStore _ _ _ _ _ _; (apply VStore.any; (focus ((repeat (first | exact At.here | apply At.there)); done)); refine VStoreAt.mk rfl rfl (Nat.le_of_ble_eq_true rfl) rfl ?_)) | (show VIdx _ _ _ _ _ _ _; first | (apply VIdx.any; (focus ((repeat (first | exact At.here | apply At.there)); done)); (first | refine VIdxR.mk _ rfl (by omega) ?_ | refine VIdxR.mk _ (by assumption) (by omega) ?_); intro gQ hA'; first | subst hA' | (cases hA') | (replace hA' := Option.some.inj hA'; cases hA') | (dsimp only at hA'; subst hA')) | refine VIdx.at_ rfl _ rfl (by omega) ?_ | refine VIdx.at_ rfl _ (by assumption) (by omega) ?_ | refine VIdx.at_ rfl 0 rfl (by omega) ?_) | (show VQuo _ _ _; refine VQuo.nn (by omega) (by omega) (by omega) ?_) | (show VRem _ _ _; refine VRem.nn (by omega) (by omega) ?_) | (show VStrIx _ _ _; first | refine VStrIx.mk _ rfl (by omega) ?_ | refine VStrIx.mk _ (by assumption) (by omega) ?_) | (show VU64 _ _; refine VU64.mk (fun _ _ _ => ?_)) | (show VAnd64 _ _; refine VAnd64.mk (by omega) (fun _ _ _ => ?_)) | (show VShr64 _ _ _; refine VShr64.mk (by omega) (by omega) (fun _ _ _ => ?_)) | (show VCat _ _ _; refine VCat.mk (by omega) ?_) | (show VKeep _ _; refine VKeep.mk rfl ?_) | (show VDone _ _; refine VDone.same ?_) | (show _ ∧ True; refine And.intro ?_ trivial) | (show _ ∧ _; refine And.intro ?_ ?_) | intro _) | ((conv => whnf); (first | ((show VIdx _ _ _ _ _ _ _); refine VIdx.at_ rfl j rfl (by omega) ?_) | ((show VLoad1 _ _ _ _ _); refine VLoad1.mk _ (Rd.old hbb hnl (by show w0.w.cell? ⟨bb, off + mulS j 1, none⟩ = _; rw [mulS_eq, Nat.mul_one]; exact hc)) ?_)))))
  all_goals (conv => whnf)
  all_goals refine VRet.mk fun w' m => ⟨(x, _, _), ⟨hxb, i3, i4⟩, rfl, m⟩
theorem okIntB_take {b : Int} : ∀ {cs : List Value} (k : Nat), okIntB b cs = true → okIntB b (cs.take k) = true
  | [], k, _ => by simp [okIntB]
  | v :: r, 0, _ => rfl
  | v :: r, k + 1, h => by
    unfold okIntB at h
    split at h
    · rename_i e; cases e
    · rename_i x r' e
      cases e
      simp only [Bool.and_eq_true] at h
      rw [List.take_succ_cons]
      unfold okIntB
      simp only [Bool.and_eq_true]
      exact ⟨h.1, okIntB_take k h.2⟩
    · cases h
theorem tx_of (s : ByteArray) : tx s.data.toList = s := by
  apply ByteArray.ext
  simp [tx]
def okTxt (b : Nat) : List Value → Bool
  | [] => true
  | .string s :: r => Nat.ble s.size b && okTxt b r
  | _ => false
theorem okTxt_at {b : Nat} : ∀ {cs : List Value} {j : Nat}, okTxt b cs = true → j < cs.length → ∃ x : List UInt8, cs[j]? = some (.string (tx x)) ∧ x.length ≤ b
  | [], j, _, hj => absurd hj (by simp)
  | v :: r, j, h, hj => by
    unfold okTxt at h
    split at h
    · rename_i e; cases e
    · rename_i s r' e
      cases e
      simp only [Bool.and_eq_true] at h
      rcases j with _ | j
      · exact ⟨s.data.toList, by rw [tx_of]; rfl, by have := Nat.le_of_ble_eq_true h.1; rw [← tx_size, tx_of]; exact this⟩
      · obtain ⟨x, h1, h2⟩ := okTxt_at h.2 (j := j) (by simpa using hj)
        exact ⟨x, by simpa using h1, h2⟩
    · cases h
set_option maxHeartbeats 800000 in
theorem of_v {w0 : Base} {w : World} (l : List UInt8) (A : Option Addr) (c : Nat) (at_ sd : Int) (g : Nat) (B : Option Addr) (n d b : Nat) (cs : List Value) (hA : OldSeen w0 A (YS l)) (hl : l.length ≤ 1048576) (h0 : 0 ≤ at_) (h1 : at_ ≤ 4611686018427380000) (hB : OldSeen w0 B cs) (hn : n = cs.length) (hp : 0 < n) (hn2 : n ≤ 1048576) (hb : okTxt b cs = true) (m0 : Mem w0 [.blk g 49 (cuC A l.length c at_ sd)] w) :
    Calls Tryz.prog 62 #[.pointer (some ⟨g, 0, none⟩), .slice B n d] w fun e w' => ∃ v, e = .returned v ∧ RetL (ι := List UInt8 × Int × Int) (fun (x, a, s) => x.length ≤ b ∧ at_ ≤ a ∧ a ≤ at_ + 2) (fun (x, a, s) => .string (tx x)) (fun (x, a, s) => [.blk g 49 (cuC A l.length c a s)]) (fun _ => []) w0 v w' := by
  refine calls_of_vcL (w0 := w0) tb_ok (args := [.pointer (some ⟨g, 0, none⟩), .slice B n d]) Tryz.func62 rfl m0 ?_
  (repeat' (first | ((conv => whnf); first | (show VIf _ _ _; first | refine VIf.mk (fun _ => ?_) (fun h => absurd rfl h) | refine VIf.mk (fun h => Bool.noConfusion h) (fun _ => ?_) | refine VIf.mk (fun _ => ?_) (fun h => absurd (by assumption) h) | refine VIf.mk (fun h => absurd h (by assumption)) (fun _ => ?_) | refine VIf.mk (fun _ => ?_) (fun h => absurd (by omega) h) | refine VIf.mk (fun h => absurd h (by omega)) (fun _ => ?_) | refine VIf.mk (fun _ => ?_) (fun _ => ?_)) | (show VIn _ _; refine VIn.mk (by omega) (by omega) ?_) | (show VLoad1 _ _ _ _ _; first | (apply VLoad1.any; (focus ((repeat (first | exact Has.here rfl | exact Has.row (by assumption) | apply Has.there)); done))) | refine VLoad1.mk _ (Rd.old (by assumption) (fun h => h) (by assumption)) ?_) | (show VLoadN _ _ _ _ _ _; first | refine VLoadN.at_ (by assumption) rfl ?_ | (apply VLoadN.any; (focus ((repeat (first | exact At.here | apply At.there)); done)); (focus (exact Nat.le_of_ble_eq_true rfl)))) | (show VStore _ _ _ _ _ _; (apply VStore.any; (focus ((repeat (first | exact At.here | apply At.there)); done)); refine VStoreAt.mk rfl rfl (Nat.le_of_ble_eq_true rfl) rfl ?_)) | (show VIdx _ _ _ _ _ _ _; first | (apply VIdx.any; (focus ((repeat (first | exact At.here | apply At.there)); done)); (first | refine VIdxR.mk _ rfl (by omega) ?_ | refine VIdxR.mk _ (by assumption) (by omega) ?_); intro gQ hA'; first | subst hA' | (cases hA') | (replace hA' := Option.some.inj hA'; cases hA') | (dsimp only at hA'; subst hA')) | refine VIdx.at_ rfl _ rfl (by omega) ?_ | refine VIdx.at_ rfl _ (by assumption) (by omega) ?_ | refine VIdx.at_ rfl 0 rfl (by omega) ?_) | (show VQuo _ _ _; refine VQuo.nn (by omega) (by omega) (by omega) ?_) | (show VRem _ _ _; refine VRem.nn (by omega) (by omega) ?_) | (show VStrIx _ _ _; first | refine VStrIx.mk _ rfl (by omega) ?_ | refine VStrIx.mk _ (by assumption) (by omega) ?_) | (show VU64 _ _; refine VU64.mk (fun _ _ _ => ?_)) | (show VAnd64 _ _; refine VAnd64.mk (by omega) (fun _ _ _ => ?_)) | (show VShr64 _ _ _; refine VShr64.mk (by omega) (by omega) (fun _ _ _ => ?_)) | (show VCat _ _ _; refine VCat.mk (by omega) ?_) | (show VKeep _ _; refine VKeep.mk rfl ?_) | (show VDone _ _; refine VDone.same ?_) | (show _ ∧ True; refine And.intro ?_ trivial) | (show _ ∧ _; refine And.intro ?_ ?_) | intro _) | ((conv => whnf); (first | ((show VCall _ _ _ 22 [_, _] _); refine VCall.fullS [0] (by simp) (fun _ => rfl) (fun w1 m1 m2 => pick_v l A c _ _ _ g (hA.lend m1 [0]) hl (by omega) (by omega) m2) (fun (r, a, s) hi => ?_); obtain ⟨i1, i2, i3, i4⟩ := hi)))))
  obtain ⟨j, rfl⟩ := Int.eq_ofNat_of_zero_le i1
  have hj : j < cs.length := by omega
  obtain ⟨x, hx, hxb⟩ := okTxt_at hb hj
  obtain ⟨bb, off, rfl, hbb, hnl, hc⟩ := hB j _ hx
  (repeat' (first | ((conv => whnf); first | (show VIf _ _ _; first | refine VIf.mk (fun _ => ?_) (fun h => absurd rfl h) | refine VIf.mk (fun h => Bool.noConfusion h) (fun _ => ?_) | refine VIf.mk (fun _ => ?_) (fun h => absurd (by assumption) h) | refine VIf.mk (fun h => absurd h (by assumption)) (fun _ => ?_) | refine VIf.mk (fun _ => ?_) (fun h => absurd (by omega) h) | refine VIf.mk (fun h => absurd h (by omega)) (fun _ => ?_) | refine VIf.mk (fun _ => ?_) (fun _ => ?_)) | (show VIn _ _; refine VIn.mk (by omega) (by omega) ?_) | (show VLoad1 _ _ _ _ _; first | (apply VLoad1.any; (focus ((repeat (first | exact Has.here rfl | exact Has.row (by assumption) | apply Has.there)); done))) | refine VLoad1.mk _ (Rd.old (by assumption) (fun h => h) (by assumption)) ?_) | (show VLoadN _ _ _ _ _ _; first | refine VLoadN.at_ (by assumption) rfl ?_ | (apply VLoadN.any; (focus ((repeat (first | exact At.here | apply At.there)); done)); (focus (exact Nat.le_of_ble_eq_true rfl)))) | (show VStore _ _ _ _ _ _; (apply VStore.any; (focus ((repeat (first | exact At.here | apply At.there)); done)); refine VStoreAt.mk rfl rfl (Nat.le_of_ble_eq_true rfl) rfl ?_)) | (show VIdx _ _ _ _ _ _ _; first | (apply VIdx.any; (focus ((repeat (first | exact At.here | apply At.there)); done)); (first | refine VIdxR.mk _ rfl (by omega) ?_ | refine VIdxR.mk _ (by assumption) (by omega) ?_); intro gQ hA'; first | subst hA' | (cases hA') | (replace hA' := Option.some.inj hA'; cases hA') | (dsimp only at hA'; subst hA')) | refine VIdx.at_ rfl _ rfl (by omega) ?_ | refine VIdx.at_ rfl _ (by assumption) (by omega) ?_ | refine VIdx.at_ rfl 0 rfl (by omega) ?_) | (show VQuo _ _ _; refine VQuo.nn (by omega) (by omega) (by omega) ?_) | (show VRem _ _ _; refine VRem.nn (by omega) (by omega) ?_) | (show VStrIx _ _ _; first | refine VStrIx.mk _ rfl (by omega) ?_ | refine VStrIx.mk _ (by assumption) (by omega) ?_) | (show VU64 _ _; refine VU64.mk (fun _ _ _ => ?_)) | (show VAnd64 _ _; refine VAnd64.mk (by omega) (fun _ _ _ => ?_)) | (show VShr64 _ _ _; refine VShr64.mk (by omega) (by omega) (fun _ _ _ => ?_)) | (show VCat _ _ _; refine VCat.mk (by omega) ?_) | (show VKeep _ _; refine VKeep.mk rfl ?_) | (show VDone _ _; refine VDone.same ?_) | (show _ ∧ True; refine And.intro ?_ trivial) | (show _ ∧ _; refine And.intro ?_ ?_) | intro _) | ((conv => whnf); (first | ((show VIdx _ _ _ _ _ _ _); refine VIdx.at_ rfl j rfl (by omega) ?_) | ((show VLoad1 _ _ _ _ _); refine VLoad1.mk _ (Rd.old hbb hnl (by show w0.w.cell? ⟨bb, off + mulS j 1, none⟩ = _; rw [mulS_eq, Nat.mul_one]; exact hc)) ?_)))))
  all_goals (conv => whnf)
  all_goals refine VRet.mk fun w' m => ⟨(x, _, _), ⟨hxb, i3, i4⟩, rfl, m⟩
theorem amongT_v {w0 : Base} {w : World} (l : List UInt8) (A : Option Addr) (c : Nat) (at_ sd : Int) (g : Nat) (B : Option Addr) (n d : Nat) (cs : List Value) (hA : OldSeen w0 A (YS l)) (hl : l.length ≤ 1048576) (h0 : 0 ≤ at_) (h1 : at_ ≤ 4611686018427380000) (hB : OldSeen w0 B cs) (hn : n ≤ cs.length) (hp : 0 < n) (hn2 : n ≤ 1048576) (bd : Int) (hb : okIntB bd cs = true) (m0 : Mem w0 [.blk g 49 (cuC A l.length c at_ sd)] w) :
    Calls Tryz.prog 21 #[.pointer (some ⟨g, 0, none⟩), .slice B n d] w fun e w' => ∃ v, e = .returned v ∧ RetL (ι := Int × Int × Int) (fun (x, a, s) => (-bd ≤ x ∧ x ≤ bd) ∧ at_ ≤ a ∧ a ≤ at_ + 2) (fun (x, a, s) => .int .i64 x) (fun (x, a, s) => [.blk g 49 (cuC A l.length c a s)]) (fun _ => []) w0 v w' :=
  amongB_v l A c at_ sd g B n d (cs.take n) hA hl h0 h1 (hB.take n) (by rw [List.length_take]; omega) hp hn2 bd (okIntB_take n hb) m0
section
variable {w0 : Base} {own : List Own} {w : World}
theorem OldSeen.any (m : Mem w0 own w) (ks : List Nat) {g j : Nat} {ty : TypeId} {cs : List Value} (h : At (.blk g ty cs) j own) (hn : j ∉ ks) : OldSeen (Base.lendL w (fixOf ks own)) (some ⟨g, 0, none⟩) cs := OldSeen.blk m ks j h.get hn
theorem OldSeen.anyRow (m : Mem w0 own w) (ks : List Nat) {A : Option Addr} {n c j : Nat} {ty : TypeId} {size n' : Nat} {cs : List Value} (h : At (.row (.slice A n c) ty size n' cs) j own) (hn : j ∉ ks) : OldSeen (Base.lendL w (fixOf ks own)) A cs := OldSeen.row m ks j h.get hn
theorem Mem.cap (m : Mem w0 own w) {A : Option Addr} {n c j : Nat} {ty : TypeId} {size n' : Nat} {cs : List Value} (h : At (.row (.slice A n c) ty size n' cs) j own) : n ≤ c := by
  rcases (m.ok j _ h.get).2.2 with ⟨e, h0⟩ | ⟨g, cap, cur, e, _, _, hnc, _⟩
  · injection e with e1 e2 e3
    omega
  · injection e with e1 e2 e3
    omega
end
end Go.Proofs.YtapfljhihbodkaaGreatDoor
