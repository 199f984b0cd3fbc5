/-
  Bytes that come in, and a record appended to a log: plain.
  Conditions: none beyond each statement's own premises.
-/
import Derived.Test.YtdikkjpmmbjclaaDoorEJ
import Derived.Test.YtdikkjpmmbjclaaDoorEG
namespace Go.Proofs.YtdikkjpmmbjclaaDoor
set_option linter.unusedSimpArgs false
set_option linter.unusedVariables false
open Go.ChangeShapes Go.WideShapes Go.ChangeAt Go.RowKit
set_option maxRecDepth 10000
theorem cell_u8 {H : Type} {enc : TypeId × Value → H} {P : Program} {w : World} {base : Nat} {spare : Nat → Bool} {held : Bool} {t : TypeId} {fuel : Nat} {cs : List Value} {x : DataW H × List MemPlace} (ht : P.underlying t = some (.int .u8)) (h : DataW.trod enc P w base spare held fuel t cs = some x) : ∃ b : UInt8, cs = [.int .u8 (b.toNat : Int)] := by
  obtain ⟨n, h1, _, h3⟩ := DataW.trod_int ht h
  have h4 : 0 ≤ n ∧ n ≤ 255 := by simpa [Lit.wf, IntKind.min, IntKind.max, IntKind.signed, IntKind.bits] using h3
  refine ⟨UInt8.ofNat n.toNat, ?_⟩
  rw [h1, UInt8.toNat_ofNat']
  have : ((n.toNat % 2 ^ 8 : Nat) : Int) = n := by omega
  rw [this]
set_option maxRecDepth 100000 in
theorem open_YS {H : Type} {enc : TypeId × Value → H} {w : World} {base : Nat} {spare : Nat → Bool} {held : Bool} {fuel : Nat} {cs : List Value} {x : DataW H × List MemPlace} (h : DataW.trod enc Tryd.prog w base spare held fuel 53 cs = some x) :
    ∃ (A : Option Addr) (l : List UInt8) (c : Nat), cs = [.slice A l.length c] ∧ l.length ≤ 9223372036854775807 ∧ Seen w A (YS l) := by
  obtain ⟨A, n, c, rfl, hn, fu, he⟩ := open_elems (s := 1) Tryd.underlying53 (by kernel_rfl) (by omega) h
  have H : ∀ i, i < n → ∃ l : UInt8, (∃ b off, A = some ⟨b, off, none⟩ ∧ RowAt w b (off + i * 1) [.int .u8 (l.toNat : Int)]) := fun i hi => by
    obtain ⟨b, off, cs', y, hA, hb, hlen, hc, ht⟩ := he i hi
    obtain ⟨l, rfl⟩ := cell_u8 Tryd.underlying5 ht
    exact ⟨l, ⟨b, off, hA, hb, fun j u hj => (hc j (by
      rcases Nat.lt_or_ge j 1 with h2 | h2
      · exact h2
      · rw [List.getElem?_eq_none h2] at hj; cases hj)).trans hj⟩⟩
  obtain ⟨f, hf⟩ := choose_below (0 : UInt8) H
  have hlen : ((List.range n).map f).length = n := by simp
  have hs : Seen w A (rowsN n fun i => [.int .u8 ((f i).toNat : Int)]) := Seen.ofRows (s := 1) (fun _ => rfl) (fun i hi => hf i hi)
  have e : (rowsN n fun i => ([.int .u8 ((f i).toNat : Int)] : List Value)) = YS ((List.range n).map f) := by
    rw [show (rowsN n fun i => ([.int .u8 ((f i).toNat : Int)] : List Value)) = (List.range n).map (fun i => Value.int .u8 ((f i).toNat : Int)) from rowsN_one _ _]
    unfold YS
    rw [List.map_map]
    rfl
  rw [e] at hs
  exact ⟨A, (List.range n).map f, c, by rw [hlen], by rw [hlen]; exact hn, hs⟩
theorem openV_YS {H : Type} {enc : TypeId × Value → H} {w : World} {base : Nat} {spare : Nat → Bool} {held : Bool} {r : Reach} {b0 : Nat} {v : Value} {d : DataW H} {ps : List MemPlace} (hv : Value.okWide Tryd.prog w r b0 53 v) (h : DataW.Trod enc Tryd.prog w base spare held 53 v d ps) :
    ∃ (A : Option Addr) (l : List UInt8) (c : Nat), v = .slice A l.length c ∧ l.length ≤ 9223372036854775807 ∧ Seen w A (YS l) := by
  obtain ⟨A, n, c, fuel, rfl, hf⟩ := openV_slice Tryd.underlying53 hv h
  obtain ⟨A', l, c', e, hn, hr⟩ := open_YS hf
  cases e
  exact ⟨A, l, c, rfl, hn, hr⟩
theorem vBig_v (A : Option Addr) (n c : Nat) (w : World) (hn : n ≤ 9223372036854775807) : Calls Tryd.prog 35 #[.slice A n c] w (Post (.bool (tr (65536 < n))) w) := by
  refine post_of_vc ?_
  refine calls_of_vc tb_ok (args := [.slice A n c]) Tryd.func35 rfl ?_
  (repeat' ((conv => whnf); first | (show VIf _ _ _; first | refine VIf.mk (fun _ => ?_) (fun h => absurd rfl h) | refine VIf.mk (fun h => Bool.noConfusion h) (fun _ => ?_) | refine VIf.mk (fun _ => ?_) (fun h => absurd (by assumption) h) | refine VIf.mk (fun h => absurd h (by assumption)) (fun _ => ?_) | refine VIf.mk (fun _ => ?_) (fun h => absurd (by omega) h) | refine VIf.mk (fun h => absurd h (by omega)) (fun _ => ?_) | refine VIf.mk (fun _ => ?_) (fun _ => ?_)) | (show VIn _ _; refine VIn.mk (by omega) (by omega) ?_) | (show VLoad1 _ _ _ _ _; first | refine VLoad1.mk _ (Rd.own 0 rfl rfl) ?_ | refine VLoad1.mk _ (Rd.own 1 rfl rfl) ?_ | refine VLoad1.mk _ (Rd.own 2 rfl rfl) ?_ | refine VLoad1.mk _ (Rd.own 3 rfl rfl) ?_ | refine VLoad1.mk _ (Rd.own 4 rfl rfl) ?_ | refine VLoad1.mk _ (Rd.own 5 rfl rfl) ?_ | refine VLoad1.mk _ (Rd.own 6 rfl rfl) ?_ | refine VLoad1.mk _ (Rd.own 7 rfl rfl) ?_ | refine VLoad1.mk _ (Rd.own 8 rfl rfl) ?_ | refine VLoad1.mk _ (Rd.own 9 rfl rfl) ?_ | refine VLoad1.mk _ (Rd.row 0 rfl (by assumption)) ?_ | refine VLoad1.mk _ (Rd.row 1 rfl (by assumption)) ?_ | refine VLoad1.mk _ (Rd.row 2 rfl (by assumption)) ?_ | refine VLoad1.mk _ (Rd.row 3 rfl (by assumption)) ?_ | refine VLoad1.mk _ (Rd.old (by assumption) (fun h => h) (by assumption)) ?_) | (show VLoadN _ _ _ _ _ _; first | refine VLoadN.at_ (by assumption) rfl ?_ | refine VLoadN.own 0 rfl (Nat.le_of_ble_eq_true rfl) ?_ | refine VLoadN.own 1 rfl (Nat.le_of_ble_eq_true rfl) ?_ | refine VLoadN.own 2 rfl (Nat.le_of_ble_eq_true rfl) ?_ | refine VLoadN.own 3 rfl (Nat.le_of_ble_eq_true rfl) ?_ | refine VLoadN.own 4 rfl (Nat.le_of_ble_eq_true rfl) ?_ | refine VLoadN.own 5 rfl (Nat.le_of_ble_eq_true rfl) ?_ | refine VLoadN.own 6 rfl (Nat.le_of_ble_eq_true rfl) ?_ | refine VLoadN.own 7 rfl (Nat.le_of_ble_eq_true rfl) ?_ | refine VLoadN.own 8 rfl (Nat.le_of_ble_eq_true rfl) ?_ | refine VLoadN.own 9 rfl (Nat.le_of_ble_eq_true rfl) ?_) | (show VStore _ _ _ _ _ _; first | refine VStore.blk 0 rfl rfl rfl (Nat.le_of_ble_eq_true rfl) rfl ?_ | refine VStore.blk 1 rfl rfl rfl (Nat.le_of_ble_eq_true rfl) rfl ?_ | refine VStore.blk 2 rfl rfl rfl (Nat.le_of_ble_eq_true rfl) rfl ?_ | refine VStore.blk 3 rfl rfl rfl (Nat.le_of_ble_eq_true rfl) rfl ?_ | refine VStore.blk 4 rfl rfl rfl (Nat.le_of_ble_eq_true rfl) rfl ?_ | refine VStore.blk 5 rfl rfl rfl (Nat.le_of_ble_eq_true rfl) rfl ?_ | refine VStore.blk 6 rfl rfl rfl (Nat.le_of_ble_eq_true rfl) rfl ?_ | refine VStore.blk 7 rfl rfl rfl (Nat.le_of_ble_eq_true rfl) rfl ?_ | refine VStore.blk 8 rfl rfl rfl (Nat.le_of_ble_eq_true rfl) rfl ?_ | refine VStore.blk 9 rfl rfl rfl (Nat.le_of_ble_eq_true rfl) rfl ?_) | (show VIdx _ _ _ _ _ _ _; first | (refine VIdx.row 0 rfl _ rfl (by omega) ?_; intro gQ hA'; first | subst hA' | (cases hA') | (replace hA' := Option.some.inj hA'; cases hA')) | (refine VIdx.row 1 rfl _ rfl (by omega) ?_; intro gQ hA'; first | subst hA' | (cases hA') | (replace hA' := Option.some.inj hA'; cases hA')) | (refine VIdx.row 2 rfl _ rfl (by omega) ?_; intro gQ hA'; first | subst hA' | (cases hA') | (replace hA' := Option.some.inj hA'; cases hA')) | (refine VIdx.row 3 rfl _ rfl (by omega) ?_; intro gQ hA'; first | subst hA' | (cases hA') | (replace hA' := Option.some.inj hA'; cases hA')) | (refine VIdx.row 4 rfl _ rfl (by omega) ?_; intro gQ hA'; first | subst hA' | (cases hA') | (replace hA' := Option.some.inj hA'; cases hA')) | (refine VIdx.row 5 rfl _ rfl (by omega) ?_; intro gQ hA'; first | subst hA' | (cases hA') | (replace hA' := Option.some.inj hA'; cases hA')) | refine VIdx.at_ rfl _ rfl (by omega) ?_ | refine VIdx.at_ rfl _ (by assumption) (by omega) ?_ | refine VIdx.at_ rfl 0 rfl (by omega) ?_) | (show VQuo _ _ _; refine VQuo.nn (by omega) (by omega) (by omega) ?_) | (show VRem _ _ _; refine VRem.nn (by omega) (by omega) ?_) | (show VStrIx _ _ _; first | refine VStrIx.mk _ rfl (by omega) ?_ | refine VStrIx.mk _ (by assumption) (by omega) ?_) | (show VU64 _ _; refine VU64.mk (fun _ _ _ => ?_)) | (show VAnd64 _ _; refine VAnd64.mk (by omega) (fun _ _ _ => ?_)) | (show VShr64 _ _ _; refine VShr64.mk (by omega) (by omega) (fun _ _ _ => ?_)) | (show VCat _ _ _; refine VCat.mk (by omega) ?_) | (show VKeep _ _; refine VKeep.mk rfl ?_) | (show VDone _ _; refine VDone.same ?_) | (show _ ∧ True; refine And.intro ?_ trivial) | (show _ ∧ _; refine And.intro ?_ ?_) | intro _))
  all_goals ((conv => whnf); refine VRet.mk fun w' m => ?_)
  all_goals refine ⟨congrArg Value.bool ?_, m.keeps.below⟩
  all_goals first | (exact (tr_yes (by omega)).symm) | (exact (tr_no (by omega)).symm)
theorem RcS_at {n i off : Nat} {f : Nat → Rc} (hi : i < n) (ho : off = i * 2) (j : Nat) (u : Value) (hj : (f i).cells[j]? = some u) : (RcS n f)[off + j]? = some u := by
  have hj2 : j < 2 := by
    rcases Nat.lt_or_ge j 2 with h | h
    · exact h
    · rw [List.getElem?_eq_none h] at hj; cases hj
  rw [ho]
  have := rowsN_get (f := fun i => (f i).cells) (s := 2) (fun _ => rfl) (n := n) (i := i) (j := j) hi hj2
  rw [show RcS n f = rowsN n fun i => (f i).cells from rfl, this]
  exact hj
/-- A record appended to a good log. -/
theorem okL_app {d p x r : List UInt8} {k : Nat} (h : okL d p k) (hg : okR x r) (hk : ¬ k = 60) :
    okL d (p ++ (ln k x r ++ [10])) ((k : Int) + 1) ∧ cnt (d ++ p) = k ∧ cnt (d ++ (p ++ (ln k x r ++ [10]))) = k + 1 ∧ (∀ i, i < k → rcd (d ++ (p ++ (ln k x r ++ [10]))) i = rcd (d ++ p) i) ∧ rcd (d ++ (p ++ (ln k x r ++ [10]))) k = ⟨tx x, tx r⟩ ∧ ends (d ++ (p ++ (ln k x r ++ [10]))) (k + 1) = (d ++ (p ++ (ln k x r ++ [10]))).length ∧ k < 60 := by
  obtain ⟨h1, h2, h3⟩ := h
  have hc : cnt (d ++ p) = k := by omega
  have h60 := cnt_le (d ++ p)
  have hlt : k < 60 := by omega
  rw [hc] at h1
  have e : d ++ (p ++ (ln k x r ++ [10])) = (d ++ p) ++ (ln k x r ++ [10]) := (List.append_assoc _ _ _).symm
  unfold okL
  rw [e]
  clear e h2 h60
  generalize d ++ p = s at h1 hc
  have he : ends (s ++ (ln k x r ++ [10])) k = s.length := by rw [app_ends (by omega), h1]
  have hd : (s ++ (ln k x r ++ [10])).drop s.length = ln k x r ++ [10] := by simp
  have hln := ln_line (k := k) hg
  have hb := bfs_at (c := 10) (p := ln k x r) (q := []) hln
  have hlin : lin (s ++ (ln k x r ++ [10])) s.length = ln k x r := by unfold lin; rw [hd]; exact hb.1
  have hst : step (s ++ (ln k x r ++ [10])) k := ⟨hlt, by rw [he, hd]; simp, by rw [he, hlin]; exact (okp_ln hg).1⟩
  have he1 : ends (s ++ (ln k x r ++ [10])) (k + 1) = (s ++ (ln k x r ++ [10])).length := by
    show ends (s ++ (ln k x r ++ [10])) k + (lin (s ++ (ln k x r ++ [10])) (ends (s ++ (ln k x r ++ [10])) k)).length + 1 = _
    rw [he, hlin]
    simp
    omega
  have hcnt : cnt (s ++ (ln k x r ++ [10])) = k + 1 := cnt_is (fun j hj => by
    rcases Nat.lt_or_ge j k with h | h
    · exact (step_app (app_ends (by omega)) (cnt_step (by omega))).1
    · rw [show j = k by omega]; exact hst) (step_end (by omega))
  refine ⟨⟨?_, ?_, h3⟩, hc, hcnt, fun i hi => ?_, ?_, he1, hlt⟩
  · rw [hcnt, he1]
  · rw [hcnt]; rfl
  · have hi2 := cnt_step (s := s) (j := i) (by omega)
    unfold rcd
    rw [app_ends (by omega), (lin_app hi2.2.1).1]
  · unfold rcd
    rw [he, hlin, (okp_ln hg).2.1, (okp_ln hg).2.2]
end Go.Proofs.YtdikkjpmmbjclaaDoor
