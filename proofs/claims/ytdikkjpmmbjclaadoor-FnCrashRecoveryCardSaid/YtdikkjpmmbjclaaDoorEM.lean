/-
  A log behind a crash: plain; the drawn crash.
  Conditions: none beyond each statement's own premises.
-/
import Derived.Test.YtdikkjpmmbjclaaDoorEL
namespace Go.Proofs.YtdikkjpmmbjclaaDoor
set_option linter.unusedSimpArgs false
set_option linter.unusedVariables false
open Go.RowKit
set_option maxRecDepth 10000
/-! ### Behind a crash -/
theorem u8_le {b : UInt8} (h : okB b) : b.toNat ≤ 126 := h.2.1
theorem ln_le {k : Nat} {c r : List UInt8} (h : okR c r) : ∀ b, b ∈ ln k c r → b.toNat ≤ 126 := fun b hb => by
  unfold ln sl at hb
  rcases List.mem_append.1 hb with hb | hb
  · rcases bod_mem hb with h1 | h1 | h1 | h1 | h1
    · omega
    · rw [h1]; decide
    · exact u8_le (h.1 b h1)
    · rw [h1]; decide
    · exact u8_le (h.2.1 b h1)
  · rcases List.mem_cons.1 hb with h1 | h1
    · rw [h1]; decide
    · have := dd_digit _ _ h1
      omega
/-- All bytes of the records of a log are letters of ASCII. -/
theorem bytes_le {s : List UInt8} : ∀ {j : Nat}, j ≤ cnt s → ∀ b, b ∈ s.take (ends s j) → b.toNat ≤ 126
  | 0, _, b, hb => by simp [ends] at hb
  | j + 1, hj, b, hb => by
    have hst := cnt_step (s := s) (j := j) hj
    have hle := ends_le (s := s) (k := j) (by omega)
    obtain ⟨_, hm, ho, he⟩ := hst
    obtain ⟨e1, _⟩ := bfs_yes hm
    have hlin : bfs 10 (s.drop (ends s j)) = lin s (ends s j) := rfl
    have e2 : s.take (ends s (j + 1)) = s.take (ends s j) ++ (lin s (ends s j) ++ [10]) := by
      have hl : (s.take (ends s j)).length = ends s j := by rw [List.length_take]; omega
      have h3 : s = (s.take (ends s j) ++ (lin s (ends s j) ++ [10])) ++ afs 10 (s.drop (ends s j)) := by
        rw [← hlin]
        have h4 : s.take (ends s j) ++ (bfs 10 (s.drop (ends s j)) ++ [10]) ++ afs 10 (s.drop (ends s j)) = s.take (ends s j) ++ (bfs 10 (s.drop (ends s j)) ++ 10 :: afs 10 (s.drop (ends s j))) := by simp
        rw [h4, ← e1, List.take_append_drop]
      have h2 : ends s (j + 1) = (s.take (ends s j) ++ (lin s (ends s j) ++ [10])).length := by
        show ends s j + (lin s (ends s j)).length + 1 = _
        simp only [List.length_append, List.length_cons, List.length_nil, hl]
        omega
      have h5 : ∀ (u v : List UInt8) (n : Nat), s = u ++ v → n = u.length → s.take n = u := fun u v n a b => by rw [a, b]; exact List.take_left
      exact h5 _ _ _ h3 h2
    rw [e2] at hb
    rcases List.mem_append.1 hb with hb | hb
    · exact bytes_le (by omega) b hb
    · rcases List.mem_append.1 hb with hb | hb
      · rw [← he] at hb
        exact ln_le ho b hb
      · rw [List.mem_singleton.1 hb]; decide
/-- What is read of a text that goes on as another one is read of that one. -/
theorem pre_read {u f p : List UInt8} (hf : f = u ++ p) {s v : List UInt8} (hs : s = u ++ v) (h : ends s (cnt s) ≤ u.length) :
    cnt s ≤ cnt f ∧ ∀ i, i < cnt s → rcd s i = rcd f i := by
  subst hf hs
  obtain ⟨h1, h2⟩ := app_back (d := u) (p := v) (j := cnt (u ++ v)) (Nat.le_refl _) h
  have hu : cnt (u ++ v) ≤ cnt u := by
    rcases Nat.lt_or_ge (cnt u) (cnt (u ++ v)) with h3 | h3
    · exact absurd (h2 _ h3) (cnt_stop u)
    · exact h3
  have hf := app_cnt (d := u) (p := p)
  refine ⟨by omega, fun i hi => ?_⟩
  have hst := cnt_step (s := u) (j := i) (by omega)
  unfold rcd
  rw [app_ends (p := v) (show i ≤ cnt u by omega), app_ends (p := p) (show i ≤ cnt u by omega), (lin_app (p := v) hst.2.1).1, (lin_app (p := p) hst.2.1).1]
/-- The last byte of what is read is a newline. -/
theorem last_line {s : List UInt8} {j : Nat} (h : step s j) : s[ends s (j + 1) - 1]? = some 10 := by
  have := bfs_get h.2.1
  rw [List.getElem?_drop] at this
  have e : ends s (j + 1) = ends s j + (bfs 10 (s.drop (ends s j))).length + 1 := rfl
  rw [e, show ends s j + (bfs 10 (s.drop (ends s j))).length + 1 - 1 = ends s j + (bfs 10 (s.drop (ends s j))).length by omega]
  exact this
theorem crash_read {d p : List UInt8} {c : Int} {k : Nat} {torn : Bool} (h : okL d p c) (hk : k ≤ p.length) :
    d.length ≤ ends (d ++ flipL (p.take k) torn) (cnt (d ++ flipL (p.take k) torn)) ∧ cnt (d ++ flipL (p.take k) torn) ≤ cnt (d ++ p) ∧ ∀ i, i < cnt (d ++ flipL (p.take k) torn) → rcd (d ++ flipL (p.take k) torn) i = rcd (d ++ p) i := by
  have h1 : d.length ≤ ends (d ++ flipL (p.take k) torn) (cnt (d ++ flipL (p.take k) torn)) := by
    have a1 := app_cnt (d := d) (p := flipL (p.take k) torn)
    have a2 := app_ends (d := d) (p := flipL (p.take k) torn) (Nat.le_refl _)
    have a3 := ends_mono (s := d ++ flipL (p.take k) torn) a1
    have a4 := h.2.2
    omega
  refine ⟨h1, ?_⟩
  have hq : (p.take k).length = k := by rw [List.length_take]; omega
  by_cases hb : torn = true ∧ 0 < k
  · obtain ⟨rfl, hk0⟩ := hb
    obtain ⟨q, b, hqb⟩ : ∃ q b, p.take k = q ++ [b] := by
      refine ⟨(p.take k).dropLast, (p.take k).getLast (by intro e; rw [e] at hq; simp at hq; omega), ?_⟩
      exact (List.dropLast_concat_getLast _).symm
    have hql : q.length = k - 1 := by have := congrArg List.length hqb; rw [hq] at this; simp at this; omega
    have hfl : flipL (p.take k) true = q ++ [255 - b] := by
      unfold flipL
      rw [if_pos ⟨rfl, by omega⟩, hq, hqb]
      have e1 : (q ++ [b]).getD (k - 1) 0 = b := by rw [← hql, List.getD_eq_getElem?_getD, List.getElem?_append_right (Nat.le_refl _), Nat.sub_self]; rfl
      rw [e1, ← hql, List.set_append_right _ _ (Nat.le_refl _), Nat.sub_self]
      rfl
    rw [hfl] at *
    have hp : p = q ++ (b :: p.drop k) := by
      have := (List.take_append_drop k p).symm
      rw [hqb] at this
      rw [List.append_assoc] at this
      exact this
    have hbl : b.toNat ≤ 126 := by
      have h2 := bytes_le (s := d ++ p) (Nat.le_refl _) b
      rw [h.1, List.take_length] at h2
      exact h2 (by rw [hp]; simp)
    refine pre_read (u := d ++ q) (p := b :: p.drop k) (by rw [List.append_assoc, ← hp]) (v := [255 - b]) (by rw [List.append_assoc]) ?_
    have hle := ends_le (Nat.le_refl (cnt (d ++ (q ++ [255 - b]))))
    have hll : (d ++ (q ++ [255 - b])).length = (d ++ q).length + 1 := by simp; omega
    refine Classical.byContradiction fun hn => ?_
    have he : ends (d ++ (q ++ [255 - b])) (cnt (d ++ (q ++ [255 - b]))) = (d ++ q).length + 1 := by omega
    have hc0 : ¬ cnt (d ++ (q ++ [255 - b])) = 0 := fun e => by
      rw [e] at he
      exact absurd he (by show ¬ 0 = _; omega)
    have hl := last_line (cnt_step (s := d ++ (q ++ [255 - b])) (j := cnt (d ++ (q ++ [255 - b])) - 1) (by omega))
    rw [show cnt (d ++ (q ++ [255 - b])) - 1 + 1 = cnt (d ++ (q ++ [255 - b])) by omega, he, Nat.add_sub_cancel, ← List.append_assoc, List.getElem?_append_right (Nat.le_refl _), Nat.sub_self] at hl
    have hl2 : 255 - b = 10 := by simpa using hl
    have h255 : (255 - b).toNat = 255 - b.toNat := UInt8.toNat_sub_of_le (255 : UInt8) b (UInt8.le_iff_toNat_le.2 (by show b.toNat ≤ 255; omega))
    rw [hl2] at h255
    have : (10 : UInt8).toNat = 10 := rfl
    omega
  · have hfl : flipL (p.take k) torn = p.take k := by unfold flipL; rw [if_neg (by rw [hq]; exact hb)]
    rw [hfl] at *
    exact pre_read (u := d ++ p.take k) (p := p.drop k) (by rw [List.append_assoc, List.take_append_drop]) (v := []) (by simp) (ends_le (Nat.le_refl _))
set_option maxHeartbeats 4000000 in
theorem drawCr_v (l : List UInt8) (A : Option Addr) (c0 : Nat) (w : World) (hl : l.length ≤ 1048576) (hA0 : Seen w A (YS l)) :
    Calls Tryd.prog 41 #[.slice A l.length c0] w fun e w' => ∃ i : List UInt8 × List UInt8 × Int × Int × Bool, (fun (d, p, c, k, b) => d.length + p.length ≤ 30000 ∧ (0 ≤ c ∧ c ≤ 100) ∧ -1 ≤ k ∧ k ≤ 40000) i ∧ Post ((fun (d, p, c, k, b) => .tuple #[.agg #[.string (tx d), .string (tx p), .int .i64 c], .int .i64 k, .bool b]) i) w e w' := by
  have hA := OldSeen.old hA0
  refine some_of_vc ?_
  refine calls_of_vc tb_ok (args := [.slice A l.length c0]) Tryd.func41 rfl ?_
  (repeat' (first | ((conv => whnf); first | (show VIf _ _ _; first | refine VIf.mk (fun _ => ?_) (fun h => absurd rfl h) | refine VIf.mk (fun h => Bool.noConfusion h) (fun _ => ?_) | refine VIf.mk (fun _ => ?_) (fun h => absurd (by assumption) h) | refine VIf.mk (fun h => absurd h (by assumption)) (fun _ => ?_) | refine VIf.mk (fun _ => ?_) (fun h => absurd (by omega) h) | refine VIf.mk (fun h => absurd h (by omega)) (fun _ => ?_) | refine VIf.mk (fun _ => ?_) (fun _ => ?_)) | (show VIn _ _; refine VIn.mk (by omega) (by omega) ?_) | (show VLoad1 _ _ _ _ _; first | refine VLoad1.mk _ (Rd.own 0 rfl rfl) ?_ | refine VLoad1.mk _ (Rd.own 1 rfl rfl) ?_ | refine VLoad1.mk _ (Rd.own 2 rfl rfl) ?_ | refine VLoad1.mk _ (Rd.own 3 rfl rfl) ?_ | refine VLoad1.mk _ (Rd.own 4 rfl rfl) ?_ | refine VLoad1.mk _ (Rd.own 5 rfl rfl) ?_ | refine VLoad1.mk _ (Rd.own 6 rfl rfl) ?_ | refine VLoad1.mk _ (Rd.own 7 rfl rfl) ?_ | refine VLoad1.mk _ (Rd.own 8 rfl rfl) ?_ | refine VLoad1.mk _ (Rd.own 9 rfl rfl) ?_ | refine VLoad1.mk _ (Rd.row 0 rfl (by assumption)) ?_ | refine VLoad1.mk _ (Rd.row 1 rfl (by assumption)) ?_ | refine VLoad1.mk _ (Rd.row 2 rfl (by assumption)) ?_ | refine VLoad1.mk _ (Rd.row 3 rfl (by assumption)) ?_ | refine VLoad1.mk _ (Rd.old (by assumption) (fun h => h) (by assumption)) ?_) | (show VLoadN _ _ _ _ _ _; first | refine VLoadN.at_ (by assumption) rfl ?_ | refine VLoadN.own 0 rfl (Nat.le_of_ble_eq_true rfl) ?_ | refine VLoadN.own 1 rfl (Nat.le_of_ble_eq_true rfl) ?_ | refine VLoadN.own 2 rfl (Nat.le_of_ble_eq_true rfl) ?_ | refine VLoadN.own 3 rfl (Nat.le_of_ble_eq_true rfl) ?_ | refine VLoadN.own 4 rfl (Nat.le_of_ble_eq_true rfl) ?_ | refine VLoadN.own 5 rfl (Nat.le_of_ble_eq_true rfl) ?_ | refine VLoadN.own 6 rfl (Nat.le_of_ble_eq_true rfl) ?_ | refine VLoadN.own 7 rfl (Nat.le_of_ble_eq_true rfl) ?_ | refine VLoadN.own 8 rfl (Nat.le_of_ble_eq_true rfl) ?_ | refine VLoadN.own 9 rfl (Nat.le_of_ble_eq_true rfl) ?_) | (show VStore _ _ _ _ _ _; first | refine VStore.blk 0 rfl rfl rfl (Nat.le_of_ble_eq_true rfl) rfl ?_ | refine VStore.blk 1 rfl rfl rfl (Nat.le_of_ble_eq_true rfl) rfl ?_ | refine VStore.blk 2 rfl rfl rfl (Nat.le_of_ble_eq_true rfl) rfl ?_ | refine VStore.blk 3 rfl rfl rfl (Nat.le_of_ble_eq_true rfl) rfl ?_ | refine VStore.blk 4 rfl rfl rfl (Nat.le_of_ble_eq_true rfl) rfl ?_ | refine VStore.blk 5 rfl rfl rfl (Nat.le_of_ble_eq_true rfl) rfl ?_ | refine VStore.blk 6 rfl rfl rfl (Nat.le_of_ble_eq_true rfl) rfl ?_ | refine VStore.blk 7 rfl rfl rfl (Nat.le_of_ble_eq_true rfl) rfl ?_ | refine VStore.blk 8 rfl rfl rfl (Nat.le_of_ble_eq_true rfl) rfl ?_ | refine VStore.blk 9 rfl rfl rfl (Nat.le_of_ble_eq_true rfl) rfl ?_) | (show VIdx _ _ _ _ _ _ _; first | (refine VIdx.row 0 rfl _ rfl (by omega) ?_; intro gQ hA'; first | subst hA' | (cases hA') | (replace hA' := Option.some.inj hA'; cases hA')) | (refine VIdx.row 1 rfl _ rfl (by omega) ?_; intro gQ hA'; first | subst hA' | (cases hA') | (replace hA' := Option.some.inj hA'; cases hA')) | (refine VIdx.row 2 rfl _ rfl (by omega) ?_; intro gQ hA'; first | subst hA' | (cases hA') | (replace hA' := Option.some.inj hA'; cases hA')) | (refine VIdx.row 3 rfl _ rfl (by omega) ?_; intro gQ hA'; first | subst hA' | (cases hA') | (replace hA' := Option.some.inj hA'; cases hA')) | (refine VIdx.row 4 rfl _ rfl (by omega) ?_; intro gQ hA'; first | subst hA' | (cases hA') | (replace hA' := Option.some.inj hA'; cases hA')) | (refine VIdx.row 5 rfl _ rfl (by omega) ?_; intro gQ hA'; first | subst hA' | (cases hA') | (replace hA' := Option.some.inj hA'; cases hA')) | refine VIdx.at_ rfl _ rfl (by omega) ?_ | refine VIdx.at_ rfl _ (by assumption) (by omega) ?_ | refine VIdx.at_ rfl 0 rfl (by omega) ?_) | (show VQuo _ _ _; refine VQuo.nn (by omega) (by omega) (by omega) ?_) | (show VRem _ _ _; refine VRem.nn (by omega) (by omega) ?_) | (show VStrIx _ _ _; first | refine VStrIx.mk _ rfl (by omega) ?_ | refine VStrIx.mk _ (by assumption) (by omega) ?_) | (show VU64 _ _; refine VU64.mk (fun _ _ _ => ?_)) | (show VAnd64 _ _; refine VAnd64.mk (by omega) (fun _ _ _ => ?_)) | (show VShr64 _ _ _; refine VShr64.mk (by omega) (by omega) (fun _ _ _ => ?_)) | (show VCat _ _ _; refine VCat.mk (by omega) ?_) | (show VKeep _ _; refine VKeep.mk rfl ?_) | (show VDone _ _; refine VDone.same ?_) | (show _ ∧ True; refine And.intro ?_ trivial) | (show _ ∧ _; refine And.intro ?_ ?_) | intro _) | ((conv => whnf); (first | ((show VCall _ _ _ 52 [_] _); refine VCall.fullS [1] (by simp) (fun _ => rfl) (fun w1 m1 m2 => anyLog_v l A c0 _ _ _ (hA.lend m1 [1]) hl (by decide) (by decide) m2) (fun (d, p, c1, a0, s0) hi => ?_); obtain ⟨e1, e2, e3, e4, e5⟩ := hi)))))
  have hnp := tx_size p
  (repeat' (first | ((conv => whnf); first | (show VIf _ _ _; first | refine VIf.mk (fun _ => ?_) (fun h => absurd rfl h) | refine VIf.mk (fun h => Bool.noConfusion h) (fun _ => ?_) | refine VIf.mk (fun _ => ?_) (fun h => absurd (by assumption) h) | refine VIf.mk (fun h => absurd h (by assumption)) (fun _ => ?_) | refine VIf.mk (fun _ => ?_) (fun h => absurd (by omega) h) | refine VIf.mk (fun h => absurd h (by omega)) (fun _ => ?_) | refine VIf.mk (fun _ => ?_) (fun _ => ?_)) | (show VIn _ _; refine VIn.mk (by omega) (by omega) ?_) | (show VLoad1 _ _ _ _ _; first | refine VLoad1.mk _ (Rd.own 0 rfl rfl) ?_ | refine VLoad1.mk _ (Rd.own 1 rfl rfl) ?_ | refine VLoad1.mk _ (Rd.own 2 rfl rfl) ?_ | refine VLoad1.mk _ (Rd.own 3 rfl rfl) ?_ | refine VLoad1.mk _ (Rd.own 4 rfl rfl) ?_ | refine VLoad1.mk _ (Rd.own 5 rfl rfl) ?_ | refine VLoad1.mk _ (Rd.own 6 rfl rfl) ?_ | refine VLoad1.mk _ (Rd.own 7 rfl rfl) ?_ | refine VLoad1.mk _ (Rd.own 8 rfl rfl) ?_ | refine VLoad1.mk _ (Rd.own 9 rfl rfl) ?_ | refine VLoad1.mk _ (Rd.row 0 rfl (by assumption)) ?_ | refine VLoad1.mk _ (Rd.row 1 rfl (by assumption)) ?_ | refine VLoad1.mk _ (Rd.row 2 rfl (by assumption)) ?_ | refine VLoad1.mk _ (Rd.row 3 rfl (by assumption)) ?_ | refine VLoad1.mk _ (Rd.old (by assumption) (fun h => h) (by assumption)) ?_) | (show VLoadN _ _ _ _ _ _; first | refine VLoadN.at_ (by assumption) rfl ?_ | refine VLoadN.own 0 rfl (Nat.le_of_ble_eq_true rfl) ?_ | refine VLoadN.own 1 rfl (Nat.le_of_ble_eq_true rfl) ?_ | refine VLoadN.own 2 rfl (Nat.le_of_ble_eq_true rfl) ?_ | refine VLoadN.own 3 rfl (Nat.le_of_ble_eq_true rfl) ?_ | refine VLoadN.own 4 rfl (Nat.le_of_ble_eq_true rfl) ?_ | refine VLoadN.own 5 rfl (Nat.le_of_ble_eq_true rfl) ?_ | refine VLoadN.own 6 rfl (Nat.le_of_ble_eq_true rfl) ?_ | refine VLoadN.own 7 rfl (Nat.le_of_ble_eq_true rfl) ?_ | refine VLoadN.own 8 rfl (Nat.le_of_ble_eq_true rfl) ?_ | refine VLoadN.own 9 rfl (Nat.le_of_ble_eq_true rfl) ?_) | (show VStore _ _ _ _ _ _; first | refine VStore.blk 0 rfl rfl rfl (Nat.le_of_ble_eq_true rfl) rfl ?_ | refine VStore.blk 1 rfl rfl rfl (Nat.le_of_ble_eq_true rfl) rfl ?_ | refine VStore.blk 2 rfl rfl rfl (Nat.le_of_ble_eq_true rfl) rfl ?_ | refine VStore.blk 3 rfl rfl rfl (Nat.le_of_ble_eq_true rfl) rfl ?_ | refine VStore.blk 4 rfl rfl rfl (Nat.le_of_ble_eq_true rfl) rfl ?_ | refine VStore.blk 5 rfl rfl rfl (Nat.le_of_ble_eq_true rfl) rfl ?_ | refine VStore.blk 6 rfl rfl rfl (Nat.le_of_ble_eq_true rfl) rfl ?_ | refine VStore.blk 7 rfl rfl rfl (Nat.le_of_ble_eq_true rfl) rfl ?_ | refine VStore.blk 8 rfl rfl rfl (Nat.le_of_ble_eq_true rfl) rfl ?_ | refine VStore.blk 9 rfl rfl rfl (Nat.le_of_ble_eq_true rfl) rfl ?_) | (show VIdx _ _ _ _ _ _ _; first | (refine VIdx.row 0 rfl _ rfl (by omega) ?_; intro gQ hA'; first | subst hA' | (cases hA') | (replace hA' := Option.some.inj hA'; cases hA')) | (refine VIdx.row 1 rfl _ rfl (by omega) ?_; intro gQ hA'; first | subst hA' | (cases hA') | (replace hA' := Option.some.inj hA'; cases hA')) | (refine VIdx.row 2 rfl _ rfl (by omega) ?_; intro gQ hA'; first | subst hA' | (cases hA') | (replace hA' := Option.some.inj hA'; cases hA')) | (refine VIdx.row 3 rfl _ rfl (by omega) ?_; intro gQ hA'; first | subst hA' | (cases hA') | (replace hA' := Option.some.inj hA'; cases hA')) | (refine VIdx.row 4 rfl _ rfl (by omega) ?_; intro gQ hA'; first | subst hA' | (cases hA') | (replace hA' := Option.some.inj hA'; cases hA')) | (refine VIdx.row 5 rfl _ rfl (by omega) ?_; intro gQ hA'; first | subst hA' | (cases hA') | (replace hA' := Option.some.inj hA'; cases hA')) | refine VIdx.at_ rfl _ rfl (by omega) ?_ | refine VIdx.at_ rfl _ (by assumption) (by omega) ?_ | refine VIdx.at_ rfl 0 rfl (by omega) ?_) | (show VQuo _ _ _; refine VQuo.nn (by omega) (by omega) (by omega) ?_) | (show VRem _ _ _; refine VRem.nn (by omega) (by omega) ?_) | (show VStrIx _ _ _; first | refine VStrIx.mk _ rfl (by omega) ?_ | refine VStrIx.mk _ (by assumption) (by omega) ?_) | (show VU64 _ _; refine VU64.mk (fun _ _ _ => ?_)) | (show VAnd64 _ _; refine VAnd64.mk (by omega) (fun _ _ _ => ?_)) | (show VShr64 _ _ _; refine VShr64.mk (by omega) (by omega) (fun _ _ _ => ?_)) | (show VCat _ _ _; refine VCat.mk (by omega) ?_) | (show VKeep _ _; refine VKeep.mk rfl ?_) | (show VDone _ _; refine VDone.same ?_) | (show _ ∧ True; refine And.intro ?_ trivial) | (show _ ∧ _; refine And.intro ?_ ?_) | intro _) | ((conv => whnf); (first | ((show VCall _ _ _ 54 [_, _] _); refine VCall.fullS [1] (by simp) (fun _ => rfl) (fun w1 m1 m2 => pick_v l A c0 _ _ _ _ (hA.lend m1 [1]) hl (by omega) (by omega) m2) (fun (r0, a, s) hi => ?_); obtain ⟨i1, i2, i3, i4⟩ := hi; obtain ⟨q, rfl⟩ := Int.eq_ofNat_of_zero_le i1) | ((show VCall _ _ _ 53 [_, _] _); refine VCall.fullS [1] (by simp) (fun _ => rfl) (fun w1 m1 m2 => one_v l A c0 _ _ _ _ (hA.lend m1 [1]) hl (by omega) (by omega) m2) (fun (b, a3, s3) hi => ?_); obtain ⟨k1, k2⟩ := hi) | ((show VDraw _ _ _ _ _ _); refine VDraw.mk (.take 0 (.take 1 (.take 2 (.br 3 (.br 4 (.take 5 (.take 6 .done)) .done) .done)))) [2] (by kernel_rfl) (by kernel_rfl) ?_)))))
  all_goals (conv => whnf)
  all_goals first | (refine VRet.mk fun w' m => ⟨(d, p, c1, (q : Int) - 1, true), ⟨by show d.length + p.length ≤ 30000; omega, ⟨by show 0 ≤ c1; omega, by show c1 ≤ 100; omega⟩, by show -1 ≤ (q : Int) - 1; omega, by show (q : Int) - 1 ≤ 40000; omega⟩, rfl, m.keeps.below⟩) | (refine VRet.mk fun w' m => ⟨(d, p, c1, (q : Int) - 1, false), ⟨by show d.length + p.length ≤ 30000; omega, ⟨by show 0 ≤ c1; omega, by show c1 ≤ 100; omega⟩, by show -1 ≤ (q : Int) - 1; omega, by show (q : Int) - 1 ≤ 40000; omega⟩, rfl, m.keeps.below⟩)
end Go.Proofs.YtdikkjpmmbjclaaDoor
