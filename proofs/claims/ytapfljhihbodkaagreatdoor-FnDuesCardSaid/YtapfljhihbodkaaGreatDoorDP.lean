/-
  What due a text tells: the program's and the reference's walks.
  Conditions: none beyond each statement's own premises.
-/
import Derived.Test.YtapfljhihbodkaaGreatDoorDU
import Derived.Lib.CountLaws
import Derived.Lib.IndexBytes
import Derived.Lib.AtoiBound
namespace Go.Proofs.YtapfljhihbodkaaGreatDoor
set_option linter.unusedSimpArgs false
set_option linter.unusedVariables false
open Go.RowKit
set_option maxRecDepth 10000
theorem spl_only {c : UInt8} {p q : List UInt8} (h : c ∉ p) (h2 : c ∉ q) : ∀ k, spl c (p ++ c :: q) (p.length + 1 + k) = ([p], p.length + 1)
  | 0 => spl_one h
  | k + 1 => by
    have hc : ¬ (p ++ c :: q)[p.length + 1 + k]? = some c := by
      rw [List.getElem?_append_right (by omega), show p.length + 1 + k - p.length = k + 1 by omega, List.getElem?_cons_succ]
      exact fun e => h2 (List.mem_of_getElem? e)
    rw [show p.length + 1 + (k + 1) = p.length + 1 + k + 1 from rfl, spl_no hc]
    exact spl_only h h2 k
theorem sps_pair {c : UInt8} {p q : List UInt8} (h : c ∉ p) (h2 : c ∉ q) : sps c (p ++ c :: q) = [p, q] := by
  have e := spl_only h h2 q.length
  have el : (p ++ c :: q).length = p.length + 1 + q.length := by simp; omega
  unfold sps
  rw [el, e]
  simp
theorem spl_part (c : UInt8) (l : List UInt8) : ∀ k, ∀ p ∈ (spl c l k).1, p.length ≤ l.length
  | 0, p, h => by simp [spl] at h
  | k + 1, p, h => by
    by_cases hc : l[k]? = some c
    · rw [spl_yes hc] at h
      rcases List.mem_append.1 h with h1 | h1
      · exact spl_part c l k p h1
      · rw [List.mem_singleton] at h1
        subst h1
        rw [List.length_drop, List.length_take]
        omega
    · rw [spl_no hc] at h
      exact spl_part c l k p h
theorem sps_part {c : UInt8} {l p : List UInt8} (h : p ∈ sps c l) : p.length ≤ l.length := by
  unfold sps at h
  rcases List.mem_append.1 h with h1 | h1
  · exact spl_part c l _ p h1
  · rw [List.mem_singleton] at h1
    subst h1
    rw [List.length_drop]
    omega
theorem two_dot (n : Nat) : (46 : UInt8) ∉ Lib.decDigits (n / 10 % 10) ++ Lib.decDigits (n % 10) := fun h => by
  rcases List.mem_append.1 h with h | h
  · exact dd_dot _ h
  · exact dd_dot _ h
theorem sps_dtx (n : Nat) : sps 46 (dtx n) = [Lib.decDigits (n / 100), Lib.decDigits (n / 10 % 10) ++ Lib.decDigits (n % 10)] := by
  rw [dtx_eq]
  exact sps_pair (dd_dot _) (two_dot n)
theorem pd_of {l p q : List UInt8} (e : sps 46 l = [p, q]) {n : Nat} (hn : n ≤ 99999999) (hl : l = dtx n) : q.length = 2 ∧ rdV p = (((n / 100 : Nat) : Int), true) ∧ rdV (q.take 1) = (((n / 10 % 10 : Nat) : Int), true) ∧ rdV (q.drop 1) = (((n % 10 : Nat) : Int), true) := by
  rw [hl, sps_dtx] at e
  injection e with e1 e2
  injection e2 with e2 _
  have h1 := Lib.decDigits_one (by omega : n / 10 % 10 < 10)
  have h2 := Lib.decDigits_one (by omega : n % 10 < 10)
  have r : ∀ k : Nat, k ≤ 999999 → rdV (Lib.decDigits k) = ((k : Int), true) := fun k hk => by
    rw [← itoaN]
    exact rdV_itoa (by omega) (by omega)
  subst e1 e2
  refine ⟨by rw [h1, h2]; rfl, r _ (by omega), ?_, ?_⟩
  · have : (Lib.decDigits (n / 10 % 10) ++ Lib.decDigits (n % 10)).take 1 = Lib.decDigits (n / 10 % 10) := by rw [h1, h2]; rfl
    rw [this]
    exact r _ (by omega)
  · have : (Lib.decDigits (n / 10 % 10) ++ Lib.decDigits (n % 10)).drop 1 = Lib.decDigits (n % 10) := by rw [h1, h2]; rfl
    rw [this]
    exact r _ (by omega)
/-! ### The first dot away -/
def rmD (l : List UInt8) : List UInt8 := bfs 46 l ++ afs 46 l
theorem rmD_len (l : List UInt8) : (rmD l).length ≤ l.length := by
  unfold rmD
  rw [List.length_append]
  by_cases h : (46 : UInt8) ∈ l
  · have := bfs_len h
    omega
  · rw [(bfs_no h).1, (bfs_no h).2]
    exact Nat.le_refl _
theorem rep_dot (l : List UInt8) : Lib.replace l [46] [] 1 = rmD l := by
  unfold Lib.replace
  rw [if_neg (by decide)]
  have hi := Lib.index_one l 46
  rcases index_bfs 46 l with ⟨h1, h2, h3, h4⟩ | ⟨o, h1, h2, h3, h4, h5⟩
  · rw [h1] at hi
    have hc := Lib.count_miss hi
    have e : Lib.replaceNum l [46] 1 = 0 := by
      unfold Lib.replaceNum
      rw [hc, if_pos (by omega)]
    rw [e]
    unfold rmD
    rw [h2, h3, List.append_nil]
    rfl
  · rw [h1] at hi
    have hc := Lib.count_hit (by simp) hi
    have e : Lib.replaceNum l [46] 1 = 1 := by
      unfold Lib.replaceNum
      rw [hc, if_neg (by omega)]
      rfl
    rw [e, Lib.replaceK_hit _ _ _ _ _ hi]
    unfold rmD
    rw [h3, h4, List.append_nil]
    rfl
theorem atoi_dtx (n : Nat) : Lib.atoi (rmD (dtx n)) = some (n : Int) := by
  unfold rmD
  rw [(bfs_dtx n).1, (bfs_dtx n).2]
  have hd := dtx_num n
  obtain ⟨b, r, e⟩ : ∃ b r, Lib.decDigits (n / 100) = b :: r := by
    cases e : Lib.decDigits (n / 100) with
    | nil => exact absurd e (dd_ne _)
    | cons b r => exact ⟨b, r, rfl⟩
  have hb := dd_dig (n / 100) (k := 0) (b := b) (by rw [e]; rfl)
  have h1 : (b == 45) = false := by
    rw [beq_eq_false_iff_ne]
    intro q
    rw [q] at hb
    exact absurd hb.1 (by decide)
  have h2 : (b == 43) = false := by
    rw [beq_eq_false_iff_ne]
    intro q
    rw [q] at hb
    exact absurd hb.1 (by decide)
  rw [e] at hd ⊢
  generalize Lib.decDigits (n / 10 % 10) ++ Lib.decDigits (n % 10) = t at *
  show (if (b == 45) = true then (Lib.decNat (r ++ t)).map (fun (m : Nat) => -(m : Int)) else (if (b == 43) = true then (Lib.decNat (r ++ t)).map (fun (m : Nat) => (m : Int)) else (Lib.decNat (b :: (r ++ t))).map (fun (m : Nat) => (m : Int)))) = some (n : Int)
  rw [h1, h2, if_neg (by simp), if_neg (by simp)]
  have hn : Lib.decNat (b :: (r ++ t)) = some n := hd
  rw [hn]
  rfl
/-! ### What the library's variables hold -/
def PT2 (w : World) : Prop := PTab w ∧ (∃ x : Int, w.cell? ⟨2, 0, none⟩ = some (.int .i64 x)) ∧ ∃ te pe, w.cell? ⟨0, 0, none⟩ = some (.iface te pe)
theorem PT2.below {w w' : World} (h : PT2 w) (hb : Below w.heap.size w w') : PT2 w' := by
  obtain ⟨h1, ⟨x, h2⟩, te, pe, h3⟩ := h
  exact ⟨h1.below hb, ⟨x, (hb.cell (cell_lt h2)).trans h2⟩, te, pe, (hb.cell (cell_lt h3)).trans h3⟩
theorem PT2.on {w : World} {own : List Own} {w1 : World} (h : PT2 w) (m : Mem (Base.of w) own w1) : PT2 w1 := h.below m.keeps.below
theorem repDot_v (l : List UInt8) (w : World) (hl : l.length ≤ 1048576) (ht : PT2 w) : Calls Tryz.prog 40 #[.string (tx l), .string ⟨#[46]⟩, .string ⟨#[]⟩, .int .i64 1] w (Post (.string (tx (rmD l))) w) := by
  obtain ⟨_, ⟨x, h2⟩, _⟩ := ht
  refine (Tryz.strings_Replace (tx l) ⟨#[46]⟩ ⟨#[]⟩ 1 x w (by rw [tx_size]; omega) h2 (by decide) (by rw [tx_size]; show l.length + Lib.countB (tx l) ⟨#[46]⟩ * 0 ≤ _; omega)).mono fun e w' ⟨he, hb⟩ => ⟨?_, hb⟩
  have e1 : (tx l).data.toList = l := by simp [tx]
  rw [he]
  have e2 := rep_dot l
  show _ = Ending.returned (.string (tx (rmD l)))
  rw [← e2, e1]
  rfl
theorem atoiYes_v (l : List UInt8) (n : Int) (w : World) (hl : l.length ≤ 18) (h : Lib.atoi l = some n) : Calls Tryz.prog 39 #[.string (tx l)] w (Post (.tuple #[.int .i64 n, .nilIface]) w) := by
  have e1 : (tx l).data.toList = l := by simp [tx]
  refine (Tryz.strconv_Atoi (tx l) n (by rw [tx_size]; exact hl) (by rw [e1]; exact h) w).mono fun e w' ⟨he, t, hw⟩ => ⟨he, ?_⟩
  rw [hw]
  exact Lib.bytesWorld_below _ _ _
theorem atoiNo_v (l : List UInt8) (w : World) (hl : l.length ≤ 18) (h : Lib.atoi l = none) (ht : PT2 w) : Calls Tryz.prog 39 #[.string (tx l)] w fun e w' => ∃ g : Nat, True ∧ Post (.tuple #[.int .i64 0, .iface 92 (.pointer (some ⟨g, 0, none⟩))]) w e w' := by
  have e1 : (tx l).data.toList = l := by simp [tx]
  obtain ⟨_, _, te, pe, h3⟩ := ht
  refine (Tryz.strconv_Atoi_err (tx l) (by rw [tx_size]; exact hl) (by rw [e1]; exact h) _ w h3 (.inr ⟨te, pe, rfl⟩)).mono fun e w' ⟨g, he, _, _, hb⟩ => ⟨g, trivial, he, hb⟩
set_option maxHeartbeats 1600000 in
theorem iParseDue_v (l : List UInt8) (w : World) (hl : l.length ≤ 1048576) (ht : PT2 w) : Calls Tryz.prog 17 #[.string (tx l)] w (Post (.tuple #[.int .i64 (pdV l).1, .bool (pdV l).2]) w) := by
  have hsz := tx_size l
  refine post_of_vc ?_
  refine calls_of_vc tb_ok (args := [.string (tx l)]) Tryz.func17 rfl ?_
  by_cases h9 : 9 < l.length
  · have hpd := pdV_no (l := l) fun n h1 h2 => by have := dtx_len h1; rw [← h2] at this; omega
    rw [hpd]
    (repeat' (first | ((conv => whnf); first | (show VIf _ _ _; first | refine VIf.mk (fun _ => ?_) (fun h => absurd rfl h) | refine VIf.mk (fun h => Bool.noConfusion h) (fun _ => ?_) | refine VIf.mk (fun _ => ?_) (fun h => absurd (by assumption) h) | refine VIf.mk (fun h => absurd h (by assumption)) (fun _ => ?_) | refine VIf.mk (fun _ => ?_) (fun h => absurd (by omega) h) | refine VIf.mk (fun h => absurd h (by omega)) (fun _ => ?_) | refine VIf.mk (fun _ => ?_) (fun _ => ?_)) | (show VIn _ _; refine VIn.mk (by omega) (by omega) ?_) | (show VLoad1 _ _ _ _ _; first | (apply VLoad1.any; (focus ((repeat (first | exact Has.here rfl | exact Has.row (by assumption) | apply Has.there)); done))) | refine VLoad1.mk _ (Rd.old (by assumption) (fun h => h) (by assumption)) ?_) | (show VLoadN _ _ _ _ _ _; first | refine VLoadN.at_ (by assumption) rfl ?_ | (apply VLoadN.any; (focus ((repeat (first | exact At.here | apply At.there)); done)); (focus (exact Nat.le_of_ble_eq_true rfl)))) | (show VStore _ _ _ _ _ _; (apply VStore.any; (focus ((repeat (first | exact At.here | apply At.there)); done)); refine VStoreAt.mk rfl rfl (Nat.le_of_ble_eq_true rfl) rfl ?_)) | (show VIdx _ _ _ _ _ _ _; first | (apply VIdx.any; (focus ((repeat (first | exact At.here | apply At.there)); done)); (first | refine VIdxR.mk _ rfl (by omega) ?_ | refine VIdxR.mk _ (by assumption) (by omega) ?_); intro gQ hA'; first | subst hA' | (cases hA') | (replace hA' := Option.some.inj hA'; cases hA') | (dsimp only at hA'; subst hA')) | refine VIdx.at_ rfl _ rfl (by omega) ?_ | refine VIdx.at_ rfl _ (by assumption) (by omega) ?_ | refine VIdx.at_ rfl 0 rfl (by omega) ?_) | (show VQuo _ _ _; refine VQuo.nn (by omega) (by omega) (by omega) ?_) | (show VRem _ _ _; refine VRem.nn (by omega) (by omega) ?_) | (show VStrIx _ _ _; first | refine VStrIx.mk _ rfl (by omega) ?_ | refine VStrIx.mk _ (by assumption) (by omega) ?_) | (show VU64 _ _; refine VU64.mk (fun _ _ _ => ?_)) | (show VAnd64 _ _; refine VAnd64.mk (by omega) (fun _ _ _ => ?_)) | (show VShr64 _ _ _; refine VShr64.mk (by omega) (by omega) (fun _ _ _ => ?_)) | (show VCat _ _ _; refine VCat.mk (by omega) ?_) | (show VKeep _ _; refine VKeep.mk rfl ?_) | (show VDone _ _; refine VDone.same ?_) | (show _ ∧ True; refine And.intro ?_ trivial) | (show _ ∧ _; refine And.intro ?_ ?_) | intro _) | ((conv => whnf); (first | ((show VSub _ _ _ _); fail)))))
    all_goals ((conv => whnf); refine VRet.mk fun w' m => ?_)
    all_goals exact ⟨rfl, m.keeps.below⟩
  have hrl := rmD_len l
  cases ha : Lib.atoi (rmD l) with
  | none =>
    have hpd := pdV_no (l := l) fun n h1 h2 => by rw [h2, atoi_dtx] at ha; cases ha
    rw [hpd]
    (repeat' (first | ((conv => whnf); first | (show VIf _ _ _; first | refine VIf.mk (fun _ => ?_) (fun h => absurd rfl h) | refine VIf.mk (fun h => Bool.noConfusion h) (fun _ => ?_) | refine VIf.mk (fun _ => ?_) (fun h => absurd (by assumption) h) | refine VIf.mk (fun h => absurd h (by assumption)) (fun _ => ?_) | refine VIf.mk (fun _ => ?_) (fun h => absurd (by omega) h) | refine VIf.mk (fun h => absurd h (by omega)) (fun _ => ?_) | refine VIf.mk (fun _ => ?_) (fun _ => ?_)) | (show VIn _ _; refine VIn.mk (by omega) (by omega) ?_) | (show VLoad1 _ _ _ _ _; first | (apply VLoad1.any; (focus ((repeat (first | exact Has.here rfl | exact Has.row (by assumption) | apply Has.there)); done))) | refine VLoad1.mk _ (Rd.old (by assumption) (fun h => h) (by assumption)) ?_) | (show VLoadN _ _ _ _ _ _; first | refine VLoadN.at_ (by assumption) rfl ?_ | (apply VLoadN.any; (focus ((repeat (first | exact At.here | apply At.there)); done)); (focus (exact Nat.le_of_ble_eq_true rfl)))) | (show VStore _ _ _ _ _ _; (apply VStore.any; (focus ((repeat (first | exact At.here | apply At.there)); done)); refine VStoreAt.mk rfl rfl (Nat.le_of_ble_eq_true rfl) rfl ?_)) | (show VIdx _ _ _ _ _ _ _; first | (apply VIdx.any; (focus ((repeat (first | exact At.here | apply At.there)); done)); (first | refine VIdxR.mk _ rfl (by omega) ?_ | refine VIdxR.mk _ (by assumption) (by omega) ?_); intro gQ hA'; first | subst hA' | (cases hA') | (replace hA' := Option.some.inj hA'; cases hA') | (dsimp only at hA'; subst hA')) | refine VIdx.at_ rfl _ rfl (by omega) ?_ | refine VIdx.at_ rfl _ (by assumption) (by omega) ?_ | refine VIdx.at_ rfl 0 rfl (by omega) ?_) | (show VQuo _ _ _; refine VQuo.nn (by omega) (by omega) (by omega) ?_) | (show VRem _ _ _; refine VRem.nn (by omega) (by omega) ?_) | (show VStrIx _ _ _; first | refine VStrIx.mk _ rfl (by omega) ?_ | refine VStrIx.mk _ (by assumption) (by omega) ?_) | (show VU64 _ _; refine VU64.mk (fun _ _ _ => ?_)) | (show VAnd64 _ _; refine VAnd64.mk (by omega) (fun _ _ _ => ?_)) | (show VShr64 _ _ _; refine VShr64.mk (by omega) (by omega) (fun _ _ _ => ?_)) | (show VCat _ _ _; refine VCat.mk (by omega) ?_) | (show VKeep _ _; refine VKeep.mk rfl ?_) | (show VDone _ _; refine VDone.same ?_) | (show _ ∧ True; refine And.intro ?_ trivial) | (show _ ∧ _; refine And.intro ?_ ?_) | intro _) | ((conv => whnf); (first | ((show VCall _ _ _ 40 _ _); refine VCall.grow _ (fun w1 m1 => repDot_v l w1 hl (ht.on m1)) ?_) | ((show VCall _ _ _ 39 _ _); refine VCall.some _ _ (fun w1 m1 => atoiNo_v (rmD l) w1 (by omega) ha (ht.on m1)) (fun g _ => ?_))))))
    all_goals ((conv => whnf); refine VRet.mk fun w' m => ?_)
    all_goals exact ⟨rfl, m.keeps.below⟩
  | some n =>
    have hb := Lib.atoi_bound ha (by omega)
    by_cases hr : 0 ≤ n ∧ n ≤ 99999999
    · obtain ⟨k, rfl⟩ := Int.eq_ofNat_of_zero_le hr.1
      by_cases hm : dtx k = l
      · have hpd := pdV_at (n := k) (by omega)
        have hm' : tx (dtx k) = tx l := by rw [hm]
        rw [hm] at hpd
        rw [hpd]
        (repeat' (first | ((conv => whnf); first | (show VIf _ _ _; first | refine VIf.mk (fun _ => ?_) (fun h => absurd rfl h) | refine VIf.mk (fun h => Bool.noConfusion h) (fun _ => ?_) | refine VIf.mk (fun _ => ?_) (fun h => absurd (by assumption) h) | refine VIf.mk (fun h => absurd h (by assumption)) (fun _ => ?_) | refine VIf.mk (fun _ => ?_) (fun h => absurd (by omega) h) | refine VIf.mk (fun h => absurd h (by omega)) (fun _ => ?_) | refine VIf.mk (fun _ => ?_) (fun _ => ?_)) | (show VIn _ _; refine VIn.mk (by omega) (by omega) ?_) | (show VLoad1 _ _ _ _ _; first | (apply VLoad1.any; (focus ((repeat (first | exact Has.here rfl | exact Has.row (by assumption) | apply Has.there)); done))) | refine VLoad1.mk _ (Rd.old (by assumption) (fun h => h) (by assumption)) ?_) | (show VLoadN _ _ _ _ _ _; first | refine VLoadN.at_ (by assumption) rfl ?_ | (apply VLoadN.any; (focus ((repeat (first | exact At.here | apply At.there)); done)); (focus (exact Nat.le_of_ble_eq_true rfl)))) | (show VStore _ _ _ _ _ _; (apply VStore.any; (focus ((repeat (first | exact At.here | apply At.there)); done)); refine VStoreAt.mk rfl rfl (Nat.le_of_ble_eq_true rfl) rfl ?_)) | (show VIdx _ _ _ _ _ _ _; first | (apply VIdx.any; (focus ((repeat (first | exact At.here | apply At.there)); done)); (first | refine VIdxR.mk _ rfl (by omega) ?_ | refine VIdxR.mk _ (by assumption) (by omega) ?_); intro gQ hA'; first | subst hA' | (cases hA') | (replace hA' := Option.some.inj hA'; cases hA') | (dsimp only at hA'; subst hA')) | refine VIdx.at_ rfl _ rfl (by omega) ?_ | refine VIdx.at_ rfl _ (by assumption) (by omega) ?_ | refine VIdx.at_ rfl 0 rfl (by omega) ?_) | (show VQuo _ _ _; refine VQuo.nn (by omega) (by omega) (by omega) ?_) | (show VRem _ _ _; refine VRem.nn (by omega) (by omega) ?_) | (show VStrIx _ _ _; first | refine VStrIx.mk _ rfl (by omega) ?_ | refine VStrIx.mk _ (by assumption) (by omega) ?_) | (show VU64 _ _; refine VU64.mk (fun _ _ _ => ?_)) | (show VAnd64 _ _; refine VAnd64.mk (by omega) (fun _ _ _ => ?_)) | (show VShr64 _ _ _; refine VShr64.mk (by omega) (by omega) (fun _ _ _ => ?_)) | (show VCat _ _ _; refine VCat.mk (by omega) ?_) | (show VKeep _ _; refine VKeep.mk rfl ?_) | (show VDone _ _; refine VDone.same ?_) | (show _ ∧ True; refine And.intro ?_ trivial) | (show _ ∧ _; refine And.intro ?_ ?_) | intro _) | ((conv => whnf); (first | ((show VCall _ _ _ 40 _ _); refine VCall.grow _ (fun w1 m1 => repDot_v l w1 hl (ht.on m1)) ?_) | ((show VCall _ _ _ 39 _ _); refine VCall.grow _ (fun w1 m1 => atoiYes_v (rmD l) _ w1 (by omega) ha) ?_) | ((show VCall _ _ _ 28 _ _); refine VCall.test _ (fun w1 _ => inside_v _ _ _ w1) ?_) | ((show VCall _ _ _ 36 _ _); refine VCall.grow _ (fun w1 m1 => iDueText_v k w1 (by omega) (ht.on m1).1) ?_)))))
        all_goals ((conv => whnf); refine VRet.mk fun w' m => ?_)
        all_goals exact ⟨rfl, m.keeps.below⟩
      · have hpd := pdV_no (l := l) fun n h1 h2 => by
          rw [h2, atoi_dtx] at ha
          injection ha with ha
          exact hm (by rw [show k = n by omega]; exact h2.symm)
        have hm' : ¬ tx (dtx k) = tx l := fun q => hm (tx_inj q)
        rw [hpd]
        (repeat' (first | ((conv => whnf); first | (show VIf _ _ _; first | refine VIf.mk (fun _ => ?_) (fun h => absurd rfl h) | refine VIf.mk (fun h => Bool.noConfusion h) (fun _ => ?_) | refine VIf.mk (fun _ => ?_) (fun h => absurd (by assumption) h) | refine VIf.mk (fun h => absurd h (by assumption)) (fun _ => ?_) | refine VIf.mk (fun _ => ?_) (fun h => absurd (by omega) h) | refine VIf.mk (fun h => absurd h (by omega)) (fun _ => ?_) | refine VIf.mk (fun _ => ?_) (fun _ => ?_)) | (show VIn _ _; refine VIn.mk (by omega) (by omega) ?_) | (show VLoad1 _ _ _ _ _; first | (apply VLoad1.any; (focus ((repeat (first | exact Has.here rfl | exact Has.row (by assumption) | apply Has.there)); done))) | refine VLoad1.mk _ (Rd.old (by assumption) (fun h => h) (by assumption)) ?_) | (show VLoadN _ _ _ _ _ _; first | refine VLoadN.at_ (by assumption) rfl ?_ | (apply VLoadN.any; (focus ((repeat (first | exact At.here | apply At.there)); done)); (focus (exact Nat.le_of_ble_eq_true rfl)))) | (show VStore _ _ _ _ _ _; (apply VStore.any; (focus ((repeat (first | exact At.here | apply At.there)); done)); refine VStoreAt.mk rfl rfl (Nat.le_of_ble_eq_true rfl) rfl ?_)) | (show VIdx _ _ _ _ _ _ _; first | (apply VIdx.any; (focus ((repeat (first | exact At.here | apply At.there)); done)); (first | refine VIdxR.mk _ rfl (by omega) ?_ | refine VIdxR.mk _ (by assumption) (by omega) ?_); intro gQ hA'; first | subst hA' | (cases hA') | (replace hA' := Option.some.inj hA'; cases hA') | (dsimp only at hA'; subst hA')) | refine VIdx.at_ rfl _ rfl (by omega) ?_ | refine VIdx.at_ rfl _ (by assumption) (by omega) ?_ | refine VIdx.at_ rfl 0 rfl (by omega) ?_) | (show VQuo _ _ _; refine VQuo.nn (by omega) (by omega) (by omega) ?_) | (show VRem _ _ _; refine VRem.nn (by omega) (by omega) ?_) | (show VStrIx _ _ _; first | refine VStrIx.mk _ rfl (by omega) ?_ | refine VStrIx.mk _ (by assumption) (by omega) ?_) | (show VU64 _ _; refine VU64.mk (fun _ _ _ => ?_)) | (show VAnd64 _ _; refine VAnd64.mk (by omega) (fun _ _ _ => ?_)) | (show VShr64 _ _ _; refine VShr64.mk (by omega) (by omega) (fun _ _ _ => ?_)) | (show VCat _ _ _; refine VCat.mk (by omega) ?_) | (show VKeep _ _; refine VKeep.mk rfl ?_) | (show VDone _ _; refine VDone.same ?_) | (show _ ∧ True; refine And.intro ?_ trivial) | (show _ ∧ _; refine And.intro ?_ ?_) | intro _) | ((conv => whnf); (first | ((show VCall _ _ _ 40 _ _); refine VCall.grow _ (fun w1 m1 => repDot_v l w1 hl (ht.on m1)) ?_) | ((show VCall _ _ _ 39 _ _); refine VCall.grow _ (fun w1 m1 => atoiYes_v (rmD l) _ w1 (by omega) ha) ?_) | ((show VCall _ _ _ 28 _ _); refine VCall.test _ (fun w1 _ => inside_v _ _ _ w1) ?_) | ((show VCall _ _ _ 36 _ _); refine VCall.grow _ (fun w1 m1 => iDueText_v k w1 (by omega) (ht.on m1).1) ?_)))))
        all_goals ((conv => whnf); refine VRet.mk fun w' m => ?_)
        all_goals exact ⟨rfl, m.keeps.below⟩
    · have hpd := pdV_no (l := l) fun n h1 h2 => by
        rw [h2, atoi_dtx] at ha
        injection ha with ha
        omega
      rw [hpd]
      (repeat' (first | ((conv => whnf); first | (show VIf _ _ _; first | refine VIf.mk (fun _ => ?_) (fun h => absurd rfl h) | refine VIf.mk (fun h => Bool.noConfusion h) (fun _ => ?_) | refine VIf.mk (fun _ => ?_) (fun h => absurd (by assumption) h) | refine VIf.mk (fun h => absurd h (by assumption)) (fun _ => ?_) | refine VIf.mk (fun _ => ?_) (fun h => absurd (by omega) h) | refine VIf.mk (fun h => absurd h (by omega)) (fun _ => ?_) | refine VIf.mk (fun _ => ?_) (fun _ => ?_)) | (show VIn _ _; refine VIn.mk (by omega) (by omega) ?_) | (show VLoad1 _ _ _ _ _; first | (apply VLoad1.any; (focus ((repeat (first | exact Has.here rfl | exact Has.row (by assumption) | apply Has.there)); done))) | refine VLoad1.mk _ (Rd.old (by assumption) (fun h => h) (by assumption)) ?_) | (show VLoadN _ _ _ _ _ _; first | refine VLoadN.at_ (by assumption) rfl ?_ | (apply VLoadN.any; (focus ((repeat (first | exact At.here | apply At.there)); done)); (focus (exact Nat.le_of_ble_eq_true rfl)))) | (show VStore _ _ _ _ _ _; (apply VStore.any; (focus ((repeat (first | exact At.here | apply At.there)); done)); refine VStoreAt.mk rfl rfl (Nat.le_of_ble_eq_true rfl) rfl ?_)) | (show VIdx _ _ _ _ _ _ _; first | (apply VIdx.any; (focus ((repeat (first | exact At.here | apply At.there)); done)); (first | refine VIdxR.mk _ rfl (by omega) ?_ | refine VIdxR.mk _ (by assumption) (by omega) ?_); intro gQ hA'; first | subst hA' | (cases hA') | (replace hA' := Option.some.inj hA'; cases hA') | (dsimp only at hA'; subst hA')) | refine VIdx.at_ rfl _ rfl (by omega) ?_ | refine VIdx.at_ rfl _ (by assumption) (by omega) ?_ | refine VIdx.at_ rfl 0 rfl (by omega) ?_) | (show VQuo _ _ _; refine VQuo.nn (by omega) (by omega) (by omega) ?_) | (show VRem _ _ _; refine VRem.nn (by omega) (by omega) ?_) | (show VStrIx _ _ _; first | refine VStrIx.mk _ rfl (by omega) ?_ | refine VStrIx.mk _ (by assumption) (by omega) ?_) | (show VU64 _ _; refine VU64.mk (fun _ _ _ => ?_)) | (show VAnd64 _ _; refine VAnd64.mk (by omega) (fun _ _ _ => ?_)) | (show VShr64 _ _ _; refine VShr64.mk (by omega) (by omega) (fun _ _ _ => ?_)) | (show VCat _ _ _; refine VCat.mk (by omega) ?_) | (show VKeep _ _; refine VKeep.mk rfl ?_) | (show VDone _ _; refine VDone.same ?_) | (show _ ∧ True; refine And.intro ?_ trivial) | (show _ ∧ _; refine And.intro ?_ ?_) | intro _) | ((conv => whnf); (first | ((show VCall _ _ _ 40 _ _); refine VCall.grow _ (fun w1 m1 => repDot_v l w1 hl (ht.on m1)) ?_) | ((show VCall _ _ _ 39 _ _); refine VCall.grow _ (fun w1 m1 => atoiYes_v (rmD l) _ w1 (by omega) ha) ?_) | ((show VCall _ _ _ 28 _ _); refine VCall.test _ (fun w1 _ => inside_v _ _ _ w1) ?_)))))
      all_goals ((conv => whnf); refine VRet.mk fun w' m => ?_)
      all_goals exact ⟨rfl, m.keeps.below⟩
set_option maxHeartbeats 3200000 in
theorem sParseDue_v (l : List UInt8) (w : World) (hl : l.length ≤ 1048576) : Calls Tryz.prog 19 #[.string (tx l)] w (Post (.tuple #[.int .i64 (pdV l).1, .bool (pdV l).2]) w) := by
  have hS := fun w => l1Split_v 46 46 l w rfl (by omega)
  refine post_of_vc ?_
  refine calls_of_vc tb_ok (args := [.string (tx l)]) Tryz.func19 rfl ?_
  by_cases h2 : (sps 46 l).length = 2
  · obtain ⟨p, q, e⟩ : ∃ p q, sps 46 l = [p, q] := by
      match h : sps 46 l, h2 with
      | [a, b], _ => exact ⟨a, b, rfl⟩
    have hpl := sps_part (c := 46) (l := l) (p := p) (by rw [e]; simp)
    have hql := sps_part (c := 46) (l := l) (p := q) (by rw [e]; simp)
    have hsq := tx_size q
    rw [e] at hS
    have g0 : (TS [p, q])[mulS 0 1]? = some (.string (tx p)) := rfl
    have g1 : (TS [p, q])[mulS 1 1]? = some (.string (tx q)) := rfl
    by_cases hq2 : q.length = 2
    · have hq3 : (q.take 1).length = 1 := by rw [List.length_take]; omega
      have hq4 : (q.drop 1).length = 1 := by rw [List.length_drop]; omega
      have c0 := fun w => l1Read_v p w (by omega)
      have c1 := fun w => l1Read_v (q.take 1) w (by omega)
      have c2 := fun w => l1Read_v (q.drop 1) w (by omega)
      have b0 := rdV_le p
      have b1 := rdV_le (q.take 1)
      have b2 := rdV_le (q.drop 1)
      have hof := fun (n : Nat) (hn : n ≤ 99999999) (hl : l = dtx n) => pd_of e hn hl
      rcases rdV_cases p with ⟨x, hx, _, ex⟩ | ⟨_, ex⟩
      all_goals rw [ex] at c0
      all_goals rcases rdV_cases (q.take 1) with ⟨y, hy, _, ey⟩ | ⟨_, ey⟩
      all_goals rw [ey] at c1
      all_goals rcases rdV_cases (q.drop 1) with ⟨z, hz, _, ez⟩ | ⟨_, ez⟩
      all_goals rw [ez] at c2
      · have hall : ∀ n : Nat, n ≤ 99999999 → l = dtx n → 100 * x + 10 * y + z = n := fun n h1 h2 => by
          obtain ⟨_, o1, o2, o3⟩ := hof n h1 h2
          rw [ex] at o1
          rw [ey] at o2
          rw [ez] at o3
          injection o1 with o1 _
          injection o2 with o2 _
          injection o3 with o3 _
          omega
        clear hof hS
        have hS := fun w => l1Split_v 46 46 l w rfl (by omega)
        rw [e] at hS
        by_cases hr : 0 ≤ 100 * x + 10 * y + z ∧ 100 * x + 10 * y + z ≤ 99999999
        · obtain ⟨k, hk⟩ := Int.eq_ofNat_of_zero_le hr.1
          have hT := fun w => sDueText_v k w (by omega)
          rw [← hk] at hT
          by_cases hm : dtx k = l
          · have hpd := pdV_at (n := k) (by omega)
            have hm' : tx (dtx k) = tx l := by rw [hm]
            rw [hm, ← hk] at hpd
            rw [hpd]
            (repeat' (first | ((conv => whnf); first | (show VIf _ _ _; first | refine VIf.mk (fun _ => ?_) (fun h => absurd rfl h) | refine VIf.mk (fun h => Bool.noConfusion h) (fun _ => ?_) | refine VIf.mk (fun _ => ?_) (fun h => absurd (by assumption) h) | refine VIf.mk (fun h => absurd h (by assumption)) (fun _ => ?_) | refine VIf.mk (fun _ => ?_) (fun h => absurd (by omega) h) | refine VIf.mk (fun h => absurd h (by omega)) (fun _ => ?_) | refine VIf.mk (fun _ => ?_) (fun _ => ?_)) | (show VIn _ _; refine VIn.mk (by omega) (by omega) ?_) | (show VLoad1 _ _ _ _ _; first | (apply VLoad1.any; (focus ((repeat (first | exact Has.here rfl | exact Has.row (by assumption) | apply Has.there)); done))) | refine VLoad1.mk _ (Rd.old (by assumption) (fun h => h) (by assumption)) ?_) | (show VLoadN _ _ _ _ _ _; first | refine VLoadN.at_ (by assumption) rfl ?_ | (apply VLoadN.any; (focus ((repeat (first | exact At.here | apply At.there)); done)); (focus (exact Nat.le_of_ble_eq_true rfl)))) | (show VStore _ _ _ _ _ _; (apply VStore.any; (focus ((repeat (first | exact At.here | apply At.there)); done)); refine VStoreAt.mk rfl rfl (Nat.le_of_ble_eq_true rfl) rfl ?_)) | (show VIdx _ _ _ _ _ _ _; first | (apply VIdx.any; (focus ((repeat (first | exact At.here | apply At.there)); done)); (first | refine VIdxR.mk _ rfl (by omega) ?_ | refine VIdxR.mk _ (by assumption) (by omega) ?_); intro gQ hA'; first | subst hA' | (cases hA') | (replace hA' := Option.some.inj hA'; cases hA') | (dsimp only at hA'; subst hA')) | refine VIdx.at_ rfl _ rfl (by omega) ?_ | refine VIdx.at_ rfl _ (by assumption) (by omega) ?_ | refine VIdx.at_ rfl 0 rfl (by omega) ?_) | (show VQuo _ _ _; refine VQuo.nn (by omega) (by omega) (by omega) ?_) | (show VRem _ _ _; refine VRem.nn (by omega) (by omega) ?_) | (show VStrIx _ _ _; first | refine VStrIx.mk _ rfl (by omega) ?_ | refine VStrIx.mk _ (by assumption) (by omega) ?_) | (show VU64 _ _; refine VU64.mk (fun _ _ _ => ?_)) | (show VAnd64 _ _; refine VAnd64.mk (by omega) (fun _ _ _ => ?_)) | (show VShr64 _ _ _; refine VShr64.mk (by omega) (by omega) (fun _ _ _ => ?_)) | (show VCat _ _ _; refine VCat.mk (by omega) ?_) | (show VKeep _ _; refine VKeep.mk rfl ?_) | (show VDone _ _; refine VDone.same ?_) | (show _ ∧ True; refine And.intro ?_ trivial) | (show _ ∧ _; refine And.intro ?_ ?_) | intro _) | ((conv => whnf); (first | ((show VCall _ _ _ 43 _ _); refine VCall.ret (fun w1 m1 => hS w1) (fun i _ => ?_); obtain ⟨g, c⟩ := i) | ((show VIdx _ _ _ _ _ _ _); refine VIdx.at_ rfl 1 rfl (by show 1 < 2; omega) ?_) | ((show VIdx _ _ _ _ _ _ _); refine VIdx.at_ rfl 0 rfl (by show 0 < 2; omega) ?_) | ((show VLoad1 _ _ _ _ _); first | refine VLoad1.mk _ (Rd.row 0 rfl (show (TS [p, q])[0 + mulS 1 1]? = some (.string (tx q)) from rfl)) ?_ | refine VLoad1.mk _ (Rd.row 0 rfl (show (TS [p, q])[0 + mulS 0 1]? = some (.string (tx p)) from rfl)) ?_) | ((show VCall _ _ _ 44 [.string (tx p)] _); refine VCall.grow _ (fun w1 m1 => c0 w1) ?_) | ((show VCall _ _ _ 44 [.string (tx (q.take 1))] _); refine VCall.grow _ (fun w1 m1 => c1 w1) ?_) | ((show VCall _ _ _ 44 [.string (tx (q.drop 1))] _); refine VCall.grow _ (fun w1 m1 => c2 w1) ?_) | ((show VSub _ _ _ _); first | refine VSub.tx (q := q.take 1) 0 1 rfl rfl (by omega) (by omega) rfl ?_ | refine VSub.tx (q := q.drop 1) 1 q.length rfl (tx_size q).symm (by omega) (Nat.le_refl _) (by rw [List.take_length]) ?_) | ((show VCall _ _ _ 37 _ _); refine VCall.test _ (fun w1 _ => l1In_v _ _ _ w1) ?_) | ((show VCall _ _ _ 38 _ _); refine VCall.grow _ (fun w1 m1 => hT w1) ?_)))))
            all_goals ((conv => whnf); refine VRet.mk fun w' m => ?_)
            all_goals exact ⟨rfl, m.keeps.below⟩
          · have hpd := pdV_no (l := l) fun n h1 h2 => hm (by rw [show k = n by have := hall n h1 h2; omega]; exact h2.symm)
            have hm' : ¬ tx (dtx k) = tx l := fun q => hm (tx_inj q)
            rw [hpd]
            (repeat' (first | ((conv => whnf); first | (show VIf _ _ _; first | refine VIf.mk (fun _ => ?_) (fun h => absurd rfl h) | refine VIf.mk (fun h => Bool.noConfusion h) (fun _ => ?_) | refine VIf.mk (fun _ => ?_) (fun h => absurd (by assumption) h) | refine VIf.mk (fun h => absurd h (by assumption)) (fun _ => ?_) | refine VIf.mk (fun _ => ?_) (fun h => absurd (by omega) h) | refine VIf.mk (fun h => absurd h (by omega)) (fun _ => ?_) | refine VIf.mk (fun _ => ?_) (fun _ => ?_)) | (show VIn _ _; refine VIn.mk (by omega) (by omega) ?_) | (show VLoad1 _ _ _ _ _; first | (apply VLoad1.any; (focus ((repeat (first | exact Has.here rfl | exact Has.row (by assumption) | apply Has.there)); done))) | refine VLoad1.mk _ (Rd.old (by assumption) (fun h => h) (by assumption)) ?_) | (show VLoadN _ _ _ _ _ _; first | refine VLoadN.at_ (by assumption) rfl ?_ | (apply VLoadN.any; (focus ((repeat (first | exact At.here | apply At.there)); done)); (focus (exact Nat.le_of_ble_eq_true rfl)))) | (show VStore _ _ _ _ _ _; (apply VStore.any; (focus ((repeat (first | exact At.here | apply At.there)); done)); refine VStoreAt.mk rfl rfl (Nat.le_of_ble_eq_true rfl) rfl ?_)) | (show VIdx _ _ _ _ _ _ _; first | (apply VIdx.any; (focus ((repeat (first | exact At.here | apply At.there)); done)); (first | refine VIdxR.mk _ rfl (by omega) ?_ | refine VIdxR.mk _ (by assumption) (by omega) ?_); intro gQ hA'; first | subst hA' | (cases hA') | (replace hA' := Option.some.inj hA'; cases hA') | (dsimp only at hA'; subst hA')) | refine VIdx.at_ rfl _ rfl (by omega) ?_ | refine VIdx.at_ rfl _ (by assumption) (by omega) ?_ | refine VIdx.at_ rfl 0 rfl (by omega) ?_) | (show VQuo _ _ _; refine VQuo.nn (by omega) (by omega) (by omega) ?_) | (show VRem _ _ _; refine VRem.nn (by omega) (by omega) ?_) | (show VStrIx _ _ _; first | refine VStrIx.mk _ rfl (by omega) ?_ | refine VStrIx.mk _ (by assumption) (by omega) ?_) | (show VU64 _ _; refine VU64.mk (fun _ _ _ => ?_)) | (show VAnd64 _ _; refine VAnd64.mk (by omega) (fun _ _ _ => ?_)) | (show VShr64 _ _ _; refine VShr64.mk (by omega) (by omega) (fun _ _ _ => ?_)) | (show VCat _ _ _; refine VCat.mk (by omega) ?_) | (show VKeep _ _; refine VKeep.mk rfl ?_) | (show VDone _ _; refine VDone.same ?_) | (show _ ∧ True; refine And.intro ?_ trivial) | (show _ ∧ _; refine And.intro ?_ ?_) | intro _) | ((conv => whnf); (first | ((show VCall _ _ _ 43 _ _); refine VCall.ret (fun w1 m1 => hS w1) (fun i _ => ?_); obtain ⟨g, c⟩ := i) | ((show VIdx _ _ _ _ _ _ _); refine VIdx.at_ rfl 1 rfl (by show 1 < 2; omega) ?_) | ((show VIdx _ _ _ _ _ _ _); refine VIdx.at_ rfl 0 rfl (by show 0 < 2; omega) ?_) | ((show VLoad1 _ _ _ _ _); first | refine VLoad1.mk _ (Rd.row 0 rfl (show (TS [p, q])[0 + mulS 1 1]? = some (.string (tx q)) from rfl)) ?_ | refine VLoad1.mk _ (Rd.row 0 rfl (show (TS [p, q])[0 + mulS 0 1]? = some (.string (tx p)) from rfl)) ?_) | ((show VCall _ _ _ 44 [.string (tx p)] _); refine VCall.grow _ (fun w1 m1 => c0 w1) ?_) | ((show VCall _ _ _ 44 [.string (tx (q.take 1))] _); refine VCall.grow _ (fun w1 m1 => c1 w1) ?_) | ((show VCall _ _ _ 44 [.string (tx (q.drop 1))] _); refine VCall.grow _ (fun w1 m1 => c2 w1) ?_) | ((show VSub _ _ _ _); first | refine VSub.tx (q := q.take 1) 0 1 rfl rfl (by omega) (by omega) rfl ?_ | refine VSub.tx (q := q.drop 1) 1 q.length rfl (tx_size q).symm (by omega) (Nat.le_refl _) (by rw [List.take_length]) ?_) | ((show VCall _ _ _ 37 _ _); refine VCall.test _ (fun w1 _ => l1In_v _ _ _ w1) ?_) | ((show VCall _ _ _ 38 _ _); refine VCall.grow _ (fun w1 m1 => hT w1) ?_)))))
            all_goals ((conv => whnf); refine VRet.mk fun w' m => ?_)
            all_goals exact ⟨rfl, m.keeps.below⟩
        · have hpd := pdV_no (l := l) fun n h1 h2 => by have := hall n h1 h2; omega
          rw [hpd]
          (repeat' (first | ((conv => whnf); first | (show VIf _ _ _; first | refine VIf.mk (fun _ => ?_) (fun h => absurd rfl h) | refine VIf.mk (fun h => Bool.noConfusion h) (fun _ => ?_) | refine VIf.mk (fun _ => ?_) (fun h => absurd (by assumption) h) | refine VIf.mk (fun h => absurd h (by assumption)) (fun _ => ?_) | refine VIf.mk (fun _ => ?_) (fun h => absurd (by omega) h) | refine VIf.mk (fun h => absurd h (by omega)) (fun _ => ?_) | refine VIf.mk (fun _ => ?_) (fun _ => ?_)) | (show VIn _ _; refine VIn.mk (by omega) (by omega) ?_) | (show VLoad1 _ _ _ _ _; first | (apply VLoad1.any; (focus ((repeat (first | exact Has.here rfl | exact Has.row (by assumption) | apply Has.there)); done))) | refine VLoad1.mk _ (Rd.old (by assumption) (fun h => h) (by assumption)) ?_) | (show VLoadN _ _ _ _ _ _; first | refine VLoadN.at_ (by assumption) rfl ?_ | (apply VLoadN.any; (focus ((repeat (first | exact At.here | apply At.there)); done)); (focus (exact Nat.le_of_ble_eq_true rfl)))) | (show VStore _ _ _ _ _ _; (apply VStore.any; (focus ((repeat (first | exact At.here | apply At.there)); done)); refine VStoreAt.mk rfl rfl (Nat.le_of_ble_eq_true rfl) rfl ?_)) | (show VIdx _ _ _ _ _ _ _; first | (apply VIdx.any; (focus ((repeat (first | exact At.here | apply At.there)); done)); (first | refine VIdxR.mk _ rfl (by omega) ?_ | refine VIdxR.mk _ (by assumption) (by omega) ?_); intro gQ hA'; first | subst hA' | (cases hA') | (replace hA' := Option.some.inj hA'; cases hA') | (dsimp only at hA'; subst hA')) | refine VIdx.at_ rfl _ rfl (by omega) ?_ | refine VIdx.at_ rfl _ (by assumption) (by omega) ?_ | refine VIdx.at_ rfl 0 rfl (by omega) ?_) | (show VQuo _ _ _; refine VQuo.nn (by omega) (by omega) (by omega) ?_) | (show VRem _ _ _; refine VRem.nn (by omega) (by omega) ?_) | (show VStrIx _ _ _; first | refine VStrIx.mk _ rfl (by omega) ?_ | refine VStrIx.mk _ (by assumption) (by omega) ?_) | (show VU64 _ _; refine VU64.mk (fun _ _ _ => ?_)) | (show VAnd64 _ _; refine VAnd64.mk (by omega) (fun _ _ _ => ?_)) | (show VShr64 _ _ _; refine VShr64.mk (by omega) (by omega) (fun _ _ _ => ?_)) | (show VCat _ _ _; refine VCat.mk (by omega) ?_) | (show VKeep _ _; refine VKeep.mk rfl ?_) | (show VDone _ _; refine VDone.same ?_) | (show _ ∧ True; refine And.intro ?_ trivial) | (show _ ∧ _; refine And.intro ?_ ?_) | intro _) | ((conv => whnf); (first | ((show VCall _ _ _ 43 _ _); refine VCall.ret (fun w1 m1 => hS w1) (fun i _ => ?_); obtain ⟨g, c⟩ := i) | ((show VIdx _ _ _ _ _ _ _); refine VIdx.at_ rfl 1 rfl (by show 1 < 2; omega) ?_) | ((show VIdx _ _ _ _ _ _ _); refine VIdx.at_ rfl 0 rfl (by show 0 < 2; omega) ?_) | ((show VLoad1 _ _ _ _ _); first | refine VLoad1.mk _ (Rd.row 0 rfl (show (TS [p, q])[0 + mulS 1 1]? = some (.string (tx q)) from rfl)) ?_ | refine VLoad1.mk _ (Rd.row 0 rfl (show (TS [p, q])[0 + mulS 0 1]? = some (.string (tx p)) from rfl)) ?_) | ((show VCall _ _ _ 44 [.string (tx p)] _); refine VCall.grow _ (fun w1 m1 => c0 w1) ?_) | ((show VCall _ _ _ 44 [.string (tx (q.take 1))] _); refine VCall.grow _ (fun w1 m1 => c1 w1) ?_) | ((show VCall _ _ _ 44 [.string (tx (q.drop 1))] _); refine VCall.grow _ (fun w1 m1 => c2 w1) ?_) | ((show VSub _ _ _ _); first | refine VSub.tx (q := q.take 1) 0 1 rfl rfl (by omega) (by omega) rfl ?_ | refine VSub.tx (q := q.drop 1) 1 q.length rfl (tx_size q).symm (by omega) (Nat.le_refl _) (by rw [List.take_length]) ?_) | ((show VCall _ _ _ 37 _ _); refine VCall.test _ (fun w1 _ => l1In_v _ _ _ w1) ?_)))))
          all_goals ((conv => whnf); refine VRet.mk fun w' m => ?_)
          all_goals exact ⟨rfl, m.keeps.below⟩
      all_goals
        have hpd := pdV_no (l := l) fun n h1 h2 => by
          obtain ⟨_, o1, o2, o3⟩ := hof n h1 h2
          first
            | (rw [ex] at o1; injection o1 with _ o1; cases o1; done)
            | (rw [ey] at o2; injection o2 with _ o2; cases o2; done)
            | (rw [ez] at o3; injection o3 with _ o3; cases o3; done)
      all_goals rw [hpd]
      all_goals clear hof
      all_goals ((repeat' (first | ((conv => whnf); first | (show VIf _ _ _; first | refine VIf.mk (fun _ => ?_) (fun h => absurd rfl h) | refine VIf.mk (fun h => Bool.noConfusion h) (fun _ => ?_) | refine VIf.mk (fun _ => ?_) (fun h => absurd (by assumption) h) | refine VIf.mk (fun h => absurd h (by assumption)) (fun _ => ?_) | refine VIf.mk (fun _ => ?_) (fun h => absurd (by omega) h) | refine VIf.mk (fun h => absurd h (by omega)) (fun _ => ?_) | refine VIf.mk (fun _ => ?_) (fun _ => ?_)) | (show VIn _ _; refine VIn.mk (by omega) (by omega) ?_) | (show VLoad1 _ _ _ _ _; first | (apply VLoad1.any; (focus ((repeat (first | exact Has.here rfl | exact Has.row (by assumption) | apply Has.there)); done))) | refine VLoad1.mk _ (Rd.old (by assumption) (fun h => h) (by assumption)) ?_) | (show VLoadN _ _ _ _ _ _; first | refine VLoadN.at_ (by assumption) rfl ?_ | (apply VLoadN.any; (focus ((repeat (first | exact At.here | apply At.there)); done)); (focus (exact Nat.le_of_ble_eq_true rfl)))) | (show VStore _ _ _ _ _ _; (apply VStore.any; (focus ((repeat (first | exact At.here | apply At.there)); done)); refine VStoreAt.mk rfl rfl (Nat.le_of_ble_eq_true rfl) rfl ?_)) | (show VIdx _ _ _ _ _ _ _; first | (apply VIdx.any; (focus ((repeat (first | exact At.here | apply At.there)); done)); (first | refine VIdxR.mk _ rfl (by omega) ?_ | refine VIdxR.mk _ (by assumption) (by omega) ?_); intro gQ hA'; first | subst hA' | (cases hA') | (replace hA' := Option.some.inj hA'; cases hA') | (dsimp only at hA'; subst hA')) | refine VIdx.at_ rfl _ rfl (by omega) ?_ | refine VIdx.at_ rfl _ (by assumption) (by omega) ?_ | refine VIdx.at_ rfl 0 rfl (by omega) ?_) | (show VQuo _ _ _; refine VQuo.nn (by omega) (by omega) (by omega) ?_) | (show VRem _ _ _; refine VRem.nn (by omega) (by omega) ?_) | (show VStrIx _ _ _; first | refine VStrIx.mk _ rfl (by omega) ?_ | refine VStrIx.mk _ (by assumption) (by omega) ?_) | (show VU64 _ _; refine VU64.mk (fun _ _ _ => ?_)) | (show VAnd64 _ _; refine VAnd64.mk (by omega) (fun _ _ _ => ?_)) | (show VShr64 _ _ _; refine VShr64.mk (by omega) (by omega) (fun _ _ _ => ?_)) | (show VCat _ _ _; refine VCat.mk (by omega) ?_) | (show VKeep _ _; refine VKeep.mk rfl ?_) | (show VDone _ _; refine VDone.same ?_) | (show _ ∧ True; refine And.intro ?_ trivial) | (show _ ∧ _; refine And.intro ?_ ?_) | intro _) | ((conv => whnf); (first | ((show VCall _ _ _ 43 _ _); refine VCall.ret (fun w1 m1 => hS w1) (fun i _ => ?_); obtain ⟨g, c⟩ := i) | ((show VIdx _ _ _ _ _ _ _); refine VIdx.at_ rfl 1 rfl (by show 1 < 2; omega) ?_) | ((show VIdx _ _ _ _ _ _ _); refine VIdx.at_ rfl 0 rfl (by show 0 < 2; omega) ?_) | ((show VLoad1 _ _ _ _ _); first | refine VLoad1.mk _ (Rd.row 0 rfl (show (TS [p, q])[0 + mulS 1 1]? = some (.string (tx q)) from rfl)) ?_ | refine VLoad1.mk _ (Rd.row 0 rfl (show (TS [p, q])[0 + mulS 0 1]? = some (.string (tx p)) from rfl)) ?_) | ((show VCall _ _ _ 44 [.string (tx p)] _); refine VCall.grow _ (fun w1 m1 => c0 w1) ?_) | ((show VCall _ _ _ 44 [.string (tx (q.take 1))] _); refine VCall.grow _ (fun w1 m1 => c1 w1) ?_) | ((show VCall _ _ _ 44 [.string (tx (q.drop 1))] _); refine VCall.grow _ (fun w1 m1 => c2 w1) ?_) | ((show VSub _ _ _ _); first | refine VSub.tx (q := q.take 1) 0 1 rfl rfl (by omega) (by omega) rfl ?_ | refine VSub.tx (q := q.drop 1) 1 q.length rfl (tx_size q).symm (by omega) (Nat.le_refl _) (by rw [List.take_length]) ?_) | ((show VCall _ _ _ 37 _ _); refine VCall.test _ (fun w1 _ => l1In_v _ _ _ w1) ?_))))))
      all_goals ((conv => whnf); refine VRet.mk fun w' m => ?_)
      all_goals exact ⟨rfl, m.keeps.below⟩
    · have hpd := pdV_no (l := l) fun n h1 h2 => hq2 (pd_of e h1 h2).1
      rw [hpd]
      (repeat' (first | ((conv => whnf); first | (show VIf _ _ _; first | refine VIf.mk (fun _ => ?_) (fun h => absurd rfl h) | refine VIf.mk (fun h => Bool.noConfusion h) (fun _ => ?_) | refine VIf.mk (fun _ => ?_) (fun h => absurd (by assumption) h) | refine VIf.mk (fun h => absurd h (by assumption)) (fun _ => ?_) | refine VIf.mk (fun _ => ?_) (fun h => absurd (by omega) h) | refine VIf.mk (fun h => absurd h (by omega)) (fun _ => ?_) | refine VIf.mk (fun _ => ?_) (fun _ => ?_)) | (show VIn _ _; refine VIn.mk (by omega) (by omega) ?_) | (show VLoad1 _ _ _ _ _; first | (apply VLoad1.any; (focus ((repeat (first | exact Has.here rfl | exact Has.row (by assumption) | apply Has.there)); done))) | refine VLoad1.mk _ (Rd.old (by assumption) (fun h => h) (by assumption)) ?_) | (show VLoadN _ _ _ _ _ _; first | refine VLoadN.at_ (by assumption) rfl ?_ | (apply VLoadN.any; (focus ((repeat (first | exact At.here | apply At.there)); done)); (focus (exact Nat.le_of_ble_eq_true rfl)))) | (show VStore _ _ _ _ _ _; (apply VStore.any; (focus ((repeat (first | exact At.here | apply At.there)); done)); refine VStoreAt.mk rfl rfl (Nat.le_of_ble_eq_true rfl) rfl ?_)) | (show VIdx _ _ _ _ _ _ _; first | (apply VIdx.any; (focus ((repeat (first | exact At.here | apply At.there)); done)); (first | refine VIdxR.mk _ rfl (by omega) ?_ | refine VIdxR.mk _ (by assumption) (by omega) ?_); intro gQ hA'; first | subst hA' | (cases hA') | (replace hA' := Option.some.inj hA'; cases hA') | (dsimp only at hA'; subst hA')) | refine VIdx.at_ rfl _ rfl (by omega) ?_ | refine VIdx.at_ rfl _ (by assumption) (by omega) ?_ | refine VIdx.at_ rfl 0 rfl (by omega) ?_) | (show VQuo _ _ _; refine VQuo.nn (by omega) (by omega) (by omega) ?_) | (show VRem _ _ _; refine VRem.nn (by omega) (by omega) ?_) | (show VStrIx _ _ _; first | refine VStrIx.mk _ rfl (by omega) ?_ | refine VStrIx.mk _ (by assumption) (by omega) ?_) | (show VU64 _ _; refine VU64.mk (fun _ _ _ => ?_)) | (show VAnd64 _ _; refine VAnd64.mk (by omega) (fun _ _ _ => ?_)) | (show VShr64 _ _ _; refine VShr64.mk (by omega) (by omega) (fun _ _ _ => ?_)) | (show VCat _ _ _; refine VCat.mk (by omega) ?_) | (show VKeep _ _; refine VKeep.mk rfl ?_) | (show VDone _ _; refine VDone.same ?_) | (show _ ∧ True; refine And.intro ?_ trivial) | (show _ ∧ _; refine And.intro ?_ ?_) | intro _) | ((conv => whnf); (first | ((show VCall _ _ _ 43 _ _); refine VCall.ret (fun w1 m1 => hS w1) (fun i _ => ?_); obtain ⟨g, c⟩ := i) | ((show VIdx _ _ _ _ _ _ _); refine VIdx.at_ rfl 1 rfl (by show 1 < 2; omega) ?_) | ((show VIdx _ _ _ _ _ _ _); refine VIdx.at_ rfl 0 rfl (by show 0 < 2; omega) ?_) | ((show VLoad1 _ _ _ _ _); first | refine VLoad1.mk _ (Rd.row 0 rfl (show (TS [p, q])[0 + mulS 1 1]? = some (.string (tx q)) from rfl)) ?_ | refine VLoad1.mk _ (Rd.row 0 rfl (show (TS [p, q])[0 + mulS 0 1]? = some (.string (tx p)) from rfl)) ?_)))))
      all_goals ((conv => whnf); refine VRet.mk fun w' m => ?_)
      all_goals exact ⟨rfl, m.keeps.below⟩
  · have hpd := pdV_no (l := l) fun n h1 h2' => h2 (by rw [h2', sps_dtx]; rfl)
    rw [hpd]
    (repeat' (first | ((conv => whnf); first | (show VIf _ _ _; first | refine VIf.mk (fun _ => ?_) (fun h => absurd rfl h) | refine VIf.mk (fun h => Bool.noConfusion h) (fun _ => ?_) | refine VIf.mk (fun _ => ?_) (fun h => absurd (by assumption) h) | refine VIf.mk (fun h => absurd h (by assumption)) (fun _ => ?_) | refine VIf.mk (fun _ => ?_) (fun h => absurd (by omega) h) | refine VIf.mk (fun h => absurd h (by omega)) (fun _ => ?_) | refine VIf.mk (fun _ => ?_) (fun _ => ?_)) | (show VIn _ _; refine VIn.mk (by omega) (by omega) ?_) | (show VLoad1 _ _ _ _ _; first | (apply VLoad1.any; (focus ((repeat (first | exact Has.here rfl | exact Has.row (by assumption) | apply Has.there)); done))) | refine VLoad1.mk _ (Rd.old (by assumption) (fun h => h) (by assumption)) ?_) | (show VLoadN _ _ _ _ _ _; first | refine VLoadN.at_ (by assumption) rfl ?_ | (apply VLoadN.any; (focus ((repeat (first | exact At.here | apply At.there)); done)); (focus (exact Nat.le_of_ble_eq_true rfl)))) | (show VStore _ _ _ _ _ _; (apply VStore.any; (focus ((repeat (first | exact At.here | apply At.there)); done)); refine VStoreAt.mk rfl rfl (Nat.le_of_ble_eq_true rfl) rfl ?_)) | (show VIdx _ _ _ _ _ _ _; first | (apply VIdx.any; (focus ((repeat (first | exact At.here | apply At.there)); done)); (first | refine VIdxR.mk _ rfl (by omega) ?_ | refine VIdxR.mk _ (by assumption) (by omega) ?_); intro gQ hA'; first | subst hA' | (cases hA') | (replace hA' := Option.some.inj hA'; cases hA') | (dsimp only at hA'; subst hA')) | refine VIdx.at_ rfl _ rfl (by omega) ?_ | refine VIdx.at_ rfl _ (by assumption) (by omega) ?_ | refine VIdx.at_ rfl 0 rfl (by omega) ?_) | (show VQuo _ _ _; refine VQuo.nn (by omega) (by omega) (by omega) ?_) | (show VRem _ _ _; refine VRem.nn (by omega) (by omega) ?_) | (show VStrIx _ _ _; first | refine VStrIx.mk _ rfl (by omega) ?_ | refine VStrIx.mk _ (by assumption) (by omega) ?_) | (show VU64 _ _; refine VU64.mk (fun _ _ _ => ?_)) | (show VAnd64 _ _; refine VAnd64.mk (by omega) (fun _ _ _ => ?_)) | (show VShr64 _ _ _; refine VShr64.mk (by omega) (by omega) (fun _ _ _ => ?_)) | (show VCat _ _ _; refine VCat.mk (by omega) ?_) | (show VKeep _ _; refine VKeep.mk rfl ?_) | (show VDone _ _; refine VDone.same ?_) | (show _ ∧ True; refine And.intro ?_ trivial) | (show _ ∧ _; refine And.intro ?_ ?_) | intro _) | ((conv => whnf); (first | ((show VCall _ _ _ 43 _ _); refine VCall.ret (fun w1 m1 => hS w1) (fun i _ => ?_); obtain ⟨g, c⟩ := i)))))
    all_goals ((conv => whnf); refine VRet.mk fun w' m => ?_)
    all_goals exact ⟨rfl, m.keeps.below⟩
end Go.Proofs.YtapfljhihbodkaaGreatDoor
