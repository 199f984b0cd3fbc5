/-
  ReturnCentre, in the reference.
  Conditions: none beyond each statement's own premises.
-/
import Derived.Test.YtbbafdcmgobkeaaC10
namespace Go.Proofs.Ytbbafdcmgobkeaa
set_option linter.unusedSimpArgs false
set_option linter.unusedVariables false
open Go.RowKit
set_option maxHeartbeats 3200000 in
theorem specReturnCentre_any (A1 A2 : Option Addr) (c1 c2 : Nat) (d : Du) (c f t : Int) (w : World) (hn1 : d.n ≤ 1048576) (hn2 : d.m ≤ 1048576) (hcc : In64 c) (hff : In64 f) (htt : In64 t) (h : IsDu w A1 A2 d) :
    Calls Try.prog 35 #[.agg #[.int .i64 d.ce, .slice A1 d.n c1, .slice A2 d.m c2], .int .i64 c, .int .i64 f, .int .i64 t] w fun e w' => ∃ E1 E2 e1 e2, e = .returned (.tuple #[.agg #[.int .i64 (rcW d c f t).ce, .slice E1 (rcW d c f t).n e1, .slice E2 (rcW d c f t).m e2], .bool (rcB d c f t)]) ∧ OwnDu w' w.heap.size E1 E2 (rcW d c f t) ∧ Below w.heap.size w w' := by
  obtain ⟨x, ex⟩ : ∃ x, d.ok = x := ⟨_, rfl⟩
  obtain ⟨y, ey⟩ : ∃ y, inB c 0 (d.ce - 1) = y := ⟨_, rfl⟩
  obtain ⟨a, ea⟩ : ∃ a, d.act c.toNat = a := ⟨_, rfl⟩
  obtain ⟨z1, ez1⟩ : ∃ z, inB f 0 t = z := ⟨_, rfl⟩
  obtain ⟨z2, ez2⟩ : ∃ z, inB t 0 (d.m - 1) = z := ⟨_, rfl⟩
  by_cases hv : x = true ∧ y = true ∧ a = false ∧ z1 = true ∧ z2 = true
  · obtain ⟨rfl, rfl, rfl, rfl, rfl⟩ := hv
    have hok : rcOk d c f t = true := by rw [rcOk, ex, ey, ea, ez1, ez2]; rfl
    obtain ⟨g1, g2, g3, g4, g5, g6⟩ := Du.ok_facts ex
    obtain ⟨v1, v2⟩ := inB_iff.1 ez1
    obtain ⟨v3, v4⟩ := inB_iff.1 ez2
    obtain ⟨v5, v6⟩ := inB_iff.1 ey
    obtain ⟨f0, rfl⟩ := Int.eq_ofNat_of_zero_le v1
    obtain ⟨t0, rfl⟩ := Int.eq_ofNat_of_zero_le v3
    obtain ⟨q, rfl⟩ := Int.eq_ofNat_of_zero_le v5
    have hft : f0 ≤ t0 := by omega
    have htm : t0 < d.m := by omega
    have hqn : q < d.n := by omega
    rw [Int.toNat_natCast] at ea
    have EX := Lib.hid ex
    have EY := Lib.hid ey
    have EA := Lib.hid ea
    have EZ1 := Lib.hid (l1In_is ez1)
    have EZ2 := Lib.hid (l1In_is ez2)
    obtain ⟨r, er⟩ : ∃ r, (rcD d q f0 t0).ok = r := ⟨_, rfl⟩
    have HB := Lib.hid (show rcB d q f0 t0 = r by rw [rcB, hok, er]; rfl)
    have HW := Lib.hid (show rcW d q f0 t0 = if r = true then rcD d q f0 t0 else Du.zero by rw [rcW, HB.out])
    have ER := Lib.hid er
    have g7 : 0 < d.n := by omega
    have g8 : (0:Int) < d.m := by omega
    clear ex ey ez1 ez2 ea er g3 g6 hok
    go_enter Try.func35, Try.ntmps35
    go_wp2_with fail
    generalize hu : ((w.alloc (.cells #[.int .i64 d.ce, .slice A1 d.n c1, .slice A2 d.m c2] 28)).alloc (.cells #[.int .i64 0, .slice none 0 0, .slice none 0 0] 28)) = u
    have bu : Below w.heap.size w u := by rw [← hu]; exact (by repeat (first | with_reducible exact Below.refl _ _ | with_reducible assumption | with_reducible refine below_alloc ?_ _ | with_reducible refine below_more ?_ _ | (with_reducible refine below_set ?_ ?_ _; rotate_left; focus (first | with_reducible exact Nat.le_refl _ | with_reducible assumption | (simp; done) | (simp; omega) | omega))))
    have Bx : Blk u w.heap.size 28 #[.int .i64 d.ce, .slice A1 d.n c1, .slice A2 d.m c2] := by rw [← hu]; exact (Blk.new _ _ _).alloc _
    have By : Blk u (w.heap.size + 1) 28 #[.int .i64 0, .slice none 0 0, .slice none 0 0] := by rw [← hu]; exact Blk.at_ (by simp)
    clear hu
    have qx := fun o => Bx.cell o
    have qy := fun o => By.cell o
    have fy := fun o => By.frozen o
    have ly := By.lt
    replace h := h.below bu
    refine (l25Centre_any A1 A2 c1 c2 d q _ hn1 hn2 h).mono ?_
    rw [EX.out, EY.out]
    rintro e w2 ⟨rfl, b2⟩
    replace h := h.below b2
    replace Bx := Bx.below b2
    replace By := By.below b2
    clear qx qy fy ly
    have qx := fun o => Bx.cell o
    have qy := fun o => By.cell o
    have fy := fun o => By.frozen o
    have ly := By.lt
    have C := below_tr bu b2
    have ly2 := ly
    obtain ⟨pb, po, rfl, plt, pc⟩ := h.1 q hqn
    rw [EA.out] at pc
    have nn1 : ¬ ((f0 : Int) < 0) := by omega
    have nn2 : ¬ ((t0 : Int) < f0) := by omega
    have nn3 : ¬ ((d.m : Int) ≤ t0) := by omega
    have nn4 : ¬ (t0 < f0) := by omega
    have nn5 : ¬ (d.m ≤ t0) := by omega
    go_wp2_with fail
    refine (l25Own_any _ A2 c1 c2 d _ g7 (by omega) hn1 hn2 h).mono ?_
    rintro e w3 ⟨E1, E2, e1, e2, rfl, ho, b3⟩
    replace Bx := Bx.below b3
    replace By := By.below b3
    clear qx qy fy ly
    have qx := fun o => Bx.cell o
    have qy := fun o => By.cell o
    have fy := fun o => By.frozen o
    have ly := By.lt
    have C3 := below_tr C b3
    obtain ⟨ho1, ho2, ho3⟩ := ho
    obtain ⟨ga, cs1, rfl, i1, i2, i3, i4⟩ := ho1 g7
    obtain ⟨g, cs, rfl, k1, k2, k3, k4⟩ := ho2 (by omega)
    have hgg : ga ≠ g := fun x => ho3 ga (rowOf_pos g7 rfl) (by rw [rowOf_pos (by omega) rfl, x])
    have s2 := b2.size
    have s3 := b3.size
    have il := i2.lt
    have kl := k2.lt
    have kc : w3.cell? ⟨ga, q, none⟩ = some (.bool (d.act q)) := (i2.cell _).trans (i4 q hqn)
    have kf := fun o => i2.frozen o
    have hq2 : (q : Int) < d.n := by omega
    go_wp2_with fail
    generalize hu : ((w3.setCell ⟨ga, q, none⟩ (.bool true)).alloc (.cells #[.int .i64 d.ce, .slice (some ⟨ga, 0, none⟩) d.n e1, .slice (some ⟨g, 0, none⟩) d.m e2] 28)) = w4
    have V1 : Blk w4 ga 4 (cs1.setIfInBounds q (.bool true)) := by rw [← hu]; exact (i2.set_ q (.bool true)).alloc _
    have V2 : Blk w4 g 3 cs := by rw [← hu]; exact (k2.far (p := ⟨ga, q, none⟩) (fun x => hgg x.symm) _).alloc _
    have V3 : Blk w4 w3.heap.size 28 #[.int .i64 d.ce, .slice (some ⟨ga, 0, none⟩) d.n e1, .slice (some ⟨g, 0, none⟩) d.m e2] := by rw [← hu]; exact Blk.at_ (by simp)
    have V4 : Blk w4 (w.heap.size + 1) 28 #[.int .i64 0, .slice none 0 0, .slice none 0 0] := by rw [← hu]; exact (By.far (p := ⟨ga, q, none⟩) (by show w.heap.size + 1 ≠ ga; omega) _).alloc _
    have hg : w3.grownBy w4 (some ga) := by rw [← hu]; exact grownBy_tr (grownBy_set (grownBy_refl _ _) rfl _) (World.grownBy_alloc _ _ _)
    have C4 : Below w.heap.size w w4 := below_row C3 hg (fun k hk => by cases hk; omega)
    clear hu kc kf
    have HV := Lib.hid (And.intro V1 (And.intro V2 (And.intro V3 (And.intro V4 C4))))
    have HA := Lib.hid (row_act (b := true) i4 i3 hqn)
    have HR0 := Lib.hid (show RowI cs d.m (setRange d.lk f0 f0 q) from fun i hi => by rw [setRange, if_neg (by omega)]; exact k4 i hi)
    clear V1 V2 V3 V4 C4 qx qy fy ly Bx By hg ho1 ho2 ho3 i2 i4 k2 k4 C3
    go_loopw [11] (fun j wr => ∃ k cs, f0 ≤ k ∧ k ≤ t0 + 1 ∧ j = .int .i64 (k : Nat) ∧ Hid (d.m ≤ cs.size) ∧ Hid (RowI cs d.m (setRange d.lk f0 k q)) ∧ Blk wr ga 4 (cs1.setIfInBounds q (.bool true)) ∧ Blk wr g 3 cs ∧ Blk wr w3.heap.size 28 #[.int .i64 d.ce, .slice (some ⟨ga, 0, none⟩) d.n e1, .slice (some ⟨g, 0, none⟩) d.m e2] ∧ Blk wr (w.heap.size + 1) 28 #[.int .i64 0, .slice none 0 0, .slice none 0 0] ∧ Below w.heap.size w wr) (fun j _ => t0 + 1 - (intOf j).toNat)
    case atStart => exact ⟨f0, cs, Nat.le_refl _, by omega, rfl, Lib.hid k3, HR0, HV.out.1, HV.out.2.1, HV.out.2.2.1, HV.out.2.2.2.1, HV.out.2.2.2.2⟩
    case round =>
      obtain ⟨k, cz, hk1, hk2, rfl, hcs, hrow, V1, V2, V3, V4, hb⟩ := hrel
      have hsz := hb.size
      have qz := fun o => V3.cell o
      have lz := V3.lt
      have qy := fun o => V4.cell o
      have fy := fun o => V4.frozen o
      have ly := V4.lt
      have lg := V2.lt
      by_cases hlt : k ≤ t0
      · have HV2 := Lib.hid (And.intro V1 (And.intro V2 (And.intro V3 (And.intro V4 hb))))
        have kc : wr.cell? ⟨g, k, none⟩ = some (.int .i64 (setRange d.lk f0 k q k)) := (V2.cell _).trans (hrow.out k (by omega))
        have kf := fun o => V2.frozen o
        have hkm : (k : Int) < d.m := by omega
        have hkm2 : k < d.m := by omega
        clear V1 V2 V3 V4 hb
        go_wp2_with fail
        go_roundw
        case rel =>
          have S := row_range hrow.out hcs.out hk1 hkm2
          exact ⟨k + 1, _, by omega, by omega, by go_num, Lib.hid S.2, Lib.hid S.1, HV2.out.1.far (by show ga ≠ g; exact hgg) _, HV2.out.2.1.set_ _ _, HV2.out.2.2.1.far (by show w3.heap.size ≠ g; omega) _, HV2.out.2.2.2.1.far (by show w.heap.size + 1 ≠ g; omega) _, below_set HV2.out.2.2.2.2 (by show w.heap.size ≤ g; omega) _⟩
        case measure => simp [intOf]; omega
      · obtain rfl : k = t0 + 1 := by omega
        have hO : OwnDu wr w2.heap.size (some ⟨ga, 0, none⟩) (some ⟨g, 0, none⟩) (rcD d q f0 t0) := ⟨OwnB.of_blk V1 HA.out.2 HA.out.1 i1, OwnS.of_blk V2 hcs.out (by rw [rcD, Int.toNat_natCast, Int.toNat_natCast]; exact hrow.out) k1, fun k h8 h9 => hgg (by rw [← rowOf_some h8, ← rowOf_some h9])⟩
        have hmm : ¬ ((t0 : Int) + 1 ≤ t0) := by omega
        go_wp2_with fail
        refine (l25Good_any _ _ e1 e2 (rcD d q f0 t0) _ hn1 hn2 hO.rd).mono ?_
        rw [ER.out]
        rintro e w5 ⟨rfl, b5⟩
        replace V3 := V3.below b5
        replace V4 := V4.below b5
        clear qz qy fy ly lz
        have qz := fun o => V3.cell o
        have qy := fun o => V4.cell o
        have fy := fun o => V4.frozen o
        have ly := V4.lt
        have C5 := below_tr hb b5
        cases r with
        | true =>
          have hgr := grownBy_set (grownBy_set (grownBy_set (grownBy_refl w5 (some (w.heap.size + 1))) (p := ⟨w.heap.size + 1, 0, none⟩) rfl (.int .i64 d.ce)) (p := ⟨w.heap.size + 1, 1, none⟩) rfl (.slice (some ⟨ga, 0, none⟩) d.n e1)) (p := ⟨w.heap.size + 1, 2, none⟩) rfl (.slice (some ⟨g, 0, none⟩) d.m e2)
          have HO := Lib.hid (((hO.below b5).grown hgr (fun k hk => by cases hk; exact ly2)).mono (show w.heap.size ≤ w2.heap.size by omega))
          have HC := Lib.hid (below_row C5 hgr (fun k hk => by cases hk; omega))
          clear hgr hO
          go_wp2_with fail
          refine bodyPost_ret (v := .tuple #[.agg #[.int .i64 d.ce, .slice (some ⟨ga, 0, none⟩) d.n e1, .slice (some ⟨g, 0, none⟩) d.m e2], .bool true]) ?_ rfl ?_
          · simp [results, Try.results35, go_sem, rcD, *]
          rw [HB.out, HW.out]
          exact ⟨_, _, e1, e2, rfl, HO.out, HC.out⟩
        | false =>
          go_wp2_with fail
          refine bodyPost_ret (v := .tuple #[.agg #[.int .i64 0, .slice none 0 0, .slice none 0 0], .bool false]) ?_ rfl ?_
          · simp [results, Try.results35, go_sem, *]
          rw [HB.out, HW.out]
          exact ⟨none, none, 0, 0, rfl, OwnDu.zero, (by repeat (first | with_reducible exact Below.refl _ _ | with_reducible assumption | with_reducible refine below_alloc ?_ _ | with_reducible refine below_more ?_ _ | (with_reducible refine below_set ?_ ?_ _; rotate_left; focus (first | with_reducible exact Nat.le_refl _ | with_reducible assumption | (simp; done) | (simp; omega) | omega))))⟩
  · have HB := Lib.hid (show rcB d c f t = false by
      cases x <;> cases y <;> cases a <;> cases z1 <;> cases z2 <;> simp_all [rcB, rcOk])
    have HW := Lib.hid (show rcW d c f t = Du.zero by rw [rcW, HB.out]; rfl)
    have EX := Lib.hid ex
    have EY := Lib.hid ey
    have EA := Lib.hid ea
    have hf := Lib.hid (Du.ok_facts (d := d))
    clear ea
    have EZ1 := Lib.hid ez1
    have EZ2 := Lib.hid ez2
    clear ez1 ez2
    go_enter Try.func35, Try.ntmps35
    go_wp2_with fail
    generalize hu : ((w.alloc (.cells #[.int .i64 d.ce, .slice A1 d.n c1, .slice A2 d.m c2] 28)).alloc (.cells #[.int .i64 0, .slice none 0 0, .slice none 0 0] 28)) = u
    have bu : Below w.heap.size w u := by rw [← hu]; exact (by repeat (first | with_reducible exact Below.refl _ _ | with_reducible assumption | with_reducible refine below_alloc ?_ _ | with_reducible refine below_more ?_ _ | (with_reducible refine below_set ?_ ?_ _; rotate_left; focus (first | with_reducible exact Nat.le_refl _ | with_reducible assumption | (simp; done) | (simp; omega) | omega))))
    have Bx : Blk u w.heap.size 28 #[.int .i64 d.ce, .slice A1 d.n c1, .slice A2 d.m c2] := by rw [← hu]; exact (Blk.new _ _ _).alloc _
    have By : Blk u (w.heap.size + 1) 28 #[.int .i64 0, .slice none 0 0, .slice none 0 0] := by rw [← hu]; exact Blk.at_ (by simp)
    clear hu
    have qx := fun o => Bx.cell o
    have qy := fun o => By.cell o
    have fy := fun o => By.frozen o
    have ly := By.lt
    replace h := h.below bu
    refine (l25Centre_any A1 A2 c1 c2 d c _ hn1 hn2 h).mono ?_
    rw [EX.out, EY.out]
    rintro e w2 ⟨rfl, b2⟩
    replace h := h.below b2
    replace Bx := Bx.below b2
    replace By := By.below b2
    clear qx qy fy ly
    have qx := fun o => Bx.cell o
    have qy := fun o => By.cell o
    have fy := fun o => By.frozen o
    have ly := By.lt
    have C := below_tr bu b2
    cases x with
    | false =>
      clear ex
      go_wp2_with fail
      refine bodyPost_ret (v := .tuple #[.agg #[.int .i64 0, .slice none 0 0, .slice none 0 0], .bool false]) ?_ rfl ?_
      · simp [results, Try.results35, go_sem, *]
      rw [HB.out, HW.out]
      exact ⟨none, none, 0, 0, rfl, OwnDu.zero, (by repeat (first | with_reducible exact Below.refl _ _ | with_reducible assumption | with_reducible refine below_alloc ?_ _ | with_reducible refine below_more ?_ _ | (with_reducible refine below_set ?_ ?_ _; rotate_left; focus (first | with_reducible exact Nat.le_refl _ | with_reducible assumption | (simp; done) | (simp; omega) | omega))))⟩
    | true =>
      obtain ⟨g1, g2, g3, g4, g5, g6⟩ := hf.out ex
      clear ex g6
      cases y with
      | false =>
        clear g3
        go_wp2_with fail
        refine bodyPost_ret (v := .tuple #[.agg #[.int .i64 0, .slice none 0 0, .slice none 0 0], .bool false]) ?_ rfl ?_
        · simp [results, Try.results35, go_sem, *]
        rw [HB.out, HW.out]
        exact ⟨none, none, 0, 0, rfl, OwnDu.zero, (by repeat (first | with_reducible exact Below.refl _ _ | with_reducible assumption | with_reducible refine below_alloc ?_ _ | with_reducible refine below_more ?_ _ | (with_reducible refine below_set ?_ ?_ _; rotate_left; focus (first | with_reducible exact Nat.le_refl _ | with_reducible assumption | (simp; done) | (simp; omega) | omega))))⟩
      | true =>
        obtain ⟨v5, v6⟩ := inB_iff.1 ey
        obtain ⟨q, rfl⟩ := Int.eq_ofNat_of_zero_le v5
        have hqn : q < d.n := by omega
        have hq2 : (q : Int) < d.n := by omega
        have EA' := Lib.hid (show d.act q = a by have := EA.out; rwa [Int.toNat_natCast] at this)
        clear g3 EA ey
        obtain ⟨pb, po, rfl, plt, pc⟩ := h.1 q hqn
        rw [EA'.out] at pc
        cases a with
        | true =>
          go_wp2_with fail
          refine bodyPost_ret (v := .tuple #[.agg #[.int .i64 0, .slice none 0 0, .slice none 0 0], .bool false]) ?_ rfl ?_
          · simp [results, Try.results35, go_sem, *]
          rw [HB.out, HW.out]
          exact ⟨none, none, 0, 0, rfl, OwnDu.zero, (by repeat (first | with_reducible exact Below.refl _ _ | with_reducible assumption | with_reducible refine below_alloc ?_ _ | with_reducible refine below_more ?_ _ | (with_reducible refine below_set ?_ ?_ _; rotate_left; focus (first | with_reducible exact Nat.le_refl _ | with_reducible assumption | (simp; done) | (simp; omega) | omega))))⟩
        | false =>
          by_cases n1 : f < 0
          · skip
            go_wp2_with fail
            refine bodyPost_ret (v := .tuple #[.agg #[.int .i64 0, .slice none 0 0, .slice none 0 0], .bool false]) ?_ rfl ?_
            · simp [results, Try.results35, go_sem, *]
            rw [HB.out, HW.out]
            exact ⟨none, none, 0, 0, rfl, OwnDu.zero, (by repeat (first | with_reducible exact Below.refl _ _ | with_reducible assumption | with_reducible refine below_alloc ?_ _ | with_reducible refine below_more ?_ _ | (with_reducible refine below_set ?_ ?_ _; rotate_left; focus (first | with_reducible exact Nat.le_refl _ | with_reducible assumption | (simp; done) | (simp; omega) | omega))))⟩
          · by_cases n2 : t < f
            · skip
              go_wp2_with fail
              refine bodyPost_ret (v := .tuple #[.agg #[.int .i64 0, .slice none 0 0, .slice none 0 0], .bool false]) ?_ rfl ?_
              · simp [results, Try.results35, go_sem, *]
              rw [HB.out, HW.out]
              exact ⟨none, none, 0, 0, rfl, OwnDu.zero, (by repeat (first | with_reducible exact Below.refl _ _ | with_reducible assumption | with_reducible refine below_alloc ?_ _ | with_reducible refine below_more ?_ _ | (with_reducible refine below_set ?_ ?_ _; rotate_left; focus (first | with_reducible exact Nat.le_refl _ | with_reducible assumption | (simp; done) | (simp; omega) | omega))))⟩
            · by_cases n3 : (d.m : Int) ≤ t
              · skip
                go_wp2_with fail
                refine bodyPost_ret (v := .tuple #[.agg #[.int .i64 0, .slice none 0 0, .slice none 0 0], .bool false]) ?_ rfl ?_
                · simp [results, Try.results35, go_sem, *]
                rw [HB.out, HW.out]
                exact ⟨none, none, 0, 0, rfl, OwnDu.zero, (by repeat (first | with_reducible exact Below.refl _ _ | with_reducible assumption | with_reducible refine below_alloc ?_ _ | with_reducible refine below_more ?_ _ | (with_reducible refine below_set ?_ ?_ _; rotate_left; focus (first | with_reducible exact Nat.le_refl _ | with_reducible assumption | (simp; done) | (simp; omega) | omega))))⟩
              · exfalso
                apply hv
                refine ⟨rfl, rfl, rfl, ?_, ?_⟩
                · rw [← EZ1.out, inB_iff]; omega
                · rw [← EZ2.out, inB_iff]; omega
end Go.Proofs.Ytbbafdcmgobkeaa
