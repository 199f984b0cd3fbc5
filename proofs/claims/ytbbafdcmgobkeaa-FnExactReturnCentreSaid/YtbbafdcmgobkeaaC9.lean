/-
  HandLock, in the reference.
  Conditions: none beyond each statement's own premises.
-/
import Derived.Test.YtbbafdcmgobkeaaC8
namespace Go.Proofs.Ytbbafdcmgobkeaa
set_option linter.unusedSimpArgs false
set_option linter.unusedVariables false
open Go.RowKit
set_option maxHeartbeats 800000 in
theorem l25Centre_any (A1 A2 : Option Addr) (c1 c2 : Nat) (d : Du) (c : Int) (w : World) (hn1 : d.n ≤ 1048576) (hn2 : d.m ≤ 1048576) (h : IsDu w A1 A2 d) :
    Calls Try.prog 72 #[.agg #[.int .i64 d.ce, .slice A1 d.n c1, .slice A2 d.m c2], .int .i64 c] w (Post (.bool (d.ok && inB c 0 (d.ce - 1))) w) := by
  obtain ⟨x, ex⟩ : ∃ x, d.ok = x := ⟨_, rfl⟩
  have EX := Lib.hid ex
  have hf := Lib.hid (Du.ok_facts (d := d))
  rw [ex]
  go_enter Try.func72, Try.ntmps72
  go_wp2_with fail
  generalize hu : (w.alloc (.cells #[.int .i64 d.ce, .slice A1 d.n c1, .slice A2 d.m c2] 28)) = u
  have bu : Below w.heap.size w u := by rw [← hu]; exact (by repeat (first | with_reducible exact Below.refl _ _ | with_reducible assumption | with_reducible refine below_alloc ?_ _ | with_reducible refine below_more ?_ _ | (with_reducible refine below_set ?_ ?_ _; rotate_left; focus (first | with_reducible exact Nat.le_refl _ | with_reducible assumption | (simp; done) | (simp; omega) | omega))))
  have Bu : Blk u w.heap.size 28 #[.int .i64 d.ce, .slice A1 d.n c1, .slice A2 d.m c2] := by rw [← hu]; exact Blk.new _ _ _
  have eu : u.heap.size = w.heap.size + 1 := by rw [← hu]; simp
  clear hu
  have qu := fun o => Bu.cell o
  have lu := Bu.lt
  have su := bu.size
  clear eu
  refine (l25Good_any A1 A2 c1 c2 d _ hn1 hn2 (h.below bu)).mono ?_
  rw [EX.out]
  rintro e w1 ⟨rfl, b1⟩
  replace Bu := Bu.below b1
  clear qu
  have qu := fun o => Bu.cell o
  have C := below_tr bu b1
  cases x with
  | false =>
    clear ex
    go_wp2_with fail
    go_ret
    exact ⟨rfl, C⟩
  | true =>
    obtain ⟨g1, g2, g3, g4, g5, g6⟩ := hf.out ex
    clear ex g3 g6
    go_wp2_with fail
    refine (l1In_any _ _ _ _).mono ?_
    rintro e w' ⟨rfl, rfl⟩
    go_wp2_with fail
    go_ret
    exact ⟨rfl, C⟩
set_option maxHeartbeats 1600000 in
theorem specHandLock_any (A1 A2 : Option Addr) (c1 c2 : Nat) (d : Du) (l c : Int) (w : World) (hn1 : d.n ≤ 1048576) (hn2 : d.m ≤ 1048576) (h : IsDu w A1 A2 d) :
    Calls Try.prog 32 #[.agg #[.int .i64 d.ce, .slice A1 d.n c1, .slice A2 d.m c2], .int .i64 l, .int .i64 c] w fun e w' => ∃ E1 E2 e1 e2, e = .returned (.tuple #[.agg #[.int .i64 (handW d l c).ce, .slice E1 (handW d l c).n e1, .slice E2 (handW d l c).m e2], .bool (handB d l c)]) ∧ OwnDu w' w.heap.size E1 E2 (handW d l c) ∧ Below w.heap.size w w' := by
  obtain ⟨x, ex⟩ : ∃ x, d.ok = x := ⟨_, rfl⟩
  obtain ⟨y, ey⟩ : ∃ y, inB c 0 (d.ce - 1) = y := ⟨_, rfl⟩
  obtain ⟨z, ez⟩ : ∃ z, inB l 0 (d.m - 1) = z := ⟨_, rfl⟩
  by_cases hv : x = true ∧ y = true ∧ z = true
  · obtain ⟨rfl, rfl, rfl⟩ := hv
    have hok : handOk d l c = true := by rw [handOk, ex, ey, ez]; rfl
    obtain ⟨g1, g2, g3, g4, g5, g6⟩ := Du.ok_facts ex
    obtain ⟨v1, v2⟩ := inB_iff.1 ez
    obtain ⟨q, rfl⟩ := Int.eq_ofNat_of_zero_le v1
    have hq : q < d.m := by omega
    have EX := Lib.hid ex
    have EY := Lib.hid ey
    have EZ := Lib.hid (l1In_is ez)
    obtain ⟨r, er⟩ : ∃ r, (handD d q c).ok = r := ⟨_, rfl⟩
    have HB := Lib.hid (show handB d q c = r by rw [handB, hok, er]; rfl)
    have HW := Lib.hid (show handW d q c = if r = true then handD d q c else Du.zero by rw [handW, HB.out])
    have ER := Lib.hid er
    have g7 : 0 < d.n := by omega
    have g8 : (0:Int) < d.m := by omega
    clear ex ey ez er g3 g6 hok
    go_enter Try.func32, Try.ntmps32
    go_wp2_with fail
    generalize hu : ((w.alloc (.cells #[.int .i64 d.ce, .slice A1 d.n c1, .slice A2 d.m c2] 28)).alloc (.cells #[.int .i64 0, .slice none 0 0, .slice none 0 0] 28)) = u
    have bu : Below w.heap.size w u := by rw [← hu]; exact (by repeat (first | with_reducible exact Below.refl _ _ | with_reducible assumption | with_reducible refine below_alloc ?_ _ | with_reducible refine below_more ?_ _ | (with_reducible refine below_set ?_ ?_ _; rotate_left; focus (first | with_reducible exact Nat.le_refl _ | with_reducible assumption | (simp; done) | (simp; omega) | omega))))
    have Bx : Blk u w.heap.size 28 #[.int .i64 d.ce, .slice A1 d.n c1, .slice A2 d.m c2] := by rw [← hu]; exact (Blk.new _ _ _).alloc _
    have By : Blk u (w.heap.size + 1) 28 #[.int .i64 0, .slice none 0 0, .slice none 0 0] := by rw [← hu]; exact Blk.at_ (by simp)
    clear hu
    have qx := fun o => Bx.cell o
    have qy := fun o => By.cell o
    have fy := fun o => By.frozen o
    have ly := By.lt
    replace h := h.below bu
    refine (l25Centre_any A1 A2 c1 c2 d c _ hn1 hn2 h).mono ?_
    rw [EX.out, EY.out]
    rintro e w2 ⟨rfl, b2⟩
    replace h := h.below b2
    replace Bx := Bx.below b2
    replace By := By.below b2
    clear qx qy fy ly
    have qx := fun o => Bx.cell o
    have qy := fun o => By.cell o
    have fy := fun o => By.frozen o
    have ly := By.lt
    have C := below_tr bu b2
    have ly2 := ly
    go_wp2_with fail
    refine (EZ.out _).mono ?_
    rintro e w' ⟨rfl, rfl⟩
    go_wp2_with fail
    refine (l25Own_any A1 A2 c1 c2 d _ g7 (by omega) hn1 hn2 h).mono ?_
    rintro e w3 ⟨E1, E2, e1, e2, rfl, ho, b3⟩
    replace Bx := Bx.below b3
    replace By := By.below b3
    clear qx qy fy ly
    have qx := fun o => Bx.cell o
    have qy := fun o => By.cell o
    have fy := fun o => By.frozen o
    have ly := By.lt
    have C3 := below_tr C b3
    obtain ⟨ho1, ho2, ho3⟩ := ho
    obtain ⟨g, cs, rfl, k1, k2, k3, k4⟩ := ho2 (by omega)
    have s2 := b2.size
    have s3 := b3.size
    have kl := k2.lt
    have kc : w3.cell? ⟨g, q, none⟩ = some (.int .i64 (d.lk q)) := (k2.cell _).trans (k4 q hq)
    have kf := fun o => k2.frozen o
    have ly3 : w.heap.size + 1 < w2.heap.size := ly2
    have hq2 : (q : Int) < d.m := by omega
    go_wp2_with fail
    generalize hu : ((w3.setCell ⟨g, q, none⟩ (.int .i64 c)).alloc (.cells #[.int .i64 d.ce, .slice E1 d.n e1, .slice (some ⟨g, 0, none⟩) d.m e2] 28)) = w4
    have hg : w3.grownBy w4 (some g) := by rw [← hu]; exact grownBy_tr (grownBy_set (grownBy_refl _ _) rfl _) (World.grownBy_alloc _ _ _)
    have ho2' : OwnS w4 w2.heap.size (some ⟨g, 0, none⟩) d.m (setLk d.lk q c) := by rw [← hu]; exact (ho2.set_ hq c).below (below_alloc (Below.refl _ _) _)
    clear kc kf
    have ho1' : OwnB w4 w2.heap.size E1 d.n d.act := ho1.apart hg (fun k hk x => ho3 k hk (by rw [rowOf_pos (by omega) rfl]; exact x))
    replace By := By.grown hg (fun x => by cases x; omega)
    replace Bx := Bx.grown hg (fun x => by cases x; omega)
    have C4 : Below w.heap.size w w4 := below_row C3 hg (fun k hk => by cases hk; omega)
    have s4 := C4.size
    have hO : OwnDu w4 w2.heap.size E1 (some ⟨g, 0, none⟩) (handD d q c) := ⟨ho1', ho2', ho3⟩
    clear qx qy fy ly ho1 ho2 ho3 k2 k4
    have Bz : Blk w4 w3.heap.size 28 #[.int .i64 d.ce, .slice E1 d.n e1, .slice (some ⟨g, 0, none⟩) d.m e2] := by rw [← hu]; exact Blk.at_ (by simp)
    clear hu
    refine (l25Good_any E1 (some ⟨g, 0, none⟩) e1 e2 (handD d q c) _ hn1 hn2 hO.rd).mono ?_
    rw [ER.out]
    rintro e w5 ⟨rfl, b5⟩
    replace Bx := Bx.below b5
    replace By := By.below b5
    have qx := fun o => Bx.cell o
    have qy := fun o => By.cell o
    have fy := fun o => By.frozen o
    have ly := By.lt
    replace Bz := Bz.below b5
    have qz := fun o => Bz.cell o
    have C5 := below_tr C4 b5
    cases r with
    | true =>
      have hgr := grownBy_set (grownBy_set (grownBy_set (grownBy_refl w5 (some (w.heap.size + 1))) (p := ⟨w.heap.size + 1, 0, none⟩) rfl (.int .i64 d.ce)) (p := ⟨w.heap.size + 1, 1, none⟩) rfl (.slice E1 d.n e1)) (p := ⟨w.heap.size + 1, 2, none⟩) rfl (.slice (some ⟨g, 0, none⟩) d.m e2)
      have HO := Lib.hid (((hO.below b5).grown hgr (fun k hk => by cases hk; exact ly3)).mono (show w.heap.size ≤ w2.heap.size by omega))
      have HC := Lib.hid (below_row C5 hgr (fun k hk => by cases hk; omega))
      clear hgr hO
      go_wp2_with fail
      refine bodyPost_ret (v := .tuple #[.agg #[.int .i64 d.ce, .slice E1 d.n e1, .slice (some ⟨g, 0, none⟩) d.m e2], .bool true]) ?_ rfl ?_
      · simp [results, Try.results32, go_sem, handD, *]
      rw [HB.out, HW.out]
      exact ⟨_, _, e1, e2, rfl, HO.out, HC.out⟩
    | false =>
      go_wp2_with fail
      refine bodyPost_ret (v := .tuple #[.agg #[.int .i64 0, .slice none 0 0, .slice none 0 0], .bool false]) ?_ rfl ?_
      · simp [results, Try.results32, go_sem, *]
      rw [HB.out, HW.out]
      exact ⟨none, none, 0, 0, rfl, OwnDu.zero, (by repeat (first | with_reducible exact Below.refl _ _ | with_reducible assumption | with_reducible refine below_alloc ?_ _ | with_reducible refine below_more ?_ _ | (with_reducible refine below_set ?_ ?_ _; rotate_left; focus (first | with_reducible exact Nat.le_refl _ | with_reducible assumption | (simp; done) | (simp; omega) | omega))))⟩
  · have HB := Lib.hid (show handB d l c = false by
      cases x <;> cases y <;> cases z <;> simp_all [handB, handOk])
    have HW := Lib.hid (show handW d l c = Du.zero by rw [handW, HB.out]; rfl)
    have EX := Lib.hid ex
    have EY := Lib.hid ey
    have EZ := Lib.hid (l1In_is ez)
    have hf := Lib.hid (Du.ok_facts (d := d))
    clear ey ez
    go_enter Try.func32, Try.ntmps32
    go_wp2_with fail
    generalize hu : ((w.alloc (.cells #[.int .i64 d.ce, .slice A1 d.n c1, .slice A2 d.m c2] 28)).alloc (.cells #[.int .i64 0, .slice none 0 0, .slice none 0 0] 28)) = u
    have bu : Below w.heap.size w u := by rw [← hu]; exact (by repeat (first | with_reducible exact Below.refl _ _ | with_reducible assumption | with_reducible refine below_alloc ?_ _ | with_reducible refine below_more ?_ _ | (with_reducible refine below_set ?_ ?_ _; rotate_left; focus (first | with_reducible exact Nat.le_refl _ | with_reducible assumption | (simp; done) | (simp; omega) | omega))))
    have Bx : Blk u w.heap.size 28 #[.int .i64 d.ce, .slice A1 d.n c1, .slice A2 d.m c2] := by rw [← hu]; exact (Blk.new _ _ _).alloc _
    have By : Blk u (w.heap.size + 1) 28 #[.int .i64 0, .slice none 0 0, .slice none 0 0] := by rw [← hu]; exact Blk.at_ (by simp)
    clear hu
    have qx := fun o => Bx.cell o
    have qy := fun o => By.cell o
    have fy := fun o => By.frozen o
    have ly := By.lt
    replace h := h.below bu
    refine (l25Centre_any A1 A2 c1 c2 d c _ hn1 hn2 h).mono ?_
    rw [EX.out, EY.out]
    rintro e w1 ⟨rfl, b1⟩
    replace h := h.below b1
    replace Bx := Bx.below b1
    replace By := By.below b1
    clear qx qy fy ly
    have qx := fun o => Bx.cell o
    have qy := fun o => By.cell o
    have fy := fun o => By.frozen o
    have ly := By.lt
    have C := below_tr bu b1
    cases x with
    | false =>
      go_wp2_with fail
      refine bodyPost_ret (v := .tuple #[.agg #[.int .i64 0, .slice none 0 0, .slice none 0 0], .bool false]) ?_ rfl ?_
      · simp [results, Try.results32, go_sem, *]
      rw [HB.out, HW.out]
      exact ⟨none, none, 0, 0, rfl, OwnDu.zero, (by repeat (first | with_reducible exact Below.refl _ _ | with_reducible assumption | with_reducible refine below_alloc ?_ _ | with_reducible refine below_more ?_ _ | (with_reducible refine below_set ?_ ?_ _; rotate_left; focus (first | with_reducible exact Nat.le_refl _ | with_reducible assumption | (simp; done) | (simp; omega) | omega))))⟩
    | true =>
      cases y with
      | false =>
        go_wp2_with fail
        refine bodyPost_ret (v := .tuple #[.agg #[.int .i64 0, .slice none 0 0, .slice none 0 0], .bool false]) ?_ rfl ?_
        · simp [results, Try.results32, go_sem, *]
        rw [HB.out, HW.out]
        exact ⟨none, none, 0, 0, rfl, OwnDu.zero, (by repeat (first | with_reducible exact Below.refl _ _ | with_reducible assumption | with_reducible refine below_alloc ?_ _ | with_reducible refine below_more ?_ _ | (with_reducible refine below_set ?_ ?_ _; rotate_left; focus (first | with_reducible exact Nat.le_refl _ | with_reducible assumption | (simp; done) | (simp; omega) | omega))))⟩
      | true =>
        obtain ⟨g1, g2, g3, g4, g5, g6⟩ := hf.out ex
        clear ex g3 g6
        go_wp2_with fail
        refine (EZ.out _).mono ?_
        rintro e w' ⟨rfl, rfl⟩
        cases z with
        | false =>
          go_wp2_with fail
          refine bodyPost_ret (v := .tuple #[.agg #[.int .i64 0, .slice none 0 0, .slice none 0 0], .bool false]) ?_ rfl ?_
          · simp [results, Try.results32, go_sem, *]
          rw [HB.out, HW.out]
          exact ⟨none, none, 0, 0, rfl, OwnDu.zero, (by repeat (first | with_reducible exact Below.refl _ _ | with_reducible assumption | with_reducible refine below_alloc ?_ _ | with_reducible refine below_more ?_ _ | (with_reducible refine below_set ?_ ?_ _; rotate_left; focus (first | with_reducible exact Nat.le_refl _ | with_reducible assumption | (simp; done) | (simp; omega) | omega))))⟩
        | true => exact absurd (by simp) hv
end Go.Proofs.Ytbbafdcmgobkeaa
