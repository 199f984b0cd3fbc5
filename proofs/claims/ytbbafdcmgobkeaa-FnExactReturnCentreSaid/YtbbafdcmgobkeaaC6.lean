/-
  A duty in new memory, in the program and in the reference.
  Conditions: none beyond each statement's own premises.
-/
import Derived.Test.YtbbafdcmgobkeaaCopy
namespace Go.Proofs.Ytbbafdcmgobkeaa
set_option linter.unusedSimpArgs false
set_option linter.unusedVariables false
open Go.RowKit
def boolsOf (f : Nat → Bool) (k : Nat) : List Value := (List.range k).map fun i => .bool (f i)
theorem boolsOf_get {f : Nat → Bool} {n j : Nat} {u : Value} (h : (boolsOf f n)[j]? = some u) : j < n ∧ u = .bool (f j) := by
  have hl : j < (boolsOf f n).length := by
    rcases Nat.lt_or_ge j (boolsOf f n).length with h1 | h1
    · exact h1
    · rw [List.getElem?_eq_none h1] at h; cases h
  have hn : j < n := by simpa [boolsOf] using hl
  refine ⟨hn, ?_⟩
  simp [boolsOf, hn] at h
  exact h.symm
theorem rdb_news {w : World} {b off n : Nat} {f : Nat → Bool} (h : RdB w (some ⟨b, off, none⟩) n f) : ∀ j u, (boolsOf f n)[j]? = some u → w.cell? ((⟨b, off, none⟩ : Addr).add j) = some u := fun j u hj => by
  obtain ⟨hn, rfl⟩ := boolsOf_get hj
  obtain ⟨b', off', e, _, hc⟩ := h j hn
  cases e
  rw [addr_add]
  exact hc
theorem OwnB.of_owns {w : World} {B n : Nat} {f : Nat → Bool} {v : Value} (h : w.ownsRow B 4 1 v n (boolsOf f n)) : ∃ A c, v = .slice A n c ∧ OwnB w B A n f := by
  rcases h.2 with ⟨rfl, rfl⟩ | ⟨g, cap, cur, rfl, h1, hg, h2, h3, h4, h5⟩
  · exact ⟨none, 0, rfl, OwnB.nil⟩
  · refine ⟨some ⟨g, 0, none⟩, cap, rfl, fun _ => ⟨g, cur, rfl, h1, hg, by omega, fun i hi => ?_⟩⟩
    have h6 : (cur.toList.take (n * 1))[i]? = (boolsOf f n)[i]? := by rw [h5]
    rw [List.getElem?_take, if_pos (by omega)] at h6
    simpa [boolsOf, hi] using h6
set_option maxRecDepth 100000 in
set_option maxHeartbeats 1600000 in
theorem newDuty_any (A1 A2 : Option Addr) (c1 c2 : Nat) (d : Du) (w : World) (h1 : 0 < d.n) (h2 : 0 < d.m) (hn1 : d.n ≤ 1048576) (hn2 : d.m ≤ 1048576) (h : IsDu w A1 A2 d) :
    Calls Try.prog 75 #[.agg #[.int .i64 d.ce, .slice A1 d.n c1, .slice A2 d.m c2]] w fun e w' => ∃ E1 E2 e1 e2, e = .returned (.agg #[.int .i64 d.ce, .slice E1 d.n e1, .slice E2 d.m e2]) ∧ OwnDu w' w.heap.size E1 E2 d ∧ Below w.heap.size w w' := by
  obtain ⟨b1, o1, rfl, _, _⟩ := h.1 0 h1
  go_enter Try.func75, Try.ntmps75
  go_wp2_with fail
  generalize hu : ((w.alloc (.cells #[.int .i64 d.ce, .slice (some ⟨b1, o1, none⟩) d.n c1, .slice A2 d.m c2] 28)).alloc (.cells #[.int .i64 0, .slice none 0 0, .slice none 0 0] 28)) = u
  have bu : Below w.heap.size w u := by rw [← hu]; exact (by repeat (first | with_reducible exact Below.refl _ _ | with_reducible assumption | with_reducible refine below_alloc ?_ _ | with_reducible refine below_more ?_ _ | (with_reducible refine below_set ?_ ?_ _; rotate_left; focus (first | with_reducible exact Nat.le_refl _ | with_reducible assumption | (simp; done) | (simp; omega) | omega))))
  have Bx : Blk u w.heap.size 28 #[.int .i64 d.ce, .slice (some ⟨b1, o1, none⟩) d.n c1, .slice A2 d.m c2] := by rw [← hu]; exact (Blk.new _ _ _).alloc _
  have By : Blk u (w.heap.size + 1) 28 #[.int .i64 0, .slice none 0 0, .slice none 0 0] := by rw [← hu]; exact Blk.at_ (by simp)
  have su : w.heap.size + 1 < u.heap.size := By.lt
  clear hu
  have hd := h.below bu
  have HS := Lib.hid (show ∀ W, Below u.heap.size u W → (W.cell? ⟨w.heap.size, 0, none⟩ = some (.int .i64 d.ce) ∧ W.cell? ⟨w.heap.size, 1, none⟩ = some (.slice (some ⟨b1, o1, none⟩) d.n c1) ∧ W.cell? ⟨w.heap.size, 2, none⟩ = some (.slice A2 d.m c2)) from fun W hW => ⟨(Bx.below hW).cell 0, (Bx.below hW).cell 1, (Bx.below hW).cell 2⟩)
  have D := (below_alloc (Below.refl u.heap.size u) (.cells #[] 4)).drew
  obtain ⟨i0, hi0, hz0, hz1, hz2⟩ := info_parts bool_info
  go_region_held3 (fun W => W.cell? ⟨w.heap.size, 0, none⟩ = some (.int .i64 d.ce) ∧ W.cell? ⟨w.heap.size, 1, none⟩ = some (.slice (some ⟨b1, o1, none⟩) d.n c1) ∧ W.cell? ⟨w.heap.size, 2, none⟩ = some (.slice A2 d.m c2))
    (first | exact HS.out _ (Below.refl _ _).drew | exact HS.out _ (Below.refl _ _) | exact HS.out _ D | exact HS.out _ DA | exact HS.out _ DC | go_keep)
    (first
      | (go_split_ands; refine step_append_grows rfl _ _ _ rfl 4 i0 (.bool false) 1 1 Try.underlying22 hi0 hz0 hz1 hz2 rfl (by decide) _ 0 0 [] rfl (by intro h; cases h) rfl (by intro b hb j u hj; simp at hj) ⟨b1, o1, none⟩ d.n c1 (boolsOf d.act d.n) rfl (by simp [boolsOf]) (rdb_news (hd.1.below D)) (by intro u hu; simp [boolsOf] at hu; obtain ⟨_, _, rfl⟩ := hu; rfl) (by omega) (by unfold maxLen; omega) (by omega) ?_; intro vA wA hoA hgA; rw [Nat.zero_add, List.nil_append] at hoA; obtain ⟨E1, e1, rfl, hB1⟩ := OwnB.of_owns hoA; clear hoA; have DA := below_row D hgA (fun k hk => by cases hk))
      | (go_at_call 92; go_split_ands; refine (copyInts_any A2 d.m c2 d.lk _ h2 hn2 (hd.2.below DA)).mono ?_; rintro e wC ⟨E2, e2, rfl, hoC, bC⟩; have DC := below_tr DA bC; have y0 := (By.below DC).cell 0; have y1 := (By.below DC).cell 1; have y2 := (By.below DC).cell 2; have yf := fun o => (By.below DC).frozen o))
  have s1 := DA.size
  have s2 := bC.size
  have O1 : OwnB wC u.heap.size E1 d.n d.act := (hB1.below bC).mono (by simp)
  have hne : ∀ k, rowOf E1 d.n = some k → rowOf E2 d.m ≠ some k := fun k h8 h9 => by
    have := hB1.row_lt k h8
    have := hoC.row_ge k h9
    omega
  have hg := grownBy_set (grownBy_set (grownBy_set (grownBy_refl wC (some (w.heap.size + 1))) (p := ⟨w.heap.size + 1, 0, none⟩) rfl (.int .i64 d.ce)) (p := ⟨w.heap.size + 1, 1, none⟩) rfl (.slice E1 d.n e1)) (p := ⟨w.heap.size + 1, 2, none⟩) rfl (.slice E2 d.m e2)
  have HR := Lib.hid (show OwnDu _ w.heap.size E1 E2 d from ⟨(O1.grown hg (fun k hk => by cases hk; exact su)).mono (by omega), (hoC.grown hg (fun k hk => by cases hk; omega)).mono (by omega), hne⟩)
  have HC := Lib.hid (below_row (below_tr bu DC) hg (fun k hk => by cases hk; omega))
  have hc3 : w.heap.size + 1 < wC.heap.size := by omega
  clear hg O1 hne HS
  go_wp2_with fail
  refine bodyPost_ret (v := .agg #[.int .i64 d.ce, .slice E1 d.n e1, .slice E2 d.m e2]) ?_ rfl ?_
  · simp [results, Try.results75, go_sem, *]
  exact ⟨E1, E2, e1, e2, rfl, HR.out, HC.out⟩
set_option maxRecDepth 100000 in
set_option maxHeartbeats 1600000 in
theorem l25Own_any (A1 A2 : Option Addr) (c1 c2 : Nat) (d : Du) (w : World) (h1 : 0 < d.n) (h2 : 0 < d.m) (hn1 : d.n ≤ 1048576) (hn2 : d.m ≤ 1048576) (h : IsDu w A1 A2 d) :
    Calls Try.prog 74 #[.agg #[.int .i64 d.ce, .slice A1 d.n c1, .slice A2 d.m c2]] w fun e w' => ∃ E1 E2 e1 e2, e = .returned (.agg #[.int .i64 d.ce, .slice E1 d.n e1, .slice E2 d.m e2]) ∧ OwnDu w' w.heap.size E1 E2 d ∧ Below w.heap.size w w' := by
  obtain ⟨b1, o1, rfl, _, _⟩ := h.1 0 h1
  go_enter Try.func74, Try.ntmps74
  go_wp2_with fail
  generalize hu : ((w.alloc (.cells #[.int .i64 d.ce, .slice (some ⟨b1, o1, none⟩) d.n c1, .slice A2 d.m c2] 28)).alloc (.cells #[.int .i64 0, .slice none 0 0, .slice none 0 0] 28)) = u
  have bu : Below w.heap.size w u := by rw [← hu]; exact (by repeat (first | with_reducible exact Below.refl _ _ | with_reducible assumption | with_reducible refine below_alloc ?_ _ | with_reducible refine below_more ?_ _ | (with_reducible refine below_set ?_ ?_ _; rotate_left; focus (first | with_reducible exact Nat.le_refl _ | with_reducible assumption | (simp; done) | (simp; omega) | omega))))
  have Bx : Blk u w.heap.size 28 #[.int .i64 d.ce, .slice (some ⟨b1, o1, none⟩) d.n c1, .slice A2 d.m c2] := by rw [← hu]; exact (Blk.new _ _ _).alloc _
  have By : Blk u (w.heap.size + 1) 28 #[.int .i64 0, .slice none 0 0, .slice none 0 0] := by rw [← hu]; exact Blk.at_ (by simp)
  have su : w.heap.size + 1 < u.heap.size := By.lt
  clear hu
  have hd := h.below bu
  have HS := Lib.hid (show ∀ W, Below u.heap.size u W → (W.cell? ⟨w.heap.size, 0, none⟩ = some (.int .i64 d.ce) ∧ W.cell? ⟨w.heap.size, 1, none⟩ = some (.slice (some ⟨b1, o1, none⟩) d.n c1) ∧ W.cell? ⟨w.heap.size, 2, none⟩ = some (.slice A2 d.m c2)) from fun W hW => ⟨(Bx.below hW).cell 0, (Bx.below hW).cell 1, (Bx.below hW).cell 2⟩)
  have D := (below_alloc (Below.refl u.heap.size u) (.cells #[] 4)).drew
  obtain ⟨i0, hi0, hz0, hz1, hz2⟩ := info_parts bool_info
  go_region_held3 (fun W => W.cell? ⟨w.heap.size, 0, none⟩ = some (.int .i64 d.ce) ∧ W.cell? ⟨w.heap.size, 1, none⟩ = some (.slice (some ⟨b1, o1, none⟩) d.n c1) ∧ W.cell? ⟨w.heap.size, 2, none⟩ = some (.slice A2 d.m c2))
    (first | exact HS.out _ (Below.refl _ _).drew | exact HS.out _ (Below.refl _ _) | exact HS.out _ D | exact HS.out _ DA | exact HS.out _ DC | go_keep)
    (first
      | (go_split_ands; refine step_append_grows rfl _ _ _ rfl 4 i0 (.bool false) 1 1 Try.underlying22 hi0 hz0 hz1 hz2 rfl (by decide) _ 0 0 [] rfl (by intro h; cases h) rfl (by intro b hb j u hj; simp at hj) ⟨b1, o1, none⟩ d.n c1 (boolsOf d.act d.n) rfl (by simp [boolsOf]) (rdb_news (hd.1.below D)) (by intro u hu; simp [boolsOf] at hu; obtain ⟨_, _, rfl⟩ := hu; rfl) (by omega) (by unfold maxLen; omega) (by omega) ?_; intro vA wA hoA hgA; rw [Nat.zero_add, List.nil_append] at hoA; obtain ⟨E1, e1, rfl, hB1⟩ := OwnB.of_owns hoA; clear hoA; have DA := below_row D hgA (fun k hk => by cases hk))
      | (go_at_call 91; go_split_ands; refine (l1Own_any A2 d.m c2 d.lk _ h2 hn2 (hd.2.below DA)).mono ?_; rintro e wC ⟨E2, e2, rfl, hoC, bC⟩; have DC := below_tr DA bC; have y0 := (By.below DC).cell 0; have y1 := (By.below DC).cell 1; have y2 := (By.below DC).cell 2; have yf := fun o => (By.below DC).frozen o))
  have s1 := DA.size
  have s2 := bC.size
  have O1 : OwnB wC u.heap.size E1 d.n d.act := (hB1.below bC).mono (by simp)
  have hne : ∀ k, rowOf E1 d.n = some k → rowOf E2 d.m ≠ some k := fun k h8 h9 => by
    have := hB1.row_lt k h8
    have := hoC.row_ge k h9
    omega
  have hg := grownBy_set (grownBy_set (grownBy_set (grownBy_refl wC (some (w.heap.size + 1))) (p := ⟨w.heap.size + 1, 0, none⟩) rfl (.int .i64 d.ce)) (p := ⟨w.heap.size + 1, 1, none⟩) rfl (.slice E1 d.n e1)) (p := ⟨w.heap.size + 1, 2, none⟩) rfl (.slice E2 d.m e2)
  have HR := Lib.hid (show OwnDu _ w.heap.size E1 E2 d from ⟨(O1.grown hg (fun k hk => by cases hk; exact su)).mono (by omega), (hoC.grown hg (fun k hk => by cases hk; omega)).mono (by omega), hne⟩)
  have HC := Lib.hid (below_row (below_tr bu DC) hg (fun k hk => by cases hk; omega))
  have hc3 : w.heap.size + 1 < wC.heap.size := by omega
  clear hg O1 hne HS
  go_wp2_with fail
  refine bodyPost_ret (v := .agg #[.int .i64 d.ce, .slice E1 d.n e1, .slice E2 d.m e2]) ?_ rfl ?_
  · simp [results, Try.results74, go_sem, *]
  exact ⟨E1, E2, e1, e2, rfl, HR.out, HC.out⟩
end Go.Proofs.Ytbbafdcmgobkeaa
