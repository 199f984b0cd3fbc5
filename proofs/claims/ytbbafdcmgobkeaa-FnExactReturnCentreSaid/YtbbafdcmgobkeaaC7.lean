/-
  HandLock, in the program and in the reference.
  Conditions: none beyond each statement's own premises.
-/
import Derived.Test.YtbbafdcmgobkeaaC6
namespace Go.Proofs.Ytbbafdcmgobkeaa
set_option linter.unusedSimpArgs false
set_option linter.unusedVariables false
open Go.RowKit
def Du.zero : Du := ⟨0, 0, fun _ => false, 0, fun _ => 0⟩
theorem OwnDu.zero {w : World} {B : Nat} : OwnDu w B none none Du.zero := ⟨OwnB.nil, OwnS.nil, fun k hk => by simp [rowOf, Du.zero] at hk⟩
def setLk (f : Nat → Int) (l c : Int) : Nat → Int := fun i => if (i : Int) = l then c else f i
theorem OwnS.set_ {w : World} {B g n q : Nat} {f : Nat → Int} (h : OwnS w B (some ⟨g, 0, none⟩) n f) (hq : q < n) (c : Int) : OwnS (w.setCell ⟨g, q, none⟩ (.int .i64 c)) B (some ⟨g, 0, none⟩) n (setLk f q c) := fun h0 => by
  obtain ⟨g', cs, e, h1, h2, h3, h4⟩ := h h0
  cases e
  refine ⟨g, _, rfl, h1, h2.set_ _ _, by simpa using h3, fun i hi => ?_⟩
  by_cases e : i = q
  · subst e
    simp [Array.getElem?_setIfInBounds, setLk]
    omega
  · rw [Array.getElem?_setIfInBounds, if_neg (by omega), setLk, if_neg (by omega)]
    exact h4 i hi
theorem asDuty_ok (A1 A2 : Option Addr) (c1 c2 : Nat) (d : Du) (w : World) (hn1 : d.n ≤ 1048576) (hn2 : d.m ≤ 1048576) (h : IsDu w A1 A2 d) (hd : d.ok = true) :
    Calls Try.prog 76 #[.agg #[.int .i64 d.ce, .slice A1 d.n c1, .slice A2 d.m c2]] w (Post (.tuple #[.agg #[.int .i64 d.ce, .slice A1 d.n c1, .slice A2 d.m c2], .bool true]) w) := by
  go_enter Try.func76, Try.ntmps76
  go_wp2_with fail
  generalize hu : ((w.alloc (.cells #[.int .i64 d.ce, .slice A1 d.n c1, .slice A2 d.m c2] 28)).alloc (.cells #[.int .i64 0, .slice none 0 0, .slice none 0 0] 28)) = u
  have bu : Below w.heap.size w u := by rw [← hu]; exact (by repeat (first | with_reducible exact Below.refl _ _ | with_reducible assumption | with_reducible refine below_alloc ?_ _ | with_reducible refine below_more ?_ _ | (with_reducible refine below_set ?_ ?_ _; rotate_left; focus (first | with_reducible exact Nat.le_refl _ | with_reducible assumption | (simp; done) | (simp; omega) | omega))))
  have Bx : Blk u w.heap.size 28 #[.int .i64 d.ce, .slice A1 d.n c1, .slice A2 d.m c2] := by rw [← hu]; exact (Blk.new _ _ _).alloc _
  have By : Blk u (w.heap.size + 1) 28 #[.int .i64 0, .slice none 0 0, .slice none 0 0] := by rw [← hu]; exact Blk.at_ (by simp)
  clear hu
  refine (isValidDuty_any A1 A2 c1 c2 d _ hn1 hn2 (h.below bu)).mono ?_
  rw [hd]
  rintro e w1 ⟨rfl, b1⟩
  replace Bx := Bx.below b1
  replace By := By.below b1
  have qx := fun o => Bx.cell o
  have qy := fun o => By.cell o
  have fy := fun o => By.frozen o
  have ly := By.lt
  have C := below_tr bu b1
  go_wp2_with fail
  refine bodyPost_ret (v := .tuple #[.agg #[.int .i64 d.ce, .slice A1 d.n c1, .slice A2 d.m c2], .bool true]) ?_ rfl ?_
  · simp [results, Try.results76, go_sem, *]
  exact ⟨rfl, (by repeat (first | with_reducible exact Below.refl _ _ | with_reducible assumption | with_reducible refine below_alloc ?_ _ | with_reducible refine below_more ?_ _ | (with_reducible refine below_set ?_ ?_ _; rotate_left; focus (first | with_reducible exact Nat.le_refl _ | with_reducible assumption | (simp; done) | (simp; omega) | omega))))⟩
theorem asDuty_no (A1 A2 : Option Addr) (c1 c2 : Nat) (d : Du) (w : World) (hn1 : d.n ≤ 1048576) (hn2 : d.m ≤ 1048576) (h : IsDu w A1 A2 d) (hd : d.ok = false) :
    Calls Try.prog 76 #[.agg #[.int .i64 d.ce, .slice A1 d.n c1, .slice A2 d.m c2]] w (Post (.tuple #[.agg #[.int .i64 0, .slice none 0 0, .slice none 0 0], .bool false]) w) := by
  go_enter Try.func76, Try.ntmps76
  go_wp2_with fail
  generalize hu : ((w.alloc (.cells #[.int .i64 d.ce, .slice A1 d.n c1, .slice A2 d.m c2] 28)).alloc (.cells #[.int .i64 0, .slice none 0 0, .slice none 0 0] 28)) = u
  have bu : Below w.heap.size w u := by rw [← hu]; exact (by repeat (first | with_reducible exact Below.refl _ _ | with_reducible assumption | with_reducible refine below_alloc ?_ _ | with_reducible refine below_more ?_ _ | (with_reducible refine below_set ?_ ?_ _; rotate_left; focus (first | with_reducible exact Nat.le_refl _ | with_reducible assumption | (simp; done) | (simp; omega) | omega))))
  have Bx : Blk u w.heap.size 28 #[.int .i64 d.ce, .slice A1 d.n c1, .slice A2 d.m c2] := by rw [← hu]; exact (Blk.new _ _ _).alloc _
  have By : Blk u (w.heap.size + 1) 28 #[.int .i64 0, .slice none 0 0, .slice none 0 0] := by rw [← hu]; exact Blk.at_ (by simp)
  clear hu
  refine (isValidDuty_any A1 A2 c1 c2 d _ hn1 hn2 (h.below bu)).mono ?_
  rw [hd]
  rintro e w1 ⟨rfl, b1⟩
  replace Bx := Bx.below b1
  replace By := By.below b1
  have qx := fun o => Bx.cell o
  have qy := fun o => By.cell o
  have fy := fun o => By.frozen o
  have ly := By.lt
  have C := below_tr bu b1
  go_wp2_with fail
  refine bodyPost_ret (v := .tuple #[.agg #[.int .i64 0, .slice none 0 0, .slice none 0 0], .bool false]) ?_ rfl ?_
  · simp [results, Try.results76, go_sem, *]
  exact ⟨rfl, (by repeat (first | with_reducible exact Below.refl _ _ | with_reducible assumption | with_reducible refine below_alloc ?_ _ | with_reducible refine below_more ?_ _ | (with_reducible refine below_set ?_ ?_ _; rotate_left; focus (first | with_reducible exact Nat.le_refl _ | with_reducible assumption | (simp; done) | (simp; omega) | omega))))⟩
end Go.Proofs.Ytbbafdcmgobkeaa
