/-
  A slice of integers in memory of its own: what it reads as, and the laws' marks on it.
  Conditions: none beyond each statement's own premises.
-/
import Derived.Test.YtbbafdcmgobkeaaInts
namespace Go.Proofs.Ytbbafdcmgobkeaa
set_option linter.unusedSimpArgs false
set_option linter.unusedVariables false
open Go.RowKit
/-- The block that a slice of n elements at A may write to: none if it is empty. -/
def rowOf (A : Option Addr) (n : Nat) : Option Nat := if n = 0 then none else A.map (·.block)
/-- From block B on: the slice at A owns its n ints. -/
def OwnS (w : World) (B : Nat) (A : Option Addr) (n : Nat) (f : Nat → Int) : Prop := 0 < n → ∃ g cs, A = some ⟨g, 0, none⟩ ∧ B ≤ g ∧ Blk w g 3 cs ∧ n ≤ cs.size ∧ RowI cs n f
section
variable {w w' w0 : World} {B : Nat} {A : Option Addr} {n : Nat} {f : Nat → Int}
theorem OwnS.nil : OwnS w B A 0 f := fun h => absurd h (by omega)
theorem OwnS.rd (h : OwnS w B A n f) : RdI w A n f := fun i hi => by
  obtain ⟨g, cs, rfl, _, hb, hs, hr⟩ := h (by omega)
  exact ⟨g, 0, rfl, hb.lt, by rw [hb.cell]; simpa using hr i hi⟩
theorem OwnS.below (h : OwnS w B A n f) (hb : Below w.heap.size w w') : OwnS w' B A n f := fun h0 => by
  obtain ⟨g, cs, e, h1, h2, h3⟩ := h h0
  exact ⟨g, cs, e, h1, h2.below hb, h3⟩
theorem OwnS.mono (h : OwnS w B A n f) {B' : Nat} (hB : B' ≤ B) : OwnS w B' A n f := fun h0 => by
  obtain ⟨g, cs, e, h1, h2, h3⟩ := h h0
  exact ⟨g, cs, e, by omega, h2, h3⟩
theorem OwnS.grown (h : OwnS w B A n f) {r : Option Nat} (hg : w.grownBy w' r) (hr : ∀ k, r = some k → k < B) : OwnS w' B A n f := fun h0 => by
  obtain ⟨g, cs, e, h1, h2, h3⟩ := h h0
  exact ⟨g, cs, e, h1, h2.grown hg (fun x => by have := hr g x.symm; omega), h3⟩
theorem OwnS.row_ge (h : OwnS w B A n f) : ∀ k, rowOf A n = some k → B ≤ k := fun k hk => by
  unfold rowOf at hk
  split at hk
  · cases hk
  · obtain ⟨g, cs, rfl, h1, _⟩ := h (by omega)
    simp at hk
    omega
theorem OwnS.of_blk {g : Nat} {cs : Array Value} (hb : Blk w g 3 cs) (hs : n ≤ cs.size) (hr : RowI cs n f) (hB : B ≤ g) : OwnS w B (some ⟨g, 0, none⟩) n f := fun _ => ⟨g, cs, rfl, hB, hb, hs, hr⟩
theorem OwnS.of_owns {v : Value} (h : w.ownsRow B 3 1 v n (intsOf f n)) : ∃ A c, v = .slice A n c ∧ OwnS w B A n f := by
  rcases h.2 with ⟨rfl, rfl⟩ | ⟨g, cap, cur, rfl, h1, hg, h2, h3, h4, h5⟩
  · exact ⟨none, 0, rfl, OwnS.nil⟩
  · refine ⟨some ⟨g, 0, none⟩, cap, rfl, fun _ => ⟨g, cur, rfl, h1, hg, by omega, fun i hi => ?_⟩⟩
    have h6 : (cur.toList.take (n * 1))[i]? = (intsOf f n)[i]? := by rw [h5]
    rw [List.getElem?_take, if_pos (by omega)] at h6
    simpa [intsOf, hi] using h6
/-- What was there before a block that is written to, reads as it did. -/
theorem RdI.kept (h : RdI w A n f) (hold : RdI w0 A n f) {r : Option Nat} (hg : w.grownBy w' r) (hr : ∀ k, r = some k → w0.heap.size ≤ k) : RdI w' A n f := fun i hi => by
  obtain ⟨b, off, e, hlt, hc⟩ := h i hi
  obtain ⟨b', off', e', hlt', _⟩ := hold i hi
  rw [e] at e'
  cases e'
  refine ⟨b, off, e, Nat.lt_of_lt_of_le hlt hg.size, (World.cell?_of_block (a := ⟨b, off + i, none⟩) (hg.block b hlt (fun x => ?_))).trans hc⟩
  have := hr b x.symm
  omega
end
theorem grownBy_refl (w : World) (r : Option Nat) : w.grownBy w r := ⟨rfl, rfl, rfl, Nat.le_refl _, fun _ _ _ => rfl⟩
theorem below_row {w w' w2 : World} {r : Option Nat} (h : Below w.heap.size w w') (hg : w'.grownBy w2 r) (hr : ∀ k, r = some k → w.heap.size ≤ k) : Below w.heap.size w w2 := h.grown hg h.size hr
theorem markIntS_own (A : Option Addr) (n c B : Nat) (j : Int) (f : Nat → Int) (w : World) (hn : n ≤ 1048576) (h0 : 0 ≤ j) (h1 : j ≤ 1099511627776) (h : OwnS w B A n f) :
    Calls Try.prog 28 #[.slice A n c, .int .i64 j] w fun e w' => e = .returned (.int .i64 (j + n)) ∧ w.grownBy w' (rowOf A n) ∧ OwnS w' B A n (fun i => j + i) := by
  rcases Nat.eq_zero_or_pos n with rfl | hp
  · go_enter Try.func28, Try.ntmps28
    go_wp2_with fail
    go_loopw [1, 5] (fun x i wr => x = .int .i64 j ∧ i = .int .i64 0 ∧ w = wr) (fun _ i _ => 0)
    case atStart => exact ⟨rfl, rfl, rfl⟩
    case round =>
      obtain ⟨rfl, rfl, rfl⟩ := hrel
      go_wp2_with fail
      go_ret
      exact ⟨by show Ending.returned (Value.int _ _) = Ending.returned (Value.int _ _); congr 2; omega, grownBy_refl _ _, OwnS.nil⟩
  · obtain ⟨g, cs, rfl, hB, hb, hs, _⟩ := h hp
    have HB := Lib.hid hb
    have HS := Lib.hid hs
    clear hb hs h
    go_enter Try.func28, Try.ntmps28
    go_wp2_with fail
    go_loopw [1, 5] (fun x i wr => ∃ k cs, k ≤ n ∧ i = .int .i64 (k : Nat) ∧ x = .int .i64 (j + k) ∧ Blk wr g 3 cs ∧ Hid (n ≤ cs.size) ∧ RowI cs k (fun i => j + i) ∧ w.grownBy wr (some g))
      (fun _ i _ => n - (intOf i).toNat)
    case atStart => exact ⟨0, cs, Nat.zero_le _, rfl, by simp, HB.out, HS, fun _ h => absurd h (by omega), grownBy_refl _ _⟩
    case round =>
      obtain ⟨k, cs, hk, rfl, rfl, hblk, hcs, hrow, hb⟩ := hrel
      have HR := Lib.hid hrow
      have HBk := Lib.hid hblk
      have HBl := Lib.hid hb
      clear hrow
      by_cases hlt : k < n
      · obtain ⟨x0, e0⟩ : ∃ x, wr.cell? ⟨g, k, none⟩ = some x := ⟨_, (hblk.cell _).trans (Array.getElem?_eq_getElem (by have := hcs.out; omega))⟩
        have hfz : ∀ o, wr.frozen? ⟨g, o, none⟩ = false := fun o => hblk.frozen o
        clear hblk hb
        go_wp2_with fail
        go_roundw
        case rel => exact ⟨k + 1, _, by omega, by go_num, by go_num, HBk.out.set_ _ _, Lib.hid (by have := hcs.out; simp; omega), HR.out.step' (x := j + k) rfl (by have := hcs.out; omega), grownBy_set HBl.out rfl _⟩
        case measure => simp [intOf]; omega
      · obtain rfl : k = n := by omega
        clear hb hblk
        go_wp2_with fail
        go_ret
        refine ⟨rfl, ?_, fun _ => ⟨g, cs, rfl, hB, HBk.out, hcs.out, HR.out⟩⟩
        rw [show rowOf (some ⟨g, 0, none⟩) k = some g from by unfold rowOf; rw [if_neg (by omega)]; rfl]
        exact HBl.out
end Go.Proofs.Ytbbafdcmgobkeaa
