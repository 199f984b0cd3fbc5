/-
  The laws' own helpers on slices of bools: size, copy, equality, marks; slices of bools in memory of their own.
  Conditions: none beyond each statement's own premises.
-/
import Derived.Test.YtbbafdcmgobkeaaOwn
namespace Go.Proofs.Ytbbafdcmgobkeaa
set_option linter.unusedSimpArgs false
set_option linter.unusedVariables false
open Go.RowKit
theorem bool_info : (Try.prog.info? 4).map (fun i => (i.zero, i.size, i.bytes)) = some (some (.bool false), 1, 1) := by kernel_rfl
/-- Below size 's': element i of the slice with address A is the int f i. -/
def RdB (w : World) (A : Option Addr) (n : Nat) (f : Nat → Bool) : Prop :=
  ∀ i, i < n → ∃ b off, A = some ⟨b, off, none⟩ ∧ b < w.heap.size ∧ w.cell? ⟨b, off + i, none⟩ = some (.bool (f i))
theorem RdB.below {w w' : World} {A : Option Addr} {n : Nat} {f : Nat → Bool} (h : RdB w A n f) (hb : Below w.heap.size w w') : RdB w' A n f := fun i hi => by
  obtain ⟨b, off, e, hlt, hc⟩ := h i hi
  exact ⟨b, off, e, Nat.lt_of_lt_of_le hlt hb.size, (hb.cell (p := ⟨b, off + i, none⟩) hlt).trans hc⟩
theorem RdB.mw {w : World} {A : Option Addr} {n : Nat} {f : Nat → Bool} (h : RdB w A n f) (m : More) : RdB (mw w m) A n f := h.below (below_mw w m)
theorem RdB.alloc {w : World} {A : Option Addr} {n : Nat} {f : Nat → Bool} (h : RdB w A n f) (o : Obj) : RdB (w.alloc o) A n f := h.below (below_alloc (Below.refl _ _) o)
theorem RdB.nil (w : World) (A : Option Addr) (f : Nat → Bool) : RdB w A 0 f := fun _ h => absurd h (by omega)
theorem RdB.congr {w : World} {A : Option Addr} {n : Nat} {f g : Nat → Bool} (h : RdB w A n f) (e : ∀ i, i < n → f i = g i) : RdB w A n g := fun i hi => by
  obtain ⟨b, off, h1, h2, h3⟩ := h i hi
  exact ⟨b, off, h1, h2, by rw [← e i hi]; exact h3⟩

theorem RdB.grown {w w' : World} {A : Option Addr} {n g : Nat} {f : Nat → Bool} (h : RdB w A n f) (hb : w.grownBy w' (some g)) (hne : ∀ b off, A = some ⟨b, off, none⟩ → b ≠ g) : RdB w' A n f := fun i hi => by
  obtain ⟨b, off, e, hlt, hc⟩ := h i hi
  exact ⟨b, off, e, Nat.lt_of_lt_of_le hlt hb.size, (World.cell?_of_block (a := ⟨b, off + i, none⟩) (hb.block b hlt (fun x => hne b off e (by injection x)))).trans hc⟩
set_option maxHeartbeats 400000 in
theorem eqBoolS_same (A B : Option Addr) (n c d : Nat) (f : Nat → Bool) (w : World) (hn : n ≤ 1048576) (hA : RdB w A n f) (hB : RdB w B n f) :
    Calls Try.prog 67 #[.slice A n c, .slice B n d] w (Post (.bool true) w) := by
  go_enter Try.func67, Try.ntmps67
  go_wp2_with fail
  go_loopw [5] (fun i wr => ∃ k : Nat, k ≤ n ∧ i = .int .i64 k ∧ Below w.heap.size w wr) (fun i _ => n - (intOf i).toNat)
  case atStart => exact ⟨0, Nat.zero_le _, rfl, Below.refl _ _⟩
  case round =>
    obtain ⟨k, hk, rfl, hb⟩ := hrel
    have hsz := hb.size
    by_cases hlt : k < n
    · obtain ⟨b, off, rfl, hbl, c0⟩ := hA k hlt
      obtain ⟨b', off', rfl, hbl', d0⟩ := hB k hlt
      obtain ⟨hc, hf⟩ := bcell hb
      have h1 : b < wr.heap.size := by omega
      have h2 : b' < wr.heap.size := by omega
      go_wp2_with fail
      (refine wp_region_more (by kernel_rfl) (by kernel_rfl) ?_
       repeat (any_goals (first | go_big_quiet_step ((fail)) | quiet_step ((fail)) | (refine wpQuiet_step (fun K hK => ?_); go_simp; split <;> (refine hK _ ?_; clear hK K))))
       all_goals (refine wpQuiet_nil ?_; intro _ hw'; obtain ⟨nq, hw''⟩ := hw'; subst hw''))
      go_wp2_with fail
      go_roundw
      case rel => exact ⟨k + 1, by omega, by go_num, (by repeat (first | with_reducible exact Below.refl _ _ | with_reducible assumption | with_reducible refine below_alloc ?_ _ | with_reducible refine below_more ?_ _ | (with_reducible refine below_set ?_ ?_ _; rotate_left; focus (first | with_reducible exact Nat.le_refl _ | with_reducible assumption | (simp; done) | (simp; omega) | omega))))⟩
      case measure => simp [intOf]; omega
    · go_wp2_with fail
      go_ret
      exact ⟨rfl, hb⟩
theorem szBoolS_ok (A : Option Addr) (n c : Nat) (left : Int) (w : World) (h0 : (n : Int) ≤ left) (h1 : left ≤ 1048576) :
    Calls Try.prog 56 #[.slice A n c, .int .i64 left] w fun e w' => e = .returned (.int .i64 (left - n)) ∧ w = w' := by
  go_enter Try.func56, Try.ntmps56
  go_wp2
  go_ret
  exact ⟨rfl, rfl⟩
theorem szBoolS_no (A : Option Addr) (n c : Nat) (left : Int) (w : World) (hn : n ≤ 9223372036854775807) (h0 : 0 ≤ left) (h1 : left < n) :
    Calls Try.prog 56 #[.slice A n c, .int .i64 left] w fun e w' => e = .returned (.int .i64 (-1)) ∧ w = w' := by
  go_enter Try.func56, Try.ntmps56
  go_wp2
  go_ret
  exact ⟨rfl, rfl⟩
/-- The first k cells of a row. -/
def RowB (cs : Array Value) (k : Nat) (f : Nat → Bool) : Prop := ∀ i, i < k → cs[i]? = some (.bool (f i))
theorem RowB.rd {w : World} {g n : Nat} {t : TypeId} {cs : Array Value} {f : Nat → Bool} (hb : Blk w g t cs) (h : RowB cs n f) : RdB w (some ⟨g, 0, none⟩) n f := fun i hi =>
  ⟨g, 0, rfl, hb.lt, by rw [hb.cell]; simpa using h i hi⟩
theorem RowB.step {cs : Array Value} {k n : Nat} {f : Nat → Bool} {x : Bool} (h : RowB cs k f) (hx : x = f k) (hk : k < n) (hs : cs.size = n) : RowB (cs.setIfInBounds k (.bool x)) (k + 1) f ∧ (cs.setIfInBounds k (.bool x)).size = n := by
  subst hx
  refine ⟨fun i hi => ?_, by simp [hs]⟩
  by_cases e : i = k
  · subst e
    simp [Array.getElem?_setIfInBounds]; omega
  · rw [Array.getElem?_setIfInBounds, if_neg (by omega)]
    exact h i (by omega)
theorem RowB.step' {cs : Array Value} {k : Nat} {f : Nat → Bool} {x : Bool} (h : RowB cs k f) (hx : x = f k) (hs : k < cs.size) : RowB (cs.setIfInBounds k (.bool x)) (k + 1) f := by
  subst hx
  intro i hi
  by_cases e : i = k
  · subst e
    simp [Array.getElem?_setIfInBounds]; omega
  · rw [Array.getElem?_setIfInBounds, if_neg (by omega)]
    exact h i (by omega)
set_option maxHeartbeats 800000 in
theorem toBoolS_any (A : Option Addr) (n c : Nat) (f : Nat → Bool) (w : World) (hn : n ≤ 1048576) (hL : RdB w A n f) :
    Calls Try.prog 59 #[.slice A n c] w fun e w' => ∃ g cs, e = .returned (.slice (some ⟨g, 0, none⟩) n n) ∧ w.heap.size ≤ g ∧ Blk w' g 4 cs ∧ cs.size = n ∧ RowB cs n f ∧ Below w.heap.size w w' := by
  have hmk := fun W => run_make_z (P := Try.prog) 22 4 _ _ _ Try.underlying22 bool_info .i64 .i64 n hn (by omega) W
  simp only [Nat.mul_one] at hmk
  generalize hz : zeros (.bool false) n = z at hmk
  have hzs : z.size = n := by rw [← hz]; exact zeros_size _ _
  have HZ := Lib.hid hzs
  clear hz hzs
  go_enter Try.func59, Try.ntmps59
  go_wp2_with fail
  clear hmk
  have HB := Lib.hid (Blk.new w 4 z)
  go_loopw [4] (fun i wr => ∃ k cs, k ≤ n ∧ i = .int .i64 (k : Nat) ∧ Blk wr w.heap.size 4 cs ∧ Hid (cs.size = n) ∧ RowB cs k f ∧ Below w.heap.size w wr)
    (fun i _ => n - (intOf i).toNat)
  case atStart => exact ⟨0, z, Nat.zero_le _, rfl, HB.out, HZ, fun _ h => absurd h (by omega), below_alloc (Below.refl _ _) _⟩
  case round =>
    obtain ⟨k, cs, hk, rfl, hblk, hcs, hrow, hb⟩ := hrel
    have HR := Lib.hid hrow
    have HBk := Lib.hid hblk
    have HBl := Lib.hid hb
    have hsz := hb.size
    clear hrow
    by_cases hlt : k < n
    · obtain ⟨b, off, rfl, hbl, c0⟩ := hL k hlt
      obtain ⟨hc, hf⟩ := bcell hb
      obtain ⟨x0, e0⟩ : ∃ x, wr.cell? ⟨w.heap.size, k, none⟩ = some x := ⟨_, (hblk.cell _).trans (Array.getElem?_eq_getElem (by have := hcs.out; omega))⟩
      have hfz : ∀ o, wr.frozen? ⟨w.heap.size, o, none⟩ = false := fun o => hblk.frozen o
      have hlt2 : w.heap.size < wr.heap.size := hblk.lt
      clear hblk hb
      go_wp2_with fail
      go_roundw
      case rel =>
        have S := HR.out.step (n := n) (x := f k) rfl hlt hcs.out
        exact ⟨k + 1, _, by omega, by go_num, HBk.out.set_ _ _, S.2, S.1, by have := HBl.out; exact (by repeat (first | with_reducible exact Below.refl _ _ | with_reducible assumption | with_reducible refine below_alloc ?_ _ | with_reducible refine below_more ?_ _ | (with_reducible refine below_set ?_ ?_ _; rotate_left; focus (first | with_reducible exact Nat.le_refl _ | with_reducible assumption | (simp; done) | (simp; omega) | omega))))⟩
      case measure => simp [intOf]; omega
    · obtain rfl : k = n := by omega
      clear hb hblk
      go_wp2_with fail
      go_ret
      exact ⟨_, cs, rfl, Nat.le_refl _, HBk.out, hcs.out, HR.out, HBl.out⟩
/-- What the laws' marks write into a slice of bools. -/
def markB (j : Int) (i : Nat) : Bool := (j + i) % 3 == 0
set_option maxHeartbeats 400000 in
/-- heldBoolS finds j, j + 1, .. -/
theorem heldBoolS_any (A : Option Addr) (n c : Nat) (j : Int) (w : World) (hn : n ≤ 1048576) (h0 : 0 ≤ j) (h1 : j ≤ 1099511627776) (hA : RdB w A n (markB j)) :
    Calls Try.prog 77 #[.slice A n c, .int .i64 j] w (Post (.int .i64 (j + n)) w) := by
  go_enter Try.func77, Try.ntmps77
  go_wp2_with fail
  go_loopw [1, 5] (fun x i wr => ∃ k : Nat, k ≤ n ∧ i = .int .i64 k ∧ x = .int .i64 (j + k) ∧ Below w.heap.size w wr) (fun _ i _ => n - (intOf i).toNat)
  case atStart => exact ⟨0, Nat.zero_le _, rfl, by simp, Below.refl _ _⟩
  case round =>
    obtain ⟨k, hk, rfl, rfl, hb⟩ := hrel
    have hsz := hb.size
    by_cases hlt : k < n
    · obtain ⟨b, off, rfl, hbl, c0⟩ := hA k hlt
      obtain ⟨hc, hf⟩ := bcell hb
      replace c0 : w.cell? ⟨b, off + k, none⟩ = some (.bool ((j + (k : Int)) % 3 == 0)) := c0
      have h1 : b < wr.heap.size := by omega
      go_wp2_with fail
      go_roundw
      case rel => exact ⟨k + 1, by omega, by go_num, by go_num, (by repeat (first | with_reducible exact Below.refl _ _ | with_reducible assumption | with_reducible refine below_alloc ?_ _ | with_reducible refine below_more ?_ _ | (with_reducible refine below_set ?_ ?_ _; rotate_left; focus (first | with_reducible exact Nat.le_refl _ | with_reducible assumption | (simp; done) | (simp; omega) | omega))))⟩
      case measure => simp [intOf]; omega
    · obtain rfl : k = n := by omega
      go_wp2_with fail
      go_ret
      exact ⟨rfl, hb⟩
/-- From block B on: the slice at A owns its n ints. -/
def OwnB (w : World) (B : Nat) (A : Option Addr) (n : Nat) (f : Nat → Bool) : Prop := 0 < n → ∃ g cs, A = some ⟨g, 0, none⟩ ∧ B ≤ g ∧ Blk w g 4 cs ∧ n ≤ cs.size ∧ RowB cs n f
section
variable {w w' w0 : World} {B : Nat} {A : Option Addr} {n : Nat} {f : Nat → Bool}
theorem OwnB.nil : OwnB w B A 0 f := fun h => absurd h (by omega)
theorem OwnB.rd (h : OwnB w B A n f) : RdB w A n f := fun i hi => by
  obtain ⟨g, cs, rfl, _, hb, hs, hr⟩ := h (by omega)
  exact ⟨g, 0, rfl, hb.lt, by rw [hb.cell]; simpa using hr i hi⟩
theorem OwnB.below (h : OwnB w B A n f) (hb : Below w.heap.size w w') : OwnB w' B A n f := fun h0 => by
  obtain ⟨g, cs, e, h1, h2, h3⟩ := h h0
  exact ⟨g, cs, e, h1, h2.below hb, h3⟩
theorem OwnB.mono (h : OwnB w B A n f) {B' : Nat} (hB : B' ≤ B) : OwnB w B' A n f := fun h0 => by
  obtain ⟨g, cs, e, h1, h2, h3⟩ := h h0
  exact ⟨g, cs, e, by omega, h2, h3⟩
theorem OwnB.grown (h : OwnB w B A n f) {r : Option Nat} (hg : w.grownBy w' r) (hr : ∀ k, r = some k → k < B) : OwnB w' B A n f := fun h0 => by
  obtain ⟨g, cs, e, h1, h2, h3⟩ := h h0
  exact ⟨g, cs, e, h1, h2.grown hg (fun x => by have := hr g x.symm; omega), h3⟩
theorem OwnB.row_ge (h : OwnB w B A n f) : ∀ k, rowOf A n = some k → B ≤ k := fun k hk => by
  unfold rowOf at hk
  split at hk
  · cases hk
  · obtain ⟨g, cs, rfl, h1, _⟩ := h (by omega)
    simp at hk
    omega
theorem OwnB.of_blk {g : Nat} {cs : Array Value} (hb : Blk w g 4 cs) (hs : n ≤ cs.size) (hr : RowB cs n f) (hB : B ≤ g) : OwnB w B (some ⟨g, 0, none⟩) n f := fun _ => ⟨g, cs, rfl, hB, hb, hs, hr⟩
/-- What was there before a block that is written to, reads as it did. -/
theorem RdB.kept (h : RdB w A n f) (hold : RdB w0 A n f) {r : Option Nat} (hg : w.grownBy w' r) (hr : ∀ k, r = some k → w0.heap.size ≤ k) : RdB w' A n f := fun i hi => by
  obtain ⟨b, off, e, hlt, hc⟩ := h i hi
  obtain ⟨b', off', e', hlt', _⟩ := hold i hi
  rw [e] at e'
  cases e'
  refine ⟨b, off, e, Nat.lt_of_lt_of_le hlt hg.size, (World.cell?_of_block (a := ⟨b, off + i, none⟩) (hg.block b hlt (fun x => ?_))).trans hc⟩
  have := hr b x.symm
  omega
end
theorem markBoolS_own (A : Option Addr) (n c B : Nat) (j : Int) (f : Nat → Bool) (w : World) (hn : n ≤ 1048576) (h0 : 0 ≤ j) (h1 : j ≤ 1099511627776) (h : OwnB w B A n f) :
    Calls Try.prog 70 #[.slice A n c, .int .i64 j] w fun e w' => e = .returned (.int .i64 (j + n)) ∧ w.grownBy w' (rowOf A n) ∧ OwnB w' B A n (markB j) := by
  rcases Nat.eq_zero_or_pos n with rfl | hp
  · go_enter Try.func70, Try.ntmps70
    go_wp2_with fail
    go_loopw [1, 5] (fun x i wr => x = .int .i64 j ∧ i = .int .i64 0 ∧ w = wr) (fun _ i _ => 0)
    case atStart => exact ⟨rfl, rfl, rfl⟩
    case round =>
      obtain ⟨rfl, rfl, rfl⟩ := hrel
      go_wp2_with fail
      go_ret
      exact ⟨by show Ending.returned (Value.int _ _) = Ending.returned (Value.int _ _); congr 2; omega, grownBy_refl _ _, OwnB.nil⟩
  · obtain ⟨g, cs, rfl, hB, hb, hs, _⟩ := h hp
    have HB := Lib.hid hb
    have HS := Lib.hid hs
    clear hb hs h
    go_enter Try.func70, Try.ntmps70
    go_wp2_with fail
    go_loopw [1, 5] (fun x i wr => ∃ k cs, k ≤ n ∧ i = .int .i64 (k : Nat) ∧ x = .int .i64 (j + k) ∧ Blk wr g 4 cs ∧ Hid (n ≤ cs.size) ∧ RowB cs k (markB j) ∧ w.grownBy wr (some g))
      (fun _ i _ => n - (intOf i).toNat)
    case atStart => exact ⟨0, cs, Nat.zero_le _, rfl, by simp, HB.out, HS, fun _ h => absurd h (by omega), grownBy_refl _ _⟩
    case round =>
      obtain ⟨k, cs, hk, rfl, rfl, hblk, hcs, hrow, hb⟩ := hrel
      have HR := Lib.hid hrow
      have HBk := Lib.hid hblk
      have HBl := Lib.hid hb
      clear hrow
      by_cases hlt : k < n
      · obtain ⟨x0, e0⟩ : ∃ x, wr.cell? ⟨g, k, none⟩ = some x := ⟨_, (hblk.cell _).trans (Array.getElem?_eq_getElem (by have := hcs.out; omega))⟩
        have hfz : ∀ o, wr.frozen? ⟨g, o, none⟩ = false := fun o => hblk.frozen o
        clear hblk hb
        go_wp2_with fail
        go_roundw
        case rel => exact ⟨k + 1, _, by omega, by go_num, by go_num, HBk.out.set_ _ _, Lib.hid (by have := hcs.out; simp; omega), HR.out.step' (x := markB j k) rfl (by have := hcs.out; omega), grownBy_set HBl.out rfl _⟩
        case measure => simp [intOf]; omega
      · obtain rfl : k = n := by omega
        clear hb hblk
        go_wp2_with fail
        go_ret
        refine ⟨rfl, ?_, fun _ => ⟨g, cs, rfl, hB, HBk.out, hcs.out, HR.out⟩⟩
        rw [show rowOf (some ⟨g, 0, none⟩) k = some g from by unfold rowOf; rw [if_neg (by omega)]; rfl]
        exact HBl.out
end Go.Proofs.Ytbbafdcmgobkeaa
