/-
  The laws' own helpers on slices of integers: size, copy, equality, marks.
  Conditions: none beyond each statement's own premises.
-/
import Derived.Test.YtbbafdcmgobkeaaRow
import Derived.Test.YtbbafdcmgobkeaaPush
namespace Go.Proofs.Ytbbafdcmgobkeaa
set_option linter.unusedSimpArgs false
set_option linter.unusedVariables false
open Go.RowKit
theorem int_info : (Try.prog.info? 3).map (fun i => (i.zero, i.size, i.bytes)) = some (some (.int .i64 0), 1, 8) := by kernel_rfl

set_option maxHeartbeats 400000 in
theorem eqIntS_same (A B : Option Addr) (n c d : Nat) (f : Nat → Int) (w : World) (hn : n ≤ 1048576) (hA : RdI w A n f) (hB : RdI w B n f) :
    Calls Try.prog 26 #[.slice A n c, .slice B n d] w (Post (.bool true) w) := by
  go_enter Try.func26, Try.ntmps26
  go_wp2_with fail
  go_loopw [5] (fun i wr => ∃ k : Nat, k ≤ n ∧ i = .int .i64 k ∧ Below w.heap.size w wr) (fun i _ => n - (intOf i).toNat)
  case atStart => exact ⟨0, Nat.zero_le _, rfl, Below.refl _ _⟩
  case round =>
    obtain ⟨k, hk, rfl, hb⟩ := hrel
    have hsz := hb.size
    by_cases hlt : k < n
    · obtain ⟨b, off, rfl, hbl, c0⟩ := hA k hlt
      obtain ⟨b', off', rfl, hbl', d0⟩ := hB k hlt
      obtain ⟨hc, hf⟩ := bcell hb
      have h1 : b < wr.heap.size := by omega
      have h2 : b' < wr.heap.size := by omega
      go_wp2_with fail
      (refine wp_region_more (by kernel_rfl) (by kernel_rfl) ?_
       repeat (any_goals (first | go_big_quiet_step ((fail)) | quiet_step ((fail)) | (refine wpQuiet_step (fun K hK => ?_); go_simp; split <;> (refine hK _ ?_; clear hK K))))
       all_goals (refine wpQuiet_nil ?_; intro _ hw'; obtain ⟨nq, hw''⟩ := hw'; subst hw''))
      go_wp2_with fail
      go_roundw
      case rel => exact ⟨k + 1, by omega, by go_num, (by repeat (first | with_reducible exact Below.refl _ _ | with_reducible assumption | with_reducible refine below_alloc ?_ _ | with_reducible refine below_more ?_ _ | (with_reducible refine below_set ?_ ?_ _; rotate_left; focus (first | with_reducible exact Nat.le_refl _ | with_reducible assumption | (simp; done) | (simp; omega) | omega))))⟩
      case measure => simp [intOf]; omega
    · go_wp2_with fail
      go_ret
      exact ⟨rfl, hb⟩
theorem szIntS_ok (A : Option Addr) (n c : Nat) (left : Int) (w : World) (h0 : (n : Int) ≤ left) (h1 : left ≤ 1048576) :
    Calls Try.prog 57 #[.slice A n c, .int .i64 left] w fun e w' => e = .returned (.int .i64 (left - n)) ∧ w = w' := by
  go_enter Try.func57, Try.ntmps57
  go_wp2
  go_ret
  exact ⟨rfl, rfl⟩
theorem szIntS_no (A : Option Addr) (n c : Nat) (left : Int) (w : World) (hn : n ≤ 9223372036854775807) (h0 : 0 ≤ left) (h1 : left < n) :
    Calls Try.prog 57 #[.slice A n c, .int .i64 left] w fun e w' => e = .returned (.int .i64 (-1)) ∧ w = w' := by
  go_enter Try.func57, Try.ntmps57
  go_wp2
  go_ret
  exact ⟨rfl, rfl⟩
/-- The first k cells of a row. -/
def RowI (cs : Array Value) (k : Nat) (f : Nat → Int) : Prop := ∀ i, i < k → cs[i]? = some (.int .i64 (f i))
theorem RowI.rd {w : World} {g n : Nat} {t : TypeId} {cs : Array Value} {f : Nat → Int} (hb : Blk w g t cs) (h : RowI cs n f) : RdI w (some ⟨g, 0, none⟩) n f := fun i hi =>
  ⟨g, 0, rfl, hb.lt, by rw [hb.cell]; simpa using h i hi⟩
theorem RowI.step {cs : Array Value} {k n : Nat} {f : Nat → Int} {x : Int} (h : RowI cs k f) (hx : x = f k) (hk : k < n) (hs : cs.size = n) : RowI (cs.setIfInBounds k (.int .i64 x)) (k + 1) f ∧ (cs.setIfInBounds k (.int .i64 x)).size = n := by
  subst hx
  refine ⟨fun i hi => ?_, by simp [hs]⟩
  by_cases e : i = k
  · subst e
    simp [Array.getElem?_setIfInBounds]; omega
  · rw [Array.getElem?_setIfInBounds, if_neg (by omega)]
    exact h i (by omega)
theorem RowI.step' {cs : Array Value} {k : Nat} {f : Nat → Int} {x : Int} (h : RowI cs k f) (hx : x = f k) (hs : k < cs.size) : RowI (cs.setIfInBounds k (.int .i64 x)) (k + 1) f := by
  subst hx
  intro i hi
  by_cases e : i = k
  · subst e
    simp [Array.getElem?_setIfInBounds]; omega
  · rw [Array.getElem?_setIfInBounds, if_neg (by omega)]
    exact h i (by omega)
theorem zeros_row (n : Nat) : RowI (zeros (.int .i64 0) n) n (fun _ => 0) := fun i hi => by
  have h : (zeros (.int .i64 0) n).toList = List.replicate n (.int .i64 0) := toList_madeCells_one _ _
  rw [← Array.getElem?_toList, h, List.getElem?_replicate, if_pos hi]
set_option maxHeartbeats 800000 in
theorem toIntS_any (A : Option Addr) (n c : Nat) (f : Nat → Int) (w : World) (hn : n ≤ 1048576) (hL : RdI w A n f) :
    Calls Try.prog 60 #[.slice A n c] w fun e w' => ∃ g cs, e = .returned (.slice (some ⟨g, 0, none⟩) n n) ∧ w.heap.size ≤ g ∧ Blk w' g 3 cs ∧ cs.size = n ∧ RowI cs n f ∧ Below w.heap.size w w' := by
  have hmk := fun W => run_make_z (P := Try.prog) 23 3 _ _ _ Try.underlying23 int_info .i64 .i64 n hn (by omega) W
  simp only [Nat.mul_one] at hmk
  generalize hz : zeros (.int .i64 0) n = z at hmk
  have hzs : z.size = n := by rw [← hz]; exact zeros_size _ _
  have HZ := Lib.hid hzs
  clear hz hzs
  go_enter Try.func60, Try.ntmps60
  go_wp2_with fail
  clear hmk
  have HB := Lib.hid (Blk.new w 3 z)
  go_loopw [4] (fun i wr => ∃ k cs, k ≤ n ∧ i = .int .i64 (k : Nat) ∧ Blk wr w.heap.size 3 cs ∧ Hid (cs.size = n) ∧ RowI cs k f ∧ Below w.heap.size w wr)
    (fun i _ => n - (intOf i).toNat)
  case atStart => exact ⟨0, z, Nat.zero_le _, rfl, HB.out, HZ, fun _ h => absurd h (by omega), below_alloc (Below.refl _ _) _⟩
  case round =>
    obtain ⟨k, cs, hk, rfl, hblk, hcs, hrow, hb⟩ := hrel
    have HR := Lib.hid hrow
    have HBk := Lib.hid hblk
    have HBl := Lib.hid hb
    have hsz := hb.size
    clear hrow
    by_cases hlt : k < n
    · obtain ⟨b, off, rfl, hbl, c0⟩ := hL k hlt
      obtain ⟨hc, hf⟩ := bcell hb
      obtain ⟨x0, e0⟩ : ∃ x, wr.cell? ⟨w.heap.size, k, none⟩ = some x := ⟨_, (hblk.cell _).trans (Array.getElem?_eq_getElem (by have := hcs.out; omega))⟩
      have hfz : ∀ o, wr.frozen? ⟨w.heap.size, o, none⟩ = false := fun o => hblk.frozen o
      have hlt2 : w.heap.size < wr.heap.size := hblk.lt
      clear hblk hb
      go_wp2_with fail
      go_roundw
      case rel =>
        have S := HR.out.step (n := n) (x := f k) rfl hlt hcs.out
        exact ⟨k + 1, _, by omega, by go_num, HBk.out.set_ _ _, S.2, S.1, by have := HBl.out; exact (by repeat (first | with_reducible exact Below.refl _ _ | with_reducible assumption | with_reducible refine below_alloc ?_ _ | with_reducible refine below_more ?_ _ | (with_reducible refine below_set ?_ ?_ _; rotate_left; focus (first | with_reducible exact Nat.le_refl _ | with_reducible assumption | (simp; done) | (simp; omega) | omega))))⟩
      case measure => simp [intOf]; omega
    · obtain rfl : k = n := by omega
      clear hb hblk
      go_wp2_with fail
      go_ret
      exact ⟨_, cs, rfl, Nat.le_refl _, HBk.out, hcs.out, HR.out, HBl.out⟩
set_option maxHeartbeats 400000 in
/-- heldIntS finds j, j + 1, .. -/
theorem heldIntS_any (A : Option Addr) (n c : Nat) (j : Int) (w : World) (hn : n ≤ 1048576) (h0 : 0 ≤ j) (h1 : j ≤ 1099511627776) (hA : RdI w A n (fun i => j + i)) :
    Calls Try.prog 29 #[.slice A n c, .int .i64 j] w (Post (.int .i64 (j + n)) w) := by
  go_enter Try.func29, Try.ntmps29
  go_wp2_with fail
  go_loopw [1, 5] (fun x i wr => ∃ k : Nat, k ≤ n ∧ i = .int .i64 k ∧ x = .int .i64 (j + k) ∧ Below w.heap.size w wr) (fun _ i _ => n - (intOf i).toNat)
  case atStart => exact ⟨0, Nat.zero_le _, rfl, by simp, Below.refl _ _⟩
  case round =>
    obtain ⟨k, hk, rfl, rfl, hb⟩ := hrel
    have hsz := hb.size
    by_cases hlt : k < n
    · obtain ⟨b, off, rfl, hbl, c0⟩ := hA k hlt
      obtain ⟨hc, hf⟩ := bcell hb
      have h1 : b < wr.heap.size := by omega
      go_wp2_with fail
      go_roundw
      case rel => exact ⟨k + 1, by omega, by go_num, by go_num, (by repeat (first | with_reducible exact Below.refl _ _ | with_reducible assumption | with_reducible refine below_alloc ?_ _ | with_reducible refine below_more ?_ _ | (with_reducible refine below_set ?_ ?_ _; rotate_left; focus (first | with_reducible exact Nat.le_refl _ | with_reducible assumption | (simp; done) | (simp; omega) | omega))))⟩
      case measure => simp [intOf]; omega
    · obtain rfl : k = n := by omega
      go_wp2_with fail
      go_ret
      exact ⟨rfl, hb⟩
end Go.Proofs.Ytbbafdcmgobkeaa
