/-
  The record of one lockage, as a Lean structure, and the contracts of the laws' own helpers on it.
  Conditions: none beyond each statement's own premises.
-/
import Derived.Test.YtpjgjfdbffideaaRow
namespace Go.Proofs.Ytpjgjfdbffideaa
set_option linter.unusedSimpArgs false
set_option linter.unusedVariables false
open Go.RowKit
structure Lk where
  lock : Int
  minute : Int
  vessels : Int
  cells : Int
  waiting : Int
/-- A slice with address A whose n elements are L 0, L 1, .. -/
def RdLk (w : World) (A : Option Addr) (n : Nat) (L : Nat → Lk) : Prop := ∀ i, i < n → ∃ b off, A = some ⟨b, off, none⟩ ∧ b < w.heap.size ∧
  w.cell? ⟨b, off + i * 5, none⟩ = some (.int .i64 (L i).lock) ∧ w.cell? ⟨b, off + i * 5 + 1, none⟩ = some (.int .i64 (L i).minute) ∧ w.cell? ⟨b, off + i * 5 + 2, none⟩ = some (.int .i64 (L i).vessels) ∧ w.cell? ⟨b, off + i * 5 + 3, none⟩ = some (.int .i64 (L i).cells) ∧ w.cell? ⟨b, off + i * 5 + 4, none⟩ = some (.int .i64 (L i).waiting)
theorem RdLk.below {w w' : World} {A : Option Addr} {n : Nat} {L : Nat → Lk} (h : RdLk w A n L) (hb : Below w.heap.size w w') : RdLk w' A n L := fun i hi => by
  obtain ⟨b, off, e, hlt, c0, c1, c2, c3, c4⟩ := h i hi
  exact ⟨b, off, e, Nat.lt_of_lt_of_le hlt hb.size, (hb.cell (p := ⟨b, _, none⟩) hlt).trans c0, (hb.cell (p := ⟨b, _, none⟩) hlt).trans c1, (hb.cell (p := ⟨b, _, none⟩) hlt).trans c2, (hb.cell (p := ⟨b, _, none⟩) hlt).trans c3, (hb.cell (p := ⟨b, _, none⟩) hlt).trans c4⟩
theorem RdLk.alloc {w : World} {A : Option Addr} {n : Nat} {L : Nat → Lk} (h : RdLk w A n L) (o : Obj) : RdLk (w.alloc o) A n L := h.below (below_alloc (Below.refl _ _) o)
theorem RdLk.mw {w : World} {A : Option Addr} {n : Nat} {L : Nat → Lk} (h : RdLk w A n L) (m : More) : RdLk (mw w m) A n L := h.below (below_mw w m)
theorem RdLk.nil (w : World) (A : Option Addr) (L : Nat → Lk) : RdLk w A 0 L := fun _ h => absurd h (by omega)
theorem RdLk.grown {w w' : World} {A : Option Addr} {n g : Nat} {L : Nat → Lk} (h : RdLk w A n L) (hb : w.grownBy w' (some g)) (hne : ∀ b off, A = some ⟨b, off, none⟩ → b ≠ g) : RdLk w' A n L := fun i hi => by
  obtain ⟨b, off, e, hlt, c0, c1, c2, c3, c4⟩ := h i hi
  have hk : ∀ o, w'.cell? ⟨b, o, none⟩ = w.cell? ⟨b, o, none⟩ := fun o => World.cell?_of_block (a := ⟨b, o, none⟩) (hb.block b hlt (fun x => hne b off e (by injection x)))
  exact ⟨b, off, e, Nat.lt_of_lt_of_le hlt hb.size, (hk _).trans c0, (hk _).trans c1, (hk _).trans c2, (hk _).trans c3, (hk _).trans c4⟩
theorem RdLk.kept {w w' w0 : World} {A : Option Addr} {n : Nat} {L : Nat → Lk} (h : RdLk w A n L) (hold : RdLk w0 A n L) {r : Option Nat} (hb : w.grownBy w' r) (hr : ∀ k, r = some k → w0.heap.size ≤ k) : RdLk w' A n L := fun i hi => by
  obtain ⟨b, off, e, hlt, c0, c1, c2, c3, c4⟩ := h i hi
  obtain ⟨b', off', e', hlt', _⟩ := hold i hi
  rw [e] at e'
  cases e'
  have hk : ∀ o, w'.cell? ⟨b, o, none⟩ = w.cell? ⟨b, o, none⟩ := fun o => World.cell?_of_block (a := ⟨b, o, none⟩) (hb.block b hlt (fun x => by have := hr b x.symm; omega))
  exact ⟨b, off, e, Nat.lt_of_lt_of_le hlt hb.size, (hk _).trans c0, (hk _).trans c1, (hk _).trans c2, (hk _).trans c3, (hk _).trans c4⟩
/-- The cells of k elements stand at the head of the row. -/
def RowLk (cs : Array Value) (k : Nat) (L : Nat → Lk) : Prop := ∀ i, i < k → cs[i * 5]? = some (.int .i64 (L i).lock) ∧ cs[i * 5 + 1]? = some (.int .i64 (L i).minute) ∧ cs[i * 5 + 2]? = some (.int .i64 (L i).vessels) ∧ cs[i * 5 + 3]? = some (.int .i64 (L i).cells) ∧ cs[i * 5 + 4]? = some (.int .i64 (L i).waiting)
theorem RowLk.rd {w : World} {g n : Nat} {t : TypeId} {cs : Array Value} {L : Nat → Lk} (hb : Blk w g t cs) (h : RowLk cs n L) : RdLk w (some ⟨g, 0, none⟩) n L := fun i hi => by
  obtain ⟨c0, c1, c2, c3, c4⟩ := h i hi
  exact ⟨g, 0, rfl, hb.lt, by rw [hb.cell]; simpa using c0, by rw [hb.cell]; simpa using c1, by rw [hb.cell]; simpa using c2, by rw [hb.cell]; simpa using c3, by rw [hb.cell]; simpa using c4⟩
theorem RowLk.step {cs : Array Value} {k n : Nat} {L : Nat → Lk} {x : Lk} (h : RowLk cs k L) (hx : x = L k) (hk : k < n) (hs : cs.size = n * 5) : RowLk (((((cs.setIfInBounds (k * 5) (.int .i64 x.lock)).setIfInBounds (k * 5 + 1) (.int .i64 x.minute)).setIfInBounds (k * 5 + 2) (.int .i64 x.vessels)).setIfInBounds (k * 5 + 3) (.int .i64 x.cells)).setIfInBounds (k * 5 + 4) (.int .i64 x.waiting)) (k + 1) L ∧ (((((cs.setIfInBounds (k * 5) (.int .i64 x.lock)).setIfInBounds (k * 5 + 1) (.int .i64 x.minute)).setIfInBounds (k * 5 + 2) (.int .i64 x.vessels)).setIfInBounds (k * 5 + 3) (.int .i64 x.cells)).setIfInBounds (k * 5 + 4) (.int .i64 x.waiting)).size = n * 5 := by
  subst hx
  refine ⟨fun i hi => ?_, by simp [hs]⟩
  by_cases e : i = k
  · subst e
    refine ⟨?_, ?_, ?_, ?_, ?_⟩ <;> simp [Array.getElem?_setIfInBounds] <;> omega
  · have hlt : i < k := by omega
    obtain ⟨c0, c1, c2, c3, c4⟩ := h i hlt
    refine ⟨?_, ?_, ?_, ?_, ?_⟩ <;> simp only [Array.getElem?_setIfInBounds] <;> (repeat rw [if_neg (by omega)]) <;> assumption
theorem toLockage_any (l : Lk) (w : World) : Calls Try.prog 14 #[.agg #[.int .i64 l.lock, .int .i64 l.minute, .int .i64 l.vessels, .int .i64 l.cells, .int .i64 l.waiting]] w (Post (.agg #[.int .i64 l.lock, .int .i64 l.minute, .int .i64 l.vessels, .int .i64 l.cells, .int .i64 l.waiting]) w) := by
  go_enter Try.func14, Try.ntmps14
  go_wp2
  exact bodyPost_ret (v := .agg #[.int .i64 l.lock, .int .i64 l.minute, .int .i64 l.vessels, .int .i64 l.cells, .int .i64 l.waiting]) (by simp [results, Try.results14, go_sem]) rfl ⟨rfl, (by repeat (first | with_reducible exact Below.refl _ _ | with_reducible assumption | with_reducible refine below_alloc ?_ _ | with_reducible refine below_more ?_ _ | (with_reducible refine below_set ?_ ?_ _; rotate_left; first | with_reducible exact Nat.le_refl _ | with_reducible assumption | (simp; done) | omega)))⟩
theorem Lk_info : (Try.prog.info? 25).map (fun i => (i.zero, i.size, i.bytes)) = some (some (.agg #[.int .i64 0, .int .i64 0, .int .i64 0, .int .i64 0, .int .i64 0]), 5, 40) := by kernel_rfl
set_option maxHeartbeats 800000 in
theorem toLockageS_any (A : Option Addr) (n c : Nat) (L : Nat → Lk) (w : World) (hn : n ≤ 1048576) (hL : RdLk w A n L) :
    Calls Try.prog 18 #[.slice A n c] w fun e w' => ∃ g cs, e = .returned (.slice (some ⟨g, 0, none⟩) n n) ∧ w.heap.size ≤ g ∧ Blk w' g 25 cs ∧ cs.size = n * 5 ∧ RowLk cs n L ∧ Below w.heap.size w w' := by
  have hmk := fun W => run_make_z (P := Try.prog) 31 25 _ _ _ Try.underlying31 Lk_info .i64 .i64 n hn (by omega) W
  generalize hz : zeros (.agg #[.int .i64 0, .int .i64 0, .int .i64 0, .int .i64 0, .int .i64 0]) (n * 5) = z at hmk
  have hzs : z.size = n * 5 := by rw [← hz]; exact zeros_size _ _
  have HZ := Lib.hid hzs
  clear hz hzs
  go_enter Try.func18, Try.ntmps18
  go_wp2_with fail
  clear hmk
  have hst : Blk (w.alloc (.cells z 25)) w.heap.size 25 z := Blk.new _ _ _
  have HB := Lib.hid hst
  clear hst
  go_loopw [4] (fun i wr => ∃ k cs, k ≤ n ∧ i = .int .i64 (k : Nat) ∧ Blk wr w.heap.size 25 cs ∧ cs.size = n * 5 ∧ RowLk cs k L ∧ Below w.heap.size w wr)
    (fun i _ => n - (intOf i).toNat)
  case atStart => exact ⟨0, z, Nat.zero_le _, rfl, HB.out, HZ.out, fun _ h => absurd h (by omega), below_alloc (Below.refl _ _) _⟩
  case round =>
    obtain ⟨k, cs, hk, rfl, hblk, hcs, hrow, hb⟩ := hrel
    have HR := Lib.hid (show Blk wr w.heap.size 25 cs ∧ cs.size = n * 5 ∧ RowLk cs k L ∧ Below w.heap.size w wr from ⟨hblk, hcs, hrow, hb⟩)
    have hsz := hb.size
    clear hrow
    by_cases hlt : k < n
    · obtain ⟨b, off, rfl, hbl, c0, c1, c2, c3, c4⟩ := hL k hlt
      obtain ⟨hc, hf⟩ := bcell hb
      clear hb
      obtain ⟨x0, e0⟩ : ∃ x, wr.cell? ⟨w.heap.size, k * 5, none⟩ = some x := ⟨_, (hblk.cell _).trans (Array.getElem?_eq_getElem (by omega))⟩
      obtain ⟨x1, e1⟩ : ∃ x, wr.cell? ⟨w.heap.size, k * 5 + 1, none⟩ = some x := ⟨_, (hblk.cell _).trans (Array.getElem?_eq_getElem (by omega))⟩
      obtain ⟨x2, e2⟩ : ∃ x, wr.cell? ⟨w.heap.size, k * 5 + 2, none⟩ = some x := ⟨_, (hblk.cell _).trans (Array.getElem?_eq_getElem (by omega))⟩
      obtain ⟨x3, e3⟩ : ∃ x, wr.cell? ⟨w.heap.size, k * 5 + 3, none⟩ = some x := ⟨_, (hblk.cell _).trans (Array.getElem?_eq_getElem (by omega))⟩
      obtain ⟨x4, e4⟩ : ∃ x, wr.cell? ⟨w.heap.size, k * 5 + 4, none⟩ = some x := ⟨_, (hblk.cell _).trans (Array.getElem?_eq_getElem (by omega))⟩
      have hfz : ∀ o, wr.frozen? ⟨w.heap.size, o, none⟩ = false := fun o => hblk.frozen o
      have hlt2 : w.heap.size < wr.heap.size := hblk.lt
      clear hblk hcs
      go_wp2_with ((go_at_call 14; refine (toLockage_any (L k) _).mono ?_; intro e w' hp; obtain ⟨rfl, m, rfl⟩ := hp.get; clear hp))
      go_roundw
      case rel =>
        obtain ⟨g1, g2, g3, g4⟩ := HR.out
        have S := g3.step (n := n) (x := L k) rfl hlt g2
        exact ⟨k + 1, _, by omega, by go_num, ((((((g1.mw m).set_ _ _).set_ _ _).set_ _ _).set_ _ _).set_ _ _), S.2, S.1, (by repeat (first | with_reducible exact Below.refl _ _ | with_reducible assumption | with_reducible refine below_alloc ?_ _ | with_reducible refine below_more ?_ _ | (with_reducible refine below_set ?_ ?_ _; rotate_left; first | with_reducible exact Nat.le_refl _ | with_reducible assumption | (simp; done) | omega)))⟩
      case measure => simp [intOf]; omega
    · obtain rfl : k = n := by omega
      clear hb hblk hcs
      go_wp2_with fail
      go_ret
      obtain ⟨g1, g2, g3, g4⟩ := HR.out
      exact ⟨_, cs, rfl, Nat.le_refl _, g1, g2, g3, g4⟩
theorem eqLockage_same (l : Lk) (w : World) : Calls Try.prog 49 #[.agg #[.int .i64 l.lock, .int .i64 l.minute, .int .i64 l.vessels, .int .i64 l.cells, .int .i64 l.waiting], .agg #[.int .i64 l.lock, .int .i64 l.minute, .int .i64 l.vessels, .int .i64 l.cells, .int .i64 l.waiting]] w (Post (.bool true) w) := by
  go_enter Try.func49, Try.ntmps49
  go_wp2
  go_ret
  exact ⟨rfl, (by repeat (first | with_reducible exact Below.refl _ _ | with_reducible assumption | with_reducible refine below_alloc ?_ _ | with_reducible refine below_more ?_ _ | (with_reducible refine below_set ?_ ?_ _; rotate_left; first | with_reducible exact Nat.le_refl _ | with_reducible assumption | (simp; done) | omega)))⟩
set_option maxHeartbeats 400000 in
theorem eqLockageS_same (A B : Option Addr) (n c d : Nat) (L : Nat → Lk) (w : World) (hn : n ≤ 1048576) (hA : RdLk w A n L) (hB : RdLk w B n L) :
    Calls Try.prog 20 #[.slice A n c, .slice B n d] w (Post (.bool true) w) := by
  go_enter Try.func20, Try.ntmps20
  go_wp2_with fail
  go_loopw [5] (fun i wr => ∃ k : Nat, k ≤ n ∧ i = .int .i64 k ∧ Below w.heap.size w wr) (fun i _ => n - (intOf i).toNat)
  case atStart => exact ⟨0, Nat.zero_le _, rfl, Below.refl _ _⟩
  case round =>
    obtain ⟨k, hk, rfl, hb⟩ := hrel
    have hsz := hb.size
    by_cases hlt : k < n
    · obtain ⟨b, off, rfl, hbl, c0, c1, c2, c3, c4⟩ := hA k hlt
      obtain ⟨b', off', rfl, hbl', d0, d1, d2, d3, d4⟩ := hB k hlt
      obtain ⟨hc, hf⟩ := bcell hb
      have h1 : b < wr.heap.size := by omega
      have h2 : b' < wr.heap.size := by omega
      go_wp2_with fail
      (refine wp_region_more (by kernel_rfl) (by kernel_rfl) ?_
       repeat (any_goals (first | go_big_quiet_step (((go_at_call 49; exact q_post (eqLockage_same (L k) _)))) | quiet_step (((go_at_call 49; exact q_post (eqLockage_same (L k) _)))) | (refine wpQuiet_step (fun K hK => ?_); go_simp; split <;> (refine hK _ ?_; clear hK K))))
       all_goals (refine wpQuiet_nil ?_; intro _ hw'; obtain ⟨nq, hw''⟩ := hw'; subst hw''))
      go_wp2_with fail
      go_roundw
      case rel => exact ⟨k + 1, by omega, by go_num, (by repeat (first | with_reducible exact Below.refl _ _ | with_reducible assumption | with_reducible refine below_alloc ?_ _ | with_reducible refine below_more ?_ _ | (with_reducible refine below_set ?_ ?_ _; rotate_left; first | with_reducible exact Nat.le_refl _ | with_reducible assumption | (simp; done) | omega)))⟩
      case measure => simp [intOf]; omega
    · go_wp2_with fail
      go_ret
      exact ⟨rfl, hb⟩
theorem szLockageS_ok (A : Option Addr) (n c : Nat) (left : Int) (w : World) (h0 : (n : Int) ≤ left) (h1 : left ≤ 1048576) :
    Calls Try.prog 16 #[.slice A n c, .int .i64 left] w fun e w' => e = .returned (.int .i64 (left - n)) ∧ w = w' := by
  go_enter Try.func16, Try.ntmps16
  go_wp2
  go_ret
  exact ⟨rfl, rfl⟩
theorem szLockageS_no (A : Option Addr) (n c : Nat) (left : Int) (w : World) (hn : n ≤ 9223372036854775807) (h0 : 0 ≤ left) (h1 : left < n) :
    Calls Try.prog 16 #[.slice A n c, .int .i64 left] w fun e w' => e = .returned (.int .i64 (-1)) ∧ w = w' := by
  go_enter Try.func16, Try.ntmps16
  go_wp2
  go_ret
  exact ⟨rfl, rfl⟩
set_option maxHeartbeats 1600000 in
theorem markLockageS_any (g n c : Nat) (j : Int) (cs : Array Value) (w : World) (hn : n ≤ 1048576) (h0 : 0 ≤ j) (h1 : j ≤ 1099511627776) (hB : Blk w g 25 cs) (hs : n * 5 ≤ cs.size) :
    Calls Try.prog 32 #[.slice (some ⟨g, 0, none⟩) n c, .int .i64 j] w fun e w' => e = .returned (.int .i64 (j + 5 * n)) ∧ w.grownBy w' (some g) := by
  have HB := Lib.hid hB
  have HS := Lib.hid hs
  clear hB hs
  go_enter Try.func32, Try.ntmps32
  go_wp2_with fail
  go_loopw [1, 5] (fun x i wr => ∃ k cs, k ≤ n ∧ i = .int .i64 (k : Nat) ∧ x = .int .i64 (j + 5 * k) ∧ Blk wr g 25 cs ∧ Hid (n * 5 ≤ cs.size) ∧ w.grownBy wr (some g))
    (fun _ i _ => n - (intOf i).toNat)
  case atStart => exact ⟨0, cs, Nat.zero_le _, rfl, by simp, HB.out, HS, ⟨rfl, rfl, rfl, Nat.le_refl _, fun _ _ _ => rfl⟩⟩
  case round =>
    obtain ⟨k, cs, hk, rfl, rfl, hblk, hcs, hb⟩ := hrel
    have HBk := Lib.hid hblk
    have HBl := Lib.hid hb
    by_cases hlt : k < n
    · have hsz := hcs.out
      obtain ⟨x0, e0⟩ : ∃ x, wr.cell? ⟨g, k * 5, none⟩ = some x := ⟨_, (hblk.cell _).trans (Array.getElem?_eq_getElem (by omega))⟩
      obtain ⟨x1, e1⟩ : ∃ x, wr.cell? ⟨g, k * 5 + 1, none⟩ = some x := ⟨_, (hblk.cell _).trans (Array.getElem?_eq_getElem (by omega))⟩
      obtain ⟨x2, e2⟩ : ∃ x, wr.cell? ⟨g, k * 5 + 2, none⟩ = some x := ⟨_, (hblk.cell _).trans (Array.getElem?_eq_getElem (by omega))⟩
      obtain ⟨x3, e3⟩ : ∃ x, wr.cell? ⟨g, k * 5 + 3, none⟩ = some x := ⟨_, (hblk.cell _).trans (Array.getElem?_eq_getElem (by omega))⟩
      obtain ⟨x4, e4⟩ : ∃ x, wr.cell? ⟨g, k * 5 + 4, none⟩ = some x := ⟨_, (hblk.cell _).trans (Array.getElem?_eq_getElem (by omega))⟩
      have hfz : ∀ o, wr.frozen? ⟨g, o, none⟩ = false := fun o => hblk.frozen o
      clear hblk hb hsz
      go_wp2_with fail
      go_roundw
      case rel => exact ⟨k + 1, _, by omega, by go_num, by go_num, (((((HBk.out.set_ _ _).set_ _ _).set_ _ _).set_ _ _).set_ _ _), Lib.hid (by have := hcs.out; simp; omega), (grownBy_set (grownBy_set (grownBy_set (grownBy_set (grownBy_set HBl.out rfl _) rfl _) rfl _) rfl _) rfl _)⟩
      case measure => simp [intOf]; omega
    · obtain rfl : k = n := by omega
      clear hb hblk
      go_wp2_with fail
      go_ret
      exact ⟨rfl, HBl.out⟩
def Lk.wf (l : Lk) : Prop := In64 l.lock ∧ In64 l.minute ∧ In64 l.vessels ∧ In64 l.cells ∧ In64 l.waiting
theorem open_Lk {H : Type} {enc : TypeId × Value → H} {w : World} {base : Nat} {spare : Nat → Bool} {held : Bool} {fuel : Nat} {cs : List Value} {x : DataW H × List MemPlace} (h : DataW.trod enc Try.prog w base spare held fuel 23 cs = some x) :
    ∃ l : Lk, cs = [.int .i64 l.lock, .int .i64 l.minute, .int .i64 l.vessels, .int .i64 l.cells, .int .i64 l.waiting] ∧ l.wf := by
  obtain ⟨hl, n, hf⟩ := open_field Try.underlying23 h
  have hkint : Try.prog.cellsOf 3 = 1 := by kernel_rfl
  obtain ⟨y0, h0⟩ := hf 0 _ rfl
  obtain ⟨a0, e0, g0⟩ := cell_int Try.underlying3 h0
  replace e0 : (cs.drop 0).take (Try.prog.cellsOf 3) = _ := e0
  rw [hkint] at e0
  obtain ⟨y1, h1⟩ := hf 1 _ rfl
  obtain ⟨a1, e1, g1⟩ := cell_int Try.underlying3 h1
  replace e1 : (cs.drop 1).take (Try.prog.cellsOf 3) = _ := e1
  rw [hkint] at e1
  obtain ⟨y2, h2⟩ := hf 2 _ rfl
  obtain ⟨a2, e2, g2⟩ := cell_int Try.underlying3 h2
  replace e2 : (cs.drop 2).take (Try.prog.cellsOf 3) = _ := e2
  rw [hkint] at e2
  obtain ⟨y3, h3⟩ := hf 3 _ rfl
  obtain ⟨a3, e3, g3⟩ := cell_int Try.underlying3 h3
  replace e3 : (cs.drop 3).take (Try.prog.cellsOf 3) = _ := e3
  rw [hkint] at e3
  obtain ⟨y4, h4⟩ := hf 4 _ rfl
  obtain ⟨a4, e4, g4⟩ := cell_int Try.underlying3 h4
  replace e4 : (cs.drop 4).take (Try.prog.cellsOf 3) = _ := e4
  rw [hkint] at e4
  rw [show Try.prog.cellsOf 23 = 5 from by kernel_rfl] at hl
  match cs, hl, e0, e1, e2, e3, e4 with
  | [c0, c1, c2, c3, c4], _, e0, e1, e2, e3, e4 =>
    simp only [List.drop_zero, List.drop_succ_cons, List.take_succ_cons, List.take_zero, List.cons.injEq, and_true] at e0 e1 e2 e3 e4
    exact ⟨⟨a0, a1, a2, a3, a4⟩, by rw [e0, e1, e2, e3, e4], ⟨g0, g1, g2, g3, g4⟩⟩
theorem openV_Lk {H : Type} {enc : TypeId × Value → H} {w : World} {base : Nat} {spare : Nat → Bool} {held : Bool} {r : Reach} {b0 : Nat} {v : Value} {d : DataW H} {ps : List MemPlace} (hv : Value.okWide Try.prog w r b0 23 v) (h : DataW.Trod enc Try.prog w base spare held 23 v d ps) :
    ∃ l : Lk, v = .agg #[.int .i64 l.lock, .int .i64 l.minute, .int .i64 l.vessels, .int .i64 l.cells, .int .i64 l.waiting] ∧ l.wf := by
  obtain ⟨cs, fuel, rfl, hf⟩ := openV_struct Try.underlying23 hv h
  obtain ⟨l, e, hw⟩ := open_Lk hf
  exact ⟨l, congrArg Value.agg (Array.ext' e), hw⟩
theorem open_LkS {H : Type} {enc : TypeId × Value → H} {w : World} {base : Nat} {spare : Nat → Bool} {held : Bool} {fuel : Nat} {cs : List Value} {x : DataW H × List MemPlace} (h : DataW.trod enc Try.prog w base spare held fuel 28 cs = some x) :
    ∃ (A : Option Addr) (n c : Nat) (L : Nat → Lk), cs = [.slice A n c] ∧ n ≤ 9223372036854775807 ∧ RdLk w A n L ∧ ∀ i, i < n → (L i).wf := by
  obtain ⟨A, n, c, rfl, hn, fu, he⟩ := open_elems (s := 5) Try.underlying28 (by kernel_rfl) (by omega) h
  have H : ∀ i, i < n → ∃ l : Lk, (∃ b off, A = some ⟨b, off, none⟩ ∧ b < w.heap.size ∧
      w.cell? ⟨b, off + i * 5, none⟩ = some (.int .i64 l.lock) ∧ w.cell? ⟨b, off + i * 5 + 1, none⟩ = some (.int .i64 l.minute) ∧ w.cell? ⟨b, off + i * 5 + 2, none⟩ = some (.int .i64 l.vessels) ∧ w.cell? ⟨b, off + i * 5 + 3, none⟩ = some (.int .i64 l.cells) ∧ w.cell? ⟨b, off + i * 5 + 4, none⟩ = some (.int .i64 l.waiting)) ∧ l.wf := fun i hi => by
    obtain ⟨b, off, cs', y, hA, hb, hlen, hc, ht⟩ := he i hi
    obtain ⟨l, rfl, hwf⟩ := open_Lk ht
    exact ⟨l, ⟨b, off, hA, hb, hc 0 (by omega), hc 1 (by omega), hc 2 (by omega), hc 3 (by omega), hc 4 (by omega)⟩, hwf⟩
  obtain ⟨L, hL⟩ := choose_below (⟨0, 0, 0, 0, 0⟩ : Lk) H
  exact ⟨A, n, c, L, rfl, hn, fun i hi => (hL i hi).1, fun i hi => (hL i hi).2⟩
theorem openV_LkS {H : Type} {enc : TypeId × Value → H} {w : World} {base : Nat} {spare : Nat → Bool} {held : Bool} {r : Reach} {b0 : Nat} {v : Value} {d : DataW H} {ps : List MemPlace} (hv : Value.okWide Try.prog w r b0 28 v) (h : DataW.Trod enc Try.prog w base spare held 28 v d ps) :
    ∃ (A : Option Addr) (n c : Nat) (L : Nat → Lk), v = .slice A n c ∧ n ≤ 9223372036854775807 ∧ RdLk w A n L ∧ ∀ i, i < n → (L i).wf := by
  obtain ⟨A, n, c, fuel, rfl, hf⟩ := openV_slice Try.underlying28 hv h
  obtain ⟨A', n', c', L, e, hn, hr, hw⟩ := open_LkS hf
  cases e
  exact ⟨A, n, c, L, rfl, hn, hr, hw⟩
end Go.Proofs.Ytpjgjfdbffideaa
