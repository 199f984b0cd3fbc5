/-
  BordersOf, in the program and in the reference.
  Conditions: none beyond each statement's own premises.
-/
import Derived.Test.YtbbafdcmgobkeaaC2
namespace Go.Proofs.Ytbbafdcmgobkeaa
set_option linter.unusedSimpArgs false
set_option linter.unusedVariables false
open Go.RowKit
def listF (l : List Int) (i : Nat) : Int := l.getD i 0
theorem intsOf_list (l : List Int) : intsOf (listF l) l.length = l.map (fun x => Value.int .i64 x) := by
  apply List.ext_getElem
  · simp [intsOf]
  · intro i h1 h2
    have h3 : i < l.length := by simpa using h2
    simp [intsOf, listF, List.getElem?_eq_getElem h3]
theorem OwnS.of_list {w : World} {B : Nat} {v : Value} {l : List Int} (h : w.ownsRow B 3 1 v l.length (l.map (fun x => Value.int .i64 x))) : ∃ A c, v = .slice A l.length c ∧ OwnS w B A l.length (listF l) :=
  OwnS.of_owns (f := listF l) (by rw [intsOf_list]; exact h)
/-- The places among the first k at which the centre changes. -/
def borders (f : Nat → Int) : Nat → List Int
  | 0 => []
  | k + 1 => if k = 0 ∨ f k = f (k - 1) then borders f k else borders f k ++ [(k : Int)]
theorem borders_len (f : Nat → Int) : ∀ k, (borders f k).length ≤ k
  | 0 => Nat.le_refl _
  | k + 1 => by
    have := borders_len f k
    rw [borders]
    split
    · omega
    · simp; omega
def bordN (f : Nat → Int) (k : Nat) : Nat := (borders f k).length
def bordV (f : Nat → Int) (k : Nat) : List Value := (borders f k).map (fun x => Value.int .i64 x)
theorem bord_keep {f : Nat → Int} {k : Nat} (h : k = 0 ∨ f k = f (k - 1)) : bordN f (k + 1) = bordN f k ∧ bordV f (k + 1) = bordV f k := by
  rw [bordN, bordV, bordN, bordV, borders, if_pos h]
  exact ⟨rfl, rfl⟩
theorem bord_more {f : Nat → Int} {k : Nat} (h : ¬ (k = 0 ∨ f k = f (k - 1))) : bordN f (k + 1) = bordN f k + 1 ∧ bordV f (k + 1) = bordV f k ++ [.int .i64 k] := by
  rw [bordN, bordV, bordN, bordV, borders, if_neg h]
  simp
def brdL (d : Du) : List Int := if d.ok = true then borders d.lk d.m else []
theorem brdL_len (d : Du) (h : d.m ≤ 1048576) : (brdL d).length ≤ 1048576 := by
  have := borders_len d.lk d.m
  unfold brdL
  split
  · omega
  · simp
set_option maxRecDepth 100000 in
set_option maxHeartbeats 1600000 in
theorem bordersOf_any (A1 A2 : Option Addr) (c1 c2 : Nat) (d : Du) (w : World) (hn1 : d.n ≤ 1048576) (hn2 : d.m ≤ 1048576) (h : IsDu w A1 A2 d) :
    Calls Try.prog 25 #[.agg #[.int .i64 d.ce, .slice A1 d.n c1, .slice A2 d.m c2]] w fun e w' => ∃ A' c', e = .returned (.tuple #[.slice A' (brdL d).length c', .bool d.ok]) ∧ OwnS w' w.heap.size A' (brdL d).length (listF (brdL d)) ∧ Below w.heap.size w w' := by
  obtain ⟨x, ex⟩ : ∃ x, d.ok = x := ⟨_, rfl⟩
  rw [ex]
  cases x with
  | false =>
    have HN := Lib.hid (show brdL d = [] from by rw [brdL, ex]; rfl)
    have EX := Lib.hid ex
    clear ex
    go_enter Try.func25, Try.ntmps25
    go_wp2_with fail
    generalize hu : (w.alloc (.cells #[.int .i64 d.ce, .slice A1 d.n c1, .slice A2 d.m c2] 28)) = u1
    have bu1 : Below w.heap.size w u1 := by rw [← hu]; exact (by repeat (first | with_reducible exact Below.refl _ _ | with_reducible assumption | with_reducible refine below_alloc ?_ _ | with_reducible refine below_more ?_ _ | (with_reducible refine below_set ?_ ?_ _; rotate_left; focus (first | with_reducible exact Nat.le_refl _ | with_reducible assumption | (simp; done) | (simp; omega) | omega))))
    have Bu1 : Blk u1 w.heap.size 28 #[.int .i64 d.ce, .slice A1 d.n c1, .slice A2 d.m c2] := by rw [← hu]; exact Blk.new _ _ _
    have eu1 : u1.heap.size = w.heap.size + 1 := by rw [← hu]; simp
    clear hu
    have qu1 := fun o => Bu1.cell o
    have lu1 := Bu1.lt
    have su1 := bu1.size
    have C : Below u1.heap.size u1 u1 := Below.refl _ _
    have hd : IsDu u1 A1 A2 d := h.below bu1
    go_wp2_with fail
    refine (isValidDuty_any A1 A2 c1 c2 d _ hn1 hn2 hd).mono ?_
    rw [EX.out]
    rintro e w1 ⟨rfl, b1⟩
    replace C := below_tr C b1
    obtain ⟨hc1, hf1⟩ := bcell C
    go_wp2_with fail
    go_ret2
    rw [HN.out]
    exact ⟨_, _, rfl, OwnS.nil, below_tr bu1 C⟩
  | true =>
    have HN := Lib.hid (show brdL d = borders d.lk d.m from by rw [brdL, if_pos ex])
    have HL := Lib.hid (fun k => show bordN d.lk k ≤ k from borders_len d.lk k)
    obtain ⟨_, _, _, f4, f5, _⟩ := Du.ok_facts ex
    have EX := Lib.hid ex
    clear ex
    go_enter Try.func25, Try.ntmps25
    go_wp2_with fail
    generalize hu : (w.alloc (.cells #[.int .i64 d.ce, .slice A1 d.n c1, .slice A2 d.m c2] 28)) = u1
    have bu1 : Below w.heap.size w u1 := by rw [← hu]; exact (by repeat (first | with_reducible exact Below.refl _ _ | with_reducible assumption | with_reducible refine below_alloc ?_ _ | with_reducible refine below_more ?_ _ | (with_reducible refine below_set ?_ ?_ _; rotate_left; focus (first | with_reducible exact Nat.le_refl _ | with_reducible assumption | (simp; done) | (simp; omega) | omega))))
    have Bu1 : Blk u1 w.heap.size 28 #[.int .i64 d.ce, .slice A1 d.n c1, .slice A2 d.m c2] := by rw [← hu]; exact Blk.new _ _ _
    have eu1 : u1.heap.size = w.heap.size + 1 := by rw [← hu]; simp
    clear hu
    have qu1 := fun o => Bu1.cell o
    have lu1 := Bu1.lt
    have su1 := bu1.size
    have C : Below u1.heap.size u1 u1 := Below.refl _ _
    have hd : IsDu u1 A1 A2 d := h.below bu1
    go_wp2_with fail
    refine (isValidDuty_any A1 A2 c1 c2 d _ hn1 hn2 hd).mono ?_
    rw [EX.out]
    rintro e w1 ⟨rfl, b1⟩
    replace C := below_tr C b1
    obtain ⟨hc1, hf1⟩ := bcell C
    have HI := Lib.hid hd.2
    clear hd
    have k1 := Bu1.lt
    have s1 := C.size
    clear h
    go_wp2_with fail
    have EU := Lib.hid eu1
    clear eu1
    go_loopw [4, 5] (fun v i wr => ∃ k : Nat, 1 ≤ k ∧ k ≤ d.m ∧ i = .int .i64 k ∧ wr.ownsRow u1.heap.size 3 1 v (bordN d.lk k) (bordV d.lk k) ∧ Below u1.heap.size u1 wr) (fun _ i _ => d.m - (intOf i).toNat)
    case atStart => exact ⟨1, Nat.le_refl _, by omega, rfl, by rw [show bordN d.lk 1 = 0 from rfl, show bordV d.lk 1 = [] from rfl]; exact owns_empty C.size _ _, below_alloc C _⟩
    case round =>
      obtain ⟨k, hk1, hk, rfl, hown, hb⟩ := hrel
      have hsz := hb.size
      obtain ⟨hc, hf⟩ := bcell hb
      have HO := Lib.hid hown
      clear hown
      have hl := HL.out k
      have h3 : w.heap.size < wr.heap.size := by omega
      by_cases hlt : k < d.m
      · obtain ⟨p, off, rfl, hbl, c0⟩ := HI.out k hlt
        obtain ⟨p', off', e', hbl', c1⟩ := HI.out (k - 1) (by omega)
        cases e'
        have h1 : p < wr.heap.size := by omega
        have hk2 : ((k : Int) - 1) = ((k - 1 : Nat) : Int) := by omega
        by_cases hq : d.lk k = d.lk (k - 1)
        · have HS := Lib.hid (bord_keep (f := d.lk) (k := k) (.inr hq))
          rw [hq] at c0
          clear hq
          go_wp2_with fail
          (refine wp_region_more (by kernel_rfl) (by kernel_rfl) ?_
           repeat (any_goals (first | go_big_quiet_step (fail) | quiet_step (fail) | (refine wpQuiet_step (fun K hK => ?_); go_simp; split <;> (refine hK _ ?_; clear hK K))))
           all_goals (refine wpQuiet_nil ?_; intro _ hw'; obtain ⟨nq, hw''⟩ := hw'; subst hw''))
          go_wp2_with fail
          go_roundw
          case rel => exact ⟨k + 1, by omega, by omega, by go_num, by rw [HS.out.1, HS.out.2]; exact owns_more HO.out _, (by repeat (first | with_reducible exact Below.refl _ _ | with_reducible assumption | with_reducible refine below_alloc ?_ _ | with_reducible refine below_more ?_ _ | (with_reducible refine below_set ?_ ?_ _; rotate_left; focus (first | with_reducible exact Nat.le_refl _ | with_reducible assumption | (simp; done) | (simp; omega) | omega))))⟩
          case measure => simp [intOf]; omega
        · have HS := Lib.hid (bord_more (f := d.lk) (k := k) (fun x => x.elim (by omega) hq))
          have hq2 : ¬ d.lk (k - 1) = d.lk k := fun x => hq x.symm
          go_wp2_with fail
          (refine wp_region_more (by kernel_rfl) (by kernel_rfl) ?_
           repeat (any_goals (first | go_big_quiet_step (fail) | quiet_step (fail) | (refine wpQuiet_step (fun K hK => ?_); go_simp; split <;> (refine hK _ ?_; clear hK K))))
           all_goals (refine wpQuiet_nil ?_; intro _ hw'; obtain ⟨nq, hw''⟩ := hw'; subst hw''))
          go_wp2_with (at_builtin; refine wpList_push rfl _ _ _ rfl u1.heap.size 3 (.int .i64 0) 1 8 Try.underlying23 int_info rfl (by decide) (by decide) _ _ _ rfl (owns_more HO.out _) [.int .i64 (k : Int)] _ rfl (by simp) rfl (by intro u hu; simp at hu; subst hu; rfl) (by omega) (by first | (simp; omega) | omega | (rw [mw_size]; omega) | (simp [mw_size]; omega)) ?_; intro v1 w1 hown1 hg1 hb1; clear hg1)
          go_roundw
          case rel => exact ⟨k + 1, by omega, by omega, by go_num, by rw [HS.out.1, HS.out.2]; exact hown1, (below_more hb _).trans hb1⟩
          case measure => simp [intOf]; omega
      · obtain rfl : k = d.m := by omega
        go_wp2_with fail
        go_ret2
        obtain ⟨A', c', rfl, ho⟩ := OwnS.of_list (l := borders d.lk d.m) HO.out
        rw [HN.out]
        exact ⟨A', c', rfl, ho.mono bu1.size, below_tr bu1 hb⟩
set_option maxRecDepth 100000 in
set_option maxHeartbeats 1600000 in
theorem specBordersOf_any (A1 A2 : Option Addr) (c1 c2 : Nat) (d : Du) (w : World) (hn1 : d.n ≤ 1048576) (hn2 : d.m ≤ 1048576) (h : IsDu w A1 A2 d) :
    Calls Try.prog 24 #[.agg #[.int .i64 d.ce, .slice A1 d.n c1, .slice A2 d.m c2]] w fun e w' => ∃ A' c', e = .returned (.tuple #[.slice A' (brdL d).length c', .bool d.ok]) ∧ OwnS w' w.heap.size A' (brdL d).length (listF (brdL d)) ∧ Below w.heap.size w w' := by
  obtain ⟨x, ex⟩ : ∃ x, d.ok = x := ⟨_, rfl⟩
  rw [ex]
  cases x with
  | false =>
    have HN := Lib.hid (show brdL d = [] from by rw [brdL, ex]; rfl)
    have EX := Lib.hid ex
    clear ex
    go_enter Try.func24, Try.ntmps24
    go_wp2_with fail
    generalize hu : (w.alloc (.cells #[.int .i64 d.ce, .slice A1 d.n c1, .slice A2 d.m c2] 28)) = u1
    have bu1 : Below w.heap.size w u1 := by rw [← hu]; exact (by repeat (first | with_reducible exact Below.refl _ _ | with_reducible assumption | with_reducible refine below_alloc ?_ _ | with_reducible refine below_more ?_ _ | (with_reducible refine below_set ?_ ?_ _; rotate_left; focus (first | with_reducible exact Nat.le_refl _ | with_reducible assumption | (simp; done) | (simp; omega) | omega))))
    have Bu1 : Blk u1 w.heap.size 28 #[.int .i64 d.ce, .slice A1 d.n c1, .slice A2 d.m c2] := by rw [← hu]; exact Blk.new _ _ _
    have eu1 : u1.heap.size = w.heap.size + 1 := by rw [← hu]; simp
    clear hu
    have qu1 := fun o => Bu1.cell o
    have lu1 := Bu1.lt
    have su1 := bu1.size
    have C : Below u1.heap.size u1 u1 := Below.refl _ _
    have hd : IsDu u1 A1 A2 d := h.below bu1
    go_wp2_with fail
    refine (l25Good_any A1 A2 c1 c2 d _ hn1 hn2 (hd.below (below_alloc (Below.refl _ _) _))).mono ?_
    rw [EX.out]
    rintro e w1 ⟨rfl, b1⟩
    replace C := below_tr (below_alloc (Below.refl _ _) _) b1
    obtain ⟨hc1, hf1⟩ := bcell C
    go_wp2_with fail
    go_ret2
    rw [HN.out]
    exact ⟨_, _, rfl, OwnS.nil, below_tr bu1 C⟩
  | true =>
    have HN := Lib.hid (show brdL d = borders d.lk d.m from by rw [brdL, if_pos ex])
    have HL := Lib.hid (fun k => show bordN d.lk k ≤ k from borders_len d.lk k)
    obtain ⟨_, _, _, f4, f5, _⟩ := Du.ok_facts ex
    have EX := Lib.hid ex
    clear ex
    go_enter Try.func24, Try.ntmps24
    go_wp2_with fail
    generalize hu : (w.alloc (.cells #[.int .i64 d.ce, .slice A1 d.n c1, .slice A2 d.m c2] 28)) = u1
    have bu1 : Below w.heap.size w u1 := by rw [← hu]; exact (by repeat (first | with_reducible exact Below.refl _ _ | with_reducible assumption | with_reducible refine below_alloc ?_ _ | with_reducible refine below_more ?_ _ | (with_reducible refine below_set ?_ ?_ _; rotate_left; focus (first | with_reducible exact Nat.le_refl _ | with_reducible assumption | (simp; done) | (simp; omega) | omega))))
    have Bu1 : Blk u1 w.heap.size 28 #[.int .i64 d.ce, .slice A1 d.n c1, .slice A2 d.m c2] := by rw [← hu]; exact Blk.new _ _ _
    have eu1 : u1.heap.size = w.heap.size + 1 := by rw [← hu]; simp
    clear hu
    have qu1 := fun o => Bu1.cell o
    have lu1 := Bu1.lt
    have su1 := bu1.size
    have C : Below u1.heap.size u1 u1 := Below.refl _ _
    have hd : IsDu u1 A1 A2 d := h.below bu1
    go_wp2_with fail
    refine (l25Good_any A1 A2 c1 c2 d _ hn1 hn2 (hd.below (below_alloc (Below.refl _ _) _))).mono ?_
    rw [EX.out]
    rintro e w1 ⟨rfl, b1⟩
    replace C := below_tr (below_alloc (Below.refl _ _) _) b1
    obtain ⟨hc1, hf1⟩ := bcell C
    have HI := Lib.hid hd.2
    clear hd
    have k1 := Bu1.lt
    have s1 := C.size
    clear h
    go_wp2_with fail
    have EU := Lib.hid eu1
    clear eu1
    go_loopw [4, 5] (fun v i wr => ∃ k : Nat, 1 ≤ k ∧ k ≤ d.m ∧ i = .int .i64 k ∧ wr.ownsRow u1.heap.size 3 1 v (bordN d.lk k) (bordV d.lk k) ∧ Below u1.heap.size u1 wr) (fun _ i _ => d.m - (intOf i).toNat)
    case atStart => exact ⟨1, Nat.le_refl _, by omega, rfl, by rw [show bordN d.lk 1 = 0 from rfl, show bordV d.lk 1 = [] from rfl]; have e := owns_below (owns_empty (Nat.le_refl u1.heap.size) 3 1) b1; rw [EU.out] at e ⊢; exact e, C⟩
    case round =>
      obtain ⟨k, hk1, hk, rfl, hown, hb⟩ := hrel
      have hsz := hb.size
      obtain ⟨hc, hf⟩ := bcell hb
      have HO := Lib.hid hown
      clear hown
      have hl := HL.out k
      have h3 : w.heap.size < wr.heap.size := by omega
      by_cases hlt : k < d.m
      · obtain ⟨p, off, rfl, hbl, c0⟩ := HI.out k hlt
        obtain ⟨p', off', e', hbl', c1⟩ := HI.out (k - 1) (by omega)
        cases e'
        have h1 : p < wr.heap.size := by omega
        have hk2 : ((k : Int) - 1) = ((k - 1 : Nat) : Int) := by omega
        by_cases hq : d.lk k = d.lk (k - 1)
        · have HS := Lib.hid (bord_keep (f := d.lk) (k := k) (.inr hq))
          rw [hq] at c0
          clear hq
          go_wp2_with fail
          (refine wp_region_more (by kernel_rfl) (by kernel_rfl) ?_
           repeat (any_goals (first | go_big_quiet_step (fail) | quiet_step (fail) | (refine wpQuiet_step (fun K hK => ?_); go_simp; split <;> (refine hK _ ?_; clear hK K))))
           all_goals (refine wpQuiet_nil ?_; intro _ hw'; obtain ⟨nq, hw''⟩ := hw'; subst hw''))
          go_wp2_with fail
          go_roundw
          case rel => exact ⟨k + 1, by omega, by omega, by go_num, by rw [HS.out.1, HS.out.2]; exact owns_more HO.out _, (by repeat (first | with_reducible exact Below.refl _ _ | with_reducible assumption | with_reducible refine below_alloc ?_ _ | with_reducible refine below_more ?_ _ | (with_reducible refine below_set ?_ ?_ _; rotate_left; focus (first | with_reducible exact Nat.le_refl _ | with_reducible assumption | (simp; done) | (simp; omega) | omega))))⟩
          case measure => simp [intOf]; omega
        · have HS := Lib.hid (bord_more (f := d.lk) (k := k) (fun x => x.elim (by omega) hq))
          have hq2 : ¬ d.lk (k - 1) = d.lk k := fun x => hq x.symm
          go_wp2_with fail
          (refine wp_region_more (by kernel_rfl) (by kernel_rfl) ?_
           repeat (any_goals (first | go_big_quiet_step (fail) | quiet_step (fail) | (refine wpQuiet_step (fun K hK => ?_); go_simp; split <;> (refine hK _ ?_; clear hK K))))
           all_goals (refine wpQuiet_nil ?_; intro _ hw'; obtain ⟨nq, hw''⟩ := hw'; subst hw''))
          go_wp2_with (at_builtin; refine wpList_push rfl _ _ _ rfl u1.heap.size 3 (.int .i64 0) 1 8 Try.underlying23 int_info rfl (by decide) (by decide) _ _ _ rfl (owns_more HO.out _) [.int .i64 (k : Int)] _ rfl (by simp) rfl (by intro u hu; simp at hu; subst hu; rfl) (by omega) (by first | (simp; omega) | omega | (rw [mw_size]; omega) | (simp [mw_size]; omega)) ?_; intro v1 w1 hown1 hg1 hb1; clear hg1)
          go_roundw
          case rel => exact ⟨k + 1, by omega, by omega, by go_num, by rw [HS.out.1, HS.out.2]; exact hown1, (below_more hb _).trans hb1⟩
          case measure => simp [intOf]; omega
      · obtain rfl : k = d.m := by omega
        go_wp2_with fail
        go_ret2
        obtain ⟨A', c', rfl, ho⟩ := OwnS.of_list (l := borders d.lk d.m) HO.out
        rw [HN.out]
        exact ⟨A', c', rfl, ho.mono bu1.size, below_tr bu1 hb⟩
end Go.Proofs.Ytbbafdcmgobkeaa
