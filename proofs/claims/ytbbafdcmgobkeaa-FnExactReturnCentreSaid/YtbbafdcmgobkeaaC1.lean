/-
  Duties: which are valid, in the program and in the reference, as one Bool.
  Conditions: none beyond each statement's own premises.
-/
import Derived.Test.YtbbafdcmgobkeaaDu
import Derived.Test.YtbbafdcmgobkeaaGen
import Derived.Test.YtbbafdcmgobkeaaL1
namespace Go.Proofs.Ytbbafdcmgobkeaa
set_option linter.unusedSimpArgs false
set_option linter.unusedVariables false
open Go.RowKit
/-- The value of a duty whose slices lie at these addresses. -/
def Du.val (A1 A2 : Option Addr) (c1 c2 : Nat) (d : Du) : Value := .agg #[.int .i64 d.ce, .slice A1 d.n c1, .slice A2 d.m c2]
/-- A lock whose centre is none, or is not active. -/
def Du.off (d : Du) (x : Int) : Bool := !inB x 0 (d.ce - 1) || !d.act x.toNat
def Du.ok (d : Du) : Bool := inB d.ce 1 5 && ((d.n : Int) == d.ce) && anyB (fun i => true == d.act i) d.n && inB d.m 1 10 && sortedB d.lk d.m && !anyB (fun i => d.off (d.lk i)) d.m
theorem hasCentre_any (A1 A2 : Option Addr) (n c1 m c2 : Nat) (ce x : Int) (w : World) (h0 : -100 ≤ ce) (h1 : ce ≤ 100) :
    Calls Try.prog 66 #[.agg #[.int .i64 ce, .slice A1 n c1, .slice A2 m c2], .int .i64 x] w (Post (.bool (inB x 0 (ce - 1))) w) := by
  go_enter Try.func66, Try.ntmps66
  go_wp2_with (go_at_call 61; refine (inside_any _ _ _ _).mono ?_; rintro e w' ⟨rfl, rfl⟩)
  go_ret
  exact ⟨rfl, (by repeat (first | with_reducible exact Below.refl _ _ | with_reducible assumption | with_reducible refine below_alloc ?_ _ | with_reducible refine below_more ?_ _ | (with_reducible refine below_set ?_ ?_ _; rotate_left; focus (first | with_reducible exact Nat.le_refl _ | with_reducible assumption | (simp; done) | (simp; omega) | omega))))⟩
theorem valid1_any (A1 A2 : Option Addr) (c1 c2 : Nat) (d : Du) (x : Int) (B : Nat) (w : World) (h0 : -100 ≤ d.ce) (h1 : d.ce ≤ 100) (hn : (d.n : Int) = d.ce) (hd : IsDu w A1 A2 d)
    (hB : B < w.heap.size) (k0 : w.cell? ⟨B, 0, none⟩ = some (.int .i64 d.ce)) (k1 : w.cell? ⟨B, 1, none⟩ = some (.slice A1 d.n c1)) (k2 : w.cell? ⟨B, 2, none⟩ = some (.slice A2 d.m c2)) :
    Calls Try.prog 65 #[.int .i64 x, .pointer (some ⟨B, 0, none⟩)] w (Post (.bool (d.off x)) w) := by
  cases hv : inB x 0 (d.ce - 1) with
  | false =>
    have HF := Lib.hid (show d.off x = true by simp [Du.off, hv])
    have HV := Lib.hid hv
    clear hv
    go_enter Try.func65, Try.ntmps65
    go_wp2_with fail
    refine (hasCentre_any A1 A2 d.n c1 d.m c2 d.ce x _ h0 h1).mono ?_
    rw [HV.out]
    rintro e w1 ⟨rfl, b1⟩
    go_wp2_with fail
    go_ret
    exact ⟨by rw [HF.out]; rfl, b1⟩
  | true =>
    obtain ⟨v1, v2⟩ := inB_iff.1 hv
    obtain ⟨q, rfl⟩ := Int.eq_ofNat_of_zero_le v1
    obtain ⟨b, off, rfl, hbl, c0⟩ := hd.1 q (by omega)
    have HF := Lib.hid (show d.off q = !d.act q by simp [Du.off, hv])
    have HV := Lib.hid hv
    clear hv
    go_enter Try.func65, Try.ntmps65
    go_wp2_with fail
    refine (hasCentre_any _ A2 d.n c1 d.m c2 d.ce q _ h0 h1).mono ?_
    rw [HV.out]
    rintro e w1 ⟨rfl, b1⟩
    obtain ⟨hc, hf⟩ := bcell b1
    have s1 := b1.size
    have h2 : b < w1.heap.size := by omega
    have h3 : B < w1.heap.size := by omega
    go_wp2_with fail
    go_ret
    exact ⟨by rw [HF.out]; rfl, b1⟩
set_option maxHeartbeats 400000 in
theorem indexValid_any (A : Option Addr) (n c : Nat) (f : Nat → Int) (p : Int → Bool) (B : Nat) (w : World) (hn : n ≤ 1048576) (hA : RdI w A n f)
    (hp : ∀ W x, Below w.heap.size w W → Calls Try.prog 65 #[.int .i64 x, .pointer (some ⟨B, 0, none⟩)] W (Post (.bool (p x)) W)) :
    Calls Try.prog 90 #[.slice A n c, .func (.func 65) #[] #[.pointer (some ⟨B, 0, none⟩)]] w (Post (.int .i64 (findB (fun i => p (f i)) n)) w) := by
  have HP := Lib.hid hp
  clear hp
  go_enter Try.func90, Try.ntmps90
  go_wp2_with fail
  go_loopw [8] (fun i wr => ∃ k : Nat, k ≤ n ∧ i = .int .i64 k ∧ Hid (findB (fun i => p (f i)) k = -1) ∧ Below w.heap.size w wr) (fun i _ => n - (intOf i).toNat)
  case atStart => exact ⟨0, Nat.zero_le _, rfl, rfl, Below.refl _ _⟩
  case round =>
    obtain ⟨k, hk, rfl, HI, hb⟩ := hrel
    have hsz := hb.size
    by_cases hlt : k < n
    · obtain ⟨b, off, rfl, hbl, c0⟩ := hA k hlt
      obtain ⟨hc, hf⟩ := bcell hb
      have h1 : b < wr.heap.size := by omega
      have HB := Lib.hid hb
      cases hv : p (f k) with
      | true =>
        have HH := Lib.hid (findB_hit (p := fun i => p (f i)) HI.out hv n hlt)
        have HV := Lib.hid hv
        clear hv hb
        go_wp2_with fail
        refine (HP.out _ _ HB.out).mono ?_
        rw [HV.out]
        rintro e w1 ⟨rfl, b1⟩
        go_wp2_with fail
        go_ret
        exact ⟨by rw [HH.out]; rfl, below_tr HB.out b1⟩
      | false =>
        have HH := Lib.hid (findB_miss (p := fun i => p (f i)) HI.out hv)
        have HV := Lib.hid hv
        clear hv hb
        go_wp2_with fail
        refine (HP.out _ _ HB.out).mono ?_
        rw [HV.out]
        rintro e w1 ⟨rfl, b1⟩
        go_wp2_with fail
        go_roundw
        case rel => exact ⟨k + 1, by omega, by go_num, HH, below_tr HB.out b1⟩
        case measure => simp [intOf]; omega
    · obtain rfl : k = n := by omega
      go_wp2_with fail
      go_ret
      exact ⟨by rw [HI.out]; rfl, hb⟩
theorem containsValid_any (A : Option Addr) (n c : Nat) (f : Nat → Int) (p : Int → Bool) (B : Nat) (w : World) (hn : n ≤ 1048576) (hA : RdI w A n f)
    (hp : ∀ W x, Below w.heap.size w W → Calls Try.prog 65 #[.int .i64 x, .pointer (some ⟨B, 0, none⟩)] W (Post (.bool (p x)) W)) :
    Calls Try.prog 64 #[.slice A n c, .func (.func 65) #[] #[.pointer (some ⟨B, 0, none⟩)]] w (Post (.bool (anyB (fun i => p (f i)) n)) w) := by
  rw [← findB_any]
  go_enter Try.func64, Try.ntmps64
  go_wp2_with fail
  refine (indexValid_any A n c f p B _ hn hA hp).mono ?_
  rintro e w1 ⟨rfl, b1⟩
  go_wp2_with fail
  go_ret
  exact ⟨rfl, b1⟩
set_option maxHeartbeats 1600000 in
theorem isValidDuty_any (A1 A2 : Option Addr) (c1 c2 : Nat) (d : Du) (w : World) (hn1 : d.n ≤ 1048576) (hn2 : d.m ≤ 1048576) (h : IsDu w A1 A2 d) :
    Calls Try.prog 18 #[.agg #[.int .i64 d.ce, .slice A1 d.n c1, .slice A2 d.m c2]] w (Post (.bool d.ok) w) := by
  have hmf : ∀ (fn : Fn) (first cap : Array Value) (w : World), (Instr.makeFunc fn first cap).run Try.prog w = .ok (.func fn first cap) w := fun _ _ _ _ => rfl
  cases q1 : inB d.ce 1 5 && ((d.n : Int) == d.ce) with
  | false =>
    have hfin : d.ok = false := by simp only [Du.ok, q1, Bool.false_and]
    have HF := Lib.hid hfin
    clear hfin
    go_enter Try.func18, Try.ntmps18
    go_wp2_with (go_at_call 61; refine (inside_any _ _ _ _).mono ?_; rintro e w' ⟨rfl, rfl⟩)
    all_goals first
      | (go_ret; exact ⟨by rw [HF.out]; rfl, (by repeat (first | with_reducible exact Below.refl _ _ | with_reducible assumption | with_reducible refine below_alloc ?_ _ | with_reducible refine below_more ?_ _ | (with_reducible refine below_set ?_ ?_ _; rotate_left; focus (first | with_reducible exact Nat.le_refl _ | with_reducible assumption | (simp; done) | (simp; omega) | omega))))⟩)
      | (exfalso; simp_all; done)
  | true =>
    obtain ⟨g1, g2⟩ := Bool.and_eq_true_iff.1 q1
    obtain ⟨g3, g4⟩ := inB_iff.1 g1
    have g5 : (d.n : Int) = d.ce := by simpa using g2
    obtain ⟨ce, n, act, m, lk⟩ := d
    simp only at *
    subst g5
    have HB := Lib.hid h.1
    have HI := Lib.hid h.2
    have HD := Lib.hid h
    obtain ⟨x1, E1⟩ : ∃ x, anyB (fun i => true == act i) n = x := ⟨_, rfl⟩
    obtain ⟨x2, E2⟩ : ∃ x, inB m 1 10 = x := ⟨_, rfl⟩
    obtain ⟨x3, E3⟩ : ∃ x, sortedB lk m = x := ⟨_, rfl⟩
    obtain ⟨x4, E4⟩ : ∃ x, anyB (fun i => Du.off ⟨n, n, act, m, lk⟩ (lk i)) m = x := ⟨_, rfl⟩
    have HO := Lib.hid (show Du.ok ⟨n, n, act, m, lk⟩ = (x1 && x2 && x3 && !x4) by simp only [Du.ok, q1, Bool.true_and, E1, E2, E3, E4])
    replace E1 := Lib.hid E1
    replace E2 := Lib.hid E2
    replace E3 := Lib.hid E3
    replace E4 := Lib.hid E4
    clear h q1 g2
    go_enter Try.func18, Try.ntmps18
    go_wp2_with fail
    refine (inside_any _ _ _ _).mono ?_
    rw [g1]
    rintro e w' ⟨rfl, rfl⟩
    go_wp2_with fail
    refine (containsB_any A1 n c1 act true _ hn1 (HB.out.below (by repeat (first | with_reducible exact Below.refl _ _ | with_reducible assumption | with_reducible refine below_alloc ?_ _ | with_reducible refine below_more ?_ _ | (with_reducible refine below_set ?_ ?_ _; rotate_left; focus (first | with_reducible exact Nat.le_refl _ | with_reducible assumption | (simp; done) | (simp; omega) | omega)))))).mono ?_
    rw [E1.out]
    rintro e w1 ⟨rfl, b1⟩
    have s1 := b1.size
    have C1 : Below w.heap.size w w1 := below_tr (by repeat (first | with_reducible exact Below.refl _ _ | with_reducible assumption | with_reducible refine below_alloc ?_ _ | with_reducible refine below_more ?_ _ | (with_reducible refine below_set ?_ ?_ _; rotate_left; focus (first | with_reducible exact Nat.le_refl _ | with_reducible assumption | (simp; done) | (simp; omega) | omega)))) b1
    simp at s1
    have r1 : w.heap.size < w1.heap.size := by omega
    obtain ⟨hc1, hf1⟩ := bcell b1
    cases x1 with
    | false =>
      go_wp2_with fail
      go_ret
      exact ⟨by rw [HO.out]; rfl, C1⟩
    | true =>
      go_wp2_with fail
      refine (inside_any _ _ _ _).mono ?_
      rw [E2.out]
      rintro e w' ⟨rfl, rfl⟩
      cases x2 with
      | false =>
        go_wp2_with fail
        go_ret
        exact ⟨by rw [HO.out]; rfl, C1⟩
      | true =>
        go_wp2_with fail
        refine (isSorted_any A2 m c2 lk _ hn2 (HI.out.below C1)).mono ?_
        rw [E3.out]
        rintro e w2 ⟨rfl, b2⟩
        have s2 := b2.size
        have C2 : Below w.heap.size w w2 := below_tr C1 b2
        have r2 : w.heap.size < w2.heap.size := by omega
        obtain ⟨hc2, hf2⟩ := bcell b2
        cases x3 with
        | false =>
          go_wp2_with fail
          go_ret
          exact ⟨by rw [HO.out]; rfl, C2⟩
        | true =>
          go_wp2_with fail
          refine (containsValid_any A2 m c2 lk (Du.off ⟨n, n, act, m, lk⟩) w.heap.size _ hn2 (HI.out.below C2) (fun W x hW => valid1_any A1 A2 c1 c2 ⟨n, n, act, m, lk⟩ x w.heap.size W (by show -100 ≤ (n : Int); omega) (by show (n : Int) ≤ 100; omega) rfl (HD.out.below (below_tr C2 hW)) (by have := hW.size; omega) ?_ ?_ ?_)).mono ?_
          · exact (hW.cell (p := ⟨w.heap.size, 0, none⟩) r2).trans ((hc2 _ _ r1).trans ((hc1 _ _ (by simp)).trans (by simp)))
          · exact (hW.cell (p := ⟨w.heap.size, 1, none⟩) r2).trans ((hc2 _ _ r1).trans ((hc1 _ _ (by simp)).trans (by simp)))
          · exact (hW.cell (p := ⟨w.heap.size, 2, none⟩) r2).trans ((hc2 _ _ r1).trans ((hc1 _ _ (by simp)).trans (by simp)))
          · rw [E4.out]
            rintro e w3 ⟨rfl, b3⟩
            have C3 : Below w.heap.size w w3 := below_tr C2 b3
            cases x4 with
            | _ =>
              go_wp2_with fail
              go_ret
              exact ⟨by rw [HO.out]; rfl, C3⟩
end Go.Proofs.Ytbbafdcmgobkeaa
