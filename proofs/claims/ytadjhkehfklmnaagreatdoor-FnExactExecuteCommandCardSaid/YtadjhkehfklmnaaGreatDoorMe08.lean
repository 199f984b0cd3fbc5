/-
  Texts joined: how the calls that the law reaches are walked, and the plain laws behind them.
  Conditions: none beyond each statement's own premises.
-/
import Derived.Test.YtadjhkehfklmnaaGreatDoorMe07
namespace Go.Proofs.YtadjhkehfklmnaaGreatDoor
set_option linter.unusedSimpArgs false
set_option linter.unusedVariables false
open Go.RowKit
set_option maxRecDepth 10000
def okB (b : UInt8) : Prop := 32 ≤ b.toNat ∧ b.toNat ≤ 126 ∧ ¬ b = 35
def plainT (l : List UInt8) : Prop := ∀ b, b ∈ l → okB b
def okR (c r : List UInt8) : Prop := plainT c ∧ plainT r ∧ 1 ≤ c.length ∧ c.length ≤ 160 ∧ r.length ≤ 200 ∧ 64 ∉ c
def bod (k : Nat) (c r : List UInt8) : List UInt8 := Lib.decDigits k ++ 32 :: (c ++ 64 :: r)
def sl (t : List UInt8) : List UInt8 := t ++ 35 :: Lib.decDigits (chk t)
def ln (k : Nat) (c r : List UInt8) : List UInt8 := sl (bod k c r)
theorem bod_mem {k : Nat} {c r : List UInt8} {b : UInt8} (h : b ∈ bod k c r) : (48 ≤ b.toNat ∧ b.toNat ≤ 57) ∨ b = 32 ∨ b ∈ c ∨ b = 64 ∨ b ∈ r := by
  unfold bod at h
  rcases List.mem_append.1 h with h | h
  · exact .inl (dd_digit _ _ h)
  · rcases List.mem_cons.1 h with h | h
    · exact .inr (.inl h)
    · rcases List.mem_append.1 h with h | h
      · exact .inr (.inr (.inl h))
      · rcases List.mem_cons.1 h with h | h
        · exact .inr (.inr (.inr (.inl h)))
        · exact .inr (.inr (.inr (.inr h)))
theorem bod_hash {k : Nat} {c r : List UInt8} (h : okR c r) : 35 ∉ bod k c r := fun e => by
  obtain ⟨hc, hr, _⟩ := h
  rcases bod_mem e with h | h | h | h | h
  · exact absurd h (by decide)
  · exact absurd h (by decide)
  · exact (hc _ h).2.2 rfl
  · exact absurd h (by decide)
  · exact (hr _ h).2.2 rfl
theorem bod_line {k : Nat} {c r : List UInt8} (h : okR c r) : 10 ∉ bod k c r := fun e => by
  obtain ⟨hc, hr, _⟩ := h
  rcases bod_mem e with h | h | h | h | h
  · exact absurd h (by decide)
  · exact absurd h (by decide)
  · exact absurd (hc _ h).1 (by decide)
  · exact absurd h (by decide)
  · exact absurd (hr _ h).1 (by decide)
theorem dd_not {n : Nat} {b : UInt8} (h : b.toNat < 48 ∨ 57 < b.toNat) : b ∉ Lib.decDigits n := fun e => by
  have := dd_digit _ _ e
  omega
theorem ln_line {k : Nat} {c r : List UInt8} (h : okR c r) : 10 ∉ ln k c r := fun e => by
  unfold ln sl at e
  rcases List.mem_append.1 e with e | e
  · exact bod_line h e
  · rcases List.mem_cons.1 e with e | e
    · exact absurd e (by decide)
    · exact dd_not (by decide) e
theorem bod_len {k : Nat} {c r : List UInt8} (hk : k < 100) (h : okR c r) : (bod k c r).length ≤ 364 := by
  obtain ⟨_, _, _, h1, h2, _⟩ := h
  have := dd_len 1 k (by omega)
  unfold bod
  simp
  omega
theorem ln_len {k : Nat} {c r : List UInt8} (hk : k < 100) (h : okR c r) : (ln k c r).length ≤ 371 := by
  have := bod_len hk h
  have h2 := chk_lt (bod k c r)
  have := dd_len 5 (chk (bod k c r)) (by omega)
  unfold ln sl
  simp
  omega
/-- What a line's parts are. -/
theorem parts {k : Nat} {c r : List UInt8} (h : okR c r) : bfs 35 (ln k c r) = bod k c r ∧ bfs 32 (bod k c r) = Lib.decDigits k ∧ afs 32 (bod k c r) = c ++ 64 :: r ∧ bfs 64 (c ++ 64 :: r) = c ∧ afs 64 (c ++ 64 :: r) = r :=
  ⟨(bfs_at (bod_hash h)).1, (bfs_at (dd_not (by decide))).1, (bfs_at (dd_not (by decide))).2, (bfs_at h.2.2.2.2.2).1, (bfs_at h.2.2.2.2.2).2⟩
/-! ### The program's reading of a line -/
def cmd (p : List UInt8) : List UInt8 := bfs 64 (afs 32 (bfs 35 p))
def rep (p : List UInt8) : List UInt8 := afs 64 (afs 32 (bfs 35 p))
def okp (k : Nat) (p : List UInt8) : Prop := okR (cmd p) (rep p) ∧ ln k (cmd p) (rep p) = p
theorem okp_ln {k : Nat} {c r : List UInt8} (h : okR c r) : okp k (ln k c r) ∧ cmd (ln k c r) = c ∧ rep (ln k c r) = r := by
  obtain ⟨e1, _, e2, e3, e4⟩ := parts (k := k) h
  have f1 : cmd (ln k c r) = c := by unfold cmd; rw [e1, e2, e3]
  have f2 : rep (ln k c r) = r := by unfold rep; rw [e1, e2, e4]
  exact ⟨⟨by rw [f1, f2]; exact h, by rw [f1, f2]⟩, f1, f2⟩
/-! ### The reference's reading of a line -/
def hd (k : Nat) : List UInt8 := Lib.decDigits k ++ [32]
def rst (k : Nat) (p : List UInt8) : List UInt8 := (bfs 35 p).drop (hd k).length
def pre (k : Nat) (p : List UInt8) : Prop := (hd k).length ≤ (bfs 35 p).length ∧ (bfs 35 p).take (hd k).length = hd k
def okq (k : Nat) (p : List UInt8) : Prop := pre k p ∧ 64 ∈ rst k p ∧ okR (bfs 64 (rst k p)) (afs 64 (rst k p)) ∧ ln k (bfs 64 (rst k p)) (afs 64 (rst k p)) = p
theorem okq_ln {k : Nat} {c r : List UInt8} (h : okR c r) : pre k (ln k c r) ∧ 64 ∈ rst k (ln k c r) ∧ bfs 64 (rst k (ln k c r)) = c ∧ afs 64 (rst k (ln k c r)) = r := by
  obtain ⟨e1, _, e2, e3, e4⟩ := parts (k := k) h
  have eb : bod k c r = hd k ++ (c ++ 64 :: r) := by unfold bod hd; simp
  have er : rst k (ln k c r) = c ++ 64 :: r := by unfold rst; rw [e1, eb]; simp
  refine ⟨⟨by rw [e1, eb]; simp, by rw [e1, eb]; simp⟩, by rw [er]; simp, by rw [er, e3], by rw [er, e4]⟩
theorem okq_iff {k : Nat} {p : List UInt8} : okq k p ↔ okp k p := by
  constructor
  · rintro ⟨_, _, h, e⟩
    have := (okp_ln (k := k) h).1
    rw [e] at this
    exact this
  · rintro ⟨h, e⟩
    have e' := e
    obtain ⟨h1, h2, h3, h4⟩ := okq_ln (k := k) h
    rw [e] at h1 h2 h3 h4
    exact ⟨h1, h2, by rw [h3, h4]; exact h, by rw [h3, h4]; exact e⟩
theorem okq_rec {k : Nat} {p : List UInt8} (hp : okp k p) : bfs 64 (rst k p) = cmd p ∧ afs 64 (rst k p) = rep p := by
  obtain ⟨h, e⟩ := hp
  obtain ⟨h1, h2, h3, h4⟩ := okq_ln (k := k) h
  rw [e] at h3 h4
  exact ⟨h3, h4⟩
/-! ### What stands in a log -/
def lin (s : List UInt8) (a : Nat) : List UInt8 := bfs 10 (s.drop a)
/-- Where record k of a log begins. -/
def ends (s : List UInt8) : Nat → Nat
  | 0 => 0
  | k + 1 => ends s k + (lin s (ends s k)).length + 1
def step (s : List UInt8) (k : Nat) : Prop := k < 60 ∧ 10 ∈ s.drop (ends s k) ∧ okp k (lin s (ends s k))
theorem ex_cnt (s : List UInt8) : ∃ n, (∀ j, j < n → step s j) ∧ ¬ step s n := by
  by_cases h : ∀ j, j < 60 → step s j
  · exact ⟨60, h, fun e => absurd e.1 (by omega)⟩
  · have : ∃ j, ¬ step s j := by
      by_cases h2 : ∃ j, ¬ step s j
      · exact h2
      · exact absurd (fun j _ => Classical.byContradiction fun e => h2 ⟨j, e⟩) h
    obtain ⟨j, hj⟩ := this
    clear h
    induction j using Nat.strongRecOn with
    | ind j ih =>
      by_cases h3 : ∀ i, i < j → step s i
      · exact ⟨j, h3, hj⟩
      · by_cases h4 : ∃ i, i < j ∧ ¬ step s i
        · obtain ⟨i, hi, h5⟩ := h4
          exact ih i hi h5
        · exact absurd (fun i hi => Classical.byContradiction fun e => h4 ⟨i, hi, e⟩) h3
/-- How many records a log has. -/
noncomputable def cnt (s : List UInt8) : Nat := Classical.choose (ex_cnt s)
theorem cnt_step {s : List UInt8} {j : Nat} (h : j < cnt s) : step s j := (Classical.choose_spec (ex_cnt s)).1 j h
theorem cnt_stop (s : List UInt8) : ¬ step s (cnt s) := (Classical.choose_spec (ex_cnt s)).2
theorem cnt_lt {s : List UInt8} {k : Nat} (hk : k ≤ cnt s) (h : step s k) : k < cnt s := by
  rcases Nat.lt_or_ge k (cnt s) with h1 | h1
  · exact h1
  · have := cnt_stop s
    rw [show cnt s = k by omega] at this
    exact absurd h this
theorem cnt_eq {s : List UInt8} {k : Nat} (hk : k ≤ cnt s) (h : ¬ step s k) : k = cnt s := by
  rcases Nat.lt_or_ge k (cnt s) with h1 | h1
  · exact absurd (cnt_step h1) h
  · omega
theorem cnt_is {s : List UInt8} {k : Nat} (h1 : ∀ j, j < k → step s j) (h2 : ¬ step s k) : cnt s = k := by
  rcases Nat.lt_trichotomy k (cnt s) with h | h | h
  · exact absurd (cnt_step h) h2
  · exact h.symm
  · exact absurd (h1 _ h) (cnt_stop s)
theorem cnt_le (s : List UInt8) : cnt s ≤ 60 := by
  rcases Nat.lt_or_ge 60 (cnt s) with h | h
  · exact absurd (cnt_step h).1 (by omega)
  · exact h
theorem step_ends {s : List UInt8} {k : Nat} (h : step s k) : ends s (k + 1) ≤ s.length := by
  have h2 := bfs_len h.2.1
  rw [List.length_drop] at h2
  show ends s k + (bfs 10 (s.drop (ends s k))).length + 1 ≤ _
  omega
theorem ends_le {s : List UInt8} : ∀ {k : Nat}, k ≤ cnt s → ends s k ≤ s.length
  | 0, _ => Nat.zero_le _
  | _ + 1, h => step_ends (cnt_step h)
theorem ends_most {s : List UInt8} : ∀ {k : Nat}, k ≤ cnt s → ends s k ≤ 372 * k
  | 0, _ => Nat.zero_le _
  | k + 1, h => by
    have h1 := ends_most (s := s) (k := k) (by omega)
    obtain ⟨hk, _, ho, e⟩ := cnt_step h
    have h2 := ln_len (k := k) (by omega) ho
    rw [e] at h2
    show ends s k + (lin s (ends s k)).length + 1 ≤ _
    omega
theorem ends_mono {s : List UInt8} : ∀ {k j : Nat}, k ≤ j → ends s k + (j - k) ≤ ends s j := by
  intro k j h
  induction j with
  | zero => obtain rfl : k = 0 := by omega
            simp
  | succ j ih =>
    rcases Nat.lt_or_ge j k with h1 | h1
    · obtain rfl : k = j + 1 := by omega
      simp
    · have := ih h1
      have e : ends s (j + 1) = ends s j + (lin s (ends s j)).length + 1 := rfl
      omega
/-- A log's beginning is read alike. -/
theorem lin_app {d p : List UInt8} {a : Nat} (h : 10 ∈ d.drop a) : lin (d ++ p) a = lin d a ∧ 10 ∈ (d ++ p).drop a := by
  have ha : a ≤ d.length := by
    rcases Nat.lt_or_ge d.length a with h1 | h1
    · rw [List.drop_eq_nil_of_le (by omega)] at h; simp at h
    · exact h1
  unfold lin
  rw [List.drop_append_of_le_length ha]
  exact ⟨(bfs_app p h).1, List.mem_append.2 (.inl h)⟩
theorem step_app {d p : List UInt8} {k : Nat} (he : ends (d ++ p) k = ends d k) (h : step d k) : step (d ++ p) k ∧ ends (d ++ p) (k + 1) = ends d (k + 1) := by
  obtain ⟨h1, h2⟩ := lin_app (p := p) h.2.1
  refine ⟨⟨h.1, by rw [he]; exact h2, by rw [he, h1]; exact h.2.2⟩, ?_⟩
  show ends (d ++ p) k + (lin (d ++ p) (ends (d ++ p) k)).length + 1 = _
  rw [he, h1]
  rfl
theorem app_ends {d p : List UInt8} : ∀ {k : Nat}, k ≤ cnt d → ends (d ++ p) k = ends d k
  | 0, _ => rfl
  | k + 1, h => (step_app (app_ends (by omega)) (cnt_step h)).2
theorem app_cnt {d p : List UInt8} : cnt d ≤ cnt (d ++ p) := by
  rcases Nat.lt_or_ge (cnt (d ++ p)) (cnt d) with h | h
  · exact absurd (step_app (p := p) (app_ends (by omega)) (cnt_step h)).1 (cnt_stop _)
  · exact h
/-- A step that ends within the beginning is a step of the beginning. -/
theorem step_sub {d p : List UInt8} {k : Nat} (he : ends (d ++ p) k = ends d k) (h : step (d ++ p) k) (hl : ends (d ++ p) (k + 1) ≤ d.length) : step d k := by
  have hx : ends (d ++ p) k + (lin (d ++ p) (ends (d ++ p) k)).length + 1 ≤ d.length := hl
  have hm : 10 ∈ d.drop (ends d k) := by
    rw [he] at hx
    have ha : ends d k ≤ d.length := by omega
    have h2 := h.2.1
    rw [he] at h2
    unfold lin at hx
    rw [List.drop_append_of_le_length ha] at hx h2
    refine Classical.byContradiction fun hn => ?_
    have hb : (d.drop (ends d k)).length ≤ (bfs 10 (d.drop (ends d k) ++ p)).length := by
      refine Classical.byContradiction fun hlt => ?_
      have h3 := bfs_get h2
      rw [List.getElem?_append_left (by omega)] at h3
      exact hn (List.mem_of_getElem? h3)
    rw [List.length_drop] at hb
    omega
  obtain ⟨h1, _⟩ := lin_app (p := p) hm
  refine ⟨h.1, hm, ?_⟩
  have := h.2.2
  rw [he, h1] at this
  exact this
theorem step_end {d : List UInt8} {k : Nat} (h : d.length ≤ ends d k) : ¬ step d k := fun e => by
  have := e.2.1
  rw [List.drop_eq_nil_of_le h] at this
  simp at this
theorem app_back {d p : List UInt8} : ∀ {j : Nat}, j ≤ cnt (d ++ p) → ends (d ++ p) j ≤ d.length → ends (d ++ p) j = ends d j ∧ ∀ i, i < j → step d i
  | 0, _, _ => ⟨rfl, fun i hi => absurd hi (by omega)⟩
  | j + 1, h, hl => by
    have h0 : ends (d ++ p) j + 1 ≤ ends (d ++ p) (j + 1) := by have := ends_mono (s := d ++ p) (k := j) (j := j + 1) (by omega); omega
    obtain ⟨h1, h2⟩ := app_back (d := d) (p := p) (j := j) (by omega) (by omega)
    have h3 := step_sub h1 (cnt_step h) hl
    exact ⟨(step_app h1 h3).2, fun i hi => by
      rcases Nat.lt_or_ge i j with h4 | h4
      · exact h2 i h4
      · rw [show i = j by omega]; exact h3⟩
/-- All of the beginning is read just if some record ends there. -/
theorem whole {d p : List UInt8} : ends d (cnt d) = d.length ↔ ∃ j, j ≤ cnt (d ++ p) ∧ ends (d ++ p) j = d.length := by
  constructor
  · intro h
    exact ⟨cnt d, app_cnt, by rw [app_ends (Nat.le_refl _), h]⟩
  · rintro ⟨j, hj, he⟩
    obtain ⟨h1, h2⟩ := app_back hj (by omega)
    have : cnt d = j := cnt_is h2 (step_end (by omega))
    rw [this, ← h1, he]
/-- A log is good. -/
def okL (d p : List UInt8) (c : Int) : Prop := ends (d ++ p) (cnt (d ++ p)) = (d ++ p).length ∧ (cnt (d ++ p) : Int) = c ∧ ends d (cnt d) = d.length
theorem okL_len {d p : List UInt8} {c : Int} (h : okL d p c) : d.length + p.length ≤ 22320 := by
  have h1 := ends_most (Nat.le_refl (cnt (d ++ p)))
  have h2 := cnt_le (d ++ p)
  rw [h.1, List.length_append] at h1
  omega
end Go.Proofs.YtadjhkehfklmnaaGreatDoor
