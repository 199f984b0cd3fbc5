/-
  Texts joined: how the calls that the law reaches are walked, and the plain laws behind them.
  Conditions: none beyond each statement's own premises.
-/
import Derived.Test.YtadjhkehfklmnaaGreatDoorMy05
import Derived.Lib.IndexLaws
import Derived.Lib.ItoaNum
namespace Go.Proofs.YtadjhkehfklmnaaGreatDoor
set_option linter.unusedSimpArgs false
set_option linter.unusedVariables false
open Go.RowKit
set_option maxRecDepth 10000
def Lo.safe (s : Lo) : Prop := 0 ≤ s.lower ∧ s.lower ≤ s.level ∧ s.level ≤ s.upper ∧ s.upper ≤ 2000 ∧ ¬ (s.lg = true ∧ s.hg = true) ∧ ¬ (s.lp = true ∧ s.hp = true) ∧ ¬ (s.lp = true ∧ s.hg = true) ∧ ¬ (s.hp = true ∧ s.lg = true) ∧ (s.lg = true → s.level - s.lower ≤ 5) ∧ (s.hg = true → s.upper - s.level ≤ 5)
def Lo.zero : Lo := ⟨0, 0, 0, false, false, false, false⟩
def Lo.move (s : Lo) (c : Int) : Lo :=
  if c = 1 then { s with lg := true } else if c = 2 then { s with lg := false } else if c = 3 then { s with hg := true } else if c = 4 then { s with hg := false }
  else if c = 5 then { s with lp := true } else if c = 6 then { s with lp := false } else if c = 7 then { s with hp := true } else if c = 8 then { s with hp := false }
  else if c = 9 then { s with level := if s.lp then mx s.lower (s.level - 50) else if s.hp then mn s.upper (s.level + 50) else s.level }
  else s
def Lo.okStep (s : Lo) (c : Int) : Prop := s.safe ∧ 1 ≤ c ∧ c ≤ 9 ∧ (c = 9 ∨ (s.move c ≠ s ∧ (s.move c).safe))
noncomputable def Lo.step (s : Lo) (c : Int) : Lo := if tr (s.okStep c) then s.move c else Lo.zero
theorem Lo.step_yes {s : Lo} {c : Int} (h : s.okStep c) : s.step c = s.move c := by unfold Lo.step; rw [tr_yes h]; rfl
theorem Lo.step_no {s : Lo} {c : Int} (h : ¬ s.okStep c) : s.step c = Lo.zero := by unfold Lo.step; rw [tr_no h]; rfl
theorem Lo.wait_safe {s : Lo} (h : s.safe) : (s.move 9).safe := by
  obtain ⟨a, b, v, g1, g2, p1, p2⟩ := s
  unfold Lo.safe at h
  unfold Lo.move Lo.safe mx mn
  dsimp only at *
  cases g1 <;> cases g2 <;> cases p1 <;> cases p2 <;> simp at h ⊢ <;> (try split) <;> omega
theorem Lo.okStep.safe {s : Lo} {c : Int} (h : s.okStep c) : (s.move c).safe := by
  rcases h.2.2.2 with h1 | h1
  · subst h1; exact Lo.wait_safe h.1
  · exact h1.2
noncomputable def Lo.run (s : Lo) : List Int → Lo × Nat
  | [] => (s, 0)
  | c :: r => if tr (s.okStep c) then (((s.move c).run r).1, ((s.move c).run r).2 + 1) else (s, 0)
theorem Lo.run_yes {s : Lo} {c : Int} {r : List Int} (h : s.okStep c) : s.run (c :: r) = (((s.move c).run r).1, ((s.move c).run r).2 + 1) := by show (if tr (s.okStep c) then _ else _) = _; rw [tr_yes h]; rfl
theorem Lo.run_no {s : Lo} {c : Int} {r : List Int} (h : ¬ s.okStep c) : s.run (c :: r) = (s, 0) := by show (if tr (s.okStep c) then _ else _) = _; rw [tr_no h]; rfl
theorem Lo.run_safe {s : Lo} (h : s.safe) : ∀ l : List Int, (s.run l).1.safe ∧ (s.run l).2 ≤ l.length := by
  intro l
  induction l generalizing s with
  | nil => exact ⟨h, Nat.le_refl _⟩
  | cons c r ih =>
    by_cases hc : s.okStep c
    · rw [Lo.run_yes hc]
      have := ih hc.safe
      exact ⟨this.1, Nat.succ_le_succ this.2⟩
    · rw [Lo.run_no hc]
      exact ⟨h, Nat.zero_le _⟩
def Lo.head (s : Lo) (h : Bool) : Int := if h then s.upper - s.level else s.level - s.lower
def Lo.mins (s : Lo) (h : Bool) : Nat := ((s.head h + 44) / 50).toNat
def Lo.gate (s : Lo) (h : Bool) : Bool := if h then s.hg else s.lg
def Lo.pad (s : Lo) (h : Bool) : Bool := if h then s.hp else s.lp
def cGate (h : Bool) : Int := if h then 3 else 1
def cPad (h : Bool) : Int := if h then 7 else 5
def Lo.pre (s : Lo) (h : Bool) : List Int := (if s.gate (!h) then [5 - cGate h] else []) ++ (if s.pad (!h) then [13 - cPad h] else []) ++ (if 0 < s.mins h ∧ s.pad h = false then [cPad h] else [])
def Lo.plan (s : Lo) (h : Bool) : List Int := if s.gate h then [] else s.pre h ++ List.replicate (s.mins h) 9 ++ [cGate h]
theorem Lo.pre_len (s : Lo) (h : Bool) : (s.pre h).length ≤ 3 := by
  unfold Lo.pre
  simp only [List.length_append]
  split <;> split <;> split <;> simp
theorem Lo.mins_le {s : Lo} {h : Bool} (hs : s.safe) : s.mins h ≤ 40 := by
  unfold Lo.safe at hs
  unfold Lo.mins Lo.head
  cases h <;> simp <;> omega
theorem Lo.plan_len {s : Lo} {h : Bool} (hs : s.safe) : (s.plan h).length ≤ 44 := by
  have h1 := s.pre_len h
  have h2 := Lo.mins_le (h := h) hs
  unfold Lo.plan
  split
  · simp
  · simp only [List.length_append, List.length_replicate, List.length_cons, List.length_nil]; omega
theorem Lo.plan_in {s : Lo} {h : Bool} : ∀ c ∈ s.plan h, 1 ≤ c ∧ c ≤ 9 := by
  intro c hc
  unfold Lo.plan Lo.pre cGate cPad at hc
  cases h <;> simp at hc <;> (rcases hc with ⟨_, ⟨_, h⟩ | ⟨_, h⟩ | ⟨_, h⟩ | ⟨_, h⟩ | h⟩ <;> omega)
def Lo.does : Lo → List Int → Lo → Prop
  | s, [], t => s = t
  | s, c :: r, t => s.okStep c ∧ (s.move c).does r t
theorem Lo.does_app {s t u : Lo} : ∀ {a b : List Int}, s.does a t → t.does b u → s.does (a ++ b) u := by
  intro a
  induction a generalizing s with
  | nil => intro b h1 h2; have e : s = t := h1; rw [e]; exact h2
  | cons c r ih => intro b h1 h2; exact ⟨h1.1, ih h1.2 h2⟩
theorem Lo.does_run {s t : Lo} : ∀ {a : List Int}, s.does a t → s.run a = (t, a.length) := by
  intro a
  induction a generalizing s with
  | nil => intro h; have e : s = t := h; rw [e]; rfl
  | cons c r ih => intro h; rw [Lo.run_yes h.1, ih h.2]; rfl
theorem Lo.waits_low {k : Nat} : ∀ {s : Lo}, s.safe → s.lp = true → s.does (List.replicate k 9) { s with level := mx s.lower (s.level - 50 * (k : Int)) } := by
  induction k with
  | zero =>
    intro s h hp
    obtain ⟨a, b, v, g1, g2, p1, p2⟩ := s
    unfold Lo.safe at h
    show (_ : Lo) = _
    have : mx a (v - 50 * ((0 : Nat) : Int)) = v := by unfold mx; dsimp only at h; split <;> omega
    simp only [this]
  | succ k ih =>
    intro s h hp
    have h9 : s.okStep 9 := ⟨h, by omega, by omega, .inl rfl⟩
    refine ⟨h9, ?_⟩
    have hm : s.move 9 = { s with level := mx s.lower (s.level - 50) } := by
      unfold Lo.move
      simp [hp]
    have := ih (s := s.move 9) h9.safe (by rw [hm]; exact hp)
    rw [hm] at this ⊢
    dsimp only at this
    have e : mx s.lower (mx s.lower (s.level - 50) - 50 * (k : Int)) = mx s.lower (s.level - 50 * ((k + 1 : Nat) : Int)) := by
      unfold mx; split <;> split <;> split <;> omega
    rw [e] at this
    exact this
theorem Lo.waits_high {k : Nat} : ∀ {s : Lo}, s.safe → s.hp = true → s.does (List.replicate k 9) { s with level := mn s.upper (s.level + 50 * (k : Int)) } := by
  induction k with
  | zero =>
    intro s h hp
    obtain ⟨a, b, v, g1, g2, p1, p2⟩ := s
    unfold Lo.safe at h
    show (_ : Lo) = _
    have : mn b (v + 50 * ((0 : Nat) : Int)) = v := by unfold mn; dsimp only at h; split <;> omega
    simp only [this]
  | succ k ih =>
    intro s h hp
    have h9 : s.okStep 9 := ⟨h, by omega, by omega, .inl rfl⟩
    refine ⟨h9, ?_⟩
    have hlp : s.lp = false := by
      have := h.2.2.2.2.2.1
      cases hx : s.lp
      · rfl
      · exact absurd ⟨hx, hp⟩ this
    have hm : s.move 9 = { s with level := mn s.upper (s.level + 50) } := by
      unfold Lo.move
      simp [hp, hlp]
    have := ih (s := s.move 9) h9.safe (by rw [hm]; exact hp)
    rw [hm] at this ⊢
    dsimp only at this
    have e : mn s.upper (mn s.upper (s.level + 50) + 50 * (k : Int)) = mn s.upper (s.level + 50 * ((k + 1 : Nat) : Int)) := by
      unfold mn; split <;> split <;> split <;> omega
    rw [e] at this
    exact this
theorem Lo.turn_ok {s t : Lo} {c : Int} (h : s.safe) (h1 : 1 ≤ c) (h2 : c ≤ 8) (e : s.move c = t) (hn : t ≠ s) (hs : t.safe) : s.does [c] t :=
  ⟨⟨h, h1, by omega, .inr ⟨by rw [e]; exact hn, by rw [e]; exact hs⟩⟩, e⟩
set_option maxHeartbeats 4000000 in
theorem Lo.plan_does {s : Lo} (h : s.safe) (hi : Bool) : ∃ t, s.does (s.plan hi) t := by
  cases hg : s.gate hi with
  | true => exact ⟨s, by unfold Lo.plan; rw [hg]; rfl⟩
  | false =>
    have hp : s.plan hi = s.pre hi ++ List.replicate (s.mins hi) 9 ++ [cGate hi] := by unfold Lo.plan; rw [hg]; rfl
    rw [hp]
    have hmin : s.head hi ≤ 50 * (s.mins hi : Int) + 5 := by
      unfold Lo.mins
      have : 0 ≤ s.head hi := by
        unfold Lo.safe at h
        unfold Lo.head
        cases hi <;> simp <;> omega
      omega
    have h0 : s.mins hi = 0 → s.head hi ≤ 5 := fun e => by rw [e] at hmin; simpa using hmin
    unfold Lo.pre
    generalize s.mins hi = k at *
    obtain ⟨a, b, v, g1, g2, p1, p2⟩ := s
    have h' := h
    unfold Lo.safe at h'
    dsimp only at h'
    obtain ⟨q1, q2, q3, q4, q5, q6, q7, q8, q9, q10⟩ := h'
    cases hi
    · obtain rfl : g1 = false := hg
      simp only [Lo.head, Bool.false_eq_true, if_false] at hmin h0
      -- the other gate and the other paddle are closed
      have s1 : Lo.does ⟨a, b, v, false, g2, p1, p2⟩ ((if g2 then [4] else []) ++ (if p2 then [8] else [])) ⟨a, b, v, false, false, p1, false⟩ := by
        cases g2 <;> cases p2
        · exact rfl
        · exact Lo.turn_ok h (by decide) (by decide) rfl (by simp) (by simp [Lo.safe]; omega)
        · exact Lo.turn_ok h (by decide) (by decide) rfl (by simp) (by simp [Lo.safe]; omega)
        · refine Lo.does_app (a := [4]) (Lo.turn_ok (t := ⟨a, b, v, false, false, p1, true⟩) h (by decide) (by decide) rfl (by simp) ?_) (Lo.turn_ok ?_ (by decide) (by decide) rfl (by simp) ?_)
          all_goals (cases p1 <;> simp at q6 <;> simp [Lo.safe] <;> omega)
      have f1 : Lo.safe ⟨a, b, v, false, false, p1, false⟩ := by simp [Lo.safe]; omega
      have s2 : Lo.does ⟨a, b, v, false, false, p1, false⟩ (if 0 < k ∧ p1 = false then [5] else []) ⟨a, b, v, false, false, p1 || decide (0 < k), false⟩ := by
        cases p1
        · by_cases hk : 0 < k
          · simp only [hk, true_and, if_true, decide_true, Bool.or_true]
            exact Lo.turn_ok f1 (by decide) (by decide) rfl (by simp) (by simp [Lo.safe]; omega)
          · simp only [hk, false_and, if_false, decide_false, Bool.or_false]
            exact rfl
        · simp
          exact rfl
      refine ⟨_, Lo.does_app (t := ⟨a, b, mx a (v - 50 * (k : Int)), false, false, p1 || decide (0 < k), false⟩) (Lo.does_app (Lo.does_app s1 s2) ?_) (Lo.turn_ok (t := ⟨a, b, mx a (v - 50 * (k : Int)), true, false, p1 || decide (0 < k), false⟩) ?_ (by decide) (by decide) rfl (by simp) ?_)⟩
      · rcases Nat.eq_zero_or_pos k with e | e
        · subst e
          show (_ : Lo) = _
          have : mx a (v - 50 * ((0 : Nat) : Int)) = v := by unfold mx; split <;> omega
          rw [this]
        · have := Lo.waits_low (k := k) (s := ⟨a, b, v, false, false, p1 || decide (0 < k), false⟩) (by simp [Lo.safe]; omega) (by simp [e])
          exact this
      · have := le_mx a (v - 50 * (k : Int))
        have : mx a (v - 50 * (k : Int)) ≤ v := mx_le (by omega) (by omega)
        simp [Lo.safe]; omega
      · have := le_mx a (v - 50 * (k : Int))
        have : mx a (v - 50 * (k : Int)) ≤ v := mx_le (by omega) (by omega)
        have : mx a (v - 50 * (k : Int)) ≤ a + 5 := mx_le (by omega) (by omega)
        simp [Lo.safe]; omega
    · obtain rfl : g2 = false := hg
      simp only [Lo.head, if_true] at hmin h0
      have s1 : Lo.does ⟨a, b, v, g1, false, p1, p2⟩ ((if g1 then [2] else []) ++ (if p1 then [6] else [])) ⟨a, b, v, false, false, false, p2⟩ := by
        cases g1 <;> cases p1
        · exact rfl
        · exact Lo.turn_ok h (by decide) (by decide) rfl (by simp) (by simp [Lo.safe]; omega)
        · exact Lo.turn_ok h (by decide) (by decide) rfl (by simp) (by simp [Lo.safe]; omega)
        · refine Lo.does_app (a := [2]) (Lo.turn_ok (t := ⟨a, b, v, false, false, true, p2⟩) h (by decide) (by decide) rfl (by simp) ?_) (Lo.turn_ok ?_ (by decide) (by decide) rfl (by simp) ?_)
          all_goals (cases p2 <;> simp at q6 <;> simp [Lo.safe] <;> omega)
      have f1 : Lo.safe ⟨a, b, v, false, false, false, p2⟩ := by simp [Lo.safe]; omega
      have s2 : Lo.does ⟨a, b, v, false, false, false, p2⟩ (if 0 < k ∧ p2 = false then [7] else []) ⟨a, b, v, false, false, false, p2 || decide (0 < k)⟩ := by
        cases p2
        · by_cases hk : 0 < k
          · simp only [hk, true_and, if_true, decide_true, Bool.or_true]
            exact Lo.turn_ok f1 (by decide) (by decide) rfl (by simp) (by simp [Lo.safe]; omega)
          · simp only [hk, false_and, if_false, decide_false, Bool.or_false]
            exact rfl
        · simp
          exact rfl
      refine ⟨_, Lo.does_app (t := ⟨a, b, mn b (v + 50 * (k : Int)), false, false, false, p2 || decide (0 < k)⟩) (Lo.does_app (Lo.does_app s1 s2) ?_) (Lo.turn_ok (t := ⟨a, b, mn b (v + 50 * (k : Int)), false, true, false, p2 || decide (0 < k)⟩) ?_ (by decide) (by decide) rfl (by simp) ?_)⟩
      · rcases Nat.eq_zero_or_pos k with e | e
        · subst e
          show (_ : Lo) = _
          have : mn b (v + 50 * ((0 : Nat) : Int)) = v := by unfold mn; split <;> omega
          rw [this]
        · have := Lo.waits_high (k := k) (s := ⟨a, b, v, false, false, false, p2 || decide (0 < k)⟩) (by simp [Lo.safe]; omega) (by simp [e])
          exact this
      · have := mn_le b (v + 50 * (k : Int))
        have : v ≤ mn b (v + 50 * (k : Int)) := le_mn (by omega) (by omega)
        simp [Lo.safe]; omega
      · have := mn_le b (v + 50 * (k : Int))
        have : v ≤ mn b (v + 50 * (k : Int)) := le_mn (by omega) (by omega)
        have : b - 5 ≤ mn b (v + 50 * (k : Int)) := le_mn (by omega) (by omega)
        simp [Lo.safe]; omega
theorem Lo.plan_run {s : Lo} (h : s.safe) (hi : Bool) : (s.run (s.plan hi)).2 = (s.plan hi).length := by
  obtain ⟨t, ht⟩ := Lo.plan_does h hi
  rw [Lo.does_run ht]
end Go.Proofs.YtadjhkehfklmnaaGreatDoor
namespace Go.Proofs.YtadjhkehfklmnaaGreatDoor
set_option linter.unusedSimpArgs false
set_option linter.unusedVariables false
open Go.RowKit
set_option maxRecDepth 10000
theorem nd_le : ∀ (n : Nat) (p : List Nat), p.Nodup → (∀ x ∈ p, x < n) → p.length ≤ n
  | 0, p, _, h => by
    cases p with
    | nil => exact Nat.le_refl _
    | cons x p => exact absurd (h x (by simp)) (Nat.not_lt_zero _)
  | n + 1, p, hn, h => by
    by_cases hm : n ∈ p
    · have h1 := nd_le n (p.erase n) (hn.erase n) (fun x hx => by
        have h2 := h x (List.mem_of_mem_erase hx)
        have h3 : x ≠ n := fun e => by subst e; exact absurd hx (List.Nodup.not_mem_erase hn)
        omega)
      have h4 := List.length_erase_of_mem hm
      omega
    · have h1 := nd_le n p hn (fun x hx => by
        have h2 := h x hx
        have h3 : x ≠ n := fun e => hm (e ▸ hx)
        omega)
      omega
theorem nd_all {n : Nat} {p : List Nat} (hn : p.Nodup) (h : ∀ x ∈ p, x < n) (hl : p.length = n) {i : Nat} (hi : i < n) : i ∈ p := by
  apply Classical.byContradiction
  intro hm
  have := nd_le n (i :: p) (List.nodup_cons.2 ⟨hm, hn⟩) (fun x hx => by
    rcases List.mem_cons.1 hx with e | e
    · rw [e]; exact hi
    · exact h x e)
  simp at this
  omega
theorem all_le : ∀ (n : Nat) (p : List Nat), (∀ i, i < n → i ∈ p) → n ≤ p.length
  | 0, _, _ => Nat.zero_le _
  | n + 1, p, h => by
    have hm := h n (Nat.lt_succ_self n)
    have h1 := all_le n (p.erase n) (fun i hi => (List.mem_erase_of_ne (by omega)).2 (h i (by omega)))
    have h2 := List.length_erase_of_mem hm
    have h3 : 0 < p.length := List.length_pos_of_mem hm
    omega
theorem nd_snoc {p : List Nat} {k : Nat} (h : p.Nodup) (hk : k ∉ p) : (p ++ [k]).Nodup := by
  rw [List.nodup_append]
  refine ⟨h, by simp, fun a ha b hb => ?_⟩
  rw [List.mem_singleton] at hb
  subst hb
  exact fun e => hk (e ▸ ha)
def aOk (f : Nat → Aw) (i : Nat) : Prop := (1 ≤ (f i).id ∧ (f i).id ≤ 99) ∧ (0 ≤ (f i).minute ∧ (f i).minute ≤ 9999) ∧ (1 ≤ (f i).weight ∧ (f i).weight ≤ 9) ∧ (0 < i → (f (i - 1)).id < (f i).id)
def aGood (n : Nat) (f : Nat → Aw) : Prop := (∀ i, i < n → aOk f i) ∧ n ≤ 6
theorem aGood.no {n k : Nat} {f : Nat → Aw} (hk : k < n) (h : ¬ aOk f k) : ¬ aGood n f := fun g => h (g.1 k hk)
theorem aGood.lt {n : Nat} {f : Nat → Aw} (h : aGood n f) : ∀ {i j : Nat}, i < j → j < n → (f i).id < (f j).id
  | i, 0, h1, _ => by omega
  | i, j + 1, h1, h2 => by
    have h3 := (h.1 (j + 1) h2).2.2.2 (Nat.succ_pos j)
    rw [show j + 1 - 1 = j by omega] at h3
    rcases Nat.lt_or_ge i j with h4 | h4
    · have := aGood.lt h h4 (by omega : j < n)
      omega
    · obtain rfl : i = j := by omega
      exact h3
def bef (a b : Aw) : Prop := a.minute < b.minute ∨ (a.minute = b.minute ∧ a.id < b.id)
def key (a : Aw) : Nat := (a.minute * 100 + a.id).toNat
theorem bef_key {n : Nat} {f : Nat → Aw} (h : aGood n f) {i j : Nat} (hi : i < n) (hj : j < n) : bef (f i) (f j) ↔ key (f i) < key (f j) := by
  have h1 := h.1 i hi
  have h2 := h.1 j hj
  unfold aOk at h1 h2
  unfold bef key
  omega
def tmS (f : Nat → Aw) (mi : Int) (hi : Bool) (o : Nat → Nat) : Nat → Int × Bool × Nat
  | 0 => (0, hi, 0)
  | k + 1 => let s := tmS f mi hi o k
    (mx (if s.2.1 = (f (o k)).up then s.1 + mi else s.1) (f (o k)).minute + mi, (f (o k)).up, if s.2.1 = (f (o k)).up then s.2.2 + 1 else s.2.2)
def tmB (f : Nat → Aw) (mi : Int) (hi : Bool) (o : Nat → Nat) (k : Nat) : Int :=
  mx (if (tmS f mi hi o k).2.1 = (f (o k)).up then (tmS f mi hi o k).1 + mi else (tmS f mi hi o k).1) (f (o k)).minute
theorem tmS_in {f : Nat → Aw} {mi : Int} {hi : Bool} {o : Nat → Nat} (h0 : 0 ≤ mi) (h1 : mi ≤ 60) {m : Nat} (hf : ∀ k, k < m → 0 ≤ (f (o k)).minute ∧ (f (o k)).minute ≤ 9999) : ∀ k, k ≤ m → 0 ≤ (tmS f mi hi o k).1 ∧ (tmS f mi hi o k).1 ≤ 9999 + 120 * k ∧ (tmS f mi hi o k).2.2 ≤ k
  | 0, _ => ⟨Int.le_refl _, by show (0 : Int) ≤ _; omega, Nat.le_refl _⟩
  | k + 1, hk => by
    have ih := tmS_in (hi := hi) h0 h1 hf k (by omega)
    have h2 := hf k (by omega)
    unfold tmS
    dsimp only
    unfold mx
    split <;> split <;> omega
theorem tmB_in {f : Nat → Aw} {mi : Int} {hi : Bool} {o : Nat → Nat} (h0 : 0 ≤ mi) (h1 : mi ≤ 60) {m : Nat} (hf : ∀ k, k < m → 0 ≤ (f (o k)).minute ∧ (f (o k)).minute ≤ 9999) {k : Nat} (hk : k < m) : (f (o k)).minute ≤ tmB f mi hi o k ∧ 0 ≤ tmB f mi hi o k ∧ tmB f mi hi o k ≤ 9999 + 120 * k + 60 ∧ (tmS f mi hi o (k + 1)).1 = tmB f mi hi o k + mi := by
  have ih := tmS_in (f := f) (hi := hi) h0 h1 hf k (by omega)
  have h2 := hf k (by omega)
  refine ⟨?_, ?_, ?_, rfl⟩ <;> unfold tmB mx <;> split <;> split <;> omega
def smI (g : Nat → Int) : Nat → Int
  | 0 => 0
  | k + 1 => smI g k + g k
def dlT (f : Nat → Aw) (mi : Int) (hi : Bool) (o : Nat → Nat) (k : Nat) : Int := (f (o k)).weight * (tmB f mi hi o k - (f (o k)).minute)
def dl (f : Nat → Aw) (mi : Int) (hi : Bool) (o : Nat → Nat) (n : Nat) : Int := smI (dlT f mi hi o) n
theorem dlT_in {f : Nat → Aw} {mi : Int} {hi : Bool} {o : Nat → Nat} (h0 : 0 ≤ mi) (h1 : mi ≤ 60) {m : Nat} (hm : m ≤ 6) (hf : ∀ k, k < m → 0 ≤ (f (o k)).minute ∧ (f (o k)).minute ≤ 9999) (hw : ∀ k, k < m → 1 ≤ (f (o k)).weight ∧ (f (o k)).weight ≤ 9) {k : Nat} (hk : k < m) : 0 ≤ tmB f mi hi o k - (f (o k)).minute ∧ tmB f mi hi o k - (f (o k)).minute ≤ 10800 ∧ 0 ≤ dlT f mi hi o k ∧ dlT f mi hi o k ≤ 97200 := by
  have h2 := tmB_in (hi := hi) h0 h1 hf hk
  have h3 := hf k hk
  have h4 := hw k hk
  have h5 : 0 ≤ tmB f mi hi o k - (f (o k)).minute := by omega
  have h6 : tmB f mi hi o k - (f (o k)).minute ≤ 10800 := by omega
  refine ⟨h5, h6, Int.mul_nonneg (by omega) h5, ?_⟩
  exact Int.le_trans (Int.mul_le_mul h4.2 h6 h5 (by omega)) (by omega)
theorem dl_in {f : Nat → Aw} {mi : Int} {hi : Bool} {o : Nat → Nat} (h0 : 0 ≤ mi) (h1 : mi ≤ 60) {m : Nat} (hm : m ≤ 6) (hf : ∀ k, k < m → 0 ≤ (f (o k)).minute ∧ (f (o k)).minute ≤ 9999) (hw : ∀ k, k < m → 1 ≤ (f (o k)).weight ∧ (f (o k)).weight ≤ 9) : ∀ k, k ≤ m → 0 ≤ dl f mi hi o k ∧ dl f mi hi o k ≤ 97200 * k
  | 0, _ => ⟨Int.le_refl _, by show (0 : Int) ≤ _; omega⟩
  | k + 1, hk => by
    have ih := dl_in (hi := hi) h0 h1 hm hf hw k (by omega)
    have h2 := (dlT_in (hi := hi) h0 h1 hm hf hw (show k < m by omega)).2.2
    have e : dl f mi hi o (k + 1) = dl f mi hi o k + dlT f mi hi o k := rfl
    omega
def nth (p : List Nat) (k : Nat) : Nat := p.getD k 0
def dlL (f : Nat → Aw) (mi : Int) (hi : Bool) (p : List Nat) : Int := dl f mi hi (nth p) p.length
theorem nth_mem {p : List Nat} {k : Nat} (h : k < p.length) : nth p k ∈ p := by
  unfold nth
  rw [List.getD_eq_getElem?_getD, List.getElem?_eq_getElem h]
  exact List.getElem_mem h
theorem dlL_in {n : Nat} {f : Nat → Aw} {mi : Int} {hi : Bool} {p : List Nat} (hg : aGood n f) (h0 : 0 ≤ mi) (h1 : mi ≤ 60) (hp : ∀ x ∈ p, x < n) (hl : p.length ≤ 6) : 0 ≤ dlL f mi hi p ∧ dlL f mi hi p ≤ 583200 := by
  have := dl_in (f := f) (hi := hi) (o := nth p) (m := p.length) h0 h1 hl (fun k hk => (hg.1 _ (hp _ (nth_mem hk))).2.1) (fun k hk => (hg.1 _ (hp _ (nth_mem hk))).2.2.1) p.length (Nat.le_refl _)
  unfold dlL
  omega
section
variable (n : Nat) (f : Nat → Aw) (mi : Int) (hi : Bool)
def nxt (p : List Nat) (i : Nat) : Prop := i ∉ p ∧ ∀ k, k < n → k ≠ i → (f k).up = (f i).up → bef (f k) (f i) → k ∈ p
def vld (p : List Nat) : Prop := ∀ a x b, p = a ++ x :: b → x < n ∧ nxt n f a x
def isO (p : List Nat) : Prop := p.length = n ∧ ∀ a x b, p = a ++ x :: b → x < n ∧ x ∉ a ∧ ∀ y ∈ a, (f y).up = (f x).up → ¬ bef (f x) (f y)
noncomputable def cmb (a b : List Nat × Int) : List Nat × Int := if tr (a.2 < 0 ∨ b.2 < a.2) then b else a
def foldN {α : Type} (step : α → Nat → α) (init : α) : Nat → α
  | 0 => init
  | k + 1 => step (foldN step init k) k
noncomputable def best : Nat → List Nat → List Nat × Int
  | 0, p => (p, dlL f mi hi p)
  | d + 1, p => foldN (fun acc k => if tr (nxt n f p k) then cmb acc (best d (p ++ [k])) else acc) ([], -1) n
noncomputable def fin (p : List Nat) (acc : List Nat × Int) : List Nat × Int := if tr (isO n f p) then cmb acc (p, dlL f mi hi p) else acc
noncomputable def vis : Nat → List Nat → List Nat × Int → List Nat × Int
  | 0, p, acc => fin n f mi hi p acc
  | d + 1, p, acc => fin n f mi hi p (foldN (fun acc k => if tr (k ∈ p) then acc else vis d (p ++ [k]) acc) acc n)
end
section
variable {n : Nat} {f : Nat → Aw} {mi : Int} {hi : Bool}
theorem vld_snoc {p : List Nat} {k : Nat} : vld n f (p ++ [k]) ↔ vld n f p ∧ k < n ∧ nxt n f p k := by
  constructor
  · intro h
    refine ⟨fun a x b e => ?_, h p k [] rfl⟩
    exact h a x (b ++ [k]) (by rw [e]; simp)
  · rintro ⟨h1, h2, h3⟩ a x b e
    rcases List.eq_nil_or_concat b with rfl | ⟨c, y, rfl⟩
    · obtain ⟨e1, e2⟩ := List.append_inj' e rfl
      cases e2
      subst e1
      exact ⟨h2, h3⟩
    · have e' : p ++ [k] = (a ++ x :: c) ++ [y] := by rw [e]; simp
      obtain ⟨e1, e2⟩ := List.append_inj' e' rfl
      exact h1 a x c e1
theorem vld_nd : ∀ {p : List Nat}, vld n f p → p.Nodup ∧ ∀ x ∈ p, x < n := by
  intro p
  induction hl : p.length generalizing p with
  | zero =>
    intro _
    obtain rfl := List.eq_nil_of_length_eq_zero hl
    simp
  | succ m ih =>
    intro h
    rcases List.eq_nil_or_concat p with rfl | ⟨q, k, rfl⟩
    · simp at hl
    · have h' : vld n f (q ++ [k]) := by simpa using h
      obtain ⟨h1, h2, h3⟩ := vld_snoc.1 h'
      have hq : q.length = m := by simpa using hl
      obtain ⟨i1, i2⟩ := ih hq h1
      have := nd_snoc i1 h3.1
      refine ⟨by simpa using this, fun x hx => ?_⟩
      have hx' : x ∈ q ∨ x = k := by simpa using hx
      rcases hx' with e | e
      · exact i2 x e
      · rw [e]; exact h2
theorem bef_not {a b : Aw} (h : bef a b) : ¬ bef b a := by unfold bef at *; omega
theorem isO_vld {p : List Nat} (hn : p.Nodup) (hx : ∀ x ∈ p, x < n) (hl : p.length = n) : isO n f p ↔ vld n f p := by
  constructor
  · rintro ⟨_, h⟩ a x b e
    obtain ⟨h1, h2, h3⟩ := h a x b e
    refine ⟨h1, h2, fun k hk hne hu hb => ?_⟩
    have hm := nd_all hn hx hl hk
    rw [e] at hm
    rcases List.mem_append.1 hm with hm | hm
    · exact hm
    rcases List.mem_cons.1 hm with hm | hm
    · exact absurd hm hne
    · exfalso
      obtain ⟨c, d, hd⟩ := List.append_of_mem hm
      have e2 : p = (a ++ x :: c) ++ k :: d := by rw [e, hd]; simp
      exact (h _ _ _ e2).2.2 x (by simp) hu.symm hb
  · intro h
    refine ⟨hl, fun a x b e => ?_⟩
    obtain ⟨h1, h2, h3⟩ := h a x b e
    refine ⟨h1, h2, fun y hy hu hb => ?_⟩
    obtain ⟨c, d, rfl⟩ := List.append_of_mem hy
    have e2 : p = c ++ y :: (d ++ x :: b) := by rw [e]; simp
    have hne : x ≠ y := fun e3 => by subst e3; exact h2 hy
    have := (h _ _ _ e2).2.2 x h1 hne hu.symm hb
    exact h2 (List.mem_append_left _ this)
theorem cmb_pos {a b : List Nat × Int} (h : 0 ≤ b.2) : 0 ≤ (cmb a b).2 := by
  unfold cmb
  by_cases hc : a.2 < 0 ∨ b.2 < a.2
  · rw [tr_yes hc]; exact h
  · rw [tr_no hc]
    show 0 ≤ a.2
    omega
theorem cmb_assoc {a s b : List Nat × Int} (hs : 0 ≤ s.2) (hb : 0 ≤ b.2) : cmb (cmb a s) b = cmb a (cmb s b) := by
  have y : ∀ {u v : List Nat × Int}, (u.2 < 0 ∨ v.2 < u.2) → cmb u v = v := fun h => by unfold cmb; rw [tr_yes h]; rfl
  have z : ∀ {u v : List Nat × Int}, ¬ (u.2 < 0 ∨ v.2 < u.2) → cmb u v = u := fun h => by unfold cmb; rw [tr_no h]; rfl
  by_cases h1 : a.2 < 0 ∨ s.2 < a.2
  · rw [y h1]
    by_cases h2 : s.2 < 0 ∨ b.2 < s.2
    · rw [y h2, y (show a.2 < 0 ∨ b.2 < a.2 by omega)]
    · rw [z h2, y h1]
  · rw [z h1]
    by_cases h2 : s.2 < 0 ∨ b.2 < s.2
    · rw [y h2]
    · rw [z h2, z h1, z (show ¬ (a.2 < 0 ∨ b.2 < a.2) by omega)]
theorem cmb_nil {b : List Nat × Int} : cmb ([], -1) b = b := by unfold cmb; rw [tr_yes (.inl (by decide))]; rfl
theorem fin_no {p : List Nat} {acc : List Nat × Int} (h : ¬ isO n f p) : fin n f mi hi p acc = acc := by unfold fin; rw [tr_no h]; rfl
theorem fin_yes {p : List Nat} {acc : List Nat × Int} (h : isO n f p) : fin n f mi hi p acc = cmb acc (p, dlL f mi hi p) := by unfold fin; rw [tr_yes h]; rfl
theorem foldN_id {α : Type} {step : α → Nat → α} {init : α} : ∀ k : Nat, (∀ i, i < k → step init i = init) → foldN step init k = init
  | 0, _ => rfl
  | k + 1, h => by show step (foldN step init k) k = init; rw [foldN_id k (fun i hi => h i (by omega)), h k (by omega)]
theorem vis_no : ∀ (d : Nat) (p : List Nat) (acc : List Nat × Int), p.Nodup → (∀ x ∈ p, x < n) → p.length + d = n → ¬ vld n f p → vis n f mi hi d p acc = acc
  | 0, p, acc, hn, hx, hl, hv => fin_no fun h => hv ((isO_vld hn hx hl).1 h)
  | d + 1, p, acc, hn, hx, hl, hv => by
    show fin n f mi hi p _ = acc
    rw [fin_no fun h => by have := h.1; omega]
    refine foldN_id n fun k hk => ?_
    by_cases hm : k ∈ p
    · rw [tr_yes hm]; rfl
    · rw [tr_no hm]
      show vis n f mi hi d (p ++ [k]) acc = acc
      refine vis_no d _ acc (nd_snoc hn hm) (fun x h => ?_) (by simp; omega) (fun h => hv (vld_snoc.1 h).1)
      rcases List.mem_append.1 h with e | e
      · exact hx x e
      · rw [List.mem_singleton.1 e]; exact hk
theorem nxt_some (hg : aGood n f) {p : List Nat} (hl : p.length < n) : ∃ i, i < n ∧ nxt n f p i := by
  have h0 : ∃ i, i < n ∧ i ∉ p := by
    apply Classical.byContradiction
    intro h
    have := all_le n p fun i hi => Classical.byContradiction fun hm => h ⟨i, hi, hm⟩
    omega
  obtain ⟨i0, h1, h2⟩ := h0
  obtain ⟨m, ⟨i, hi1, hi2, rfl⟩, hmin⟩ := minN (fun m => ∃ i, i < n ∧ i ∉ p ∧ key (f i) = m) ⟨_, i0, h1, h2, rfl⟩
  refine ⟨i, hi1, hi2, fun k hk hne hu hb => ?_⟩
  apply Classical.byContradiction
  intro hm
  have h3 := hmin _ ⟨k, hk, hm, rfl⟩
  have h4 := (bef_key hg hk hi1).1 hb
  omega
theorem vis_yes (hg : aGood n f) (h0 : 0 ≤ mi) (h1 : mi ≤ 60) : ∀ (d : Nat) (p : List Nat) (acc : List Nat × Int), vld n f p → p.length + d = n → vis n f mi hi d p acc = cmb acc (best n f mi hi d p) ∧ 0 ≤ (best n f mi hi d p).2
  | 0, p, acc, hv, hl => by
    obtain ⟨hn, hx⟩ := vld_nd hv
    have := hg.2
    exact ⟨fin_yes ((isO_vld hn hx hl).2 hv), (dlL_in hg h0 h1 hx (by omega)).1⟩
  | d + 1, p, acc, hv, hl => by
    obtain ⟨hn, hx⟩ := vld_nd hv
    have key : ∀ k, k ≤ n → let S := foldN (fun acc k => if tr (nxt n f p k) then cmb acc (best n f mi hi d (p ++ [k])) else acc) ([], -1) k
        let T := foldN (fun acc k => if tr (k ∈ p) then acc else vis n f mi hi d (p ++ [k]) acc) acc k
        ((S = ([], -1) ∧ T = acc ∧ ∀ i, i < k → ¬ nxt n f p i) ∨ (0 ≤ S.2 ∧ T = cmb acc S)) := by
      intro k
      induction k with
      | zero => exact fun _ => .inl ⟨rfl, rfl, fun i hi => absurd hi (Nat.not_lt_zero i)⟩
      | succ k ih =>
        intro hk
        have ih := ih (by omega)
        dsimp only [foldN] at ih ⊢
        generalize foldN (fun acc k => if tr (nxt n f p k) then cmb acc (best n f mi hi d (p ++ [k])) else acc) ([], -1) k = S at *
        generalize foldN (fun acc k => if tr (k ∈ p) then acc else vis n f mi hi d (p ++ [k]) acc) acc k = T at *
        by_cases hnx : nxt n f p k
        · rw [tr_yes hnx, tr_no hnx.1]
          simp only [if_true, Bool.false_eq_true, if_false]
          have hv2 : vld n f (p ++ [k]) := vld_snoc.2 ⟨hv, by omega, hnx⟩
          obtain ⟨e1, e2⟩ := vis_yes hg h0 h1 d (p ++ [k]) T hv2 (by simp; omega)
          refine .inr ⟨cmb_pos e2, ?_⟩
          rw [e1]
          rcases ih with ⟨i1, i2, _⟩ | ⟨i1, i2⟩
          · rw [i1, i2, cmb_nil]
          · rw [i2, cmb_assoc i1 e2]
        · rw [tr_no hnx]
          simp only [Bool.false_eq_true, if_false]
          have eT : (if tr (k ∈ p) then T else vis n f mi hi d (p ++ [k]) T) = T := by
            by_cases hm : k ∈ p
            · rw [tr_yes hm]; rfl
            · rw [tr_no hm]
              show vis n f mi hi d (p ++ [k]) T = T
              refine vis_no d _ T (nd_snoc hn hm) (fun x h => ?_) (by simp; omega) (fun h => hnx (vld_snoc.1 h).2.2)
              rcases List.mem_append.1 h with e | e
              · exact hx x e
              · rw [List.mem_singleton.1 e]; omega
          rw [eT]
          rcases ih with ⟨i1, i2, i3⟩ | ih
          · refine .inl ⟨i1, i2, fun i hi => ?_⟩
            rcases Nat.lt_or_ge i k with h2 | h2
            · exact i3 i h2
            · obtain rfl : i = k := by omega
              exact hnx
          · exact .inr ih
    have kk := key n (Nat.le_refl n)
    show fin n f mi hi p _ = _ ∧ _
    rw [fin_no fun h => by have := h.1; omega]
    rcases kk with ⟨_, _, k3⟩ | ⟨k1, k2⟩
    · obtain ⟨i, i1, i2⟩ := nxt_some hg (show p.length < n by omega)
      exact absurd i2 (k3 i i1)
    · exact ⟨k2, k1⟩
theorem vld_nil : vld n f [] := fun a x b e => by cases a <;> cases e
theorem vis_best (hg : aGood n f) (h0 : 0 ≤ mi) (h1 : mi ≤ 60) : vis n f mi hi n [] ([], -1) = best n f mi hi n [] := by
  rw [(vis_yes hg h0 h1 n [] ([], -1) vld_nil (by simp)).1, cmb_nil]
theorem best_in (hg : aGood n f) (h0 : 0 ≤ mi) (h1 : mi ≤ 60) : ∀ (d : Nat) (p : List Nat), vld n f p → p.length + d = n → vld n f (best n f mi hi d p).1 ∧ (best n f mi hi d p).1.length = n ∧ 0 ≤ (best n f mi hi d p).2 ∧ (best n f mi hi d p).2 ≤ 583200
  | 0, p, hv, hl => by
    obtain ⟨hn, hx⟩ := vld_nd hv
    have := hg.2
    exact ⟨hv, hl, dlL_in hg h0 h1 hx (by omega)⟩
  | d + 1, p, hv, hl => by
    have hpos := (vis_yes (mi := mi) (hi := hi) hg h0 h1 (d + 1) p ([], -1) hv hl).2
    have key : ∀ k, k ≤ n → let S := foldN (fun acc k => if tr (nxt n f p k) then cmb acc (best n f mi hi d (p ++ [k])) else acc) ([], -1) k
        (S = ([], -1) ∨ (vld n f S.1 ∧ S.1.length = n ∧ 0 ≤ S.2 ∧ S.2 ≤ 583200)) := by
      intro k
      induction k with
      | zero => exact fun _ => .inl rfl
      | succ k ih =>
        intro hk
        have ih := ih (by omega)
        dsimp only [foldN] at ih ⊢
        generalize foldN (fun acc k => if tr (nxt n f p k) then cmb acc (best n f mi hi d (p ++ [k])) else acc) ([], -1) k = S at *
        by_cases hnx : nxt n f p k
        · rw [tr_yes hnx]
          simp only [if_true]
          have hv2 : vld n f (p ++ [k]) := vld_snoc.2 ⟨hv, by omega, hnx⟩
          have hb := best_in hg h0 h1 d (p ++ [k]) hv2 (by simp; omega)
          right
          unfold cmb
          by_cases hc : S.2 < 0 ∨ (best n f mi hi d (p ++ [k])).2 < S.2
          · rw [tr_yes hc]; exact hb
          · rw [tr_no hc]
            rcases ih with i1 | i1
            · rw [i1] at hc; exact absurd (.inl (by decide)) hc
            · exact i1
        · rw [tr_no hnx]
          exact ih
    rcases key n (Nat.le_refl n) with k1 | k1
    · have e : best n f mi hi (d + 1) p = ([], -1) := k1
      rw [e] at hpos
      exact absurd hpos (by decide)
    · exact k1
end
end Go.Proofs.YtadjhkehfklmnaaGreatDoor
namespace Go.Proofs.YtadjhkehfklmnaaGreatDoor
set_option linter.unusedSimpArgs false
set_option linter.unusedVariables false
open Go.RowKit
set_option maxRecDepth 10000
def Ba.ok (b : Ba) : Prop := 0 ≤ b.least ∧ b.least ≤ b.vol ∧ b.vol ≤ b.most ∧ b.most ≤ 100000
def bGood (n : Nat) (f : Nat → Ba) : Prop := (∀ i, i < n → (f i).ok) ∧ 1 ≤ n ∧ n ≤ 6
theorem bGood.no {n k : Nat} {f : Nat → Ba} (hk : k < n) (h : ¬ (f k).ok) : ¬ bGood n f := fun g => h (g.1 k hk)
def bFlow (n : Nat) (a b v : Int) : Prop := (-1 ≤ a ∧ a ≤ (n : Int) - 1) ∧ (-1 ≤ b ∧ b ≤ (n : Int) - 1) ∧ a ≠ b ∧ (1 ≤ v ∧ v ≤ 100000)
def bMv1 (a b v : Int) (i : Nat) (x : Ba) : Ba := if (i : Int) = b then { x with vol := x.vol + v } else if (i : Int) = a then { x with vol := x.vol - v } else x
def bMv (f : Nat → Ba) (a b v : Int) (i : Nat) : Ba := bMv1 a b v i (f i)
def bCan (n : Nat) (f : Nat → Ba) (a b v : Int) : Prop := bGood n f ∧ bFlow n a b v ∧ bGood n (bMv f a b v)
theorem bMv_to {f : Nat → Ba} {a b v : Int} {i : Nat} (h : (i : Int) = b) : bMv f a b v i = { f i with vol := (f i).vol + v } := if_pos h
theorem bMv_from {f : Nat → Ba} {a b v : Int} {i : Nat} (h : ¬ (i : Int) = b) (h2 : (i : Int) = a) : bMv f a b v i = { f i with vol := (f i).vol - v } := by unfold bMv bMv1; rw [if_neg h, if_pos h2]
theorem bMv_no {f : Nat → Ba} {a b v : Int} {i : Nat} (h : ¬ (i : Int) = b) (h2 : ¬ (i : Int) = a) : bMv f a b v i = f i := by unfold bMv bMv1; rw [if_neg h, if_neg h2]
theorem vols_in {n : Nat} {f : Nat → Ba} (h : bGood n f) : ∀ k, k ≤ n → 0 ≤ smI (fun i => (f i).vol) k ∧ smI (fun i => (f i).vol) k ≤ 100000 * k
  | 0, _ => ⟨Int.le_refl _, by show (0 : Int) ≤ _; omega⟩
  | k + 1, hk => by
    have ih := vols_in h k (by omega)
    have h2 := h.1 k (by omega)
    unfold Ba.ok at h2
    have e : smI (fun i => (f i).vol) (k + 1) = smI (fun i => (f i).vol) k + (f k).vol := rfl
    omega
theorem ba_cell (n : Nat) (f : Nat → Ba) (i : Nat) (hi : i < n) (x : Int) : setRange (BaS n f) (i * 3) [.int .i64 x] = BaS n (upd f i { f i with vol := x }) := by
  apply List.ext_getElem?
  intro j
  have hl : i * 3 + 3 ≤ n * 3 := by omega
  rw [setRange_get _ _ _ _ (by rw [BaS.len]; simp; omega)]
  by_cases hj : j < n * 3
  · have e : j = j / 3 * 3 + j % 3 := by omega
    have hm : j % 3 < 3 := Nat.mod_lt _ (by omega)
    have hq : j / 3 < n := by omega
    have g : ∀ f : Nat → Ba, (BaS n f)[j]? = ((f (j / 3)).cells)[j % 3]? := fun f => by
      have := rowsN_get (f := fun i => (f i).cells) (s := 3) (fun _ => rfl) n (j / 3) (j % 3) hq hm
      rw [← e] at this
      exact this
    rw [g, g]
    by_cases h1 : j / 3 = i
    · rw [h1, upd_at]
      by_cases h2 : j % 3 = 0
      · rw [if_pos (by simp; omega), show j - i * 3 = 0 by omega, h2]
        rfl
      · rw [if_neg (by simp; omega)]
        have : j % 3 = 1 ∨ j % 3 = 2 := by omega
        rcases this with h3 | h3 <;> rw [h3] <;> rfl
    · rw [if_neg (by simp; omega), upd_ne _ _ h1]
  · rw [if_neg (by simp; omega), List.getElem?_eq_none (by rw [BaS.len]; omega), List.getElem?_eq_none (by rw [BaS.len]; omega)]
theorem ba_row (n : Nat) (f : Nat → Ba) (i : Nat) (hi : i < n) (x : Ba) : setRange (BaS n f) (i * 3) x.cells = BaS n (upd f i x) := by
  apply List.ext_getElem?
  intro j
  have hl : i * 3 + 3 ≤ n * 3 := by omega
  have hxl : x.cells.length = 3 := rfl
  rw [setRange_get _ _ _ _ (by rw [BaS.len, hxl]; omega), hxl]
  by_cases hj : j < n * 3
  · have e : j = j / 3 * 3 + j % 3 := by omega
    have hm : j % 3 < 3 := Nat.mod_lt _ (by omega)
    have hq : j / 3 < n := by omega
    have g : ∀ f : Nat → Ba, (BaS n f)[j]? = ((f (j / 3)).cells)[j % 3]? := fun f => by
      have := rowsN_get (f := fun i => (f i).cells) (s := 3) (fun _ => rfl) n (j / 3) (j % 3) hq hm
      rw [← e] at this
      exact this
    rw [g, g]
    by_cases h1 : j / 3 = i
    · rw [h1, upd_at, if_pos (by omega), show j - i * 3 = j % 3 by omega]
    · rw [if_neg (by omega), upd_ne _ _ h1]
  · rw [if_neg (by omega), List.getElem?_eq_none (by rw [BaS.len]; omega), List.getElem?_eq_none (by rw [BaS.len]; omega)]
end Go.Proofs.YtadjhkehfklmnaaGreatDoor
namespace Go.Proofs.YtadjhkehfklmnaaGreatDoor
set_option linter.unusedSimpArgs false
set_option linter.unusedVariables false
open Go.RowKit
set_option maxRecDepth 10000
section
variable (f : Nat → Aw)
noncomputable def bk (l : List Nat) (k : Nat) : Nat → Nat
  | 0 => 0
  | j + 1 => if tr (bef (f k) (f (nth l j))) then bk l k j else j + 1
noncomputable def put (l : List Nat) (k : Nat) : List Nat := l.take (bk f l k l.length) ++ k :: l.drop (bk f l k l.length)
noncomputable def fc : Nat → List Nat
  | 0 => []
  | k + 1 => put f (fc k) k
end
section
variable {f : Nat → Aw}
theorem bk_yes {l : List Nat} {k j : Nat} (h : bef (f k) (f (nth l j))) : bk f l k (j + 1) = bk f l k j := by
  show (if tr (bef (f k) (f (nth l j))) then _ else _) = _
  rw [tr_yes h]; rfl
theorem bk_no {l : List Nat} {k j : Nat} (h : ¬ bef (f k) (f (nth l j))) : bk f l k (j + 1) = j + 1 := by
  show (if tr (bef (f k) (f (nth l j))) then _ else _) = _
  rw [tr_no h]; rfl
theorem bk_le (l : List Nat) (k : Nat) : ∀ j, bk f l k j ≤ j
  | 0 => Nat.le_refl _
  | j + 1 => by
    by_cases h : bef (f k) (f (nth l j))
    · rw [bk_yes h]; have := bk_le l k j; omega
    · rw [bk_no h]; omega
theorem put_len (l : List Nat) (k : Nat) : (put f l k).length = l.length + 1 := by
  have := bk_le (f := f) l k l.length
  unfold put
  simp only [List.length_append, List.length_take, List.length_cons, List.length_drop]
  omega
theorem fc_len : ∀ k, (fc f k).length = k
  | 0 => rfl
  | k + 1 => by show (put f (fc f k) k).length = k + 1; rw [put_len, fc_len k]
theorem fc_lt : ∀ k, ∀ x ∈ fc f k, x < k
  | 0, x, h => by cases h
  | k + 1, x, h => by
    have h' : x ∈ put f (fc f k) k := h
    unfold put at h'
    rcases List.mem_append.1 h' with h1 | h1
    · have := fc_lt k x (List.mem_of_mem_take h1); omega
    · rcases List.mem_cons.1 h1 with h2 | h2
      · omega
      · have := fc_lt k x (List.mem_of_mem_drop h2); omega
theorem fc_mem {k m : Nat} (h : m < k) : nth (fc f k) m < k := fc_lt k _ (nth_mem (by rw [fc_len]; exact h))
def quS (f : Nat → Aw) (mi : Int) (o : Nat → Nat) : Nat → Int × Int × Int
  | 0 => (0, 0, 9)
  | k + 1 => let s := quS f mi o k
    (s.1 + (mx s.2.1 (f (o k)).minute - (f (o k)).minute), mx s.2.1 (f (o k)).minute + mi, mn s.2.2 (f (o k)).weight)
theorem quS_in {f : Nat → Aw} {mi : Int} {o : Nat → Nat} (h0 : 0 ≤ mi) (h1 : mi ≤ 60) {m : Nat} (hm : m ≤ 6) (hf : ∀ k, k < m → 0 ≤ (f (o k)).minute ∧ (f (o k)).minute ≤ 9999) (hw : ∀ k, k < m → 1 ≤ (f (o k)).weight ∧ (f (o k)).weight ≤ 9) : ∀ k, k ≤ m → (0 ≤ (quS f mi o k).1 ∧ (quS f mi o k).1 ≤ 10800 * k) ∧ (0 ≤ (quS f mi o k).2.1 ∧ (quS f mi o k).2.1 ≤ 9999 + 60 * k) ∧ (1 ≤ (quS f mi o k).2.2 ∧ (quS f mi o k).2.2 ≤ 9)
  | 0, _ => ⟨⟨Int.le_refl _, by show (0 : Int) ≤ _; omega⟩, ⟨Int.le_refl _, by show (0 : Int) ≤ _; omega⟩, show (1 : Int) ≤ 9 by omega, Int.le_refl _⟩
  | k + 1, hk => by
    have ih := quS_in h0 h1 hm hf hw k (by omega)
    have h2 := hf k (by omega)
    have h3 := hw k (by omega)
    unfold quS
    dsimp only
    unfold mx mn
    split <;> split <;> omega
noncomputable def quB (f : Nat → Aw) (mi : Int) (n : Nat) : Int := (quS f mi (nth (fc f n)) n).2.2 * (quS f mi (nth (fc f n)) n).1
def alB (f : Nat → Aw) (mi : Int) (hi : Bool) (n : Nat) : Int := smI (fun i => dl (fun _ => f i) mi hi (fun _ => 0) 1) n
noncomputable def loB (f : Nat → Aw) (mi : Int) (hi : Bool) (n : Nat) : Int := mx (alB f mi hi n) (quB f mi n)
theorem alB_in {n : Nat} {mi : Int} {hi : Bool} (hg : aGood n f) (h0 : 0 ≤ mi) (h1 : mi ≤ 60) : ∀ k, k ≤ n → 0 ≤ alB f mi hi k ∧ alB f mi hi k ≤ 97200 * k
  | 0, _ => ⟨Int.le_refl _, by show (0 : Int) ≤ _; omega⟩
  | k + 1, hk => by
    have ih := alB_in (hi := hi) hg h0 h1 k (by omega)
    have h2 := hg.1 k (by omega)
    have h3 := dl_in (f := fun _ => f k) (hi := hi) (o := fun _ => 0) (m := 1) h0 h1 (by omega) (fun _ _ => h2.2.1) (fun _ _ => h2.2.2.1) 1 (Nat.le_refl _)
    have e : alB f mi hi (k + 1) = alB f mi hi k + dl (fun _ => f k) mi hi (fun _ => 0) 1 := rfl
    omega
theorem quB_in {n : Nat} {mi : Int} (hg : aGood n f) (h0 : 0 ≤ mi) (h1 : mi ≤ 60) : 0 ≤ quB f mi n ∧ quB f mi n ≤ 583200 := by
  have hn := hg.2
  have h := quS_in (f := f) (o := nth (fc f n)) h0 h1 hn (fun k hk => (hg.1 _ (fc_mem hk)).2.1) (fun k hk => (hg.1 _ (fc_mem hk)).2.2.1) n (Nat.le_refl _)
  unfold quB
  generalize (quS f mi (nth (fc f n)) n).2.2 = a at *
  generalize (quS f mi (nth (fc f n)) n).1 = b at *
  have h2 : b ≤ 64800 := by omega
  refine ⟨Int.mul_nonneg (by omega) h.1.1, Int.le_trans (Int.mul_le_mul h.2.2.2 h2 h.1.1 (by omega)) (by omega)⟩
theorem loB_in {n : Nat} {mi : Int} {hi : Bool} (hg : aGood n f) (h0 : 0 ≤ mi) (h1 : mi ≤ 60) : 0 ≤ loB f mi hi n ∧ loB f mi hi n ≤ 583200 := by
  have hn := hg.2
  have h2 := alB_in (hi := hi) hg h0 h1 n (Nat.le_refl _)
  have h3 := quB_in (f := f) hg h0 h1
  unfold loB mx
  split <;> omega
end
end Go.Proofs.YtadjhkehfklmnaaGreatDoor
namespace Go.Proofs.YtadjhkehfklmnaaGreatDoor
set_option linter.unusedSimpArgs false
set_option linter.unusedVariables false
open Go.RowKit
abbrev Sl2 := (Option Addr × Nat) × (Option Addr × Nat)
end Go.Proofs.YtadjhkehfklmnaaGreatDoor
namespace Go.Proofs.YtadjhkehfklmnaaGreatDoor
set_option linter.unusedSimpArgs false
set_option linter.unusedVariables false
open Go.RowKit
set_option maxRecDepth 10000
def tx (l : List UInt8) : ByteArray := ⟨l.toArray⟩
def YS (l : List UInt8) : List Value := l.map fun b => .int .u8 (b.toNat : Int)
theorem tx_size (l : List UInt8) : (tx l).size = l.length := by simp [tx, ByteArray.size]
theorem tx_app (a b : List UInt8) : tx a ++ tx b = tx (a ++ b) := by
  apply ByteArray.ext
  simp [tx, ByteArray.data_append]
theorem YS_get (l : List UInt8) (i : Nat) (hi : i < (tx l).size) : (YS l)[i]? = some (.int .u8 ((tx l)[i].toNat : Int)) := by
  have h : i < l.length := by rw [← tx_size]; exact hi
  unfold YS
  rw [List.getElem?_map, List.getElem?_eq_getElem h]
  rfl
theorem VCat.of {a b : List UInt8} {K : Value → Prop} (h : a.length + b.length ≤ 9223372036854775807) (k : K (.string (tx (a ++ b)))) : VCat (tx a) (tx b) K :=
  .mk (by rw [tx_size, tx_size]; exact h) (by rw [tx_app]; exact k)
theorem VBytes.of {w0 : Base} {own : List Own} {g : Nat} {K : Value → Prop} (k : Nat) {n' c : Nat} {ty : TypeId} {size m : Nat} (l : List UInt8) {n : Nat} (hn : n = l.length) (hk : own[k]? = some (.row (.slice (some ⟨g, 0, none⟩) n' c) ty size m (YS l))) (kk : K (.string (tx l))) : VBytes w0 own g 0 n K :=
  VBytes.row k hk (tx l) (by rw [tx_size, hn]) (YS_get l) kk
theorem VApp.pushS {w0 : Base} {own : List Own} {K : Value → List Own → Prop} {e size : Nat} {s x : Value} (k j : Nat) {n : Nat} {xs : List Value} (hk : own[k]? = some (.row s e size n xs)) {g m c : Nat} {ty : TypeId} {cs : List Value} (hj : own[j]? = some (.blk g ty cs)) (hx : x = .slice (some ⟨g, 0, none⟩) m c) (hl : cs.length = m * size) (h1 : cs.all (·.oneCell') = true) (hn : n + m ≤ 17179869184) (hp : 0 < n + m)
    (c : ∀ g' c', setK own k (.row (.slice (some ⟨g', 0, none⟩) (n + m) c') e size (n + m) (xs ++ cs)) fun own => K (.slice (some ⟨g', 0, none⟩) (n + m) c') own) : VApp w0 own e size s x K :=
  .row k hk hx cs hl (fun i u hu => Rd.own j hj (by simpa using hu)) h1 hn (fun A c' hg => by obtain ⟨g', rfl⟩ := hg.1 hp; exact c g' c')
end Go.Proofs.YtadjhkehfklmnaaGreatDoor
namespace Go.Proofs.YtadjhkehfklmnaaGreatDoor
set_option linter.unusedSimpArgs false
set_option linter.unusedVariables false
open Go.RowKit
set_option maxRecDepth 10000
theorem tx_list (s : ByteArray) : tx s.data.toList = s := by
  apply ByteArray.ext
  simp [tx]
theorem tx_inj {a b : List UInt8} (h : tx a = tx b) : a = b := by
  have := congrArg (fun s : ByteArray => s.data.toList) h
  simpa [tx] using this
theorem tx_ne {a b : List UInt8} (h : ¬ a = b) : ¬ tx a = tx b := fun e => h (tx_inj e)
theorem tx_sub (l : List UInt8) (i j : Nat) : (tx l).extract i j = tx ((l.take j).drop i) := by
  apply ByteArray.ext
  simp [tx, List.extract_eq_take_drop, List.drop_take]
theorem tx_from (l : List UInt8) (i : Nat) : (tx l).extract i (tx l).size = tx (l.drop i) := by rw [tx_sub, tx_size, List.take_length]
theorem tx_to (l : List UInt8) (j : Nat) : (tx l).extract 0 j = tx (l.take j) := by rw [tx_sub]; rfl
theorem getD_tx (p : List UInt8) (k : Nat) (h : k < p.length) : (tx p)[k]'(by rw [tx_size]; exact h) = p.getD k 0 := by
  rw [List.getD_eq_getElem?_getD, List.getElem?_eq_getElem h]
  rfl
def bfs (c : UInt8) : List UInt8 → List UInt8
  | [] => []
  | b :: l => if b = c then [] else b :: bfs c l
def afs (c : UInt8) : List UInt8 → List UInt8
  | [] => []
  | b :: l => if b = c then l else afs c l
theorem bfs_no {c : UInt8} {l : List UInt8} (h : c ∉ l) : bfs c l = l ∧ afs c l = [] := by
  induction l with
  | nil => exact ⟨rfl, rfl⟩
  | cons b l ih =>
    have h1 : ¬ b = c := fun e => h (by simp [e])
    obtain ⟨i1, i2⟩ := ih (fun e => h (by simp [e]))
    exact ⟨by show (if _ then _ else _) = _; rw [if_neg h1, i1], by show (if _ then _ else _) = _; rw [if_neg h1, i2]⟩
theorem bfs_yes {c : UInt8} {l : List UInt8} (h : c ∈ l) : l = bfs c l ++ c :: afs c l ∧ c ∉ bfs c l := by
  induction l with
  | nil => simp at h
  | cons b l ih =>
    by_cases h1 : b = c
    · subst h1
      have e1 : bfs b (b :: l) = [] := if_pos rfl
      have e2 : afs b (b :: l) = l := if_pos rfl
      exact ⟨by rw [e1, e2]; rfl, by rw [e1]; simp⟩
    · have h2 : c ∈ l := by
        rcases List.mem_cons.1 h with e | e
        · exact absurd e.symm h1
        · exact e
      obtain ⟨i1, i2⟩ := ih h2
      have e1 : bfs c (b :: l) = b :: bfs c l := if_neg h1
      have e2 : afs c (b :: l) = afs c l := if_neg h1
      rw [e1, e2]
      refine ⟨by rw [List.cons_append, ← i1], fun q => ?_⟩
      rcases List.mem_cons.1 q with e | e
      · exact h1 e.symm
      · exact i2 e
theorem bfs_at {c : UInt8} {p q : List UInt8} (h : c ∉ p) : bfs c (p ++ c :: q) = p ∧ afs c (p ++ c :: q) = q := by
  induction p with
  | nil => exact ⟨if_pos rfl, if_pos rfl⟩
  | cons b l ih =>
    have h1 : ¬ b = c := fun e => h (by simp [e])
    obtain ⟨i1, i2⟩ := ih (fun e => h (by simp [e]))
    exact ⟨(show (if b = c then [] else b :: bfs c (l ++ c :: q)) = _ by rw [if_neg h1, i1]), (show (if b = c then _ else afs c (l ++ c :: q)) = _ by rw [if_neg h1, i2])⟩
theorem bfs_app {c : UInt8} {p : List UInt8} (q : List UInt8) (h : c ∈ p) : bfs c (p ++ q) = bfs c p ∧ afs c (p ++ q) = afs c p ++ q := by
  obtain ⟨e, h2⟩ := bfs_yes h
  have := bfs_at (q := afs c p ++ q) h2
  rw [show bfs c p ++ c :: (afs c p ++ q) = (bfs c p ++ c :: afs c p) ++ q by simp, ← e] at this
  exact this
theorem bfs_len {c : UInt8} {l : List UInt8} (h : c ∈ l) : l.length = (bfs c l).length + 1 + (afs c l).length := by
  have := congrArg List.length (bfs_yes h).1
  simp at this
  omega
theorem bfs_le (c : UInt8) (l : List UInt8) : (bfs c l).length ≤ l.length ∧ (afs c l).length ≤ l.length := by
  by_cases h : c ∈ l
  · have := bfs_len h; omega
  · rw [(bfs_no h).1, (bfs_no h).2]; simp
theorem afs_drop {c : UInt8} {l : List UInt8} (h : c ∈ l) : l.drop ((bfs c l).length + 1) = afs c l := by
  have e := (bfs_yes h).1
  have : (bfs c l ++ c :: afs c l).drop ((bfs c l).length + 1) = afs c l := by simp
  rw [← e] at this
  exact this
theorem bfs_get {c : UInt8} {l : List UInt8} (h : c ∈ l) : l[(bfs c l).length]? = some c := by
  have e := (bfs_yes h).1
  have : (bfs c l ++ c :: afs c l)[(bfs c l).length]? = some c := by rw [List.getElem?_append_right (Nat.le_refl _), Nat.sub_self]; rfl
  rw [← e] at this
  exact this
theorem bfs_all {c : UInt8} {l : List UInt8} : (bfs c l).length = l.length ↔ c ∉ l := by
  constructor
  · intro e h
    have := bfs_len h
    omega
  · intro h
    rw [(bfs_no h).1]
theorem index_bfs (c : UInt8) (l : List UInt8) : (Lib.indexByte l c = -1 ∧ bfs c l = l ∧ afs c l = [] ∧ c ∉ l) ∨ ∃ o : Nat, Lib.indexByte l c = o ∧ o < l.length ∧ bfs c l = l.take o ∧ afs c l = l.drop (o + 1) ∧ c ∈ l := by
  induction l with
  | nil => exact .inl ⟨rfl, rfl, rfl, by simp⟩
  | cons b l ih =>
    by_cases h1 : b = c
    · subst h1
      exact .inr ⟨0, by show (if b == b then (0 : Int) else _) = _; simp, by simp, if_pos rfl, if_pos rfl, by simp⟩
    · have e0 : Lib.indexByte (b :: l) c = if Lib.indexByte l c == -1 then -1 else Lib.indexByte l c + 1 := by
        show (if b == c then (0 : Int) else _) = _
        rw [if_neg (by simpa using h1)]
      have e1 : bfs c (b :: l) = b :: bfs c l := if_neg h1
      have e2 : afs c (b :: l) = afs c l := if_neg h1
      rw [e0, e1, e2]
      rcases ih with ⟨i1, i2, i3, i4⟩ | ⟨o, i1, i2, i3, i4, i5⟩
      · exact .inl ⟨by rw [i1]; rfl, by rw [i2], i3, fun q => by
          rcases List.mem_cons.1 q with e | e
          · exact h1 e.symm
          · exact i4 e⟩
      · refine .inr ⟨o + 1, ?_, by simp; omega, by rw [i3]; rfl, by rw [i4]; rfl, List.mem_cons_of_mem _ i5⟩
        rw [i1, if_neg (by simp)]
        omega
def spl (c : UInt8) (l : List UInt8) : Nat → List (List UInt8) × Nat
  | 0 => ([], 0)
  | k + 1 => if l[k]? = some c then ((spl c l k).1 ++ [(l.take k).drop (spl c l k).2], k + 1) else spl c l k
theorem spl_yes {c : UInt8} {l : List UInt8} {k : Nat} (h : l[k]? = some c) : spl c l (k + 1) = ((spl c l k).1 ++ [(l.take k).drop (spl c l k).2], k + 1) := if_pos h
theorem spl_no {c : UInt8} {l : List UInt8} {k : Nat} (h : ¬ l[k]? = some c) : spl c l (k + 1) = spl c l k := if_neg h
theorem spl_le (c : UInt8) (l : List UInt8) : ∀ k, (spl c l k).2 ≤ k ∧ (spl c l k).1.length ≤ k
  | 0 => ⟨Nat.le_refl _, Nat.le_refl _⟩
  | k + 1 => by
    have := spl_le c l k
    by_cases h : l[k]? = some c
    · rw [spl_yes h]
      exact ⟨Nat.le_refl _, by rw [List.length_append]; simp; omega⟩
    · rw [spl_no h]
      omega
def sps (c : UInt8) (l : List UInt8) : List (List UInt8) := (spl c l l.length).1 ++ [l.drop (spl c l l.length).2]
theorem spl_none {c : UInt8} {l : List UInt8} : ∀ k, (∀ i, i < k → ¬ l[i]? = some c) → spl c l k = ([], 0)
  | 0, _ => rfl
  | k + 1, h => by rw [spl_no (h k (by omega))]; exact spl_none k fun i hi => h i (by omega)
theorem not_at {c : UInt8} {p : List UInt8} (h : c ∉ p) (q : List UInt8) (i : Nat) (hi : i < p.length) : ¬ (p ++ c :: q)[i]? = some c := by
  rw [List.getElem?_append_left hi]
  exact fun e => h (List.mem_of_getElem? e)
theorem spl_one {c : UInt8} {p q : List UInt8} (h : c ∉ p) : spl c (p ++ c :: q) (p.length + 1) = ([p], p.length + 1) := by
  rw [spl_yes (by rw [List.getElem?_append_right (Nat.le_refl _), Nat.sub_self]; rfl), spl_none _ (fun i hi => not_at h q i hi)]
  simp
theorem spl_more {c : UInt8} {p q : List UInt8} (h : c ∉ p) : ∀ k, ∃ t, (spl c (p ++ c :: q) (p.length + 1 + k)).1 = p :: t
  | 0 => ⟨[], by rw [Nat.add_zero, spl_one h]⟩
  | k + 1 => by
    obtain ⟨t, ih⟩ := spl_more (q := q) h k
    by_cases hc : (p ++ c :: q)[p.length + 1 + k]? = some c
    · rw [show p.length + 1 + (k + 1) = p.length + 1 + k + 1 from rfl, spl_yes hc]
      exact ⟨t ++ [_], by rw [ih]; rfl⟩
    · rw [show p.length + 1 + (k + 1) = p.length + 1 + k + 1 from rfl, spl_no hc]
      exact ⟨t, ih⟩
theorem sps_head (c : UInt8) (l : List UInt8) : ∃ t, sps c l = bfs c l :: t ∧ (t = [] ↔ c ∉ l) := by
  by_cases h1 : c ∈ l
  · obtain ⟨e, h2⟩ := bfs_yes h1
    have el := bfs_len h1
    obtain ⟨t, hm⟩ := spl_more (q := afs c l) h2 (afs c l).length
    rw [← e, ← el] at hm
    refine ⟨t ++ [l.drop (spl c l l.length).2], ?_, ?_⟩
    · unfold sps
      rw [hm]
      rfl
    · exact ⟨fun h => by simp at h, fun h => absurd h1 h⟩
  · refine ⟨[], ?_, fun _ => h1, fun _ => rfl⟩
    unfold sps
    rw [spl_none _ (fun i _ e => h1 (List.mem_of_getElem? e)), (bfs_no h1).1]
    simp
theorem dd_digit : ∀ (n : Nat) (b : UInt8), b ∈ Lib.decDigits n → 48 ≤ b.toNat ∧ b.toNat ≤ 57 := by
  intro n
  induction n using Nat.strongRecOn with
  | ind n ih =>
    intro b hb
    rw [Lib.decDigits] at hb
    split at hb
    · rw [List.mem_singleton] at hb
      subst hb
      rw [UInt8.toNat_ofNat']
      omega
    · rcases List.mem_append.1 hb with h | h
      · exact ih (n / 10) (by omega) b h
      · rw [List.mem_singleton] at h
        subst h
        rw [UInt8.toNat_ofNat']
        omega
theorem dd_len : ∀ (j n : Nat), n < 10 ^ (j + 1) → (Lib.decDigits n).length ≤ j + 1
  | 0, n, h => by rw [Lib.decDigits, dif_pos (by omega)]; simp
  | j + 1, n, h => by
    rw [Lib.decDigits]
    split
    · simp
    · have := dd_len j (n / 10) (by rw [Nat.div_lt_iff_lt_mul (by omega)]; rw [Nat.pow_succ] at h; exact h)
      rw [List.length_append]
      simp
      omega
def chk (l : List UInt8) : Nat := l.foldl (fun h b => (41 * h + b.toNat + 1) % 999979) 7
theorem chk_suc {l : List UInt8} {k : Nat} (h : k < l.length) : chk (l.take (k + 1)) = (41 * chk (l.take k) + (l.getD k 0).toNat + 1) % 999979 := by
  unfold chk
  rw [List.take_add_one, List.foldl_append, List.getElem?_eq_getElem h, List.getD_eq_getElem?_getD, List.getElem?_eq_getElem h]
  rfl
theorem chk_lt (l : List UInt8) : chk l < 999979 := by
  unfold chk
  suffices ∀ (l : List UInt8) (h : Nat), h < 999979 → l.foldl (fun h b => (41 * h + b.toNat + 1) % 999979) h < 999979 from this l 7 (by omega)
  intro l
  induction l with
  | nil => exact fun _ h => h
  | cons b l ih => exact fun h _ => ih _ (Nat.mod_lt _ (by omega))
end Go.Proofs.YtadjhkehfklmnaaGreatDoor
namespace Go.Proofs.YtadjhkehfklmnaaGreatDoor
set_option linter.unusedSimpArgs false
set_option linter.unusedVariables false
open Go.RowKit
set_option maxRecDepth 10000
def okB (b : UInt8) : Prop := 32 ≤ b.toNat ∧ b.toNat ≤ 126 ∧ ¬ b = 35
def plainT (l : List UInt8) : Prop := ∀ b, b ∈ l → okB b
def okR (c r : List UInt8) : Prop := plainT c ∧ plainT r ∧ 1 ≤ c.length ∧ c.length ≤ 160 ∧ r.length ≤ 200 ∧ 64 ∉ c
def bod (k : Nat) (c r : List UInt8) : List UInt8 := Lib.decDigits k ++ 32 :: (c ++ 64 :: r)
def sl (t : List UInt8) : List UInt8 := t ++ 35 :: Lib.decDigits (chk t)
def ln (k : Nat) (c r : List UInt8) : List UInt8 := sl (bod k c r)
theorem bod_mem {k : Nat} {c r : List UInt8} {b : UInt8} (h : b ∈ bod k c r) : (48 ≤ b.toNat ∧ b.toNat ≤ 57) ∨ b = 32 ∨ b ∈ c ∨ b = 64 ∨ b ∈ r := by
  unfold bod at h
  rcases List.mem_append.1 h with h | h
  · exact .inl (dd_digit _ _ h)
  · rcases List.mem_cons.1 h with h | h
    · exact .inr (.inl h)
    · rcases List.mem_append.1 h with h | h
      · exact .inr (.inr (.inl h))
      · rcases List.mem_cons.1 h with h | h
        · exact .inr (.inr (.inr (.inl h)))
        · exact .inr (.inr (.inr (.inr h)))
theorem bod_hash {k : Nat} {c r : List UInt8} (h : okR c r) : 35 ∉ bod k c r := fun e => by
  obtain ⟨hc, hr, _⟩ := h
  rcases bod_mem e with h | h | h | h | h
  · exact absurd h (by decide)
  · exact absurd h (by decide)
  · exact (hc _ h).2.2 rfl
  · exact absurd h (by decide)
  · exact (hr _ h).2.2 rfl
theorem bod_line {k : Nat} {c r : List UInt8} (h : okR c r) : 10 ∉ bod k c r := fun e => by
  obtain ⟨hc, hr, _⟩ := h
  rcases bod_mem e with h | h | h | h | h
  · exact absurd h (by decide)
  · exact absurd h (by decide)
  · exact absurd (hc _ h).1 (by decide)
  · exact absurd h (by decide)
  · exact absurd (hr _ h).1 (by decide)
theorem dd_not {n : Nat} {b : UInt8} (h : b.toNat < 48 ∨ 57 < b.toNat) : b ∉ Lib.decDigits n := fun e => by
  have := dd_digit _ _ e
  omega
theorem ln_line {k : Nat} {c r : List UInt8} (h : okR c r) : 10 ∉ ln k c r := fun e => by
  unfold ln sl at e
  rcases List.mem_append.1 e with e | e
  · exact bod_line h e
  · rcases List.mem_cons.1 e with e | e
    · exact absurd e (by decide)
    · exact dd_not (by decide) e
theorem bod_len {k : Nat} {c r : List UInt8} (hk : k < 100) (h : okR c r) : (bod k c r).length ≤ 364 := by
  obtain ⟨_, _, _, h1, h2, _⟩ := h
  have := dd_len 1 k (by omega)
  unfold bod
  simp
  omega
theorem ln_len {k : Nat} {c r : List UInt8} (hk : k < 100) (h : okR c r) : (ln k c r).length ≤ 371 := by
  have := bod_len hk h
  have h2 := chk_lt (bod k c r)
  have := dd_len 5 (chk (bod k c r)) (by omega)
  unfold ln sl
  simp
  omega
theorem parts {k : Nat} {c r : List UInt8} (h : okR c r) : bfs 35 (ln k c r) = bod k c r ∧ bfs 32 (bod k c r) = Lib.decDigits k ∧ afs 32 (bod k c r) = c ++ 64 :: r ∧ bfs 64 (c ++ 64 :: r) = c ∧ afs 64 (c ++ 64 :: r) = r :=
  ⟨(bfs_at (bod_hash h)).1, (bfs_at (dd_not (by decide))).1, (bfs_at (dd_not (by decide))).2, (bfs_at h.2.2.2.2.2).1, (bfs_at h.2.2.2.2.2).2⟩
def cmd (p : List UInt8) : List UInt8 := bfs 64 (afs 32 (bfs 35 p))
def rep (p : List UInt8) : List UInt8 := afs 64 (afs 32 (bfs 35 p))
def okp (k : Nat) (p : List UInt8) : Prop := okR (cmd p) (rep p) ∧ ln k (cmd p) (rep p) = p
theorem okp_ln {k : Nat} {c r : List UInt8} (h : okR c r) : okp k (ln k c r) ∧ cmd (ln k c r) = c ∧ rep (ln k c r) = r := by
  obtain ⟨e1, _, e2, e3, e4⟩ := parts (k := k) h
  have f1 : cmd (ln k c r) = c := by unfold cmd; rw [e1, e2, e3]
  have f2 : rep (ln k c r) = r := by unfold rep; rw [e1, e2, e4]
  exact ⟨⟨by rw [f1, f2]; exact h, by rw [f1, f2]⟩, f1, f2⟩
def hd (k : Nat) : List UInt8 := Lib.decDigits k ++ [32]
def rst (k : Nat) (p : List UInt8) : List UInt8 := (bfs 35 p).drop (hd k).length
def pre (k : Nat) (p : List UInt8) : Prop := (hd k).length ≤ (bfs 35 p).length ∧ (bfs 35 p).take (hd k).length = hd k
def okq (k : Nat) (p : List UInt8) : Prop := pre k p ∧ 64 ∈ rst k p ∧ okR (bfs 64 (rst k p)) (afs 64 (rst k p)) ∧ ln k (bfs 64 (rst k p)) (afs 64 (rst k p)) = p
theorem okq_ln {k : Nat} {c r : List UInt8} (h : okR c r) : pre k (ln k c r) ∧ 64 ∈ rst k (ln k c r) ∧ bfs 64 (rst k (ln k c r)) = c ∧ afs 64 (rst k (ln k c r)) = r := by
  obtain ⟨e1, _, e2, e3, e4⟩ := parts (k := k) h
  have eb : bod k c r = hd k ++ (c ++ 64 :: r) := by unfold bod hd; simp
  have er : rst k (ln k c r) = c ++ 64 :: r := by unfold rst; rw [e1, eb]; simp
  refine ⟨⟨by rw [e1, eb]; simp, by rw [e1, eb]; simp⟩, by rw [er]; simp, by rw [er, e3], by rw [er, e4]⟩
theorem okq_iff {k : Nat} {p : List UInt8} : okq k p ↔ okp k p := by
  constructor
  · rintro ⟨_, _, h, e⟩
    have := (okp_ln (k := k) h).1
    rw [e] at this
    exact this
  · rintro ⟨h, e⟩
    have e' := e
    obtain ⟨h1, h2, h3, h4⟩ := okq_ln (k := k) h
    rw [e] at h1 h2 h3 h4
    exact ⟨h1, h2, by rw [h3, h4]; exact h, by rw [h3, h4]; exact e⟩
theorem okq_rec {k : Nat} {p : List UInt8} (hp : okp k p) : bfs 64 (rst k p) = cmd p ∧ afs 64 (rst k p) = rep p := by
  obtain ⟨h, e⟩ := hp
  obtain ⟨h1, h2, h3, h4⟩ := okq_ln (k := k) h
  rw [e] at h3 h4
  exact ⟨h3, h4⟩
def lin (s : List UInt8) (a : Nat) : List UInt8 := bfs 10 (s.drop a)
def ends (s : List UInt8) : Nat → Nat
  | 0 => 0
  | k + 1 => ends s k + (lin s (ends s k)).length + 1
def step (s : List UInt8) (k : Nat) : Prop := k < 60 ∧ 10 ∈ s.drop (ends s k) ∧ okp k (lin s (ends s k))
theorem ex_cnt (s : List UInt8) : ∃ n, (∀ j, j < n → step s j) ∧ ¬ step s n := by
  by_cases h : ∀ j, j < 60 → step s j
  · exact ⟨60, h, fun e => absurd e.1 (by omega)⟩
  · have : ∃ j, ¬ step s j := by
      by_cases h2 : ∃ j, ¬ step s j
      · exact h2
      · exact absurd (fun j _ => Classical.byContradiction fun e => h2 ⟨j, e⟩) h
    obtain ⟨j, hj⟩ := this
    clear h
    induction j using Nat.strongRecOn with
    | ind j ih =>
      by_cases h3 : ∀ i, i < j → step s i
      · exact ⟨j, h3, hj⟩
      · by_cases h4 : ∃ i, i < j ∧ ¬ step s i
        · obtain ⟨i, hi, h5⟩ := h4
          exact ih i hi h5
        · exact absurd (fun i hi => Classical.byContradiction fun e => h4 ⟨i, hi, e⟩) h3
noncomputable def cnt (s : List UInt8) : Nat := Classical.choose (ex_cnt s)
theorem cnt_step {s : List UInt8} {j : Nat} (h : j < cnt s) : step s j := (Classical.choose_spec (ex_cnt s)).1 j h
theorem cnt_stop (s : List UInt8) : ¬ step s (cnt s) := (Classical.choose_spec (ex_cnt s)).2
theorem cnt_lt {s : List UInt8} {k : Nat} (hk : k ≤ cnt s) (h : step s k) : k < cnt s := by
  rcases Nat.lt_or_ge k (cnt s) with h1 | h1
  · exact h1
  · have := cnt_stop s
    rw [show cnt s = k by omega] at this
    exact absurd h this
theorem cnt_eq {s : List UInt8} {k : Nat} (hk : k ≤ cnt s) (h : ¬ step s k) : k = cnt s := by
  rcases Nat.lt_or_ge k (cnt s) with h1 | h1
  · exact absurd (cnt_step h1) h
  · omega
theorem cnt_is {s : List UInt8} {k : Nat} (h1 : ∀ j, j < k → step s j) (h2 : ¬ step s k) : cnt s = k := by
  rcases Nat.lt_trichotomy k (cnt s) with h | h | h
  · exact absurd (cnt_step h) h2
  · exact h.symm
  · exact absurd (h1 _ h) (cnt_stop s)
theorem cnt_le (s : List UInt8) : cnt s ≤ 60 := by
  rcases Nat.lt_or_ge 60 (cnt s) with h | h
  · exact absurd (cnt_step h).1 (by omega)
  · exact h
theorem step_ends {s : List UInt8} {k : Nat} (h : step s k) : ends s (k + 1) ≤ s.length := by
  have h2 := bfs_len h.2.1
  rw [List.length_drop] at h2
  show ends s k + (bfs 10 (s.drop (ends s k))).length + 1 ≤ _
  omega
theorem ends_le {s : List UInt8} : ∀ {k : Nat}, k ≤ cnt s → ends s k ≤ s.length
  | 0, _ => Nat.zero_le _
  | _ + 1, h => step_ends (cnt_step h)
theorem ends_most {s : List UInt8} : ∀ {k : Nat}, k ≤ cnt s → ends s k ≤ 372 * k
  | 0, _ => Nat.zero_le _
  | k + 1, h => by
    have h1 := ends_most (s := s) (k := k) (by omega)
    obtain ⟨hk, _, ho, e⟩ := cnt_step h
    have h2 := ln_len (k := k) (by omega) ho
    rw [e] at h2
    show ends s k + (lin s (ends s k)).length + 1 ≤ _
    omega
theorem ends_mono {s : List UInt8} : ∀ {k j : Nat}, k ≤ j → ends s k + (j - k) ≤ ends s j := by
  intro k j h
  induction j with
  | zero => obtain rfl : k = 0 := by omega
            simp
  | succ j ih =>
    rcases Nat.lt_or_ge j k with h1 | h1
    · obtain rfl : k = j + 1 := by omega
      simp
    · have := ih h1
      have e : ends s (j + 1) = ends s j + (lin s (ends s j)).length + 1 := rfl
      omega
theorem lin_app {d p : List UInt8} {a : Nat} (h : 10 ∈ d.drop a) : lin (d ++ p) a = lin d a ∧ 10 ∈ (d ++ p).drop a := by
  have ha : a ≤ d.length := by
    rcases Nat.lt_or_ge d.length a with h1 | h1
    · rw [List.drop_eq_nil_of_le (by omega)] at h; simp at h
    · exact h1
  unfold lin
  rw [List.drop_append_of_le_length ha]
  exact ⟨(bfs_app p h).1, List.mem_append.2 (.inl h)⟩
theorem step_app {d p : List UInt8} {k : Nat} (he : ends (d ++ p) k = ends d k) (h : step d k) : step (d ++ p) k ∧ ends (d ++ p) (k + 1) = ends d (k + 1) := by
  obtain ⟨h1, h2⟩ := lin_app (p := p) h.2.1
  refine ⟨⟨h.1, by rw [he]; exact h2, by rw [he, h1]; exact h.2.2⟩, ?_⟩
  show ends (d ++ p) k + (lin (d ++ p) (ends (d ++ p) k)).length + 1 = _
  rw [he, h1]
  rfl
theorem app_ends {d p : List UInt8} : ∀ {k : Nat}, k ≤ cnt d → ends (d ++ p) k = ends d k
  | 0, _ => rfl
  | k + 1, h => (step_app (app_ends (by omega)) (cnt_step h)).2
theorem app_cnt {d p : List UInt8} : cnt d ≤ cnt (d ++ p) := by
  rcases Nat.lt_or_ge (cnt (d ++ p)) (cnt d) with h | h
  · exact absurd (step_app (p := p) (app_ends (by omega)) (cnt_step h)).1 (cnt_stop _)
  · exact h
theorem step_sub {d p : List UInt8} {k : Nat} (he : ends (d ++ p) k = ends d k) (h : step (d ++ p) k) (hl : ends (d ++ p) (k + 1) ≤ d.length) : step d k := by
  have hx : ends (d ++ p) k + (lin (d ++ p) (ends (d ++ p) k)).length + 1 ≤ d.length := hl
  have hm : 10 ∈ d.drop (ends d k) := by
    rw [he] at hx
    have ha : ends d k ≤ d.length := by omega
    have h2 := h.2.1
    rw [he] at h2
    unfold lin at hx
    rw [List.drop_append_of_le_length ha] at hx h2
    refine Classical.byContradiction fun hn => ?_
    have hb : (d.drop (ends d k)).length ≤ (bfs 10 (d.drop (ends d k) ++ p)).length := by
      refine Classical.byContradiction fun hlt => ?_
      have h3 := bfs_get h2
      rw [List.getElem?_append_left (by omega)] at h3
      exact hn (List.mem_of_getElem? h3)
    rw [List.length_drop] at hb
    omega
  obtain ⟨h1, _⟩ := lin_app (p := p) hm
  refine ⟨h.1, hm, ?_⟩
  have := h.2.2
  rw [he, h1] at this
  exact this
theorem step_end {d : List UInt8} {k : Nat} (h : d.length ≤ ends d k) : ¬ step d k := fun e => by
  have := e.2.1
  rw [List.drop_eq_nil_of_le h] at this
  simp at this
theorem app_back {d p : List UInt8} : ∀ {j : Nat}, j ≤ cnt (d ++ p) → ends (d ++ p) j ≤ d.length → ends (d ++ p) j = ends d j ∧ ∀ i, i < j → step d i
  | 0, _, _ => ⟨rfl, fun i hi => absurd hi (by omega)⟩
  | j + 1, h, hl => by
    have h0 : ends (d ++ p) j + 1 ≤ ends (d ++ p) (j + 1) := by have := ends_mono (s := d ++ p) (k := j) (j := j + 1) (by omega); omega
    obtain ⟨h1, h2⟩ := app_back (d := d) (p := p) (j := j) (by omega) (by omega)
    have h3 := step_sub h1 (cnt_step h) hl
    exact ⟨(step_app h1 h3).2, fun i hi => by
      rcases Nat.lt_or_ge i j with h4 | h4
      · exact h2 i h4
      · rw [show i = j by omega]; exact h3⟩
theorem whole {d p : List UInt8} : ends d (cnt d) = d.length ↔ ∃ j, j ≤ cnt (d ++ p) ∧ ends (d ++ p) j = d.length := by
  constructor
  · intro h
    exact ⟨cnt d, app_cnt, by rw [app_ends (Nat.le_refl _), h]⟩
  · rintro ⟨j, hj, he⟩
    obtain ⟨h1, h2⟩ := app_back hj (by omega)
    have : cnt d = j := cnt_is h2 (step_end (by omega))
    rw [this, ← h1, he]
def okL (d p : List UInt8) (c : Int) : Prop := ends (d ++ p) (cnt (d ++ p)) = (d ++ p).length ∧ (cnt (d ++ p) : Int) = c ∧ ends d (cnt d) = d.length
theorem okL_len {d p : List UInt8} {c : Int} (h : okL d p c) : d.length + p.length ≤ 22320 := by
  have h1 := ends_most (Nat.le_refl (cnt (d ++ p)))
  have h2 := cnt_le (d ++ p)
  rw [h.1, List.length_append] at h1
  omega
end Go.Proofs.YtadjhkehfklmnaaGreatDoor
