/-
  The lock: what is safe, a step, a plan, a run; a plan runs wholly. Plain.
  Conditions: none beyond each statement's own premises.
-/
import Derived.Test.YtadjhkehfklmnaaDoorWK
namespace Go.Proofs.YtadjhkehfklmnaaDoor
set_option linter.unusedSimpArgs false
set_option linter.unusedVariables false
open Go.RowKit
set_option maxRecDepth 10000
def Lo.safe (s : Lo) : Prop := 0 ≤ s.lower ∧ s.lower ≤ s.level ∧ s.level ≤ s.upper ∧ s.upper ≤ 2000 ∧ ¬ (s.lg = true ∧ s.hg = true) ∧ ¬ (s.lp = true ∧ s.hp = true) ∧ ¬ (s.lp = true ∧ s.hg = true) ∧ ¬ (s.hp = true ∧ s.lg = true) ∧ (s.lg = true → s.level - s.lower ≤ 5) ∧ (s.hg = true → s.upper - s.level ≤ 5)
def Lo.zero : Lo := ⟨0, 0, 0, false, false, false, false⟩
/-- A command that opens or closes something; the minute that passes is the last one. -/
def Lo.move (s : Lo) (c : Int) : Lo :=
  if c = 1 then { s with lg := true } else if c = 2 then { s with lg := false } else if c = 3 then { s with hg := true } else if c = 4 then { s with hg := false }
  else if c = 5 then { s with lp := true } else if c = 6 then { s with lp := false } else if c = 7 then { s with hp := true } else if c = 8 then { s with hp := false }
  else if c = 9 then { s with level := if s.lp then mx s.lower (s.level - 50) else if s.hp then mn s.upper (s.level + 50) else s.level }
  else s
def Lo.okStep (s : Lo) (c : Int) : Prop := s.safe ∧ 1 ≤ c ∧ c ≤ 9 ∧ (c = 9 ∨ (s.move c ≠ s ∧ (s.move c).safe))
noncomputable def Lo.step (s : Lo) (c : Int) : Lo := if tr (s.okStep c) then s.move c else Lo.zero
theorem Lo.step_yes {s : Lo} {c : Int} (h : s.okStep c) : s.step c = s.move c := by unfold Lo.step; rw [tr_yes h]; rfl
theorem Lo.step_no {s : Lo} {c : Int} (h : ¬ s.okStep c) : s.step c = Lo.zero := by unfold Lo.step; rw [tr_no h]; rfl
theorem Lo.wait_safe {s : Lo} (h : s.safe) : (s.move 9).safe := by
  obtain ⟨a, b, v, g1, g2, p1, p2⟩ := s
  unfold Lo.safe at h
  unfold Lo.move Lo.safe mx mn
  dsimp only at *
  cases g1 <;> cases g2 <;> cases p1 <;> cases p2 <;> simp at h ⊢ <;> (try split) <;> omega
theorem Lo.okStep.safe {s : Lo} {c : Int} (h : s.okStep c) : (s.move c).safe := by
  rcases h.2.2.2 with h1 | h1
  · subst h1; exact Lo.wait_safe h.1
  · exact h1.2
noncomputable def Lo.run (s : Lo) : List Int → Lo × Nat
  | [] => (s, 0)
  | c :: r => if tr (s.okStep c) then (((s.move c).run r).1, ((s.move c).run r).2 + 1) else (s, 0)
theorem Lo.run_yes {s : Lo} {c : Int} {r : List Int} (h : s.okStep c) : s.run (c :: r) = (((s.move c).run r).1, ((s.move c).run r).2 + 1) := by show (if tr (s.okStep c) then _ else _) = _; rw [tr_yes h]; rfl
theorem Lo.run_no {s : Lo} {c : Int} {r : List Int} (h : ¬ s.okStep c) : s.run (c :: r) = (s, 0) := by show (if tr (s.okStep c) then _ else _) = _; rw [tr_no h]; rfl
theorem Lo.run_safe {s : Lo} (h : s.safe) : ∀ l : List Int, (s.run l).1.safe ∧ (s.run l).2 ≤ l.length := by
  intro l
  induction l generalizing s with
  | nil => exact ⟨h, Nat.le_refl _⟩
  | cons c r ih =>
    by_cases hc : s.okStep c
    · rw [Lo.run_yes hc]
      have := ih hc.safe
      exact ⟨this.1, Nat.succ_le_succ this.2⟩
    · rw [Lo.run_no hc]
      exact ⟨h, Nat.zero_le _⟩
theorem Lo.run_lower {s : Lo} : ∀ l : List Int, (s.run l).1.lower = s.lower ∧ (s.run l).1.upper = s.upper := by
  intro l
  induction l generalizing s with
  | nil => exact ⟨rfl, rfl⟩
  | cons c r ih =>
    by_cases hc : s.okStep c
    · rw [Lo.run_yes hc]
      have h1 : (s.move c).lower = s.lower ∧ (s.move c).upper = s.upper := by
        unfold Lo.move
        repeat (split <;> first | exact ⟨rfl, rfl⟩ | skip)
      have := ih (s := s.move c)
      exact ⟨this.1.trans h1.1, this.2.trans h1.2⟩
    · rw [Lo.run_no hc]
      exact ⟨rfl, rfl⟩
/-! ### Plans -/
def Lo.head (s : Lo) (h : Bool) : Int := if h then s.upper - s.level else s.level - s.lower
def Lo.mins (s : Lo) (h : Bool) : Nat := ((s.head h + 44) / 50).toNat
def Lo.gate (s : Lo) (h : Bool) : Bool := if h then s.hg else s.lg
def Lo.pad (s : Lo) (h : Bool) : Bool := if h then s.hp else s.lp
def cGate (h : Bool) : Int := if h then 3 else 1
def cPad (h : Bool) : Int := if h then 7 else 5
def Lo.pre (s : Lo) (h : Bool) : List Int := (if s.gate (!h) then [5 - cGate h] else []) ++ (if s.pad (!h) then [13 - cPad h] else []) ++ (if 0 < s.mins h ∧ s.pad h = false then [cPad h] else [])
def Lo.plan (s : Lo) (h : Bool) : List Int := if s.gate h then [] else s.pre h ++ List.replicate (s.mins h) 9 ++ [cGate h]
theorem Lo.pre_len (s : Lo) (h : Bool) : (s.pre h).length ≤ 3 := by
  unfold Lo.pre
  simp only [List.length_append]
  split <;> split <;> split <;> simp
theorem Lo.mins_le {s : Lo} {h : Bool} (hs : s.safe) : s.mins h ≤ 40 := by
  unfold Lo.safe at hs
  unfold Lo.mins Lo.head
  cases h <;> simp <;> omega
theorem Lo.plan_len {s : Lo} {h : Bool} (hs : s.safe) : (s.plan h).length ≤ 44 := by
  have h1 := s.pre_len h
  have h2 := Lo.mins_le (h := h) hs
  unfold Lo.plan
  split
  · simp
  · simp only [List.length_append, List.length_replicate, List.length_cons, List.length_nil]; omega
theorem Lo.plan_in {s : Lo} {h : Bool} : ∀ c ∈ s.plan h, 1 ≤ c ∧ c ≤ 9 := by
  intro c hc
  unfold Lo.plan Lo.pre cGate cPad at hc
  cases h <;> simp at hc <;> (rcases hc with ⟨_, ⟨_, h⟩ | ⟨_, h⟩ | ⟨_, h⟩ | ⟨_, h⟩ | h⟩ <;> omega)
def Lo.does : Lo → List Int → Lo → Prop
  | s, [], t => s = t
  | s, c :: r, t => s.okStep c ∧ (s.move c).does r t
theorem Lo.does_app {s t u : Lo} : ∀ {a b : List Int}, s.does a t → t.does b u → s.does (a ++ b) u := by
  intro a
  induction a generalizing s with
  | nil => intro b h1 h2; have e : s = t := h1; rw [e]; exact h2
  | cons c r ih => intro b h1 h2; exact ⟨h1.1, ih h1.2 h2⟩
theorem Lo.does_run {s t : Lo} : ∀ {a : List Int}, s.does a t → s.run a = (t, a.length) := by
  intro a
  induction a generalizing s with
  | nil => intro h; have e : s = t := h; rw [e]; rfl
  | cons c r ih => intro h; rw [Lo.run_yes h.1, ih h.2]; rfl
theorem Lo.waits_low {k : Nat} : ∀ {s : Lo}, s.safe → s.lp = true → s.does (List.replicate k 9) { s with level := mx s.lower (s.level - 50 * (k : Int)) } := by
  induction k with
  | zero =>
    intro s h hp
    obtain ⟨a, b, v, g1, g2, p1, p2⟩ := s
    unfold Lo.safe at h
    show (_ : Lo) = _
    have : mx a (v - 50 * ((0 : Nat) : Int)) = v := by unfold mx; dsimp only at h; split <;> omega
    simp only [this]
  | succ k ih =>
    intro s h hp
    have h9 : s.okStep 9 := ⟨h, by omega, by omega, .inl rfl⟩
    refine ⟨h9, ?_⟩
    have hm : s.move 9 = { s with level := mx s.lower (s.level - 50) } := by
      unfold Lo.move
      simp [hp]
    have := ih (s := s.move 9) h9.safe (by rw [hm]; exact hp)
    rw [hm] at this ⊢
    dsimp only at this
    have e : mx s.lower (mx s.lower (s.level - 50) - 50 * (k : Int)) = mx s.lower (s.level - 50 * ((k + 1 : Nat) : Int)) := by
      unfold mx; split <;> split <;> split <;> omega
    rw [e] at this
    exact this
theorem Lo.waits_high {k : Nat} : ∀ {s : Lo}, s.safe → s.hp = true → s.does (List.replicate k 9) { s with level := mn s.upper (s.level + 50 * (k : Int)) } := by
  induction k with
  | zero =>
    intro s h hp
    obtain ⟨a, b, v, g1, g2, p1, p2⟩ := s
    unfold Lo.safe at h
    show (_ : Lo) = _
    have : mn b (v + 50 * ((0 : Nat) : Int)) = v := by unfold mn; dsimp only at h; split <;> omega
    simp only [this]
  | succ k ih =>
    intro s h hp
    have h9 : s.okStep 9 := ⟨h, by omega, by omega, .inl rfl⟩
    refine ⟨h9, ?_⟩
    have hlp : s.lp = false := by
      have := h.2.2.2.2.2.1
      cases hx : s.lp
      · rfl
      · exact absurd ⟨hx, hp⟩ this
    have hm : s.move 9 = { s with level := mn s.upper (s.level + 50) } := by
      unfold Lo.move
      simp [hp, hlp]
    have := ih (s := s.move 9) h9.safe (by rw [hm]; exact hp)
    rw [hm] at this ⊢
    dsimp only at this
    have e : mn s.upper (mn s.upper (s.level + 50) + 50 * (k : Int)) = mn s.upper (s.level + 50 * ((k + 1 : Nat) : Int)) := by
      unfold mn; split <;> split <;> split <;> omega
    rw [e] at this
    exact this
theorem Lo.turn_ok {s t : Lo} {c : Int} (h : s.safe) (h1 : 1 ≤ c) (h2 : c ≤ 8) (e : s.move c = t) (hn : t ≠ s) (hs : t.safe) : s.does [c] t :=
  ⟨⟨h, h1, by omega, .inr ⟨by rw [e]; exact hn, by rw [e]; exact hs⟩⟩, e⟩
set_option maxHeartbeats 4000000 in
theorem Lo.plan_does {s : Lo} (h : s.safe) (hi : Bool) : ∃ t, s.does (s.plan hi) t := by
  cases hg : s.gate hi with
  | true => exact ⟨s, by unfold Lo.plan; rw [hg]; rfl⟩
  | false =>
    have hp : s.plan hi = s.pre hi ++ List.replicate (s.mins hi) 9 ++ [cGate hi] := by unfold Lo.plan; rw [hg]; rfl
    rw [hp]
    have hmin : s.head hi ≤ 50 * (s.mins hi : Int) + 5 := by
      unfold Lo.mins
      have : 0 ≤ s.head hi := by
        unfold Lo.safe at h
        unfold Lo.head
        cases hi <;> simp <;> omega
      omega
    have h0 : s.mins hi = 0 → s.head hi ≤ 5 := fun e => by rw [e] at hmin; simpa using hmin
    unfold Lo.pre
    generalize s.mins hi = k at *
    obtain ⟨a, b, v, g1, g2, p1, p2⟩ := s
    have h' := h
    unfold Lo.safe at h'
    dsimp only at h'
    obtain ⟨q1, q2, q3, q4, q5, q6, q7, q8, q9, q10⟩ := h'
    cases hi
    · obtain rfl : g1 = false := hg
      simp only [Lo.head, Bool.false_eq_true, if_false] at hmin h0
      -- the other gate and the other paddle are closed
      have s1 : Lo.does ⟨a, b, v, false, g2, p1, p2⟩ ((if g2 then [4] else []) ++ (if p2 then [8] else [])) ⟨a, b, v, false, false, p1, false⟩ := by
        cases g2 <;> cases p2
        · exact rfl
        · exact Lo.turn_ok h (by decide) (by decide) rfl (by simp) (by simp [Lo.safe]; omega)
        · exact Lo.turn_ok h (by decide) (by decide) rfl (by simp) (by simp [Lo.safe]; omega)
        · refine Lo.does_app (a := [4]) (Lo.turn_ok (t := ⟨a, b, v, false, false, p1, true⟩) h (by decide) (by decide) rfl (by simp) ?_) (Lo.turn_ok ?_ (by decide) (by decide) rfl (by simp) ?_)
          all_goals (cases p1 <;> simp at q6 <;> simp [Lo.safe] <;> omega)
      have f1 : Lo.safe ⟨a, b, v, false, false, p1, false⟩ := by simp [Lo.safe]; omega
      have s2 : Lo.does ⟨a, b, v, false, false, p1, false⟩ (if 0 < k ∧ p1 = false then [5] else []) ⟨a, b, v, false, false, p1 || decide (0 < k), false⟩ := by
        cases p1
        · by_cases hk : 0 < k
          · simp only [hk, true_and, if_true, decide_true, Bool.or_true]
            exact Lo.turn_ok f1 (by decide) (by decide) rfl (by simp) (by simp [Lo.safe]; omega)
          · simp only [hk, false_and, if_false, decide_false, Bool.or_false]
            exact rfl
        · simp
          exact rfl
      refine ⟨_, Lo.does_app (t := ⟨a, b, mx a (v - 50 * (k : Int)), false, false, p1 || decide (0 < k), false⟩) (Lo.does_app (Lo.does_app s1 s2) ?_) (Lo.turn_ok (t := ⟨a, b, mx a (v - 50 * (k : Int)), true, false, p1 || decide (0 < k), false⟩) ?_ (by decide) (by decide) rfl (by simp) ?_)⟩
      · rcases Nat.eq_zero_or_pos k with e | e
        · subst e
          show (_ : Lo) = _
          have : mx a (v - 50 * ((0 : Nat) : Int)) = v := by unfold mx; split <;> omega
          rw [this]
        · have := Lo.waits_low (k := k) (s := ⟨a, b, v, false, false, p1 || decide (0 < k), false⟩) (by simp [Lo.safe]; omega) (by simp [e])
          exact this
      · have := le_mx a (v - 50 * (k : Int))
        have : mx a (v - 50 * (k : Int)) ≤ v := mx_le (by omega) (by omega)
        simp [Lo.safe]; omega
      · have := le_mx a (v - 50 * (k : Int))
        have : mx a (v - 50 * (k : Int)) ≤ v := mx_le (by omega) (by omega)
        have : mx a (v - 50 * (k : Int)) ≤ a + 5 := mx_le (by omega) (by omega)
        simp [Lo.safe]; omega
    · obtain rfl : g2 = false := hg
      simp only [Lo.head, if_true] at hmin h0
      have s1 : Lo.does ⟨a, b, v, g1, false, p1, p2⟩ ((if g1 then [2] else []) ++ (if p1 then [6] else [])) ⟨a, b, v, false, false, false, p2⟩ := by
        cases g1 <;> cases p1
        · exact rfl
        · exact Lo.turn_ok h (by decide) (by decide) rfl (by simp) (by simp [Lo.safe]; omega)
        · exact Lo.turn_ok h (by decide) (by decide) rfl (by simp) (by simp [Lo.safe]; omega)
        · refine Lo.does_app (a := [2]) (Lo.turn_ok (t := ⟨a, b, v, false, false, true, p2⟩) h (by decide) (by decide) rfl (by simp) ?_) (Lo.turn_ok ?_ (by decide) (by decide) rfl (by simp) ?_)
          all_goals (cases p2 <;> simp at q6 <;> simp [Lo.safe] <;> omega)
      have f1 : Lo.safe ⟨a, b, v, false, false, false, p2⟩ := by simp [Lo.safe]; omega
      have s2 : Lo.does ⟨a, b, v, false, false, false, p2⟩ (if 0 < k ∧ p2 = false then [7] else []) ⟨a, b, v, false, false, false, p2 || decide (0 < k)⟩ := by
        cases p2
        · by_cases hk : 0 < k
          · simp only [hk, true_and, if_true, decide_true, Bool.or_true]
            exact Lo.turn_ok f1 (by decide) (by decide) rfl (by simp) (by simp [Lo.safe]; omega)
          · simp only [hk, false_and, if_false, decide_false, Bool.or_false]
            exact rfl
        · simp
          exact rfl
      refine ⟨_, Lo.does_app (t := ⟨a, b, mn b (v + 50 * (k : Int)), false, false, false, p2 || decide (0 < k)⟩) (Lo.does_app (Lo.does_app s1 s2) ?_) (Lo.turn_ok (t := ⟨a, b, mn b (v + 50 * (k : Int)), false, true, false, p2 || decide (0 < k)⟩) ?_ (by decide) (by decide) rfl (by simp) ?_)⟩
      · rcases Nat.eq_zero_or_pos k with e | e
        · subst e
          show (_ : Lo) = _
          have : mn b (v + 50 * ((0 : Nat) : Int)) = v := by unfold mn; split <;> omega
          rw [this]
        · have := Lo.waits_high (k := k) (s := ⟨a, b, v, false, false, false, p2 || decide (0 < k)⟩) (by simp [Lo.safe]; omega) (by simp [e])
          exact this
      · have := mn_le b (v + 50 * (k : Int))
        have : v ≤ mn b (v + 50 * (k : Int)) := le_mn (by omega) (by omega)
        simp [Lo.safe]; omega
      · have := mn_le b (v + 50 * (k : Int))
        have : v ≤ mn b (v + 50 * (k : Int)) := le_mn (by omega) (by omega)
        have : b - 5 ≤ mn b (v + 50 * (k : Int)) := le_mn (by omega) (by omega)
        simp [Lo.safe]; omega
theorem Lo.plan_run {s : Lo} (h : s.safe) (hi : Bool) : (s.run (s.plan hi)).2 = (s.plan hi).length := by
  obtain ⟨t, ht⟩ := Lo.plan_does h hi
  rw [Lo.does_run ht]
end Go.Proofs.YtadjhkehfklmnaaDoor
