/-
  Arrivals and orders: when lockages begin, the delay, the best order by the program's way and by the reference's. Plain.
  Conditions: none beyond each statement's own premises.
-/
import Derived.Test.YtadjhkehfklmnaaDoorWK
namespace Go.Proofs.YtadjhkehfklmnaaDoor
set_option linter.unusedSimpArgs false
set_option linter.unusedVariables false
open Go.RowKit
set_option maxRecDepth 10000
/-! ### Lists without doubles -/
theorem nd_le : ∀ (n : Nat) (p : List Nat), p.Nodup → (∀ x ∈ p, x < n) → p.length ≤ n
  | 0, p, _, h => by
    cases p with
    | nil => exact Nat.le_refl _
    | cons x p => exact absurd (h x (by simp)) (Nat.not_lt_zero _)
  | n + 1, p, hn, h => by
    by_cases hm : n ∈ p
    · have h1 := nd_le n (p.erase n) (hn.erase n) (fun x hx => by
        have h2 := h x (List.mem_of_mem_erase hx)
        have h3 : x ≠ n := fun e => by subst e; exact absurd hx (List.Nodup.not_mem_erase hn)
        omega)
      have h4 := List.length_erase_of_mem hm
      omega
    · have h1 := nd_le n p hn (fun x hx => by
        have h2 := h x hx
        have h3 : x ≠ n := fun e => hm (e ▸ hx)
        omega)
      omega
theorem nd_all {n : Nat} {p : List Nat} (hn : p.Nodup) (h : ∀ x ∈ p, x < n) (hl : p.length = n) {i : Nat} (hi : i < n) : i ∈ p := by
  apply Classical.byContradiction
  intro hm
  have := nd_le n (i :: p) (List.nodup_cons.2 ⟨hm, hn⟩) (fun x hx => by
    rcases List.mem_cons.1 hx with e | e
    · rw [e]; exact hi
    · exact h x e)
  simp at this
  omega
theorem all_le : ∀ (n : Nat) (p : List Nat), (∀ i, i < n → i ∈ p) → n ≤ p.length
  | 0, _, _ => Nat.zero_le _
  | n + 1, p, h => by
    have hm := h n (Nat.lt_succ_self n)
    have h1 := all_le n (p.erase n) (fun i hi => (List.mem_erase_of_ne (by omega)).2 (h i (by omega)))
    have h2 := List.length_erase_of_mem hm
    have h3 : 0 < p.length := List.length_pos_of_mem hm
    omega
theorem nd_snoc {p : List Nat} {k : Nat} (h : p.Nodup) (hk : k ∉ p) : (p ++ [k]).Nodup := by
  rw [List.nodup_append]
  refine ⟨h, by simp, fun a ha b hb => ?_⟩
  rw [List.mem_singleton] at hb
  subst hb
  exact fun e => hk (e ▸ ha)
/-! ### Arrivals -/
def aOk (f : Nat → Aw) (i : Nat) : Prop := (1 ≤ (f i).id ∧ (f i).id ≤ 99) ∧ (0 ≤ (f i).minute ∧ (f i).minute ≤ 9999) ∧ (1 ≤ (f i).weight ∧ (f i).weight ≤ 9) ∧ (0 < i → (f (i - 1)).id < (f i).id)
def aGood (n : Nat) (f : Nat → Aw) : Prop := (∀ i, i < n → aOk f i) ∧ n ≤ 6
theorem aGood.no {n k : Nat} {f : Nat → Aw} (hk : k < n) (h : ¬ aOk f k) : ¬ aGood n f := fun g => h (g.1 k hk)
theorem aGood.lt {n : Nat} {f : Nat → Aw} (h : aGood n f) : ∀ {i j : Nat}, i < j → j < n → (f i).id < (f j).id
  | i, 0, h1, _ => by omega
  | i, j + 1, h1, h2 => by
    have h3 := (h.1 (j + 1) h2).2.2.2 (Nat.succ_pos j)
    rw [show j + 1 - 1 = j by omega] at h3
    rcases Nat.lt_or_ge i j with h4 | h4
    · have := aGood.lt h h4 (by omega : j < n)
      omega
    · obtain rfl : i = j := by omega
      exact h3
/-- One stands before another: earlier, or at the same minute with the smaller number. -/
def bef (a b : Aw) : Prop := a.minute < b.minute ∨ (a.minute = b.minute ∧ a.id < b.id)
def key (a : Aw) : Nat := (a.minute * 100 + a.id).toNat
theorem bef_key {n : Nat} {f : Nat → Aw} (h : aGood n f) {i j : Nat} (hi : i < n) (hj : j < n) : bef (f i) (f j) ↔ key (f i) < key (f j) := by
  have h1 := h.1 i hi
  have h2 := h.1 j hj
  unfold aOk at h1 h2
  unfold bef key
  omega
theorem key_inj {n : Nat} {f : Nat → Aw} (h : aGood n f) {i j : Nat} (hi : i < n) (hj : j < n) (e : key (f i) = key (f j)) : i = j := by
  have h1 := h.1 i hi
  have h2 := h.1 j hj
  unfold aOk at h1 h2
  unfold key at e
  have h3 : (f i).id = (f j).id := by omega
  rcases Nat.lt_trichotomy i j with h4 | h4 | h4
  · have := aGood.lt h h4 hj; omega
  · exact h4
  · have := aGood.lt h h4 hi; omega
/-! ### When lockages begin -/
def tmS (f : Nat → Aw) (mi : Int) (hi : Bool) (o : Nat → Nat) : Nat → Int × Bool × Nat
  | 0 => (0, hi, 0)
  | k + 1 => let s := tmS f mi hi o k
    (mx (if s.2.1 = (f (o k)).up then s.1 + mi else s.1) (f (o k)).minute + mi, (f (o k)).up, if s.2.1 = (f (o k)).up then s.2.2 + 1 else s.2.2)
def tmB (f : Nat → Aw) (mi : Int) (hi : Bool) (o : Nat → Nat) (k : Nat) : Int :=
  mx (if (tmS f mi hi o k).2.1 = (f (o k)).up then (tmS f mi hi o k).1 + mi else (tmS f mi hi o k).1) (f (o k)).minute
theorem tmS_in {f : Nat → Aw} {mi : Int} {hi : Bool} {o : Nat → Nat} (h0 : 0 ≤ mi) (h1 : mi ≤ 60) {m : Nat} (hf : ∀ k, k < m → 0 ≤ (f (o k)).minute ∧ (f (o k)).minute ≤ 9999) : ∀ k, k ≤ m → 0 ≤ (tmS f mi hi o k).1 ∧ (tmS f mi hi o k).1 ≤ 9999 + 120 * k ∧ (tmS f mi hi o k).2.2 ≤ k
  | 0, _ => ⟨Int.le_refl _, by show (0 : Int) ≤ _; omega, Nat.le_refl _⟩
  | k + 1, hk => by
    have ih := tmS_in (hi := hi) h0 h1 hf k (by omega)
    have h2 := hf k (by omega)
    unfold tmS
    dsimp only
    unfold mx
    split <;> split <;> omega
theorem tmB_in {f : Nat → Aw} {mi : Int} {hi : Bool} {o : Nat → Nat} (h0 : 0 ≤ mi) (h1 : mi ≤ 60) {m : Nat} (hf : ∀ k, k < m → 0 ≤ (f (o k)).minute ∧ (f (o k)).minute ≤ 9999) {k : Nat} (hk : k < m) : (f (o k)).minute ≤ tmB f mi hi o k ∧ 0 ≤ tmB f mi hi o k ∧ tmB f mi hi o k ≤ 9999 + 120 * k + 60 ∧ (tmS f mi hi o (k + 1)).1 = tmB f mi hi o k + mi := by
  have ih := tmS_in (f := f) (hi := hi) h0 h1 hf k (by omega)
  have h2 := hf k (by omega)
  refine ⟨?_, ?_, ?_, rfl⟩ <;> unfold tmB mx <;> split <;> split <;> omega
def smI (g : Nat → Int) : Nat → Int
  | 0 => 0
  | k + 1 => smI g k + g k
def dlT (f : Nat → Aw) (mi : Int) (hi : Bool) (o : Nat → Nat) (k : Nat) : Int := (f (o k)).weight * (tmB f mi hi o k - (f (o k)).minute)
def dl (f : Nat → Aw) (mi : Int) (hi : Bool) (o : Nat → Nat) (n : Nat) : Int := smI (dlT f mi hi o) n
theorem dlT_in {f : Nat → Aw} {mi : Int} {hi : Bool} {o : Nat → Nat} (h0 : 0 ≤ mi) (h1 : mi ≤ 60) {m : Nat} (hm : m ≤ 6) (hf : ∀ k, k < m → 0 ≤ (f (o k)).minute ∧ (f (o k)).minute ≤ 9999) (hw : ∀ k, k < m → 1 ≤ (f (o k)).weight ∧ (f (o k)).weight ≤ 9) {k : Nat} (hk : k < m) : 0 ≤ tmB f mi hi o k - (f (o k)).minute ∧ tmB f mi hi o k - (f (o k)).minute ≤ 10800 ∧ 0 ≤ dlT f mi hi o k ∧ dlT f mi hi o k ≤ 97200 := by
  have h2 := tmB_in (hi := hi) h0 h1 hf hk
  have h3 := hf k hk
  have h4 := hw k hk
  have h5 : 0 ≤ tmB f mi hi o k - (f (o k)).minute := by omega
  have h6 : tmB f mi hi o k - (f (o k)).minute ≤ 10800 := by omega
  refine ⟨h5, h6, Int.mul_nonneg (by omega) h5, ?_⟩
  exact Int.le_trans (Int.mul_le_mul h4.2 h6 h5 (by omega)) (by omega)
theorem dl_in {f : Nat → Aw} {mi : Int} {hi : Bool} {o : Nat → Nat} (h0 : 0 ≤ mi) (h1 : mi ≤ 60) {m : Nat} (hm : m ≤ 6) (hf : ∀ k, k < m → 0 ≤ (f (o k)).minute ∧ (f (o k)).minute ≤ 9999) (hw : ∀ k, k < m → 1 ≤ (f (o k)).weight ∧ (f (o k)).weight ≤ 9) : ∀ k, k ≤ m → 0 ≤ dl f mi hi o k ∧ dl f mi hi o k ≤ 97200 * k
  | 0, _ => ⟨Int.le_refl _, by show (0 : Int) ≤ _; omega⟩
  | k + 1, hk => by
    have ih := dl_in (hi := hi) h0 h1 hm hf hw k (by omega)
    have h2 := (dlT_in (hi := hi) h0 h1 hm hf hw (show k < m by omega)).2.2
    have e : dl f mi hi o (k + 1) = dl f mi hi o k + dlT f mi hi o k := rfl
    omega
def nth (p : List Nat) (k : Nat) : Nat := p.getD k 0
def dlL (f : Nat → Aw) (mi : Int) (hi : Bool) (p : List Nat) : Int := dl f mi hi (nth p) p.length
theorem nth_mem {p : List Nat} {k : Nat} (h : k < p.length) : nth p k ∈ p := by
  unfold nth
  rw [List.getD_eq_getElem?_getD, List.getElem?_eq_getElem h]
  exact List.getElem_mem h
theorem dlL_in {n : Nat} {f : Nat → Aw} {mi : Int} {hi : Bool} {p : List Nat} (hg : aGood n f) (h0 : 0 ≤ mi) (h1 : mi ≤ 60) (hp : ∀ x ∈ p, x < n) (hl : p.length ≤ 6) : 0 ≤ dlL f mi hi p ∧ dlL f mi hi p ≤ 583200 := by
  have := dl_in (f := f) (hi := hi) (o := nth p) (m := p.length) h0 h1 hl (fun k hk => (hg.1 _ (hp _ (nth_mem hk))).2.1) (fun k hk => (hg.1 _ (hp _ (nth_mem hk))).2.2.1) p.length (Nat.le_refl _)
  unfold dlL
  omega
/-! ### Orders -/
section
variable (n : Nat) (f : Nat → Aw) (mi : Int) (hi : Bool)
/-- One may follow the first ones of an order. -/
def nxt (p : List Nat) (i : Nat) : Prop := i ∉ p ∧ ∀ k, k < n → k ≠ i → (f k).up = (f i).up → bef (f k) (f i) → k ∈ p
def vld (p : List Nat) : Prop := ∀ a x b, p = a ++ x :: b → x < n ∧ nxt n f a x
/-- The program's test of an order. -/
def isO (p : List Nat) : Prop := p.length = n ∧ ∀ a x b, p = a ++ x :: b → x < n ∧ x ∉ a ∧ ∀ y ∈ a, (f y).up = (f x).up → ¬ bef (f x) (f y)
noncomputable def cmb (a b : List Nat × Int) : List Nat × Int := if tr (a.2 < 0 ∨ b.2 < a.2) then b else a
def foldN {α : Type} (step : α → Nat → α) (init : α) : Nat → α
  | 0 => init
  | k + 1 => step (foldN step init k) k
noncomputable def best : Nat → List Nat → List Nat × Int
  | 0, p => (p, dlL f mi hi p)
  | d + 1, p => foldN (fun acc k => if tr (nxt n f p k) then cmb acc (best d (p ++ [k])) else acc) ([], -1) n
noncomputable def fin (p : List Nat) (acc : List Nat × Int) : List Nat × Int := if tr (isO n f p) then cmb acc (p, dlL f mi hi p) else acc
noncomputable def vis : Nat → List Nat → List Nat × Int → List Nat × Int
  | 0, p, acc => fin n f mi hi p acc
  | d + 1, p, acc => fin n f mi hi p (foldN (fun acc k => if tr (k ∈ p) then acc else vis d (p ++ [k]) acc) acc n)
end
section
variable {n : Nat} {f : Nat → Aw} {mi : Int} {hi : Bool}
theorem vld_snoc {p : List Nat} {k : Nat} : vld n f (p ++ [k]) ↔ vld n f p ∧ k < n ∧ nxt n f p k := by
  constructor
  · intro h
    refine ⟨fun a x b e => ?_, h p k [] rfl⟩
    exact h a x (b ++ [k]) (by rw [e]; simp)
  · rintro ⟨h1, h2, h3⟩ a x b e
    rcases List.eq_nil_or_concat b with rfl | ⟨c, y, rfl⟩
    · obtain ⟨e1, e2⟩ := List.append_inj' e rfl
      cases e2
      subst e1
      exact ⟨h2, h3⟩
    · have e' : p ++ [k] = (a ++ x :: c) ++ [y] := by rw [e]; simp
      obtain ⟨e1, e2⟩ := List.append_inj' e' rfl
      exact h1 a x c e1
theorem vld_nd : ∀ {p : List Nat}, vld n f p → p.Nodup ∧ ∀ x ∈ p, x < n := by
  intro p
  induction hl : p.length generalizing p with
  | zero =>
    intro _
    obtain rfl := List.eq_nil_of_length_eq_zero hl
    simp
  | succ m ih =>
    intro h
    rcases List.eq_nil_or_concat p with rfl | ⟨q, k, rfl⟩
    · simp at hl
    · have h' : vld n f (q ++ [k]) := by simpa using h
      obtain ⟨h1, h2, h3⟩ := vld_snoc.1 h'
      have hq : q.length = m := by simpa using hl
      obtain ⟨i1, i2⟩ := ih hq h1
      have := nd_snoc i1 h3.1
      refine ⟨by simpa using this, fun x hx => ?_⟩
      have hx' : x ∈ q ∨ x = k := by simpa using hx
      rcases hx' with e | e
      · exact i2 x e
      · rw [e]; exact h2
theorem bef_not {a b : Aw} (h : bef a b) : ¬ bef b a := by unfold bef at *; omega
theorem isO_vld {p : List Nat} (hn : p.Nodup) (hx : ∀ x ∈ p, x < n) (hl : p.length = n) : isO n f p ↔ vld n f p := by
  constructor
  · rintro ⟨_, h⟩ a x b e
    obtain ⟨h1, h2, h3⟩ := h a x b e
    refine ⟨h1, h2, fun k hk hne hu hb => ?_⟩
    have hm := nd_all hn hx hl hk
    rw [e] at hm
    rcases List.mem_append.1 hm with hm | hm
    · exact hm
    rcases List.mem_cons.1 hm with hm | hm
    · exact absurd hm hne
    · exfalso
      obtain ⟨c, d, hd⟩ := List.append_of_mem hm
      have e2 : p = (a ++ x :: c) ++ k :: d := by rw [e, hd]; simp
      exact (h _ _ _ e2).2.2 x (by simp) hu.symm hb
  · intro h
    refine ⟨hl, fun a x b e => ?_⟩
    obtain ⟨h1, h2, h3⟩ := h a x b e
    refine ⟨h1, h2, fun y hy hu hb => ?_⟩
    obtain ⟨c, d, rfl⟩ := List.append_of_mem hy
    have e2 : p = c ++ y :: (d ++ x :: b) := by rw [e]; simp
    have hne : x ≠ y := fun e3 => by subst e3; exact h2 hy
    have := (h _ _ _ e2).2.2 x h1 hne hu.symm hb
    exact h2 (List.mem_append_left _ this)
theorem cmb_pos {a b : List Nat × Int} (h : 0 ≤ b.2) : 0 ≤ (cmb a b).2 := by
  unfold cmb
  by_cases hc : a.2 < 0 ∨ b.2 < a.2
  · rw [tr_yes hc]; exact h
  · rw [tr_no hc]
    show 0 ≤ a.2
    omega
theorem cmb_assoc {a s b : List Nat × Int} (hs : 0 ≤ s.2) (hb : 0 ≤ b.2) : cmb (cmb a s) b = cmb a (cmb s b) := by
  have y : ∀ {u v : List Nat × Int}, (u.2 < 0 ∨ v.2 < u.2) → cmb u v = v := fun h => by unfold cmb; rw [tr_yes h]; rfl
  have z : ∀ {u v : List Nat × Int}, ¬ (u.2 < 0 ∨ v.2 < u.2) → cmb u v = u := fun h => by unfold cmb; rw [tr_no h]; rfl
  by_cases h1 : a.2 < 0 ∨ s.2 < a.2
  · rw [y h1]
    by_cases h2 : s.2 < 0 ∨ b.2 < s.2
    · rw [y h2, y (show a.2 < 0 ∨ b.2 < a.2 by omega)]
    · rw [z h2, y h1]
  · rw [z h1]
    by_cases h2 : s.2 < 0 ∨ b.2 < s.2
    · rw [y h2]
    · rw [z h2, z h1, z (show ¬ (a.2 < 0 ∨ b.2 < a.2) by omega)]
theorem cmb_nil {b : List Nat × Int} : cmb ([], -1) b = b := by unfold cmb; rw [tr_yes (.inl (by decide))]; rfl
theorem fin_no {p : List Nat} {acc : List Nat × Int} (h : ¬ isO n f p) : fin n f mi hi p acc = acc := by unfold fin; rw [tr_no h]; rfl
theorem fin_yes {p : List Nat} {acc : List Nat × Int} (h : isO n f p) : fin n f mi hi p acc = cmb acc (p, dlL f mi hi p) := by unfold fin; rw [tr_yes h]; rfl
theorem foldN_id {α : Type} {step : α → Nat → α} {init : α} : ∀ k : Nat, (∀ i, i < k → step init i = init) → foldN step init k = init
  | 0, _ => rfl
  | k + 1, h => by show step (foldN step init k) k = init; rw [foldN_id k (fun i hi => h i (by omega)), h k (by omega)]
/-- A prefix that cannot be an order's beginning changes nothing. -/
theorem vis_no : ∀ (d : Nat) (p : List Nat) (acc : List Nat × Int), p.Nodup → (∀ x ∈ p, x < n) → p.length + d = n → ¬ vld n f p → vis n f mi hi d p acc = acc
  | 0, p, acc, hn, hx, hl, hv => fin_no fun h => hv ((isO_vld hn hx hl).1 h)
  | d + 1, p, acc, hn, hx, hl, hv => by
    show fin n f mi hi p _ = acc
    rw [fin_no fun h => by have := h.1; omega]
    refine foldN_id n fun k hk => ?_
    by_cases hm : k ∈ p
    · rw [tr_yes hm]; rfl
    · rw [tr_no hm]
      show vis n f mi hi d (p ++ [k]) acc = acc
      refine vis_no d _ acc (nd_snoc hn hm) (fun x h => ?_) (by simp; omega) (fun h => hv (vld_snoc.1 h).1)
      rcases List.mem_append.1 h with e | e
      · exact hx x e
      · rw [List.mem_singleton.1 e]; exact hk
/-- A beginning that is not whole yet can go on. -/
theorem nxt_some (hg : aGood n f) {p : List Nat} (hl : p.length < n) : ∃ i, i < n ∧ nxt n f p i := by
  have h0 : ∃ i, i < n ∧ i ∉ p := by
    apply Classical.byContradiction
    intro h
    have := all_le n p fun i hi => Classical.byContradiction fun hm => h ⟨i, hi, hm⟩
    omega
  obtain ⟨i0, h1, h2⟩ := h0
  obtain ⟨m, ⟨i, hi1, hi2, rfl⟩, hmin⟩ := minN (fun m => ∃ i, i < n ∧ i ∉ p ∧ key (f i) = m) ⟨_, i0, h1, h2, rfl⟩
  refine ⟨i, hi1, hi2, fun k hk hne hu hb => ?_⟩
  apply Classical.byContradiction
  intro hm
  have h3 := hmin _ ⟨k, hk, hm, rfl⟩
  have h4 := (bef_key hg hk hi1).1 hb
  omega
theorem vis_yes (hg : aGood n f) (h0 : 0 ≤ mi) (h1 : mi ≤ 60) : ∀ (d : Nat) (p : List Nat) (acc : List Nat × Int), vld n f p → p.length + d = n → vis n f mi hi d p acc = cmb acc (best n f mi hi d p) ∧ 0 ≤ (best n f mi hi d p).2
  | 0, p, acc, hv, hl => by
    obtain ⟨hn, hx⟩ := vld_nd hv
    have := hg.2
    exact ⟨fin_yes ((isO_vld hn hx hl).2 hv), (dlL_in hg h0 h1 hx (by omega)).1⟩
  | d + 1, p, acc, hv, hl => by
    obtain ⟨hn, hx⟩ := vld_nd hv
    have key : ∀ k, k ≤ n → let S := foldN (fun acc k => if tr (nxt n f p k) then cmb acc (best n f mi hi d (p ++ [k])) else acc) ([], -1) k
        let T := foldN (fun acc k => if tr (k ∈ p) then acc else vis n f mi hi d (p ++ [k]) acc) acc k
        ((S = ([], -1) ∧ T = acc ∧ ∀ i, i < k → ¬ nxt n f p i) ∨ (0 ≤ S.2 ∧ T = cmb acc S)) := by
      intro k
      induction k with
      | zero => exact fun _ => .inl ⟨rfl, rfl, fun i hi => absurd hi (Nat.not_lt_zero i)⟩
      | succ k ih =>
        intro hk
        have ih := ih (by omega)
        dsimp only [foldN] at ih ⊢
        generalize foldN (fun acc k => if tr (nxt n f p k) then cmb acc (best n f mi hi d (p ++ [k])) else acc) ([], -1) k = S at *
        generalize foldN (fun acc k => if tr (k ∈ p) then acc else vis n f mi hi d (p ++ [k]) acc) acc k = T at *
        by_cases hnx : nxt n f p k
        · rw [tr_yes hnx, tr_no hnx.1]
          simp only [if_true, Bool.false_eq_true, if_false]
          have hv2 : vld n f (p ++ [k]) := vld_snoc.2 ⟨hv, by omega, hnx⟩
          obtain ⟨e1, e2⟩ := vis_yes hg h0 h1 d (p ++ [k]) T hv2 (by simp; omega)
          refine .inr ⟨cmb_pos e2, ?_⟩
          rw [e1]
          rcases ih with ⟨i1, i2, _⟩ | ⟨i1, i2⟩
          · rw [i1, i2, cmb_nil]
          · rw [i2, cmb_assoc i1 e2]
        · rw [tr_no hnx]
          simp only [Bool.false_eq_true, if_false]
          have eT : (if tr (k ∈ p) then T else vis n f mi hi d (p ++ [k]) T) = T := by
            by_cases hm : k ∈ p
            · rw [tr_yes hm]; rfl
            · rw [tr_no hm]
              show vis n f mi hi d (p ++ [k]) T = T
              refine vis_no d _ T (nd_snoc hn hm) (fun x h => ?_) (by simp; omega) (fun h => hnx (vld_snoc.1 h).2.2)
              rcases List.mem_append.1 h with e | e
              · exact hx x e
              · rw [List.mem_singleton.1 e]; omega
          rw [eT]
          rcases ih with ⟨i1, i2, i3⟩ | ih
          · refine .inl ⟨i1, i2, fun i hi => ?_⟩
            rcases Nat.lt_or_ge i k with h2 | h2
            · exact i3 i h2
            · obtain rfl : i = k := by omega
              exact hnx
          · exact .inr ih
    have kk := key n (Nat.le_refl n)
    show fin n f mi hi p _ = _ ∧ _
    rw [fin_no fun h => by have := h.1; omega]
    rcases kk with ⟨_, _, k3⟩ | ⟨k1, k2⟩
    · obtain ⟨i, i1, i2⟩ := nxt_some hg (show p.length < n by omega)
      exact absurd i2 (k3 i i1)
    · exact ⟨k2, k1⟩
theorem vld_nil : vld n f [] := fun a x b e => by cases a <;> cases e
/-- Both ways come to the same order. -/
theorem vis_best (hg : aGood n f) (h0 : 0 ≤ mi) (h1 : mi ≤ 60) : vis n f mi hi n [] ([], -1) = best n f mi hi n [] := by
  rw [(vis_yes hg h0 h1 n [] ([], -1) vld_nil (by simp)).1, cmb_nil]
/-- What a best order is like. -/
theorem best_in (hg : aGood n f) (h0 : 0 ≤ mi) (h1 : mi ≤ 60) : ∀ (d : Nat) (p : List Nat), vld n f p → p.length + d = n → vld n f (best n f mi hi d p).1 ∧ (best n f mi hi d p).1.length = n ∧ 0 ≤ (best n f mi hi d p).2 ∧ (best n f mi hi d p).2 ≤ 583200
  | 0, p, hv, hl => by
    obtain ⟨hn, hx⟩ := vld_nd hv
    have := hg.2
    exact ⟨hv, hl, dlL_in hg h0 h1 hx (by omega)⟩
  | d + 1, p, hv, hl => by
    have hpos := (vis_yes (mi := mi) (hi := hi) hg h0 h1 (d + 1) p ([], -1) hv hl).2
    have key : ∀ k, k ≤ n → let S := foldN (fun acc k => if tr (nxt n f p k) then cmb acc (best n f mi hi d (p ++ [k])) else acc) ([], -1) k
        (S = ([], -1) ∨ (vld n f S.1 ∧ S.1.length = n ∧ 0 ≤ S.2 ∧ S.2 ≤ 583200)) := by
      intro k
      induction k with
      | zero => exact fun _ => .inl rfl
      | succ k ih =>
        intro hk
        have ih := ih (by omega)
        dsimp only [foldN] at ih ⊢
        generalize foldN (fun acc k => if tr (nxt n f p k) then cmb acc (best n f mi hi d (p ++ [k])) else acc) ([], -1) k = S at *
        by_cases hnx : nxt n f p k
        · rw [tr_yes hnx]
          simp only [if_true]
          have hv2 : vld n f (p ++ [k]) := vld_snoc.2 ⟨hv, by omega, hnx⟩
          have hb := best_in hg h0 h1 d (p ++ [k]) hv2 (by simp; omega)
          right
          unfold cmb
          by_cases hc : S.2 < 0 ∨ (best n f mi hi d (p ++ [k])).2 < S.2
          · rw [tr_yes hc]; exact hb
          · rw [tr_no hc]
            rcases ih with i1 | i1
            · rw [i1] at hc; exact absurd (.inl (by decide)) hc
            · exact i1
        · rw [tr_no hnx]
          exact ih
    rcases key n (Nat.le_refl n) with k1 | k1
    · have e : best n f mi hi (d + 1) p = ([], -1) := k1
      rw [e] at hpos
      exact absurd hpos (by decide)
    · exact k1
end
end Go.Proofs.YtadjhkehfklmnaaDoor
