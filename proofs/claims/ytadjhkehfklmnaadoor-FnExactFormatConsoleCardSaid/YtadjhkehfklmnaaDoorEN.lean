/-
  Numerals with a sign, and what number a text tells: plain.
  Conditions: none beyond each statement's own premises.
-/
import Derived.Test.YtadjhkehfklmnaaDoorEC
import Derived.Lib.Atoi
namespace Go.Proofs.YtadjhkehfklmnaaDoor
set_option linter.unusedSimpArgs false
set_option linter.unusedVariables false
open Go.RowKit
set_option maxRecDepth 10000
theorem decFrom_snoc (b : UInt8) : ∀ (l : List UInt8) (acc : Nat), Lib.decFrom acc (l ++ [b]) = match Lib.decFrom acc l with
    | some m => (match Lib.digitVal b with
      | some d => some (m * 10 + d)
      | none => none)
    | none => none
  | [], acc => by
    show (match Lib.digitVal b with
      | some d => Lib.decFrom (acc * 10 + d) []
      | none => none) = _
    cases Lib.digitVal b <;> rfl
  | c :: l, acc => by
    show (match Lib.digitVal c with
      | some d => Lib.decFrom (acc * 10 + d) (l ++ [b])
      | none => none) = match (match Lib.digitVal c with
      | some d => Lib.decFrom (acc * 10 + d) l
      | none => none) with
      | some m => _
      | none => none
    cases Lib.digitVal c with
    | none => rfl
    | some d => exact decFrom_snoc b l _
theorem digit_of {u : Nat} (h : u < 10) : Lib.digitVal (UInt8.ofNat (48 + u)) = some u := by
  have e : (UInt8.ofNat (48 + u)).toNat = 48 + u := by
    rw [UInt8.toNat_ofNat']
    omega
  unfold Lib.digitVal
  rw [e, if_pos ⟨by omega, by omega⟩]
  congr 1
  omega
theorem decFrom_dd (n : Nat) : Lib.decFrom 0 (Lib.decDigits n) = some n := by
  induction n using Nat.strongRecOn with
  | ind n ih =>
    rw [Lib.decDigits]
    by_cases h : n < 10
    · rw [dif_pos h]
      show (match Lib.digitVal (UInt8.ofNat (48 + n)) with
        | some d => Lib.decFrom (0 * 10 + d) []
        | none => none) = some n
      rw [digit_of h]
      show some (0 * 10 + n) = some n
      congr 1
      omega
    · rw [dif_neg h, decFrom_snoc, ih (n / 10) (by omega), digit_of (by omega)]
      show some (n / 10 * 10 + n % 10) = some n
      congr 1
      omega
theorem digitVal_in {b : UInt8} {d : Nat} (h : Lib.digitVal b = some d) : 48 ≤ b.toNat ∧ b.toNat ≤ 57 ∧ d = b.toNat - 48 := by
  unfold Lib.digitVal at h
  split at h
  · rename_i h1
    cases h
    exact ⟨h1.1, h1.2, rfl⟩
  · cases h
theorem digitVal_yes {b : UInt8} (h1 : 48 ≤ b.toNat) (h2 : b.toNat ≤ 57) : Lib.digitVal b = some (b.toNat - 48) := if_pos ⟨h1, h2⟩
theorem dd_dig (n : Nat) {k : Nat} {b : UInt8} (h : (Lib.decDigits n)[k]? = some b) : 48 ≤ b.toNat ∧ b.toNat ≤ 57 := by
  obtain ⟨d, hd⟩ := Lib.digit_of_decFrom _ 0 n (decFrom_dd n) k b h
  have := digitVal_in hd
  exact ⟨this.1, this.2.1⟩
theorem dd_ne (n : Nat) : Lib.decDigits n ≠ [] := by
  rw [Lib.decDigits]
  split
  · simp
  · simp
theorem decNat_dd (n : Nat) : Lib.decNat (Lib.decDigits n) = some n := by
  unfold Lib.decNat
  rw [if_neg (by rw [List.isEmpty_iff]; exact dd_ne n)]
  exact decFrom_dd n
theorem atoi_itoa (n : Int) : Lib.atoi (Lib.itoa n) = some n := by
  unfold Lib.itoa
  by_cases h : n < 0
  · rw [if_pos h]
    show (if ((45 : UInt8) == 45) = true then (Lib.decNat (Lib.decDigits n.natAbs)).map (fun (m : Nat) => -(m : Int)) else (if ((45 : UInt8) == 43) = true then (Lib.decNat (Lib.decDigits n.natAbs)).map (fun (m : Nat) => (m : Int)) else (Lib.decNat (45 :: Lib.decDigits n.natAbs)).map (fun (m : Nat) => (m : Int)))) = some n
    rw [if_pos (beq_self_eq_true _), decNat_dd]
    show some (-(n.natAbs : Int)) = some n
    congr 1
    omega
  · rw [if_neg h]
    obtain ⟨b, r, e⟩ : ∃ b r, Lib.decDigits n.toNat = b :: r := by
      cases e : Lib.decDigits n.toNat with
      | nil => exact absurd e (dd_ne _)
      | cons b r => exact ⟨b, r, rfl⟩
    have hd := dd_dig n.toNat (k := 0) (b := b) (by rw [e]; rfl)
    have h1 : (b == 45) = false := by
      rw [beq_eq_false_iff_ne]
      intro q
      rw [q] at hd
      exact absurd hd.1 (by decide)
    have h2 : (b == 43) = false := by
      rw [beq_eq_false_iff_ne]
      intro q
      rw [q] at hd
      exact absurd hd.1 (by decide)
    have h3 := decNat_dd n.toNat
    rw [e] at h3 ⊢
    show (if (b == 45) = true then (Lib.decNat r).map (fun (m : Nat) => -(m : Int)) else (if (b == 43) = true then (Lib.decNat r).map (fun (m : Nat) => (m : Int)) else (Lib.decNat (b :: r)).map (fun (m : Nat) => (m : Int)))) = some n
    rw [h1, h2, if_neg (by simp), if_neg (by simp), h3]
    show some ((n.toNat : Nat) : Int) = some n
    congr 1
    omega
theorem itoa_inj {m n : Int} (h : Lib.itoa m = Lib.itoa n) : m = n := by
  have h1 := atoi_itoa m
  rw [h, atoi_itoa n] at h1
  injection h1 with h1
  exact h1.symm
theorem dd_inj {m n : Nat} (h : Lib.decDigits m = Lib.decDigits n) : m = n := by
  have h1 := decFrom_dd m
  rw [h, decFrom_dd n] at h1
  injection h1 with h1
  exact h1.symm
/-- The number that a text tells. -/
def rdV (l : List UInt8) : Int × Bool := match Lib.atoi l with
  | some n => if (-999999 ≤ n ∧ n ≤ 999999) ∧ Lib.itoa n = l then (n, true) else (0, false)
  | none => (0, false)
theorem rdV_itoa {n : Int} (h1 : -999999 ≤ n) (h2 : n ≤ 999999) : rdV (Lib.itoa n) = (n, true) := by
  unfold rdV
  rw [atoi_itoa]
  exact if_pos ⟨⟨h1, h2⟩, rfl⟩
theorem rdV_cases (l : List UInt8) : (∃ n : Int, (-999999 ≤ n ∧ n ≤ 999999) ∧ l = Lib.itoa n ∧ rdV l = (n, true)) ∨ ((∀ n : Int, -999999 ≤ n → n ≤ 999999 → ¬ l = Lib.itoa n) ∧ rdV l = (0, false)) := by
  by_cases h : ∃ n : Int, (-999999 ≤ n ∧ n ≤ 999999) ∧ l = Lib.itoa n
  · obtain ⟨n, h1, h2⟩ := h
    exact .inl ⟨n, h1, h2, by rw [h2]; exact rdV_itoa h1.1 h1.2⟩
  · refine .inr ⟨fun n h1 h2 h3 => h ⟨n, ⟨h1, h2⟩, h3⟩, ?_⟩
    unfold rdV
    split
    · rename_i n _
      exact if_neg fun q => h ⟨n, q.1, q.2.symm⟩
    · rfl
theorem rdV_le (l : List UInt8) : -999999 ≤ (rdV l).1 ∧ (rdV l).1 ≤ 999999 := by
  rcases rdV_cases l with ⟨n, h1, _, h3⟩ | ⟨_, h3⟩
  · rw [h3]; exact h1
  · rw [h3]; exact ⟨by decide, by decide⟩
/-- The digits behind the sign. -/
def unS (l : List UInt8) : List UInt8 := if 1 < l.length ∧ l[0]? = some 45 then l.drop 1 else l
theorem unS_yes {l : List UInt8} (h1 : 1 < l.length) (h2 : l[0]? = some 45) : unS l = l.drop 1 := if_pos ⟨h1, h2⟩
theorem unS_no {l : List UInt8} (h : ¬ (1 < l.length ∧ l[0]? = some 45)) : unS l = l := if_neg h
theorem unS_itoa {n : Int} : unS (Lib.itoa n) = Lib.decDigits n.natAbs ∧ (n < 0 ↔ (unS (Lib.itoa n)).length < (Lib.itoa n).length) := by
  unfold Lib.itoa
  by_cases h : n < 0
  · rw [if_pos h]
    have h1 : 1 < (45 :: Lib.decDigits n.natAbs).length := by
      have := dd_ne n.natAbs
      have : 0 < (Lib.decDigits n.natAbs).length := List.length_pos_iff.2 this
      simp
      omega
    rw [unS_yes h1 rfl]
    refine ⟨rfl, fun _ => ?_, fun _ => h⟩
    simp
  · rw [if_neg h]
    have e : n.toNat = n.natAbs := by omega
    have h1 : ¬ (1 < (Lib.decDigits n.toNat).length ∧ (Lib.decDigits n.toNat)[0]? = some 45) := fun q => by
      have := dd_dig _ q.2
      exact absurd this.1 (by decide)
    rw [unS_no h1, e]
    exact ⟨rfl, fun q => absurd q h, fun q => absurd q (Nat.lt_irrefl _)⟩
theorem itoa_len {n : Int} (h1 : -999999 ≤ n) (h2 : n ≤ 999999) : 1 ≤ (Lib.itoa n).length ∧ (Lib.itoa n).length ≤ 7 := by
  unfold Lib.itoa
  have hp : ∀ m : Nat, 0 < (Lib.decDigits m).length := fun m => List.length_pos_iff.2 (dd_ne m)
  split
  · have := dd_len 5 n.natAbs (by omega)
    have := hp n.natAbs
    simp
    omega
  · have := dd_len 5 n.toNat (by omega)
    have := hp n.toNat
    omega
theorem itoaN (n : Nat) : Lib.itoa (n : Int) = Lib.decDigits n := Lib.itoa_nonneg n
theorem VSub.tx {p q : List UInt8} {lo hi : Option Value} {K : Value → Prop} (l h : Nat) (hl : bnd lo 0 l) (hh : bnd hi (tx p).size h) (h1 : l ≤ h) (h2 : h ≤ p.length) (e : (p.take h).drop l = q) (k : K (.string (tx q))) : VSub (tx p) lo hi K :=
  .mk l h hl hh h1 (by rw [tx_size]; exact h2) (by rw [tx_sub, e]; exact k)
theorem rdV_no {l : List UInt8} (h : ∀ n : Int, -999999 ≤ n → n ≤ 999999 → ¬ l = Lib.itoa n) : rdV l = (0, false) := by
  rcases rdV_cases l with ⟨n, h1, h2, _⟩ | ⟨_, h2⟩
  · exact absurd h2 (h n h1.1 h1.2)
  · exact h2
theorem rdV_no_len {l : List UInt8} (h : ¬ (1 ≤ (unS l).length ∧ (unS l).length ≤ 6)) : rdV l = (0, false) := rdV_no fun n h1 h2 e => by
  subst e
  rw [unS_itoa.1] at h
  have h3 := dd_len 5 n.natAbs (by omega)
  have h4 : 0 < (Lib.decDigits n.natAbs).length := List.length_pos_iff.2 (dd_ne _)
  omega
theorem rdV_no_digit {l : List UInt8} {k : Nat} (hk : k < (unS l).length) (hb : ¬ (48 ≤ ((unS l).getD k 0).toNat ∧ ((unS l).getD k 0).toNat ≤ 57)) : rdV l = (0, false) := rdV_no fun n h1 h2 e => by
  subst e
  rw [unS_itoa.1] at hk hb
  rw [List.getD_eq_getElem?_getD, List.getElem?_eq_getElem hk] at hb
  exact hb (dd_dig n.natAbs (List.getElem?_eq_getElem hk))
/-- The number with its sign. -/
def sgV (l : List UInt8) (acc : Nat) : Int := if (unS l).length < l.length then -(acc : Int) else acc
theorem sgV_no {l : List UInt8} {acc : Nat} (h : Lib.decFrom 0 (unS l) = some acc) (hne : ¬ Lib.itoa (sgV l acc) = l) : rdV l = (0, false) := rdV_no fun n h1 h2 e => by
  apply hne
  subst e
  obtain ⟨e1, e2⟩ := unS_itoa (n := n)
  rw [e1, decFrom_dd] at h
  injection h with h
  have e3 : sgV (Lib.itoa n) acc = n := by
    unfold sgV
    split
    · rename_i q
      have := e2.2 q
      omega
    · rename_i q
      have : ¬ n < 0 := fun q2 => q (e2.1 q2)
      omega
  rw [e3]
theorem sgV_yes {l : List UInt8} {acc : Nat} (ha : acc ≤ 999999) (he : Lib.itoa (sgV l acc) = l) : rdV l = (sgV l acc, true) := by
  have := rdV_itoa (n := sgV l acc) (by unfold sgV; split <;> omega) (by unfold sgV; split <;> omega)
  rw [he] at this
  exact this
theorem digits_suc {t : List UInt8} {k acc : Nat} (hk : k < t.length) (h : Lib.decFrom 0 (t.take k) = some acc) (h1 : 48 ≤ (t.getD k 0).toNat) (h2 : (t.getD k 0).toNat ≤ 57) : Lib.decFrom 0 (t.take (k + 1)) = some (10 * acc + ((t.getD k 0).toNat - 48)) := by
  have hg : t[k]? = some (t.getD k 0) := by rw [List.getD_eq_getElem?_getD, List.getElem?_eq_getElem hk]; rfl
  rw [Lib.decFrom_take t k 0 acc _ _ h hg (digitVal_yes h1 h2)]
  congr 1
  omega
theorem digits_lt {t : List UInt8} {k acc : Nat} (hk : k ≤ 6) (h : Lib.decFrom 0 (t.take k) = some acc) : acc ≤ 999999 := by
  have h1 := Lib.decFrom_lt _ _ _ h
  have h2 : (t.take k).length ≤ 6 := by rw [List.length_take]; omega
  have h3 : 10 ^ (t.take k).length ≤ 10 ^ 6 := Nat.pow_le_pow_right (by decide) h2
  omega
end Go.Proofs.YtadjhkehfklmnaaDoor
