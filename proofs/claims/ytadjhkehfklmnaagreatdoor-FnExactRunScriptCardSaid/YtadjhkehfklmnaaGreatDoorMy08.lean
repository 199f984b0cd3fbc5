/-
  Texts joined: how the calls that the law reaches are walked, and the plain laws behind them.
  Conditions: none beyond each statement's own premises.
-/
import Derived.Test.YtadjhkehfklmnaaGreatDoorMy07
import Derived.Lib.Atoi
import Derived.Lib.Split
import Derived.Lib.SplitLaws
import Derived.Lib.CountLaws
import Derived.Lib.IndexBytes
import Derived.Lib.Join
namespace Go.Proofs.YtadjhkehfklmnaaGreatDoor
set_option linter.unusedSimpArgs false
set_option linter.unusedVariables false
open Go.RowKit
set_option maxRecDepth 10000
theorem decFrom_snoc (b : UInt8) : ∀ (l : List UInt8) (acc : Nat), Lib.decFrom acc (l ++ [b]) = match Lib.decFrom acc l with
    | some m => (match Lib.digitVal b with
      | some d => some (m * 10 + d)
      | none => none)
    | none => none
  | [], acc => by
    show (match Lib.digitVal b with
      | some d => Lib.decFrom (acc * 10 + d) []
      | none => none) = _
    cases Lib.digitVal b <;> rfl
  | c :: l, acc => by
    show (match Lib.digitVal c with
      | some d => Lib.decFrom (acc * 10 + d) (l ++ [b])
      | none => none) = match (match Lib.digitVal c with
      | some d => Lib.decFrom (acc * 10 + d) l
      | none => none) with
      | some m => _
      | none => none
    cases Lib.digitVal c with
    | none => rfl
    | some d => exact decFrom_snoc b l _
theorem digit_of {u : Nat} (h : u < 10) : Lib.digitVal (UInt8.ofNat (48 + u)) = some u := by
  have e : (UInt8.ofNat (48 + u)).toNat = 48 + u := by
    rw [UInt8.toNat_ofNat']
    omega
  unfold Lib.digitVal
  rw [e, if_pos ⟨by omega, by omega⟩]
  congr 1
  omega
theorem decFrom_dd (n : Nat) : Lib.decFrom 0 (Lib.decDigits n) = some n := by
  induction n using Nat.strongRecOn with
  | ind n ih =>
    rw [Lib.decDigits]
    by_cases h : n < 10
    · rw [dif_pos h]
      show (match Lib.digitVal (UInt8.ofNat (48 + n)) with
        | some d => Lib.decFrom (0 * 10 + d) []
        | none => none) = some n
      rw [digit_of h]
      show some (0 * 10 + n) = some n
      congr 1
      omega
    · rw [dif_neg h, decFrom_snoc, ih (n / 10) (by omega), digit_of (by omega)]
      show some (n / 10 * 10 + n % 10) = some n
      congr 1
      omega
theorem digitVal_in {b : UInt8} {d : Nat} (h : Lib.digitVal b = some d) : 48 ≤ b.toNat ∧ b.toNat ≤ 57 ∧ d = b.toNat - 48 := by
  unfold Lib.digitVal at h
  split at h
  · rename_i h1
    cases h
    exact ⟨h1.1, h1.2, rfl⟩
  · cases h
theorem digitVal_yes {b : UInt8} (h1 : 48 ≤ b.toNat) (h2 : b.toNat ≤ 57) : Lib.digitVal b = some (b.toNat - 48) := if_pos ⟨h1, h2⟩
theorem dd_dig (n : Nat) {k : Nat} {b : UInt8} (h : (Lib.decDigits n)[k]? = some b) : 48 ≤ b.toNat ∧ b.toNat ≤ 57 := by
  obtain ⟨d, hd⟩ := Lib.digit_of_decFrom _ 0 n (decFrom_dd n) k b h
  have := digitVal_in hd
  exact ⟨this.1, this.2.1⟩
theorem dd_ne (n : Nat) : Lib.decDigits n ≠ [] := by
  rw [Lib.decDigits]
  split
  · simp
  · simp
theorem decNat_dd (n : Nat) : Lib.decNat (Lib.decDigits n) = some n := by
  unfold Lib.decNat
  rw [if_neg (by rw [List.isEmpty_iff]; exact dd_ne n)]
  exact decFrom_dd n
theorem atoi_itoa (n : Int) : Lib.atoi (Lib.itoa n) = some n := by
  unfold Lib.itoa
  by_cases h : n < 0
  · rw [if_pos h]
    show (if ((45 : UInt8) == 45) = true then (Lib.decNat (Lib.decDigits n.natAbs)).map (fun (m : Nat) => -(m : Int)) else (if ((45 : UInt8) == 43) = true then (Lib.decNat (Lib.decDigits n.natAbs)).map (fun (m : Nat) => (m : Int)) else (Lib.decNat (45 :: Lib.decDigits n.natAbs)).map (fun (m : Nat) => (m : Int)))) = some n
    rw [if_pos (beq_self_eq_true _), decNat_dd]
    show some (-(n.natAbs : Int)) = some n
    congr 1
    omega
  · rw [if_neg h]
    obtain ⟨b, r, e⟩ : ∃ b r, Lib.decDigits n.toNat = b :: r := by
      cases e : Lib.decDigits n.toNat with
      | nil => exact absurd e (dd_ne _)
      | cons b r => exact ⟨b, r, rfl⟩
    have hd := dd_dig n.toNat (k := 0) (b := b) (by rw [e]; rfl)
    have h1 : (b == 45) = false := by
      rw [beq_eq_false_iff_ne]
      intro q
      rw [q] at hd
      exact absurd hd.1 (by decide)
    have h2 : (b == 43) = false := by
      rw [beq_eq_false_iff_ne]
      intro q
      rw [q] at hd
      exact absurd hd.1 (by decide)
    have h3 := decNat_dd n.toNat
    rw [e] at h3 ⊢
    show (if (b == 45) = true then (Lib.decNat r).map (fun (m : Nat) => -(m : Int)) else (if (b == 43) = true then (Lib.decNat r).map (fun (m : Nat) => (m : Int)) else (Lib.decNat (b :: r)).map (fun (m : Nat) => (m : Int)))) = some n
    rw [h1, h2, if_neg (by simp), if_neg (by simp), h3]
    show some ((n.toNat : Nat) : Int) = some n
    congr 1
    omega
def rdV (l : List UInt8) : Int × Bool := match Lib.atoi l with
  | some n => if (-999999 ≤ n ∧ n ≤ 999999) ∧ Lib.itoa n = l then (n, true) else (0, false)
  | none => (0, false)
theorem rdV_itoa {n : Int} (h1 : -999999 ≤ n) (h2 : n ≤ 999999) : rdV (Lib.itoa n) = (n, true) := by
  unfold rdV
  rw [atoi_itoa]
  exact if_pos ⟨⟨h1, h2⟩, rfl⟩
theorem rdV_cases (l : List UInt8) : (∃ n : Int, (-999999 ≤ n ∧ n ≤ 999999) ∧ l = Lib.itoa n ∧ rdV l = (n, true)) ∨ ((∀ n : Int, -999999 ≤ n → n ≤ 999999 → ¬ l = Lib.itoa n) ∧ rdV l = (0, false)) := by
  by_cases h : ∃ n : Int, (-999999 ≤ n ∧ n ≤ 999999) ∧ l = Lib.itoa n
  · obtain ⟨n, h1, h2⟩ := h
    exact .inl ⟨n, h1, h2, by rw [h2]; exact rdV_itoa h1.1 h1.2⟩
  · refine .inr ⟨fun n h1 h2 h3 => h ⟨n, ⟨h1, h2⟩, h3⟩, ?_⟩
    unfold rdV
    split
    · rename_i n _
      exact if_neg fun q => h ⟨n, q.1, q.2.symm⟩
    · rfl
def unS (l : List UInt8) : List UInt8 := if 1 < l.length ∧ l[0]? = some 45 then l.drop 1 else l
theorem unS_yes {l : List UInt8} (h1 : 1 < l.length) (h2 : l[0]? = some 45) : unS l = l.drop 1 := if_pos ⟨h1, h2⟩
theorem unS_no {l : List UInt8} (h : ¬ (1 < l.length ∧ l[0]? = some 45)) : unS l = l := if_neg h
theorem unS_itoa {n : Int} : unS (Lib.itoa n) = Lib.decDigits n.natAbs ∧ (n < 0 ↔ (unS (Lib.itoa n)).length < (Lib.itoa n).length) := by
  unfold Lib.itoa
  by_cases h : n < 0
  · rw [if_pos h]
    have h1 : 1 < (45 :: Lib.decDigits n.natAbs).length := by
      have := dd_ne n.natAbs
      have : 0 < (Lib.decDigits n.natAbs).length := List.length_pos_iff.2 this
      simp
      omega
    rw [unS_yes h1 rfl]
    refine ⟨rfl, fun _ => ?_, fun _ => h⟩
    simp
  · rw [if_neg h]
    have e : n.toNat = n.natAbs := by omega
    have h1 : ¬ (1 < (Lib.decDigits n.toNat).length ∧ (Lib.decDigits n.toNat)[0]? = some 45) := fun q => by
      have := dd_dig _ q.2
      exact absurd this.1 (by decide)
    rw [unS_no h1, e]
    exact ⟨rfl, fun q => absurd q h, fun q => absurd q (Nat.lt_irrefl _)⟩
theorem itoa_len {n : Int} (h1 : -999999 ≤ n) (h2 : n ≤ 999999) : 1 ≤ (Lib.itoa n).length ∧ (Lib.itoa n).length ≤ 7 := by
  unfold Lib.itoa
  have hp : ∀ m : Nat, 0 < (Lib.decDigits m).length := fun m => List.length_pos_iff.2 (dd_ne m)
  split
  · have := dd_len 5 n.natAbs (by omega)
    have := hp n.natAbs
    simp
    omega
  · have := dd_len 5 n.toNat (by omega)
    have := hp n.toNat
    omega
theorem itoaN (n : Nat) : Lib.itoa (n : Int) = Lib.decDigits n := Lib.itoa_nonneg n
theorem VSub.tx {p q : List UInt8} {lo hi : Option Value} {K : Value → Prop} (l h : Nat) (hl : bnd lo 0 l) (hh : bnd hi (tx p).size h) (h1 : l ≤ h) (h2 : h ≤ p.length) (e : (p.take h).drop l = q) (k : K (.string (tx q))) : VSub (tx p) lo hi K :=
  .mk l h hl hh h1 (by rw [tx_size]; exact h2) (by rw [tx_sub, e]; exact k)
theorem rdV_no {l : List UInt8} (h : ∀ n : Int, -999999 ≤ n → n ≤ 999999 → ¬ l = Lib.itoa n) : rdV l = (0, false) := by
  rcases rdV_cases l with ⟨n, h1, h2, _⟩ | ⟨_, h2⟩
  · exact absurd h2 (h n h1.1 h1.2)
  · exact h2
theorem rdV_no_len {l : List UInt8} (h : ¬ (1 ≤ (unS l).length ∧ (unS l).length ≤ 6)) : rdV l = (0, false) := rdV_no fun n h1 h2 e => by
  subst e
  rw [unS_itoa.1] at h
  have h3 := dd_len 5 n.natAbs (by omega)
  have h4 : 0 < (Lib.decDigits n.natAbs).length := List.length_pos_iff.2 (dd_ne _)
  omega
theorem rdV_no_digit {l : List UInt8} {k : Nat} (hk : k < (unS l).length) (hb : ¬ (48 ≤ ((unS l).getD k 0).toNat ∧ ((unS l).getD k 0).toNat ≤ 57)) : rdV l = (0, false) := rdV_no fun n h1 h2 e => by
  subst e
  rw [unS_itoa.1] at hk hb
  rw [List.getD_eq_getElem?_getD, List.getElem?_eq_getElem hk] at hb
  exact hb (dd_dig n.natAbs (List.getElem?_eq_getElem hk))
def sgV (l : List UInt8) (acc : Nat) : Int := if (unS l).length < l.length then -(acc : Int) else acc
theorem sgV_no {l : List UInt8} {acc : Nat} (h : Lib.decFrom 0 (unS l) = some acc) (hne : ¬ Lib.itoa (sgV l acc) = l) : rdV l = (0, false) := rdV_no fun n h1 h2 e => by
  apply hne
  subst e
  obtain ⟨e1, e2⟩ := unS_itoa (n := n)
  rw [e1, decFrom_dd] at h
  injection h with h
  have e3 : sgV (Lib.itoa n) acc = n := by
    unfold sgV
    split
    · rename_i q
      have := e2.2 q
      omega
    · rename_i q
      have : ¬ n < 0 := fun q2 => q (e2.1 q2)
      omega
  rw [e3]
theorem sgV_yes {l : List UInt8} {acc : Nat} (ha : acc ≤ 999999) (he : Lib.itoa (sgV l acc) = l) : rdV l = (sgV l acc, true) := by
  have := rdV_itoa (n := sgV l acc) (by unfold sgV; split <;> omega) (by unfold sgV; split <;> omega)
  rw [he] at this
  exact this
theorem digits_suc {t : List UInt8} {k acc : Nat} (hk : k < t.length) (h : Lib.decFrom 0 (t.take k) = some acc) (h1 : 48 ≤ (t.getD k 0).toNat) (h2 : (t.getD k 0).toNat ≤ 57) : Lib.decFrom 0 (t.take (k + 1)) = some (10 * acc + ((t.getD k 0).toNat - 48)) := by
  have hg : t[k]? = some (t.getD k 0) := by rw [List.getD_eq_getElem?_getD, List.getElem?_eq_getElem hk]; rfl
  rw [Lib.decFrom_take t k 0 acc _ _ h hg (digitVal_yes h1 h2)]
  congr 1
  omega
theorem digits_lt {t : List UInt8} {k acc : Nat} (hk : k ≤ 6) (h : Lib.decFrom 0 (t.take k) = some acc) : acc ≤ 999999 := by
  have h1 := Lib.decFrom_lt _ _ _ h
  have h2 : (t.take k).length ≤ 6 := by rw [List.length_take]; omega
  have h3 : 10 ^ (t.take k).length ≤ 10 ^ 6 := Nat.pow_le_pow_right (by decide) h2
  omega
end Go.Proofs.YtadjhkehfklmnaaGreatDoor
namespace Go.Proofs.YtadjhkehfklmnaaGreatDoor
set_option linter.unusedSimpArgs false
set_option linter.unusedVariables false
open Go.RowKit
set_option maxRecDepth 10000
theorem spl_shift {c : UInt8} {p q : List UInt8} (h : c ∉ p) : ∀ k, spl c (p ++ c :: q) (p.length + 1 + k) = (p :: (spl c q k).1, p.length + 1 + (spl c q k).2)
  | 0 => spl_one h
  | k + 1 => by
    have e : (p ++ c :: q)[p.length + 1 + k]? = q[k]? := by
      rw [List.getElem?_append_right (by omega), show p.length + 1 + k - p.length = k + 1 by omega, List.getElem?_cons_succ]
    have ih := spl_shift (q := q) h k
    rw [show p.length + 1 + (k + 1) = p.length + 1 + k + 1 from rfl]
    by_cases hc : q[k]? = some c
    · rw [spl_yes (e.trans hc), spl_yes hc, ih]
      have e2 : ((p ++ c :: q).take (p.length + 1 + k)).drop (p.length + 1 + (spl c q k).2) = (q.take k).drop (spl c q k).2 := by
        have e3 : p ++ c :: q = (p ++ [c]) ++ q := by simp
        have e4 : (p ++ [c]).length = p.length + 1 := by simp
        rw [e3, ← e4, List.take_length_add_append, List.drop_length_add_append]
      dsimp only
      rw [e2]
      rfl
    · rw [spl_no (fun x => hc (e.symm.trans x)), spl_no hc, ih]
theorem sps_cons {c : UInt8} {p q : List UInt8} (h : c ∉ p) : sps c (p ++ c :: q) = p :: sps c q := by
  unfold sps
  have e1 : (p ++ c :: q).length = p.length + 1 + q.length := by simp; omega
  have e3 : p ++ c :: q = (p ++ [c]) ++ q := by simp
  have e4 : (p ++ [c]).length = p.length + 1 := by simp
  rw [e1, spl_shift h]
  dsimp only
  rw [e3, ← e4, List.drop_length_add_append]
  rfl
theorem sps_none {c : UInt8} {l : List UInt8} (h : c ∉ l) : sps c l = [l] := by
  unfold sps
  rw [spl_none _ (fun i _ e => h (List.mem_of_getElem? e))]
  rfl
theorem sps_ne (c : UInt8) (l : List UInt8) : 1 ≤ (sps c l).length := by unfold sps; simp
theorem sps_len (c : UInt8) (l : List UInt8) : (sps c l).length ≤ l.length + 1 := by
  have := (spl_le c l l.length).2
  unfold sps
  simp
  exact this
theorem sps_total (c : UInt8) : ∀ (m : Nat) (l : List UInt8), l.length ≤ m → ∀ p ∈ sps c l, p.length ≤ l.length ∧ c ∉ p
  | m, l, hm, p, hp => by
    by_cases hc : c ∈ l
    · obtain ⟨e, hn⟩ := bfs_yes hc
      have hl := bfs_len hc
      cases m with
      | zero => omega
      | succ m =>
        have e2 : sps c l = bfs c l :: sps c (afs c l) := by
          conv => lhs; rw [e]
          exact sps_cons hn
        rw [e2] at hp
        rcases List.mem_cons.1 hp with h | h
        · rw [h]; exact ⟨by omega, hn⟩
        · have := sps_total c m (afs c l) (by omega) p h
          exact ⟨by omega, this.2⟩
    · rw [sps_none hc, List.mem_singleton] at hp
      rw [hp]
      exact ⟨Nat.le_refl _, hc⟩
theorem split_sps (c : UInt8) : ∀ (m : Nat) (l : List UInt8), l.length ≤ m → Lib.splitK [c] 0 (Lib.count l [c]) l = sps c l
  | m, l, hm => by
    have hi := Lib.index_one l c
    rcases index_bfs c l with ⟨h1, h2, h3, h4⟩ | ⟨o, h1, h2, h3, h4, h5⟩
    · rw [h1] at hi
      rw [Lib.count_miss hi, sps_none h4]
      rfl
    · rw [h1] at hi
      have hc := Lib.count_hit (by simp) hi
      have hb := bfs_len h5
      cases m with
      | zero => omega
      | succ m =>
        have e2 : sps c l = bfs c l :: sps c (afs c l) := by
          obtain ⟨e, hn⟩ := bfs_yes h5
          conv => lhs; rw [e]
          exact sps_cons hn
        have ih := split_sps c m (afs c l) (by omega)
        rw [e2, hc, Nat.add_comm 1]
        unfold Lib.splitK
        rw [hi, if_neg (by simp <;> omega)]
        rw [show ((o : Int)).toNat = o from rfl, Nat.add_zero, ← h3]
        rw [show o + [c].length = o + 1 from rfl, ← h4, ih]
theorem splitB_sps (c : UInt8) (l : List UInt8) : Lib.splitB (tx [c]) 0 (Lib.countB (tx l) (tx [c])) (tx l) = (sps c l).map tx := by
  have h := Lib.splitB_data (tx [c]) 0 (Lib.countB (tx l) (tx [c])) (tx l)
  have e : Lib.countB (tx l) (tx [c]) = Lib.count l [c] := rfl
  rw [e] at h ⊢
  have h2 : Lib.splitK (tx [c]).data.toList 0 (Lib.count l [c]) (tx l).data.toList = sps c l := split_sps c l.length l (Nat.le_refl _)
  rw [h2] at h
  rw [← h, List.map_map]
  have e3 : (tx ∘ fun (x : ByteArray) => x.data.toList) = id := by
    funext x
    exact tx_list x
  rw [e3, List.map_id]
def ltx (l : List Int) : List UInt8 := match l with
  | [] => [110, 111, 110, 101]
  | l => Lib.join (l.map Lib.itoa) [32]
theorem ltx_cons (x : Int) (r : List Int) : ltx (x :: r) = Lib.itoa x ++ Lib.joinTail [32] (r.map Lib.itoa) := by
  unfold ltx
  dsimp only
  rw [List.map_cons, Lib.join_cons]
def wLevel : List UInt8 := [108, 101, 118, 101, 108]
def wWater : List UInt8 := [119, 97, 116, 101, 114]
def wStep : List UInt8 := [115, 116, 101, 112]
def wLeave : List UInt8 := [108, 101, 97, 118, 101]
def wBest : List UInt8 := [98, 101, 115, 116]
def wDelay : List UInt8 := [100, 101, 108, 97, 121]
def wBound : List UInt8 := [98, 111, 117, 110, 100]
def wGo : List UInt8 := [103, 111]
def wPlan : List UInt8 := [112, 108, 97, 110]
def wHead : List UInt8 := [104, 101, 97, 100]
def wFlow : List UInt8 := [102, 108, 111, 119]
def wArrive : List UInt8 := [97, 114, 114, 105, 118, 101]
def wLow : List UInt8 := [108, 111, 119]
def wHigh : List UInt8 := [104, 105, 103, 104]
def wDown : List UInt8 := [100, 111, 119, 110]
def wUp : List UInt8 := [117, 112]
def wOk : List UInt8 := [111, 107]
def wLong : List UInt8 := [108, 111, 110, 103]
def wBad : List UInt8 := [98, 97, 100]
def wFull : List UInt8 := [102, 117, 108, 108]
def wNo : List UInt8 := [110, 111]
def wAsk : List UInt8 := [63]
def pat (w : List UInt8) : List UInt8 × Bool :=
  if w = wLevel ∨ w = wWater then ([], true)
  else if w = wStep ∨ w = wLeave ∨ w = wBest ∨ w = wDelay ∨ w = wBound then ([110], true)
  else if w = wGo ∨ w = wPlan ∨ w = wHead then ([115], true)
  else if w = wFlow then ([110, 110, 110], true)
  else if w = wArrive then ([110, 119, 110, 110], true)
  else ([], false)
def rw1 (p : UInt8) (w : List UInt8) : Option Int :=
  if p = 110 then (if (rdV w).2 = true then some (rdV w).1 else none)
  else if p = 115 then (if w = wLow then some 0 else if w = wHigh then some 1 else none)
  else (if w = wDown then some 0 else if w = wUp then some 1 else none)
def rwZ : List UInt8 → List (List UInt8) → Option (List Int)
  | [], [] => some []
  | p :: ps, w :: ws => match rw1 p w, rwZ ps ws with
    | some x, some l => some (x :: l)
    | _, _ => none
  | _, _ => none
def parse (line : List UInt8) : Option (List UInt8 × List Int) := match sps 32 line with
  | [] => none
  | w :: r => if (pat w).2 = true then (rwZ (pat w).1 r).map fun l => (w, l) else none
theorem rwZ_cons (p : UInt8) (ps : List UInt8) (w : List UInt8) (ws : List (List UInt8)) : rwZ (p :: ps) (w :: ws) = match rw1 p w, rwZ ps ws with
    | some x, some l => some (x :: l)
    | _, _ => none := rfl
theorem rwZ_some {p : UInt8} {ps : List UInt8} {w : List UInt8} {ws : List (List UInt8)} {x : Int} (h : rw1 p w = some x) (o : List Int) : (rwZ (p :: ps) (w :: ws)).map (o ++ ·) = (rwZ ps ws).map ((o ++ [x]) ++ ·) := by
  rw [rwZ_cons, h]
  cases rwZ ps ws with
  | none => rfl
  | some l => simp
theorem rwZ_none {p : UInt8} {ps : List UInt8} {w : List UInt8} {ws : List (List UInt8)} (h : rw1 p w = none) : rwZ (p :: ps) (w :: ws) = none := by
  rw [rwZ_cons, h]
theorem rwZ_len : ∀ {ps : List UInt8} {ws : List (List UInt8)} {l : List Int}, rwZ ps ws = some l → ws.length = ps.length ∧ l.length = ps.length
  | [], [], l, h => by cases h; exact ⟨rfl, rfl⟩
  | p :: ps, w :: ws, l, h => by
    rw [rwZ_cons] at h
    cases h1 : rw1 p w with
    | none => rw [h1] at h; cases h
    | some x =>
      cases h2 : rwZ ps ws with
      | none => rw [h1, h2] at h; cases h
      | some r =>
        rw [h1, h2] at h
        cases h
        have := rwZ_len h2
        simp [this.1, this.2]
  | [], _ :: _, l, h => by cases h
  | _ :: _, [], l, h => by cases h
end Go.Proofs.YtadjhkehfklmnaaGreatDoor
namespace Go.Proofs.YtadjhkehfklmnaaGreatDoor
set_option linter.unusedSimpArgs false
set_option linter.unusedVariables false
open Go.RowKit
set_option maxRecDepth 10000
def rdC (k : Nat) (s : List UInt8) : Prop := 10 ∈ s ∧ k < 60 ∧ okp k (bfs 10 s)
theorem sl_hash (t : List UInt8) : 35 ∈ sl t := by unfold sl; simp
theorem okp_parts {k : Nat} {p : List UInt8} (h : okp k p) : 35 ∈ p ∧ 32 ∈ bfs 35 p ∧ 64 ∈ afs 32 (bfs 35 p) := by
  obtain ⟨hg, e⟩ := h
  obtain ⟨e1, e2, e3, _, _⟩ := parts (k := k) hg
  rw [e] at e1
  refine ⟨by rw [← e]; exact sl_hash _, by rw [e1]; unfold bod; simp, by rw [e1, e3]; simp⟩
set_option maxHeartbeats 1600000 in
theorem iRead_yes (k : Nat) (s : List UInt8) (w : World) (hl : s.length ≤ 4194304) (h : rdC k s) (ht : PTab w) : Calls Tryz.prog 116 #[.string (tx s), .int .i64 k] w (Post (.tuple #[.agg #[.string (tx (cmd (bfs 10 s))), .string (tx (rep (bfs 10 s)))], .int .i64 ((bfs 10 s).length + 1), .bool true]) w) := by
  obtain ⟨h10, hk, hp⟩ := h
  obtain ⟨q35, q32, q64⟩ := okp_parts hp
  have l1 := bfs_le 10 s
  have l2 := bfs_le 35 (bfs 10 s)
  have l3 := bfs_le 32 (bfs 35 (bfs 10 s))
  obtain ⟨hg, he⟩ := hp
  have hn := tx_size s
  have hn1 := tx_size (bfs 10 s)
  have f10 := tr_yes h10
  have f35 := tr_yes q35
  have f32 := tr_yes q32
  have f64 := tr_yes q64
  have hC1 := fun w => cut_v 10 s w (by omega)
  have hC2 := fun w => cut_v 35 (bfs 10 s) w (by omega)
  have hC3 := fun w => cut_v 32 (bfs 35 (bfs 10 s)) w (by omega)
  have hC4 : ∀ w, Calls Tryz.prog 153 #[.string (tx (afs 32 (bfs 35 (bfs 10 s)))), .string ⟨#[64]⟩] w (Post (.tuple #[.string (tx (cmd (bfs 10 s))), .string (tx (rep (bfs 10 s))), .bool (tr (64 ∈ afs 32 (bfs 35 (bfs 10 s))))]) w) := fun w => cut_v 64 _ w (by omega)
  have hG := fun w => iGood_v (cmd (bfs 10 s)) (rep (bfs 10 s)) w (by have := hg.2.2.2.1; omega) (by have := hg.2.2.2.2.1; omega)
  have hE := fun w ht => encode_v k (cmd (bfs 10 s)) (rep (bfs 10 s)) w (by omega) hg ht
  rw [tr_yes hg] at hG
  rw [he] at hE
  refine post_of_vc ?_
  refine calls_of_vc tb_ok (args := [.string (tx s), .int .i64 k]) Tryz.func116 rfl ?_
  (repeat' ((conv => whnf); first | refine go ?_ | (refine VSome.mk ?_; intro gQ hA'; first | subst hA' | cases hA' | (dsimp only at hA'; subst hA')) | refine And.intro ?_ ?_ | intro _ | (first | ((show VCall _ _ _ 153 [_, .string { data := #[10] }] _); refine VCall.grow _ (fun w1 _ => hC1 w1) ?_) | ((show VCall _ _ _ 153 [_, .string { data := #[35] }] _); refine VCall.grow _ (fun w1 _ => hC2 w1) ?_) | ((show VCall _ _ _ 153 [_, .string { data := #[32] }] _); refine VCall.grow _ (fun w1 _ => hC3 w1) ?_) | ((show VCall _ _ _ 153 [_, .string { data := #[64] }] _); refine VCall.grow _ (fun w1 _ => hC4 w1) ?_) | ((show VCall _ _ _ 76 _ _); refine VCall.grow _ (fun w1 _ => hG w1) ?_) | ((show VCall _ _ _ 115 _ _); refine VCall.grow _ (fun w1 m1 => hE w1 (ht.on m1)) ?_) | ((show VCat _ _ _); refine VCat.of (b := [10]) (by show _ + 1 ≤ _; omega) ?_))))
  (conv => whnf); refine VRet.mk fun w' m => ?_
  refine ⟨?_, m.keeps.below⟩
  rw [hn1]
  rfl
set_option maxHeartbeats 4000000 in
theorem iRead_no (k : Nat) (s : List UInt8) (w : World) (hl : s.length ≤ 4194304) (h : ¬ rdC k s) (ht : PTab w) : Calls Tryz.prog 116 #[.string (tx s), .int .i64 k] w (Post (.tuple #[.agg #[.string (tx []), .string (tx [])], .int .i64 0, .bool false]) w) := by
  have l1 := bfs_le 10 s
  have l2 := bfs_le 35 (bfs 10 s)
  have l3 := bfs_le 32 (bfs 35 (bfs 10 s))
  have l4 : (cmd (bfs 10 s)).length ≤ (afs 32 (bfs 35 (bfs 10 s))).length ∧ (rep (bfs 10 s)).length ≤ (afs 32 (bfs 35 (bfs 10 s))).length := bfs_le 64 _
  have hn := tx_size s
  have hn1 := tx_size (bfs 10 s)
  have hC1 := fun w => cut_v 10 s w (by omega)
  have hC2 := fun w => cut_v 35 (bfs 10 s) w (by omega)
  have hC3 := fun w => cut_v 32 (bfs 35 (bfs 10 s)) w (by omega)
  have hC4 : ∀ w, Calls Tryz.prog 153 #[.string (tx (afs 32 (bfs 35 (bfs 10 s)))), .string ⟨#[64]⟩] w (Post (.tuple #[.string (tx (cmd (bfs 10 s))), .string (tx (rep (bfs 10 s))), .bool (tr (64 ∈ afs 32 (bfs 35 (bfs 10 s))))]) w) := fun w => cut_v 64 _ w (by omega)
  generalize tr (35 ∈ bfs 10 s) = t35 at hC2
  generalize tr (32 ∈ bfs 35 (bfs 10 s)) = t32 at hC3
  generalize tr (64 ∈ afs 32 (bfs 35 (bfs 10 s))) = t64 at hC4
  have hG := fun w => iGood_v (cmd (bfs 10 s)) (rep (bfs 10 s)) w (by omega) (by omega)
  refine post_of_vc ?_
  refine calls_of_vc tb_ok (args := [.string (tx s), .int .i64 k]) Tryz.func116 rfl ?_
  by_cases h10 : 10 ∈ s
  · rw [tr_yes h10] at hC1
    by_cases hk : k < 60
    · by_cases hg : okR (cmd (bfs 10 s)) (rep (bfs 10 s))
      · have hne : ¬ ln k (cmd (bfs 10 s)) (rep (bfs 10 s)) = bfs 10 s := fun e => h ⟨h10, hk, hg, e⟩
        have hne2 : ¬ tx (ln k (cmd (bfs 10 s)) (rep (bfs 10 s)) ++ [10]) = tx (bfs 10 s ++ [10]) := fun e => hne (List.append_cancel_right (tx_inj e))
        have hE := fun w ht => encode_v k (cmd (bfs 10 s)) (rep (bfs 10 s)) w (by omega) hg ht
        rw [tr_yes hg] at hG
        (repeat' ((conv => whnf); first | refine go ?_ | (refine VSome.mk ?_; intro gQ hA'; first | subst hA' | cases hA' | (dsimp only at hA'; subst hA')) | refine And.intro ?_ ?_ | intro _ | (first | ((show VCall _ _ _ 153 [_, .string { data := #[10] }] _); refine VCall.grow _ (fun w1 _ => hC1 w1) ?_) | ((show VCall _ _ _ 153 [_, .string { data := #[35] }] _); refine VCall.grow _ (fun w1 _ => hC2 w1) ?_) | ((show VCall _ _ _ 153 [_, .string { data := #[32] }] _); refine VCall.grow _ (fun w1 _ => hC3 w1) ?_) | ((show VCall _ _ _ 153 [_, .string { data := #[64] }] _); refine VCall.grow _ (fun w1 _ => hC4 w1) ?_) | ((show VCall _ _ _ 76 _ _); refine VCall.grow _ (fun w1 _ => hG w1) ?_) | ((show VCall _ _ _ 115 _ _); refine VCall.grow _ (fun w1 m1 => hE w1 (ht.on m1)) ?_) | ((show VCat _ _ _); refine VCat.of (b := [10]) (by show _ + 1 ≤ _; omega) ?_))))
        all_goals ((conv => whnf); refine VRet.mk fun w' m => ?_)
        all_goals exact ⟨rfl, m.keeps.below⟩
      · rw [tr_no hg] at hG
        (repeat' ((conv => whnf); first | refine go ?_ | (refine VSome.mk ?_; intro gQ hA'; first | subst hA' | cases hA' | (dsimp only at hA'; subst hA')) | refine And.intro ?_ ?_ | intro _ | (first | ((show VCall _ _ _ 153 [_, .string { data := #[10] }] _); refine VCall.grow _ (fun w1 _ => hC1 w1) ?_) | ((show VCall _ _ _ 153 [_, .string { data := #[35] }] _); refine VCall.grow _ (fun w1 _ => hC2 w1) ?_) | ((show VCall _ _ _ 153 [_, .string { data := #[32] }] _); refine VCall.grow _ (fun w1 _ => hC3 w1) ?_) | ((show VCall _ _ _ 153 [_, .string { data := #[64] }] _); refine VCall.grow _ (fun w1 _ => hC4 w1) ?_) | ((show VCall _ _ _ 76 _ _); refine VCall.grow _ (fun w1 _ => hG w1) ?_))))
        all_goals ((conv => whnf); refine VRet.mk fun w' m => ?_)
        all_goals exact ⟨rfl, m.keeps.below⟩
    · (repeat' ((conv => whnf); first | refine go ?_ | (refine VSome.mk ?_; intro gQ hA'; first | subst hA' | cases hA' | (dsimp only at hA'; subst hA')) | refine And.intro ?_ ?_ | intro _ | (first | ((show VCall _ _ _ 153 [_, .string { data := #[10] }] _); refine VCall.grow _ (fun w1 _ => hC1 w1) ?_) | ((show VCall _ _ _ 153 [_, .string { data := #[35] }] _); refine VCall.grow _ (fun w1 _ => hC2 w1) ?_) | ((show VCall _ _ _ 153 [_, .string { data := #[32] }] _); refine VCall.grow _ (fun w1 _ => hC3 w1) ?_) | ((show VCall _ _ _ 153 [_, .string { data := #[64] }] _); refine VCall.grow _ (fun w1 _ => hC4 w1) ?_))))
      all_goals ((conv => whnf); refine VRet.mk fun w' m => ?_)
      all_goals exact ⟨rfl, m.keeps.below⟩
  · rw [tr_no h10] at hC1
    (repeat' ((conv => whnf); first | refine go ?_ | (refine VSome.mk ?_; intro gQ hA'; first | subst hA' | cases hA' | (dsimp only at hA'; subst hA')) | refine And.intro ?_ ?_ | intro _ | (first | ((show VCall _ _ _ 153 [_, .string { data := #[10] }] _); refine VCall.grow _ (fun w1 _ => hC1 w1) ?_) | ((show VCall _ _ _ 153 [_, .string { data := #[35] }] _); refine VCall.grow _ (fun w1 _ => hC2 w1) ?_) | ((show VCall _ _ _ 153 [_, .string { data := #[32] }] _); refine VCall.grow _ (fun w1 _ => hC3 w1) ?_) | ((show VCall _ _ _ 153 [_, .string { data := #[64] }] _); refine VCall.grow _ (fun w1 _ => hC4 w1) ?_))))
    all_goals ((conv => whnf); refine VRet.mk fun w' m => ?_)
    all_goals exact ⟨rfl, m.keeps.below⟩
theorem hd_len (k : Nat) : (hd k).length = (Lib.decDigits k).length + 1 := by unfold hd; simp
theorem VSub.as {s : ByteArray} {lo hi : Option Value} {K : Value → Prop} (l h : Nat) (t : ByteArray) (hl : bnd lo 0 l) (hh : bnd hi s.size h) (h1 : l ≤ h) (h2 : h ≤ s.size) (e : s.extract l h = t) (k : K (.string t)) : VSub s lo hi K := .mk l h hl hh h1 h2 (by rw [e]; exact k)
set_option maxHeartbeats 1600000 in
theorem sRead_yes (k : Nat) (p : List UInt8) (w : World) (hl : p.length ≤ 2097152) (hk : k < 100) (h : okp k p) : Calls Tryz.prog 137 #[.string (tx p), .int .i64 k] w (Post (.tuple #[.agg #[.string (tx (cmd p)), .string (tx (rep p))], .bool true]) w) := by
  have hq := okq_iff.2 h
  obtain ⟨r1, r2⟩ := okq_rec h
  obtain ⟨⟨hp1, hp2⟩, hm, hg, he⟩ := hq
  rw [← r1, ← r2]
  have hd2 := dd_len 1 k (by omega)
  have hl1 := hd_len k
  have hn1 := tx_size (bfs 35 p)
  have hn2 := tx_size (rst k p)
  have hn3 := tx_size (hd k)
  have l2 := bfs_le 35 p
  have l3 := bfs_le 64 (rst k p)
  have hr : (rst k p).length = (bfs 35 p).length - (hd k).length := by unfold rst; rw [List.length_drop]
  have hN := fun w => l1Num_v k w (by omega)
  have hS1 := fun w => l1Split_v 35 35 p w rfl (by omega)
  have hS2 := fun w => l1Split_v 64 64 (rst k p) w rfl (by omega)
  obtain ⟨t1, e1, _⟩ := sps_head 35 p
  obtain ⟨t2, e2, _⟩ := sps_head 64 (rst k p)
  rw [e1] at hS1
  rw [e2] at hS2
  have hn4 := tx_size (bfs 64 (rst k p))
  have hP1 : ∀ o, o = 0 → (TS (bfs 35 p :: t1))[o]? = some (.string (tx (bfs 35 p))) := fun o e => by subst e; rfl
  have hP2 : ∀ o, o = 0 → (TS (bfs 64 (rst k p) :: t2))[o]? = some (.string (tx (bfs 64 (rst k p)))) := fun o e => by subst e; rfl
  have x1 : (tx (bfs 35 p)).extract 0 (tx (hd k)).size = tx ((bfs 35 p).take (hd k).length) := by rw [tx_to, hn3]
  have x2 : (tx (bfs 35 p)).extract (tx (hd k)).size (tx (bfs 35 p)).size = tx (rst k p) := by rw [tx_from, hn3]; rfl
  have lb := bfs_len hm
  have x3 : (tx (rst k p)).extract ((tx (bfs 64 (rst k p))).size + 1) (tx (rst k p)).size = tx (afs 64 (rst k p)) := by rw [tx_from, hn4, afs_drop hm]
  have hG := fun w => sGood_v (bfs 64 (rst k p)) (afs 64 (rst k p)) w (by omega) (by omega)
  have hE := fun w => l27Line_v k (bfs 64 (rst k p)) (afs 64 (rst k p)) w (by omega) hg
  rw [tr_yes hg] at hG
  rw [he] at hE
  rw [hp2] at x1
  unfold hd at hn3 x1 x2 hl1 hp1 hp2 hr
  refine post_of_vc ?_
  refine calls_of_vc tb_ok (args := [.string (tx p), .int .i64 k]) Tryz.func137 rfl ?_
  (repeat' ((conv => whnf); first | refine go ?_ | (refine VSome.mk ?_; intro gQ hA'; first | subst hA' | cases hA' | (dsimp only at hA'; subst hA')) | refine And.intro ?_ ?_ | intro _ | (first | ((show VCall _ _ _ 61 _ _); refine VCall.grow _ (fun w1 _ => hN w1) ?_) | ((show VCall _ _ _ 44 [_, .int .u8 35] _); refine VCall.ret (fun w1 m1 => hS1 w1) (fun (gP, cP) _ => ?_)) | ((show VCall _ _ _ 44 [_, .int .u8 64] _); refine VCall.ret (fun w1 m1 => hS2 w1) (fun (gP, cP) _ => ?_)) | ((show VCall _ _ _ 85 _ _); refine VCall.grow _ (fun w1 _ => hG w1) ?_) | ((show VCall _ _ _ 104 _ _); refine VCall.grow _ (fun w1 _ => hE w1) ?_) | ((show VDraw _ _ _ _ _ _); refine VDraw.mk (.take 0 (.take 1 (.br 2 (.take 3 (.take 4 (.take 5 (.take 7 (.take 8 (.br 6 (.take 9 (.take 10 (.br 11 (.take 12 .done) .done))) .done)))))) .done))) [3] (by kernel_rfl) (by kernel_rfl) ?_) | ((show VIdx _ _ _ _ _ _ _); refine VIdx.at_ rfl 0 rfl (by simp only [List.length_cons]; omega) ?_) | ((show VLoad1 _ _ _ _ _); first | refine VLoad1.mk _ (Rd.row 1 rfl (hP1 _ (by show 0 + mulS 0 1 = 0; rw [mulS_eq]))) ?_ | refine VLoad1.mk _ (Rd.row 2 rfl (hP2 _ (by show 0 + mulS 0 1 = 0; rw [mulS_eq]))) ?_) | ((show VCat _ _ _); refine VCat.of (by first | (show _ + 1 ≤ _; omega)) ?_) | ((show VSub _ _ _ _); first | refine VSub.as 0 (tx (Lib.decDigits k ++ [32])).size _ rfl rfl (Nat.zero_le _) (by omega) x1 ?_ | refine VSub.as (tx (Lib.decDigits k ++ [32])).size (tx (bfs 35 p)).size _ rfl rfl (by omega) (by omega) x2 ?_ | refine VSub.as ((tx (bfs 64 (rst k p))).size + 1) (tx (rst k p)).size _ rfl rfl (by omega) (by omega) x3 ?_))))
  (conv => whnf); refine VRet.mk fun w' m => ?_
  exact ⟨rfl, m.keeps.below⟩
set_option maxHeartbeats 4000000 in
theorem sRead_no (k : Nat) (p : List UInt8) (w : World) (hl : p.length ≤ 2097152) (hk : k < 100) (h : ¬ okp k p) : Calls Tryz.prog 137 #[.string (tx p), .int .i64 k] w fun e w' => ∃ i : List UInt8 × List UInt8, True ∧ Post (.tuple #[.agg #[.string (tx i.1), .string (tx i.2)], .bool false]) w e w' := by
  have hnq : ¬ okq k p := fun e => h (okq_iff.1 e)
  have hd2 := dd_len 1 k (by omega)
  have hl1 := hd_len k
  have hn1 := tx_size (bfs 35 p)
  have hn2 := tx_size (rst k p)
  have hn3 := tx_size (hd k)
  have l2 := bfs_le 35 p
  have l3 := bfs_le 64 (rst k p)
  have hr : (rst k p).length = (bfs 35 p).length - (hd k).length := by unfold rst; rw [List.length_drop]
  have hN := fun w => l1Num_v k w (by omega)
  have hS1 := fun w => l1Split_v 35 35 p w rfl (by omega)
  have hS2 := fun w => l1Split_v 64 64 (rst k p) w rfl (by omega)
  obtain ⟨t1, e1, _⟩ := sps_head 35 p
  obtain ⟨t2, e2, _⟩ := sps_head 64 (rst k p)
  rw [e1] at hS1
  rw [e2] at hS2
  have hn4 := tx_size (bfs 64 (rst k p))
  have hP1 : ∀ o, o = 0 → (TS (bfs 35 p :: t1))[o]? = some (.string (tx (bfs 35 p))) := fun o e => by subst e; rfl
  have hP2 : ∀ o, o = 0 → (TS (bfs 64 (rst k p) :: t2))[o]? = some (.string (tx (bfs 64 (rst k p)))) := fun o e => by subst e; rfl
  have x1 : (tx (bfs 35 p)).extract 0 (tx (hd k)).size = tx ((bfs 35 p).take (hd k).length) := by rw [tx_to, hn3]
  have x2 : (tx (bfs 35 p)).extract (tx (hd k)).size (tx (bfs 35 p)).size = tx (rst k p) := by rw [tx_from, hn3]; rfl
  by_cases hp1 : (hd k).length ≤ (bfs 35 p).length
  · by_cases hp2 : (bfs 35 p).take (hd k).length = hd k
    · rw [hp2] at x1
      by_cases hm : 64 ∈ rst k p
      · have lb := bfs_len hm
        have x3 : (tx (rst k p)).extract ((tx (bfs 64 (rst k p))).size + 1) (tx (rst k p)).size = tx (afs 64 (rst k p)) := by rw [tx_from, hn4, afs_drop hm]
        have hG := fun w => sGood_v (bfs 64 (rst k p)) (afs 64 (rst k p)) w (by omega) (by omega)
        by_cases hg : okR (bfs 64 (rst k p)) (afs 64 (rst k p))
        · have hne : ¬ ln k (bfs 64 (rst k p)) (afs 64 (rst k p)) = p := fun e => hnq ⟨⟨hp1, hp2⟩, hm, hg, e⟩
          have hne2 : ¬ tx (ln k (bfs 64 (rst k p)) (afs 64 (rst k p)) ++ [10]) = tx (p ++ [10]) := fun e => hne (List.append_cancel_right (tx_inj e))
          have hE := fun w => l27Line_v k (bfs 64 (rst k p)) (afs 64 (rst k p)) w (by omega) hg
          rw [tr_yes hg] at hG
          unfold hd at hn3 x1 x2 hl1 hp1 hp2 hr
          refine some_of_vc ?_
          refine calls_of_vc tb_ok (args := [.string (tx p), .int .i64 k]) Tryz.func137 rfl ?_
          (repeat' ((conv => whnf); first | refine go ?_ | (refine VSome.mk ?_; intro gQ hA'; first | subst hA' | cases hA' | (dsimp only at hA'; subst hA')) | refine And.intro ?_ ?_ | intro _ | (first | ((show VCall _ _ _ 61 _ _); refine VCall.grow _ (fun w1 _ => hN w1) ?_) | ((show VCall _ _ _ 44 [_, .int .u8 35] _); refine VCall.ret (fun w1 m1 => hS1 w1) (fun (gP, cP) _ => ?_)) | ((show VCall _ _ _ 44 [_, .int .u8 64] _); refine VCall.ret (fun w1 m1 => hS2 w1) (fun (gP, cP) _ => ?_)) | ((show VCall _ _ _ 85 _ _); refine VCall.grow _ (fun w1 _ => hG w1) ?_) | ((show VCall _ _ _ 104 _ _); refine VCall.grow _ (fun w1 _ => hE w1) ?_) | ((show VDraw _ _ _ _ _ _); refine VDraw.mk (.take 0 (.take 1 (.br 2 (.take 3 (.take 4 (.take 5 (.take 7 (.take 8 (.br 6 (.take 9 (.take 10 (.br 11 (.take 12 .done) .done))) .done)))))) .done))) [3] (by kernel_rfl) (by kernel_rfl) ?_) | ((show VIdx _ _ _ _ _ _ _); refine VIdx.at_ rfl 0 rfl (by simp only [List.length_cons]; omega) ?_) | ((show VLoad1 _ _ _ _ _); first | refine VLoad1.mk _ (Rd.row 1 rfl (hP1 _ (by show 0 + mulS 0 1 = 0; rw [mulS_eq]))) ?_ | refine VLoad1.mk _ (Rd.row 2 rfl (hP2 _ (by show 0 + mulS 0 1 = 0; rw [mulS_eq]))) ?_) | ((show VCat _ _ _); refine VCat.of (by first | (show _ + 1 ≤ _; omega)) ?_) | ((show VSub _ _ _ _); first | refine VSub.as 0 (tx (Lib.decDigits k ++ [32])).size _ rfl rfl (Nat.zero_le _) (by omega) x1 ?_ | refine VSub.as (tx (Lib.decDigits k ++ [32])).size (tx (bfs 35 p)).size _ rfl rfl (by omega) (by omega) x2 ?_ | refine VSub.as ((tx (bfs 64 (rst k p))).size + 1) (tx (rst k p)).size _ rfl rfl (by omega) (by omega) x3 ?_))))
          all_goals ((conv => whnf); refine VRet.mk fun w' m => ?_)
          all_goals exact ⟨(bfs 64 (rst k p), afs 64 (rst k p)), trivial, rfl, m.keeps.below⟩
        · rw [tr_no hg] at hG
          unfold hd at hn3 x1 x2 hl1 hp1 hp2 hr
          refine some_of_vc ?_
          refine calls_of_vc tb_ok (args := [.string (tx p), .int .i64 k]) Tryz.func137 rfl ?_
          (repeat' ((conv => whnf); first | refine go ?_ | (refine VSome.mk ?_; intro gQ hA'; first | subst hA' | cases hA' | (dsimp only at hA'; subst hA')) | refine And.intro ?_ ?_ | intro _ | (first | ((show VCall _ _ _ 61 _ _); refine VCall.grow _ (fun w1 _ => hN w1) ?_) | ((show VCall _ _ _ 44 [_, .int .u8 35] _); refine VCall.ret (fun w1 m1 => hS1 w1) (fun (gP, cP) _ => ?_)) | ((show VCall _ _ _ 44 [_, .int .u8 64] _); refine VCall.ret (fun w1 m1 => hS2 w1) (fun (gP, cP) _ => ?_)) | ((show VCall _ _ _ 85 _ _); refine VCall.grow _ (fun w1 _ => hG w1) ?_) | ((show VDraw _ _ _ _ _ _); refine VDraw.mk (.take 0 (.take 1 (.br 2 (.take 3 (.take 4 (.take 5 (.take 7 (.take 8 (.br 6 (.take 9 (.take 10 (.br 11 (.take 12 .done) .done))) .done)))))) .done))) [3] (by kernel_rfl) (by kernel_rfl) ?_) | ((show VIdx _ _ _ _ _ _ _); refine VIdx.at_ rfl 0 rfl (by simp only [List.length_cons]; omega) ?_) | ((show VLoad1 _ _ _ _ _); first | refine VLoad1.mk _ (Rd.row 1 rfl (hP1 _ (by show 0 + mulS 0 1 = 0; rw [mulS_eq]))) ?_ | refine VLoad1.mk _ (Rd.row 2 rfl (hP2 _ (by show 0 + mulS 0 1 = 0; rw [mulS_eq]))) ?_) | ((show VCat _ _ _); refine VCat.of (by first | (show _ + 1 ≤ _; omega)) ?_) | ((show VSub _ _ _ _); first | refine VSub.as 0 (tx (Lib.decDigits k ++ [32])).size _ rfl rfl (Nat.zero_le _) (by omega) x1 ?_ | refine VSub.as (tx (Lib.decDigits k ++ [32])).size (tx (bfs 35 p)).size _ rfl rfl (by omega) (by omega) x2 ?_ | refine VSub.as ((tx (bfs 64 (rst k p))).size + 1) (tx (rst k p)).size _ rfl rfl (by omega) (by omega) x3 ?_))))
          all_goals ((conv => whnf); refine VRet.mk fun w' m => ?_)
          all_goals exact ⟨(bfs 64 (rst k p), afs 64 (rst k p)), trivial, rfl, m.keeps.below⟩
      · have ha := bfs_all.2 hm
        unfold hd at hn3 x1 x2 hl1 hp1 hp2 hr
        refine some_of_vc ?_
        refine calls_of_vc tb_ok (args := [.string (tx p), .int .i64 k]) Tryz.func137 rfl ?_
        (repeat' ((conv => whnf); first | refine go ?_ | (refine VSome.mk ?_; intro gQ hA'; first | subst hA' | cases hA' | (dsimp only at hA'; subst hA')) | refine And.intro ?_ ?_ | intro _ | (first | ((show VCall _ _ _ 61 _ _); refine VCall.grow _ (fun w1 _ => hN w1) ?_) | ((show VCall _ _ _ 44 [_, .int .u8 35] _); refine VCall.ret (fun w1 m1 => hS1 w1) (fun (gP, cP) _ => ?_)) | ((show VCall _ _ _ 44 [_, .int .u8 64] _); refine VCall.ret (fun w1 m1 => hS2 w1) (fun (gP, cP) _ => ?_))  | ((show VIdx _ _ _ _ _ _ _); refine VIdx.at_ rfl 0 rfl (by simp only [List.length_cons]; omega) ?_) | ((show VLoad1 _ _ _ _ _); first | refine VLoad1.mk _ (Rd.row 1 rfl (hP1 _ (by show 0 + mulS 0 1 = 0; rw [mulS_eq]))) ?_ | refine VLoad1.mk _ (Rd.row 2 rfl (hP2 _ (by show 0 + mulS 0 1 = 0; rw [mulS_eq]))) ?_) | ((show VCat _ _ _); refine VCat.of (by first | (show _ + 1 ≤ _; omega)) ?_) | ((show VSub _ _ _ _); first | refine VSub.as 0 (tx (Lib.decDigits k ++ [32])).size _ rfl rfl (Nat.zero_le _) (by omega) x1 ?_ | refine VSub.as (tx (Lib.decDigits k ++ [32])).size (tx (bfs 35 p)).size _ rfl rfl (by omega) (by omega) x2 ?_))))
        all_goals ((conv => whnf); refine VRet.mk fun w' m => ?_)
        all_goals exact ⟨([], []), trivial, rfl, m.keeps.below⟩
    · have hne : ¬ tx ((bfs 35 p).take (hd k).length) = tx (hd k) := tx_ne hp2
      unfold hd at hn3 x1 x2 hl1 hp1 hp2 hr hne
      refine some_of_vc ?_
      refine calls_of_vc tb_ok (args := [.string (tx p), .int .i64 k]) Tryz.func137 rfl ?_
      (repeat' ((conv => whnf); first | refine go ?_ | (refine VSome.mk ?_; intro gQ hA'; first | subst hA' | cases hA' | (dsimp only at hA'; subst hA')) | refine And.intro ?_ ?_ | intro _ | (first | ((show VCall _ _ _ 61 _ _); refine VCall.grow _ (fun w1 _ => hN w1) ?_) | ((show VCall _ _ _ 44 [_, .int .u8 35] _); refine VCall.ret (fun w1 m1 => hS1 w1) (fun (gP, cP) _ => ?_)) | ((show VCall _ _ _ 44 [_, .int .u8 64] _); refine VCall.ret (fun w1 m1 => hS2 w1) (fun (gP, cP) _ => ?_))  | ((show VIdx _ _ _ _ _ _ _); refine VIdx.at_ rfl 0 rfl (by simp only [List.length_cons]; omega) ?_) | ((show VLoad1 _ _ _ _ _); first | refine VLoad1.mk _ (Rd.row 1 rfl (hP1 _ (by show 0 + mulS 0 1 = 0; rw [mulS_eq]))) ?_ | refine VLoad1.mk _ (Rd.row 2 rfl (hP2 _ (by show 0 + mulS 0 1 = 0; rw [mulS_eq]))) ?_) | ((show VCat _ _ _); refine VCat.of (by first | (show _ + 1 ≤ _; omega)) ?_) | ((show VSub _ _ _ _); first | refine VSub.as 0 (tx (Lib.decDigits k ++ [32])).size _ rfl rfl (Nat.zero_le _) (by omega) x1 ?_ | refine VSub.as (tx (Lib.decDigits k ++ [32])).size (tx (bfs 35 p)).size _ rfl rfl (by omega) (by omega) x2 ?_))))
      all_goals ((conv => whnf); refine VRet.mk fun w' m => ?_)
      all_goals exact ⟨([], []), trivial, rfl, m.keeps.below⟩
  · unfold hd at hn3 x1 x2 hl1 hp1 hr
    refine some_of_vc ?_
    refine calls_of_vc tb_ok (args := [.string (tx p), .int .i64 k]) Tryz.func137 rfl ?_
    (repeat' ((conv => whnf); first | refine go ?_ | (refine VSome.mk ?_; intro gQ hA'; first | subst hA' | cases hA' | (dsimp only at hA'; subst hA')) | refine And.intro ?_ ?_ | intro _ | (first | ((show VCall _ _ _ 61 _ _); refine VCall.grow _ (fun w1 _ => hN w1) ?_) | ((show VCall _ _ _ 44 [_, .int .u8 35] _); refine VCall.ret (fun w1 m1 => hS1 w1) (fun (gP, cP) _ => ?_)) | ((show VCall _ _ _ 44 [_, .int .u8 64] _); refine VCall.ret (fun w1 m1 => hS2 w1) (fun (gP, cP) _ => ?_))  | ((show VIdx _ _ _ _ _ _ _); refine VIdx.at_ rfl 0 rfl (by simp only [List.length_cons]; omega) ?_) | ((show VLoad1 _ _ _ _ _); first | refine VLoad1.mk _ (Rd.row 1 rfl (hP1 _ (by show 0 + mulS 0 1 = 0; rw [mulS_eq]))) ?_ | refine VLoad1.mk _ (Rd.row 2 rfl (hP2 _ (by show 0 + mulS 0 1 = 0; rw [mulS_eq]))) ?_) | ((show VCat _ _ _); refine VCat.of (by first | (show _ + 1 ≤ _; omega)) ?_) | ((show VSub _ _ _ _); first | refine VSub.as 0 (tx (Lib.decDigits k ++ [32])).size _ rfl rfl (Nat.zero_le _) (by omega) x1 ?_ | refine VSub.as (tx (Lib.decDigits k ++ [32])).size (tx (bfs 35 p)).size _ rfl rfl (by omega) (by omega) x2 ?_))))
    all_goals ((conv => whnf); refine VRet.mk fun w' m => ?_)
    all_goals exact ⟨([], []), trivial, rfl, m.keeps.below⟩
end Go.Proofs.YtadjhkehfklmnaaGreatDoor
namespace Go.Proofs.YtadjhkehfklmnaaGreatDoor
set_option linter.unusedSimpArgs false
set_option linter.unusedVariables false
open Go.RowKit
set_option maxRecDepth 10000
def rcd (s : List UInt8) (i : Nat) : Rc := ⟨tx (cmd (lin s (ends s i))), tx (rep (lin s (ends s i)))⟩
theorem RcS_suc (k : Nat) (f : Nat → Rc) : RcS (k + 1) f = RcS k f ++ (f k).cells := rowsN_succ _ _
theorem IS_suc (k : Nat) (f : Nat → Int) : IS (k + 1) f = IS k f ++ [.int .i64 (f k)] := rowsN_succ _ _
theorem rd_step {s : List UInt8} {k : Nat} : rdC k (s.drop (ends s k)) ↔ step s k :=
  ⟨fun ⟨a, b, c⟩ => ⟨b, a, c⟩, fun ⟨b, a, c⟩ => ⟨a, b, c⟩⟩
theorem step_at {s : List UInt8} {k : Nat} (h : step s k) : ends s k < s.length := by
  have := step_ends h
  have e : ends s (k + 1) = ends s k + (lin s (ends s k)).length + 1 := rfl
  omega
set_option maxHeartbeats 1600000 in
theorem iOpen_v (s : List UInt8) (w : World) (hl : s.length ≤ 2097152) (ht : PTab w) :
    Calls Tryz.prog 81 #[.string (tx s)] w fun e w' => ∃ v, e = .returned v ∧ RetV (ι := Nat × Nat × Nat × Nat) (fun _ => True) (fun (g, c, h, d) => .tuple #[.slice (some ⟨g, 0, none⟩) (cnt s) c, .slice (some ⟨h, 0, none⟩) (cnt s + 1) d])
      (fun (g, c, h, d) => [.row (.slice (some ⟨g, 0, none⟩) (cnt s) c) 74 2 (cnt s) (RcS (cnt s) (rcd s)), .row (.slice (some ⟨h, 0, none⟩) (cnt s + 1) d) 3 1 (cnt s + 1) (IS (cnt s + 1) fun i => (ends s i : Nat))]) (Base.of w) v w' := by
  have hsz := tx_size s
  have h60 := cnt_le s
  refine calls_of_vc tb_ok (args := [.string (tx s)]) Tryz.func81 rfl ?_
  (repeat' ((conv => whnf); first | refine go ?_ | (refine VSome.mk ?_; intro gQ hA'; first | subst hA' | cases hA' | (dsimp only at hA'; subst hA')) | refine And.intro ?_ ?_ | intro _))
  rename_i g0 h0
  (conv => whnf)
  refine VLoop.mk (ι := Nat × Nat × Nat × Nat × Nat) [2, 3, 4, 5, 6, 7, 8, 9, 12, 13, 14, 15, 16, 17, 18, 19, 20, 21, 22, 23, 24, 25, 26, 27, 28, 29, 30, 31, 32, 33, 34, 35, 36] (fun (k, g, c, h, d) => [(6, .int .i64 (ends s k : Nat)), (4, .slice (some ⟨g, 0, none⟩) k c), (5, .slice (some ⟨h, 0, none⟩) (k + 1) d)])
    (fun (k, g, c, h, d) => [.row (.slice (some ⟨g, 0, none⟩) k c) 74 2 k (RcS k (rcd s)), .row (.slice (some ⟨h, 0, none⟩) (k + 1) d) 3 1 (k + 1) (IS (k + 1) fun i => (ends s i : Nat))]) (fun i => i.1 ≤ cnt s) (fun i => cnt s - i.1) (0, g0, 0, h0, 1) (Nat.zero_le _) ?_ (OwnLe.turn 1 (n := 1) (size := 1) rfl rfl (by decide) [0, 1] (by simp) rfl) (fun i u hk => ?_)
  · ((conv => whnf); repeat (first | exact trivial | refine ⟨rfl, ?_⟩ | refine ⟨congrArg (Value.int .i64) (by first | omega | assumption | exact Eq.symm (by assumption)), ?_⟩))
  obtain ⟨k, g, c, h, d⟩ := i
  replace hk : k ≤ cnt s := hk
  have hle := ends_le hk
  have hdl : (s.drop (ends s k)).length = s.length - ends s k := List.length_drop
  have hn1 := tx_size (s.drop (ends s k))
  have x1 : (tx s).extract (ends s k) (tx s).size = tx (s.drop (ends s k)) := tx_from _ _
  by_cases hs : step s k
  · have hlt := cnt_lt hk hs
    have hR := fun w ht => iRead_yes k (s.drop (ends s k)) w (by omega) (rd_step.2 hs) ht
    have he : ends s (k + 1) = ends s k + (bfs 10 (s.drop (ends s k))).length + 1 := rfl
    have hle2 := ends_le (k := k + 1) hlt
    have eR := RcS_suc k (rcd s)
    have eI : IS (k + 1 + 1) (fun i => (ends s i : Nat)) = IS (k + 1) (fun i => (ends s i : Nat)) ++ [.int .i64 ((ends s k : Nat) + (((bfs 10 (s.drop (ends s k))).length : Nat) + 1))] := by
      rw [IS_suc]
      have e2 : ((ends s (k + 1) : Nat) : Int) = (ends s k : Nat) + (((bfs 10 (s.drop (ends s k))).length : Nat) + 1) := by omega
      rw [e2]
    (repeat' ((conv => whnf); first | refine go ?_ | (refine VSome.mk ?_; intro gQ hA'; first | subst hA' | cases hA' | (dsimp only at hA'; subst hA')) | refine And.intro ?_ ?_ | intro _ | (first | ((show VCall _ _ _ 116 _ _); refine VCall.grow _ (fun w1 m1 => hR w1 (ht.on m1)) ?_) | ((show VSub _ _ _ _); refine VSub.as (ends s k) (tx s).size _ rfl rfl (by omega) (by omega) x1 ?_))))
    (conv => whnf)
    (refine VApp.pushS 0 3 rfl rfl rfl rfl rfl (by omega) (by omega) (fun g' c' => ?_))
    (repeat' ((conv => whnf); first | refine go ?_ | (refine VSome.mk ?_; intro gQ hA'; first | subst hA' | cases hA' | (dsimp only at hA'; subst hA')) | refine And.intro ?_ ?_ | intro _))
    (conv => whnf)
    refine VApp.pushS 1 4 rfl rfl rfl rfl rfl (by omega) (by omega) (fun g'' c'' => ?_)
    (repeat' ((conv => whnf); first | refine go ?_ | (refine VSome.mk ?_; intro gQ hA'; first | subst hA' | cases hA' | (dsimp only at hA'; subst hA')) | refine And.intro ?_ ?_ | intro _))
    (conv => whnf)
    refine VNext.mk (k + 1, g', c', g'', c'') hlt (by show cnt s - (k + 1) < cnt s - k; omega) ?_ (OwnLe.mk [0, 1] (by simp) (by show [_, _] = [Own.row _ _ _ _ (_ ++ _), Own.row _ _ _ _ (_ ++ _)]; rw [eR, eI]; rfl))
    ((conv => whnf); repeat (first | exact trivial | refine ⟨rfl, ?_⟩ | refine ⟨congrArg (Value.int .i64) (by first | omega | assumption | exact Eq.symm (by assumption)), ?_⟩))
  · obtain rfl := cnt_eq hk hs
    have hR := fun w ht => iRead_no (cnt s) (s.drop (ends s (cnt s))) w (by omega) (fun e => hs (rd_step.1 e)) ht
    (repeat' ((conv => whnf); first | refine go ?_ | (refine VSome.mk ?_; intro gQ hA'; first | subst hA' | cases hA' | (dsimp only at hA'; subst hA')) | refine And.intro ?_ ?_ | intro _ | (first | ((show VCall _ _ _ 116 _ _); refine VCall.grow _ (fun w1 m1 => hR w1 (ht.on m1)) ?_) | ((show VSub _ _ _ _); refine VSub.as (ends s (cnt s)) (tx s).size _ rfl rfl (by omega) (by omega) x1 ?_))))
    (conv => whnf)
    exact VRet.sel (g, c, h, d) trivial rfl [0, 1] (by simp) rfl
set_option maxHeartbeats 4000000 in
theorem sOpen_v (s : List UInt8) (w : World) (hl : s.length ≤ 2097152) :
    Calls Tryz.prog 105 #[.string (tx s)] w fun e w' => ∃ v, e = .returned v ∧ RetV (ι := Nat × Nat) (fun _ => True) (fun (g, c) => .tuple #[.slice (some ⟨g, 0, none⟩) (cnt s) c, .int .i64 (ends s (cnt s) : Nat)])
      (fun (g, c) => [.row (.slice (some ⟨g, 0, none⟩) (cnt s) c) 74 2 (cnt s) (RcS (cnt s) (rcd s))]) (Base.of w) v w' := by
  have hsz := tx_size s
  have h60 := cnt_le s
  refine calls_of_vc tb_ok (args := [.string (tx s)]) Tryz.func105 rfl ?_
  (repeat' ((conv => whnf); first | refine go ?_ | (refine VSome.mk ?_; intro gQ hA'; first | subst hA' | cases hA' | (dsimp only at hA'; subst hA')) | refine And.intro ?_ ?_ | intro _))
  rename_i g0
  (conv => whnf)
  refine VLoop.mk (ι := Nat × Nat × Nat) [4, 5, 6, 7, 8, 10, 11, 12, 13, 14, 15, 16, 17, 18, 19, 20, 21, 22, 23, 24, 25, 26, 27, 28, 29, 30, 31, 32, 33, 34, 35, 36, 37, 38, 39, 40, 41, 42, 43, 44, 45, 46, 47, 48, 49] (fun (k, g, c) => [(5, .int .i64 (ends s k : Nat)), (4, .slice (some ⟨g, 0, none⟩) k c)])
    (fun (k, g, c) => [.row (.slice (some ⟨g, 0, none⟩) k c) 74 2 k (RcS k (rcd s))]) (fun i => i.1 ≤ cnt s) (fun i => cnt s - i.1) (0, g0, 0) (Nat.zero_le _) ?_ (OwnLe.mk [0] (by simp) rfl) (fun i u hk => ?_)
  · ((conv => whnf); repeat (first | exact trivial | refine ⟨rfl, ?_⟩ | refine ⟨congrArg (Value.int .i64) (by first | omega | assumption | exact Eq.symm (by assumption)), ?_⟩))
  obtain ⟨k, g, c⟩ := i
  replace hk : k ≤ cnt s := hk
  have hle := ends_le hk
  have hdl : (s.drop (ends s k)).length = s.length - ends s k := List.length_drop
  have hn1 := tx_size (s.drop (ends s k))
  have x1 : (tx s).extract (ends s k) (tx s).size = tx (s.drop (ends s k)) := tx_from _ _
  have hS := fun w => l1Split_v 10 10 (s.drop (ends s k)) w rfl (by omega)
  obtain ⟨t, e1, ht1⟩ := sps_head 10 (s.drop (ends s k))
  rw [e1] at hS
  have hP : ∀ o, o = 0 → (TS (bfs 10 (s.drop (ends s k)) :: t))[o]? = some (.string (tx (bfs 10 (s.drop (ends s k))))) := fun o e => by subst e; rfl
  have hn2 := tx_size (bfs 10 (s.drop (ends s k)))
  have hbl := bfs_le 10 (s.drop (ends s k))
  have hlc : (bfs 10 (s.drop (ends s k)) :: t).length = t.length + 1 := rfl
  by_cases hs : step s k
  · have hlt := cnt_lt hk hs
    have hat := step_at hs
    obtain ⟨hk60, hm, hok⟩ := hs
    have htl : 1 ≤ t.length := by
      cases t with
      | nil => exact absurd hm (ht1.1 rfl)
      | cons a t => simp
    have hR := fun w => sRead_yes k (bfs 10 (s.drop (ends s k))) w (by omega) (by omega) hok
    have he : ends s (k + 1) = ends s k + (bfs 10 (s.drop (ends s k))).length + 1 := rfl
    have hle2 := ends_le (k := k + 1) hlt
    have eR := RcS_suc k (rcd s)
    (repeat' ((conv => whnf); first | refine go ?_ | (refine VSome.mk ?_; intro gQ hA'; first | subst hA' | cases hA' | (dsimp only at hA'; subst hA')) | refine And.intro ?_ ?_ | intro _ | (first | ((show VCall _ _ _ 44 _ _); refine VCall.ret (fun w1 m1 => hS w1) (fun (gP, cP) _ => ?_)) | ((show VCall _ _ _ 137 _ _); refine VCall.grow _ (fun w1 m1 => hR w1) ?_) | ((show VSub _ _ _ _); refine VSub.as (ends s k) (tx s).size _ rfl rfl (by omega) (by omega) x1 ?_) | ((show VIdx _ _ _ _ _ _ _); refine VIdx.at_ rfl 0 rfl (by simp only [List.length_cons]; omega) ?_) | ((show VLoad1 _ _ _ _ _); refine VLoad1.mk _ (Rd.row 1 rfl (hP _ (by show 0 + mulS 0 1 = 0; rw [mulS_eq]))) ?_))))
    (conv => whnf)
    (refine VApp.pushS 0 3 rfl rfl rfl rfl rfl (by omega) (by omega) (fun g' c' => ?_))
    (repeat' ((conv => whnf); first | refine go ?_ | (refine VSome.mk ?_; intro gQ hA'; first | subst hA' | cases hA' | (dsimp only at hA'; subst hA')) | refine And.intro ?_ ?_ | intro _ | (first | ((show VIdx _ _ _ _ _ _ _); refine VIdx.at_ rfl 0 rfl (by simp only [List.length_cons]; omega) ?_) | ((show VLoad1 _ _ _ _ _); refine VLoad1.mk _ (Rd.row 1 rfl (hP _ (by show 0 + mulS 0 1 = 0; rw [mulS_eq]))) ?_))))
    (conv => whnf)
    refine VNext.mk (k + 1, g', c') hlt (by show cnt s - (k + 1) < cnt s - k; omega) ?_ (OwnLe.mk [0] (by simp) (by show [_] = [Own.row _ _ _ _ (_ ++ _)]; rw [eR]; rfl))
    ((conv => whnf); repeat (first | exact trivial | refine ⟨rfl, ?_⟩ | refine ⟨congrArg (Value.int .i64) (by first | omega | assumption | exact Eq.symm (by assumption)), ?_⟩))
  · obtain rfl := cnt_eq hk hs
    by_cases hat : ends s (cnt s) < s.length ∧ cnt s < 60
    · obtain ⟨hat, hlt60⟩ := hat
      by_cases hm : 10 ∈ s.drop (ends s (cnt s))
      · have hno : ¬ okp (cnt s) (bfs 10 (s.drop (ends s (cnt s)))) := fun e => hs ⟨hlt60, hm, e⟩
        have hR := fun w => sRead_no (cnt s) (bfs 10 (s.drop (ends s (cnt s)))) w (by omega) (by omega) hno
        have htl : 1 ≤ t.length := by
          cases t with
          | nil => exact absurd hm (ht1.1 rfl)
          | cons a t => simp
        (repeat' ((conv => whnf); first | refine go ?_ | (refine VSome.mk ?_; intro gQ hA'; first | subst hA' | cases hA' | (dsimp only at hA'; subst hA')) | refine And.intro ?_ ?_ | intro _ | (first | ((show VCall _ _ _ 44 _ _); refine VCall.ret (fun w1 m1 => hS w1) (fun (gP, cP) _ => ?_)) | ((show VCall _ _ _ 137 _ _); refine VCall.some _ _ (fun w1 m1 => hR w1) (fun r hr => ?_)) | ((show VSub _ _ _ _); refine VSub.as (ends s (cnt s)) (tx s).size _ rfl rfl (by omega) (by omega) x1 ?_) | ((show VIdx _ _ _ _ _ _ _); refine VIdx.at_ rfl 0 rfl (by simp only [List.length_cons]; omega) ?_) | ((show VLoad1 _ _ _ _ _); refine VLoad1.mk _ (Rd.row 1 rfl (hP _ (by show 0 + mulS 0 1 = 0; rw [mulS_eq]))) ?_))))
        (conv => whnf)
        exact VRet.sel (g, c) trivial rfl [0] (by simp) rfl
      · have htl : t.length = 0 := by rw [ht1.2 hm]; rfl
        by_cases hok : okp (cnt s) (bfs 10 (s.drop (ends s (cnt s))))
        · have hR := fun w => sRead_yes (cnt s) (bfs 10 (s.drop (ends s (cnt s)))) w (by omega) (by omega) hok
          (repeat' ((conv => whnf); first | refine go ?_ | (refine VSome.mk ?_; intro gQ hA'; first | subst hA' | cases hA' | (dsimp only at hA'; subst hA')) | refine And.intro ?_ ?_ | intro _ | (first | ((show VCall _ _ _ 44 _ _); refine VCall.ret (fun w1 m1 => hS w1) (fun (gP, cP) _ => ?_)) | ((show VCall _ _ _ 137 _ _); refine VCall.grow _ (fun w1 m1 => hR w1) ?_) | ((show VSub _ _ _ _); refine VSub.as (ends s (cnt s)) (tx s).size _ rfl rfl (by omega) (by omega) x1 ?_) | ((show VIdx _ _ _ _ _ _ _); refine VIdx.at_ rfl 0 rfl (by simp only [List.length_cons]; omega) ?_) | ((show VLoad1 _ _ _ _ _); refine VLoad1.mk _ (Rd.row 1 rfl (hP _ (by show 0 + mulS 0 1 = 0; rw [mulS_eq]))) ?_))))
          (conv => whnf)
          exact VRet.sel (g, c) trivial rfl [0] (by simp) rfl
        · have hR := fun w => sRead_no (cnt s) (bfs 10 (s.drop (ends s (cnt s)))) w (by omega) (by omega) hok
          (repeat' ((conv => whnf); first | refine go ?_ | (refine VSome.mk ?_; intro gQ hA'; first | subst hA' | cases hA' | (dsimp only at hA'; subst hA')) | refine And.intro ?_ ?_ | intro _ | (first | ((show VCall _ _ _ 44 _ _); refine VCall.ret (fun w1 m1 => hS w1) (fun (gP, cP) _ => ?_)) | ((show VCall _ _ _ 137 _ _); refine VCall.some _ _ (fun w1 m1 => hR w1) (fun r hr => ?_)) | ((show VSub _ _ _ _); refine VSub.as (ends s (cnt s)) (tx s).size _ rfl rfl (by omega) (by omega) x1 ?_) | ((show VIdx _ _ _ _ _ _ _); refine VIdx.at_ rfl 0 rfl (by simp only [List.length_cons]; omega) ?_) | ((show VLoad1 _ _ _ _ _); refine VLoad1.mk _ (Rd.row 1 rfl (hP _ (by show 0 + mulS 0 1 = 0; rw [mulS_eq]))) ?_))))
          (conv => whnf)
          exact VRet.sel (g, c) trivial rfl [0] (by simp) rfl
    · (repeat' ((conv => whnf); first | refine go ?_ | (refine VSome.mk ?_; intro gQ hA'; first | subst hA' | cases hA' | (dsimp only at hA'; subst hA')) | refine And.intro ?_ ?_ | intro _))
      all_goals (conv => whnf)
      all_goals first
        | exact VRet.sel (g, c) trivial rfl [0] (by simp) rfl
        | (exfalso; omega)
end Go.Proofs.YtadjhkehfklmnaaGreatDoor
