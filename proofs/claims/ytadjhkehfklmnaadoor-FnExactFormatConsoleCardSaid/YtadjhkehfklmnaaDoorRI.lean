/-
  Parts of slices; rows put together out of parts; appends found by search.
  Conditions: none beyond each statement's own premises.
-/
import Derived.Test.YtadjhkehfklmnaaDoorW6
namespace Go.Proofs.YtadjhkehfklmnaaDoor
set_option linter.unusedSimpArgs false
set_option linter.unusedVariables false
open Go.RowKit
set_option maxRecDepth 10000
/-- An address without a spare part. -/
def Plain (A : Option Addr) : Prop := ∀ a, A = some a → ∃ g off, a = ⟨g, off, none⟩
theorem Plain.none : Plain none := fun a h => by cases h
theorem Plain.some (g off : Nat) : Plain (some ⟨g, off, Option.none⟩) := fun a h => by cases h; exact ⟨g, off, rfl⟩
section
variable {w0 : Base} {own : List Own} {w w1 : World}
theorem Mem.plain (m : Mem w0 own w) {A : Option Addr} {n c j : Nat} {ty : TypeId} {size n' : Nat} {cs : List Value} (h : At (.row (.slice A n c) ty size n' cs) j own) : Plain A := by
  rcases (m.ok j _ h.get).2.2 with ⟨e, _⟩ | ⟨g, cap, cur, e, _⟩
  · injection e with e1
    subst e1
    exact Plain.none
  · injection e with e1
    subst e1
    exact Plain.some _ _
theorem Seen.head {A : Option Addr} {cs : List Value} (h : Seen w A cs) (k : Nat) : Seen w A (cs.take k) := fun j u hj => by
  rw [List.getElem?_take] at hj
  split at hj
  · exact h j u hj
  · cases hj
/-- What is left of a slice behind its first k elements. -/
def TailOf (A B : Option Addr) (n k sz : Nat) : Prop := k < n → ∀ g off, A = some ⟨g, off, none⟩ → B = some ⟨g, off + mulS k sz, none⟩
theorem Seen.tail {A B : Option Addr} {cs : List Value} {n k sz : Nat} (h : Seen w A cs) (hB : TailOf A B n k sz) (hl : cs.length = n * sz) : Seen w B (cs.drop (k * sz)) := fun j u hj => by
  rw [List.getElem?_drop] at hj
  by_cases hk : k < n
  · obtain ⟨b, o, e, hb, hc⟩ := h _ _ hj
    refine ⟨b, o + mulS k sz, hB hk b o e, hb, ?_⟩
    rw [mulS_eq, Nat.add_assoc]
    exact hc
  · have : n * sz ≤ k * sz := Nat.mul_le_mul_right _ (by omega)
    rw [List.getElem?_eq_none (by omega)] at hj
    cases hj
theorem VCut.tail {A : Option Addr} {n c sz : Nat} {lo : Option Value} {K : Value → Prop} (k : Nat) (hlo : bnd lo 0 k) (hk : k ≤ n) (hc : n ≤ c) (hP : Plain A) (kk : ∀ B d, TailOf A B n k sz → Plain B → K (.slice B (n - k) d)) : VCut A n c sz lo none K := by
  by_cases h : k < c
  · cases A with
    | none =>
      refine .gen k n hlo rfl hk hc ?_
      rw [if_neg (by omega)]
      exact kk none (c - k) (fun _ g off e => by cases e) Plain.none
    | some a =>
      obtain ⟨g, off, rfl⟩ := hP a rfl
      exact .lt g off k n rfl hlo rfl hk hc h (kk _ _ (fun _ g' off' e => by cases e; rfl) (Plain.some _ _))
  · refine .gen k n hlo rfl hk hc ?_
    rw [if_pos (by omega)]
    exact kk A (c - k) (fun h2 => absurd h2 (by omega)) hP
theorem VCut.head {A : Option Addr} {n c sz : Nat} {hi : Option Value} {K : Value → Prop} (k : Nat) (hh : bnd hi n k) (hk : k ≤ c) (kk : K (.slice A k c)) : VCut A n c sz none hi K := .pre k rfl hh hk kk
/-- An own row takes all of a slice in old memory. -/
inductive VAppAll (w1 : World) (own : List Own) (e size : Nat) (n : Nat) (xs : List Value) (k : Nat) (x : Value) (K : Value → List Own → Prop) : Prop
  | mk {A : Option Addr} {m c : Nat} {cs : List Value} (hx : x = .slice A m c) (hA : Seen w1 A cs) (hP : Plain A) (hl : cs.length = m * size) (hs : 0 < size) (h1 : cs.all (·.oneCell') = true) (hn : n + m ≤ 17179869184)
      (kk : ∀ A' c', setK own k (.row (.slice A' (n + m) c') e size (n + m) (xs ++ cs)) fun own => K (.slice A' (n + m) c') own) : VAppAll w1 own e size n xs k x K
theorem VAppAll.as {e size n k c m : Nat} {xs : List Value} {x : Value} {K : Value → List Own → Prop} {A : Option Addr} {cs : List Value} (N : Nat) (ys : List Value) (hx : x = .slice A m c) (hA : Seen w1 A cs) (hP : Plain A) (hl : cs.length = m * size) (hs : 0 < size) (h1 : cs.all (·.oneCell') = true) (hn : n + m ≤ 17179869184) (hN : n + m = N) (hy : xs ++ cs = ys)
    (kk : ∀ A' c', setK own k (.row (.slice A' N c') e size N ys) fun own => K (.slice A' N c') own) : VAppAll w1 own e size n xs k x K := by
  subst hN hy
  exact .mk hx hA hP hl hs h1 hn kk
theorem VApp.allAny {e size : Nat} {S : Option Addr} {n c0 : Nat} {xs : List Value} {x : Value} {k : Nat} {K : Value → List Own → Prop} (h : At (.row (.slice S n c0) e size n xs) k own) (kk : VAppAll w1 own e size n xs k x K) : VApp (Base.of w1) own e size (.slice S n c0) x K := by
  obtain ⟨hx, hA, hP, hl, hs, h1, hn, kk⟩ := kk
  rename_i A m c cs
  rcases Nat.eq_zero_or_pos m with hm | hm
  · subst hm
    have hcs : cs = [] := List.eq_nil_of_length_eq_zero (by rw [hl, Nat.zero_mul])
    subst hcs
    cases A with
    | none =>
      refine .none_ k h.get hx ?_
      have := (kk S c0).out
      simp only [Nat.add_zero, List.append_nil] at this
      rw [set_same h.get] at this
      exact this
    | some a =>
      obtain ⟨g, off, rfl⟩ := hP a rfl
      exact .row k h.get hx [] (by simp) (fun j u hj => by simp at hj) rfl hn (fun A' c' _ => kk A' c')
  · exact .seen k h.get hx hA hl (Nat.mul_pos hm hs) h1 hn kk
/-- An own row takes an own block. -/
inductive VAppPush (own : List Own) (e size n : Nat) (xs : List Value) (k m : Nat) (cs : List Value) (K : Value → List Own → Prop) : Prop
  | mk (hl : cs.length = m * size) (h1 : cs.all (·.oneCell') = true) (hn : n + m ≤ 17179869184) (c : ∀ A' c', setK own k (.row (.slice A' (n + m) c') e size (n + m) (xs ++ cs)) fun own => K (.slice A' (n + m) c') own) : VAppPush own e size n xs k m cs K
theorem VApp.pushAny {e size : Nat} {s : Value} {n m c k j g : Nat} {xs cs : List Value} {ty : TypeId} {K : Value → List Own → Prop} (h : At (.row s e size n xs) k own) (hj : At (.blk g ty cs) j own) (kk : VAppPush own e size n xs k m cs K) : VApp w0 own e size s (.slice (some ⟨g, 0, none⟩) m c) K := by
  obtain ⟨hl, h1, hn, kk⟩ := kk
  exact .push k j h.get hj.get rfl hl h1 hn kk
/-- The same, with a block of its own afterwards. -/
inductive VAppPushS (own : List Own) (e size n : Nat) (xs : List Value) (k m : Nat) (cs : List Value) (K : Value → List Own → Prop) : Prop
  | mk (hl : cs.length = m * size) (h1 : cs.all (·.oneCell') = true) (hn : n + m ≤ 17179869184) (hp : 0 < n + m) (c : ∀ g' c', n + m ≤ c' → setK own k (.row (.slice (some ⟨g', 0, none⟩) (n + m) c') e size (n + m) (xs ++ cs)) fun own => K (.slice (some ⟨g', 0, none⟩) (n + m) c') own) : VAppPushS own e size n xs k m cs K
theorem VApp.pushAnyS {e size : Nat} {s : Value} {n m c k j g : Nat} {xs cs : List Value} {ty : TypeId} {K : Value → List Own → Prop} (h : At (.row s e size n xs) k own) (hj : At (.blk g ty cs) j own) (kk : VAppPushS own e size n xs k m cs K) : VApp w0 own e size s (.slice (some ⟨g, 0, none⟩) m c) K := by
  obtain ⟨hl, h1, hn, hp, kk⟩ := kk
  exact .row k h.get rfl cs hl (fun i u hu => Rd.own j hj.get (by simpa using hu)) h1 hn (fun A c' hg => by obtain ⟨g', rfl⟩ := hg.1 hp; exact kk g' c' hg.2)
/-- A row may be cut. -/
theorem Mem.shrink {A : Option Addr} {n c k n2 : Nat} {ty : TypeId} {size : Nat} {xs : List Value} (m : Mem w0 own w) (hk : own[k]? = some (.row (.slice A n c) ty size n xs)) (h : n2 ≤ n) : Mem w0 (own.set k (.row (.slice A n2 c) ty size n2 (xs.take (n2 * size)))) w := by
  have h0 := m.ok k _ hk
  obtain ⟨h00, h1, h2⟩ := h0
  have hns : n2 * size ≤ n * size := Nat.mul_le_mul_right _ h
  refine m.turn hk m.keeps ⟨fun b hb => ?_, by rw [List.length_take]; omega, ?_⟩ (fun _ _ _ => rfl) (fun b hb => ?_)
  · cases A with
    | none => cases hb
    | some a => exact h00 b hb
  · rcases h2 with ⟨e, h3⟩ | ⟨g, cap, cur, e, hb, hg, hn, hm, hs, ht⟩
    · injection e with e1 e2 e3
      left
      subst e1 e3
      exact ⟨by rw [show n2 = 0 by omega], by omega⟩
    · injection e with e1 e2 e3
      subst e1 e3
      refine .inr ⟨g, c, cur, rfl, hb, hg, by omega, hm, hs, ?_⟩
      rw [← ht, List.take_take]
      congr 1
      omega
  · left
    cases A with
    | none => cases hb
    | some a => exact hb
end
theorem all_take {p : Value → Bool} {cs : List Value} (k : Nat) (h : cs.all p = true) : (cs.take k).all p = true := by
  rw [List.all_eq_true] at h ⊢
  exact fun x hx => h x (List.mem_of_mem_take hx)
theorem all_drop {p : Value → Bool} {cs : List Value} (k : Nat) (h : cs.all p = true) : (cs.drop k).all p = true := by
  rw [List.all_eq_true] at h ⊢
  exact fun x hx => h x (List.mem_of_mem_drop hx)
theorem rowsN_add (a : Nat) (f : Nat → List Value) : ∀ b, rowsN (a + b) f = rowsN a f ++ rowsN b (fun i => f (a + i))
  | 0 => by simp [rowsN]
  | b + 1 => by rw [← Nat.add_assoc, rowsN_succ, rowsN_succ, rowsN_add a f b, List.append_assoc]
theorem rowsN_take {f : Nat → List Value} {s n k : Nat} (hs : ∀ i, (f i).length = s) (hk : k ≤ n) : (rowsN n f).take (k * s) = rowsN k f := by
  obtain ⟨b, rfl⟩ := Nat.exists_eq_add_of_le hk
  rw [rowsN_add]
  exact List.take_left' (rowsN_length hs k)
theorem rowsN_drop {f : Nat → List Value} {s n k : Nat} (hs : ∀ i, (f i).length = s) (hk : k ≤ n) : (rowsN n f).drop (k * s) = rowsN (n - k) (fun i => f (k + i)) := by
  obtain ⟨b, rfl⟩ := Nat.exists_eq_add_of_le hk
  rw [rowsN_add, List.drop_left' (rowsN_length hs k), Nat.add_sub_cancel_left]
/-- A thing put in at place k. -/
def insF {α : Type} (f : Nat → α) (k : Nat) (v : α) (i : Nat) : α := if i < k then f i else if i = k then v else f (i - 1)
theorem insF_lt {α : Type} {f : Nat → α} {k i : Nat} {v : α} (h : i < k) : insF f k v i = f i := if_pos h
theorem insF_at {α : Type} (f : Nat → α) (k : Nat) (v : α) : insF f k v k = v := by unfold insF; rw [if_neg (by omega), if_pos rfl]
theorem insF_gt {α : Type} {f : Nat → α} {k i : Nat} {v : α} (h : k < i) : insF f k v i = f (i - 1) := by unfold insF; rw [if_neg (by omega), if_neg (by omega)]
theorem insF_all {α : Type} {p : α → Prop} {f : Nat → α} {k n : Nat} {v : α} (hf : ∀ i, i < n → p (f i)) (hv : p v) (hk : k ≤ n) : ∀ i, i < n + 1 → p (insF f k v i) := fun i hi => by
  unfold insF
  split
  · exact hf i (by omega)
  · split
    · exact hv
    · exact hf (i - 1) (by omega)
theorem rows_ins {α : Type} (c : α → List Value) {s n k : Nat} (hs : ∀ x, (c x).length = s) (f : Nat → α) (v : α) (hk : k ≤ n) :
    (rowsN n fun i => c (f i)).take (k * s) ++ c v ++ (rowsN n fun i => c (f i)).drop (k * s) = rowsN (n + 1) fun i => c (insF f k v i) := by
  rw [rowsN_take (f := fun i => c (f i)) (fun i => hs _) hk, rowsN_drop (f := fun i => c (f i)) (fun i => hs _) hk]
  have e : n + 1 = k + 1 + (n - k) := by omega
  rw [e, rowsN_add (k + 1), rowsN_succ]
  have e1 : (rowsN k fun i => c (insF f k v i)) = rowsN k fun i => c (f i) := rowsN_congr fun i hi => by rw [insF_lt hi]
  have e2 : (rowsN (n - k) fun i => c (insF f k v (k + 1 + i))) = rowsN (n - k) fun i => c (f (k + i)) := rowsN_congr fun i hi => by rw [insF_gt (by omega), show k + 1 + i - 1 = k + i by omega]
  rw [e1, e2, insF_at]
theorem rowsN_set {α : Type} (c : α → List Value) {s n j : Nat} (hs : ∀ x, (c x).length = s) (f : Nat → α) (v : α) (hj : j < n) :
    setRange (rowsN n fun i => c (f i)) (j * s) (c v) = rowsN n fun i => c (upd f j v i) := by
  have hb : j * s + s ≤ n * s := by rw [← Nat.succ_mul]; exact Nat.mul_le_mul_right _ hj
  have hl : (rowsN n fun i => c (f i)).length = n * s := rowsN_length (f := fun i => c (f i)) (fun i => hs _) n
  apply List.ext_getElem?
  intro i
  rw [setRange_get _ _ _ _ (by rw [hl, hs]; exact hb), hs]
  rcases Nat.lt_or_ge i (n * s) with hi | hi
  · have hs0 : 0 < s := by
      rcases Nat.eq_zero_or_pos s with e | e
      · subst e; omega
      · exact e
    have hq : i / s < n := Nat.div_lt_of_lt_mul (by rwa [Nat.mul_comm])
    have hm := Nat.mod_lt i hs0
    have hdm : i / s * s + i % s = i := by rw [Nat.mul_comm]; exact Nat.div_add_mod i s
    have g1 := rowsN_get (f := fun i => c (f i)) (fun i => hs _) n (i / s) (i % s) hq hm
    have g2 := rowsN_get (f := fun i => c (upd f j v i)) (fun i => hs _) n (i / s) (i % s) hq hm
    rw [hdm] at g1 g2
    rw [g1, g2]
    by_cases e : i / s = j
    · rw [e, upd_at]
      rw [e] at hdm
      rw [if_pos (by omega), show i - j * s = i % s by omega]
    · rw [upd_ne f v e, if_neg]
      intro h
      apply e
      have h1 : j * s ≤ i := h.1
      have h2 : i < j * s + s := h.2
      have : i / s = j := by
        apply Nat.le_antisymm
        · exact Nat.lt_succ_iff.1 (Nat.div_lt_of_lt_mul (by rw [Nat.mul_comm, Nat.succ_mul]; exact h2))
        · exact (Nat.le_div_iff_mul_le hs0).2 h1
      exact this
  · rw [if_neg (by omega), List.getElem?_eq_none (by rw [hl]; exact hi), List.getElem?_eq_none (by rw [rowsN_length (f := fun i => c (upd f j v i)) (fun i => hs _)]; exact hi)]
/-- A thing taken out at place k. -/
def delF {α : Type} (f : Nat → α) (k : Nat) (i : Nat) : α := if i < k then f i else f (i + 1)
theorem rows_del {α : Type} (c : α → List Value) {s n k : Nat} (hs : ∀ x, (c x).length = s) (f : Nat → α) (hk : k < n) :
    (rowsN n fun i => c (f i)).take (k * s) ++ (rowsN n fun i => c (f i)).drop ((k + 1) * s) = rowsN (n - 1) fun i => c (delF f k i) := by
  rw [rowsN_take (f := fun i => c (f i)) (fun i => hs _) (Nat.le_of_lt hk), rowsN_drop (f := fun i => c (f i)) (fun i => hs _) (show k + 1 ≤ n from hk)]
  have e : n - 1 = k + (n - (k + 1)) := by omega
  rw [e, rowsN_add k]
  have e1 : (rowsN k fun i => c (delF f k i)) = rowsN k fun i => c (f i) := rowsN_congr fun i hi => by unfold delF; rw [if_pos hi]
  have e2 : (rowsN (n - (k + 1)) fun i => c (delF f k (k + i))) = rowsN (n - (k + 1)) fun i => c (f (k + 1 + i)) := rowsN_congr fun i hi => by unfold delF; rw [if_neg (by omega), show k + i + 1 = k + 1 + i by omega]
  rw [e1, e2]
end Go.Proofs.YtadjhkehfklmnaaDoor
