/-
  Words over the calculus of conditions: slices that read as rows, results in new memory, blocks lent to a callee.
  Conditions: none beyond each statement's own premises.
-/
import Derived.Test.YtadjhkehfklmnaaDoorV7
namespace Go.Proofs.YtadjhkehfklmnaaDoor
set_option linter.unusedSimpArgs false
set_option linter.unusedVariables false
open Go.RowKit

/-! ### Rows -/
def rowsN (n : Nat) (f : Nat → List Value) : List Value := (List.range n).flatMap f
theorem rowsN_succ (n : Nat) (f : Nat → List Value) : rowsN (n + 1) f = rowsN n f ++ f n := by simp [rowsN, List.range_succ]
theorem rowsN_length {f : Nat → List Value} {s : Nat} (hs : ∀ i, (f i).length = s) : ∀ n, (rowsN n f).length = n * s
  | 0 => by simp [rowsN]
  | n + 1 => by rw [rowsN_succ, List.length_append, rowsN_length hs n, hs, Nat.succ_mul]
theorem rowsN_get {f : Nat → List Value} {s : Nat} (hs : ∀ i, (f i).length = s) : ∀ (n i j : Nat), i < n → j < s → (rowsN n f)[i * s + j]? = (f i)[j]?
  | 0, i, j, hi, hj => by omega
  | n + 1, i, j, hi, hj => by
    rw [rowsN_succ, List.getElem?_append, rowsN_length hs]
    by_cases h : i < n
    · rw [if_pos (by have : i * s + s ≤ n * s := by rw [← Nat.succ_mul]; exact Nat.mul_le_mul_right _ h
                     omega), rowsN_get hs n i j h hj]
    · obtain rfl : i = n := by omega
      rw [if_neg (by omega)]
      congr 1
      omega
theorem rowsN_congr {f g : Nat → List Value} {n : Nat} (h : ∀ i, i < n → f i = g i) : rowsN n f = rowsN n g := by
  unfold rowsN
  rw [List.flatMap_def, List.flatMap_def]
  congr 1
  exact List.map_congr_left fun i hi => h i (by simpa using hi)
theorem rowsN_one (n : Nat) (f : Nat → Value) : rowsN n (fun i => [f i]) = (List.range n).map f := by
  unfold rowsN
  induction n with
  | zero => rfl
  | succ n ih => simp [List.range_succ, ih]
/-- A list that agrees with the rows up to k rows. -/
def UpTo (cs : List Value) (n s k : Nat) (f : Nat → List Value) : Prop := cs.length = n * s ∧ ∀ j, j < k * s → cs[j]? = (rowsN n f)[j]?
theorem UpTo.zero {cs : List Value} {n s : Nat} {f : Nat → List Value} (h : cs.length = n * s) : UpTo cs n s 0 f := ⟨h, fun j hj => by omega⟩
theorem UpTo.full {cs : List Value} {n s : Nat} {f : Nat → List Value} (hs : ∀ i, (f i).length = s) (h : UpTo cs n s n f) : cs = rowsN n f := by
  apply List.ext_getElem?
  intro j
  rcases Nat.lt_or_ge j (n * s) with hj | hj
  · exact h.2 j hj
  · rw [List.getElem?_eq_none (by rw [h.1]; exact hj), List.getElem?_eq_none (by rw [rowsN_length hs]; exact hj)]
theorem setRange_get : ∀ (vs : List Value) (cs : List Value) (off j : Nat), off + vs.length ≤ cs.length → (setRange cs off vs)[j]? = if off ≤ j ∧ j < off + vs.length then vs[j - off]? else cs[j]?
  | [], cs, off, j, _ => by
    rw [setRange, if_neg]
    simp only [List.length_nil]
    omega
  | v :: vs, cs, off, j, h => by
    rw [setRange, setRange_get vs (cs.set off v) (off + 1) j (by simp at h ⊢; omega)]
    simp only [List.length_cons] at h ⊢
    by_cases h1 : off + 1 ≤ j ∧ j < off + 1 + vs.length
    · rw [if_pos h1, if_pos (by omega)]
      rw [show j - off = (j - (off + 1)) + 1 by omega, List.getElem?_cons_succ]
    · rw [if_neg h1, List.getElem?_set]
      by_cases h2 : off = j
      · subst h2
        rw [if_pos rfl, if_pos (by omega), if_pos (by omega)]
        simp
      · rw [if_neg h2, if_neg (by omega)]
theorem UpTo.step {cs : List Value} {n s k : Nat} {f : Nat → List Value} (hs : ∀ i, (f i).length = s) (h : UpTo cs n s k f) (hk : k < n) : UpTo (setRange cs (k * s) (f k)) n s (k + 1) f := by
  have hb : k * s + (f k).length ≤ cs.length := by
    rw [h.1, hs, ← Nat.succ_mul]
    exact Nat.mul_le_mul_right _ hk
  refine ⟨by rw [setRange_length]; exact h.1, fun j hj => ?_⟩
  rw [setRange_get _ _ _ _ hb]
  split
  · rename_i hh
    rw [hs] at hh
    have e := rowsN_get hs n k (j - k * s) hk (by omega)
    rw [show k * s + (j - k * s) = j by omega] at e
    exact e.symm
  · rename_i hh
    rw [hs] at hh
    rw [Nat.succ_mul] at hj
    exact h.2 j (by omega)

/-! ### What a slice reads as -/
def Seen (w : World) (A : Option Addr) (cs : List Value) : Prop := ∀ (j : Nat) u, cs[j]? = some u → ∃ b off, A = some ⟨b, off, none⟩ ∧ b < w.heap.size ∧ w.cell? ⟨b, off + j, none⟩ = some u
def Sees (w0 : Base) (own : List Own) (A : Option Addr) (cs : List Value) : Prop := ∀ w, Mem w0 own w → Seen w A cs
section
variable {w0 : Base} {w w' : World} {own : List Own} {A : Option Addr} {cs : List Value}
theorem Seen.below (h : Seen w A cs) (hb : Below w.heap.size w w') : Seen w' A cs := fun j u hj => by
  obtain ⟨b, off, e, hlt, hc⟩ := h j u hj
  exact ⟨b, off, e, Nat.lt_of_lt_of_le hlt hb.size, (hb.cell (p := ⟨b, off + j, none⟩) hlt).trans hc⟩
theorem Seen.nil : Seen w A [] := fun j u h => by simp at h
theorem Sees.old {w1 : World} (h : Seen w1 A cs) : Sees (Base.of w1) own A cs := fun w m => h.below m.keeps.below
theorem Sees.blk (k : Nat) {g : Nat} {ty : TypeId} (hk : own[k]? = some (.blk g ty cs)) : Sees w0 own (some ⟨g, 0, none⟩) cs := fun w m j u hj => by
  have h := (m.ok k _ hk).2
  refine ⟨g, 0, rfl, (Array.getElem?_eq_some_iff.1 h).1, ?_⟩
  rw [cell_of_row w g _ _ _ _ h]
  simpa using hj
theorem Sees.row (k : Nat) {n c : Nat} {ty : TypeId} {size n' : Nat} (hk : own[k]? = some (.row (.slice A n c) ty size n' cs)) : Sees w0 own A cs := fun w m j u hj => by
  have h := (m.ok k _ hk).2
  rcases h.2 with ⟨_, h0⟩ | ⟨g, cap, cur, e, _, hg, _⟩
  · have := h.1
    subst h0
    rw [Nat.zero_mul] at this
    have : cs = [] := List.eq_nil_of_length_eq_zero this
    subst this
    simp at hj
  · injection e with e1
    subst e1
    have hc := h.cells (g := g) rfl j u hj
    rw [show (⟨g, 0, none⟩ : Addr).add j = ⟨g, 0 + j, none⟩ from by unfold Addr.add; split <;> simp_all] at hc
    exact ⟨g, 0, rfl, (Array.getElem?_eq_some_iff.1 hg).1, hc⟩
theorem Sees.nil : Sees w0 own A [] := fun _ _ => Seen.nil
/-- The address of a slice that is not empty. -/
theorem Seen.addr {j : Nat} {u : Value} (h : Seen w A cs) (hj : cs[j]? = some u) : ∃ b off, A = some ⟨b, off, none⟩ ∧ b < w.heap.size := by
  obtain ⟨b, off, e, hb, _⟩ := h j u hj
  exact ⟨b, off, e, hb⟩
theorem Seen.cell {b off j : Nat} {u : Value} (h : Seen w (some ⟨b, off, none⟩) cs) (hj : cs[j]? = some u) : w.cell? ⟨b, off + j, none⟩ = some u := by
  obtain ⟨b', off', e, _, hc⟩ := h j u hj
  cases e
  exact hc

/-! ### Results in new memory -/
def RetV {ι : Type} (I : ι → Prop) (val : ι → Value) (news : ι → List Own) (w0 : Base) (v : Value) (w' : World) : Prop := ∃ i, I i ∧ v = val i ∧ Mem w0 (news i) w'
def appK {α : Type} : List α → List α → (List α → Prop) → Prop
  | [], ys, K => spineK ys K
  | x :: xs, ys, K => appK xs ys fun l => K (x :: l)
theorem appK.out {α : Type} : ∀ {xs ys : List α} {K : List α → Prop}, appK xs ys K → K (xs ++ ys)
  | [], _, _, h => spineK.out h
  | x :: xs, ys, K, h => appK.out (K := fun l => K (x :: l)) h
theorem Mem.app {news : List Own} (m : Mem w0 own w) (m' : Mem (Base.of w) news w') : Mem w0 (own ++ news) w' := by
  have hb := m'.keeps.below
  have m1 := m.grow hb
  have fresh : ∀ (k : Nat) o g, news[k]? = some o → o.block = some g → w.heap.size ≤ g := fun k o g hk hg => by
    rcases ((m'.ok k o hk).lt g hg).1 with h | h
    · exact h
    · exact h.elim
  have old : ∀ (k : Nat) o g, own[k]? = some o → o.block = some g → g < w.heap.size := fun k o g hk hg => ((m.ok k o hk).lt g hg).2
  refine ⟨⟨m1.keeps, fun k o hk => ?_⟩, fun k k' o o' g hne h1 h2 hg hg2 => ?_⟩
  · rw [List.getElem?_append] at hk
    split at hk
    · exact m1.ok k o hk
    · have h := m'.ok _ o hk
      cases o with
      | blk g ty cs => exact ⟨.inl (Nat.le_trans m.ge (fresh _ _ g hk rfl)), h.2⟩
      | row v ty size n xs => exact ⟨fun g hg => .inl (Nat.le_trans m.ge (fresh _ _ g hk hg)), h.2⟩
      | txt g ty cs => exact ⟨.inl (Nat.le_trans m.ge (fresh _ _ g hk rfl)), h.2⟩
      | gone => trivial
  · rw [List.getElem?_append] at h1 h2
    split at h1
    · split at h2
      · exact m.sep k k' o o' g hne h1 h2 hg hg2
      · have := old k o g h1 hg
        have := fresh _ o' g h2 hg2
        omega
    · split at h2
      · have := old k' o' g h2 hg2
        have := fresh _ o g h1 hg
        omega
      · exact m'.sep _ _ o o' g (by omega) h1 h2 hg hg2
theorem VCall.ret {P : Program} {f : FuncId} {args : List Value} {K : Value → List Own → Prop} {ι : Type} {I : ι → Prop} {val : ι → Value} {news : ι → List Own}
    (h : ∀ w, Mem w0 own w → Calls P f args.toArray w fun e w' => ∃ v, e = .returned v ∧ RetV I val news (Base.of w) v w') (k : ∀ i, I i → appK own (news i) fun own => splitB (val i) fun v => K v own) : VCall P w0 own f args K :=
  .gen I val (fun i => own ++ news i) (fun w m => (h w m).mono fun e w' ⟨v, he, i, hi, hv, m'⟩ => ⟨i, hi, by rw [he, hv], m.app m'⟩) (fun i hi => (k i hi).out)
/-- A result, and the owned things that go out with it. -/
theorem VRet.sel {ι : Type} {I : ι → Prop} {val : ι → Value} {news : ι → List Own} {v : Value} (i : ι) (hi : I i) (hv : v = val i) (ks : List Nat) (hn : ks.Nodup) (h : news i = ks.map fun k => own.getD k .gone) : VRet w0 own (RetV I val news w0) v :=
  ⟨fun w m => ⟨i, hi, hv, by rw [h]; exact m.sel hn⟩⟩
theorem VRet.rowOf {ι : Type} {I : ι → Prop} {val : ι → Value} {news : ι → List Own} {v : Value} (i : ι) (hi : I i) (hv : v = val i) (k : Nat) {g n : Nat} {ty : TypeId} {size : Nat} (hk : own[k]? = some (.blk g ty cs)) (hl : cs.length = n * size) (hn : n ≤ maxLen)
    (h : news i = [.row (.slice (some ⟨g, 0, none⟩) n n) ty size n cs]) : VRet w0 own (RetV I val news w0) v :=
  ⟨fun w m => ⟨i, hi, hv, by
    rw [h]
    have m1 := m.turnRow hk hl hn
    have m2 := m1.sel (ks := [k]) (by simp)
    have : (own.set k (.row (.slice (some ⟨g, 0, none⟩) n n) ty size n cs)).getD k .gone = .row (.slice (some ⟨g, 0, none⟩) n n) ty size n cs := by
      rw [List.getD_eq_getElem?_getD, get_set hk]
      rfl
    simp only [List.map_cons, List.map_nil, this] at m2
    exact m2⟩⟩
end
end Go.Proofs.YtadjhkehfklmnaaDoor
