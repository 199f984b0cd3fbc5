/-
  Words over the calculus of conditions: rows of cells that stand in old memory, cells of own rows, stores at a named place.
  Conditions: none beyond each statement's own premises.
-/
import Derived.Test.YtadjhkehfklmnaaDoorW1
namespace Go.Proofs.YtadjhkehfklmnaaDoor
set_option linter.unusedSimpArgs false
set_option linter.unusedVariables false
open Go.RowKit

/-- The cells of one element stand at this place. -/
def RowAt (w : World) (b o : Nat) (vs : List Value) : Prop := b < w.heap.size ∧ ∀ (j : Nat) u, vs[j]? = some u → w.cell? ⟨b, o + j, none⟩ = some u
section
variable {w w' : World} {w0 : Base} {own : List Own} {g off n : Nat}
theorem Rds.of {vs : List Value} : ∀ (off : Nat), (∀ (j : Nat) u, vs[j]? = some u → Rd w0 own g (off + j) u) → Rds w0 own g off vs := by
  induction vs with
  | nil => exact fun _ _ => trivial
  | cons v vs ih =>
    intro off h
    exact ⟨h 0 v rfl, ih (off + 1) fun j u hj => by
      have := h (j + 1) u (by simpa using hj)
      rwa [show off + 1 + j = off + (j + 1) by omega]⟩
theorem VLoadN.at_ {vs : List Value} {K : Value → Prop} (h : RowAt w g off vs) (hl : vs.length = n) (k : K (.agg vs.toArray)) : VLoadN (Base.of w) own g off n K :=
  .mk vs hl (Rds.of off fun j u hj => Rd.old h.1 (fun x => x) (h.2 j u hj)) k
/-- The elements of an own block of rows. -/
theorem VLoadN.row {vs : List Value} {K : Value → Prop} (k : Nat) {n' c : Nat} {ty : TypeId} {size m : Nat} {xs : List Value} (hk : own[k]? = some (.row (.slice (some ⟨g, 0, none⟩) n' c) ty size m xs)) (hl : vs.length = n) (h : ∀ (j : Nat) u, vs[j]? = some u → xs[off + j]? = some u) (kk : K (.agg vs.toArray)) : VLoadN w0 own g off n K :=
  .mk vs hl (Rds.of off fun j u hj => Rd.row k hk (h j u hj)) kk
theorem VLoadN.arr {vs : List Value} {K : Value → Prop} (k : Nat) {ty : TypeId} {cs : List Value} (hk : own[k]? = some (.blk g ty cs)) (hl : vs.length = n) (h : ∀ (j : Nat) u, vs[j]? = some u → cs[off + j]? = some u) (kk : K (.agg vs.toArray)) : VLoadN w0 own g off n K :=
  .mk vs hl (Rds.of off fun j u hj => Rd.own k hk (h j u hj)) kk
theorem VStore.arrAt {vs : List Value} {K : List Own → Prop} (k o : Nat) (e : off = o) {ty : TypeId} {cs : List Value} (hk : own[k]? = some (.blk g ty cs)) (hn : vs.length = n) (hl : o + vs.length ≤ cs.length) (h1 : vs.all (·.oneCell') = true) (c : setK own k (.blk g ty (setRange cs o vs)) K) : VStore own g off n vs K := by
  subst e
  exact .arr k hk hn hl h1 c
theorem VStore.rowAt {vs : List Value} {K : List Own → Prop} (k o : Nat) (e : off = o) {n' c' : Nat} {ty : TypeId} {size m : Nat} {xs : List Value} (hk : own[k]? = some (.row (.slice (some ⟨g, 0, none⟩) n' c') ty size m xs)) (hn : vs.length = n) (hl : o + vs.length ≤ xs.length) (h1 : vs.all (·.oneCell') = true)
      (c : setK own k (.row (.slice (some ⟨g, 0, none⟩) n' c') ty size m (setRange xs o vs)) K) : VStore own g off n vs K := by
  subst e
  exact .row k hk hn hl h1 c
/-- Element i of a slice of rows. -/
theorem Seen.rowAt {A : Option Addr} {n s : Nat} {f : Nat → List Value} (hs : ∀ i, (f i).length = s) (hp : 0 < s) (h : Seen w A (rowsN n f)) {i : Nat} (hi : i < n) : ∃ b off, A = some ⟨b, off, none⟩ ∧ RowAt w b (off + i * s) (f i) := by
  have g0 : ∀ j, j < s → (rowsN n f)[i * s + j]? = (f i)[j]? := fun j hj => rowsN_get hs n i j hi hj
  have h1 := g0 0 hp
  have h2 : (f i)[0]? = some ((f i)[0]'(by rw [hs]; exact hp)) := List.getElem?_eq_getElem _
  obtain ⟨b, off, rfl, hb, _⟩ := h _ _ (h1.trans h2)
  refine ⟨b, off, rfl, hb, fun j u hj => ?_⟩
  have hjs : j < s := by
    rcases Nat.lt_or_ge j s with h2 | h2
    · exact h2
    · rw [List.getElem?_eq_none (by rw [hs]; exact h2)] at hj; cases hj
  have := h.cell (off := off) (b := b) ((g0 j hjs).trans hj)
  rwa [show off + i * s + j = off + (i * s + j) by omega]
theorem Seen.congr {A : Option Addr} {cs cs' : List Value} (h : Seen w A cs) (e : cs = cs') : Seen w A cs' := e ▸ h
theorem Seen.row0 {A : Option Addr} {n : Nat} {f : Nat → List Value} (e : n = 0) : Seen w A (rowsN n f) := by
  subst e
  exact Seen.nil
/-- Fresh cells are as many as asked for. -/
theorem zerosL_length (zero : List Value) (n : Nat) : (zerosL zero n).length = n := by
  unfold zerosL
  simp [size_madeCells]
theorem Seen.ofRows {A : Option Addr} {n s : Nat} {f : Nat → List Value} (hs : ∀ i, (f i).length = s) (h : ∀ i, i < n → ∃ b off, A = some ⟨b, off, none⟩ ∧ RowAt w b (off + i * s) (f i)) : Seen w A (rowsN n f) := fun j u hj => by
  have hl : j < n * s := by
    rcases Nat.lt_or_ge j (n * s) with h2 | h2
    · exact h2
    · rw [List.getElem?_eq_none (by rw [rowsN_length hs]; exact h2)] at hj; cases hj
  have hs0 : 0 < s := by
    rcases Nat.eq_zero_or_pos s with e | e
    · subst e; omega
    · exact e
  have hq : j / s < n := Nat.div_lt_of_lt_mul (by rwa [Nat.mul_comm])
  have hm := Nat.mod_lt j hs0
  have hdm : j / s * s + j % s = j := by rw [Nat.mul_comm]; exact Nat.div_add_mod j s
  obtain ⟨b, off, e, hb, hr⟩ := h (j / s) hq
  have := rowsN_get hs n (j / s) (j % s) hq hm
  rw [hdm] at this
  refine ⟨b, off, e, hb, ?_⟩
  have h3 := hr (j % s) u (this.symm.trans hj)
  rwa [show off + j / s * s + j % s = off + j by omega] at h3
theorem some_of_vc {P : Program} {ι : Type} {I : ι → Prop} {val : ι → Value} {w1 : World} {f : FuncId} {args : Array Value} (h : Calls P f args w1 fun e w' => ∃ u, e = .returned u ∧ (∃ i, I i ∧ u = val i ∧ Below w1.heap.size w1 w')) : Calls P f args w1 fun e w' => ∃ i, I i ∧ Post (val i) w1 e w' :=
  h.mono fun e w' ⟨u, he, i, hi, hu, hb⟩ => ⟨i, hi, by rw [he, hu], hb⟩
theorem Seen.at1 {A : Option Addr} {n : Nat} {f : Nat → Value} (h : Seen w A (rowsN n fun i => [f i])) {i : Nat} (hi : i < n) : ∃ b off, A = some ⟨b, off, none⟩ ∧ b < w.heap.size ∧ w.cell? ⟨b, off + i, none⟩ = some (f i) := by
  obtain ⟨b, off, e, hb, hr⟩ := h.rowAt (s := 1) (fun _ => rfl) (by omega) hi
  have := hr 0 _ rfl
  exact ⟨b, off, e, hb, by simpa using this⟩
end
/-! ### Finding an owned thing -/
inductive At (o : Own) : Nat → List Own → Prop
  | here {r : List Own} : At o 0 (o :: r)
  | there {k : Nat} {x : Own} {r : List Own} (h : At o k r) : At o (k + 1) (x :: r)
theorem At.get {o : Own} : ∀ {k : Nat} {own : List Own}, At o k own → own[k]? = some o
  | _, _, .here => rfl
  | _, _, .there h => h.get
inductive Has (g off : Nat) (v : Value) : List Own → Prop
  | here {ty : TypeId} {cs : List Value} {r : List Own} (h : cs[off]? = some v) : Has g off v (.blk g ty cs :: r)
  | row {n' c : Nat} {ty : TypeId} {size n : Nat} {xs : List Value} {r : List Own} (h : xs[off]? = some v) : Has g off v (.row (.slice (some ⟨g, 0, none⟩) n' c) ty size n xs :: r)
  | there {o : Own} {r : List Own} (h : Has g off v r) : Has g off v (o :: r)
inductive VStoreAt (own : List Own) (g off n : Nat) (vs : List Value) (k : Nat) (ty : TypeId) (cs : List Value) (K : List Own → Prop) : Prop
  | mk {c0 : Value} {cr : List Value} (hc : cs = c0 :: cr) (hn : vs.length = n) (hl : off + vs.length ≤ cs.length) (h1 : vs.all (·.oneCell') = true) (c : forceL (setRange cs off vs) fun cs => setK own k (.blk g ty cs) K) : VStoreAt own g off n vs k ty cs K
inductive VIdxR (A : Option Addr) (n sz : Nat) (i : Int) (K : Value → Prop) : Prop
  | mk (m : Nat) (hi : i = (m : Int)) (hm : m < n) (k : ∀ g, A = some ⟨g, 0, none⟩ → K (.pointer (some ⟨g, mulS m sz, none⟩))) : VIdxR A n sz i K
section
variable {w : World} {w0 : Base} {own : List Own} {g off n : Nat}
theorem Has.rd {v : Value} (h : Has g off v own) : Rd w0 own g off v := by
  have : ∀ {os : List Own} (pre : List Own), own = pre ++ os → Has g off v os → Rd w0 own g off v := by
    intro os pre e h
    induction h generalizing pre with
    | @here ty cs r h => exact Rd.own (ty := ty) (cs := cs) pre.length (by rw [e]; simp) h
    | @row n' c ty size n xs r h => exact Rd.row (n' := n') (c := c) (ty := ty) (size := size) (n := n) (xs := xs) pre.length (by rw [e]; simp) h
    | @there o r h ih => exact ih (pre ++ [o]) (by rw [e]; simp)
  exact this [] rfl h
theorem VLoad1.any {K : Value → Prop} {v : Value} (h : Has g off v own) (k : splitB v K) : VLoad1 w0 own g off K := .mk v h.rd k
theorem VLoadN.any {K : Value → Prop} {k : Nat} {ty : TypeId} {cs : List Value} (h : At (.blk g ty cs) k own) (hl : off + n ≤ cs.length) (kk : K (.agg ((cs.drop off).take n).toArray)) : VLoadN w0 own g off n K := .own k h.get hl kk
theorem VStore.any {K : List Own → Prop} {vs : List Value} {k : Nat} {ty : TypeId} {cs : List Value} (h : At (.blk g ty cs) k own) (kk : VStoreAt own g off n vs k ty cs K) : VStore own g off n vs K := by
  obtain ⟨hc, hn, hl, h1, c⟩ := kk
  exact .blk k h.get hc hn hl h1 c
theorem VIdx.any {K : Value → Prop} {A : Option Addr} {n c sz : Nat} {i : Int} {k : Nat} {ty : TypeId} {size n' : Nat} {xs : List Value} (h : At (.row (.slice A n c) ty size n' xs) k own) (kk : VIdxR A n sz i K) : VIdx own A n c sz i K := by
  obtain ⟨m, hi, hm, k'⟩ := kk
  exact .row k h.get m hi hm k'
theorem Sees.any {A : Option Addr} {cs : List Value} {k n c : Nat} {ty : TypeId} {size n' : Nat} (m : Mem w0 own w) (h : At (.row (.slice A n c) ty size n' cs) k own) : Seen w A cs := Sees.row k h.get w m
end
end Go.Proofs.YtadjhkehfklmnaaDoor
