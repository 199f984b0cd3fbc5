/-
  The ground of this seat's proofs, with no program in sight: worlds that have only grown, regions whose operations only grow the heap, slices that read as functions of the index, and the step from a law's walk to its row.
  Conditions: none beyond each statement's own premises.
-/
import Derived.Test.YtadjhkehfklmnaaDoorRows
import Derived.WalkKit
import Derived.ProofKit
import Derived.Outline
import Derived.Deep.QuietTactic
import Derived.BigQuiet
import Derived.Lib.Hide
import Derived.OpenShut
import Derived.ChangeSame
import Derived.Deep.Slices
import Derived.Deep.Fields
namespace Go.Proofs.YtadjhkehfklmnaaDoor
set_option linter.unusedSimpArgs false
set_option linter.unusedVariables false
open Go.RowKit

/-- A number that fits Go's int. -/
def In64 (n : Int) : Prop := -9223372036854775808 ≤ n ∧ n ≤ 9223372036854775807
/-! ### Worlds that have grown -/
/-- What a call that only grows the heap adds to a world. -/
structure More where
  h : Array Obj
  n : Nat
instance : Nonempty More := ⟨⟨#[], 0⟩⟩
instance : Inhabited More := ⟨⟨#[], 0⟩⟩
def mw (w : World) (m : More) : World := { w with heap := w.heap ++ m.h, drawn := m.n }

theorem mw_size (w : World) (m : More) : (mw w m).heap.size = w.heap.size + m.h.size := by simp [mw]
@[go_sem] theorem mw_lt (w : World) (m : More) (b : Nat) (h : b < w.heap.size) : (b < (mw w m).heap.size) = True := by rw [mw_size]; exact eq_true (by omega)
@[go_sem] theorem mw_not_le (w : World) (m : More) (b : Nat) (h : b < w.heap.size) : ((mw w m).heap.size ≤ b) = False := by rw [mw_size]; exact eq_false (by omega)
theorem mw_ge (w : World) (m : More) : w.heap.size ≤ (mw w m).heap.size := by rw [mw_size]; omega
theorem below_mw (w : World) (m : More) : Below w.heap.size w (mw w m) :=
  ⟨rfl, rfl, rfl, by simp [mw], fun k hk => by show (w.heap ++ m.h)[k]? = _; rw [Array.getElem?_append, if_pos hk]⟩
theorem mw_of_below {w w' : World} (h : Below w.heap.size w w') : ∃ m, w' = mw w m := by
  refine ⟨⟨w'.heap.extract w.heap.size w'.heap.size, w'.drawn⟩, ?_⟩
  obtain ⟨h1, h2, h3, h4, h5⟩ := h
  obtain ⟨hp, tp, d, os, out⟩ := w
  obtain ⟨hp', tp', d', os', out'⟩ := w'
  simp only at h1 h2 h3 h4 h5
  subst h1 h2 h3
  simp only [mw, World.mk.injEq, and_true]
  apply Array.ext_getElem?
  intro k
  rw [Array.getElem?_append]
  split
  · exact h5 k ‹_›
  · simp only [Array.getElem?_extract]
    split
    · congr 1; omega
    · rw [Array.getElem?_eq_none (by omega)]
@[go_sem] theorem mw_cell (w : World) (m : More) (b o : Nat) (h : b < w.heap.size) : (mw w m).cell? ⟨b, o, none⟩ = w.cell? ⟨b, o, none⟩ := (below_mw w m).cell (p := ⟨b, o, none⟩) h
@[go_sem] theorem mw_frozen (w : World) (m : More) (b o : Nat) (h : b < w.heap.size) : (mw w m).frozen? ⟨b, o, none⟩ = w.frozen? ⟨b, o, none⟩ := (below_mw w m).frozen (p := ⟨b, o, none⟩) h
theorem mw_block (w : World) (m : More) (b : Nat) (h : b < w.heap.size) : (mw w m).heap[b]? = w.heap[b]? := (below_mw w m).block b h
theorem drew_mw (w : World) : { w with drawn := w.drawn + 1 } = mw w ⟨#[], w.drawn + 1⟩ := by simp [mw]

/-- A contract of a call that only grows the heap. -/
def Post (v : Value) (w : World) (e : Ending) (w' : World) : Prop := e = .returned v ∧ Below w.heap.size w w'
theorem Post.get {v : Value} {w w' : World} {e : Ending} (h : Post v w e w') : e = .returned v ∧ ∃ m, w' = mw w m := ⟨h.1, mw_of_below h.2⟩
theorem post_same {P : Program} {f : FuncId} {args : Array Value} {w : World} {v : Value} (h : Calls P f args w fun e w' => e = .returned v ∧ w = w') : Calls P f args w (Post v w) :=
  h.mono fun _ _ ⟨he, hw⟩ => ⟨he, by rw [← hw]; exact Below.refl _ _⟩

theorem q_post {P : Program} {f : FuncId} {args : Array Value} {w : World} {m : More} {v : Value}
    (h : Calls P f args (mw w m) (Post v (mw w m))) : Calls P f args (mw w m) fun e w'' => e = .returned v ∧ ∃ m', w'' = mw w m' :=
  h.mono fun _ _ ⟨he, hb⟩ => ⟨he, mw_of_below ((below_mw w m).trans (hb.mono (by rw [mw_size]; omega)))⟩
theorem q_same {P : Program} {f : FuncId} {args : Array Value} {w : World} {m : More} {v : Value}
    (h : Calls P f args (mw w m) fun e w' => e = .returned v ∧ mw w m = w') : Calls P f args (mw w m) fun e w'' => e = .returned v ∧ ∃ m', w'' = mw w m' :=
  h.mono fun _ _ ⟨he, hb⟩ => ⟨he, m, hb.symm⟩
/-- A region that draws its order, whose operations only read and whose callees only grow the heap: one walk, in the order of the text. -/
theorem wp_region_more {P : Program} {id : Nat} {Q : Exit → Act → World → Prop} {a : Act} {w : World} {l : List Oper} (hm : P.follows .mixedOrders = true) (hB : Region.lexB .any l.toArray = true)
    (h : wpQuiet P l.toArray (fun w' => ∃ m, w' = mw w m) (fun a' => ∀ w', (∃ m, w' = mw w m) → Q .normal a' w') l a) : (Code.region id l.toArray true).wp P Q a w :=
  wp_region_quiet (C := fun w' => ∃ m, w' = mw w m) hm hB ⟨_, drew_mw w⟩ (by simpa using h)

theorem bcell {W w1 : World} (hb : Below W.heap.size W w1) : (∀ b o, b < W.heap.size → w1.cell? ⟨b, o, none⟩ = W.cell? ⟨b, o, none⟩) ∧ (∀ b o, b < W.heap.size → w1.frozen? ⟨b, o, none⟩ = W.frozen? ⟨b, o, none⟩) :=
  ⟨fun b o h => hb.cell (p := ⟨b, o, none⟩) h, fun b o h => hb.frozen (p := ⟨b, o, none⟩) h⟩

theorem below_alloc {w w' : World} (h : Below w.heap.size w w') (o : Obj) : Below w.heap.size w (w'.alloc o) := h.alloc h.size o
theorem below_more {w w' : World} (h : Below w.heap.size w w') (m : More) : Below w.heap.size w (mw w' m) := h.trans ((below_mw w' m).mono h.size)
theorem below_set {w w' : World} (h : Below w.heap.size w w') {p : Addr} (hp : w.heap.size ≤ p.block) (u : Value) : Below w.heap.size w (w'.setCell p u) := h.setCell hp u
theorem below_tr {w w' w2 : World} (h : Below w.heap.size w w') (k : Below w'.heap.size w' w2) : Below w.heap.size w w2 := h.trans (k.mono h.size)

/-! ### Slices that read as functions of the index -/
/-- Below size 's': element i of the slice with address A is the int f i. -/
def RdI (w : World) (A : Option Addr) (n : Nat) (f : Nat → Int) : Prop :=
  ∀ i, i < n → ∃ b off, A = some ⟨b, off, none⟩ ∧ b < w.heap.size ∧ w.cell? ⟨b, off + i, none⟩ = some (.int .i64 (f i))
theorem RdI.below {w w' : World} {A : Option Addr} {n : Nat} {f : Nat → Int} (h : RdI w A n f) (hb : Below w.heap.size w w') : RdI w' A n f := fun i hi => by
  obtain ⟨b, off, e, hlt, hc⟩ := h i hi
  exact ⟨b, off, e, Nat.lt_of_lt_of_le hlt hb.size, (hb.cell (p := ⟨b, off + i, none⟩) hlt).trans hc⟩
theorem RdI.mw {w : World} {A : Option Addr} {n : Nat} {f : Nat → Int} (h : RdI w A n f) (m : More) : RdI (mw w m) A n f := h.below (below_mw w m)
theorem RdI.alloc {w : World} {A : Option Addr} {n : Nat} {f : Nat → Int} (h : RdI w A n f) (o : Obj) : RdI (w.alloc o) A n f := h.below (below_alloc (Below.refl _ _) o)
theorem RdI.nil (w : World) (A : Option Addr) (f : Nat → Int) : RdI w A 0 f := fun _ h => absurd h (by omega)
theorem RdI.congr {w : World} {A : Option Addr} {n : Nat} {f g : Nat → Int} (h : RdI w A n f) (e : ∀ i, i < n → f i = g i) : RdI w A n g := fun i hi => by
  obtain ⟨b, off, h1, h2, h3⟩ := h i hi
  exact ⟨b, off, h1, h2, by rw [← e i hi]; exact h3⟩

/-- A block that is known whole. -/
def Blk (w : World) (g : Nat) (t : TypeId) (cs : Array Value) : Prop := w.heap[g]? = some (.cells cs t (0, 0))
section
variable {w w' : World} {g : Nat} {t : TypeId} {cs : Array Value}
theorem Blk.lt (h : Blk w g t cs) : g < w.heap.size := by
  rcases Nat.lt_or_ge g w.heap.size with hlt | hge
  · exact hlt
  · unfold Blk at h; rw [Array.getElem?_eq_none hge] at h; cases h
theorem Blk.cell (h : Blk w g t cs) (i : Nat) : w.cell? ⟨g, i, none⟩ = cs[i]? := cell_of_row w g i cs t (0, 0) h
theorem Blk.frozen (h : Blk w g t cs) (i : Nat) : w.frozen? ⟨g, i, none⟩ = false := by
  unfold Blk at h
  simp [World.frozen?, h]
theorem Blk.new (w : World) (t : TypeId) (cs : Array Value) : Blk (w.alloc (.cells cs t)) w.heap.size t cs := heap_alloc_new w _
theorem Blk.at_ {w : World} {g : Nat} (hg : g = w.heap.size) {t : TypeId} {cs : Array Value} : Blk (w.alloc (.cells cs t)) g t cs := hg ▸ Blk.new w t cs
theorem Blk.alloc (h : Blk w g t cs) (o : Obj) : Blk (w.alloc o) g t cs := (Below.heap_alloc w o g h.lt).trans h
theorem Blk.set_ (h : Blk w g t cs) (i : Nat) (u : Value) : Blk (w.setCell ⟨g, i, none⟩ u) g t (cs.setIfInBounds i u) := by
  unfold Blk at h ⊢
  simp [World.setCell, Array.getElem?_modify, h]
theorem Blk.far (h : Blk w g t cs) {p : Addr} (hp : g ≠ p.block) (u : Value) : Blk (w.setCell p u) g t cs := (Below.heap_setCell w p u g hp).trans h
theorem Blk.below (h : Blk w g t cs) (hb : Below w.heap.size w w') : Blk w' g t cs := (hb.block g h.lt).trans h
theorem Blk.mw (h : Blk w g t cs) (m : More) : Blk (mw w m) g t cs := h.below (below_mw w m)
theorem Blk.grown {row : Option Nat} (h : Blk w g t cs) (hb : w.grownBy w' row) (hg : some g ≠ row) : Blk w' g t cs := (hb.block g h.lt hg).trans h
end
theorem run_make_rowN {P : Program} (t e : TypeId) (i : TypeInfo) (z : Value) (ht : P.underlying t = some (.slice e)) (hi : P.info? e = some i) (hz : i.zero = some z)
    (kl kc : IntKind) (n c : Nat) (hnc : n ≤ c) (hbytes : i.bytes * c ≤ 281474976710656) (h63 : c ≤ 9223372036854775807) (w : World) :
    (Instr.makeSlice t (.int kl (n : Int)) (.int kc (c : Int))).run P w = .ok (.slice (some ⟨w.heap.size, 0, none⟩) n c) (w.alloc (.cells (madeCells z.cells (c * i.size)) e)) := by
  have hb : (i.bytes : Int) * (c : Int) ≤ 281474976710656 := by
    have h : ((i.bytes * c : Nat) : Int) ≤ 281474976710656 := by omega
    rwa [Int.natCast_mul] at h
  have hr := run_make (P := P) w t e i z ht hi hz kl kc n c (by omega) (by omega) hb (by omega)
  simp only [Int.toNat_natCast] at hr
  exact hr
/-- Fresh cells, under a name that the walk leaves alone. -/
def zeros (z : Value) (n : Nat) : Array Value := madeCells z.cells n
theorem zeros_size (z : Value) (n : Nat) : (zeros z n).size = n := size_madeCells _ _
theorem run_make_z {P : Program} (t e : TypeId) (z : Value) (size bytes : Nat) (ht : P.underlying t = some (.slice e)) (hi : (P.info? e).map (fun i => (i.zero, i.size, i.bytes)) = some (some z, size, bytes))
    (kl kc : IntKind) (n : Nat) (hn : n ≤ 1048576) (hb : bytes ≤ 1048576) (w : World) :
    (Instr.makeSlice t (.int kl (n : Int)) (.int kc (n : Int))).run P w = .ok (.slice (some ⟨w.heap.size, 0, none⟩) n n) (w.alloc (.cells (zeros z (n * size)) e)) := by
  obtain ⟨i, h1, h2, h3, h4⟩ := info_parts hi
  rw [← h3]
  refine run_make_rowN t e i z ht h1 h2 kl kc n n (Nat.le_refl _) ?_ (by omega) w
  rw [h4]
  exact Nat.le_trans (Nat.mul_le_mul hb hn) (by omega)
/-! ### Writes to one block -/
theorem grownBy_set {w w' : World} {g : Nat} (h : w.grownBy w' (some g)) {p : Addr} (hp : p.block = g) (u : Value) : w.grownBy (w'.setCell p u) (some g) :=
  ⟨h.os, h.tape, h.output, by simpa [World.setCell] using h.size, fun i hi hne => (Below.heap_setCell w' p u i (by rintro rfl; exact hne (by rw [hp]))).trans (h.block i hi hne)⟩
theorem grownBy_mw {w w' : World} {g : Option Nat} (h : w.grownBy w' g) (m : More) : w.grownBy (mw w' m) g :=
  ⟨h.os, h.tape, h.output, Nat.le_trans h.size (mw_ge w' m), fun i hi hne => (mw_block w' m i (Nat.lt_of_lt_of_le hi h.size)).trans (h.block i hi hne)⟩
theorem below_grown {w w' w2 : World} {g : Nat} (h : Below w.heap.size w w') (hg : w'.grownBy w2 (some g)) (hw : w.heap.size ≤ g) : Below w.heap.size w w2 :=
  h.grown hg h.size (fun k hk => by injection hk with e; omega)
theorem RdI.grown {w w' : World} {A : Option Addr} {n g : Nat} {f : Nat → Int} (h : RdI w A n f) (hb : w.grownBy w' (some g)) (hne : ∀ b off, A = some ⟨b, off, none⟩ → b ≠ g) : RdI w' A n f := fun i hi => by
  obtain ⟨b, off, e, hlt, hc⟩ := h i hi
  exact ⟨b, off, e, Nat.lt_of_lt_of_le hlt hb.size, (World.cell?_of_block (a := ⟨b, off + i, none⟩) (hb.block b hlt (fun x => hne b off e (by injection x)))).trans hc⟩
end Go.Proofs.YtadjhkehfklmnaaDoor
