/-
  Texts joined: how the calls that the law reaches are walked, and the plain laws behind them.
  Conditions: none beyond each statement's own premises.
-/
import Derived.Test.YtadjhkehfklmnaaGreatDoorRows
import Derived.WalkKit
import Derived.ProofKit
import Derived.Outline
import Derived.Deep.QuietTactic
import Derived.BigQuiet
import Derived.Lib.Hide
import Derived.OpenShut
import Derived.ChangeSame
import Derived.Deep.Slices
import Derived.Deep.Fields
import Derived.Laws.StructEq
import Derived.Lib.ConvBytes
import Derived.Below
import Derived.Maps.AppendAt
import Derived.Orders
import Derived.OrdersHeld
import Derived.Laws.Concat
import Derived.Laws.Strings
import Derived.Laws.Build
import Derived.Laws.Small
import Derived.Laws.Tables
import Derived.Laws.Cells
import Derived.Laws.Slices
import Derived.Laws.Strings2
import Derived.Laws.Strings3
namespace Go.Proofs.YtadjhkehfklmnaaGreatDoor
set_option linter.unusedSimpArgs false
set_option linter.unusedVariables false
open Go.RowKit
def In64 (n : Int) : Prop := -9223372036854775808 ≤ n ∧ n ≤ 9223372036854775807
structure More where
  h : Array Obj
  n : Nat
instance : Nonempty More := ⟨⟨#[], 0⟩⟩
instance : Inhabited More := ⟨⟨#[], 0⟩⟩
def mw (w : World) (m : More) : World := { w with heap := w.heap ++ m.h, drawn := m.n }
theorem below_mw (w : World) (m : More) : Below w.heap.size w (mw w m) :=
  ⟨rfl, rfl, rfl, by simp [mw], fun k hk => by show (w.heap ++ m.h)[k]? = _; rw [Array.getElem?_append, if_pos hk]⟩
theorem mw_of_below {w w' : World} (h : Below w.heap.size w w') : ∃ m, w' = mw w m := by
  refine ⟨⟨w'.heap.extract w.heap.size w'.heap.size, w'.drawn⟩, ?_⟩
  obtain ⟨h1, h2, h3, h4, h5⟩ := h
  obtain ⟨hp, tp, d, os, out⟩ := w
  obtain ⟨hp', tp', d', os', out'⟩ := w'
  simp only at h1 h2 h3 h4 h5
  subst h1 h2 h3
  simp only [mw, World.mk.injEq, and_true]
  apply Array.ext_getElem?
  intro k
  rw [Array.getElem?_append]
  split
  · exact h5 k ‹_›
  · simp only [Array.getElem?_extract]
    split
    · congr 1; omega
    · rw [Array.getElem?_eq_none (by omega)]
def Post (v : Value) (w : World) (e : Ending) (w' : World) : Prop := e = .returned v ∧ Below w.heap.size w w'
theorem Post.get {v : Value} {w w' : World} {e : Ending} (h : Post v w e w') : e = .returned v ∧ ∃ m, w' = mw w m := ⟨h.1, mw_of_below h.2⟩
theorem below_alloc {w w' : World} (h : Below w.heap.size w w') (o : Obj) : Below w.heap.size w (w'.alloc o) := h.alloc h.size o
def RdI (w : World) (A : Option Addr) (n : Nat) (f : Nat → Int) : Prop :=
  ∀ i, i < n → ∃ b off, A = some ⟨b, off, none⟩ ∧ b < w.heap.size ∧ w.cell? ⟨b, off + i, none⟩ = some (.int .i64 (f i))
theorem RdI.below {w w' : World} {A : Option Addr} {n : Nat} {f : Nat → Int} (h : RdI w A n f) (hb : Below w.heap.size w w') : RdI w' A n f := fun i hi => by
  obtain ⟨b, off, e, hlt, hc⟩ := h i hi
  exact ⟨b, off, e, Nat.lt_of_lt_of_le hlt hb.size, (hb.cell (p := ⟨b, off + i, none⟩) hlt).trans hc⟩
theorem RdI.mw {w : World} {A : Option Addr} {n : Nat} {f : Nat → Int} (h : RdI w A n f) (m : More) : RdI (mw w m) A n f := h.below (below_mw w m)
theorem RdI.alloc {w : World} {A : Option Addr} {n : Nat} {f : Nat → Int} (h : RdI w A n f) (o : Obj) : RdI (w.alloc o) A n f := h.below (below_alloc (Below.refl _ _) o)
theorem RdI.nil (w : World) (A : Option Addr) (f : Nat → Int) : RdI w A 0 f := fun _ h => absurd h (by omega)
theorem RdI.congr {w : World} {A : Option Addr} {n : Nat} {f g : Nat → Int} (h : RdI w A n f) (e : ∀ i, i < n → f i = g i) : RdI w A n g := fun i hi => by
  obtain ⟨b, off, h1, h2, h3⟩ := h i hi
  exact ⟨b, off, h1, h2, by rw [← e i hi]; exact h3⟩
def Blk (w : World) (g : Nat) (t : TypeId) (cs : Array Value) : Prop := w.heap[g]? = some (.cells cs t (0, 0))
section
variable {w w' : World} {g : Nat} {t : TypeId} {cs : Array Value}
theorem Blk.lt (h : Blk w g t cs) : g < w.heap.size := by
  rcases Nat.lt_or_ge g w.heap.size with hlt | hge
  · exact hlt
  · unfold Blk at h; rw [Array.getElem?_eq_none hge] at h; cases h
theorem Blk.cell (h : Blk w g t cs) (i : Nat) : w.cell? ⟨g, i, none⟩ = cs[i]? := cell_of_row w g i cs t (0, 0) h
theorem Blk.frozen (h : Blk w g t cs) (i : Nat) : w.frozen? ⟨g, i, none⟩ = false := by
  unfold Blk at h
  simp [World.frozen?, h]
theorem Blk.new (w : World) (t : TypeId) (cs : Array Value) : Blk (w.alloc (.cells cs t)) w.heap.size t cs := heap_alloc_new w _
theorem Blk.at_ {w : World} {g : Nat} (hg : g = w.heap.size) {t : TypeId} {cs : Array Value} : Blk (w.alloc (.cells cs t)) g t cs := hg ▸ Blk.new w t cs
theorem Blk.alloc (h : Blk w g t cs) (o : Obj) : Blk (w.alloc o) g t cs := (Below.heap_alloc w o g h.lt).trans h
theorem Blk.below (h : Blk w g t cs) (hb : Below w.heap.size w w') : Blk w' g t cs := (hb.block g h.lt).trans h
theorem Blk.mw (h : Blk w g t cs) (m : More) : Blk (mw w m) g t cs := h.below (below_mw w m)
end
theorem run_make_rowN {P : Program} (t e : TypeId) (i : TypeInfo) (z : Value) (ht : P.underlying t = some (.slice e)) (hi : P.info? e = some i) (hz : i.zero = some z)
    (kl kc : IntKind) (n c : Nat) (hnc : n ≤ c) (hbytes : i.bytes * c ≤ 281474976710656) (h63 : c ≤ 9223372036854775807) (w : World) :
    (Instr.makeSlice t (.int kl (n : Int)) (.int kc (c : Int))).run P w = .ok (.slice (some ⟨w.heap.size, 0, none⟩) n c) (w.alloc (.cells (madeCells z.cells (c * i.size)) e)) := by
  have hb : (i.bytes : Int) * (c : Int) ≤ 281474976710656 := by
    have h : ((i.bytes * c : Nat) : Int) ≤ 281474976710656 := by omega
    rwa [Int.natCast_mul] at h
  have hr := run_make (P := P) w t e i z ht hi hz kl kc n c (by omega) (by omega) hb (by omega)
  simp only [Int.toNat_natCast] at hr
  exact hr
def zeros (z : Value) (n : Nat) : Array Value := madeCells z.cells n
theorem run_make_z {P : Program} (t e : TypeId) (z : Value) (size bytes : Nat) (ht : P.underlying t = some (.slice e)) (hi : (P.info? e).map (fun i => (i.zero, i.size, i.bytes)) = some (some z, size, bytes))
    (kl kc : IntKind) (n : Nat) (hn : n ≤ 1048576) (hb : bytes ≤ 1048576) (w : World) :
    (Instr.makeSlice t (.int kl (n : Int)) (.int kc (n : Int))).run P w = .ok (.slice (some ⟨w.heap.size, 0, none⟩) n n) (w.alloc (.cells (zeros z (n * size)) e)) := by
  obtain ⟨i, h1, h2, h3, h4⟩ := info_parts hi
  rw [← h3]
  refine run_make_rowN t e i z ht h1 h2 kl kc n n (Nat.le_refl _) ?_ (by omega) w
  rw [h4]
  exact Nat.le_trans (Nat.mul_le_mul hb hn) (by omega)
end Go.Proofs.YtadjhkehfklmnaaGreatDoor
namespace Go.Proofs.YtadjhkehfklmnaaGreatDoor
set_option linter.unusedSimpArgs false
set_option linter.unusedVariables false
open Go.RowKit
inductive Own where
  | blk (g : Nat) (ty : TypeId) (cs : List Value)
  | row (v : Value) (ty : TypeId) (size n : Nat) (xs : List Value)
  | txt (g : Nat) (ty : TypeId) (cs : List Value)
  | gone
structure St where
  fr : List Value
  own : List Own
structure Base where
  w : World
  lent : Nat → Prop
def Base.of (w : World) : Base := ⟨w, fun _ => False⟩
def Base.mine (w0 : Base) (g : Nat) : Prop := w0.w.heap.size ≤ g ∨ w0.lent g
structure Keeps (w0 : Base) (w : World) : Prop where
  os : w.os = w0.w.os
  tape : w.tape = w0.w.tape
  output : w.output = w0.w.output
  size : w0.w.heap.size ≤ w.heap.size
  block : ∀ b, b < w0.w.heap.size → ¬ w0.lent b → w.heap[b]? = w0.w.heap[b]?
def Own.block : Own → Option Nat
  | .blk g _ _ => some g
  | .row v _ _ _ _ => v.ownBlock
  | .txt g _ _ => some g
  | .gone => none
def Own.ok (w0 : Base) (w : World) : Own → Prop
  | .blk g ty cs => w0.mine g ∧ w.heap[g]? = some (.cells cs.toArray ty (0, 0))
  | .row v ty size n xs => (∀ g, v.ownBlock = some g → w0.mine g) ∧ w.ownsRow 0 ty size v n xs
  | .txt g ty cs => w0.mine g ∧ ∃ cur : Array Value, w.heap[g]? = some (.cells cur ty (cur.size, cur.size + 1)) ∧ cs.length ≤ cur.size ∧ cur.toList.take cs.length = cs
  | .gone => True
structure MemR (w0 : Base) (own : List Own) (w : World) : Prop where
  keeps : Keeps w0 w
  ok : ∀ (k : Nat) o, own[k]? = some o → o.ok w0 w
structure Mem (w0 : Base) (own : List Own) (w : World) : Prop extends MemR w0 own w where
  sep : ∀ (k k' : Nat) o o' g, k ≠ k' → own[k]? = some o → own[k']? = some o' → o.block = some g → o'.block ≠ some g
section
variable {w0 : Base} {w w' : World} {own : List Own}
theorem Keeps.refl (w0 : Base) : Keeps w0 w0.w := ⟨rfl, rfl, rfl, Nat.le_refl _, fun _ _ _ => rfl⟩
theorem Keeps.step (h : Keeps w0 w) (hos : w'.os = w.os) (ht : w'.tape = w.tape) (ho : w'.output = w.output) (hs : w.heap.size ≤ w'.heap.size) (hb : ∀ b, b < w0.w.heap.size → ¬ w0.lent b → w'.heap[b]? = w.heap[b]?) : Keeps w0 w' :=
  ⟨hos.trans h.os, ht.trans h.tape, ho.trans h.output, Nat.le_trans h.size hs, fun b h1 h2 => (hb b h1 h2).trans (h.block b h1 h2)⟩
theorem Keeps.below {w1 w : World} (h : Keeps (Base.of w1) w) : Below w1.heap.size w1 w := ⟨h.os, h.tape, h.output, h.size, fun b hb => h.block b hb (fun x => x)⟩
theorem Own.ok.lt {o : Own} (h : o.ok w0 w) : ∀ g, o.block = some g → w0.mine g ∧ g < w.heap.size := by
  intro g hg
  cases o with
  | blk g' ty cs =>
    simp only [Own.block, Option.some.injEq] at hg
    subst hg
    exact ⟨h.1, (Array.getElem?_eq_some_iff.1 h.2).1⟩
  | row v ty size n xs => exact ⟨h.1 g hg, (World.ownsRow.lt h.2 g hg).2⟩
  | txt g' ty cs =>
    simp only [Own.block, Option.some.injEq] at hg
    subst hg
    obtain ⟨h1, cur, h2, _⟩ := h
    exact ⟨h1, (Array.getElem?_eq_some_iff.1 h2).1⟩
  | gone => cases hg
theorem Own.ok.keep {o : Own} (h : o.ok w0 w) (hk : ∀ g, o.block = some g → w'.heap[g]? = w.heap[g]?) : o.ok w0 w' := by
  cases o with
  | blk g ty cs => exact ⟨h.1, (hk g rfl).trans h.2⟩
  | row v ty size n xs =>
    obtain ⟨h1, h2, h3⟩ := h
    refine ⟨h1, h2, ?_⟩
    rcases h3 with hn | ⟨g, cap, cur, rfl, hb, hg, r⟩
    · exact .inl hn
    · exact .inr ⟨g, cap, cur, rfl, hb, (hk g rfl).trans hg, r⟩
  | txt g ty cs =>
    obtain ⟨h1, cur, h2, h3⟩ := h
    exact ⟨h1, cur, (hk g rfl).trans h2, h3⟩
  | gone => trivial
theorem Mem.init (w0 : Base) : Mem w0 [] w0.w := ⟨⟨Keeps.refl _, fun k o h => by simp at h⟩, fun k k' o o' g _ h => by simp at h⟩
theorem Mem.grow (h : Mem w0 own w) (hb : Below w.heap.size w w') : Mem w0 own w' :=
  ⟨⟨h.keeps.step hb.os hb.tape hb.output hb.size fun b h1 _ => hb.block b (Nat.lt_of_lt_of_le h1 h.keeps.size), fun k o ho => (h.ok k o ho).keep fun g hg => hb.block g ((h.ok k o ho).lt g hg).2⟩, h.sep⟩
theorem Mem.drew (h : Mem w0 own w) : Mem w0 own { w with drawn := w.drawn + 1 } := h.grow ⟨rfl, rfl, rfl, Nat.le_refl _, fun _ _ => rfl⟩
theorem Mem.ge (h : Mem w0 own w) : w0.w.heap.size ≤ w.heap.size := h.keeps.size
theorem Mem.push (h : Mem w0 own w) {o : Own} (ho : o.ok w0 w) (hs : ∀ (k : Nat) o' g, own[k]? = some o' → o'.block = some g → o.block ≠ some g) : Mem w0 (own ++ [o]) w := by
  refine ⟨⟨h.keeps, fun k o1 h1 => ?_⟩, fun k k' o1 o2 g hne h1 h2 hg hg2 => ?_⟩
  · rw [List.getElem?_append] at h1
    split at h1
    · exact h.ok k o1 h1
    · rw [List.getElem?_singleton] at h1
      split at h1
      · cases h1; exact ho
      · cases h1
  · rw [List.getElem?_append] at h1 h2
    split at h1
    · split at h2
      · exact h.sep k k' o1 o2 g hne h1 h2 hg hg2
      · rw [List.getElem?_singleton] at h2
        split at h2
        · cases h2; exact hs k o1 g h1 hg hg2
        · cases h2
    · rw [List.getElem?_singleton] at h1
      split at h1
      · cases h1
        split at h2
        · exact hs k' o2 g h2 hg2 hg
        · rw [List.getElem?_singleton] at h2
          split at h2
          · omega
          · cases h2
      · cases h1
theorem Mem.alloc (h : Mem w0 own w) (ty : TypeId) (cs : List Value) : Mem w0 (own ++ [.blk w.heap.size ty cs]) (w.alloc (.cells cs.toArray ty)) := by
  refine (h.grow (below_alloc (Below.refl _ _) _)).push ⟨.inl h.ge, heap_alloc_new w _⟩ ?_
  intro k o' g hk hg hg2
  have := ((h.ok k o' hk).lt g hg).2
  simp only [Own.block, Option.some.injEq] at hg2
  omega
theorem Mem.allocRow (h : Mem w0 own w) (ty : TypeId) (size : Nat) : Mem w0 (own ++ [.row (.slice (some ⟨w.heap.size, 0, none⟩) 0 0) ty size 0 []]) (w.alloc (.cells #[] ty)) := by
  refine (h.grow (below_alloc (Below.refl _ _) _)).push ⟨fun g hg => .inl (by simp only [Value.ownBlock, Option.some.injEq] at hg; rw [← hg]; exact h.ge), World.ownsRow_made w #[] 0 (Nat.zero_le _) (by unfold maxLen; omega) (by simp)⟩ ?_
  intro k o' g hk hg hg2
  have := ((h.ok k o' hk).lt g hg).2
  simp only [Own.block, Value.ownBlock, Option.some.injEq] at hg2
  omega
theorem Mem.pushNil (h : Mem w0 own w) (ty : TypeId) (size : Nat) : Mem w0 (own ++ [.row (.slice none 0 0) ty size 0 []]) w :=
  h.push ⟨fun g hg => by simp [Value.ownBlock] at hg, World.ownsRow_nil w _ _ _⟩ (fun k o' g _ _ h2 => by simp [Own.block, Value.ownBlock] at h2)
theorem Mem.turn {k : Nat} {o o' : Own} (h : Mem w0 own w) (hk : own[k]? = some o) (hb : Keeps w0 w') (hok : o'.ok w0 w')
    (hkeep : ∀ g, o.block ≠ some g → g < w.heap.size → w'.heap[g]? = w.heap[g]?) (hblk : ∀ g, o'.block = some g → o.block = some g ∨ w.heap.size ≤ g) : Mem w0 (own.set k o') w' := by
  have hlt : k < own.length := by
    rcases Nat.lt_or_ge k own.length with h1 | h1
    · exact h1
    · rw [List.getElem?_eq_none h1] at hk; cases hk
  refine ⟨⟨hb, fun j o1 h1 => ?_⟩, fun j j' o1 o2 g hne h1 h2 hg hg2 => ?_⟩
  · rw [List.getElem?_set] at h1
    split at h1
    · cases h1; exact hok
    · refine (h.ok j o1 h1).keep fun g hg => hkeep g (fun e => h.sep k j o o1 g ‹_› hk h1 e hg) ((h.ok j o1 h1).lt g hg).2
  · rw [List.getElem?_set] at h1 h2
    split at h1
    · cases h1
      rw [if_neg (by omega)] at h2
      rcases hblk g hg with e | e
      · exact h.sep k j' o o2 g (by omega) hk h2 e hg2
      · have := ((h.ok j' o2 h2).lt g hg2).2; omega
    · split at h2
      · cases h2
        rcases hblk g hg2 with e | e
        · exact h.sep k j o o1 g (by omega) hk h1 e hg
        · have := ((h.ok j o1 h1).lt g hg).2; omega
      · exact h.sep j j' o1 o2 g hne h1 h2 hg hg2
theorem keeps_set (h : Keeps w0 w) {p : Addr} (hp : w0.mine p.block) (v : Value) : Keeps w0 (w.setCell p v) :=
  h.step rfl rfl rfl (by simp [World.setCell]) fun b h1 h2 => Below.heap_setCell w p v b fun e => by
    subst e
    rcases hp with hp | hp
    · omega
    · exact h2 hp
theorem Mem.set (h : Mem w0 own w) {k g : Nat} {ty : TypeId} {cs : List Value} (hk : own[k]? = some (.blk g ty cs)) (i : Nat) (v : Value) :
    Mem w0 (own.set k (.blk g ty (cs.set i v))) (w.setCell ⟨g, i, none⟩ v) := by
  have h0 := h.ok k _ hk
  refine h.turn hk (keeps_set h.keeps h0.1 v) ⟨h0.1, ?_⟩ (fun b hb hlt => Below.heap_setCell w _ v b (fun e => hb (by simp only [Own.block]; rw [e]))) (fun b hb => .inl hb)
  rw [heap_setCell_same w g i _ ty v h0.2, List.setIfInBounds_toArray]
theorem Mem.setRow (h : Mem w0 own w) {k g n c : Nat} {ty : TypeId} {size n' : Nat} {xs : List Value} (hk : own[k]? = some (.row (.slice (some ⟨g, 0, none⟩) n c) ty size n' xs)) (i : Nat) (hi : i < xs.length) (v : Value) :
    Mem w0 (own.set k (.row (.slice (some ⟨g, 0, none⟩) n c) ty size n' (xs.set i v))) (w.setCell ⟨g, i, none⟩ v) := by
  have h0 := h.ok k _ hk
  obtain ⟨h00, h1, h2⟩ := h0
  rcases h2 with ⟨h2, _⟩ | ⟨g', cap, cur, h2, hb, hg, hn, hm, hs, ht⟩
  · cases h2
  · injection h2 with h3 h4 h5
    injection h3 with h3
    injection h3 with h3
    subst h3 h4 h5
    refine h.turn hk (keeps_set h.keeps (h00 g rfl) v) ⟨h00, by simpa using h1, .inr ⟨g, c, cur.setIfInBounds i v, rfl, hb, heap_setCell_same w g i _ ty v hg, hn, hm, by simpa using hs, ?_⟩⟩ (fun b hb hlt => Below.heap_setCell w _ v b (fun e => hb (by simp only [Own.block, Value.ownBlock]; rw [e]))) (fun b hb => .inl hb)
    rw [← ht]
    rw [Array.toList_setIfInBounds, List.take_set]
theorem Mem.newTxt (h : Mem w0 own w) (ty : TypeId) (s : ByteArray) : Mem w0 (own ++ [.txt w.heap.size ty (s.data.toList.map fun b => .int .u8 (b.toNat : Int))]) (Lib.bytesWorld w ty s) := by
  have m1 : Mem w0 own (Lib.bytesWorld w ty s) := h.grow (show Below w.heap.size w (Lib.bytesWorld w ty s) from ⟨rfl, rfl, rfl, by rw [Lib.bytesWorld_size]; omega, fun b hb => Lib.bytesWorld_at_old w ty s b hb⟩)
  refine m1.push (o := .txt w.heap.size ty (s.data.toList.map fun b => .int .u8 (b.toNat : Int))) ⟨.inl h.ge, Lib.bytesCells w ty s, Lib.bytesWorld_at_new w ty s, by simp [Lib.bytesCells], ?_⟩ ?_
  · simp [Lib.bytesCells]
  · intro k o' g hk hg hg2
    have := ((h.ok k o' hk).lt g hg).2
    simp only [Own.block, Option.some.injEq] at hg2
    omega
theorem Mem.setTxt (h : Mem w0 own w) {k g : Nat} {ty : TypeId} {cs : List Value} (hk : own[k]? = some (.txt g ty cs)) (i : Nat) (v : Value) :
    Mem w0 (own.set k (.txt g ty (cs.set i v))) (w.setCell ⟨g, i, none⟩ v) := by
  obtain ⟨h0, cur, h1, h2, h3⟩ := h.ok k _ hk
  refine h.turn hk (keeps_set h.keeps h0 v) ⟨h0, cur.setIfInBounds i v, ?_, by simpa using h2, ?_⟩ (fun b hb hlt => Below.heap_setCell w _ v b (fun e => hb (by simp only [Own.block]; rw [e]))) (fun b hb => .inl hb)
  · rw [setCell_eq_setRow w g i cur ty _ v h1, Array.size_setIfInBounds]
    exact setRow_heap w g cur _ ty _ h1
  · rw [List.length_set, Array.toList_setIfInBounds, List.take_set, h3]
theorem Mem.toR (h : Mem w0 own w) (fix : List Nat) : MemR w0 (fix.map fun k => own.getD k .gone) w := by
  refine ⟨h.keeps, fun j o hj => ?_⟩
  rw [List.getElem?_map] at hj
  cases e : fix[j]? with
  | none => rw [e] at hj; cases hj
  | some k =>
    rw [e] at hj
    simp only [Option.map_some, Option.some.injEq] at hj
    subst hj
    rw [List.getD_eq_getElem?_getD]
    cases e2 : own[k]? with
    | none => trivial
    | some o2 => exact h.ok k o2 e2
theorem Mem.sel (h : Mem w0 own w) {ks : List Nat} (hn : ks.Nodup) : Mem w0 (ks.map fun k => own.getD k .gone) w := by
  refine ⟨h.toR ks, fun j j' o o' g hne h1 h2 hg hg2 => ?_⟩
  rw [List.getElem?_map] at h1 h2
  cases e : ks[j]? with
  | none => rw [e] at h1; cases h1
  | some k =>
    cases e' : ks[j']? with
    | none => rw [e'] at h2; cases h2
    | some k' =>
      rw [e] at h1
      rw [e'] at h2
      simp only [Option.map_some, Option.some.injEq] at h1 h2
      subst h1 h2
      rw [List.getD_eq_getElem?_getD] at hg hg2
      cases e2 : own[k]? with
      | none => rw [e2] at hg; cases hg
      | some o2 =>
        cases e3 : own[k']? with
        | none => rw [e3] at hg2; cases hg2
        | some o3 =>
          rw [e2] at hg
          rw [e3] at hg2
          refine h.sep k k' o2 o3 g (fun x => hne ?_) e2 e3 hg hg2
          subst x
          have l1 : j < ks.length := by
            rcases Nat.lt_or_ge j ks.length with hh | hh
            · exact hh
            · rw [List.getElem?_eq_none hh] at e; cases e
          exact (List.getElem?_inj l1 hn).1 (by rw [e, e'])
end
inductive Rd (w0 : Base) (own : List Own) (g off : Nat) (v : Value) : Prop
  | own (k : Nat) {ty : TypeId} {cs : List Value} (hk : own[k]? = some (.blk g ty cs)) (hv : cs[off]? = some v) : Rd w0 own g off v
  | row (k : Nat) {n' c : Nat} {ty : TypeId} {size n : Nat} {xs : List Value} (hk : own[k]? = some (.row (.slice (some ⟨g, 0, none⟩) n' c) ty size n xs)) (hv : xs[off]? = some v) : Rd w0 own g off v
  | txt (k : Nat) {ty : TypeId} {cs : List Value} (hk : own[k]? = some (.txt g ty cs)) (hv : cs[off]? = some v) : Rd w0 own g off v
  | old (hg : g < w0.w.heap.size) (hl : ¬ w0.lent g) (hv : w0.w.cell? ⟨g, off, none⟩ = some v) : Rd w0 own g off v
def Rds (w0 : Base) (own : List Own) (g : Nat) : Nat → List Value → Prop
  | _, [] => True
  | off, v :: vs => Rd w0 own g off v ∧ Rds w0 own g (off + 1) vs
section
variable {w0 : Base} {w w' : World} {own : List Own} {g off : Nat} {v : Value}
theorem Rd.cell (h : Rd w0 own g off v) (m : MemR w0 own w) : w.cell? ⟨g, off, none⟩ = some v := by
  cases h with
  | own k hk hv =>
    rw [cell_of_row w g off _ _ _ (m.ok k _ hk).2]
    simpa using hv
  | row k hk hv =>
    have := (m.ok k _ hk).2.cells (g := g) rfl off v hv
    rwa [show (⟨g, 0, none⟩ : Addr).add off = ⟨g, off, none⟩ from by unfold Addr.add; split <;> simp_all] at this
  | txt k hk hv =>
    obtain ⟨_, cur, h1, h2, h3⟩ := m.ok k _ hk
    rw [cell_of_row w g off _ _ _ h1]
    rw [← h3] at hv
    rw [List.getElem?_take] at hv
    split at hv
    · simpa using hv
    · cases hv
  | old hg hl hv => exact (World.cell?_of_block (a := ⟨g, off, none⟩) (m.keeps.block g hg hl)).trans hv
theorem Rds.at_ : ∀ (vs : List Value) (off : Nat), Rds w0 own g off vs → MemR w0 own w → ∀ (j : Nat) u, vs[j]? = some u → w.cell? ((⟨g, off, none⟩ : Addr).add j) = some u
  | [], _, _, _, _, _, h => by simp at h
  | v :: vs, off, h, m, 0, u, hu => by
    simp at hu
    subst hu
    simpa [Addr.add] using h.1.cell m
  | v :: vs, off, h, m, j + 1, u, hu => by
    have := Rds.at_ vs (off + 1) h.2 m j u (by simpa using hu)
    have e : (⟨g, off + 1, none⟩ : Addr).add j = (⟨g, off, none⟩ : Addr).add (j + 1) := by
      unfold Addr.add
      by_cases h0 : j = 0
      · subst h0; simp
      · simp [h0]; omega
    rwa [e] at this
end
structure TI where
  desc : TypeDesc
  size : Nat
  bytes : Nat
  zero : List Value
  places : List (Nat × Nat) := []
structure Tab where
  ty : Nat → Option TI
  fn : Nat → Bool
  eq : Nat → Bool := fun _ => false
structure TabOk (P : Program) (T : Tab) : Prop where
  und : ∀ t ti, T.ty t = some ti → P.underlying t = some ti.desc
  info : ∀ t ti, T.ty t = some ti → ∃ i z, P.info? t = some i ∧ i.size = ti.size ∧ i.bytes = ti.bytes ∧ i.zero = some z ∧ z.cells = ti.zero.toArray
  zl : ∀ t ti, T.ty t = some ti → ti.zero.length = ti.size
  places : ∀ t ti fs, T.ty t = some ti → ti.desc = .struct fs → fs.toList.mapM (fun f => (P.info? f.type).map fun i => (f.offset, i.size)) = some ti.places
  fns : ∀ f, T.fn f = true → ∃ fn, P.funcs[f]? = some fn ∧ fn.body.isNone = false ∧ (fn.name == "runtime.NumGoroutine") = false
  mixed : P.follows .mixedOrders = true
  eqs : ∀ t, T.eq t = true → P.eqGuardType P.depth t = false ∧ P.stoodInHeld t = false ∧ ((P.fieldsOf t).toList.all fun f => f.name != "_") = true
def TI.isAgg (ti : TI) : Bool := match ti.desc with | .struct _ => true | .array _ _ => true | _ => false
section
variable {P : Program} {T : Tab} {t : TypeId} {ti : TI}
theorem TabOk.agg (h : TabOk P T) (ht : T.ty t = some ti) (w : World) : (isAgg t).run P w = .ok ti.isAgg w := by
  unfold isAgg
  rw [Sem.run_bind, run_underlying (h.und t ti ht)]
  unfold TI.isAgg
  cases ti.desc <;> rfl
theorem TabOk.sz (h : TabOk P T) (ht : T.ty t = some ti) (w : World) : (sizeOf t).run P w = .ok ti.size w := by
  obtain ⟨i, z, h1, h2, _⟩ := h.info t ti ht
  simp [sizeOf, typeInfo, h1, h2]
theorem TabOk.zv (h : TabOk P T) (ht : T.ty t = some ti) (w : World) : ∃ z, z.cells = ti.zero.toArray ∧ (zeroValue t).run P w = .ok z w := by
  obtain ⟨i, z, h1, _, _, h4, h5⟩ := h.info t ti ht
  exact ⟨z, h5, by simp [zeroValue, typeInfo, h1, h4]⟩
end
end Go.Proofs.YtadjhkehfklmnaaGreatDoor
namespace Go.Proofs.YtadjhkehfklmnaaGreatDoor
set_option linter.unusedSimpArgs false
set_option linter.unusedVariables false
open Go.RowKit
inductive VIn (x : Int) (K : Prop) : Prop
  | mk (lo : -9223372036854775808 ≤ x) (hi : x ≤ 9223372036854775807) (k : K) : VIn x K
inductive VIf (p X Y : Prop) : Prop
  | mk (t : p → X) (f : ¬ p → Y) : VIf p X Y
def splitB (v : Value) (K : Value → Prop) : Prop :=
  match v with
  | .bool b => VIf (b = true) (K (.bool true)) (K (.bool false))
  | v => K v
theorem splitB.out {v : Value} {K : Value → Prop} (h : splitB v K) : K v := by
  unfold splitB at h
  split at h
  · rename_i b
    obtain ⟨ht, hf⟩ := h
    cases b
    · exact hf (by simp)
    · exact ht rfl
  · exact h
theorem VIf.sel {p : Prop} {K : Value → Prop} (h : VIf p (K (.bool true)) (K (.bool false))) : ∃ b, K (.bool b) ∧ (b = true ↔ p) := by
  obtain ⟨ht, hf⟩ := h
  by_cases hp : p
  · exact ⟨true, ht hp, by simp [hp]⟩
  · exact ⟨false, hf hp, by simp [hp]⟩
def yes (K : Value → Prop) (p : Prop) : Prop := VIf p (K (.bool true)) (K (.bool false))
def no_ (K : Value → Prop) (p : Prop) : Prop := VIf p (K (.bool false)) (K (.bool true))
theorem yes.out {K : Value → Prop} {p : Prop} [Decidable p] (h : yes K p) : K (.bool (decide p)) := by
  obtain ⟨ht, hf⟩ := h
  by_cases hp : p
  · rw [decide_eq_true hp]; exact ht hp
  · rw [decide_eq_false hp]; exact hf hp
theorem no_.out {K : Value → Prop} {p : Prop} [Decidable p] (h : no_ K p) : K (.bool (!decide p)) := by
  obtain ⟨ht, hf⟩ := h
  by_cases hp : p
  · rw [decide_eq_true hp]; exact ht hp
  · rw [decide_eq_false hp]; exact hf hp
def force1 (v : Value) (K : Value → Prop) : Prop :=
  match v with
  | .bool b => K (.bool b)
  | .int k n => K (.int k n)
  | .string s => K (.string s)
  | .pointer p => K (.pointer p)
  | .slice a n c => K (.slice a n c)
  | .func f x y => K (.func f x y)
  | .agg c => K (.agg c)
  | .tuple c => K (.tuple c)
  | v => K v
def forceL : List Value → (List Value → Prop) → Prop
  | [], K => K []
  | x :: xs, K => force1 x fun y => forceL xs fun ys => K (y :: ys)
def force (v : Value) (K : Value → Prop) : Prop :=
  match v with
  | .agg ⟨l⟩ => forceL l fun l => K (.agg ⟨l⟩)
  | .tuple ⟨l⟩ => forceL l fun l => K (.tuple ⟨l⟩)
  | v => force1 v K
def spineK {α : Type} : List α → (List α → Prop) → Prop
  | [], K => K []
  | x :: xs, K => spineK xs fun ys => K (x :: ys)
def setK {α : Type} : List α → Nat → α → (List α → Prop) → Prop
  | [], _, _, K => K []
  | _ :: xs, 0, v, K => K (v :: xs)
  | x :: xs, n + 1, v, K => setK xs n v fun l => K (x :: l)
def snocK {α : Type} : List α → α → (List α → Prop) → Prop
  | [], v, K => K [v]
  | x :: xs, v, K => snocK xs v fun l => K (x :: l)
theorem force1.out {v : Value} {K : Value → Prop} (h : force1 v K) : K v := by
  cases v <;> exact h
theorem forceL.out : ∀ {l : List Value} {K : List Value → Prop}, forceL l K → K l
  | [], _, h => h
  | x :: xs, K, h => by
    have h1 := force1.out h
    exact forceL.out (K := fun ys => K (x :: ys)) h1
theorem force.out {v : Value} {K : Value → Prop} (h : force v K) : K v := by
  unfold force at h
  split at h
  · exact forceL.out h
  · exact forceL.out h
  · exact force1.out h
theorem spineK.out {α : Type} : ∀ {l : List α} {K : List α → Prop}, spineK l K → K l
  | [], _, h => h
  | x :: xs, K, h => spineK.out (K := fun ys => K (x :: ys)) h
theorem setK.out {α : Type} : ∀ {l : List α} {n : Nat} {v : α} {K : List α → Prop}, setK l n v K → K (l.set n v)
  | [], _, _, _, h => h
  | _ :: xs, 0, _, _, h => h
  | x :: xs, n + 1, v, K, h => setK.out (K := fun l => K (x :: l)) h
theorem snocK.out {α : Type} : ∀ {l : List α} {v : α} {K : List α → Prop}, snocK l v K → K (l ++ [v])
  | [], _, _, h => h
  | x :: xs, v, K, h => snocK.out (K := fun l => K (x :: l)) h
inductive VQuo (a b : Int) (K : Int → Prop) : Prop
  | nn (ha : 0 ≤ a) (hb : 0 < b) (hi : a ≤ 9223372036854775807) (k : K (a / b)) : VQuo a b K
  | gen (hb : b ≠ 0) (lo : -9223372036854775808 ≤ a.tdiv b) (hi : a.tdiv b ≤ 9223372036854775807) (k : K (a.tdiv b)) : VQuo a b K
inductive VRem (a b : Int) (K : Int → Prop) : Prop
  | nn (ha : 0 ≤ a) (hb : 0 < b) (k : K (a % b)) : VRem a b K
  | gen (hb : b ≠ 0) (k : K (a.tmod b)) : VRem a b K
def vCmp (op : BinOp) (a b : Int) (K : Value → Prop) : Prop :=
  match op with
  | .eql => yes K (a = b)
  | .neq => no_ K (a = b)
  | .lss => yes K (a < b)
  | .leq => yes K (a ≤ b)
  | .gtr => yes K (b < a)
  | .geq => yes K (b ≤ a)
  | _ => False
def vI64 (op : BinOp) (a b : Int) (K : Value → Prop) : Prop :=
  match op with
  | .add => VIn (a + b) (K (.int .i64 (a + b)))
  | .sub => VIn (a - b) (K (.int .i64 (a - b)))
  | .mul => VIn (a * b) (K (.int .i64 (a * b)))
  | .quo => VQuo a b fun q => K (.int .i64 q)
  | .rem => VRem a b fun q => K (.int .i64 q)
  | .shl => False
  | .shr => False
  | op => vCmp op a b K
def vU8 (op : BinOp) (a b : Int) (K : Value → Prop) : Prop :=
  match op with
  | .add => K (.int .u8 (IntKind.u8.wrap (a + b)))
  | .sub => K (.int .u8 (IntKind.u8.wrap (a - b)))
  | .mul => False
  | .quo => False
  | .rem => False
  | .shl => False
  | .shr => False
  | op => vCmp op a b K
inductive VU64 (lim : Int) (K : Value → Prop) : Prop
  | mk (k : ∀ z : Int, 0 ≤ z → z ≤ lim → K (.int .u64 z)) : VU64 lim K
inductive VAnd64 (b : Int) (K : Value → Prop) : Prop
  | mk (hb : 0 ≤ b) (k : ∀ z : Int, 0 ≤ z → z ≤ b → K (.int .u64 z)) : VAnd64 b K
inductive VShr64 (a b : Int) (K : Value → Prop) : Prop
  | mk (ha : 0 ≤ a) (hb : 0 ≤ b) (k : ∀ z : Int, 0 ≤ z → z ≤ a → K (.int .u64 z)) : VShr64 a b K
def vU64 (op : BinOp) (a b : Int) (K : Value → Prop) : Prop :=
  match op with
  | .add => VU64 18446744073709551615 K
  | .mul => VU64 18446744073709551615 K
  | .and => VAnd64 b K
  | .shr => VShr64 a b K
  | _ => False
def vShift (op : BinOp) (a b : Int) (K : Value → Prop) : Prop :=
  match op with
  | .shr => VShr64 a b K
  | _ => False
inductive VCat (a b : ByteArray) (K : Value → Prop) : Prop
  | mk (h : a.size + b.size ≤ 9223372036854775807) (k : K (.string (a ++ b))) : VCat a b K
def vStr (op : BinOp) (a b : ByteArray) (K : Value → Prop) : Prop :=
  match op with
  | .add => VCat a b K
  | .eql => yes K (a = b)
  | .neq => no_ K (a = b)
  | .lss => yes K (Op.bytesLess a.toList b.toList = true)
  | _ => False
def vBool (op : BinOp) (a b : Bool) (K : Value → Prop) : Prop :=
  match op with
  | .eql => yes K (a = b)
  | .neq => no_ K (a = b)
  | _ => False
def vFields (T : Tab) (xs ys : List Value) (yes no : Prop) : List Field → Prop
  | [] => yes
  | f :: fs => match T.ty f.type, xs[f.offset]?, ys[f.offset]? with
    | some ⟨.int _, _, _, _, _⟩, some (.int .i64 a), some (.int .i64 b) => VIf (a = b) (vFields T xs ys yes no fs) no
    | some ⟨.string, _, _, _, _⟩, some (.string a), some (.string b) => VIf (a = b) (vFields T xs ys yes no fs) no
    | some ⟨.bool, _, _, _, _⟩, some (.bool a), some (.bool b) => VIf (a = b) (vFields T xs ys yes no fs) no
    | _, _, _ => False
def vAgg (T : Tab) (op : BinOp) (t : TypeId) (a b : List Value) (K : Value → Prop) : Prop :=
  match T.ty t, T.eq t with
  | some ⟨.struct fs, _, _, _, _⟩, true => match op with
    | .eql => vFields T a b (K (.bool true)) (K (.bool false)) fs.toList
    | .neq => vFields T a b (K (.bool false)) (K (.bool true)) fs.toList
    | _ => False
  | _, _ => False
def vNil (T : Tab) (op : BinOp) (t : TypeId) (same : Bool) (K : Value → Prop) : Prop :=
  match T.ty t with
  | some ⟨.interface _, _, _, _, _⟩ => match op with
    | .eql => K (.bool same)
    | .neq => K (.bool !same)
    | _ => False
  | _ => False
def isConstO : Operand → Bool
  | .const _ => true
  | _ => false
def vBin (T : Tab) (op : BinOp) (t : TypeId) (c : Bool) (x y : Value) (K : Value → Prop) : Prop :=
  match x, y with
  | .int .i64 a, .int .i64 b => vI64 op a b K
  | .int .u8 a, .int .u8 b => vU8 op a b K
  | .int .u64 a, .int .u64 b => vU64 op a b K
  | .int .u64 a, .int .i64 b => vShift op a b K
  | .string a, .string b => vStr op a b K
  | .bool a, .bool b => match T.ty t with
    | some ⟨.bool, _, _, _, _⟩ => vBool op a b K
    | _ => False
  | .agg a, .agg b => vAgg T op t a.toList b.toList K
  | .iface _ _, .nilIface => vNil T op t false K
  | .nilIface, .nilIface => match c with
    | true => vNil T op t true K
    | false => False
  | _, _ => False
def vUn (op : UnOp) (x : Value) (K : Value → Prop) : Prop :=
  match op, x with
  | .not, .bool true => K (.bool false)
  | .not, .bool false => K (.bool true)
  | .neg, .int .i64 a => VIn (-a) (K (.int .i64 (-a)))
  | _, _ => False
theorem bytes_ext (a b : ByteArray) : (a.toList == b.toList) = decide (a = b) := by
  rw [Bool.eq_iff_iff]
  simp only [beq_iff_eq, decide_eq_true_eq]
  refine ⟨fun h => ?_, fun h => by rw [h]⟩
  rw [ByteArray.toList_eq, ByteArray.toList_eq] at h
  cases a; cases b
  simp only [ByteArray.mk.injEq]
  exact Array.toList_inj.1 h
theorem wrap_i64_id {x : Int} (lo : -9223372036854775808 ≤ x) (hi : x ≤ 9223372036854775807) : IntKind.i64.wrap x = x := by
  rw [IntKind.wrap_i64]; omega
section
variable {P : Program} {T : Tab} {K : Value → Prop}
theorem vCmp.sound {op : BinOp} {a b : Int} (h : vCmp op a b K) : ∃ v, K v ∧ ∀ w, (Op.intCmp op a b).run P w = .ok v w := by
  unfold vCmp at h
  split at h
  · exact ⟨_, h.out, fun w => by simp [Op.intCmp]; rfl⟩
  · exact ⟨_, h.out, fun w => by simp [Op.intCmp, bne]; rfl⟩
  · exact ⟨_, h.out, fun w => rfl⟩
  · exact ⟨_, h.out, fun w => rfl⟩
  · exact ⟨_, h.out, fun w => rfl⟩
  · exact ⟨_, h.out, fun w => rfl⟩
  · exact h.elim
theorem vI64.sound {op : BinOp} {t : TypeId} {a b : Int} (h : vI64 op a b K) : ∃ v, K v ∧ ∀ w, (binOp op t (.int .i64 a) (.int .i64 b)).run P w = .ok v w := by
  unfold vI64 at h
  split at h
  · obtain ⟨lo, hi, k⟩ := h
    exact ⟨_, k, fun w => by simp [binOp_add, Op.intArith, wrap_i64_id lo hi]⟩
  · obtain ⟨lo, hi, k⟩ := h
    exact ⟨_, k, fun w => by simp [binOp_sub, Op.intArith, wrap_i64_id lo hi]⟩
  · obtain ⟨lo, hi, k⟩ := h
    exact ⟨_, k, fun w => by simp [binOp_mul, Op.intArith, wrap_i64_id lo hi]⟩
  · rcases h with ⟨ha, hb, hi, k⟩ | ⟨hb, lo, hi, k⟩
    · have e : a.tdiv b = a / b := Int.tdiv_eq_ediv_of_nonneg ha
      have h1 : a / b ≤ a := Int.ediv_le_self b ha
      have h2 : 0 ≤ a / b := Int.ediv_nonneg ha (by omega)
      exact ⟨_, k, fun w => by simp [binOp_quo, Op.intDiv, show b ≠ 0 by omega, e, wrap_i64_id (show -9223372036854775808 ≤ a / b by omega) (by omega)]⟩
    · exact ⟨_, k, fun w => by simp [binOp_quo, Op.intDiv, hb, wrap_i64_id lo hi]⟩
  · rcases h with ⟨ha, hb, k⟩ | ⟨hb, k⟩
    · have e : a.tmod b = a % b := Int.tmod_eq_emod_of_nonneg ha
      exact ⟨_, k, fun w => by simp [binOp_rem, Op.intDiv, show b ≠ 0 by omega, e]⟩
    · exact ⟨_, k, fun w => by simp [binOp_rem, Op.intDiv, hb]⟩
  · exact h.elim
  · exact h.elim
  · obtain ⟨v, k, e⟩ := vCmp.sound (P := P) h
    refine ⟨v, k, fun w => ?_⟩
    rw [← e w]
    cases op <;> first | rfl | (exfalso; simp_all; done) | (simp [vCmp] at h)
theorem vU8.sound {op : BinOp} {t : TypeId} {a b : Int} (h : vU8 op a b K) : ∃ v, K v ∧ ∀ w, (binOp op t (.int .u8 a) (.int .u8 b)).run P w = .ok v w := by
  unfold vU8 at h
  split at h
  · exact ⟨_, h, fun w => by simp [binOp_add, Op.intArith]⟩
  · exact ⟨_, h, fun w => by simp [binOp_sub, Op.intArith]⟩
  · exact h.elim
  · exact h.elim
  · exact h.elim
  · exact h.elim
  · exact h.elim
  · obtain ⟨v, k, e⟩ := vCmp.sound (P := P) h
    refine ⟨v, k, fun w => ?_⟩
    rw [← e w]
    cases op <;> first | rfl | (exfalso; simp_all; done) | (simp [vCmp] at h)
theorem shr64_run {yk : IntKind} {t : TypeId} {a b : Int} (h : VShr64 a b K) : ∃ v, K v ∧ ∀ w, (binOp .shr t (.int .u64 a) (.int yk b)).run P w = .ok v w := by
  obtain ⟨ha, hb, k⟩ := h
  have hp : (0 : Int) ≤ 2 ^ min b.toNat 64 := Int.pow_nonneg (by omega)
  have e : a.fdiv (2 ^ min b.toNat 64) = a / (2 ^ min b.toNat 64) := Int.fdiv_eq_ediv_of_nonneg a hp
  refine ⟨.int .u64 (a.fdiv (2 ^ min b.toNat 64)), k _ (by rw [e]; exact Int.ediv_nonneg ha hp) (by rw [e]; exact Int.ediv_le_self _ ha), fun w => ?_⟩
  show (Op.shift .shr .u64 a yk b).run P w = _
  unfold Op.shift
  rw [if_neg (by omega)]
  rfl
theorem vU64.sound {op : BinOp} {t : TypeId} {a b : Int} (h : vU64 op a b K) : ∃ v, K v ∧ ∀ w, (binOp op t (.int .u64 a) (.int .u64 b)).run P w = .ok v w := by
  unfold vU64 at h
  split at h
  · obtain ⟨k⟩ := h
    exact ⟨.int .u64 (IntKind.u64.wrap (a + b)), k _ (by rw [IntKind.wrap_u64]; omega) (by rw [IntKind.wrap_u64]; omega), fun w => by simp [binOp_add, Op.intArith]⟩
  · obtain ⟨k⟩ := h
    exact ⟨.int .u64 (IntKind.u64.wrap (a * b)), k _ (by rw [IntKind.wrap_u64]; omega) (by rw [IntKind.wrap_u64]; omega), fun w => by simp [binOp_mul, Op.intArith]⟩
  · obtain ⟨hb, k⟩ := h
    have h1 : (BitVec.ofInt 64 a &&& BitVec.ofInt 64 b).toNat ≤ (BitVec.ofInt 64 b).toNat := by rw [BitVec.toNat_and]; exact Nat.and_le_right
    have h2 : ((BitVec.ofInt 64 b).toNat : Int) ≤ b := by rw [BitVec.toNat_ofInt]; omega
    refine ⟨.int .u64 (IntKind.u64.wrap ((BitVec.ofInt 64 a &&& BitVec.ofInt 64 b).toNat : Nat)), k _ (by rw [IntKind.wrap_u64]; omega) (by rw [IntKind.wrap_u64]; omega), fun w => ?_⟩
    rfl
  · exact shr64_run h
  · exact h.elim
theorem vShift.sound {op : BinOp} {t : TypeId} {a b : Int} (h : vShift op a b K) : ∃ v, K v ∧ ∀ w, (binOp op t (.int .u64 a) (.int .i64 b)).run P w = .ok v w := by
  unfold vShift at h
  split at h
  · exact shr64_run h
  · exact h.elim
theorem vStr.sound {op : BinOp} {t : TypeId} {a b : ByteArray} (h : vStr op a b K) : ∃ v, K v ∧ ∀ w, (binOp op t (.string a) (.string b)).run P w = .ok v w := by
  unfold vStr at h
  split at h
  · obtain ⟨hs, k⟩ := h
    exact ⟨_, k, fun w => by rw [binOp_string_add]; exact run_string_add_sum w a b hs⟩
  · exact ⟨_, h.out, fun w => by rw [binOp_string_eql, bytes_ext]; rfl⟩
  · exact ⟨_, h.out, fun w => by rw [binOp_string_neq, bytes_ext]; rfl⟩
  · refine ⟨_, h.out, fun w => ?_⟩
    rw [binOp_string_lss, Bool.decide_eq_true]
    rfl
  · exact h.elim
theorem part_cell (hT : TabOk P T) {t : TypeId} {ti : TI} (ht : T.ty t = some ti) (ha : ti.isAgg = false) {cs : Array Value} {off : Nat} {v : Value} (hv : cs.toList[off]? = some v) (w : World) : (part t cs off).run P w = .ok v w := by
  unfold part
  rw [Sem.run_bind, hT.agg ht w]
  simp only [Result.andThen_ok, ha]
  have : cs[off]? = some v := by simpa using hv
  simp [this]
theorem vFields.sound (hT : TabOk P T) {xs ys : Array Value} {Y N : Prop} (d : Nat) : ∀ (fs : List Field), (fs.all fun f => f.name != "_") = true → vFields T xs.toList ys.toList Y N fs →
    ∃ b : Bool, (b = true → Y) ∧ (b = false → N) ∧ ∀ w, (Op.eqFields (d + 1) xs ys fs).run P w = .ok b w
  | [], _, h => ⟨true, fun _ => h, fun e => (by cases e), fun w => by simp [Op.eqFields]⟩
  | f :: fs, hn, h => by
    simp only [List.all_cons, Bool.and_eq_true, bne_iff_ne, ne_eq] at hn
    obtain ⟨hn1, hn2⟩ := hn
    have fin : ∀ {ti : TI} {u v : Value} {p : Prop} [Decidable p], T.ty f.type = some ti → ti.isAgg = false → xs.toList[f.offset]? = some u → ys.toList[f.offset]? = some v → (∀ w, (Op.equalIn (d + 1) f.type u v).run P w = .ok (decide p) w) → VIf p (vFields T xs.toList ys.toList Y N fs) N →
        ∃ b : Bool, (b = true → Y) ∧ (b = false → N) ∧ ∀ w, (Op.eqFields (d + 1) xs ys (f :: fs)).run P w = .ok b w := by
      intro ti u v p _ ht ha hu hv he hk
      obtain ⟨kt, kf⟩ := hk
      by_cases hp : p
      · obtain ⟨b, h1, h2, h3⟩ := vFields.sound hT d fs hn2 (kt hp)
        refine ⟨b, h1, h2, fun w => ?_⟩
        unfold Op.eqFields
        rw [if_pos hn1, Sem.run_bind, part_cell hT ht ha hu w, Result.andThen_ok, Sem.run_bind, part_cell hT ht ha hv w, Result.andThen_ok, Sem.run_bind, he w, Result.andThen_ok, decide_eq_true hp]
        simpa using h3 w
      · refine ⟨false, fun e => (by cases e), fun _ => kf hp, fun w => ?_⟩
        unfold Op.eqFields
        rw [if_pos hn1, Sem.run_bind, part_cell hT ht ha hu w, Result.andThen_ok, Sem.run_bind, part_cell hT ht ha hv w, Result.andThen_ok, Sem.run_bind, he w, Result.andThen_ok, decide_eq_false hp]
        simp
    unfold vFields at h
    split at h
    · rename_i o1 o2 o3 k r1 r2 r3 r4 a b ht hu hv
      exact fin ht rfl hu hv (fun w => by rw [run_equalIn_int w d f.type .i64 k a b (hT.und _ _ ht)]; congr 1) h
    · rename_i o1 o2 o3 r1 r2 r3 r4 a b ht hu hv
      exact fin ht rfl hu hv (fun w => by rw [run_equalIn_string w d f.type a b (hT.und _ _ ht), bytes_ext]) h
    · rename_i o1 o2 o3 r1 r2 r3 r4 a b ht hu hv
      exact fin ht rfl hu hv (fun w => by rw [run_equalIn_bool' w d f.type a b (hT.und _ _ ht)]; congr 1) h
    · exact h.elim
theorem vAgg.sound (hT : TabOk P T) {op : BinOp} {t : TypeId} {a b : Array Value} {ox oy : Operand} (h : vAgg T op t a.toList b.toList K) :
    ∃ v, K v ∧ ∀ w, (do eqGuard op t ox oy (.agg a) (.agg b); binOp op t (.agg a) (.agg b) : Sem Value).run P w = .ok v w := by
  unfold vAgg at h
  split at h
  · rename_i fs s1 s2 s3 s4 ht he
    obtain ⟨h1, h2, h3⟩ := hT.eqs t he
    have hu := hT.und t _ ht
    have hf : P.fieldsOf t = fs := by unfold Program.fieldsOf; rw [hu]
    have hu' : P.underlying t = some (.struct (P.fieldsOf t)) := by rw [hf]; exact hu
    rw [hf] at h3
    split at h
    · obtain ⟨r, k1, k2, k3⟩ := vFields.sound hT 9998 fs.toList h3 h
      refine ⟨.bool r, by cases r; exact k2 rfl; exact k1 rfl, fun w => ?_⟩
      rw [Sem.run_bind, run_eqGuard_agg w .eql t ox oy a b h1, Result.andThen_ok, run_eql_struct, show (10000 : Nat) = 9999 + 1 from rfl, run_equalIn_struct w 9999 t a b hu' h2, hf, k3 w]
      rfl
    · obtain ⟨r, k1, k2, k3⟩ := vFields.sound hT 9998 fs.toList h3 h
      refine ⟨.bool (!r), by cases r; exact k2 rfl; exact k1 rfl, fun w => ?_⟩
      rw [Sem.run_bind, run_eqGuard_agg w .neq t ox oy a b h1, Result.andThen_ok, run_neq_struct, show (10000 : Nat) = 9999 + 1 from rfl, run_equalIn_struct w 9999 t a b hu' h2, hf, k3 w]
      rfl
    · exact h.elim
  · exact h.elim
theorem iface_methods {t : TypeId} {ms : Array (String × TypeId)} (h : P.underlying t = some (.interface ms)) : P.underlying t = some (.interface (P.methodsAt t)) := by
  have e : P.methodsAt t = ms := by unfold Program.methodsAt; rw [h]
  rw [e]
  exact h
theorem eqGuard_iface (w : World) (op : BinOp) (t u : TypeId) (ox oy : Operand) (a : Value) : (eqGuard op t ox oy (.iface u a) .nilIface).run P w = .ok () w := by cases op <;> rfl
theorem eqGuard_nils (w : World) (op : BinOp) (t : TypeId) {ox oy : Operand} (h : (isConstO ox || isConstO oy) = true) : (eqGuard op t ox oy .nilIface .nilIface).run P w = .ok () w := by
  cases ox <;> cases oy <;> first | (cases op <;> rfl) | (exact Bool.noConfusion h)
theorem vBin.sound (hT : TabOk P T) {op : BinOp} {t : TypeId} {x y : Value} {ox oy : Operand} (h : vBin T op t (isConstO ox || isConstO oy) x y K) :
    ∃ v, K v ∧ ∀ w, (do eqGuard op t ox oy x y; binOp op t x y : Sem Value).run P w = .ok v w := by
  unfold vBin at h
  split at h
  · obtain ⟨v, k, e⟩ := vI64.sound (P := P) (t := t) h
    exact ⟨v, k, fun w => by rw [eqGuard_at_int]; exact e w⟩
  · obtain ⟨v, k, e⟩ := vU8.sound (P := P) (t := t) h
    exact ⟨v, k, fun w => by rw [eqGuard_at_int]; exact e w⟩
  · obtain ⟨v, k, e⟩ := vU64.sound (P := P) (t := t) h
    exact ⟨v, k, fun w => by rw [eqGuard_at_int]; exact e w⟩
  · obtain ⟨v, k, e⟩ := vShift.sound (P := P) (t := t) h
    exact ⟨v, k, fun w => by rw [eqGuard_at_int]; exact e w⟩
  · obtain ⟨v, k, e⟩ := vStr.sound (P := P) (t := t) h
    exact ⟨v, k, fun w => by rw [eqGuard_at_string]; exact e w⟩
  · rename_i a b
    split at h
    · rename_i s1 s2 s3 s4 ht
      have hu := hT.und t _ ht
      unfold vBool at h
      split at h
      · exact ⟨_, h.out, fun w => by rw [eqGuard_at_bool]; show (binOp .eql t (.bool a) (.bool b)).run P w = _; rw [run_eql_bool w t a b hu]; cases a <;> cases b <;> rfl⟩
      · exact ⟨_, h.out, fun w => by rw [eqGuard_at_bool]; show (binOp .neq t (.bool a) (.bool b)).run P w = _; rw [run_neq_bool w t a b hu]; cases a <;> cases b <;> rfl⟩
      · exact h.elim
    · exact h.elim
  · exact vAgg.sound hT h
  · unfold vNil at h
    split at h
    · rename_i s1 s2 s3 s4 s5 ht
      have hu := iface_methods (hT.und t _ ht)
      split at h
      · exact ⟨_, h, fun w => by rw [Sem.run_bind, eqGuard_iface, Result.andThen_ok]; exact run_eql_held_nil w t _ _ hu⟩
      · exact ⟨_, h, fun w => by rw [Sem.run_bind, eqGuard_iface, Result.andThen_ok]; exact run_neq_held_nil w t _ _ hu⟩
      · exact h.elim
    · exact h.elim
  · split at h
    · rename_i hc
      unfold vNil at h
      split at h
      · rename_i s1 s2 s3 s4 s5 ht
        have hu := iface_methods (hT.und t _ ht)
        split at h
        · exact ⟨_, h, fun w => by rw [Sem.run_bind, eqGuard_nils w _ t hc, Result.andThen_ok]; exact run_eql_nil_nil w t hu⟩
        · exact ⟨_, h, fun w => by rw [Sem.run_bind, eqGuard_nils w _ t hc, Result.andThen_ok]; exact run_neq_nil_nil w t hu⟩
        · exact h.elim
      · exact h.elim
    · exact h.elim
  · exact h.elim
theorem vUn.sound {op : UnOp} {x : Value} (h : vUn op x K) : ∃ v, K v ∧ ∀ w, (Op.unary op x).run P w = .ok v w := by
  unfold vUn at h
  split at h
  · exact ⟨_, h, fun w => rfl⟩
  · exact ⟨_, h, fun w => rfl⟩
  · obtain ⟨lo, hi, k⟩ := h
    exact ⟨_, k, fun w => by simp [Op.unary, Op.intArith, wrap_i64_id lo hi]⟩
  · exact h.elim
end
end Go.Proofs.YtadjhkehfklmnaaGreatDoor
namespace Go.Proofs.YtadjhkehfklmnaaGreatDoor
set_option linter.unusedSimpArgs false
set_option linter.unusedVariables false
open Go.RowKit
def setRange : List Value → Nat → List Value → List Value
  | cs, _, [] => cs
  | cs, off, x :: xs => setRange (cs.set off x) (off + 1) xs
def fillL (place : Nat → Option (Nat × Nat)) : List Value → List (Nat × Value) → Option (List Value)
  | cs, [] => some cs
  | cs, (i, v) :: r =>
    match place i with
    | none => none
    | some (off, size) =>
      match Nat.beq v.cells.toList.length size, Nat.ble (off + size) cs.length with
      | true, true => fillL place (setRange cs off v.cells.toList) r
      | _, _ => none
theorem fold_set (off : Nat) : ∀ (xs : List Value) (k : Nat) (cs : List Value), (xs.zipIdx k).foldl (fun (cs : Array Value) (x : Value × Nat) => cs.setIfInBounds (off + x.2) x.1) cs.toArray = (setRange cs (off + k) xs).toArray
  | [], _, _ => rfl
  | x :: xs, k, cs => by
    simp only [List.zipIdx_cons, List.foldl_cons, List.setIfInBounds_toArray]
    rw [fold_set off xs (k + 1)]
    rfl
theorem setRange_length : ∀ (xs : List Value) (off : Nat) (cs : List Value), (setRange cs off xs).length = cs.length
  | [], _, _ => rfl
  | x :: xs, off, cs => by rw [setRange, setRange_length, List.length_set]
theorem fillL.sound {place : Nat → Option (Nat × Nat)} : ∀ (parts : List (Nat × Value)) (cs out : List Value), fillL place cs parts = some out → Instr.fill place cs.toArray parts = some out.toArray
  | [], cs, out, h => by
    simp only [fillL, Option.some.injEq] at h
    rw [h]
    rfl
  | (i, v) :: r, cs, out, h => by
    unfold fillL at h
    split at h
    · cases h
    · rename_i off size hp
      split at h
      · rename_i h1 h2
        have e1 : v.cells.size = size := by simpa using Nat.eq_of_beq_eq_true h1
        have e2 : off + size ≤ cs.length := Nat.le_of_ble_eq_true h2
        unfold Instr.fill
        simp only [hp]
        rw [if_neg (by simp; omega)]
        have e3 : (v.cells.zipIdx.foldl (fun cs (x : Value × Nat) => cs.setIfInBounds (off + x.2) x.1) cs.toArray) = (setRange cs off v.cells.toList).toArray := by
          rw [← Array.foldl_toList, Array.toList_zipIdx]
          exact fold_set off _ 0 cs
        have := fillL.sound r _ out h
        rw [← e3] at this
        exact this
      · cases h
inductive VLoad1 (w0 : Base) (own : List Own) (g off : Nat) (K : Value → Prop) : Prop
  | mk (v : Value) (h : Rd w0 own g off v) (k : splitB v K) : VLoad1 w0 own g off K
inductive VLoadN (w0 : Base) (own : List Own) (g off n : Nat) (K : Value → Prop) : Prop
  | mk (vs : List Value) (hl : vs.length = n) (h : Rds w0 own g off vs) (k : K (.agg vs.toArray)) : VLoadN w0 own g off n K
  | own (j : Nat) {ty : TypeId} {cs : List Value} (hk : own[j]? = some (.blk g ty cs)) (hl : off + n ≤ cs.length) (k : K (.agg ((cs.drop off).take n).toArray)) : VLoadN w0 own g off n K
def vLoad (T : Tab) (w0 : Base) (own : List Own) (t : TypeId) (p : Value) (K : Value → Prop) : Prop :=
  match T.ty t with
  | none => False
  | some ti => match p with
    | .pointer (some ⟨g, off, none⟩) => match ti.isAgg with
      | true => VLoadN w0 own g off ti.size K
      | false => VLoad1 w0 own g off K
    | _ => False
def bnd (o : Option Value) (d n : Nat) : Prop :=
  match o with
  | none => n = d
  | some (.int _ i) => i = (n : Int)
  | some _ => False
def mulS (m sz : Nat) : Nat :=
  match sz with
  | 1 => m
  | sz => m * sz
inductive VSub (s : ByteArray) (lo hi : Option Value) (K : Value → Prop) : Prop
  | mk (l h : Nat) (hl : bnd lo 0 l) (hh : bnd hi s.size h) (h1 : l ≤ h) (h2 : h ≤ s.size) (k : K (.string (s.extract l h))) : VSub s lo hi K
inductive VCut (A : Option Addr) (n c sz : Nat) (lo hi : Option Value) (K : Value → Prop) : Prop
  | pre (h : Nat) (hl : lo = none) (hh : bnd hi n h) (h2 : h ≤ c) (k : K (.slice A h c)) : VCut A n c sz lo hi K
  | lt (g off l h : Nat) (hA : A = some ⟨g, off, none⟩) (hl : bnd lo 0 l) (hh : bnd hi n h) (h1 : l ≤ h) (h2 : h ≤ c) (h3 : l < c) (k : K (.slice (some ⟨g, off + mulS l sz, none⟩) (h - l) (c - l))) : VCut A n c sz lo hi K
  | gen (l h : Nat) (hl : bnd lo 0 l) (hh : bnd hi n h) (h1 : l ≤ h) (h2 : h ≤ c) (k : K (.slice (if c = l then A else A.map (·.add (l * sz))) (h - l) (c - l))) : VCut A n c sz lo hi K
def vSlice (T : Tab) (t : TypeId) (x : Value) (lo hi mx : Option Value) (K : Value → Prop) : Prop :=
  match mx with
  | some _ => False
  | none => match T.ty t, x with
    | some ⟨.string, _, _, _, _⟩, .string s => VSub s lo hi K
    | some ⟨.slice e, _, _, _, _⟩, .slice A n c => match T.ty e with
      | some ei => VCut A n c ei.size lo hi K
      | none => False
    | _, _ => False
def vField (T : Tab) (t : TypeId) (x : Value) (f : Nat) (K : Value → Prop) : Prop :=
  match T.ty t, x with
  | some ⟨.struct fs, _, _, _, _⟩, .agg cs => match fs.toList[f]? with
    | none => False
    | some fd => match T.ty fd.type with
      | none => False
      | some fi => match fi.isAgg with
        | true => K (.agg ((cs.toList.drop fd.offset).take fi.size).toArray)
        | false => match cs.toList[fd.offset]? with
          | some v => splitB v K
          | none => False
  | _, _ => False
def vFieldAddr (T : Tab) (t : TypeId) (x : Value) (f : Nat) (K : Value → Prop) : Prop :=
  match T.ty t, x with
  | some ⟨.struct fs, _, _, _, _⟩, .pointer (some ⟨g, off, none⟩) => match fs.toList[f]? with
    | none => False
    | some fd => match T.ty fd.type with
      | none => False
      | some fi => match fi.size with
        | 0 => False
        | _ => K (.pointer (some ⟨g, off + fd.offset, none⟩))
  | _, _ => False
inductive VIdx (own : List Own) (A : Option Addr) (n c sz : Nat) (i : Int) (K : Value → Prop) : Prop
  | at_ {g off : Nat} (hA : A = some ⟨g, off, none⟩) (m : Nat) (hi : i = (m : Int)) (hm : m < n) (k : K (.pointer (some ⟨g, off + mulS m sz, none⟩))) : VIdx own A n c sz i K
  | row (j : Nat) {ty : TypeId} {size n' : Nat} {xs : List Value} (hk : own[j]? = some (.row (.slice A n c) ty size n' xs)) (m : Nat) (hi : i = (m : Int)) (hm : m < n) (k : ∀ g, A = some ⟨g, 0, none⟩ → K (.pointer (some ⟨g, mulS m sz, none⟩))) : VIdx own A n c sz i K
inductive VIdxA (g off len sz : Nat) (i : Int) (K : Value → Prop) : Prop
  | mk (m : Nat) (hi : i = (m : Int)) (hm : m < len) (k : K (.pointer (some ⟨g, off + mulS m sz, none⟩))) : VIdxA g off len sz i K
def vIdxAddr (T : Tab) (own : List Own) (t : TypeId) (x i : Value) (K : Value → Prop) : Prop :=
  match T.ty t, x, i with
  | some ⟨.slice e, _, _, _, _⟩, .slice A n c, .int _ i => match T.ty e with
    | some ei => VIdx own A n c ei.size i K
    | none => False
  | some ⟨.array len e, _, _, _, _⟩, .pointer (some ⟨g, off, none⟩), .int _ i => match T.ty e with
    | some ei => VIdxA g off len ei.size i K
    | none => False
  | _, _, _ => False
inductive VStrIx (s : ByteArray) (i : Int) (K : Value → Prop) : Prop
  | mk (m : Nat) (hi : i = (m : Int)) (hm : m < s.size) (k : K (.int .u8 (s[m].toNat : Int))) : VStrIx s i K
inductive VAgIx (cs : List Value) (len : Nat) (i : Int) (K : Value → Prop) : Prop
  | mk (m : Nat) (hi : i = (m : Int)) (hm : m < len) (v : Value) (hv : cs[m]? = some v) (k : splitB v K) : VAgIx cs len i K
def vIndex (T : Tab) (t : TypeId) (x i : Value) (K : Value → Prop) : Prop :=
  match T.ty t, x, i with
  | some ⟨.string, _, _, _, _⟩, .string s, .int _ i => VStrIx s i K
  | some ⟨.array len e, _, _, _, _⟩, .agg cs, .int _ i => match T.ty e with
    | some ei => match ei.isAgg, ei.size with
      | false, 1 => VAgIx cs.toList len i K
      | _, _ => False
    | none => False
  | _, _, _ => False
def vExtract (x : Value) (i : Nat) (K : Value → Prop) : Prop :=
  match x with
  | .tuple vs => match vs.toList[i]? with
    | some v => splitB v K
    | none => False
  | _ => False
def vBuild (T : Tab) (t : TypeId) (parts : List (Nat × Value)) (K : Value → Prop) : Prop :=
  match T.ty t with
  | none => False
  | some ti => match ti.desc with
    | .struct _ => match fillL (fun i => ti.places[i]?) ti.zero parts with
      | some cs => K (.agg cs.toArray)
      | none => False
    | .array _ e => match T.ty e with
      | some ei => match fillL (fun i => some (i * ei.size, ei.size)) ti.zero parts with
        | some cs => K (.agg cs.toArray)
        | none => False
      | none => False
    | _ => False
def vLen (T : Tab) (ts : List TypeId) (xs : List Value) (K : Value → Prop) : Prop :=
  match ts, xs with
  | [t], [x] => match T.ty t, x with
    | some ⟨.string, _, _, _, _⟩, .string s => K (.int .i64 (s.size : Int))
    | some ⟨.slice _, _, _, _, _⟩, .slice _ n _ => K (.int .i64 (n : Int))
    | some ⟨.array n _, _, _, _, _⟩, _ => K (.int .i64 (n : Int))
    | _, _ => False
  | _, _ => False
def vMin (xs : List Value) (K : Value → Prop) : Prop :=
  match xs with
  | [.int .i64 a, .int .i64 b] => K (.int .i64 (if b < a then b else a))
  | _ => False
def vMax (xs : List Value) (K : Value → Prop) : Prop :=
  match xs with
  | [.int .i64 a, .int .i64 b] => K (.int .i64 (if a < b then b else a))
  | _ => False
inductive VBytes (w0 : Base) (own : List Own) (g off n : Nat) (K : Value → Prop) : Prop
  | mk (bs : ByteArray) (hl : bs.size = n) (h : ∀ (i : Nat) (hi : i < bs.size), Rd w0 own g (off + i) (.int .u8 (bs[i].toNat : Int))) (k : K (.string bs)) : VBytes w0 own g off n K
def vConv (T : Tab) (w0 : Base) (own : List Own) (s d : TypeId) (x : Value) (K : Value → Prop) : Prop :=
  match T.ty s, T.ty d, x with
  | some ⟨.int _, _, _, _, _⟩, some ⟨.int .i64, _, _, _, _⟩, .int _ n => VIn n (K (.int .i64 n))
  | some ⟨.int _, _, _, _, _⟩, some ⟨.int .u8, _, _, _, _⟩, .int _ n => K (.int .u8 (IntKind.u8.wrap n))
  | some ⟨.int _, _, _, _, _⟩, some ⟨.int .u64, _, _, _, _⟩, .int _ _ => VU64 18446744073709551615 K
  | some ⟨.string, _, _, _, _⟩, some ⟨.string, _, _, _, _⟩, .string s => K (.string s)
  | some ⟨.slice e, _, _, _, _⟩, some ⟨.string, _, _, _, _⟩, .slice A n _ => match T.ty e with
    | some ⟨.int .u8, _, _, _, _⟩ => match A with
      | some ⟨g, off, none⟩ => VBytes w0 own g off n K
      | none => K (.string .empty)
      | _ => False
    | _ => False
  | _, _, _ => False
section
variable {P : Program} {T : Tab} {K : Value → Prop} {w0 : Base} {own : List Own}
theorem vLoad.sound (hT : TabOk P T) {t : TypeId} {p : Value} (h : vLoad T w0 own t p K) : ∃ v, K v ∧ ∀ w, MemR w0 own w → (Instr.loadAt t p).run P w = .ok v w := by
  unfold vLoad at h
  split at h
  · exact h.elim
  · rename_i ti ht
    split at h
    · rename_i g off
      split at h
      · rename_i ha
        rcases h with ⟨vs, hl, hr, k⟩ | ⟨j, hk, hl, k⟩
        · refine ⟨_, k, fun w m => ?_⟩
          have hc := run_loadCells_list (P := P) w ⟨g, off, none⟩ vs (hr.at_ _ _ m)
          rw [hl] at hc
          simp [Instr.loadAt, Instr.sureAddr, loadVar, hT.agg ht, ha, hT.sz ht, hc]
        · rename_i ty cs
          refine ⟨_, k, fun w m => ?_⟩
          have hlen : ((cs.drop off).take ti.size).length = ti.size := by simp; omega
          have hc := run_loadCells_list (P := P) w ⟨g, off, none⟩ ((cs.drop off).take ti.size) (fun i u hu => by
            rw [List.getElem?_take] at hu
            split at hu
            · rw [List.getElem?_drop] at hu
              have := (Rd.own (w0 := w0) j hk hu).cell m
              rw [show (⟨g, off, none⟩ : Addr).add i = ⟨g, off + i, none⟩ from by unfold Addr.add; split <;> simp_all]
              exact this
            · cases hu)
          rw [hlen] at hc
          simp [Instr.loadAt, Instr.sureAddr, loadVar, hT.agg ht, ha, hT.sz ht, hc]
      · rename_i ha
        obtain ⟨v, hr, k⟩ := h
        refine ⟨v, k.out, fun w m => ?_⟩
        simp [Instr.loadAt, Instr.sureAddr, loadVar, hT.agg ht, ha, hr.cell m]
    · exact h.elim
theorem bound_run {y d : Nat} {code : BoundsCode} {v : Value} {n : Nat} (h : bnd (some v) d n) (hy : n ≤ y) (w : World) : (Instr.sliceBound v y code).run P w = .ok n w := by
  unfold bnd at h
  cases v <;> first | exact h.elim | skip
  rename_i k i
  simp only at h
  subst h
  simp [Instr.sliceBound, asIntOf]
  omega
theorem bounds_run {isS : Bool} {n c : Nat} {lo hi : Option Value} {l h : Nat} (hl : bnd lo 0 l) (hh : bnd hi n h) (h1 : l ≤ h) (h2 : h ≤ c) (w : World) : (Instr.sliceBounds isS n c lo hi none).run P w = .ok (l, h, c) w := by
  unfold Instr.sliceBounds
  cases lo with
  | none =>
    have e1 : l = 0 := hl
    subst e1
    cases hi with
    | none => have e2 : h = n := hh; subst e2; simp
    | some v => simp [bound_run (y := c) hh h2 w]
  | some u =>
    cases hi with
    | none => have e2 : h = n := hh; subst e2; simp [bound_run (y := h) hl h1 w]
    | some v => simp [bound_run (y := c) hh h2 w, bound_run (y := h) hl h1 w]
theorem mulS_eq (m sz : Nat) : mulS m sz = m * sz := by
  unfold mulS
  split
  · omega
  · rfl
theorem add_none (g off n : Nat) : (⟨g, off, none⟩ : Addr).add n = ⟨g, off + n, none⟩ := by
  unfold Addr.add
  split
  · subst_vars; rfl
  · rfl
theorem vSlice.sound (hT : TabOk P T) {t : TypeId} {x : Value} {lo hi mx : Option Value} (h : vSlice T t x lo hi mx K) : ∃ v, K v ∧ ∀ w, (Instr.sliceAt t x lo hi mx).run P w = .ok v w := by
  unfold vSlice at h
  split at h
  · exact h.elim
  · split at h
    · rename_i s1 s2 s3 s4 s ht
      have hu := hT.und t _ ht
      obtain ⟨l, hh, hl, hhh, h1, h2, k⟩ := h
      refine ⟨_, k, fun w => ?_⟩
      simp [Instr.sliceAt, Instr.slice, run_underlying hu, bounds_run hl hhh h1 h2]
    · rename_i e s1 s2 s3 s4 A n c ht
      have hu := hT.und t _ ht
      split at h
      · rename_i ei he
        rcases h with ⟨hh, rfl, hhh, h2, k⟩ | ⟨g, off, l, hh, rfl, hl, hhh, h1, h2, h3, k⟩ | ⟨l, hh, hl, hhh, h1, h2, k⟩
        · refine ⟨_, k, fun w => ?_⟩
          simp [Instr.sliceAt, Instr.slice, run_underlying hu, hT.sz he, bounds_run (show bnd none 0 0 from rfl) hhh (Nat.zero_le _) h2]
          intro _
          cases A <;> simp [Addr.add]
        · refine ⟨_, k, fun w => ?_⟩
          simp [Instr.sliceAt, Instr.slice, run_underlying hu, hT.sz he, bounds_run hl hhh h1 h2, add_none, mulS_eq]
          omega
        · refine ⟨_, k, fun w => ?_⟩
          simp [Instr.sliceAt, Instr.slice, run_underlying hu, hT.sz he, bounds_run hl hhh h1 h2]
      · exact h.elim
    · exact h.elim
theorem part_one (hT : TabOk P T) {t : TypeId} {ti : TI} (ht : T.ty t = some ti) (ha : ti.isAgg = false) {cs : Array Value} {off : Nat} {v : Value} (hv : cs.toList[off]? = some v) (w : World) : (part t cs off).run P w = .ok v w := by
  have hv' : cs[off]? = some v := by simpa using hv
  simp [part, hT.agg ht, ha, hv']
theorem vField.sound (hT : TabOk P T) {t : TypeId} {x : Value} {f : Nat} (h : vField T t x f K) : ∃ v, K v ∧ ∀ w, (Instr.field t x f).run P w = .ok v w := by
  unfold vField at h
  split at h
  · rename_i fs s1 s2 s3 s4 cs ht
    have hu := hT.und t _ ht
    split at h
    · exact h.elim
    · rename_i fd hfd
      have hfd' : fs[f]? = some fd := by simpa using hfd
      split at h
      · exact h.elim
      · rename_i fi hfi
        split at h
        · rename_i ha
          refine ⟨_, h, fun w => ?_⟩
          simp [Instr.field, run_underlying hu, hfd', part, asAgg, hT.agg hfi, ha, hT.sz hfi]
          apply Array.toList_inj.1
          simp [Array.toList_extract, List.extract_eq_take_drop]
        · rename_i ha
          split at h
          · rename_i v hv
            refine ⟨v, h.out, fun w => ?_⟩
            simp [Instr.field, run_underlying hu, hfd', asAgg, part_one hT hfi ha hv]
          · exact h.elim
  · exact h.elim
theorem vFieldAddr.sound (hT : TabOk P T) {t : TypeId} {x : Value} {f : Nat} (h : vFieldAddr T t x f K) : ∃ v, K v ∧ ∀ w, (Instr.fieldAt t x f).run P w = .ok v w := by
  unfold vFieldAddr at h
  split at h
  · rename_i fs s1 s2 s3 s4 g off ht
    have hu := hT.und t _ ht
    split at h
    · exact h.elim
    · rename_i fd hfd
      have hfd' : fs[f]? = some fd := by simpa using hfd
      split at h
      · exact h.elim
      · rename_i fi hfi
        split at h
        · exact h.elim
        · rename_i hz
          refine ⟨_, h, fun w => ?_⟩
          simp [Instr.fieldAt, run_underlying hu, hfd', Instr.sureAddr, fieldPlace, hT.sz hfi, add_none]
          intro e
          exact absurd e hz
  · exact h.elim
theorem vIdxAddr.sound (hT : TabOk P T) {t : TypeId} {x i : Value} (w1 : World) (m1 : MemR w0 own w1) (h : vIdxAddr T own t x i K) : ∃ v, K v ∧ ∀ w, (Instr.indexAt t x i).run P w = .ok v w := by
  unfold vIdxAddr at h
  split at h
  · rename_i e s1 s2 s3 s4 A n c kk i ht
    have hu := hT.und t _ ht
    split at h
    · rename_i ei he
      rcases h with ⟨hA, m, rfl, hm, k⟩ | ⟨j, hk, m, rfl, hm, k⟩
      · subst hA
        refine ⟨_, k, fun w => ?_⟩
        simp [Instr.indexAt, run_underlying hu, asIntOf, hT.sz he, add_none, mulS_eq]
        omega
      · have ho := (m1.ok j _ hk).2.2
        rcases ho with ⟨ho, _⟩ | ⟨g, cap, cur, ho, _⟩
        · injection ho with _ h2 _
          omega
        · injection ho with h1 h2 h3
          refine ⟨_, k g h1, fun w => ?_⟩
          subst h1
          simp [Instr.indexAt, run_underlying hu, asIntOf, hT.sz he, add_none, mulS_eq]
          omega
    · exact h.elim
  · rename_i len e s1 s2 s3 s4 g off kk i ht
    have hu := hT.und t _ ht
    split at h
    · rename_i ei he
      obtain ⟨m, rfl, hm, k⟩ := h
      refine ⟨_, k, fun w => ?_⟩
      simp [Instr.indexAt, run_underlying hu, asIntOf, Instr.sureAddr, hT.sz he, add_none, mulS_eq]
      omega
    · exact h.elim
  · exact h.elim
theorem vIndex.sound (hT : TabOk P T) {t : TypeId} {x i : Value} (h : vIndex T t x i K) : ∃ v, K v ∧ ∀ w, (Instr.index t x i).run P w = .ok v w := by
  unfold vIndex at h
  split at h
  · rename_i s1 s2 s3 s4 s kk i ht
    have hu := hT.und t _ ht
    obtain ⟨m, rfl, hm, k⟩ := h
    refine ⟨_, k, fun w => ?_⟩
    simp [Instr.index, run_underlying hu, asIntOf, ByteArray.getElem?_lt' s m hm]
  · rename_i len e s1 s2 s3 s4 cs kk i ht
    have hu := hT.und t _ ht
    split at h
    · rename_i ei he
      split at h
      · rename_i ha hs
        obtain ⟨m, rfl, hm, v, hv, k⟩ := h
        refine ⟨v, k.out, fun w => ?_⟩
        have := part_one (P := P) hT he ha (cs := cs) (off := m) hv w
        simp [Instr.index, run_underlying hu, asIntOf, hm, hT.sz he, hs, this]
      · exact h.elim
    · exact h.elim
  · exact h.elim
theorem vExtract.sound {x : Value} {i : Nat} (h : vExtract x i K) : ∃ v, K v ∧ ∀ w, (Instr.extract x i).run P w = .ok v w := by
  unfold vExtract at h
  split at h
  · rename_i vs
    split at h
    · rename_i v hv
      have hv' : vs[i]? = some v := by simpa using hv
      exact ⟨v, h.out, fun w => by simp [Instr.extract, hv']⟩
    · exact h.elim
  · exact h.elim
theorem vBuild.sound (hT : TabOk P T) {t : TypeId} {parts : Array (Nat × Value)} (h : vBuild T t parts.toList K) : ∃ v, K v ∧ ∀ w, (Instr.build t parts).run P w = .ok v w := by
  unfold vBuild at h
  split at h
  · exact h.elim
  · rename_i ti ht
    have hu := hT.und t _ ht
    obtain ⟨i, z, h1, h2, h3, h4, h5⟩ := hT.info t _ ht
    split at h
    · rename_i fs hd
      split at h
      · rename_i cs hf
        refine ⟨_, h, fun w => run_build w t parts _ ?_⟩
        have := fillL.sound _ _ _ hf
        rw [← h5] at this
        rw [hd] at hu
        simp [Program.built, h1, hu, h4, hT.places t ti fs ht hd, this]
      · exact h.elim
    · rename_i n e hd
      split at h
      · rename_i ei he
        obtain ⟨i', z', h1', h2', _⟩ := hT.info e _ he
        split at h
        · rename_i cs hf
          refine ⟨_, h, fun w => run_build w t parts _ ?_⟩
          have := fillL.sound _ _ _ hf
          rw [← h5] at this
          rw [hd] at hu
          simp [Program.built, h1, hu, h4, h1', h2', this]
        · exact h.elim
      · exact h.elim
    · exact h.elim
theorem vLen.sound (hT : TabOk P T) {ts : Array TypeId} {xs : Array Value} {ty : TypeId} (h : vLen T ts.toList xs.toList K) : ∃ v, K v ∧ ∀ w, (Builtin.len_ ts ty xs).run P w = .ok v w := by
  obtain ⟨ts⟩ := ts
  obtain ⟨xs⟩ := xs
  unfold vLen at h
  split at h
  · rename_i t x e1 e2
    simp only at e1 e2
    subst e1 e2
    split at h
    · rename_i s1 s2 s3 s4 s ht
      exact ⟨_, h, fun w => by simp [Builtin.len_, run_underlying (hT.und t _ ht), goInt]⟩
    · rename_i e s1 s2 s3 s4 A n c ht
      exact ⟨_, h, fun w => by simp [Builtin.len_, run_underlying (hT.und t _ ht), goInt]⟩
    · rename_i n e s1 s2 s3 s4 ht
      exact ⟨_, h, fun w => by simp [Builtin.len_, run_underlying (hT.und t _ ht), goInt]⟩
    · exact h.elim
  · exact h.elim
theorem vMin.sound {ts : Array TypeId} {xs : Array Value} {ty : TypeId} (h : vMin xs.toList K) : ∃ v, K v ∧ ∀ w, (Builtin.min_ ts ty xs).run P w = .ok v w := by
  obtain ⟨xs⟩ := xs
  unfold vMin at h
  split at h
  · rename_i a b e
    simp only at e
    subst e
    exact ⟨_, h, fun w => run_min_int2 w ts ty _ _ a b⟩
  · exact h.elim
theorem vMax.sound {ts : Array TypeId} {xs : Array Value} {ty : TypeId} (h : vMax xs.toList K) : ∃ v, K v ∧ ∀ w, (Builtin.max_ ts ty xs).run P w = .ok v w := by
  obtain ⟨xs⟩ := xs
  unfold vMax at h
  split at h
  · rename_i a b e
    simp only at e
    subst e
    exact ⟨_, h, fun w => run_max_int2 w ts ty _ _ a b⟩
  · exact h.elim
end
end Go.Proofs.YtadjhkehfklmnaaGreatDoor
