/-
  A small calculus of verification conditions: what a call owns in memory, what may be read, and the steps that keep it so. No program in sight.
  Conditions: none beyond each statement's own premises.
-/
import Derived.Laws.StructEq
import Derived.Lib.ConvBytes
import Derived.WalkKit
import Derived.ProofKit
import Derived.Below
import Derived.Maps.AppendAt
import Derived.Orders
import Derived.OrdersHeld
import Derived.Test.YtadjhkehfklmnaaDoorBase
namespace Go.Proofs.YtadjhkehfklmnaaDoor
set_option linter.unusedSimpArgs false
set_option linter.unusedVariables false
open Go.RowKit

/-- A thing in memory that the running call owns: a block known whole, or a row that grows. -/
inductive Own where
  | blk (g : Nat) (ty : TypeId) (cs : List Value)
  | row (v : Value) (ty : TypeId) (size n : Nat) (xs : List Value)
  | txt (g : Nat) (ty : TypeId) (cs : List Value)
  | gone
/-- The frame's slots, and what is owned. -/
structure St where
  fr : List Value
  own : List Own
/-- The world in which the call began, and which of its blocks are lent to the call: it may write to them. -/
structure Base where
  w : World
  lent : Nat → Prop
def Base.of (w : World) : Base := ⟨w, fun _ => False⟩
def Base.mine (w0 : Base) (g : Nat) : Prop := w0.w.heap.size ≤ g ∨ w0.lent g
structure Keeps (w0 : Base) (w : World) : Prop where
  os : w.os = w0.w.os
  tape : w.tape = w0.w.tape
  output : w.output = w0.w.output
  size : w0.w.heap.size ≤ w.heap.size
  block : ∀ b, b < w0.w.heap.size → ¬ w0.lent b → w.heap[b]? = w0.w.heap[b]?
def Own.block : Own → Option Nat
  | .blk g _ _ => some g
  | .row v _ _ _ _ => v.ownBlock
  | .txt g _ _ => some g
  | .gone => none
def Own.ok (w0 : Base) (w : World) : Own → Prop
  | .blk g ty cs => w0.mine g ∧ w.heap[g]? = some (.cells cs.toArray ty (0, 0))
  | .row v ty size n xs => (∀ g, v.ownBlock = some g → w0.mine g) ∧ w.ownsRow 0 ty size v n xs
  | .txt g ty cs => w0.mine g ∧ ∃ cur : Array Value, w.heap[g]? = some (.cells cur ty (cur.size, cur.size + 1)) ∧ cs.length ≤ cur.size ∧ cur.toList.take cs.length = cs
  | .gone => True
structure MemR (w0 : Base) (own : List Own) (w : World) : Prop where
  keeps : Keeps w0 w
  ok : ∀ (k : Nat) o, own[k]? = some o → o.ok w0 w
structure Mem (w0 : Base) (own : List Own) (w : World) : Prop extends MemR w0 own w where
  sep : ∀ (k k' : Nat) o o' g, k ≠ k' → own[k]? = some o → own[k']? = some o' → o.block = some g → o'.block ≠ some g

section
variable {w0 : Base} {w w' : World} {own : List Own}
theorem Keeps.refl (w0 : Base) : Keeps w0 w0.w := ⟨rfl, rfl, rfl, Nat.le_refl _, fun _ _ _ => rfl⟩
theorem Keeps.step (h : Keeps w0 w) (hos : w'.os = w.os) (ht : w'.tape = w.tape) (ho : w'.output = w.output) (hs : w.heap.size ≤ w'.heap.size) (hb : ∀ b, b < w0.w.heap.size → ¬ w0.lent b → w'.heap[b]? = w.heap[b]?) : Keeps w0 w' :=
  ⟨hos.trans h.os, ht.trans h.tape, ho.trans h.output, Nat.le_trans h.size hs, fun b h1 h2 => (hb b h1 h2).trans (h.block b h1 h2)⟩
theorem Keeps.below {w1 w : World} (h : Keeps (Base.of w1) w) : Below w1.heap.size w1 w := ⟨h.os, h.tape, h.output, h.size, fun b hb => h.block b hb (fun x => x)⟩
theorem Own.ok.lt {o : Own} (h : o.ok w0 w) : ∀ g, o.block = some g → w0.mine g ∧ g < w.heap.size := by
  intro g hg
  cases o with
  | blk g' ty cs =>
    simp only [Own.block, Option.some.injEq] at hg
    subst hg
    exact ⟨h.1, (Array.getElem?_eq_some_iff.1 h.2).1⟩
  | row v ty size n xs => exact ⟨h.1 g hg, (World.ownsRow.lt h.2 g hg).2⟩
  | txt g' ty cs =>
    simp only [Own.block, Option.some.injEq] at hg
    subst hg
    obtain ⟨h1, cur, h2, _⟩ := h
    exact ⟨h1, (Array.getElem?_eq_some_iff.1 h2).1⟩
  | gone => cases hg
theorem Own.ok.keep {o : Own} (h : o.ok w0 w) (hk : ∀ g, o.block = some g → w'.heap[g]? = w.heap[g]?) : o.ok w0 w' := by
  cases o with
  | blk g ty cs => exact ⟨h.1, (hk g rfl).trans h.2⟩
  | row v ty size n xs =>
    obtain ⟨h1, h2, h3⟩ := h
    refine ⟨h1, h2, ?_⟩
    rcases h3 with hn | ⟨g, cap, cur, rfl, hb, hg, r⟩
    · exact .inl hn
    · exact .inr ⟨g, cap, cur, rfl, hb, (hk g rfl).trans hg, r⟩
  | txt g ty cs =>
    obtain ⟨h1, cur, h2, h3⟩ := h
    exact ⟨h1, cur, (hk g rfl).trans h2, h3⟩
  | gone => trivial
theorem Mem.init (w0 : Base) : Mem w0 [] w0.w := ⟨⟨Keeps.refl _, fun k o h => by simp at h⟩, fun k k' o o' g _ h => by simp at h⟩
theorem Mem.grow (h : Mem w0 own w) (hb : Below w.heap.size w w') : Mem w0 own w' :=
  ⟨⟨h.keeps.step hb.os hb.tape hb.output hb.size fun b h1 _ => hb.block b (Nat.lt_of_lt_of_le h1 h.keeps.size), fun k o ho => (h.ok k o ho).keep fun g hg => hb.block g ((h.ok k o ho).lt g hg).2⟩, h.sep⟩
theorem Mem.drew (h : Mem w0 own w) : Mem w0 own { w with drawn := w.drawn + 1 } := h.grow ⟨rfl, rfl, rfl, Nat.le_refl _, fun _ _ => rfl⟩
theorem Mem.ge (h : Mem w0 own w) : w0.w.heap.size ≤ w.heap.size := h.keeps.size
theorem Mem.push (h : Mem w0 own w) {o : Own} (ho : o.ok w0 w) (hs : ∀ (k : Nat) o' g, own[k]? = some o' → o'.block = some g → o.block ≠ some g) : Mem w0 (own ++ [o]) w := by
  refine ⟨⟨h.keeps, fun k o1 h1 => ?_⟩, fun k k' o1 o2 g hne h1 h2 hg hg2 => ?_⟩
  · rw [List.getElem?_append] at h1
    split at h1
    · exact h.ok k o1 h1
    · rw [List.getElem?_singleton] at h1
      split at h1
      · cases h1; exact ho
      · cases h1
  · rw [List.getElem?_append] at h1 h2
    split at h1
    · split at h2
      · exact h.sep k k' o1 o2 g hne h1 h2 hg hg2
      · rw [List.getElem?_singleton] at h2
        split at h2
        · cases h2; exact hs k o1 g h1 hg hg2
        · cases h2
    · rw [List.getElem?_singleton] at h1
      split at h1
      · cases h1
        split at h2
        · exact hs k' o2 g h2 hg2 hg
        · rw [List.getElem?_singleton] at h2
          split at h2
          · omega
          · cases h2
      · cases h1
theorem Mem.alloc (h : Mem w0 own w) (ty : TypeId) (cs : List Value) : Mem w0 (own ++ [.blk w.heap.size ty cs]) (w.alloc (.cells cs.toArray ty)) := by
  refine (h.grow (below_alloc (Below.refl _ _) _)).push ⟨.inl h.ge, heap_alloc_new w _⟩ ?_
  intro k o' g hk hg hg2
  have := ((h.ok k o' hk).lt g hg).2
  simp only [Own.block, Option.some.injEq] at hg2
  omega
theorem Mem.allocRow (h : Mem w0 own w) (ty : TypeId) (size : Nat) : Mem w0 (own ++ [.row (.slice (some ⟨w.heap.size, 0, none⟩) 0 0) ty size 0 []]) (w.alloc (.cells #[] ty)) := by
  refine (h.grow (below_alloc (Below.refl _ _) _)).push ⟨fun g hg => .inl (by simp only [Value.ownBlock, Option.some.injEq] at hg; rw [← hg]; exact h.ge), World.ownsRow_made w #[] 0 (Nat.zero_le _) (by unfold maxLen; omega) (by simp)⟩ ?_
  intro k o' g hk hg hg2
  have := ((h.ok k o' hk).lt g hg).2
  simp only [Own.block, Value.ownBlock, Option.some.injEq] at hg2
  omega
theorem Mem.pushNil (h : Mem w0 own w) (ty : TypeId) (size : Nat) : Mem w0 (own ++ [.row (.slice none 0 0) ty size 0 []]) w :=
  h.push ⟨fun g hg => by simp [Value.ownBlock] at hg, World.ownsRow_nil w _ _ _⟩ (fun k o' g _ _ h2 => by simp [Own.block, Value.ownBlock] at h2)
/-- One owned thing turns into another, whose block is the same or new; all else stays. -/
theorem Mem.turn {k : Nat} {o o' : Own} (h : Mem w0 own w) (hk : own[k]? = some o) (hb : Keeps w0 w') (hok : o'.ok w0 w')
    (hkeep : ∀ g, o.block ≠ some g → g < w.heap.size → w'.heap[g]? = w.heap[g]?) (hblk : ∀ g, o'.block = some g → o.block = some g ∨ w.heap.size ≤ g) : Mem w0 (own.set k o') w' := by
  have hlt : k < own.length := by
    rcases Nat.lt_or_ge k own.length with h1 | h1
    · exact h1
    · rw [List.getElem?_eq_none h1] at hk; cases hk
  refine ⟨⟨hb, fun j o1 h1 => ?_⟩, fun j j' o1 o2 g hne h1 h2 hg hg2 => ?_⟩
  · rw [List.getElem?_set] at h1
    split at h1
    · cases h1; exact hok
    · refine (h.ok j o1 h1).keep fun g hg => hkeep g (fun e => h.sep k j o o1 g ‹_› hk h1 e hg) ((h.ok j o1 h1).lt g hg).2
  · rw [List.getElem?_set] at h1 h2
    split at h1
    · cases h1
      rw [if_neg (by omega)] at h2
      rcases hblk g hg with e | e
      · exact h.sep k j' o o2 g (by omega) hk h2 e hg2
      · have := ((h.ok j' o2 h2).lt g hg2).2; omega
    · split at h2
      · cases h2
        rcases hblk g hg2 with e | e
        · exact h.sep k j o o1 g (by omega) hk h1 e hg
        · have := ((h.ok j o1 h1).lt g hg).2; omega
      · exact h.sep j j' o1 o2 g hne h1 h2 hg hg2
theorem keeps_set (h : Keeps w0 w) {p : Addr} (hp : w0.mine p.block) (v : Value) : Keeps w0 (w.setCell p v) :=
  h.step rfl rfl rfl (by simp [World.setCell]) fun b h1 h2 => Below.heap_setCell w p v b fun e => by
    subst e
    rcases hp with hp | hp
    · omega
    · exact h2 hp
theorem Mem.set (h : Mem w0 own w) {k g : Nat} {ty : TypeId} {cs : List Value} (hk : own[k]? = some (.blk g ty cs)) (i : Nat) (v : Value) :
    Mem w0 (own.set k (.blk g ty (cs.set i v))) (w.setCell ⟨g, i, none⟩ v) := by
  have h0 := h.ok k _ hk
  refine h.turn hk (keeps_set h.keeps h0.1 v) ⟨h0.1, ?_⟩ (fun b hb hlt => Below.heap_setCell w _ v b (fun e => hb (by simp only [Own.block]; rw [e]))) (fun b hb => .inl hb)
  rw [heap_setCell_same w g i _ ty v h0.2, List.setIfInBounds_toArray]
theorem Mem.setRow (h : Mem w0 own w) {k g n c : Nat} {ty : TypeId} {size n' : Nat} {xs : List Value} (hk : own[k]? = some (.row (.slice (some ⟨g, 0, none⟩) n c) ty size n' xs)) (i : Nat) (hi : i < xs.length) (v : Value) :
    Mem w0 (own.set k (.row (.slice (some ⟨g, 0, none⟩) n c) ty size n' (xs.set i v))) (w.setCell ⟨g, i, none⟩ v) := by
  have h0 := h.ok k _ hk
  obtain ⟨h00, h1, h2⟩ := h0
  rcases h2 with ⟨h2, _⟩ | ⟨g', cap, cur, h2, hb, hg, hn, hm, hs, ht⟩
  · cases h2
  · injection h2 with h3 h4 h5
    injection h3 with h3
    injection h3 with h3
    subst h3 h4 h5
    refine h.turn hk (keeps_set h.keeps (h00 g rfl) v) ⟨h00, by simpa using h1, .inr ⟨g, c, cur.setIfInBounds i v, rfl, hb, heap_setCell_same w g i _ ty v hg, hn, hm, by simpa using hs, ?_⟩⟩ (fun b hb hlt => Below.heap_setCell w _ v b (fun e => hb (by simp only [Own.block, Value.ownBlock]; rw [e]))) (fun b hb => .inl hb)
    rw [← ht]
    rw [Array.toList_setIfInBounds, List.take_set]
theorem Mem.newTxt (h : Mem w0 own w) (ty : TypeId) (s : ByteArray) : Mem w0 (own ++ [.txt w.heap.size ty (s.data.toList.map fun b => .int .u8 (b.toNat : Int))]) (Lib.bytesWorld w ty s) := by
  have m1 : Mem w0 own (Lib.bytesWorld w ty s) := h.grow (show Below w.heap.size w (Lib.bytesWorld w ty s) from ⟨rfl, rfl, rfl, by rw [Lib.bytesWorld_size]; omega, fun b hb => Lib.bytesWorld_at_old w ty s b hb⟩)
  refine m1.push (o := .txt w.heap.size ty (s.data.toList.map fun b => .int .u8 (b.toNat : Int))) ⟨.inl h.ge, Lib.bytesCells w ty s, Lib.bytesWorld_at_new w ty s, by simp [Lib.bytesCells], ?_⟩ ?_
  · simp [Lib.bytesCells]
  · intro k o' g hk hg hg2
    have := ((h.ok k o' hk).lt g hg).2
    simp only [Own.block, Option.some.injEq] at hg2
    omega
theorem Mem.setTxt (h : Mem w0 own w) {k g : Nat} {ty : TypeId} {cs : List Value} (hk : own[k]? = some (.txt g ty cs)) (i : Nat) (v : Value) :
    Mem w0 (own.set k (.txt g ty (cs.set i v))) (w.setCell ⟨g, i, none⟩ v) := by
  obtain ⟨h0, cur, h1, h2, h3⟩ := h.ok k _ hk
  refine h.turn hk (keeps_set h.keeps h0 v) ⟨h0, cur.setIfInBounds i v, ?_, by simpa using h2, ?_⟩ (fun b hb hlt => Below.heap_setCell w _ v b (fun e => hb (by simp only [Own.block]; rw [e]))) (fun b hb => .inl hb)
  · rw [setCell_eq_setRow w g i cur ty _ v h1, Array.size_setIfInBounds]
    exact setRow_heap w g cur _ ty _ h1
  · rw [List.length_set, Array.toList_setIfInBounds, List.take_set, h3]
theorem Mem.toR (h : Mem w0 own w) (fix : List Nat) : MemR w0 (fix.map fun k => own.getD k .gone) w := by
  refine ⟨h.keeps, fun j o hj => ?_⟩
  rw [List.getElem?_map] at hj
  cases e : fix[j]? with
  | none => rw [e] at hj; cases hj
  | some k =>
    rw [e] at hj
    simp only [Option.map_some, Option.some.injEq] at hj
    subst hj
    rw [List.getD_eq_getElem?_getD]
    cases e2 : own[k]? with
    | none => trivial
    | some o2 => exact h.ok k o2 e2
theorem Mem.sel (h : Mem w0 own w) {ks : List Nat} (hn : ks.Nodup) : Mem w0 (ks.map fun k => own.getD k .gone) w := by
  refine ⟨h.toR ks, fun j j' o o' g hne h1 h2 hg hg2 => ?_⟩
  rw [List.getElem?_map] at h1 h2
  cases e : ks[j]? with
  | none => rw [e] at h1; cases h1
  | some k =>
    cases e' : ks[j']? with
    | none => rw [e'] at h2; cases h2
    | some k' =>
      rw [e] at h1
      rw [e'] at h2
      simp only [Option.map_some, Option.some.injEq] at h1 h2
      subst h1 h2
      rw [List.getD_eq_getElem?_getD] at hg hg2
      cases e2 : own[k]? with
      | none => rw [e2] at hg; cases hg
      | some o2 =>
        cases e3 : own[k']? with
        | none => rw [e3] at hg2; cases hg2
        | some o3 =>
          rw [e2] at hg
          rw [e3] at hg2
          refine h.sep k k' o2 o3 g (fun x => hne ?_) e2 e3 hg hg2
          subst x
          have l1 : j < ks.length := by
            rcases Nat.lt_or_ge j ks.length with hh | hh
            · exact hh
            · rw [List.getElem?_eq_none hh] at e; cases e
          exact (List.getElem?_inj l1 hn).1 (by rw [e, e'])
end

/-! ### What may be read -/
inductive Rd (w0 : Base) (own : List Own) (g off : Nat) (v : Value) : Prop
  | own (k : Nat) {ty : TypeId} {cs : List Value} (hk : own[k]? = some (.blk g ty cs)) (hv : cs[off]? = some v) : Rd w0 own g off v
  | row (k : Nat) {n' c : Nat} {ty : TypeId} {size n : Nat} {xs : List Value} (hk : own[k]? = some (.row (.slice (some ⟨g, 0, none⟩) n' c) ty size n xs)) (hv : xs[off]? = some v) : Rd w0 own g off v
  | txt (k : Nat) {ty : TypeId} {cs : List Value} (hk : own[k]? = some (.txt g ty cs)) (hv : cs[off]? = some v) : Rd w0 own g off v
  | old (hg : g < w0.w.heap.size) (hl : ¬ w0.lent g) (hv : w0.w.cell? ⟨g, off, none⟩ = some v) : Rd w0 own g off v
def Rds (w0 : Base) (own : List Own) (g : Nat) : Nat → List Value → Prop
  | _, [] => True
  | off, v :: vs => Rd w0 own g off v ∧ Rds w0 own g (off + 1) vs
section
variable {w0 : Base} {w w' : World} {own : List Own} {g off : Nat} {v : Value}
theorem Rd.cell (h : Rd w0 own g off v) (m : MemR w0 own w) : w.cell? ⟨g, off, none⟩ = some v := by
  cases h with
  | own k hk hv =>
    rw [cell_of_row w g off _ _ _ (m.ok k _ hk).2]
    simpa using hv
  | row k hk hv =>
    have := (m.ok k _ hk).2.cells (g := g) rfl off v hv
    rwa [show (⟨g, 0, none⟩ : Addr).add off = ⟨g, off, none⟩ from by unfold Addr.add; split <;> simp_all] at this
  | txt k hk hv =>
    obtain ⟨_, cur, h1, h2, h3⟩ := m.ok k _ hk
    rw [cell_of_row w g off _ _ _ h1]
    rw [← h3] at hv
    rw [List.getElem?_take] at hv
    split at hv
    · simpa using hv
    · cases hv
  | old hg hl hv => exact (World.cell?_of_block (a := ⟨g, off, none⟩) (m.keeps.block g hg hl)).trans hv
theorem Rds.at_ : ∀ (vs : List Value) (off : Nat), Rds w0 own g off vs → MemR w0 own w → ∀ (j : Nat) u, vs[j]? = some u → w.cell? ((⟨g, off, none⟩ : Addr).add j) = some u
  | [], _, _, _, _, _, h => by simp at h
  | v :: vs, off, h, m, 0, u, hu => by
    simp at hu
    subst hu
    simpa [Addr.add] using h.1.cell m
  | v :: vs, off, h, m, j + 1, u, hu => by
    have := Rds.at_ vs (off + 1) h.2 m j u (by simpa using hu)
    have e : (⟨g, off + 1, none⟩ : Addr).add j = (⟨g, off, none⟩ : Addr).add (j + 1) := by
      unfold Addr.add
      by_cases h0 : j = 0
      · subst h0; simp
      · simp [h0]; omega
    rwa [e] at this
end

/-! ### The table of types that the conditions look at -/
structure TI where
  desc : TypeDesc
  size : Nat
  bytes : Nat
  zero : List Value
  places : List (Nat × Nat) := []
structure Tab where
  ty : Nat → Option TI
  fn : Nat → Bool
  eq : Nat → Bool := fun _ => false
structure TabOk (P : Program) (T : Tab) : Prop where
  und : ∀ t ti, T.ty t = some ti → P.underlying t = some ti.desc
  info : ∀ t ti, T.ty t = some ti → ∃ i z, P.info? t = some i ∧ i.size = ti.size ∧ i.bytes = ti.bytes ∧ i.zero = some z ∧ z.cells = ti.zero.toArray
  zl : ∀ t ti, T.ty t = some ti → ti.zero.length = ti.size
  places : ∀ t ti fs, T.ty t = some ti → ti.desc = .struct fs → fs.toList.mapM (fun f => (P.info? f.type).map fun i => (f.offset, i.size)) = some ti.places
  fns : ∀ f, T.fn f = true → ∃ fn, P.funcs[f]? = some fn ∧ fn.body.isNone = false ∧ (fn.name == "runtime.NumGoroutine") = false
  mixed : P.follows .mixedOrders = true
  eqs : ∀ t, T.eq t = true → P.eqGuardType P.depth t = false ∧ P.stoodInHeld t = false ∧ ((P.fieldsOf t).toList.all fun f => f.name != "_") = true
def TI.isAgg (ti : TI) : Bool := match ti.desc with | .struct _ => true | .array _ _ => true | _ => false
section
variable {P : Program} {T : Tab} {t : TypeId} {ti : TI}
theorem TabOk.agg (h : TabOk P T) (ht : T.ty t = some ti) (w : World) : (isAgg t).run P w = .ok ti.isAgg w := by
  unfold isAgg
  rw [Sem.run_bind, run_underlying (h.und t ti ht)]
  unfold TI.isAgg
  cases ti.desc <;> rfl
theorem TabOk.sz (h : TabOk P T) (ht : T.ty t = some ti) (w : World) : (sizeOf t).run P w = .ok ti.size w := by
  obtain ⟨i, z, h1, h2, _⟩ := h.info t ti ht
  simp [sizeOf, typeInfo, h1, h2]
theorem TabOk.zv (h : TabOk P T) (ht : T.ty t = some ti) (w : World) : ∃ z, z.cells = ti.zero.toArray ∧ (zeroValue t).run P w = .ok z w := by
  obtain ⟨i, z, h1, _, _, h4, h5⟩ := h.info t ti ht
  exact ⟨z, h5, by simp [zeroValue, typeInfo, h1, h4]⟩
end
end Go.Proofs.YtadjhkehfklmnaaDoor
