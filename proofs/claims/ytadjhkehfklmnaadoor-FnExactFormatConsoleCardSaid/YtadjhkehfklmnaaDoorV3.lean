/-
  Verification conditions of the operations that look at memory, and of all that only look, together.
  Conditions: none beyond each statement's own premises.
-/
import Derived.Test.YtadjhkehfklmnaaDoorV2
import Derived.Laws.Tables
import Derived.Laws.Cells
import Derived.Laws.Slices
import Derived.Laws.Strings2
import Derived.Laws.Strings3
namespace Go.Proofs.YtadjhkehfklmnaaDoor
set_option linter.unusedSimpArgs false
set_option linter.unusedVariables false
open Go.RowKit

def setRange : List Value → Nat → List Value → List Value
  | cs, _, [] => cs
  | cs, off, x :: xs => setRange (cs.set off x) (off + 1) xs
def fillL (place : Nat → Option (Nat × Nat)) : List Value → List (Nat × Value) → Option (List Value)
  | cs, [] => some cs
  | cs, (i, v) :: r =>
    match place i with
    | none => none
    | some (off, size) =>
      match Nat.beq v.cells.toList.length size, Nat.ble (off + size) cs.length with
      | true, true => fillL place (setRange cs off v.cells.toList) r
      | _, _ => none
theorem fold_set (off : Nat) : ∀ (xs : List Value) (k : Nat) (cs : List Value), (xs.zipIdx k).foldl (fun (cs : Array Value) (x : Value × Nat) => cs.setIfInBounds (off + x.2) x.1) cs.toArray = (setRange cs (off + k) xs).toArray
  | [], _, _ => rfl
  | x :: xs, k, cs => by
    simp only [List.zipIdx_cons, List.foldl_cons, List.setIfInBounds_toArray]
    rw [fold_set off xs (k + 1)]
    rfl
theorem setRange_length : ∀ (xs : List Value) (off : Nat) (cs : List Value), (setRange cs off xs).length = cs.length
  | [], _, _ => rfl
  | x :: xs, off, cs => by rw [setRange, setRange_length, List.length_set]
theorem fillL.sound {place : Nat → Option (Nat × Nat)} : ∀ (parts : List (Nat × Value)) (cs out : List Value), fillL place cs parts = some out → Instr.fill place cs.toArray parts = some out.toArray
  | [], cs, out, h => by
    simp only [fillL, Option.some.injEq] at h
    rw [h]
    rfl
  | (i, v) :: r, cs, out, h => by
    unfold fillL at h
    split at h
    · cases h
    · rename_i off size hp
      split at h
      · rename_i h1 h2
        have e1 : v.cells.size = size := by simpa using Nat.eq_of_beq_eq_true h1
        have e2 : off + size ≤ cs.length := Nat.le_of_ble_eq_true h2
        unfold Instr.fill
        simp only [hp]
        rw [if_neg (by simp; omega)]
        have e3 : (v.cells.zipIdx.foldl (fun cs (x : Value × Nat) => cs.setIfInBounds (off + x.2) x.1) cs.toArray) = (setRange cs off v.cells.toList).toArray := by
          rw [← Array.foldl_toList, Array.toList_zipIdx]
          exact fold_set off _ 0 cs
        have := fillL.sound r _ out h
        rw [← e3] at this
        exact this
      · cases h

inductive VLoad1 (w0 : Base) (own : List Own) (g off : Nat) (K : Value → Prop) : Prop
  | mk (v : Value) (h : Rd w0 own g off v) (k : splitB v K) : VLoad1 w0 own g off K
inductive VLoadN (w0 : Base) (own : List Own) (g off n : Nat) (K : Value → Prop) : Prop
  | mk (vs : List Value) (hl : vs.length = n) (h : Rds w0 own g off vs) (k : K (.agg vs.toArray)) : VLoadN w0 own g off n K
  | own (j : Nat) {ty : TypeId} {cs : List Value} (hk : own[j]? = some (.blk g ty cs)) (hl : off + n ≤ cs.length) (k : K (.agg ((cs.drop off).take n).toArray)) : VLoadN w0 own g off n K
def vLoad (T : Tab) (w0 : Base) (own : List Own) (t : TypeId) (p : Value) (K : Value → Prop) : Prop :=
  match T.ty t with
  | none => False
  | some ti => match p with
    | .pointer (some ⟨g, off, none⟩) => match ti.isAgg with
      | true => VLoadN w0 own g off ti.size K
      | false => VLoad1 w0 own g off K
    | _ => False
def bnd (o : Option Value) (d n : Nat) : Prop :=
  match o with
  | none => n = d
  | some (.int _ i) => i = (n : Int)
  | some _ => False
def addA (A : Option Addr) (n : Nat) : Option Addr :=
  match A with
  | some ⟨g, off, none⟩ => some ⟨g, off + n, none⟩
  | A => A
def mulS (m sz : Nat) : Nat :=
  match sz with
  | 1 => m
  | sz => m * sz
inductive VSub (s : ByteArray) (lo hi : Option Value) (K : Value → Prop) : Prop
  | mk (l h : Nat) (hl : bnd lo 0 l) (hh : bnd hi s.size h) (h1 : l ≤ h) (h2 : h ≤ s.size) (k : K (.string (s.extract l h))) : VSub s lo hi K
inductive VCut (A : Option Addr) (n c sz : Nat) (lo hi : Option Value) (K : Value → Prop) : Prop
  | pre (h : Nat) (hl : lo = none) (hh : bnd hi n h) (h2 : h ≤ c) (k : K (.slice A h c)) : VCut A n c sz lo hi K
  | lt (g off l h : Nat) (hA : A = some ⟨g, off, none⟩) (hl : bnd lo 0 l) (hh : bnd hi n h) (h1 : l ≤ h) (h2 : h ≤ c) (h3 : l < c) (k : K (.slice (some ⟨g, off + mulS l sz, none⟩) (h - l) (c - l))) : VCut A n c sz lo hi K
  | gen (l h : Nat) (hl : bnd lo 0 l) (hh : bnd hi n h) (h1 : l ≤ h) (h2 : h ≤ c) (k : K (.slice (if c = l then A else A.map (·.add (l * sz))) (h - l) (c - l))) : VCut A n c sz lo hi K
def vSlice (T : Tab) (t : TypeId) (x : Value) (lo hi mx : Option Value) (K : Value → Prop) : Prop :=
  match mx with
  | some _ => False
  | none => match T.ty t, x with
    | some ⟨.string, _, _, _, _⟩, .string s => VSub s lo hi K
    | some ⟨.slice e, _, _, _, _⟩, .slice A n c => match T.ty e with
      | some ei => VCut A n c ei.size lo hi K
      | none => False
    | _, _ => False
def vField (T : Tab) (t : TypeId) (x : Value) (f : Nat) (K : Value → Prop) : Prop :=
  match T.ty t, x with
  | some ⟨.struct fs, _, _, _, _⟩, .agg cs => match fs.toList[f]? with
    | none => False
    | some fd => match T.ty fd.type with
      | none => False
      | some fi => match fi.isAgg with
        | true => K (.agg ((cs.toList.drop fd.offset).take fi.size).toArray)
        | false => match cs.toList[fd.offset]? with
          | some v => splitB v K
          | none => False
  | _, _ => False
def vFieldAddr (T : Tab) (t : TypeId) (x : Value) (f : Nat) (K : Value → Prop) : Prop :=
  match T.ty t, x with
  | some ⟨.struct fs, _, _, _, _⟩, .pointer (some ⟨g, off, none⟩) => match fs.toList[f]? with
    | none => False
    | some fd => match T.ty fd.type with
      | none => False
      | some fi => match fi.size with
        | 0 => False
        | _ => K (.pointer (some ⟨g, off + fd.offset, none⟩))
  | _, _ => False
inductive VIdx (own : List Own) (A : Option Addr) (n c sz : Nat) (i : Int) (K : Value → Prop) : Prop
  | at_ {g off : Nat} (hA : A = some ⟨g, off, none⟩) (m : Nat) (hi : i = (m : Int)) (hm : m < n) (k : K (.pointer (some ⟨g, off + mulS m sz, none⟩))) : VIdx own A n c sz i K
  | row (j : Nat) {ty : TypeId} {size n' : Nat} {xs : List Value} (hk : own[j]? = some (.row (.slice A n c) ty size n' xs)) (m : Nat) (hi : i = (m : Int)) (hm : m < n) (k : ∀ g, A = some ⟨g, 0, none⟩ → K (.pointer (some ⟨g, mulS m sz, none⟩))) : VIdx own A n c sz i K
inductive VIdxA (g off len sz : Nat) (i : Int) (K : Value → Prop) : Prop
  | mk (m : Nat) (hi : i = (m : Int)) (hm : m < len) (k : K (.pointer (some ⟨g, off + mulS m sz, none⟩))) : VIdxA g off len sz i K
def vIdxAddr (T : Tab) (own : List Own) (t : TypeId) (x i : Value) (K : Value → Prop) : Prop :=
  match T.ty t, x, i with
  | some ⟨.slice e, _, _, _, _⟩, .slice A n c, .int _ i => match T.ty e with
    | some ei => VIdx own A n c ei.size i K
    | none => False
  | some ⟨.array len e, _, _, _, _⟩, .pointer (some ⟨g, off, none⟩), .int _ i => match T.ty e with
    | some ei => VIdxA g off len ei.size i K
    | none => False
  | _, _, _ => False
inductive VStrIx (s : ByteArray) (i : Int) (K : Value → Prop) : Prop
  | mk (m : Nat) (hi : i = (m : Int)) (hm : m < s.size) (k : K (.int .u8 (s[m].toNat : Int))) : VStrIx s i K
inductive VAgIx (cs : List Value) (len : Nat) (i : Int) (K : Value → Prop) : Prop
  | mk (m : Nat) (hi : i = (m : Int)) (hm : m < len) (v : Value) (hv : cs[m]? = some v) (k : splitB v K) : VAgIx cs len i K
def vIndex (T : Tab) (t : TypeId) (x i : Value) (K : Value → Prop) : Prop :=
  match T.ty t, x, i with
  | some ⟨.string, _, _, _, _⟩, .string s, .int _ i => VStrIx s i K
  | some ⟨.array len e, _, _, _, _⟩, .agg cs, .int _ i => match T.ty e with
    | some ei => match ei.isAgg, ei.size with
      | false, 1 => VAgIx cs.toList len i K
      | _, _ => False
    | none => False
  | _, _, _ => False
def vExtract (x : Value) (i : Nat) (K : Value → Prop) : Prop :=
  match x with
  | .tuple vs => match vs.toList[i]? with
    | some v => splitB v K
    | none => False
  | _ => False
def vBuild (T : Tab) (t : TypeId) (parts : List (Nat × Value)) (K : Value → Prop) : Prop :=
  match T.ty t with
  | none => False
  | some ti => match ti.desc with
    | .struct _ => match fillL (fun i => ti.places[i]?) ti.zero parts with
      | some cs => K (.agg cs.toArray)
      | none => False
    | .array _ e => match T.ty e with
      | some ei => match fillL (fun i => some (i * ei.size, ei.size)) ti.zero parts with
        | some cs => K (.agg cs.toArray)
        | none => False
      | none => False
    | _ => False
def vLen (T : Tab) (ts : List TypeId) (xs : List Value) (K : Value → Prop) : Prop :=
  match ts, xs with
  | [t], [x] => match T.ty t, x with
    | some ⟨.string, _, _, _, _⟩, .string s => K (.int .i64 (s.size : Int))
    | some ⟨.slice _, _, _, _, _⟩, .slice _ n _ => K (.int .i64 (n : Int))
    | some ⟨.array n _, _, _, _, _⟩, _ => K (.int .i64 (n : Int))
    | _, _ => False
  | _, _ => False
def vMin (xs : List Value) (K : Value → Prop) : Prop :=
  match xs with
  | [.int .i64 a, .int .i64 b] => K (.int .i64 (if b < a then b else a))
  | _ => False
def vMax (xs : List Value) (K : Value → Prop) : Prop :=
  match xs with
  | [.int .i64 a, .int .i64 b] => K (.int .i64 (if a < b then b else a))
  | _ => False
inductive VBytes (w0 : Base) (own : List Own) (g off n : Nat) (K : Value → Prop) : Prop
  | mk (bs : ByteArray) (hl : bs.size = n) (h : ∀ (i : Nat) (hi : i < bs.size), Rd w0 own g (off + i) (.int .u8 (bs[i].toNat : Int))) (k : K (.string bs)) : VBytes w0 own g off n K
def vConv (T : Tab) (w0 : Base) (own : List Own) (s d : TypeId) (x : Value) (K : Value → Prop) : Prop :=
  match T.ty s, T.ty d, x with
  | some ⟨.int _, _, _, _, _⟩, some ⟨.int .i64, _, _, _, _⟩, .int _ n => VIn n (K (.int .i64 n))
  | some ⟨.int _, _, _, _, _⟩, some ⟨.int .u8, _, _, _, _⟩, .int _ n => K (.int .u8 (IntKind.u8.wrap n))
  | some ⟨.int _, _, _, _, _⟩, some ⟨.int .u64, _, _, _, _⟩, .int _ _ => VU64 18446744073709551615 K
  | some ⟨.string, _, _, _, _⟩, some ⟨.string, _, _, _, _⟩, .string s => K (.string s)
  | some ⟨.slice e, _, _, _, _⟩, some ⟨.string, _, _, _, _⟩, .slice A n _ => match T.ty e with
    | some ⟨.int .u8, _, _, _, _⟩ => match A with
      | some ⟨g, off, none⟩ => VBytes w0 own g off n K
      | none => K (.string .empty)
      | _ => False
    | _ => False
  | _, _, _ => False
section
variable {P : Program} {T : Tab} {K : Value → Prop} {w0 : Base} {own : List Own}
theorem vLoad.sound (hT : TabOk P T) {t : TypeId} {p : Value} (h : vLoad T w0 own t p K) : ∃ v, K v ∧ ∀ w, MemR w0 own w → (Instr.loadAt t p).run P w = .ok v w := by
  unfold vLoad at h
  split at h
  · exact h.elim
  · rename_i ti ht
    split at h
    · rename_i g off
      split at h
      · rename_i ha
        rcases h with ⟨vs, hl, hr, k⟩ | ⟨j, hk, hl, k⟩
        · refine ⟨_, k, fun w m => ?_⟩
          have hc := run_loadCells_list (P := P) w ⟨g, off, none⟩ vs (hr.at_ _ _ m)
          rw [hl] at hc
          simp [Instr.loadAt, Instr.sureAddr, loadVar, hT.agg ht, ha, hT.sz ht, hc]
        · rename_i ty cs
          refine ⟨_, k, fun w m => ?_⟩
          have hlen : ((cs.drop off).take ti.size).length = ti.size := by simp; omega
          have hc := run_loadCells_list (P := P) w ⟨g, off, none⟩ ((cs.drop off).take ti.size) (fun i u hu => by
            rw [List.getElem?_take] at hu
            split at hu
            · rw [List.getElem?_drop] at hu
              have := (Rd.own (w0 := w0) j hk hu).cell m
              rw [show (⟨g, off, none⟩ : Addr).add i = ⟨g, off + i, none⟩ from by unfold Addr.add; split <;> simp_all]
              exact this
            · cases hu)
          rw [hlen] at hc
          simp [Instr.loadAt, Instr.sureAddr, loadVar, hT.agg ht, ha, hT.sz ht, hc]
      · rename_i ha
        obtain ⟨v, hr, k⟩ := h
        refine ⟨v, k.out, fun w m => ?_⟩
        simp [Instr.loadAt, Instr.sureAddr, loadVar, hT.agg ht, ha, hr.cell m]
    · exact h.elim
theorem bound_run {y d : Nat} {code : BoundsCode} {v : Value} {n : Nat} (h : bnd (some v) d n) (hy : n ≤ y) (w : World) : (Instr.sliceBound v y code).run P w = .ok n w := by
  unfold bnd at h
  cases v <;> first | exact h.elim | skip
  rename_i k i
  simp only at h
  subst h
  simp [Instr.sliceBound, asIntOf]
  omega
theorem bounds_run {isS : Bool} {n c : Nat} {lo hi : Option Value} {l h : Nat} (hl : bnd lo 0 l) (hh : bnd hi n h) (h1 : l ≤ h) (h2 : h ≤ c) (w : World) : (Instr.sliceBounds isS n c lo hi none).run P w = .ok (l, h, c) w := by
  unfold Instr.sliceBounds
  cases lo with
  | none =>
    have e1 : l = 0 := hl
    subst e1
    cases hi with
    | none => have e2 : h = n := hh; subst e2; simp
    | some v => simp [bound_run (y := c) hh h2 w]
  | some u =>
    cases hi with
    | none => have e2 : h = n := hh; subst e2; simp [bound_run (y := h) hl h1 w]
    | some v => simp [bound_run (y := c) hh h2 w, bound_run (y := h) hl h1 w]
theorem mulS_eq (m sz : Nat) : mulS m sz = m * sz := by
  unfold mulS
  split
  · omega
  · rfl
theorem add_none (g off n : Nat) : (⟨g, off, none⟩ : Addr).add n = ⟨g, off + n, none⟩ := by
  unfold Addr.add
  split
  · subst_vars; rfl
  · rfl
theorem vSlice.sound (hT : TabOk P T) {t : TypeId} {x : Value} {lo hi mx : Option Value} (h : vSlice T t x lo hi mx K) : ∃ v, K v ∧ ∀ w, (Instr.sliceAt t x lo hi mx).run P w = .ok v w := by
  unfold vSlice at h
  split at h
  · exact h.elim
  · split at h
    · rename_i s1 s2 s3 s4 s ht
      have hu := hT.und t _ ht
      obtain ⟨l, hh, hl, hhh, h1, h2, k⟩ := h
      refine ⟨_, k, fun w => ?_⟩
      simp [Instr.sliceAt, Instr.slice, run_underlying hu, bounds_run hl hhh h1 h2]
    · rename_i e s1 s2 s3 s4 A n c ht
      have hu := hT.und t _ ht
      split at h
      · rename_i ei he
        rcases h with ⟨hh, rfl, hhh, h2, k⟩ | ⟨g, off, l, hh, rfl, hl, hhh, h1, h2, h3, k⟩ | ⟨l, hh, hl, hhh, h1, h2, k⟩
        · refine ⟨_, k, fun w => ?_⟩
          simp [Instr.sliceAt, Instr.slice, run_underlying hu, hT.sz he, bounds_run (show bnd none 0 0 from rfl) hhh (Nat.zero_le _) h2]
          intro _
          cases A <;> simp [Addr.add]
        · refine ⟨_, k, fun w => ?_⟩
          simp [Instr.sliceAt, Instr.slice, run_underlying hu, hT.sz he, bounds_run hl hhh h1 h2, add_none, mulS_eq]
          omega
        · refine ⟨_, k, fun w => ?_⟩
          simp [Instr.sliceAt, Instr.slice, run_underlying hu, hT.sz he, bounds_run hl hhh h1 h2]
      · exact h.elim
    · exact h.elim
theorem part_one (hT : TabOk P T) {t : TypeId} {ti : TI} (ht : T.ty t = some ti) (ha : ti.isAgg = false) {cs : Array Value} {off : Nat} {v : Value} (hv : cs.toList[off]? = some v) (w : World) : (part t cs off).run P w = .ok v w := by
  have hv' : cs[off]? = some v := by simpa using hv
  simp [part, hT.agg ht, ha, hv']
theorem vField.sound (hT : TabOk P T) {t : TypeId} {x : Value} {f : Nat} (h : vField T t x f K) : ∃ v, K v ∧ ∀ w, (Instr.field t x f).run P w = .ok v w := by
  unfold vField at h
  split at h
  · rename_i fs s1 s2 s3 s4 cs ht
    have hu := hT.und t _ ht
    split at h
    · exact h.elim
    · rename_i fd hfd
      have hfd' : fs[f]? = some fd := by simpa using hfd
      split at h
      · exact h.elim
      · rename_i fi hfi
        split at h
        · rename_i ha
          refine ⟨_, h, fun w => ?_⟩
          simp [Instr.field, run_underlying hu, hfd', part, asAgg, hT.agg hfi, ha, hT.sz hfi]
          apply Array.toList_inj.1
          simp [Array.toList_extract, List.extract_eq_take_drop]
        · rename_i ha
          split at h
          · rename_i v hv
            refine ⟨v, h.out, fun w => ?_⟩
            simp [Instr.field, run_underlying hu, hfd', asAgg, part_one hT hfi ha hv]
          · exact h.elim
  · exact h.elim
theorem vFieldAddr.sound (hT : TabOk P T) {t : TypeId} {x : Value} {f : Nat} (h : vFieldAddr T t x f K) : ∃ v, K v ∧ ∀ w, (Instr.fieldAt t x f).run P w = .ok v w := by
  unfold vFieldAddr at h
  split at h
  · rename_i fs s1 s2 s3 s4 g off ht
    have hu := hT.und t _ ht
    split at h
    · exact h.elim
    · rename_i fd hfd
      have hfd' : fs[f]? = some fd := by simpa using hfd
      split at h
      · exact h.elim
      · rename_i fi hfi
        split at h
        · exact h.elim
        · rename_i hz
          refine ⟨_, h, fun w => ?_⟩
          simp [Instr.fieldAt, run_underlying hu, hfd', Instr.sureAddr, fieldPlace, hT.sz hfi, add_none]
          intro e
          exact absurd e hz
  · exact h.elim
theorem vIdxAddr.sound (hT : TabOk P T) {t : TypeId} {x i : Value} (w1 : World) (m1 : MemR w0 own w1) (h : vIdxAddr T own t x i K) : ∃ v, K v ∧ ∀ w, (Instr.indexAt t x i).run P w = .ok v w := by
  unfold vIdxAddr at h
  split at h
  · rename_i e s1 s2 s3 s4 A n c kk i ht
    have hu := hT.und t _ ht
    split at h
    · rename_i ei he
      rcases h with ⟨hA, m, rfl, hm, k⟩ | ⟨j, hk, m, rfl, hm, k⟩
      · subst hA
        refine ⟨_, k, fun w => ?_⟩
        simp [Instr.indexAt, run_underlying hu, asIntOf, hT.sz he, add_none, mulS_eq]
        omega
      · have ho := (m1.ok j _ hk).2.2
        rcases ho with ⟨ho, _⟩ | ⟨g, cap, cur, ho, _⟩
        · injection ho with _ h2 _
          omega
        · injection ho with h1 h2 h3
          refine ⟨_, k g h1, fun w => ?_⟩
          subst h1
          simp [Instr.indexAt, run_underlying hu, asIntOf, hT.sz he, add_none, mulS_eq]
          omega
    · exact h.elim
  · rename_i len e s1 s2 s3 s4 g off kk i ht
    have hu := hT.und t _ ht
    split at h
    · rename_i ei he
      obtain ⟨m, rfl, hm, k⟩ := h
      refine ⟨_, k, fun w => ?_⟩
      simp [Instr.indexAt, run_underlying hu, asIntOf, Instr.sureAddr, hT.sz he, add_none, mulS_eq]
      omega
    · exact h.elim
  · exact h.elim
theorem vIndex.sound (hT : TabOk P T) {t : TypeId} {x i : Value} (h : vIndex T t x i K) : ∃ v, K v ∧ ∀ w, (Instr.index t x i).run P w = .ok v w := by
  unfold vIndex at h
  split at h
  · rename_i s1 s2 s3 s4 s kk i ht
    have hu := hT.und t _ ht
    obtain ⟨m, rfl, hm, k⟩ := h
    refine ⟨_, k, fun w => ?_⟩
    simp [Instr.index, run_underlying hu, asIntOf, ByteArray.getElem?_lt' s m hm]
  · rename_i len e s1 s2 s3 s4 cs kk i ht
    have hu := hT.und t _ ht
    split at h
    · rename_i ei he
      split at h
      · rename_i ha hs
        obtain ⟨m, rfl, hm, v, hv, k⟩ := h
        refine ⟨v, k.out, fun w => ?_⟩
        have := part_one (P := P) hT he ha (cs := cs) (off := m) hv w
        simp [Instr.index, run_underlying hu, asIntOf, hm, hT.sz he, hs, this]
      · exact h.elim
    · exact h.elim
  · exact h.elim
theorem vExtract.sound {x : Value} {i : Nat} (h : vExtract x i K) : ∃ v, K v ∧ ∀ w, (Instr.extract x i).run P w = .ok v w := by
  unfold vExtract at h
  split at h
  · rename_i vs
    split at h
    · rename_i v hv
      have hv' : vs[i]? = some v := by simpa using hv
      exact ⟨v, h.out, fun w => by simp [Instr.extract, hv']⟩
    · exact h.elim
  · exact h.elim
theorem vBuild.sound (hT : TabOk P T) {t : TypeId} {parts : Array (Nat × Value)} (h : vBuild T t parts.toList K) : ∃ v, K v ∧ ∀ w, (Instr.build t parts).run P w = .ok v w := by
  unfold vBuild at h
  split at h
  · exact h.elim
  · rename_i ti ht
    have hu := hT.und t _ ht
    obtain ⟨i, z, h1, h2, h3, h4, h5⟩ := hT.info t _ ht
    split at h
    · rename_i fs hd
      split at h
      · rename_i cs hf
        refine ⟨_, h, fun w => run_build w t parts _ ?_⟩
        have := fillL.sound _ _ _ hf
        rw [← h5] at this
        rw [hd] at hu
        simp [Program.built, h1, hu, h4, hT.places t ti fs ht hd, this]
      · exact h.elim
    · rename_i n e hd
      split at h
      · rename_i ei he
        obtain ⟨i', z', h1', h2', _⟩ := hT.info e _ he
        split at h
        · rename_i cs hf
          refine ⟨_, h, fun w => run_build w t parts _ ?_⟩
          have := fillL.sound _ _ _ hf
          rw [← h5] at this
          rw [hd] at hu
          simp [Program.built, h1, hu, h4, h1', h2', this]
        · exact h.elim
      · exact h.elim
    · exact h.elim
theorem vLen.sound (hT : TabOk P T) {ts : Array TypeId} {xs : Array Value} {ty : TypeId} (h : vLen T ts.toList xs.toList K) : ∃ v, K v ∧ ∀ w, (Builtin.len_ ts ty xs).run P w = .ok v w := by
  obtain ⟨ts⟩ := ts
  obtain ⟨xs⟩ := xs
  unfold vLen at h
  split at h
  · rename_i t x e1 e2
    simp only at e1 e2
    subst e1 e2
    split at h
    · rename_i s1 s2 s3 s4 s ht
      exact ⟨_, h, fun w => by simp [Builtin.len_, run_underlying (hT.und t _ ht), goInt]⟩
    · rename_i e s1 s2 s3 s4 A n c ht
      exact ⟨_, h, fun w => by simp [Builtin.len_, run_underlying (hT.und t _ ht), goInt]⟩
    · rename_i n e s1 s2 s3 s4 ht
      exact ⟨_, h, fun w => by simp [Builtin.len_, run_underlying (hT.und t _ ht), goInt]⟩
    · exact h.elim
  · exact h.elim
theorem vMin.sound {ts : Array TypeId} {xs : Array Value} {ty : TypeId} (h : vMin xs.toList K) : ∃ v, K v ∧ ∀ w, (Builtin.min_ ts ty xs).run P w = .ok v w := by
  obtain ⟨xs⟩ := xs
  unfold vMin at h
  split at h
  · rename_i a b e
    simp only at e
    subst e
    exact ⟨_, h, fun w => run_min_int2 w ts ty _ _ a b⟩
  · exact h.elim
theorem vMax.sound {ts : Array TypeId} {xs : Array Value} {ty : TypeId} (h : vMax xs.toList K) : ∃ v, K v ∧ ∀ w, (Builtin.max_ ts ty xs).run P w = .ok v w := by
  obtain ⟨xs⟩ := xs
  unfold vMax at h
  split at h
  · rename_i a b e
    simp only at e
    subst e
    exact ⟨_, h, fun w => run_max_int2 w ts ty _ _ a b⟩
  · exact h.elim
end
end Go.Proofs.YtadjhkehfklmnaaDoor
