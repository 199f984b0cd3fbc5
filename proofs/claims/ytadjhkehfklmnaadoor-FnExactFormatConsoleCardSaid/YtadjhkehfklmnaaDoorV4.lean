/-
  Verification conditions: all operations that only look, together; the operations that make or write memory; calls.
  Conditions: none beyond each statement's own premises.
-/
import Derived.Test.YtadjhkehfklmnaaDoorV3
import Derived.Laws.BytesString
import Derived.Laws.IdiomStrings
import Derived.Laws.IdiomCopy
namespace Go.Proofs.YtadjhkehfklmnaaDoor
set_option linter.unusedSimpArgs false
set_option linter.unusedVariables false
open Go.RowKit

def evF (fr : List Value) : Operand → Value
  | .tmp t => fr.getD t undef
  | .const v => v
  | .global g => .pointer (some ⟨g, 0, none⟩)
  | .func f => .func (.func f) #[] #[]
theorem evF_eq (fr : List Value) : (⟨fr.toArray, []⟩ : Act).eval = evF fr := by
  funext x
  cases x <;> simp [Act.eval, evF]
def vCalm (T : Tab) (w0 : Base) (own : List Own) (ev : Operand → Value) (op : Op) (K : Value → Prop) : Prop :=
  match op with
  | .move x => K (ev x)
  | .assign x => K (ev x)
  | .pick c a b => match ev c with
    | .bool true => K (ev a)
    | .bool false => K (ev b)
    | _ => False
  | .load t a => vLoad T w0 own t (ev a) K
  | .nilCheck x => match ev x with
    | .pointer (some a) => K (.pointer (some a))
    | _ => False
  | .binOp bop t x y _ => vBin T bop t (isConstO x || isConstO y) (ev x) (ev y) K
  | .unOp uop _ x => vUn uop (ev x) K
  | .convert s d x => vConv T w0 own s d (ev x) K
  | .slice t x lo hi mx => vSlice T t (ev x) (lo.map ev) (hi.map ev) (mx.map ev) K
  | .field t x f => vField T t (ev x) f K
  | .fieldAddr t x f => vFieldAddr T t (ev x) f K
  | .indexAddr t x i => vIdxAddr T own t (ev x) (ev i) K
  | .index t x i => vIndex T t (ev x) (ev i) K
  | .extract x i => vExtract (ev x) i K
  | .build t parts => vBuild T t (parts.toList.map fun (i, x) => (i, ev x)) K
  | .makeFunc fn first caps => forceL (first.toList.map ev) fun a => forceL (caps.toList.map ev) fun b => K (.func fn ⟨a⟩ ⟨b⟩)
  | .call c => match c.callee with
    | .builtin .len => vLen T c.argTypes.toList (c.args.toList.map ev) K
    | .builtin .min => vMin (c.args.toList.map ev) K
    | .builtin .max => vMax (c.args.toList.map ev) K
    | _ => False
  | _ => False
section
variable {P : Program} {T : Tab} {K : Value → Prop} {w0 : Base} {own : List Own}
theorem vConv.sound (hT : TabOk P T) {s d : TypeId} {x : Value} (h : vConv T w0 own s d x K) : ∃ v, K v ∧ ∀ w, MemR w0 own w → (convert s d x).run P w = .ok v w := by
  unfold vConv at h
  split at h
  · rename_i k1 s1 s2 s3 s4 q1 q2 q3 q4 kk n hs hd
    have hu := hT.und s _ hs
    have hv := hT.und d _ hd
    obtain ⟨lo, hi, k⟩ := h
    exact ⟨_, k, fun w _ => by simp [convert, run_underlying hu, run_underlying hv, Conv.intToInt, wrap_i64_id lo hi]⟩
  · rename_i k1 s1 s2 s3 s4 q1 q2 q3 q4 kk n hs hd
    have hu := hT.und s _ hs
    have hv := hT.und d _ hd
    exact ⟨_, h, fun w _ => by simp [convert, run_underlying hu, run_underlying hv, Conv.intToInt]⟩
  · rename_i k1 s1 s2 s3 s4 q1 q2 q3 q4 kk n hs hd
    have hu := hT.und s _ hs
    have hv := hT.und d _ hd
    obtain ⟨k⟩ := h
    exact ⟨.int .u64 (IntKind.u64.wrap n), k _ (by rw [IntKind.wrap_u64]; omega) (by rw [IntKind.wrap_u64]; omega), fun w _ => by simp [convert, run_underlying hu, run_underlying hv, Conv.intToInt]⟩
  · rename_i s1 s2 s3 s4 q1 q2 q3 q4 str hs hd
    have hu := hT.und s _ hs
    have hv := hT.und d _ hd
    exact ⟨_, h, fun w _ => by simp [convert, run_underlying hu, run_underlying hv]⟩
  · rename_i e s1 s2 s3 s4 q1 q2 q3 q4 A n c hs hd
    have hu := hT.und s _ hs
    have hv := hT.und d _ hd
    split at h
    · rename_i r1 r2 r3 r4 he
      have he' := hT.und e _ he
      split at h
      · rename_i g off
        obtain ⟨bs, hl, hr, k⟩ := h
        refine ⟨_, k, fun w m => ?_⟩
        have := run_convert_bytes_back (P := P) w s d e ⟨g, off, none⟩ c bs.data.toList hu he' hv (fun j hj => by
          rw [add_none]
          have hj' : j < bs.size := by have h9 : bs.data.toList.length = bs.size := rfl; omega
          have := (hr j hj').cell m
          rw [this]
          rfl)
        rw [show bs.data.toList.length = n from by rw [← hl]; rfl] at this
        rw [this]
      · exact ⟨_, h, fun w _ => by rw [run_convert_bytes_string w s d e _ _ _ hu he' hv]; rfl⟩
      · exact h.elim
    · exact h.elim
  · exact h.elim
theorem vCalm.sound (hT : TabOk P T) {ev : Operand → Value} (w1 : World) (m1 : MemR w0 own w1) {o : Oper} (h : vCalm T w0 own ev o.op K) :
    ∃ v, K v ∧ ∀ w, MemR w0 own w → (execOp ev o).run P w = .ok (.value v) w := by
  have one : ∀ {s : Sem Value} {v : Value} {w : World}, s.run P w = .ok v w → (do pure (Next.value (← s)) : Sem Next).run P w = .ok (.value v) w := fun h => by simp [h]
  generalize hop : o.op = op at h
  unfold vCalm at h
  split at h
  · exact ⟨_, h, fun w _ => by simp only [execOp, hop]; rfl⟩
  · exact ⟨_, h, fun w _ => by simp only [execOp, hop]; rfl⟩
  · split at h
    · rename_i hc
      exact ⟨_, h, fun w _ => by simp only [execOp, hop, hc, asBool, Sem.run_bind, Sem.run_pure, Result.andThen_ok]; rfl⟩
    · rename_i hc
      exact ⟨_, h, fun w _ => by simp only [execOp, hop, hc, asBool, Sem.run_bind, Sem.run_pure, Result.andThen_ok]; rfl⟩
    · exact h.elim
  · obtain ⟨v, k, e⟩ := vLoad.sound hT h
    exact ⟨v, k, fun w m => by simp only [execOp, hop]; exact one (e w m)⟩
  · split at h
    · rename_i hc
      exact ⟨_, h, fun w _ => by simp only [execOp, hop, hc]; rfl⟩
    · exact h.elim
  · rename_i bop t x y _
    obtain ⟨v, k, e⟩ := vBin.sound hT (ox := x) (oy := y) h
    exact ⟨v, k, fun w m => by simp only [execOp, hop]; exact one (e w)⟩
  · obtain ⟨v, k, e⟩ := vUn.sound (P := P) h
    exact ⟨v, k, fun w m => by simp only [execOp, hop]; exact one (e w)⟩
  · obtain ⟨v, k, e⟩ := vConv.sound hT h
    exact ⟨v, k, fun w m => by simp only [execOp, hop]; exact one (e w m)⟩
  · obtain ⟨v, k, e⟩ := vSlice.sound hT h
    exact ⟨v, k, fun w m => by simp only [execOp, hop]; exact one (e w)⟩
  · obtain ⟨v, k, e⟩ := vField.sound hT h
    exact ⟨v, k, fun w m => by simp only [execOp, hop]; exact one (e w)⟩
  · obtain ⟨v, k, e⟩ := vFieldAddr.sound hT h
    exact ⟨v, k, fun w m => by simp only [execOp, hop]; exact one (e w)⟩
  · obtain ⟨v, k, e⟩ := vIdxAddr.sound hT w1 m1 h
    exact ⟨v, k, fun w m => by simp only [execOp, hop]; exact one (e w)⟩
  · obtain ⟨v, k, e⟩ := vIndex.sound hT h
    exact ⟨v, k, fun w m => by simp only [execOp, hop]; exact one (e w)⟩
  · obtain ⟨v, k, e⟩ := vExtract.sound (P := P) h
    exact ⟨v, k, fun w m => by simp only [execOp, hop]; exact one (e w)⟩
  · rename_i t parts
    obtain ⟨v, k, e⟩ := vBuild.sound hT (parts := parts.map fun (i, x) => (i, ev x)) (by simpa using h)
    exact ⟨v, k, fun w m => by simp only [execOp, hop]; exact one (e w)⟩
  · rename_i fn first caps
    have e : ∀ a : Array Operand, (⟨a.toList.map ev⟩ : Array Value) = a.map ev := fun a => by apply Array.ext'; simp
    refine ⟨_, h.out.out, fun w _ => ?_⟩
    rw [e, e]
    simp only [execOp, hop, Instr.makeFunc]
    rfl
  · rename_i c
    split at h
    · rename_i hc
      obtain ⟨v, k, e⟩ := vLen.sound hT (ts := c.argTypes) (xs := c.args.map ev) (ty := o.type) (by simpa using h)
      exact ⟨v, k, fun w m => by simp only [execOp, hop, resolve, hc, invoke, builtin, Sem.run_bind, Sem.run_pure, Result.andThen_ok]; simp [e w]⟩
    · rename_i hc
      obtain ⟨v, k, e⟩ := vMin.sound (P := P) (ts := c.argTypes) (xs := c.args.map ev) (ty := o.type) (by simpa using h)
      exact ⟨v, k, fun w m => by simp only [execOp, hop, resolve, hc, invoke, builtin, Sem.run_bind, Sem.run_pure, Result.andThen_ok]; simp [e w]⟩
    · rename_i hc
      obtain ⟨v, k, e⟩ := vMax.sound (P := P) (ts := c.argTypes) (xs := c.args.map ev) (ty := o.type) (by simpa using h)
      exact ⟨v, k, fun w m => by simp only [execOp, hop, resolve, hc, invoke, builtin, Sem.run_bind, Sem.run_pure, Result.andThen_ok]; simp [e w]⟩
    · exact h.elim
  · exact h.elim
end

/-! ### What makes or writes memory -/
inductive VStore (own : List Own) (g off n : Nat) (vs : List Value) (K : List Own → Prop) : Prop
  | blk (k : Nat) {ty : TypeId} {cs : List Value} {c0 : Value} {cr : List Value} (hk : own[k]? = some (.blk g ty cs)) (hc : cs = c0 :: cr) (hn : vs.length = n) (hl : off + vs.length ≤ cs.length) (h1 : vs.all (·.oneCell') = true) (c : forceL (setRange cs off vs) fun cs => setK own k (.blk g ty cs) K) : VStore own g off n vs K
  | arr (k : Nat) {ty : TypeId} {cs : List Value} (hk : own[k]? = some (.blk g ty cs)) (hn : vs.length = n) (hl : off + vs.length ≤ cs.length) (h1 : vs.all (·.oneCell') = true) (c : setK own k (.blk g ty (setRange cs off vs)) K) : VStore own g off n vs K
  | row (k : Nat) {n' c' : Nat} {ty : TypeId} {size m : Nat} {xs : List Value} (hk : own[k]? = some (.row (.slice (some ⟨g, 0, none⟩) n' c') ty size m xs)) (hn : vs.length = n) (hl : off + vs.length ≤ xs.length) (h1 : vs.all (·.oneCell') = true)
      (c : setK own k (.row (.slice (some ⟨g, 0, none⟩) n' c') ty size m (setRange xs off vs)) K) : VStore own g off n vs K
  | txt (k : Nat) {ty : TypeId} {cs : List Value} {v : Value} (hk : own[k]? = some (.txt g ty cs)) (hv : vs = [v]) (hn : n = 1) (hl : off < cs.length) (h1 : v.oneCell' = true) (c : setK own k (.txt g ty (cs.set off v)) K) : VStore own g off n vs K
def zerosB (zero : List Value) : Nat → List Value
  | 0 => []
  | n + 1 => zero ++ zerosB zero n
def zerosL (zero : List Value) (n : Nat) : List Value := (madeCells zero.toArray n).toList
inductive VMake (own : List Own) (e size : Nat) (zero : List Value) (l c : Int) (K : Value → List Own → Prop) : Prop
  | mk (m : Nat) (hl : l = (m : Int)) (hc : c = (m : Int)) (hm : m ≤ 1048576) (k : ∀ g, snocK own (.blk g e (zerosL zero (m * size))) fun own => K (.slice (some ⟨g, 0, none⟩) m m) own) : VMake own e size zero l c K
inductive VApp (w0 : Base) (own : List Own) (e size : Nat) (s x : Value) (K : Value → List Own → Prop) : Prop
  | row (k : Nat) {n : Nat} {xs : List Value} (hk : own[k]? = some (.row s e size n xs)) {g off m c : Nat} (hx : x = .slice (some ⟨g, off, none⟩) m c) (news : List Value) (hl : news.length = m * size)
      (hr : ∀ (j : Nat) u, news[j]? = some u → Rd w0 own g (off + j) u) (h1 : news.all (·.oneCell') = true) (hn : n + m ≤ 17179869184) (k : ∀ A c', ((0 < n + m → ∃ g, A = some ⟨g, 0, none⟩) ∧ n + m ≤ c') → setK own k (.row (.slice A (n + m) c') e size (n + m) (xs ++ news)) fun own => K (.slice A (n + m) c') own) : VApp w0 own e size s x K
  | nil (hs : s = .slice none 0 0) {g off m c : Nat} (hx : x = .slice (some ⟨g, off, none⟩) m c) (news : List Value) (hl : news.length = m * size)
      (hr : ∀ (j : Nat) u, news[j]? = some u → Rd w0 own g (off + j) u) (h1 : news.all (·.oneCell') = true) (hn : m ≤ 17179869184) (k : ∀ A c', (0 < m → ∃ g, A = some ⟨g, 0, none⟩) → snocK own (.row (.slice A m c') e size m news) fun own => K (.slice A m c') own) : VApp w0 own e size s x K
  | none_ (k : Nat) {n : Nat} {xs : List Value} (hk : own[k]? = some (.row s e size n xs)) {c : Nat} (hx : x = .slice none 0 c) (k : K s own) : VApp w0 own e size s x K
inductive VCall (P : Program) (w0 : Base) (own : List Own) (f : FuncId) (args : List Value) (K : Value → List Own → Prop) : Prop
  | gen {ι : Type} (I : ι → Prop) (val : ι → Value) (own' : ι → List Own) (h : ∀ w, Mem w0 own w → Calls P f args.toArray w fun e w' => ∃ i, I i ∧ e = .returned (val i) ∧ Mem w0 (own' i) w')
      (k : ∀ i, I i → splitB (val i) fun v => K v (own' i)) : VCall P w0 own f args K
theorem VCall.grow {P : Program} {w0 : Base} {own : List Own} {f : FuncId} {args : List Value} {K : Value → List Own → Prop} (v : Value) (h : ∀ w, Mem w0 own w → Calls P f args.toArray w (Post v w)) (k : splitB v fun v => K v own) : VCall P w0 own f args K :=
  .gen (ι := Unit) (fun _ => True) (fun _ => v) (fun _ => own) (fun w m => (h w m).mono fun e w' ⟨he, hb⟩ => ⟨(), trivial, he, m.grow hb⟩) (fun _ _ => k)
/-- A call whose value is only known to meet a condition. -/
theorem VCall.some {P : Program} {w0 : Base} {own : List Own} {f : FuncId} {args : List Value} {K : Value → List Own → Prop} {ι : Type} (I : ι → Prop) (val : ι → Value) (h : ∀ w, Mem w0 own w → Calls P f args.toArray w fun e w' => ∃ i, I i ∧ Post (val i) w e w')
    (k : ∀ i, I i → splitB (val i) fun v => K v own) : VCall P w0 own f args K :=
  .gen I val (fun _ => own) (fun w m => (h w m).mono fun e w' ⟨i, hi, he, hb⟩ => ⟨i, hi, he, m.grow hb⟩) k
def vAppend (T : Tab) (w0 : Base) (own : List Own) (ts : List TypeId) (xs : List Value) (K : Value → List Own → Prop) : Prop :=
  match ts, xs with
  | [t, t'], [s, x] => match Nat.beq t t', T.ty t with
    | true, some ⟨.slice e, _, _, _, _⟩ => match T.ty e with
      | some ei => match Nat.ble ei.bytes 4096, Nat.ble 1 ei.size with
        | true, true => VApp w0 own e ei.size s x K
        | _, _ => False
      | none => False
    | _, _ => False
  | _, _ => False
def vEff (P : Program) (T : Tab) (w0 : Base) (own : List Own) (ev : Operand → Value) (op : Op) (K : Value → List Own → Prop) : Prop :=
  match op with
  | .alloc t => match T.ty t with
    | some ti => ∀ g, snocK own (.blk g t ti.zero) fun own => K (.pointer (some ⟨g, 0, none⟩)) own
    | none => False
  | .box t x => ∀ g, forceL (ev x).cells.toList fun cs => snocK own (.blk g t cs) fun own => K (.pointer (some ⟨g, 0, none⟩)) own
  | .store t a x => match T.ty t, ev a with
    | some ti, .pointer (some ⟨g, off, none⟩) => forceL (ev x).cells.toList fun vs => VStore own g off ti.size vs fun own' => K undef own'
    | _, _ => False
  | .makeSlice t l c => match T.ty t, ev l, ev c with
    | some ⟨.slice e, _, _, _, _⟩, .int .i64 l, .int .i64 c => match T.ty e with
      | some ei => match Nat.ble ei.bytes 1048576 with
        | true => VMake own e ei.size ei.zero l c K
        | false => False
      | none => False
    | _, _, _ => False
  | .convert s d x => match T.ty s, T.ty d, ev x with
    | some ⟨.string, _, _, _, _⟩, some ⟨.slice e, _, _, _, _⟩, .string t => match T.ty e with
      | some ⟨.int .u8, _, _, _, _⟩ => ∀ g c, snocK own (.txt g e (t.data.toList.map fun b => .int .u8 (b.toNat : Int))) fun own => K (.slice (some ⟨g, 0, none⟩) t.size c) own
      | _ => False
    | _, _, _ => False
  | .buildSlice t len parts => match T.ty t with
    | some ⟨.slice e, _, _, _, _⟩ => match T.ty e with
      | some ei => match len, parts.toList with
        | 0, [] => ∀ g, snocK own (.row (.slice (some ⟨g, 0, none⟩) 0 0) e ei.size 0 []) fun own => K (.slice (some ⟨g, 0, none⟩) 0 0) own
        | _, _ => match Nat.ble (len * ei.size) 16777216, Nat.ble 1 (len * ei.size), Nat.beq ei.zero.length ei.size, fillL (fun i => some (i * ei.size, ei.size)) (zerosB ei.zero len) (parts.toList.map fun (i, x) => (i, ev x)) with
          | true, true, true, some cs => ∀ g, forceL cs fun cs => snocK own (.blk g e cs) fun own => K (.slice (some ⟨g, 0, none⟩) len len) own
          | _, _, _, _ => False
      | none => False
    | _ => False
  | .call c => match c.callee with
    | .builtin .append => vAppend T w0 own c.argTypes.toList (c.args.toList.map ev) K
    | .value f => match ev f with
      | .func (.func f) first caps => match T.fn f with
        | true => VCall P w0 own f (first.toList ++ (c.args.toList.map ev) ++ caps.toList) K
        | false => False
      | _ => False
    | _ => False
  | _ => False
def isConv (T : Tab) : Op → Bool
  | .convert s d _ => match T.ty s, T.ty d with
    | some ⟨.string, _, _, _, _⟩, some ⟨.slice _, _, _, _, _⟩ => true
    | _, _ => false
  | _ => false
def isEff : Op → Bool
  | .alloc _ => true
  | .box _ _ => true
  | .store _ _ _ => true
  | .makeSlice _ _ _ => true
  | .buildSlice _ _ _ => true
  | .call c => match c.callee with
    | .builtin .append => true
    | .value _ => true
    | _ => false
  | _ => false
theorem zerosB_length (zero : List Value) : ∀ n, (zerosB zero n).length = n * zero.length
  | 0 => by simp [zerosB]
  | n + 1 => by rw [zerosB, List.length_append, zerosB_length zero n, Nat.succ_mul]; omega
theorem zerosB_get (zero : List Value) : ∀ (n i : Nat), i < n * zero.length → (zerosB zero n)[i]? = zero[i % zero.length]?
  | 0, i, h => by omega
  | n + 1, i, h => by
    rw [zerosB, List.getElem?_append]
    split
    · rw [Nat.mod_eq_of_lt ‹_›]
    · rename_i hi
      rw [zerosB_get zero n _ (by rw [Nat.succ_mul] at h; omega)]
      congr 1
      conv => rhs; rw [Nat.mod_eq_sub_mod (by omega)]
theorem zerosB_eq (zero : List Value) (n : Nat) (h : 0 < zero.length) : (Array.range (n * zero.length)).map (zero.toArray[· % zero.toArray.size]!) = (zerosB zero n).toArray := by
  apply Array.ext_getElem?
  intro i
  have e0 : (zerosB zero n).toArray[i]? = (zerosB zero n)[i]? := by simp
  rw [e0]
  rcases Nat.lt_or_ge i (n * zero.length) with hi | hi
  · have e := zerosB_get zero n i hi
    have hm : i % zero.length < zero.length := Nat.mod_lt _ h
    rw [e, Array.getElem?_map]
    simp [hi, hm]
  · rw [List.getElem?_eq_none (by rw [zerosB_length]; exact hi), Array.getElem?_eq_none (by simp; exact hi)]
end Go.Proofs.YtadjhkehfklmnaaDoor
