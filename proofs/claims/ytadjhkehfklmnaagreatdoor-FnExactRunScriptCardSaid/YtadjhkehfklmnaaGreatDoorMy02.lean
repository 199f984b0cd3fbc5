/-
  Texts joined: how the calls that the law reaches are walked, and the plain laws behind them.
  Conditions: none beyond each statement's own premises.
-/
import Derived.Test.YtadjhkehfklmnaaGreatDoorMy01
import Derived.Laws.BytesString
import Derived.Laws.IdiomStrings
import Derived.Laws.IdiomCopy
import Derived.Conc.MuLone
namespace Go.Proofs.YtadjhkehfklmnaaGreatDoor
set_option linter.unusedSimpArgs false
set_option linter.unusedVariables false
open Go.RowKit
def evF (fr : List Value) : Operand → Value
  | .tmp t => fr.getD t undef
  | .const v => v
  | .global g => .pointer (some ⟨g, 0, none⟩)
  | .func f => .func (.func f) #[] #[]
theorem evF_eq (fr : List Value) : (⟨fr.toArray, []⟩ : Act).eval = evF fr := by
  funext x
  cases x <;> simp [Act.eval, evF]
def vCalm (T : Tab) (w0 : Base) (own : List Own) (ev : Operand → Value) (op : Op) (K : Value → Prop) : Prop :=
  match op with
  | .move x => K (ev x)
  | .assign x => K (ev x)
  | .pick c a b => match ev c with
    | .bool true => K (ev a)
    | .bool false => K (ev b)
    | _ => False
  | .load t a => vLoad T w0 own t (ev a) K
  | .nilCheck x => match ev x with
    | .pointer (some a) => K (.pointer (some a))
    | _ => False
  | .binOp bop t x y _ => vBin T bop t (isConstO x || isConstO y) (ev x) (ev y) K
  | .unOp uop _ x => vUn uop (ev x) K
  | .convert s d x => vConv T w0 own s d (ev x) K
  | .slice t x lo hi mx => vSlice T t (ev x) (lo.map ev) (hi.map ev) (mx.map ev) K
  | .field t x f => vField T t (ev x) f K
  | .fieldAddr t x f => vFieldAddr T t (ev x) f K
  | .indexAddr t x i => vIdxAddr T own t (ev x) (ev i) K
  | .index t x i => vIndex T t (ev x) (ev i) K
  | .extract x i => vExtract (ev x) i K
  | .build t parts => vBuild T t (parts.toList.map fun (i, x) => (i, ev x)) K
  | .makeFunc fn first caps => forceL (first.toList.map ev) fun a => forceL (caps.toList.map ev) fun b => K (.func fn ⟨a⟩ ⟨b⟩)
  | .call c => match c.callee with
    | .builtin .len => vLen T c.argTypes.toList (c.args.toList.map ev) K
    | .builtin .min => vMin (c.args.toList.map ev) K
    | .builtin .max => vMax (c.args.toList.map ev) K
    | _ => False
  | _ => False
section
variable {P : Program} {T : Tab} {K : Value → Prop} {w0 : Base} {own : List Own}
theorem vConv.sound (hT : TabOk P T) {s d : TypeId} {x : Value} (h : vConv T w0 own s d x K) : ∃ v, K v ∧ ∀ w, MemR w0 own w → (convert s d x).run P w = .ok v w := by
  unfold vConv at h
  split at h
  · rename_i k1 s1 s2 s3 s4 q1 q2 q3 q4 kk n hs hd
    have hu := hT.und s _ hs
    have hv := hT.und d _ hd
    obtain ⟨lo, hi, k⟩ := h
    exact ⟨_, k, fun w _ => by simp [convert, run_underlying hu, run_underlying hv, Conv.intToInt, wrap_i64_id lo hi]⟩
  · rename_i k1 s1 s2 s3 s4 q1 q2 q3 q4 kk n hs hd
    have hu := hT.und s _ hs
    have hv := hT.und d _ hd
    exact ⟨_, h, fun w _ => by simp [convert, run_underlying hu, run_underlying hv, Conv.intToInt]⟩
  · rename_i k1 s1 s2 s3 s4 q1 q2 q3 q4 kk n hs hd
    have hu := hT.und s _ hs
    have hv := hT.und d _ hd
    obtain ⟨k⟩ := h
    exact ⟨.int .u64 (IntKind.u64.wrap n), k _ (by rw [IntKind.wrap_u64]; omega) (by rw [IntKind.wrap_u64]; omega), fun w _ => by simp [convert, run_underlying hu, run_underlying hv, Conv.intToInt]⟩
  · rename_i s1 s2 s3 s4 q1 q2 q3 q4 str hs hd
    have hu := hT.und s _ hs
    have hv := hT.und d _ hd
    exact ⟨_, h, fun w _ => by simp [convert, run_underlying hu, run_underlying hv]⟩
  · rename_i e s1 s2 s3 s4 q1 q2 q3 q4 A n c hs hd
    have hu := hT.und s _ hs
    have hv := hT.und d _ hd
    split at h
    · rename_i r1 r2 r3 r4 he
      have he' := hT.und e _ he
      split at h
      · rename_i g off
        obtain ⟨bs, hl, hr, k⟩ := h
        refine ⟨_, k, fun w m => ?_⟩
        have := run_convert_bytes_back (P := P) w s d e ⟨g, off, none⟩ c bs.data.toList hu he' hv (fun j hj => by
          rw [add_none]
          have hj' : j < bs.size := by have h9 : bs.data.toList.length = bs.size := rfl; omega
          have := (hr j hj').cell m
          rw [this]
          rfl)
        rw [show bs.data.toList.length = n from by rw [← hl]; rfl] at this
        rw [this]
      · exact ⟨_, h, fun w _ => by rw [run_convert_bytes_string w s d e _ _ _ hu he' hv]; rfl⟩
      · exact h.elim
    · exact h.elim
  · exact h.elim
theorem vCalm.sound (hT : TabOk P T) {ev : Operand → Value} (w1 : World) (m1 : MemR w0 own w1) {o : Oper} (h : vCalm T w0 own ev o.op K) :
    ∃ v, K v ∧ ∀ w, MemR w0 own w → (execOp ev o).run P w = .ok (.value v) w := by
  have one : ∀ {s : Sem Value} {v : Value} {w : World}, s.run P w = .ok v w → (do pure (Next.value (← s)) : Sem Next).run P w = .ok (.value v) w := fun h => by simp [h]
  generalize hop : o.op = op at h
  unfold vCalm at h
  split at h
  · exact ⟨_, h, fun w _ => by simp only [execOp, hop]; rfl⟩
  · exact ⟨_, h, fun w _ => by simp only [execOp, hop]; rfl⟩
  · split at h
    · rename_i hc
      exact ⟨_, h, fun w _ => by simp only [execOp, hop, hc, asBool, Sem.run_bind, Sem.run_pure, Result.andThen_ok]; rfl⟩
    · rename_i hc
      exact ⟨_, h, fun w _ => by simp only [execOp, hop, hc, asBool, Sem.run_bind, Sem.run_pure, Result.andThen_ok]; rfl⟩
    · exact h.elim
  · obtain ⟨v, k, e⟩ := vLoad.sound hT h
    exact ⟨v, k, fun w m => by simp only [execOp, hop]; exact one (e w m)⟩
  · split at h
    · rename_i hc
      exact ⟨_, h, fun w _ => by simp only [execOp, hop, hc]; rfl⟩
    · exact h.elim
  · rename_i bop t x y _
    obtain ⟨v, k, e⟩ := vBin.sound hT (ox := x) (oy := y) h
    exact ⟨v, k, fun w m => by simp only [execOp, hop]; exact one (e w)⟩
  · obtain ⟨v, k, e⟩ := vUn.sound (P := P) h
    exact ⟨v, k, fun w m => by simp only [execOp, hop]; exact one (e w)⟩
  · obtain ⟨v, k, e⟩ := vConv.sound hT h
    exact ⟨v, k, fun w m => by simp only [execOp, hop]; exact one (e w m)⟩
  · obtain ⟨v, k, e⟩ := vSlice.sound hT h
    exact ⟨v, k, fun w m => by simp only [execOp, hop]; exact one (e w)⟩
  · obtain ⟨v, k, e⟩ := vField.sound hT h
    exact ⟨v, k, fun w m => by simp only [execOp, hop]; exact one (e w)⟩
  · obtain ⟨v, k, e⟩ := vFieldAddr.sound hT h
    exact ⟨v, k, fun w m => by simp only [execOp, hop]; exact one (e w)⟩
  · obtain ⟨v, k, e⟩ := vIdxAddr.sound hT w1 m1 h
    exact ⟨v, k, fun w m => by simp only [execOp, hop]; exact one (e w)⟩
  · obtain ⟨v, k, e⟩ := vIndex.sound hT h
    exact ⟨v, k, fun w m => by simp only [execOp, hop]; exact one (e w)⟩
  · obtain ⟨v, k, e⟩ := vExtract.sound (P := P) h
    exact ⟨v, k, fun w m => by simp only [execOp, hop]; exact one (e w)⟩
  · rename_i t parts
    obtain ⟨v, k, e⟩ := vBuild.sound hT (parts := parts.map fun (i, x) => (i, ev x)) (by simpa using h)
    exact ⟨v, k, fun w m => by simp only [execOp, hop]; exact one (e w)⟩
  · rename_i fn first caps
    have e : ∀ a : Array Operand, (⟨a.toList.map ev⟩ : Array Value) = a.map ev := fun a => by apply Array.ext'; simp
    refine ⟨_, h.out.out, fun w _ => ?_⟩
    rw [e, e]
    simp only [execOp, hop, Instr.makeFunc]
    rfl
  · rename_i c
    split at h
    · rename_i hc
      obtain ⟨v, k, e⟩ := vLen.sound hT (ts := c.argTypes) (xs := c.args.map ev) (ty := o.type) (by simpa using h)
      exact ⟨v, k, fun w m => by simp only [execOp, hop, resolve, hc, invoke, builtin, Sem.run_bind, Sem.run_pure, Result.andThen_ok]; simp [e w]⟩
    · rename_i hc
      obtain ⟨v, k, e⟩ := vMin.sound (P := P) (ts := c.argTypes) (xs := c.args.map ev) (ty := o.type) (by simpa using h)
      exact ⟨v, k, fun w m => by simp only [execOp, hop, resolve, hc, invoke, builtin, Sem.run_bind, Sem.run_pure, Result.andThen_ok]; simp [e w]⟩
    · rename_i hc
      obtain ⟨v, k, e⟩ := vMax.sound (P := P) (ts := c.argTypes) (xs := c.args.map ev) (ty := o.type) (by simpa using h)
      exact ⟨v, k, fun w m => by simp only [execOp, hop, resolve, hc, invoke, builtin, Sem.run_bind, Sem.run_pure, Result.andThen_ok]; simp [e w]⟩
    · exact h.elim
  · exact h.elim
end
inductive VStore (own : List Own) (g off n : Nat) (vs : List Value) (K : List Own → Prop) : Prop
  | blk (k : Nat) {ty : TypeId} {cs : List Value} {c0 : Value} {cr : List Value} (hk : own[k]? = some (.blk g ty cs)) (hc : cs = c0 :: cr) (hn : vs.length = n) (hl : off + vs.length ≤ cs.length) (h1 : vs.all (·.oneCell') = true) (c : forceL (setRange cs off vs) fun cs => setK own k (.blk g ty cs) K) : VStore own g off n vs K
  | arr (k : Nat) {ty : TypeId} {cs : List Value} (hk : own[k]? = some (.blk g ty cs)) (hn : vs.length = n) (hl : off + vs.length ≤ cs.length) (h1 : vs.all (·.oneCell') = true) (c : setK own k (.blk g ty (setRange cs off vs)) K) : VStore own g off n vs K
  | row (k : Nat) {n' c' : Nat} {ty : TypeId} {size m : Nat} {xs : List Value} (hk : own[k]? = some (.row (.slice (some ⟨g, 0, none⟩) n' c') ty size m xs)) (hn : vs.length = n) (hl : off + vs.length ≤ xs.length) (h1 : vs.all (·.oneCell') = true)
      (c : setK own k (.row (.slice (some ⟨g, 0, none⟩) n' c') ty size m (setRange xs off vs)) K) : VStore own g off n vs K
  | txt (k : Nat) {ty : TypeId} {cs : List Value} {v : Value} (hk : own[k]? = some (.txt g ty cs)) (hv : vs = [v]) (hn : n = 1) (hl : off < cs.length) (h1 : v.oneCell' = true) (c : setK own k (.txt g ty (cs.set off v)) K) : VStore own g off n vs K
def zerosB (zero : List Value) : Nat → List Value
  | 0 => []
  | n + 1 => zero ++ zerosB zero n
def zerosL (zero : List Value) (n : Nat) : List Value := (madeCells zero.toArray n).toList
inductive VMake (own : List Own) (e size : Nat) (zero : List Value) (l c : Int) (K : Value → List Own → Prop) : Prop
  | mk (m : Nat) (hl : l = (m : Int)) (hc : c = (m : Int)) (hm : m ≤ 1048576) (k : ∀ g, snocK own (.blk g e (zerosL zero (m * size))) fun own => K (.slice (some ⟨g, 0, none⟩) m m) own) : VMake own e size zero l c K
inductive VApp (w0 : Base) (own : List Own) (e size : Nat) (s x : Value) (K : Value → List Own → Prop) : Prop
  | row (k : Nat) {n : Nat} {xs : List Value} (hk : own[k]? = some (.row s e size n xs)) {g off m c : Nat} (hx : x = .slice (some ⟨g, off, none⟩) m c) (news : List Value) (hl : news.length = m * size)
      (hr : ∀ (j : Nat) u, news[j]? = some u → Rd w0 own g (off + j) u) (h1 : news.all (·.oneCell') = true) (hn : n + m ≤ 17179869184) (k : ∀ A c', ((0 < n + m → ∃ g, A = some ⟨g, 0, none⟩) ∧ n + m ≤ c') → setK own k (.row (.slice A (n + m) c') e size (n + m) (xs ++ news)) fun own => K (.slice A (n + m) c') own) : VApp w0 own e size s x K
  | nil (hs : s = .slice none 0 0) {g off m c : Nat} (hx : x = .slice (some ⟨g, off, none⟩) m c) (news : List Value) (hl : news.length = m * size)
      (hr : ∀ (j : Nat) u, news[j]? = some u → Rd w0 own g (off + j) u) (h1 : news.all (·.oneCell') = true) (hn : m ≤ 17179869184) (k : ∀ A c', (0 < m → ∃ g, A = some ⟨g, 0, none⟩) → snocK own (.row (.slice A m c') e size m news) fun own => K (.slice A m c') own) : VApp w0 own e size s x K
  | none_ (k : Nat) {n : Nat} {xs : List Value} (hk : own[k]? = some (.row s e size n xs)) {c : Nat} (hx : x = .slice none 0 c) (k : K s own) : VApp w0 own e size s x K
inductive VCall (P : Program) (w0 : Base) (own : List Own) (f : FuncId) (args : List Value) (K : Value → List Own → Prop) : Prop
  | gen {ι : Type} (I : ι → Prop) (val : ι → Value) (own' : ι → List Own) (h : ∀ w, Mem w0 own w → Calls P f args.toArray w fun e w' => ∃ i, I i ∧ e = .returned (val i) ∧ Mem w0 (own' i) w')
      (k : ∀ i, I i → splitB (val i) fun v => K v (own' i)) : VCall P w0 own f args K
theorem VCall.grow {P : Program} {w0 : Base} {own : List Own} {f : FuncId} {args : List Value} {K : Value → List Own → Prop} (v : Value) (h : ∀ w, Mem w0 own w → Calls P f args.toArray w (Post v w)) (k : splitB v fun v => K v own) : VCall P w0 own f args K :=
  .gen (ι := Unit) (fun _ => True) (fun _ => v) (fun _ => own) (fun w m => (h w m).mono fun e w' ⟨he, hb⟩ => ⟨(), trivial, he, m.grow hb⟩) (fun _ _ => k)
theorem VCall.some {P : Program} {w0 : Base} {own : List Own} {f : FuncId} {args : List Value} {K : Value → List Own → Prop} {ι : Type} (I : ι → Prop) (val : ι → Value) (h : ∀ w, Mem w0 own w → Calls P f args.toArray w fun e w' => ∃ i, I i ∧ Post (val i) w e w')
    (k : ∀ i, I i → splitB (val i) fun v => K v own) : VCall P w0 own f args K :=
  .gen I val (fun _ => own) (fun w m => (h w m).mono fun e w' ⟨i, hi, he, hb⟩ => ⟨i, hi, he, m.grow hb⟩) k
def vAppend (T : Tab) (w0 : Base) (own : List Own) (ts : List TypeId) (xs : List Value) (K : Value → List Own → Prop) : Prop :=
  match ts, xs with
  | [t, t'], [s, x] => match Nat.beq t t', T.ty t with
    | true, some ⟨.slice e, _, _, _, _⟩ => match T.ty e with
      | some ei => match Nat.ble ei.bytes 4096, Nat.ble 1 ei.size with
        | true, true => VApp w0 own e ei.size s x K
        | _, _ => False
      | none => False
    | _, _ => False
  | _, _ => False
inductive VRawB (P : Program) (w0 : Base) (own : List Own) (b : Builtin) (ts : List TypeId) (xs : List Value) (K : Value → List Own → Prop) : Prop
  | mk {ι : Type} (I : ι → Prop) (val : ι → Value) (own' : ι → List Own) (h : ∀ ty cs w, Mem w0 own w → ∃ i w', I i ∧ (builtin b ts.toArray ty cs xs.toArray).run P w = .ok (.value (val i)) w' ∧ Mem w0 (own' i) w') (k : ∀ i, I i → K (val i) (own' i)) : VRawB P w0 own b ts xs K
inductive VRawF (P : Program) (w0 : Base) (own : List Own) (f : FuncId) (xs : List Value) (K : Value → List Own → Prop) : Prop
  | mk {ι : Type} (I : ι → Prop) (val : ι → Value) (own' : ι → List Own) (h : ∀ w, Mem w0 own w → ∃ i w', I i ∧ (callFunc f xs.toArray).run P w = .ok (.value (val i)) w' ∧ Mem w0 (own' i) w') (k : ∀ i, I i → K (val i) (own' i)) : VRawF P w0 own f xs K
def isPair : List TypeId → Bool
  | [t, t'] => Nat.beq t t'
  | _ => true
def vEff (P : Program) (T : Tab) (w0 : Base) (own : List Own) (ev : Operand → Value) (op : Op) (K : Value → List Own → Prop) : Prop :=
  match op with
  | .alloc t => match T.ty t with
    | some ti => ∀ g, snocK own (.blk g t ti.zero) fun own => K (.pointer (some ⟨g, 0, none⟩)) own
    | none => False
  | .box t x => ∀ g, forceL (ev x).cells.toList fun cs => snocK own (.blk g t cs) fun own => K (.pointer (some ⟨g, 0, none⟩)) own
  | .store t a x => match T.ty t, ev a with
    | some ti, .pointer (some ⟨g, off, none⟩) => forceL (ev x).cells.toList fun vs => VStore own g off ti.size vs fun own' => K undef own'
    | _, _ => False
  | .makeSlice t l c => match T.ty t, ev l, ev c with
    | some ⟨.slice e, _, _, _, _⟩, .int .i64 l, .int .i64 c => match T.ty e with
      | some ei => match Nat.ble ei.bytes 1048576 with
        | true => VMake own e ei.size ei.zero l c K
        | false => False
      | none => False
    | _, _, _ => False
  | .convert s d x => match T.ty s, T.ty d, ev x with
    | some ⟨.string, _, _, _, _⟩, some ⟨.slice e, _, _, _, _⟩, .string t => match T.ty e with
      | some ⟨.int .u8, _, _, _, _⟩ => ∀ g c, snocK own (.txt g e (t.data.toList.map fun b => .int .u8 (b.toNat : Int))) fun own => K (.slice (some ⟨g, 0, none⟩) t.size c) own
      | _ => False
    | _, _, _ => False
  | .buildSlice t len parts => match T.ty t with
    | some ⟨.slice e, _, _, _, _⟩ => match T.ty e with
      | some ei => match len, parts.toList with
        | 0, [] => ∀ g, snocK own (.row (.slice (some ⟨g, 0, none⟩) 0 0) e ei.size 0 []) fun own => K (.slice (some ⟨g, 0, none⟩) 0 0) own
        | _, _ => match Nat.ble (len * ei.size) 16777216, Nat.ble 1 (len * ei.size), Nat.beq ei.zero.length ei.size, fillL (fun i => some (i * ei.size, ei.size)) (zerosB ei.zero len) (parts.toList.map fun (i, x) => (i, ev x)) with
          | true, true, true, some cs => ∀ g, forceL cs fun cs => snocK own (.blk g e cs) fun own => K (.slice (some ⟨g, 0, none⟩) len len) own
          | _, _, _, _ => False
      | none => False
    | _ => False
  | .call c => match c.callee with
    | .builtin .append => match isPair c.argTypes.toList with
      | true => vAppend T w0 own c.argTypes.toList (c.args.toList.map ev) K
      | false => VRawB P w0 own .append c.argTypes.toList (c.args.toList.map ev) K
    | .builtin .copy => VRawB P w0 own .copy c.argTypes.toList (c.args.toList.map ev) K
    | .builtin .clear => VRawB P w0 own .clear c.argTypes.toList (c.args.toList.map ev) K
    | .builtin .cap => VRawB P w0 own .cap c.argTypes.toList (c.args.toList.map ev) K
    | .value f => match ev f with
      | .func (.func f) first caps => match T.fn f with
        | true => VCall P w0 own f (first.toList ++ (c.args.toList.map ev) ++ caps.toList) K
        | false => VRawF P w0 own f (first.toList ++ (c.args.toList.map ev) ++ caps.toList) K
      | _ => False
    | _ => False
  | _ => False
def isConv (T : Tab) : Op → Bool
  | .convert s d _ => match T.ty s, T.ty d with
    | some ⟨.string, _, _, _, _⟩, some ⟨.slice _, _, _, _, _⟩ => true
    | _, _ => false
  | _ => false
def isEff : Op → Bool
  | .alloc _ => true
  | .box _ _ => true
  | .store _ _ _ => true
  | .makeSlice _ _ _ => true
  | .buildSlice _ _ _ => true
  | .call c => match c.callee with
    | .builtin .append => true
    | .builtin .copy => true
    | .builtin .clear => true
    | .builtin .cap => true
    | .value _ => true
    | _ => false
  | _ => false
theorem zerosB_length (zero : List Value) : ∀ n, (zerosB zero n).length = n * zero.length
  | 0 => by simp [zerosB]
  | n + 1 => by rw [zerosB, List.length_append, zerosB_length zero n, Nat.succ_mul]; omega
theorem zerosB_get (zero : List Value) : ∀ (n i : Nat), i < n * zero.length → (zerosB zero n)[i]? = zero[i % zero.length]?
  | 0, i, h => by omega
  | n + 1, i, h => by
    rw [zerosB, List.getElem?_append]
    split
    · rw [Nat.mod_eq_of_lt ‹_›]
    · rename_i hi
      rw [zerosB_get zero n _ (by rw [Nat.succ_mul] at h; omega)]
      congr 1
      conv => rhs; rw [Nat.mod_eq_sub_mod (by omega)]
theorem zerosB_eq (zero : List Value) (n : Nat) (h : 0 < zero.length) : (Array.range (n * zero.length)).map (zero.toArray[· % zero.toArray.size]!) = (zerosB zero n).toArray := by
  apply Array.ext_getElem?
  intro i
  have e0 : (zerosB zero n).toArray[i]? = (zerosB zero n)[i]? := by simp
  rw [e0]
  rcases Nat.lt_or_ge i (n * zero.length) with hi | hi
  · have e := zerosB_get zero n i hi
    have hm : i % zero.length < zero.length := Nat.mod_lt _ h
    rw [e, Array.getElem?_map]
    simp [hi, hm]
  · rw [List.getElem?_eq_none (by rw [zerosB_length]; exact hi), Array.getElem?_eq_none (by simp; exact hi)]
end Go.Proofs.YtadjhkehfklmnaaGreatDoor
namespace Go.Proofs.YtadjhkehfklmnaaGreatDoor
set_option linter.unusedSimpArgs false
set_option linter.unusedVariables false
open Go.RowKit
section
variable {P : Program} {T : Tab} {w0 : Base}
theorem set_same {own : List Own} {k : Nat} {x : Own} (h : own[k]? = some x) : own.set k x = own := by
  apply List.ext_getElem?
  intro i
  rw [List.getElem?_set]
  split
  · subst_vars
    split
    · exact h.symm
    · rename_i hh
      rw [List.getElem?_eq_none (by omega)] at h
      cases h
  · rfl
theorem get_set {own : List Own} {k : Nat} {x y : Own} (h : own[k]? = some x) : (own.set k y)[k]? = some y := by
  rw [List.getElem?_set, if_pos rfl]
  split
  · rfl
  · rename_i hh
    rw [List.getElem?_eq_none (by omega)] at h
    cases h
theorem storeCells_blk {k g off : Nat} {ty : TypeId} : ∀ (vs : List Value) (i : Nat) (cs : List Value) (own : List Own) (w : World), Mem w0 own w → own[k]? = some (.blk g ty cs) → off + i + vs.length ≤ cs.length → vs.all (·.oneCell') = true →
    ∃ w', (storeCells ⟨g, off, none⟩ vs i).run P w = .ok () w' ∧ Mem w0 (own.set k (.blk g ty (setRange cs (off + i) vs))) w'
  | [], i, cs, own, w, m, hk, _, _ => ⟨w, rfl, by rw [setRange, set_same hk]; exact m⟩
  | v :: vs, i, cs, own, w, m, hk, hl, h1 => by
    simp only [List.all_cons, Bool.and_eq_true] at h1
    have hh := (m.ok k _ hk).2
    have hlt : off + i < cs.length := by simp at hl; omega
    have hc : w.cell? ⟨g, off + i, none⟩ = some cs[off + i] := by
      rw [cell_of_row w g _ _ _ _ hh]
      simp [hlt]
    have hf := frozen_of_row w g (off + i) _ ty hh
    obtain ⟨w', hr, m'⟩ := storeCells_blk (g := g) (off := off) vs (i + 1) (cs.set (off + i) v) _ _ (m.set hk (off + i) v) (get_set hk) (by simp at hl ⊢; omega) h1.2
    refine ⟨w', ?_, ?_⟩
    · unfold storeCells
      rw [Sem.run_bind, add_none, run_store P w _ v _ h1.1]
      simp only [hc, hf]
      exact hr
    · rw [List.set_set] at m'
      exact m'
theorem storeCells_row {k g off n' c' size m : Nat} {ty : TypeId} : ∀ (vs : List Value) (i : Nat) (xs : List Value) (own : List Own) (w : World), Mem w0 own w → own[k]? = some (.row (.slice (some ⟨g, 0, none⟩) n' c') ty size m xs) → off + i + vs.length ≤ xs.length → vs.all (·.oneCell') = true →
    ∃ w', (storeCells ⟨g, off, none⟩ vs i).run P w = .ok () w' ∧ Mem w0 (own.set k (.row (.slice (some ⟨g, 0, none⟩) n' c') ty size m (setRange xs (off + i) vs))) w'
  | [], i, cs, own, w, m, hk, _, _ => ⟨w, rfl, by rw [setRange, set_same hk]; exact m⟩
  | v :: vs, i, xs, own, w, m, hk, hl, h1 => by
    simp only [List.all_cons, Bool.and_eq_true] at h1
    have hh := m.ok k _ hk
    have hlt : off + i < xs.length := by simp at hl; omega
    have hc : w.cell? ⟨g, off + i, none⟩ = some xs[off + i] := by
      have := hh.2.cells (g := g) rfl (off + i) xs[off + i] (List.getElem?_eq_getElem hlt)
      rwa [add_none, Nat.zero_add] at this
    have hf : w.frozen? ⟨g, off + i, none⟩ = false := by
      rcases hh.2.2 with ⟨e, _⟩ | ⟨g', cap, cur, e, _, hg, _⟩
      · cases e
      · injection e with e1
        injection e1 with e1
        injection e1 with e1
        subst e1
        exact frozen_of_row w g (off + i) _ ty hg
    obtain ⟨w', hr, m'⟩ := storeCells_row (g := g) (off := off) vs (i + 1) (xs.set (off + i) v) _ _ (m.setRow hk (off + i) hlt v) (get_set hk) (by simp at hl ⊢; omega) h1.2
    refine ⟨w', ?_, ?_⟩
    · unfold storeCells
      rw [Sem.run_bind, add_none, run_store P w _ v _ h1.1]
      simp only [hc, hf]
      exact hr
    · rw [List.set_set] at m'
      exact m'
theorem storeCells_txt {k g off : Nat} {ty : TypeId} {cs : List Value} (v : Value) (own : List Own) (w : World) (m : Mem w0 own w) (hk : own[k]? = some (.txt g ty cs)) (hl : off < cs.length) (h1 : v.oneCell' = true) :
    ∃ w', (storeCells ⟨g, off, none⟩ [v] 0).run P w = .ok () w' ∧ Mem w0 (own.set k (.txt g ty (cs.set off v))) w' := by
  obtain ⟨h0, cur, hh, h2, h3⟩ := m.ok k _ hk
  have hlt : off < cur.size := by omega
  have hc : w.cell? ⟨g, off, none⟩ = some cur[off] := by
    rw [cell_of_row w g _ _ _ _ hh]
    simp [hlt]
  have hf : w.frozen? ⟨g, off, none⟩ = false := by
    simp [World.frozen?, hh]
    omega
  refine ⟨_, ?_, m.setTxt hk off v⟩
  unfold storeCells
  rw [Sem.run_bind, add_none, Nat.add_zero, run_store P w _ v _ h1]
  simp only [hc, hf]
  rfl
theorem wp_value {o : Oper} {a : Act} {w w' : World} {next : Act → World → Prop} {Q : Exit → Act → World → Prop} {v : Value} (hr : (execOp a.eval o).run P w = .ok (.value v) w') (hn : next (a.put o.dst v) w') : o.wp P a w next Q := by
  unfold Oper.wp
  rw [hr]
  exact hn
theorem wp_skipped {o : Oper} {a : Act} {w w' : World} {next : Act → World → Prop} {Q : Exit → Act → World → Prop} (hr : (execOp a.eval o).run P w = .ok .skip w') (hn : next (a.put o.dst undef) w') : o.wp P a w next Q := by
  unfold Oper.wp
  rw [hr]
  exact hn
theorem wp_entered {o : Oper} {a : Act} {w w' : World} {next : Act → World → Prop} {Q : Exit → Act → World → Prop} {f : FuncId} {args : Array Value} (hr : (execOp a.eval o).run P w = .ok (.enter f args) w') (hn : Calls P f args w' fun e w'' => ∃ v, e = .returned v ∧ next (a.put o.dst v) w'') : o.wp P a w next Q := by
  unfold Oper.wp
  rw [hr]
  refine hn.mono fun e w'' ⟨v, he, h⟩ => ?_
  subst he
  exact h
theorem all_one {vs : List Value} (h : vs.all (·.oneCell') = true) : ∀ u ∈ vs, u.oneCell' = true := by simpa using h
def Left (w0 : Base) (fr : List Value) (dst : Option Tmp) (K : Value → List Own → Prop) (a' : Act) (w' : World) : Prop := ∃ v own', K v own' ∧ a' = (⟨fr.toArray, []⟩ : Act).put dst v ∧ Mem w0 own' w'
theorem row_some {own : List Own} {w : World} {k : Nat} {A : Option Addr} {n c' : Nat} {ty : TypeId} {size : Nat} {xs : List Value} (m : Mem w0 own w) (hk : own[k]? = some (.row (.slice A n c') ty size n xs)) (h : 0 < n) : ∃ g, A = some ⟨g, 0, none⟩ := by
  rcases (m.ok k _ hk).2.2 with ⟨e, h0⟩ | ⟨g, cap, cur, e, _⟩
  · omega
  · cases e
    exact ⟨g, rfl⟩
theorem row_cap {own : List Own} {w : World} {k : Nat} {A : Option Addr} {n c' : Nat} {ty : TypeId} {size : Nat} {xs : List Value} (m : Mem w0 own w) (hk : own[k]? = some (.row (.slice A n c') ty size n xs)) : n ≤ c' := by
  rcases (m.ok k _ hk).2.2 with ⟨e, h0⟩ | ⟨g, cap, cur, e, _, _, hnc, _⟩
  · injection e with e1 e2 e3
    omega
  · injection e with e1 e2 e3
    omega
theorem append_case (hT : TabOk P T) {own : List Own} {w : World} {k : Nat} {s : Value} {e t : TypeId} {ei ti : TI} {n : Nat} {xs : List Value} (m : Mem w0 own w) (hk : own[k]? = some (.row s e ei.size n xs))
    (hd : ti.desc = .slice e) (ht : T.ty t = some ti) (he : T.ty e = some ei) (hb : ei.bytes ≤ 4096) (hs : 1 ≤ ei.size) {g off mm c : Nat} (news : List Value) (hl : news.length = mm * ei.size)
    (hr : ∀ (j : Nat) u, news[j]? = some u → Rd w0 own g (off + j) u) (h1 : news.all (·.oneCell') = true) (hn : n + mm ≤ 17179869184) (ty : TypeId) :
    ∃ A c' w', (Builtin.append_ #[t, t] ty #[s, .slice (some ⟨g, off, none⟩) mm c]).run P w = .ok (.slice A (n + mm) c') w' ∧ Mem w0 (own.set k (.row (.slice A (n + mm) c') e ei.size (n + mm) (xs ++ news))) w' := by
  have hu := hT.und t _ ht
  rw [hd] at hu
  obtain ⟨i, z, q1, q2, q3, q4, q5⟩ := hT.info e _ he
  have hown := m.ok k _ hk
  have hcells : ∀ j u, news[j]? = some u → w.cell? ((⟨g, off, none⟩ : Addr).add j) = some u := fun j u hj => by
    rw [add_none]
    exact (hr j u hj).cell m.toMemR
  have hz : z.cells.size = ei.size := by
    rw [q5, List.size_toArray]
    exact (hT.zl e _ he)
  obtain ⟨v', w', hrun, h2, h3, _, h5⟩ := run_append_own_at (P := P) w 0 t ty e i z ei.size ei.bytes hu q1 q4 q2 q3 hz (by omega) s n xs hown.2 ⟨g, off, none⟩ mm c news hl hcells (all_one h1) (by unfold maxLen; omega)
    (by have : (n + mm) * ei.bytes ≤ 17179869184 * 4096 := Nat.mul_le_mul hn hb; omega) (Nat.zero_le _)
  have hform : ∃ A c', v' = .slice A (n + mm) c' := by
    rcases h2.2 with ⟨rfl, h0⟩ | ⟨g', cap, cur, rfl, _⟩
    · exact ⟨none, 0, by rw [h0]⟩
    · exact ⟨_, _, rfl⟩
  obtain ⟨A, c', rfl⟩ := hform
  have hnew : ∀ b, (Value.slice A (n + mm) c').ownBlock = some b → w0.mine b := fun b hb => by
    rcases h5 with e1 | e1
    · exact hown.1 b (by rw [← e1]; exact hb)
    · left
      have : some w.heap.size = some b := e1.symm.trans hb
      injection this with this
      rw [← this]
      exact m.ge
  refine ⟨A, c', w', hrun, m.turn hk ?_ ⟨hnew, h2⟩ (fun b hb hlt => h3.block b hlt (fun e1 => hb e1.symm)) (fun b hb => ?_)⟩
  · refine m.keeps.step h3.os h3.tape h3.output h3.size fun b q1 q2 => h3.block b (Nat.lt_of_lt_of_le q1 m.ge) fun e1 => ?_
    rcases hown.1 b e1.symm with q3 | q3
    · omega
    · exact q2 q3
  · rcases h5 with e1 | e1
    · exact .inl (by show s.ownBlock = some b; rw [← e1]; exact hb)
    · right
      have : some w.heap.size = some b := e1.symm.trans hb
      injection this with this
      omega
theorem vEff.sound (hT : TabOk P T) {own : List Own} {fr : List Value} {w : World} {o : Oper} {K : Value → List Own → Prop} {Q : Exit → Act → World → Prop} (h : vEff P T w0 own (evF fr) o.op K) (m : Mem w0 own w) :
    o.wp P ⟨fr.toArray, []⟩ w (Left w0 fr o.dst K) Q := by
  generalize hop : o.op = op at h
  unfold vEff at h
  split at h
  · -- alloc
    rename_i t
    split at h
    · rename_i ti ht
      obtain ⟨z, hz, hr⟩ := hT.zv ht w
      refine wp_value (v := .pointer (some ⟨w.heap.size, 0, none⟩)) (w' := w.alloc (.cells ti.zero.toArray t)) ?_ ⟨_, _, (h w.heap.size).out, rfl, m.alloc t ti.zero⟩
      simp [execOp, hop, Instr.alloc, hr, newVar, newRow, hz]
    · exact h.elim
  · -- box
    rename_i t x
    refine wp_value (v := .pointer (some ⟨w.heap.size, 0, none⟩)) (w' := w.alloc (.cells (evF fr x).cells t)) ?_ ⟨_, _, (h w.heap.size).out.out, rfl, ?_⟩
    · rw [evF_eq]
      simp [execOp, hop, Instr.box, newVar, newRow]
    · have := m.alloc t (evF fr x).cells.toList
      simpa using this
  · -- store
    rename_i t a x
    split at h
    · rename_i ti g off ht ha
      have h := h.out
      have fin : ∀ {own'}, (∃ w', (storeCells ⟨g, off, none⟩ (evF fr x).cells.toList 0).run P w = .ok () w' ∧ Mem w0 own' w') → (evF fr x).cells.toList.length = ti.size → K undef own' → o.wp P ⟨fr.toArray, []⟩ w (Left w0 fr o.dst K) Q := fun ⟨w', hr, m'⟩ hn c => by
        refine wp_skipped (w' := w') ?_ ⟨_, _, c, rfl, m'⟩
        have hsz : (evF fr x).cells.size = ti.size := by rw [← hn]; simp
        rw [evF_eq]
        simp [execOp, hop, ha, Instr.storeAt, Instr.sureAddr, storeVar, hT.sz ht, hsz, hr]
      rcases h with ⟨k, hk, _, hn, hl, h1, c⟩ | ⟨k, hk, hn, hl, h1, c⟩ | ⟨k, hk, hn, hl, h1, c⟩ | ⟨k, hk, hv, hn, hl, h1, c⟩
      · exact fin (storeCells_blk (P := P) (off := off) _ 0 _ own w m hk (by simpa using hl) h1) hn c.out.out
      · exact fin (storeCells_blk (P := P) (off := off) _ 0 _ own w m hk (by simpa using hl) h1) hn c.out
      · exact fin (storeCells_row (P := P) (off := off) _ 0 _ own w m hk (by simpa using hl) h1) hn c.out
      · exact fin (by rw [hv]; exact storeCells_txt (P := P) _ own w m hk hl h1) (by rw [hv, hn]; rfl) c.out
    · exact h.elim
  · -- makeSlice
    rename_i t l c
    split at h
    · rename_i e s1 s2 s3 s4 l' c' ht hl hc
      have hu := hT.und t _ ht
      split at h
      · rename_i ei he
        split at h
        · rename_i hb
          obtain ⟨i, z, q1, q2, q3, q4, q5⟩ := hT.info e _ he
          obtain ⟨mm, rfl, rfl, hm, k⟩ := h
          have hr := run_make_z (P := P) t e z ei.size ei.bytes hu (by rw [q1]; simp [q2, q3, q4]) .i64 .i64 mm hm (Nat.le_of_ble_eq_true hb) w
          refine wp_value (w' := w.alloc (.cells (zeros z (mm * ei.size)) e)) ?_ ⟨_, _, (k w.heap.size).out, rfl, ?_⟩
          · rw [evF_eq]
            simp only [execOp, hop, hl, hc, Sem.run_bind, hr, Result.andThen_ok]
            rfl
          · have := m.alloc e (zerosL ei.zero (mm * ei.size))
            unfold zerosL at this ⊢
            rw [Array.toArray_toList] at this
            unfold zeros
            rw [q5]
            exact this
        · exact h.elim
      · exact h.elim
    · exact h.elim
  · -- convert
    rename_i s d x
    split at h
    · rename_i s1 s2 s3 s4 e q1 q2 q3 q4 t hs hd hx
      split at h
      · rename_i r1 r2 r3 r4 he
        have hu := hT.und s _ hs
        have hv := hT.und d _ hd
        have he' := hT.und e _ he
        have hr := Lib.run_convert_string_bytes (P := P) w s d e t hu hv he'
        refine wp_value (v := .slice (some ⟨w.heap.size, 0, none⟩) t.size (grownCap w t.size 0 e)) (w' := Lib.bytesWorld w e t) ?_ ⟨_, _, (h w.heap.size _).out, rfl, m.newTxt e t⟩
        rw [evF_eq]
        simp [execOp, hop, hx, hr]
      · exact h.elim
    · exact h.elim
  · -- buildSlice
    rename_i t len0 parts
    split at h
    · rename_i e s1 s2 s3 s4 ht
      have hu := hT.und t _ ht
      split at h
      · rename_i ei he
        obtain ⟨z, hz, hzr⟩ := hT.zv he w
        split at h
        · rename_i hp
          have hp' : parts = #[] := by simpa using hp
          refine wp_value (v := .slice (some ⟨w.heap.size, 0, none⟩) 0 0) (w' := w.alloc (.cells #[] e)) ?_ ⟨_, _, (h w.heap.size).out, rfl, m.allocRow e ei.size⟩
          simp [execOp, hop, hp', Instr.buildSlice, run_underlying hu, hT.sz he, Instr.fill, newRow, Array.range_zero']
        · rename_i len l2 l3 l4
          clear l4
          split at h
          · rename_i cs h1 h2 h3 hf
            have e1 : len * ei.size ≤ 16777216 := Nat.le_of_ble_eq_true h1
            have e4 : 1 ≤ len * ei.size := Nat.le_of_ble_eq_true h2
            have e2 : 1 ≤ ei.size := by rcases Nat.eq_zero_or_pos ei.size with h9 | h9; (rw [h9] at e4; omega); exact h9
            have e3 : ei.zero.length = ei.size := Nat.eq_of_beq_eq_true h3
            have hfill := fillL.sound _ _ _ hf
            rw [← zerosB_eq ei.zero len (by omega)] at hfill
            refine wp_value (v := .slice (some ⟨w.heap.size, 0, none⟩) len len) (w' := w.alloc (.cells cs.toArray e)) ?_ ⟨_, _, (h w.heap.size).out.out, rfl, m.alloc e cs⟩
            have hl0 : ¬ (len * ei.size = 0) := by omega
            · rw [evF_eq]
              rw [e3] at hfill
              simp [execOp, hop, Instr.buildSlice, run_underlying hu, hT.sz he, newRow, show ¬ (16777216 < len * ei.size) by omega, hl0, hzr, hz]
              simp at hfill
              rw [hfill]
              simp
          · exact h.elim
      · exact h.elim
    · exact h.elim
  · -- call
    rename_i c
    split at h
    · rename_i hc
      split at h
      · unfold vAppend at h
        split at h
        · rename_i t t' s x hts hxs
          split at h
          · rename_i e s1 s2 s3 s4 htt ht
            split at h
            · rename_i ei he
              have e0 : t = t' := Nat.eq_of_beq_eq_true htt
              subst e0
              split at h
              · rename_i hb1 hb2
                have hb := Nat.le_of_ble_eq_true hb1
                have hsz := Nat.le_of_ble_eq_true hb2
                have hargs : c.args.map (evF fr) = #[s, x] := by
                  apply Array.toList_inj.1
                  simpa using hxs
                have hty : c.argTypes = #[t, t] := Array.toList_inj.1 (by simpa using hts)
                have hgo : ∀ {v : Value} {w' : World}, (Builtin.append_ #[t, t] o.type #[s, x]).run P w = .ok v w' → (execOp (⟨fr.toArray, []⟩ : Act).eval o).run P w = .ok (.value v) w' := fun hr => by
                  rw [evF_eq]
                  simp only [execOp, hop, resolve, hc, invoke, builtin, Sem.run_bind, Sem.run_pure, Result.andThen_ok, hargs, hty, hr]
                rcases h with ⟨k, hk, hx, news, hl, hr, h1, hn, kk⟩ | ⟨hs, hx, news, hl, hr, h1, hn, kk⟩ | ⟨k, hk, hx, kk⟩
                · subst hx
                  obtain ⟨A, c', w', hrun, m'⟩ := append_case hT m hk rfl ht he hb hsz news hl hr h1 hn o.type
                  exact wp_value (hgo hrun) ⟨_, _, (kk A c' ⟨row_some m' (get_set hk), row_cap m' (get_set hk)⟩).out, rfl, m'⟩
                · subst hx hs
                  have m1 := m.pushNil e ei.size
                  have hk : (own ++ [Own.row (.slice none 0 0) e ei.size 0 []])[own.length]? = some (.row (.slice none 0 0) e ei.size 0 []) := by simp
                  obtain ⟨A, c', w', hrun, m'⟩ := append_case hT m1 hk rfl ht he hb hsz news hl (fun j u hj => by
                    cases hr j u hj with
                    | own q hq hv => exact .own q (by rw [List.getElem?_append_left (by rcases Nat.lt_or_ge q own.length with h9 | h9; exact h9; rw [List.getElem?_eq_none h9] at hq; cases hq)]; exact hq) hv
                    | row q hq hv => exact .row q (by rw [List.getElem?_append_left (by rcases Nat.lt_or_ge q own.length with h9 | h9; exact h9; rw [List.getElem?_eq_none h9] at hq; cases hq)]; exact hq) hv
                    | txt q hq hv => exact .txt q (by rw [List.getElem?_append_left (by rcases Nat.lt_or_ge q own.length with h9 | h9; exact h9; rw [List.getElem?_eq_none h9] at hq; cases hq)]; exact hq) hv
                    | old hg hl hv => exact .old hg hl hv) h1 (by omega) o.type
                  simp only [Nat.zero_add, List.nil_append] at hrun m'
                  have e9 : ∀ x y : Own, (own ++ [x]).set own.length y = own ++ [y] := fun x y => by simp
                  rw [e9] at m'
                  exact wp_value (hgo hrun) ⟨_, _, (kk A c' (row_some (k := own.length) m' (by rw [List.getElem?_append_right (Nat.le_refl _), Nat.sub_self]; rfl))).out, rfl, m'⟩
                · subst hx
                  obtain ⟨i, z, q1, q2, q3, q4, q5⟩ := hT.info e _ he
                  have hu := hT.und t _ ht
                  refine wp_value (hgo (v := s) (w' := w) ?_) ⟨_, _, kk, rfl, m⟩
                  have hown := m.ok k _ hk
                  rcases hown.2.2 with ⟨rfl, _⟩ | ⟨g, cap, cur, rfl, _, _, hnc, _⟩
                  · simp [Builtin.append_, run_underlying hu, sizeOf, typeInfo, q1, Builtin.lenOf, Builtin.firstCells]
                  · simp [Builtin.append_, run_underlying hu, sizeOf, typeInfo, q1, Builtin.lenOf, Builtin.firstCells, hnc, storeCells]
              · exact h.elim
            · exact h.elim
          · exact h.elim
        · exact h.elim
      · skip
        obtain ⟨I, val, own', hrun, kk⟩ := h
        have e9 : (List.map (evF fr) c.args.toList).toArray = c.args.map (evF fr) := by apply Array.toList_inj.1; simp
        obtain ⟨i, w', hi, hr, m'⟩ := hrun o.type (c.args.map fun | .const _ => true | _ => false) w m
        refine wp_value (v := val i) (w' := w') ?_ ⟨_, _, kk i hi, rfl, m'⟩
        rw [evF_eq]
        simp only [execOp, hop, resolve, hc, invoke, Sem.run_bind, Sem.run_pure, Result.andThen_ok]
        rw [e9] at hr
        rw [show c.argTypes.toList.toArray = c.argTypes by simp] at hr
        exact hr
    · rename_i hc
      obtain ⟨I, val, own', hrun, kk⟩ := h
      have e9 : (List.map (evF fr) c.args.toList).toArray = c.args.map (evF fr) := by apply Array.toList_inj.1; simp
      obtain ⟨i, w', hi, hr, m'⟩ := hrun o.type (c.args.map fun | .const _ => true | _ => false) w m
      refine wp_value (v := val i) (w' := w') ?_ ⟨_, _, kk i hi, rfl, m'⟩
      rw [evF_eq]
      simp only [execOp, hop, resolve, hc, invoke, Sem.run_bind, Sem.run_pure, Result.andThen_ok]
      rw [e9] at hr
      rw [show c.argTypes.toList.toArray = c.argTypes by simp] at hr
      exact hr
    · rename_i hc
      obtain ⟨I, val, own', hrun, kk⟩ := h
      have e9 : (List.map (evF fr) c.args.toList).toArray = c.args.map (evF fr) := by apply Array.toList_inj.1; simp
      obtain ⟨i, w', hi, hr, m'⟩ := hrun o.type (c.args.map fun | .const _ => true | _ => false) w m
      refine wp_value (v := val i) (w' := w') ?_ ⟨_, _, kk i hi, rfl, m'⟩
      rw [evF_eq]
      simp only [execOp, hop, resolve, hc, invoke, Sem.run_bind, Sem.run_pure, Result.andThen_ok]
      rw [e9] at hr
      rw [show c.argTypes.toList.toArray = c.argTypes by simp] at hr
      exact hr
    · rename_i hc
      obtain ⟨I, val, own', hrun, kk⟩ := h
      have e9 : (List.map (evF fr) c.args.toList).toArray = c.args.map (evF fr) := by apply Array.toList_inj.1; simp
      obtain ⟨i, w', hi, hr, m'⟩ := hrun o.type (c.args.map fun | .const _ => true | _ => false) w m
      refine wp_value (v := val i) (w' := w') ?_ ⟨_, _, kk i hi, rfl, m'⟩
      rw [evF_eq]
      simp only [execOp, hop, resolve, hc, invoke, Sem.run_bind, Sem.run_pure, Result.andThen_ok]
      rw [e9] at hr
      rw [show c.argTypes.toList.toArray = c.argTypes by simp] at hr
      exact hr
    · rename_i f hc
      split at h
      · rename_i f' first caps hf
        split at h
        · rename_i hfn
          obtain ⟨fn, q1, q2, q3⟩ := hT.fns f' hfn
          obtain ⟨I, val, own', hcall, kk⟩ := h
          refine wp_entered (w' := w) (f := f') (args := (first.toList ++ (c.args.toList.map (evF fr)) ++ caps.toList).toArray) ?_ ((hcall w m).mono fun e w' ⟨i, hi, he, m'⟩ => ⟨_, he, _, _, (kk i hi).out, rfl, m'⟩)
          rw [evF_eq]
          cases hb : fn.body with
          | none => rw [hb] at q2; cases q2
          | some cc =>
            have hcf := MuLone.run_callFunc_enter (P := P) q1 q3 hb ((first ++ c.args.map (evF fr)) ++ caps) w
            simp only [execOp, hop, resolve, hc, hf, Deferred.ofValue, invoke, Sem.run_bind, Sem.run_pure, Result.andThen_ok, hcf]
            congr 2
            apply Array.toList_inj.1
            simp
        · obtain ⟨I, val, own', hrun, kk⟩ := h
          obtain ⟨i, w', hi, hr, m'⟩ := hrun w m
          refine wp_value (v := val i) (w' := w') ?_ ⟨_, _, kk i hi, rfl, m'⟩
          rw [evF_eq]
          have e9 : (first.toList ++ (c.args.toList.map (evF fr)) ++ caps.toList).toArray = (first ++ c.args.map (evF fr)) ++ caps := by apply Array.toList_inj.1; simp
          rw [e9] at hr
          simp only [execOp, hop, resolve, hc, hf, Deferred.ofValue, invoke, Sem.run_bind, Sem.run_pure, Result.andThen_ok]
          exact hr
      · exact h.elim
    · exact h.elim
  · exact h.elim
end
end Go.Proofs.YtadjhkehfklmnaaGreatDoor
namespace Go.Proofs.YtadjhkehfklmnaaGreatDoor
set_option linter.unusedSimpArgs false
set_option linter.unusedVariables false
open Go.RowKit
def gv (ops : List Oper) (fr : List Value) (j : Nat) : Option Bool :=
  match ops[j]? with
  | none => none
  | some o => match o.dst with
    | none => none
    | some d => match fr[d]? with
      | some (.bool b) => some b
      | _ => none
def wantO (g : Option (Nat × Bool)) (ops : List Oper) (fr : List Value) : Option Bool :=
  match g with
  | none => some true
  | some (j, wt) => match gv ops fr j, wt with
    | none, _ => some false
    | some true, true => some true
    | some false, false => some true
    | some true, false => some false
    | some false, true => some false
def setO (fr : List Value) (dst : Option Tmp) (v : Value) : List Value :=
  match dst with
  | some d => fr.set d v
  | none => fr
def putK (fr : List Value) (dst : Option Tmp) (v : Value) (K : List Value → Prop) : Prop :=
  match dst with
  | some d => force v fun v => setK fr d v K
  | none => K fr
theorem putK.out {fr : List Value} {dst : Option Tmp} {v : Value} {K : List Value → Prop} (h : putK fr dst v K) : K (setO fr dst v) := by
  unfold putK at h
  cases dst with
  | none => exact h
  | some d => exact h.out.out
def vOp (P : Program) (T : Tab) (w0 : Base) (o : Oper) (fr : List Value) (own : List Own) (K : Value → List Own → Prop) : Prop :=
  match isEff o.op || isConv T o.op with
  | true => vEff P T w0 own (evF fr) o.op K
  | false => vCalm T w0 own (evF fr) o.op fun v => K v own
def opStep (P : Program) (T : Tab) (w0 : Base) (ops : List Oper) (o : Oper) (S : St) (ih : St → Prop) : Prop :=
  match S with
  | ⟨fr, own⟩ => match wantO o.guard ops fr with
    | some true => vOp P T w0 o fr own fun v own => putK fr o.dst v fun fr => ih ⟨fr, own⟩
    | some false => putK fr o.dst undef fun fr => ih ⟨fr, own⟩
    | none => False
noncomputable def vcOps (P : Program) (T : Tab) (w0 : Base) (ops : List Oper) (K : St → Prop) (l : List Oper) : St → Prop :=
  List.rec (motive := fun _ => St → Prop) (fun S => K S) (fun o _ ih S => opStep P T w0 ops o S ih) l
theorem vcOps_cons {P : Program} {T : Tab} {w0 : Base} {ops : List Oper} {K : St → Prop} {o : Oper} {rest : List Oper} {fr : List Value} {own : List Own} : vcOps P T w0 ops K (o :: rest) ⟨fr, own⟩ = (match wantO o.guard ops fr with
    | some true => vOp P T w0 o fr own fun v own => putK fr o.dst v fun fr => vcOps P T w0 ops K rest ⟨fr, own⟩
    | some false => putK fr o.dst undef fun fr => vcOps P T w0 ops K rest ⟨fr, own⟩
    | none => False) := rfl
inductive Plan where
  | done
  | take (i : Nat) (p : Plan)
  | br (i : Nat) (p q : Plan)
def Plan.isTake : Plan → Bool
  | .take _ _ => true
  | _ => false
def Plan.ok (ops : Array Oper) : Plan → Nat → Array Bool → List Nat → Bool
  | .done, _, _, rs => rs.isEmpty
  | .take _ _, 0, _, _ => false
  | .take i p, f + 1, l, rs => rs.contains i && Region.free .any ops l i && p.ok ops f (l.setIfInBounds i true) (Region.ready .any ops (l.setIfInBounds i true))
  | .br _ _ _, 0, _, _ => false
  | .br i p q, f + 1, l, rs => match rs with
    | [] => false
    | r :: rs' => Nat.beq r i && p.ok ops f (l.setIfInBounds i true) (Region.ready .any ops (l.setIfInBounds i true)) && q.ok ops (f + 1) l rs' && !q.isTake
inductive VKeep (p K : Prop) : Prop
  | mk (h : p) (k : K) : VKeep p K
inductive VDone (K : St → Prop) (S : St) : Prop
  | same (k : K S) : VDone K S
  | order (ks : List Nat) (hn : ks.Nodup) (own' : List Own) (h : own' = ks.map fun k => S.own.getD k .gone) (k : K ⟨S.fr, own'⟩) : VDone K S
def fixOf (fix : List Nat) (own : List Own) : List Own := fix.map fun k => own.getD k .gone
def doneStep (K : St → Prop) (b : Bool) (S : St) : Prop :=
  match b with
  | true => VDone K S
  | false => True
def takeStep (P : Program) (T : Tab) (w0 : Base) (ops : List Oper) (F : List Own) (i : Nat) (S : St) (ih : Bool → St → Prop) : Prop :=
  match S with
  | ⟨fr, own⟩ => match ops[i]? with
    | none => False
    | some o => match wantO o.guard ops fr with
      | some true => vCalm T w0 F (evF fr) o.op fun v => putK fr o.dst v fun fr => ih true ⟨fr, own⟩
      | some false => putK fr o.dst undef fun fr => ih true ⟨fr, own⟩
      | none => False
def brStep (P : Program) (T : Tab) (w0 : Base) (ops : List Oper) (fix : List Nat) (F : List Own) (i : Nat) (S : St) (ih : Bool → St → Prop) : Prop :=
  match S with
  | ⟨fr, own⟩ => match ops[i]? with
    | none => False
    | some o => match wantO o.guard ops fr with
      | some true => vOp P T w0 o fr own fun v own => VKeep (fixOf fix own = F) (putK fr o.dst v fun fr => ih true ⟨fr, own⟩)
      | some false => putK fr o.dst undef fun fr => ih true ⟨fr, own⟩
      | none => False
noncomputable def vcPlan (P : Program) (T : Tab) (w0 : Base) (ops : List Oper) (fix : List Nat) (F : List Own) (K : St → Prop) (p : Plan) : Bool → St → Prop :=
  Plan.rec (motive := fun _ => Bool → St → Prop) (fun b S => doneStep K b S) (fun i _ ih _ S => takeStep P T w0 ops F i S ih) (fun i _ _ ihp ihq _ S => brStep P T w0 ops fix F i S ihp ∧ ihq false S) p
theorem vcPlan_take {P : Program} {T : Tab} {w0 : Base} {ops : List Oper} {fix : List Nat} {F : List Own} {K : St → Prop} {i : Nat} {p : Plan} {b : Bool} {fr : List Value} {own : List Own} : vcPlan P T w0 ops fix F K (.take i p) b ⟨fr, own⟩ = (match ops[i]? with
    | none => False
    | some o => match wantO o.guard ops fr with
      | some true => vCalm T w0 F (evF fr) o.op fun v => putK fr o.dst v fun fr => vcPlan P T w0 ops fix F K p true ⟨fr, own⟩
      | some false => putK fr o.dst undef fun fr => vcPlan P T w0 ops fix F K p true ⟨fr, own⟩
      | none => False) := rfl
theorem vcPlan_br {P : Program} {T : Tab} {w0 : Base} {ops : List Oper} {fix : List Nat} {F : List Own} {K : St → Prop} {i : Nat} {p q : Plan} {b : Bool} {fr : List Value} {own : List Own} : vcPlan P T w0 ops fix F K (.br i p q) b ⟨fr, own⟩ = ((match ops[i]? with
    | none => False
    | some o => match wantO o.guard ops fr with
      | some true => vOp P T w0 o fr own fun v own => VKeep (fixOf fix own = F) (putK fr o.dst v fun fr => vcPlan P T w0 ops fix F K p true ⟨fr, own⟩)
      | some false => putK fr o.dst undef fun fr => vcPlan P T w0 ops fix F K p true ⟨fr, own⟩
      | none => False) ∧ vcPlan P T w0 ops fix F K q false ⟨fr, own⟩) := rfl
inductive VDraw (P : Program) (T : Tab) (w0 : Base) (ops : Array Oper) (K : St → Prop) (S : St) : Prop
  | mk (p : Plan) (fix : List Nat) (hs : Region.noSelect ops = true) (hok : p.ok ops ops.size (Array.replicate ops.size false) (Region.ready .any ops (Array.replicate ops.size false)) = true)
      (h : vcPlan P T w0 ops.toList fix (fixOf fix S.own) K p true S) : VDraw P T w0 ops K S
section
variable {P : Program} {T : Tab} {w0 : Base}
theorem yielded_eq (ops : List Oper) (fr : List Value) (j : Nat) : yielded ops.toArray fr.toArray j = gv ops fr j := by
  unfold yielded gv
  cases h : ops[j]? with
  | none => simp [h]
  | some o =>
    cases hd : o.dst with
    | none => simp [h, hd]
    | some d =>
      simp only [List.getElem?_toArray, h, Option.bind_some, hd]
      rfl
theorem wanted_eq {o : Oper} {ops : List Oper} {fr : List Value} {b : Bool} (h : wantO o.guard ops fr = some b) : Region.wanted o (yielded ops.toArray fr.toArray) = b := by
  unfold wantO at h
  unfold Region.wanted
  split at h
  · rename_i hg
    cases h
    simp [hg]
  · rename_i j wt hg
    simp only [hg, yielded_eq]
    split at h <;> first | (cases h; done) | (cases h; simp_all)
theorem put_eq (fr : List Value) (dst : Option Tmp) (v : Value) : (⟨fr.toArray, []⟩ : Act).put dst v = ⟨(setO fr dst v).toArray, []⟩ := by
  cases dst <;> simp [Act.put, setO]
theorem vOp.sound (hT : TabOk P T) {o : Oper} {S : St} {K : Value → List Own → Prop} {w : World} {Q : Exit → Act → World → Prop} (h : vOp P T w0 o S.fr S.own K) (m : Mem w0 S.own w) : o.wp P ⟨S.fr.toArray, []⟩ w (Left w0 S.fr o.dst K) Q := by
  unfold vOp at h
  split at h
  · exact vEff.sound hT h m
  · obtain ⟨v, k, e⟩ := vCalm.sound hT w m.toMemR h
    refine wp_value (v := v) (w' := w) ?_ ⟨v, _, k, rfl, m⟩
    rw [evF_eq]
    exact e w m.toMemR
theorem vcOps.sound (hT : TabOk P T) {ops : List Oper} {K : St → Prop} {Q : Exit → Act → World → Prop} (hK : ∀ S w, K S → Mem w0 S.own w → Q .normal ⟨S.fr.toArray, []⟩ w) :
    ∀ (l : List Oper) (S : St) (w : World), vcOps P T w0 ops K l S → Mem w0 S.own w → wpList P ops.toArray Q l ⟨S.fr.toArray, []⟩ w
  | [], S, w, h, m => hK S w h m
  | o :: rest, ⟨fr, own⟩, w, h, m => by
    rw [vcOps_cons] at h
    unfold wpList
    split at h
    · rename_i hw
      rw [if_pos (wanted_eq hw)]
      refine .inl (Oper.wp_mono (fun a' w' hl => ?_) (vOp.sound (S := ⟨fr, own⟩) hT h m))
      obtain ⟨v, own', k, rfl, m'⟩ := hl
      rw [put_eq]
      exact vcOps.sound hT hK rest ⟨_, own'⟩ w' k.out m'
    · rename_i hw
      rw [if_neg (by rw [wanted_eq hw]; decide)]
      rw [put_eq]
      exact vcOps.sound hT hK rest ⟨_, own⟩ w h.out m
    · exact h.elim
def NoP (Q : Exit → Act → World → Prop) : Exit → Act → World → Prop
  | .panic _, _, _ => False
  | e, a, w => Q e a w
theorem NoP.imp {Q : Exit → Act → World → Prop} : ∀ e a w, NoP Q e a w → Q e a w := fun e a w h => by
  cases e <;> first | exact h | exact (show False from h).elim
theorem vcPlan.sound (hT : TabOk P T) {ops : List Oper} {fix : List Nat} {F : List Own} {K : St → Prop} {Q : Exit → Act → World → Prop} (hs : Region.noSelect ops.toArray = true) (hK : ∀ S w, K S → Mem w0 S.own w → Q .normal ⟨S.fr.toArray, []⟩ w) :
    ∀ (p : Plan) (f : Nat) (l : Array Bool) (rs : List Nat) (S : St) (w : World) (b : Bool), p.ok ops.toArray f l rs = true → vcPlan P T w0 ops fix F K p b S → Mem w0 S.own w → fixOf fix S.own = F → (b = false → p.isTake = false) →
      (b = true → rs = Region.ready .any ops.toArray l → wpAnyH P .any ops.toArray (NoP Q) (MemR w0 F) f l ⟨S.fr.toArray, []⟩ w) ∧
      (b = false → ∀ f', f = f' + 1 → ∀ i ∈ rs, wpOp P ops.toArray (NoP Q) i (fun a' w' => MemR w0 F w' ∧ wpAnyH P .any ops.toArray (NoP Q) (MemR w0 F) f' (l.setIfInBounds i true) a' w') ⟨S.fr.toArray, []⟩ w)
  | .done, f, l, rs, S, w, b, hok, h, m, hF, _ => by
    have hrs : rs = [] := by simpa [Plan.ok] using hok
    subst hrs
    refine ⟨fun hb hr => ?_, fun hb f' _ i hi => by simp at hi⟩
    subst hb
    have h' : VDone K S := h
    rcases h' with ⟨k⟩ | ⟨ks, hn, own', e, k⟩
    · exact wpAnyH_done (Q := NoP Q) hr.symm (show NoP Q .normal _ _ from hK S w k m) f
    · exact wpAnyH_done (Q := NoP Q) hr.symm (show NoP Q .normal _ _ from hK ⟨S.fr, own'⟩ w k (by rw [show (⟨S.fr, own'⟩ : St).own = own' from rfl, e]; exact m.sel hn)) f
  | .take i p, 0, l, rs, S, w, b, hok, h, m, hF, _ => by simp [Plan.ok] at hok
  | .take i p, f + 1, l, rs, ⟨fr, own⟩, w, b, hok, h, m, hF, hb0 => by
    simp only [Plan.ok, Bool.and_eq_true] at hok
    obtain ⟨⟨h1, h2⟩, h3⟩ := hok
    rw [vcPlan_take] at h
    have mF : MemR w0 F w := by rw [← hF]; exact m.toR fix
    split at h
    · exact h.elim
    · rename_i o ho
      have ho' : ops.toArray[i]? = some o := by simpa using ho
      have key : ∀ v, YieldsIf P ops.toArray (MemR w0 F) o v ⟨fr.toArray, []⟩ → vcPlan P T w0 ops fix F K p true ⟨setO fr o.dst v, own⟩ → (Region.ready .any ops.toArray l).contains i = true → wpAnyH P .any ops.toArray (NoP Q) (MemR w0 F) (f + 1) l ⟨fr.toArray, []⟩ w := fun v hy hv hr => by
        refine wpAnyH_take ho' hs h2 hr (fun _ _ _ hh => hh) hy mF ?_
        rw [put_eq]
        exact (vcPlan.sound hT hs hK p f _ _ ⟨setO fr o.dst v, own⟩ w true h3 hv m hF (fun e => by cases e)).1 rfl rfl
      have both : ∀ v, YieldsIf P ops.toArray (MemR w0 F) o v ⟨fr.toArray, []⟩ → vcPlan P T w0 ops fix F K p true ⟨setO fr o.dst v, own⟩ → b = true → rs = Region.ready .any ops.toArray l → wpAnyH P .any ops.toArray (NoP Q) (MemR w0 F) (f + 1) l ⟨fr.toArray, []⟩ w := fun v hy hv _ hr => key v hy hv (hr ▸ h1)
      cases b with
      | false => exact absurd (hb0 rfl) (by simp [Plan.isTake])
      | true =>
        refine ⟨fun hb hr => ?_, fun hb => by cases hb⟩
        split at h
        · rename_i hw
          obtain ⟨v, k, e⟩ := vCalm.sound hT w mF h
          exact both v (.inl ⟨wanted_eq hw, fun w' m' => by rw [evF_eq]; exact e w' m'⟩) k.out rfl hr
        · rename_i hw
          exact both undef (.inr ⟨wanted_eq hw, rfl⟩) h.out rfl hr
        · exact h.elim
  | .br i p q, 0, l, rs, S, w, b, hok, h, m, hF, _ => by simp [Plan.ok] at hok
  | .br i p q, f + 1, l, rs, ⟨fr, own⟩, w, b, hok, h, m, hF, _ => by
    simp only [Plan.ok] at hok
    split at hok
    · cases hok
    · rename_i r rs'
      simp only [Bool.and_eq_true] at hok
      obtain ⟨⟨⟨h1, h2⟩, h3⟩, h4⟩ := hok
      have h1 := Nat.eq_of_beq_eq_true h1
      subst h1
      rw [vcPlan_br] at h
      obtain ⟨ha, hq⟩ := h
      have mF : MemR w0 F w := by rw [← hF]; exact m.toR fix
      have first : wpOp P ops.toArray (NoP Q) r (fun a' w' => MemR w0 F w' ∧ wpAnyH P .any ops.toArray (NoP Q) (MemR w0 F) f (l.setIfInBounds r true) a' w') ⟨fr.toArray, []⟩ w := by
        unfold wpOp
        split at ha
        · exact ha.elim
        · rename_i o ho
          have ho' : ops.toArray[r]? = some o := by simpa using ho
          simp only [ho']
          split at ha
          · rename_i hw
            rw [if_pos (wanted_eq hw)]
            refine .inl (Oper.wp_mono (fun a' w' hl => ?_) (vOp.sound (S := ⟨fr, own⟩) hT ha m))
            obtain ⟨v, own', ⟨hk, k⟩, rfl, m'⟩ := hl
            refine ⟨by rw [← hk]; exact m'.toR fix, ?_⟩
            rw [put_eq]
            exact (vcPlan.sound hT hs hK p f _ _ ⟨_, own'⟩ w' true h2 k.out m' hk (fun e => by cases e)).1 rfl rfl
          · rename_i hw
            rw [if_neg (by rw [wanted_eq hw]; decide)]
            refine ⟨mF, ?_⟩
            rw [put_eq]
            exact (vcPlan.sound hT hs hK p f _ _ ⟨setO fr o.dst undef, own⟩ w true h2 ha.out m hF (fun e => by cases e)).1 rfl rfl
          · exact ha.elim
      have rest := (vcPlan.sound hT hs hK q (f + 1) l rs' ⟨fr, own⟩ w false h3 hq m hF (fun _ => by simpa using h4)).2 rfl f rfl
      have all : ∀ i ∈ r :: rs', wpOp P ops.toArray (NoP Q) i (fun a' w' => MemR w0 F w' ∧ wpAnyH P .any ops.toArray (NoP Q) (MemR w0 F) f (l.setIfInBounds i true) a' w') ⟨fr.toArray, []⟩ w := fun i hi => by
        rcases List.mem_cons.1 hi with rfl | hi
        · exact first
        · exact rest i hi
      exact ⟨fun _ hr => wpAnyH_all (hr.symm) (by simp) all, fun _ f' e i hi => by cases e; exact all i hi⟩
end
end Go.Proofs.YtadjhkehfklmnaaGreatDoor
