/-
  Verification conditions of the operations that only look: their value is settled by the frame and by what may be read.
  Conditions: none beyond each statement's own premises.
-/
import Derived.Test.YtadjhkehfklmnaaDoorV1
import Derived.Laws.Concat
import Derived.Laws.Strings
import Derived.Laws.Build
import Derived.Laws.Small
namespace Go.Proofs.YtadjhkehfklmnaaDoor
set_option linter.unusedSimpArgs false
set_option linter.unusedVariables false
open Go.RowKit

inductive VIn (x : Int) (K : Prop) : Prop
  | mk (lo : -9223372036854775808 ≤ x) (hi : x ≤ 9223372036854775807) (k : K) : VIn x K
inductive VIf (p X Y : Prop) : Prop
  | mk (t : p → X) (f : ¬ p → Y) : VIf p X Y
def splitB (v : Value) (K : Value → Prop) : Prop :=
  match v with
  | .bool b => VIf (b = true) (K (.bool true)) (K (.bool false))
  | v => K v
theorem splitB.out {v : Value} {K : Value → Prop} (h : splitB v K) : K v := by
  unfold splitB at h
  split at h
  · rename_i b
    obtain ⟨ht, hf⟩ := h
    cases b
    · exact hf (by simp)
    · exact ht rfl
  · exact h
theorem VIf.sel {p : Prop} {K : Value → Prop} (h : VIf p (K (.bool true)) (K (.bool false))) : ∃ b, K (.bool b) ∧ (b = true ↔ p) := by
  obtain ⟨ht, hf⟩ := h
  by_cases hp : p
  · exact ⟨true, ht hp, by simp [hp]⟩
  · exact ⟨false, hf hp, by simp [hp]⟩
def yes (K : Value → Prop) (p : Prop) : Prop := VIf p (K (.bool true)) (K (.bool false))
def no_ (K : Value → Prop) (p : Prop) : Prop := VIf p (K (.bool false)) (K (.bool true))
theorem yes.out {K : Value → Prop} {p : Prop} [Decidable p] (h : yes K p) : K (.bool (decide p)) := by
  obtain ⟨ht, hf⟩ := h
  by_cases hp : p
  · rw [decide_eq_true hp]; exact ht hp
  · rw [decide_eq_false hp]; exact hf hp
theorem no_.out {K : Value → Prop} {p : Prop} [Decidable p] (h : no_ K p) : K (.bool (!decide p)) := by
  obtain ⟨ht, hf⟩ := h
  by_cases hp : p
  · rw [decide_eq_true hp]; exact ht hp
  · rw [decide_eq_false hp]; exact hf hp

/-! ### What keeps the terms small: values and lists are laid out before they go on -/
def force1 (v : Value) (K : Value → Prop) : Prop :=
  match v with
  | .bool b => K (.bool b)
  | .int k n => K (.int k n)
  | .string s => K (.string s)
  | .pointer p => K (.pointer p)
  | .slice a n c => K (.slice a n c)
  | .func f x y => K (.func f x y)
  | .agg c => K (.agg c)
  | .tuple c => K (.tuple c)
  | v => K v
def forceL : List Value → (List Value → Prop) → Prop
  | [], K => K []
  | x :: xs, K => force1 x fun y => forceL xs fun ys => K (y :: ys)
def force (v : Value) (K : Value → Prop) : Prop :=
  match v with
  | .agg ⟨l⟩ => forceL l fun l => K (.agg ⟨l⟩)
  | .tuple ⟨l⟩ => forceL l fun l => K (.tuple ⟨l⟩)
  | v => force1 v K
def spineK {α : Type} : List α → (List α → Prop) → Prop
  | [], K => K []
  | x :: xs, K => spineK xs fun ys => K (x :: ys)
def setK {α : Type} : List α → Nat → α → (List α → Prop) → Prop
  | [], _, _, K => K []
  | _ :: xs, 0, v, K => K (v :: xs)
  | x :: xs, n + 1, v, K => setK xs n v fun l => K (x :: l)
def snocK {α : Type} : List α → α → (List α → Prop) → Prop
  | [], v, K => K [v]
  | x :: xs, v, K => snocK xs v fun l => K (x :: l)
theorem force1.out {v : Value} {K : Value → Prop} (h : force1 v K) : K v := by
  cases v <;> exact h
theorem forceL.out : ∀ {l : List Value} {K : List Value → Prop}, forceL l K → K l
  | [], _, h => h
  | x :: xs, K, h => by
    have h1 := force1.out h
    exact forceL.out (K := fun ys => K (x :: ys)) h1
theorem force.out {v : Value} {K : Value → Prop} (h : force v K) : K v := by
  unfold force at h
  split at h
  · exact forceL.out h
  · exact forceL.out h
  · exact force1.out h
theorem spineK.out {α : Type} : ∀ {l : List α} {K : List α → Prop}, spineK l K → K l
  | [], _, h => h
  | x :: xs, K, h => spineK.out (K := fun ys => K (x :: ys)) h
theorem setK.out {α : Type} : ∀ {l : List α} {n : Nat} {v : α} {K : List α → Prop}, setK l n v K → K (l.set n v)
  | [], _, _, _, h => h
  | _ :: xs, 0, _, _, h => h
  | x :: xs, n + 1, v, K, h => setK.out (K := fun l => K (x :: l)) h
theorem snocK.out {α : Type} : ∀ {l : List α} {v : α} {K : List α → Prop}, snocK l v K → K (l ++ [v])
  | [], _, _, h => h
  | x :: xs, v, K, h => snocK.out (K := fun l => K (x :: l)) h

/-! ### Numbers, strings, bools -/
inductive VQuo (a b : Int) (K : Int → Prop) : Prop
  | nn (ha : 0 ≤ a) (hb : 0 < b) (hi : a ≤ 9223372036854775807) (k : K (a / b)) : VQuo a b K
  | gen (hb : b ≠ 0) (lo : -9223372036854775808 ≤ a.tdiv b) (hi : a.tdiv b ≤ 9223372036854775807) (k : K (a.tdiv b)) : VQuo a b K
inductive VRem (a b : Int) (K : Int → Prop) : Prop
  | nn (ha : 0 ≤ a) (hb : 0 < b) (k : K (a % b)) : VRem a b K
  | gen (hb : b ≠ 0) (k : K (a.tmod b)) : VRem a b K
def vCmp (op : BinOp) (a b : Int) (K : Value → Prop) : Prop :=
  match op with
  | .eql => yes K (a = b)
  | .neq => no_ K (a = b)
  | .lss => yes K (a < b)
  | .leq => yes K (a ≤ b)
  | .gtr => yes K (b < a)
  | .geq => yes K (b ≤ a)
  | _ => False
def vI64 (op : BinOp) (a b : Int) (K : Value → Prop) : Prop :=
  match op with
  | .add => VIn (a + b) (K (.int .i64 (a + b)))
  | .sub => VIn (a - b) (K (.int .i64 (a - b)))
  | .mul => VIn (a * b) (K (.int .i64 (a * b)))
  | .quo => VQuo a b fun q => K (.int .i64 q)
  | .rem => VRem a b fun q => K (.int .i64 q)
  | .shl => False
  | .shr => False
  | op => vCmp op a b K
def vU8 (op : BinOp) (a b : Int) (K : Value → Prop) : Prop :=
  match op with
  | .add => K (.int .u8 (IntKind.u8.wrap (a + b)))
  | .sub => K (.int .u8 (IntKind.u8.wrap (a - b)))
  | .mul => False
  | .quo => False
  | .rem => False
  | .shl => False
  | .shr => False
  | op => vCmp op a b K
/-- Unsigned numbers of 64 bits: only that the result is one, and how big it is at most. -/
inductive VU64 (lim : Int) (K : Value → Prop) : Prop
  | mk (k : ∀ z : Int, 0 ≤ z → z ≤ lim → K (.int .u64 z)) : VU64 lim K
inductive VAnd64 (b : Int) (K : Value → Prop) : Prop
  | mk (hb : 0 ≤ b) (k : ∀ z : Int, 0 ≤ z → z ≤ b → K (.int .u64 z)) : VAnd64 b K
inductive VShr64 (a b : Int) (K : Value → Prop) : Prop
  | mk (ha : 0 ≤ a) (hb : 0 ≤ b) (k : ∀ z : Int, 0 ≤ z → z ≤ a → K (.int .u64 z)) : VShr64 a b K
def vU64 (op : BinOp) (a b : Int) (K : Value → Prop) : Prop :=
  match op with
  | .add => VU64 18446744073709551615 K
  | .mul => VU64 18446744073709551615 K
  | .and => VAnd64 b K
  | .shr => VShr64 a b K
  | _ => False
def vShift (op : BinOp) (a b : Int) (K : Value → Prop) : Prop :=
  match op with
  | .shr => VShr64 a b K
  | _ => False
inductive VCat (a b : ByteArray) (K : Value → Prop) : Prop
  | mk (h : a.size + b.size ≤ 9223372036854775807) (k : K (.string (a ++ b))) : VCat a b K
def vStr (op : BinOp) (a b : ByteArray) (K : Value → Prop) : Prop :=
  match op with
  | .add => VCat a b K
  | .eql => yes K (a = b)
  | .neq => no_ K (a = b)
  | .lss => yes K (Op.bytesLess a.toList b.toList = true)
  | _ => False
def vBool (op : BinOp) (a b : Bool) (K : Value → Prop) : Prop :=
  match op with
  | .eql => yes K (a = b)
  | .neq => no_ K (a = b)
  | _ => False
def vFields (T : Tab) (xs ys : List Value) (yes no : Prop) : List Field → Prop
  | [] => yes
  | f :: fs => match T.ty f.type, xs[f.offset]?, ys[f.offset]? with
    | some ⟨.int _, _, _, _, _⟩, some (.int .i64 a), some (.int .i64 b) => VIf (a = b) (vFields T xs ys yes no fs) no
    | some ⟨.string, _, _, _, _⟩, some (.string a), some (.string b) => VIf (a = b) (vFields T xs ys yes no fs) no
    | some ⟨.bool, _, _, _, _⟩, some (.bool a), some (.bool b) => VIf (a = b) (vFields T xs ys yes no fs) no
    | _, _, _ => False
def vAgg (T : Tab) (op : BinOp) (t : TypeId) (a b : List Value) (K : Value → Prop) : Prop :=
  match T.ty t, T.eq t with
  | some ⟨.struct fs, _, _, _, _⟩, true => match op with
    | .eql => vFields T a b (K (.bool true)) (K (.bool false)) fs.toList
    | .neq => vFields T a b (K (.bool false)) (K (.bool true)) fs.toList
    | _ => False
  | _, _ => False
/-- A comparison with the literal nil. -/
def vNil (T : Tab) (op : BinOp) (t : TypeId) (same : Bool) (K : Value → Prop) : Prop :=
  match T.ty t with
  | some ⟨.interface _, _, _, _, _⟩ => match op with
    | .eql => K (.bool same)
    | .neq => K (.bool !same)
    | _ => False
  | _ => False
def isConstO : Operand → Bool
  | .const _ => true
  | _ => false
def vBin (T : Tab) (op : BinOp) (t : TypeId) (c : Bool) (x y : Value) (K : Value → Prop) : Prop :=
  match x, y with
  | .int .i64 a, .int .i64 b => vI64 op a b K
  | .int .u8 a, .int .u8 b => vU8 op a b K
  | .int .u64 a, .int .u64 b => vU64 op a b K
  | .int .u64 a, .int .i64 b => vShift op a b K
  | .string a, .string b => vStr op a b K
  | .bool a, .bool b => match T.ty t with
    | some ⟨.bool, _, _, _, _⟩ => vBool op a b K
    | _ => False
  | .agg a, .agg b => vAgg T op t a.toList b.toList K
  | .iface _ _, .nilIface => vNil T op t false K
  | .nilIface, .nilIface => match c with
    | true => vNil T op t true K
    | false => False
  | _, _ => False
def vUn (op : UnOp) (x : Value) (K : Value → Prop) : Prop :=
  match op, x with
  | .not, .bool true => K (.bool false)
  | .not, .bool false => K (.bool true)
  | .neg, .int .i64 a => VIn (-a) (K (.int .i64 (-a)))
  | _, _ => False
theorem bytes_ext (a b : ByteArray) : (a.toList == b.toList) = decide (a = b) := by
  rw [Bool.eq_iff_iff]
  simp only [beq_iff_eq, decide_eq_true_eq]
  refine ⟨fun h => ?_, fun h => by rw [h]⟩
  rw [ByteArray.toList_eq, ByteArray.toList_eq] at h
  cases a; cases b
  simp only [ByteArray.mk.injEq]
  exact Array.toList_inj.1 h
theorem wrap_i64_id {x : Int} (lo : -9223372036854775808 ≤ x) (hi : x ≤ 9223372036854775807) : IntKind.i64.wrap x = x := by
  rw [IntKind.wrap_i64]; omega
section
variable {P : Program} {T : Tab} {K : Value → Prop}
theorem vCmp.sound {op : BinOp} {a b : Int} (h : vCmp op a b K) : ∃ v, K v ∧ ∀ w, (Op.intCmp op a b).run P w = .ok v w := by
  unfold vCmp at h
  split at h
  · exact ⟨_, h.out, fun w => by simp [Op.intCmp]; rfl⟩
  · exact ⟨_, h.out, fun w => by simp [Op.intCmp, bne]; rfl⟩
  · exact ⟨_, h.out, fun w => rfl⟩
  · exact ⟨_, h.out, fun w => rfl⟩
  · exact ⟨_, h.out, fun w => rfl⟩
  · exact ⟨_, h.out, fun w => rfl⟩
  · exact h.elim
theorem vI64.sound {op : BinOp} {t : TypeId} {a b : Int} (h : vI64 op a b K) : ∃ v, K v ∧ ∀ w, (binOp op t (.int .i64 a) (.int .i64 b)).run P w = .ok v w := by
  unfold vI64 at h
  split at h
  · obtain ⟨lo, hi, k⟩ := h
    exact ⟨_, k, fun w => by simp [binOp_add, Op.intArith, wrap_i64_id lo hi]⟩
  · obtain ⟨lo, hi, k⟩ := h
    exact ⟨_, k, fun w => by simp [binOp_sub, Op.intArith, wrap_i64_id lo hi]⟩
  · obtain ⟨lo, hi, k⟩ := h
    exact ⟨_, k, fun w => by simp [binOp_mul, Op.intArith, wrap_i64_id lo hi]⟩
  · rcases h with ⟨ha, hb, hi, k⟩ | ⟨hb, lo, hi, k⟩
    · have e : a.tdiv b = a / b := Int.tdiv_eq_ediv_of_nonneg ha
      have h1 : a / b ≤ a := Int.ediv_le_self b ha
      have h2 : 0 ≤ a / b := Int.ediv_nonneg ha (by omega)
      exact ⟨_, k, fun w => by simp [binOp_quo, Op.intDiv, show b ≠ 0 by omega, e, wrap_i64_id (show -9223372036854775808 ≤ a / b by omega) (by omega)]⟩
    · exact ⟨_, k, fun w => by simp [binOp_quo, Op.intDiv, hb, wrap_i64_id lo hi]⟩
  · rcases h with ⟨ha, hb, k⟩ | ⟨hb, k⟩
    · have e : a.tmod b = a % b := Int.tmod_eq_emod_of_nonneg ha
      exact ⟨_, k, fun w => by simp [binOp_rem, Op.intDiv, show b ≠ 0 by omega, e]⟩
    · exact ⟨_, k, fun w => by simp [binOp_rem, Op.intDiv, hb]⟩
  · exact h.elim
  · exact h.elim
  · obtain ⟨v, k, e⟩ := vCmp.sound (P := P) h
    refine ⟨v, k, fun w => ?_⟩
    rw [← e w]
    cases op <;> first | rfl | (exfalso; simp_all; done) | (simp [vCmp] at h)
theorem vU8.sound {op : BinOp} {t : TypeId} {a b : Int} (h : vU8 op a b K) : ∃ v, K v ∧ ∀ w, (binOp op t (.int .u8 a) (.int .u8 b)).run P w = .ok v w := by
  unfold vU8 at h
  split at h
  · exact ⟨_, h, fun w => by simp [binOp_add, Op.intArith]⟩
  · exact ⟨_, h, fun w => by simp [binOp_sub, Op.intArith]⟩
  · exact h.elim
  · exact h.elim
  · exact h.elim
  · exact h.elim
  · exact h.elim
  · obtain ⟨v, k, e⟩ := vCmp.sound (P := P) h
    refine ⟨v, k, fun w => ?_⟩
    rw [← e w]
    cases op <;> first | rfl | (exfalso; simp_all; done) | (simp [vCmp] at h)
theorem shr64_run {yk : IntKind} {t : TypeId} {a b : Int} (h : VShr64 a b K) : ∃ v, K v ∧ ∀ w, (binOp .shr t (.int .u64 a) (.int yk b)).run P w = .ok v w := by
  obtain ⟨ha, hb, k⟩ := h
  have hp : (0 : Int) ≤ 2 ^ min b.toNat 64 := Int.pow_nonneg (by omega)
  have e : a.fdiv (2 ^ min b.toNat 64) = a / (2 ^ min b.toNat 64) := Int.fdiv_eq_ediv_of_nonneg a hp
  refine ⟨.int .u64 (a.fdiv (2 ^ min b.toNat 64)), k _ (by rw [e]; exact Int.ediv_nonneg ha hp) (by rw [e]; exact Int.ediv_le_self _ ha), fun w => ?_⟩
  show (Op.shift .shr .u64 a yk b).run P w = _
  unfold Op.shift
  rw [if_neg (by omega)]
  rfl
theorem vU64.sound {op : BinOp} {t : TypeId} {a b : Int} (h : vU64 op a b K) : ∃ v, K v ∧ ∀ w, (binOp op t (.int .u64 a) (.int .u64 b)).run P w = .ok v w := by
  unfold vU64 at h
  split at h
  · obtain ⟨k⟩ := h
    exact ⟨.int .u64 (IntKind.u64.wrap (a + b)), k _ (by rw [IntKind.wrap_u64]; omega) (by rw [IntKind.wrap_u64]; omega), fun w => by simp [binOp_add, Op.intArith]⟩
  · obtain ⟨k⟩ := h
    exact ⟨.int .u64 (IntKind.u64.wrap (a * b)), k _ (by rw [IntKind.wrap_u64]; omega) (by rw [IntKind.wrap_u64]; omega), fun w => by simp [binOp_mul, Op.intArith]⟩
  · obtain ⟨hb, k⟩ := h
    have h1 : (BitVec.ofInt 64 a &&& BitVec.ofInt 64 b).toNat ≤ (BitVec.ofInt 64 b).toNat := by rw [BitVec.toNat_and]; exact Nat.and_le_right
    have h2 : ((BitVec.ofInt 64 b).toNat : Int) ≤ b := by rw [BitVec.toNat_ofInt]; omega
    refine ⟨.int .u64 (IntKind.u64.wrap ((BitVec.ofInt 64 a &&& BitVec.ofInt 64 b).toNat : Nat)), k _ (by rw [IntKind.wrap_u64]; omega) (by rw [IntKind.wrap_u64]; omega), fun w => ?_⟩
    rfl
  · exact shr64_run h
  · exact h.elim
theorem vShift.sound {op : BinOp} {t : TypeId} {a b : Int} (h : vShift op a b K) : ∃ v, K v ∧ ∀ w, (binOp op t (.int .u64 a) (.int .i64 b)).run P w = .ok v w := by
  unfold vShift at h
  split at h
  · exact shr64_run h
  · exact h.elim
theorem vStr.sound {op : BinOp} {t : TypeId} {a b : ByteArray} (h : vStr op a b K) : ∃ v, K v ∧ ∀ w, (binOp op t (.string a) (.string b)).run P w = .ok v w := by
  unfold vStr at h
  split at h
  · obtain ⟨hs, k⟩ := h
    exact ⟨_, k, fun w => by rw [binOp_string_add]; exact run_string_add_sum w a b hs⟩
  · exact ⟨_, h.out, fun w => by rw [binOp_string_eql, bytes_ext]; rfl⟩
  · exact ⟨_, h.out, fun w => by rw [binOp_string_neq, bytes_ext]; rfl⟩
  · refine ⟨_, h.out, fun w => ?_⟩
    rw [binOp_string_lss, Bool.decide_eq_true]
    rfl
  · exact h.elim
theorem part_cell (hT : TabOk P T) {t : TypeId} {ti : TI} (ht : T.ty t = some ti) (ha : ti.isAgg = false) {cs : Array Value} {off : Nat} {v : Value} (hv : cs.toList[off]? = some v) (w : World) : (part t cs off).run P w = .ok v w := by
  unfold part
  rw [Sem.run_bind, hT.agg ht w]
  simp only [Result.andThen_ok, ha]
  have : cs[off]? = some v := by simpa using hv
  simp [this]
theorem vFields.sound (hT : TabOk P T) {xs ys : Array Value} {Y N : Prop} (d : Nat) : ∀ (fs : List Field), (fs.all fun f => f.name != "_") = true → vFields T xs.toList ys.toList Y N fs →
    ∃ b : Bool, (b = true → Y) ∧ (b = false → N) ∧ ∀ w, (Op.eqFields (d + 1) xs ys fs).run P w = .ok b w
  | [], _, h => ⟨true, fun _ => h, fun e => (by cases e), fun w => by simp [Op.eqFields]⟩
  | f :: fs, hn, h => by
    simp only [List.all_cons, Bool.and_eq_true, bne_iff_ne, ne_eq] at hn
    obtain ⟨hn1, hn2⟩ := hn
    have fin : ∀ {ti : TI} {u v : Value} {p : Prop} [Decidable p], T.ty f.type = some ti → ti.isAgg = false → xs.toList[f.offset]? = some u → ys.toList[f.offset]? = some v → (∀ w, (Op.equalIn (d + 1) f.type u v).run P w = .ok (decide p) w) → VIf p (vFields T xs.toList ys.toList Y N fs) N →
        ∃ b : Bool, (b = true → Y) ∧ (b = false → N) ∧ ∀ w, (Op.eqFields (d + 1) xs ys (f :: fs)).run P w = .ok b w := by
      intro ti u v p _ ht ha hu hv he hk
      obtain ⟨kt, kf⟩ := hk
      by_cases hp : p
      · obtain ⟨b, h1, h2, h3⟩ := vFields.sound hT d fs hn2 (kt hp)
        refine ⟨b, h1, h2, fun w => ?_⟩
        unfold Op.eqFields
        rw [if_pos hn1, Sem.run_bind, part_cell hT ht ha hu w, Result.andThen_ok, Sem.run_bind, part_cell hT ht ha hv w, Result.andThen_ok, Sem.run_bind, he w, Result.andThen_ok, decide_eq_true hp]
        simpa using h3 w
      · refine ⟨false, fun e => (by cases e), fun _ => kf hp, fun w => ?_⟩
        unfold Op.eqFields
        rw [if_pos hn1, Sem.run_bind, part_cell hT ht ha hu w, Result.andThen_ok, Sem.run_bind, part_cell hT ht ha hv w, Result.andThen_ok, Sem.run_bind, he w, Result.andThen_ok, decide_eq_false hp]
        simp
    unfold vFields at h
    split at h
    · rename_i o1 o2 o3 k r1 r2 r3 r4 a b ht hu hv
      exact fin ht rfl hu hv (fun w => by rw [run_equalIn_int w d f.type .i64 k a b (hT.und _ _ ht)]; congr 1) h
    · rename_i o1 o2 o3 r1 r2 r3 r4 a b ht hu hv
      exact fin ht rfl hu hv (fun w => by rw [run_equalIn_string w d f.type a b (hT.und _ _ ht), bytes_ext]) h
    · rename_i o1 o2 o3 r1 r2 r3 r4 a b ht hu hv
      exact fin ht rfl hu hv (fun w => by rw [run_equalIn_bool' w d f.type a b (hT.und _ _ ht)]; congr 1) h
    · exact h.elim
theorem vAgg.sound (hT : TabOk P T) {op : BinOp} {t : TypeId} {a b : Array Value} {ox oy : Operand} (h : vAgg T op t a.toList b.toList K) :
    ∃ v, K v ∧ ∀ w, (do eqGuard op t ox oy (.agg a) (.agg b); binOp op t (.agg a) (.agg b) : Sem Value).run P w = .ok v w := by
  unfold vAgg at h
  split at h
  · rename_i fs s1 s2 s3 s4 ht he
    obtain ⟨h1, h2, h3⟩ := hT.eqs t he
    have hu := hT.und t _ ht
    have hf : P.fieldsOf t = fs := by unfold Program.fieldsOf; rw [hu]
    have hu' : P.underlying t = some (.struct (P.fieldsOf t)) := by rw [hf]; exact hu
    rw [hf] at h3
    split at h
    · obtain ⟨r, k1, k2, k3⟩ := vFields.sound hT 9998 fs.toList h3 h
      refine ⟨.bool r, by cases r; exact k2 rfl; exact k1 rfl, fun w => ?_⟩
      rw [Sem.run_bind, run_eqGuard_agg w .eql t ox oy a b h1, Result.andThen_ok, run_eql_struct, show (10000 : Nat) = 9999 + 1 from rfl, run_equalIn_struct w 9999 t a b hu' h2, hf, k3 w]
      rfl
    · obtain ⟨r, k1, k2, k3⟩ := vFields.sound hT 9998 fs.toList h3 h
      refine ⟨.bool (!r), by cases r; exact k2 rfl; exact k1 rfl, fun w => ?_⟩
      rw [Sem.run_bind, run_eqGuard_agg w .neq t ox oy a b h1, Result.andThen_ok, run_neq_struct, show (10000 : Nat) = 9999 + 1 from rfl, run_equalIn_struct w 9999 t a b hu' h2, hf, k3 w]
      rfl
    · exact h.elim
  · exact h.elim
theorem iface_methods {t : TypeId} {ms : Array (String × TypeId)} (h : P.underlying t = some (.interface ms)) : P.underlying t = some (.interface (P.methodsAt t)) := by
  have e : P.methodsAt t = ms := by unfold Program.methodsAt; rw [h]
  rw [e]
  exact h
theorem eqGuard_iface (w : World) (op : BinOp) (t u : TypeId) (ox oy : Operand) (a : Value) : (eqGuard op t ox oy (.iface u a) .nilIface).run P w = .ok () w := by cases op <;> rfl
theorem eqGuard_nils (w : World) (op : BinOp) (t : TypeId) {ox oy : Operand} (h : (isConstO ox || isConstO oy) = true) : (eqGuard op t ox oy .nilIface .nilIface).run P w = .ok () w := by
  cases ox <;> cases oy <;> first | (cases op <;> rfl) | (exact Bool.noConfusion h)
theorem vBin.sound (hT : TabOk P T) {op : BinOp} {t : TypeId} {x y : Value} {ox oy : Operand} (h : vBin T op t (isConstO ox || isConstO oy) x y K) :
    ∃ v, K v ∧ ∀ w, (do eqGuard op t ox oy x y; binOp op t x y : Sem Value).run P w = .ok v w := by
  unfold vBin at h
  split at h
  · obtain ⟨v, k, e⟩ := vI64.sound (P := P) (t := t) h
    exact ⟨v, k, fun w => by rw [eqGuard_at_int]; exact e w⟩
  · obtain ⟨v, k, e⟩ := vU8.sound (P := P) (t := t) h
    exact ⟨v, k, fun w => by rw [eqGuard_at_int]; exact e w⟩
  · obtain ⟨v, k, e⟩ := vU64.sound (P := P) (t := t) h
    exact ⟨v, k, fun w => by rw [eqGuard_at_int]; exact e w⟩
  · obtain ⟨v, k, e⟩ := vShift.sound (P := P) (t := t) h
    exact ⟨v, k, fun w => by rw [eqGuard_at_int]; exact e w⟩
  · obtain ⟨v, k, e⟩ := vStr.sound (P := P) (t := t) h
    exact ⟨v, k, fun w => by rw [eqGuard_at_string]; exact e w⟩
  · rename_i a b
    split at h
    · rename_i s1 s2 s3 s4 ht
      have hu := hT.und t _ ht
      unfold vBool at h
      split at h
      · exact ⟨_, h.out, fun w => by rw [eqGuard_at_bool]; show (binOp .eql t (.bool a) (.bool b)).run P w = _; rw [run_eql_bool w t a b hu]; cases a <;> cases b <;> rfl⟩
      · exact ⟨_, h.out, fun w => by rw [eqGuard_at_bool]; show (binOp .neq t (.bool a) (.bool b)).run P w = _; rw [run_neq_bool w t a b hu]; cases a <;> cases b <;> rfl⟩
      · exact h.elim
    · exact h.elim
  · exact vAgg.sound hT h
  · unfold vNil at h
    split at h
    · rename_i s1 s2 s3 s4 s5 ht
      have hu := iface_methods (hT.und t _ ht)
      split at h
      · exact ⟨_, h, fun w => by rw [Sem.run_bind, eqGuard_iface, Result.andThen_ok]; exact run_eql_held_nil w t _ _ hu⟩
      · exact ⟨_, h, fun w => by rw [Sem.run_bind, eqGuard_iface, Result.andThen_ok]; exact run_neq_held_nil w t _ _ hu⟩
      · exact h.elim
    · exact h.elim
  · split at h
    · rename_i hc
      unfold vNil at h
      split at h
      · rename_i s1 s2 s3 s4 s5 ht
        have hu := iface_methods (hT.und t _ ht)
        split at h
        · exact ⟨_, h, fun w => by rw [Sem.run_bind, eqGuard_nils w _ t hc, Result.andThen_ok]; exact run_eql_nil_nil w t hu⟩
        · exact ⟨_, h, fun w => by rw [Sem.run_bind, eqGuard_nils w _ t hc, Result.andThen_ok]; exact run_neq_nil_nil w t hu⟩
        · exact h.elim
      · exact h.elim
    · exact h.elim
  · exact h.elim
theorem vUn.sound {op : UnOp} {x : Value} (h : vUn op x K) : ∃ v, K v ∧ ∀ w, (Op.unary op x).run P w = .ok v w := by
  unfold vUn at h
  split at h
  · exact ⟨_, h, fun w => rfl⟩
  · exact ⟨_, h, fun w => rfl⟩
  · obtain ⟨lo, hi, k⟩ := h
    exact ⟨_, k, fun w => by simp [Op.unary, Op.intArith, wrap_i64_id lo hi]⟩
  · exact h.elim
end
end Go.Proofs.YtadjhkehfklmnaaDoor
