/-
  Texts joined: how the calls that the law reaches are walked, and the plain laws behind them.
  Conditions: none beyond each statement's own premises.
-/
import Derived.Test.YtadjhkehfklmnaaGreatDoorMx04
import Derived.Lib.IndexLaws
import Derived.Lib.ItoaNum
import Derived.Shelf.Strings.Builder1
import Derived.Shelf.Strings.Builder2
import Derived.Shelf.Strings.OnBuilder
import Derived.Shelf.Small.Bits
import Derived.Shelf.Small.Wraps
import Derived.Shelf.Strings.BuilderF
import Derived.Shelf.Strings.BuilderK
import Derived.Shelf.Utf8.RuneCount
import Derived.Shelf.Strings.Builder2Cap
import Derived.Shelf.Strconv.Atoi
import Derived.Shelf.Strconv.Itoa0
import Derived.Shelf.Strconv.Itoa1
import Derived.Shelf.LaysM
import Derived.Shelf.Strconv.Itoa2
import Derived.Shelf.Strconv.Itoa3
import Derived.Shelf.Strconv.AtoiErrFast
import Derived.Shelf.Strconv.ParseIntEmpty
import Derived.Shelf.Strconv.AtoiFail
import Derived.Shelf.Strconv.Clone
import Derived.Shelf.Strconv.SyntaxError
import Derived.Shelf.LaysC
import Derived.Shelf.Strconv.ToError
import Derived.Shelf.Strconv.AtoiErr
import Derived.Shelf.Strconv.ErrVar
import Derived.Shelf.Strconv.Lower
import Derived.Shelf.Strconv.ParseUint10
import Derived.Shelf.Strconv.ParseUint10Empty
import Derived.Shelf.Strconv.ParseUint10Any
import Derived.Shelf.Strconv.ParseInt10
import Derived.Shelf.Strconv.AtoiLong
import Derived.Shelf.Strconv.AtoiInnerAll
import Derived.Shelf.Strconv.RangeError
import Derived.Shelf.Strconv.ToErrorRange
import Derived.Shelf.Strconv.AtoiAll
import Derived.Shelf.Strconv.ErrVarAll
import Derived.Shelf.Strconv.ParseUintEmpty
import Derived.Shelf.Strconv.ParseUint10b64
import Derived.Shelf.Strconv.ParseUint10b32
import Derived.Shelf.Strconv.ParseUint10b16
import Derived.Shelf.Strconv.ParseUint10b8
import Derived.Shelf.Strconv.ParseUint10At
import Derived.Shelf.Strconv.ParseInt10At64
import Derived.Shelf.Strconv.ParseInt10At32
import Derived.Shelf.Strconv.ParseInt10At16
import Derived.Shelf.Strconv.ParseInt10At8
import Derived.Shelf.Strconv.ParseInt10All
import Derived.Shelf.Strings.Search1
import Derived.Shelf.Strings.Search2
import Derived.Shelf.Strings.Search3
import Derived.Shelf.Strings.Cut
import Derived.Shelf.Strings.Count
import Derived.Shelf.Strings.Shaped
import Derived.Shelf.Strings.Split
import Derived.Shelf.Strings.SplitShaped
import Derived.Shelf.Unicode.Decode
import Derived.Shelf.Strings.RuneCount
import Derived.Shelf.Strings.Explode
import Derived.Shelf.Unicode.DecodeSlow
import Derived.Shelf.Unicode.DecodeAny
import Derived.Shelf.Strings.BuilderCap
import Derived.Shelf.Slices.Turned
import Derived.Ground.Names2Prog
import Derived.Shelf.Slices.SearchI
import Derived.Test.YtadjhkehfklmnaaGreatDoorProg
namespace Go.Proofs.YtadjhkehfklmnaaGreatDoor
set_option linter.unusedSimpArgs false
set_option linter.unusedVariables false
open Go.RowKit
set_option maxRecDepth 10000
def Ba.ok (b : Ba) : Prop := 0 ≤ b.least ∧ b.least ≤ b.vol ∧ b.vol ≤ b.most ∧ b.most ≤ 100000
def bGood (n : Nat) (f : Nat → Ba) : Prop := (∀ i, i < n → (f i).ok) ∧ 1 ≤ n ∧ n ≤ 6
theorem bGood.no {n k : Nat} {f : Nat → Ba} (hk : k < n) (h : ¬ (f k).ok) : ¬ bGood n f := fun g => h (g.1 k hk)
def bFlow (n : Nat) (a b v : Int) : Prop := (-1 ≤ a ∧ a ≤ (n : Int) - 1) ∧ (-1 ≤ b ∧ b ≤ (n : Int) - 1) ∧ a ≠ b ∧ (1 ≤ v ∧ v ≤ 100000)
def bMv1 (a b v : Int) (i : Nat) (x : Ba) : Ba := if (i : Int) = b then { x with vol := x.vol + v } else if (i : Int) = a then { x with vol := x.vol - v } else x
def bMv (f : Nat → Ba) (a b v : Int) (i : Nat) : Ba := bMv1 a b v i (f i)
def bCan (n : Nat) (f : Nat → Ba) (a b v : Int) : Prop := bGood n f ∧ bFlow n a b v ∧ bGood n (bMv f a b v)
theorem bMv_to {f : Nat → Ba} {a b v : Int} {i : Nat} (h : (i : Int) = b) : bMv f a b v i = { f i with vol := (f i).vol + v } := if_pos h
theorem bMv_from {f : Nat → Ba} {a b v : Int} {i : Nat} (h : ¬ (i : Int) = b) (h2 : (i : Int) = a) : bMv f a b v i = { f i with vol := (f i).vol - v } := by unfold bMv bMv1; rw [if_neg h, if_pos h2]
theorem bMv_no {f : Nat → Ba} {a b v : Int} {i : Nat} (h : ¬ (i : Int) = b) (h2 : ¬ (i : Int) = a) : bMv f a b v i = f i := by unfold bMv bMv1; rw [if_neg h, if_neg h2]
theorem vols_in {n : Nat} {f : Nat → Ba} (h : bGood n f) : ∀ k, k ≤ n → 0 ≤ smI (fun i => (f i).vol) k ∧ smI (fun i => (f i).vol) k ≤ 100000 * k
  | 0, _ => ⟨Int.le_refl _, by show (0 : Int) ≤ _; omega⟩
  | k + 1, hk => by
    have ih := vols_in h k (by omega)
    have h2 := h.1 k (by omega)
    unfold Ba.ok at h2
    have e : smI (fun i => (f i).vol) (k + 1) = smI (fun i => (f i).vol) k + (f k).vol := rfl
    omega
theorem ba_cell (n : Nat) (f : Nat → Ba) (i : Nat) (hi : i < n) (x : Int) : setRange (BaS n f) (i * 3) [.int .i64 x] = BaS n (upd f i { f i with vol := x }) := by
  apply List.ext_getElem?
  intro j
  have hl : i * 3 + 3 ≤ n * 3 := by omega
  rw [setRange_get _ _ _ _ (by rw [BaS.len]; simp; omega)]
  by_cases hj : j < n * 3
  · have e : j = j / 3 * 3 + j % 3 := by omega
    have hm : j % 3 < 3 := Nat.mod_lt _ (by omega)
    have hq : j / 3 < n := by omega
    have g : ∀ f : Nat → Ba, (BaS n f)[j]? = ((f (j / 3)).cells)[j % 3]? := fun f => by
      have := rowsN_get (f := fun i => (f i).cells) (s := 3) (fun _ => rfl) n (j / 3) (j % 3) hq hm
      rw [← e] at this
      exact this
    rw [g, g]
    by_cases h1 : j / 3 = i
    · rw [h1, upd_at]
      by_cases h2 : j % 3 = 0
      · rw [if_pos (by simp; omega), show j - i * 3 = 0 by omega, h2]
        rfl
      · rw [if_neg (by simp; omega)]
        have : j % 3 = 1 ∨ j % 3 = 2 := by omega
        rcases this with h3 | h3 <;> rw [h3] <;> rfl
    · rw [if_neg (by simp; omega), upd_ne _ _ h1]
  · rw [if_neg (by simp; omega), List.getElem?_eq_none (by rw [BaS.len]; omega), List.getElem?_eq_none (by rw [BaS.len]; omega)]
theorem ba_row (n : Nat) (f : Nat → Ba) (i : Nat) (hi : i < n) (x : Ba) : setRange (BaS n f) (i * 3) x.cells = BaS n (upd f i x) := by
  apply List.ext_getElem?
  intro j
  have hl : i * 3 + 3 ≤ n * 3 := by omega
  have hxl : x.cells.length = 3 := rfl
  rw [setRange_get _ _ _ _ (by rw [BaS.len, hxl]; omega), hxl]
  by_cases hj : j < n * 3
  · have e : j = j / 3 * 3 + j % 3 := by omega
    have hm : j % 3 < 3 := Nat.mod_lt _ (by omega)
    have hq : j / 3 < n := by omega
    have g : ∀ f : Nat → Ba, (BaS n f)[j]? = ((f (j / 3)).cells)[j % 3]? := fun f => by
      have := rowsN_get (f := fun i => (f i).cells) (s := 3) (fun _ => rfl) n (j / 3) (j % 3) hq hm
      rw [← e] at this
      exact this
    rw [g, g]
    by_cases h1 : j / 3 = i
    · rw [h1, upd_at, if_pos (by omega), show j - i * 3 = j % 3 by omega]
    · rw [if_neg (by omega), upd_ne _ _ h1]
  · rw [if_neg (by omega), List.getElem?_eq_none (by rw [BaS.len]; omega), List.getElem?_eq_none (by rw [BaS.len]; omega)]
end Go.Proofs.YtadjhkehfklmnaaGreatDoor
namespace Go.Proofs.YtadjhkehfklmnaaGreatDoor
set_option linter.unusedSimpArgs false
set_option linter.unusedVariables false
open Go.RowKit
set_option maxRecDepth 10000
section
variable (f : Nat → Aw)
noncomputable def bk (l : List Nat) (k : Nat) : Nat → Nat
  | 0 => 0
  | j + 1 => if tr (bef (f k) (f (nth l j))) then bk l k j else j + 1
noncomputable def put (l : List Nat) (k : Nat) : List Nat := l.take (bk f l k l.length) ++ k :: l.drop (bk f l k l.length)
noncomputable def fc : Nat → List Nat
  | 0 => []
  | k + 1 => put f (fc k) k
end
section
variable {f : Nat → Aw}
theorem bk_yes {l : List Nat} {k j : Nat} (h : bef (f k) (f (nth l j))) : bk f l k (j + 1) = bk f l k j := by
  show (if tr (bef (f k) (f (nth l j))) then _ else _) = _
  rw [tr_yes h]; rfl
theorem bk_no {l : List Nat} {k j : Nat} (h : ¬ bef (f k) (f (nth l j))) : bk f l k (j + 1) = j + 1 := by
  show (if tr (bef (f k) (f (nth l j))) then _ else _) = _
  rw [tr_no h]; rfl
theorem bk_le (l : List Nat) (k : Nat) : ∀ j, bk f l k j ≤ j
  | 0 => Nat.le_refl _
  | j + 1 => by
    by_cases h : bef (f k) (f (nth l j))
    · rw [bk_yes h]; have := bk_le l k j; omega
    · rw [bk_no h]; omega
theorem put_len (l : List Nat) (k : Nat) : (put f l k).length = l.length + 1 := by
  have := bk_le (f := f) l k l.length
  unfold put
  simp only [List.length_append, List.length_take, List.length_cons, List.length_drop]
  omega
theorem fc_len : ∀ k, (fc f k).length = k
  | 0 => rfl
  | k + 1 => by show (put f (fc f k) k).length = k + 1; rw [put_len, fc_len k]
theorem fc_lt : ∀ k, ∀ x ∈ fc f k, x < k
  | 0, x, h => by cases h
  | k + 1, x, h => by
    have h' : x ∈ put f (fc f k) k := h
    unfold put at h'
    rcases List.mem_append.1 h' with h1 | h1
    · have := fc_lt k x (List.mem_of_mem_take h1); omega
    · rcases List.mem_cons.1 h1 with h2 | h2
      · omega
      · have := fc_lt k x (List.mem_of_mem_drop h2); omega
theorem fc_mem {k m : Nat} (h : m < k) : nth (fc f k) m < k := fc_lt k _ (nth_mem (by rw [fc_len]; exact h))
def quS (f : Nat → Aw) (mi : Int) (o : Nat → Nat) : Nat → Int × Int × Int
  | 0 => (0, 0, 9)
  | k + 1 => let s := quS f mi o k
    (s.1 + (mx s.2.1 (f (o k)).minute - (f (o k)).minute), mx s.2.1 (f (o k)).minute + mi, mn s.2.2 (f (o k)).weight)
theorem quS_in {f : Nat → Aw} {mi : Int} {o : Nat → Nat} (h0 : 0 ≤ mi) (h1 : mi ≤ 60) {m : Nat} (hm : m ≤ 6) (hf : ∀ k, k < m → 0 ≤ (f (o k)).minute ∧ (f (o k)).minute ≤ 9999) (hw : ∀ k, k < m → 1 ≤ (f (o k)).weight ∧ (f (o k)).weight ≤ 9) : ∀ k, k ≤ m → (0 ≤ (quS f mi o k).1 ∧ (quS f mi o k).1 ≤ 10800 * k) ∧ (0 ≤ (quS f mi o k).2.1 ∧ (quS f mi o k).2.1 ≤ 9999 + 60 * k) ∧ (1 ≤ (quS f mi o k).2.2 ∧ (quS f mi o k).2.2 ≤ 9)
  | 0, _ => ⟨⟨Int.le_refl _, by show (0 : Int) ≤ _; omega⟩, ⟨Int.le_refl _, by show (0 : Int) ≤ _; omega⟩, show (1 : Int) ≤ 9 by omega, Int.le_refl _⟩
  | k + 1, hk => by
    have ih := quS_in h0 h1 hm hf hw k (by omega)
    have h2 := hf k (by omega)
    have h3 := hw k (by omega)
    unfold quS
    dsimp only
    unfold mx mn
    split <;> split <;> omega
noncomputable def quB (f : Nat → Aw) (mi : Int) (n : Nat) : Int := (quS f mi (nth (fc f n)) n).2.2 * (quS f mi (nth (fc f n)) n).1
def alB (f : Nat → Aw) (mi : Int) (hi : Bool) (n : Nat) : Int := smI (fun i => dl (fun _ => f i) mi hi (fun _ => 0) 1) n
noncomputable def loB (f : Nat → Aw) (mi : Int) (hi : Bool) (n : Nat) : Int := mx (alB f mi hi n) (quB f mi n)
theorem alB_in {n : Nat} {mi : Int} {hi : Bool} (hg : aGood n f) (h0 : 0 ≤ mi) (h1 : mi ≤ 60) : ∀ k, k ≤ n → 0 ≤ alB f mi hi k ∧ alB f mi hi k ≤ 97200 * k
  | 0, _ => ⟨Int.le_refl _, by show (0 : Int) ≤ _; omega⟩
  | k + 1, hk => by
    have ih := alB_in (hi := hi) hg h0 h1 k (by omega)
    have h2 := hg.1 k (by omega)
    have h3 := dl_in (f := fun _ => f k) (hi := hi) (o := fun _ => 0) (m := 1) h0 h1 (by omega) (fun _ _ => h2.2.1) (fun _ _ => h2.2.2.1) 1 (Nat.le_refl _)
    have e : alB f mi hi (k + 1) = alB f mi hi k + dl (fun _ => f k) mi hi (fun _ => 0) 1 := rfl
    omega
theorem quB_in {n : Nat} {mi : Int} (hg : aGood n f) (h0 : 0 ≤ mi) (h1 : mi ≤ 60) : 0 ≤ quB f mi n ∧ quB f mi n ≤ 583200 := by
  have hn := hg.2
  have h := quS_in (f := f) (o := nth (fc f n)) h0 h1 hn (fun k hk => (hg.1 _ (fc_mem hk)).2.1) (fun k hk => (hg.1 _ (fc_mem hk)).2.2.1) n (Nat.le_refl _)
  unfold quB
  generalize (quS f mi (nth (fc f n)) n).2.2 = a at *
  generalize (quS f mi (nth (fc f n)) n).1 = b at *
  have h2 : b ≤ 64800 := by omega
  refine ⟨Int.mul_nonneg (by omega) h.1.1, Int.le_trans (Int.mul_le_mul h.2.2.2 h2 h.1.1 (by omega)) (by omega)⟩
theorem loB_in {n : Nat} {mi : Int} {hi : Bool} (hg : aGood n f) (h0 : 0 ≤ mi) (h1 : mi ≤ 60) : 0 ≤ loB f mi hi n ∧ loB f mi hi n ≤ 583200 := by
  have hn := hg.2
  have h2 := alB_in (hi := hi) hg h0 h1 n (Nat.le_refl _)
  have h3 := quB_in (f := f) hg h0 h1
  unfold loB mx
  split <;> omega
end
end Go.Proofs.YtadjhkehfklmnaaGreatDoor
namespace Go.Proofs.YtadjhkehfklmnaaGreatDoor
set_option linter.unusedSimpArgs false
set_option linter.unusedVariables false
open Go.RowKit
abbrev Sl2 := (Option Addr × Nat) × (Option Addr × Nat)
end Go.Proofs.YtadjhkehfklmnaaGreatDoor
namespace Go.Proofs.YtadjhkehfklmnaaGreatDoor
set_option linter.unusedSimpArgs false
set_option linter.unusedVariables false
open Go.RowKit
set_option maxRecDepth 10000
def tx (l : List UInt8) : ByteArray := ⟨l.toArray⟩
def YS (l : List UInt8) : List Value := l.map fun b => .int .u8 (b.toNat : Int)
theorem tx_size (l : List UInt8) : (tx l).size = l.length := by simp [tx, ByteArray.size]
theorem tx_app (a b : List UInt8) : tx a ++ tx b = tx (a ++ b) := by
  apply ByteArray.ext
  simp [tx, ByteArray.data_append]
theorem YS_len (l : List UInt8) : (YS l).length = l.length := by simp [YS]
theorem YS_get (l : List UInt8) (i : Nat) (hi : i < (tx l).size) : (YS l)[i]? = some (.int .u8 ((tx l)[i].toNat : Int)) := by
  have h : i < l.length := by rw [← tx_size]; exact hi
  unfold YS
  rw [List.getElem?_map, List.getElem?_eq_getElem h]
  rfl
theorem VCat.of {a b : List UInt8} {K : Value → Prop} (h : a.length + b.length ≤ 9223372036854775807) (k : K (.string (tx (a ++ b)))) : VCat (tx a) (tx b) K :=
  .mk (by rw [tx_size, tx_size]; exact h) (by rw [tx_app]; exact k)
theorem VBytes.of {w0 : Base} {own : List Own} {g : Nat} {K : Value → Prop} (k : Nat) {n' c : Nat} {ty : TypeId} {size m : Nat} (l : List UInt8) {n : Nat} (hn : n = l.length) (hk : own[k]? = some (.row (.slice (some ⟨g, 0, none⟩) n' c) ty size m (YS l))) (kk : K (.string (tx l))) : VBytes w0 own g 0 n K :=
  VBytes.row k hk (tx l) (by rw [tx_size, hn]) (YS_get l) kk
theorem VApp.pushS {w0 : Base} {own : List Own} {K : Value → List Own → Prop} {e size : Nat} {s x : Value} (k j : Nat) {n : Nat} {xs : List Value} (hk : own[k]? = some (.row s e size n xs)) {g m c : Nat} {ty : TypeId} {cs : List Value} (hj : own[j]? = some (.blk g ty cs)) (hx : x = .slice (some ⟨g, 0, none⟩) m c) (hl : cs.length = m * size) (h1 : cs.all (·.oneCell') = true) (hn : n + m ≤ 17179869184) (hp : 0 < n + m)
    (c : ∀ g' c', setK own k (.row (.slice (some ⟨g', 0, none⟩) (n + m) c') e size (n + m) (xs ++ cs)) fun own => K (.slice (some ⟨g', 0, none⟩) (n + m) c') own) : VApp w0 own e size s x K :=
  .row k hk hx cs hl (fun i u hu => Rd.own j hj (by simpa using hu)) h1 hn (fun A c' hg => by obtain ⟨g', rfl⟩ := hg.1 hp; exact c g' c')
end Go.Proofs.YtadjhkehfklmnaaGreatDoor
namespace Go.Proofs.YtadjhkehfklmnaaGreatDoor
set_option linter.unusedSimpArgs false
set_option linter.unusedVariables false
open Go.RowKit
set_option maxRecDepth 10000
theorem tx_list (s : ByteArray) : tx s.data.toList = s := by
  apply ByteArray.ext
  simp [tx]
theorem tx_inj {a b : List UInt8} (h : tx a = tx b) : a = b := by
  have := congrArg (fun s : ByteArray => s.data.toList) h
  simpa [tx] using this
theorem tx_ne {a b : List UInt8} (h : ¬ a = b) : ¬ tx a = tx b := fun e => h (tx_inj e)
theorem tx_sub (l : List UInt8) (i j : Nat) : (tx l).extract i j = tx ((l.take j).drop i) := by
  apply ByteArray.ext
  simp [tx, List.extract_eq_take_drop, List.drop_take]
theorem tx_from (l : List UInt8) (i : Nat) : (tx l).extract i (tx l).size = tx (l.drop i) := by rw [tx_sub, tx_size, List.take_length]
theorem tx_to (l : List UInt8) (j : Nat) : (tx l).extract 0 j = tx (l.take j) := by rw [tx_sub]; rfl
theorem getD_tx (p : List UInt8) (k : Nat) (h : k < p.length) : (tx p)[k]'(by rw [tx_size]; exact h) = p.getD k 0 := by
  rw [List.getD_eq_getElem?_getD, List.getElem?_eq_getElem h]
  rfl
def bfs (c : UInt8) : List UInt8 → List UInt8
  | [] => []
  | b :: l => if b = c then [] else b :: bfs c l
def afs (c : UInt8) : List UInt8 → List UInt8
  | [] => []
  | b :: l => if b = c then l else afs c l
theorem bfs_no {c : UInt8} {l : List UInt8} (h : c ∉ l) : bfs c l = l ∧ afs c l = [] := by
  induction l with
  | nil => exact ⟨rfl, rfl⟩
  | cons b l ih =>
    have h1 : ¬ b = c := fun e => h (by simp [e])
    obtain ⟨i1, i2⟩ := ih (fun e => h (by simp [e]))
    exact ⟨by show (if _ then _ else _) = _; rw [if_neg h1, i1], by show (if _ then _ else _) = _; rw [if_neg h1, i2]⟩
theorem bfs_yes {c : UInt8} {l : List UInt8} (h : c ∈ l) : l = bfs c l ++ c :: afs c l ∧ c ∉ bfs c l := by
  induction l with
  | nil => simp at h
  | cons b l ih =>
    by_cases h1 : b = c
    · subst h1
      have e1 : bfs b (b :: l) = [] := if_pos rfl
      have e2 : afs b (b :: l) = l := if_pos rfl
      exact ⟨by rw [e1, e2]; rfl, by rw [e1]; simp⟩
    · have h2 : c ∈ l := by
        rcases List.mem_cons.1 h with e | e
        · exact absurd e.symm h1
        · exact e
      obtain ⟨i1, i2⟩ := ih h2
      have e1 : bfs c (b :: l) = b :: bfs c l := if_neg h1
      have e2 : afs c (b :: l) = afs c l := if_neg h1
      rw [e1, e2]
      refine ⟨by rw [List.cons_append, ← i1], fun q => ?_⟩
      rcases List.mem_cons.1 q with e | e
      · exact h1 e.symm
      · exact i2 e
theorem bfs_at {c : UInt8} {p q : List UInt8} (h : c ∉ p) : bfs c (p ++ c :: q) = p ∧ afs c (p ++ c :: q) = q := by
  induction p with
  | nil => exact ⟨if_pos rfl, if_pos rfl⟩
  | cons b l ih =>
    have h1 : ¬ b = c := fun e => h (by simp [e])
    obtain ⟨i1, i2⟩ := ih (fun e => h (by simp [e]))
    exact ⟨(show (if b = c then [] else b :: bfs c (l ++ c :: q)) = _ by rw [if_neg h1, i1]), (show (if b = c then _ else afs c (l ++ c :: q)) = _ by rw [if_neg h1, i2])⟩
theorem bfs_app {c : UInt8} {p : List UInt8} (q : List UInt8) (h : c ∈ p) : bfs c (p ++ q) = bfs c p ∧ afs c (p ++ q) = afs c p ++ q := by
  obtain ⟨e, h2⟩ := bfs_yes h
  have := bfs_at (q := afs c p ++ q) h2
  rw [show bfs c p ++ c :: (afs c p ++ q) = (bfs c p ++ c :: afs c p) ++ q by simp, ← e] at this
  exact this
theorem bfs_len {c : UInt8} {l : List UInt8} (h : c ∈ l) : l.length = (bfs c l).length + 1 + (afs c l).length := by
  have := congrArg List.length (bfs_yes h).1
  simp at this
  omega
theorem bfs_le (c : UInt8) (l : List UInt8) : (bfs c l).length ≤ l.length ∧ (afs c l).length ≤ l.length := by
  by_cases h : c ∈ l
  · have := bfs_len h; omega
  · rw [(bfs_no h).1, (bfs_no h).2]; simp
theorem afs_drop {c : UInt8} {l : List UInt8} (h : c ∈ l) : l.drop ((bfs c l).length + 1) = afs c l := by
  have e := (bfs_yes h).1
  have : (bfs c l ++ c :: afs c l).drop ((bfs c l).length + 1) = afs c l := by simp
  rw [← e] at this
  exact this
theorem bfs_get {c : UInt8} {l : List UInt8} (h : c ∈ l) : l[(bfs c l).length]? = some c := by
  have e := (bfs_yes h).1
  have : (bfs c l ++ c :: afs c l)[(bfs c l).length]? = some c := by rw [List.getElem?_append_right (Nat.le_refl _), Nat.sub_self]; rfl
  rw [← e] at this
  exact this
theorem bfs_all {c : UInt8} {l : List UInt8} : (bfs c l).length = l.length ↔ c ∉ l := by
  constructor
  · intro e h
    have := bfs_len h
    omega
  · intro h
    rw [(bfs_no h).1]
theorem index_bfs (c : UInt8) (l : List UInt8) : (Lib.indexByte l c = -1 ∧ bfs c l = l ∧ afs c l = [] ∧ c ∉ l) ∨ ∃ o : Nat, Lib.indexByte l c = o ∧ o < l.length ∧ bfs c l = l.take o ∧ afs c l = l.drop (o + 1) ∧ c ∈ l := by
  induction l with
  | nil => exact .inl ⟨rfl, rfl, rfl, by simp⟩
  | cons b l ih =>
    by_cases h1 : b = c
    · subst h1
      exact .inr ⟨0, by show (if b == b then (0 : Int) else _) = _; simp, by simp, if_pos rfl, if_pos rfl, by simp⟩
    · have e0 : Lib.indexByte (b :: l) c = if Lib.indexByte l c == -1 then -1 else Lib.indexByte l c + 1 := by
        show (if b == c then (0 : Int) else _) = _
        rw [if_neg (by simpa using h1)]
      have e1 : bfs c (b :: l) = b :: bfs c l := if_neg h1
      have e2 : afs c (b :: l) = afs c l := if_neg h1
      rw [e0, e1, e2]
      rcases ih with ⟨i1, i2, i3, i4⟩ | ⟨o, i1, i2, i3, i4, i5⟩
      · exact .inl ⟨by rw [i1]; rfl, by rw [i2], i3, fun q => by
          rcases List.mem_cons.1 q with e | e
          · exact h1 e.symm
          · exact i4 e⟩
      · refine .inr ⟨o + 1, ?_, by simp; omega, by rw [i3]; rfl, by rw [i4]; rfl, List.mem_cons_of_mem _ i5⟩
        rw [i1, if_neg (by simp)]
        omega
def spl (c : UInt8) (l : List UInt8) : Nat → List (List UInt8) × Nat
  | 0 => ([], 0)
  | k + 1 => if l[k]? = some c then ((spl c l k).1 ++ [(l.take k).drop (spl c l k).2], k + 1) else spl c l k
theorem spl_yes {c : UInt8} {l : List UInt8} {k : Nat} (h : l[k]? = some c) : spl c l (k + 1) = ((spl c l k).1 ++ [(l.take k).drop (spl c l k).2], k + 1) := if_pos h
theorem spl_no {c : UInt8} {l : List UInt8} {k : Nat} (h : ¬ l[k]? = some c) : spl c l (k + 1) = spl c l k := if_neg h
theorem spl_le (c : UInt8) (l : List UInt8) : ∀ k, (spl c l k).2 ≤ k ∧ (spl c l k).1.length ≤ k
  | 0 => ⟨Nat.le_refl _, Nat.le_refl _⟩
  | k + 1 => by
    have := spl_le c l k
    by_cases h : l[k]? = some c
    · rw [spl_yes h]
      exact ⟨Nat.le_refl _, by rw [List.length_append]; simp; omega⟩
    · rw [spl_no h]
      omega
def sps (c : UInt8) (l : List UInt8) : List (List UInt8) := (spl c l l.length).1 ++ [l.drop (spl c l l.length).2]
theorem spl_none {c : UInt8} {l : List UInt8} : ∀ k, (∀ i, i < k → ¬ l[i]? = some c) → spl c l k = ([], 0)
  | 0, _ => rfl
  | k + 1, h => by rw [spl_no (h k (by omega))]; exact spl_none k fun i hi => h i (by omega)
theorem not_at {c : UInt8} {p : List UInt8} (h : c ∉ p) (q : List UInt8) (i : Nat) (hi : i < p.length) : ¬ (p ++ c :: q)[i]? = some c := by
  rw [List.getElem?_append_left hi]
  exact fun e => h (List.mem_of_getElem? e)
theorem spl_one {c : UInt8} {p q : List UInt8} (h : c ∉ p) : spl c (p ++ c :: q) (p.length + 1) = ([p], p.length + 1) := by
  rw [spl_yes (by rw [List.getElem?_append_right (Nat.le_refl _), Nat.sub_self]; rfl), spl_none _ (fun i hi => not_at h q i hi)]
  simp
theorem spl_more {c : UInt8} {p q : List UInt8} (h : c ∉ p) : ∀ k, ∃ t, (spl c (p ++ c :: q) (p.length + 1 + k)).1 = p :: t
  | 0 => ⟨[], by rw [Nat.add_zero, spl_one h]⟩
  | k + 1 => by
    obtain ⟨t, ih⟩ := spl_more (q := q) h k
    by_cases hc : (p ++ c :: q)[p.length + 1 + k]? = some c
    · rw [show p.length + 1 + (k + 1) = p.length + 1 + k + 1 from rfl, spl_yes hc]
      exact ⟨t ++ [_], by rw [ih]; rfl⟩
    · rw [show p.length + 1 + (k + 1) = p.length + 1 + k + 1 from rfl, spl_no hc]
      exact ⟨t, ih⟩
theorem sps_head (c : UInt8) (l : List UInt8) : ∃ t, sps c l = bfs c l :: t ∧ (t = [] ↔ c ∉ l) := by
  by_cases h1 : c ∈ l
  · obtain ⟨e, h2⟩ := bfs_yes h1
    have el := bfs_len h1
    obtain ⟨t, hm⟩ := spl_more (q := afs c l) h2 (afs c l).length
    rw [← e, ← el] at hm
    refine ⟨t ++ [l.drop (spl c l l.length).2], ?_, ?_⟩
    · unfold sps
      rw [hm]
      rfl
    · exact ⟨fun h => by simp at h, fun h => absurd h1 h⟩
  · refine ⟨[], ?_, fun _ => h1, fun _ => rfl⟩
    unfold sps
    rw [spl_none _ (fun i _ e => h1 (List.mem_of_getElem? e)), (bfs_no h1).1]
    simp
theorem dd_digit : ∀ (n : Nat) (b : UInt8), b ∈ Lib.decDigits n → 48 ≤ b.toNat ∧ b.toNat ≤ 57 := by
  intro n
  induction n using Nat.strongRecOn with
  | ind n ih =>
    intro b hb
    rw [Lib.decDigits] at hb
    split at hb
    · rw [List.mem_singleton] at hb
      subst hb
      rw [UInt8.toNat_ofNat']
      omega
    · rcases List.mem_append.1 hb with h | h
      · exact ih (n / 10) (by omega) b h
      · rw [List.mem_singleton] at h
        subst h
        rw [UInt8.toNat_ofNat']
        omega
theorem dd_len : ∀ (j n : Nat), n < 10 ^ (j + 1) → (Lib.decDigits n).length ≤ j + 1
  | 0, n, h => by rw [Lib.decDigits, dif_pos (by omega)]; simp
  | j + 1, n, h => by
    rw [Lib.decDigits]
    split
    · simp
    · have := dd_len j (n / 10) (by rw [Nat.div_lt_iff_lt_mul (by omega)]; rw [Nat.pow_succ] at h; exact h)
      rw [List.length_append]
      simp
      omega
def chk (l : List UInt8) : Nat := l.foldl (fun h b => (41 * h + b.toNat + 1) % 999979) 7
theorem chk_suc {l : List UInt8} {k : Nat} (h : k < l.length) : chk (l.take (k + 1)) = (41 * chk (l.take k) + (l.getD k 0).toNat + 1) % 999979 := by
  unfold chk
  rw [List.take_add_one, List.foldl_append, List.getElem?_eq_getElem h, List.getD_eq_getElem?_getD, List.getElem?_eq_getElem h]
  rfl
theorem chk_lt (l : List UInt8) : chk l < 999979 := by
  unfold chk
  suffices ∀ (l : List UInt8) (h : Nat), h < 999979 → l.foldl (fun h b => (41 * h + b.toNat + 1) % 999979) h < 999979 from this l 7 (by omega)
  intro l
  induction l with
  | nil => exact fun _ h => h
  | cons b l ih => exact fun h _ => ih _ (Nat.mod_lt _ (by omega))
end Go.Proofs.YtadjhkehfklmnaaGreatDoor
namespace Go.Proofs.YtadjhkehfklmnaaGreatDoor
set_option linter.unusedSimpArgs false
set_option linter.unusedVariables false
open Go.RowKit
set_option maxRecDepth 10000
def okB (b : UInt8) : Prop := 32 ≤ b.toNat ∧ b.toNat ≤ 126 ∧ ¬ b = 35
def plainT (l : List UInt8) : Prop := ∀ b, b ∈ l → okB b
def okR (c r : List UInt8) : Prop := plainT c ∧ plainT r ∧ 1 ≤ c.length ∧ c.length ≤ 160 ∧ r.length ≤ 200 ∧ 64 ∉ c
def bod (k : Nat) (c r : List UInt8) : List UInt8 := Lib.decDigits k ++ 32 :: (c ++ 64 :: r)
def sl (t : List UInt8) : List UInt8 := t ++ 35 :: Lib.decDigits (chk t)
def ln (k : Nat) (c r : List UInt8) : List UInt8 := sl (bod k c r)
theorem bod_mem {k : Nat} {c r : List UInt8} {b : UInt8} (h : b ∈ bod k c r) : (48 ≤ b.toNat ∧ b.toNat ≤ 57) ∨ b = 32 ∨ b ∈ c ∨ b = 64 ∨ b ∈ r := by
  unfold bod at h
  rcases List.mem_append.1 h with h | h
  · exact .inl (dd_digit _ _ h)
  · rcases List.mem_cons.1 h with h | h
    · exact .inr (.inl h)
    · rcases List.mem_append.1 h with h | h
      · exact .inr (.inr (.inl h))
      · rcases List.mem_cons.1 h with h | h
        · exact .inr (.inr (.inr (.inl h)))
        · exact .inr (.inr (.inr (.inr h)))
theorem bod_hash {k : Nat} {c r : List UInt8} (h : okR c r) : 35 ∉ bod k c r := fun e => by
  obtain ⟨hc, hr, _⟩ := h
  rcases bod_mem e with h | h | h | h | h
  · exact absurd h (by decide)
  · exact absurd h (by decide)
  · exact (hc _ h).2.2 rfl
  · exact absurd h (by decide)
  · exact (hr _ h).2.2 rfl
theorem bod_line {k : Nat} {c r : List UInt8} (h : okR c r) : 10 ∉ bod k c r := fun e => by
  obtain ⟨hc, hr, _⟩ := h
  rcases bod_mem e with h | h | h | h | h
  · exact absurd h (by decide)
  · exact absurd h (by decide)
  · exact absurd (hc _ h).1 (by decide)
  · exact absurd h (by decide)
  · exact absurd (hr _ h).1 (by decide)
theorem dd_not {n : Nat} {b : UInt8} (h : b.toNat < 48 ∨ 57 < b.toNat) : b ∉ Lib.decDigits n := fun e => by
  have := dd_digit _ _ e
  omega
theorem ln_line {k : Nat} {c r : List UInt8} (h : okR c r) : 10 ∉ ln k c r := fun e => by
  unfold ln sl at e
  rcases List.mem_append.1 e with e | e
  · exact bod_line h e
  · rcases List.mem_cons.1 e with e | e
    · exact absurd e (by decide)
    · exact dd_not (by decide) e
theorem bod_len {k : Nat} {c r : List UInt8} (hk : k < 100) (h : okR c r) : (bod k c r).length ≤ 364 := by
  obtain ⟨_, _, _, h1, h2, _⟩ := h
  have := dd_len 1 k (by omega)
  unfold bod
  simp
  omega
theorem ln_len {k : Nat} {c r : List UInt8} (hk : k < 100) (h : okR c r) : (ln k c r).length ≤ 371 := by
  have := bod_len hk h
  have h2 := chk_lt (bod k c r)
  have := dd_len 5 (chk (bod k c r)) (by omega)
  unfold ln sl
  simp
  omega
theorem parts {k : Nat} {c r : List UInt8} (h : okR c r) : bfs 35 (ln k c r) = bod k c r ∧ bfs 32 (bod k c r) = Lib.decDigits k ∧ afs 32 (bod k c r) = c ++ 64 :: r ∧ bfs 64 (c ++ 64 :: r) = c ∧ afs 64 (c ++ 64 :: r) = r :=
  ⟨(bfs_at (bod_hash h)).1, (bfs_at (dd_not (by decide))).1, (bfs_at (dd_not (by decide))).2, (bfs_at h.2.2.2.2.2).1, (bfs_at h.2.2.2.2.2).2⟩
def cmd (p : List UInt8) : List UInt8 := bfs 64 (afs 32 (bfs 35 p))
def rep (p : List UInt8) : List UInt8 := afs 64 (afs 32 (bfs 35 p))
def okp (k : Nat) (p : List UInt8) : Prop := okR (cmd p) (rep p) ∧ ln k (cmd p) (rep p) = p
theorem okp_ln {k : Nat} {c r : List UInt8} (h : okR c r) : okp k (ln k c r) ∧ cmd (ln k c r) = c ∧ rep (ln k c r) = r := by
  obtain ⟨e1, _, e2, e3, e4⟩ := parts (k := k) h
  have f1 : cmd (ln k c r) = c := by unfold cmd; rw [e1, e2, e3]
  have f2 : rep (ln k c r) = r := by unfold rep; rw [e1, e2, e4]
  exact ⟨⟨by rw [f1, f2]; exact h, by rw [f1, f2]⟩, f1, f2⟩
def hd (k : Nat) : List UInt8 := Lib.decDigits k ++ [32]
def rst (k : Nat) (p : List UInt8) : List UInt8 := (bfs 35 p).drop (hd k).length
def pre (k : Nat) (p : List UInt8) : Prop := (hd k).length ≤ (bfs 35 p).length ∧ (bfs 35 p).take (hd k).length = hd k
def okq (k : Nat) (p : List UInt8) : Prop := pre k p ∧ 64 ∈ rst k p ∧ okR (bfs 64 (rst k p)) (afs 64 (rst k p)) ∧ ln k (bfs 64 (rst k p)) (afs 64 (rst k p)) = p
theorem okq_ln {k : Nat} {c r : List UInt8} (h : okR c r) : pre k (ln k c r) ∧ 64 ∈ rst k (ln k c r) ∧ bfs 64 (rst k (ln k c r)) = c ∧ afs 64 (rst k (ln k c r)) = r := by
  obtain ⟨e1, _, e2, e3, e4⟩ := parts (k := k) h
  have eb : bod k c r = hd k ++ (c ++ 64 :: r) := by unfold bod hd; simp
  have er : rst k (ln k c r) = c ++ 64 :: r := by unfold rst; rw [e1, eb]; simp
  refine ⟨⟨by rw [e1, eb]; simp, by rw [e1, eb]; simp⟩, by rw [er]; simp, by rw [er, e3], by rw [er, e4]⟩
theorem okq_iff {k : Nat} {p : List UInt8} : okq k p ↔ okp k p := by
  constructor
  · rintro ⟨_, _, h, e⟩
    have := (okp_ln (k := k) h).1
    rw [e] at this
    exact this
  · rintro ⟨h, e⟩
    have e' := e
    obtain ⟨h1, h2, h3, h4⟩ := okq_ln (k := k) h
    rw [e] at h1 h2 h3 h4
    exact ⟨h1, h2, by rw [h3, h4]; exact h, by rw [h3, h4]; exact e⟩
theorem okq_rec {k : Nat} {p : List UInt8} (hp : okp k p) : bfs 64 (rst k p) = cmd p ∧ afs 64 (rst k p) = rep p := by
  obtain ⟨h, e⟩ := hp
  obtain ⟨h1, h2, h3, h4⟩ := okq_ln (k := k) h
  rw [e] at h3 h4
  exact ⟨h3, h4⟩
def lin (s : List UInt8) (a : Nat) : List UInt8 := bfs 10 (s.drop a)
def ends (s : List UInt8) : Nat → Nat
  | 0 => 0
  | k + 1 => ends s k + (lin s (ends s k)).length + 1
def step (s : List UInt8) (k : Nat) : Prop := k < 60 ∧ 10 ∈ s.drop (ends s k) ∧ okp k (lin s (ends s k))
theorem ex_cnt (s : List UInt8) : ∃ n, (∀ j, j < n → step s j) ∧ ¬ step s n := by
  by_cases h : ∀ j, j < 60 → step s j
  · exact ⟨60, h, fun e => absurd e.1 (by omega)⟩
  · have : ∃ j, ¬ step s j := by
      by_cases h2 : ∃ j, ¬ step s j
      · exact h2
      · exact absurd (fun j _ => Classical.byContradiction fun e => h2 ⟨j, e⟩) h
    obtain ⟨j, hj⟩ := this
    clear h
    induction j using Nat.strongRecOn with
    | ind j ih =>
      by_cases h3 : ∀ i, i < j → step s i
      · exact ⟨j, h3, hj⟩
      · by_cases h4 : ∃ i, i < j ∧ ¬ step s i
        · obtain ⟨i, hi, h5⟩ := h4
          exact ih i hi h5
        · exact absurd (fun i hi => Classical.byContradiction fun e => h4 ⟨i, hi, e⟩) h3
noncomputable def cnt (s : List UInt8) : Nat := Classical.choose (ex_cnt s)
theorem cnt_step {s : List UInt8} {j : Nat} (h : j < cnt s) : step s j := (Classical.choose_spec (ex_cnt s)).1 j h
theorem cnt_stop (s : List UInt8) : ¬ step s (cnt s) := (Classical.choose_spec (ex_cnt s)).2
theorem cnt_lt {s : List UInt8} {k : Nat} (hk : k ≤ cnt s) (h : step s k) : k < cnt s := by
  rcases Nat.lt_or_ge k (cnt s) with h1 | h1
  · exact h1
  · have := cnt_stop s
    rw [show cnt s = k by omega] at this
    exact absurd h this
theorem cnt_eq {s : List UInt8} {k : Nat} (hk : k ≤ cnt s) (h : ¬ step s k) : k = cnt s := by
  rcases Nat.lt_or_ge k (cnt s) with h1 | h1
  · exact absurd (cnt_step h1) h
  · omega
theorem cnt_is {s : List UInt8} {k : Nat} (h1 : ∀ j, j < k → step s j) (h2 : ¬ step s k) : cnt s = k := by
  rcases Nat.lt_trichotomy k (cnt s) with h | h | h
  · exact absurd (cnt_step h) h2
  · exact h.symm
  · exact absurd (h1 _ h) (cnt_stop s)
theorem cnt_le (s : List UInt8) : cnt s ≤ 60 := by
  rcases Nat.lt_or_ge 60 (cnt s) with h | h
  · exact absurd (cnt_step h).1 (by omega)
  · exact h
theorem step_ends {s : List UInt8} {k : Nat} (h : step s k) : ends s (k + 1) ≤ s.length := by
  have h2 := bfs_len h.2.1
  rw [List.length_drop] at h2
  show ends s k + (bfs 10 (s.drop (ends s k))).length + 1 ≤ _
  omega
theorem ends_le {s : List UInt8} : ∀ {k : Nat}, k ≤ cnt s → ends s k ≤ s.length
  | 0, _ => Nat.zero_le _
  | _ + 1, h => step_ends (cnt_step h)
theorem ends_most {s : List UInt8} : ∀ {k : Nat}, k ≤ cnt s → ends s k ≤ 372 * k
  | 0, _ => Nat.zero_le _
  | k + 1, h => by
    have h1 := ends_most (s := s) (k := k) (by omega)
    obtain ⟨hk, _, ho, e⟩ := cnt_step h
    have h2 := ln_len (k := k) (by omega) ho
    rw [e] at h2
    show ends s k + (lin s (ends s k)).length + 1 ≤ _
    omega
theorem ends_mono {s : List UInt8} : ∀ {k j : Nat}, k ≤ j → ends s k + (j - k) ≤ ends s j := by
  intro k j h
  induction j with
  | zero => obtain rfl : k = 0 := by omega
            simp
  | succ j ih =>
    rcases Nat.lt_or_ge j k with h1 | h1
    · obtain rfl : k = j + 1 := by omega
      simp
    · have := ih h1
      have e : ends s (j + 1) = ends s j + (lin s (ends s j)).length + 1 := rfl
      omega
theorem lin_app {d p : List UInt8} {a : Nat} (h : 10 ∈ d.drop a) : lin (d ++ p) a = lin d a ∧ 10 ∈ (d ++ p).drop a := by
  have ha : a ≤ d.length := by
    rcases Nat.lt_or_ge d.length a with h1 | h1
    · rw [List.drop_eq_nil_of_le (by omega)] at h; simp at h
    · exact h1
  unfold lin
  rw [List.drop_append_of_le_length ha]
  exact ⟨(bfs_app p h).1, List.mem_append.2 (.inl h)⟩
theorem step_app {d p : List UInt8} {k : Nat} (he : ends (d ++ p) k = ends d k) (h : step d k) : step (d ++ p) k ∧ ends (d ++ p) (k + 1) = ends d (k + 1) := by
  obtain ⟨h1, h2⟩ := lin_app (p := p) h.2.1
  refine ⟨⟨h.1, by rw [he]; exact h2, by rw [he, h1]; exact h.2.2⟩, ?_⟩
  show ends (d ++ p) k + (lin (d ++ p) (ends (d ++ p) k)).length + 1 = _
  rw [he, h1]
  rfl
theorem app_ends {d p : List UInt8} : ∀ {k : Nat}, k ≤ cnt d → ends (d ++ p) k = ends d k
  | 0, _ => rfl
  | k + 1, h => (step_app (app_ends (by omega)) (cnt_step h)).2
theorem app_cnt {d p : List UInt8} : cnt d ≤ cnt (d ++ p) := by
  rcases Nat.lt_or_ge (cnt (d ++ p)) (cnt d) with h | h
  · exact absurd (step_app (p := p) (app_ends (by omega)) (cnt_step h)).1 (cnt_stop _)
  · exact h
theorem step_sub {d p : List UInt8} {k : Nat} (he : ends (d ++ p) k = ends d k) (h : step (d ++ p) k) (hl : ends (d ++ p) (k + 1) ≤ d.length) : step d k := by
  have hx : ends (d ++ p) k + (lin (d ++ p) (ends (d ++ p) k)).length + 1 ≤ d.length := hl
  have hm : 10 ∈ d.drop (ends d k) := by
    rw [he] at hx
    have ha : ends d k ≤ d.length := by omega
    have h2 := h.2.1
    rw [he] at h2
    unfold lin at hx
    rw [List.drop_append_of_le_length ha] at hx h2
    refine Classical.byContradiction fun hn => ?_
    have hb : (d.drop (ends d k)).length ≤ (bfs 10 (d.drop (ends d k) ++ p)).length := by
      refine Classical.byContradiction fun hlt => ?_
      have h3 := bfs_get h2
      rw [List.getElem?_append_left (by omega)] at h3
      exact hn (List.mem_of_getElem? h3)
    rw [List.length_drop] at hb
    omega
  obtain ⟨h1, _⟩ := lin_app (p := p) hm
  refine ⟨h.1, hm, ?_⟩
  have := h.2.2
  rw [he, h1] at this
  exact this
theorem step_end {d : List UInt8} {k : Nat} (h : d.length ≤ ends d k) : ¬ step d k := fun e => by
  have := e.2.1
  rw [List.drop_eq_nil_of_le h] at this
  simp at this
theorem app_back {d p : List UInt8} : ∀ {j : Nat}, j ≤ cnt (d ++ p) → ends (d ++ p) j ≤ d.length → ends (d ++ p) j = ends d j ∧ ∀ i, i < j → step d i
  | 0, _, _ => ⟨rfl, fun i hi => absurd hi (by omega)⟩
  | j + 1, h, hl => by
    have h0 : ends (d ++ p) j + 1 ≤ ends (d ++ p) (j + 1) := by have := ends_mono (s := d ++ p) (k := j) (j := j + 1) (by omega); omega
    obtain ⟨h1, h2⟩ := app_back (d := d) (p := p) (j := j) (by omega) (by omega)
    have h3 := step_sub h1 (cnt_step h) hl
    exact ⟨(step_app h1 h3).2, fun i hi => by
      rcases Nat.lt_or_ge i j with h4 | h4
      · exact h2 i h4
      · rw [show i = j by omega]; exact h3⟩
theorem whole {d p : List UInt8} : ends d (cnt d) = d.length ↔ ∃ j, j ≤ cnt (d ++ p) ∧ ends (d ++ p) j = d.length := by
  constructor
  · intro h
    exact ⟨cnt d, app_cnt, by rw [app_ends (Nat.le_refl _), h]⟩
  · rintro ⟨j, hj, he⟩
    obtain ⟨h1, h2⟩ := app_back hj (by omega)
    have : cnt d = j := cnt_is h2 (step_end (by omega))
    rw [this, ← h1, he]
def okL (d p : List UInt8) (c : Int) : Prop := ends (d ++ p) (cnt (d ++ p)) = (d ++ p).length ∧ (cnt (d ++ p) : Int) = c ∧ ends d (cnt d) = d.length
theorem okL_len {d p : List UInt8} {c : Int} (h : okL d p c) : d.length + p.length ≤ 22320 := by
  have h1 := ends_most (Nat.le_refl (cnt (d ++ p)))
  have h2 := cnt_le (d ++ p)
  rw [h.1, List.length_append] at h1
  omega
end Go.Proofs.YtadjhkehfklmnaaGreatDoor
namespace Go.Proofs
open Go.Shelf
def Tryz.lays156_ren : Go.Shelf.Ren := ⟨fun | 156 => 179 | 165 => 212 | 166 => 213 | 169 => 214 | 240 => 238 | 241 => 239 | 276 => 251 | 277 => 252 | n => n, fun | 31 => 31 | 9 => 9 | 3 => 3 | 4 => 4 | 0 => 0 | 20 => 20 | 72 => 224 | 76 => 202 | 70 => 222 | 37 => 46 | 75 => 201 | 127 => 248 | 164 => 259 | 5 => 5 | 80 => 226 | n => n, fun | n => n⟩
theorem Tryz.lays156 : Go.Proofs.Lays.n156 Tryz.prog Tryz.lays156_ren := {
  mixed := by kernel_rfl
  f156 := Tryz.func179.trans (congrArg some (by kernel_rfl))
  f165 := Tryz.func212.trans (congrArg some (by kernel_rfl))
  f166 := Tryz.func213.trans (congrArg some (by kernel_rfl))
  f169 := Tryz.func214.trans (congrArg some (by kernel_rfl))
  f240 := Tryz.func238.trans (congrArg some (by kernel_rfl))
  f241 := Tryz.func239.trans (congrArg some (by kernel_rfl))
  f276 := Tryz.func251.trans (congrArg some (by kernel_rfl))
  f277 := Tryz.func252.trans (congrArg some (by kernel_rfl))
  t0 := Tryz.underlying0
  a0 := Tryz.isAgg0
  z0 := Tryz.sizeOf0
  v0 := Tryz.zeroValue0
  t3 := Tryz.underlying3
  a3 := Tryz.isAgg3
  z3 := Tryz.sizeOf3
  v3 := Tryz.zeroValue3
  t4 := Tryz.underlying4
  a4 := Tryz.isAgg4
  z4 := Tryz.sizeOf4
  v4 := Tryz.zeroValue4
  t9 := Tryz.underlying9
  a9 := Tryz.isAgg9
  z9 := Tryz.sizeOf9
  v9 := Tryz.zeroValue9
  t20 := Tryz.underlying20
  a20 := Tryz.isAgg20
  z20 := Tryz.sizeOf20
  v20 := Tryz.zeroValue20
  t31 := Tryz.underlying31
  a31 := Tryz.isAgg31
  z31 := Tryz.sizeOf31
  v31 := Tryz.zeroValue31
  t37 := Tryz.underlying46
  a37 := Tryz.isAgg46
  z37 := Tryz.sizeOf46
  v37 := Tryz.zeroValue46
  t70 := Tryz.underlying222
  a70 := Tryz.isAgg222
  z70 := Tryz.sizeOf222
  v70 := Tryz.zeroValue222
  t72 := Tryz.underlying224
  a72 := Tryz.isAgg224
  z72 := Tryz.sizeOf224
  v72 := Tryz.zeroValue224
  t75 := Tryz.underlying201
  a75 := Tryz.isAgg201
  z75 := Tryz.sizeOf201
  v75 := Tryz.zeroValue201
  t76 := Tryz.underlying202
  a76 := Tryz.isAgg202
  z76 := Tryz.sizeOf202
  v76 := Tryz.zeroValue202
  t127 := Tryz.underlying248
  a127 := Tryz.isAgg248
  z127 := Tryz.sizeOf248
  v127 := Tryz.zeroValue248
  t164 := Tryz.underlying259
  a164 := Tryz.isAgg259
  z164 := Tryz.sizeOf259
  v164 := Tryz.zeroValue259 }
theorem Tryz.Builder_Extra_156 : Builder.Extra Tryz.prog Tryz.lays156_ren := {
  sizeBuilder := by kernel_rfl
  liesBuilder := by kernel_rfl
  t5 := Tryz.underlying5
  a5 := Tryz.isAgg5
  z5 := Tryz.sizeOf5
  v5 := Tryz.zeroValue5
  infoByte := by kernel_rfl
  cellsByte := by kernel_rfl
  sizeByte := by kernel_rfl
  neB5 := by decide }
open Go.RowKit in
theorem Tryz.strings_Join (bk o c : Nat) (xs : List ByteArray) (sep : ByteArray) (w : World) (hcells : ∀ (j : Nat) x, xs[j]? = some x → w.cell? ⟨bk, o + j, none⟩ = some (.string x)) (hbk : bk < w.heap.size) (hN : xs.length ≤ 140737488355328) (hcap : xs.length ≤ c) (hlen : (Lib.join (xs.map (·.data.toList)) sep.data.toList).length ≤ 140737488355328) :
    Calls Tryz.prog 179 #[.slice (some ⟨bk, o, none⟩) xs.length c, .string sep] w fun e w' => e = .returned (.string ⟨(Lib.join (xs.map (·.data.toList)) sep.data.toList).toArray⟩) ∧ Below w.heap.size w w' := Any.strings_Join Tryz.lays156 Tryz.Builder_Extra_156 bk o c xs sep w hcells hbk hN hcap hlen
def Tryz.lays125_ren : Go.Shelf.Ren := ⟨fun | 125 => 261 | 128 => 271 | 129 => 205 | n => n, fun | 46 => 162 | 3 => 3 | 51 => 216 | 53 => 87 | 4 => 4 | 5 => 5 | 9 => 9 | n => n, fun | n => n⟩
theorem Tryz.lays125 : Go.Proofs.Lays.n125 Tryz.prog Tryz.lays125_ren := {
  mixed := by kernel_rfl
  f125 := Tryz.func261.trans (congrArg some (by kernel_rfl))
  f128 := Tryz.func271.trans (congrArg some (by kernel_rfl))
  f129 := Tryz.func205.trans (congrArg some (by kernel_rfl))
  t3 := Tryz.underlying3
  a3 := Tryz.isAgg3
  z3 := Tryz.sizeOf3
  v3 := Tryz.zeroValue3
  t4 := Tryz.underlying4
  a4 := Tryz.isAgg4
  z4 := Tryz.sizeOf4
  v4 := Tryz.zeroValue4
  t5 := Tryz.underlying5
  a5 := Tryz.isAgg5
  z5 := Tryz.sizeOf5
  v5 := Tryz.zeroValue5
  t9 := Tryz.underlying9
  a9 := Tryz.isAgg9
  z9 := Tryz.sizeOf9
  v9 := Tryz.zeroValue9
  t46 := Tryz.underlying162
  a46 := Tryz.isAgg162
  z46 := Tryz.sizeOf162
  v46 := Tryz.zeroValue162
  t51 := Tryz.underlying216
  a51 := Tryz.isAgg216
  z51 := Tryz.sizeOf216
  v51 := Tryz.zeroValue216
  t53 := Tryz.underlying87
  a53 := Tryz.isAgg87
  z53 := Tryz.sizeOf87
  v53 := Tryz.zeroValue87 }
theorem Tryz.bits_Len (x : Int) (w : World) (h0 : 0 ≤ x) (h1 : x ≤ 18446744073709551615) :
    Calls Tryz.prog 261 #[.int .u64 x] w fun e w' => e = .returned (.int .i64 (Lib.bitLen x.toNat)) ∧ w' = w := Any.bits_Len Tryz.lays125 x w h0 h1
def Tryz.lays172_ren : Go.Shelf.Ren := ⟨fun | 172 => 175 | 244 => 209 | 245 => 210 | 247 => 233 | 279 => 234 | 280 => 235 | 281 => 236 | 282 => 237 | 287 => 248 | 316 => 249 | 171 => 59 | 205 => 250 | 321 => 258 | 322 => 259 | 243 => 103 | 246 => 135 | 283 => 170 | 284 => 171 | 285 => 172 | 286 => 173 | 129 => 205 | 317 => 204 | 318 => 206 | 319 => 207 | 320 => 208 | 337 => 231 | 338 => 232 | n => n, fun | 9 => 9 | 3 => 3 | 75 => 201 | 76 => 202 | 4 => 4 | 5 => 5 | 167 => 242 | 37 => 46 | 0 => 0 | 85 => 243 | 2 => 2 | 168 => 245 | 53 => 87 | 175 => 254 | 46 => 162 | 210 => 257 | 127 => 248 | 145 => 268 | 143 => 266 | 21 => 21 | 171 => 195 | 173 => 198 | 212 => 215 | 51 => 216 | 20 => 20 | 213 => 217 | 232 => 252 | 233 => 253 | 80 => 226 | n => n, fun | 15 => 6 | 16 => 7 | 17 => 1 | 18 => 4 | 19 => 5 | n => n⟩
theorem Tryz.lays172 : Go.Proofs.Lays.n172 Tryz.prog Tryz.lays172_ren := {
  mixed := by kernel_rfl
  f129 := Tryz.func205.trans (congrArg some (by kernel_rfl))
  f171 := Tryz.func59.trans (congrArg some (by kernel_rfl))
  f172 := Tryz.func175.trans (congrArg some (by kernel_rfl))
  f205 := Tryz.func250.trans (congrArg some (by kernel_rfl))
  f243 := Tryz.func103.trans (congrArg some (by kernel_rfl))
  f244 := Tryz.func209.trans (congrArg some (by kernel_rfl))
  f245 := Tryz.func210.trans (congrArg some (by kernel_rfl))
  f246 := Tryz.func135.trans (congrArg some (by kernel_rfl))
  f247 := Tryz.func233.trans (congrArg some (by kernel_rfl))
  f279 := Tryz.func234.trans (congrArg some (by kernel_rfl))
  f280 := Tryz.func235.trans (congrArg some (by kernel_rfl))
  f281 := Tryz.func236.trans (congrArg some (by kernel_rfl))
  f282 := Tryz.func237.trans (congrArg some (by kernel_rfl))
  f283 := Tryz.func170.trans (congrArg some (by kernel_rfl))
  f284 := Tryz.func171.trans (congrArg some (by kernel_rfl))
  f285 := Tryz.func172.trans (congrArg some (by kernel_rfl))
  f286 := Tryz.func173.trans (congrArg some (by kernel_rfl))
  f287 := Tryz.func248.trans (congrArg some (by kernel_rfl))
  f316 := Tryz.func249.trans (congrArg some (by kernel_rfl))
  f317 := Tryz.func204.trans (congrArg some (by kernel_rfl))
  f318 := Tryz.func206.trans (congrArg some (by kernel_rfl))
  f319 := Tryz.func207.trans (congrArg some (by kernel_rfl))
  f320 := Tryz.func208.trans (congrArg some (by kernel_rfl))
  f321 := Tryz.func258.trans (congrArg some (by kernel_rfl))
  f322 := Tryz.func259.trans (congrArg some (by kernel_rfl))
  f337 := Tryz.func231.trans (congrArg some (by kernel_rfl))
  f338 := Tryz.func232.trans (congrArg some (by kernel_rfl))
  t0 := Tryz.underlying0
  a0 := Tryz.isAgg0
  z0 := Tryz.sizeOf0
  v0 := Tryz.zeroValue0
  t2 := Tryz.underlying2
  a2 := Tryz.isAgg2
  z2 := Tryz.sizeOf2
  v2 := Tryz.zeroValue2
  t3 := Tryz.underlying3
  a3 := Tryz.isAgg3
  z3 := Tryz.sizeOf3
  v3 := Tryz.zeroValue3
  t4 := Tryz.underlying4
  a4 := Tryz.isAgg4
  z4 := Tryz.sizeOf4
  v4 := Tryz.zeroValue4
  t5 := Tryz.underlying5
  a5 := Tryz.isAgg5
  z5 := Tryz.sizeOf5
  v5 := Tryz.zeroValue5
  t9 := Tryz.underlying9
  a9 := Tryz.isAgg9
  z9 := Tryz.sizeOf9
  v9 := Tryz.zeroValue9
  t20 := Tryz.underlying20
  a20 := Tryz.isAgg20
  z20 := Tryz.sizeOf20
  v20 := Tryz.zeroValue20
  t21 := Tryz.underlying21
  a21 := Tryz.isAgg21
  z21 := Tryz.sizeOf21
  v21 := Tryz.zeroValue21
  t37 := Tryz.underlying46
  a37 := Tryz.isAgg46
  z37 := Tryz.sizeOf46
  v37 := Tryz.zeroValue46
  t46 := Tryz.underlying162
  a46 := Tryz.isAgg162
  z46 := Tryz.sizeOf162
  v46 := Tryz.zeroValue162
  t51 := Tryz.underlying216
  a51 := Tryz.isAgg216
  z51 := Tryz.sizeOf216
  v51 := Tryz.zeroValue216
  t53 := Tryz.underlying87
  a53 := Tryz.isAgg87
  z53 := Tryz.sizeOf87
  v53 := Tryz.zeroValue87
  t75 := Tryz.underlying201
  a75 := Tryz.isAgg201
  z75 := Tryz.sizeOf201
  v75 := Tryz.zeroValue201
  t76 := Tryz.underlying202
  a76 := Tryz.isAgg202
  z76 := Tryz.sizeOf202
  v76 := Tryz.zeroValue202
  t85 := Tryz.underlying243
  a85 := Tryz.isAgg243
  z85 := Tryz.sizeOf243
  v85 := Tryz.zeroValue243
  t127 := Tryz.underlying248
  a127 := Tryz.isAgg248
  z127 := Tryz.sizeOf248
  v127 := Tryz.zeroValue248
  t143 := Tryz.underlying266
  a143 := Tryz.isAgg266
  z143 := Tryz.sizeOf266
  v143 := Tryz.zeroValue266
  t145 := Tryz.underlying268
  a145 := Tryz.isAgg268
  z145 := Tryz.sizeOf268
  v145 := Tryz.zeroValue268
  t167 := Tryz.underlying242
  a167 := Tryz.isAgg242
  z167 := Tryz.sizeOf242
  v167 := Tryz.zeroValue242
  t168 := Tryz.underlying245
  a168 := Tryz.isAgg245
  z168 := Tryz.sizeOf245
  v168 := Tryz.zeroValue245
  t171 := Tryz.underlying195
  a171 := Tryz.isAgg195
  z171 := Tryz.sizeOf195
  v171 := Tryz.zeroValue195
  t173 := Tryz.underlying198
  a173 := Tryz.isAgg198
  z173 := Tryz.sizeOf198
  v173 := Tryz.zeroValue198
  t175 := Tryz.underlying254
  a175 := Tryz.isAgg254
  z175 := Tryz.sizeOf254
  v175 := Tryz.zeroValue254
  t210 := Tryz.underlying257
  a210 := Tryz.isAgg257
  z210 := Tryz.sizeOf257
  v210 := Tryz.zeroValue257
  t212 := Tryz.underlying215
  a212 := Tryz.isAgg215
  z212 := Tryz.sizeOf215
  v212 := Tryz.zeroValue215
  t213 := Tryz.underlying217
  a213 := Tryz.isAgg217
  z213 := Tryz.sizeOf217
  t232 := Tryz.underlying252
  a232 := Tryz.isAgg252
  z232 := Tryz.sizeOf252
  v232 := Tryz.zeroValue252
  t233 := Tryz.underlying253
  a233 := Tryz.isAgg253
  z233 := Tryz.sizeOf253
  v233 := Tryz.zeroValue253
  g15 := by kernel_rfl
  g16 := by kernel_rfl
  g17 := by kernel_rfl
  g18 := by kernel_rfl
  g19 := by kernel_rfl }
open Go.RowKit in
theorem Tryz.strconv_Atoi (s : ByteArray) (n : Int) (hl : s.size ≤ 18) (h : Lib.atoi s.data.toList = some n) (w : World) :
    Calls Tryz.prog 175 #[.string s] w fun e w' => e = .returned (.tuple #[.int .i64 n, .nilIface]) ∧ ∃ t, w' = Lib.bytesWorld w 5 t := Any.strconv_Atoi Tryz.lays172 s n hl h w
def Tryz.laysM171_ren : Go.Shelf.Ren := ⟨fun | 171 => 59 | 243 => 103 | 246 => 135 | 283 => 170 | 284 => 171 | 285 => 172 | 286 => 173 | 129 => 205 | 317 => 204 | 318 => 206 | 319 => 207 | 320 => 208 | 337 => 231 | 338 => 232 | n => n, fun | 3 => 3 | 9 => 9 | 2 => 2 | 4 => 4 | 171 => 195 | 0 => 0 | 53 => 87 | 37 => 46 | 5 => 5 | 173 => 198 | 212 => 215 | 51 => 216 | 20 => 20 | 213 => 217 | 46 => 162 | 232 => 252 | 233 => 253 | n => n, fun | 17 => 1 | 18 => 4 | 19 => 5 | n => n⟩
theorem Tryz.laysM171 : Go.Proofs.LaysM.n171 Tryz.prog Tryz.laysM171_ren := {
  mixed := by kernel_rfl
  f129 := Tryz.func205.trans (congrArg some (by kernel_rfl))
  f171 := Tryz.func59.trans (congrArg some (by kernel_rfl))
  f243 := Tryz.func103.trans (congrArg some (by kernel_rfl))
  f246 := Tryz.func135.trans (congrArg some (by kernel_rfl))
  f283 := Tryz.func170.trans (congrArg some (by kernel_rfl))
  f284 := Tryz.func171.trans (congrArg some (by kernel_rfl))
  f285 := Tryz.func172.trans (congrArg some (by kernel_rfl))
  f286 := Tryz.func173.trans (congrArg some (by kernel_rfl))
  f317 := Tryz.func204.trans (congrArg some (by kernel_rfl))
  f318 := Tryz.func206.trans (congrArg some (by kernel_rfl))
  f319 := Tryz.func207.trans (congrArg some (by kernel_rfl))
  f320 := Tryz.func208.trans (congrArg some (by kernel_rfl))
  f337 := Tryz.func231.trans (congrArg some (by kernel_rfl))
  f338 := Tryz.func232.trans (congrArg some (by kernel_rfl))
  t0 := Tryz.underlying0
  a0 := Tryz.isAgg0
  z0 := Tryz.sizeOf0
  v0 := Tryz.zeroValue0
  t2 := Tryz.underlying2
  a2 := Tryz.isAgg2
  z2 := Tryz.sizeOf2
  v2 := Tryz.zeroValue2
  t3 := Tryz.underlying3
  a3 := Tryz.isAgg3
  z3 := Tryz.sizeOf3
  v3 := Tryz.zeroValue3
  t4 := Tryz.underlying4
  a4 := Tryz.isAgg4
  z4 := Tryz.sizeOf4
  v4 := Tryz.zeroValue4
  t5 := Tryz.underlying5
  a5 := Tryz.isAgg5
  z5 := Tryz.sizeOf5
  v5 := Tryz.zeroValue5
  t9 := Tryz.underlying9
  a9 := Tryz.isAgg9
  z9 := Tryz.sizeOf9
  v9 := Tryz.zeroValue9
  t20 := Tryz.underlying20
  a20 := Tryz.isAgg20
  z20 := Tryz.sizeOf20
  v20 := Tryz.zeroValue20
  t37 := Tryz.underlying46
  a37 := Tryz.isAgg46
  z37 := Tryz.sizeOf46
  v37 := Tryz.zeroValue46
  t46 := Tryz.underlying162
  a46 := Tryz.isAgg162
  z46 := Tryz.sizeOf162
  v46 := Tryz.zeroValue162
  t51 := Tryz.underlying216
  a51 := Tryz.isAgg216
  z51 := Tryz.sizeOf216
  v51 := Tryz.zeroValue216
  t53 := Tryz.underlying87
  a53 := Tryz.isAgg87
  z53 := Tryz.sizeOf87
  v53 := Tryz.zeroValue87
  t171 := Tryz.underlying195
  a171 := Tryz.isAgg195
  z171 := Tryz.sizeOf195
  v171 := Tryz.zeroValue195
  t173 := Tryz.underlying198
  a173 := Tryz.isAgg198
  z173 := Tryz.sizeOf198
  v173 := Tryz.zeroValue198
  t212 := Tryz.underlying215
  a212 := Tryz.isAgg215
  z212 := Tryz.sizeOf215
  v212 := Tryz.zeroValue215
  t213 := Tryz.underlying217
  a213 := Tryz.isAgg217
  z213 := Tryz.sizeOf217
  t232 := Tryz.underlying252
  a232 := Tryz.isAgg252
  z232 := Tryz.sizeOf252
  v232 := Tryz.zeroValue252
  t233 := Tryz.underlying253
  a233 := Tryz.isAgg253
  z233 := Tryz.sizeOf253
  v233 := Tryz.zeroValue253
  g17 := by kernel_rfl
  g18 := by kernel_rfl
  g19 := by kernel_rfl
  i0 := by kernel_rfl
  i2 := by kernel_rfl
  i3 := by kernel_rfl
  i4 := by kernel_rfl
  i5 := by kernel_rfl
  i9 := by kernel_rfl
  i20 := by kernel_rfl
  i37 := by kernel_rfl
  i46 := by kernel_rfl
  i51 := by kernel_rfl
  i53 := by kernel_rfl
  i171 := by kernel_rfl
  i173 := by kernel_rfl
  i212 := by kernel_rfl
  i232 := by kernel_rfl
  i233 := by kernel_rfl
  m17 := by kernel_rfl
  m18 := by kernel_rfl
  m19 := by kernel_rfl }
open Go.RowKit Go.Sort Go.Lib in
theorem Tryz.strconv_Itoa (n : Int) (h0 : -9223372036854775808 ≤ n) (h1 : n ≤ 9223372036854775807) (w : World) (htab : Lib.TabIs Tryz.prog w "internal/strconv.uint64pow10" .u64 Lib.pow10Tab) :
    Calls Tryz.prog 59 #[.int .i64 n] w fun e w' => e = .returned (.string ⟨(Lib.itoa n).toArray⟩) ∧ ∃ k os, w' = grow (w.drewN k) os := Any.strconv_Itoa Tryz.laysM171 n h0 h1 w htab
def Tryz.laysC172_ren : Go.Shelf.Ren := ⟨fun | 172 => 175 | 244 => 209 | 245 => 210 | 247 => 233 | 279 => 234 | 280 => 235 | 281 => 236 | 282 => 237 | 287 => 248 | 316 => 249 | 171 => 59 | 205 => 250 | 321 => 258 | 322 => 259 | 243 => 103 | 246 => 135 | 283 => 170 | 284 => 171 | 285 => 172 | 286 => 173 | 129 => 205 | 317 => 204 | 318 => 206 | 319 => 207 | 320 => 208 | 337 => 231 | 338 => 232 | n => n, fun | 9 => 9 | 3 => 3 | 75 => 201 | 76 => 202 | 4 => 4 | 5 => 5 | 167 => 242 | 37 => 46 | 0 => 0 | 85 => 243 | 2 => 2 | 168 => 245 | 53 => 87 | 175 => 254 | 46 => 162 | 210 => 257 | 127 => 248 | 145 => 268 | 143 => 266 | 21 => 21 | 171 => 195 | 173 => 198 | 212 => 215 | 51 => 216 | 20 => 20 | 213 => 217 | 232 => 252 | 233 => 253 | 80 => 226 | n => n, fun | 15 => 6 | 16 => 7 | 17 => 1 | 18 => 4 | 19 => 5 | n => n⟩
theorem Tryz.laysC172 : Go.Proofs.LaysC.n172 Tryz.prog Tryz.laysC172_ren := {
  mixed := by kernel_rfl
  f129 := Tryz.func205.trans (congrArg some (by kernel_rfl))
  f171 := Tryz.func59.trans (congrArg some (by kernel_rfl))
  f172 := Tryz.func175.trans (congrArg some (by kernel_rfl))
  f205 := Tryz.func250.trans (congrArg some (by kernel_rfl))
  f243 := Tryz.func103.trans (congrArg some (by kernel_rfl))
  f244 := Tryz.func209.trans (congrArg some (by kernel_rfl))
  f245 := Tryz.func210.trans (congrArg some (by kernel_rfl))
  f246 := Tryz.func135.trans (congrArg some (by kernel_rfl))
  f247 := Tryz.func233.trans (congrArg some (by kernel_rfl))
  f279 := Tryz.func234.trans (congrArg some (by kernel_rfl))
  f280 := Tryz.func235.trans (congrArg some (by kernel_rfl))
  f281 := Tryz.func236.trans (congrArg some (by kernel_rfl))
  f282 := Tryz.func237.trans (congrArg some (by kernel_rfl))
  f283 := Tryz.func170.trans (congrArg some (by kernel_rfl))
  f284 := Tryz.func171.trans (congrArg some (by kernel_rfl))
  f285 := Tryz.func172.trans (congrArg some (by kernel_rfl))
  f286 := Tryz.func173.trans (congrArg some (by kernel_rfl))
  f287 := Tryz.func248.trans (congrArg some (by kernel_rfl))
  f316 := Tryz.func249.trans (congrArg some (by kernel_rfl))
  f317 := Tryz.func204.trans (congrArg some (by kernel_rfl))
  f318 := Tryz.func206.trans (congrArg some (by kernel_rfl))
  f319 := Tryz.func207.trans (congrArg some (by kernel_rfl))
  f320 := Tryz.func208.trans (congrArg some (by kernel_rfl))
  f321 := Tryz.func258.trans (congrArg some (by kernel_rfl))
  f322 := Tryz.func259.trans (congrArg some (by kernel_rfl))
  f337 := Tryz.func231.trans (congrArg some (by kernel_rfl))
  f338 := Tryz.func232.trans (congrArg some (by kernel_rfl))
  t0 := Tryz.underlying0
  a0 := Tryz.isAgg0
  z0 := Tryz.sizeOf0
  v0 := Tryz.zeroValue0
  t2 := Tryz.underlying2
  a2 := Tryz.isAgg2
  z2 := Tryz.sizeOf2
  v2 := Tryz.zeroValue2
  t3 := Tryz.underlying3
  a3 := Tryz.isAgg3
  z3 := Tryz.sizeOf3
  v3 := Tryz.zeroValue3
  t4 := Tryz.underlying4
  a4 := Tryz.isAgg4
  z4 := Tryz.sizeOf4
  v4 := Tryz.zeroValue4
  t5 := Tryz.underlying5
  a5 := Tryz.isAgg5
  z5 := Tryz.sizeOf5
  v5 := Tryz.zeroValue5
  t9 := Tryz.underlying9
  a9 := Tryz.isAgg9
  z9 := Tryz.sizeOf9
  v9 := Tryz.zeroValue9
  t20 := Tryz.underlying20
  a20 := Tryz.isAgg20
  z20 := Tryz.sizeOf20
  v20 := Tryz.zeroValue20
  t21 := Tryz.underlying21
  a21 := Tryz.isAgg21
  z21 := Tryz.sizeOf21
  v21 := Tryz.zeroValue21
  t37 := Tryz.underlying46
  a37 := Tryz.isAgg46
  z37 := Tryz.sizeOf46
  v37 := Tryz.zeroValue46
  t46 := Tryz.underlying162
  a46 := Tryz.isAgg162
  z46 := Tryz.sizeOf162
  v46 := Tryz.zeroValue162
  t51 := Tryz.underlying216
  a51 := Tryz.isAgg216
  z51 := Tryz.sizeOf216
  v51 := Tryz.zeroValue216
  t53 := Tryz.underlying87
  a53 := Tryz.isAgg87
  z53 := Tryz.sizeOf87
  v53 := Tryz.zeroValue87
  t75 := Tryz.underlying201
  a75 := Tryz.isAgg201
  z75 := Tryz.sizeOf201
  v75 := Tryz.zeroValue201
  t76 := Tryz.underlying202
  a76 := Tryz.isAgg202
  z76 := Tryz.sizeOf202
  v76 := Tryz.zeroValue202
  t85 := Tryz.underlying243
  a85 := Tryz.isAgg243
  z85 := Tryz.sizeOf243
  v85 := Tryz.zeroValue243
  t127 := Tryz.underlying248
  a127 := Tryz.isAgg248
  z127 := Tryz.sizeOf248
  v127 := Tryz.zeroValue248
  t143 := Tryz.underlying266
  a143 := Tryz.isAgg266
  z143 := Tryz.sizeOf266
  v143 := Tryz.zeroValue266
  t145 := Tryz.underlying268
  a145 := Tryz.isAgg268
  z145 := Tryz.sizeOf268
  v145 := Tryz.zeroValue268
  t167 := Tryz.underlying242
  a167 := Tryz.isAgg242
  z167 := Tryz.sizeOf242
  v167 := Tryz.zeroValue242
  t168 := Tryz.underlying245
  a168 := Tryz.isAgg245
  z168 := Tryz.sizeOf245
  v168 := Tryz.zeroValue245
  t171 := Tryz.underlying195
  a171 := Tryz.isAgg195
  z171 := Tryz.sizeOf195
  v171 := Tryz.zeroValue195
  t173 := Tryz.underlying198
  a173 := Tryz.isAgg198
  z173 := Tryz.sizeOf198
  v173 := Tryz.zeroValue198
  t175 := Tryz.underlying254
  a175 := Tryz.isAgg254
  z175 := Tryz.sizeOf254
  v175 := Tryz.zeroValue254
  t210 := Tryz.underlying257
  a210 := Tryz.isAgg257
  z210 := Tryz.sizeOf257
  v210 := Tryz.zeroValue257
  t212 := Tryz.underlying215
  a212 := Tryz.isAgg215
  z212 := Tryz.sizeOf215
  v212 := Tryz.zeroValue215
  t213 := Tryz.underlying217
  a213 := Tryz.isAgg217
  z213 := Tryz.sizeOf217
  t232 := Tryz.underlying252
  a232 := Tryz.isAgg252
  z232 := Tryz.sizeOf252
  v232 := Tryz.zeroValue252
  t233 := Tryz.underlying253
  a233 := Tryz.isAgg253
  z233 := Tryz.sizeOf253
  v233 := Tryz.zeroValue253
  g15 := by kernel_rfl
  g16 := by kernel_rfl
  g17 := by kernel_rfl
  g18 := by kernel_rfl
  g19 := by kernel_rfl
  t80 := Tryz.underlying226
  a80 := Tryz.isAgg226
  z80 := Tryz.sizeOf226
  v80 := Tryz.zeroValue226
  i0 := by kernel_rfl
  i2 := by kernel_rfl
  i3 := by kernel_rfl
  i4 := by kernel_rfl
  i5 := by kernel_rfl
  i9 := by kernel_rfl
  i20 := by kernel_rfl
  i21 := by kernel_rfl
  i37 := by kernel_rfl
  i46 := by kernel_rfl
  i51 := by kernel_rfl
  i53 := by kernel_rfl
  i75 := by kernel_rfl
  i76 := by kernel_rfl
  i80 := by kernel_rfl
  i85 := by kernel_rfl
  i127 := by kernel_rfl
  i143 := by kernel_rfl
  i145 := by kernel_rfl
  i167 := by kernel_rfl
  i168 := by kernel_rfl
  i171 := by kernel_rfl
  i173 := by kernel_rfl
  i175 := by kernel_rfl
  i210 := by kernel_rfl
  i212 := by kernel_rfl
  i232 := by kernel_rfl
  i233 := by kernel_rfl
  m15 := by kernel_rfl
  m16 := by kernel_rfl
  m17 := by kernel_rfl
  m18 := by kernel_rfl
  m19 := by kernel_rfl
  c0 := by kernel_rfl
  c2 := by kernel_rfl
  c3 := by kernel_rfl
  c4 := by kernel_rfl
  c5 := by kernel_rfl
  c9 := by kernel_rfl
  c20 := by kernel_rfl
  c21 := by kernel_rfl
  c37 := by kernel_rfl
  c46 := by kernel_rfl
  c51 := by kernel_rfl
  c53 := by kernel_rfl
  c75 := by kernel_rfl
  c76 := by kernel_rfl
  c80 := by kernel_rfl
  c85 := by kernel_rfl
  c127 := by kernel_rfl
  c143 := by kernel_rfl
  c145 := by kernel_rfl
  c167 := by kernel_rfl
  c168 := by kernel_rfl
  c171 := by kernel_rfl
  c173 := by kernel_rfl
  c175 := by kernel_rfl
  c210 := by kernel_rfl
  c212 := by kernel_rfl
  c213 := by kernel_rfl
  c232 := by kernel_rfl
  c233 := by kernel_rfl }
open Go.RowKit in
theorem Tryz.strconv_Atoi_err (s : ByteArray) (hl : s.size ≤ 18) (h : Lib.atoi s.data.toList = none) (ev : Value) (w : World) (hv : w.cell? ⟨6, 0, none⟩ = some ev) (hev : ev = .nilIface ∨ ∃ te pe, ev = .iface te pe) :
    Calls Tryz.prog 175 #[.string s] w fun e w' => ∃ N, e = .returned (.tuple #[.int .i64 0, .iface 245 (.pointer (some ⟨N, 0, none⟩))]) ∧ w.heap.size ≤ N ∧ w'.heap[N]? = some (.cells #[.string ⟨#[65, 116, 111, 105]⟩, .string s, ev] 257 (0, 0)) ∧ Below w.heap.size w w' := Any.strconv_Atoi_err Tryz.laysC172 s hl h ev w hv hev
def Tryz.lays219_ren : Go.Shelf.Ren := ⟨fun | 219 => 165 | 217 => 199 | 225 => 200 | 224 => 201 | 267 => 202 | 266 => 229 | 314 => 230 | n => n, fun | 9 => 9 | 3 => 3 | 4 => 4 | 5 => 5 | 46 => 162 | 146 => 239 | 51 => 216 | n => n, fun | 1 => 0 | n => n⟩
theorem Tryz.lays219 : Go.Proofs.Lays.n219 Tryz.prog Tryz.lays219_ren := {
  mixed := by kernel_rfl
  f217 := Tryz.func199.trans (congrArg some (by kernel_rfl))
  f219 := Tryz.func165.trans (congrArg some (by kernel_rfl))
  f224 := Tryz.func201.trans (congrArg some (by kernel_rfl))
  f225 := Tryz.func200.trans (congrArg some (by kernel_rfl))
  f266 := Tryz.func229.trans (congrArg some (by kernel_rfl))
  f267 := Tryz.func202.trans (congrArg some (by kernel_rfl))
  f314 := Tryz.func230.trans (congrArg some (by kernel_rfl))
  t3 := Tryz.underlying3
  a3 := Tryz.isAgg3
  z3 := Tryz.sizeOf3
  v3 := Tryz.zeroValue3
  t4 := Tryz.underlying4
  a4 := Tryz.isAgg4
  z4 := Tryz.sizeOf4
  v4 := Tryz.zeroValue4
  t5 := Tryz.underlying5
  a5 := Tryz.isAgg5
  z5 := Tryz.sizeOf5
  v5 := Tryz.zeroValue5
  t9 := Tryz.underlying9
  a9 := Tryz.isAgg9
  z9 := Tryz.sizeOf9
  v9 := Tryz.zeroValue9
  t46 := Tryz.underlying162
  a46 := Tryz.isAgg162
  z46 := Tryz.sizeOf162
  v46 := Tryz.zeroValue162
  t51 := Tryz.underlying216
  a51 := Tryz.isAgg216
  z51 := Tryz.sizeOf216
  v51 := Tryz.zeroValue216
  t146 := Tryz.underlying239
  a146 := Tryz.isAgg239
  z146 := Tryz.sizeOf239
  v146 := Tryz.zeroValue239
  g1 := by kernel_rfl }
open Go.RowKit Go.Lib in
theorem Tryz.stringslite_Index_one (s : ByteArray) (c : UInt8) (w : World) :
    Calls Tryz.prog 165 #[.string s, .string ⟨#[c]⟩] w fun e w' => e = .returned (.int .i64 (Lib.indexByte s.data.toList c)) ∧ w' = w := Any.stringslite_Index_one Tryz.lays219 s c w
def Tryz.lays144_ren : Go.Shelf.Ren := ⟨fun | 144 => 111 | 143 => 131 | 219 => 165 | 217 => 199 | 225 => 200 | 224 => 201 | 267 => 202 | 266 => 229 | 314 => 230 | n => n, fun | 9 => 9 | 4 => 4 | 3 => 3 | 5 => 5 | 46 => 162 | 146 => 239 | 51 => 216 | n => n, fun | 1 => 0 | n => n⟩
theorem Tryz.lays144 : Go.Proofs.Lays.n144 Tryz.prog Tryz.lays144_ren := {
  mixed := by kernel_rfl
  f143 := Tryz.func131.trans (congrArg some (by kernel_rfl))
  f144 := Tryz.func111.trans (congrArg some (by kernel_rfl))
  f217 := Tryz.func199.trans (congrArg some (by kernel_rfl))
  f219 := Tryz.func165.trans (congrArg some (by kernel_rfl))
  f224 := Tryz.func201.trans (congrArg some (by kernel_rfl))
  f225 := Tryz.func200.trans (congrArg some (by kernel_rfl))
  f266 := Tryz.func229.trans (congrArg some (by kernel_rfl))
  f267 := Tryz.func202.trans (congrArg some (by kernel_rfl))
  f314 := Tryz.func230.trans (congrArg some (by kernel_rfl))
  t3 := Tryz.underlying3
  a3 := Tryz.isAgg3
  z3 := Tryz.sizeOf3
  v3 := Tryz.zeroValue3
  t4 := Tryz.underlying4
  a4 := Tryz.isAgg4
  z4 := Tryz.sizeOf4
  v4 := Tryz.zeroValue4
  t5 := Tryz.underlying5
  a5 := Tryz.isAgg5
  z5 := Tryz.sizeOf5
  v5 := Tryz.zeroValue5
  t9 := Tryz.underlying9
  a9 := Tryz.isAgg9
  z9 := Tryz.sizeOf9
  v9 := Tryz.zeroValue9
  t46 := Tryz.underlying162
  a46 := Tryz.isAgg162
  z46 := Tryz.sizeOf162
  v46 := Tryz.zeroValue162
  t51 := Tryz.underlying216
  a51 := Tryz.isAgg216
  z51 := Tryz.sizeOf216
  v51 := Tryz.zeroValue216
  t146 := Tryz.underlying239
  a146 := Tryz.isAgg239
  z146 := Tryz.sizeOf239
  v146 := Tryz.zeroValue239
  g1 := by kernel_rfl }
open Go.RowKit Go.Lib in
theorem Tryz.strings_Contains_one (s : ByteArray) (c : UInt8) (w : World) :
    Calls Tryz.prog 111 #[.string s, .string ⟨#[c]⟩] w fun e w' => e = .returned (.bool (decide (0 ≤ Lib.indexByte s.data.toList c))) ∧ w' = w := Any.strings_Contains_one Tryz.lays144 s c w
def Tryz.lays146_ren : Go.Shelf.Ren := ⟨fun | 146 => 48 | 221 => 94 | 268 => 129 | 138 => 130 | 143 => 131 | 195 => 162 | 197 => 163 | 218 => 164 | 219 => 165 | 260 => 198 | 217 => 199 | 225 => 200 | 224 => 201 | 267 => 202 | 266 => 229 | 314 => 230 | n => n, fun | 9 => 9 | 31 => 31 | 3 => 3 | 4 => 4 | 0 => 0 | 105 => 188 | 21 => 21 | 5 => 5 | 46 => 162 | 119 => 235 | 139 => 238 | 138 => 237 | 146 => 239 | 51 => 216 | n => n, fun | 1 => 0 | 3 => 2 | 4 => 3 | n => n⟩
theorem Tryz.lays146 : Go.Proofs.Lays.n146 Tryz.prog Tryz.lays146_ren := {
  mixed := by kernel_rfl
  f138 := Tryz.func130.trans (congrArg some (by kernel_rfl))
  f143 := Tryz.func131.trans (congrArg some (by kernel_rfl))
  f146 := Tryz.func48.trans (congrArg some (by kernel_rfl))
  f195 := Tryz.func162.trans (congrArg some (by kernel_rfl))
  f197 := Tryz.func163.trans (congrArg some (by kernel_rfl))
  f217 := Tryz.func199.trans (congrArg some (by kernel_rfl))
  f218 := Tryz.func164.trans (congrArg some (by kernel_rfl))
  f219 := Tryz.func165.trans (congrArg some (by kernel_rfl))
  f221 := Tryz.func94.trans (congrArg some (by kernel_rfl))
  f224 := Tryz.func201.trans (congrArg some (by kernel_rfl))
  f225 := Tryz.func200.trans (congrArg some (by kernel_rfl))
  f260 := Tryz.func198.trans (congrArg some (by kernel_rfl))
  f266 := Tryz.func229.trans (congrArg some (by kernel_rfl))
  f267 := Tryz.func202.trans (congrArg some (by kernel_rfl))
  f268 := Tryz.func129.trans (congrArg some (by kernel_rfl))
  f314 := Tryz.func230.trans (congrArg some (by kernel_rfl))
  t0 := Tryz.underlying0
  a0 := Tryz.isAgg0
  z0 := Tryz.sizeOf0
  v0 := Tryz.zeroValue0
  t3 := Tryz.underlying3
  a3 := Tryz.isAgg3
  z3 := Tryz.sizeOf3
  v3 := Tryz.zeroValue3
  t4 := Tryz.underlying4
  a4 := Tryz.isAgg4
  z4 := Tryz.sizeOf4
  v4 := Tryz.zeroValue4
  t5 := Tryz.underlying5
  a5 := Tryz.isAgg5
  z5 := Tryz.sizeOf5
  v5 := Tryz.zeroValue5
  t9 := Tryz.underlying9
  a9 := Tryz.isAgg9
  z9 := Tryz.sizeOf9
  v9 := Tryz.zeroValue9
  t21 := Tryz.underlying21
  a21 := Tryz.isAgg21
  z21 := Tryz.sizeOf21
  v21 := Tryz.zeroValue21
  t31 := Tryz.underlying31
  a31 := Tryz.isAgg31
  z31 := Tryz.sizeOf31
  v31 := Tryz.zeroValue31
  t46 := Tryz.underlying162
  a46 := Tryz.isAgg162
  z46 := Tryz.sizeOf162
  v46 := Tryz.zeroValue162
  t51 := Tryz.underlying216
  a51 := Tryz.isAgg216
  z51 := Tryz.sizeOf216
  v51 := Tryz.zeroValue216
  t105 := Tryz.underlying188
  a105 := Tryz.isAgg188
  z105 := Tryz.sizeOf188
  v105 := Tryz.zeroValue188
  t119 := Tryz.underlying235
  a119 := Tryz.isAgg235
  z119 := Tryz.sizeOf235
  t138 := Tryz.underlying237
  a138 := Tryz.isAgg237
  z138 := Tryz.sizeOf237
  v138 := Tryz.zeroValue237
  t139 := Tryz.underlying238
  a139 := Tryz.isAgg238
  z139 := Tryz.sizeOf238
  v139 := Tryz.zeroValue238
  t146 := Tryz.underlying239
  a146 := Tryz.isAgg239
  z146 := Tryz.sizeOf239
  v146 := Tryz.zeroValue239
  g1 := by kernel_rfl
  g3 := by kernel_rfl
  g4 := by kernel_rfl }
open Go.RowKit Go.Lib in
theorem Tryz.strings_Split (s sep : ByteArray) (m : Int) (w : World) (hs : s.size < 4294967281) (hm : w.cell? ⟨0, 0, none⟩ = some (.int .i64 m)) (h1 : 1 ≤ sep.size) :
    Calls Tryz.prog 48 #[.string s, .string sep] w fun e w' =>
      e = .returned (.slice (some ⟨w.heap.size, 0, none⟩) (Lib.countB s sep + 1) (Lib.countB s sep + 1)) ∧ w' = w.alloc (.cells ((Lib.splitB sep 0 (Lib.countB s sep) s).map Value.string).toArray 9) := Any.strings_Split Tryz.lays146 (by kernel_rfl) s sep m w hs hm h1
def Tryz.lays109_ren : Go.Shelf.Ren := ⟨fun | 109 => 140 | n => n, fun | 31 => 31 | 9 => 9 | 3 => 3 | 0 => 0 | 4 => 4 | n => n, fun | n => n⟩
theorem Tryz.lays109 : Go.Proofs.Lays.n109 Tryz.prog Tryz.lays109_ren := {
  mixed := by kernel_rfl
  f109 := Tryz.func140.trans (congrArg some (by kernel_rfl))
  t0 := Tryz.underlying0
  a0 := Tryz.isAgg0
  z0 := Tryz.sizeOf0
  v0 := Tryz.zeroValue0
  t3 := Tryz.underlying3
  a3 := Tryz.isAgg3
  z3 := Tryz.sizeOf3
  v3 := Tryz.zeroValue3
  t4 := Tryz.underlying4
  a4 := Tryz.isAgg4
  z4 := Tryz.sizeOf4
  v4 := Tryz.zeroValue4
  t9 := Tryz.underlying9
  a9 := Tryz.isAgg9
  z9 := Tryz.sizeOf9
  v9 := Tryz.zeroValue9
  t31 := Tryz.underlying31
  a31 := Tryz.isAgg31
  z31 := Tryz.sizeOf31
  v31 := Tryz.zeroValue31 }
open Go.Lib in
theorem Tryz.slices_Index_string (b off n c : Nat) (zs : List ByteArray) (x : ByteArray) (w : World) (hz : n ≤ zs.length) (hbig : n ≤ 9223372036854775807) (hc : ∀ j, j < zs.length → w.cell? ⟨b, off + j, none⟩ = some (.string (zs.getD j ByteArray.empty))) :
    Calls Tryz.prog 140 #[.slice (some ⟨b, off, none⟩) n c, .string x] w fun e w' => e = .returned (.int .i64 (Lib.idxOfS (zs.take n) x)) ∧ w' = w := Any.slices_Index_string Tryz.lays109 b off n c zs x w hz hbig hc
end Go.Proofs
