/-
  Texts as lists of bytes.
  Conditions: none beyond each statement's own premises.
-/
import Derived.Test.YtadjhkehfklmnaaDoorLS
namespace Go.Proofs.YtadjhkehfklmnaaDoor
set_option linter.unusedSimpArgs false
set_option linter.unusedVariables false
open Go.RowKit
set_option maxRecDepth 10000
def tx (l : List UInt8) : ByteArray := ⟨l.toArray⟩
def YS (l : List UInt8) : List Value := l.map fun b => .int .u8 (b.toNat : Int)
theorem tx_size (l : List UInt8) : (tx l).size = l.length := by simp [tx, ByteArray.size]
theorem tx_app (a b : List UInt8) : tx a ++ tx b = tx (a ++ b) := by
  apply ByteArray.ext
  simp [tx, ByteArray.data_append]
theorem YS_len (l : List UInt8) : (YS l).length = l.length := by simp [YS]
theorem YS_len1 (l : List UInt8) : (YS l).length = l.length * 1 := by simp [YS]
theorem YS_app (a b : List UInt8) : YS (a ++ b) = YS a ++ YS b := List.map_append
theorem YS_get (l : List UInt8) (i : Nat) (hi : i < (tx l).size) : (YS l)[i]? = some (.int .u8 ((tx l)[i].toNat : Int)) := by
  have h : i < l.length := by rw [← tx_size]; exact hi
  unfold YS
  rw [List.getElem?_map, List.getElem?_eq_getElem h]
  rfl
theorem VCat.of {a b : List UInt8} {K : Value → Prop} (h : a.length + b.length ≤ 9223372036854775807) (k : K (.string (tx (a ++ b)))) : VCat (tx a) (tx b) K :=
  .mk (by rw [tx_size, tx_size]; exact h) (by rw [tx_app]; exact k)
theorem VBytes.of {w0 : Base} {own : List Own} {g : Nat} {K : Value → Prop} (k : Nat) {n' c : Nat} {ty : TypeId} {size m : Nat} (l : List UInt8) {n : Nat} (hn : n = l.length) (hk : own[k]? = some (.row (.slice (some ⟨g, 0, none⟩) n' c) ty size m (YS l))) (kk : K (.string (tx l))) : VBytes w0 own g 0 n K :=
  VBytes.row k hk (tx l) (by rw [tx_size, hn]) (YS_get l) kk
/-- The letter of a number. -/
def ltr (x : Int) : UInt8 := UInt8.ofNat (97 + x.toNat)
theorem ltr_int {x : Int} (h0 : 0 ≤ x) (h1 : x < 26) : ((ltr x).toNat : Int) = 97 + x := by
  unfold ltr
  rw [UInt8.toNat_ofNat']
  omega
theorem letters (j : Nat) (h : j < 5) : (tx [97, 98, 99, 100, 101]).extract j (j + 1) = tx [ltr j] := by
  apply ByteArray.ext
  match j, h with
  | 0, _ => simp [tx, ltr]
  | 1, _ => simp [tx, ltr]
  | 2, _ => simp [tx, ltr]
  | 3, _ => simp [tx, ltr]
  | 4, _ => simp [tx, ltr]
/-- A growing row takes all of an own block, and has a block of its own. -/
theorem VApp.pushS {w0 : Base} {own : List Own} {K : Value → List Own → Prop} {e size : Nat} {s x : Value} (k j : Nat) {n : Nat} {xs : List Value} (hk : own[k]? = some (.row s e size n xs)) {g m c : Nat} {ty : TypeId} {cs : List Value} (hj : own[j]? = some (.blk g ty cs)) (hx : x = .slice (some ⟨g, 0, none⟩) m c) (hl : cs.length = m * size) (h1 : cs.all (·.oneCell') = true) (hn : n + m ≤ 17179869184) (hp : 0 < n + m)
    (c : ∀ g' c', setK own k (.row (.slice (some ⟨g', 0, none⟩) (n + m) c') e size (n + m) (xs ++ cs)) fun own => K (.slice (some ⟨g', 0, none⟩) (n + m) c') own) : VApp w0 own e size s x K :=
  .row k hk hx cs hl (fun i u hu => Rd.own j hj (by simpa using hu)) h1 hn (fun A c' hg => by obtain ⟨g', rfl⟩ := hg.1 hp; exact c g' c')
end Go.Proofs.YtadjhkehfklmnaaDoor
