/-
  Texts made of bytes that the call itself laid; the laws' own marks of texts.
  Conditions: none beyond each statement's own premises.
-/
import Derived.Test.YtadjhkehfklmnaaDoorW4
namespace Go.Proofs.YtadjhkehfklmnaaDoor
set_option linter.unusedSimpArgs false
set_option linter.unusedVariables false
open Go.RowKit
set_option maxRecDepth 10000
/-- A text of one byte. -/
def b1 (n : Nat) : ByteArray := ⟨#[UInt8.ofNat n]⟩
theorem b1_size (n : Nat) : (b1 n).size = 1 := rfl
theorem b1_get (n : Nat) (h : n < 256) (i : Nat) (hi : i < (b1 n).size) : ((b1 n)[i].toNat : Int) = (n : Int) := by
  have h0 : i = 0 := by have := b1_size n; omega
  subst h0
  show ((UInt8.ofNat n).toNat : Int) = (n : Int)
  rw [UInt8.toNat_ofNat']
  have : n % 2 ^ 8 = n := Nat.mod_eq_of_lt h
  rw [this]
theorem VBytes.blk {w0 : Base} {own : List Own} {g n : Nat} {K : Value → Prop} (k : Nat) {ty : TypeId} {cs : List Value} (hk : own[k]? = some (.blk g ty cs)) (bs : ByteArray) (hl : bs.size = n) (h : ∀ (i : Nat) (hi : i < bs.size), cs[i]? = some (.int .u8 (bs[i].toNat : Int))) (kk : K (.string bs)) : VBytes w0 own g 0 n K :=
  .mk bs hl (fun i hi => Rd.own k hk (by rw [Nat.zero_add]; exact h i hi)) kk
theorem VBytes.row {w0 : Base} {own : List Own} {g n : Nat} {K : Value → Prop} (k : Nat) {n' c : Nat} {ty : TypeId} {size m : Nat} {xs : List Value} (hk : own[k]? = some (.row (.slice (some ⟨g, 0, none⟩) n' c) ty size m xs)) (bs : ByteArray) (hl : bs.size = n) (h : ∀ (i : Nat) (hi : i < bs.size), xs[i]? = some (.int .u8 (bs[i].toNat : Int))) (kk : K (.string bs)) : VBytes w0 own g 0 n K :=
  .mk bs hl (fun i hi => Rd.row k hk (by rw [Nat.zero_add]; exact h i hi)) kk
/-- The digits of a number ahead of a text. -/
def mtGo : Nat → Int → ByteArray → ByteArray
  | 0, _, out => out
  | f + 1, n, out => if 0 < n then mtGo f (n / 10) (b1 (48 + (n % 10).toNat) ++ out) else out
def mtx (n : Int) : ByteArray := if n ≤ 0 then "m0".toUTF8 else "m".toUTF8 ++ mtGo (n.toNat) n ByteArray.empty
theorem wrap_u8 {x : Int} (h0 : 0 ≤ x) (h1 : x < 256) : IntKind.u8.wrap x = x := by
  rw [IntKind.wrap_u8]; omega
theorem mtGo_pos {f : Nat} {n : Int} {out : ByteArray} (h : 0 < n) : mtGo (f + 1) n out = mtGo f (n / 10) (b1 (48 + (n % 10).toNat) ++ out) := if_pos h
theorem mtGo_zero {f : Nat} {n : Int} {out : ByteArray} (h : ¬ 0 < n) : mtGo f n out = out := by
  cases f with
  | zero => rfl
  | succ f => exact if_neg h
end Go.Proofs.YtadjhkehfklmnaaDoor
