/-
  Bytes that come in as an argument: plain.
  Conditions: none beyond each statement's own premises.
-/
import Derived.Test.YtapfljhihbodkaaGreatDoorTX
import Derived.Test.YtapfljhihbodkaaGreatDoorRow
import Derived.Test.YtapfljhihbodkaaGreatDoorW2
import Derived.Test.YtapfljhihbodkaaGreatDoorProg
namespace Go.Proofs.YtapfljhihbodkaaGreatDoor
set_option linter.unusedSimpArgs false
set_option linter.unusedVariables false
open Go.ChangeShapes Go.WideShapes Go.ChangeAt Go.RowKit
set_option maxRecDepth 10000
theorem cell_u8 {H : Type} {enc : TypeId × Value → H} {P : Program} {w : World} {base : Nat} {spare : Nat → Bool} {held : Bool} {t : TypeId} {fuel : Nat} {cs : List Value} {x : DataW H × List MemPlace} (ht : P.underlying t = some (.int .u8)) (h : DataW.trod enc P w base spare held fuel t cs = some x) : ∃ b : UInt8, cs = [.int .u8 (b.toNat : Int)] := by
  obtain ⟨n, h1, _, h3⟩ := DataW.trod_int ht h
  have h4 : 0 ≤ n ∧ n ≤ 255 := by simpa [Lit.wf, IntKind.min, IntKind.max, IntKind.signed, IntKind.bits] using h3
  refine ⟨UInt8.ofNat n.toNat, ?_⟩
  rw [h1, UInt8.toNat_ofNat']
  have : ((n.toNat % 2 ^ 8 : Nat) : Int) = n := by omega
  rw [this]
set_option maxRecDepth 100000 in
theorem open_YS {H : Type} {enc : TypeId × Value → H} {w : World} {base : Nat} {spare : Nat → Bool} {held : Bool} {fuel : Nat} {cs : List Value} {x : DataW H × List MemPlace} (h : DataW.trod enc Tryz.prog w base spare held fuel 22 cs = some x) :
    ∃ (A : Option Addr) (l : List UInt8) (c : Nat), cs = [.slice A l.length c] ∧ l.length ≤ 9223372036854775807 ∧ Seen w A (YS l) := by
  obtain ⟨A, n, c, rfl, hn, fu, he⟩ := open_elems (s := 1) Tryz.underlying22 (by kernel_rfl) (by omega) h
  have H : ∀ i, i < n → ∃ l : UInt8, (∃ b off, A = some ⟨b, off, none⟩ ∧ RowAt w b (off + i * 1) [.int .u8 (l.toNat : Int)]) := fun i hi => by
    obtain ⟨b, off, cs', y, hA, hb, hlen, hc, ht⟩ := he i hi
    obtain ⟨l, rfl⟩ := cell_u8 Tryz.underlying5 ht
    exact ⟨l, ⟨b, off, hA, hb, fun j u hj => (hc j (by
      rcases Nat.lt_or_ge j 1 with h2 | h2
      · exact h2
      · rw [List.getElem?_eq_none h2] at hj; cases hj)).trans hj⟩⟩
  obtain ⟨f, hf⟩ := choose_below (0 : UInt8) H
  have hlen : ((List.range n).map f).length = n := by simp
  have hs : Seen w A (rowsN n fun i => [.int .u8 ((f i).toNat : Int)]) := Seen.ofRows (s := 1) (fun _ => rfl) (fun i hi => hf i hi)
  have e : (rowsN n fun i => ([.int .u8 ((f i).toNat : Int)] : List Value)) = YS ((List.range n).map f) := by
    rw [show (rowsN n fun i => ([.int .u8 ((f i).toNat : Int)] : List Value)) = (List.range n).map (fun i => Value.int .u8 ((f i).toNat : Int)) from rowsN_one _ _]
    unfold YS
    rw [List.map_map]
    rfl
  rw [e] at hs
  exact ⟨A, (List.range n).map f, c, by rw [hlen], by rw [hlen]; exact hn, hs⟩
theorem openV_YS {H : Type} {enc : TypeId × Value → H} {w : World} {base : Nat} {spare : Nat → Bool} {held : Bool} {r : Reach} {b0 : Nat} {v : Value} {d : DataW H} {ps : List MemPlace} (hv : Value.okWide Tryz.prog w r b0 22 v) (h : DataW.Trod enc Tryz.prog w base spare held 22 v d ps) :
    ∃ (A : Option Addr) (l : List UInt8) (c : Nat), v = .slice A l.length c ∧ l.length ≤ 9223372036854775807 ∧ Seen w A (YS l) := by
  obtain ⟨A, n, c, fuel, rfl, hf⟩ := openV_slice Tryz.underlying22 hv h
  obtain ⟨A', l, c', e, hn, hr⟩ := open_YS hf
  cases e
  exact ⟨A, l, c, rfl, hn, hr⟩
end Go.Proofs.YtapfljhihbodkaaGreatDoor
