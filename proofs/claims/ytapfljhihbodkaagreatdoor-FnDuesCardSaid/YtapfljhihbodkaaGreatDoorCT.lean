/-
  A walk may be cut at a call: what was owned before and most of the frame's slots are forgotten, so that many branches go on as one.
  Conditions: none beyond each statement's own premises.
-/
import Derived.Test.YtapfljhihbodkaaGreatDoorW6
namespace Go.Proofs.YtapfljhihbodkaaGreatDoor
set_option linter.unusedSimpArgs false
set_option linter.unusedVariables false
open Go.RowKit
/-- A frame of n slots, of which nothing is known. -/
def fresh (u : List Value) : Nat → Nat → List Value
  | 0, _ => []
  | n + 1, k => u.getD k undef :: fresh u n (k + 1)
def freshK (u : List Value) : Nat → Nat → (List Value → Prop) → Prop
  | 0, _, K => K []
  | n + 1, k, K => freshK u n (k + 1) fun l => K (u.getD k undef :: l)
theorem freshK.out {u : List Value} : ∀ {n k : Nat} {K : List Value → Prop}, freshK u n k K → K (fresh u n k)
  | 0, _, _, h => h
  | _ + 1, _, K, h => freshK.out (K := fun l => K (_ :: l)) h
theorem fresh_get (u : List Value) : ∀ (n k : Nat), k + n = u.length → fresh u n k = u.drop k
  | 0, k, h => by rw [List.drop_eq_nil_of_le (by omega)]; rfl
  | n + 1, k, h => by
    have hk : k < u.length := by omega
    rw [List.drop_eq_getElem_cons hk]
    show u.getD k undef :: fresh u n (k + 1) = _
    rw [fresh_get u n (k + 1) (by omega), List.getD_eq_getElem?_getD, List.getElem?_eq_getElem hk]
    rfl
theorem splitB.of {v : Value} {K : Value → Prop} (h : K v) : splitB v K := by
  unfold splitB
  split
  · rename_i b
    refine ⟨fun e => ?_, fun e => ?_⟩
    · subst e; exact h
    · cases b
      · exact h
      · exact absurd rfl e
  · exact h
/-- The slots that hold what is named. -/
def Named (fr : List Value) : List (Nat × Value) → Prop
  | [] => True
  | (t, v) :: r => fr[t]? = some v ∧ Named fr r
theorem Named.set {fr : List Value} : ∀ (nm : List (Nat × Value)), Named fr nm → setAll fr nm = fr
  | [], _ => rfl
  | (t, v) :: r, ⟨h1, h2⟩ => by
    show setAll (fr.set t v) r = fr
    have e : fr.set t v = fr := by
      apply List.ext_getElem?
      intro i
      rw [List.getElem?_set]
      split
      · rename_i hti
        subst hti
        split
        · exact h1.symm
        · rename_i hlt
          rw [List.getElem?_eq_none (by omega)] at h1
          cases h1
      · rfl
    rw [e]
    exact Named.set r h2
theorem VCall.cut {P : Program} {w0 : Base} {own : List Own} {f : FuncId} {args : List Value} {fr : List Value} {dst : Option Tmp} {G : List Own → List Value → Prop} (N : Nat) (nm : List (Nat × Value)) (hN : fr.length = N) (hn : Named fr nm)
    (h : ∀ u, VCall P w0 [] f args fun v own => freshK u N 0 fun x => setAllK x nm fun x => putK x dst v (G own)) : VCall P w0 own f args (fun v own => putK fr dst v (G own)) := by
  obtain ⟨I, val, own', hc, k⟩ := h fr
  refine .gen I val own' (fun w m => hc w (m.sel (ks := []) (by simp))) fun i hi => splitB.of ?_
  have h1 := (k i hi).out
  have h2 := freshK.out (K := fun x => setAllK x nm fun x => putK x dst (val i) (G (own' i))) h1
  have h3 := setAllK.out (K := fun x => putK x dst (val i) (G (own' i))) h2
  rw [fresh_get fr N 0 (by omega)] at h3
  show putK fr dst (val i) (G (own' i))
  rw [List.drop_zero, Named.set nm hn] at h3
  exact h3
end Go.Proofs.YtapfljhihbodkaaGreatDoor
