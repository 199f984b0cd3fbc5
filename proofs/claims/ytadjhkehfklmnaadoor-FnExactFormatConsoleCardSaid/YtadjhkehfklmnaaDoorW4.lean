/-
  Blocks lent to a callee, rows that grow by one element, empty rows that go out.
  Conditions: none beyond each statement's own premises.
-/
import Derived.Test.YtadjhkehfklmnaaDoorW3
namespace Go.Proofs.YtadjhkehfklmnaaDoor
set_option linter.unusedSimpArgs false
set_option linter.unusedVariables false
open Go.RowKit
theorem upto_succ {p : Nat → Prop} {k : Nat} (h : ∀ i, i < k → p i) (hk : p k) : ∀ i, i < k + 1 → p i := fun i hi => by
  rcases Nat.lt_or_ge i k with h1 | h1
  · exact h i h1
  · obtain rfl : i = k := by omega
    exact hk
/-- The world as the callee finds it, to which this owned thing is lent. -/
def Base.lend (w : World) (o : Own) : Base := ⟨w, fun b => o.block = some b⟩
section
variable {w0 : Base} {w w' : World} {own : List Own} {o o' : Own} {k : Nat} {K : Value → List Own → Prop}
theorem Mem.lend (m : Mem w0 own w) (hk : own[k]? = some o) : Mem (Base.lend w o) [o] w := by
  have h := m.ok k o hk
  refine ⟨⟨Keeps.refl _, fun j o1 h1 => ?_⟩, fun j j' o1 o2 g hne h1 h2 _ => ?_⟩
  · have : j = 0 := by
      rcases j with _ | j
      · rfl
      · simp at h1
    subst this
    simp at h1
    subst h1
    cases o with
    | blk g ty cs => exact ⟨.inr rfl, h.2⟩
    | row v ty size n xs => exact ⟨fun g hg => .inr hg, h.2⟩
    | txt g ty cs => exact ⟨.inr rfl, h.2⟩
    | gone => trivial
  · rcases j with _ | j
    · rcases j' with _ | j'
      · exact absurd rfl hne
      · simp at h2
    · simp at h1
theorem Mem.back (m : Mem w0 own w) (hk : own[k]? = some o) (m' : Mem (Base.lend w o) [o'] w') : Mem w0 (own.set k o') w' := by
  have h := m.ok k o hk
  have h' := m'.ok 0 o' rfl
  have mine : ∀ g, (Base.lend w o).mine g → w0.mine g := fun g hg => by
    rcases hg with hg | hg
    · exact .inl (Nat.le_trans m.ge hg)
    · exact (h.lt g hg).1
  refine m.turn hk ?_ ?_ (fun g hg hlt => m'.keeps.block g hlt hg) (fun g hg => ?_)
  · refine m.keeps.step m'.keeps.os m'.keeps.tape m'.keeps.output m'.keeps.size fun b h1 h2 => ?_
    refine m'.keeps.block b (Nat.lt_of_lt_of_le h1 m.keeps.size) fun hb => ?_
    rcases (h.lt b hb).1 with h3 | h3
    · omega
    · exact h2 h3
  · cases o' with
    | blk g ty cs => exact ⟨mine g h'.1, h'.2⟩
    | row v ty size n xs => exact ⟨fun g hg => mine g (h'.1 g hg), h'.2⟩
    | txt g ty cs => exact ⟨mine g h'.1, h'.2⟩
    | gone => trivial
  · rcases (h'.lt g hg).1 with h3 | h3
    · exact .inr h3
    · exact .inl h3
theorem VCall.lend {P : Program} {f : FuncId} {args : List Value} (k : Nat) {o : Own} (hk : own[k]? = Option.some o) (val : Value) (o' : Own)
    (h : ∀ w, Mem (Base.lend w o) [o] w → Calls P f args.toArray w fun e w' => ∃ v, e = .returned v ∧ v = val ∧ Mem (Base.lend w o) [o'] w') (c : setK own k o' fun own => splitB val fun v => K v own) : VCall P w0 own f args K :=
  .gen (ι := Unit) (fun _ => True) (fun _ => val) (fun _ => own.set k o') (fun w m => (h w (m.lend hk)).mono fun e w' ⟨v, he, hv, m'⟩ => ⟨(), trivial, by rw [he, hv], m.back hk m'⟩) (fun _ _ => c.out)
/-- A growing row takes all of an own block. -/
theorem VApp.push {e size : Nat} {s x : Value} (k j : Nat) {n : Nat} {xs : List Value} (hk : own[k]? = some (.row s e size n xs)) {g m c : Nat} {ty : TypeId} {cs : List Value} (hj : own[j]? = some (.blk g ty cs)) (hx : x = .slice (some ⟨g, 0, none⟩) m c) (hl : cs.length = m * size) (h1 : cs.all (·.oneCell') = true) (hn : n + m ≤ 17179869184)
    (c : ∀ A c', setK own k (.row (.slice A (n + m) c') e size (n + m) (xs ++ cs)) fun own => K (.slice A (n + m) c') own) : VApp w0 own e size s x K :=
  .row k hk hx cs hl (fun i u hu => Rd.own j hj (by simpa using hu)) h1 hn (fun A c' _ => c A c')
theorem rowsN_all {f : Nat → List Value} (h : ∀ i, (f i).all (·.oneCell') = true) : ∀ n, (rowsN n f).all (·.oneCell') = true
  | 0 => rfl
  | n + 1 => by rw [rowsN_succ, List.all_append, rowsN_all h n, h n]; rfl
/-- A growing row takes all that another slice, in old memory, reads as. -/
theorem VApp.seen {w1 : World} {e size : Nat} {s x : Value} (k : Nat) {n : Nat} {xs : List Value} (hk : own[k]? = some (.row s e size n xs)) {A : Option Addr} {m c : Nat} {cs : List Value} (hx : x = .slice A m c) (hA : Seen w1 A cs) (hl : cs.length = m * size) (hp : 0 < m * size) (h1 : cs.all (·.oneCell') = true) (hn : n + m ≤ 17179869184)
    (kk : ∀ A c', setK own k (.row (.slice A (n + m) c') e size (n + m) (xs ++ cs)) fun own => K (.slice A (n + m) c') own) : VApp (Base.of w1) own e size s x K := by
  have h0 : cs[0]? = some (cs[0]'(by omega)) := List.getElem?_eq_getElem _
  obtain ⟨b, off, rfl, hb⟩ := hA.addr h0
  refine .row k hk hx cs hl (fun i u hu => Rd.old hb (fun x => x) ?_) h1 hn (fun A c' _ => kk A c')
  exact hA.cell hu
/-- An empty result without a block goes out as a row. -/
theorem VRet.nilRow {ι : Type} {I : ι → Prop} {val : ι → Value} {news : ι → List Own} {v : Value} (i : ι) (hi : I i) (hv : v = val i) {ty : TypeId} {size : Nat} (h : news i = [.row (.slice none 0 0) ty size 0 []]) : VRet w0 own (RetV I val news w0) v :=
  ⟨fun w m => ⟨i, hi, hv, by
    rw [h]
    have m1 : Mem w0 ([] : List Own) w := m.sel (ks := []) (by simp)
    exact m1.pushNil ty size⟩⟩
end
end Go.Proofs.YtadjhkehfklmnaaDoor
