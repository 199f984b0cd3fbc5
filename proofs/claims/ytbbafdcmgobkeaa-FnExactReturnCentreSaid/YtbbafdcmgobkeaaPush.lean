/-
  Appending one element to a slice that the call itself has made; what an owned row of integers reads as.
  Conditions: none beyond each statement's own premises.
-/
import Derived.Test.YtbbafdcmgobkeaaBase
namespace Go.Proofs.Ytbbafdcmgobkeaa
set_option linter.unusedSimpArgs false
set_option linter.unusedVariables false
open Go.RowKit

theorem wpList_push {P : Program} {W : World} {ops : Array Oper} {rest : List Oper} {o : Oper} {a : Act} {Q : Exit → Act → World → Prop} (hgd : o.guard = none) (s x : Operand) (t : TypeId)
    (ho : o.op = .call { callee := .builtin .append, args := #[s, x], argTypes := #[t, t] })
    (base : Nat) (e : TypeId) (z : Value) (size bytes : Nat) (ht : P.underlying t = some (.slice e)) (hi : (P.info? e).map (fun i => (i.zero, i.size, i.bytes)) = some (some z, size, bytes))
    (hzs : z.cells.size = size) (hsz : 0 < size) (hby : bytes ≤ 4096)
    (v : Value) (n : Nat) (xs : List Value) (hs : a.eval s = v) (hown : W.ownsRow base e size v n xs)
    (news : List Value) (g : Nat) (hx : a.eval x = .slice (some ⟨g, 0, none⟩) 1 1) (hg : g = W.heap.size) (hl : news.length = size) (h1 : ∀ u ∈ news, u.oneCell' = true) (hn : n ≤ 1048576) (hbase : base ≤ W.heap.size)
    (h : ∀ v' w', w'.ownsRow base e size v' (n + 1) (xs ++ news) → World.grownBy (W.alloc (.cells news.toArray e)) w' v.ownBlock → Below base W w' → wpList P ops Q rest (a.put o.dst v') w') :
    wpList P ops Q (o :: rest) a (W.alloc (.cells news.toArray e)) := by
  subst hg
  obtain ⟨i0, hi0, hz0, hz1, hz2⟩ := info_parts hi
  refine wpList_append_own _ hgd s x t ho base e i0 z size bytes ht hi0 hz0 hz1 hz2 hzs hsz v n xs hs (hown.alloc _) ⟨W.heap.size, 0, none⟩ 1 1 news hx (by omega) ?_ h1 (by unfold maxLen; omega) ?_ (by simp; omega) ?_
  · intro j u hj
    rw [show (⟨W.heap.size, 0, none⟩ : Addr).add j = ⟨W.heap.size, j, none⟩ from by unfold Addr.add; split <;> simp_all]
    rw [(Blk.new W e news.toArray).cell j]
    simpa using hj
  · have : (n + 1) * bytes ≤ 1048577 * 4096 := Nat.mul_le_mul (by omega) hby
    omega
  · intro v' w' ho' hg' _
    exact h v' w' ho' hg' (((Below.refl base W).alloc hbase _).grown hg' (by simp; omega) (fun k hk => (hown.lt k hk).1))

/-- What is owned from an empty literal on. -/
theorem owns_empty {W : World} {base : Nat} (hb : base ≤ W.heap.size) (e : TypeId) (size : Nat) : (W.alloc (.cells #[] e)).ownsRow base e size (.slice (some ⟨W.heap.size, 0, none⟩) 0 0) 0 [] :=
  World.ownsRow_made W #[] 0 hb (by unfold maxLen; omega) (by simp)
/-- What is owned is kept where only blocks below 'base', or none, may have turned. -/
theorem owns_more {w : World} {base : Nat} {e : TypeId} {size : Nat} {v : Value} {n : Nat} {xs : List Value} (h : w.ownsRow base e size v n xs) (m : More) : (mw w m).ownsRow base e size v n xs :=
  h.kept (row := none) ⟨rfl, rfl, rfl, mw_ge w m, fun k hk _ => mw_block w m k hk⟩ (by cases hv : v.ownBlock <;> simp)
theorem owns_below {w w' : World} {base : Nat} {e : TypeId} {size : Nat} {v : Value} {n : Nat} {xs : List Value} (h : w.ownsRow base e size v n xs) (hb : Below w.heap.size w w') : w'.ownsRow base e size v n xs := by
  obtain ⟨m, rfl⟩ := mw_of_below hb
  exact owns_more h m

/-- The first k values of f, as cells. -/
def intsOf (f : Nat → Int) (k : Nat) : List Value := (List.range k).map fun i => .int .i64 (f i)
theorem intsOf_succ (f : Nat → Int) (k : Nat) : intsOf f (k + 1) = intsOf f k ++ [.int .i64 (f k)] := by simp [intsOf, List.range_succ]
theorem intsOf_congr {f g : Nat → Int} {k : Nat} (h : ∀ i, i < k → f i = g i) : intsOf f k = intsOf g k := by
  unfold intsOf
  exact List.map_congr_left fun i hi => by rw [h i (by simpa using hi)]
theorem RdI.of_owns {w : World} {base : Nat} {e : TypeId} {v : Value} {n : Nat} {f : Nat → Int} (h : w.ownsRow base e 1 v n (intsOf f n)) : ∃ A c, v = .slice A n c ∧ RdI w A n f := by
  rcases h.2 with ⟨rfl, rfl⟩ | ⟨g, cap, cur, rfl, _, hg, hc⟩
  · exact ⟨none, 0, rfl, RdI.nil _ _ _⟩
  · refine ⟨some ⟨g, 0, none⟩, cap, rfl, fun i hi => ⟨g, 0, rfl, (Array.getElem?_eq_some_iff.1 hg).1, ?_⟩⟩
    have := h.cells (g := g) rfl i (.int .i64 (f i)) (by simp [intsOf, hi])
    rwa [show (⟨g, 0, none⟩ : Addr).add i = ⟨g, 0 + i, none⟩ from by unfold Addr.add; split <;> simp_all] at this
end Go.Proofs.Ytbbafdcmgobkeaa
