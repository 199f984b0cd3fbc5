/-
  Copies of slices by append to an empty one, and the duty in new memory.
  Conditions: none beyond each statement's own premises.
-/
import Derived.Test.YtbbafdcmgobkeaaC2
import Derived.Test.YtbbafdcmgobkeaaDm
import Derived.Deep.RegionHeld3
import Derived.Deep.RegionLawGrows
namespace Go.Proofs.Ytbbafdcmgobkeaa
set_option linter.unusedSimpArgs false
set_option linter.unusedVariables false
open Go.RowKit
theorem addr_add (b off j : Nat) : (⟨b, off, none⟩ : Addr).add j = ⟨b, off + j, none⟩ := by unfold Addr.add; split <;> simp_all
theorem intsOf_get {f : Nat → Int} {n j : Nat} {u : Value} (h : (intsOf f n)[j]? = some u) : j < n ∧ u = .int .i64 (f j) := by
  have hl : j < (intsOf f n).length := by
    rcases Nat.lt_or_ge j (intsOf f n).length with h1 | h1
    · exact h1
    · rw [List.getElem?_eq_none h1] at h; cases h
  have hn : j < n := by simpa [intsOf] using hl
  refine ⟨hn, ?_⟩
  simp [intsOf, hn] at h
  exact h.symm
theorem rd_news {w : World} {b off n : Nat} {f : Nat → Int} (h : RdI w (some ⟨b, off, none⟩) n f) : ∀ j u, (intsOf f n)[j]? = some u → w.cell? ((⟨b, off, none⟩ : Addr).add j) = some u := fun j u hj => by
  obtain ⟨hn, rfl⟩ := intsOf_get hj
  obtain ⟨b', off', e, _, hc⟩ := h j hn
  cases e
  rw [addr_add]
  exact hc
set_option maxRecDepth 100000 in
theorem copyInts_any (A : Option Addr) (n c : Nat) (f : Nat → Int) (w : World) (h0 : 0 < n) (hn : n ≤ 1048576) (hA : RdI w A n f) :
    Calls Try.prog 92 #[.slice A n c] w fun e w' => ∃ A' c', e = .returned (.slice A' n c') ∧ OwnS w' w.heap.size A' n f ∧ Below w.heap.size w w' := by
  obtain ⟨b, off, rfl, hb, _⟩ := hA 0 h0
  obtain ⟨i0, hi0, hz0, hz1, hz2⟩ := info_parts int_info
  have HN := Lib.hid (rd_news (hA.alloc (.cells #[] 3)))
  have HO := Lib.hid (owns_empty (W := w) (Nat.le_refl _) 3 1)
  go_enter Try.func92, Try.ntmps92
  go_wp2_with (at_builtin; refine wpList_append_own _ rfl _ _ _ rfl w.heap.size 3 i0 (.int .i64 0) 1 8 Try.underlying23 hi0 hz0 hz1 hz2 rfl (by decide) _ _ _ rfl HO.out ⟨b, off, none⟩ n c (intsOf f n) rfl (by simp [intsOf]) HN.out (by intro u hu; simp [intsOf] at hu; obtain ⟨_, _, rfl⟩ := hu; rfl) (by unfold maxLen; omega) (by omega) (by simp) ?_; intro v1 w1 hown1 hg1 hb1; clear hb1)
  go_ret
  rw [Nat.zero_add, List.nil_append] at hown1
  obtain ⟨A', c', rfl, ho⟩ := OwnS.of_owns hown1
  exact ⟨A', c', rfl, ho, below_row (below_alloc (Below.refl _ _) _) hg1 (fun k hk => by have e : some w.heap.size = some k := hk; cases e; exact Nat.le_refl _)⟩
set_option maxRecDepth 100000 in
theorem l1Own_any (A : Option Addr) (n c : Nat) (f : Nat → Int) (w : World) (h0 : 0 < n) (hn : n ≤ 1048576) (hA : RdI w A n f) :
    Calls Try.prog 91 #[.slice A n c] w fun e w' => ∃ A' c', e = .returned (.slice A' n c') ∧ OwnS w' w.heap.size A' n f ∧ Below w.heap.size w w' := by
  obtain ⟨b, off, rfl, hb, _⟩ := hA 0 h0
  obtain ⟨i0, hi0, hz0, hz1, hz2⟩ := info_parts int_info
  have HN := Lib.hid (rd_news (hA.alloc (.cells #[] 3)))
  have HO := Lib.hid (owns_empty (W := w) (Nat.le_refl _) 3 1)
  go_enter Try.func91, Try.ntmps91
  go_wp2_with (at_builtin; refine wpList_append_own _ rfl _ _ _ rfl w.heap.size 3 i0 (.int .i64 0) 1 8 Try.underlying23 hi0 hz0 hz1 hz2 rfl (by decide) _ _ _ rfl HO.out ⟨b, off, none⟩ n c (intsOf f n) rfl (by simp [intsOf]) HN.out (by intro u hu; simp [intsOf] at hu; obtain ⟨_, _, rfl⟩ := hu; rfl) (by unfold maxLen; omega) (by omega) (by simp) ?_; intro v1 w1 hown1 hg1 hb1; clear hb1)
  go_ret
  rw [Nat.zero_add, List.nil_append] at hown1
  obtain ⟨A', c', rfl, ho⟩ := OwnS.of_owns hown1
  exact ⟨A', c', rfl, ho, below_row (below_alloc (Below.refl _ _) _) hg1 (fun k hk => by have e : some w.heap.size = some k := hk; cases e; exact Nat.le_refl _)⟩
end Go.Proofs.Ytbbafdcmgobkeaa
