/-
  The conditions of the operations that make or write memory, and of calls, are enough.
  Conditions: none beyond each statement's own premises.
-/
import Derived.Test.YtadjhkehfklmnaaDoorV4
import Derived.Conc.MuLone
namespace Go.Proofs.YtadjhkehfklmnaaDoor
set_option linter.unusedSimpArgs false
set_option linter.unusedVariables false
open Go.RowKit
section
variable {P : Program} {T : Tab} {w0 : Base}
theorem set_same {own : List Own} {k : Nat} {x : Own} (h : own[k]? = some x) : own.set k x = own := by
  apply List.ext_getElem?
  intro i
  rw [List.getElem?_set]
  split
  · subst_vars
    split
    · exact h.symm
    · rename_i hh
      rw [List.getElem?_eq_none (by omega)] at h
      cases h
  · rfl
theorem get_set {own : List Own} {k : Nat} {x y : Own} (h : own[k]? = some x) : (own.set k y)[k]? = some y := by
  rw [List.getElem?_set, if_pos rfl]
  split
  · rfl
  · rename_i hh
    rw [List.getElem?_eq_none (by omega)] at h
    cases h
theorem storeCells_blk {k g off : Nat} {ty : TypeId} : ∀ (vs : List Value) (i : Nat) (cs : List Value) (own : List Own) (w : World), Mem w0 own w → own[k]? = some (.blk g ty cs) → off + i + vs.length ≤ cs.length → vs.all (·.oneCell') = true →
    ∃ w', (storeCells ⟨g, off, none⟩ vs i).run P w = .ok () w' ∧ Mem w0 (own.set k (.blk g ty (setRange cs (off + i) vs))) w'
  | [], i, cs, own, w, m, hk, _, _ => ⟨w, rfl, by rw [setRange, set_same hk]; exact m⟩
  | v :: vs, i, cs, own, w, m, hk, hl, h1 => by
    simp only [List.all_cons, Bool.and_eq_true] at h1
    have hh := (m.ok k _ hk).2
    have hlt : off + i < cs.length := by simp at hl; omega
    have hc : w.cell? ⟨g, off + i, none⟩ = some cs[off + i] := by
      rw [cell_of_row w g _ _ _ _ hh]
      simp [hlt]
    have hf := frozen_of_row w g (off + i) _ ty hh
    obtain ⟨w', hr, m'⟩ := storeCells_blk (g := g) (off := off) vs (i + 1) (cs.set (off + i) v) _ _ (m.set hk (off + i) v) (get_set hk) (by simp at hl ⊢; omega) h1.2
    refine ⟨w', ?_, ?_⟩
    · unfold storeCells
      rw [Sem.run_bind, add_none, run_store P w _ v _ h1.1]
      simp only [hc, hf]
      exact hr
    · rw [List.set_set] at m'
      exact m'
theorem storeCells_row {k g off n' c' size m : Nat} {ty : TypeId} : ∀ (vs : List Value) (i : Nat) (xs : List Value) (own : List Own) (w : World), Mem w0 own w → own[k]? = some (.row (.slice (some ⟨g, 0, none⟩) n' c') ty size m xs) → off + i + vs.length ≤ xs.length → vs.all (·.oneCell') = true →
    ∃ w', (storeCells ⟨g, off, none⟩ vs i).run P w = .ok () w' ∧ Mem w0 (own.set k (.row (.slice (some ⟨g, 0, none⟩) n' c') ty size m (setRange xs (off + i) vs))) w'
  | [], i, cs, own, w, m, hk, _, _ => ⟨w, rfl, by rw [setRange, set_same hk]; exact m⟩
  | v :: vs, i, xs, own, w, m, hk, hl, h1 => by
    simp only [List.all_cons, Bool.and_eq_true] at h1
    have hh := m.ok k _ hk
    have hlt : off + i < xs.length := by simp at hl; omega
    have hc : w.cell? ⟨g, off + i, none⟩ = some xs[off + i] := by
      have := hh.2.cells (g := g) rfl (off + i) xs[off + i] (List.getElem?_eq_getElem hlt)
      rwa [add_none, Nat.zero_add] at this
    have hf : w.frozen? ⟨g, off + i, none⟩ = false := by
      rcases hh.2.2 with ⟨e, _⟩ | ⟨g', cap, cur, e, _, hg, _⟩
      · cases e
      · injection e with e1
        injection e1 with e1
        injection e1 with e1
        subst e1
        exact frozen_of_row w g (off + i) _ ty hg
    obtain ⟨w', hr, m'⟩ := storeCells_row (g := g) (off := off) vs (i + 1) (xs.set (off + i) v) _ _ (m.setRow hk (off + i) hlt v) (get_set hk) (by simp at hl ⊢; omega) h1.2
    refine ⟨w', ?_, ?_⟩
    · unfold storeCells
      rw [Sem.run_bind, add_none, run_store P w _ v _ h1.1]
      simp only [hc, hf]
      exact hr
    · rw [List.set_set] at m'
      exact m'
theorem storeCells_txt {k g off : Nat} {ty : TypeId} {cs : List Value} (v : Value) (own : List Own) (w : World) (m : Mem w0 own w) (hk : own[k]? = some (.txt g ty cs)) (hl : off < cs.length) (h1 : v.oneCell' = true) :
    ∃ w', (storeCells ⟨g, off, none⟩ [v] 0).run P w = .ok () w' ∧ Mem w0 (own.set k (.txt g ty (cs.set off v))) w' := by
  obtain ⟨h0, cur, hh, h2, h3⟩ := m.ok k _ hk
  have hlt : off < cur.size := by omega
  have hc : w.cell? ⟨g, off, none⟩ = some cur[off] := by
    rw [cell_of_row w g _ _ _ _ hh]
    simp [hlt]
  have hf : w.frozen? ⟨g, off, none⟩ = false := by
    simp [World.frozen?, hh]
    omega
  refine ⟨_, ?_, m.setTxt hk off v⟩
  unfold storeCells
  rw [Sem.run_bind, add_none, Nat.add_zero, run_store P w _ v _ h1]
  simp only [hc, hf]
  rfl
theorem wp_value {o : Oper} {a : Act} {w w' : World} {next : Act → World → Prop} {Q : Exit → Act → World → Prop} {v : Value} (hr : (execOp a.eval o).run P w = .ok (.value v) w') (hn : next (a.put o.dst v) w') : o.wp P a w next Q := by
  unfold Oper.wp
  rw [hr]
  exact hn
theorem wp_skipped {o : Oper} {a : Act} {w w' : World} {next : Act → World → Prop} {Q : Exit → Act → World → Prop} (hr : (execOp a.eval o).run P w = .ok .skip w') (hn : next (a.put o.dst undef) w') : o.wp P a w next Q := by
  unfold Oper.wp
  rw [hr]
  exact hn
theorem wp_entered {o : Oper} {a : Act} {w w' : World} {next : Act → World → Prop} {Q : Exit → Act → World → Prop} {f : FuncId} {args : Array Value} (hr : (execOp a.eval o).run P w = .ok (.enter f args) w') (hn : Calls P f args w' fun e w'' => ∃ v, e = .returned v ∧ next (a.put o.dst v) w'') : o.wp P a w next Q := by
  unfold Oper.wp
  rw [hr]
  refine hn.mono fun e w'' ⟨v, he, h⟩ => ?_
  subst he
  exact h
theorem all_one {vs : List Value} (h : vs.all (·.oneCell') = true) : ∀ u ∈ vs, u.oneCell' = true := by simpa using h
/-- What an operation leaves: its value in the frame, and what is owned. -/
def Left (w0 : Base) (fr : List Value) (dst : Option Tmp) (K : Value → List Own → Prop) (a' : Act) (w' : World) : Prop := ∃ v own', K v own' ∧ a' = (⟨fr.toArray, []⟩ : Act).put dst v ∧ Mem w0 own' w'
theorem row_some {own : List Own} {w : World} {k : Nat} {A : Option Addr} {n c' : Nat} {ty : TypeId} {size : Nat} {xs : List Value} (m : Mem w0 own w) (hk : own[k]? = some (.row (.slice A n c') ty size n xs)) (h : 0 < n) : ∃ g, A = some ⟨g, 0, none⟩ := by
  rcases (m.ok k _ hk).2.2 with ⟨e, h0⟩ | ⟨g, cap, cur, e, _⟩
  · omega
  · cases e
    exact ⟨g, rfl⟩
theorem row_cap {own : List Own} {w : World} {k : Nat} {A : Option Addr} {n c' : Nat} {ty : TypeId} {size : Nat} {xs : List Value} (m : Mem w0 own w) (hk : own[k]? = some (.row (.slice A n c') ty size n xs)) : n ≤ c' := by
  rcases (m.ok k _ hk).2.2 with ⟨e, h0⟩ | ⟨g, cap, cur, e, _, _, hnc, _⟩
  · injection e with e1 e2 e3
    omega
  · injection e with e1 e2 e3
    omega
theorem append_case (hT : TabOk P T) {own : List Own} {w : World} {k : Nat} {s : Value} {e t : TypeId} {ei ti : TI} {n : Nat} {xs : List Value} (m : Mem w0 own w) (hk : own[k]? = some (.row s e ei.size n xs))
    (hd : ti.desc = .slice e) (ht : T.ty t = some ti) (he : T.ty e = some ei) (hb : ei.bytes ≤ 4096) (hs : 1 ≤ ei.size) {g off mm c : Nat} (news : List Value) (hl : news.length = mm * ei.size)
    (hr : ∀ (j : Nat) u, news[j]? = some u → Rd w0 own g (off + j) u) (h1 : news.all (·.oneCell') = true) (hn : n + mm ≤ 17179869184) (ty : TypeId) :
    ∃ A c' w', (Builtin.append_ #[t, t] ty #[s, .slice (some ⟨g, off, none⟩) mm c]).run P w = .ok (.slice A (n + mm) c') w' ∧ Mem w0 (own.set k (.row (.slice A (n + mm) c') e ei.size (n + mm) (xs ++ news))) w' := by
  have hu := hT.und t _ ht
  rw [hd] at hu
  obtain ⟨i, z, q1, q2, q3, q4, q5⟩ := hT.info e _ he
  have hown := m.ok k _ hk
  have hcells : ∀ j u, news[j]? = some u → w.cell? ((⟨g, off, none⟩ : Addr).add j) = some u := fun j u hj => by
    rw [add_none]
    exact (hr j u hj).cell m.toMemR
  have hz : z.cells.size = ei.size := by
    rw [q5, List.size_toArray]
    exact (hT.zl e _ he)
  obtain ⟨v', w', hrun, h2, h3, _, h5⟩ := run_append_own_at (P := P) w 0 t ty e i z ei.size ei.bytes hu q1 q4 q2 q3 hz (by omega) s n xs hown.2 ⟨g, off, none⟩ mm c news hl hcells (all_one h1) (by unfold maxLen; omega)
    (by have : (n + mm) * ei.bytes ≤ 17179869184 * 4096 := Nat.mul_le_mul hn hb; omega) (Nat.zero_le _)
  have hform : ∃ A c', v' = .slice A (n + mm) c' := by
    rcases h2.2 with ⟨rfl, h0⟩ | ⟨g', cap, cur, rfl, _⟩
    · exact ⟨none, 0, by rw [h0]⟩
    · exact ⟨_, _, rfl⟩
  obtain ⟨A, c', rfl⟩ := hform
  have hnew : ∀ b, (Value.slice A (n + mm) c').ownBlock = some b → w0.mine b := fun b hb => by
    rcases h5 with e1 | e1
    · exact hown.1 b (by rw [← e1]; exact hb)
    · left
      have : some w.heap.size = some b := e1.symm.trans hb
      injection this with this
      rw [← this]
      exact m.ge
  refine ⟨A, c', w', hrun, m.turn hk ?_ ⟨hnew, h2⟩ (fun b hb hlt => h3.block b hlt (fun e1 => hb e1.symm)) (fun b hb => ?_)⟩
  · refine m.keeps.step h3.os h3.tape h3.output h3.size fun b q1 q2 => h3.block b (Nat.lt_of_lt_of_le q1 m.ge) fun e1 => ?_
    rcases hown.1 b e1.symm with q3 | q3
    · omega
    · exact q2 q3
  · rcases h5 with e1 | e1
    · exact .inl (by show s.ownBlock = some b; rw [← e1]; exact hb)
    · right
      have : some w.heap.size = some b := e1.symm.trans hb
      injection this with this
      omega
theorem vEff.sound (hT : TabOk P T) {own : List Own} {fr : List Value} {w : World} {o : Oper} {K : Value → List Own → Prop} {Q : Exit → Act → World → Prop} (h : vEff P T w0 own (evF fr) o.op K) (m : Mem w0 own w) :
    o.wp P ⟨fr.toArray, []⟩ w (Left w0 fr o.dst K) Q := by
  generalize hop : o.op = op at h
  unfold vEff at h
  split at h
  · -- alloc
    rename_i t
    split at h
    · rename_i ti ht
      obtain ⟨z, hz, hr⟩ := hT.zv ht w
      refine wp_value (v := .pointer (some ⟨w.heap.size, 0, none⟩)) (w' := w.alloc (.cells ti.zero.toArray t)) ?_ ⟨_, _, (h w.heap.size).out, rfl, m.alloc t ti.zero⟩
      simp [execOp, hop, Instr.alloc, hr, newVar, newRow, hz]
    · exact h.elim
  · -- box
    rename_i t x
    refine wp_value (v := .pointer (some ⟨w.heap.size, 0, none⟩)) (w' := w.alloc (.cells (evF fr x).cells t)) ?_ ⟨_, _, (h w.heap.size).out.out, rfl, ?_⟩
    · rw [evF_eq]
      simp [execOp, hop, Instr.box, newVar, newRow]
    · have := m.alloc t (evF fr x).cells.toList
      simpa using this
  · -- store
    rename_i t a x
    split at h
    · rename_i ti g off ht ha
      have h := h.out
      have fin : ∀ {own'}, (∃ w', (storeCells ⟨g, off, none⟩ (evF fr x).cells.toList 0).run P w = .ok () w' ∧ Mem w0 own' w') → (evF fr x).cells.toList.length = ti.size → K undef own' → o.wp P ⟨fr.toArray, []⟩ w (Left w0 fr o.dst K) Q := fun ⟨w', hr, m'⟩ hn c => by
        refine wp_skipped (w' := w') ?_ ⟨_, _, c, rfl, m'⟩
        have hsz : (evF fr x).cells.size = ti.size := by rw [← hn]; simp
        rw [evF_eq]
        simp [execOp, hop, ha, Instr.storeAt, Instr.sureAddr, storeVar, hT.sz ht, hsz, hr]
      rcases h with ⟨k, hk, _, hn, hl, h1, c⟩ | ⟨k, hk, hn, hl, h1, c⟩ | ⟨k, hk, hn, hl, h1, c⟩ | ⟨k, hk, hv, hn, hl, h1, c⟩
      · exact fin (storeCells_blk (P := P) (off := off) _ 0 _ own w m hk (by simpa using hl) h1) hn c.out.out
      · exact fin (storeCells_blk (P := P) (off := off) _ 0 _ own w m hk (by simpa using hl) h1) hn c.out
      · exact fin (storeCells_row (P := P) (off := off) _ 0 _ own w m hk (by simpa using hl) h1) hn c.out
      · exact fin (by rw [hv]; exact storeCells_txt (P := P) _ own w m hk hl h1) (by rw [hv, hn]; rfl) c.out
    · exact h.elim
  · -- makeSlice
    rename_i t l c
    split at h
    · rename_i e s1 s2 s3 s4 l' c' ht hl hc
      have hu := hT.und t _ ht
      split at h
      · rename_i ei he
        split at h
        · rename_i hb
          obtain ⟨i, z, q1, q2, q3, q4, q5⟩ := hT.info e _ he
          obtain ⟨mm, rfl, rfl, hm, k⟩ := h
          have hr := run_make_z (P := P) t e z ei.size ei.bytes hu (by rw [q1]; simp [q2, q3, q4]) .i64 .i64 mm hm (Nat.le_of_ble_eq_true hb) w
          refine wp_value (w' := w.alloc (.cells (zeros z (mm * ei.size)) e)) ?_ ⟨_, _, (k w.heap.size).out, rfl, ?_⟩
          · rw [evF_eq]
            simp only [execOp, hop, hl, hc, Sem.run_bind, hr, Result.andThen_ok]
            rfl
          · have := m.alloc e (zerosL ei.zero (mm * ei.size))
            unfold zerosL at this ⊢
            rw [Array.toArray_toList] at this
            unfold zeros
            rw [q5]
            exact this
        · exact h.elim
      · exact h.elim
    · exact h.elim
  · -- convert
    rename_i s d x
    split at h
    · rename_i s1 s2 s3 s4 e q1 q2 q3 q4 t hs hd hx
      split at h
      · rename_i r1 r2 r3 r4 he
        have hu := hT.und s _ hs
        have hv := hT.und d _ hd
        have he' := hT.und e _ he
        have hr := Lib.run_convert_string_bytes (P := P) w s d e t hu hv he'
        refine wp_value (v := .slice (some ⟨w.heap.size, 0, none⟩) t.size (grownCap w t.size 0 e)) (w' := Lib.bytesWorld w e t) ?_ ⟨_, _, (h w.heap.size _).out, rfl, m.newTxt e t⟩
        rw [evF_eq]
        simp [execOp, hop, hx, hr]
      · exact h.elim
    · exact h.elim
  · -- buildSlice
    rename_i t len0 parts
    split at h
    · rename_i e s1 s2 s3 s4 ht
      have hu := hT.und t _ ht
      split at h
      · rename_i ei he
        obtain ⟨z, hz, hzr⟩ := hT.zv he w
        split at h
        · rename_i hp
          have hp' : parts = #[] := by simpa using hp
          refine wp_value (v := .slice (some ⟨w.heap.size, 0, none⟩) 0 0) (w' := w.alloc (.cells #[] e)) ?_ ⟨_, _, (h w.heap.size).out, rfl, m.allocRow e ei.size⟩
          simp [execOp, hop, hp', Instr.buildSlice, run_underlying hu, hT.sz he, Instr.fill, newRow, Array.range_zero']
        · rename_i len l2 l3 l4
          clear l4
          split at h
          · rename_i cs h1 h2 h3 hf
            have e1 : len * ei.size ≤ 16777216 := Nat.le_of_ble_eq_true h1
            have e4 : 1 ≤ len * ei.size := Nat.le_of_ble_eq_true h2
            have e2 : 1 ≤ ei.size := by rcases Nat.eq_zero_or_pos ei.size with h9 | h9; (rw [h9] at e4; omega); exact h9
            have e3 : ei.zero.length = ei.size := Nat.eq_of_beq_eq_true h3
            have hfill := fillL.sound _ _ _ hf
            rw [← zerosB_eq ei.zero len (by omega)] at hfill
            refine wp_value (v := .slice (some ⟨w.heap.size, 0, none⟩) len len) (w' := w.alloc (.cells cs.toArray e)) ?_ ⟨_, _, (h w.heap.size).out.out, rfl, m.alloc e cs⟩
            have hl0 : ¬ (len * ei.size = 0) := by omega
            · rw [evF_eq]
              rw [e3] at hfill
              simp [execOp, hop, Instr.buildSlice, run_underlying hu, hT.sz he, newRow, show ¬ (16777216 < len * ei.size) by omega, hl0, hzr, hz]
              simp at hfill
              rw [hfill]
              simp
          · exact h.elim
      · exact h.elim
    · exact h.elim
  · -- call
    rename_i c
    split at h
    · rename_i hc
      unfold vAppend at h
      split at h
      · rename_i t t' s x hts hxs
        split at h
        · rename_i e s1 s2 s3 s4 htt ht
          split at h
          · rename_i ei he
            have e0 : t = t' := Nat.eq_of_beq_eq_true htt
            subst e0
            split at h
            · rename_i hb1 hb2
              have hb := Nat.le_of_ble_eq_true hb1
              have hsz := Nat.le_of_ble_eq_true hb2
              have hargs : c.args.map (evF fr) = #[s, x] := by
                apply Array.toList_inj.1
                simpa using hxs
              have hty : c.argTypes = #[t, t] := Array.toList_inj.1 (by simpa using hts)
              have hgo : ∀ {v : Value} {w' : World}, (Builtin.append_ #[t, t] o.type #[s, x]).run P w = .ok v w' → (execOp (⟨fr.toArray, []⟩ : Act).eval o).run P w = .ok (.value v) w' := fun hr => by
                rw [evF_eq]
                simp only [execOp, hop, resolve, hc, invoke, builtin, Sem.run_bind, Sem.run_pure, Result.andThen_ok, hargs, hty, hr]
              rcases h with ⟨k, hk, hx, news, hl, hr, h1, hn, kk⟩ | ⟨hs, hx, news, hl, hr, h1, hn, kk⟩ | ⟨k, hk, hx, kk⟩
              · subst hx
                obtain ⟨A, c', w', hrun, m'⟩ := append_case hT m hk rfl ht he hb hsz news hl hr h1 hn o.type
                exact wp_value (hgo hrun) ⟨_, _, (kk A c' ⟨row_some m' (get_set hk), row_cap m' (get_set hk)⟩).out, rfl, m'⟩
              · subst hx hs
                have m1 := m.pushNil e ei.size
                have hk : (own ++ [Own.row (.slice none 0 0) e ei.size 0 []])[own.length]? = some (.row (.slice none 0 0) e ei.size 0 []) := by simp
                obtain ⟨A, c', w', hrun, m'⟩ := append_case hT m1 hk rfl ht he hb hsz news hl (fun j u hj => by
                  cases hr j u hj with
                  | own q hq hv => exact .own q (by rw [List.getElem?_append_left (by rcases Nat.lt_or_ge q own.length with h9 | h9; exact h9; rw [List.getElem?_eq_none h9] at hq; cases hq)]; exact hq) hv
                  | row q hq hv => exact .row q (by rw [List.getElem?_append_left (by rcases Nat.lt_or_ge q own.length with h9 | h9; exact h9; rw [List.getElem?_eq_none h9] at hq; cases hq)]; exact hq) hv
                  | txt q hq hv => exact .txt q (by rw [List.getElem?_append_left (by rcases Nat.lt_or_ge q own.length with h9 | h9; exact h9; rw [List.getElem?_eq_none h9] at hq; cases hq)]; exact hq) hv
                  | old hg hl hv => exact .old hg hl hv) h1 (by omega) o.type
                simp only [Nat.zero_add, List.nil_append] at hrun m'
                have e9 : ∀ x y : Own, (own ++ [x]).set own.length y = own ++ [y] := fun x y => by simp
                rw [e9] at m'
                exact wp_value (hgo hrun) ⟨_, _, (kk A c' (row_some (k := own.length) m' (by rw [List.getElem?_append_right (Nat.le_refl _), Nat.sub_self]; rfl))).out, rfl, m'⟩
              · subst hx
                obtain ⟨i, z, q1, q2, q3, q4, q5⟩ := hT.info e _ he
                have hu := hT.und t _ ht
                refine wp_value (hgo (v := s) (w' := w) ?_) ⟨_, _, kk, rfl, m⟩
                have hown := m.ok k _ hk
                rcases hown.2.2 with ⟨rfl, _⟩ | ⟨g, cap, cur, rfl, _, _, hnc, _⟩
                · simp [Builtin.append_, run_underlying hu, sizeOf, typeInfo, q1, Builtin.lenOf, Builtin.firstCells]
                · simp [Builtin.append_, run_underlying hu, sizeOf, typeInfo, q1, Builtin.lenOf, Builtin.firstCells, hnc, storeCells]
            · exact h.elim
          · exact h.elim
        · exact h.elim
      · exact h.elim
    · rename_i f hc
      split at h
      · rename_i f' first caps hf
        split at h
        · rename_i hfn
          obtain ⟨fn, q1, q2, q3⟩ := hT.fns f' hfn
          obtain ⟨I, val, own', hcall, kk⟩ := h
          refine wp_entered (w' := w) (f := f') (args := (first.toList ++ (c.args.toList.map (evF fr)) ++ caps.toList).toArray) ?_ ((hcall w m).mono fun e w' ⟨i, hi, he, m'⟩ => ⟨_, he, _, _, (kk i hi).out, rfl, m'⟩)
          rw [evF_eq]
          cases hb : fn.body with
          | none => rw [hb] at q2; cases q2
          | some cc =>
            have hcf := MuLone.run_callFunc_enter (P := P) q1 q3 hb ((first ++ c.args.map (evF fr)) ++ caps) w
            simp only [execOp, hop, resolve, hc, hf, Deferred.ofValue, invoke, Sem.run_bind, Sem.run_pure, Result.andThen_ok, hcf]
            congr 2
            apply Array.toList_inj.1
            simp
        · exact h.elim
      · exact h.elim
    · exact h.elim
  · exact h.elim
end
end Go.Proofs.YtadjhkehfklmnaaDoor
