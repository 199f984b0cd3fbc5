/-
  Verification conditions of whole bodies: branches, blocks, loops, results; and that they are enough.
  Conditions: none beyond each statement's own premises.
-/
import Derived.Test.YtadjhkehfklmnaaDoorV6
namespace Go.Proofs.YtadjhkehfklmnaaDoor
set_option linter.unusedSimpArgs false
set_option linter.unusedVariables false
open Go.RowKit

def thenQ (next : St → Prop) (Q : Exit → St → Prop) : Exit → St → Prop
  | .normal, S => next S
  | e, S => Q e S
def blockQ (id : Nat) (Q : Exit → St → Prop) : Exit → St → Prop
  | .exit id', S => match Nat.beq id' id with
    | true => Q .normal S
    | false => Q (.exit id') S
  | e, S => Q e S
def FrEq : List Value → List Value → Prop
  | [], [] => True
  | x :: xs, y :: ys => x = y ∧ FrEq xs ys
  | _, _ => False
inductive OwnLe (own own' : List Own) : Prop
  | mk (ks : List Nat) (hn : ks.Nodup) (h : own' = ks.map fun k => own.getD k .gone) : OwnLe own own'
  | nils (ks : List Nat) (hn : ks.Nodup) (ns : List (TypeId × Nat)) (h : own' = (ks.map fun k => own.getD k .gone) ++ ns.map fun (ty, size) => .row (.slice none 0 0) ty size 0 []) : OwnLe own own'
  | turn (j : Nat) {g n : Nat} {ty : TypeId} {size : Nat} {cs : List Value} (hk : own[j]? = some (.blk g ty cs)) (hl : cs.length = n * size) (hm : n ≤ maxLen) (ks : List Nat) (hn : ks.Nodup) (h : own' = ks.map fun k => (own.set j (.row (.slice (some ⟨g, 0, none⟩) n n) ty size n cs)).getD k .gone) : OwnLe own own'
def setAll : List Value → List (Nat × Value) → List Value
  | fr, [] => fr
  | fr, (t, v) :: r => setAll (fr.set t v) r
def havoc (u : List Value) : List Value → List Nat → List Value
  | fr, [] => fr
  | fr, t :: r => havoc u (fr.set t (u.getD t undef)) r
def setAllK : List Value → List (Nat × Value) → (List Value → Prop) → Prop
  | fr, [], K => K fr
  | fr, (t, v) :: r, K => setK fr t v fun fr => setAllK fr r K
def havocK (u : List Value) : List Value → List Nat → (List Value → Prop) → Prop
  | fr, [], K => K fr
  | fr, t :: r, K => setK fr t (u.getD t undef) fun fr => havocK u fr r K
theorem setAllK.out : ∀ {l : List (Nat × Value)} {fr : List Value} {K : List Value → Prop}, setAllK fr l K → K (setAll fr l)
  | [], _, _, h => h
  | (t, v) :: r, fr, K, h => by
    have h1 := setK.out (K := fun fr => setAllK fr r K) h
    exact setAllK.out (l := r) h1
theorem havocK.out {u : List Value} : ∀ {l : List Nat} {fr : List Value} {K : List Value → Prop}, havocK u fr l K → K (havoc u fr l)
  | [], _, _, h => h
  | t :: r, fr, K, h => by
    have h1 := setK.out (K := fun fr => havocK u fr r K) h
    exact havocK.out (l := r) h1
def frame {ι : Type} (fr : List Value) (ws : List Nat) (nm : ι → List (Nat × Value)) (i : ι) (u : List Value) : List Value := setAll (havoc u fr ws) (nm i)
def frameK {ι : Type} (fr : List Value) (ws : List Nat) (nm : ι → List (Nat × Value)) (i : ι) (u : List Value) (K : List Value → Prop) : Prop := spineK fr fun fr => havocK u fr ws fun fr => setAllK fr (nm i) K
theorem frameK.out {ι : Type} {fr : List Value} {ws : List Nat} {nm : ι → List (Nat × Value)} {i : ι} {u : List Value} {K : List Value → Prop} (h : frameK fr ws nm i u K) : K (frame fr ws nm i u) :=
  setAllK.out (havocK.out (K := fun fr => setAllK fr (nm i) K) (spineK.out (K := fun fr => havocK u fr ws fun fr => setAllK fr (nm i) K) h))
inductive VNext {ι : Type} (fr : List Value) (ws : List Nat) (nm : ι → List (Nat × Value)) (own : ι → List Own) (I : ι → Prop) (n : Nat) (μ : ι → Nat) (fr' : List Value) (own' : List Own) : Prop
  | mk (j : ι) (hI : I j) (hμ : μ j < n) (e : frameK fr ws nm j fr' (FrEq fr')) (o : OwnLe own' (own j)) : VNext fr ws nm own I n μ fr' own'
def loopQ {ι : Type} (fr : List Value) (ws : List Nat) (nm : ι → List (Nat × Value)) (own : ι → List Own) (I : ι → Prop) (n : Nat) (μ : ι → Nat) (Q : Exit → St → Prop) : Exit → St → Prop
  | .normal, ⟨fr', own'⟩ => VNext fr ws nm own I n μ fr' own'
  | e, S' => Q e S'
inductive VLoop (body : (Exit → St → Prop) → St → Prop) (Q : Exit → St → Prop) (fr : List Value) (own0 : List Own) : Prop
  | mk {ι : Type} (ws : List Nat) (nm : ι → List (Nat × Value)) (own : ι → List Own) (I : ι → Prop) (μ : ι → Nat) (i0 : ι) (h0 : I i0) (e0 : frameK fr ws nm i0 fr (FrEq fr)) (o0 : OwnLe own0 (own i0))
      (round : ∀ i u, I i → frameK fr ws nm i u fun fr' => body (loopQ fr ws nm own I (μ i) μ Q) ⟨fr', own i⟩) : VLoop body Q fr own0
def regionStep (P : Program) (T : Tab) (w0 : Base) (ops : Array Oper) (draw : Bool) (Q : Exit → St → Prop) (S : St) : Prop :=
  match draw with
  | false => vcOps P T w0 ops.toList (Q .normal) ops.toList S
  | true => VDraw P T w0 ops (Q .normal) S
def condStep (c : Operand) (S : St) (X Y : Prop) : Prop :=
  match evF S.fr c with
  | .bool true => X
  | .bool false => Y
  | _ => False
def loopStep (body : (Exit → St → Prop) → St → Prop) (Q : Exit → St → Prop) (S : St) : Prop :=
  match S with
  | ⟨fr, own⟩ => VLoop body Q fr own
noncomputable def vc (P : Program) (T : Tab) (w0 : Base) (c : Code) : (Exit → St → Prop) → St → Prop :=
  Code.rec (motive := fun _ => (Exit → St → Prop) → St → Prop)
    (fun Q S => Q .normal S)
    (fun _ ops draw Q S => regionStep P T w0 ops draw Q S)
    (fun _ _ iha ihb Q S => iha (thenQ (ihb Q) Q) S)
    (fun c _ _ ihx ihy Q S => condStep c S (ihx Q S) (ihy Q S))
    (fun id _ ih Q S => ih (blockQ id Q) S)
    (fun _ ih Q S => loopStep ih Q S)
    (fun _ _ _ _ _ _ _ _ => False)
    (fun id Q S => Q (.exit id) S)
    (fun _ _ _ _ => False)
    (fun _ Q S => Q .normal S)
    (fun _ _ _ => False)
    (fun Q S => Q .ret S)
    (fun _ _ _ => False)
    c
def pack : List Value → Value
  | [v] => v
  | vs => .tuple vs.toArray
def packK (vs : List Value) (K : Value → Prop) : Prop :=
  match vs with
  | [v] => K v
  | vs => K (.tuple vs.toArray)
theorem packK.out {vs : List Value} {K : Value → Prop} (h : packK vs K) : K (pack vs) := by
  unfold packK at h
  unfold pack
  split at h <;> exact h
def vRes (T : Tab) (w0 : Base) (own : List Own) (fr : List Value) : List ResultVar → (List Value → Prop) → Prop
  | [], K => K []
  | .tmp t :: r, K => force (fr.getD t undef) fun v => vRes T w0 own fr r fun vs => K (v :: vs)
  | .cell a t :: r, K => vLoad T w0 own t (fr.getD a undef) fun v => vRes T w0 own fr r fun vs => K (v :: vs)
inductive VRet (w0 : Base) (own : List Own) (R : Value → World → Prop) (v : Value) : Prop
  | mk (h : ∀ w, Mem w0 own w → R v w) : VRet w0 own R v
def retQ (T : Tab) (w0 : Base) (rs : List ResultVar) (R : Value → World → Prop) : Exit → St → Prop
  | .normal, ⟨fr, own⟩ => vRes T w0 own fr rs fun vs => packK vs fun v => VRet w0 own R v
  | .ret, ⟨fr, own⟩ => vRes T w0 own fr rs fun vs => packK vs fun v => VRet w0 own R v
  | _, _ => False
def resF (fr : List Value) : ResultVar → Sem Value
  | .tmp t => pure (fr.toArray.getD t undef)
  | .cell a t => do loadVar t (← asAddr (fr.toArray.getD a undef))
section
variable {P : Program} {T : Tab} {w0 : Base}
theorem FrEq.eq : ∀ {xs ys : List Value}, FrEq xs ys → xs = ys
  | [], [], _ => rfl
  | x :: xs, y :: ys, h => by
    obtain ⟨h1, h2⟩ := h
    rw [h1, FrEq.eq h2]
  | [], _ :: _, h => h.elim
  | _ :: _, [], h => h.elim
theorem Mem.turnRow {own : List Own} {cs : List Value} {w : World} {k g n : Nat} {ty : TypeId} {size : Nat} (hk : own[k]? = some (.blk g ty cs)) (hl : cs.length = n * size) (hn : n ≤ maxLen) (m : Mem w0 own w) : Mem w0 (own.set k (.row (.slice (some ⟨g, 0, none⟩) n n) ty size n cs)) w := by
  have h := m.ok k _ hk
  refine m.turn hk m.keeps ⟨fun b hb => ?_, hl, .inr ⟨g, n, cs.toArray, rfl, Nat.zero_le _, h.2, Nat.le_refl _, hn, by simpa using hl, ?_⟩⟩ (fun _ _ _ => rfl) (fun b hb => ?_)
  · simp only [Value.ownBlock, Option.some.injEq] at hb
    subst hb
    exact h.1
  · rw [← hl]
    simp
  · left
    simpa [Own.block, Value.ownBlock] using hb
theorem OwnLe.mem {own own' : List Own} (h : OwnLe own own') {w : World} (m : Mem w0 own w) : Mem w0 own' w := by
  rcases h with ⟨ks, hn, h2⟩ | ⟨ks, hn, ns, h2⟩ | ⟨j, hk, hl, hm, ks, hn, h2⟩
  · rw [h2]
    exact m.sel hn
  · rw [h2]
    have m0 := m.sel hn
    clear h2
    generalize (ks.map fun k => own.getD k Own.gone) = os at m0
    induction ns generalizing os with
    | nil => simpa using m0
    | cons n ns ih =>
      have := ih (os ++ [.row (.slice none 0 0) n.1 n.2 0 []]) (m0.pushNil n.1 n.2)
      simpa [List.append_assoc] using this
  · rw [h2]
    exact (Mem.turnRow hk hl hm m).sel hn
theorem minN (p : Nat → Prop) (hx : ∃ n, p n) : ∃ n, p n ∧ ∀ k, p k → n ≤ k := by
  obtain ⟨n, hn⟩ := hx
  induction n using Nat.strongRecOn with
  | _ n ih =>
    by_cases hl : ∃ k, k < n ∧ p k
    · obtain ⟨k, hk, hak⟩ := hl
      exact ih k hk hak
    · exact ⟨n, hn, fun k hak => Nat.le_of_not_lt fun hlt => hl ⟨k, hlt, hak⟩⟩
theorem VLoop.sound {body : (Exit → St → Prop) → St → Prop} {c : Code}
    (hb : ∀ (Q : Exit → St → Prop) (S : St) (w : World) (R : Exit → Act → World → Prop), body Q S → Mem w0 S.own w → (∀ e S' w', Q e S' → Mem w0 S'.own w' → R e ⟨S'.fr.toArray, []⟩ w') → c.wp P R ⟨S.fr.toArray, []⟩ w)
    {Q : Exit → St → Prop} {S : St} {w : World} {R : Exit → Act → World → Prop} (h : VLoop body Q S.fr S.own) (m : Mem w0 S.own w) (hR : ∀ e S' w', Q e S' → Mem w0 S'.own w' → R e ⟨S'.fr.toArray, []⟩ w') : (Code.loop c).wp P R ⟨S.fr.toArray, []⟩ w := by
  classical
  obtain ⟨ws, nm, own, I, μ, i0, h0, e0, o0, round⟩ := h
  let st : _ → List Value → St := fun i u => ⟨frame S.fr ws nm i u, own i⟩
  let At : Act → World → Nat → Prop := fun a w n => ∃ i u, I i ∧ μ i = n ∧ a = ⟨(st i u).fr.toArray, []⟩ ∧ Mem w0 (st i u).own w
  let me : Act → World → Nat := fun a w => if hx : ∃ n, At a w n then Classical.choose (minN (At a w) hx) else 0
  have me_at : ∀ a w, (∃ n, At a w n) → At a w (me a w) ∧ ∀ k, At a w k → me a w ≤ k := fun a w hx => by
    have e : me a w = Classical.choose (minN (At a w) hx) := dif_pos hx
    rw [e]
    exact Classical.choose_spec (minN (At a w) hx)
  have hfr := e0.out.eq
  have m0 := o0.mem m
  refine wp_loop (fun a w => ∃ n, At a w n) me ⟨μ i0, i0, S.fr, h0, rfl, congrArg (fun fr : List Value => (⟨fr.toArray, []⟩ : Act)) hfr, m0⟩ ?_
  intro a w' hx
  obtain ⟨⟨i, u, hi, hμ, rfl, mi⟩, _⟩ := me_at a w' hx
  refine hb _ _ w' _ (round i u hi).out mi ?_
  intro e S' w'' hq m'
  cases e with
  | normal =>
    obtain ⟨fr', own'⟩ := S'
    obtain ⟨j, hj, hlt, he, ho⟩ := hq
    have hf2 := he.out.eq
    have m2 := ho.mem m'
    have hat : At ⟨fr'.toArray, []⟩ w'' (μ j) := ⟨j, fr', hj, rfl, congrArg (fun fr : List Value => (⟨fr.toArray, []⟩ : Act)) hf2, m2⟩
    have h3 := (me_at _ _ ⟨_, hat⟩).2 _ hat
    exact ⟨⟨_, hat⟩, Nat.lt_of_lt_of_eq (Nat.lt_of_le_of_lt h3 hlt) hμ⟩
  | exit id => exact hR _ S' w'' hq m'
  | goto l => exact hR _ S' w'' hq m'
  | ret => exact hR _ S' w'' hq m'
  | panic ch => exact hR _ S' w'' hq m'
  | outgrown => exact hR _ S' w'' hq m'
theorem vc.sound (hT : TabOk P T) : ∀ (c : Code) (Q : Exit → St → Prop) (S : St) (w : World) (R : Exit → Act → World → Prop), vc P T w0 c Q S → Mem w0 S.own w →
    (∀ e S' w', Q e S' → Mem w0 S'.own w' → R e ⟨S'.fr.toArray, []⟩ w') → c.wp P R ⟨S.fr.toArray, []⟩ w := by
  intro c
  induction c with
  | skip => exact fun Q S w R h m hR => wp_skip (hR _ S w h m)
  | label l => exact fun Q S w R h m hR => wp_label (hR _ S w h m)
  | region id ops draw =>
    intro Q S w R h m hR
    cases draw with
    | false =>
      have := vcOps.sound hT (Q := R) (K := Q .normal) (fun S w hk m => hR _ S w hk m) ops.toList S w h m
      rw [Array.toArray_toList] at this
      exact wp_region_list this
    | true =>
      obtain ⟨p, fix, hs, hok, hp⟩ := h
      refine Code.wp_mono NoP.imp ?_
      refine wp_region_held (S := MemR w0 (fixOf fix S.own)) hT.mixed ?_
      have hs' : Region.noSelect ops.toList.toArray = true := by rw [Array.toArray_toList]; exact hs
      have := (vcPlan.sound hT hs' (Q := R) (K := Q .normal) (fun S w hk m => hR _ S w hk m) p ops.size (Array.replicate ops.size false) _ S { w with drawn := w.drawn + 1 } true (by rw [Array.toArray_toList]; exact hok) hp m.drew rfl (fun e => by cases e)).1 rfl (by rw [Array.toArray_toList])
      rw [Array.toArray_toList] at this
      exact this
  | seq a b iha ihb =>
    intro Q S w R h m hR
    refine wp_seq (iha _ S w _ h m ?_)
    intro e S' w' hq m'
    cases e with
    | normal => exact ihb Q S' w' R hq m' hR
    | exit id => exact hR _ S' w' hq m'
    | goto l => exact hR _ S' w' hq m'
    | ret => exact hR _ S' w' hq m'
    | panic ch => exact hR _ S' w' hq m'
    | outgrown => exact hR _ S' w' hq m'
  | cond c x y ihx ihy =>
    intro Q S w R h m hR
    replace h : (match evF S.fr c with | .bool true => vc P T w0 x Q S | .bool false => vc P T w0 y Q S | _ => False) := h
    split at h
    · rename_i hc
      exact wp_cond_true (by rw [evF_eq]; exact hc) (ihx Q S w R h m hR)
    · rename_i hc
      exact wp_cond_false (by rw [evF_eq]; exact hc) (ihy Q S w R h m hR)
    · exact h.elim
  | block id c ih =>
    intro Q S w R h m hR
    refine wp_block (ih _ S w _ h m ?_)
    intro e S' w' hq m'
    cases e with
    | exit id' =>
      simp only [blockQ] at hq
      simp only [Exit.inBlock]
      split at hq
      · rename_i hb
        rw [if_pos (Nat.eq_of_beq_eq_true hb)]
        exact hR _ S' w' hq m'
      · rename_i hb
        rw [if_neg (fun e => by rw [e, Nat.beq_refl] at hb; cases hb)]
        exact hR _ S' w' hq m'
    | normal => exact hR _ S' w' hq m'
    | goto l => exact hR _ S' w' hq m'
    | ret => exact hR _ S' w' hq m'
    | panic ch => exact hR _ S' w' hq m'
    | outgrown => exact hR _ S' w' hq m'
  | loop c ih =>
    intro Q S w R h m hR
    obtain ⟨fr, own⟩ := S
    exact VLoop.sound (fun Q' S' w' R' h' m' hR' => ih Q' S' w' R' h' m' hR') h m hR
  | exit id => exact fun Q S w R h m hR => wp_exit (hR _ S w h m)
  | ret => exact fun Q S w R h m hR => wp_ret (hR _ S w h m)
  | rangeFunc f ps a b iha ihb => exact fun Q S w R h m hR => h.elim
  | scope b ih => exact fun Q S w R h m hR => h.elim
  | goto l => exact fun Q S w R h m hR => h.elim
  | refuse s => exact fun Q S w R h m hR => h.elim
theorem vRes.sound (hT : TabOk P T) {own : List Own} {fr : List Value} {w : World} (m : Mem w0 own w) : ∀ (rs : List ResultVar) (K : List Value → Prop), vRes T w0 own fr rs K →
    ∃ vs, K vs ∧ (rs.mapM (resF fr)).run P w = .ok vs w
  | [], K, h => ⟨[], h, rfl⟩
  | .tmp t :: r, K, h => by
    obtain ⟨vs, k, e⟩ := vRes.sound hT m r _ (force.out (K := fun v => vRes T w0 own fr r fun vs => K (v :: vs)) h)
    refine ⟨_, k, ?_⟩
    rw [List.mapM_cons, Sem.run_bind, show (resF fr (.tmp t)).run P w = .ok (fr.toArray.getD t undef) w from rfl, Result.andThen_ok, Sem.run_bind, e, Result.andThen_ok]
    simp
  | .cell a t :: r, K, h => by
    obtain ⟨v, hv, e0⟩ := vLoad.sound hT (own := own) h
    obtain ⟨vs, k, e⟩ := vRes.sound hT m r _ hv
    have e1 := e0 w m.toMemR
    refine ⟨_, k, ?_⟩
    have e2 : (resF fr (.cell a t)).run P w = .ok v w := by
      show (do loadVar t (← asAddr (fr.toArray.getD a undef)) : Sem Value).run P w = .ok v w
      have hg : fr.toArray.getD a undef = fr.getD a undef := by simp
      rw [hg]
      have h' : vLoad T w0 own t (fr.getD a undef) fun v => vRes T w0 own fr r fun vs => K (v :: vs) := h
      unfold vLoad at h'
      split at h'
      · exact h'.elim
      · split at h'
        · rename_i g off hp
          rw [hp] at e1 ⊢
          simpa [Instr.loadAt, Instr.sureAddr, asAddr] using e1
        · exact h'.elim
    rw [List.mapM_cons, Sem.run_bind, e2, Result.andThen_ok, Sem.run_bind, e, Result.andThen_ok]
    rfl
theorem pack_eq (vs : List Value) : (if h : vs.toArray.size = 1 then vs.toArray[0]'(by omega) else Value.tuple vs.toArray) = pack vs := by
  match vs with
  | [] => rfl
  | [v] => rfl
  | a :: b :: r => simp [pack]
theorem calls_of_vcL (hT : TabOk P T) {f : FuncId} {fn : Func} {c : Code} {args : List Value} {own : List Own} {w : World} {R : Value → World → Prop} (hf : P.funcs[f]? = some fn) (hb : fn.body = some c) (m0 : Mem w0 own w)
    (h : spineK (args ++ List.replicate (fn.ntmps - args.length) undef) fun fr => vc P T w0 c (retQ T w0 fn.results.toList R) ⟨fr, own⟩) : Calls P f args.toArray w fun e w' => ∃ v, e = .returned v ∧ R v w' := by
  refine calls_of_wp hf hb ?_
  have e0 : ({ tmps := args.toArray ++ Array.replicate (fn.ntmps - args.toArray.size) undef, defers := [] } : Act) = ⟨(args ++ List.replicate (fn.ntmps - args.length) undef).toArray, []⟩ := by
    simp [List.toArray_replicate]
  rw [e0]
  refine vc.sound hT c _ ⟨args ++ List.replicate (fn.ntmps - args.length) undef, own⟩ w _ h.out m0 ?_
  intro e S' w' hq m'
  have fin : ∀ {vs : List Value}, VRet w0 S'.own R (pack vs) → (fn.results.toList.mapM (resF S'.fr)).run P w' = .ok vs w' → ∃ v, (results fn S'.fr.toArray).run P w' = .ok v w' ∧ ∃ u, Ending.returned v = .returned u ∧ R u w' := fun {vs} hr hm => by
    obtain ⟨hr⟩ := hr
    refine ⟨pack vs, ?_, _, rfl, hr w' m'⟩
    have er : results fn S'.fr.toArray = (do let vs ← fn.results.mapM (resF S'.fr); pure (if h : vs.size = 1 then vs[0] else .tuple vs)) := by
      unfold results
      congr 2
    rw [er, Array.mapM_eq_mapM_toList, Sem.run_bind, Sem.run_map, hm]
    simp only [Result.andThen_ok, Sem.run_pure]
    rw [pack_eq]
  cases e with
  | normal =>
    obtain ⟨vs, hr, hm⟩ := vRes.sound hT m' _ _ hq
    exact ⟨rfl, fin hr.out hm⟩
  | ret =>
    obtain ⟨vs, hr, hm⟩ := vRes.sound hT m' _ _ hq
    exact ⟨rfl, fin hr.out hm⟩
  | exit id => exact hq.elim
  | goto l => exact hq.elim
  | panic ch => exact hq.elim
  | outgrown => exact hq.elim
theorem calls_of_vc (hT : TabOk P T) {f : FuncId} {fn : Func} {c : Code} {args : List Value} {w : World} {R : Value → World → Prop} (hf : P.funcs[f]? = some fn) (hb : fn.body = some c)
    (h : spineK (args ++ List.replicate (fn.ntmps - args.length) undef) fun fr => vc P T (Base.of w) c (retQ T (Base.of w) fn.results.toList R) ⟨fr, []⟩) : Calls P f args.toArray w fun e w' => ∃ v, e = .returned v ∧ R v w' :=
  calls_of_vcL (w0 := Base.of w) hT hf hb (Mem.init (Base.of w)) h
theorem post_of_vc {w1 : World} {f : FuncId} {args : Array Value} {v : Value} (h : Calls P f args w1 fun e w' => ∃ u, e = .returned u ∧ (u = v ∧ Below w1.heap.size w1 w')) : Calls P f args w1 (Post v w1) :=
  h.mono fun e w' ⟨u, he, hu, hb⟩ => ⟨by rw [he, hu], hb⟩
end
end Go.Proofs.YtadjhkehfklmnaaDoor
