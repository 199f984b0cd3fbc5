/-
  Texts joined: how the calls that the law reaches are walked, and the plain laws behind them.
  Conditions: none beyond each statement's own premises.
-/
import Derived.Test.YtadjhkehfklmnaaGreatDoorMy02
import Derived.Test.YtadjhkehfklmnaaGreatDoorProg
namespace Go.Proofs.YtadjhkehfklmnaaGreatDoor
set_option linter.unusedSimpArgs false
set_option linter.unusedVariables false
open Go.RowKit
def thenQ (next : St → Prop) (Q : Exit → St → Prop) : Exit → St → Prop
  | .normal, S => next S
  | e, S => Q e S
def blockQ (id : Nat) (Q : Exit → St → Prop) : Exit → St → Prop
  | .exit id', S => match Nat.beq id' id with
    | true => Q .normal S
    | false => Q (.exit id') S
  | e, S => Q e S
def FrEq : List Value → List Value → Prop
  | [], [] => True
  | x :: xs, y :: ys => x = y ∧ FrEq xs ys
  | _, _ => False
inductive OwnLe (own own' : List Own) : Prop
  | mk (ks : List Nat) (hn : ks.Nodup) (h : own' = ks.map fun k => own.getD k .gone) : OwnLe own own'
  | nils (ks : List Nat) (hn : ks.Nodup) (ns : List (TypeId × Nat)) (h : own' = (ks.map fun k => own.getD k .gone) ++ ns.map fun (ty, size) => .row (.slice none 0 0) ty size 0 []) : OwnLe own own'
  | turn (j : Nat) {g n : Nat} {ty : TypeId} {size : Nat} {cs : List Value} (hk : own[j]? = some (.blk g ty cs)) (hl : cs.length = n * size) (hm : n ≤ maxLen) (ks : List Nat) (hn : ks.Nodup) (h : own' = ks.map fun k => (own.set j (.row (.slice (some ⟨g, 0, none⟩) n n) ty size n cs)).getD k .gone) : OwnLe own own'
def setAll : List Value → List (Nat × Value) → List Value
  | fr, [] => fr
  | fr, (t, v) :: r => setAll (fr.set t v) r
def havoc (u : List Value) : List Value → List Nat → List Value
  | fr, [] => fr
  | fr, t :: r => havoc u (fr.set t (u.getD t undef)) r
def setAllK : List Value → List (Nat × Value) → (List Value → Prop) → Prop
  | fr, [], K => K fr
  | fr, (t, v) :: r, K => setK fr t v fun fr => setAllK fr r K
def havocK (u : List Value) : List Value → List Nat → (List Value → Prop) → Prop
  | fr, [], K => K fr
  | fr, t :: r, K => setK fr t (u.getD t undef) fun fr => havocK u fr r K
theorem setAllK.out : ∀ {l : List (Nat × Value)} {fr : List Value} {K : List Value → Prop}, setAllK fr l K → K (setAll fr l)
  | [], _, _, h => h
  | (t, v) :: r, fr, K, h => by
    have h1 := setK.out (K := fun fr => setAllK fr r K) h
    exact setAllK.out (l := r) h1
theorem havocK.out {u : List Value} : ∀ {l : List Nat} {fr : List Value} {K : List Value → Prop}, havocK u fr l K → K (havoc u fr l)
  | [], _, _, h => h
  | t :: r, fr, K, h => by
    have h1 := setK.out (K := fun fr => havocK u fr r K) h
    exact havocK.out (l := r) h1
def frame {ι : Type} (fr : List Value) (ws : List Nat) (nm : ι → List (Nat × Value)) (i : ι) (u : List Value) : List Value := setAll (havoc u fr ws) (nm i)
def frameK {ι : Type} (fr : List Value) (ws : List Nat) (nm : ι → List (Nat × Value)) (i : ι) (u : List Value) (K : List Value → Prop) : Prop := spineK fr fun fr => havocK u fr ws fun fr => setAllK fr (nm i) K
theorem frameK.out {ι : Type} {fr : List Value} {ws : List Nat} {nm : ι → List (Nat × Value)} {i : ι} {u : List Value} {K : List Value → Prop} (h : frameK fr ws nm i u K) : K (frame fr ws nm i u) :=
  setAllK.out (havocK.out (K := fun fr => setAllK fr (nm i) K) (spineK.out (K := fun fr => havocK u fr ws fun fr => setAllK fr (nm i) K) h))
inductive VNext {ι : Type} (fr : List Value) (ws : List Nat) (nm : ι → List (Nat × Value)) (own : ι → List Own) (I : ι → Prop) (n : Nat) (μ : ι → Nat) (fr' : List Value) (own' : List Own) : Prop
  | mk (j : ι) (hI : I j) (hμ : μ j < n) (e : frameK fr ws nm j fr' (FrEq fr')) (o : OwnLe own' (own j)) : VNext fr ws nm own I n μ fr' own'
def loopQ {ι : Type} (fr : List Value) (ws : List Nat) (nm : ι → List (Nat × Value)) (own : ι → List Own) (I : ι → Prop) (n : Nat) (μ : ι → Nat) (Q : Exit → St → Prop) : Exit → St → Prop
  | .normal, ⟨fr', own'⟩ => VNext fr ws nm own I n μ fr' own'
  | e, S' => Q e S'
inductive VLoop (body : (Exit → St → Prop) → St → Prop) (Q : Exit → St → Prop) (fr : List Value) (own0 : List Own) : Prop
  | mk {ι : Type} (ws : List Nat) (nm : ι → List (Nat × Value)) (own : ι → List Own) (I : ι → Prop) (μ : ι → Nat) (i0 : ι) (h0 : I i0) (e0 : frameK fr ws nm i0 fr (FrEq fr)) (o0 : OwnLe own0 (own i0))
      (round : ∀ i u, I i → frameK fr ws nm i u fun fr' => body (loopQ fr ws nm own I (μ i) μ Q) ⟨fr', own i⟩) : VLoop body Q fr own0
def regionStep (P : Program) (T : Tab) (w0 : Base) (ops : Array Oper) (draw : Bool) (Q : Exit → St → Prop) (S : St) : Prop :=
  match draw with
  | false => vcOps P T w0 ops.toList (Q .normal) ops.toList S
  | true => VDraw P T w0 ops (Q .normal) S
def condStep (c : Operand) (S : St) (X Y : Prop) : Prop :=
  match evF S.fr c with
  | .bool true => X
  | .bool false => Y
  | _ => False
def loopStep (body : (Exit → St → Prop) → St → Prop) (Q : Exit → St → Prop) (S : St) : Prop :=
  match S with
  | ⟨fr, own⟩ => VLoop body Q fr own
noncomputable def vc (P : Program) (T : Tab) (w0 : Base) (c : Code) : (Exit → St → Prop) → St → Prop :=
  Code.rec (motive := fun _ => (Exit → St → Prop) → St → Prop)
    (fun Q S => Q .normal S)
    (fun _ ops draw Q S => regionStep P T w0 ops draw Q S)
    (fun _ _ iha ihb Q S => iha (thenQ (ihb Q) Q) S)
    (fun c _ _ ihx ihy Q S => condStep c S (ihx Q S) (ihy Q S))
    (fun id _ ih Q S => ih (blockQ id Q) S)
    (fun _ ih Q S => loopStep ih Q S)
    (fun _ _ _ _ _ _ _ _ => False)
    (fun id Q S => Q (.exit id) S)
    (fun _ _ _ _ => False)
    (fun _ Q S => Q .normal S)
    (fun _ _ _ => False)
    (fun Q S => Q .ret S)
    (fun _ _ _ => False)
    c
def pack : List Value → Value
  | [v] => v
  | vs => .tuple vs.toArray
def packK (vs : List Value) (K : Value → Prop) : Prop :=
  match vs with
  | [v] => K v
  | vs => K (.tuple vs.toArray)
theorem packK.out {vs : List Value} {K : Value → Prop} (h : packK vs K) : K (pack vs) := by
  unfold packK at h
  unfold pack
  split at h <;> exact h
def vRes (T : Tab) (w0 : Base) (own : List Own) (fr : List Value) : List ResultVar → (List Value → Prop) → Prop
  | [], K => K []
  | .tmp t :: r, K => force (fr.getD t undef) fun v => vRes T w0 own fr r fun vs => K (v :: vs)
  | .cell a t :: r, K => vLoad T w0 own t (fr.getD a undef) fun v => vRes T w0 own fr r fun vs => K (v :: vs)
inductive VRet (w0 : Base) (own : List Own) (R : Value → World → Prop) (v : Value) : Prop
  | mk (h : ∀ w, Mem w0 own w → R v w) : VRet w0 own R v
def retQ (T : Tab) (w0 : Base) (rs : List ResultVar) (R : Value → World → Prop) : Exit → St → Prop
  | .normal, ⟨fr, own⟩ => vRes T w0 own fr rs fun vs => packK vs fun v => VRet w0 own R v
  | .ret, ⟨fr, own⟩ => vRes T w0 own fr rs fun vs => packK vs fun v => VRet w0 own R v
  | _, _ => False
def resF (fr : List Value) : ResultVar → Sem Value
  | .tmp t => pure (fr.toArray.getD t undef)
  | .cell a t => do loadVar t (← asAddr (fr.toArray.getD a undef))
section
variable {P : Program} {T : Tab} {w0 : Base}
theorem FrEq.eq : ∀ {xs ys : List Value}, FrEq xs ys → xs = ys
  | [], [], _ => rfl
  | x :: xs, y :: ys, h => by
    obtain ⟨h1, h2⟩ := h
    rw [h1, FrEq.eq h2]
  | [], _ :: _, h => h.elim
  | _ :: _, [], h => h.elim
theorem Mem.turnRow {own : List Own} {cs : List Value} {w : World} {k g n : Nat} {ty : TypeId} {size : Nat} (hk : own[k]? = some (.blk g ty cs)) (hl : cs.length = n * size) (hn : n ≤ maxLen) (m : Mem w0 own w) : Mem w0 (own.set k (.row (.slice (some ⟨g, 0, none⟩) n n) ty size n cs)) w := by
  have h := m.ok k _ hk
  refine m.turn hk m.keeps ⟨fun b hb => ?_, hl, .inr ⟨g, n, cs.toArray, rfl, Nat.zero_le _, h.2, Nat.le_refl _, hn, by simpa using hl, ?_⟩⟩ (fun _ _ _ => rfl) (fun b hb => ?_)
  · simp only [Value.ownBlock, Option.some.injEq] at hb
    subst hb
    exact h.1
  · rw [← hl]
    simp
  · left
    simpa [Own.block, Value.ownBlock] using hb
theorem OwnLe.mem {own own' : List Own} (h : OwnLe own own') {w : World} (m : Mem w0 own w) : Mem w0 own' w := by
  rcases h with ⟨ks, hn, h2⟩ | ⟨ks, hn, ns, h2⟩ | ⟨j, hk, hl, hm, ks, hn, h2⟩
  · rw [h2]
    exact m.sel hn
  · rw [h2]
    have m0 := m.sel hn
    clear h2
    generalize (ks.map fun k => own.getD k Own.gone) = os at m0
    induction ns generalizing os with
    | nil => simpa using m0
    | cons n ns ih =>
      have := ih (os ++ [.row (.slice none 0 0) n.1 n.2 0 []]) (m0.pushNil n.1 n.2)
      simpa [List.append_assoc] using this
  · rw [h2]
    exact (Mem.turnRow hk hl hm m).sel hn
theorem minN (p : Nat → Prop) (hx : ∃ n, p n) : ∃ n, p n ∧ ∀ k, p k → n ≤ k := by
  obtain ⟨n, hn⟩ := hx
  induction n using Nat.strongRecOn with
  | _ n ih =>
    by_cases hl : ∃ k, k < n ∧ p k
    · obtain ⟨k, hk, hak⟩ := hl
      exact ih k hk hak
    · exact ⟨n, hn, fun k hak => Nat.le_of_not_lt fun hlt => hl ⟨k, hlt, hak⟩⟩
theorem VLoop.sound {body : (Exit → St → Prop) → St → Prop} {c : Code}
    (hb : ∀ (Q : Exit → St → Prop) (S : St) (w : World) (R : Exit → Act → World → Prop), body Q S → Mem w0 S.own w → (∀ e S' w', Q e S' → Mem w0 S'.own w' → R e ⟨S'.fr.toArray, []⟩ w') → c.wp P R ⟨S.fr.toArray, []⟩ w)
    {Q : Exit → St → Prop} {S : St} {w : World} {R : Exit → Act → World → Prop} (h : VLoop body Q S.fr S.own) (m : Mem w0 S.own w) (hR : ∀ e S' w', Q e S' → Mem w0 S'.own w' → R e ⟨S'.fr.toArray, []⟩ w') : (Code.loop c).wp P R ⟨S.fr.toArray, []⟩ w := by
  classical
  obtain ⟨ws, nm, own, I, μ, i0, h0, e0, o0, round⟩ := h
  let st : _ → List Value → St := fun i u => ⟨frame S.fr ws nm i u, own i⟩
  let At : Act → World → Nat → Prop := fun a w n => ∃ i u, I i ∧ μ i = n ∧ a = ⟨(st i u).fr.toArray, []⟩ ∧ Mem w0 (st i u).own w
  let me : Act → World → Nat := fun a w => if hx : ∃ n, At a w n then Classical.choose (minN (At a w) hx) else 0
  have me_at : ∀ a w, (∃ n, At a w n) → At a w (me a w) ∧ ∀ k, At a w k → me a w ≤ k := fun a w hx => by
    have e : me a w = Classical.choose (minN (At a w) hx) := dif_pos hx
    rw [e]
    exact Classical.choose_spec (minN (At a w) hx)
  have hfr := e0.out.eq
  have m0 := o0.mem m
  refine wp_loop (fun a w => ∃ n, At a w n) me ⟨μ i0, i0, S.fr, h0, rfl, congrArg (fun fr : List Value => (⟨fr.toArray, []⟩ : Act)) hfr, m0⟩ ?_
  intro a w' hx
  obtain ⟨⟨i, u, hi, hμ, rfl, mi⟩, _⟩ := me_at a w' hx
  refine hb _ _ w' _ (round i u hi).out mi ?_
  intro e S' w'' hq m'
  cases e with
  | normal =>
    obtain ⟨fr', own'⟩ := S'
    obtain ⟨j, hj, hlt, he, ho⟩ := hq
    have hf2 := he.out.eq
    have m2 := ho.mem m'
    have hat : At ⟨fr'.toArray, []⟩ w'' (μ j) := ⟨j, fr', hj, rfl, congrArg (fun fr : List Value => (⟨fr.toArray, []⟩ : Act)) hf2, m2⟩
    have h3 := (me_at _ _ ⟨_, hat⟩).2 _ hat
    exact ⟨⟨_, hat⟩, Nat.lt_of_lt_of_eq (Nat.lt_of_le_of_lt h3 hlt) hμ⟩
  | exit id => exact hR _ S' w'' hq m'
  | goto l => exact hR _ S' w'' hq m'
  | ret => exact hR _ S' w'' hq m'
  | panic ch => exact hR _ S' w'' hq m'
  | outgrown => exact hR _ S' w'' hq m'
theorem vc.sound (hT : TabOk P T) : ∀ (c : Code) (Q : Exit → St → Prop) (S : St) (w : World) (R : Exit → Act → World → Prop), vc P T w0 c Q S → Mem w0 S.own w →
    (∀ e S' w', Q e S' → Mem w0 S'.own w' → R e ⟨S'.fr.toArray, []⟩ w') → c.wp P R ⟨S.fr.toArray, []⟩ w := by
  intro c
  induction c with
  | skip => exact fun Q S w R h m hR => wp_skip (hR _ S w h m)
  | label l => exact fun Q S w R h m hR => wp_label (hR _ S w h m)
  | region id ops draw =>
    intro Q S w R h m hR
    cases draw with
    | false =>
      have := vcOps.sound hT (Q := R) (K := Q .normal) (fun S w hk m => hR _ S w hk m) ops.toList S w h m
      rw [Array.toArray_toList] at this
      exact wp_region_list this
    | true =>
      obtain ⟨p, fix, hs, hok, hp⟩ := h
      refine Code.wp_mono NoP.imp ?_
      refine wp_region_held (S := MemR w0 (fixOf fix S.own)) hT.mixed ?_
      have hs' : Region.noSelect ops.toList.toArray = true := by rw [Array.toArray_toList]; exact hs
      have := (vcPlan.sound hT hs' (Q := R) (K := Q .normal) (fun S w hk m => hR _ S w hk m) p ops.size (Array.replicate ops.size false) _ S { w with drawn := w.drawn + 1 } true (by rw [Array.toArray_toList]; exact hok) hp m.drew rfl (fun e => by cases e)).1 rfl (by rw [Array.toArray_toList])
      rw [Array.toArray_toList] at this
      exact this
  | seq a b iha ihb =>
    intro Q S w R h m hR
    refine wp_seq (iha _ S w _ h m ?_)
    intro e S' w' hq m'
    cases e with
    | normal => exact ihb Q S' w' R hq m' hR
    | exit id => exact hR _ S' w' hq m'
    | goto l => exact hR _ S' w' hq m'
    | ret => exact hR _ S' w' hq m'
    | panic ch => exact hR _ S' w' hq m'
    | outgrown => exact hR _ S' w' hq m'
  | cond c x y ihx ihy =>
    intro Q S w R h m hR
    replace h : (match evF S.fr c with | .bool true => vc P T w0 x Q S | .bool false => vc P T w0 y Q S | _ => False) := h
    split at h
    · rename_i hc
      exact wp_cond_true (by rw [evF_eq]; exact hc) (ihx Q S w R h m hR)
    · rename_i hc
      exact wp_cond_false (by rw [evF_eq]; exact hc) (ihy Q S w R h m hR)
    · exact h.elim
  | block id c ih =>
    intro Q S w R h m hR
    refine wp_block (ih _ S w _ h m ?_)
    intro e S' w' hq m'
    cases e with
    | exit id' =>
      simp only [blockQ] at hq
      simp only [Exit.inBlock]
      split at hq
      · rename_i hb
        rw [if_pos (Nat.eq_of_beq_eq_true hb)]
        exact hR _ S' w' hq m'
      · rename_i hb
        rw [if_neg (fun e => by rw [e, Nat.beq_refl] at hb; cases hb)]
        exact hR _ S' w' hq m'
    | normal => exact hR _ S' w' hq m'
    | goto l => exact hR _ S' w' hq m'
    | ret => exact hR _ S' w' hq m'
    | panic ch => exact hR _ S' w' hq m'
    | outgrown => exact hR _ S' w' hq m'
  | loop c ih =>
    intro Q S w R h m hR
    obtain ⟨fr, own⟩ := S
    exact VLoop.sound (fun Q' S' w' R' h' m' hR' => ih Q' S' w' R' h' m' hR') h m hR
  | exit id => exact fun Q S w R h m hR => wp_exit (hR _ S w h m)
  | ret => exact fun Q S w R h m hR => wp_ret (hR _ S w h m)
  | rangeFunc f ps a b iha ihb => exact fun Q S w R h m hR => h.elim
  | scope b ih => exact fun Q S w R h m hR => h.elim
  | goto l => exact fun Q S w R h m hR => h.elim
  | refuse s => exact fun Q S w R h m hR => h.elim
theorem vRes.sound (hT : TabOk P T) {own : List Own} {fr : List Value} {w : World} (m : Mem w0 own w) : ∀ (rs : List ResultVar) (K : List Value → Prop), vRes T w0 own fr rs K →
    ∃ vs, K vs ∧ (rs.mapM (resF fr)).run P w = .ok vs w
  | [], K, h => ⟨[], h, rfl⟩
  | .tmp t :: r, K, h => by
    obtain ⟨vs, k, e⟩ := vRes.sound hT m r _ (force.out (K := fun v => vRes T w0 own fr r fun vs => K (v :: vs)) h)
    refine ⟨_, k, ?_⟩
    rw [List.mapM_cons, Sem.run_bind, show (resF fr (.tmp t)).run P w = .ok (fr.toArray.getD t undef) w from rfl, Result.andThen_ok, Sem.run_bind, e, Result.andThen_ok]
    simp
  | .cell a t :: r, K, h => by
    obtain ⟨v, hv, e0⟩ := vLoad.sound hT (own := own) h
    obtain ⟨vs, k, e⟩ := vRes.sound hT m r _ hv
    have e1 := e0 w m.toMemR
    refine ⟨_, k, ?_⟩
    have e2 : (resF fr (.cell a t)).run P w = .ok v w := by
      show (do loadVar t (← asAddr (fr.toArray.getD a undef)) : Sem Value).run P w = .ok v w
      have hg : fr.toArray.getD a undef = fr.getD a undef := by simp
      rw [hg]
      have h' : vLoad T w0 own t (fr.getD a undef) fun v => vRes T w0 own fr r fun vs => K (v :: vs) := h
      unfold vLoad at h'
      split at h'
      · exact h'.elim
      · split at h'
        · rename_i g off hp
          rw [hp] at e1 ⊢
          simpa [Instr.loadAt, Instr.sureAddr, asAddr] using e1
        · exact h'.elim
    rw [List.mapM_cons, Sem.run_bind, e2, Result.andThen_ok, Sem.run_bind, e, Result.andThen_ok]
    rfl
theorem pack_eq (vs : List Value) : (if h : vs.toArray.size = 1 then vs.toArray[0]'(by omega) else Value.tuple vs.toArray) = pack vs := by
  match vs with
  | [] => rfl
  | [v] => rfl
  | a :: b :: r => simp [pack]
theorem calls_of_vcL (hT : TabOk P T) {f : FuncId} {fn : Func} {c : Code} {args : List Value} {own : List Own} {w : World} {R : Value → World → Prop} (hf : P.funcs[f]? = some fn) (hb : fn.body = some c) (m0 : Mem w0 own w)
    (h : spineK (args ++ List.replicate (fn.ntmps - args.length) undef) fun fr => vc P T w0 c (retQ T w0 fn.results.toList R) ⟨fr, own⟩) : Calls P f args.toArray w fun e w' => ∃ v, e = .returned v ∧ R v w' := by
  refine calls_of_wp hf hb ?_
  have e0 : ({ tmps := args.toArray ++ Array.replicate (fn.ntmps - args.toArray.size) undef, defers := [] } : Act) = ⟨(args ++ List.replicate (fn.ntmps - args.length) undef).toArray, []⟩ := by
    simp [List.toArray_replicate]
  rw [e0]
  refine vc.sound hT c _ ⟨args ++ List.replicate (fn.ntmps - args.length) undef, own⟩ w _ h.out m0 ?_
  intro e S' w' hq m'
  have fin : ∀ {vs : List Value}, VRet w0 S'.own R (pack vs) → (fn.results.toList.mapM (resF S'.fr)).run P w' = .ok vs w' → ∃ v, (results fn S'.fr.toArray).run P w' = .ok v w' ∧ ∃ u, Ending.returned v = .returned u ∧ R u w' := fun {vs} hr hm => by
    obtain ⟨hr⟩ := hr
    refine ⟨pack vs, ?_, _, rfl, hr w' m'⟩
    have er : results fn S'.fr.toArray = (do let vs ← fn.results.mapM (resF S'.fr); pure (if h : vs.size = 1 then vs[0] else .tuple vs)) := by
      unfold results
      congr 2
    rw [er, Array.mapM_eq_mapM_toList, Sem.run_bind, Sem.run_map, hm]
    simp only [Result.andThen_ok, Sem.run_pure]
    rw [pack_eq]
  cases e with
  | normal =>
    obtain ⟨vs, hr, hm⟩ := vRes.sound hT m' _ _ hq
    exact ⟨rfl, fin hr.out hm⟩
  | ret =>
    obtain ⟨vs, hr, hm⟩ := vRes.sound hT m' _ _ hq
    exact ⟨rfl, fin hr.out hm⟩
  | exit id => exact hq.elim
  | goto l => exact hq.elim
  | panic ch => exact hq.elim
  | outgrown => exact hq.elim
theorem calls_of_vc (hT : TabOk P T) {f : FuncId} {fn : Func} {c : Code} {args : List Value} {w : World} {R : Value → World → Prop} (hf : P.funcs[f]? = some fn) (hb : fn.body = some c)
    (h : spineK (args ++ List.replicate (fn.ntmps - args.length) undef) fun fr => vc P T (Base.of w) c (retQ T (Base.of w) fn.results.toList R) ⟨fr, []⟩) : Calls P f args.toArray w fun e w' => ∃ v, e = .returned v ∧ R v w' :=
  calls_of_vcL (w0 := Base.of w) hT hf hb (Mem.init (Base.of w)) h
theorem post_of_vc {w1 : World} {f : FuncId} {args : Array Value} {v : Value} (h : Calls P f args w1 fun e w' => ∃ u, e = .returned u ∧ (u = v ∧ Below w1.heap.size w1 w')) : Calls P f args w1 (Post v w1) :=
  h.mono fun e w' ⟨u, he, hu, hb⟩ => ⟨by rw [he, hu], hb⟩
end
end Go.Proofs.YtadjhkehfklmnaaGreatDoor
namespace Go.Proofs.YtadjhkehfklmnaaGreatDoor
set_option linter.unusedSimpArgs false
set_option linter.unusedVariables false
open Go.RowKit
def placesOf (P : Program) (d : TypeDesc) : Option (List (Nat × Nat)) :=
  match d with
  | .struct fs => fs.toList.mapM fun f => (P.info? f.type).map fun i => (f.offset, i.size)
  | _ => some []
def OkTI (P : Program) (t : Nat) (ti : TI) : Prop :=
  P.underlying t = some ti.desc ∧ (P.info? t).map (fun i => (i.size, i.bytes, i.zero.map (·.cells))) = some (ti.size, ti.bytes, some ti.zero.toArray) ∧ ti.zero.length = ti.size ∧ placesOf P ti.desc = some ti.places
def AllTI (P : Program) : List (Nat × TI) → Prop
  | [] => True
  | x :: r => OkTI P x.1 x.2 ∧ AllTI P r
def look : List (Nat × TI) → Nat → Option TI
  | [], _ => none
  | (k, ti) :: r, t => match Nat.beq k t with
    | true => some ti
    | false => look r t
theorem look_ok {P : Program} {t : Nat} {ti : TI} : ∀ (l : List (Nat × TI)), AllTI P l → look l t = some ti → OkTI P t ti
  | [], _, h => by cases h
  | (k, ti') :: r, hl, h => by
    unfold look at h
    split at h
    · rename_i hk
      have := Nat.eq_of_beq_eq_true hk
      subst this
      cases h
      exact hl.1
    · exact look_ok r hl.2 h
def inL : List Nat → Nat → Bool
  | [], _ => false
  | k :: r, f => match Nat.beq k f with
    | true => true
    | false => inL r f
def fnGood (P : Program) : List Nat → Bool
  | [] => true
  | f :: r => (match P.funcs[f]? with
    | some fn => !fn.body.isNone && !(fn.name == "runtime.NumGoroutine")
    | none => false) && fnGood P r
theorem inL_ok {P : Program} {f : Nat} : ∀ (l : List Nat), fnGood P l = true → inL l f = true → ∃ fn, P.funcs[f]? = some fn ∧ fn.body.isNone = false ∧ (fn.name == "runtime.NumGoroutine") = false
  | [], _, h => by cases h
  | k :: r, hl, h => by
    unfold inL at h
    simp only [fnGood, Bool.and_eq_true] at hl
    split at h
    · rename_i hk
      have := Nat.eq_of_beq_eq_true hk
      subst this
      have h1 := hl.1
      split at h1
      · rename_i fn hfn
        simp only [Bool.and_eq_true, Bool.not_eq_true'] at h1
        exact ⟨fn, hfn, h1.1, h1.2⟩
      · cases h1
    · exact inL_ok r hl.2 h
def tyRows : List (Nat × TI) := [
  (2, TI.mk (.int .i64) 1 8 [.int .i64 0] []),
  (3, TI.mk (.int .i64) 1 8 [.int .i64 0] []),
  (4, TI.mk (.bool) 1 1 [.bool false] []),
  (5, TI.mk (.int .u8) 1 1 [.int .u8 0] []),
  (9, TI.mk (.string) 1 16 [.string .empty] []),
  (12, TI.mk (.int .u64) 1 8 [.int .u64 0] []),
  (20, TI.mk (.interface #[]) 1 16 [.nilIface] []),
  (21, TI.mk (.int .i32) 1 4 [.int .i32 0] []),
  (22, TI.mk (.struct #[(Field.mk "Lower" 3 0 false "" "" 0), (Field.mk "Upper" 3 1 false "" "" 8), (Field.mk "Level" 3 2 false "" "" 16), (Field.mk "LowGate" 4 3 false "" "" 24), (Field.mk "HighGate" 4 4 false "" "" 25), (Field.mk "LowPaddle" 4 5 false "" "" 26), (Field.mk "HighPaddle" 4 6 false "" "" 27)]) 7 32 [.int .i64 0, .int .i64 0, .int .i64 0, .bool false, .bool false, .bool false, .bool false] [(0, 1), (1, 1), (2, 1), (3, 1), (4, 1), (5, 1), (6, 1)]),
  (23, TI.mk (.struct #[(Field.mk "Lower" 3 0 false "" "" 0), (Field.mk "Upper" 3 1 false "" "" 8), (Field.mk "Level" 3 2 false "" "" 16), (Field.mk "LowGate" 4 3 false "" "" 24), (Field.mk "HighGate" 4 4 false "" "" 25), (Field.mk "LowPaddle" 4 5 false "" "" 26), (Field.mk "HighPaddle" 4 6 false "" "" 27)]) 7 32 [.int .i64 0, .int .i64 0, .int .i64 0, .bool false, .bool false, .bool false, .bool false] [(0, 1), (1, 1), (2, 1), (3, 1), (4, 1), (5, 1), (6, 1)]),
  (24, TI.mk (.slice 118) 1 24 [.slice none 0 0] []),
  (25, TI.mk (.slice 124) 1 24 [.slice none 0 0] []),
  (26, TI.mk (.struct #[(Field.mk "Durable" 9 0 false "" "" 0), (Field.mk "Pending" 9 1 false "" "" 16), (Field.mk "Count" 3 2 false "" "" 32)]) 3 40 [.string .empty, .string .empty, .int .i64 0] [(0, 1), (1, 1), (2, 1)]),
  (27, TI.mk (.struct #[(Field.mk "Durable" 9 0 false "" "" 0), (Field.mk "Pending" 9 1 false "" "" 16), (Field.mk "Count" 3 2 false "" "" 32)]) 3 40 [.string .empty, .string .empty, .int .i64 0] [(0, 1), (1, 1), (2, 1)]),
  (28, TI.mk (.struct #[(Field.mk "Lock" 23 0 false "" "" 0), (Field.mk "Basins" 24 7 false "" "" 32), (Field.mk "Waiting" 25 8 false "" "" 56), (Field.mk "Log" 27 9 false "" "" 80)]) 12 120 [.int .i64 0, .int .i64 0, .int .i64 0, .bool false, .bool false, .bool false, .bool false, .slice none 0 0, .slice none 0 0, .string .empty, .string .empty, .int .i64 0] [(0, 7), (7, 1), (8, 1), (9, 3)]),
  (29, TI.mk (.struct #[(Field.mk "Lock" 23 0 false "" "" 0), (Field.mk "Basins" 24 7 false "" "" 32), (Field.mk "Waiting" 25 8 false "" "" 56), (Field.mk "Log" 27 9 false "" "" 80)]) 12 120 [.int .i64 0, .int .i64 0, .int .i64 0, .bool false, .bool false, .bool false, .bool false, .slice none 0 0, .slice none 0 0, .string .empty, .string .empty, .int .i64 0] [(0, 7), (7, 1), (8, 1), (9, 3)]),
  (31, TI.mk (.slice 9) 1 24 [.slice none 0 0] []),
  (34, TI.mk (.struct #[(Field.mk "Lower" 3 0 false "" "" 0), (Field.mk "Upper" 3 1 false "" "" 8), (Field.mk "Level" 3 2 false "" "" 16), (Field.mk "LowGate" 4 3 false "" "" 24), (Field.mk "HighGate" 4 4 false "" "" 25), (Field.mk "LowPaddle" 4 5 false "" "" 26), (Field.mk "HighPaddle" 4 6 false "" "" 27)]) 7 32 [.int .i64 0, .int .i64 0, .int .i64 0, .bool false, .bool false, .bool false, .bool false] [(0, 1), (1, 1), (2, 1), (3, 1), (4, 1), (5, 1), (6, 1)]),
  (35, TI.mk (.slice 96) 1 24 [.slice none 0 0] []),
  (36, TI.mk (.slice 98) 1 24 [.slice none 0 0] []),
  (37, TI.mk (.struct #[(Field.mk "Durable" 9 0 false "" "" 0), (Field.mk "Pending" 9 1 false "" "" 16), (Field.mk "Count" 3 2 false "" "" 32)]) 3 40 [.string .empty, .string .empty, .int .i64 0] [(0, 1), (1, 1), (2, 1)]),
  (38, TI.mk (.struct #[(Field.mk "Lock" 34 0 false "" "" 0), (Field.mk "Basins" 35 7 false "" "" 32), (Field.mk "Waiting" 36 8 false "" "" 56), (Field.mk "Log" 37 9 false "" "" 80)]) 12 120 [.int .i64 0, .int .i64 0, .int .i64 0, .bool false, .bool false, .bool false, .bool false, .slice none 0 0, .slice none 0 0, .string .empty, .string .empty, .int .i64 0] [(0, 7), (7, 1), (8, 1), (9, 3)]),
  (39, TI.mk (.struct #[(Field.mk "Lock" 34 0 false "" "" 0), (Field.mk "Basins" 35 7 false "" "" 32), (Field.mk "Waiting" 36 8 false "" "" 56), (Field.mk "Log" 37 9 false "" "" 80)]) 12 120 [.int .i64 0, .int .i64 0, .int .i64 0, .bool false, .bool false, .bool false, .bool false, .slice none 0 0, .slice none 0 0, .string .empty, .string .empty, .int .i64 0] [(0, 7), (7, 1), (8, 1), (9, 3)]),
  (46, TI.mk (.slice 5) 1 24 [.slice none 0 0] []),
  (70, TI.mk (.slice 74) 1 24 [.slice none 0 0] []),
  (73, TI.mk (.struct #[(Field.mk "Command" 9 0 false "" "" 0), (Field.mk "Reply" 9 1 false "" "" 16)]) 2 32 [.string .empty, .string .empty] [(0, 1), (1, 1)]),
  (74, TI.mk (.struct #[(Field.mk "Command" 9 0 false "" "" 0), (Field.mk "Reply" 9 1 false "" "" 16)]) 2 32 [.string .empty, .string .empty] [(0, 1), (1, 1)]),
  (86, TI.mk (.pointer 89) 1 8 [.pointer none] []),
  (87, TI.mk (.int .u64) 1 8 [.int .u64 0] []),
  (88, TI.mk (.struct #[(Field.mk "code" 46 0 false "" "loop.example/g00924/spec" 0), (Field.mk "at" 3 1 false "" "loop.example/g00924/spec" 24), (Field.mk "seed" 87 2 false "" "loop.example/g00924/spec" 32)]) 3 40 [.slice none 0 0, .int .i64 0, .int .u64 0] [(0, 1), (1, 1), (2, 1)]),
  (89, TI.mk (.struct #[(Field.mk "code" 46 0 false "" "loop.example/g00924/spec" 0), (Field.mk "at" 3 1 false "" "loop.example/g00924/spec" 24), (Field.mk "seed" 87 2 false "" "loop.example/g00924/spec" 32)]) 3 40 [.slice none 0 0, .int .i64 0, .int .u64 0] [(0, 1), (1, 1), (2, 1)]),
  (94, TI.mk (.slice 4) 1 24 [.slice none 0 0] []),
  (95, TI.mk (.struct #[(Field.mk "Volume" 3 0 false "" "" 0), (Field.mk "Least" 3 1 false "" "" 8), (Field.mk "Most" 3 2 false "" "" 16)]) 3 24 [.int .i64 0, .int .i64 0, .int .i64 0] [(0, 1), (1, 1), (2, 1)]),
  (96, TI.mk (.struct #[(Field.mk "Volume" 3 0 false "" "" 0), (Field.mk "Least" 3 1 false "" "" 8), (Field.mk "Most" 3 2 false "" "" 16)]) 3 24 [.int .i64 0, .int .i64 0, .int .i64 0] [(0, 1), (1, 1), (2, 1)]),
  (97, TI.mk (.struct #[(Field.mk "Id" 3 0 false "" "" 0), (Field.mk "Up" 4 1 false "" "" 8), (Field.mk "Minute" 3 2 false "" "" 16), (Field.mk "Weight" 3 3 false "" "" 24)]) 4 32 [.int .i64 0, .bool false, .int .i64 0, .int .i64 0] [(0, 1), (1, 1), (2, 1), (3, 1)]),
  (98, TI.mk (.struct #[(Field.mk "Id" 3 0 false "" "" 0), (Field.mk "Up" 4 1 false "" "" 8), (Field.mk "Minute" 3 2 false "" "" 16), (Field.mk "Weight" 3 3 false "" "" 24)]) 4 32 [.int .i64 0, .bool false, .int .i64 0, .int .i64 0] [(0, 1), (1, 1), (2, 1), (3, 1)]),
  (101, TI.mk (.slice 3) 1 24 [.slice none 0 0] []),
  (113, TI.mk (.pointer 39) 1 8 [.pointer none] []),
  (118, TI.mk (.struct #[(Field.mk "Volume" 3 0 false "" "" 0), (Field.mk "Least" 3 1 false "" "" 8), (Field.mk "Most" 3 2 false "" "" 16)]) 3 24 [.int .i64 0, .int .i64 0, .int .i64 0] [(0, 1), (1, 1), (2, 1)]),
  (124, TI.mk (.struct #[(Field.mk "Id" 3 0 false "" "" 0), (Field.mk "Up" 4 1 false "" "" 8), (Field.mk "Minute" 3 2 false "" "" 16), (Field.mk "Weight" 3 3 false "" "" 24)]) 4 32 [.int .i64 0, .bool false, .int .i64 0, .int .i64 0] [(0, 1), (1, 1), (2, 1), (3, 1)]),
  (131, TI.mk (.struct #[(Field.mk "From" 3 0 false "" "" 0), (Field.mk "To" 3 1 false "" "" 8), (Field.mk "Volume" 3 2 false "" "" 16)]) 3 24 [.int .i64 0, .int .i64 0, .int .i64 0] [(0, 1), (1, 1), (2, 1)]),
  (132, TI.mk (.struct #[(Field.mk "From" 3 0 false "" "" 0), (Field.mk "To" 3 1 false "" "" 8), (Field.mk "Volume" 3 2 false "" "" 16)]) 3 24 [.int .i64 0, .int .i64 0, .int .i64 0] [(0, 1), (1, 1), (2, 1)]),
  (162, TI.mk (.int .u64) 1 8 [.int .u64 0] []),
  (195, TI.mk (.array 24 5) 24 24 [.int .u8 0, .int .u8 0, .int .u8 0, .int .u8 0, .int .u8 0, .int .u8 0, .int .u8 0, .int .u8 0, .int .u8 0, .int .u8 0, .int .u8 0, .int .u8 0, .int .u8 0, .int .u8 0, .int .u8 0, .int .u8 0, .int .u8 0, .int .u8 0, .int .u8 0, .int .u8 0, .int .u8 0, .int .u8 0, .int .u8 0, .int .u8 0] []),
  (200, TI.mk (.interface #[("Error", 226)]) 1 16 [.nilIface] []),
  (201, TI.mk (.interface #[("Error", 226)]) 1 16 [.nilIface] []),
  (204, TI.mk (.array 4 3) 4 32 [.int .i64 0, .int .i64 0, .int .i64 0, .int .i64 0] []),
  (215, TI.mk (.array 20 87) 20 160 [.int .u64 0, .int .u64 0, .int .u64 0, .int .u64 0, .int .u64 0, .int .u64 0, .int .u64 0, .int .u64 0, .int .u64 0, .int .u64 0, .int .u64 0, .int .u64 0, .int .u64 0, .int .u64 0, .int .u64 0, .int .u64 0, .int .u64 0, .int .u64 0, .int .u64 0, .int .u64 0] []),
  (216, TI.mk (.int .u32) 1 4 [.int .u32 0] []),
  (217, TI.mk (.array 65 5) 65 65 [.int .u8 0, .int .u8 0, .int .u8 0, .int .u8 0, .int .u8 0, .int .u8 0, .int .u8 0, .int .u8 0, .int .u8 0, .int .u8 0, .int .u8 0, .int .u8 0, .int .u8 0, .int .u8 0, .int .u8 0, .int .u8 0, .int .u8 0, .int .u8 0, .int .u8 0, .int .u8 0, .int .u8 0, .int .u8 0, .int .u8 0, .int .u8 0, .int .u8 0, .int .u8 0, .int .u8 0, .int .u8 0, .int .u8 0, .int .u8 0, .int .u8 0, .int .u8 0, .int .u8 0, .int .u8 0, .int .u8 0, .int .u8 0, .int .u8 0, .int .u8 0, .int .u8 0, .int .u8 0, .int .u8 0, .int .u8 0, .int .u8 0, .int .u8 0, .int .u8 0, .int .u8 0, .int .u8 0, .int .u8 0, .int .u8 0, .int .u8 0, .int .u8 0, .int .u8 0, .int .u8 0, .int .u8 0, .int .u8 0, .int .u8 0, .int .u8 0, .int .u8 0, .int .u8 0, .int .u8 0, .int .u8 0, .int .u8 0, .int .u8 0, .int .u8 0, .int .u8 0] []),
  (221, TI.mk (.pointer 4) 1 8 [.pointer none] []),
  (222, TI.mk (.pointer 224) 1 8 [.pointer none] []),
  (223, TI.mk (.struct #[(Field.mk "addr" 222 0 false "" "strings" 0), (Field.mk "buf" 46 1 false "" "strings" 8)]) 2 32 [.pointer none, .slice none 0 0] [(0, 1), (1, 1)]),
  (224, TI.mk (.struct #[(Field.mk "addr" 222 0 false "" "strings" 0), (Field.mk "buf" 46 1 false "" "strings" 8)]) 2 32 [.pointer none, .slice none 0 0] [(0, 1), (1, 1)]),
  (228, TI.mk (.func #[101] #[] false) 1 8 [.nilFunc] []),
  (235, TI.mk (.array 256 5) 256 256 [.int .u8 0, .int .u8 0, .int .u8 0, .int .u8 0, .int .u8 0, .int .u8 0, .int .u8 0, .int .u8 0, .int .u8 0, .int .u8 0, .int .u8 0, .int .u8 0, .int .u8 0, .int .u8 0, .int .u8 0, .int .u8 0, .int .u8 0, .int .u8 0, .int .u8 0, .int .u8 0, .int .u8 0, .int .u8 0, .int .u8 0, .int .u8 0, .int .u8 0, .int .u8 0, .int .u8 0, .int .u8 0, .int .u8 0, .int .u8 0, .int .u8 0, .int .u8 0, .int .u8 0, .int .u8 0, .int .u8 0, .int .u8 0, .int .u8 0, .int .u8 0, .int .u8 0, .int .u8 0, .int .u8 0, .int .u8 0, .int .u8 0, .int .u8 0, .int .u8 0, .int .u8 0, .int .u8 0, .int .u8 0, .int .u8 0, .int .u8 0, .int .u8 0, .int .u8 0, .int .u8 0, .int .u8 0, .int .u8 0, .int .u8 0, .int .u8 0, .int .u8 0, .int .u8 0, .int .u8 0, .int .u8 0, .int .u8 0, .int .u8 0, .int .u8 0, .int .u8 0, .int .u8 0, .int .u8 0, .int .u8 0, .int .u8 0, .int .u8 0, .int .u8 0, .int .u8 0, .int .u8 0, .int .u8 0, .int .u8 0, .int .u8 0, .int .u8 0, .int .u8 0, .int .u8 0, .int .u8 0, .int .u8 0, .int .u8 0, .int .u8 0, .int .u8 0, .int .u8 0, .int .u8 0, .int .u8 0, .int .u8 0, .int .u8 0, .int .u8 0, .int .u8 0, .int .u8 0, .int .u8 0, .int .u8 0, .int .u8 0, .int .u8 0, .int .u8 0, .int .u8 0, .int .u8 0, .int .u8 0, .int .u8 0, .int .u8 0, .int .u8 0, .int .u8 0, .int .u8 0, .int .u8 0, .int .u8 0, .int .u8 0, .int .u8 0, .int .u8 0, .int .u8 0, .int .u8 0, .int .u8 0, .int .u8 0, .int .u8 0, .int .u8 0, .int .u8 0, .int .u8 0, .int .u8 0, .int .u8 0, .int .u8 0, .int .u8 0, .int .u8 0, .int .u8 0, .int .u8 0, .int .u8 0, .int .u8 0, .int .u8 0, .int .u8 0, .int .u8 0, .int .u8 0, .int .u8 0, .int .u8 0, .int .u8 0, .int .u8 0, .int .u8 0, .int .u8 0, .int .u8 0, .int .u8 0, .int .u8 0, .int .u8 0, .int .u8 0, .int .u8 0, .int .u8 0, .int .u8 0, .int .u8 0, .int .u8 0, .int .u8 0, .int .u8 0, .int .u8 0, .int .u8 0, .int .u8 0, .int .u8 0, .int .u8 0, .int .u8 0, .int .u8 0, .int .u8 0, .int .u8 0, .int .u8 0, .int .u8 0, .int .u8 0, .int .u8 0, .int .u8 0, .int .u8 0, .int .u8 0, .int .u8 0, .int .u8 0, .int .u8 0, .int .u8 0, .int .u8 0, .int .u8 0, .int .u8 0, .int .u8 0, .int .u8 0, .int .u8 0, .int .u8 0, .int .u8 0, .int .u8 0, .int .u8 0, .int .u8 0, .int .u8 0, .int .u8 0, .int .u8 0, .int .u8 0, .int .u8 0, .int .u8 0, .int .u8 0, .int .u8 0, .int .u8 0, .int .u8 0, .int .u8 0, .int .u8 0, .int .u8 0, .int .u8 0, .int .u8 0, .int .u8 0, .int .u8 0, .int .u8 0, .int .u8 0, .int .u8 0, .int .u8 0, .int .u8 0, .int .u8 0, .int .u8 0, .int .u8 0, .int .u8 0, .int .u8 0, .int .u8 0, .int .u8 0, .int .u8 0, .int .u8 0, .int .u8 0, .int .u8 0, .int .u8 0, .int .u8 0, .int .u8 0, .int .u8 0, .int .u8 0, .int .u8 0, .int .u8 0, .int .u8 0, .int .u8 0, .int .u8 0, .int .u8 0, .int .u8 0, .int .u8 0, .int .u8 0, .int .u8 0, .int .u8 0, .int .u8 0, .int .u8 0, .int .u8 0, .int .u8 0, .int .u8 0, .int .u8 0, .int .u8 0, .int .u8 0, .int .u8 0, .int .u8 0, .int .u8 0, .int .u8 0, .int .u8 0, .int .u8 0, .int .u8 0, .int .u8 0, .int .u8 0, .int .u8 0, .int .u8 0, .int .u8 0, .int .u8 0, .int .u8 0, .int .u8 0, .int .u8 0, .int .u8 0, .int .u8 0, .int .u8 0] []),
  (236, TI.mk (.struct #[(Field.mk "lo" 5 0 false "" "unicode/utf8" 0), (Field.mk "hi" 5 1 false "" "unicode/utf8" 1)]) 2 2 [.int .u8 0, .int .u8 0] [(0, 1), (1, 1)]),
  (237, TI.mk (.struct #[(Field.mk "lo" 5 0 false "" "unicode/utf8" 0), (Field.mk "hi" 5 1 false "" "unicode/utf8" 1)]) 2 2 [.int .u8 0, .int .u8 0] [(0, 1), (1, 1)]),
  (238, TI.mk (.array 16 237) 32 32 [.int .u8 0, .int .u8 0, .int .u8 0, .int .u8 0, .int .u8 0, .int .u8 0, .int .u8 0, .int .u8 0, .int .u8 0, .int .u8 0, .int .u8 0, .int .u8 0, .int .u8 0, .int .u8 0, .int .u8 0, .int .u8 0, .int .u8 0, .int .u8 0, .int .u8 0, .int .u8 0, .int .u8 0, .int .u8 0, .int .u8 0, .int .u8 0, .int .u8 0, .int .u8 0, .int .u8 0, .int .u8 0, .int .u8 0, .int .u8 0, .int .u8 0, .int .u8 0] []),
  (242, TI.mk (.int .i64) 1 8 [.int .i64 0] []),
  (245, TI.mk (.pointer 257) 1 8 [.pointer none] []),
  (248, TI.mk (.pointer 5) 1 8 [.pointer none] []),
  (252, TI.mk (.array 32 5) 32 32 [.int .u8 0, .int .u8 0, .int .u8 0, .int .u8 0, .int .u8 0, .int .u8 0, .int .u8 0, .int .u8 0, .int .u8 0, .int .u8 0, .int .u8 0, .int .u8 0, .int .u8 0, .int .u8 0, .int .u8 0, .int .u8 0, .int .u8 0, .int .u8 0, .int .u8 0, .int .u8 0, .int .u8 0, .int .u8 0, .int .u8 0, .int .u8 0, .int .u8 0, .int .u8 0, .int .u8 0, .int .u8 0, .int .u8 0, .int .u8 0, .int .u8 0, .int .u8 0] []),
  (253, TI.mk (.array 64 5) 64 64 [.int .u8 0, .int .u8 0, .int .u8 0, .int .u8 0, .int .u8 0, .int .u8 0, .int .u8 0, .int .u8 0, .int .u8 0, .int .u8 0, .int .u8 0, .int .u8 0, .int .u8 0, .int .u8 0, .int .u8 0, .int .u8 0, .int .u8 0, .int .u8 0, .int .u8 0, .int .u8 0, .int .u8 0, .int .u8 0, .int .u8 0, .int .u8 0, .int .u8 0, .int .u8 0, .int .u8 0, .int .u8 0, .int .u8 0, .int .u8 0, .int .u8 0, .int .u8 0, .int .u8 0, .int .u8 0, .int .u8 0, .int .u8 0, .int .u8 0, .int .u8 0, .int .u8 0, .int .u8 0, .int .u8 0, .int .u8 0, .int .u8 0, .int .u8 0, .int .u8 0, .int .u8 0, .int .u8 0, .int .u8 0, .int .u8 0, .int .u8 0, .int .u8 0, .int .u8 0, .int .u8 0, .int .u8 0, .int .u8 0, .int .u8 0, .int .u8 0, .int .u8 0, .int .u8 0, .int .u8 0, .int .u8 0, .int .u8 0, .int .u8 0, .int .u8 0] []),
  (256, TI.mk (.struct #[(Field.mk "Func" 9 0 false "" "" 0), (Field.mk "Num" 9 1 false "" "" 16), (Field.mk "Err" 201 2 false "" "" 32)]) 3 48 [.string .empty, .string .empty, .nilIface] [(0, 1), (1, 1), (2, 1)]),
  (257, TI.mk (.struct #[(Field.mk "Func" 9 0 false "" "" 0), (Field.mk "Num" 9 1 false "" "" 16), (Field.mk "Err" 201 2 false "" "" 32)]) 3 48 [.string .empty, .string .empty, .nilIface] [(0, 1), (1, 1), (2, 1)]),
  (266, TI.mk (.pointer 268) 1 8 [.pointer none] []),
  (267, TI.mk (.struct #[(Field.mk "s" 9 0 false "" "errors" 0)]) 1 16 [.string .empty] [(0, 1)]),
  (268, TI.mk (.struct #[(Field.mk "s" 9 0 false "" "errors" 0)]) 1 16 [.string .empty] [(0, 1)]),
  (271, TI.mk (.int .i64) 1 8 [.int .i64 0] []),
  (277, TI.mk (.int .u64) 1 8 [.int .u64 0] []),
  (281, TI.mk (.pointer 3) 1 8 [.pointer none] []),
  (283, TI.mk (.pointer 277) 1 8 [.pointer none] [])]
def fnRows : List Nat := [2, 3, 4, 5, 6, 7, 8, 9, 10, 11, 12, 13, 14, 15, 16, 17, 18, 19, 20, 21, 22, 23, 24, 25, 26, 27, 28, 29, 30, 31, 32, 33, 34, 35, 36, 37, 38, 39, 40, 41, 42, 43, 44, 45, 46, 47, 48, 49, 50, 51, 52, 53, 54, 55, 56, 57, 58, 59, 60, 61, 62, 63, 64, 65, 66, 67, 68, 69, 70, 71, 72, 73, 74, 75, 76, 77, 78, 79, 80, 81, 82, 83, 84, 85, 86, 87, 88, 89, 90, 91, 92, 93, 94, 95, 96, 97, 98, 99, 100, 101, 102, 103, 104, 105, 106, 107, 108, 109, 110, 111, 112, 113, 114, 115, 116, 117, 118, 119, 120, 121, 122, 123, 124, 125, 126, 127, 128, 129, 130, 131, 132, 133, 134, 135, 136, 137, 138, 139, 140, 141, 142, 143, 144, 145, 146, 147, 148, 149, 150, 151, 152, 153, 154, 155, 156, 157, 158, 159, 160, 161, 162, 163, 165, 166, 167, 168, 169, 170, 171, 172, 173, 174, 175, 176, 177, 178, 179, 180, 181, 182, 183, 184, 185, 186, 187, 188, 189, 190, 191, 192, 193, 194, 195, 196, 197, 198, 199, 201, 202, 203, 204, 205, 206, 207, 208, 209, 210, 211, 212, 213, 214, 216, 217, 218, 219, 220, 221, 222, 223, 224, 225, 226, 227, 228, 230, 231, 232, 233, 234, 235, 236, 237, 238, 239, 240, 241, 242, 243, 244, 245, 246, 247, 248, 249, 250, 253, 254, 255, 256, 257, 258, 259, 260, 261, 262, 263, 264, 265, 266, 267, 268, 269, 270, 271, 272, 273, 274, 275, 276, 277, 308]
def eqRows : List Nat := [22, 23, 26, 27, 34, 37, 73, 74, 95, 96, 97, 98, 118, 124, 131, 132, 267, 268]
theorem tyRows_ok : AllTI Tryz.prog tyRows := ⟨⟨by kernel_rfl, by kernel_rfl, by kernel_rfl, by kernel_rfl⟩, ⟨⟨by kernel_rfl, by kernel_rfl, by kernel_rfl, by kernel_rfl⟩, ⟨⟨by kernel_rfl, by kernel_rfl, by kernel_rfl, by kernel_rfl⟩, ⟨⟨by kernel_rfl, by kernel_rfl, by kernel_rfl, by kernel_rfl⟩, ⟨⟨by kernel_rfl, by kernel_rfl, by kernel_rfl, by kernel_rfl⟩, ⟨⟨by kernel_rfl, by kernel_rfl, by kernel_rfl, by kernel_rfl⟩, ⟨⟨by kernel_rfl, by kernel_rfl, by kernel_rfl, by kernel_rfl⟩, ⟨⟨by kernel_rfl, by kernel_rfl, by kernel_rfl, by kernel_rfl⟩, ⟨⟨by kernel_rfl, by kernel_rfl, by kernel_rfl, by kernel_rfl⟩, ⟨⟨by kernel_rfl, by kernel_rfl, by kernel_rfl, by kernel_rfl⟩, ⟨⟨by kernel_rfl, by kernel_rfl, by kernel_rfl, by kernel_rfl⟩, ⟨⟨by kernel_rfl, by kernel_rfl, by kernel_rfl, by kernel_rfl⟩, ⟨⟨by kernel_rfl, by kernel_rfl, by kernel_rfl, by kernel_rfl⟩, ⟨⟨by kernel_rfl, by kernel_rfl, by kernel_rfl, by kernel_rfl⟩, ⟨⟨by kernel_rfl, by kernel_rfl, by kernel_rfl, by kernel_rfl⟩, ⟨⟨by kernel_rfl, by kernel_rfl, by kernel_rfl, by kernel_rfl⟩, ⟨⟨by kernel_rfl, by kernel_rfl, by kernel_rfl, by kernel_rfl⟩, ⟨⟨by kernel_rfl, by kernel_rfl, by kernel_rfl, by kernel_rfl⟩, ⟨⟨by kernel_rfl, by kernel_rfl, by kernel_rfl, by kernel_rfl⟩, ⟨⟨by kernel_rfl, by kernel_rfl, by kernel_rfl, by kernel_rfl⟩, ⟨⟨by kernel_rfl, by kernel_rfl, by kernel_rfl, by kernel_rfl⟩, ⟨⟨by kernel_rfl, by kernel_rfl, by kernel_rfl, by kernel_rfl⟩, ⟨⟨by kernel_rfl, by kernel_rfl, by kernel_rfl, by kernel_rfl⟩, ⟨⟨by kernel_rfl, by kernel_rfl, by kernel_rfl, by kernel_rfl⟩, ⟨⟨by kernel_rfl, by kernel_rfl, by kernel_rfl, by kernel_rfl⟩, ⟨⟨by kernel_rfl, by kernel_rfl, by kernel_rfl, by kernel_rfl⟩, ⟨⟨by kernel_rfl, by kernel_rfl, by kernel_rfl, by kernel_rfl⟩, ⟨⟨by kernel_rfl, by kernel_rfl, by kernel_rfl, by kernel_rfl⟩, ⟨⟨by kernel_rfl, by kernel_rfl, by kernel_rfl, by kernel_rfl⟩, ⟨⟨by kernel_rfl, by kernel_rfl, by kernel_rfl, by kernel_rfl⟩, ⟨⟨by kernel_rfl, by kernel_rfl, by kernel_rfl, by kernel_rfl⟩, ⟨⟨by kernel_rfl, by kernel_rfl, by kernel_rfl, by kernel_rfl⟩, ⟨⟨by kernel_rfl, by kernel_rfl, by kernel_rfl, by kernel_rfl⟩, ⟨⟨by kernel_rfl, by kernel_rfl, by kernel_rfl, by kernel_rfl⟩, ⟨⟨by kernel_rfl, by kernel_rfl, by kernel_rfl, by kernel_rfl⟩, ⟨⟨by kernel_rfl, by kernel_rfl, by kernel_rfl, by kernel_rfl⟩, ⟨⟨by kernel_rfl, by kernel_rfl, by kernel_rfl, by kernel_rfl⟩, ⟨⟨by kernel_rfl, by kernel_rfl, by kernel_rfl, by kernel_rfl⟩, ⟨⟨by kernel_rfl, by kernel_rfl, by kernel_rfl, by kernel_rfl⟩, ⟨⟨by kernel_rfl, by kernel_rfl, by kernel_rfl, by kernel_rfl⟩, ⟨⟨by kernel_rfl, by kernel_rfl, by kernel_rfl, by kernel_rfl⟩, ⟨⟨by kernel_rfl, by kernel_rfl, by kernel_rfl, by kernel_rfl⟩, ⟨⟨by kernel_rfl, by kernel_rfl, by kernel_rfl, by kernel_rfl⟩, ⟨⟨by kernel_rfl, by kernel_rfl, by kernel_rfl, by kernel_rfl⟩, ⟨⟨by kernel_rfl, by kernel_rfl, by kernel_rfl, by kernel_rfl⟩, ⟨⟨by kernel_rfl, by kernel_rfl, by kernel_rfl, by kernel_rfl⟩, ⟨⟨by kernel_rfl, by kernel_rfl, by kernel_rfl, by kernel_rfl⟩, ⟨⟨by kernel_rfl, by kernel_rfl, by kernel_rfl, by kernel_rfl⟩, ⟨⟨by kernel_rfl, by kernel_rfl, by kernel_rfl, by kernel_rfl⟩, ⟨⟨by kernel_rfl, by kernel_rfl, by kernel_rfl, by kernel_rfl⟩, ⟨⟨by kernel_rfl, by kernel_rfl, by kernel_rfl, by kernel_rfl⟩, ⟨⟨by kernel_rfl, by kernel_rfl, by kernel_rfl, by kernel_rfl⟩, ⟨⟨by kernel_rfl, by kernel_rfl, by kernel_rfl, by kernel_rfl⟩, ⟨⟨by kernel_rfl, by kernel_rfl, by kernel_rfl, by kernel_rfl⟩, ⟨⟨by kernel_rfl, by kernel_rfl, by kernel_rfl, by kernel_rfl⟩, ⟨⟨by kernel_rfl, by kernel_rfl, by kernel_rfl, by kernel_rfl⟩, ⟨⟨by kernel_rfl, by kernel_rfl, by kernel_rfl, by kernel_rfl⟩, ⟨⟨by kernel_rfl, by kernel_rfl, by kernel_rfl, by kernel_rfl⟩, ⟨⟨by kernel_rfl, by kernel_rfl, by kernel_rfl, by kernel_rfl⟩, ⟨⟨by kernel_rfl, by kernel_rfl, by kernel_rfl, by kernel_rfl⟩, ⟨⟨by kernel_rfl, by kernel_rfl, by kernel_rfl, by kernel_rfl⟩, ⟨⟨by kernel_rfl, by kernel_rfl, by kernel_rfl, by kernel_rfl⟩, ⟨⟨by kernel_rfl, by kernel_rfl, by kernel_rfl, by kernel_rfl⟩, ⟨⟨by kernel_rfl, by kernel_rfl, by kernel_rfl, by kernel_rfl⟩, ⟨⟨by kernel_rfl, by kernel_rfl, by kernel_rfl, by kernel_rfl⟩, ⟨⟨by kernel_rfl, by kernel_rfl, by kernel_rfl, by kernel_rfl⟩, ⟨⟨by kernel_rfl, by kernel_rfl, by kernel_rfl, by kernel_rfl⟩, ⟨⟨by kernel_rfl, by kernel_rfl, by kernel_rfl, by kernel_rfl⟩, ⟨⟨by kernel_rfl, by kernel_rfl, by kernel_rfl, by kernel_rfl⟩, ⟨⟨by kernel_rfl, by kernel_rfl, by kernel_rfl, by kernel_rfl⟩, ⟨⟨by kernel_rfl, by kernel_rfl, by kernel_rfl, by kernel_rfl⟩, ⟨⟨by kernel_rfl, by kernel_rfl, by kernel_rfl, by kernel_rfl⟩, ⟨⟨by kernel_rfl, by kernel_rfl, by kernel_rfl, by kernel_rfl⟩,  trivial⟩⟩⟩⟩⟩⟩⟩⟩⟩⟩⟩⟩⟩⟩⟩⟩⟩⟩⟩⟩⟩⟩⟩⟩⟩⟩⟩⟩⟩⟩⟩⟩⟩⟩⟩⟩⟩⟩⟩⟩⟩⟩⟩⟩⟩⟩⟩⟩⟩⟩⟩⟩⟩⟩⟩⟩⟩⟩⟩⟩⟩⟩⟩⟩⟩⟩⟩⟩⟩⟩⟩⟩⟩
theorem fnRows_ok : fnGood Tryz.prog fnRows = true := by kernel_rfl
def eqGood (P : Program) : List Nat → Bool
  | [] => true
  | t :: r => !(P.eqGuardType P.depth t) && !(P.stoodInHeld t) && ((P.fieldsOf t).toList.all fun f => f.name != "_") && eqGood P r
theorem eqL_ok {P : Program} {t : Nat} : ∀ (l : List Nat), eqGood P l = true → inL l t = true → P.eqGuardType P.depth t = false ∧ P.stoodInHeld t = false ∧ ((P.fieldsOf t).toList.all fun f => f.name != "_") = true
  | [], _, h => by cases h
  | k :: r, hl, h => by
    unfold inL at h
    simp only [eqGood, Bool.and_eq_true] at hl
    split at h
    · rename_i hk
      have := Nat.eq_of_beq_eq_true hk
      subst this
      obtain ⟨⟨⟨h1, h2⟩, h3⟩, _⟩ := hl
      exact ⟨by simpa using h1, by simpa using h2, h3⟩
    · exact eqL_ok r hl.2 h
theorem eqRows_ok : eqGood Tryz.prog eqRows = true := by kernel_rfl
def tb : Tab := ⟨look tyRows, inL fnRows, inL eqRows⟩
theorem tb_ok : TabOk Tryz.prog tb where
  und := fun t ti h => (look_ok tyRows tyRows_ok h).1
  info := fun t ti h => by
    have h2 := (look_ok tyRows tyRows_ok h).2.1
    cases hi : Tryz.prog.info? t with
    | none => rw [hi] at h2; cases h2
    | some i =>
      rw [hi] at h2
      simp only [Option.map_some, Option.some.injEq, Prod.mk.injEq] at h2
      cases hz : i.zero with
      | none => rw [hz] at h2; exact absurd h2.2.2 (by simp)
      | some z =>
        rw [hz] at h2
        simp only [Option.map_some, Option.some.injEq] at h2
        exact ⟨i, z, rfl, h2.1, h2.2.1, hz, h2.2.2⟩
  zl := fun t ti h => (look_ok tyRows tyRows_ok h).2.2.1
  places := fun t ti fs h hd => by
    have h4 := (look_ok tyRows tyRows_ok h).2.2.2
    rw [hd] at h4
    exact h4
  fns := fun f h => inL_ok fnRows fnRows_ok h
  mixed := by kernel_rfl
  eqs := fun t h => eqL_ok eqRows eqRows_ok h
end Go.Proofs.YtadjhkehfklmnaaGreatDoor
namespace Go.Proofs.YtadjhkehfklmnaaGreatDoor
set_option linter.unusedSimpArgs false
set_option linter.unusedVariables false
open Go.RowKit
def rowsN (n : Nat) (f : Nat → List Value) : List Value := (List.range n).flatMap f
theorem rowsN_succ (n : Nat) (f : Nat → List Value) : rowsN (n + 1) f = rowsN n f ++ f n := by simp [rowsN, List.range_succ]
theorem rowsN_length {f : Nat → List Value} {s : Nat} (hs : ∀ i, (f i).length = s) : ∀ n, (rowsN n f).length = n * s
  | 0 => by simp [rowsN]
  | n + 1 => by rw [rowsN_succ, List.length_append, rowsN_length hs n, hs, Nat.succ_mul]
theorem rowsN_get {f : Nat → List Value} {s : Nat} (hs : ∀ i, (f i).length = s) : ∀ (n i j : Nat), i < n → j < s → (rowsN n f)[i * s + j]? = (f i)[j]?
  | 0, i, j, hi, hj => by omega
  | n + 1, i, j, hi, hj => by
    rw [rowsN_succ, List.getElem?_append, rowsN_length hs]
    by_cases h : i < n
    · rw [if_pos (by have : i * s + s ≤ n * s := by rw [← Nat.succ_mul]; exact Nat.mul_le_mul_right _ h
                     omega), rowsN_get hs n i j h hj]
    · obtain rfl : i = n := by omega
      rw [if_neg (by omega)]
      congr 1
      omega
theorem rowsN_congr {f g : Nat → List Value} {n : Nat} (h : ∀ i, i < n → f i = g i) : rowsN n f = rowsN n g := by
  unfold rowsN
  rw [List.flatMap_def, List.flatMap_def]
  congr 1
  exact List.map_congr_left fun i hi => h i (by simpa using hi)
theorem rowsN_one (n : Nat) (f : Nat → Value) : rowsN n (fun i => [f i]) = (List.range n).map f := by
  unfold rowsN
  induction n with
  | zero => rfl
  | succ n ih => simp [List.range_succ, ih]
def UpTo (cs : List Value) (n s k : Nat) (f : Nat → List Value) : Prop := cs.length = n * s ∧ ∀ j, j < k * s → cs[j]? = (rowsN n f)[j]?
theorem UpTo.zero {cs : List Value} {n s : Nat} {f : Nat → List Value} (h : cs.length = n * s) : UpTo cs n s 0 f := ⟨h, fun j hj => by omega⟩
theorem UpTo.full {cs : List Value} {n s : Nat} {f : Nat → List Value} (hs : ∀ i, (f i).length = s) (h : UpTo cs n s n f) : cs = rowsN n f := by
  apply List.ext_getElem?
  intro j
  rcases Nat.lt_or_ge j (n * s) with hj | hj
  · exact h.2 j hj
  · rw [List.getElem?_eq_none (by rw [h.1]; exact hj), List.getElem?_eq_none (by rw [rowsN_length hs]; exact hj)]
theorem setRange_get : ∀ (vs : List Value) (cs : List Value) (off j : Nat), off + vs.length ≤ cs.length → (setRange cs off vs)[j]? = if off ≤ j ∧ j < off + vs.length then vs[j - off]? else cs[j]?
  | [], cs, off, j, _ => by
    rw [setRange, if_neg]
    simp only [List.length_nil]
    omega
  | v :: vs, cs, off, j, h => by
    rw [setRange, setRange_get vs (cs.set off v) (off + 1) j (by simp at h ⊢; omega)]
    simp only [List.length_cons] at h ⊢
    by_cases h1 : off + 1 ≤ j ∧ j < off + 1 + vs.length
    · rw [if_pos h1, if_pos (by omega)]
      rw [show j - off = (j - (off + 1)) + 1 by omega, List.getElem?_cons_succ]
    · rw [if_neg h1, List.getElem?_set]
      by_cases h2 : off = j
      · subst h2
        rw [if_pos rfl, if_pos (by omega), if_pos (by omega)]
        simp
      · rw [if_neg h2, if_neg (by omega)]
theorem UpTo.step {cs : List Value} {n s k : Nat} {f : Nat → List Value} (hs : ∀ i, (f i).length = s) (h : UpTo cs n s k f) (hk : k < n) : UpTo (setRange cs (k * s) (f k)) n s (k + 1) f := by
  have hb : k * s + (f k).length ≤ cs.length := by
    rw [h.1, hs, ← Nat.succ_mul]
    exact Nat.mul_le_mul_right _ hk
  refine ⟨by rw [setRange_length]; exact h.1, fun j hj => ?_⟩
  rw [setRange_get _ _ _ _ hb]
  split
  · rename_i hh
    rw [hs] at hh
    have e := rowsN_get hs n k (j - k * s) hk (by omega)
    rw [show k * s + (j - k * s) = j by omega] at e
    exact e.symm
  · rename_i hh
    rw [hs] at hh
    rw [Nat.succ_mul] at hj
    exact h.2 j (by omega)
def Seen (w : World) (A : Option Addr) (cs : List Value) : Prop := ∀ (j : Nat) u, cs[j]? = some u → ∃ b off, A = some ⟨b, off, none⟩ ∧ b < w.heap.size ∧ w.cell? ⟨b, off + j, none⟩ = some u
def Sees (w0 : Base) (own : List Own) (A : Option Addr) (cs : List Value) : Prop := ∀ w, Mem w0 own w → Seen w A cs
section
variable {w0 : Base} {w w' : World} {own : List Own} {A : Option Addr} {cs : List Value}
theorem Seen.below (h : Seen w A cs) (hb : Below w.heap.size w w') : Seen w' A cs := fun j u hj => by
  obtain ⟨b, off, e, hlt, hc⟩ := h j u hj
  exact ⟨b, off, e, Nat.lt_of_lt_of_le hlt hb.size, (hb.cell (p := ⟨b, off + j, none⟩) hlt).trans hc⟩
theorem Seen.nil : Seen w A [] := fun j u h => by simp at h
theorem Sees.old {w1 : World} (h : Seen w1 A cs) : Sees (Base.of w1) own A cs := fun w m => h.below m.keeps.below
theorem Sees.blk (k : Nat) {g : Nat} {ty : TypeId} (hk : own[k]? = some (.blk g ty cs)) : Sees w0 own (some ⟨g, 0, none⟩) cs := fun w m j u hj => by
  have h := (m.ok k _ hk).2
  refine ⟨g, 0, rfl, (Array.getElem?_eq_some_iff.1 h).1, ?_⟩
  rw [cell_of_row w g _ _ _ _ h]
  simpa using hj
theorem Sees.row (k : Nat) {n c : Nat} {ty : TypeId} {size n' : Nat} (hk : own[k]? = some (.row (.slice A n c) ty size n' cs)) : Sees w0 own A cs := fun w m j u hj => by
  have h := (m.ok k _ hk).2
  rcases h.2 with ⟨_, h0⟩ | ⟨g, cap, cur, e, _, hg, _⟩
  · have := h.1
    subst h0
    rw [Nat.zero_mul] at this
    have : cs = [] := List.eq_nil_of_length_eq_zero this
    subst this
    simp at hj
  · injection e with e1
    subst e1
    have hc := h.cells (g := g) rfl j u hj
    rw [show (⟨g, 0, none⟩ : Addr).add j = ⟨g, 0 + j, none⟩ from by unfold Addr.add; split <;> simp_all] at hc
    exact ⟨g, 0, rfl, (Array.getElem?_eq_some_iff.1 hg).1, hc⟩
theorem Sees.nil : Sees w0 own A [] := fun _ _ => Seen.nil
theorem Seen.addr {j : Nat} {u : Value} (h : Seen w A cs) (hj : cs[j]? = some u) : ∃ b off, A = some ⟨b, off, none⟩ ∧ b < w.heap.size := by
  obtain ⟨b, off, e, hb, _⟩ := h j u hj
  exact ⟨b, off, e, hb⟩
theorem Seen.cell {b off j : Nat} {u : Value} (h : Seen w (some ⟨b, off, none⟩) cs) (hj : cs[j]? = some u) : w.cell? ⟨b, off + j, none⟩ = some u := by
  obtain ⟨b', off', e, _, hc⟩ := h j u hj
  cases e
  exact hc
def RetV {ι : Type} (I : ι → Prop) (val : ι → Value) (news : ι → List Own) (w0 : Base) (v : Value) (w' : World) : Prop := ∃ i, I i ∧ v = val i ∧ Mem w0 (news i) w'
def appK {α : Type} : List α → List α → (List α → Prop) → Prop
  | [], ys, K => spineK ys K
  | x :: xs, ys, K => appK xs ys fun l => K (x :: l)
theorem appK.out {α : Type} : ∀ {xs ys : List α} {K : List α → Prop}, appK xs ys K → K (xs ++ ys)
  | [], _, _, h => spineK.out h
  | x :: xs, ys, K, h => appK.out (K := fun l => K (x :: l)) h
theorem Mem.app {news : List Own} (m : Mem w0 own w) (m' : Mem (Base.of w) news w') : Mem w0 (own ++ news) w' := by
  have hb := m'.keeps.below
  have m1 := m.grow hb
  have fresh : ∀ (k : Nat) o g, news[k]? = some o → o.block = some g → w.heap.size ≤ g := fun k o g hk hg => by
    rcases ((m'.ok k o hk).lt g hg).1 with h | h
    · exact h
    · exact h.elim
  have old : ∀ (k : Nat) o g, own[k]? = some o → o.block = some g → g < w.heap.size := fun k o g hk hg => ((m.ok k o hk).lt g hg).2
  refine ⟨⟨m1.keeps, fun k o hk => ?_⟩, fun k k' o o' g hne h1 h2 hg hg2 => ?_⟩
  · rw [List.getElem?_append] at hk
    split at hk
    · exact m1.ok k o hk
    · have h := m'.ok _ o hk
      cases o with
      | blk g ty cs => exact ⟨.inl (Nat.le_trans m.ge (fresh _ _ g hk rfl)), h.2⟩
      | row v ty size n xs => exact ⟨fun g hg => .inl (Nat.le_trans m.ge (fresh _ _ g hk hg)), h.2⟩
      | txt g ty cs => exact ⟨.inl (Nat.le_trans m.ge (fresh _ _ g hk rfl)), h.2⟩
      | gone => trivial
  · rw [List.getElem?_append] at h1 h2
    split at h1
    · split at h2
      · exact m.sep k k' o o' g hne h1 h2 hg hg2
      · have := old k o g h1 hg
        have := fresh _ o' g h2 hg2
        omega
    · split at h2
      · have := old k' o' g h2 hg2
        have := fresh _ o g h1 hg
        omega
      · exact m'.sep _ _ o o' g (by omega) h1 h2 hg hg2
theorem VCall.ret {P : Program} {f : FuncId} {args : List Value} {K : Value → List Own → Prop} {ι : Type} {I : ι → Prop} {val : ι → Value} {news : ι → List Own}
    (h : ∀ w, Mem w0 own w → Calls P f args.toArray w fun e w' => ∃ v, e = .returned v ∧ RetV I val news (Base.of w) v w') (k : ∀ i, I i → appK own (news i) fun own => splitB (val i) fun v => K v own) : VCall P w0 own f args K :=
  .gen I val (fun i => own ++ news i) (fun w m => (h w m).mono fun e w' ⟨v, he, i, hi, hv, m'⟩ => ⟨i, hi, by rw [he, hv], m.app m'⟩) (fun i hi => (k i hi).out)
theorem VRet.sel {ι : Type} {I : ι → Prop} {val : ι → Value} {news : ι → List Own} {v : Value} (i : ι) (hi : I i) (hv : v = val i) (ks : List Nat) (hn : ks.Nodup) (h : news i = ks.map fun k => own.getD k .gone) : VRet w0 own (RetV I val news w0) v :=
  ⟨fun w m => ⟨i, hi, hv, by rw [h]; exact m.sel hn⟩⟩
theorem VRet.rowOf {ι : Type} {I : ι → Prop} {val : ι → Value} {news : ι → List Own} {v : Value} (i : ι) (hi : I i) (hv : v = val i) (k : Nat) {g n : Nat} {ty : TypeId} {size : Nat} (hk : own[k]? = some (.blk g ty cs)) (hl : cs.length = n * size) (hn : n ≤ maxLen)
    (h : news i = [.row (.slice (some ⟨g, 0, none⟩) n n) ty size n cs]) : VRet w0 own (RetV I val news w0) v :=
  ⟨fun w m => ⟨i, hi, hv, by
    rw [h]
    have m1 := m.turnRow hk hl hn
    have m2 := m1.sel (ks := [k]) (by simp)
    have : (own.set k (.row (.slice (some ⟨g, 0, none⟩) n n) ty size n cs)).getD k .gone = .row (.slice (some ⟨g, 0, none⟩) n n) ty size n cs := by
      rw [List.getD_eq_getElem?_getD, get_set hk]
      rfl
    simp only [List.map_cons, List.map_nil, this] at m2
    exact m2⟩⟩
end
end Go.Proofs.YtadjhkehfklmnaaGreatDoor
namespace Go.Proofs.YtadjhkehfklmnaaGreatDoor
set_option linter.unusedSimpArgs false
set_option linter.unusedVariables false
open Go.RowKit
def RowAt (w : World) (b o : Nat) (vs : List Value) : Prop := b < w.heap.size ∧ ∀ (j : Nat) u, vs[j]? = some u → w.cell? ⟨b, o + j, none⟩ = some u
section
variable {w w' : World} {w0 : Base} {own : List Own} {g off n : Nat}
theorem Rds.of {vs : List Value} : ∀ (off : Nat), (∀ (j : Nat) u, vs[j]? = some u → Rd w0 own g (off + j) u) → Rds w0 own g off vs := by
  induction vs with
  | nil => exact fun _ _ => trivial
  | cons v vs ih =>
    intro off h
    exact ⟨h 0 v rfl, ih (off + 1) fun j u hj => by
      have := h (j + 1) u (by simpa using hj)
      rwa [show off + 1 + j = off + (j + 1) by omega]⟩
theorem VLoadN.at_ {vs : List Value} {K : Value → Prop} (h : RowAt w g off vs) (hl : vs.length = n) (k : K (.agg vs.toArray)) : VLoadN (Base.of w) own g off n K :=
  .mk vs hl (Rds.of off fun j u hj => Rd.old h.1 (fun x => x) (h.2 j u hj)) k
theorem VLoadN.row {vs : List Value} {K : Value → Prop} (k : Nat) {n' c : Nat} {ty : TypeId} {size m : Nat} {xs : List Value} (hk : own[k]? = some (.row (.slice (some ⟨g, 0, none⟩) n' c) ty size m xs)) (hl : vs.length = n) (h : ∀ (j : Nat) u, vs[j]? = some u → xs[off + j]? = some u) (kk : K (.agg vs.toArray)) : VLoadN w0 own g off n K :=
  .mk vs hl (Rds.of off fun j u hj => Rd.row k hk (h j u hj)) kk
theorem VLoadN.arr {vs : List Value} {K : Value → Prop} (k : Nat) {ty : TypeId} {cs : List Value} (hk : own[k]? = some (.blk g ty cs)) (hl : vs.length = n) (h : ∀ (j : Nat) u, vs[j]? = some u → cs[off + j]? = some u) (kk : K (.agg vs.toArray)) : VLoadN w0 own g off n K :=
  .mk vs hl (Rds.of off fun j u hj => Rd.own k hk (h j u hj)) kk
theorem VStore.arrAt {vs : List Value} {K : List Own → Prop} (k o : Nat) (e : off = o) {ty : TypeId} {cs : List Value} (hk : own[k]? = some (.blk g ty cs)) (hn : vs.length = n) (hl : o + vs.length ≤ cs.length) (h1 : vs.all (·.oneCell') = true) (c : setK own k (.blk g ty (setRange cs o vs)) K) : VStore own g off n vs K := by
  subst e
  exact .arr k hk hn hl h1 c
theorem VStore.rowAt {vs : List Value} {K : List Own → Prop} (k o : Nat) (e : off = o) {n' c' : Nat} {ty : TypeId} {size m : Nat} {xs : List Value} (hk : own[k]? = some (.row (.slice (some ⟨g, 0, none⟩) n' c') ty size m xs)) (hn : vs.length = n) (hl : o + vs.length ≤ xs.length) (h1 : vs.all (·.oneCell') = true)
      (c : setK own k (.row (.slice (some ⟨g, 0, none⟩) n' c') ty size m (setRange xs o vs)) K) : VStore own g off n vs K := by
  subst e
  exact .row k hk hn hl h1 c
theorem Seen.rowAt {A : Option Addr} {n s : Nat} {f : Nat → List Value} (hs : ∀ i, (f i).length = s) (hp : 0 < s) (h : Seen w A (rowsN n f)) {i : Nat} (hi : i < n) : ∃ b off, A = some ⟨b, off, none⟩ ∧ RowAt w b (off + i * s) (f i) := by
  have g0 : ∀ j, j < s → (rowsN n f)[i * s + j]? = (f i)[j]? := fun j hj => rowsN_get hs n i j hi hj
  have h1 := g0 0 hp
  have h2 : (f i)[0]? = some ((f i)[0]'(by rw [hs]; exact hp)) := List.getElem?_eq_getElem _
  obtain ⟨b, off, rfl, hb, _⟩ := h _ _ (h1.trans h2)
  refine ⟨b, off, rfl, hb, fun j u hj => ?_⟩
  have hjs : j < s := by
    rcases Nat.lt_or_ge j s with h2 | h2
    · exact h2
    · rw [List.getElem?_eq_none (by rw [hs]; exact h2)] at hj; cases hj
  have := h.cell (off := off) (b := b) ((g0 j hjs).trans hj)
  rwa [show off + i * s + j = off + (i * s + j) by omega]
theorem Seen.congr {A : Option Addr} {cs cs' : List Value} (h : Seen w A cs) (e : cs = cs') : Seen w A cs' := e ▸ h
theorem zerosL_length (zero : List Value) (n : Nat) : (zerosL zero n).length = n := by
  unfold zerosL
  simp [size_madeCells]
theorem Seen.ofRows {A : Option Addr} {n s : Nat} {f : Nat → List Value} (hs : ∀ i, (f i).length = s) (h : ∀ i, i < n → ∃ b off, A = some ⟨b, off, none⟩ ∧ RowAt w b (off + i * s) (f i)) : Seen w A (rowsN n f) := fun j u hj => by
  have hl : j < n * s := by
    rcases Nat.lt_or_ge j (n * s) with h2 | h2
    · exact h2
    · rw [List.getElem?_eq_none (by rw [rowsN_length hs]; exact h2)] at hj; cases hj
  have hs0 : 0 < s := by
    rcases Nat.eq_zero_or_pos s with e | e
    · subst e; omega
    · exact e
  have hq : j / s < n := Nat.div_lt_of_lt_mul (by rwa [Nat.mul_comm])
  have hm := Nat.mod_lt j hs0
  have hdm : j / s * s + j % s = j := by rw [Nat.mul_comm]; exact Nat.div_add_mod j s
  obtain ⟨b, off, e, hb, hr⟩ := h (j / s) hq
  have := rowsN_get hs n (j / s) (j % s) hq hm
  rw [hdm] at this
  refine ⟨b, off, e, hb, ?_⟩
  have h3 := hr (j % s) u (this.symm.trans hj)
  rwa [show off + j / s * s + j % s = off + j by omega] at h3
theorem some_of_vc {P : Program} {ι : Type} {I : ι → Prop} {val : ι → Value} {w1 : World} {f : FuncId} {args : Array Value} (h : Calls P f args w1 fun e w' => ∃ u, e = .returned u ∧ (∃ i, I i ∧ u = val i ∧ Below w1.heap.size w1 w')) : Calls P f args w1 fun e w' => ∃ i, I i ∧ Post (val i) w1 e w' :=
  h.mono fun e w' ⟨u, he, i, hi, hu, hb⟩ => ⟨i, hi, by rw [he, hu], hb⟩
theorem Seen.at1 {A : Option Addr} {n : Nat} {f : Nat → Value} (h : Seen w A (rowsN n fun i => [f i])) {i : Nat} (hi : i < n) : ∃ b off, A = some ⟨b, off, none⟩ ∧ b < w.heap.size ∧ w.cell? ⟨b, off + i, none⟩ = some (f i) := by
  obtain ⟨b, off, e, hb, hr⟩ := h.rowAt (s := 1) (fun _ => rfl) (by omega) hi
  have := hr 0 _ rfl
  exact ⟨b, off, e, hb, by simpa using this⟩
end
inductive At (o : Own) : Nat → List Own → Prop
  | here {r : List Own} : At o 0 (o :: r)
  | there {k : Nat} {x : Own} {r : List Own} (h : At o k r) : At o (k + 1) (x :: r)
theorem At.get {o : Own} : ∀ {k : Nat} {own : List Own}, At o k own → own[k]? = some o
  | _, _, .here => rfl
  | _, _, .there h => h.get
inductive Has (g off : Nat) (v : Value) : List Own → Prop
  | here {ty : TypeId} {cs : List Value} {r : List Own} (h : cs[off]? = some v) : Has g off v (.blk g ty cs :: r)
  | row {n' c : Nat} {ty : TypeId} {size n : Nat} {xs : List Value} {r : List Own} (h : xs[off]? = some v) : Has g off v (.row (.slice (some ⟨g, 0, none⟩) n' c) ty size n xs :: r)
  | there {o : Own} {r : List Own} (h : Has g off v r) : Has g off v (o :: r)
inductive VStoreAt (own : List Own) (g off n : Nat) (vs : List Value) (k : Nat) (ty : TypeId) (cs : List Value) (K : List Own → Prop) : Prop
  | mk {c0 : Value} {cr : List Value} (hc : cs = c0 :: cr) (hn : vs.length = n) (hl : off + vs.length ≤ cs.length) (h1 : vs.all (·.oneCell') = true) (c : forceL (setRange cs off vs) fun cs => setK own k (.blk g ty cs) K) : VStoreAt own g off n vs k ty cs K
inductive VIdxR (A : Option Addr) (n sz : Nat) (i : Int) (K : Value → Prop) : Prop
  | mk (m : Nat) (hi : i = (m : Int)) (hm : m < n) (k : ∀ g, A = some ⟨g, 0, none⟩ → K (.pointer (some ⟨g, mulS m sz, none⟩))) : VIdxR A n sz i K
section
variable {w : World} {w0 : Base} {own : List Own} {g off n : Nat}
theorem Has.rd {v : Value} (h : Has g off v own) : Rd w0 own g off v := by
  have : ∀ {os : List Own} (pre : List Own), own = pre ++ os → Has g off v os → Rd w0 own g off v := by
    intro os pre e h
    induction h generalizing pre with
    | @here ty cs r h => exact Rd.own (ty := ty) (cs := cs) pre.length (by rw [e]; simp) h
    | @row n' c ty size n xs r h => exact Rd.row (n' := n') (c := c) (ty := ty) (size := size) (n := n) (xs := xs) pre.length (by rw [e]; simp) h
    | @there o r h ih => exact ih (pre ++ [o]) (by rw [e]; simp)
  exact this [] rfl h
theorem VLoad1.any {K : Value → Prop} {v : Value} (h : Has g off v own) (k : splitB v K) : VLoad1 w0 own g off K := .mk v h.rd k
theorem VLoadN.any {K : Value → Prop} {k : Nat} {ty : TypeId} {cs : List Value} (h : At (.blk g ty cs) k own) (hl : off + n ≤ cs.length) (kk : K (.agg ((cs.drop off).take n).toArray)) : VLoadN w0 own g off n K := .own k h.get hl kk
theorem VStore.any {K : List Own → Prop} {vs : List Value} {k : Nat} {ty : TypeId} {cs : List Value} (h : At (.blk g ty cs) k own) (kk : VStoreAt own g off n vs k ty cs K) : VStore own g off n vs K := by
  obtain ⟨hc, hn, hl, h1, c⟩ := kk
  exact .blk k h.get hc hn hl h1 c
theorem VIdx.any {K : Value → Prop} {A : Option Addr} {n c sz : Nat} {i : Int} {k : Nat} {ty : TypeId} {size n' : Nat} {xs : List Value} (h : At (.row (.slice A n c) ty size n' xs) k own) (kk : VIdxR A n sz i K) : VIdx own A n c sz i K := by
  obtain ⟨m, hi, hm, k'⟩ := kk
  exact .row k h.get m hi hm k'
theorem Sees.any {A : Option Addr} {cs : List Value} {k n c : Nat} {ty : TypeId} {size n' : Nat} (m : Mem w0 own w) (h : At (.row (.slice A n c) ty size n' cs) k own) : Seen w A cs := Sees.row k h.get w m
end
theorem VIf.yes {p X Y : Prop} (h : p) (k : p → X) : VIf p X Y := .mk k fun n => absurd h n
theorem VIf.no {p X Y : Prop} (h : ¬ p) (k : ¬ p → Y) : VIf p X Y := .mk (fun y => absurd y h) k
theorem VIf.both {p X Y : Prop} (k : (p → X) ∧ (¬ p → Y)) : VIf p X Y := .mk k.1 k.2
theorem VLoad1.anyK {w0 : Base} {own : List Own} {g off : Nat} {K : Value → Prop} {v : Value} (h : Has g off v own) (k : splitB v K) : VLoad1 w0 own g off K := .mk v h.rd k
theorem VStore.go {own : List Own} {g off n : Nat} {K : List Own → Prop} {vs : List Value} {k : Nat} {ty : TypeId} {cs : List Value} {c0 : Value} {cr : List Value} (h : At (.blk g ty cs) k own) (hc : cs = c0 :: cr) (hn : vs.length = n) (hl : off + vs.length ≤ cs.length) (h1 : vs.all (·.oneCell') = true) (c : forceL (setRange cs off vs) fun cs => setK own k (.blk g ty cs) K) : VStore own g off n vs K := .blk k h.get hc hn hl h1 c
inductive VSome (A : Option Addr) (K : Nat → Prop) : Prop
  | mk (k : ∀ g, A = some ⟨g, 0, none⟩ → K g) : VSome A K
theorem VIdx.go {own : List Own} {K : Value → Prop} {A : Option Addr} {n c sz : Nat} {i : Int} {k : Nat} {ty : TypeId} {size n' : Nat} {xs : List Value} {m : Nat} (h : At (.row (.slice A n c) ty size n' xs) k own) (hi : i = (m : Int)) (hm : m < n) (q : VSome A fun g => K (.pointer (some ⟨g, mulS m sz, none⟩))) : VIdx own A n c sz i K := by
  obtain ⟨q⟩ := q
  exact .row k h.get m hi hm q
theorem and_true_go {p : Prop} (k : p) : p ∧ True := ⟨k, trivial⟩
theorem seenA {w : World} {A : Option Addr} {cs : List Value} (h : Seen w A cs := by first | exact Sees.old (by assumption) _ (by assumption) | exact Sees.any (by assumption) (by repeat (first | exact At.here | apply At.there)) | exact Sees.nil _ (by assumption)) : Seen w A cs := h
theorem fndA {o : Own} {k : Nat} {own : List Own} (h : At o k own := by (repeat (first | exact At.here | apply At.there)); done) : At o k own := h
theorem go {P Q : Prop} (k : Q) (h : Q → P := by first | (show _ → VIf _ _ _; first | exact VIf.yes rfl | exact VIf.no (fun h => Bool.noConfusion h) | exact VIf.yes (by assumption) | exact VIf.no (by assumption) | exact VIf.yes (by omega) | exact VIf.no (by omega) | exact VIf.both) | (show _ → VIn _ _; exact VIn.mk (by omega) (by omega)) | (show _ → VLoad1 _ _ _ _ _; first | exact VLoad1.anyK (by repeat (first | exact Has.here rfl | exact Has.row (by assumption) | apply Has.there)) | exact VLoad1.mk _ (Rd.old (by assumption) (fun h => h) (by assumption))) | (show _ → VLoadN _ _ _ _ _ _; first | exact VLoadN.at_ (by assumption) rfl | exact VLoadN.any (by repeat (first | exact At.here | apply At.there)) (by exact Nat.le_of_ble_eq_true rfl)) | (show _ → VStore _ _ _ _ _ _; exact VStore.go (by repeat (first | exact At.here | apply At.there)) (by exact rfl) (by exact rfl) (by exact Nat.le_of_ble_eq_true rfl) (by exact rfl)) | (show _ → VIdx _ _ _ _ _ _ _; first | exact VIdx.go (by repeat (first | exact At.here | apply At.there)) (by first | exact rfl | assumption) (by omega) | exact VIdx.at_ rfl _ rfl (by omega) | exact VIdx.at_ rfl _ (by assumption) (by omega) | exact VIdx.at_ rfl 0 rfl (by omega)) | (show _ → VQuo _ _ _; exact VQuo.nn (by omega) (by omega) (by omega)) | (show _ → VRem _ _ _; exact VRem.nn (by omega) (by omega)) | (show _ → VStrIx _ _ _; first | exact VStrIx.mk _ rfl (by omega) | exact VStrIx.mk _ (by assumption) (by omega)) | (show _ → VU64 _ _; exact VU64.mk) | (show _ → VAnd64 _ _; exact VAnd64.mk (by omega)) | (show _ → VShr64 _ _ _; exact VShr64.mk (by omega) (by omega)) | (show _ → VCat _ _ _; exact VCat.mk (by omega)) | (show _ → VKeep _ _; exact VKeep.mk rfl) | (show _ → VDone _ _; exact VDone.same) | (show _ → _ ∧ True; exact and_true_go)) : P := h k
end Go.Proofs.YtadjhkehfklmnaaGreatDoor
