/-
  Texts joined: how the calls that the law reaches are walked, and the plain laws behind them.
  Conditions: none beyond each statement's own premises.
-/
import Derived.Test.YtadjhkehfklmnaaGreatDoorMe02
import Derived.Test.YtadjhkehfklmnaaGreatDoorProg
namespace Go.Proofs.YtadjhkehfklmnaaGreatDoor
set_option linter.unusedSimpArgs false
set_option linter.unusedVariables false
open Go.RowKit

def gv (ops : List Oper) (fr : List Value) (j : Nat) : Option Bool :=
  match ops[j]? with
  | none => none
  | some o => match o.dst with
    | none => none
    | some d => match fr[d]? with
      | some (.bool b) => some b
      | _ => none
def wantO (g : Option (Nat × Bool)) (ops : List Oper) (fr : List Value) : Option Bool :=
  match g with
  | none => some true
  | some (j, wt) => match gv ops fr j, wt with
    | none, _ => some false
    | some true, true => some true
    | some false, false => some true
    | some true, false => some false
    | some false, true => some false
def setO (fr : List Value) (dst : Option Tmp) (v : Value) : List Value :=
  match dst with
  | some d => fr.set d v
  | none => fr
def putK (fr : List Value) (dst : Option Tmp) (v : Value) (K : List Value → Prop) : Prop :=
  match dst with
  | some d => force v fun v => setK fr d v K
  | none => K fr
theorem putK.out {fr : List Value} {dst : Option Tmp} {v : Value} {K : List Value → Prop} (h : putK fr dst v K) : K (setO fr dst v) := by
  unfold putK at h
  cases dst with
  | none => exact h
  | some d => exact h.out.out
def vOp (P : Program) (T : Tab) (w0 : Base) (o : Oper) (fr : List Value) (own : List Own) (K : Value → List Own → Prop) : Prop :=
  match isEff o.op || isConv T o.op with
  | true => vEff P T w0 own (evF fr) o.op K
  | false => vCalm T w0 own (evF fr) o.op fun v => K v own
/-- One operation, and what follows it. The recursions here are written with the recursor itself: so the kernel meets the same terms as the elaborator. -/
def opStep (P : Program) (T : Tab) (w0 : Base) (ops : List Oper) (o : Oper) (S : St) (ih : St → Prop) : Prop :=
  match S with
  | ⟨fr, own⟩ => match wantO o.guard ops fr with
    | some true => vOp P T w0 o fr own fun v own => putK fr o.dst v fun fr => ih ⟨fr, own⟩
    | some false => putK fr o.dst undef fun fr => ih ⟨fr, own⟩
    | none => False
noncomputable def vcOps (P : Program) (T : Tab) (w0 : Base) (ops : List Oper) (K : St → Prop) (l : List Oper) : St → Prop :=
  List.rec (motive := fun _ => St → Prop) (fun S => K S) (fun o _ ih S => opStep P T w0 ops o S ih) l
theorem vcOps_cons {P : Program} {T : Tab} {w0 : Base} {ops : List Oper} {K : St → Prop} {o : Oper} {rest : List Oper} {fr : List Value} {own : List Own} : vcOps P T w0 ops K (o :: rest) ⟨fr, own⟩ = (match wantO o.guard ops fr with
    | some true => vOp P T w0 o fr own fun v own => putK fr o.dst v fun fr => vcOps P T w0 ops K rest ⟨fr, own⟩
    | some false => putK fr o.dst undef fun fr => vcOps P T w0 ops K rest ⟨fr, own⟩
    | none => False) := rfl
/-! ### Regions that draw their order -/
inductive Plan where
  | done
  | take (i : Nat) (p : Plan)
  | br (i : Nat) (p q : Plan)
def Plan.isTake : Plan → Bool
  | .take _ _ => true
  | _ => false
def Plan.ok (ops : Array Oper) : Plan → Nat → Array Bool → List Nat → Bool
  | .done, _, _, rs => rs.isEmpty
  | .take _ _, 0, _, _ => false
  | .take i p, f + 1, l, rs => rs.contains i && Region.free .any ops l i && p.ok ops f (l.setIfInBounds i true) (Region.ready .any ops (l.setIfInBounds i true))
  | .br _ _ _, 0, _, _ => false
  | .br i p q, f + 1, l, rs => match rs with
    | [] => false
    | r :: rs' => Nat.beq r i && p.ok ops f (l.setIfInBounds i true) (Region.ready .any ops (l.setIfInBounds i true)) && q.ok ops (f + 1) l rs' && !q.isTake
inductive VKeep (p K : Prop) : Prop
  | mk (h : p) (k : K) : VKeep p K
inductive VDone (K : St → Prop) (S : St) : Prop
  | same (k : K S) : VDone K S
  | order (ks : List Nat) (hn : ks.Nodup) (own' : List Own) (h : own' = ks.map fun k => S.own.getD k .gone) (k : K ⟨S.fr, own'⟩) : VDone K S
def fixOf (fix : List Nat) (own : List Own) : List Own := fix.map fun k => own.getD k .gone
def doneStep (K : St → Prop) (b : Bool) (S : St) : Prop :=
  match b with
  | true => VDone K S
  | false => True
def takeStep (P : Program) (T : Tab) (w0 : Base) (ops : List Oper) (F : List Own) (i : Nat) (S : St) (ih : Bool → St → Prop) : Prop :=
  match S with
  | ⟨fr, own⟩ => match ops[i]? with
    | none => False
    | some o => match wantO o.guard ops fr with
      | some true => vCalm T w0 F (evF fr) o.op fun v => putK fr o.dst v fun fr => ih true ⟨fr, own⟩
      | some false => putK fr o.dst undef fun fr => ih true ⟨fr, own⟩
      | none => False
def brStep (P : Program) (T : Tab) (w0 : Base) (ops : List Oper) (fix : List Nat) (F : List Own) (i : Nat) (S : St) (ih : Bool → St → Prop) : Prop :=
  match S with
  | ⟨fr, own⟩ => match ops[i]? with
    | none => False
    | some o => match wantO o.guard ops fr with
      | some true => vOp P T w0 o fr own fun v own => VKeep (fixOf fix own = F) (putK fr o.dst v fun fr => ih true ⟨fr, own⟩)
      | some false => putK fr o.dst undef fun fr => ih true ⟨fr, own⟩
      | none => False
noncomputable def vcPlan (P : Program) (T : Tab) (w0 : Base) (ops : List Oper) (fix : List Nat) (F : List Own) (K : St → Prop) (p : Plan) : Bool → St → Prop :=
  Plan.rec (motive := fun _ => Bool → St → Prop) (fun b S => doneStep K b S) (fun i _ ih _ S => takeStep P T w0 ops F i S ih) (fun i _ _ ihp ihq _ S => brStep P T w0 ops fix F i S ihp ∧ ihq false S) p
theorem vcPlan_take {P : Program} {T : Tab} {w0 : Base} {ops : List Oper} {fix : List Nat} {F : List Own} {K : St → Prop} {i : Nat} {p : Plan} {b : Bool} {fr : List Value} {own : List Own} : vcPlan P T w0 ops fix F K (.take i p) b ⟨fr, own⟩ = (match ops[i]? with
    | none => False
    | some o => match wantO o.guard ops fr with
      | some true => vCalm T w0 F (evF fr) o.op fun v => putK fr o.dst v fun fr => vcPlan P T w0 ops fix F K p true ⟨fr, own⟩
      | some false => putK fr o.dst undef fun fr => vcPlan P T w0 ops fix F K p true ⟨fr, own⟩
      | none => False) := rfl
theorem vcPlan_br {P : Program} {T : Tab} {w0 : Base} {ops : List Oper} {fix : List Nat} {F : List Own} {K : St → Prop} {i : Nat} {p q : Plan} {b : Bool} {fr : List Value} {own : List Own} : vcPlan P T w0 ops fix F K (.br i p q) b ⟨fr, own⟩ = ((match ops[i]? with
    | none => False
    | some o => match wantO o.guard ops fr with
      | some true => vOp P T w0 o fr own fun v own => VKeep (fixOf fix own = F) (putK fr o.dst v fun fr => vcPlan P T w0 ops fix F K p true ⟨fr, own⟩)
      | some false => putK fr o.dst undef fun fr => vcPlan P T w0 ops fix F K p true ⟨fr, own⟩
      | none => False) ∧ vcPlan P T w0 ops fix F K q false ⟨fr, own⟩) := rfl
inductive VDraw (P : Program) (T : Tab) (w0 : Base) (ops : Array Oper) (K : St → Prop) (S : St) : Prop
  | mk (p : Plan) (fix : List Nat) (hs : Region.noSelect ops = true) (hok : p.ok ops ops.size (Array.replicate ops.size false) (Region.ready .any ops (Array.replicate ops.size false)) = true)
      (h : vcPlan P T w0 ops.toList fix (fixOf fix S.own) K p true S) : VDraw P T w0 ops K S
section
variable {P : Program} {T : Tab} {w0 : Base}
theorem yielded_eq (ops : List Oper) (fr : List Value) (j : Nat) : yielded ops.toArray fr.toArray j = gv ops fr j := by
  unfold yielded gv
  cases h : ops[j]? with
  | none => simp [h]
  | some o =>
    cases hd : o.dst with
    | none => simp [h, hd]
    | some d =>
      simp only [List.getElem?_toArray, h, Option.bind_some, hd]
      rfl
theorem wanted_eq {o : Oper} {ops : List Oper} {fr : List Value} {b : Bool} (h : wantO o.guard ops fr = some b) : Region.wanted o (yielded ops.toArray fr.toArray) = b := by
  unfold wantO at h
  unfold Region.wanted
  split at h
  · rename_i hg
    cases h
    simp [hg]
  · rename_i j wt hg
    simp only [hg, yielded_eq]
    split at h <;> first | (cases h; done) | (cases h; simp_all)
theorem put_eq (fr : List Value) (dst : Option Tmp) (v : Value) : (⟨fr.toArray, []⟩ : Act).put dst v = ⟨(setO fr dst v).toArray, []⟩ := by
  cases dst <;> simp [Act.put, setO]
theorem vOp.sound (hT : TabOk P T) {o : Oper} {S : St} {K : Value → List Own → Prop} {w : World} {Q : Exit → Act → World → Prop} (h : vOp P T w0 o S.fr S.own K) (m : Mem w0 S.own w) : o.wp P ⟨S.fr.toArray, []⟩ w (Left w0 S.fr o.dst K) Q := by
  unfold vOp at h
  split at h
  · exact vEff.sound hT h m
  · obtain ⟨v, k, e⟩ := vCalm.sound hT w m.toMemR h
    refine wp_value (v := v) (w' := w) ?_ ⟨v, _, k, rfl, m⟩
    rw [evF_eq]
    exact e w m.toMemR
theorem vcOps.sound (hT : TabOk P T) {ops : List Oper} {K : St → Prop} {Q : Exit → Act → World → Prop} (hK : ∀ S w, K S → Mem w0 S.own w → Q .normal ⟨S.fr.toArray, []⟩ w) :
    ∀ (l : List Oper) (S : St) (w : World), vcOps P T w0 ops K l S → Mem w0 S.own w → wpList P ops.toArray Q l ⟨S.fr.toArray, []⟩ w
  | [], S, w, h, m => hK S w h m
  | o :: rest, ⟨fr, own⟩, w, h, m => by
    rw [vcOps_cons] at h
    unfold wpList
    split at h
    · rename_i hw
      rw [if_pos (wanted_eq hw)]
      refine .inl (Oper.wp_mono (fun a' w' hl => ?_) (vOp.sound (S := ⟨fr, own⟩) hT h m))
      obtain ⟨v, own', k, rfl, m'⟩ := hl
      rw [put_eq]
      exact vcOps.sound hT hK rest ⟨_, own'⟩ w' k.out m'
    · rename_i hw
      rw [if_neg (by rw [wanted_eq hw]; decide)]
      rw [put_eq]
      exact vcOps.sound hT hK rest ⟨_, own⟩ w h.out m
    · exact h.elim
def NoP (Q : Exit → Act → World → Prop) : Exit → Act → World → Prop
  | .panic _, _, _ => False
  | e, a, w => Q e a w
theorem NoP.imp {Q : Exit → Act → World → Prop} : ∀ e a w, NoP Q e a w → Q e a w := fun e a w h => by
  cases e <;> first | exact h | exact (show False from h).elim
theorem vcPlan.sound (hT : TabOk P T) {ops : List Oper} {fix : List Nat} {F : List Own} {K : St → Prop} {Q : Exit → Act → World → Prop} (hs : Region.noSelect ops.toArray = true) (hK : ∀ S w, K S → Mem w0 S.own w → Q .normal ⟨S.fr.toArray, []⟩ w) :
    ∀ (p : Plan) (f : Nat) (l : Array Bool) (rs : List Nat) (S : St) (w : World) (b : Bool), p.ok ops.toArray f l rs = true → vcPlan P T w0 ops fix F K p b S → Mem w0 S.own w → fixOf fix S.own = F → (b = false → p.isTake = false) →
      (b = true → rs = Region.ready .any ops.toArray l → wpAnyH P .any ops.toArray (NoP Q) (MemR w0 F) f l ⟨S.fr.toArray, []⟩ w) ∧
      (b = false → ∀ f', f = f' + 1 → ∀ i ∈ rs, wpOp P ops.toArray (NoP Q) i (fun a' w' => MemR w0 F w' ∧ wpAnyH P .any ops.toArray (NoP Q) (MemR w0 F) f' (l.setIfInBounds i true) a' w') ⟨S.fr.toArray, []⟩ w)
  | .done, f, l, rs, S, w, b, hok, h, m, hF, _ => by
    have hrs : rs = [] := by simpa [Plan.ok] using hok
    subst hrs
    refine ⟨fun hb hr => ?_, fun hb f' _ i hi => by simp at hi⟩
    subst hb
    have h' : VDone K S := h
    rcases h' with ⟨k⟩ | ⟨ks, hn, own', e, k⟩
    · exact wpAnyH_done (Q := NoP Q) hr.symm (show NoP Q .normal _ _ from hK S w k m) f
    · exact wpAnyH_done (Q := NoP Q) hr.symm (show NoP Q .normal _ _ from hK ⟨S.fr, own'⟩ w k (by rw [show (⟨S.fr, own'⟩ : St).own = own' from rfl, e]; exact m.sel hn)) f
  | .take i p, 0, l, rs, S, w, b, hok, h, m, hF, _ => by simp [Plan.ok] at hok
  | .take i p, f + 1, l, rs, ⟨fr, own⟩, w, b, hok, h, m, hF, hb0 => by
    simp only [Plan.ok, Bool.and_eq_true] at hok
    obtain ⟨⟨h1, h2⟩, h3⟩ := hok
    rw [vcPlan_take] at h
    have mF : MemR w0 F w := by rw [← hF]; exact m.toR fix
    split at h
    · exact h.elim
    · rename_i o ho
      have ho' : ops.toArray[i]? = some o := by simpa using ho
      have key : ∀ v, YieldsIf P ops.toArray (MemR w0 F) o v ⟨fr.toArray, []⟩ → vcPlan P T w0 ops fix F K p true ⟨setO fr o.dst v, own⟩ → (Region.ready .any ops.toArray l).contains i = true → wpAnyH P .any ops.toArray (NoP Q) (MemR w0 F) (f + 1) l ⟨fr.toArray, []⟩ w := fun v hy hv hr => by
        refine wpAnyH_take ho' hs h2 hr (fun _ _ _ hh => hh) hy mF ?_
        rw [put_eq]
        exact (vcPlan.sound hT hs hK p f _ _ ⟨setO fr o.dst v, own⟩ w true h3 hv m hF (fun e => by cases e)).1 rfl rfl
      have both : ∀ v, YieldsIf P ops.toArray (MemR w0 F) o v ⟨fr.toArray, []⟩ → vcPlan P T w0 ops fix F K p true ⟨setO fr o.dst v, own⟩ → b = true → rs = Region.ready .any ops.toArray l → wpAnyH P .any ops.toArray (NoP Q) (MemR w0 F) (f + 1) l ⟨fr.toArray, []⟩ w := fun v hy hv _ hr => key v hy hv (hr ▸ h1)
      cases b with
      | false => exact absurd (hb0 rfl) (by simp [Plan.isTake])
      | true =>
        refine ⟨fun hb hr => ?_, fun hb => by cases hb⟩
        split at h
        · rename_i hw
          obtain ⟨v, k, e⟩ := vCalm.sound hT w mF h
          exact both v (.inl ⟨wanted_eq hw, fun w' m' => by rw [evF_eq]; exact e w' m'⟩) k.out rfl hr
        · rename_i hw
          exact both undef (.inr ⟨wanted_eq hw, rfl⟩) h.out rfl hr
        · exact h.elim
  | .br i p q, 0, l, rs, S, w, b, hok, h, m, hF, _ => by simp [Plan.ok] at hok
  | .br i p q, f + 1, l, rs, ⟨fr, own⟩, w, b, hok, h, m, hF, _ => by
    simp only [Plan.ok] at hok
    split at hok
    · cases hok
    · rename_i r rs'
      simp only [Bool.and_eq_true] at hok
      obtain ⟨⟨⟨h1, h2⟩, h3⟩, h4⟩ := hok
      have h1 := Nat.eq_of_beq_eq_true h1
      subst h1
      rw [vcPlan_br] at h
      obtain ⟨ha, hq⟩ := h
      have mF : MemR w0 F w := by rw [← hF]; exact m.toR fix
      have first : wpOp P ops.toArray (NoP Q) r (fun a' w' => MemR w0 F w' ∧ wpAnyH P .any ops.toArray (NoP Q) (MemR w0 F) f (l.setIfInBounds r true) a' w') ⟨fr.toArray, []⟩ w := by
        unfold wpOp
        split at ha
        · exact ha.elim
        · rename_i o ho
          have ho' : ops.toArray[r]? = some o := by simpa using ho
          simp only [ho']
          split at ha
          · rename_i hw
            rw [if_pos (wanted_eq hw)]
            refine .inl (Oper.wp_mono (fun a' w' hl => ?_) (vOp.sound (S := ⟨fr, own⟩) hT ha m))
            obtain ⟨v, own', ⟨hk, k⟩, rfl, m'⟩ := hl
            refine ⟨by rw [← hk]; exact m'.toR fix, ?_⟩
            rw [put_eq]
            exact (vcPlan.sound hT hs hK p f _ _ ⟨_, own'⟩ w' true h2 k.out m' hk (fun e => by cases e)).1 rfl rfl
          · rename_i hw
            rw [if_neg (by rw [wanted_eq hw]; decide)]
            refine ⟨mF, ?_⟩
            rw [put_eq]
            exact (vcPlan.sound hT hs hK p f _ _ ⟨setO fr o.dst undef, own⟩ w true h2 ha.out m hF (fun e => by cases e)).1 rfl rfl
          · exact ha.elim
      have rest := (vcPlan.sound hT hs hK q (f + 1) l rs' ⟨fr, own⟩ w false h3 hq m hF (fun _ => by simpa using h4)).2 rfl f rfl
      have all : ∀ i ∈ r :: rs', wpOp P ops.toArray (NoP Q) i (fun a' w' => MemR w0 F w' ∧ wpAnyH P .any ops.toArray (NoP Q) (MemR w0 F) f (l.setIfInBounds i true) a' w') ⟨fr.toArray, []⟩ w := fun i hi => by
        rcases List.mem_cons.1 hi with rfl | hi
        · exact first
        · exact rest i hi
      exact ⟨fun _ hr => wpAnyH_all (hr.symm) (by simp) all, fun _ f' e i hi => by cases e; exact all i hi⟩
end
end Go.Proofs.YtadjhkehfklmnaaGreatDoor
namespace Go.Proofs.YtadjhkehfklmnaaGreatDoor
set_option linter.unusedSimpArgs false
set_option linter.unusedVariables false
open Go.RowKit

def thenQ (next : St → Prop) (Q : Exit → St → Prop) : Exit → St → Prop
  | .normal, S => next S
  | e, S => Q e S
def blockQ (id : Nat) (Q : Exit → St → Prop) : Exit → St → Prop
  | .exit id', S => match Nat.beq id' id with
    | true => Q .normal S
    | false => Q (.exit id') S
  | e, S => Q e S
def FrEq : List Value → List Value → Prop
  | [], [] => True
  | x :: xs, y :: ys => x = y ∧ FrEq xs ys
  | _, _ => False
inductive OwnLe (own own' : List Own) : Prop
  | mk (ks : List Nat) (hn : ks.Nodup) (h : own' = ks.map fun k => own.getD k .gone) : OwnLe own own'
  | nils (ks : List Nat) (hn : ks.Nodup) (ns : List (TypeId × Nat)) (h : own' = (ks.map fun k => own.getD k .gone) ++ ns.map fun (ty, size) => .row (.slice none 0 0) ty size 0 []) : OwnLe own own'
  | turn (j : Nat) {g n : Nat} {ty : TypeId} {size : Nat} {cs : List Value} (hk : own[j]? = some (.blk g ty cs)) (hl : cs.length = n * size) (hm : n ≤ maxLen) (ks : List Nat) (hn : ks.Nodup) (h : own' = ks.map fun k => (own.set j (.row (.slice (some ⟨g, 0, none⟩) n n) ty size n cs)).getD k .gone) : OwnLe own own'
def setAll : List Value → List (Nat × Value) → List Value
  | fr, [] => fr
  | fr, (t, v) :: r => setAll (fr.set t v) r
def havoc (u : List Value) : List Value → List Nat → List Value
  | fr, [] => fr
  | fr, t :: r => havoc u (fr.set t (u.getD t undef)) r
def setAllK : List Value → List (Nat × Value) → (List Value → Prop) → Prop
  | fr, [], K => K fr
  | fr, (t, v) :: r, K => setK fr t v fun fr => setAllK fr r K
def havocK (u : List Value) : List Value → List Nat → (List Value → Prop) → Prop
  | fr, [], K => K fr
  | fr, t :: r, K => setK fr t (u.getD t undef) fun fr => havocK u fr r K
theorem setAllK.out : ∀ {l : List (Nat × Value)} {fr : List Value} {K : List Value → Prop}, setAllK fr l K → K (setAll fr l)
  | [], _, _, h => h
  | (t, v) :: r, fr, K, h => by
    have h1 := setK.out (K := fun fr => setAllK fr r K) h
    exact setAllK.out (l := r) h1
theorem havocK.out {u : List Value} : ∀ {l : List Nat} {fr : List Value} {K : List Value → Prop}, havocK u fr l K → K (havoc u fr l)
  | [], _, _, h => h
  | t :: r, fr, K, h => by
    have h1 := setK.out (K := fun fr => havocK u fr r K) h
    exact havocK.out (l := r) h1
def frame {ι : Type} (fr : List Value) (ws : List Nat) (nm : ι → List (Nat × Value)) (i : ι) (u : List Value) : List Value := setAll (havoc u fr ws) (nm i)
def frameK {ι : Type} (fr : List Value) (ws : List Nat) (nm : ι → List (Nat × Value)) (i : ι) (u : List Value) (K : List Value → Prop) : Prop := spineK fr fun fr => havocK u fr ws fun fr => setAllK fr (nm i) K
theorem frameK.out {ι : Type} {fr : List Value} {ws : List Nat} {nm : ι → List (Nat × Value)} {i : ι} {u : List Value} {K : List Value → Prop} (h : frameK fr ws nm i u K) : K (frame fr ws nm i u) :=
  setAllK.out (havocK.out (K := fun fr => setAllK fr (nm i) K) (spineK.out (K := fun fr => havocK u fr ws fun fr => setAllK fr (nm i) K) h))
inductive VNext {ι : Type} (fr : List Value) (ws : List Nat) (nm : ι → List (Nat × Value)) (own : ι → List Own) (I : ι → Prop) (n : Nat) (μ : ι → Nat) (fr' : List Value) (own' : List Own) : Prop
  | mk (j : ι) (hI : I j) (hμ : μ j < n) (e : frameK fr ws nm j fr' (FrEq fr')) (o : OwnLe own' (own j)) : VNext fr ws nm own I n μ fr' own'
def loopQ {ι : Type} (fr : List Value) (ws : List Nat) (nm : ι → List (Nat × Value)) (own : ι → List Own) (I : ι → Prop) (n : Nat) (μ : ι → Nat) (Q : Exit → St → Prop) : Exit → St → Prop
  | .normal, ⟨fr', own'⟩ => VNext fr ws nm own I n μ fr' own'
  | e, S' => Q e S'
inductive VLoop (body : (Exit → St → Prop) → St → Prop) (Q : Exit → St → Prop) (fr : List Value) (own0 : List Own) : Prop
  | mk {ι : Type} (ws : List Nat) (nm : ι → List (Nat × Value)) (own : ι → List Own) (I : ι → Prop) (μ : ι → Nat) (i0 : ι) (h0 : I i0) (e0 : frameK fr ws nm i0 fr (FrEq fr)) (o0 : OwnLe own0 (own i0))
      (round : ∀ i u, I i → frameK fr ws nm i u fun fr' => body (loopQ fr ws nm own I (μ i) μ Q) ⟨fr', own i⟩) : VLoop body Q fr own0
def regionStep (P : Program) (T : Tab) (w0 : Base) (ops : Array Oper) (draw : Bool) (Q : Exit → St → Prop) (S : St) : Prop :=
  match draw with
  | false => vcOps P T w0 ops.toList (Q .normal) ops.toList S
  | true => VDraw P T w0 ops (Q .normal) S
def condStep (c : Operand) (S : St) (X Y : Prop) : Prop :=
  match evF S.fr c with
  | .bool true => X
  | .bool false => Y
  | _ => False
def loopStep (body : (Exit → St → Prop) → St → Prop) (Q : Exit → St → Prop) (S : St) : Prop :=
  match S with
  | ⟨fr, own⟩ => VLoop body Q fr own
noncomputable def vc (P : Program) (T : Tab) (w0 : Base) (c : Code) : (Exit → St → Prop) → St → Prop :=
  Code.rec (motive := fun _ => (Exit → St → Prop) → St → Prop)
    (fun Q S => Q .normal S)
    (fun _ ops draw Q S => regionStep P T w0 ops draw Q S)
    (fun _ _ iha ihb Q S => iha (thenQ (ihb Q) Q) S)
    (fun c _ _ ihx ihy Q S => condStep c S (ihx Q S) (ihy Q S))
    (fun id _ ih Q S => ih (blockQ id Q) S)
    (fun _ ih Q S => loopStep ih Q S)
    (fun _ _ _ _ _ _ _ _ => False)
    (fun id Q S => Q (.exit id) S)
    (fun _ _ _ _ => False)
    (fun _ Q S => Q .normal S)
    (fun _ _ _ => False)
    (fun Q S => Q .ret S)
    (fun _ _ _ => False)
    c
def pack : List Value → Value
  | [v] => v
  | vs => .tuple vs.toArray
def packK (vs : List Value) (K : Value → Prop) : Prop :=
  match vs with
  | [v] => K v
  | vs => K (.tuple vs.toArray)
theorem packK.out {vs : List Value} {K : Value → Prop} (h : packK vs K) : K (pack vs) := by
  unfold packK at h
  unfold pack
  split at h <;> exact h
def vRes (T : Tab) (w0 : Base) (own : List Own) (fr : List Value) : List ResultVar → (List Value → Prop) → Prop
  | [], K => K []
  | .tmp t :: r, K => force (fr.getD t undef) fun v => vRes T w0 own fr r fun vs => K (v :: vs)
  | .cell a t :: r, K => vLoad T w0 own t (fr.getD a undef) fun v => vRes T w0 own fr r fun vs => K (v :: vs)
inductive VRet (w0 : Base) (own : List Own) (R : Value → World → Prop) (v : Value) : Prop
  | mk (h : ∀ w, Mem w0 own w → R v w) : VRet w0 own R v
def retQ (T : Tab) (w0 : Base) (rs : List ResultVar) (R : Value → World → Prop) : Exit → St → Prop
  | .normal, ⟨fr, own⟩ => vRes T w0 own fr rs fun vs => packK vs fun v => VRet w0 own R v
  | .ret, ⟨fr, own⟩ => vRes T w0 own fr rs fun vs => packK vs fun v => VRet w0 own R v
  | _, _ => False
def resF (fr : List Value) : ResultVar → Sem Value
  | .tmp t => pure (fr.toArray.getD t undef)
  | .cell a t => do loadVar t (← asAddr (fr.toArray.getD a undef))
section
variable {P : Program} {T : Tab} {w0 : Base}
theorem FrEq.eq : ∀ {xs ys : List Value}, FrEq xs ys → xs = ys
  | [], [], _ => rfl
  | x :: xs, y :: ys, h => by
    obtain ⟨h1, h2⟩ := h
    rw [h1, FrEq.eq h2]
  | [], _ :: _, h => h.elim
  | _ :: _, [], h => h.elim
theorem Mem.turnRow {own : List Own} {cs : List Value} {w : World} {k g n : Nat} {ty : TypeId} {size : Nat} (hk : own[k]? = some (.blk g ty cs)) (hl : cs.length = n * size) (hn : n ≤ maxLen) (m : Mem w0 own w) : Mem w0 (own.set k (.row (.slice (some ⟨g, 0, none⟩) n n) ty size n cs)) w := by
  have h := m.ok k _ hk
  refine m.turn hk m.keeps ⟨fun b hb => ?_, hl, .inr ⟨g, n, cs.toArray, rfl, Nat.zero_le _, h.2, Nat.le_refl _, hn, by simpa using hl, ?_⟩⟩ (fun _ _ _ => rfl) (fun b hb => ?_)
  · simp only [Value.ownBlock, Option.some.injEq] at hb
    subst hb
    exact h.1
  · rw [← hl]
    simp
  · left
    simpa [Own.block, Value.ownBlock] using hb
theorem OwnLe.mem {own own' : List Own} (h : OwnLe own own') {w : World} (m : Mem w0 own w) : Mem w0 own' w := by
  rcases h with ⟨ks, hn, h2⟩ | ⟨ks, hn, ns, h2⟩ | ⟨j, hk, hl, hm, ks, hn, h2⟩
  · rw [h2]
    exact m.sel hn
  · rw [h2]
    have m0 := m.sel hn
    clear h2
    generalize (ks.map fun k => own.getD k Own.gone) = os at m0
    induction ns generalizing os with
    | nil => simpa using m0
    | cons n ns ih =>
      have := ih (os ++ [.row (.slice none 0 0) n.1 n.2 0 []]) (m0.pushNil n.1 n.2)
      simpa [List.append_assoc] using this
  · rw [h2]
    exact (Mem.turnRow hk hl hm m).sel hn
theorem minN (p : Nat → Prop) (hx : ∃ n, p n) : ∃ n, p n ∧ ∀ k, p k → n ≤ k := by
  obtain ⟨n, hn⟩ := hx
  induction n using Nat.strongRecOn with
  | _ n ih =>
    by_cases hl : ∃ k, k < n ∧ p k
    · obtain ⟨k, hk, hak⟩ := hl
      exact ih k hk hak
    · exact ⟨n, hn, fun k hak => Nat.le_of_not_lt fun hlt => hl ⟨k, hlt, hak⟩⟩
theorem VLoop.sound {body : (Exit → St → Prop) → St → Prop} {c : Code}
    (hb : ∀ (Q : Exit → St → Prop) (S : St) (w : World) (R : Exit → Act → World → Prop), body Q S → Mem w0 S.own w → (∀ e S' w', Q e S' → Mem w0 S'.own w' → R e ⟨S'.fr.toArray, []⟩ w') → c.wp P R ⟨S.fr.toArray, []⟩ w)
    {Q : Exit → St → Prop} {S : St} {w : World} {R : Exit → Act → World → Prop} (h : VLoop body Q S.fr S.own) (m : Mem w0 S.own w) (hR : ∀ e S' w', Q e S' → Mem w0 S'.own w' → R e ⟨S'.fr.toArray, []⟩ w') : (Code.loop c).wp P R ⟨S.fr.toArray, []⟩ w := by
  classical
  obtain ⟨ws, nm, own, I, μ, i0, h0, e0, o0, round⟩ := h
  let st : _ → List Value → St := fun i u => ⟨frame S.fr ws nm i u, own i⟩
  let At : Act → World → Nat → Prop := fun a w n => ∃ i u, I i ∧ μ i = n ∧ a = ⟨(st i u).fr.toArray, []⟩ ∧ Mem w0 (st i u).own w
  let me : Act → World → Nat := fun a w => if hx : ∃ n, At a w n then Classical.choose (minN (At a w) hx) else 0
  have me_at : ∀ a w, (∃ n, At a w n) → At a w (me a w) ∧ ∀ k, At a w k → me a w ≤ k := fun a w hx => by
    have e : me a w = Classical.choose (minN (At a w) hx) := dif_pos hx
    rw [e]
    exact Classical.choose_spec (minN (At a w) hx)
  have hfr := e0.out.eq
  have m0 := o0.mem m
  refine wp_loop (fun a w => ∃ n, At a w n) me ⟨μ i0, i0, S.fr, h0, rfl, congrArg (fun fr : List Value => (⟨fr.toArray, []⟩ : Act)) hfr, m0⟩ ?_
  intro a w' hx
  obtain ⟨⟨i, u, hi, hμ, rfl, mi⟩, _⟩ := me_at a w' hx
  refine hb _ _ w' _ (round i u hi).out mi ?_
  intro e S' w'' hq m'
  cases e with
  | normal =>
    obtain ⟨fr', own'⟩ := S'
    obtain ⟨j, hj, hlt, he, ho⟩ := hq
    have hf2 := he.out.eq
    have m2 := ho.mem m'
    have hat : At ⟨fr'.toArray, []⟩ w'' (μ j) := ⟨j, fr', hj, rfl, congrArg (fun fr : List Value => (⟨fr.toArray, []⟩ : Act)) hf2, m2⟩
    have h3 := (me_at _ _ ⟨_, hat⟩).2 _ hat
    exact ⟨⟨_, hat⟩, Nat.lt_of_lt_of_eq (Nat.lt_of_le_of_lt h3 hlt) hμ⟩
  | exit id => exact hR _ S' w'' hq m'
  | goto l => exact hR _ S' w'' hq m'
  | ret => exact hR _ S' w'' hq m'
  | panic ch => exact hR _ S' w'' hq m'
  | outgrown => exact hR _ S' w'' hq m'
theorem vc.sound (hT : TabOk P T) : ∀ (c : Code) (Q : Exit → St → Prop) (S : St) (w : World) (R : Exit → Act → World → Prop), vc P T w0 c Q S → Mem w0 S.own w →
    (∀ e S' w', Q e S' → Mem w0 S'.own w' → R e ⟨S'.fr.toArray, []⟩ w') → c.wp P R ⟨S.fr.toArray, []⟩ w := by
  intro c
  induction c with
  | skip => exact fun Q S w R h m hR => wp_skip (hR _ S w h m)
  | label l => exact fun Q S w R h m hR => wp_label (hR _ S w h m)
  | region id ops draw =>
    intro Q S w R h m hR
    cases draw with
    | false =>
      have := vcOps.sound hT (Q := R) (K := Q .normal) (fun S w hk m => hR _ S w hk m) ops.toList S w h m
      rw [Array.toArray_toList] at this
      exact wp_region_list this
    | true =>
      obtain ⟨p, fix, hs, hok, hp⟩ := h
      refine Code.wp_mono NoP.imp ?_
      refine wp_region_held (S := MemR w0 (fixOf fix S.own)) hT.mixed ?_
      have hs' : Region.noSelect ops.toList.toArray = true := by rw [Array.toArray_toList]; exact hs
      have := (vcPlan.sound hT hs' (Q := R) (K := Q .normal) (fun S w hk m => hR _ S w hk m) p ops.size (Array.replicate ops.size false) _ S { w with drawn := w.drawn + 1 } true (by rw [Array.toArray_toList]; exact hok) hp m.drew rfl (fun e => by cases e)).1 rfl (by rw [Array.toArray_toList])
      rw [Array.toArray_toList] at this
      exact this
  | seq a b iha ihb =>
    intro Q S w R h m hR
    refine wp_seq (iha _ S w _ h m ?_)
    intro e S' w' hq m'
    cases e with
    | normal => exact ihb Q S' w' R hq m' hR
    | exit id => exact hR _ S' w' hq m'
    | goto l => exact hR _ S' w' hq m'
    | ret => exact hR _ S' w' hq m'
    | panic ch => exact hR _ S' w' hq m'
    | outgrown => exact hR _ S' w' hq m'
  | cond c x y ihx ihy =>
    intro Q S w R h m hR
    replace h : (match evF S.fr c with | .bool true => vc P T w0 x Q S | .bool false => vc P T w0 y Q S | _ => False) := h
    split at h
    · rename_i hc
      exact wp_cond_true (by rw [evF_eq]; exact hc) (ihx Q S w R h m hR)
    · rename_i hc
      exact wp_cond_false (by rw [evF_eq]; exact hc) (ihy Q S w R h m hR)
    · exact h.elim
  | block id c ih =>
    intro Q S w R h m hR
    refine wp_block (ih _ S w _ h m ?_)
    intro e S' w' hq m'
    cases e with
    | exit id' =>
      simp only [blockQ] at hq
      simp only [Exit.inBlock]
      split at hq
      · rename_i hb
        rw [if_pos (Nat.eq_of_beq_eq_true hb)]
        exact hR _ S' w' hq m'
      · rename_i hb
        rw [if_neg (fun e => by rw [e, Nat.beq_refl] at hb; cases hb)]
        exact hR _ S' w' hq m'
    | normal => exact hR _ S' w' hq m'
    | goto l => exact hR _ S' w' hq m'
    | ret => exact hR _ S' w' hq m'
    | panic ch => exact hR _ S' w' hq m'
    | outgrown => exact hR _ S' w' hq m'
  | loop c ih =>
    intro Q S w R h m hR
    obtain ⟨fr, own⟩ := S
    exact VLoop.sound (fun Q' S' w' R' h' m' hR' => ih Q' S' w' R' h' m' hR') h m hR
  | exit id => exact fun Q S w R h m hR => wp_exit (hR _ S w h m)
  | ret => exact fun Q S w R h m hR => wp_ret (hR _ S w h m)
  | rangeFunc f ps a b iha ihb => exact fun Q S w R h m hR => h.elim
  | scope b ih => exact fun Q S w R h m hR => h.elim
  | goto l => exact fun Q S w R h m hR => h.elim
  | refuse s => exact fun Q S w R h m hR => h.elim
theorem vRes.sound (hT : TabOk P T) {own : List Own} {fr : List Value} {w : World} (m : Mem w0 own w) : ∀ (rs : List ResultVar) (K : List Value → Prop), vRes T w0 own fr rs K →
    ∃ vs, K vs ∧ (rs.mapM (resF fr)).run P w = .ok vs w
  | [], K, h => ⟨[], h, rfl⟩
  | .tmp t :: r, K, h => by
    obtain ⟨vs, k, e⟩ := vRes.sound hT m r _ (force.out (K := fun v => vRes T w0 own fr r fun vs => K (v :: vs)) h)
    refine ⟨_, k, ?_⟩
    rw [List.mapM_cons, Sem.run_bind, show (resF fr (.tmp t)).run P w = .ok (fr.toArray.getD t undef) w from rfl, Result.andThen_ok, Sem.run_bind, e, Result.andThen_ok]
    simp
  | .cell a t :: r, K, h => by
    obtain ⟨v, hv, e0⟩ := vLoad.sound hT (own := own) h
    obtain ⟨vs, k, e⟩ := vRes.sound hT m r _ hv
    have e1 := e0 w m.toMemR
    refine ⟨_, k, ?_⟩
    have e2 : (resF fr (.cell a t)).run P w = .ok v w := by
      show (do loadVar t (← asAddr (fr.toArray.getD a undef)) : Sem Value).run P w = .ok v w
      have hg : fr.toArray.getD a undef = fr.getD a undef := by simp
      rw [hg]
      have h' : vLoad T w0 own t (fr.getD a undef) fun v => vRes T w0 own fr r fun vs => K (v :: vs) := h
      unfold vLoad at h'
      split at h'
      · exact h'.elim
      · split at h'
        · rename_i g off hp
          rw [hp] at e1 ⊢
          simpa [Instr.loadAt, Instr.sureAddr, asAddr] using e1
        · exact h'.elim
    rw [List.mapM_cons, Sem.run_bind, e2, Result.andThen_ok, Sem.run_bind, e, Result.andThen_ok]
    rfl
theorem pack_eq (vs : List Value) : (if h : vs.toArray.size = 1 then vs.toArray[0]'(by omega) else Value.tuple vs.toArray) = pack vs := by
  match vs with
  | [] => rfl
  | [v] => rfl
  | a :: b :: r => simp [pack]
theorem calls_of_vcL (hT : TabOk P T) {f : FuncId} {fn : Func} {c : Code} {args : List Value} {own : List Own} {w : World} {R : Value → World → Prop} (hf : P.funcs[f]? = some fn) (hb : fn.body = some c) (m0 : Mem w0 own w)
    (h : spineK (args ++ List.replicate (fn.ntmps - args.length) undef) fun fr => vc P T w0 c (retQ T w0 fn.results.toList R) ⟨fr, own⟩) : Calls P f args.toArray w fun e w' => ∃ v, e = .returned v ∧ R v w' := by
  refine calls_of_wp hf hb ?_
  have e0 : ({ tmps := args.toArray ++ Array.replicate (fn.ntmps - args.toArray.size) undef, defers := [] } : Act) = ⟨(args ++ List.replicate (fn.ntmps - args.length) undef).toArray, []⟩ := by
    simp [List.toArray_replicate]
  rw [e0]
  refine vc.sound hT c _ ⟨args ++ List.replicate (fn.ntmps - args.length) undef, own⟩ w _ h.out m0 ?_
  intro e S' w' hq m'
  have fin : ∀ {vs : List Value}, VRet w0 S'.own R (pack vs) → (fn.results.toList.mapM (resF S'.fr)).run P w' = .ok vs w' → ∃ v, (results fn S'.fr.toArray).run P w' = .ok v w' ∧ ∃ u, Ending.returned v = .returned u ∧ R u w' := fun {vs} hr hm => by
    obtain ⟨hr⟩ := hr
    refine ⟨pack vs, ?_, _, rfl, hr w' m'⟩
    have er : results fn S'.fr.toArray = (do let vs ← fn.results.mapM (resF S'.fr); pure (if h : vs.size = 1 then vs[0] else .tuple vs)) := by
      unfold results
      congr 2
    rw [er, Array.mapM_eq_mapM_toList, Sem.run_bind, Sem.run_map, hm]
    simp only [Result.andThen_ok, Sem.run_pure]
    rw [pack_eq]
  cases e with
  | normal =>
    obtain ⟨vs, hr, hm⟩ := vRes.sound hT m' _ _ hq
    exact ⟨rfl, fin hr.out hm⟩
  | ret =>
    obtain ⟨vs, hr, hm⟩ := vRes.sound hT m' _ _ hq
    exact ⟨rfl, fin hr.out hm⟩
  | exit id => exact hq.elim
  | goto l => exact hq.elim
  | panic ch => exact hq.elim
  | outgrown => exact hq.elim
theorem calls_of_vc (hT : TabOk P T) {f : FuncId} {fn : Func} {c : Code} {args : List Value} {w : World} {R : Value → World → Prop} (hf : P.funcs[f]? = some fn) (hb : fn.body = some c)
    (h : spineK (args ++ List.replicate (fn.ntmps - args.length) undef) fun fr => vc P T (Base.of w) c (retQ T (Base.of w) fn.results.toList R) ⟨fr, []⟩) : Calls P f args.toArray w fun e w' => ∃ v, e = .returned v ∧ R v w' :=
  calls_of_vcL (w0 := Base.of w) hT hf hb (Mem.init (Base.of w)) h
theorem post_of_vc {w1 : World} {f : FuncId} {args : Array Value} {v : Value} (h : Calls P f args w1 fun e w' => ∃ u, e = .returned u ∧ (u = v ∧ Below w1.heap.size w1 w')) : Calls P f args w1 (Post v w1) :=
  h.mono fun e w' ⟨u, he, hu, hb⟩ => ⟨by rw [he, hu], hb⟩
end
end Go.Proofs.YtadjhkehfklmnaaGreatDoor
namespace Go.Proofs.YtadjhkehfklmnaaGreatDoor
set_option linter.unusedSimpArgs false
set_option linter.unusedVariables false
open Go.RowKit
def placesOf (P : Program) (d : TypeDesc) : Option (List (Nat × Nat)) :=
  match d with
  | .struct fs => fs.toList.mapM fun f => (P.info? f.type).map fun i => (f.offset, i.size)
  | _ => some []
def OkTI (P : Program) (t : Nat) (ti : TI) : Prop :=
  P.underlying t = some ti.desc ∧ (P.info? t).map (fun i => (i.size, i.bytes, i.zero.map (·.cells))) = some (ti.size, ti.bytes, some ti.zero.toArray) ∧ ti.zero.length = ti.size ∧ placesOf P ti.desc = some ti.places
def AllTI (P : Program) : List (Nat × TI) → Prop
  | [] => True
  | x :: r => OkTI P x.1 x.2 ∧ AllTI P r
def look : List (Nat × TI) → Nat → Option TI
  | [], _ => none
  | (k, ti) :: r, t => match Nat.beq k t with
    | true => some ti
    | false => look r t
theorem look_ok {P : Program} {t : Nat} {ti : TI} : ∀ (l : List (Nat × TI)), AllTI P l → look l t = some ti → OkTI P t ti
  | [], _, h => by cases h
  | (k, ti') :: r, hl, h => by
    unfold look at h
    split at h
    · rename_i hk
      have := Nat.eq_of_beq_eq_true hk
      subst this
      cases h
      exact hl.1
    · exact look_ok r hl.2 h
def inL : List Nat → Nat → Bool
  | [], _ => false
  | k :: r, f => match Nat.beq k f with
    | true => true
    | false => inL r f
def fnGood (P : Program) : List Nat → Bool
  | [] => true
  | f :: r => (match P.funcs[f]? with
    | some fn => !fn.body.isNone && !(fn.name == "runtime.NumGoroutine")
    | none => false) && fnGood P r
theorem inL_ok {P : Program} {f : Nat} : ∀ (l : List Nat), fnGood P l = true → inL l f = true → ∃ fn, P.funcs[f]? = some fn ∧ fn.body.isNone = false ∧ (fn.name == "runtime.NumGoroutine") = false
  | [], _, h => by cases h
  | k :: r, hl, h => by
    unfold inL at h
    simp only [fnGood, Bool.and_eq_true] at hl
    split at h
    · rename_i hk
      have := Nat.eq_of_beq_eq_true hk
      subst this
      have h1 := hl.1
      split at h1
      · rename_i fn hfn
        simp only [Bool.and_eq_true, Bool.not_eq_true'] at h1
        exact ⟨fn, hfn, h1.1, h1.2⟩
      · cases h1
    · exact inL_ok r hl.2 h
def tyRows : List (Nat × TI) := [
  (2, TI.mk (.int .i64) 1 8 [.int .i64 0] []),
  (3, TI.mk (.int .i64) 1 8 [.int .i64 0] []),
  (4, TI.mk (.bool) 1 1 [.bool false] []),
  (5, TI.mk (.int .u8) 1 1 [.int .u8 0] []),
  (9, TI.mk (.string) 1 16 [.string .empty] []),
  (12, TI.mk (.int .u64) 1 8 [.int .u64 0] []),
  (20, TI.mk (.interface #[]) 1 16 [.nilIface] []),
  (21, TI.mk (.int .i32) 1 4 [.int .i32 0] []),
  (22, TI.mk (.struct #[(Field.mk "Lower" 3 0 false "" "" 0), (Field.mk "Upper" 3 1 false "" "" 8), (Field.mk "Level" 3 2 false "" "" 16), (Field.mk "LowGate" 4 3 false "" "" 24), (Field.mk "HighGate" 4 4 false "" "" 25), (Field.mk "LowPaddle" 4 5 false "" "" 26), (Field.mk "HighPaddle" 4 6 false "" "" 27)]) 7 32 [.int .i64 0, .int .i64 0, .int .i64 0, .bool false, .bool false, .bool false, .bool false] [(0, 1), (1, 1), (2, 1), (3, 1), (4, 1), (5, 1), (6, 1)]),
  (23, TI.mk (.struct #[(Field.mk "Lower" 3 0 false "" "" 0), (Field.mk "Upper" 3 1 false "" "" 8), (Field.mk "Level" 3 2 false "" "" 16), (Field.mk "LowGate" 4 3 false "" "" 24), (Field.mk "HighGate" 4 4 false "" "" 25), (Field.mk "LowPaddle" 4 5 false "" "" 26), (Field.mk "HighPaddle" 4 6 false "" "" 27)]) 7 32 [.int .i64 0, .int .i64 0, .int .i64 0, .bool false, .bool false, .bool false, .bool false] [(0, 1), (1, 1), (2, 1), (3, 1), (4, 1), (5, 1), (6, 1)]),
  (24, TI.mk (.slice 118) 1 24 [.slice none 0 0] []),
  (25, TI.mk (.slice 124) 1 24 [.slice none 0 0] []),
  (26, TI.mk (.struct #[(Field.mk "Durable" 9 0 false "" "" 0), (Field.mk "Pending" 9 1 false "" "" 16), (Field.mk "Count" 3 2 false "" "" 32)]) 3 40 [.string .empty, .string .empty, .int .i64 0] [(0, 1), (1, 1), (2, 1)]),
  (27, TI.mk (.struct #[(Field.mk "Durable" 9 0 false "" "" 0), (Field.mk "Pending" 9 1 false "" "" 16), (Field.mk "Count" 3 2 false "" "" 32)]) 3 40 [.string .empty, .string .empty, .int .i64 0] [(0, 1), (1, 1), (2, 1)]),
  (28, TI.mk (.struct #[(Field.mk "Lock" 23 0 false "" "" 0), (Field.mk "Basins" 24 7 false "" "" 32), (Field.mk "Waiting" 25 8 false "" "" 56), (Field.mk "Log" 27 9 false "" "" 80)]) 12 120 [.int .i64 0, .int .i64 0, .int .i64 0, .bool false, .bool false, .bool false, .bool false, .slice none 0 0, .slice none 0 0, .string .empty, .string .empty, .int .i64 0] [(0, 7), (7, 1), (8, 1), (9, 3)]),
  (29, TI.mk (.struct #[(Field.mk "Lock" 23 0 false "" "" 0), (Field.mk "Basins" 24 7 false "" "" 32), (Field.mk "Waiting" 25 8 false "" "" 56), (Field.mk "Log" 27 9 false "" "" 80)]) 12 120 [.int .i64 0, .int .i64 0, .int .i64 0, .bool false, .bool false, .bool false, .bool false, .slice none 0 0, .slice none 0 0, .string .empty, .string .empty, .int .i64 0] [(0, 7), (7, 1), (8, 1), (9, 3)]),
  (31, TI.mk (.slice 9) 1 24 [.slice none 0 0] []),
  (34, TI.mk (.struct #[(Field.mk "Lower" 3 0 false "" "" 0), (Field.mk "Upper" 3 1 false "" "" 8), (Field.mk "Level" 3 2 false "" "" 16), (Field.mk "LowGate" 4 3 false "" "" 24), (Field.mk "HighGate" 4 4 false "" "" 25), (Field.mk "LowPaddle" 4 5 false "" "" 26), (Field.mk "HighPaddle" 4 6 false "" "" 27)]) 7 32 [.int .i64 0, .int .i64 0, .int .i64 0, .bool false, .bool false, .bool false, .bool false] [(0, 1), (1, 1), (2, 1), (3, 1), (4, 1), (5, 1), (6, 1)]),
  (35, TI.mk (.slice 96) 1 24 [.slice none 0 0] []),
  (36, TI.mk (.slice 98) 1 24 [.slice none 0 0] []),
  (37, TI.mk (.struct #[(Field.mk "Durable" 9 0 false "" "" 0), (Field.mk "Pending" 9 1 false "" "" 16), (Field.mk "Count" 3 2 false "" "" 32)]) 3 40 [.string .empty, .string .empty, .int .i64 0] [(0, 1), (1, 1), (2, 1)]),
  (38, TI.mk (.struct #[(Field.mk "Lock" 34 0 false "" "" 0), (Field.mk "Basins" 35 7 false "" "" 32), (Field.mk "Waiting" 36 8 false "" "" 56), (Field.mk "Log" 37 9 false "" "" 80)]) 12 120 [.int .i64 0, .int .i64 0, .int .i64 0, .bool false, .bool false, .bool false, .bool false, .slice none 0 0, .slice none 0 0, .string .empty, .string .empty, .int .i64 0] [(0, 7), (7, 1), (8, 1), (9, 3)]),
  (39, TI.mk (.struct #[(Field.mk "Lock" 34 0 false "" "" 0), (Field.mk "Basins" 35 7 false "" "" 32), (Field.mk "Waiting" 36 8 false "" "" 56), (Field.mk "Log" 37 9 false "" "" 80)]) 12 120 [.int .i64 0, .int .i64 0, .int .i64 0, .bool false, .bool false, .bool false, .bool false, .slice none 0 0, .slice none 0 0, .string .empty, .string .empty, .int .i64 0] [(0, 7), (7, 1), (8, 1), (9, 3)]),
  (46, TI.mk (.slice 5) 1 24 [.slice none 0 0] []),
  (70, TI.mk (.slice 74) 1 24 [.slice none 0 0] []),
  (73, TI.mk (.struct #[(Field.mk "Command" 9 0 false "" "" 0), (Field.mk "Reply" 9 1 false "" "" 16)]) 2 32 [.string .empty, .string .empty] [(0, 1), (1, 1)]),
  (74, TI.mk (.struct #[(Field.mk "Command" 9 0 false "" "" 0), (Field.mk "Reply" 9 1 false "" "" 16)]) 2 32 [.string .empty, .string .empty] [(0, 1), (1, 1)]),
  (86, TI.mk (.pointer 89) 1 8 [.pointer none] []),
  (87, TI.mk (.int .u64) 1 8 [.int .u64 0] []),
  (88, TI.mk (.struct #[(Field.mk "code" 46 0 false "" "loop.example/g00924/spec" 0), (Field.mk "at" 3 1 false "" "loop.example/g00924/spec" 24), (Field.mk "seed" 87 2 false "" "loop.example/g00924/spec" 32)]) 3 40 [.slice none 0 0, .int .i64 0, .int .u64 0] [(0, 1), (1, 1), (2, 1)]),
  (89, TI.mk (.struct #[(Field.mk "code" 46 0 false "" "loop.example/g00924/spec" 0), (Field.mk "at" 3 1 false "" "loop.example/g00924/spec" 24), (Field.mk "seed" 87 2 false "" "loop.example/g00924/spec" 32)]) 3 40 [.slice none 0 0, .int .i64 0, .int .u64 0] [(0, 1), (1, 1), (2, 1)]),
  (94, TI.mk (.slice 4) 1 24 [.slice none 0 0] []),
  (95, TI.mk (.struct #[(Field.mk "Volume" 3 0 false "" "" 0), (Field.mk "Least" 3 1 false "" "" 8), (Field.mk "Most" 3 2 false "" "" 16)]) 3 24 [.int .i64 0, .int .i64 0, .int .i64 0] [(0, 1), (1, 1), (2, 1)]),
  (96, TI.mk (.struct #[(Field.mk "Volume" 3 0 false "" "" 0), (Field.mk "Least" 3 1 false "" "" 8), (Field.mk "Most" 3 2 false "" "" 16)]) 3 24 [.int .i64 0, .int .i64 0, .int .i64 0] [(0, 1), (1, 1), (2, 1)]),
  (97, TI.mk (.struct #[(Field.mk "Id" 3 0 false "" "" 0), (Field.mk "Up" 4 1 false "" "" 8), (Field.mk "Minute" 3 2 false "" "" 16), (Field.mk "Weight" 3 3 false "" "" 24)]) 4 32 [.int .i64 0, .bool false, .int .i64 0, .int .i64 0] [(0, 1), (1, 1), (2, 1), (3, 1)]),
  (98, TI.mk (.struct #[(Field.mk "Id" 3 0 false "" "" 0), (Field.mk "Up" 4 1 false "" "" 8), (Field.mk "Minute" 3 2 false "" "" 16), (Field.mk "Weight" 3 3 false "" "" 24)]) 4 32 [.int .i64 0, .bool false, .int .i64 0, .int .i64 0] [(0, 1), (1, 1), (2, 1), (3, 1)]),
  (101, TI.mk (.slice 3) 1 24 [.slice none 0 0] []),
  (113, TI.mk (.pointer 39) 1 8 [.pointer none] []),
  (118, TI.mk (.struct #[(Field.mk "Volume" 3 0 false "" "" 0), (Field.mk "Least" 3 1 false "" "" 8), (Field.mk "Most" 3 2 false "" "" 16)]) 3 24 [.int .i64 0, .int .i64 0, .int .i64 0] [(0, 1), (1, 1), (2, 1)]),
  (124, TI.mk (.struct #[(Field.mk "Id" 3 0 false "" "" 0), (Field.mk "Up" 4 1 false "" "" 8), (Field.mk "Minute" 3 2 false "" "" 16), (Field.mk "Weight" 3 3 false "" "" 24)]) 4 32 [.int .i64 0, .bool false, .int .i64 0, .int .i64 0] [(0, 1), (1, 1), (2, 1), (3, 1)]),
  (131, TI.mk (.struct #[(Field.mk "From" 3 0 false "" "" 0), (Field.mk "To" 3 1 false "" "" 8), (Field.mk "Volume" 3 2 false "" "" 16)]) 3 24 [.int .i64 0, .int .i64 0, .int .i64 0] [(0, 1), (1, 1), (2, 1)]),
  (132, TI.mk (.struct #[(Field.mk "From" 3 0 false "" "" 0), (Field.mk "To" 3 1 false "" "" 8), (Field.mk "Volume" 3 2 false "" "" 16)]) 3 24 [.int .i64 0, .int .i64 0, .int .i64 0] [(0, 1), (1, 1), (2, 1)]),
  (162, TI.mk (.int .u64) 1 8 [.int .u64 0] []),
  (195, TI.mk (.array 24 5) 24 24 [.int .u8 0, .int .u8 0, .int .u8 0, .int .u8 0, .int .u8 0, .int .u8 0, .int .u8 0, .int .u8 0, .int .u8 0, .int .u8 0, .int .u8 0, .int .u8 0, .int .u8 0, .int .u8 0, .int .u8 0, .int .u8 0, .int .u8 0, .int .u8 0, .int .u8 0, .int .u8 0, .int .u8 0, .int .u8 0, .int .u8 0, .int .u8 0] []),
  (200, TI.mk (.interface #[("Error", 226)]) 1 16 [.nilIface] []),
  (201, TI.mk (.interface #[("Error", 226)]) 1 16 [.nilIface] []),
  (204, TI.mk (.array 4 3) 4 32 [.int .i64 0, .int .i64 0, .int .i64 0, .int .i64 0] []),
  (215, TI.mk (.array 20 87) 20 160 [.int .u64 0, .int .u64 0, .int .u64 0, .int .u64 0, .int .u64 0, .int .u64 0, .int .u64 0, .int .u64 0, .int .u64 0, .int .u64 0, .int .u64 0, .int .u64 0, .int .u64 0, .int .u64 0, .int .u64 0, .int .u64 0, .int .u64 0, .int .u64 0, .int .u64 0, .int .u64 0] []),
  (216, TI.mk (.int .u32) 1 4 [.int .u32 0] []),
  (217, TI.mk (.array 65 5) 65 65 [.int .u8 0, .int .u8 0, .int .u8 0, .int .u8 0, .int .u8 0, .int .u8 0, .int .u8 0, .int .u8 0, .int .u8 0, .int .u8 0, .int .u8 0, .int .u8 0, .int .u8 0, .int .u8 0, .int .u8 0, .int .u8 0, .int .u8 0, .int .u8 0, .int .u8 0, .int .u8 0, .int .u8 0, .int .u8 0, .int .u8 0, .int .u8 0, .int .u8 0, .int .u8 0, .int .u8 0, .int .u8 0, .int .u8 0, .int .u8 0, .int .u8 0, .int .u8 0, .int .u8 0, .int .u8 0, .int .u8 0, .int .u8 0, .int .u8 0, .int .u8 0, .int .u8 0, .int .u8 0, .int .u8 0, .int .u8 0, .int .u8 0, .int .u8 0, .int .u8 0, .int .u8 0, .int .u8 0, .int .u8 0, .int .u8 0, .int .u8 0, .int .u8 0, .int .u8 0, .int .u8 0, .int .u8 0, .int .u8 0, .int .u8 0, .int .u8 0, .int .u8 0, .int .u8 0, .int .u8 0, .int .u8 0, .int .u8 0, .int .u8 0, .int .u8 0, .int .u8 0] []),
  (221, TI.mk (.pointer 4) 1 8 [.pointer none] []),
  (222, TI.mk (.pointer 224) 1 8 [.pointer none] []),
  (223, TI.mk (.struct #[(Field.mk "addr" 222 0 false "" "strings" 0), (Field.mk "buf" 46 1 false "" "strings" 8)]) 2 32 [.pointer none, .slice none 0 0] [(0, 1), (1, 1)]),
  (224, TI.mk (.struct #[(Field.mk "addr" 222 0 false "" "strings" 0), (Field.mk "buf" 46 1 false "" "strings" 8)]) 2 32 [.pointer none, .slice none 0 0] [(0, 1), (1, 1)]),
  (228, TI.mk (.func #[101] #[] false) 1 8 [.nilFunc] []),
  (235, TI.mk (.array 256 5) 256 256 [.int .u8 0, .int .u8 0, .int .u8 0, .int .u8 0, .int .u8 0, .int .u8 0, .int .u8 0, .int .u8 0, .int .u8 0, .int .u8 0, .int .u8 0, .int .u8 0, .int .u8 0, .int .u8 0, .int .u8 0, .int .u8 0, .int .u8 0, .int .u8 0, .int .u8 0, .int .u8 0, .int .u8 0, .int .u8 0, .int .u8 0, .int .u8 0, .int .u8 0, .int .u8 0, .int .u8 0, .int .u8 0, .int .u8 0, .int .u8 0, .int .u8 0, .int .u8 0, .int .u8 0, .int .u8 0, .int .u8 0, .int .u8 0, .int .u8 0, .int .u8 0, .int .u8 0, .int .u8 0, .int .u8 0, .int .u8 0, .int .u8 0, .int .u8 0, .int .u8 0, .int .u8 0, .int .u8 0, .int .u8 0, .int .u8 0, .int .u8 0, .int .u8 0, .int .u8 0, .int .u8 0, .int .u8 0, .int .u8 0, .int .u8 0, .int .u8 0, .int .u8 0, .int .u8 0, .int .u8 0, .int .u8 0, .int .u8 0, .int .u8 0, .int .u8 0, .int .u8 0, .int .u8 0, .int .u8 0, .int .u8 0, .int .u8 0, .int .u8 0, .int .u8 0, .int .u8 0, .int .u8 0, .int .u8 0, .int .u8 0, .int .u8 0, .int .u8 0, .int .u8 0, .int .u8 0, .int .u8 0, .int .u8 0, .int .u8 0, .int .u8 0, .int .u8 0, .int .u8 0, .int .u8 0, .int .u8 0, .int .u8 0, .int .u8 0, .int .u8 0, .int .u8 0, .int .u8 0, .int .u8 0, .int .u8 0, .int .u8 0, .int .u8 0, .int .u8 0, .int .u8 0, .int .u8 0, .int .u8 0, .int .u8 0, .int .u8 0, .int .u8 0, .int .u8 0, .int .u8 0, .int .u8 0, .int .u8 0, .int .u8 0, .int .u8 0, .int .u8 0, .int .u8 0, .int .u8 0, .int .u8 0, .int .u8 0, .int .u8 0, .int .u8 0, .int .u8 0, .int .u8 0, .int .u8 0, .int .u8 0, .int .u8 0, .int .u8 0, .int .u8 0, .int .u8 0, .int .u8 0, .int .u8 0, .int .u8 0, .int .u8 0, .int .u8 0, .int .u8 0, .int .u8 0, .int .u8 0, .int .u8 0, .int .u8 0, .int .u8 0, .int .u8 0, .int .u8 0, .int .u8 0, .int .u8 0, .int .u8 0, .int .u8 0, .int .u8 0, .int .u8 0, .int .u8 0, .int .u8 0, .int .u8 0, .int .u8 0, .int .u8 0, .int .u8 0, .int .u8 0, .int .u8 0, .int .u8 0, .int .u8 0, .int .u8 0, .int .u8 0, .int .u8 0, .int .u8 0, .int .u8 0, .int .u8 0, .int .u8 0, .int .u8 0, .int .u8 0, .int .u8 0, .int .u8 0, .int .u8 0, .int .u8 0, .int .u8 0, .int .u8 0, .int .u8 0, .int .u8 0, .int .u8 0, .int .u8 0, .int .u8 0, .int .u8 0, .int .u8 0, .int .u8 0, .int .u8 0, .int .u8 0, .int .u8 0, .int .u8 0, .int .u8 0, .int .u8 0, .int .u8 0, .int .u8 0, .int .u8 0, .int .u8 0, .int .u8 0, .int .u8 0, .int .u8 0, .int .u8 0, .int .u8 0, .int .u8 0, .int .u8 0, .int .u8 0, .int .u8 0, .int .u8 0, .int .u8 0, .int .u8 0, .int .u8 0, .int .u8 0, .int .u8 0, .int .u8 0, .int .u8 0, .int .u8 0, .int .u8 0, .int .u8 0, .int .u8 0, .int .u8 0, .int .u8 0, .int .u8 0, .int .u8 0, .int .u8 0, .int .u8 0, .int .u8 0, .int .u8 0, .int .u8 0, .int .u8 0, .int .u8 0, .int .u8 0, .int .u8 0, .int .u8 0, .int .u8 0, .int .u8 0, .int .u8 0, .int .u8 0, .int .u8 0, .int .u8 0, .int .u8 0, .int .u8 0, .int .u8 0, .int .u8 0, .int .u8 0, .int .u8 0, .int .u8 0, .int .u8 0, .int .u8 0, .int .u8 0, .int .u8 0, .int .u8 0, .int .u8 0, .int .u8 0, .int .u8 0, .int .u8 0, .int .u8 0, .int .u8 0, .int .u8 0, .int .u8 0, .int .u8 0, .int .u8 0, .int .u8 0, .int .u8 0, .int .u8 0, .int .u8 0, .int .u8 0, .int .u8 0, .int .u8 0] []),
  (236, TI.mk (.struct #[(Field.mk "lo" 5 0 false "" "unicode/utf8" 0), (Field.mk "hi" 5 1 false "" "unicode/utf8" 1)]) 2 2 [.int .u8 0, .int .u8 0] [(0, 1), (1, 1)]),
  (237, TI.mk (.struct #[(Field.mk "lo" 5 0 false "" "unicode/utf8" 0), (Field.mk "hi" 5 1 false "" "unicode/utf8" 1)]) 2 2 [.int .u8 0, .int .u8 0] [(0, 1), (1, 1)]),
  (238, TI.mk (.array 16 237) 32 32 [.int .u8 0, .int .u8 0, .int .u8 0, .int .u8 0, .int .u8 0, .int .u8 0, .int .u8 0, .int .u8 0, .int .u8 0, .int .u8 0, .int .u8 0, .int .u8 0, .int .u8 0, .int .u8 0, .int .u8 0, .int .u8 0, .int .u8 0, .int .u8 0, .int .u8 0, .int .u8 0, .int .u8 0, .int .u8 0, .int .u8 0, .int .u8 0, .int .u8 0, .int .u8 0, .int .u8 0, .int .u8 0, .int .u8 0, .int .u8 0, .int .u8 0, .int .u8 0] []),
  (242, TI.mk (.int .i64) 1 8 [.int .i64 0] []),
  (245, TI.mk (.pointer 257) 1 8 [.pointer none] []),
  (248, TI.mk (.pointer 5) 1 8 [.pointer none] []),
  (252, TI.mk (.array 32 5) 32 32 [.int .u8 0, .int .u8 0, .int .u8 0, .int .u8 0, .int .u8 0, .int .u8 0, .int .u8 0, .int .u8 0, .int .u8 0, .int .u8 0, .int .u8 0, .int .u8 0, .int .u8 0, .int .u8 0, .int .u8 0, .int .u8 0, .int .u8 0, .int .u8 0, .int .u8 0, .int .u8 0, .int .u8 0, .int .u8 0, .int .u8 0, .int .u8 0, .int .u8 0, .int .u8 0, .int .u8 0, .int .u8 0, .int .u8 0, .int .u8 0, .int .u8 0, .int .u8 0] []),
  (253, TI.mk (.array 64 5) 64 64 [.int .u8 0, .int .u8 0, .int .u8 0, .int .u8 0, .int .u8 0, .int .u8 0, .int .u8 0, .int .u8 0, .int .u8 0, .int .u8 0, .int .u8 0, .int .u8 0, .int .u8 0, .int .u8 0, .int .u8 0, .int .u8 0, .int .u8 0, .int .u8 0, .int .u8 0, .int .u8 0, .int .u8 0, .int .u8 0, .int .u8 0, .int .u8 0, .int .u8 0, .int .u8 0, .int .u8 0, .int .u8 0, .int .u8 0, .int .u8 0, .int .u8 0, .int .u8 0, .int .u8 0, .int .u8 0, .int .u8 0, .int .u8 0, .int .u8 0, .int .u8 0, .int .u8 0, .int .u8 0, .int .u8 0, .int .u8 0, .int .u8 0, .int .u8 0, .int .u8 0, .int .u8 0, .int .u8 0, .int .u8 0, .int .u8 0, .int .u8 0, .int .u8 0, .int .u8 0, .int .u8 0, .int .u8 0, .int .u8 0, .int .u8 0, .int .u8 0, .int .u8 0, .int .u8 0, .int .u8 0, .int .u8 0, .int .u8 0, .int .u8 0, .int .u8 0] []),
  (256, TI.mk (.struct #[(Field.mk "Func" 9 0 false "" "" 0), (Field.mk "Num" 9 1 false "" "" 16), (Field.mk "Err" 201 2 false "" "" 32)]) 3 48 [.string .empty, .string .empty, .nilIface] [(0, 1), (1, 1), (2, 1)]),
  (257, TI.mk (.struct #[(Field.mk "Func" 9 0 false "" "" 0), (Field.mk "Num" 9 1 false "" "" 16), (Field.mk "Err" 201 2 false "" "" 32)]) 3 48 [.string .empty, .string .empty, .nilIface] [(0, 1), (1, 1), (2, 1)]),
  (266, TI.mk (.pointer 268) 1 8 [.pointer none] []),
  (267, TI.mk (.struct #[(Field.mk "s" 9 0 false "" "errors" 0)]) 1 16 [.string .empty] [(0, 1)]),
  (268, TI.mk (.struct #[(Field.mk "s" 9 0 false "" "errors" 0)]) 1 16 [.string .empty] [(0, 1)]),
  (271, TI.mk (.int .i64) 1 8 [.int .i64 0] []),
  (277, TI.mk (.int .u64) 1 8 [.int .u64 0] []),
  (281, TI.mk (.pointer 3) 1 8 [.pointer none] []),
  (283, TI.mk (.pointer 277) 1 8 [.pointer none] [])]
def fnRows : List Nat := [2, 3, 4, 5, 6, 7, 8, 9, 10, 11, 12, 13, 14, 15, 16, 17, 18, 19, 20, 21, 22, 23, 24, 25, 26, 27, 28, 29, 30, 31, 32, 33, 34, 35, 36, 37, 38, 39, 40, 41, 42, 43, 44, 45, 46, 47, 48, 49, 50, 51, 52, 53, 54, 55, 56, 57, 58, 59, 60, 61, 62, 63, 64, 65, 66, 67, 68, 69, 70, 71, 72, 73, 74, 75, 76, 77, 78, 79, 80, 81, 82, 83, 84, 85, 86, 87, 88, 89, 90, 91, 92, 93, 94, 95, 96, 97, 98, 99, 100, 101, 102, 103, 104, 105, 106, 107, 108, 109, 110, 111, 112, 113, 114, 115, 116, 117, 118, 119, 120, 121, 122, 123, 124, 125, 126, 127, 128, 129, 130, 131, 132, 133, 134, 135, 136, 137, 138, 139, 140, 141, 142, 143, 144, 145, 146, 147, 148, 149, 150, 151, 152, 153, 154, 155, 156, 157, 158, 159, 160, 161, 162, 163, 165, 166, 167, 168, 169, 170, 171, 172, 173, 174, 175, 176, 177, 178, 179, 180, 181, 182, 183, 184, 185, 186, 187, 188, 189, 190, 191, 192, 193, 194, 195, 196, 197, 198, 199, 201, 202, 203, 204, 205, 206, 207, 208, 209, 210, 211, 212, 213, 214, 216, 217, 218, 219, 220, 221, 222, 223, 224, 225, 226, 227, 228, 230, 231, 232, 233, 234, 235, 236, 237, 238, 239, 240, 241, 242, 243, 244, 245, 246, 247, 248, 249, 250, 253, 254, 255, 256, 257, 258, 259, 260, 261, 262, 263, 264, 265, 266, 267, 268, 269, 270, 271, 272, 273, 274, 275, 276, 277, 308]
def eqRows : List Nat := [22, 23, 26, 27, 34, 37, 73, 74, 95, 96, 97, 98, 118, 124, 131, 132, 267, 268]
theorem tyRows_ok : AllTI Tryz.prog tyRows := ⟨⟨by kernel_rfl, by kernel_rfl, by kernel_rfl, by kernel_rfl⟩, ⟨⟨by kernel_rfl, by kernel_rfl, by kernel_rfl, by kernel_rfl⟩, ⟨⟨by kernel_rfl, by kernel_rfl, by kernel_rfl, by kernel_rfl⟩, ⟨⟨by kernel_rfl, by kernel_rfl, by kernel_rfl, by kernel_rfl⟩, ⟨⟨by kernel_rfl, by kernel_rfl, by kernel_rfl, by kernel_rfl⟩, ⟨⟨by kernel_rfl, by kernel_rfl, by kernel_rfl, by kernel_rfl⟩, ⟨⟨by kernel_rfl, by kernel_rfl, by kernel_rfl, by kernel_rfl⟩, ⟨⟨by kernel_rfl, by kernel_rfl, by kernel_rfl, by kernel_rfl⟩, ⟨⟨by kernel_rfl, by kernel_rfl, by kernel_rfl, by kernel_rfl⟩, ⟨⟨by kernel_rfl, by kernel_rfl, by kernel_rfl, by kernel_rfl⟩, ⟨⟨by kernel_rfl, by kernel_rfl, by kernel_rfl, by kernel_rfl⟩, ⟨⟨by kernel_rfl, by kernel_rfl, by kernel_rfl, by kernel_rfl⟩, ⟨⟨by kernel_rfl, by kernel_rfl, by kernel_rfl, by kernel_rfl⟩, ⟨⟨by kernel_rfl, by kernel_rfl, by kernel_rfl, by kernel_rfl⟩, ⟨⟨by kernel_rfl, by kernel_rfl, by kernel_rfl, by kernel_rfl⟩, ⟨⟨by kernel_rfl, by kernel_rfl, by kernel_rfl, by kernel_rfl⟩, ⟨⟨by kernel_rfl, by kernel_rfl, by kernel_rfl, by kernel_rfl⟩, ⟨⟨by kernel_rfl, by kernel_rfl, by kernel_rfl, by kernel_rfl⟩, ⟨⟨by kernel_rfl, by kernel_rfl, by kernel_rfl, by kernel_rfl⟩, ⟨⟨by kernel_rfl, by kernel_rfl, by kernel_rfl, by kernel_rfl⟩, ⟨⟨by kernel_rfl, by kernel_rfl, by kernel_rfl, by kernel_rfl⟩, ⟨⟨by kernel_rfl, by kernel_rfl, by kernel_rfl, by kernel_rfl⟩, ⟨⟨by kernel_rfl, by kernel_rfl, by kernel_rfl, by kernel_rfl⟩, ⟨⟨by kernel_rfl, by kernel_rfl, by kernel_rfl, by kernel_rfl⟩, ⟨⟨by kernel_rfl, by kernel_rfl, by kernel_rfl, by kernel_rfl⟩, ⟨⟨by kernel_rfl, by kernel_rfl, by kernel_rfl, by kernel_rfl⟩, ⟨⟨by kernel_rfl, by kernel_rfl, by kernel_rfl, by kernel_rfl⟩, ⟨⟨by kernel_rfl, by kernel_rfl, by kernel_rfl, by kernel_rfl⟩, ⟨⟨by kernel_rfl, by kernel_rfl, by kernel_rfl, by kernel_rfl⟩, ⟨⟨by kernel_rfl, by kernel_rfl, by kernel_rfl, by kernel_rfl⟩, ⟨⟨by kernel_rfl, by kernel_rfl, by kernel_rfl, by kernel_rfl⟩, ⟨⟨by kernel_rfl, by kernel_rfl, by kernel_rfl, by kernel_rfl⟩, ⟨⟨by kernel_rfl, by kernel_rfl, by kernel_rfl, by kernel_rfl⟩, ⟨⟨by kernel_rfl, by kernel_rfl, by kernel_rfl, by kernel_rfl⟩, ⟨⟨by kernel_rfl, by kernel_rfl, by kernel_rfl, by kernel_rfl⟩, ⟨⟨by kernel_rfl, by kernel_rfl, by kernel_rfl, by kernel_rfl⟩, ⟨⟨by kernel_rfl, by kernel_rfl, by kernel_rfl, by kernel_rfl⟩, ⟨⟨by kernel_rfl, by kernel_rfl, by kernel_rfl, by kernel_rfl⟩, ⟨⟨by kernel_rfl, by kernel_rfl, by kernel_rfl, by kernel_rfl⟩, ⟨⟨by kernel_rfl, by kernel_rfl, by kernel_rfl, by kernel_rfl⟩, ⟨⟨by kernel_rfl, by kernel_rfl, by kernel_rfl, by kernel_rfl⟩, ⟨⟨by kernel_rfl, by kernel_rfl, by kernel_rfl, by kernel_rfl⟩, ⟨⟨by kernel_rfl, by kernel_rfl, by kernel_rfl, by kernel_rfl⟩, ⟨⟨by kernel_rfl, by kernel_rfl, by kernel_rfl, by kernel_rfl⟩, ⟨⟨by kernel_rfl, by kernel_rfl, by kernel_rfl, by kernel_rfl⟩, ⟨⟨by kernel_rfl, by kernel_rfl, by kernel_rfl, by kernel_rfl⟩, ⟨⟨by kernel_rfl, by kernel_rfl, by kernel_rfl, by kernel_rfl⟩, ⟨⟨by kernel_rfl, by kernel_rfl, by kernel_rfl, by kernel_rfl⟩, ⟨⟨by kernel_rfl, by kernel_rfl, by kernel_rfl, by kernel_rfl⟩, ⟨⟨by kernel_rfl, by kernel_rfl, by kernel_rfl, by kernel_rfl⟩, ⟨⟨by kernel_rfl, by kernel_rfl, by kernel_rfl, by kernel_rfl⟩, ⟨⟨by kernel_rfl, by kernel_rfl, by kernel_rfl, by kernel_rfl⟩, ⟨⟨by kernel_rfl, by kernel_rfl, by kernel_rfl, by kernel_rfl⟩, ⟨⟨by kernel_rfl, by kernel_rfl, by kernel_rfl, by kernel_rfl⟩, ⟨⟨by kernel_rfl, by kernel_rfl, by kernel_rfl, by kernel_rfl⟩, ⟨⟨by kernel_rfl, by kernel_rfl, by kernel_rfl, by kernel_rfl⟩, ⟨⟨by kernel_rfl, by kernel_rfl, by kernel_rfl, by kernel_rfl⟩, ⟨⟨by kernel_rfl, by kernel_rfl, by kernel_rfl, by kernel_rfl⟩, ⟨⟨by kernel_rfl, by kernel_rfl, by kernel_rfl, by kernel_rfl⟩, ⟨⟨by kernel_rfl, by kernel_rfl, by kernel_rfl, by kernel_rfl⟩, ⟨⟨by kernel_rfl, by kernel_rfl, by kernel_rfl, by kernel_rfl⟩, ⟨⟨by kernel_rfl, by kernel_rfl, by kernel_rfl, by kernel_rfl⟩, ⟨⟨by kernel_rfl, by kernel_rfl, by kernel_rfl, by kernel_rfl⟩, ⟨⟨by kernel_rfl, by kernel_rfl, by kernel_rfl, by kernel_rfl⟩, ⟨⟨by kernel_rfl, by kernel_rfl, by kernel_rfl, by kernel_rfl⟩, ⟨⟨by kernel_rfl, by kernel_rfl, by kernel_rfl, by kernel_rfl⟩, ⟨⟨by kernel_rfl, by kernel_rfl, by kernel_rfl, by kernel_rfl⟩, ⟨⟨by kernel_rfl, by kernel_rfl, by kernel_rfl, by kernel_rfl⟩, ⟨⟨by kernel_rfl, by kernel_rfl, by kernel_rfl, by kernel_rfl⟩, ⟨⟨by kernel_rfl, by kernel_rfl, by kernel_rfl, by kernel_rfl⟩, ⟨⟨by kernel_rfl, by kernel_rfl, by kernel_rfl, by kernel_rfl⟩, ⟨⟨by kernel_rfl, by kernel_rfl, by kernel_rfl, by kernel_rfl⟩, ⟨⟨by kernel_rfl, by kernel_rfl, by kernel_rfl, by kernel_rfl⟩,  trivial⟩⟩⟩⟩⟩⟩⟩⟩⟩⟩⟩⟩⟩⟩⟩⟩⟩⟩⟩⟩⟩⟩⟩⟩⟩⟩⟩⟩⟩⟩⟩⟩⟩⟩⟩⟩⟩⟩⟩⟩⟩⟩⟩⟩⟩⟩⟩⟩⟩⟩⟩⟩⟩⟩⟩⟩⟩⟩⟩⟩⟩⟩⟩⟩⟩⟩⟩⟩⟩⟩⟩⟩⟩
theorem fnRows_ok : fnGood Tryz.prog fnRows = true := by kernel_rfl
def eqGood (P : Program) : List Nat → Bool
  | [] => true
  | t :: r => !(P.eqGuardType P.depth t) && !(P.stoodInHeld t) && ((P.fieldsOf t).toList.all fun f => f.name != "_") && eqGood P r
theorem eqL_ok {P : Program} {t : Nat} : ∀ (l : List Nat), eqGood P l = true → inL l t = true → P.eqGuardType P.depth t = false ∧ P.stoodInHeld t = false ∧ ((P.fieldsOf t).toList.all fun f => f.name != "_") = true
  | [], _, h => by cases h
  | k :: r, hl, h => by
    unfold inL at h
    simp only [eqGood, Bool.and_eq_true] at hl
    split at h
    · rename_i hk
      have := Nat.eq_of_beq_eq_true hk
      subst this
      obtain ⟨⟨⟨h1, h2⟩, h3⟩, _⟩ := hl
      exact ⟨by simpa using h1, by simpa using h2, h3⟩
    · exact eqL_ok r hl.2 h
theorem eqRows_ok : eqGood Tryz.prog eqRows = true := by kernel_rfl
def tb : Tab := ⟨look tyRows, inL fnRows, inL eqRows⟩
theorem tb_ok : TabOk Tryz.prog tb where
  und := fun t ti h => (look_ok tyRows tyRows_ok h).1
  info := fun t ti h => by
    have h2 := (look_ok tyRows tyRows_ok h).2.1
    cases hi : Tryz.prog.info? t with
    | none => rw [hi] at h2; cases h2
    | some i =>
      rw [hi] at h2
      simp only [Option.map_some, Option.some.injEq, Prod.mk.injEq] at h2
      cases hz : i.zero with
      | none => rw [hz] at h2; exact absurd h2.2.2 (by simp)
      | some z =>
        rw [hz] at h2
        simp only [Option.map_some, Option.some.injEq] at h2
        exact ⟨i, z, rfl, h2.1, h2.2.1, hz, h2.2.2⟩
  zl := fun t ti h => (look_ok tyRows tyRows_ok h).2.2.1
  places := fun t ti fs h hd => by
    have h4 := (look_ok tyRows tyRows_ok h).2.2.2
    rw [hd] at h4
    exact h4
  fns := fun f h => inL_ok fnRows fnRows_ok h
  mixed := by kernel_rfl
  eqs := fun t h => eqL_ok eqRows eqRows_ok h
end Go.Proofs.YtadjhkehfklmnaaGreatDoor
