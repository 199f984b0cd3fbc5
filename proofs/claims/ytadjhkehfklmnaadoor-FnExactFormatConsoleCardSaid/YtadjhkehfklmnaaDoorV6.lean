/-
  Verification conditions of whole bodies: regions in the order of the text and in any order, branches, blocks, loops, results; and that they are enough.
  Conditions: none beyond each statement's own premises.
-/
import Derived.Test.YtadjhkehfklmnaaDoorV5
namespace Go.Proofs.YtadjhkehfklmnaaDoor
set_option linter.unusedSimpArgs false
set_option linter.unusedVariables false
open Go.RowKit

def gv (ops : List Oper) (fr : List Value) (j : Nat) : Option Bool :=
  match ops[j]? with
  | none => none
  | some o => match o.dst with
    | none => none
    | some d => match fr[d]? with
      | some (.bool b) => some b
      | _ => none
def wantO (g : Option (Nat × Bool)) (ops : List Oper) (fr : List Value) : Option Bool :=
  match g with
  | none => some true
  | some (j, wt) => match gv ops fr j, wt with
    | none, _ => some false
    | some true, true => some true
    | some false, false => some true
    | some true, false => some false
    | some false, true => some false
def setO (fr : List Value) (dst : Option Tmp) (v : Value) : List Value :=
  match dst with
  | some d => fr.set d v
  | none => fr
def putK (fr : List Value) (dst : Option Tmp) (v : Value) (K : List Value → Prop) : Prop :=
  match dst with
  | some d => force v fun v => setK fr d v K
  | none => K fr
theorem putK.out {fr : List Value} {dst : Option Tmp} {v : Value} {K : List Value → Prop} (h : putK fr dst v K) : K (setO fr dst v) := by
  unfold putK at h
  cases dst with
  | none => exact h
  | some d => exact h.out.out
def vOp (P : Program) (T : Tab) (w0 : Base) (o : Oper) (fr : List Value) (own : List Own) (K : Value → List Own → Prop) : Prop :=
  match isEff o.op || isConv T o.op with
  | true => vEff P T w0 own (evF fr) o.op K
  | false => vCalm T w0 own (evF fr) o.op fun v => K v own
/-- One operation, and what follows it. The recursions here are written with the recursor itself: so the kernel meets the same terms as the elaborator. -/
def opStep (P : Program) (T : Tab) (w0 : Base) (ops : List Oper) (o : Oper) (S : St) (ih : St → Prop) : Prop :=
  match S with
  | ⟨fr, own⟩ => match wantO o.guard ops fr with
    | some true => vOp P T w0 o fr own fun v own => putK fr o.dst v fun fr => ih ⟨fr, own⟩
    | some false => putK fr o.dst undef fun fr => ih ⟨fr, own⟩
    | none => False
noncomputable def vcOps (P : Program) (T : Tab) (w0 : Base) (ops : List Oper) (K : St → Prop) (l : List Oper) : St → Prop :=
  List.rec (motive := fun _ => St → Prop) (fun S => K S) (fun o _ ih S => opStep P T w0 ops o S ih) l
theorem vcOps_cons {P : Program} {T : Tab} {w0 : Base} {ops : List Oper} {K : St → Prop} {o : Oper} {rest : List Oper} {fr : List Value} {own : List Own} : vcOps P T w0 ops K (o :: rest) ⟨fr, own⟩ = (match wantO o.guard ops fr with
    | some true => vOp P T w0 o fr own fun v own => putK fr o.dst v fun fr => vcOps P T w0 ops K rest ⟨fr, own⟩
    | some false => putK fr o.dst undef fun fr => vcOps P T w0 ops K rest ⟨fr, own⟩
    | none => False) := rfl
/-! ### Regions that draw their order -/
inductive Plan where
  | done
  | take (i : Nat) (p : Plan)
  | br (i : Nat) (p q : Plan)
def Plan.isTake : Plan → Bool
  | .take _ _ => true
  | _ => false
def Plan.ok (ops : Array Oper) : Plan → Nat → Array Bool → List Nat → Bool
  | .done, _, _, rs => rs.isEmpty
  | .take _ _, 0, _, _ => false
  | .take i p, f + 1, l, rs => rs.contains i && Region.free .any ops l i && p.ok ops f (l.setIfInBounds i true) (Region.ready .any ops (l.setIfInBounds i true))
  | .br _ _ _, 0, _, _ => false
  | .br i p q, f + 1, l, rs => match rs with
    | [] => false
    | r :: rs' => Nat.beq r i && p.ok ops f (l.setIfInBounds i true) (Region.ready .any ops (l.setIfInBounds i true)) && q.ok ops (f + 1) l rs' && !q.isTake
inductive VKeep (p K : Prop) : Prop
  | mk (h : p) (k : K) : VKeep p K
inductive VDone (K : St → Prop) (S : St) : Prop
  | same (k : K S) : VDone K S
  | order (ks : List Nat) (hn : ks.Nodup) (own' : List Own) (h : own' = ks.map fun k => S.own.getD k .gone) (k : K ⟨S.fr, own'⟩) : VDone K S
def fixOf (fix : List Nat) (own : List Own) : List Own := fix.map fun k => own.getD k .gone
def doneStep (K : St → Prop) (b : Bool) (S : St) : Prop :=
  match b with
  | true => VDone K S
  | false => True
def takeStep (P : Program) (T : Tab) (w0 : Base) (ops : List Oper) (F : List Own) (i : Nat) (S : St) (ih : Bool → St → Prop) : Prop :=
  match S with
  | ⟨fr, own⟩ => match ops[i]? with
    | none => False
    | some o => match wantO o.guard ops fr with
      | some true => vCalm T w0 F (evF fr) o.op fun v => putK fr o.dst v fun fr => ih true ⟨fr, own⟩
      | some false => putK fr o.dst undef fun fr => ih true ⟨fr, own⟩
      | none => False
def brStep (P : Program) (T : Tab) (w0 : Base) (ops : List Oper) (fix : List Nat) (F : List Own) (i : Nat) (S : St) (ih : Bool → St → Prop) : Prop :=
  match S with
  | ⟨fr, own⟩ => match ops[i]? with
    | none => False
    | some o => match wantO o.guard ops fr with
      | some true => vOp P T w0 o fr own fun v own => VKeep (fixOf fix own = F) (putK fr o.dst v fun fr => ih true ⟨fr, own⟩)
      | some false => putK fr o.dst undef fun fr => ih true ⟨fr, own⟩
      | none => False
noncomputable def vcPlan (P : Program) (T : Tab) (w0 : Base) (ops : List Oper) (fix : List Nat) (F : List Own) (K : St → Prop) (p : Plan) : Bool → St → Prop :=
  Plan.rec (motive := fun _ => Bool → St → Prop) (fun b S => doneStep K b S) (fun i _ ih _ S => takeStep P T w0 ops F i S ih) (fun i _ _ ihp ihq _ S => brStep P T w0 ops fix F i S ihp ∧ ihq false S) p
theorem vcPlan_take {P : Program} {T : Tab} {w0 : Base} {ops : List Oper} {fix : List Nat} {F : List Own} {K : St → Prop} {i : Nat} {p : Plan} {b : Bool} {fr : List Value} {own : List Own} : vcPlan P T w0 ops fix F K (.take i p) b ⟨fr, own⟩ = (match ops[i]? with
    | none => False
    | some o => match wantO o.guard ops fr with
      | some true => vCalm T w0 F (evF fr) o.op fun v => putK fr o.dst v fun fr => vcPlan P T w0 ops fix F K p true ⟨fr, own⟩
      | some false => putK fr o.dst undef fun fr => vcPlan P T w0 ops fix F K p true ⟨fr, own⟩
      | none => False) := rfl
theorem vcPlan_br {P : Program} {T : Tab} {w0 : Base} {ops : List Oper} {fix : List Nat} {F : List Own} {K : St → Prop} {i : Nat} {p q : Plan} {b : Bool} {fr : List Value} {own : List Own} : vcPlan P T w0 ops fix F K (.br i p q) b ⟨fr, own⟩ = ((match ops[i]? with
    | none => False
    | some o => match wantO o.guard ops fr with
      | some true => vOp P T w0 o fr own fun v own => VKeep (fixOf fix own = F) (putK fr o.dst v fun fr => vcPlan P T w0 ops fix F K p true ⟨fr, own⟩)
      | some false => putK fr o.dst undef fun fr => vcPlan P T w0 ops fix F K p true ⟨fr, own⟩
      | none => False) ∧ vcPlan P T w0 ops fix F K q false ⟨fr, own⟩) := rfl
inductive VDraw (P : Program) (T : Tab) (w0 : Base) (ops : Array Oper) (K : St → Prop) (S : St) : Prop
  | mk (p : Plan) (fix : List Nat) (hs : Region.noSelect ops = true) (hok : p.ok ops ops.size (Array.replicate ops.size false) (Region.ready .any ops (Array.replicate ops.size false)) = true)
      (h : vcPlan P T w0 ops.toList fix (fixOf fix S.own) K p true S) : VDraw P T w0 ops K S
section
variable {P : Program} {T : Tab} {w0 : Base}
theorem yielded_eq (ops : List Oper) (fr : List Value) (j : Nat) : yielded ops.toArray fr.toArray j = gv ops fr j := by
  unfold yielded gv
  cases h : ops[j]? with
  | none => simp [h]
  | some o =>
    cases hd : o.dst with
    | none => simp [h, hd]
    | some d =>
      simp only [List.getElem?_toArray, h, Option.bind_some, hd]
      rfl
theorem wanted_eq {o : Oper} {ops : List Oper} {fr : List Value} {b : Bool} (h : wantO o.guard ops fr = some b) : Region.wanted o (yielded ops.toArray fr.toArray) = b := by
  unfold wantO at h
  unfold Region.wanted
  split at h
  · rename_i hg
    cases h
    simp [hg]
  · rename_i j wt hg
    simp only [hg, yielded_eq]
    split at h <;> first | (cases h; done) | (cases h; simp_all)
theorem put_eq (fr : List Value) (dst : Option Tmp) (v : Value) : (⟨fr.toArray, []⟩ : Act).put dst v = ⟨(setO fr dst v).toArray, []⟩ := by
  cases dst <;> simp [Act.put, setO]
theorem vOp.sound (hT : TabOk P T) {o : Oper} {S : St} {K : Value → List Own → Prop} {w : World} {Q : Exit → Act → World → Prop} (h : vOp P T w0 o S.fr S.own K) (m : Mem w0 S.own w) : o.wp P ⟨S.fr.toArray, []⟩ w (Left w0 S.fr o.dst K) Q := by
  unfold vOp at h
  split at h
  · exact vEff.sound hT h m
  · obtain ⟨v, k, e⟩ := vCalm.sound hT w m.toMemR h
    refine wp_value (v := v) (w' := w) ?_ ⟨v, _, k, rfl, m⟩
    rw [evF_eq]
    exact e w m.toMemR
theorem vcOps.sound (hT : TabOk P T) {ops : List Oper} {K : St → Prop} {Q : Exit → Act → World → Prop} (hK : ∀ S w, K S → Mem w0 S.own w → Q .normal ⟨S.fr.toArray, []⟩ w) :
    ∀ (l : List Oper) (S : St) (w : World), vcOps P T w0 ops K l S → Mem w0 S.own w → wpList P ops.toArray Q l ⟨S.fr.toArray, []⟩ w
  | [], S, w, h, m => hK S w h m
  | o :: rest, ⟨fr, own⟩, w, h, m => by
    rw [vcOps_cons] at h
    unfold wpList
    split at h
    · rename_i hw
      rw [if_pos (wanted_eq hw)]
      refine .inl (Oper.wp_mono (fun a' w' hl => ?_) (vOp.sound (S := ⟨fr, own⟩) hT h m))
      obtain ⟨v, own', k, rfl, m'⟩ := hl
      rw [put_eq]
      exact vcOps.sound hT hK rest ⟨_, own'⟩ w' k.out m'
    · rename_i hw
      rw [if_neg (by rw [wanted_eq hw]; decide)]
      rw [put_eq]
      exact vcOps.sound hT hK rest ⟨_, own⟩ w h.out m
    · exact h.elim
def NoP (Q : Exit → Act → World → Prop) : Exit → Act → World → Prop
  | .panic _, _, _ => False
  | e, a, w => Q e a w
theorem NoP.imp {Q : Exit → Act → World → Prop} : ∀ e a w, NoP Q e a w → Q e a w := fun e a w h => by
  cases e <;> first | exact h | exact (show False from h).elim
theorem vcPlan.sound (hT : TabOk P T) {ops : List Oper} {fix : List Nat} {F : List Own} {K : St → Prop} {Q : Exit → Act → World → Prop} (hs : Region.noSelect ops.toArray = true) (hK : ∀ S w, K S → Mem w0 S.own w → Q .normal ⟨S.fr.toArray, []⟩ w) :
    ∀ (p : Plan) (f : Nat) (l : Array Bool) (rs : List Nat) (S : St) (w : World) (b : Bool), p.ok ops.toArray f l rs = true → vcPlan P T w0 ops fix F K p b S → Mem w0 S.own w → fixOf fix S.own = F → (b = false → p.isTake = false) →
      (b = true → rs = Region.ready .any ops.toArray l → wpAnyH P .any ops.toArray (NoP Q) (MemR w0 F) f l ⟨S.fr.toArray, []⟩ w) ∧
      (b = false → ∀ f', f = f' + 1 → ∀ i ∈ rs, wpOp P ops.toArray (NoP Q) i (fun a' w' => MemR w0 F w' ∧ wpAnyH P .any ops.toArray (NoP Q) (MemR w0 F) f' (l.setIfInBounds i true) a' w') ⟨S.fr.toArray, []⟩ w)
  | .done, f, l, rs, S, w, b, hok, h, m, hF, _ => by
    have hrs : rs = [] := by simpa [Plan.ok] using hok
    subst hrs
    refine ⟨fun hb hr => ?_, fun hb f' _ i hi => by simp at hi⟩
    subst hb
    have h' : VDone K S := h
    rcases h' with ⟨k⟩ | ⟨ks, hn, own', e, k⟩
    · exact wpAnyH_done (Q := NoP Q) hr.symm (show NoP Q .normal _ _ from hK S w k m) f
    · exact wpAnyH_done (Q := NoP Q) hr.symm (show NoP Q .normal _ _ from hK ⟨S.fr, own'⟩ w k (by rw [show (⟨S.fr, own'⟩ : St).own = own' from rfl, e]; exact m.sel hn)) f
  | .take i p, 0, l, rs, S, w, b, hok, h, m, hF, _ => by simp [Plan.ok] at hok
  | .take i p, f + 1, l, rs, ⟨fr, own⟩, w, b, hok, h, m, hF, hb0 => by
    simp only [Plan.ok, Bool.and_eq_true] at hok
    obtain ⟨⟨h1, h2⟩, h3⟩ := hok
    rw [vcPlan_take] at h
    have mF : MemR w0 F w := by rw [← hF]; exact m.toR fix
    split at h
    · exact h.elim
    · rename_i o ho
      have ho' : ops.toArray[i]? = some o := by simpa using ho
      have key : ∀ v, YieldsIf P ops.toArray (MemR w0 F) o v ⟨fr.toArray, []⟩ → vcPlan P T w0 ops fix F K p true ⟨setO fr o.dst v, own⟩ → (Region.ready .any ops.toArray l).contains i = true → wpAnyH P .any ops.toArray (NoP Q) (MemR w0 F) (f + 1) l ⟨fr.toArray, []⟩ w := fun v hy hv hr => by
        refine wpAnyH_take ho' hs h2 hr (fun _ _ _ hh => hh) hy mF ?_
        rw [put_eq]
        exact (vcPlan.sound hT hs hK p f _ _ ⟨setO fr o.dst v, own⟩ w true h3 hv m hF (fun e => by cases e)).1 rfl rfl
      have both : ∀ v, YieldsIf P ops.toArray (MemR w0 F) o v ⟨fr.toArray, []⟩ → vcPlan P T w0 ops fix F K p true ⟨setO fr o.dst v, own⟩ → b = true → rs = Region.ready .any ops.toArray l → wpAnyH P .any ops.toArray (NoP Q) (MemR w0 F) (f + 1) l ⟨fr.toArray, []⟩ w := fun v hy hv _ hr => key v hy hv (hr ▸ h1)
      cases b with
      | false => exact absurd (hb0 rfl) (by simp [Plan.isTake])
      | true =>
        refine ⟨fun hb hr => ?_, fun hb => by cases hb⟩
        split at h
        · rename_i hw
          obtain ⟨v, k, e⟩ := vCalm.sound hT w mF h
          exact both v (.inl ⟨wanted_eq hw, fun w' m' => by rw [evF_eq]; exact e w' m'⟩) k.out rfl hr
        · rename_i hw
          exact both undef (.inr ⟨wanted_eq hw, rfl⟩) h.out rfl hr
        · exact h.elim
  | .br i p q, 0, l, rs, S, w, b, hok, h, m, hF, _ => by simp [Plan.ok] at hok
  | .br i p q, f + 1, l, rs, ⟨fr, own⟩, w, b, hok, h, m, hF, _ => by
    simp only [Plan.ok] at hok
    split at hok
    · cases hok
    · rename_i r rs'
      simp only [Bool.and_eq_true] at hok
      obtain ⟨⟨⟨h1, h2⟩, h3⟩, h4⟩ := hok
      have h1 := Nat.eq_of_beq_eq_true h1
      subst h1
      rw [vcPlan_br] at h
      obtain ⟨ha, hq⟩ := h
      have mF : MemR w0 F w := by rw [← hF]; exact m.toR fix
      have first : wpOp P ops.toArray (NoP Q) r (fun a' w' => MemR w0 F w' ∧ wpAnyH P .any ops.toArray (NoP Q) (MemR w0 F) f (l.setIfInBounds r true) a' w') ⟨fr.toArray, []⟩ w := by
        unfold wpOp
        split at ha
        · exact ha.elim
        · rename_i o ho
          have ho' : ops.toArray[r]? = some o := by simpa using ho
          simp only [ho']
          split at ha
          · rename_i hw
            rw [if_pos (wanted_eq hw)]
            refine .inl (Oper.wp_mono (fun a' w' hl => ?_) (vOp.sound (S := ⟨fr, own⟩) hT ha m))
            obtain ⟨v, own', ⟨hk, k⟩, rfl, m'⟩ := hl
            refine ⟨by rw [← hk]; exact m'.toR fix, ?_⟩
            rw [put_eq]
            exact (vcPlan.sound hT hs hK p f _ _ ⟨_, own'⟩ w' true h2 k.out m' hk (fun e => by cases e)).1 rfl rfl
          · rename_i hw
            rw [if_neg (by rw [wanted_eq hw]; decide)]
            refine ⟨mF, ?_⟩
            rw [put_eq]
            exact (vcPlan.sound hT hs hK p f _ _ ⟨setO fr o.dst undef, own⟩ w true h2 ha.out m hF (fun e => by cases e)).1 rfl rfl
          · exact ha.elim
      have rest := (vcPlan.sound hT hs hK q (f + 1) l rs' ⟨fr, own⟩ w false h3 hq m hF (fun _ => by simpa using h4)).2 rfl f rfl
      have all : ∀ i ∈ r :: rs', wpOp P ops.toArray (NoP Q) i (fun a' w' => MemR w0 F w' ∧ wpAnyH P .any ops.toArray (NoP Q) (MemR w0 F) f (l.setIfInBounds i true) a' w') ⟨fr.toArray, []⟩ w := fun i hi => by
        rcases List.mem_cons.1 hi with rfl | hi
        · exact first
        · exact rest i hi
      exact ⟨fun _ hr => wpAnyH_all (hr.symm) (by simp) all, fun _ f' e i hi => by cases e; exact all i hi⟩
end
end Go.Proofs.YtadjhkehfklmnaaDoor
