/-
  Texts joined: how the calls that the law reaches are walked, and the plain laws behind them.
  Conditions: none beyond each statement's own premises.
-/
import Derived.Test.YtadjhkehfklmnaaGreatDoorMx22
import Derived.Test.YtadjhkehfklmnaaGreatDoorCards
import Derived.Test.YtadjhkehfklmnaaGreatDoorTie
import Derived.LaidLaws
import Derived.LaidHandle
import Derived.Lib.LaidTab
import Derived.Lib.LaidIn
import Derived.Stop.LaidErr
import Derived.SevenTiedAt
import Derived.Handed
namespace Go.Proofs.YtadjhkehfklmnaaGreatDoor
set_option linter.unusedSimpArgs false
set_option linter.unusedVariables false
open Go.RowKit
set_option maxRecDepth 10000
theorem xy_of {s t : List UInt8} {i : Nat} (h : rcd s i = rcd t i) : xsL s i = xsL t i ∧ ysL s i = ysL t i := by
  rw [rcd_xy, rcd_xy] at h
  injection h with h1 h2
  exact ⟨tx_inj h1, tx_inj h2⟩
theorem xy_is {s x y : List UInt8} {i : Nat} (h : rcd s i = ⟨tx x, tx y⟩) : xsL s i = x ∧ ysL s i = y := by
  rw [rcd_xy] at h
  injection h with h1 h2
  exact ⟨tx_inj h1, tx_inj h2⟩
theorem Co.st_congr (d : Co) {x y : Nat → List UInt8} : ∀ {k : Nat}, (∀ i, i < k → x i = y i) → d.st x k = d.st y k
  | 0, _ => rfl
  | k + 1, h => by
    show ((d.st x k).exec (x k)).1 = ((d.st y k).exec (y k)).1
    rw [Co.st_congr d (fun i hi => h i (Nat.lt_succ_of_lt hi)), h k (Nat.lt_succ_self k)]
theorem Co.rp_congr (d : Co) {x y : Nat → List UInt8} {k : Nat} (h : ∀ i, i ≤ k → x i = y i) : d.rp x k = d.rp y k := by
  show ((d.st x k).exec (x k)).2 = ((d.st y k).exec (y k)).2
  rw [Co.st_congr d (fun i hi => h i (Nat.le_of_lt hi)), h k (Nat.le_refl k)]
def Co.tex (d : Co) : List UInt8 := d.du ++ d.pe
def Co.told (d0 d : Co) : Prop := d.good ∧ d = d0.st (xsL d.tex) (cnt d.tex) ∧ ∀ i, i < cnt d.tex → d0.rp (xsL d.tex) i = ysL d.tex i
theorem Co.told_exec {d0 d : Co} (h : d0.told d) (line : List UInt8) : d0.told (d.exec line).1 := by
  have hg := h.1
  by_cases h2 : okR line []
  · by_cases h3 : d.log.count = 60
    · rw [Co.exec_full hg h2 h3]; exact h
    · have hge := Co.exec_good hg line
      have hr := Co.rec_ok hg.fit h2
      have hx := Co.exec_yes hg h2 h3
      obtain ⟨k, hk, _⟩ := okL_nat hg.2.2.2
      have hok := hg.2.2.2
      rw [hk] at hok
      obtain ⟨_, hc, hc2, hold, hnew, _, _⟩ := okL_app hok hr (by omega)
      have htex : ((d.exec line).1).tex = d.du ++ (d.pe ++ (ln k line (cutR (d.cmd line).2) ++ [10])) := by
        rw [hx]
        show ((d.cmd line).1.logged d line (cutR (d.cmd line).2)).du ++ ((d.cmd line).1.logged d line (cutR (d.cmd line).2)).pe = _
        rw [Co.logged_du, Co.logged_pe, hk, Int.toNat_natCast]
      have hr2 : (d.exec line).2 = cutR (d.cmd line).2 := by rw [hx]
      rw [← htex] at hc2 hold hnew
      clear htex hx hr
      obtain ⟨e, he⟩ : ∃ e, e = (d.exec line).1 := ⟨_, rfl⟩
      rw [← he] at hc2 hold hnew hge ⊢
      generalize cutR (d.cmd line).2 = r at *
      have hct : cnt d.tex = k := hc
      have hxs : ∀ i, i < k → xsL e.tex i = xsL d.tex i := fun i hi => (xy_of (hold i hi)).1
      have hys : ∀ i, i < k → ysL e.tex i = ysL d.tex i := fun i hi => (xy_of (hold i hi)).2
      obtain ⟨hx1, hy1⟩ := xy_is hnew
      have hst : d0.st (xsL e.tex) k = d := by
        rw [Co.st_congr d0 hxs, ← hct]
        exact h.2.1.symm
      have hrp : ∀ i, i < k → d0.rp (xsL e.tex) i = ysL e.tex i := fun i hi => by
        rw [Co.rp_congr d0 (fun j hj => hxs j (Nat.lt_of_le_of_lt hj hi)), hys i hi]
        exact h.2.2 i (by omega)
      refine ⟨hge, ?_, fun i hi => ?_⟩
      · rw [hc2]
        show e = ((d0.st (xsL e.tex) k).exec (xsL e.tex k)).1
        rw [hst, hx1, he]
      · rw [hc2] at hi
        rcases Nat.lt_or_ge i k with h4 | h4
        · exact hrp i h4
        · obtain rfl : i = k := by omega
          show ((d0.st (xsL e.tex) i).exec (xsL e.tex i)).2 = _
          rw [hst, hx1, hy1, hr2]
  · rw [Co.exec_bad hg h2]; exact h
theorem Co.told_st {d0 d : Co} (h : d0.told d) (x : Nat → List UInt8) : ∀ k, d0.told (d.st x k)
  | 0 => h
  | k + 1 => Co.told_exec (Co.told_st h x k) (x k)
theorem Co.told_fresh {a b : Int} {n : Nat} {f : Nat → Ba} (h : okNew a b n f) : (coNew a b n f).told (coNew a b n f) := by
  rw [coNew_yes h]
  have e : (Co.fresh (Lo.new a b) n f).tex = [] := rfl
  refine ⟨⟨h.1, h.2, ⟨fun i hi => absurd hi (Nat.not_lt_zero i), Nat.zero_le _⟩, ?_⟩, ?_, fun i hi => ?_⟩
  · show okL [] [] 0
    unfold okL
    rw [List.append_nil, cnt_nil]
    exact ⟨rfl, rfl, rfl⟩
  · rw [e, cnt_nil]; rfl
  · rw [e, cnt_nil] at hi
    exact absurd hi (Nat.not_lt_zero i)
theorem Co.told_mis {d0 d : Co} (h : d0.told d) {q : List UInt8} (h1 : cnt q ≤ cnt d.tex) (h2 : ∀ i, i < cnt q → rcd q i = rcd d.tex i) : misN (difL d0 q) (cnt q) 0 = cnt q := by
  have := misN_none (p := difL d0 q) (f := cnt q) (k := 0) fun i _ hi hd => by
    rw [Nat.zero_add] at hi
    refine hd ?_
    rw [Co.rp_congr d0 (fun j hj => (xy_of (h2 j (Nat.lt_of_le_of_lt hj hi))).1), (xy_of (h2 i hi)).2]
    exact h.2.2 i (by omega)
  rw [Nat.zero_add] at this
  exact this
theorem Co.told_whole {d0 d : Co} (h : d0.told d) : misN (difL d0 d.tex) (cnt d.tex) 0 = cnt d.tex := Co.told_mis h (Nat.le_refl _) fun _ _ => rfl
theorem Co.told_crash {d0 d : Co} (h : d0.told d) {k : Nat} (hk : k ≤ d.pe.length) {s q : List UInt8} (hs : s = d.du ++ flipL (d.pe.take k) false) (hq : q = s.take (ends s (cnt s))) :
    okL q [] (cnt s : Nat) ∧ misN (difL d0 (q ++ [])) (cnt (q ++ [])) 0 = cnt s ∧ s.length ≤ 30000 := by
  have hok := h.1.2.2.2
  have hlen := okL_len hok
  obtain ⟨_, c1, c2⟩ := crash_read (torn := false) hok hk
  rw [← hs] at c1 c2
  have hsl : s.length ≤ 30000 := by
    rw [hs, List.length_append, flipL_len, List.length_take]
    omega
  have t1 := take_ok s
  rw [← hq] at t1
  have hcq : cnt q = cnt s := by
    have := t1.2.1
    rw [List.append_nil] at this
    omega
  have hsq : s = q ++ s.drop (ends s (cnt s)) := by rw [hq, List.take_append_drop]
  have hr : ∀ i, i < cnt s → rcd q i = rcd s i := fun i hi => by
    have hst := cnt_step (s := q) (j := i) (by omega)
    have e1 := app_ends (d := q) (p := s.drop (ends s (cnt s))) (k := i) (by omega)
    have e2 := (lin_app (p := s.drop (ends s (cnt s))) hst.2.1).1
    rw [← hsq] at e1 e2
    unfold rcd
    rw [e1, e2]
  refine ⟨t1, ?_, hsl⟩
  rw [List.append_nil, Co.told_mis h (by rw [hcq]; exact c1) (fun i hi => by rw [hcq] at hi; rw [hr i hi, c2 i hi]; rfl), hcq]
theorem rpl_told {a b : Int} {n : Nat} {f : Nat → Ba} {d : Co} (h : okNew a b n f) (ht : (coNew a b n f).told d) : rplV a b n f d.du d.pe d.log.count = (cnt d.tex, true) := by
  rw [rplV_yes h ht.1.2.2.2]
  exact congrArg (fun x => (x, true)) (Co.told_whole ht)
theorem rpl_rec {a b : Int} {n : Nat} {f : Nat → Ba} {d : Co} (h : okNew a b n f) (ht : (coNew a b n f).told d) {k : Nat} (hk : k ≤ d.pe.length) {s q : List UInt8} (hs : s = d.du ++ flipL (d.pe.take k) false) (hq : q = s.take (ends s (cnt s))) : rplV a b n f q [] (cnt s : Nat) = (cnt s, true) := by
  obtain ⟨h1, h2, _⟩ := Co.told_crash ht hk hs hq
  rw [rplV_yes h h1, h2]
theorem Co.exec_logs {d : Co} {x : List UInt8} (hg : d.good) (h2 : okR x []) (h3 : ¬ d.log.count = 60) : ∃ k : Nat, d.log.count = k ∧ (d.exec x).1.log.count = (k : Int) + 1 ∧ cnt ((d.exec x).1.du ++ (d.exec x).1.pe) = k + 1 ∧ rcd ((d.exec x).1.du ++ (d.exec x).1.pe) k = ⟨tx x, tx (d.exec x).2⟩ := by
  have hr := Co.rec_ok hg.fit h2
  have hx := Co.exec_yes hg h2 h3
  obtain ⟨k, hk, _⟩ := okL_nat hg.2.2.2
  have hok := hg.2.2.2
  rw [hk] at hok
  obtain ⟨_, hc, hc2, hold, hnew, _, _⟩ := okL_app hok hr (by omega)
  refine ⟨k, hk, ?_, ?_, ?_⟩
  · rw [hx]
    show d.log.count + 1 = _
    rw [hk]
  · rw [hx]
    show cnt (((d.cmd x).1.logged d x (cutR (d.cmd x).2)).du ++ ((d.cmd x).1.logged d x (cutR (d.cmd x).2)).pe) = _
    rw [Co.logged_du, Co.logged_pe, hk, Int.toNat_natCast]
    exact hc2
  · rw [hx]
    show rcd (((d.cmd x).1.logged d x (cutR (d.cmd x).2)).du ++ ((d.cmd x).1.logged d x (cutR (d.cmd x).2)).pe) k = _
    rw [Co.logged_du, Co.logged_pe, hk, Int.toNat_natCast]
    exact hnew
theorem Co.exec_else {d : Co} {x : List UInt8} (h : ¬ (d.good ∧ okR x [] ∧ ¬ d.log.count = 60)) : d.exec x = (d, wNo) ∨ d.exec x = (d, wBad) ∨ d.exec x = (d, wFull) := by
  by_cases hg : d.good
  · by_cases h2 : okR x []
    · by_cases h3 : d.log.count = 60
      · exact .inr (.inr (Co.exec_full hg h2 h3))
      · exact absurd ⟨hg, h2, h3⟩ h
    · exact .inr (.inl (Co.exec_bad hg h2))
  · exact .inl (Co.exec_no hg)
end Go.Proofs.YtadjhkehfklmnaaGreatDoor
namespace Go.Proofs.YtadjhkehfklmnaaGreatDoor
set_option linter.unusedSimpArgs false
set_option linter.unusedVariables false
open Go.ChangeShapes Go.WideShapes Go.ChangeAt Go.RowKit
set_option maxRecDepth 10000
theorem law_lift_shaped {H : Type} {enc : TypeId × Value → H} {C : Checked} {os : Os} {f : FuncId} {fn : Func} {s : ChangeSpec} {conds : List PathCond} {tb : TypeId} {laid : List (String × DataW Unit)}
    (own : ownKnob C.prog.godebug = none) (started : os.Started) (noInit : C.prog.inits.idxOf? f = none) (hfn : C.prog.funcs[f]? = some fn)
    (witness : ∃ (w : World) (tape : Tape) (i : Input), w.os = os ∧ (w.forCall tape i).Shaped C.prog ∧ i.vars = [] ∧ Input.okWide C.prog (w.forCall tape i) .any w.heap.size f i ∧
      ((s.pre enc C.prog fn conds false (w.forCall tape i).memory i.args ∧ laidMetH C.prog laid (w.forCall tape i).memory) ∧ sizedMet enc C.prog fn (OpenSpec.ofChange s) false (w.forCall tape i).memory i.args) ∧ Assume.holds {} C.prog (lone (Frame.enter C.prog f i.args .normal) [] (w.forCall tape i)))
    (hvars : s.vars = []) (hspec : ∀ ds : List (DataW H), ds.length = fn.params.size → s.fn H (ds ++ []) = { results := [.lit (.bool true)], args := ds })
    (hres : fn.resultTypes = #[tb]) (hbool : C.prog.underlying tb = some .bool) (hl : laidOutB C.prog = true)
    (hr : (fn.params.toList.all fun t => C.prog.readableRec t && decide (t < C.prog.types.size)) = true)
    (contract : ∀ (W : World) (base : Nat) (args : Array Value) (ds : List (DataW H)) (p : List MemPlace),
      (∀ (j : Nat) t v, fn.params[j]? = some t → args[j]? = some v → Value.okWide C.prog W .any base t v) →
      DataW.TrodAll enc C.prog W 0 (fun _ => true) true fn.params.toList args.toList ds p → laidMetH C.prog laid W → W.ShapedOpen C.prog → Calls C.prog f args W (Post (.bool true) W)) :
    ReturnsInHanded {} C os f .any (fun w args => (s.pre enc C.prog fn conds false w args ∧ laidMetH C.prog laid w) ∧ sizedMet enc C.prog fn (OpenSpec.ofChange s) false w args) (s.post enc C.prog fn false true false false) := by
  refine returnsInHanded_of_calls own started noInit witness ?_
  intro w tape i _ hsh _ hok hpre hholds
  obtain ⟨_, _, _, fn', hfn', _, _, _, _, hval0⟩ := hok
  have e0 : fn = fn' := (Option.some.inj (hfn'.symm.trans hfn)).symm
  subst e0
  obtain ⟨⟨⟨ds, gs, before, hw, hc⟩, hx⟩, hz⟩ := hpre
  have hw' := DataW.Whole.of_heap (w' := w.forCall tape i) (by rfl) hw
  have hL : laidMetH C.prog laid (w.forCall tape i) := hx.of_heap (by rfl)
  have main : ∀ (W : World) (base : Nat) (args : Array Value), W.ShapedOpen C.prog → (∀ (j : Nat) t v, fn.params[j]? = some t → args[j]? = some v → Value.okWide C.prog W .any base t v) → DataW.Whole enc C.prog fn.params.toList s.vars false W args.toList ds gs before → laidMetH C.prog laid W → Calls C.prog f args W fun e W' => ∃ v, e = .returned v ∧ s.post enc C.prog fn false true false false W args v W' := by
    intro W base args hsh hval hW hL
    have hW' := hW
    obtain ⟨p, q, hA, hV, rfl, _, _⟩ := hW
    rw [hvars] at hV
    obtain ⟨rfl, rfl⟩ := trodVars_none hV
    refine (contract W base args ds p hval hA hL hsh).mono fun e W' ⟨he, hb⟩ => ?_
    subst he
    have hlen : ds.length = fn.params.size := by
      have : ∀ (ts : List TypeId) (vs : List Value) (ds : List (DataW H)) (ps : List MemPlace), DataW.TrodAll enc C.prog W 0 (fun _ => true) true ts vs ds ps → ds.length = ts.length := by
        intro ts
        induction ts with
        | nil => intro vs ds ps h; cases vs <;> cases ds <;> simp [DataW.TrodAll] at h ⊢
        | cons t ts ih =>
          intro vs ds ps h
          obtain ⟨v, vs', d, ds', p, q, rfl, rfl, rfl, _, h2⟩ := trodAll_cons h
          simp [ih _ _ _ h2]
      simpa using this _ _ _ _ hA
    have hsp := hspec ds hlen
    refine ⟨_, rfl, ds, [], p ++ [], [], p, [], hW', ?_, ?_, ?_, hb.frame _, fun h => by cases h⟩
    · rw [hsp, hres]
      exact trodAll_mk1 (shut_bool hbool true)
    · rw [hsp]
      refine trodAll_below hl hb _ _ _ _ (fun t ht => ?_) (fun x hx => ?_) hA
      · have := List.all_eq_true.1 hr t ht
        simpa using this
      · exact hW'.lt x (by simpa using hx)
    · rw [hvars, hsp]
      rfl
  refine (main (w.forCall tape i) w.heap.size i.args hsh hval0 hw' hL).mono fun e W' ⟨v, he, hp⟩ => ?_
  subst he
  exact ChangeSpec.post_blind hp
def litV : DataW Unit → List Value
  | .lit (.int k z) => [.int k z]
  | _ => []
def cellsD : DataW Unit → Array Value
  | .agg l => (l.flatMap fun d => match d with
    | .agg l2 => l2.flatMap litV
    | d => litV d).toArray
  | _ => #[]
noncomputable def putC (g : Nat) (cs : Array Value) (w : World) : World :=
  { w with heap := w.heap.modify g fun
      | .cells _ t frozen => .cells cs t frozen
      | o => o }
def laidL : List (String × DataW Unit) := [("math/bits.deBruijn32tab", Rows.laid_math_bits_deBruijn32tab), ("math/bits.deBruijn64tab", Rows.laid_math_bits_deBruijn64tab), ("internal/strconv.uint64pow10", Rows.laid_internal_strconv_uint64pow10), ("unicode/utf8.acceptRanges", Rows.laid_unicode_utf8_acceptRanges), ("strconv.ErrRange", Rows.laid_strconv_ErrRange), ("strconv.ErrSyntax", Rows.laid_strconv_ErrSyntax), ("unicode/utf8.first", Rows.laid_unicode_utf8_first)]
noncomputable def laidWorld (os : Os) : World :=
  let N := (World.settled Tryz.prog os).heap.size
  putC 4 (cellsD Rows.laid_math_bits_deBruijn32tab) (putC 5 (cellsD Rows.laid_math_bits_deBruijn64tab) (putC 1 (cellsD Rows.laid_internal_strconv_uint64pow10) (putC 3 (cellsD Rows.laid_unicode_utf8_acceptRanges) (putC 2 (cellsD Rows.laid_unicode_utf8_first)
    (putC 7 #[.iface 266 (.pointer (some ⟨N, 0, none⟩))] (putC 6 #[.iface 266 (.pointer (some ⟨N + 1, 0, none⟩))]
      (World.holding Tryz.prog os ⟨#[.cells #[.string ⟨#[118, 97, 108, 117, 101, 32, 111, 117, 116, 32, 111, 102, 32, 114, 97, 110, 103, 101]⟩] 268, .cells #[.string ⟨#[105, 110, 118, 97, 108, 105, 100, 32, 115, 121, 110, 116, 97, 120]⟩] 268], #[], []⟩)))))))
theorem laid_met (os : Os) (args : Array Value) : laidMetH Tryz.prog laidL ((laidWorld os).forCall (fun _ _ => 0) ⟨#[], args, []⟩).memory :=
  show laidMet Tryz.prog laidL _ from laidMet_of_run' 8 (by kernel_rfl) (by kernel_rfl)
theorem star_es : "*" ++ "errors.errorString" = "*errors.errorString" := by decide
theorem row_es (u : TypeId) (h : Tryz.prog.typeName? 3 u = some "*errors.errorString") : u = 266 :=
  typeName_ptr_named (nm := "errors.errorString") (by rw [star_es]; kernel_rfl) (by kernel_rfl) (by decide) u (by rw [star_es]; exact h)
theorem gES : Tryz.prog.globalNamed "strconv.ErrSyntax" = some 6 := by kernel_rfl
theorem pt2_is {W : World} (h : laidMetH Tryz.prog laidL W) (hsh : W.ShapedOpen Tryz.prog) : PT2 W := by
  have h' : laidMet Tryz.prog laidL W := h
  have h3 := h'.tail.tail
  rw [show ("internal/strconv.uint64pow10", (Rows.laid_internal_strconv_uint64pow10 : DataW Unit)) = ("internal/strconv.uint64pow10", Lib.tabData .u64 Lib.pow10Tab) from by kernel_rfl] at h3
  have h5 : laidMet Tryz.prog [("strconv.ErrSyntax", .iface "*errors.errorString" (.ptr (.agg [.lit (.string [105, 110, 118, 97, 108, 105, 100, 32, 115, 121, 110, 116, 97, 120])]))), ("unicode/utf8.first", Rows.laid_unicode_utf8_first)] W := h'.tail.tail.tail.tail.tail
  refine ⟨Lib.tabIs_of_head (t := 215) (e := 87) (n := 20) gPTab (by kernel_rfl) (by kernel_rfl) (by kernel_rfl) (by kernel_rfl) (by kernel_rfl) h3, ?_, ?_⟩
  · exact cell_of_shapedOpen_int (zero := #[.int .i64 0]) (t := 3) hsh (of_decide_eq_true (by kernel_rfl)) (by kernel_rfl) rfl (by kernel_rfl) (by kernel_rfl) Tryz.underlying3
  · obtain ⟨a, s, hv, _⟩ := laid_sentinel h5 gES (ti := 201) (by kernel_rfl) Tryz.underlying201 row_es Tryz.underlying266 Tryz.underlying268 rfl rfl Tryz.underlying9 (by kernel_rfl) (by kernel_rfl)
    exact ⟨_, _, by have h0 := World.var?_cell gES hv 0; simpa using h0⟩
end Go.Proofs.YtadjhkehfklmnaaGreatDoor
namespace Go.Proofs.YtadjhkehfklmnaaGreatDoor
set_option linter.unusedSimpArgs false
set_option linter.unusedVariables false
open Go.ChangeShapes Go.WideShapes Go.ChangeAt Go.RowKit
set_option maxRecDepth 10000
theorem joined_parts {P : Program} {f : FuncId} {fn : Func} {s : ChangeSpec} {c : OpenClaim}
    (h1 : (c.wf (OpenSpec.ofChange s) && laidOutB P && mapsRowed P) = true)
    (h2 : (fn.params.all (P.readableRec ·) && namedTie P c.named s.vars && (c.stops == []) && (P.stops == []) && (c.knobs == []) && (P.stopKnobs == [])) = true)
    (h3 : (c.inPlace == P.inPlace f) = true) (h4 : (c.unfollowed == P.unfollowed f) = true) (h5 : (c.recurses == P.recurses f) = true) (h6 : (c.named == P.varsNamed f) = true)
    (h7 : ((c.maps == (fn.params.toList ++ s.plain.varTypes P).any (P.mapsRec ·)) && (c.ifaces == (fn.params.toList ++ s.plain.varTypes P).any (P.ifacesRec ·)) && (c.mapsOut == P.mapsAmong fn.resultTypes.toList) &&
      (c.loops == (fn.params.toList ++ s.plain.varTypes P).any (P.loopsFrom ·)) && (c.wideKeys == (fn.params.toList ++ s.plain.varTypes P ++ fn.resultTypes.toList).any (P.wideKeysFrom ·)) &&
      s.vars.all (P.varReadable ·) && fn.resultTypes.all (fun t => P.readableRec t && decide (t < P.types.size)) && (c.ifacesOut == fn.resultTypes.toList.any (P.ifacesRec ·)) && (c.loopsOut == fn.resultTypes.toList.any (P.loopsFrom ·))) = true)
    (h8 : ((c.plainKeys == P.plainKeys) && c.shortTexts.isNone && P.stopsHeard && P.mayEnter) = true) (h9 : ((c.lifted == P.liftsFinal) && (P.make == some c.make)) = true)
    (h10 : ((c.kinds == (if c.domain.isEmpty then [] else fn.params.toList.map fun t => match P.underlying t with | some (.int k) => some k | _ => none)) && (c.pinned == c.pinnedBy) &&
      (c.veiled == (fn.params.toList ++ s.plain.varTypes P ++ fn.resultTypes.toList).any (P.veiledRec ·)) && c.veiledFits P fn.params.toList (fn.params.toList ++ s.plain.varTypes P ++ fn.resultTypes.toList)) = true) : joinedFacts P f fn s c = true := by
  unfold joinedFacts
  rw [Bool.and_eq_true, Bool.and_eq_true] at h1
  rw [Bool.and_eq_true, Bool.and_eq_true, Bool.and_eq_true, Bool.and_eq_true, Bool.and_eq_true] at h2
  rw [Bool.and_eq_true, Bool.and_eq_true, Bool.and_eq_true, Bool.and_eq_true, Bool.and_eq_true, Bool.and_eq_true, Bool.and_eq_true, Bool.and_eq_true] at h7
  rw [Bool.and_eq_true, Bool.and_eq_true, Bool.and_eq_true] at h8
  rw [Bool.and_eq_true] at h9
  rw [Bool.and_eq_true, Bool.and_eq_true, Bool.and_eq_true] at h10
  obtain ⟨⟨a1, a2⟩, a3⟩ := h1
  obtain ⟨⟨⟨⟨⟨b1, b2⟩, b3⟩, b4⟩, b5⟩, b6⟩ := h2
  obtain ⟨⟨⟨⟨⟨⟨⟨⟨d1, d2⟩, d3⟩, d4⟩, d5⟩, d6⟩, d7⟩, d8⟩, d9⟩ := h7
  obtain ⟨⟨⟨e1, e2⟩, e3⟩, e4⟩ := h8
  obtain ⟨f1, f2⟩ := h9
  obtain ⟨⟨⟨g1, g2⟩, g3⟩, g4⟩ := h10
  rw [a1, a2, a3, b1, b2, b3, b4, b5, b6, h3, h4, h5, h6, d1, d2, d3, d4, d5, d6, d7, d8, d9, e1, e2, e3, e4, f1, f2]
  rw [Bool.and_eq_true, Bool.and_eq_true, Bool.and_eq_true, Bool.and_eq_true]
  exact ⟨⟨⟨⟨rfl, g1⟩, g2⟩, g3⟩, g4⟩
end Go.Proofs.YtadjhkehfklmnaaGreatDoor
namespace Go.Proofs.YtadjhkehfklmnaaGreatDoor
set_option linter.unusedSimpArgs false
set_option linter.unusedVariables false
open Go.RowKit
set_option maxRecDepth 10000
def addT (b : Bool) (l s : List UInt8) : List UInt8 := if b then s ++ l else s
theorem addT_yes {b : Bool} {l s : List UInt8} (h : b = true) : addT b l s = s ++ l := by rw [h]; rfl
theorem addT_no {b : Bool} {l s : List UInt8} (h : ¬ b = true) : addT b l s = s := by
  cases b
  · rfl
  · exact absurd rfl h
theorem addT_len (b : Bool) (l s : List UInt8) : (addT b l s).length ≤ s.length + l.length := by
  cases b
  · exact Nat.le_add_right _ _
  · show (s ++ l).length ≤ _
    rw [List.length_append]; exact Nat.le_refl _
def lockB (s : Lo) : List UInt8 := ([108, 111, 99, 107, 32] : List UInt8) ++ Lib.itoa s.lower ++ [45] ++ Lib.itoa s.upper ++ [32, 97, 116, 32] ++ Lib.itoa s.level
def lockS (s : Lo) : Nat → List UInt8
  | 0 => lockB s
  | 1 => addT s.lg ([32, 108, 111, 119, 32, 103, 97, 116, 101] : List UInt8) (lockB s)
  | 2 => addT s.hg ([32, 104, 105, 103, 104, 32, 103, 97, 116, 101] : List UInt8) (addT s.lg ([32, 108, 111, 119, 32, 103, 97, 116, 101] : List UInt8) (lockB s))
  | 3 => addT s.lp ([32, 108, 111, 119, 32, 112, 97, 100, 100, 108, 101] : List UInt8) (addT s.hg ([32, 104, 105, 103, 104, 32, 103, 97, 116, 101] : List UInt8) (addT s.lg ([32, 108, 111, 119, 32, 103, 97, 116, 101] : List UInt8) (lockB s)))
  | _ => addT s.hp ([32, 104, 105, 103, 104, 32, 112, 97, 100, 100, 108, 101] : List UInt8) (addT s.lp ([32, 108, 111, 119, 32, 112, 97, 100, 100, 108, 101] : List UInt8) (addT s.hg ([32, 104, 105, 103, 104, 32, 103, 97, 116, 101] : List UInt8) (addT s.lg ([32, 108, 111, 119, 32, 103, 97, 116, 101] : List UInt8) (lockB s))))
def lockT (s : Lo) : List UInt8 := lockS s 4 ++ [10]
def basT (b : Ba) : List UInt8 := Lib.itoa b.vol ++ [32, 111, 102, 32] ++ Lib.itoa b.least ++ [45] ++ Lib.itoa b.most ++ [10]
def wayT (u : Bool) : List UInt8 := if u then [32, 117, 112] else [32, 100, 111, 119, 110]
def arrT (a : Aw) : List UInt8 := Lib.itoa a.id ++ wayT a.up ++ [32, 97, 116, 32] ++ Lib.itoa a.minute ++ [32, 119, 101, 105, 103, 104, 116, 32] ++ Lib.itoa a.weight ++ [10]
def bsT (d : Co) : Nat → List UInt8
  | 0 => lockT d.lock
  | k + 1 => bsT d k ++ basT (d.ba k)
def wsT (d : Co) : Nat → List UInt8
  | 0 => bsT d d.n
  | k + 1 => wsT d k ++ arrT (d.wa k)
def fmtT (d : Co) : List UInt8 := wsT d d.m ++ [114, 101, 99, 111, 114, 100, 115, 32] ++ Lib.itoa d.log.count ++ [10]
noncomputable def fmtV (d : Co) : List UInt8 × Bool := if tr d.good then (fmtT d, true) else ([], false)
theorem fmtV_yes {d : Co} (h : d.good) : fmtV d = (fmtT d, true) := by unfold fmtV; rw [tr_yes h]; rfl
theorem fmtV_no {d : Co} (h : ¬ d.good) : fmtV d = ([], false) := by unfold fmtV; rw [tr_no h]; rfl
theorem wayT_len (u : Bool) : (wayT u).length ≤ 5 := by cases u <;> decide
theorem num_len {n : Int} (h1 : -999999 ≤ n) (h2 : n ≤ 999999) : (Lib.itoa n).length ≤ 7 := (itoa_len h1 h2).2
theorem lockB_len {s : Lo} (h : s.safe) : (lockB s).length ≤ 40 := by
  unfold Lo.safe at h
  have h1 := num_len (n := s.lower) (by omega) (by omega)
  have h2 := num_len (n := s.upper) (by omega) (by omega)
  have h3 := num_len (n := s.level) (by omega) (by omega)
  unfold lockB
  simp only [List.length_append, List.length_cons, List.length_nil]
  omega
theorem lockS_len {s : Lo} (h : s.safe) (k : Nat) : (lockS s k).length ≤ 90 := by
  have h0 := lockB_len h
  have a1 := addT_len s.lg ([32, 108, 111, 119, 32, 103, 97, 116, 101] : List UInt8) (lockB s)
  have a2 := addT_len s.hg ([32, 104, 105, 103, 104, 32, 103, 97, 116, 101] : List UInt8) (addT s.lg ([32, 108, 111, 119, 32, 103, 97, 116, 101] : List UInt8) (lockB s))
  have a3 := addT_len s.lp ([32, 108, 111, 119, 32, 112, 97, 100, 100, 108, 101] : List UInt8) (addT s.hg ([32, 104, 105, 103, 104, 32, 103, 97, 116, 101] : List UInt8) (addT s.lg ([32, 108, 111, 119, 32, 103, 97, 116, 101] : List UInt8) (lockB s)))
  have a4 := addT_len s.hp ([32, 104, 105, 103, 104, 32, 112, 97, 100, 100, 108, 101] : List UInt8) (addT s.lp ([32, 108, 111, 119, 32, 112, 97, 100, 100, 108, 101] : List UInt8) (addT s.hg ([32, 104, 105, 103, 104, 32, 103, 97, 116, 101] : List UInt8) (addT s.lg ([32, 108, 111, 119, 32, 103, 97, 116, 101] : List UInt8) (lockB s))))
  simp only [List.length_cons, List.length_nil] at a1 a2 a3 a4
  unfold lockS
  split <;> omega
theorem basT_len {b : Ba} (h : b.ok) : (basT b).length ≤ 40 := by
  unfold Ba.ok at h
  have h1 := num_len (n := b.vol) (by omega) (by omega)
  have h2 := num_len (n := b.least) (by omega) (by omega)
  have h3 := num_len (n := b.most) (by omega) (by omega)
  unfold basT
  simp only [List.length_append, List.length_cons, List.length_nil]
  omega
theorem arrT_len {f : Nat → Aw} {i : Nat} (h : aOk f i) : (arrT (f i)).length ≤ 50 := by
  unfold aOk at h
  have h1 := num_len (n := (f i).id) (by omega) (by omega)
  have h2 := num_len (n := (f i).minute) (by omega) (by omega)
  have h3 := num_len (n := (f i).weight) (by omega) (by omega)
  have h4 := wayT_len (f i).up
  unfold arrT
  simp only [List.length_append, List.length_cons, List.length_nil]
  omega
theorem bsT_len {d : Co} (h : d.good) : ∀ k, k ≤ d.n → (bsT d k).length ≤ 91 + 40 * k
  | 0, _ => by
    have := lockS_len h.1 4
    show (lockS d.lock 4 ++ [10]).length ≤ _
    simp only [List.length_append, List.length_cons, List.length_nil]
    omega
  | k + 1, hk => by
    have ih := bsT_len h k (by omega)
    have := basT_len (h.2.1.1 k (by omega))
    show (bsT d k ++ basT (d.ba k)).length ≤ _
    rw [List.length_append]; omega
theorem wsT_len {d : Co} (h : d.good) : ∀ k, k ≤ d.m → (wsT d k).length ≤ 340 + 50 * k
  | 0, _ => by
    have := bsT_len h d.n (Nat.le_refl _)
    have := h.2.1.2
    show (bsT d d.n).length ≤ _
    omega
  | k + 1, hk => by
    have ih := wsT_len h k (by omega)
    have := arrT_len (h.2.2.1.1 k (by omega))
    show (wsT d k ++ arrT (d.wa k)).length ≤ _
    rw [List.length_append]; omega
theorem splitB.is {v : Value} {K : Value → Prop} (h : K v) : splitB v K := by
  unfold splitB
  split
  · rename_i b
    refine ⟨fun e => ?_, fun e => ?_⟩
    · subst e; exact h
    · cases b
      · exact h
      · exact absurd rfl e
  · exact h
theorem VLoad1.whole {w0 : Base} {own : List Own} {g off : Nat} {K : Value → Prop} {v : Value} (h : Has g off v own) (k : K v) : VLoad1 w0 own g off K := .mk v h.rd (splitB.is k)
set_option maxHeartbeats 4000000 in
theorem l28Lock_v (s : Lo) (w : World) (h : s.safe) : Calls Tryz.prog 60 #[.agg s.cells.toArray] w (Post (.string (tx (lockT s))) w) := by
  have hx := id h
  unfold Lo.safe at hx
  have h1 := num_len (n := s.lower) (by omega) (by omega)
  have h2 := num_len (n := s.upper) (by omega) (by omega)
  have h3 := num_len (n := s.level) (by omega) (by omega)
  have c1 := fun w => l1NumZ_v s.lower w (by omega) (by omega)
  have c2 := fun w => l1NumZ_v s.upper w (by omega) (by omega)
  have c3 := fun w => l1NumZ_v s.level w (by omega) (by omega)
  refine post_of_vc ?_
  refine calls_of_vc tb_ok (args := [.agg s.cells.toArray]) Tryz.func60 rfl ?_
  (repeat' ((conv => whnf); first | refine go ?_ | (refine VSome.mk ?_; intro gQ hA'; first | subst hA' | cases hA' | (dsimp only at hA'; subst hA')) | refine And.intro ?_ ?_ | intro _ | (first | ((show VCall _ _ _ 61 [.int .i64 s.lower] _); refine VCall.grow _ (fun w1 m1 => c1 w1) ?_) | ((show VCall _ _ _ 61 [.int .i64 s.upper] _); refine VCall.grow _ (fun w1 m1 => c2 w1) ?_) | ((show VCall _ _ _ 61 [.int .i64 s.level] _); refine VCall.grow _ (fun w1 m1 => c3 w1) ?_) | ((show VDraw _ _ _ _ _ _); refine VDraw.mk (.take 0 (.take 1 (.take 5 (.take 6 (.take 10 (.take 11 (.br 2 (.take 3 (.take 4 (.br 7 (.take 8 (.take 9 (.br 12 (.take 13 (.take 14 .done)) .done))) .done))) .done))))))) [0] (by kernel_rfl) (by kernel_rfl) ?_) | ((show VCat _ _ _); refine VCat.of (by first | omega | (simp only [List.length_append, List.length_cons, List.length_nil]; omega)) ?_))))
  all_goals ((conv => whnf); refine VRet.mk fun w' m => ?_)
  all_goals refine ⟨congrArg (fun l => Value.string (tx l)) ?_, m.keeps.below⟩
  all_goals (show _ = addT s.hp ([32, 104, 105, 103, 104, 32, 112, 97, 100, 100, 108, 101] : List UInt8) (addT s.lp ([32, 108, 111, 119, 32, 112, 97, 100, 100, 108, 101] : List UInt8) (addT s.hg ([32, 104, 105, 103, 104, 32, 103, 97, 116, 101] : List UInt8) (addT s.lg ([32, 108, 111, 119, 32, 103, 97, 116, 101] : List UInt8) (lockB s)))) ++ [10])
  all_goals (first | rw [addT_yes (b := s.hp) (by assumption)] | rw [addT_no (b := s.hp) (by assumption)])
  all_goals (first | rw [addT_yes (b := s.lp) (by assumption)] | rw [addT_no (b := s.lp) (by assumption)])
  all_goals (first | rw [addT_yes (b := s.hg) (by assumption)] | rw [addT_no (b := s.hg) (by assumption)])
  all_goals (first | rw [addT_yes (b := s.lg) (by assumption)] | rw [addT_no (b := s.lg) (by assumption)])
  all_goals rfl
theorem bas_app (s : List UInt8) (b : Ba) : s ++ Lib.itoa b.vol ++ [32, 111, 102, 32] ++ Lib.itoa b.least ++ [45] ++ Lib.itoa b.most ++ [10] = s ++ basT b := by unfold basT; simp only [List.append_assoc]
theorem arr_app (s : List UInt8) (a : Aw) (l : List UInt8) (h : l = wayT a.up) : s ++ Lib.itoa a.id ++ l ++ [32, 97, 116, 32] ++ Lib.itoa a.minute ++ [32, 119, 101, 105, 103, 104, 116, 32] ++ Lib.itoa a.weight ++ [10] = s ++ arrT a := by subst h; unfold arrT; simp only [List.append_assoc]
theorem arr_app2 (s : List UInt8) (a : Aw) (l : List UInt8) (h : l = wayT a.up) : s ++ (Lib.itoa a.id ++ l ++ [32, 97, 116, 32] ++ Lib.itoa a.minute ++ [32, 119, 101, 105, 103, 104, 116, 32] ++ Lib.itoa a.weight ++ [10]) = s ++ arrT a := by subst h; rfl
theorem way_yes {u : Bool} (h : u = true) : ([32, 117, 112] : List UInt8) = wayT u := by rw [h]; rfl
theorem way_no {u : Bool} (h : ¬ u = true) : ([32, 100, 111, 119, 110] : List UInt8) = wayT u := by
  cases u
  · rfl
  · exact absurd rfl h
set_option maxHeartbeats 8000000 in
theorem sFmt_v (A B : Option Addr) (c e : Nat) (d : Co) (w : World) (hn : d.n ≤ 1048576) (hm : d.m ≤ 1048576) (hd : d.log.durable.size ≤ 1048576) (hp : d.log.pending.size ≤ 1048576) (hA : Seen w A (BaS d.n d.ba)) (hB : Seen w B (AwS d.m d.wa)) :
    Calls Tryz.prog 22 #[.agg (d.at A c B e).toArray] w (Post (.tuple #[.string (tx (fmtV d).1), .bool (fmtV d).2]) w) := by
  have hG := fun A c B e w hA hB => sG28_v A B c e d w hn hm hd hp hA hB
  refine post_of_vc ?_
  refine calls_of_vc tb_ok (args := [.agg (d.at A c B e).toArray]) Tryz.func22 rfl ?_
  by_cases hg : d.good
  · rw [fmtV_yes hg]
    rw [tr_yes hg] at hG
    have hbn := hg.2.1.2
    have hwn := hg.2.2.1.2
    have hcn : 0 ≤ d.log.count ∧ d.log.count ≤ 60 := by
      have := cnt_le (d.du ++ d.pe)
      have := hg.2.2.2.2.1
      omega
    have hls := lockS_len hg.1 4
    (repeat' ((conv => whnf); first | refine go ?_ | (refine VSome.mk ?_; intro gQ hA'; first | subst hA' | cases hA' | (dsimp only at hA'; subst hA')) | refine And.intro ?_ ?_ | intro _ | (first | ((show VCall _ _ _ 45 _ _); refine VCall.grow _ (fun w1 m1 => hG _ _ _ _ w1 seenA seenA) ?_) | ((show VCall _ _ _ 60 _ _); refine VCall.grow _ (fun w1 m1 => l28Lock_v d.lock w1 hg.1) ?_))))
    (conv => whnf)
    rename_i g _
    refine VLoop.mk (ι := Nat) [4, 5, 6, 16, 17, 18, 19, 20, 21, 22, 23, 24, 25, 26, 27, 28, 29, 30, 31, 32, 33, 34, 35, 36, 37, 38, 39, 40, 41, 42, 43] (fun k => [(5, .int .i64 k), (4, .string (tx (bsT d k)))]) (fun k => [.blk g 39 (d.at A c B e)]) (fun k => k ≤ d.n) (fun k => d.n - k) 0 (Nat.zero_le _) ?_ (OwnLe.mk [0] (by simp) rfl) (fun k u hk => ?_)
    · ((conv => whnf); repeat (first | exact trivial | refine ⟨rfl, ?_⟩ | refine ⟨congrArg (Value.int .i64) (by first | omega | assumption | exact Eq.symm (by assumption)), ?_⟩))
    have hl := bsT_len hg k hk
    by_cases hlt : k < d.n
    · obtain ⟨b, off, rfl, hb, h0, _⟩ := BaS.look hA hlt
      have ho := hg.2.1.1 k hlt
      unfold Ba.ok at ho
      have l1 := num_len (n := (d.ba k).vol) (by omega) (by omega)
      have l2 := num_len (n := (d.ba k).least) (by omega) (by omega)
      have l3 := num_len (n := (d.ba k).most) (by omega) (by omega)
      have c1 := fun w => l1NumZ_v (d.ba k).vol w (by omega) (by omega)
      have c2 := fun w => l1NumZ_v (d.ba k).least w (by omega) (by omega)
      have c3 := fun w => l1NumZ_v (d.ba k).most w (by omega) (by omega)
      (repeat' ((conv => whnf); first | refine go ?_ | (refine VSome.mk ?_; intro gQ hA'; first | subst hA' | cases hA' | (dsimp only at hA'; subst hA')) | refine And.intro ?_ ?_ | intro _ | (first | ((show VCall _ _ _ 61 [.int .i64 (d.ba k).vol] _); refine VCall.grow _ (fun w1 m1 => c1 w1) ?_) | ((show VCall _ _ _ 61 [.int .i64 (d.ba k).least] _); refine VCall.grow _ (fun w1 m1 => c2 w1) ?_) | ((show VCall _ _ _ 61 [.int .i64 (d.ba k).most] _); refine VCall.grow _ (fun w1 m1 => c3 w1) ?_) | ((show VDraw _ _ _ #[{ dst := some 28, op := _, type := _, pos := _, after := _, guard := _ }, _, _, _, _, _, _, _, _, _, _, _, _, _, _, _, _] _ _); refine VDraw.mk (.take 0 (.take 1 (.take 2 (.take 6 (.take 7 (.take 11 (.take 12 (.br 3 (.take 4 (.take 5 (.br 8 (.take 9 (.take 10 (.br 13 (.take 14 (.take 15 (.take 16 .done))) .done))) .done))) .done)))))))) [0, 1] (by kernel_rfl) (by kernel_rfl) ?_) | ((show VCat _ _ _); refine VCat.of (by first | omega | (simp only [List.length_append, List.length_cons, List.length_nil]; omega)) ?_))))
      all_goals (conv => whnf)
      all_goals (refine VNext.mk (k + 1) hlt (by omega) ?_ (OwnLe.mk [0] (by simp) rfl); ((conv => whnf); repeat (first | exact trivial | refine ⟨rfl, ?_⟩ | refine ⟨congrArg (Value.int .i64) (by first | omega | assumption | exact Eq.symm (by assumption)), ?_⟩ | refine ⟨congrArg (fun l => Value.string (tx l)) (bas_app _ _), ?_⟩)))
    · obtain rfl : k = d.n := by omega
      (repeat' ((conv => whnf); first | refine go ?_ | (refine VSome.mk ?_; intro gQ hA'; first | subst hA' | cases hA' | (dsimp only at hA'; subst hA')) | refine And.intro ?_ ?_ | intro _))
      (conv => whnf)
      refine VLoop.mk (ι := Nat) [4, 7, 8, 9, 44, 45, 46, 47, 48, 49, 50, 51, 52, 53, 54, 55, 56, 57, 58, 59, 60, 61, 62, 63, 64, 65, 66, 67, 68, 69, 70, 71, 72, 73, 74, 75] (fun k => [(7, .int .i64 k), (4, .string (tx (wsT d k)))]) (fun k => [.blk g 39 (d.at A c B e)]) (fun k => k ≤ d.m) (fun k => d.m - k) 0 (Nat.zero_le _) ?_ (OwnLe.mk [0] (by simp) rfl) (fun k u hk => ?_)
      · ((conv => whnf); repeat (first | exact trivial | refine ⟨rfl, ?_⟩ | refine ⟨congrArg (Value.int .i64) (by first | omega | assumption | exact Eq.symm (by assumption)), ?_⟩))
      have hl := wsT_len hg k hk
      by_cases hlt : k < d.m
      · obtain ⟨b, off, rfl, hb, h0, _⟩ := AwS.look hB hlt
        have ho := hg.2.2.1.1 k hlt
        unfold aOk at ho
        have l1 := num_len (n := (d.wa k).id) (by omega) (by omega)
        have l2 := num_len (n := (d.wa k).minute) (by omega) (by omega)
        have l3 := num_len (n := (d.wa k).weight) (by omega) (by omega)
        have c1 := fun w => l1NumZ_v (d.wa k).id w (by omega) (by omega)
        have c2 := fun w => l1NumZ_v (d.wa k).minute w (by omega) (by omega)
        have c3 := fun w => l1NumZ_v (d.wa k).weight w (by omega) (by omega)
        (repeat' ((conv => whnf); first | refine go ?_ | (refine VSome.mk ?_; intro gQ hA'; first | subst hA' | cases hA' | (dsimp only at hA'; subst hA')) | refine And.intro ?_ ?_ | intro _ | (first | ((show VCall _ _ _ 61 [.int .i64 (d.wa k).id] _); refine VCall.grow _ (fun w1 m1 => c1 w1) ?_) | ((show VCall _ _ _ 61 [.int .i64 (d.wa k).minute] _); refine VCall.grow _ (fun w1 m1 => c2 w1) ?_) | ((show VCall _ _ _ 61 [.int .i64 (d.wa k).weight] _); refine VCall.grow _ (fun w1 m1 => c3 w1) ?_) | ((show VDraw _ _ _ #[{ dst := some 58, op := _, type := _, pos := _, after := _, guard := _ }, _, _, _, _, _, _, _, _, _, _, _, _, _, _, _, _, _, _] _ _); refine VDraw.mk (.take 0 (.take 1 (.take 2 (.take 5 (.take 8 (.take 9 (.take 13 (.take 14 (.br 3 (.take 4 (.take 6 (.take 7 (.br 10 (.take 11 (.take 12 (.br 15 (.take 16 (.take 17 (.take 18 .done))) .done))) .done)))) .done))))))))) [0, 1] (by kernel_rfl) (by kernel_rfl) ?_) | ((show VCat _ _ _); refine VCat.of (by first | omega | (simp only [List.length_append, List.length_cons, List.length_nil]; omega)) ?_))))
        all_goals (conv => whnf)
        all_goals (refine VNext.mk (k + 1) hlt (by omega) ?_ (OwnLe.mk [0] (by simp) rfl); ((conv => whnf); repeat (first | exact trivial | refine ⟨rfl, ?_⟩ | refine ⟨congrArg (Value.int .i64) (by first | omega | assumption | exact Eq.symm (by assumption)), ?_⟩ | refine ⟨congrArg (fun l => Value.string (tx l)) (by first | exact arr_app _ _ _ (way_yes (by assumption)) | exact arr_app _ _ _ (way_no (by assumption))), ?_⟩)))
      · obtain rfl : k = d.m := by omega
        have c1 := fun w => l1NumZ_v d.log.count w (by omega) (by omega)
        have l1 := num_len (n := d.log.count) (by omega) (by omega)
        (repeat' ((conv => whnf); first | refine go ?_ | (refine VSome.mk ?_; intro gQ hA'; first | subst hA' | cases hA' | (dsimp only at hA'; subst hA')) | refine And.intro ?_ ?_ | intro _ | (first | ((show VCall _ _ _ 61 _ _); refine VCall.grow _ (fun w1 m1 => c1 w1) ?_) | ((show VCat _ _ _); refine VCat.of (by first | omega | (simp only [List.length_append, List.length_cons, List.length_nil]; omega)) ?_))))
        (conv => whnf); refine VRet.mk fun w' m => ?_
        exact ⟨rfl, m.keeps.below⟩
  · rw [fmtV_no hg]
    rw [tr_no hg] at hG
    (repeat' ((conv => whnf); first | refine go ?_ | (refine VSome.mk ?_; intro gQ hA'; first | subst hA' | cases hA' | (dsimp only at hA'; subst hA')) | refine And.intro ?_ ?_ | intro _ | (first | ((show VCall _ _ _ 45 _ _); refine VCall.grow _ (fun w1 m1 => hG _ _ _ _ w1 seenA seenA) ?_))))
    (conv => whnf); refine VRet.mk fun w' m => ?_
    exact ⟨rfl, m.keeps.below⟩
set_option maxHeartbeats 8000000 in
theorem iFmt_v (A B : Option Addr) (c e : Nat) (d : Co) (w : World) (hn : d.n ≤ 1048576) (hm : d.m ≤ 1048576) (hd : d.log.durable.size ≤ 1048576) (hp : d.log.pending.size ≤ 1048576) (ht : PTab w) (hA : Seen w A (BaS d.n d.ba)) (hB : Seen w B (AwS d.m d.wa)) :
    Calls Tryz.prog 21 #[.agg (d.at A c B e).toArray] w (Post (.tuple #[.string (tx (fmtV d).1), .bool (fmtV d).2]) w) := by
  have hG := fun A c B e w ht hA hB => iCon_v A B c e d w hn hm hd hp ht hA hB
  refine post_of_vc ?_
  refine calls_of_vc tb_ok (args := [.agg (d.at A c B e).toArray]) Tryz.func21 rfl ?_
  by_cases hg : d.good
  · rw [fmtV_yes hg]
    rw [tr_yes hg] at hG
    have hbn := hg.2.1.2
    have hwn := hg.2.2.1.2
    have hcn : 0 ≤ d.log.count ∧ d.log.count ≤ 60 := by
      have := cnt_le (d.du ++ d.pe)
      have := hg.2.2.2.2.1
      omega
    have hs := hg.1
    unfold Lo.safe at hs
    have q1 := num_len (n := d.lock.lower) (by omega) (by omega)
    have q2 := num_len (n := d.lock.upper) (by omega) (by omega)
    have q3 := num_len (n := d.lock.level) (by omega) (by omega)
    have k1 := fun w ht => itoaZ_v d.lock.lower w (by omega) (by omega) ht
    have k2 := fun w ht => itoaZ_v d.lock.upper w (by omega) (by omega) ht
    have k3 := fun w ht => itoaZ_v d.lock.level w (by omega) (by omega) ht
    (repeat' ((conv => whnf); first | refine go ?_ | (refine VSome.mk ?_; intro gQ hA'; first | subst hA' | cases hA' | (dsimp only at hA'; subst hA')) | refine And.intro ?_ ?_ | intro _ | (first | ((show VCall _ _ _ 39 _ _); refine VCall.grow _ (fun w1 m1 => hG _ _ _ _ w1 (ht.on m1) seenA seenA) ?_))))
    (repeat' (first | ((conv => whnf); (show VLoad1 _ _ _ _ _); apply VLoad1.whole; (focus ((repeat (first | exact Has.here rfl | apply Has.there)); done))) | ((conv => whnf); first | refine go ?_ | (refine VSome.mk ?_; intro gQ hA'; first | subst hA' | cases hA' | (dsimp only at hA'; subst hA')) | refine And.intro ?_ ?_ | intro _) | ((conv => whnf); (first | ((show VCall _ _ _ 59 [.int .i64 d.lock.lower] _); refine VCall.grow _ (fun w1 m1 => k1 w1 (ht.on m1)) ?_) | ((show VCall _ _ _ 59 [.int .i64 d.lock.upper] _); refine VCall.grow _ (fun w1 m1 => k2 w1 (ht.on m1)) ?_) | ((show VCall _ _ _ 59 [.int .i64 d.lock.level] _); refine VCall.grow _ (fun w1 m1 => k3 w1 (ht.on m1)) ?_) | ((show VDraw _ _ _ #[{ dst := some 19, op := _, type := _, pos := _, after := _, guard := _ }, _, _, _, _, _, _, _, _, _, _, _, _, _, _] _ _); refine VDraw.mk (.take 0 (.take 1 (.take 5 (.take 6 (.take 10 (.take 11 (.br 2 (.take 3 (.take 4 (.br 7 (.take 8 (.take 9 (.br 12 (.take 13 (.take 14 .done)) .done))) .done))) .done))))))) [0, 1] (by kernel_rfl) (by kernel_rfl) ?_) | ((show VCat _ _ _); refine VCat.of (by first | omega | (simp only [List.length_append, List.length_cons, List.length_nil]; omega)) ?_)))))
    (conv => whnf)
    rename_i g0 _ g9 gN gB
    refine VLoop.mk (ι := Nat) [5, 7, 8, 44, 45, 46, 47, 48, 49, 50, 51, 52, 53, 54, 55, 56] (fun k => [(44, .int .i64 k), (5, .string (tx (lockS d.lock k)))]) (fun k => [.blk g0 39 [.int .i64 d.lock.lower, .int .i64 d.lock.upper, .int .i64 d.lock.level, .bool d.lock.lg, .bool d.lock.hg, .bool d.lock.lp, .bool d.lock.hp, .slice A d.n c, .slice B d.m e, .string d.log.durable, .string d.log.pending, .int .i64 d.log.count], .blk gN 9 [.string (tx ([32, 108, 111, 119, 32, 103, 97, 116, 101] : List UInt8)), .string (tx ([32, 104, 105, 103, 104, 32, 103, 97, 116, 101] : List UInt8)), .string (tx ([32, 108, 111, 119, 32, 112, 97, 100, 100, 108, 101] : List UInt8)), .string (tx ([32, 104, 105, 103, 104, 32, 112, 97, 100, 100, 108, 101] : List UInt8))], .blk gB 4 [.bool d.lock.lg, .bool d.lock.hg, .bool d.lock.lp, .bool d.lock.hp]]) (fun k => k ≤ 4) (fun k => 4 - k) 0 (Nat.zero_le _) ?_ (OwnLe.mk [0, 2, 3] (by simp) rfl) (fun k u hk => ?_)
    · ((conv => whnf); repeat (first | exact trivial | refine ⟨rfl, ?_⟩ | refine ⟨congrArg (Value.int .i64) (by first | omega | assumption | exact Eq.symm (by assumption)), ?_⟩))
    have hls := lockS_len hg.1 k
    by_cases hlt : k < 4
    · rcases k with _ | _ | _ | _ | k
      all_goals first | (exfalso; omega; done) | skip
      all_goals ((repeat' ((conv => whnf); first | refine go ?_ | (refine VSome.mk ?_; intro gQ hA'; first | subst hA' | cases hA' | (dsimp only at hA'; subst hA')) | refine And.intro ?_ ?_ | intro _ | (first | ((show VCat _ _ _); refine VCat.of (by first | omega | (simp only [List.length_append, List.length_cons, List.length_nil]; omega)) ?_)))))
      all_goals (conv => whnf)
      · refine VNext.mk 1 (by omega) (by omega) ?_ (OwnLe.mk [0, 1, 2] (by simp) rfl)
        ((conv => whnf); repeat (first | exact trivial | refine ⟨rfl, ?_⟩ | refine ⟨congrArg (Value.int .i64) (by first | omega | assumption | exact Eq.symm (by assumption)), ?_⟩ | refine ⟨congrArg (fun l => Value.string (tx l)) (addT_yes (by assumption)).symm, ?_⟩))
      · refine VNext.mk 1 (by omega) (by omega) ?_ (OwnLe.mk [0, 1, 2] (by simp) rfl)
        ((conv => whnf); repeat (first | exact trivial | refine ⟨rfl, ?_⟩ | refine ⟨congrArg (Value.int .i64) (by first | omega | assumption | exact Eq.symm (by assumption)), ?_⟩ | refine ⟨congrArg (fun l => Value.string (tx l)) (addT_no (by assumption)).symm, ?_⟩))
      · refine VNext.mk 2 (by omega) (by omega) ?_ (OwnLe.mk [0, 1, 2] (by simp) rfl)
        ((conv => whnf); repeat (first | exact trivial | refine ⟨rfl, ?_⟩ | refine ⟨congrArg (Value.int .i64) (by first | omega | assumption | exact Eq.symm (by assumption)), ?_⟩ | refine ⟨congrArg (fun l => Value.string (tx l)) (addT_yes (by assumption)).symm, ?_⟩))
      · refine VNext.mk 2 (by omega) (by omega) ?_ (OwnLe.mk [0, 1, 2] (by simp) rfl)
        ((conv => whnf); repeat (first | exact trivial | refine ⟨rfl, ?_⟩ | refine ⟨congrArg (Value.int .i64) (by first | omega | assumption | exact Eq.symm (by assumption)), ?_⟩ | refine ⟨congrArg (fun l => Value.string (tx l)) (addT_no (by assumption)).symm, ?_⟩))
      · refine VNext.mk 3 (by omega) (by omega) ?_ (OwnLe.mk [0, 1, 2] (by simp) rfl)
        ((conv => whnf); repeat (first | exact trivial | refine ⟨rfl, ?_⟩ | refine ⟨congrArg (Value.int .i64) (by first | omega | assumption | exact Eq.symm (by assumption)), ?_⟩ | refine ⟨congrArg (fun l => Value.string (tx l)) (addT_yes (by assumption)).symm, ?_⟩))
      · refine VNext.mk 3 (by omega) (by omega) ?_ (OwnLe.mk [0, 1, 2] (by simp) rfl)
        ((conv => whnf); repeat (first | exact trivial | refine ⟨rfl, ?_⟩ | refine ⟨congrArg (Value.int .i64) (by first | omega | assumption | exact Eq.symm (by assumption)), ?_⟩ | refine ⟨congrArg (fun l => Value.string (tx l)) (addT_no (by assumption)).symm, ?_⟩))
      · refine VNext.mk 4 (by omega) (by omega) ?_ (OwnLe.mk [0, 1, 2] (by simp) rfl)
        ((conv => whnf); repeat (first | exact trivial | refine ⟨rfl, ?_⟩ | refine ⟨congrArg (Value.int .i64) (by first | omega | assumption | exact Eq.symm (by assumption)), ?_⟩ | refine ⟨congrArg (fun l => Value.string (tx l)) (addT_yes (by assumption)).symm, ?_⟩))
      · refine VNext.mk 4 (by omega) (by omega) ?_ (OwnLe.mk [0, 1, 2] (by simp) rfl)
        ((conv => whnf); repeat (first | exact trivial | refine ⟨rfl, ?_⟩ | refine ⟨congrArg (Value.int .i64) (by first | omega | assumption | exact Eq.symm (by assumption)), ?_⟩ | refine ⟨congrArg (fun l => Value.string (tx l)) (addT_no (by assumption)).symm, ?_⟩))
    obtain rfl : k = 4 := by omega
    (repeat' ((conv => whnf); first | refine go ?_ | (refine VSome.mk ?_; intro gQ hA'; first | subst hA' | cases hA' | (dsimp only at hA'; subst hA')) | refine And.intro ?_ ?_ | intro _ | (first | ((show VCat _ _ _); refine VCat.of (by first | omega | (simp only [List.length_append, List.length_cons, List.length_nil]; omega)) ?_))))
    (conv => whnf)
    refine VLoop.mk (ι := Nat) [5, 10, 62, 63, 64, 65, 66, 67, 68, 69, 70, 71, 72, 73, 74, 75, 76, 77, 78, 79, 80, 81, 82] (fun k => [(62, .int .i64 k), (5, .string (tx (bsT d k)))]) (fun k => [.blk g0 39 [.int .i64 d.lock.lower, .int .i64 d.lock.upper, .int .i64 d.lock.level, .bool d.lock.lg, .bool d.lock.hg, .bool d.lock.lp, .bool d.lock.hp, .slice A d.n c, .slice B d.m e, .string d.log.durable, .string d.log.pending, .int .i64 d.log.count]]) (fun k => k ≤ d.n) (fun k => d.n - k) 0 (Nat.zero_le _) ?_ (OwnLe.mk [0] (by simp) rfl) (fun k u hk => ?_)
    · ((conv => whnf); repeat (first | exact trivial | refine ⟨rfl, ?_⟩ | refine ⟨congrArg (Value.int .i64) (by first | omega | assumption | exact Eq.symm (by assumption)), ?_⟩))
    have hl := bsT_len hg k hk
    by_cases hlt : k < d.n
    · obtain ⟨b, off, rfl, hb, h0, _⟩ := BaS.look hA hlt
      have ho := hg.2.1.1 k hlt
      unfold Ba.ok at ho
      have l1 := num_len (n := (d.ba k).vol) (by omega) (by omega)
      have l2 := num_len (n := (d.ba k).least) (by omega) (by omega)
      have l3 := num_len (n := (d.ba k).most) (by omega) (by omega)
      have c1 := fun w ht => itoaZ_v (d.ba k).vol w (by omega) (by omega) ht
      have c2 := fun w ht => itoaZ_v (d.ba k).least w (by omega) (by omega) ht
      have c3 := fun w ht => itoaZ_v (d.ba k).most w (by omega) (by omega) ht
      (repeat' ((conv => whnf); first | refine go ?_ | (refine VSome.mk ?_; intro gQ hA'; first | subst hA' | cases hA' | (dsimp only at hA'; subst hA')) | refine And.intro ?_ ?_ | intro _ | (first | ((show VCall _ _ _ 59 [.int .i64 (d.ba k).vol] _); refine VCall.grow _ (fun w1 m1 => c1 w1 (ht.on m1)) ?_) | ((show VCall _ _ _ 59 [.int .i64 (d.ba k).least] _); refine VCall.grow _ (fun w1 m1 => c2 w1 (ht.on m1)) ?_) | ((show VCall _ _ _ 59 [.int .i64 (d.ba k).most] _); refine VCall.grow _ (fun w1 m1 => c3 w1 (ht.on m1)) ?_) | ((show VDraw _ _ _ #[{ dst := some 66, op := _, type := _, pos := _, after := _, guard := _ }, _, _, _, _, _, _, _, _, _, _, _, _, _, _, _, _] _ _); refine VDraw.mk (.take 0 (.take 1 (.take 2 (.take 5 (.take 6 (.take 10 (.take 11 (.br 3 (.take 4 (.br 7 (.take 8 (.take 9 (.br 12 (.take 13 (.take 14 (.take 15 (.take 16 .done)))) .done))) .done)) .done)))))))) [0, 1] (by kernel_rfl) (by kernel_rfl) ?_) | ((show VCat _ _ _); refine VCat.of (by first | omega | (simp only [List.length_append, List.length_cons, List.length_nil]; omega)) ?_))))
      all_goals (conv => whnf)
      all_goals (refine VNext.mk (k + 1) hlt (by omega) ?_ (OwnLe.mk [0] (by simp) rfl); ((conv => whnf); repeat (first | exact trivial | refine ⟨rfl, ?_⟩ | refine ⟨congrArg (Value.int .i64) (by first | omega | assumption | exact Eq.symm (by assumption)), ?_⟩)))
    · obtain rfl : k = d.n := by omega
      (repeat' ((conv => whnf); first | refine go ?_ | (refine VSome.mk ?_; intro gQ hA'; first | subst hA' | cases hA' | (dsimp only at hA'; subst hA')) | refine And.intro ?_ ?_ | intro _))
      (conv => whnf)
      refine VLoop.mk (ι := Nat) [5, 12, 13, 86, 87, 88, 89, 90, 91, 92, 93, 94, 95, 96, 97, 98, 99, 100, 101, 102, 103, 104, 105, 106, 107, 108, 109, 110] (fun k => [(86, .int .i64 k), (5, .string (tx (wsT d k)))]) (fun k => [.blk g0 39 [.int .i64 d.lock.lower, .int .i64 d.lock.upper, .int .i64 d.lock.level, .bool d.lock.lg, .bool d.lock.hg, .bool d.lock.lp, .bool d.lock.hp, .slice A d.n c, .slice B d.m e, .string d.log.durable, .string d.log.pending, .int .i64 d.log.count]]) (fun k => k ≤ d.m) (fun k => d.m - k) 0 (Nat.zero_le _) ?_ (OwnLe.mk [0] (by simp) rfl) (fun k u hk => ?_)
      · ((conv => whnf); repeat (first | exact trivial | refine ⟨rfl, ?_⟩ | refine ⟨congrArg (Value.int .i64) (by first | omega | assumption | exact Eq.symm (by assumption)), ?_⟩))
      have hl := wsT_len hg k hk
      by_cases hlt : k < d.m
      · obtain ⟨b, off, rfl, hb, h0, _⟩ := AwS.look hB hlt
        have ho := hg.2.2.1.1 k hlt
        unfold aOk at ho
        have l1 := num_len (n := (d.wa k).id) (by omega) (by omega)
        have l2 := num_len (n := (d.wa k).minute) (by omega) (by omega)
        have l3 := num_len (n := (d.wa k).weight) (by omega) (by omega)
        have c1 := fun w ht => itoaZ_v (d.wa k).id w (by omega) (by omega) ht
        have c2 := fun w ht => itoaZ_v (d.wa k).minute w (by omega) (by omega) ht
        have c3 := fun w ht => itoaZ_v (d.wa k).weight w (by omega) (by omega) ht
        (repeat' ((conv => whnf); first | refine go ?_ | (refine VSome.mk ?_; intro gQ hA'; first | subst hA' | cases hA' | (dsimp only at hA'; subst hA')) | refine And.intro ?_ ?_ | intro _ | (first | ((show VCall _ _ _ 59 [.int .i64 (d.wa k).id] _); refine VCall.grow _ (fun w1 m1 => c1 w1 (ht.on m1)) ?_) | ((show VCall _ _ _ 59 [.int .i64 (d.wa k).minute] _); refine VCall.grow _ (fun w1 m1 => c2 w1 (ht.on m1)) ?_) | ((show VCall _ _ _ 59 [.int .i64 (d.wa k).weight] _); refine VCall.grow _ (fun w1 m1 => c3 w1 (ht.on m1)) ?_) | ((show VDraw _ _ _ #[{ dst := some 92, op := _, type := _, pos := _, after := _, guard := _ }, _, _, _, _, _, _, _, _, _, _, _, _, _, _, _, _, _, _] _ _); refine VDraw.mk (.take 0 (.take 1 (.take 2 (.take 4 (.take 7 (.take 8 (.take 12 (.take 13 (.br 3 (.take 5 (.take 6 (.br 9 (.take 10 (.take 11 (.br 14 (.take 15 (.take 16 (.take 17 (.take 18 .done)))) .done))) .done))) .done))))))))) [0, 1] (by kernel_rfl) (by kernel_rfl) ?_) | ((show VCat _ _ _); refine VCat.of (by first | omega | (simp only [List.length_append, List.length_cons, List.length_nil]; omega)) ?_))))
        all_goals (conv => whnf)
        all_goals (refine VNext.mk (k + 1) hlt (by omega) ?_ (OwnLe.mk [0] (by simp) rfl); ((conv => whnf); repeat (first | exact trivial | refine ⟨rfl, ?_⟩ | refine ⟨congrArg (Value.int .i64) (by first | omega | assumption | exact Eq.symm (by assumption)), ?_⟩ | refine ⟨congrArg (fun l => Value.string (tx l)) (by first | exact arr_app2 _ _ _ (way_yes (by assumption)) | exact arr_app2 _ _ _ (way_no (by assumption))), ?_⟩)))
      · obtain rfl : k = d.m := by omega
        have c1 := fun w ht => itoaZ_v d.log.count w (by omega) (by omega) ht
        have l1 := num_len (n := d.log.count) (by omega) (by omega)
        (repeat' ((conv => whnf); first | refine go ?_ | (refine VSome.mk ?_; intro gQ hA'; first | subst hA' | cases hA' | (dsimp only at hA'; subst hA')) | refine And.intro ?_ ?_ | intro _ | (first | ((show VCall _ _ _ 59 _ _); refine VCall.grow _ (fun w1 m1 => c1 w1 (ht.on m1)) ?_) | ((show VCat _ _ _); refine VCat.of (by first | omega | (simp only [List.length_append, List.length_cons, List.length_nil]; omega)) ?_))))
        (conv => whnf); refine VRet.mk fun w' m => ?_
        exact ⟨rfl, m.keeps.below⟩
  · rw [fmtV_no hg]
    rw [tr_no hg] at hG
    (repeat' ((conv => whnf); first | refine go ?_ | (refine VSome.mk ?_; intro gQ hA'; first | subst hA' | cases hA' | (dsimp only at hA'; subst hA')) | refine And.intro ?_ ?_ | intro _ | (first | ((show VCall _ _ _ 39 _ _); refine VCall.grow _ (fun w1 m1 => hG _ _ _ _ w1 (ht.on m1) seenA seenA) ?_))))
    (conv => whnf); refine VRet.mk fun w' m => ?_
    exact ⟨rfl, m.keeps.below⟩
end Go.Proofs.YtadjhkehfklmnaaGreatDoor
namespace Go.Proofs.YtadjhkehfklmnaaGreatDoor
set_option linter.unusedSimpArgs false
set_option linter.unusedVariables false
open Go.RowKit
set_option maxRecDepth 10000
set_option maxHeartbeats 16000000 in
theorem iReplay_v (A : Option Addr) (n c : Nat) (f : Nat → Ba) (a b : Int) (d p : List UInt8) (cc : Int) (w : World) (hn : n ≤ 1048576) (hd : d.length ≤ 1048576) (hp : p.length ≤ 1048576) (ht : PT2 w) (hA : Seen w A (BaS n f)) (hP : Plain A) :
    Calls Tryz.prog 24 #[.int .i64 a, .int .i64 b, .slice A n c, .agg #[.string (tx d), .string (tx p), .int .i64 cc]] w (Post (.tuple #[.int .i64 ((rplV a b n f d p cc).1 : Nat), .bool (rplV a b n f d p cc).2]) w) := by
  have hN := fun w hA => iNewConsole_v A n c f a b w hn hA hP
  have hL := fun w ht => iLr_v d p cc w hd hp ht
  have hcn := lrN_le d p cc
  refine post_of_vc ?_
  by_cases h1 : okNew a b n f
  · by_cases h2 : okL d p cc
    · rw [rplV_yes h1 h2]
      rw [tr_yes h1] at hN
      rw [tr_yes h2, lrN_yes h2] at hL
      have hsm := coNew_small (a := a) (b := b) (f := f) hn
      have hc60 := cnt_le (d ++ p)
      generalize coNew a b n f = d0 at hN hsm ⊢
      generalize d ++ p = s at hL hc60 ⊢
      refine calls_of_vc tb_ok (args := [.int .i64 a, .int .i64 b, .slice A n c, .agg #[.string (tx d), .string (tx p), .int .i64 cc]]) Tryz.func24 rfl ?_
      (repeat' ((conv => whnf); first | refine go ?_ | (refine VSome.mk ?_; intro gQ hA'; first | subst hA' | cases hA' | (dsimp only at hA'; subst hA')) | refine And.intro ?_ ?_ | intro _ | (first | ((show VCall _ _ _ 26 _ _); refine VCall.ret (fun w1 m1 => hN w1 seenA) (fun i _ => ?_); obtain ⟨⟨A', c'⟩, B', e'⟩ := i) | ((show VCall _ _ _ 41 _ _); refine VCall.ret (fun w1 m1 => hL w1 (ht.on m1).1) (fun i _ => ?_); obtain ⟨P, cp⟩ := i))))
      (conv => whnf)
      rename_i gl g10 _ _
      refine VLoop.mk (ι := Nat × Sl2) [8, 9, 14, 15, 16, 17, 38, 39, 40, 41, 42, 43, 44, 45, 46, 47, 48, 49, 50, 51, 52, 53, 54, 55, 56] (fun (k, _) => [(38, .int .i64 k)]) (fun (k, (A1, c1), B1, e1) => [.blk g10 39 ((d0.st (xsL s) k).at A1 c1 B1 e1), .row (.slice A1 (d0.st (xsL s) k).n c1) 96 3 (d0.st (xsL s) k).n (BaS (d0.st (xsL s) k).n (d0.st (xsL s) k).ba), .row (.slice B1 (d0.st (xsL s) k).m e1) 98 4 (d0.st (xsL s) k).m (AwS (d0.st (xsL s) k).m (d0.st (xsL s) k).wa), .row (.slice P (cnt s) cp) 74 2 (cnt s) (RcS (cnt s) (rcd s))]) (fun i => i.1 ≤ cnt s ∧ misN (difL d0 s) (cnt s) 0 = misN (difL d0 s) (cnt s - i.1) i.1) (fun i => cnt s - i.1) (0, (A', c'), B', e') ⟨Nat.zero_le _, rfl⟩ ?_ (OwnLe.mk [3, 1, 2, 4] (by simp) rfl) (fun i u hi => ?_)
      · ((conv => whnf); repeat (first | exact trivial | refine ⟨rfl, ?_⟩ | refine ⟨congrArg (Value.int .i64) (by first | omega | assumption | exact Eq.symm (by assumption)), ?_⟩))
      obtain ⟨k, ⟨A1, c1⟩, B1, e1⟩ := i
      obtain ⟨hk, hmis⟩ := hi
      replace hk : k ≤ cnt s := hk
      replace hmis : misN (difL d0 s) (cnt s) 0 = misN (difL d0 s) (cnt s - k) k := hmis
      rw [hmis]
      ((conv => whnf); try dsimp only)
      by_cases hlt : k < cnt s
      · have hk1 : cnt s - k = (cnt s - (k + 1)) + 1 := by omega
        have hxl := xs_len hlt
        have hE := fun A B c e w ht hA hB hP hQ => iExec_v A B c e (d0.st (xsL s) k) (xsL s k) w (Co.st_small hsm _ k) (by omega) ht hA hB hP hQ
        rw [show ((d0.st (xsL s) k).exec (xsL s k)).1 = d0.st (xsL s) (k + 1) from rfl, show ((d0.st (xsL s) k).exec (xsL s k)).2 = d0.rp (xsL s) k from rfl] at hE
        by_cases hrp : d0.rp (xsL s) k = ysL s k
        · have htx : ¬ ¬ tx (d0.rp (xsL s) k) = tx (ysL s k) := fun q => q (by rw [hrp])
          have htx2 : tx (d0.rp (xsL s) k) = tx (ysL s k) := by rw [hrp]
          rw [hk1, misN_miss (fun q => q hrp)]
          (repeat' ((conv => whnf); first | refine go ?_ | (refine VSome.mk ?_; intro gQ hA'; first | subst hA' | cases hA' | (dsimp only at hA'; subst hA')) | refine And.intro ?_ ?_ | intro _ | (first | ((show VCall _ _ _ 29 _ _); refine VCall.ret (fun w1 m1 => hE _ _ _ _ w1 (ht.on m1) seenA seenA (m1.plain fndA) (m1.plain fndA)) (fun i _ => ?_); obtain ⟨⟨A9, c9⟩, B9, e9⟩ := i) | ((show VLoadN _ _ _ _ _ _); refine VLoadN.row (vs := [.string (tx (xsL s k)), .string (tx (ysL s k))]) 3 rfl rfl (fun j u hj => RcS_at (i := k) (f := rcd s) hlt (by show mulS k 2 = k * 2; rw [mulS_eq]) j u hj) ?_))))
          all_goals (conv => whnf)
          all_goals (refine VNext.mk (k + 1, (A9, c9), B9, e9) ⟨hlt, rfl⟩ (Nat.lt_succ_self _) ?_ (OwnLe.mk [0, 5, 6, 3] (by simp) rfl); ((conv => whnf); repeat (first | exact trivial | refine ⟨rfl, ?_⟩ | refine ⟨congrArg (Value.int .i64) (by first | omega | assumption | exact Eq.symm (by assumption)), ?_⟩)))
        · have htx : ¬ tx (d0.rp (xsL s) k) = tx (ysL s k) := fun q => hrp (tx_inj q)
          rw [hk1, misN_hit hrp]
          (repeat' ((conv => whnf); first | refine go ?_ | (refine VSome.mk ?_; intro gQ hA'; first | subst hA' | cases hA' | (dsimp only at hA'; subst hA')) | refine And.intro ?_ ?_ | intro _ | (first | ((show VCall _ _ _ 29 _ _); refine VCall.ret (fun w1 m1 => hE _ _ _ _ w1 (ht.on m1) seenA seenA (m1.plain fndA) (m1.plain fndA)) (fun i _ => ?_); obtain ⟨⟨A9, c9⟩, B9, e9⟩ := i) | ((show VLoadN _ _ _ _ _ _); refine VLoadN.row (vs := [.string (tx (xsL s k)), .string (tx (ysL s k))]) 3 rfl rfl (fun j u hj => RcS_at (i := k) (f := rcd s) hlt (by show mulS k 2 = k * 2; rw [mulS_eq]) j u hj) ?_))))
          all_goals ((conv => whnf); refine VRet.mk fun w' m => ?_)
          all_goals exact ⟨rfl, m.keeps.below⟩
      · obtain rfl : k = cnt s := by omega
        rw [Nat.sub_self, show misN (difL d0 s) 0 (cnt s) = cnt s from rfl]
        (repeat' ((conv => whnf); first | refine go ?_ | (refine VSome.mk ?_; intro gQ hA'; first | subst hA' | cases hA' | (dsimp only at hA'; subst hA')) | refine And.intro ?_ ?_ | intro _))
        all_goals ((conv => whnf); refine VRet.mk fun w' m => ?_)
        all_goals exact ⟨rfl, m.keeps.below⟩
    · rw [rplV_no (fun q => h2 q.2)]
      rw [tr_yes h1] at hN
      rw [tr_no h2] at hL
      generalize coNew a b n f = d0 at hN
      refine calls_of_vc tb_ok (args := [.int .i64 a, .int .i64 b, .slice A n c, .agg #[.string (tx d), .string (tx p), .int .i64 cc]]) Tryz.func24 rfl ?_
      (repeat' ((conv => whnf); first | refine go ?_ | (refine VSome.mk ?_; intro gQ hA'; first | subst hA' | cases hA' | (dsimp only at hA'; subst hA')) | refine And.intro ?_ ?_ | intro _ | (first | ((show VCall _ _ _ 26 _ _); refine VCall.ret (fun w1 m1 => hN w1 seenA) (fun i _ => ?_); obtain ⟨⟨A', c'⟩, B', e'⟩ := i) | ((show VCall _ _ _ 41 _ _); refine VCall.ret (fun w1 m1 => hL w1 (ht.on m1).1) (fun i _ => ?_); obtain ⟨P, cp⟩ := i))))
      all_goals ((conv => whnf); refine VRet.mk fun w' m => ?_)
      all_goals exact ⟨rfl, m.keeps.below⟩
  · rw [rplV_no (fun q => h1 q.1)]
    rw [tr_no h1] at hN
    generalize coNew a b n f = d0 at hN
    generalize tr (okL d p cc) = b2 at hL
    cases b2
    all_goals (refine calls_of_vc tb_ok (args := [.int .i64 a, .int .i64 b, .slice A n c, .agg #[.string (tx d), .string (tx p), .int .i64 cc]]) Tryz.func24 rfl ?_)
    all_goals ((repeat' ((conv => whnf); first | refine go ?_ | (refine VSome.mk ?_; intro gQ hA'; first | subst hA' | cases hA' | (dsimp only at hA'; subst hA')) | refine And.intro ?_ ?_ | intro _ | (first | ((show VCall _ _ _ 26 _ _); refine VCall.ret (fun w1 m1 => hN w1 seenA) (fun i _ => ?_); obtain ⟨⟨A', c'⟩, B', e'⟩ := i) | ((show VCall _ _ _ 41 _ _); refine VCall.ret (fun w1 m1 => hL w1 (ht.on m1).1) (fun i _ => ?_); obtain ⟨P, cp⟩ := i)))))
    all_goals ((conv => whnf); refine VRet.mk fun w' m => ?_)
    all_goals exact ⟨rfl, m.keeps.below⟩
set_option maxHeartbeats 16000000 in
theorem sReplay_v (A : Option Addr) (n c : Nat) (f : Nat → Ba) (a b : Int) (d p : List UInt8) (cc : Int) (w : World) (hn : n ≤ 1048576) (hd : d.length ≤ 1048576) (hp : p.length ≤ 1048576) (hA : Seen w A (BaS n f)) (hP : Plain A) :
    Calls Tryz.prog 25 #[.int .i64 a, .int .i64 b, .slice A n c, .agg #[.string (tx d), .string (tx p), .int .i64 cc]] w (Post (.tuple #[.int .i64 ((rplV a b n f d p cc).1 : Nat), .bool (rplV a b n f d p cc).2]) w) := by
  have hN := fun w hA => sNewConsole_v A n c f a b w hn hA hP
  have hG := fun w => sLog_v d p cc w hd hp
  have hL := fun w => sLr_v d p cc w hd hp
  refine post_of_vc ?_
  by_cases h1 : okNew a b n f
  · by_cases h2 : okL d p cc
    · rw [rplV_yes h1 h2]
      rw [tr_yes h1] at hN
      rw [tr_yes h2] at hG
      rw [tr_yes h2, lrN_yes h2] at hL
      have hsm := coNew_small (a := a) (b := b) (f := f) hn
      have hc60 := cnt_le (d ++ p)
      generalize coNew a b n f = d0 at hN hsm ⊢
      generalize d ++ p = s at hL hc60 ⊢
      refine calls_of_vc tb_ok (args := [.int .i64 a, .int .i64 b, .slice A n c, .agg #[.string (tx d), .string (tx p), .int .i64 cc]]) Tryz.func25 rfl ?_
      (repeat' ((conv => whnf); first | refine go ?_ | (refine VSome.mk ?_; intro gQ hA'; first | subst hA' | cases hA' | (dsimp only at hA'; subst hA')) | refine And.intro ?_ ?_ | intro _ | (first | ((show VCall _ _ _ 27 _ _); refine VCall.ret (fun w1 m1 => hN w1 seenA) (fun i _ => ?_); obtain ⟨⟨A', c'⟩, B', e'⟩ := i) | ((show VCall _ _ _ 66 _ _); refine VCall.grow _ (fun w1 m1 => hG w1) ?_) | ((show VCall _ _ _ 67 _ _); refine VCall.ret (fun w1 m1 => hL w1) (fun i _ => ?_); obtain ⟨P, cp⟩ := i))))
      (conv => whnf)
      rename_i gl g10 _ _ _
      refine VLoop.mk (ι := Nat × Sl2) [8, 9, 14, 15, 35, 36, 37, 38, 39, 40, 41, 42, 43, 44, 45, 46, 47, 48, 49, 50, 51, 52, 53, 54, 55, 56, 57, 58] (fun (k, _) => [(15, .int .i64 k)]) (fun (k, (A1, c1), B1, e1) => [.blk g10 39 ((d0.st (xsL s) k).at A1 c1 B1 e1), .row (.slice A1 (d0.st (xsL s) k).n c1) 96 3 (d0.st (xsL s) k).n (BaS (d0.st (xsL s) k).n (d0.st (xsL s) k).ba), .row (.slice B1 (d0.st (xsL s) k).m e1) 98 4 (d0.st (xsL s) k).m (AwS (d0.st (xsL s) k).m (d0.st (xsL s) k).wa), .row (.slice P (cnt s) cp) 74 2 (cnt s) (RcS (cnt s) (rcd s))]) (fun i => i.1 ≤ cnt s ∧ misN (difL d0 s) (cnt s) 0 = misN (difL d0 s) (cnt s - i.1) i.1) (fun i => cnt s - i.1) (0, (A', c'), B', e') ⟨Nat.zero_le _, rfl⟩ ?_ (OwnLe.mk [3, 1, 2, 4] (by simp) rfl) (fun i u hi => ?_)
      · ((conv => whnf); repeat (first | exact trivial | refine ⟨rfl, ?_⟩ | refine ⟨congrArg (Value.int .i64) (by first | omega | assumption | exact Eq.symm (by assumption)), ?_⟩))
      obtain ⟨k, ⟨A1, c1⟩, B1, e1⟩ := i
      obtain ⟨hk, hmis⟩ := hi
      replace hk : k ≤ cnt s := hk
      replace hmis : misN (difL d0 s) (cnt s) 0 = misN (difL d0 s) (cnt s - k) k := hmis
      rw [hmis]
      ((conv => whnf); try dsimp only)
      by_cases hlt : k < cnt s
      · have hk1 : cnt s - k = (cnt s - (k + 1)) + 1 := by omega
        have hxl := xs_len hlt
        have hE := fun A B c e w hA hB hP hQ => sExec_v A B c e (d0.st (xsL s) k) (xsL s k) w (Co.st_small hsm _ k) (by omega) hA hB hP hQ
        rw [show ((d0.st (xsL s) k).exec (xsL s k)).1 = d0.st (xsL s) (k + 1) from rfl, show ((d0.st (xsL s) k).exec (xsL s k)).2 = d0.rp (xsL s) k from rfl] at hE
        have a1 : (RcS (cnt s) (rcd s))[mulS k 2 + 0]? = some (.string (tx (xsL s k))) := RcS_at (i := k) (f := rcd s) hlt (by rw [mulS_eq]) 0 _ rfl
        have a2 : (RcS (cnt s) (rcd s))[mulS k 2 + 1]? = some (.string (tx (ysL s k))) := RcS_at (i := k) (f := rcd s) hlt (by rw [mulS_eq]) 1 _ rfl
        have a3 : (RcS (cnt s) (rcd s))[0 + mulS k 2 + 0]? = some (.string (tx (xsL s k))) := RcS_at (i := k) (f := rcd s) hlt (by rw [mulS_eq, Nat.zero_add]) 0 _ rfl
        have a4 : (RcS (cnt s) (rcd s))[0 + mulS k 2 + 1]? = some (.string (tx (ysL s k))) := RcS_at (i := k) (f := rcd s) hlt (by rw [mulS_eq, Nat.zero_add]) 1 _ rfl
        by_cases hrp : d0.rp (xsL s) k = ysL s k
        · have htx : ¬ ¬ tx (d0.rp (xsL s) k) = tx (ysL s k) := fun q => q (by rw [hrp])
          have htx2 : tx (d0.rp (xsL s) k) = tx (ysL s k) := by rw [hrp]
          rw [hk1, misN_miss (fun q => q hrp)]
          (repeat' ((conv => whnf); first | refine go ?_ | (refine VSome.mk ?_; intro gQ hA'; first | subst hA' | cases hA' | (dsimp only at hA'; subst hA')) | refine And.intro ?_ ?_ | intro _ | (first | ((show VCall _ _ _ 38 _ _); refine VCall.ret (fun w1 m1 => hE _ _ _ _ w1 seenA seenA (m1.plain fndA) (m1.plain fndA)) (fun i _ => ?_); obtain ⟨⟨A9, c9⟩, B9, e9⟩ := i) | ((show VDraw _ _ _ _ _ _); refine VDraw.mk (.take 1 (.take 2 (.take 3 (.take 4 (.take 5 (.br 0 (.br 6 (.take 7 (.take 8 (.take 9 (.br 10 (.take 11 .done) .done)))) .done) .done)))))) [3] (by kernel_rfl) (by kernel_rfl) ?_))))
          all_goals (conv => whnf)
          all_goals (refine VNext.mk (k + 1, (A9, c9), B9, e9) ⟨hlt, rfl⟩ (Nat.lt_succ_self _) ?_ (OwnLe.mk [0, 4, 5, 3] (by simp) rfl); ((conv => whnf); repeat (first | exact trivial | refine ⟨rfl, ?_⟩ | refine ⟨congrArg (Value.int .i64) (by first | omega | assumption | exact Eq.symm (by assumption)), ?_⟩)))
        · have htx : ¬ tx (d0.rp (xsL s) k) = tx (ysL s k) := fun q => hrp (tx_inj q)
          rw [hk1, misN_hit hrp]
          (repeat' ((conv => whnf); first | refine go ?_ | (refine VSome.mk ?_; intro gQ hA'; first | subst hA' | cases hA' | (dsimp only at hA'; subst hA')) | refine And.intro ?_ ?_ | intro _ | (first | ((show VCall _ _ _ 38 _ _); refine VCall.ret (fun w1 m1 => hE _ _ _ _ w1 seenA seenA (m1.plain fndA) (m1.plain fndA)) (fun i _ => ?_); obtain ⟨⟨A9, c9⟩, B9, e9⟩ := i) | ((show VDraw _ _ _ _ _ _); refine VDraw.mk (.take 1 (.take 2 (.take 3 (.take 4 (.take 5 (.br 0 (.br 6 (.take 7 (.take 8 (.take 9 (.br 10 (.take 11 .done) .done)))) .done) .done)))))) [3] (by kernel_rfl) (by kernel_rfl) ?_))))
          all_goals ((conv => whnf); refine VRet.mk fun w' m => ?_)
          all_goals exact ⟨rfl, m.keeps.below⟩
      · obtain rfl : k = cnt s := by omega
        rw [Nat.sub_self, show misN (difL d0 s) 0 (cnt s) = cnt s from rfl]
        (repeat' ((conv => whnf); first | refine go ?_ | (refine VSome.mk ?_; intro gQ hA'; first | subst hA' | cases hA' | (dsimp only at hA'; subst hA')) | refine And.intro ?_ ?_ | intro _))
        all_goals ((conv => whnf); refine VRet.mk fun w' m => ?_)
        all_goals exact ⟨rfl, m.keeps.below⟩
    · rw [rplV_no (fun q => h2 q.2)]
      rw [tr_yes h1] at hN
      rw [tr_no h2] at hG
      generalize coNew a b n f = d0 at hN
      refine calls_of_vc tb_ok (args := [.int .i64 a, .int .i64 b, .slice A n c, .agg #[.string (tx d), .string (tx p), .int .i64 cc]]) Tryz.func25 rfl ?_
      (repeat' ((conv => whnf); first | refine go ?_ | (refine VSome.mk ?_; intro gQ hA'; first | subst hA' | cases hA' | (dsimp only at hA'; subst hA')) | refine And.intro ?_ ?_ | intro _ | (first | ((show VCall _ _ _ 27 _ _); refine VCall.ret (fun w1 m1 => hN w1 seenA) (fun i _ => ?_); obtain ⟨⟨A', c'⟩, B', e'⟩ := i) | ((show VCall _ _ _ 66 _ _); refine VCall.grow _ (fun w1 m1 => hG w1) ?_))))
      all_goals ((conv => whnf); refine VRet.mk fun w' m => ?_)
      all_goals exact ⟨rfl, m.keeps.below⟩
  · rw [rplV_no (fun q => h1 q.1)]
    rw [tr_no h1] at hN
    generalize coNew a b n f = d0 at hN
    refine calls_of_vc tb_ok (args := [.int .i64 a, .int .i64 b, .slice A n c, .agg #[.string (tx d), .string (tx p), .int .i64 cc]]) Tryz.func25 rfl ?_
    (repeat' ((conv => whnf); first | refine go ?_ | (refine VSome.mk ?_; intro gQ hA'; first | subst hA' | cases hA' | (dsimp only at hA'; subst hA')) | refine And.intro ?_ ?_ | intro _ | (first | ((show VCall _ _ _ 27 _ _); refine VCall.ret (fun w1 m1 => hN w1 seenA) (fun i _ => ?_); obtain ⟨⟨A', c'⟩, B', e'⟩ := i))))
    all_goals ((conv => whnf); refine VRet.mk fun w' m => ?_)
    all_goals exact ⟨rfl, m.keeps.below⟩
end Go.Proofs.YtadjhkehfklmnaaGreatDoor
