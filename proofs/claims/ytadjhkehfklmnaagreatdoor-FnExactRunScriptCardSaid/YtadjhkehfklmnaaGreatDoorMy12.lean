/-
  Texts joined: how the calls that the law reaches are walked, and the plain laws behind them.
  Conditions: none beyond each statement's own premises.
-/
import Derived.Test.YtadjhkehfklmnaaGreatDoorMy11
namespace Go.Proofs.YtadjhkehfklmnaaGreatDoor
set_option linter.unusedSimpArgs false
set_option linter.unusedVariables false
open Go.RowKit
set_option maxRecDepth 10000
theorem IL_snoc' (L : List Int) (x : Int) : IL L ++ [.int .i64 x] = IL (L ++ [x]) := (IL_app L [x]).symm
theorem tm_same {f : Nat → Aw} {mi : Int} {hi : Bool} {o : Nat → Nat} {k T : Nat} {F : Int} {H : Bool} (h : tmS f mi hi o k = (F, H, T)) (e : H = (f (o k)).up) : tmB f mi hi o k = mx (F + mi) (f (o k)).minute ∧ tmS f mi hi o (k + 1) = (mx (F + mi) (f (o k)).minute + mi, H, T + 1) := by
  have h1 : tmB f mi hi o k = mx (F + mi) (f (o k)).minute := by
    unfold tmB
    rw [h]
    dsimp only
    rw [if_pos e]
  refine ⟨h1, ?_⟩
  show (mx (if (tmS f mi hi o k).2.1 = (f (o k)).up then (tmS f mi hi o k).1 + mi else (tmS f mi hi o k).1) (f (o k)).minute + mi, (f (o k)).up, if (tmS f mi hi o k).2.1 = (f (o k)).up then (tmS f mi hi o k).2.2 + 1 else (tmS f mi hi o k).2.2) = _
  rw [h]
  dsimp only
  rw [if_pos e, if_pos e, ← e]
theorem tm_diff {f : Nat → Aw} {mi : Int} {hi : Bool} {o : Nat → Nat} {k T : Nat} {F : Int} {H : Bool} (h : tmS f mi hi o k = (F, H, T)) (e : ¬ H = (f (o k)).up) : tmB f mi hi o k = mx F (f (o k)).minute ∧ tmS f mi hi o (k + 1) = (mx F (f (o k)).minute + mi, (f (o k)).up, T) := by
  have h1 : tmB f mi hi o k = mx F (f (o k)).minute := by
    unfold tmB
    rw [h]
    dsimp only
    rw [if_neg e]
  refine ⟨h1, ?_⟩
  show (mx (if (tmS f mi hi o k).2.1 = (f (o k)).up then (tmS f mi hi o k).1 + mi else (tmS f mi hi o k).1) (f (o k)).minute + mi, (f (o k)).up, if (tmS f mi hi o k).2.1 = (f (o k)).up then (tmS f mi hi o k).2.2 + 1 else (tmS f mi hi o k).2.2) = _
  rw [h]
  dsimp only
  rw [if_neg e, if_neg e]
def tmL (f : Nat → Aw) (mi : Int) (hi : Bool) (p : List Nat) (k : Nat) : List Int := (List.range k).map (tmB f mi hi (nth p))
theorem tmL_suc {f : Nat → Aw} {mi : Int} {hi : Bool} {p : List Nat} {k : Nat} {x : Int} (h : tmB f mi hi (nth p) k = x) : tmL f mi hi p k ++ [x] = tmL f mi hi p (k + 1) := by
  unfold tmL
  rw [List.range_succ, List.map_append, ← h]
  rfl
theorem tmL_get {f : Nat → Aw} {mi : Int} {hi : Bool} {p : List Nat} {m k : Nat} (h : k < m) (o : Nat) (e : o = k) : (IL (tmL f mi hi p m))[o]? = some (.int .i64 (tmB f mi hi (nth p) k)) := by
  subst e
  unfold IL tmL
  rw [List.getElem?_map, List.getElem?_map, List.getElem?_range h]
  rfl
set_option maxHeartbeats 8000000 in
theorem iTimes_v (A B : Option Addr) (n c e : Nat) (f : Nat → Aw) (p : List Nat) (hi : Bool) (mi : Int) (w : World) (hg : aGood n f) (h1 : 1 ≤ mi) (h2 : mi ≤ 60) (hp : ∀ x ∈ p, x < n) (hl : p.length ≤ 6) (hA : Seen w A (AwS n f)) (hB : Seen w B (NL p)) :
    Calls Tryz.prog 244 #[.slice A n c, .bool hi, .int .i64 mi, .slice B p.length e] w fun e w' => ∃ v, e = .returned v ∧ RetV (ι := Option Addr × Nat × Nat) (fun _ => True) (fun (P, ct, T) => .tuple #[.slice P p.length ct, .int .i64 T]) (fun (P, ct, T) => [.row (.slice P p.length ct) 3 1 p.length (IL (tmL f mi hi p p.length))]) (Base.of w) v w' := by
  have hn := hg.2
  have hmn : ∀ k, k < p.length → 0 ≤ (f (nth p k)).minute ∧ (f (nth p k)).minute ≤ 9999 := fun k hk => (hg.1 _ (hp _ (nth_mem hk))).2.1
  refine calls_of_vc tb_ok (args := [.slice A n c, .bool hi, .int .i64 mi, .slice B p.length e]) Tryz.func244 rfl ?_
  (repeat' ((conv => whnf); first | refine go ?_ | (refine VSome.mk ?_; intro gQ hA'; first | subst hA' | cases hA' | (dsimp only at hA'; subst hA')) | refine And.intro ?_ ?_ | intro _))
  (conv => whnf)
  refine VLoop.mk (ι := Nat × List Int × Int × Bool × Nat × Option Addr × Nat) [1, 10, 11, 12, 14, 15, 19, 20, 21, 22, 23, 24, 25, 26, 27, 28, 29, 30, 31, 32, 33, 34, 35, 36, 37, 38, 39, 40, 41, 42, 43, 44, 45, 46, 47, 48, 49, 50, 51, 52, 53, 54] (fun (k, L, F, H, T, P, ct) => [(19, .int .i64 k), (10, .slice P k ct), (11, .int .i64 F), (12, .int .i64 T), (1, .bool H)]) (fun (k, L, F, H, T, P, ct) => [.row (.slice P k ct) 3 1 k (IL L)]) (fun i => i.1 ≤ p.length ∧ i.2.1 = tmL f mi hi p i.1 ∧ tmS f mi hi (nth p) i.1 = (i.2.2.1, i.2.2.2.1, i.2.2.2.2.1)) (fun i => p.length - i.1) (0, [], 0, hi, 0, _, _) ⟨Nat.zero_le _, rfl, rfl⟩ ?_ (OwnLe.mk [0] (by simp) rfl) (fun i u hi9 => ?_)
  · ((conv => whnf); repeat (first | exact trivial | refine ⟨rfl, ?_⟩ | refine ⟨congrArg (Value.int .i64) (by first | omega | assumption | exact Eq.symm (by assumption)), ?_⟩))
  obtain ⟨k, L, F, H, T, P, ct⟩ := i
  obtain ⟨hk, hL, hS⟩ := hi9
  replace hk : k ≤ p.length := hk
  replace hL : L = tmL f mi hi p k := hL
  replace hS : tmS f mi hi (nth p) k = (F, H, T) := hS
  have hin := tmS_in (hi := hi) (show 0 ≤ mi by omega) h2 hmn k hk
  rw [hS] at hin
  dsimp only at hin
  by_cases hlt : k < p.length
  · obtain ⟨b2, off2, rfl, hb2, hc2⟩ := NL_look hB hlt
    have hx := hp _ (nth_mem hlt)
    obtain ⟨b1, off1, rfl, hb1, hr1, _, hu1, hm1, _⟩ := AwS.look hA hx
    have hz := hmn k hlt
    have t1 := tm_same hS
    have t2 := tm_diff hS
    have hxm := mx_le (c := 20000) (show F ≤ 20000 by omega) (show (f (nth p k)).minute ≤ 20000 by omega)
    have hxm2 := mx_le (c := 20000) (show F + mi ≤ 20000 by omega) (show (f (nth p k)).minute ≤ 20000 by omega)
    have hym := le_mx F (f (nth p k)).minute
    have hym2 := le_mx (F + mi) (f (nth p k)).minute
    obtain ⟨up, hup⟩ : ∃ u, (f (nth p k)).up = u := ⟨_, rfl⟩
    rw [hup] at hu1 t1 t2
    generalize f (nth p k) = a at *
    obtain ⟨aid, aup, amin, awt⟩ := a
    replace hup : aup = up := hup
    subst hup
    dsimp only at *
    cases H <;> cases aup
    all_goals (conv => whnf)
    all_goals (try dsimp only)
    all_goals ((repeat' ((conv => whnf); first | refine go ?_ | (refine VSome.mk ?_; intro gQ hA'; first | subst hA' | cases hA' | (dsimp only at hA'; subst hA')) | refine And.intro ?_ ?_ | intro _ | (first | fail | ((show VApp _ _ _ _ _ _ _); (apply VApp.pushAny; (focus ((repeat (first | exact At.here | apply At.there)); done)); (focus ((repeat (first | exact At.here | apply At.there)); done)); refine VAppPush.mk rfl rfl (by omega) (fun A' c' => ?_))) | ((show VIn _ _); first | refine VIn.mk (show _ ≤ mx F amin + mi by omega) (show mx F amin + mi ≤ _ by omega) ?_ | refine VIn.mk (show _ ≤ mx (F + mi) amin + mi by omega) (show mx (F + mi) amin + mi ≤ _ by omega) ?_)))))
    all_goals (conv => whnf)
    all_goals first
      | (refine VNext.mk (k + 1, L ++ [mx (F + mi) amin], mx (F + mi) amin + mi, true, T + 1, _, _) ⟨hlt, by show L ++ [_] = _; rw [hL, tmL_suc (t1 rfl).1], (t1 rfl).2⟩ (by show p.length - (k + 1) < p.length - k; omega) ?_ (OwnLe.mk [0] (by simp) (by first | (dsimp only; rw [← IL_snoc']; rfl) | (rw [← IL_snoc']; rfl))); ((conv => whnf); repeat (first | exact trivial | refine ⟨rfl, ?_⟩ | refine ⟨congrArg (Value.int .i64) (by first | omega | assumption | exact Eq.symm (by assumption)), ?_⟩)); done)
      | (refine VNext.mk (k + 1, L ++ [mx (F + mi) amin], mx (F + mi) amin + mi, false, T + 1, _, _) ⟨hlt, by show L ++ [_] = _; rw [hL, tmL_suc (t1 rfl).1], (t1 rfl).2⟩ (by show p.length - (k + 1) < p.length - k; omega) ?_ (OwnLe.mk [0] (by simp) (by first | (dsimp only; rw [← IL_snoc']; rfl) | (rw [← IL_snoc']; rfl))); ((conv => whnf); repeat (first | exact trivial | refine ⟨rfl, ?_⟩ | refine ⟨congrArg (Value.int .i64) (by first | omega | assumption | exact Eq.symm (by assumption)), ?_⟩)); done)
      | (refine VNext.mk (k + 1, L ++ [mx F amin], mx F amin + mi, true, T, _, _) ⟨hlt, by show L ++ [_] = _; rw [hL, tmL_suc (t2 (fun h => by cases h)).1], (t2 (fun h => by cases h)).2⟩ (by show p.length - (k + 1) < p.length - k; omega) ?_ (OwnLe.mk [0] (by simp) (by first | (dsimp only; rw [← IL_snoc']; rfl) | (rw [← IL_snoc']; rfl))); ((conv => whnf); repeat (first | exact trivial | refine ⟨rfl, ?_⟩ | refine ⟨congrArg (Value.int .i64) (by first | omega | assumption | exact Eq.symm (by assumption)), ?_⟩)); done)
      | (refine VNext.mk (k + 1, L ++ [mx F amin], mx F amin + mi, false, T, _, _) ⟨hlt, by show L ++ [_] = _; rw [hL, tmL_suc (t2 (fun h => by cases h)).1], (t2 (fun h => by cases h)).2⟩ (by show p.length - (k + 1) < p.length - k; omega) ?_ (OwnLe.mk [0] (by simp) (by first | (dsimp only; rw [← IL_snoc']; rfl) | (rw [← IL_snoc']; rfl))); ((conv => whnf); repeat (first | exact trivial | refine ⟨rfl, ?_⟩ | refine ⟨congrArg (Value.int .i64) (by first | omega | assumption | exact Eq.symm (by assumption)), ?_⟩)); done)
  · obtain rfl : k = p.length := by omega
    (repeat' ((conv => whnf); first | refine go ?_ | (refine VSome.mk ?_; intro gQ hA'; first | subst hA' | cases hA' | (dsimp only at hA'; subst hA')) | refine And.intro ?_ ?_ | intro _))
    (conv => whnf)
    subst hL
    exact VRet.sel (P, ct, T) trivial rfl [0] (by simp) rfl
set_option maxHeartbeats 8000000 in
theorem sTimes_v (A B : Option Addr) (n c e : Nat) (f : Nat → Aw) (p : List Nat) (hi : Bool) (mi : Int) (w : World) (hg : aGood n f) (h1 : 1 ≤ mi) (h2 : mi ≤ 60) (hp : ∀ x ∈ p, x < n) (hl : p.length ≤ 6) (hA : Seen w A (AwS n f)) (hB : Seen w B (NL p)) :
    Calls Tryz.prog 245 #[.slice A n c, .bool hi, .int .i64 mi, .slice B p.length e] w fun e w' => ∃ v, e = .returned v ∧ RetV (ι := Option Addr × Nat × Nat) (fun _ => True) (fun (P, ct, T) => .slice P p.length ct) (fun (P, ct, T) => [.row (.slice P p.length ct) 3 1 p.length (IL (tmL f mi hi p p.length))]) (Base.of w) v w' := by
  have hn := hg.2
  have hmn : ∀ k, k < p.length → 0 ≤ (f (nth p k)).minute ∧ (f (nth p k)).minute ≤ 9999 := fun k hk => (hg.1 _ (hp _ (nth_mem hk))).2.1
  refine calls_of_vc tb_ok (args := [.slice A n c, .bool hi, .int .i64 mi, .slice B p.length e]) Tryz.func245 rfl ?_
  (repeat' ((conv => whnf); first | refine go ?_ | (refine VSome.mk ?_; intro gQ hA'; first | subst hA' | cases hA' | (dsimp only at hA'; subst hA')) | refine And.intro ?_ ?_ | intro _))
  (conv => whnf)
  refine VLoop.mk (ι := Nat × List Int × Int × Bool × Nat × Option Addr × Nat) [1, 9, 10, 11, 12, 13, 15, 16, 17, 18, 19, 20, 21, 22, 23, 24, 25, 26, 27, 28, 29, 30, 31, 32, 33, 34, 35, 36, 37, 38, 39, 40, 41, 42, 43, 44, 45, 46, 47, 48, 49] (fun (k, L, F, H, T, P, ct) => [(11, .int .i64 k), (9, .slice P k ct), (10, .int .i64 F), (1, .bool H)]) (fun (k, L, F, H, T, P, ct) => [.row (.slice P k ct) 3 1 k (IL L)]) (fun i => i.1 ≤ p.length ∧ i.2.1 = tmL f mi hi p i.1 ∧ tmS f mi hi (nth p) i.1 = (i.2.2.1, i.2.2.2.1, i.2.2.2.2.1)) (fun i => p.length - i.1) (0, [], 0, hi, 0, _, _) ⟨Nat.zero_le _, rfl, rfl⟩ ?_ (OwnLe.mk [0] (by simp) rfl) (fun i u hi9 => ?_)
  · ((conv => whnf); repeat (first | exact trivial | refine ⟨rfl, ?_⟩ | refine ⟨congrArg (Value.int .i64) (by first | omega | assumption | exact Eq.symm (by assumption)), ?_⟩))
  obtain ⟨k, L, F, H, T, P, ct⟩ := i
  obtain ⟨hk, hL, hS⟩ := hi9
  replace hk : k ≤ p.length := hk
  replace hL : L = tmL f mi hi p k := hL
  replace hS : tmS f mi hi (nth p) k = (F, H, T) := hS
  have hin := tmS_in (hi := hi) (show 0 ≤ mi by omega) h2 hmn k hk
  rw [hS] at hin
  dsimp only at hin
  by_cases hlt : k < p.length
  · obtain ⟨b2, off2, rfl, hb2, hc2⟩ := NL_look hB hlt
    have hx := hp _ (nth_mem hlt)
    obtain ⟨b1, off1, rfl, hb1, hr1, _, hu1, hm1, _⟩ := AwS.look hA hx
    have hz := hmn k hlt
    have t1 := tm_same hS
    have t2 := tm_diff hS
    have hxm := mx_le (c := 20000) (show F ≤ 20000 by omega) (show (f (nth p k)).minute ≤ 20000 by omega)
    have hxm2 := mx_le (c := 20000) (show F + mi ≤ 20000 by omega) (show (f (nth p k)).minute ≤ 20000 by omega)
    have hym := le_mx F (f (nth p k)).minute
    have hym2 := le_mx (F + mi) (f (nth p k)).minute
    obtain ⟨up, hup⟩ : ∃ u, (f (nth p k)).up = u := ⟨_, rfl⟩
    rw [hup] at hu1 t1 t2
    generalize f (nth p k) = a at *
    obtain ⟨aid, aup, amin, awt⟩ := a
    replace hup : aup = up := hup
    subst hup
    dsimp only at *
    cases H <;> cases aup
    all_goals (conv => whnf)
    all_goals (try dsimp only)
    all_goals ((repeat' ((conv => whnf); first | refine go ?_ | (refine VSome.mk ?_; intro gQ hA'; first | subst hA' | cases hA' | (dsimp only at hA'; subst hA')) | refine And.intro ?_ ?_ | intro _ | (first | ((show VCall _ _ _ 166 _ _); refine VCall.grow _ (fun w1 _ => l1Most_v _ _ w1) ?_) | ((show VApp _ _ _ _ _ _ _); (apply VApp.pushAny; (focus ((repeat (first | exact At.here | apply At.there)); done)); (focus ((repeat (first | exact At.here | apply At.there)); done)); refine VAppPush.mk rfl rfl (by omega) (fun A' c' => ?_))) | ((show VIn _ _); first | refine VIn.mk (show _ ≤ mx F amin + mi by omega) (show mx F amin + mi ≤ _ by omega) ?_ | refine VIn.mk (show _ ≤ mx (F + mi) amin + mi by omega) (show mx (F + mi) amin + mi ≤ _ by omega) ?_)))))
    all_goals (conv => whnf)
    all_goals first
      | (refine VNext.mk (k + 1, L ++ [mx (F + mi) amin], mx (F + mi) amin + mi, true, T + 1, _, _) ⟨hlt, by show L ++ [_] = _; rw [hL, tmL_suc (t1 rfl).1], (t1 rfl).2⟩ (by show p.length - (k + 1) < p.length - k; omega) ?_ (OwnLe.mk [0] (by simp) (by first | (dsimp only; rw [← IL_snoc']; rfl) | (rw [← IL_snoc']; rfl))); ((conv => whnf); repeat (first | exact trivial | refine ⟨rfl, ?_⟩ | refine ⟨congrArg (Value.int .i64) (by first | omega | assumption | exact Eq.symm (by assumption)), ?_⟩)); done)
      | (refine VNext.mk (k + 1, L ++ [mx (F + mi) amin], mx (F + mi) amin + mi, false, T + 1, _, _) ⟨hlt, by show L ++ [_] = _; rw [hL, tmL_suc (t1 rfl).1], (t1 rfl).2⟩ (by show p.length - (k + 1) < p.length - k; omega) ?_ (OwnLe.mk [0] (by simp) (by first | (dsimp only; rw [← IL_snoc']; rfl) | (rw [← IL_snoc']; rfl))); ((conv => whnf); repeat (first | exact trivial | refine ⟨rfl, ?_⟩ | refine ⟨congrArg (Value.int .i64) (by first | omega | assumption | exact Eq.symm (by assumption)), ?_⟩)); done)
      | (refine VNext.mk (k + 1, L ++ [mx F amin], mx F amin + mi, true, T, _, _) ⟨hlt, by show L ++ [_] = _; rw [hL, tmL_suc (t2 (fun h => by cases h)).1], (t2 (fun h => by cases h)).2⟩ (by show p.length - (k + 1) < p.length - k; omega) ?_ (OwnLe.mk [0] (by simp) (by first | (dsimp only; rw [← IL_snoc']; rfl) | (rw [← IL_snoc']; rfl))); ((conv => whnf); repeat (first | exact trivial | refine ⟨rfl, ?_⟩ | refine ⟨congrArg (Value.int .i64) (by first | omega | assumption | exact Eq.symm (by assumption)), ?_⟩)); done)
      | (refine VNext.mk (k + 1, L ++ [mx F amin], mx F amin + mi, false, T, _, _) ⟨hlt, by show L ++ [_] = _; rw [hL, tmL_suc (t2 (fun h => by cases h)).1], (t2 (fun h => by cases h)).2⟩ (by show p.length - (k + 1) < p.length - k; omega) ?_ (OwnLe.mk [0] (by simp) (by first | (dsimp only; rw [← IL_snoc']; rfl) | (rw [← IL_snoc']; rfl))); ((conv => whnf); repeat (first | exact trivial | refine ⟨rfl, ?_⟩ | refine ⟨congrArg (Value.int .i64) (by first | omega | assumption | exact Eq.symm (by assumption)), ?_⟩)); done)
  · obtain rfl : k = p.length := by omega
    (repeat' ((conv => whnf); first | refine go ?_ | (refine VSome.mk ?_; intro gQ hA'; first | subst hA' | cases hA' | (dsimp only at hA'; subst hA')) | refine And.intro ?_ ?_ | intro _))
    (conv => whnf)
    subst hL
    exact VRet.sel (P, ct, T) trivial rfl [0] (by simp) rfl
set_option maxHeartbeats 4000000 in
theorem iDelay_v (A B : Option Addr) (n c e : Nat) (f : Nat → Aw) (p : List Nat) (hi : Bool) (mi : Int) (w : World) (hg : aGood n f) (h1 : 1 ≤ mi) (h2 : mi ≤ 60) (hp : ∀ x ∈ p, x < n) (hl : p.length ≤ 6) (hA : Seen w A (AwS n f)) (hB : Seen w B (NL p)) :
    Calls Tryz.prog 224 #[.slice A n c, .bool hi, .int .i64 mi, .slice B p.length e] w (Post (.int .i64 (dlL f mi hi p)) w) := by
  have hn := hg.2
  have hmn : ∀ k, k < p.length → 0 ≤ (f (nth p k)).minute ∧ (f (nth p k)).minute ≤ 9999 := fun k hk => (hg.1 _ (hp _ (nth_mem hk))).2.1
  have hwt : ∀ k, k < p.length → 1 ≤ (f (nth p k)).weight ∧ (f (nth p k)).weight ≤ 9 := fun k hk => (hg.1 _ (hp _ (nth_mem hk))).2.2.1
  refine post_of_vc ?_
  refine calls_of_vc tb_ok (args := [.slice A n c, .bool hi, .int .i64 mi, .slice B p.length e]) Tryz.func224 rfl ?_
  (repeat' ((conv => whnf); first | refine go ?_ | (refine VSome.mk ?_; intro gQ hA'; first | subst hA' | cases hA' | (dsimp only at hA'; subst hA')) | refine And.intro ?_ ?_ | intro _ | (first | ((show VCall _ _ _ 244 _ _); refine VCall.ret (fun w1 m1 => iTimes_v A B n c e f p hi mi w1 hg h1 h2 hp hl seenA seenA) (fun i _ => ?_); obtain ⟨P, ct, T⟩ := i))))
  (conv => whnf)
  refine VLoop.mk (ι := Nat) [11, 12, 13, 24, 25, 26, 27, 28, 29, 30, 31, 32, 33, 34, 35, 36, 37, 38, 39, 40, 41, 42, 43, 44, 45, 46, 47] (fun k => [(24, .int .i64 k), (11, .int .i64 (dl f mi hi (nth p) k))]) (fun k => [.row (.slice P p.length ct) 3 1 p.length (IL (tmL f mi hi p p.length))]) (fun k => k ≤ p.length) (fun k => p.length - k) 0 (Nat.zero_le _) ?_ (OwnLe.mk [0] (by simp) rfl) (fun k u hk => ?_)
  · ((conv => whnf); repeat (first | exact trivial | refine ⟨rfl, ?_⟩ | refine ⟨congrArg (Value.int .i64) (by first | omega | assumption | exact Eq.symm (by assumption)), ?_⟩))
  have hd := dl_in (hi := hi) (show 0 ≤ mi by omega) h2 hl hmn hwt k hk
  by_cases hlt : k < p.length
  · obtain ⟨b2, off2, rfl, hb2, hc2⟩ := NL_look hB hlt
    have hx := hp _ (nth_mem hlt)
    obtain ⟨b1, off1, rfl, hb1, hr1, _, _, hm1, hw1⟩ := AwS.look hA hx
    have hT : (IL (tmL f mi hi p p.length))[mulS k 1]? = some (.int .i64 (tmB f mi hi (nth p) k)) := tmL_get hlt _ (by rw [mulS_eq]; omega)
    have hq := dlT_in (hi := hi) (show 0 ≤ mi by omega) h2 hl hmn hwt hlt
    have hz := hmn k hlt
    have hb9 := tmB_in (hi := hi) (show 0 ≤ mi by omega) h2 hmn hlt
    have hd2 : dl f mi hi (nth p) (k + 1) = dl f mi hi (nth p) k + (f (nth p k)).weight * (tmB f mi hi (nth p) k - (f (nth p k)).minute) := rfl
    have hq3 : 0 ≤ (f (nth p k)).weight * (tmB f mi hi (nth p) k - (f (nth p k)).minute) ∧ (f (nth p k)).weight * (tmB f mi hi (nth p) k - (f (nth p k)).minute) ≤ 97200 := ⟨hq.2.2.1, hq.2.2.2⟩
    (repeat' ((conv => whnf); first | refine go ?_ | (refine VSome.mk ?_; intro gQ hA'; first | subst hA' | cases hA' | (dsimp only at hA'; subst hA')) | refine And.intro ?_ ?_ | intro _ | (first | ((show VDraw _ _ _ _ _ _); refine VDraw.mk (.take 0 (.take 1 (.take 2 (.take 3 (.take 4 (.take 5 (.take 6 (.take 7 (.take 8 (.take 9 (.take 10 (.take 11 (.take 12 (.take 13 (.take 14 (.take 15 (.take 16 (.take 17 (.take 18 .done))))))))))))))))))) [0] (by kernel_rfl) (by kernel_rfl) ?_))))
    all_goals (conv => whnf)
    all_goals (refine VNext.mk (k + 1) hlt (by omega) ?_ (OwnLe.mk [0] (by simp) rfl); ((conv => whnf); repeat (first | exact trivial | refine ⟨rfl, ?_⟩ | refine ⟨congrArg (Value.int .i64) (by first | omega | assumption | exact Eq.symm (by assumption)), ?_⟩)))
  · obtain rfl : k = p.length := by omega
    (repeat' ((conv => whnf); first | refine go ?_ | (refine VSome.mk ?_; intro gQ hA'; first | subst hA' | cases hA' | (dsimp only at hA'; subst hA')) | refine And.intro ?_ ?_ | intro _))
    (conv => whnf); refine VRet.mk fun w' m => ?_
    exact ⟨rfl, m.keeps.below⟩
set_option maxHeartbeats 4000000 in
theorem sDelay_v (A B : Option Addr) (n c e : Nat) (f : Nat → Aw) (p : List Nat) (hi : Bool) (mi : Int) (w : World) (hg : aGood n f) (h1 : 1 ≤ mi) (h2 : mi ≤ 60) (hp : ∀ x ∈ p, x < n) (hl : p.length ≤ 6) (hA : Seen w A (AwS n f)) (hB : Seen w B (NL p)) :
    Calls Tryz.prog 225 #[.slice A n c, .bool hi, .int .i64 mi, .slice B p.length e] w (Post (.int .i64 (dlL f mi hi p)) w) := by
  have hn := hg.2
  have hmn : ∀ k, k < p.length → 0 ≤ (f (nth p k)).minute ∧ (f (nth p k)).minute ≤ 9999 := fun k hk => (hg.1 _ (hp _ (nth_mem hk))).2.1
  have hwt : ∀ k, k < p.length → 1 ≤ (f (nth p k)).weight ∧ (f (nth p k)).weight ≤ 9 := fun k hk => (hg.1 _ (hp _ (nth_mem hk))).2.2.1
  refine post_of_vc ?_
  refine calls_of_vc tb_ok (args := [.slice A n c, .bool hi, .int .i64 mi, .slice B p.length e]) Tryz.func225 rfl ?_
  (repeat' ((conv => whnf); first | refine go ?_ | (refine VSome.mk ?_; intro gQ hA'; first | subst hA' | cases hA' | (dsimp only at hA'; subst hA')) | refine And.intro ?_ ?_ | intro _ | (first | ((show VCall _ _ _ 245 _ _); refine VCall.ret (fun w1 m1 => sTimes_v A B n c e f p hi mi w1 hg h1 h2 hp hl seenA seenA) (fun i _ => ?_); obtain ⟨P, ct, T⟩ := i))))
  (conv => whnf)
  refine VLoop.mk (ι := Nat) [10, 11, 12, 18, 19, 20, 21, 22, 23, 24, 25, 26, 27, 28, 29, 30, 31, 32, 33, 34, 35, 36, 37, 38, 39, 40, 41, 42] (fun k => [(11, .int .i64 k), (10, .int .i64 (dl f mi hi (nth p) k))]) (fun k => [.row (.slice P p.length ct) 3 1 p.length (IL (tmL f mi hi p p.length))]) (fun k => k ≤ p.length) (fun k => p.length - k) 0 (Nat.zero_le _) ?_ (OwnLe.mk [0] (by simp) rfl) (fun k u hk => ?_)
  · ((conv => whnf); repeat (first | exact trivial | refine ⟨rfl, ?_⟩ | refine ⟨congrArg (Value.int .i64) (by first | omega | assumption | exact Eq.symm (by assumption)), ?_⟩))
  have hd := dl_in (hi := hi) (show 0 ≤ mi by omega) h2 hl hmn hwt k hk
  by_cases hlt : k < p.length
  · obtain ⟨b2, off2, rfl, hb2, hc2⟩ := NL_look hB hlt
    have hx := hp _ (nth_mem hlt)
    obtain ⟨b1, off1, rfl, hb1, hr1, _, _, hm1, hw1⟩ := AwS.look hA hx
    have hT : (IL (tmL f mi hi p p.length))[mulS k 1]? = some (.int .i64 (tmB f mi hi (nth p) k)) := tmL_get hlt _ (by rw [mulS_eq]; omega)
    have hq := dlT_in (hi := hi) (show 0 ≤ mi by omega) h2 hl hmn hwt hlt
    have hz := hmn k hlt
    have hb9 := tmB_in (hi := hi) (show 0 ≤ mi by omega) h2 hmn hlt
    have hd2 : dl f mi hi (nth p) (k + 1) = dl f mi hi (nth p) k + (f (nth p k)).weight * (tmB f mi hi (nth p) k - (f (nth p k)).minute) := rfl
    have hq3 : 0 ≤ (f (nth p k)).weight * (tmB f mi hi (nth p) k - (f (nth p k)).minute) ∧ (f (nth p k)).weight * (tmB f mi hi (nth p) k - (f (nth p k)).minute) ≤ 97200 := ⟨hq.2.2.1, hq.2.2.2⟩
    (repeat' ((conv => whnf); first | refine go ?_ | (refine VSome.mk ?_; intro gQ hA'; first | subst hA' | cases hA' | (dsimp only at hA'; subst hA')) | refine And.intro ?_ ?_ | intro _ | (first | ((show VDraw _ _ _ _ _ _); refine VDraw.mk (.take 0 (.take 1 (.take 2 (.take 3 (.take 4 (.take 5 (.take 6 (.take 7 (.take 8 (.take 9 (.take 10 (.take 11 (.take 12 .done))))))))))))) [0, 1] (by kernel_rfl) (by kernel_rfl) ?_))))
    all_goals (conv => whnf)
    all_goals (refine VNext.mk (k + 1) hlt (by omega) ?_ (OwnLe.mk [0] (by simp) rfl); ((conv => whnf); repeat (first | exact trivial | refine ⟨rfl, ?_⟩ | refine ⟨congrArg (Value.int .i64) (by first | omega | assumption | exact Eq.symm (by assumption)), ?_⟩)))
  · obtain rfl : k = p.length := by omega
    (repeat' ((conv => whnf); first | refine go ?_ | (refine VSome.mk ?_; intro gQ hA'; first | subst hA' | cases hA' | (dsimp only at hA'; subst hA')) | refine And.intro ?_ ?_ | intro _))
    (conv => whnf); refine VRet.mk fun w' m => ?_
    exact ⟨rfl, m.keeps.below⟩
end Go.Proofs.YtadjhkehfklmnaaGreatDoor
namespace Go.Proofs.YtadjhkehfklmnaaGreatDoor
set_option linter.unusedSimpArgs false
set_option linter.unusedVariables false
open Go.RowKit
set_option maxRecDepth 10000
section
variable {w0 : Base} {own : List Own} {w : World}
def OldSeen (w0 : Base) (A : Option Addr) (cs : List Value) : Prop := ∀ (j : Nat) u, cs[j]? = some u → ∃ b off, A = some ⟨b, off, none⟩ ∧ b < w0.w.heap.size ∧ ¬ w0.lent b ∧ w0.w.cell? ⟨b, off + j, none⟩ = some u
theorem OldSeen.old {w1 : World} {A : Option Addr} {cs : List Value} (h : Seen w1 A cs) : OldSeen (Base.of w1) A cs := fun j u hj => by
  obtain ⟨b, off, e, hb, hc⟩ := h j u hj
  exact ⟨b, off, e, hb, fun x => x, hc⟩
theorem OldSeen.lend {A : Option Addr} {cs : List Value} (h : OldSeen w0 A cs) (m : Mem w0 own w) (ks : List Nat) : OldSeen (Base.lendL w (fixOf ks own)) A cs := fun j u hj => by
  obtain ⟨b, off, e, hb, hl, hc⟩ := h j u hj
  refine ⟨b, off, e, Nat.lt_of_lt_of_le hb m.keeps.size, fun hx => ?_, (Rd.old (own := own) hb hl hc).cell m.toMemR⟩
  obtain ⟨p, o, ho, hbl⟩ := hx
  obtain ⟨k, _, hk | hk⟩ := fix_get ho
  · rcases ((m.ok k o hk).lt b hbl).1 with h1 | h1
    · omega
    · exact hl h1
  · rw [hk] at hbl; cases hbl
theorem OldSeen.blk (m : Mem w0 own w) (ks : List Nat) (j : Nat) {g : Nat} {ty : TypeId} {cs : List Value} (hj : own[j]? = some (.blk g ty cs)) (hn : j ∉ ks) : OldSeen (Base.lendL w (fixOf ks own)) (some ⟨g, 0, none⟩) cs := fun i u hi => by
  have h := m.at_ j hj
  refine ⟨g, 0, rfl, h.1, fun hx => ?_, h.2 i u hi⟩
  obtain ⟨p, o, ho, hbl⟩ := hx
  obtain ⟨k, hk1, hk | hk⟩ := fix_get ho
  · exact m.sep j k _ _ g (fun e => hn (by rw [e]; exact List.mem_of_getElem? hk1)) hj hk rfl hbl
  · rw [hk] at hbl; cases hbl
theorem VCall.fullS {K : Value → List Own → Prop} {P : Program} {f : FuncId} {args : List Value} (ks : List Nat) (hn : ks.Nodup) {ι : Type} {I : ι → Prop} {val : ι → Value} {os' news : ι → List Own} (hl : ∀ i, ks.length = (os' i).length)
    (h : ∀ w, Mem w0 own w → Mem (Base.lendL w (fixOf ks own)) (fixOf ks own) w → Calls P f args.toArray w fun e w' => ∃ v, e = .returned v ∧ RetL I val os' news (Base.lendL w (fixOf ks own)) v w')
    (k : ∀ i, I i → setLK own ks (os' i) fun own => appK own (news i) fun own => splitB (val i) fun v => K v own) : VCall P w0 own f args K :=
  .gen I val (fun i => setL own ks (os' i) ++ news i) (fun w m => (h w m (m.lendL hn)).mono fun e w' ⟨v, he, i, hi, hv, m'⟩ => ⟨i, hi, by rw [he, hv], m.backL (hl i) m'⟩) (fun i hi => ((k i hi).out).out)
end
end Go.Proofs.YtadjhkehfklmnaaGreatDoor
namespace Go.Proofs.YtadjhkehfklmnaaGreatDoor
set_option linter.unusedSimpArgs false
set_option linter.unusedVariables false
open Go.RowKit
set_option maxRecDepth 10000
section
variable {w0 : Base} {own : List Own} {w : World}
theorem OldSeen.row (m : Mem w0 own w) (ks : List Nat) (j : Nat) {A : Option Addr} {n c : Nat} {ty : TypeId} {size n' : Nat} {cs : List Value} (hj : own[j]? = some (.row (.slice A n c) ty size n' cs)) (hn : j ∉ ks) : OldSeen (Base.lendL w (fixOf ks own)) A cs := fun i u hi => by
  have h := (m.ok j _ hj).2
  rcases h.2 with ⟨_, h0⟩ | ⟨g, cap, cur, e, _, hg, _⟩
  · have := h.1
    subst h0
    rw [Nat.zero_mul] at this
    have : cs = [] := List.eq_nil_of_length_eq_zero this
    subst this
    simp at hi
  · injection e with e1
    subst e1
    have hc := h.cells (g := g) rfl i u hi
    rw [show (⟨g, 0, none⟩ : Addr).add i = ⟨g, 0 + i, none⟩ from by unfold Addr.add; split <;> simp_all] at hc
    refine ⟨g, 0, rfl, (Array.getElem?_eq_some_iff.1 hg).1, fun hx => ?_, hc⟩
    obtain ⟨p, o, ho, hbl⟩ := hx
    obtain ⟨k, hk1, hk | hk⟩ := fix_get ho
    · exact m.sep j k _ _ g (fun e => hn (by rw [e]; exact List.mem_of_getElem? hk1)) hj hk rfl hbl
    · rw [hk] at hbl; cases hbl
theorem OldSeen.take {A : Option Addr} {cs : List Value} (h : OldSeen w0 A cs) (k : Nat) : OldSeen w0 A (cs.take k) := fun j u hj => by
  rw [List.getElem?_take] at hj
  split at hj
  · exact h j u hj
  · cases hj
theorem OldSeen.mine {A : Option Addr} {cs : List Value} (h : OldSeen w0 A cs) {j : Nat} {u : Value} (hj : cs[j]? = some u) : ∃ b off, A = some ⟨b, off, none⟩ ∧ b < w0.w.heap.size ∧ ¬ w0.lent b := by
  obtain ⟨b, off, e, hb, hl, _⟩ := h j u hj
  exact ⟨b, off, e, hb, hl⟩
theorem OldSeen.cell {b off j : Nat} {u : Value} {cs : List Value} (h : OldSeen w0 (some ⟨b, off, none⟩) cs) (hj : cs[j]? = some u) : w0.w.cell? ⟨b, off + j, none⟩ = some u := by
  obtain ⟨b', off', e, _, _, hc⟩ := h j u hj
  cases e
  exact hc
end
section
variable {w0 : Base} {own : List Own} {w : World}
theorem OldSeen.any (m : Mem w0 own w) (ks : List Nat) {g j : Nat} {ty : TypeId} {cs : List Value} (h : At (.blk g ty cs) j own) (hn : j ∉ ks) : OldSeen (Base.lendL w (fixOf ks own)) (some ⟨g, 0, none⟩) cs := OldSeen.blk m ks j h.get hn
theorem OldSeen.anyRow (m : Mem w0 own w) (ks : List Nat) {A : Option Addr} {n c j : Nat} {ty : TypeId} {size n' : Nat} {cs : List Value} (h : At (.row (.slice A n c) ty size n' cs) j own) (hn : j ∉ ks) : OldSeen (Base.lendL w (fixOf ks own)) A cs := OldSeen.row m ks j h.get hn
theorem Mem.cap (m : Mem w0 own w) {A : Option Addr} {n c j : Nat} {ty : TypeId} {size n' : Nat} {cs : List Value} (h : At (.row (.slice A n c) ty size n' cs) j own) : n ≤ c := by
  rcases (m.ok j _ h.get).2.2 with ⟨e, h0⟩ | ⟨g, cap, cur, e, _, _, hnc, _⟩
  · injection e with e1 e2 e3
    omega
  · injection e with e1 e2 e3
    omega
end
end Go.Proofs.YtadjhkehfklmnaaGreatDoor
namespace Go.Proofs.YtadjhkehfklmnaaGreatDoor
set_option linter.unusedSimpArgs false
set_option linter.unusedVariables false
open Go.RowKit
set_option maxRecDepth 10000
theorem OldSeen.now {w0 : Base} {own : List Own} {w : World} {A : Option Addr} {cs : List Value} (h : OldSeen w0 A cs) (m : Mem w0 own w) : Seen w A cs := fun j u hj => by
  obtain ⟨b, off, e, hb, hl, hc⟩ := h j u hj
  exact ⟨b, off, e, Nat.lt_of_lt_of_le hb m.keeps.size, (Rd.old (own := own) hb hl hc).cell m.toMemR⟩
theorem NL_snoc (p : List Nat) (k : Nat) : NL p ++ [.int .i64 (k : Nat)] = NL (p ++ [k]) := (NL_app p [k]).symm
theorem copyN_v (A : Option Addr) (c : Nat) (p : List Nat) (w : World) (hl : p.length ≤ 1048576) (hA : Seen w A (NL p)) (hP : Plain A) :
    Calls Tryz.prog 222 #[.slice A p.length c] w fun e w' => ∃ v, e = .returned v ∧ RetV (ι := Option Addr × Nat) (fun _ => True) (fun (P, c') => .slice P p.length c') (fun (P, c') => [.row (.slice P p.length c') 3 1 p.length (NL p)]) (Base.of w) v w' := by
  refine calls_of_vc tb_ok (args := [.slice A p.length c]) Tryz.func222 rfl ?_
  (repeat' ((conv => whnf); first | refine go ?_ | (refine VSome.mk ?_; intro gQ hA'; first | subst hA' | cases hA' | (dsimp only at hA'; subst hA')) | refine And.intro ?_ ?_ | intro _ | (first | ((show VApp _ _ _ _ _ _ _); (apply VApp.allAny; (focus ((repeat (first | exact At.here | apply At.there)); done)); refine VAppAll.as p.length (NL p) rfl hA hP (NL_len1 p) (by decide) (NL_one p) (by omega) (Nat.zero_add _) (List.nil_append _) (fun A' c' => ?_))))))
  (conv => whnf)
  exact VRet.sel (A', c') trivial rfl [0] (by simp) rfl
theorem ownN_v (A : Option Addr) (c : Nat) (p : List Nat) (w : World) (hl : p.length ≤ 1048576) (hA : Seen w A (NL p)) (hP : Plain A) :
    Calls Tryz.prog 227 #[.slice A p.length c] w fun e w' => ∃ v, e = .returned v ∧ RetV (ι := Option Addr × Nat) (fun _ => True) (fun (P, c') => .slice P p.length c') (fun (P, c') => [.row (.slice P p.length c') 3 1 p.length (NL p)]) (Base.of w) v w' := by
  refine calls_of_vc tb_ok (args := [.slice A p.length c]) Tryz.func227 rfl ?_
  (repeat' ((conv => whnf); first | refine go ?_ | (refine VSome.mk ?_; intro gQ hA'; first | subst hA' | cases hA' | (dsimp only at hA'; subst hA')) | refine And.intro ?_ ?_ | intro _ | (first | ((show VApp _ _ _ _ _ _ _); (apply VApp.allAny; (focus ((repeat (first | exact At.here | apply At.there)); done)); refine VAppAll.as p.length (NL p) rfl hA hP (NL_len1 p) (by decide) (NL_one p) (by omega) (Nat.zero_add _) (List.nil_append _) (fun A' c' => ?_))))))
  (conv => whnf)
  exact VRet.sel (A', c') trivial rfl [0] (by simp) rfl
set_option maxHeartbeats 8000000 in
theorem best8_v {n : Nat} {f : Nat → Aw} {mi : Int} {hi : Bool} (hg : aGood n f) (h1 : 1 ≤ mi) (h2 : mi ≤ 60) : ∀ (d : Nat) (p : List Nat) {w0 : Base} {w : World} (A : Option Addr) (c : Nat) (O : Option Addr) (co np : Nat) (ps : List Value), np = p.length → ps = NL p → vld n f p → p.length + d = n → OldSeen w0 A (AwS n f) → Mem w0 [.row (.slice O np co) 3 1 np ps] w →
    Calls Tryz.prog 195 #[.slice A n c, .bool hi, .int .i64 mi, .slice O np co] w fun e w' => ∃ v, e = .returned v ∧ RetL (ι := List Nat × Int × Option Addr × Nat) (fun (l, x, P, c') => (l, x) = best n f mi hi d p) (fun (l, x, P, c') => .tuple #[.slice P l.length c', .int .i64 x]) (fun _ => [.gone]) (fun (l, x, P, c') => [.row (.slice P l.length c') 3 1 l.length (NL l)]) w0 v w' := by
  intro d
  induction d with
  | zero =>
    intro p w0 w A c O co np ps e1 e2 hv hl hA m0
    subst e1 e2
    obtain ⟨hn, hx⟩ := vld_nd hv
    have hn6 := hg.2
    refine calls_of_vcL (w0 := w0) tb_ok (args := [.slice A n c, .bool hi, .int .i64 mi, .slice O p.length co]) Tryz.func195 rfl m0 ?_
    (repeat' ((conv => whnf); first | refine go ?_ | (refine VSome.mk ?_; intro gQ hA'; first | subst hA' | cases hA' | (dsimp only at hA'; subst hA')) | refine And.intro ?_ ?_ | intro _ | (first | ((show VCall _ _ _ 225 _ _); refine VCall.grow _ (fun w1 m1 => sDelay_v A O n c co f p hi mi w1 hg h1 h2 hx (by omega) (hA.now m1) (Sees.any m1 fndA)) ?_))))
    all_goals first | (exfalso; omega; done) | skip
    all_goals (conv => whnf)
    all_goals refine VRet.mk fun w' m => ⟨(p, dlL f mi hi p, O, co), rfl, rfl, m.sel (ks := [100, 0]) (by simp)⟩
  | succ d ih =>
    intro p w0 w A c O co np ps e1 e2 hv hl hA m0
    subst e1 e2
    obtain ⟨hn, hx⟩ := vld_nd hv
    have hn6 := hg.2
    have hO : Plain O := m0.plain At.here
    refine calls_of_vcL (w0 := w0) tb_ok (args := [.slice A n c, .bool hi, .int .i64 mi, .slice O p.length co]) Tryz.func195 rfl m0 ?_
    (repeat' ((conv => whnf); first | refine go ?_ | (refine VSome.mk ?_; intro gQ hA'; first | subst hA' | cases hA' | (dsimp only at hA'; subst hA')) | refine And.intro ?_ ?_ | intro _))
    all_goals first | (exfalso; omega; done) | skip
    (conv => whnf)
    refine VLoop.mk (ι := Nat × List Nat × Int × Option Addr × Nat) [10, 11, 12, 13, 14, 27, 28, 29, 30, 31, 32, 33, 34, 35, 36, 37, 38, 39, 40, 41, 42, 43, 44, 45, 46, 47, 48, 49, 50, 51, 52, 53, 54, 55, 56, 57, 58] (fun (k, l, x, P, cp) => [(12, .int .i64 k), (10, .slice P l.length cp), (11, .int .i64 x)]) (fun (k, l, x, P, cp) => [.row (.slice O p.length co) 3 1 p.length (NL p), .row (.slice P l.length cp) 3 1 l.length (NL l)]) (fun i => i.1 ≤ n ∧ (i.2.1, i.2.2.1) = foldN (fun acc k => if tr (nxt n f p k) then cmb acc (best n f mi hi d (p ++ [k])) else acc) ([], -1) i.1) (fun i => n - i.1) (0, [], -1, _, _) ⟨Nat.zero_le _, rfl⟩ ?_ (OwnLe.mk [0, 1] (by simp) rfl) (fun i u hi9 => ?_)
    · ((conv => whnf); repeat (first | exact trivial | refine ⟨rfl, ?_⟩ | refine ⟨congrArg (Value.int .i64) (by first | omega | assumption | exact Eq.symm (by assumption)), ?_⟩))
    obtain ⟨k, l, x, P, cp⟩ := i
    obtain ⟨hk, hS⟩ := hi9
    replace hk : k ≤ n := hk
    replace hS : (l, x) = foldN (fun acc k => if tr (nxt n f p k) then cmb acc (best n f mi hi d (p ++ [k])) else acc) ([], -1) k := hS
    by_cases hlt : k < n
    · have hN := fun w hA hB => next8_v A O n c co f p k w (by omega) hlt (by omega) hA hB
      have hsuc : foldN (fun acc k => if tr (nxt n f p k) then cmb acc (best n f mi hi d (p ++ [k])) else acc) ([], -1) (k + 1) = if tr (nxt n f p k) then cmb (l, x) (best n f mi hi d (p ++ [k])) else (l, x) := by rw [hS]; rfl
      by_cases hnx : nxt n f p k
      · rw [tr_yes hnx] at hN hsuc
        have hv2 : vld n f (p ++ [k]) := vld_snoc.2 ⟨hv, hlt, hnx⟩
        (repeat' ((conv => whnf); first | refine go ?_ | (refine VSome.mk ?_; intro gQ hA'; first | subst hA' | cases hA' | (dsimp only at hA'; subst hA')) | refine And.intro ?_ ?_ | intro _ | (first | ((show VCall _ _ _ 226 _ _); refine VCall.grow _ (fun w1 m1 => hN w1 (hA.now m1) (Sees.any m1 fndA)) ?_) | ((show VCall _ _ _ 227 _ _); refine VCall.ret (fun w1 m1 => ownN_v O co p w1 (by omega) (Sees.any m1 fndA) hO) (fun i _ => ?_); obtain ⟨Q, q⟩ := i) | ((show VApp _ _ _ _ _ _ _); (apply VApp.pushAny; (focus ((repeat (first | exact At.here | apply At.there)); done)); (focus ((repeat (first | exact At.here | apply At.there)); done)); refine VAppPush.mk rfl rfl (by omega) (fun A' c' => ?_))) | ((show VCall _ _ _ 195 _ _); refine VCall.fullS [2] (by simp) (fun _ => rfl) (fun w1 m1 m2 => ih (p ++ [k]) A c _ _ _ _ (by simp) (NL_snoc p k) hv2 (by simp; omega) (hA.lend m1 [2]) m2) (fun i hb => ?_); obtain ⟨l2, x2, P2, q2⟩ := i))))
        all_goals (conv => whnf)
        all_goals (replace hb : (l2, x2) = best n f mi hi d (p ++ [k]) := hb)
        all_goals rw [← hb] at hsuc
        all_goals first
          | (refine VNext.mk (k + 1, l2, x2, P2, q2) ⟨hlt, by show (l2, x2) = _; rw [hsuc, if_pos rfl]; unfold cmb; rw [tr_yes (by dsimp only; omega)]; rfl⟩ (by show n - (k + 1) < n - k; omega) ?_ (OwnLe.mk [0, 4] (by simp) rfl); ((conv => whnf); repeat (first | exact trivial | refine ⟨rfl, ?_⟩ | refine ⟨congrArg (Value.int .i64) (by first | omega | assumption | exact Eq.symm (by assumption)), ?_⟩)); done)
          | (refine VNext.mk (k + 1, l, x, P, cp) ⟨hlt, by show (l, x) = _; rw [hsuc, if_pos rfl]; unfold cmb; rw [tr_no (by dsimp only; omega)]; rfl⟩ (by show n - (k + 1) < n - k; omega) ?_ (OwnLe.mk [0, 1] (by simp) rfl); ((conv => whnf); repeat (first | exact trivial | refine ⟨rfl, ?_⟩ | refine ⟨congrArg (Value.int .i64) (by first | omega | assumption | exact Eq.symm (by assumption)), ?_⟩)); done)
      · rw [tr_no hnx] at hN hsuc
        (repeat' ((conv => whnf); first | refine go ?_ | (refine VSome.mk ?_; intro gQ hA'; first | subst hA' | cases hA' | (dsimp only at hA'; subst hA')) | refine And.intro ?_ ?_ | intro _ | (first | ((show VCall _ _ _ 226 _ _); refine VCall.grow _ (fun w1 m1 => hN w1 (hA.now m1) (Sees.any m1 fndA)) ?_))))
        (conv => whnf)
        refine VNext.mk (k + 1, l, x, P, cp) ⟨hlt, by show (l, x) = _; rw [hsuc]; rfl⟩ (by show n - (k + 1) < n - k; omega) ?_ (OwnLe.mk [0, 1] (by simp) rfl)
        ((conv => whnf); repeat (first | exact trivial | refine ⟨rfl, ?_⟩ | refine ⟨congrArg (Value.int .i64) (by first | omega | assumption | exact Eq.symm (by assumption)), ?_⟩))
    · obtain rfl : k = n := by omega
      (repeat' ((conv => whnf); first | refine go ?_ | (refine VSome.mk ?_; intro gQ hA'; first | subst hA' | cases hA' | (dsimp only at hA'; subst hA')) | refine And.intro ?_ ?_ | intro _))
      (conv => whnf)
      refine VRet.mk fun w' m => ⟨(l, x, P, cp), hS, rfl, m.sel (ks := [100, 1]) (by simp)⟩
end Go.Proofs.YtadjhkehfklmnaaGreatDoor
namespace Go.Proofs.YtadjhkehfklmnaaGreatDoor
set_option linter.unusedSimpArgs false
set_option linter.unusedVariables false
open Go.RowKit
set_option maxRecDepth 10000
def visC (gl gv gh gm gle gb : Nat) : Value := .func (.func 220) #[] #[.pointer (some ⟨gl, 0, none⟩), .pointer (some ⟨gv, 0, none⟩), .pointer (some ⟨gh, 0, none⟩), .pointer (some ⟨gm, 0, none⟩), .pointer (some ⟨gle, 0, none⟩), .pointer (some ⟨gb, 0, none⟩)]
set_option maxHeartbeats 16000000 in
theorem visit_v {n : Nat} {f : Nat → Aw} {mi : Int} {hi : Bool} (hg : aGood n f) (h1 : 1 ≤ mi) (h2 : mi ≤ 60) : ∀ (d : Nat) (p : List Nat) (acc : List Nat × Int) {w0 : Base} {w : World} (gl gv gh gm gle gb : Nat) (A : Option Addr) (c : Nat) (B : Option Addr) (cb nb : Nat) (bs : List Value) (O : Option Addr) (co np : Nat) (ps : List Value), nb = acc.1.length → bs = NL acc.1 → np = p.length → ps = NL p → p.Nodup → (∀ x ∈ p, x < n) → p.length + d = n → OldSeen w0 A (AwS n f) →
    Mem w0 [.blk gl 36 [.slice A n c], .blk gv 228 [visC gl gv gh gm gle gb], .blk gh 4 [.bool hi], .blk gm 3 [.int .i64 mi], .blk gle 3 [.int .i64 acc.2], .blk gb 101 [.slice B nb cb], .row (.slice B nb cb) 3 1 nb bs, .row (.slice O np co) 3 1 np ps] w →
    Calls Tryz.prog 220 #[.slice O np co, .pointer (some ⟨gl, 0, none⟩), .pointer (some ⟨gv, 0, none⟩), .pointer (some ⟨gh, 0, none⟩), .pointer (some ⟨gm, 0, none⟩), .pointer (some ⟨gle, 0, none⟩), .pointer (some ⟨gb, 0, none⟩)] w fun e w' => ∃ v, e = .returned v ∧ RetL (ι := List Nat × Int × Option Addr × Nat) (fun (l, x, P, cp) => (l, x) = vis n f mi hi d p acc) (fun _ => .tuple #[])
      (fun (l, x, P, cp) => [.blk gl 36 [.slice A n c], .blk gv 228 [visC gl gv gh gm gle gb], .blk gh 4 [.bool hi], .blk gm 3 [.int .i64 mi], .blk gle 3 [.int .i64 x], .blk gb 101 [.slice P l.length cp], .row (.slice P l.length cp) 3 1 l.length (NL l), .gone]) (fun _ => []) w0 v w' := by
  intro d
  induction d with
  | zero =>
    intro p acc w0 w gl gv gh gm gle gb A c B cb nb bs O co np ps e1 e2 e3 e4 hnd hx hl hA m0
    subst e1 e2 e3 e4
    obtain ⟨l, x⟩ := acc
    have hn6 := hg.2
    have hco : p.length ≤ co := m0.cap (j := 7) (by repeat (first | exact At.here | apply At.there))
    refine calls_of_vcL (w0 := w0) tb_ok (args := [.slice O p.length co, .pointer (some ⟨gl, 0, none⟩), .pointer (some ⟨gv, 0, none⟩), .pointer (some ⟨gh, 0, none⟩), .pointer (some ⟨gm, 0, none⟩), .pointer (some ⟨gle, 0, none⟩), .pointer (some ⟨gb, 0, none⟩)]) Tryz.func220 rfl m0 ?_
    unfold visC
    (repeat' ((conv => whnf); first | refine go ?_ | (refine VSome.mk ?_; intro gQ hA'; first | subst hA' | cases hA' | (dsimp only at hA'; subst hA')) | refine And.intro ?_ ?_ | intro _))
    (conv => whnf)
    refine VLoop.mk (ι := Nat) [8, 12, 13, 14, 15, 16, 17, 18, 19, 20, 21, 22, 23, 24, 25, 26] (fun k => [(12, .int .i64 k)]) (fun k => [.blk gl 36 [.slice A n c], .blk gv 228 [visC gl gv gh gm gle gb], .blk gh 4 [.bool hi], .blk gm 3 [.int .i64 mi], .blk gle 3 [.int .i64 x], .blk gb 101 [.slice B l.length cb], .row (.slice B l.length cb) 3 1 l.length (NL l), .row (.slice O p.length co) 3 1 p.length (NL p)]) (fun k => k ≤ n) (fun k => n - k) 0 (Nat.zero_le _) ?_ (OwnLe.mk [0, 1, 2, 3, 4, 5, 6, 7] (by simp) rfl) (fun k u hk => ?_)
    · ((conv => whnf); repeat (first | exact trivial | refine ⟨rfl, ?_⟩ | refine ⟨congrArg (Value.int .i64) (by first | omega | assumption | exact Eq.symm (by assumption)), ?_⟩))
    by_cases hlt : k < n
    · have hm : k ∈ p := nd_all hnd hx hl hlt
      have hC := fun w hB => containsN_v O co p k w (by omega) hB
      rw [tr_yes hm] at hC
      (repeat' ((conv => whnf); first | refine go ?_ | (refine VSome.mk ?_; intro gQ hA'; first | subst hA' | cases hA' | (dsimp only at hA'; subst hA')) | refine And.intro ?_ ?_ | intro _ | (first | ((show VCall _ _ _ 221 _ _); refine VCall.grow _ (fun w1 m1 => hC w1 (Sees.any m1 fndA)) ?_))))
      (conv => whnf)
      refine VNext.mk (k + 1) hlt (by omega) ?_ (OwnLe.mk [0, 1, 2, 3, 4, 5, 6, 7] (by simp) rfl)
      ((conv => whnf); repeat (first | exact trivial | refine ⟨rfl, ?_⟩ | refine ⟨congrArg (Value.int .i64) (by first | omega | assumption | exact Eq.symm (by assumption)), ?_⟩))
    · obtain rfl : n = k := by omega
      have hI := fun w hA hB => isOrder_v A O n c co f p w hg (by omega) hco hA hB
      have hfin : vis n f mi hi 0 p (l, x) = fin n f mi hi p (l, x) := rfl
      by_cases hio : isO n f p
      · rw [tr_yes hio] at hI
        rw [fin_yes hio] at hfin
        have hD := fun w hA hB => iDelay_v A O n c co f p hi mi w hg h1 h2 hx (by omega) hA hB
        generalize dlL f mi hi p = dv at *
        cases hi
        all_goals ((repeat' ((conv => whnf); first | refine go ?_ | (refine VSome.mk ?_; intro gQ hA'; first | subst hA' | cases hA' | (dsimp only at hA'; subst hA')) | refine And.intro ?_ ?_ | intro _ | (first | ((show VCall _ _ _ 223 _ _); refine VCall.grow _ (fun w1 m1 => hI w1 (hA.now m1) (Sees.any m1 fndA)) ?_) | ((show VCall _ _ _ 224 _ _); refine VCall.grow _ (fun w1 m1 => hD w1 (hA.now m1) (Sees.any m1 fndA)) ?_)))))
        all_goals (conv => whnf)
        all_goals first
          | (refine VRet.mk fun w' m => ⟨(p, dv, O, co), by show (p, dv) = _; rw [hfin]; unfold cmb; rw [tr_yes (by dsimp only; omega)]; rfl, rfl, m.sel (ks := [0, 1, 2, 3, 4, 5, 7, 100]) (by simp)⟩; done)
          | (refine VRet.mk fun w' m => ⟨(l, x, B, cb), by show (l, x) = _; rw [hfin]; unfold cmb; rw [tr_no (by dsimp only; omega)]; rfl, rfl, m.sel (ks := [0, 1, 2, 3, 4, 5, 6, 100]) (by simp)⟩; done)
      · rw [tr_no hio] at hI
        rw [fin_no hio] at hfin
        (repeat' ((conv => whnf); first | refine go ?_ | (refine VSome.mk ?_; intro gQ hA'; first | subst hA' | cases hA' | (dsimp only at hA'; subst hA')) | refine And.intro ?_ ?_ | intro _ | (first | ((show VCall _ _ _ 223 _ _); refine VCall.grow _ (fun w1 m1 => hI w1 (hA.now m1) (Sees.any m1 fndA)) ?_))))
        (conv => whnf)
        exact VRet.mk fun w' m => ⟨(l, x, B, cb), hfin.symm, rfl, m.sel (ks := [0, 1, 2, 3, 4, 5, 6, 100]) (by simp)⟩
  | succ d ih =>
    intro p acc w0 w gl gv gh gm gle gb A c B cb nb bs O co np ps e1 e2 e3 e4 hnd hx hl hA m0
    subst e1 e2 e3 e4
    have hn6 := hg.2
    have hco : p.length ≤ co := m0.cap (j := 7) (by repeat (first | exact At.here | apply At.there))
    have hO : Plain O := m0.plain (j := 7) (by repeat (first | exact At.here | apply At.there))
    refine calls_of_vcL (w0 := w0) tb_ok (args := [.slice O p.length co, .pointer (some ⟨gl, 0, none⟩), .pointer (some ⟨gv, 0, none⟩), .pointer (some ⟨gh, 0, none⟩), .pointer (some ⟨gm, 0, none⟩), .pointer (some ⟨gle, 0, none⟩), .pointer (some ⟨gb, 0, none⟩)]) Tryz.func220 rfl m0 ?_
    unfold visC
    (repeat' ((conv => whnf); first | refine go ?_ | (refine VSome.mk ?_; intro gQ hA'; first | subst hA' | cases hA' | (dsimp only at hA'; subst hA')) | refine And.intro ?_ ?_ | intro _))
    (conv => whnf)
    refine VLoop.mk (ι := Nat × List Nat × Int × Option Addr × Nat) [8, 12, 13, 14, 15, 16, 17, 18, 19, 20, 21, 22, 23, 24, 25, 26] (fun (k, l, x, P, cp) => [(12, .int .i64 k)]) (fun (k, l, x, P, cp) => [.blk gl 36 [.slice A n c], .blk gv 228 [visC gl gv gh gm gle gb], .blk gh 4 [.bool hi], .blk gm 3 [.int .i64 mi], .blk gle 3 [.int .i64 x], .blk gb 101 [.slice P l.length cp], .row (.slice P l.length cp) 3 1 l.length (NL l), .row (.slice O p.length co) 3 1 p.length (NL p)]) (fun i => i.1 ≤ n ∧ (i.2.1, i.2.2.1) = foldN (fun acc k => if tr (k ∈ p) then acc else vis n f mi hi d (p ++ [k]) acc) acc i.1) (fun i => n - i.1) (0, acc.1, acc.2, B, cb) ⟨Nat.zero_le _, rfl⟩ ?_ (OwnLe.mk [0, 1, 2, 3, 4, 5, 6, 7] (by simp) rfl) (fun i u hi9 => ?_)
    · ((conv => whnf); repeat (first | exact trivial | refine ⟨rfl, ?_⟩ | refine ⟨congrArg (Value.int .i64) (by first | omega | assumption | exact Eq.symm (by assumption)), ?_⟩))
    obtain ⟨k, l, x, P, cp⟩ := i
    obtain ⟨hk, hS⟩ := hi9
    replace hk : k ≤ n := hk
    replace hS : (l, x) = foldN (fun acc k => if tr (k ∈ p) then acc else vis n f mi hi d (p ++ [k]) acc) acc k := hS
    by_cases hlt : k < n
    · have hC := fun w hB => containsN_v O co p k w (by omega) hB
      have hsuc : foldN (fun acc k => if tr (k ∈ p) then acc else vis n f mi hi d (p ++ [k]) acc) acc (k + 1) = if tr (k ∈ p) then (l, x) else vis n f mi hi d (p ++ [k]) (l, x) := by rw [hS]; rfl
      by_cases hm : k ∈ p
      · rw [tr_yes hm] at hC hsuc
        (repeat' ((conv => whnf); first | refine go ?_ | (refine VSome.mk ?_; intro gQ hA'; first | subst hA' | cases hA' | (dsimp only at hA'; subst hA')) | refine And.intro ?_ ?_ | intro _ | (first | ((show VCall _ _ _ 221 _ _); refine VCall.grow _ (fun w1 m1 => hC w1 (Sees.any m1 fndA)) ?_))))
        (conv => whnf)
        refine VNext.mk (k + 1, l, x, P, cp) ⟨hlt, by show (l, x) = _; rw [hsuc]; rfl⟩ (by show n - (k + 1) < n - k; omega) ?_ (OwnLe.mk [0, 1, 2, 3, 4, 5, 6, 7] (by simp) rfl)
        ((conv => whnf); repeat (first | exact trivial | refine ⟨rfl, ?_⟩ | refine ⟨congrArg (Value.int .i64) (by first | omega | assumption | exact Eq.symm (by assumption)), ?_⟩))
      · rw [tr_no hm] at hC hsuc
        have hx2 : ∀ y ∈ p ++ [k], y < n := fun y hy => by
          rcases List.mem_append.1 hy with e | e
          · exact hx y e
          · rw [List.mem_singleton.1 e]; exact hlt
        unfold visC
        (repeat' ((conv => whnf); first | refine go ?_ | (refine VSome.mk ?_; intro gQ hA'; first | subst hA' | cases hA' | (dsimp only at hA'; subst hA')) | refine And.intro ?_ ?_ | intro _ | (first | ((show VCall _ _ _ 221 _ _); refine VCall.grow _ (fun w1 m1 => hC w1 (Sees.any m1 fndA)) ?_) | ((show VCall _ _ _ 222 _ _); refine VCall.ret (fun w1 m1 => copyN_v O co p w1 (by omega) (Sees.any m1 fndA) hO) (fun i _ => ?_); obtain ⟨Q, q⟩ := i) | ((show VApp _ _ _ _ _ _ _); (apply VApp.pushAny; (focus ((repeat (first | exact At.here | apply At.there)); done)); (focus ((repeat (first | exact At.here | apply At.there)); done)); refine VAppPush.mk rfl rfl (by omega) (fun A' c' => ?_))) | ((show VDraw _ _ _ _ _ _); refine VDraw.mk (.take 0 (.take 1 (.take 3 (.br 2 (.br 4 (.br 5 (.br 6 .done .done) .done) .done) (.br 4 (.br 2 (.br 5 (.br 6 .done .done) .done) .done) .done))))) [1] (by kernel_rfl) (by kernel_rfl) ?_) | ((show VCall _ _ [_, _, _, _, _, _, _, _, .row _ _ _ _ _, .blk _ _ _] 220 _ _); refine VCall.fullS [0, 1, 2, 3, 4, 5, 6, 8] (by simp) (fun _ => rfl) (fun w1 m1 m2 => ih (p ++ [k]) (l, x) gl gv gh gm gle gb A c P cp _ _ _ _ _ _ rfl rfl (by simp) (NL_snoc p k) (nd_snoc hnd hm) hx2 (by simp; omega) (hA.lend m1 [0, 1, 2, 3, 4, 5, 6, 8]) m2) (fun i hb => ?_); obtain ⟨l2, x2, P2, q2⟩ := i) | ((show VCall _ _ [_, _, _, _, _, _, _, _, .blk _ _ _, .row _ _ _ _ _] 220 _ _); refine VCall.fullS [0, 1, 2, 3, 4, 5, 6, 9] (by simp) (fun _ => rfl) (fun w1 m1 m2 => ih (p ++ [k]) (l, x) gl gv gh gm gle gb A c P cp _ _ _ _ _ _ rfl rfl (by simp) (NL_snoc p k) (nd_snoc hnd hm) hx2 (by simp; omega) (hA.lend m1 [0, 1, 2, 3, 4, 5, 6, 9]) m2) (fun i hb => ?_); obtain ⟨l2, x2, P2, q2⟩ := i))))
        all_goals (conv => whnf)
        all_goals (replace hb : (l2, x2) = vis n f mi hi d (p ++ [k]) (l, x) := hb)
        all_goals (refine VNext.mk (k + 1, l2, x2, P2, q2) ⟨hlt, by show (l2, x2) = _; rw [hsuc, hb]; rfl⟩ (by show n - (k + 1) < n - k; omega) ?_ (OwnLe.mk [0, 1, 2, 3, 4, 5, 6, 7] (by simp) rfl); ((conv => whnf); repeat (first | exact trivial | refine ⟨rfl, ?_⟩ | refine ⟨congrArg (Value.int .i64) (by first | omega | assumption | exact Eq.symm (by assumption)), ?_⟩)))
    · obtain rfl : n = k := by omega
      have hI := fun w hA hB => isOrder_v A O n c co f p w hg (by omega) hco hA hB
      have hio : ¬ isO n f p := fun h => by have := h.1; omega
      rw [tr_no hio] at hI
      have hfin : vis n f mi hi (d + 1) p acc = fin n f mi hi p (l, x) := by rw [hS]; rfl
      rw [fin_no hio] at hfin
      (repeat' ((conv => whnf); first | refine go ?_ | (refine VSome.mk ?_; intro gQ hA'; first | subst hA' | cases hA' | (dsimp only at hA'; subst hA')) | refine And.intro ?_ ?_ | intro _ | (first | ((show VCall _ _ _ 223 _ _); refine VCall.grow _ (fun w1 m1 => hI w1 (hA.now m1) (Sees.any m1 fndA)) ?_))))
      (conv => whnf)
      exact VRet.mk fun w' m => ⟨(l, x, P, cp), hfin.symm, rfl, m.sel (ks := [0, 1, 2, 3, 4, 5, 6, 100]) (by simp)⟩
end Go.Proofs.YtadjhkehfklmnaaGreatDoor
namespace Go.Proofs.YtadjhkehfklmnaaGreatDoor
set_option linter.unusedSimpArgs false
set_option linter.unusedVariables false
open Go.RowKit
set_option maxRecDepth 10000
set_option maxHeartbeats 8000000 in
theorem iBest_v (A : Option Addr) (n c : Nat) (f : Nat → Aw) (hi : Bool) (mi : Int) (w : World) (hg : aGood n f) (h1 : 1 ≤ mi) (h2 : mi ≤ 60) (hA : Seen w A (AwS n f)) :
    Calls Tryz.prog 187 #[.slice A n c, .bool hi, .int .i64 mi] w fun e w' => ∃ v, e = .returned v ∧ RetV (ι := List Nat × Int × Option Addr × Nat) (fun (l, x, P, cp) => (l, x) = best n f mi hi n []) (fun (l, x, P, cp) => .tuple #[.slice P l.length cp, .int .i64 x, .bool true]) (fun (l, x, P, cp) => [.row (.slice P l.length cp) 3 1 l.length (NL l)]) (Base.of w) v w' := by
  have hn6 := hg.2
  have hG := fun A c w hA => iArr_v A n c f w (by omega) hA
  rw [tr_yes hg] at hG
  have hM := fun w => areMinutes_v mi w
  rw [tr_yes ⟨h1, h2⟩] at hM
  have hO := OldSeen.old hA
  have hvb := vis_best (mi := mi) (hi := hi) hg (by omega) h2
  refine calls_of_vc tb_ok (args := [.slice A n c, .bool hi, .int .i64 mi]) Tryz.func187 rfl ?_
  (repeat' ((conv => whnf); first | refine go ?_ | (refine VSome.mk ?_; intro gQ hA'; first | subst hA' | cases hA' | (dsimp only at hA'; subst hA')) | refine And.intro ?_ ?_ | intro _ | (first | ((show VCall _ _ _ 88 _ _); refine VCall.grow _ (fun w1 m1 => hG _ _ w1 seenA) ?_) | ((show VCall _ _ _ 217 _ _); refine VCall.grow _ (fun w1 m1 => hM w1) ?_) | ((show VCall _ _ _ 220 _ _); refine VCall.fullS [0, 6, 1, 2, 5, 4, 3, 7] (by simp) (fun _ => rfl) (fun w1 m1 m2 => visit_v hg h1 h2 n [] ([], -1) _ _ _ _ _ _ A c _ _ _ _ _ _ _ _ rfl rfl rfl rfl (by simp) (fun x h => by cases h) (by simp) (hO.lend m1 [0, 6, 1, 2, 5, 4, 3, 7]) m2) (fun i hb => ?_); obtain ⟨l, x, P, cp⟩ := i) | ((show VDraw _ _ _ _ _ _); refine VDraw.mk (.take 0 (.take 1 (.take 2 (.take 3 (.take 4 .done))))) [4, 5] (by kernel_rfl) (by kernel_rfl) ?_))))
  all_goals (conv => whnf)
  all_goals (replace hb : (l, x) = vis n f mi hi n [] ([], -1) := hb)
  all_goals (exact VRet.sel (l, x, P, cp) (by show (l, x) = _; rw [hb, hvb]) rfl [3] (by simp) rfl)
theorem iBest_no (A : Option Addr) (n c : Nat) (f : Nat → Aw) (hi : Bool) (mi : Int) (w : World) (hg : aGood n f) (hm : ¬ (1 ≤ mi ∧ mi ≤ 60)) (hA : Seen w A (AwS n f)) :
    Calls Tryz.prog 187 #[.slice A n c, .bool hi, .int .i64 mi] w (Post (.tuple #[.slice none 0 0, .int .i64 0, .bool false]) w) := by
  have hn6 := hg.2
  have hG := fun A c w hA => iArr_v A n c f w (by omega) hA
  rw [tr_yes hg] at hG
  have hM := fun w => areMinutes_v mi w
  rw [tr_no hm] at hM
  refine post_of_vc ?_
  refine calls_of_vc tb_ok (args := [.slice A n c, .bool hi, .int .i64 mi]) Tryz.func187 rfl ?_
  (repeat' ((conv => whnf); first | refine go ?_ | (refine VSome.mk ?_; intro gQ hA'; first | subst hA' | cases hA' | (dsimp only at hA'; subst hA')) | refine And.intro ?_ ?_ | intro _ | (first | ((show VCall _ _ _ 88 _ _); refine VCall.grow _ (fun w1 m1 => hG _ _ w1 seenA) ?_) | ((show VCall _ _ _ 217 _ _); refine VCall.grow _ (fun w1 m1 => hM w1) ?_))))
  (conv => whnf); refine VRet.mk fun w' m => ?_
  exact ⟨rfl, m.keeps.below⟩
set_option maxHeartbeats 8000000 in
theorem sBest_v (A : Option Addr) (n c : Nat) (f : Nat → Aw) (hi : Bool) (mi : Int) (w : World) (hg : aGood n f) (h1 : 1 ≤ mi) (h2 : mi ≤ 60) (hA : Seen w A (AwS n f)) :
    Calls Tryz.prog 159 #[.slice A n c, .bool hi, .int .i64 mi] w fun e w' => ∃ v, e = .returned v ∧ RetV (ι := List Nat × Int × Option Addr × Nat) (fun (l, x, P, cp) => (l, x) = best n f mi hi n []) (fun (l, x, P, cp) => .tuple #[.slice P l.length cp, .int .i64 x, .bool true]) (fun (l, x, P, cp) => [.row (.slice P l.length cp) 3 1 l.length (NL l)]) (Base.of w) v w' := by
  have hn6 := hg.2
  have hG := fun A c w hA => sArr_v A n c f w (by omega) hA
  rw [tr_yes hg] at hG
  have hM := fun w => l8Minutes_v mi w
  rw [tr_yes ⟨h1, h2⟩] at hM
  have hO := OldSeen.old hA
  refine calls_of_vc tb_ok (args := [.slice A n c, .bool hi, .int .i64 mi]) Tryz.func159 rfl ?_
  (repeat' ((conv => whnf); first | refine go ?_ | (refine VSome.mk ?_; intro gQ hA'; first | subst hA' | cases hA' | (dsimp only at hA'; subst hA')) | refine And.intro ?_ ?_ | intro _ | (first | ((show VCall _ _ _ 92 _ _); refine VCall.grow _ (fun w1 m1 => hG _ _ w1 seenA) ?_) | ((show VCall _ _ _ 194 _ _); refine VCall.grow _ (fun w1 m1 => hM w1) ?_) | ((show VCall _ _ _ 195 _ _); refine VCall.fullS [0] (by simp) (fun _ => rfl) (fun w1 m1 m2 => best8_v hg h1 h2 n [] A c _ _ _ _ rfl rfl vld_nil (by simp) (hO.lend m1 [0]) m2) (fun i hb => ?_); obtain ⟨l, x, P, cp⟩ := i))))
  all_goals (conv => whnf)
  all_goals (exact VRet.sel (l, x, P, cp) hb rfl [1] (by simp) rfl)
theorem sBest_no (A : Option Addr) (n c : Nat) (f : Nat → Aw) (hi : Bool) (mi : Int) (w : World) (hg : aGood n f) (hm : ¬ (1 ≤ mi ∧ mi ≤ 60)) (hA : Seen w A (AwS n f)) :
    Calls Tryz.prog 159 #[.slice A n c, .bool hi, .int .i64 mi] w fun e w' => ∃ g : Nat, True ∧ Post (.tuple #[.slice (some ⟨g, 0, none⟩) 0 0, .int .i64 0, .bool false]) w e w' := by
  have hn6 := hg.2
  have hG := fun A c w hA => sArr_v A n c f w (by omega) hA
  rw [tr_yes hg] at hG
  have hM := fun w => l8Minutes_v mi w
  rw [tr_no hm] at hM
  refine some_of_vc ?_
  refine calls_of_vc tb_ok (args := [.slice A n c, .bool hi, .int .i64 mi]) Tryz.func159 rfl ?_
  (repeat' ((conv => whnf); first | refine go ?_ | (refine VSome.mk ?_; intro gQ hA'; first | subst hA' | cases hA' | (dsimp only at hA'; subst hA')) | refine And.intro ?_ ?_ | intro _ | (first | ((show VCall _ _ _ 92 _ _); refine VCall.grow _ (fun w1 m1 => hG _ _ w1 seenA) ?_) | ((show VCall _ _ _ 194 _ _); refine VCall.grow _ (fun w1 m1 => hM w1) ?_))))
  (conv => whnf); refine VRet.mk fun w' m => ?_
  exact ⟨_, trivial, rfl, m.keeps.below⟩
end Go.Proofs.YtadjhkehfklmnaaGreatDoor
namespace Go.Proofs.YtadjhkehfklmnaaGreatDoor
set_option linter.unusedSimpArgs false
set_option linter.unusedVariables false
open Go.RowKit
set_option maxRecDepth 10000
theorem one_good {n : Nat} {f : Nat → Aw} (hg : aGood n f) {k : Nat} (hk : k < n) : aGood 1 (fun _ => f k) := by
  have h := hg.1 k hk
  refine ⟨fun i hi => ⟨h.1, h.2.1, h.2.2.1, fun h0 => by omega⟩, by omega⟩
theorem one_delay (a : Aw) (mi : Int) (hi : Bool) : dlL (fun _ => a) mi hi [0] = dl (fun _ => a) mi hi (fun _ => 0) 1 := rfl
set_option maxHeartbeats 4000000 in
theorem iAlone_v (A : Option Addr) (n c : Nat) (f : Nat → Aw) (hi : Bool) (mi : Int) (w : World) (hg : aGood n f) (h1 : 1 ≤ mi) (h2 : mi ≤ 60) (hA : Seen w A (AwS n f)) :
    Calls Tryz.prog 218 #[.slice A n c, .bool hi, .int .i64 mi] w (Post (.int .i64 (alB f mi hi n)) w) := by
  have hn6 := hg.2
  refine post_of_vc ?_
  refine calls_of_vc tb_ok (args := [.slice A n c, .bool hi, .int .i64 mi]) Tryz.func218 rfl ?_
  (repeat' ((conv => whnf); first | refine go ?_ | (refine VSome.mk ?_; intro gQ hA'; first | subst hA' | cases hA' | (dsimp only at hA'; subst hA')) | refine And.intro ?_ ?_ | intro _))
  (conv => whnf)
  refine VLoop.mk (ι := Nat) [7, 9, 12, 13, 14, 15, 16, 17, 18, 19, 20, 21, 22, 23, 24] (fun k => [(12, .int .i64 k), (7, .int .i64 (alB f mi hi k))]) (fun _ => []) (fun k => k ≤ n) (fun k => n - k) 0 (Nat.zero_le _) ?_ (OwnLe.mk [] (by simp) rfl) (fun k u hk => ?_)
  · ((conv => whnf); repeat (first | exact trivial | refine ⟨rfl, ?_⟩ | refine ⟨congrArg (Value.int .i64) (by first | omega | assumption | exact Eq.symm (by assumption)), ?_⟩))
  have hb := alB_in (hi := hi) hg (by omega) h2 k hk
  by_cases hlt : k < n
  · obtain ⟨b1, off1, rfl, hb1, hr1, _⟩ := AwS.look hA hlt
    have hD := fun A B w hA hB => iDelay_v A B 1 1 1 (fun _ => f k) [0] hi mi w (one_good hg hlt) h1 h2 (fun x hx => by rw [List.mem_singleton.1 hx]; omega) (by decide) hA hB
    rw [one_delay] at hD
    have hin := dl_in (f := fun _ => f k) (hi := hi) (o := fun _ => 0) (m := 1) (show 0 ≤ mi by omega) h2 (by omega) (fun _ _ => (hg.1 k hlt).2.1) (fun _ _ => (hg.1 k hlt).2.2.1) 1 (Nat.le_refl _)
    have hs : alB f mi hi (k + 1) = alB f mi hi k + dl (fun _ => f k) mi hi (fun _ => 0) 1 := rfl
    (repeat' ((conv => whnf); first | refine go ?_ | (refine VSome.mk ?_; intro gQ hA'; first | subst hA' | cases hA' | (dsimp only at hA'; subst hA')) | refine And.intro ?_ ?_ | intro _ | (first | ((show VCall _ _ _ 224 _ _); refine VCall.grow _ (fun w1 m1 => hD _ _ w1 (Sees.blk 1 rfl w1 m1) (Sees.blk 2 rfl w1 m1)) ?_))))
    (conv => whnf)
    refine VNext.mk (k + 1) hlt (by omega) ?_ (OwnLe.mk [] (by simp) rfl)
    ((conv => whnf); repeat (first | exact trivial | refine ⟨rfl, ?_⟩ | refine ⟨congrArg (Value.int .i64) (by first | omega | assumption | exact Eq.symm (by assumption)), ?_⟩))
  · obtain rfl : k = n := by omega
    (repeat' ((conv => whnf); first | refine go ?_ | (refine VSome.mk ?_; intro gQ hA'; first | subst hA' | cases hA' | (dsimp only at hA'; subst hA')) | refine And.intro ?_ ?_ | intro _))
    (conv => whnf); refine VRet.mk fun w' m => ?_
    exact ⟨rfl, m.keeps.below⟩
set_option maxHeartbeats 4000000 in
theorem sAlone_v (A : Option Addr) (n c : Nat) (f : Nat → Aw) (hi : Bool) (mi : Int) (w : World) (hg : aGood n f) (h1 : 1 ≤ mi) (h2 : mi ≤ 60) (hc : n ≤ c) (hA : Seen w A (AwS n f)) (hP : Plain A) :
    Calls Tryz.prog 196 #[.slice A n c, .bool hi, .int .i64 mi] w (Post (.int .i64 (alB f mi hi n)) w) := by
  have hn6 := hg.2
  refine post_of_vc ?_
  refine calls_of_vc tb_ok (args := [.slice A n c, .bool hi, .int .i64 mi]) Tryz.func196 rfl ?_
  (repeat' ((conv => whnf); first | refine go ?_ | (refine VSome.mk ?_; intro gQ hA'; first | subst hA' | cases hA' | (dsimp only at hA'; subst hA')) | refine And.intro ?_ ?_ | intro _))
  (conv => whnf)
  refine VLoop.mk (ι := Nat) [7, 8, 9, 10, 11, 12, 13, 14, 15, 16, 17, 18, 19, 20, 21, 22, 23, 24, 25] (fun k => [(8, .int .i64 k), (7, .int .i64 (alB f mi hi k))]) (fun _ => []) (fun k => k ≤ n) (fun k => n - k) 0 (Nat.zero_le _) ?_ (OwnLe.mk [] (by simp) rfl) (fun k u hk => ?_)
  · ((conv => whnf); repeat (first | exact trivial | refine ⟨rfl, ?_⟩ | refine ⟨congrArg (Value.int .i64) (by first | omega | assumption | exact Eq.symm (by assumption)), ?_⟩))
  have hb := alB_in (hi := hi) hg (by omega) h2 k hk
  by_cases hlt : k < n
  · obtain ⟨b1, off1, rfl, hb1, hr1, _⟩ := AwS.look hA hlt
    have hS1 : Seen w (some ⟨b1, off1 + mulS k 4, none⟩) (AwS 1 (fun _ => f k)) := fun j u hj => by
      refine ⟨b1, off1 + mulS k 4, rfl, hb1, ?_⟩
      rw [mulS_eq]
      exact hr1.2 j u (by simpa [AwS, rowsN] using hj)
    have hD := fun B c w hA hB => sDelay_v (some ⟨b1, off1 + mulS k 4, none⟩) B 1 c 1 (fun _ => f k) [0] hi mi w (one_good hg hlt) h1 h2 (fun x hx => by rw [List.mem_singleton.1 hx]; omega) (by decide) hA hB
    rw [one_delay] at hD
    have hin := dl_in (f := fun _ => f k) (hi := hi) (o := fun _ => 0) (m := 1) (show 0 ≤ mi by omega) h2 (by omega) (fun _ _ => (hg.1 k hlt).2.1) (fun _ _ => (hg.1 k hlt).2.2.1) 1 (Nat.le_refl _)
    have hs : alB f mi hi (k + 1) = alB f mi hi k + dl (fun _ => f k) mi hi (fun _ => 0) 1 := rfl
    have hk1 : k + 1 - k = 1 := by omega
    (repeat' ((conv => whnf); first | refine go ?_ | (refine VSome.mk ?_; intro gQ hA'; first | subst hA' | cases hA' | (dsimp only at hA'; subst hA')) | refine And.intro ?_ ?_ | intro _ | (first | ((show VCall _ _ _ 225 _ _); refine VCall.grow _ (fun w1 m1 => hD _ _ w1 (Sees.old hS1 w1 m1) (Sees.blk 0 rfl w1 m1)) ?_) | ((show VCut _ _ _ _ _ _ _); refine VCut.lt _ _ k (k + 1) rfl rfl (show (k : Int) + 1 = ((k + 1 : Nat) : Int) by omega) (by omega) (by omega) (by omega) ?_; rw [hk1]))))
    (conv => whnf)
    refine VNext.mk (k + 1) hlt (by omega) ?_ (OwnLe.mk [] (by simp) rfl)
    ((conv => whnf); repeat (first | exact trivial | refine ⟨rfl, ?_⟩ | refine ⟨congrArg (Value.int .i64) (by first | omega | assumption | exact Eq.symm (by assumption)), ?_⟩))
  · obtain rfl : k = n := by omega
    (repeat' ((conv => whnf); first | refine go ?_ | (refine VSome.mk ?_; intro gQ hA'; first | subst hA' | cases hA' | (dsimp only at hA'; subst hA')) | refine And.intro ?_ ?_ | intro _))
    (conv => whnf); refine VRet.mk fun w' m => ?_
    exact ⟨rfl, m.keeps.below⟩
end Go.Proofs.YtadjhkehfklmnaaGreatDoor
