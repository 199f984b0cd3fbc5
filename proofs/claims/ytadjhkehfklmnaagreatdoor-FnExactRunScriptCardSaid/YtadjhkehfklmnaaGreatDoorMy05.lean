/-
  Texts joined: how the calls that the law reaches are walked, and the plain laws behind them.
  Conditions: none beyond each statement's own premises.
-/
import Derived.Test.YtadjhkehfklmnaaGreatDoorMy04
namespace Go.Proofs.YtadjhkehfklmnaaGreatDoor
set_option linter.unusedSimpArgs false
set_option linter.unusedVariables false
open Go.RowKit
set_option maxRecDepth 10000
structure Lo where
  lower : Int
  upper : Int
  level : Int
  lg : Bool
  hg : Bool
  lp : Bool
  hp : Bool
def Lo.cells (l : Lo) : List Value := [.int .i64 l.lower, .int .i64 l.upper, .int .i64 l.level, .bool l.lg, .bool l.hg, .bool l.lp, .bool l.hp]
def Lo.wf (l : Lo) : Prop := In64 l.lower ∧ In64 l.upper ∧ In64 l.level ∧ True ∧ True ∧ True ∧ True
def LoS (n : Nat) (f : Nat → Lo) : List Value := rowsN n fun i => (f i).cells
theorem LoS.len (n : Nat) (f : Nat → Lo) : (LoS n f).length = n * 7 := rowsN_length (f := fun i => (f i).cells) (s := 7) (fun _ => rfl) n
theorem LoS.one (n : Nat) (f : Nat → Lo) : (LoS n f).all (·.oneCell') = true := rowsN_all (fun _ => rfl) n
theorem LoS.congr {n : Nat} {f g : Nat → Lo} (h : ∀ i, i < n → f i = g i) : LoS n f = LoS n g := rowsN_congr fun i hi => by rw [h i hi]
theorem LoS.look {w : World} {A : Option Addr} {n i : Nat} {f : Nat → Lo} (h : Seen w A (LoS n f)) (hi : i < n) : ∃ b off, A = some ⟨b, off, none⟩ ∧ b < w.heap.size ∧ RowAt w b (off + i * 7) (f i).cells ∧ w.cell? ⟨b, off + i * 7, none⟩ = some (.int .i64 (f i).lower) ∧ w.cell? ⟨b, off + i * 7 + 1, none⟩ = some (.int .i64 (f i).upper) ∧ w.cell? ⟨b, off + i * 7 + 2, none⟩ = some (.int .i64 (f i).level) ∧ w.cell? ⟨b, off + i * 7 + 3, none⟩ = some (.bool (f i).lg) ∧ w.cell? ⟨b, off + i * 7 + 4, none⟩ = some (.bool (f i).hg) ∧ w.cell? ⟨b, off + i * 7 + 5, none⟩ = some (.bool (f i).lp) ∧ w.cell? ⟨b, off + i * 7 + 6, none⟩ = some (.bool (f i).hp) := by
  obtain ⟨b, off, e, r⟩ := Seen.rowAt (s := 7) (fun _ => rfl) (by omega) h hi
  exact ⟨b, off, e, r.1, r, r.2 0 _ rfl, r.2 1 _ rfl, r.2 2 _ rfl, r.2 3 _ rfl, r.2 4 _ rfl, r.2 5 _ rfl, r.2 6 _ rfl⟩
theorem toLockState_v (l : Lo) (w : World) : Calls Tryz.prog 46 #[.agg l.cells.toArray] w (Post (.agg l.cells.toArray) w) := by
  refine post_of_vc ?_
  refine calls_of_vc tb_ok (args := [.agg l.cells.toArray]) Tryz.func46 rfl ?_
  (repeat' ((conv => whnf); first | refine go ?_ | (refine VSome.mk ?_; intro gQ hA'; first | subst hA' | cases hA' | (dsimp only at hA'; subst hA')) | refine And.intro ?_ ?_ | intro _ | (first | fail)))
  all_goals ((conv => whnf); refine VRet.mk fun w' m => ?_)
  all_goals refine ⟨?_, m.keeps.below⟩
  all_goals first | rfl | (simp only [Lo.cells, *]; rfl)
theorem eqLockState_v (l : Lo) (w : World) : Calls Tryz.prog 49 #[.agg l.cells.toArray, .agg l.cells.toArray] w (Post (.bool true) w) := by
  refine post_of_vc ?_
  refine calls_of_vc tb_ok (args := [.agg l.cells.toArray, .agg l.cells.toArray]) Tryz.func49 rfl ?_
  (repeat' ((conv => whnf); first | refine go ?_ | (refine VSome.mk ?_; intro gQ hA'; first | subst hA' | cases hA' | (dsimp only at hA'; subst hA')) | refine And.intro ?_ ?_ | intro _ | (first | fail)))
  all_goals first | contradiction | skip
  all_goals ((conv => whnf); refine VRet.mk fun w' m => ?_)
  all_goals exact ⟨rfl, m.keeps.below⟩
set_option maxRecDepth 100000 in
theorem open_Lo {H : Type} {enc : TypeId × Value → H} {w : World} {base : Nat} {spare : Nat → Bool} {held : Bool} {fuel : Nat} {cs : List Value} {x : DataW H × List MemPlace} (h : DataW.trod enc Tryz.prog w base spare held fuel 23 cs = some x) :
    ∃ l : Lo, cs = l.cells ∧ l.wf := by
  obtain ⟨hl, n, hf⟩ := open_field Tryz.underlying23 h
  have hkbool : Tryz.prog.cellsOf 4 = 1 := by kernel_rfl
  have hkint : Tryz.prog.cellsOf 3 = 1 := by kernel_rfl
  obtain ⟨y0, h0⟩ := hf 0 _ rfl
  obtain ⟨a0, e0, g0⟩ := cell_int Tryz.underlying3 h0
  replace e0 : (cs.drop 0).take (Tryz.prog.cellsOf 3) = _ := e0
  rw [hkint] at e0
  obtain ⟨y1, h1⟩ := hf 1 _ rfl
  obtain ⟨a1, e1, g1⟩ := cell_int Tryz.underlying3 h1
  replace e1 : (cs.drop 1).take (Tryz.prog.cellsOf 3) = _ := e1
  rw [hkint] at e1
  obtain ⟨y2, h2⟩ := hf 2 _ rfl
  obtain ⟨a2, e2, g2⟩ := cell_int Tryz.underlying3 h2
  replace e2 : (cs.drop 2).take (Tryz.prog.cellsOf 3) = _ := e2
  rw [hkint] at e2
  obtain ⟨y3, h3⟩ := hf 3 _ rfl
  obtain ⟨a3, e3, g3⟩ := cell_bool Tryz.underlying4 h3
  replace e3 : (cs.drop 3).take (Tryz.prog.cellsOf 4) = _ := e3
  rw [hkbool] at e3
  obtain ⟨y4, h4⟩ := hf 4 _ rfl
  obtain ⟨a4, e4, g4⟩ := cell_bool Tryz.underlying4 h4
  replace e4 : (cs.drop 4).take (Tryz.prog.cellsOf 4) = _ := e4
  rw [hkbool] at e4
  obtain ⟨y5, h5⟩ := hf 5 _ rfl
  obtain ⟨a5, e5, g5⟩ := cell_bool Tryz.underlying4 h5
  replace e5 : (cs.drop 5).take (Tryz.prog.cellsOf 4) = _ := e5
  rw [hkbool] at e5
  obtain ⟨y6, h6⟩ := hf 6 _ rfl
  obtain ⟨a6, e6, g6⟩ := cell_bool Tryz.underlying4 h6
  replace e6 : (cs.drop 6).take (Tryz.prog.cellsOf 4) = _ := e6
  rw [hkbool] at e6
  rw [show Tryz.prog.cellsOf 23 = 7 from by kernel_rfl] at hl
  match cs, hl, e0, e1, e2, e3, e4, e5, e6 with
  | [c0, c1, c2, c3, c4, c5, c6], _, e0, e1, e2, e3, e4, e5, e6 =>
    simp only [List.drop_zero, List.drop_succ_cons, List.take_succ_cons, List.take_zero, List.cons.injEq, and_true] at e0 e1 e2 e3 e4 e5 e6
    exact ⟨⟨a0, a1, a2, a3, a4, a5, a6⟩, by rw [e0, e1, e2, e3, e4, e5, e6]; rfl, ⟨g0, g1, g2, g3, g4, g5, g6⟩⟩
structure Ba where
  vol : Int
  least : Int
  most : Int
def Ba.cells (l : Ba) : List Value := [.int .i64 l.vol, .int .i64 l.least, .int .i64 l.most]
def Ba.wf (l : Ba) : Prop := In64 l.vol ∧ In64 l.least ∧ In64 l.most
def BaS (n : Nat) (f : Nat → Ba) : List Value := rowsN n fun i => (f i).cells
theorem BaS.len (n : Nat) (f : Nat → Ba) : (BaS n f).length = n * 3 := rowsN_length (f := fun i => (f i).cells) (s := 3) (fun _ => rfl) n
theorem BaS.one (n : Nat) (f : Nat → Ba) : (BaS n f).all (·.oneCell') = true := rowsN_all (fun _ => rfl) n
theorem BaS.congr {n : Nat} {f g : Nat → Ba} (h : ∀ i, i < n → f i = g i) : BaS n f = BaS n g := rowsN_congr fun i hi => by rw [h i hi]
theorem BaS.look {w : World} {A : Option Addr} {n i : Nat} {f : Nat → Ba} (h : Seen w A (BaS n f)) (hi : i < n) : ∃ b off, A = some ⟨b, off, none⟩ ∧ b < w.heap.size ∧ RowAt w b (off + i * 3) (f i).cells ∧ w.cell? ⟨b, off + i * 3, none⟩ = some (.int .i64 (f i).vol) ∧ w.cell? ⟨b, off + i * 3 + 1, none⟩ = some (.int .i64 (f i).least) ∧ w.cell? ⟨b, off + i * 3 + 2, none⟩ = some (.int .i64 (f i).most) := by
  obtain ⟨b, off, e, r⟩ := Seen.rowAt (s := 3) (fun _ => rfl) (by omega) h hi
  exact ⟨b, off, e, r.1, r, r.2 0 _ rfl, r.2 1 _ rfl, r.2 2 _ rfl⟩
theorem toBasin_v (l : Ba) (w : World) : Calls Tryz.prog 82 #[.agg l.cells.toArray] w (Post (.agg l.cells.toArray) w) := by
  refine post_of_vc ?_
  refine calls_of_vc tb_ok (args := [.agg l.cells.toArray]) Tryz.func82 rfl ?_
  (repeat' ((conv => whnf); first | refine go ?_ | (refine VSome.mk ?_; intro gQ hA'; first | subst hA' | cases hA' | (dsimp only at hA'; subst hA')) | refine And.intro ?_ ?_ | intro _ | (first | fail)))
  all_goals ((conv => whnf); refine VRet.mk fun w' m => ?_)
  all_goals refine ⟨?_, m.keeps.below⟩
  all_goals first | rfl | (simp only [Ba.cells, *]; rfl)
theorem eqBasin_v (l : Ba) (w : World) : Calls Tryz.prog 83 #[.agg l.cells.toArray, .agg l.cells.toArray] w (Post (.bool true) w) := by
  refine post_of_vc ?_
  refine calls_of_vc tb_ok (args := [.agg l.cells.toArray, .agg l.cells.toArray]) Tryz.func83 rfl ?_
  (repeat' ((conv => whnf); first | refine go ?_ | (refine VSome.mk ?_; intro gQ hA'; first | subst hA' | cases hA' | (dsimp only at hA'; subst hA')) | refine And.intro ?_ ?_ | intro _ | (first | fail)))
  all_goals first | contradiction | skip
  all_goals ((conv => whnf); refine VRet.mk fun w' m => ?_)
  all_goals exact ⟨rfl, m.keeps.below⟩
theorem szBasinS_v (A : Option Addr) (n c : Nat) (left : Int) (w : World) (hn : n ≤ 9223372036854775807) (h0 : 0 ≤ left) (h1 : left ≤ 1048576) :
    Calls Tryz.prog 32 #[.slice A n c, .int .i64 left] w fun e w' => ∃ r : Int, (((n : Int) ≤ left ∧ r = left - n) ∨ (left < n ∧ r = -1)) ∧ Post (.int .i64 r) w e w' := by
  refine some_of_vc ?_
  refine calls_of_vc tb_ok (args := [.slice A n c, .int .i64 left]) Tryz.func32 rfl ?_
  (repeat' ((conv => whnf); first | refine go ?_ | (refine VSome.mk ?_; intro gQ hA'; first | subst hA' | cases hA' | (dsimp only at hA'; subst hA')) | refine And.intro ?_ ?_ | intro _))
  all_goals ((conv => whnf); refine VRet.mk fun w' m => ?_)
  all_goals exact ⟨_, by omega, rfl, m.keeps.below⟩
set_option maxHeartbeats 400000 in
theorem toBasinS_v (A : Option Addr) (n c : Nat) (f : Nat → Ba) (w : World) (hn : n ≤ 1048576) (hA : Seen w A (BaS n f)) :
    Calls Tryz.prog 34 #[.slice A n c] w fun e w' => ∃ v, e = .returned v ∧ RetV (fun _ => True) (fun g => .slice (some ⟨g, 0, none⟩) n n) (fun g => [.row (.slice (some ⟨g, 0, none⟩) n n) 96 3 n (BaS n f)]) (Base.of w) v w' := by
  refine calls_of_vc tb_ok (args := [.slice A n c]) Tryz.func34 rfl ?_
  (repeat' ((conv => whnf); first | refine go ?_ | (refine VSome.mk ?_; intro gQ hA'; first | subst hA' | cases hA' | (dsimp only at hA'; subst hA')) | refine And.intro ?_ ?_ | intro _))
  refine VMake.mk n rfl rfl hn (fun g => ?_)
  (repeat' ((conv => whnf); first | refine go ?_ | (refine VSome.mk ?_; intro gQ hA'; first | subst hA' | cases hA' | (dsimp only at hA'; subst hA')) | refine And.intro ?_ ?_ | intro _))
  (conv => whnf)
  refine VLoop.mk (ι := Nat × List Value) [4, 8, 9, 10, 11, 12, 13, 14, 15, 16, 17, 18, 19, 20, 21] (fun i => [(4, .int .i64 (i.1 : Nat))]) (fun i => [.blk g 96 i.2]) (fun i => i.1 ≤ n ∧ UpTo i.2 n 3 i.1 fun i => (f i).cells) (fun i => n - i.1) (0, _) ⟨Nat.zero_le _, UpTo.zero (zerosL_length _ _)⟩ ?_ (OwnLe.mk [0] (by simp) rfl) (fun i u hi => ?_)
  · (conv => whnf)
    repeat (first | exact trivial | refine ⟨rfl, ?_⟩)
  obtain ⟨k, cs⟩ := i
  obtain ⟨hk, hu⟩ := hi
  replace hk : k ≤ n := hk
  replace hu : UpTo cs n 3 k _ := hu
  have hs3 : ∀ i : Nat, ((fun i => (f i).cells) i).length = 3 := fun _ => rfl
  by_cases hlt : k < n
  · have hl : cs.length = n * 3 := hu.1
    have hup := hu.step hs3 hlt
    obtain ⟨b, off, rfl, hb, hr, h0, h1, h2⟩ := BaS.look hA hlt
    ((repeat' ((conv => whnf); first | refine go ?_ | (refine VSome.mk ?_; intro gQ hA'; first | subst hA' | cases hA' | (dsimp only at hA'; subst hA')) | refine And.intro ?_ ?_ | intro _)))
    refine VCall.grow _ (fun w1 _ => toBasin_v (f k) w1) ?_
    (repeat' ((conv => whnf); first | refine go ?_ | (refine VSome.mk ?_; intro gQ hA'; first | subst hA' | cases hA' | (dsimp only at hA'; subst hA')) | refine And.intro ?_ ?_ | intro _))
    (conv => whnf)
    refine VStore.arrAt 0 (k * 3) (by show 0 + mulS k 3 = k * 3; rw [mulS_eq]; omega) rfl rfl (by show k * 3 + 3 ≤ cs.length; omega) rfl ?_
    ((repeat' ((conv => whnf); first | refine go ?_ | (refine VSome.mk ?_; intro gQ hA'; first | subst hA' | cases hA' | (dsimp only at hA'; subst hA')) | refine And.intro ?_ ?_ | intro _)))
    (conv => whnf)
    refine VNext.mk (k + 1, _) ⟨by show k + 1 ≤ n; omega, hup⟩ (by show n - (k + 1) < n - k; omega) ?_ (OwnLe.mk [0] (by simp) rfl)
    (conv => whnf)
    (repeat (first | exact trivial | refine ⟨rfl, ?_⟩))
  · obtain rfl : k = n := by omega
    have he := hu.full hs3
    (repeat' ((conv => whnf); first | refine go ?_ | (refine VSome.mk ?_; intro gQ hA'; first | subst hA' | cases hA' | (dsimp only at hA'; subst hA')) | refine And.intro ?_ ?_ | intro _))
    (conv => whnf)
    exact VRet.rowOf g trivial rfl 0 rfl hu.1 (Nat.le_trans hn (by decide)) (by rw [he]; rfl)
set_option maxHeartbeats 400000 in
theorem eqBasinS_v (A B : Option Addr) (n c d : Nat) (f : Nat → Ba) (w : World) (hn : n ≤ 1048576) (hA : Seen w A (BaS n f)) (hB : Seen w B (BaS n f)) :
    Calls Tryz.prog 36 #[.slice A n c, .slice B n d] w (Post (.bool true) w) := by
  refine post_of_vc ?_
  refine calls_of_vc tb_ok (args := [.slice A n c, .slice B n d]) Tryz.func36 rfl ?_
  (repeat' ((conv => whnf); first | refine go ?_ | (refine VSome.mk ?_; intro gQ hA'; first | subst hA' | cases hA' | (dsimp only at hA'; subst hA')) | refine And.intro ?_ ?_ | intro _))
  (conv => whnf)
  refine VLoop.mk (ι := Nat) [4, 5, 11, 12, 13, 14, 15, 16, 17, 18, 19, 20, 21, 22, 23, 24, 25, 26] (fun k => [(5, .int .i64 k)]) (fun _ => []) (fun k => k ≤ n) (fun k => n - k) 0 (Nat.zero_le _) ?_ (OwnLe.mk [] (by simp) rfl) (fun k u hk => ?_)
  · (conv => whnf)
    repeat (first | exact trivial | refine ⟨rfl, ?_⟩)
  by_cases hlt : k < n
  · obtain ⟨b, off, rfl, hb, hr, h0, h1, h2⟩ := BaS.look hA hlt
    obtain ⟨b', off', rfl, hb', kr, k0, k1, k2⟩ := BaS.look hB hlt
    (repeat' ((conv => whnf); first | refine go ?_ | (refine VSome.mk ?_; intro gQ hA'; first | subst hA' | cases hA' | (dsimp only at hA'; subst hA')) | refine And.intro ?_ ?_ | intro _))
    (conv => whnf)
    refine VDraw.mk (.take 0 (.take 1 (.take 2 (.take 3 (.take 4 (.take 5 (.take 6 (.take 7 (.br 8 (.take 9 .done) .done))))))))) [] (by kernel_rfl) (by kernel_rfl) ?_
    (repeat' ((conv => whnf); first | refine go ?_ | (refine VSome.mk ?_; intro gQ hA'; first | subst hA' | cases hA' | (dsimp only at hA'; subst hA')) | refine And.intro ?_ ?_ | intro _))
    refine VCall.grow _ (fun w1 _ => eqBasin_v (f k) w1) ?_
    (repeat' ((conv => whnf); first | refine go ?_ | (refine VSome.mk ?_; intro gQ hA'; first | subst hA' | cases hA' | (dsimp only at hA'; subst hA')) | refine And.intro ?_ ?_ | intro _))
    all_goals first | contradiction | skip
    all_goals (conv => whnf)
    all_goals refine VNext.mk (k + 1) (by omega) (by omega) ?_ (OwnLe.mk [] (by simp) rfl)
    all_goals (conv => whnf)
    all_goals (repeat (first | exact trivial | refine ⟨rfl, ?_⟩))
  · (repeat' ((conv => whnf); first | refine go ?_ | (refine VSome.mk ?_; intro gQ hA'; first | subst hA' | cases hA' | (dsimp only at hA'; subst hA')) | refine And.intro ?_ ?_ | intro _))
    (conv => whnf); refine VRet.mk fun w' m => ?_
    exact ⟨rfl, m.keeps.below⟩
noncomputable def BaS.marks (j : Int) (n : Nat) : List Value := rowsN n fun i => ([.int .i64 (j + ((3 * i : Nat) : Int)), .int .i64 (j + ((3 * i : Nat) : Int) + 1), .int .i64 (j + ((3 * i : Nat) : Int) + 1 + 1)] : List Value)
set_option maxHeartbeats 800000 in
theorem markBasinS_v (A : Option Addr) (n c : Nat) (xs : List Value) (j : Int) (w : World) (hn : n ≤ 1048576) (h0 : 0 ≤ j) (h1 : j ≤ 1125899906842624) (m0 : Mem (Base.lend w (.row (.slice A n c) 96 3 n xs)) [.row (.slice A n c) 96 3 n xs] w) :
    Calls Tryz.prog 52 #[.slice A n c, .int .i64 j] w fun e w' => ∃ v, e = .returned v ∧ v = .int .i64 (j + ((3 * n : Nat) : Int)) ∧ Mem (Base.lend w (.row (.slice A n c) 96 3 n xs)) [.row (.slice A n c) 96 3 n (BaS.marks j n)] w' := by
  have hl0 : xs.length = n * 3 := (m0.ok 0 _ rfl).2.1
  generalize hw0 : Base.lend w (.row (.slice A n c) 96 3 n xs) = w0 at m0
  refine calls_of_vcL (w0 := w0) tb_ok (args := [.slice A n c, .int .i64 j]) Tryz.func52 rfl m0 ?_
  (repeat' ((conv => whnf); first | refine go ?_ | (refine VSome.mk ?_; intro gQ hA'; first | subst hA' | cases hA' | (dsimp only at hA'; subst hA')) | refine And.intro ?_ ?_ | intro _))
  (conv => whnf)
  refine VLoop.mk (ι := Nat × List Value) [1, 5, 6, 7, 8, 9, 10, 11, 12, 13, 14, 15, 16, 17, 18, 19, 20, 21, 22, 23, 24, 25, 26, 27, 28, 29, 30, 31, 32] (fun i => [(5, .int .i64 (i.1 : Nat)), (1, .int .i64 (j + ((3 * i.1 : Nat) : Int)))]) (fun i => [.row (.slice A n c) 96 3 n i.2]) (fun i => i.1 ≤ n ∧ UpTo i.2 n 3 i.1 fun i => ([.int .i64 (j + ((3 * i : Nat) : Int)), .int .i64 (j + ((3 * i : Nat) : Int) + 1), .int .i64 (j + ((3 * i : Nat) : Int) + 1 + 1)] : List Value)) (fun i => n - i.1) (0, _) ⟨Nat.zero_le _, UpTo.zero hl0⟩ ?_ (OwnLe.mk [0] (by simp) rfl) (fun i u hi => ?_)
  · ((conv => whnf); repeat (first | exact trivial | refine ⟨rfl, ?_⟩ | refine ⟨congrArg (Value.int .i64) (by first | omega | assumption | exact Eq.symm (by assumption)), ?_⟩))
  obtain ⟨k, cs⟩ := i
  obtain ⟨hk, hu⟩ := hi
  replace hk : k ≤ n := hk
  replace hu : UpTo cs n 3 k _ := hu
  have hs3 : ∀ i : Nat, ((fun i => ([.int .i64 (j + ((3 * i : Nat) : Int)), .int .i64 (j + ((3 * i : Nat) : Int) + 1), .int .i64 (j + ((3 * i : Nat) : Int) + 1 + 1)] : List Value)) i).length = 3 := fun _ => rfl
  by_cases hlt : k < n
  · have hl : cs.length = n * 3 := hu.1
    have hup : UpTo (setRange cs (k * 3) ([.int .i64 (j + ((3 * k : Nat) : Int)), .int .i64 (j + ((3 * k : Nat) : Int) + 1), .int .i64 (j + ((3 * k : Nat) : Int) + 1 + 1)] : List Value)) n 3 (k + 1) (fun i => ([.int .i64 (j + ((3 * i : Nat) : Int)), .int .i64 (j + ((3 * i : Nat) : Int) + 1), .int .i64 (j + ((3 * i : Nat) : Int) + 1 + 1)] : List Value)) := hu.step hs3 hlt
    all_goals ((repeat' ((conv => whnf); first | refine go ?_ | (refine VSome.mk ?_; intro gQ hA'; first | subst hA' | cases hA' | (dsimp only at hA'; subst hA')) | refine And.intro ?_ ?_ | intro _ | (first | ((show VStore _ _ _ _ _ _); refine VStore.rowAt 0 (k * 3) (by have := mulS_eq k 3; show mulS k 3 + 0 = k * 3; omega) rfl rfl (by simp only [setRange_length, List.length_cons, List.length_nil]; omega) rfl ?_) | ((show VStore _ _ _ _ _ _); refine VStore.rowAt 0 (k * 3 + 1) (by have := mulS_eq k 3; show mulS k 3 + 1 = k * 3 + 1; omega) rfl rfl (by simp only [setRange_length, List.length_cons, List.length_nil]; omega) rfl ?_) | ((show VStore _ _ _ _ _ _); refine VStore.rowAt 0 (k * 3 + 2) (by have := mulS_eq k 3; show mulS k 3 + 2 = k * 3 + 2; omega) rfl rfl (by simp only [setRange_length, List.length_cons, List.length_nil]; omega) rfl ?_)))))
    all_goals (conv => whnf)
    all_goals refine VNext.mk (k + 1, _) ⟨by show k + 1 ≤ n; omega, hup⟩ (by show n - (k + 1) < n - k; omega) ?_ (OwnLe.mk [0] (by simp) rfl)
    all_goals (((conv => whnf); repeat (first | exact trivial | refine ⟨rfl, ?_⟩ | refine ⟨congrArg (Value.int .i64) (by first | omega | assumption | exact Eq.symm (by assumption)), ?_⟩)))
  · obtain rfl : k = n := by omega
    have he := hu.full hs3
    (repeat' ((conv => whnf); first | refine go ?_ | (refine VSome.mk ?_; intro gQ hA'; first | subst hA' | cases hA' | (dsimp only at hA'; subst hA')) | refine And.intro ?_ ?_ | intro _))
    (conv => whnf)
    exact VRet.mk fun w' m => ⟨rfl, by rw [show BaS.marks j k = cs from he.symm]; exact m⟩
theorem lend_BasinS {w0 : Base} {own : List Own} {K : Value → List Own → Prop} {A : Option Addr} {n c : Nat} {xs : List Value} {j : Int} (k : Nat) (hk : own[k]? = some (.row (.slice A n c) 96 3 n xs)) (hn : n ≤ 1048576) (h0 : 0 ≤ j) (h1 : j ≤ 1125899906842624)
    (h : setK own k (.row (.slice A n c) 96 3 n (BaS.marks j n)) fun own => K (.int .i64 (j + ((3 * n : Nat) : Int))) own) : VCall Tryz.prog w0 own 52 [.slice A n c, .int .i64 j] K :=
  VCall.lend k hk _ _ (fun w1 m1 => markBasinS_v A n c xs j w1 hn h0 h1 m1) h
set_option maxHeartbeats 800000 in
theorem heldBasinS_v (A : Option Addr) (n c : Nat) (j : Int) (w : World) (hn : n ≤ 1048576) (h0 : 0 ≤ j) (h1 : j ≤ 1125899906842624) (hA : Seen w A (BaS.marks j n)) :
    Calls Tryz.prog 89 #[.slice A n c, .int .i64 j] w (Post (.int .i64 (j + ((3 * n : Nat) : Int))) w) := by
  refine post_of_vc ?_
  refine calls_of_vc tb_ok (args := [.slice A n c, .int .i64 j]) Tryz.func89 rfl ?_
  (repeat' ((conv => whnf); first | refine go ?_ | (refine VSome.mk ?_; intro gQ hA'; first | subst hA' | cases hA' | (dsimp only at hA'; subst hA')) | refine And.intro ?_ ?_ | intro _))
  (conv => whnf)
  refine VLoop.mk (ι := Nat) [1, 4, 5, 6, 7, 8, 9, 10, 11, 12, 13, 14, 15, 16, 17, 18, 19, 20, 21, 22, 23, 24, 25, 26, 27, 28, 29, 30, 31, 32, 33, 34, 35, 36, 37, 38] (fun k => [(5, .int .i64 k), (1, .int .i64 (j + ((3 * k : Nat) : Int)))]) (fun _ => []) (fun k => k ≤ n) (fun k => n - k) 0 (Nat.zero_le _) ?_ (OwnLe.mk [] (by simp) rfl) (fun k u hk => ?_)
  · ((conv => whnf); repeat (first | exact trivial | refine ⟨rfl, ?_⟩ | refine ⟨congrArg (Value.int .i64) (by first | omega | assumption | exact Eq.symm (by assumption)), ?_⟩))
  by_cases hlt : k < n
  · obtain ⟨b, off, rfl, r⟩ := Seen.rowAt (s := 3) (f := fun i => ([.int .i64 (j + ((3 * i : Nat) : Int)), .int .i64 (j + ((3 * i : Nat) : Int) + 1), .int .i64 (j + ((3 * i : Nat) : Int) + 1 + 1)] : List Value)) (fun _ => rfl) (by omega) hA hlt
    have hb := r.1
    have h2 : w.cell? ⟨b, off + k * 3, none⟩ = some (.int .i64 (j + ((3 * k : Nat) : Int))) := r.2 0 _ rfl
    have h3 : w.cell? ⟨b, off + k * 3 + 1, none⟩ = some (.int .i64 (j + ((3 * k : Nat) : Int) + 1)) := r.2 1 _ rfl
    have h4 : w.cell? ⟨b, off + k * 3 + 2, none⟩ = some (.int .i64 (j + ((3 * k : Nat) : Int) + 1 + 1)) := r.2 2 _ rfl
    all_goals ((repeat' ((conv => whnf); first | refine go ?_ | (refine VSome.mk ?_; intro gQ hA'; first | subst hA' | cases hA' | (dsimp only at hA'; subst hA')) | refine And.intro ?_ ?_ | intro _)))
    all_goals (conv => whnf)
    all_goals refine VNext.mk (k + 1) (by omega) (by omega) ?_ (OwnLe.mk [] (by simp) rfl)
    all_goals (((conv => whnf); repeat (first | exact trivial | refine ⟨rfl, ?_⟩ | refine ⟨congrArg (Value.int .i64) (by first | omega | assumption | exact Eq.symm (by assumption)), ?_⟩)))
  · obtain rfl : k = n := by omega
    (repeat' ((conv => whnf); first | refine go ?_ | (refine VSome.mk ?_; intro gQ hA'; first | subst hA' | cases hA' | (dsimp only at hA'; subst hA')) | refine And.intro ?_ ?_ | intro _))
    (conv => whnf); refine VRet.mk fun w' m => ?_
    exact ⟨rfl, m.keeps.below⟩
set_option maxRecDepth 100000 in
theorem open_Ba {H : Type} {enc : TypeId × Value → H} {w : World} {base : Nat} {spare : Nat → Bool} {held : Bool} {fuel : Nat} {cs : List Value} {x : DataW H × List MemPlace} (h : DataW.trod enc Tryz.prog w base spare held fuel 118 cs = some x) :
    ∃ l : Ba, cs = l.cells ∧ l.wf := by
  obtain ⟨hl, n, hf⟩ := open_field Tryz.underlying118 h
  have hkint : Tryz.prog.cellsOf 3 = 1 := by kernel_rfl
  obtain ⟨y0, h0⟩ := hf 0 _ rfl
  obtain ⟨a0, e0, g0⟩ := cell_int Tryz.underlying3 h0
  replace e0 : (cs.drop 0).take (Tryz.prog.cellsOf 3) = _ := e0
  rw [hkint] at e0
  obtain ⟨y1, h1⟩ := hf 1 _ rfl
  obtain ⟨a1, e1, g1⟩ := cell_int Tryz.underlying3 h1
  replace e1 : (cs.drop 1).take (Tryz.prog.cellsOf 3) = _ := e1
  rw [hkint] at e1
  obtain ⟨y2, h2⟩ := hf 2 _ rfl
  obtain ⟨a2, e2, g2⟩ := cell_int Tryz.underlying3 h2
  replace e2 : (cs.drop 2).take (Tryz.prog.cellsOf 3) = _ := e2
  rw [hkint] at e2
  rw [show Tryz.prog.cellsOf 118 = 3 from by kernel_rfl] at hl
  match cs, hl, e0, e1, e2 with
  | [c0, c1, c2], _, e0, e1, e2 =>
    simp only [List.drop_zero, List.drop_succ_cons, List.take_succ_cons, List.take_zero, List.cons.injEq, and_true] at e0 e1 e2
    exact ⟨⟨a0, a1, a2⟩, by rw [e0, e1, e2]; rfl, ⟨g0, g1, g2⟩⟩
set_option maxRecDepth 100000 in
theorem open_BaS {H : Type} {enc : TypeId × Value → H} {w : World} {base : Nat} {spare : Nat → Bool} {held : Bool} {fuel : Nat} {cs : List Value} {x : DataW H × List MemPlace} (h : DataW.trod enc Tryz.prog w base spare held fuel 24 cs = some x) :
    ∃ (A : Option Addr) (n c : Nat) (f : Nat → Ba), cs = [.slice A n c] ∧ n ≤ 9223372036854775807 ∧ Seen w A (BaS n f) ∧ ∀ i, i < n → (f i).wf := by
  obtain ⟨A, n, c, rfl, hn, fu, he⟩ := open_elems (s := 3) Tryz.underlying24 (by kernel_rfl) (by omega) h
  have H : ∀ i, i < n → ∃ l : Ba, (∃ b off, A = some ⟨b, off, none⟩ ∧ RowAt w b (off + i * 3) l.cells) ∧ l.wf := fun i hi => by
    obtain ⟨b, off, cs', y, hA, hb, hlen, hc, ht⟩ := he i hi
    obtain ⟨l, rfl, hwf⟩ := open_Ba ht
    exact ⟨l, ⟨b, off, hA, hb, fun j u hj => (hc j (by
      rcases Nat.lt_or_ge j 3 with h2 | h2
      · exact h2
      · rw [List.getElem?_eq_none h2] at hj; cases hj)).trans hj⟩, hwf⟩
  obtain ⟨f, hf⟩ := choose_below (⟨0, 0, 0⟩ : Ba) H
  exact ⟨A, n, c, f, rfl, hn, Seen.ofRows (s := 3) (fun _ => rfl) (fun i hi => (hf i hi).1), fun i hi => (hf i hi).2⟩
structure Aw where
  id : Int
  up : Bool
  minute : Int
  weight : Int
def Aw.cells (l : Aw) : List Value := [.int .i64 l.id, .bool l.up, .int .i64 l.minute, .int .i64 l.weight]
def Aw.wf (l : Aw) : Prop := In64 l.id ∧ True ∧ In64 l.minute ∧ In64 l.weight
def AwS (n : Nat) (f : Nat → Aw) : List Value := rowsN n fun i => (f i).cells
theorem AwS.len (n : Nat) (f : Nat → Aw) : (AwS n f).length = n * 4 := rowsN_length (f := fun i => (f i).cells) (s := 4) (fun _ => rfl) n
theorem AwS.one (n : Nat) (f : Nat → Aw) : (AwS n f).all (·.oneCell') = true := rowsN_all (fun _ => rfl) n
theorem AwS.congr {n : Nat} {f g : Nat → Aw} (h : ∀ i, i < n → f i = g i) : AwS n f = AwS n g := rowsN_congr fun i hi => by rw [h i hi]
theorem AwS.look {w : World} {A : Option Addr} {n i : Nat} {f : Nat → Aw} (h : Seen w A (AwS n f)) (hi : i < n) : ∃ b off, A = some ⟨b, off, none⟩ ∧ b < w.heap.size ∧ RowAt w b (off + i * 4) (f i).cells ∧ w.cell? ⟨b, off + i * 4, none⟩ = some (.int .i64 (f i).id) ∧ w.cell? ⟨b, off + i * 4 + 1, none⟩ = some (.bool (f i).up) ∧ w.cell? ⟨b, off + i * 4 + 2, none⟩ = some (.int .i64 (f i).minute) ∧ w.cell? ⟨b, off + i * 4 + 3, none⟩ = some (.int .i64 (f i).weight) := by
  obtain ⟨b, off, e, r⟩ := Seen.rowAt (s := 4) (fun _ => rfl) (by omega) h hi
  exact ⟨b, off, e, r.1, r, r.2 0 _ rfl, r.2 1 _ rfl, r.2 2 _ rfl, r.2 3 _ rfl⟩
theorem toArrival_v (l : Aw) (w : World) : Calls Tryz.prog 93 #[.agg l.cells.toArray] w (Post (.agg l.cells.toArray) w) := by
  refine post_of_vc ?_
  refine calls_of_vc tb_ok (args := [.agg l.cells.toArray]) Tryz.func93 rfl ?_
  (repeat' ((conv => whnf); first | refine go ?_ | (refine VSome.mk ?_; intro gQ hA'; first | subst hA' | cases hA' | (dsimp only at hA'; subst hA')) | refine And.intro ?_ ?_ | intro _ | (first | fail)))
  all_goals ((conv => whnf); refine VRet.mk fun w' m => ?_)
  all_goals refine ⟨?_, m.keeps.below⟩
  all_goals first | rfl | (simp only [Aw.cells, *]; rfl)
theorem eqArrival_v (l : Aw) (w : World) : Calls Tryz.prog 95 #[.agg l.cells.toArray, .agg l.cells.toArray] w (Post (.bool true) w) := by
  refine post_of_vc ?_
  refine calls_of_vc tb_ok (args := [.agg l.cells.toArray, .agg l.cells.toArray]) Tryz.func95 rfl ?_
  (repeat' ((conv => whnf); first | refine go ?_ | (refine VSome.mk ?_; intro gQ hA'; first | subst hA' | cases hA' | (dsimp only at hA'; subst hA')) | refine And.intro ?_ ?_ | intro _ | (first | fail)))
  all_goals first | contradiction | skip
  all_goals ((conv => whnf); refine VRet.mk fun w' m => ?_)
  all_goals exact ⟨rfl, m.keeps.below⟩
theorem szArrivalS_v (A : Option Addr) (n c : Nat) (left : Int) (w : World) (hn : n ≤ 9223372036854775807) (h0 : 0 ≤ left) (h1 : left ≤ 1048576) :
    Calls Tryz.prog 43 #[.slice A n c, .int .i64 left] w fun e w' => ∃ r : Int, (((n : Int) ≤ left ∧ r = left - n) ∨ (left < n ∧ r = -1)) ∧ Post (.int .i64 r) w e w' := by
  refine some_of_vc ?_
  refine calls_of_vc tb_ok (args := [.slice A n c, .int .i64 left]) Tryz.func43 rfl ?_
  (repeat' ((conv => whnf); first | refine go ?_ | (refine VSome.mk ?_; intro gQ hA'; first | subst hA' | cases hA' | (dsimp only at hA'; subst hA')) | refine And.intro ?_ ?_ | intro _))
  all_goals ((conv => whnf); refine VRet.mk fun w' m => ?_)
  all_goals exact ⟨_, by omega, rfl, m.keeps.below⟩
set_option maxHeartbeats 400000 in
theorem toArrivalS_v (A : Option Addr) (n c : Nat) (f : Nat → Aw) (w : World) (hn : n ≤ 1048576) (hA : Seen w A (AwS n f)) :
    Calls Tryz.prog 47 #[.slice A n c] w fun e w' => ∃ v, e = .returned v ∧ RetV (fun _ => True) (fun g => .slice (some ⟨g, 0, none⟩) n n) (fun g => [.row (.slice (some ⟨g, 0, none⟩) n n) 98 4 n (AwS n f)]) (Base.of w) v w' := by
  refine calls_of_vc tb_ok (args := [.slice A n c]) Tryz.func47 rfl ?_
  (repeat' ((conv => whnf); first | refine go ?_ | (refine VSome.mk ?_; intro gQ hA'; first | subst hA' | cases hA' | (dsimp only at hA'; subst hA')) | refine And.intro ?_ ?_ | intro _))
  refine VMake.mk n rfl rfl hn (fun g => ?_)
  (repeat' ((conv => whnf); first | refine go ?_ | (refine VSome.mk ?_; intro gQ hA'; first | subst hA' | cases hA' | (dsimp only at hA'; subst hA')) | refine And.intro ?_ ?_ | intro _))
  (conv => whnf)
  refine VLoop.mk (ι := Nat × List Value) [4, 8, 9, 10, 11, 12, 13, 14, 15, 16, 17, 18, 19, 20, 21] (fun i => [(4, .int .i64 (i.1 : Nat))]) (fun i => [.blk g 98 i.2]) (fun i => i.1 ≤ n ∧ UpTo i.2 n 4 i.1 fun i => (f i).cells) (fun i => n - i.1) (0, _) ⟨Nat.zero_le _, UpTo.zero (zerosL_length _ _)⟩ ?_ (OwnLe.mk [0] (by simp) rfl) (fun i u hi => ?_)
  · (conv => whnf)
    repeat (first | exact trivial | refine ⟨rfl, ?_⟩)
  obtain ⟨k, cs⟩ := i
  obtain ⟨hk, hu⟩ := hi
  replace hk : k ≤ n := hk
  replace hu : UpTo cs n 4 k _ := hu
  have hs3 : ∀ i : Nat, ((fun i => (f i).cells) i).length = 4 := fun _ => rfl
  by_cases hlt : k < n
  · have hl : cs.length = n * 4 := hu.1
    have hup := hu.step hs3 hlt
    obtain ⟨b, off, rfl, hb, hr, h0, h1, h2, h3⟩ := AwS.look hA hlt
    ((repeat' ((conv => whnf); first | refine go ?_ | (refine VSome.mk ?_; intro gQ hA'; first | subst hA' | cases hA' | (dsimp only at hA'; subst hA')) | refine And.intro ?_ ?_ | intro _)))
    refine VCall.grow _ (fun w1 _ => toArrival_v (f k) w1) ?_
    (repeat' ((conv => whnf); first | refine go ?_ | (refine VSome.mk ?_; intro gQ hA'; first | subst hA' | cases hA' | (dsimp only at hA'; subst hA')) | refine And.intro ?_ ?_ | intro _))
    (conv => whnf)
    refine VStore.arrAt 0 (k * 4) (by show 0 + mulS k 4 = k * 4; rw [mulS_eq]; omega) rfl rfl (by show k * 4 + 4 ≤ cs.length; omega) rfl ?_
    ((repeat' ((conv => whnf); first | refine go ?_ | (refine VSome.mk ?_; intro gQ hA'; first | subst hA' | cases hA' | (dsimp only at hA'; subst hA')) | refine And.intro ?_ ?_ | intro _)))
    (conv => whnf)
    refine VNext.mk (k + 1, _) ⟨by show k + 1 ≤ n; omega, hup⟩ (by show n - (k + 1) < n - k; omega) ?_ (OwnLe.mk [0] (by simp) rfl)
    (conv => whnf)
    (repeat (first | exact trivial | refine ⟨rfl, ?_⟩))
  · obtain rfl : k = n := by omega
    have he := hu.full hs3
    (repeat' ((conv => whnf); first | refine go ?_ | (refine VSome.mk ?_; intro gQ hA'; first | subst hA' | cases hA' | (dsimp only at hA'; subst hA')) | refine And.intro ?_ ?_ | intro _))
    (conv => whnf)
    exact VRet.rowOf g trivial rfl 0 rfl hu.1 (Nat.le_trans hn (by decide)) (by rw [he]; rfl)
set_option maxHeartbeats 400000 in
theorem eqArrivalS_v (A B : Option Addr) (n c d : Nat) (f : Nat → Aw) (w : World) (hn : n ≤ 1048576) (hA : Seen w A (AwS n f)) (hB : Seen w B (AwS n f)) :
    Calls Tryz.prog 50 #[.slice A n c, .slice B n d] w (Post (.bool true) w) := by
  refine post_of_vc ?_
  refine calls_of_vc tb_ok (args := [.slice A n c, .slice B n d]) Tryz.func50 rfl ?_
  (repeat' ((conv => whnf); first | refine go ?_ | (refine VSome.mk ?_; intro gQ hA'; first | subst hA' | cases hA' | (dsimp only at hA'; subst hA')) | refine And.intro ?_ ?_ | intro _))
  (conv => whnf)
  refine VLoop.mk (ι := Nat) [4, 5, 11, 12, 13, 14, 15, 16, 17, 18, 19, 20, 21, 22, 23, 24, 25, 26] (fun k => [(5, .int .i64 k)]) (fun _ => []) (fun k => k ≤ n) (fun k => n - k) 0 (Nat.zero_le _) ?_ (OwnLe.mk [] (by simp) rfl) (fun k u hk => ?_)
  · (conv => whnf)
    repeat (first | exact trivial | refine ⟨rfl, ?_⟩)
  by_cases hlt : k < n
  · obtain ⟨b, off, rfl, hb, hr, h0, h1, h2, h3⟩ := AwS.look hA hlt
    obtain ⟨b', off', rfl, hb', kr, k0, k1, k2, k3⟩ := AwS.look hB hlt
    (repeat' ((conv => whnf); first | refine go ?_ | (refine VSome.mk ?_; intro gQ hA'; first | subst hA' | cases hA' | (dsimp only at hA'; subst hA')) | refine And.intro ?_ ?_ | intro _))
    (conv => whnf)
    refine VDraw.mk (.take 0 (.take 1 (.take 2 (.take 3 (.take 4 (.take 5 (.take 6 (.take 7 (.br 8 (.take 9 .done) .done))))))))) [] (by kernel_rfl) (by kernel_rfl) ?_
    (repeat' ((conv => whnf); first | refine go ?_ | (refine VSome.mk ?_; intro gQ hA'; first | subst hA' | cases hA' | (dsimp only at hA'; subst hA')) | refine And.intro ?_ ?_ | intro _))
    refine VCall.grow _ (fun w1 _ => eqArrival_v (f k) w1) ?_
    (repeat' ((conv => whnf); first | refine go ?_ | (refine VSome.mk ?_; intro gQ hA'; first | subst hA' | cases hA' | (dsimp only at hA'; subst hA')) | refine And.intro ?_ ?_ | intro _))
    all_goals first | contradiction | skip
    all_goals (conv => whnf)
    all_goals refine VNext.mk (k + 1) (by omega) (by omega) ?_ (OwnLe.mk [] (by simp) rfl)
    all_goals (conv => whnf)
    all_goals (repeat (first | exact trivial | refine ⟨rfl, ?_⟩))
  · (repeat' ((conv => whnf); first | refine go ?_ | (refine VSome.mk ?_; intro gQ hA'; first | subst hA' | cases hA' | (dsimp only at hA'; subst hA')) | refine And.intro ?_ ?_ | intro _))
    (conv => whnf); refine VRet.mk fun w' m => ?_
    exact ⟨rfl, m.keeps.below⟩
noncomputable def AwS.marks (j : Int) (n : Nat) : List Value := rowsN n fun i => ([.int .i64 (j + ((4 * i : Nat) : Int)), .bool (tr ((j + ((4 * i : Nat) : Int) + 1) % 3 = 0)), .int .i64 (j + ((4 * i : Nat) : Int) + 1 + 1), .int .i64 (j + ((4 * i : Nat) : Int) + 1 + 1 + 1)] : List Value)
set_option maxHeartbeats 800000 in
theorem markArrivalS_v (A : Option Addr) (n c : Nat) (xs : List Value) (j : Int) (w : World) (hn : n ≤ 1048576) (h0 : 0 ≤ j) (h1 : j ≤ 1125899906842624) (m0 : Mem (Base.lend w (.row (.slice A n c) 98 4 n xs)) [.row (.slice A n c) 98 4 n xs] w) :
    Calls Tryz.prog 53 #[.slice A n c, .int .i64 j] w fun e w' => ∃ v, e = .returned v ∧ v = .int .i64 (j + ((4 * n : Nat) : Int)) ∧ Mem (Base.lend w (.row (.slice A n c) 98 4 n xs)) [.row (.slice A n c) 98 4 n (AwS.marks j n)] w' := by
  have hl0 : xs.length = n * 4 := (m0.ok 0 _ rfl).2.1
  generalize hw0 : Base.lend w (.row (.slice A n c) 98 4 n xs) = w0 at m0
  refine calls_of_vcL (w0 := w0) tb_ok (args := [.slice A n c, .int .i64 j]) Tryz.func53 rfl m0 ?_
  (repeat' ((conv => whnf); first | refine go ?_ | (refine VSome.mk ?_; intro gQ hA'; first | subst hA' | cases hA' | (dsimp only at hA'; subst hA')) | refine And.intro ?_ ?_ | intro _))
  (conv => whnf)
  refine VLoop.mk (ι := Nat × List Value) [1, 5, 6, 7, 8, 9, 10, 11, 12, 13, 14, 15, 16, 17, 18, 19, 20, 21, 22, 23, 24, 25, 26, 27, 28, 29, 30, 31, 32, 33, 34, 35, 36, 37, 38, 39, 40, 41] (fun i => [(5, .int .i64 (i.1 : Nat)), (1, .int .i64 (j + ((4 * i.1 : Nat) : Int)))]) (fun i => [.row (.slice A n c) 98 4 n i.2]) (fun i => i.1 ≤ n ∧ UpTo i.2 n 4 i.1 fun i => ([.int .i64 (j + ((4 * i : Nat) : Int)), .bool (tr ((j + ((4 * i : Nat) : Int) + 1) % 3 = 0)), .int .i64 (j + ((4 * i : Nat) : Int) + 1 + 1), .int .i64 (j + ((4 * i : Nat) : Int) + 1 + 1 + 1)] : List Value)) (fun i => n - i.1) (0, _) ⟨Nat.zero_le _, UpTo.zero hl0⟩ ?_ (OwnLe.mk [0] (by simp) rfl) (fun i u hi => ?_)
  · ((conv => whnf); repeat (first | exact trivial | refine ⟨rfl, ?_⟩ | refine ⟨congrArg (Value.int .i64) (by first | omega | assumption | exact Eq.symm (by assumption)), ?_⟩))
  obtain ⟨k, cs⟩ := i
  obtain ⟨hk, hu⟩ := hi
  replace hk : k ≤ n := hk
  replace hu : UpTo cs n 4 k _ := hu
  have hs3 : ∀ i : Nat, ((fun i => ([.int .i64 (j + ((4 * i : Nat) : Int)), .bool (tr ((j + ((4 * i : Nat) : Int) + 1) % 3 = 0)), .int .i64 (j + ((4 * i : Nat) : Int) + 1 + 1), .int .i64 (j + ((4 * i : Nat) : Int) + 1 + 1 + 1)] : List Value)) i).length = 4 := fun _ => rfl
  by_cases hlt : k < n
  · have hl : cs.length = n * 4 := hu.1
    have hup : UpTo (setRange cs (k * 4) ([.int .i64 (j + ((4 * k : Nat) : Int)), .bool (tr ((j + ((4 * k : Nat) : Int) + 1) % 3 = 0)), .int .i64 (j + ((4 * k : Nat) : Int) + 1 + 1), .int .i64 (j + ((4 * k : Nat) : Int) + 1 + 1 + 1)] : List Value)) n 4 (k + 1) (fun i => ([.int .i64 (j + ((4 * i : Nat) : Int)), .bool (tr ((j + ((4 * i : Nat) : Int) + 1) % 3 = 0)), .int .i64 (j + ((4 * i : Nat) : Int) + 1 + 1), .int .i64 (j + ((4 * i : Nat) : Int) + 1 + 1 + 1)] : List Value)) := hu.step hs3 hlt
    by_cases hm : (j + ((4 * k : Nat) : Int) + 1) % 3 = 0
    all_goals first | have ht := tr_no hm | have ht := tr_yes hm
    all_goals rw [ht] at hup
    all_goals ((repeat' ((conv => whnf); first | refine go ?_ | (refine VSome.mk ?_; intro gQ hA'; first | subst hA' | cases hA' | (dsimp only at hA'; subst hA')) | refine And.intro ?_ ?_ | intro _ | (first | ((show VStore _ _ _ _ _ _); refine VStore.rowAt 0 (k * 4) (by have := mulS_eq k 4; show mulS k 4 + 0 = k * 4; omega) rfl rfl (by simp only [setRange_length, List.length_cons, List.length_nil]; omega) rfl ?_) | ((show VStore _ _ _ _ _ _); refine VStore.rowAt 0 (k * 4 + 1) (by have := mulS_eq k 4; show mulS k 4 + 1 = k * 4 + 1; omega) rfl rfl (by simp only [setRange_length, List.length_cons, List.length_nil]; omega) rfl ?_) | ((show VStore _ _ _ _ _ _); refine VStore.rowAt 0 (k * 4 + 2) (by have := mulS_eq k 4; show mulS k 4 + 2 = k * 4 + 2; omega) rfl rfl (by simp only [setRange_length, List.length_cons, List.length_nil]; omega) rfl ?_) | ((show VStore _ _ _ _ _ _); refine VStore.rowAt 0 (k * 4 + 3) (by have := mulS_eq k 4; show mulS k 4 + 3 = k * 4 + 3; omega) rfl rfl (by simp only [setRange_length, List.length_cons, List.length_nil]; omega) rfl ?_)))))
    all_goals (conv => whnf)
    all_goals refine VNext.mk (k + 1, _) ⟨by show k + 1 ≤ n; omega, hup⟩ (by show n - (k + 1) < n - k; omega) ?_ (OwnLe.mk [0] (by simp) rfl)
    all_goals (((conv => whnf); repeat (first | exact trivial | refine ⟨rfl, ?_⟩ | refine ⟨congrArg (Value.int .i64) (by first | omega | assumption | exact Eq.symm (by assumption)), ?_⟩)))
  · obtain rfl : k = n := by omega
    have he := hu.full hs3
    (repeat' ((conv => whnf); first | refine go ?_ | (refine VSome.mk ?_; intro gQ hA'; first | subst hA' | cases hA' | (dsimp only at hA'; subst hA')) | refine And.intro ?_ ?_ | intro _))
    (conv => whnf)
    exact VRet.mk fun w' m => ⟨rfl, by rw [show AwS.marks j k = cs from he.symm]; exact m⟩
theorem lend_ArrivalS {w0 : Base} {own : List Own} {K : Value → List Own → Prop} {A : Option Addr} {n c : Nat} {xs : List Value} {j : Int} (k : Nat) (hk : own[k]? = some (.row (.slice A n c) 98 4 n xs)) (hn : n ≤ 1048576) (h0 : 0 ≤ j) (h1 : j ≤ 1125899906842624)
    (h : setK own k (.row (.slice A n c) 98 4 n (AwS.marks j n)) fun own => K (.int .i64 (j + ((4 * n : Nat) : Int))) own) : VCall Tryz.prog w0 own 53 [.slice A n c, .int .i64 j] K :=
  VCall.lend k hk _ _ (fun w1 m1 => markArrivalS_v A n c xs j w1 hn h0 h1 m1) h
set_option maxHeartbeats 800000 in
theorem heldArrivalS_v (A : Option Addr) (n c : Nat) (j : Int) (w : World) (hn : n ≤ 1048576) (h0 : 0 ≤ j) (h1 : j ≤ 1125899906842624) (hA : Seen w A (AwS.marks j n)) :
    Calls Tryz.prog 90 #[.slice A n c, .int .i64 j] w (Post (.int .i64 (j + ((4 * n : Nat) : Int))) w) := by
  refine post_of_vc ?_
  refine calls_of_vc tb_ok (args := [.slice A n c, .int .i64 j]) Tryz.func90 rfl ?_
  (repeat' ((conv => whnf); first | refine go ?_ | (refine VSome.mk ?_; intro gQ hA'; first | subst hA' | cases hA' | (dsimp only at hA'; subst hA')) | refine And.intro ?_ ?_ | intro _))
  (conv => whnf)
  refine VLoop.mk (ι := Nat) [1, 4, 5, 6, 7, 8, 9, 10, 11, 12, 13, 14, 15, 16, 17, 18, 19, 20, 21, 22, 23, 24, 25, 26, 27, 28, 29, 30, 31, 32, 33, 34, 35, 36, 37, 38, 39, 40, 41, 42, 43, 44, 45, 46, 47, 48, 49] (fun k => [(5, .int .i64 k), (1, .int .i64 (j + ((4 * k : Nat) : Int)))]) (fun _ => []) (fun k => k ≤ n) (fun k => n - k) 0 (Nat.zero_le _) ?_ (OwnLe.mk [] (by simp) rfl) (fun k u hk => ?_)
  · ((conv => whnf); repeat (first | exact trivial | refine ⟨rfl, ?_⟩ | refine ⟨congrArg (Value.int .i64) (by first | omega | assumption | exact Eq.symm (by assumption)), ?_⟩))
  by_cases hlt : k < n
  · obtain ⟨b, off, rfl, r⟩ := Seen.rowAt (s := 4) (f := fun i => ([.int .i64 (j + ((4 * i : Nat) : Int)), .bool (tr ((j + ((4 * i : Nat) : Int) + 1) % 3 = 0)), .int .i64 (j + ((4 * i : Nat) : Int) + 1 + 1), .int .i64 (j + ((4 * i : Nat) : Int) + 1 + 1 + 1)] : List Value)) (fun _ => rfl) (by omega) hA hlt
    have hb := r.1
    have h2 : w.cell? ⟨b, off + k * 4, none⟩ = some (.int .i64 (j + ((4 * k : Nat) : Int))) := r.2 0 _ rfl
    have h3 : w.cell? ⟨b, off + k * 4 + 1, none⟩ = some (.bool (tr ((j + ((4 * k : Nat) : Int) + 1) % 3 = 0))) := r.2 1 _ rfl
    have h4 : w.cell? ⟨b, off + k * 4 + 2, none⟩ = some (.int .i64 (j + ((4 * k : Nat) : Int) + 1 + 1)) := r.2 2 _ rfl
    have h5 : w.cell? ⟨b, off + k * 4 + 3, none⟩ = some (.int .i64 (j + ((4 * k : Nat) : Int) + 1 + 1 + 1)) := r.2 3 _ rfl
    by_cases hm : (j + ((4 * k : Nat) : Int) + 1) % 3 = 0
    all_goals first | have ht := tr_no hm | have ht := tr_yes hm
    all_goals rw [ht] at h3
    all_goals ((repeat' ((conv => whnf); first | refine go ?_ | (refine VSome.mk ?_; intro gQ hA'; first | subst hA' | cases hA' | (dsimp only at hA'; subst hA')) | refine And.intro ?_ ?_ | intro _)))
    all_goals (conv => whnf)
    all_goals refine VNext.mk (k + 1) (by omega) (by omega) ?_ (OwnLe.mk [] (by simp) rfl)
    all_goals (((conv => whnf); repeat (first | exact trivial | refine ⟨rfl, ?_⟩ | refine ⟨congrArg (Value.int .i64) (by first | omega | assumption | exact Eq.symm (by assumption)), ?_⟩)))
  · obtain rfl : k = n := by omega
    (repeat' ((conv => whnf); first | refine go ?_ | (refine VSome.mk ?_; intro gQ hA'; first | subst hA' | cases hA' | (dsimp only at hA'; subst hA')) | refine And.intro ?_ ?_ | intro _))
    (conv => whnf); refine VRet.mk fun w' m => ?_
    exact ⟨rfl, m.keeps.below⟩
set_option maxRecDepth 100000 in
theorem open_Aw {H : Type} {enc : TypeId × Value → H} {w : World} {base : Nat} {spare : Nat → Bool} {held : Bool} {fuel : Nat} {cs : List Value} {x : DataW H × List MemPlace} (h : DataW.trod enc Tryz.prog w base spare held fuel 124 cs = some x) :
    ∃ l : Aw, cs = l.cells ∧ l.wf := by
  obtain ⟨hl, n, hf⟩ := open_field Tryz.underlying124 h
  have hkbool : Tryz.prog.cellsOf 4 = 1 := by kernel_rfl
  have hkint : Tryz.prog.cellsOf 3 = 1 := by kernel_rfl
  obtain ⟨y0, h0⟩ := hf 0 _ rfl
  obtain ⟨a0, e0, g0⟩ := cell_int Tryz.underlying3 h0
  replace e0 : (cs.drop 0).take (Tryz.prog.cellsOf 3) = _ := e0
  rw [hkint] at e0
  obtain ⟨y1, h1⟩ := hf 1 _ rfl
  obtain ⟨a1, e1, g1⟩ := cell_bool Tryz.underlying4 h1
  replace e1 : (cs.drop 1).take (Tryz.prog.cellsOf 4) = _ := e1
  rw [hkbool] at e1
  obtain ⟨y2, h2⟩ := hf 2 _ rfl
  obtain ⟨a2, e2, g2⟩ := cell_int Tryz.underlying3 h2
  replace e2 : (cs.drop 2).take (Tryz.prog.cellsOf 3) = _ := e2
  rw [hkint] at e2
  obtain ⟨y3, h3⟩ := hf 3 _ rfl
  obtain ⟨a3, e3, g3⟩ := cell_int Tryz.underlying3 h3
  replace e3 : (cs.drop 3).take (Tryz.prog.cellsOf 3) = _ := e3
  rw [hkint] at e3
  rw [show Tryz.prog.cellsOf 124 = 4 from by kernel_rfl] at hl
  match cs, hl, e0, e1, e2, e3 with
  | [c0, c1, c2, c3], _, e0, e1, e2, e3 =>
    simp only [List.drop_zero, List.drop_succ_cons, List.take_succ_cons, List.take_zero, List.cons.injEq, and_true] at e0 e1 e2 e3
    exact ⟨⟨a0, a1, a2, a3⟩, by rw [e0, e1, e2, e3]; rfl, ⟨g0, g1, g2, g3⟩⟩
set_option maxRecDepth 100000 in
theorem open_AwS {H : Type} {enc : TypeId × Value → H} {w : World} {base : Nat} {spare : Nat → Bool} {held : Bool} {fuel : Nat} {cs : List Value} {x : DataW H × List MemPlace} (h : DataW.trod enc Tryz.prog w base spare held fuel 25 cs = some x) :
    ∃ (A : Option Addr) (n c : Nat) (f : Nat → Aw), cs = [.slice A n c] ∧ n ≤ 9223372036854775807 ∧ Seen w A (AwS n f) ∧ ∀ i, i < n → (f i).wf := by
  obtain ⟨A, n, c, rfl, hn, fu, he⟩ := open_elems (s := 4) Tryz.underlying25 (by kernel_rfl) (by omega) h
  have H : ∀ i, i < n → ∃ l : Aw, (∃ b off, A = some ⟨b, off, none⟩ ∧ RowAt w b (off + i * 4) l.cells) ∧ l.wf := fun i hi => by
    obtain ⟨b, off, cs', y, hA, hb, hlen, hc, ht⟩ := he i hi
    obtain ⟨l, rfl, hwf⟩ := open_Aw ht
    exact ⟨l, ⟨b, off, hA, hb, fun j u hj => (hc j (by
      rcases Nat.lt_or_ge j 4 with h2 | h2
      · exact h2
      · rw [List.getElem?_eq_none h2] at hj; cases hj)).trans hj⟩, hwf⟩
  obtain ⟨f, hf⟩ := choose_below (⟨0, false, 0, 0⟩ : Aw) H
  exact ⟨A, n, c, f, rfl, hn, Seen.ofRows (s := 4) (fun _ => rfl) (fun i hi => (hf i hi).1), fun i hi => (hf i hi).2⟩
structure Co where
  lock : Lo
  n : Nat
  ba : Nat → Ba
  m : Nat
  wa : Nat → Aw
  log : Lg
def Co.at (d : Co) (A1 : Option Addr) (c1 : Nat) (A2 : Option Addr) (c2 : Nat) : List Value := [.int .i64 d.lock.lower, .int .i64 d.lock.upper, .int .i64 d.lock.level, .bool d.lock.lg, .bool d.lock.hg, .bool d.lock.lp, .bool d.lock.hp, .slice A1 d.n c1, .slice A2 d.m c2, .string d.log.durable, .string d.log.pending, .int .i64 d.log.count]
def Co.seen (w : World) (d : Co) (A1 : Option Addr) (A2 : Option Addr) : Prop := Seen w A1 (BaS d.n d.ba) ∧ Seen w A2 (AwS d.m d.wa)
theorem szConsole_v (A1 : Option Addr) (c1 : Nat) (A2 : Option Addr) (c2 : Nat) (d : Co) (left : Int) (w : World) (hn1 : d.n ≤ 9223372036854775807) (hn2 : d.m ≤ 9223372036854775807) (hs_durable : d.log.durable.size ≤ 9223372036854775807) (hs_pending : d.log.pending.size ≤ 9223372036854775807) (h0 : 0 ≤ left) (h1 : left ≤ 1048576) :
    Calls Tryz.prog 9 #[.agg (d.at A1 c1 A2 c2).toArray, .int .i64 left] w fun e w' => ∃ r : Int, (((d.n : Int) + (d.m : Int) + (d.log.durable.size : Int) + (d.log.pending.size : Int) ≤ left ∧ r = left - ((d.n : Int) + (d.m : Int) + (d.log.durable.size : Int) + (d.log.pending.size : Int))) ∨ (left < (d.n : Int) + (d.m : Int) + (d.log.durable.size : Int) + (d.log.pending.size : Int) ∧ r = -1)) ∧ Post (.int .i64 r) w e w' := by
  refine some_of_vc ?_
  refine calls_of_vc tb_ok (args := [.agg (d.at A1 c1 A2 c2).toArray, .int .i64 left]) Tryz.func9 rfl ?_
  (repeat' ((conv => whnf); first | refine go ?_ | (refine VSome.mk ?_; intro gQ hA'; first | subst hA' | cases hA' | (dsimp only at hA'; subst hA')) | refine And.intro ?_ ?_ | intro _))
  all_goals first
    | ((conv => whnf); (show VCall _ _ _ 32 _ _); refine VCall.some _ _ (fun w1 _ => szBasinS_v A1 d.n c1 _ w1 hn1 (by omega) (by omega)) (fun r hr => ?_); skip)
    | skip
  (repeat' ((conv => whnf); first | refine go ?_ | (refine VSome.mk ?_; intro gQ hA'; first | subst hA' | cases hA' | (dsimp only at hA'; subst hA')) | refine And.intro ?_ ?_ | intro _))
  all_goals first
    | ((conv => whnf); (show VCall _ _ _ 43 _ _); refine VCall.some _ _ (fun w1 _ => szArrivalS_v A2 d.m c2 _ w1 hn2 (by omega) (by omega)) (fun r hr => ?_); skip)
    | skip
  (repeat' ((conv => whnf); first | refine go ?_ | (refine VSome.mk ?_; intro gQ hA'; first | subst hA' | cases hA' | (dsimp only at hA'; subst hA')) | refine And.intro ?_ ?_ | intro _))
  all_goals first
    | ((conv => whnf); (show VCall _ _ _ 33 _ _); refine VCall.some _ _ (fun w1 _ => szLog_v d.log _ w1 (by omega) (by omega) hs_durable hs_pending) (fun r hr => ?_); skip)
    | skip
  (repeat' ((conv => whnf); first | refine go ?_ | (refine VSome.mk ?_; intro gQ hA'; first | subst hA' | cases hA' | (dsimp only at hA'; subst hA')) | refine And.intro ?_ ?_ | intro _))
  all_goals ((conv => whnf); refine VRet.mk fun w' m => ?_)
  all_goals exact ⟨_, by omega, rfl, m.keeps.below⟩
def Co.news (d : Co) (g : Nat × Nat) : List Own := [.row (.slice (some ⟨g.1, 0, none⟩) d.n d.n) 96 3 d.n (BaS d.n d.ba), .row (.slice (some ⟨g.2, 0, none⟩) d.m d.m) 98 4 d.m (AwS d.m d.wa)]
def Co.val (d : Co) (g : Nat × Nat) : Value := .agg (d.at (some ⟨g.1, 0, none⟩) d.n (some ⟨g.2, 0, none⟩) d.m).toArray
set_option maxHeartbeats 400000 in
theorem toConsole_v (A1 : Option Addr) (c1 : Nat) (A2 : Option Addr) (c2 : Nat) (d : Co) (w : World) (hn1 : d.n ≤ 1048576) (hn2 : d.m ≤ 1048576) (hA1 : Seen w A1 (BaS d.n d.ba)) (hA2 : Seen w A2 (AwS d.m d.wa)) :
    Calls Tryz.prog 11 #[.agg (d.at A1 c1 A2 c2).toArray] w fun e w' => ∃ v, e = .returned v ∧ RetV (fun _ => True) d.val d.news (Base.of w) v w' := by
  refine calls_of_vc tb_ok (args := [.agg (d.at A1 c1 A2 c2).toArray]) Tryz.func11 rfl ?_
  (repeat' ((conv => whnf); first | refine go ?_ | (refine VSome.mk ?_; intro gQ hA'; first | subst hA' | cases hA' | (dsimp only at hA'; subst hA')) | refine And.intro ?_ ?_ | intro _))
  refine VCall.grow _ (fun w1 _ => toLockState_v d.lock w1) ?_
  (repeat' ((conv => whnf); first | refine go ?_ | (refine VSome.mk ?_; intro gQ hA'; first | subst hA' | cases hA' | (dsimp only at hA'; subst hA')) | refine And.intro ?_ ?_ | intro _))
  refine VCall.ret (fun w1 m1 => toBasinS_v A1 d.n c1 d.ba w1 hn1 (Sees.old hA1 w1 m1)) (fun g1 _ => ?_)
  (repeat' ((conv => whnf); first | refine go ?_ | (refine VSome.mk ?_; intro gQ hA'; first | subst hA' | cases hA' | (dsimp only at hA'; subst hA')) | refine And.intro ?_ ?_ | intro _))
  refine VCall.ret (fun w1 m1 => toArrivalS_v A2 d.m c2 d.wa w1 hn2 (Sees.old hA2 w1 m1)) (fun g2 _ => ?_)
  (repeat' ((conv => whnf); first | refine go ?_ | (refine VSome.mk ?_; intro gQ hA'; first | subst hA' | cases hA' | (dsimp only at hA'; subst hA')) | refine And.intro ?_ ?_ | intro _))
  refine VCall.grow _ (fun w1 _ => toLog_v d.log w1) ?_
  (repeat' ((conv => whnf); first | refine go ?_ | (refine VSome.mk ?_; intro gQ hA'; first | subst hA' | cases hA' | (dsimp only at hA'; subst hA')) | refine And.intro ?_ ?_ | intro _))
  (conv => whnf)
  exact VRet.sel (g1, g2) trivial rfl [3, 4] (by simp) rfl
set_option maxHeartbeats 400000 in
theorem eqConsole_v (A1 : Option Addr) (c1 : Nat) (A2 : Option Addr) (c2 : Nat) (B1 : Option Addr) (e1 : Nat) (B2 : Option Addr) (e2 : Nat) (d : Co) (w : World) (hn1 : d.n ≤ 1048576) (hn2 : d.m ≤ 1048576) (hA1 : Seen w A1 (BaS d.n d.ba)) (hA2 : Seen w A2 (AwS d.m d.wa)) (hB1 : Seen w B1 (BaS d.n d.ba)) (hB2 : Seen w B2 (AwS d.m d.wa)) :
    Calls Tryz.prog 14 #[.agg (d.at A1 c1 A2 c2).toArray, .agg (d.at B1 e1 B2 e2).toArray] w (Post (.bool true) w) := by
  refine post_of_vc ?_
  refine calls_of_vc tb_ok (args := [.agg (d.at A1 c1 A2 c2).toArray, .agg (d.at B1 e1 B2 e2).toArray]) Tryz.func14 rfl ?_
  (repeat' ((conv => whnf); first | refine go ?_ | (refine VSome.mk ?_; intro gQ hA'; first | subst hA' | cases hA' | (dsimp only at hA'; subst hA')) | refine And.intro ?_ ?_ | intro _))
  refine VCall.grow _ (fun w1 m1 => eqLockState_v d.lock w1) ?_
  (repeat' ((conv => whnf); first | refine go ?_ | (refine VSome.mk ?_; intro gQ hA'; first | subst hA' | cases hA' | (dsimp only at hA'; subst hA')) | refine And.intro ?_ ?_ | intro _))
  all_goals first | contradiction | skip
  refine VCall.grow _ (fun w1 m1 => eqBasinS_v A1 B1 d.n c1 e1 d.ba w1 hn1 (Sees.old hA1 w1 m1) (Sees.old hB1 w1 m1)) ?_
  (repeat' ((conv => whnf); first | refine go ?_ | (refine VSome.mk ?_; intro gQ hA'; first | subst hA' | cases hA' | (dsimp only at hA'; subst hA')) | refine And.intro ?_ ?_ | intro _))
  all_goals first | contradiction | skip
  refine VCall.grow _ (fun w1 m1 => eqArrivalS_v A2 B2 d.m c2 e2 d.wa w1 hn2 (Sees.old hA2 w1 m1) (Sees.old hB2 w1 m1)) ?_
  (repeat' ((conv => whnf); first | refine go ?_ | (refine VSome.mk ?_; intro gQ hA'; first | subst hA' | cases hA' | (dsimp only at hA'; subst hA')) | refine And.intro ?_ ?_ | intro _))
  all_goals first | contradiction | skip
  refine VCall.grow _ (fun w1 m1 => eqLog_v d.log w1) ?_
  (repeat' ((conv => whnf); first | refine go ?_ | (refine VSome.mk ?_; intro gQ hA'; first | subst hA' | cases hA' | (dsimp only at hA'; subst hA')) | refine And.intro ?_ ?_ | intro _))
  all_goals first | contradiction | skip
  (conv => whnf); refine VRet.mk fun w' m => ?_
  exact ⟨rfl, m.keeps.below⟩
set_option maxHeartbeats 800000 in
theorem markConsole_v (A1 : Option Addr) (c1 : Nat) (A2 : Option Addr) (c2 : Nat) (d : Co) (xs ys : List Value) (j : Int) (w : World) (hn1 : d.n ≤ 1048576) (hn2 : d.m ≤ 1048576) (h0 : 0 ≤ j) (h1 : j ≤ 1099511627776) (m0 : Mem (Base.lendL w [.row (.slice A1 d.n c1) 96 3 d.n xs, .row (.slice A2 d.m c2) 98 4 d.m ys]) [.row (.slice A1 d.n c1) 96 3 d.n xs, .row (.slice A2 d.m c2) 98 4 d.m ys] w) :
    Calls Tryz.prog 15 #[.agg (d.at A1 c1 A2 c2).toArray, .int .i64 j] w fun e w' => ∃ v, e = .returned v ∧ v = .int .i64 (j + ((3 * d.n : Nat) : Int) + ((4 * d.m : Nat) : Int)) ∧ Mem (Base.lendL w [.row (.slice A1 d.n c1) 96 3 d.n xs, .row (.slice A2 d.m c2) 98 4 d.m ys]) [.row (.slice A1 d.n c1) 96 3 d.n (BaS.marks j d.n), .row (.slice A2 d.m c2) 98 4 d.m (AwS.marks (j + ((3 * d.n : Nat) : Int)) d.m)] w' := by
  refine calls_of_vcL (w0 := Base.lendL w [.row (.slice A1 d.n c1) 96 3 d.n xs, .row (.slice A2 d.m c2) 98 4 d.m ys]) tb_ok (args := [.agg (d.at A1 c1 A2 c2).toArray, .int .i64 j]) Tryz.func15 rfl m0 ?_
  (repeat' ((conv => whnf); first | refine go ?_ | (refine VSome.mk ?_; intro gQ hA'; first | subst hA' | cases hA' | (dsimp only at hA'; subst hA')) | refine And.intro ?_ ?_ | intro _ | (first | ((show VCall _ _ _ 52 _ _); refine lend_BasinS 0 rfl hn1 (by omega) (by omega) ?_) | ((show VCall _ _ _ 53 _ _); refine lend_ArrivalS 1 rfl hn2 (by omega) (by omega) ?_))))
  (conv => whnf)
  exact VRet.mk fun w' m => ⟨rfl, m.sel (ks := [0, 1]) (by simp)⟩
theorem lend_Console {w0 : Base} {own : List Own} {K : Value → List Own → Prop} {A1 : Option Addr} {c1 : Nat} {A2 : Option Addr} {c2 : Nat} {xs ys : List Value} {j : Int} (d : Co) (k l : Nat) (hkl : k ≠ l) (hk : own[k]? = some (.row (.slice A1 d.n c1) 96 3 d.n xs)) (hl : own[l]? = some (.row (.slice A2 d.m c2) 98 4 d.m ys)) (hn1 : d.n ≤ 1048576) (hn2 : d.m ≤ 1048576) (h0 : 0 ≤ j) (h1 : j ≤ 1099511627776)
    (h : setLK own [k, l] [.row (.slice A1 d.n c1) 96 3 d.n (BaS.marks j d.n), .row (.slice A2 d.m c2) 98 4 d.m (AwS.marks (j + ((3 * d.n : Nat) : Int)) d.m)] fun own => K (.int .i64 (j + ((3 * d.n : Nat) : Int) + ((4 * d.m : Nat) : Int))) own) : VCall Tryz.prog w0 own 15 [.agg (d.at A1 c1 A2 c2).toArray, .int .i64 j] K := by
  have e : fixOf [k, l] own = [.row (.slice A1 d.n c1) 96 3 d.n xs, .row (.slice A2 d.m c2) 98 4 d.m ys] := by
    unfold fixOf
    simp only [List.map_cons, List.map_nil, List.getD_eq_getElem?_getD, hk, hl, Option.getD_some]
  refine VCall.lendM [k, l] (by simp [hkl]) (.int .i64 (j + ((3 * d.n : Nat) : Int) + ((4 * d.m : Nat) : Int))) [.row (.slice A1 d.n c1) 96 3 d.n (BaS.marks j d.n), .row (.slice A2 d.m c2) 98 4 d.m (AwS.marks (j + ((3 * d.n : Nat) : Int)) d.m)] rfl (fun w1 m1 => ?_) h
  rw [e] at m1 ⊢
  exact markConsole_v A1 c1 A2 c2 d xs ys j w1 hn1 hn2 h0 h1 m1
set_option maxHeartbeats 400000 in
theorem heldConsole_v (A1 : Option Addr) (c1 : Nat) (A2 : Option Addr) (c2 : Nat) (d : Co) (j : Int) (w : World) (hn1 : d.n ≤ 1048576) (hn2 : d.m ≤ 1048576) (h0 : 0 ≤ j) (h1 : j ≤ 1099511627776) (hA1 : Seen w A1 (BaS.marks j d.n)) (hA2 : Seen w A2 (AwS.marks (j + ((3 * d.n : Nat) : Int)) d.m)) :
    Calls Tryz.prog 42 #[.agg (d.at A1 c1 A2 c2).toArray, .int .i64 j] w (Post (.int .i64 (j + ((3 * d.n : Nat) : Int) + ((4 * d.m : Nat) : Int))) w) := by
  refine post_of_vc ?_
  refine calls_of_vc tb_ok (args := [.agg (d.at A1 c1 A2 c2).toArray, .int .i64 j]) Tryz.func42 rfl ?_
  (repeat' ((conv => whnf); first | refine go ?_ | (refine VSome.mk ?_; intro gQ hA'; first | subst hA' | cases hA' | (dsimp only at hA'; subst hA')) | refine And.intro ?_ ?_ | intro _ | (first | ((show VCall _ _ _ 89 _ _); refine VCall.grow _ (fun w1 m1 => heldBasinS_v A1 d.n c1 j w1 hn1 (by omega) (by omega) (Sees.old hA1 w1 m1)) ?_) | ((show VCall _ _ _ 90 _ _); refine VCall.grow _ (fun w1 m1 => heldArrivalS_v A2 d.m c2 _ w1 hn2 (by omega) (by omega) (Sees.old hA2 w1 m1)) ?_))))
  (conv => whnf); refine VRet.mk fun w' m => ?_
  exact ⟨rfl, m.keeps.below⟩
def Co.wf (d : Co) : Prop := d.lock.wf ∧ (∀ i, i < d.n → (d.ba i).wf) ∧ (∀ i, i < d.m → (d.wa i).wf) ∧ d.log.wf
set_option maxRecDepth 100000 in
theorem openV_Co {H : Type} {enc : TypeId × Value → H} {w : World} {base : Nat} {spare : Nat → Bool} {held : Bool} {r : Reach} {b0 : Nat} {v : Value} {dd : DataW H} {ps : List MemPlace} (hv : Value.okWide Tryz.prog w r b0 29 v) (h : DataW.Trod enc Tryz.prog w base spare held 29 v dd ps) :
    ∃ (A1 : Option Addr) (c1 : Nat) (A2 : Option Addr) (c2 : Nat) (d : Co), v = .agg (d.at A1 c1 A2 c2).toArray ∧ d.n ≤ 9223372036854775807 ∧ d.m ≤ 9223372036854775807 ∧ Seen w A1 (BaS d.n d.ba) ∧ Seen w A2 (AwS d.m d.wa) ∧ d.wf := by
  obtain ⟨arr, fuel, rfl, hf0⟩ := openV_struct Tryz.underlying29 hv h
  obtain ⟨cs, hcs⟩ : ∃ cs, cs = arr.toList := ⟨_, rfl⟩
  rw [← hcs] at hf0
  obtain ⟨hl, n, hf⟩ := open_field Tryz.underlying29 hf0
  obtain ⟨y0, h0⟩ := hf 0 _ rfl
  obtain ⟨v0, e0, g0⟩ := open_Lo h0
  replace e0 : (cs.drop 0).take (Tryz.prog.cellsOf 23) = _ := e0
  rw [show Tryz.prog.cellsOf 23 = 7 from by kernel_rfl] at e0
  obtain ⟨y1, h1⟩ := hf 1 _ rfl
  obtain ⟨B1, n1, q1, f1, e1, g1, r1, z1⟩ := open_BaS h1
  replace e1 : (cs.drop 7).take (Tryz.prog.cellsOf 24) = _ := e1
  rw [show Tryz.prog.cellsOf 24 = 1 from by kernel_rfl] at e1
  obtain ⟨y2, h2⟩ := hf 2 _ rfl
  obtain ⟨B2, n2, q2, f2, e2, g2, r2, z2⟩ := open_AwS h2
  replace e2 : (cs.drop 8).take (Tryz.prog.cellsOf 25) = _ := e2
  rw [show Tryz.prog.cellsOf 25 = 1 from by kernel_rfl] at e2
  obtain ⟨y3, h3⟩ := hf 3 _ rfl
  obtain ⟨v3, e3, g3⟩ := open_Lg h3
  replace e3 : (cs.drop 9).take (Tryz.prog.cellsOf 27) = _ := e3
  rw [show Tryz.prog.cellsOf 27 = 3 from by kernel_rfl] at e3
  rw [show Tryz.prog.cellsOf 29 = 12 from by kernel_rfl] at hl
  match cs, hl, hcs, e0, e1, e2, e3 with
  | [x0, x1, x2, x3, x4, x5, x6, x7, x8, x9, x10, x11], _, hcs, e0, e1, e2, e3 =>
    simp only [List.drop_zero, List.drop_succ_cons, List.take_succ_cons, List.take_zero, List.cons.injEq, and_true, Lo.cells, Lg.cells] at e0 e1 e2 e3
    obtain ⟨q0_0, q0_1, q0_2, q0_3, q0_4, q0_5, q0_6⟩ := e0
    obtain ⟨q3_0, q3_1, q3_2⟩ := e3
    refine ⟨B1, q1, B2, q2, ⟨v0, n1, f1, n2, f2, v3⟩, ?_, g1, g2, r1, r2, g0, z1, z2, g3⟩
    have : arr = [x0, x1, x2, x3, x4, x5, x6, x7, x8, x9, x10, x11].toArray := Array.ext' hcs.symm
    rw [this, q0_0, q0_1, q0_2, q0_3, q0_4, q0_5, q0_6, e1, e2, q3_0, q3_1, q3_2]
    rfl
end Go.Proofs.YtadjhkehfklmnaaGreatDoor
