/-
  Texts joined: how the calls that the law reaches are walked, and the plain laws behind them.
  Conditions: none beyond each statement's own premises.
-/
import Derived.Test.YtadjhkehfklmnaaGreatDoorMe04
namespace Go.Proofs.YtadjhkehfklmnaaGreatDoor
set_option linter.unusedSimpArgs false
set_option linter.unusedVariables false
open Go.RowKit
set_option maxRecDepth 10000
def IS (n : Nat) (f : Nat → Int) : List Value := rowsN n fun i => ([.int .i64 (f i)] : List Value)
theorem IS.len (n : Nat) (f : Nat → Int) : (IS n f).length = n * 1 := rowsN_length (f := fun i => ([.int .i64 (f i)] : List Value)) (s := 1) (fun _ => rfl) n
theorem IS.one (n : Nat) (f : Nat → Int) : (IS n f).all (·.oneCell') = true := rowsN_all (fun _ => rfl) n
theorem IS.congr {n : Nat} {f g : Nat → Int} (h : ∀ i, i < n → f i = g i) : IS n f = IS n g := rowsN_congr fun i hi => by rw [h i hi]
theorem IS.look {w : World} {A : Option Addr} {n i : Nat} {f : Nat → Int} (h : Seen w A (IS n f)) (hi : i < n) : ∃ b off, A = some ⟨b, off, none⟩ ∧ b < w.heap.size ∧ w.cell? ⟨b, off + i, none⟩ = some (.int .i64 (f i)) := Seen.at1 h hi
set_option maxRecDepth 100000 in
theorem open_IS {H : Type} {enc : TypeId × Value → H} {w : World} {base : Nat} {spare : Nat → Bool} {held : Bool} {fuel : Nat} {cs : List Value} {x : DataW H × List MemPlace} (h : DataW.trod enc Tryz.prog w base spare held fuel 101 cs = some x) :
    ∃ (A : Option Addr) (n c : Nat) (f : Nat → Int), cs = [.slice A n c] ∧ n ≤ 9223372036854775807 ∧ Seen w A (IS n f) ∧ ∀ i, i < n → In64 (f i) := by
  obtain ⟨A, n, c, rfl, hn, fu, he⟩ := open_elems (s := 1) Tryz.underlying101 (by kernel_rfl) (by omega) h
  have H : ∀ i, i < n → ∃ l : Int, (∃ b off, A = some ⟨b, off, none⟩ ∧ RowAt w b (off + i * 1) [.int .i64 l]) ∧ In64 l := fun i hi => by
    obtain ⟨b, off, cs', y, hA, hb, hlen, hc, ht⟩ := he i hi
    obtain ⟨l, rfl, hwf⟩ := cell_int Tryz.underlying3 ht
    exact ⟨l, ⟨b, off, hA, hb, fun j u hj => (hc j (by
      rcases Nat.lt_or_ge j 1 with h2 | h2
      · exact h2
      · rw [List.getElem?_eq_none h2] at hj; cases hj)).trans hj⟩, hwf⟩
  obtain ⟨f, hf⟩ := choose_below (0 : Int) H
  exact ⟨A, n, c, f, rfl, hn, Seen.ofRows (s := 1) (fun _ => rfl) (fun i hi => (hf i hi).1), fun i hi => (hf i hi).2⟩
theorem openV_IS {H : Type} {enc : TypeId × Value → H} {w : World} {base : Nat} {spare : Nat → Bool} {held : Bool} {r : Reach} {b0 : Nat} {v : Value} {d : DataW H} {ps : List MemPlace} (hv : Value.okWide Tryz.prog w r b0 101 v) (h : DataW.Trod enc Tryz.prog w base spare held 101 v d ps) :
    ∃ (A : Option Addr) (n c : Nat) (f : Nat → Int), v = .slice A n c ∧ n ≤ 9223372036854775807 ∧ Seen w A (IS n f) ∧ ∀ i, i < n → In64 (f i) := by
  obtain ⟨A, n, c, fuel, rfl, hf⟩ := openV_slice Tryz.underlying101 hv h
  obtain ⟨A', n', c', f, e, hn, hr, hw⟩ := open_IS hf
  cases e
  exact ⟨A, n, c, f, rfl, hn, hr, hw⟩
def BS (n : Nat) (f : Nat → Bool) : List Value := rowsN n fun i => ([.bool (f i)] : List Value)
theorem BS.len (n : Nat) (f : Nat → Bool) : (BS n f).length = n * 1 := rowsN_length (f := fun i => ([.bool (f i)] : List Value)) (s := 1) (fun _ => rfl) n
theorem BS.one (n : Nat) (f : Nat → Bool) : (BS n f).all (·.oneCell') = true := rowsN_all (fun _ => rfl) n
theorem BS.congr {n : Nat} {f g : Nat → Bool} (h : ∀ i, i < n → f i = g i) : BS n f = BS n g := rowsN_congr fun i hi => by rw [h i hi]
theorem BS.look {w : World} {A : Option Addr} {n i : Nat} {f : Nat → Bool} (h : Seen w A (BS n f)) (hi : i < n) : ∃ b off, A = some ⟨b, off, none⟩ ∧ b < w.heap.size ∧ w.cell? ⟨b, off + i, none⟩ = some (.bool (f i)) := Seen.at1 h hi
set_option maxRecDepth 100000 in
theorem open_BS {H : Type} {enc : TypeId × Value → H} {w : World} {base : Nat} {spare : Nat → Bool} {held : Bool} {fuel : Nat} {cs : List Value} {x : DataW H × List MemPlace} (h : DataW.trod enc Tryz.prog w base spare held fuel 94 cs = some x) :
    ∃ (A : Option Addr) (n c : Nat) (f : Nat → Bool), cs = [.slice A n c] ∧ n ≤ 9223372036854775807 ∧ Seen w A (BS n f) ∧ ∀ i, i < n → True := by
  obtain ⟨A, n, c, rfl, hn, fu, he⟩ := open_elems (s := 1) Tryz.underlying94 (by kernel_rfl) (by omega) h
  have H : ∀ i, i < n → ∃ l : Bool, (∃ b off, A = some ⟨b, off, none⟩ ∧ RowAt w b (off + i * 1) [.bool l]) ∧ True := fun i hi => by
    obtain ⟨b, off, cs', y, hA, hb, hlen, hc, ht⟩ := he i hi
    obtain ⟨l, rfl, hwf⟩ := cell_bool Tryz.underlying4 ht
    exact ⟨l, ⟨b, off, hA, hb, fun j u hj => (hc j (by
      rcases Nat.lt_or_ge j 1 with h2 | h2
      · exact h2
      · rw [List.getElem?_eq_none h2] at hj; cases hj)).trans hj⟩, hwf⟩
  obtain ⟨f, hf⟩ := choose_below (false : Bool) H
  exact ⟨A, n, c, f, rfl, hn, Seen.ofRows (s := 1) (fun _ => rfl) (fun i hi => (hf i hi).1), fun i hi => (hf i hi).2⟩
theorem openV_BS {H : Type} {enc : TypeId × Value → H} {w : World} {base : Nat} {spare : Nat → Bool} {held : Bool} {r : Reach} {b0 : Nat} {v : Value} {d : DataW H} {ps : List MemPlace} (hv : Value.okWide Tryz.prog w r b0 94 v) (h : DataW.Trod enc Tryz.prog w base spare held 94 v d ps) :
    ∃ (A : Option Addr) (n c : Nat) (f : Nat → Bool), v = .slice A n c ∧ n ≤ 9223372036854775807 ∧ Seen w A (BS n f) ∧ ∀ i, i < n → True := by
  obtain ⟨A, n, c, fuel, rfl, hf⟩ := openV_slice Tryz.underlying94 hv h
  obtain ⟨A', n', c', f, e, hn, hr, hw⟩ := open_BS hf
  cases e
  exact ⟨A, n, c, f, rfl, hn, hr, hw⟩
def TxS (n : Nat) (f : Nat → ByteArray) : List Value := rowsN n fun i => ([.string (f i)] : List Value)
theorem TxS.len (n : Nat) (f : Nat → ByteArray) : (TxS n f).length = n * 1 := rowsN_length (f := fun i => ([.string (f i)] : List Value)) (s := 1) (fun _ => rfl) n
theorem TxS.one (n : Nat) (f : Nat → ByteArray) : (TxS n f).all (·.oneCell') = true := rowsN_all (fun _ => rfl) n
theorem TxS.congr {n : Nat} {f g : Nat → ByteArray} (h : ∀ i, i < n → f i = g i) : TxS n f = TxS n g := rowsN_congr fun i hi => by rw [h i hi]
theorem TxS.look {w : World} {A : Option Addr} {n i : Nat} {f : Nat → ByteArray} (h : Seen w A (TxS n f)) (hi : i < n) : ∃ b off, A = some ⟨b, off, none⟩ ∧ b < w.heap.size ∧ w.cell? ⟨b, off + i, none⟩ = some (.string (f i)) := Seen.at1 h hi
set_option maxHeartbeats 400000 in
theorem eqStringS_v (A B : Option Addr) (n c d : Nat) (f : Nat → ByteArray) (w : World) (hn : n ≤ 1048576) (hA : Seen w A (TxS n f)) (hB : Seen w B (TxS n f)) :
    Calls Tryz.prog 13 #[.slice A n c, .slice B n d] w (Post (.bool true) w) := by
  refine post_of_vc ?_
  refine calls_of_vc tb_ok (args := [.slice A n c, .slice B n d]) Tryz.func13 rfl ?_
  (repeat' ((conv => whnf); first | refine go ?_ | (refine VSome.mk ?_; intro gQ hA'; first | subst hA' | cases hA' | (dsimp only at hA'; subst hA')) | refine And.intro ?_ ?_ | intro _))
  (conv => whnf)
  refine VLoop.mk (ι := Nat) [4, 5, 11, 12, 13, 14, 15, 16, 17, 18, 19, 20, 21, 22, 23, 24, 25] (fun k => [(5, .int .i64 k)]) (fun _ => []) (fun k => k ≤ n) (fun k => n - k) 0 (Nat.zero_le _) ?_ (OwnLe.mk [] (by simp) rfl) (fun k u hk => ?_)
  · (conv => whnf)
    repeat (first | exact trivial | refine ⟨rfl, ?_⟩)
  by_cases hlt : k < n
  · obtain ⟨b, off, rfl, hb, h0⟩ := TxS.look hA hlt
    obtain ⟨b', off', rfl, hb', k0⟩ := TxS.look hB hlt
    (repeat' ((conv => whnf); first | refine go ?_ | (refine VSome.mk ?_; intro gQ hA'; first | subst hA' | cases hA' | (dsimp only at hA'; subst hA')) | refine And.intro ?_ ?_ | intro _))
    (conv => whnf)
    refine VDraw.mk (.take 0 (.take 1 (.take 2 (.take 3 (.take 4 (.take 5 (.take 6 (.take 7 (.take 8 .done))))))))) [] (by kernel_rfl) (by kernel_rfl) ?_
    (repeat' ((conv => whnf); first | refine go ?_ | (refine VSome.mk ?_; intro gQ hA'; first | subst hA' | cases hA' | (dsimp only at hA'; subst hA')) | refine And.intro ?_ ?_ | intro _))
    all_goals first | contradiction | skip
    all_goals (conv => whnf)
    all_goals refine VNext.mk (k + 1) (by omega) (by omega) ?_ (OwnLe.mk [] (by simp) rfl)
    all_goals (conv => whnf)
    all_goals (repeat (first | exact trivial | refine ⟨rfl, ?_⟩))
  · (repeat' ((conv => whnf); first | refine go ?_ | (refine VSome.mk ?_; intro gQ hA'; first | subst hA' | cases hA' | (dsimp only at hA'; subst hA')) | refine And.intro ?_ ?_ | intro _))
    (conv => whnf); refine VRet.mk fun w' m => ?_
    exact ⟨rfl, m.keeps.below⟩
noncomputable def TxS.marks (j : Int) (n : Nat) : List Value := rowsN n fun i => ([.string (mtx (j + ((1 * i : Nat) : Int)))] : List Value)
set_option maxHeartbeats 800000 in
theorem markStringS_v (A : Option Addr) (n c : Nat) (xs : List Value) (j : Int) (w : World) (hn : n ≤ 1048576) (h0 : 0 ≤ j) (h1 : j ≤ 1125899906842624) (m0 : Mem (Base.lend w (.row (.slice A n c) 9 1 n xs)) [.row (.slice A n c) 9 1 n xs] w) :
    Calls Tryz.prog 16 #[.slice A n c, .int .i64 j] w fun e w' => ∃ v, e = .returned v ∧ v = .int .i64 (j + ((1 * n : Nat) : Int)) ∧ Mem (Base.lend w (.row (.slice A n c) 9 1 n xs)) [.row (.slice A n c) 9 1 n (TxS.marks j n)] w' := by
  have hl0 : xs.length = n * 1 := (m0.ok 0 _ rfl).2.1
  generalize hw0 : Base.lend w (.row (.slice A n c) 9 1 n xs) = w0 at m0
  refine calls_of_vcL (w0 := w0) tb_ok (args := [.slice A n c, .int .i64 j]) Tryz.func16 rfl m0 ?_
  (repeat' ((conv => whnf); first | refine go ?_ | (refine VSome.mk ?_; intro gQ hA'; first | subst hA' | cases hA' | (dsimp only at hA'; subst hA')) | refine And.intro ?_ ?_ | intro _))
  (conv => whnf)
  refine VLoop.mk (ι := Nat × List Value) [1, 5, 6, 7, 8, 9, 10, 11, 12, 13, 14, 15, 16, 17, 18] (fun i => [(5, .int .i64 (i.1 : Nat)), (1, .int .i64 (j + ((1 * i.1 : Nat) : Int)))]) (fun i => [.row (.slice A n c) 9 1 n i.2]) (fun i => i.1 ≤ n ∧ UpTo i.2 n 1 i.1 fun i => ([.string (mtx (j + ((1 * i : Nat) : Int)))] : List Value)) (fun i => n - i.1) (0, _) ⟨Nat.zero_le _, UpTo.zero hl0⟩ ?_ (OwnLe.mk [0] (by simp) rfl) (fun i u hi => ?_)
  · ((conv => whnf); repeat (first | exact trivial | refine ⟨rfl, ?_⟩ | refine ⟨congrArg (Value.int .i64) (by first | omega | assumption | exact Eq.symm (by assumption)), ?_⟩))
  obtain ⟨k, cs⟩ := i
  obtain ⟨hk, hu⟩ := hi
  replace hk : k ≤ n := hk
  replace hu : UpTo cs n 1 k _ := hu
  have hs3 : ∀ i : Nat, ((fun i => ([.string (mtx (j + ((1 * i : Nat) : Int)))] : List Value)) i).length = 1 := fun _ => rfl
  by_cases hlt : k < n
  · have hl : cs.length = n * 1 := hu.1
    have hup : UpTo (setRange cs (k * 1) ([.string (mtx (j + ((1 * k : Nat) : Int)))] : List Value)) n 1 (k + 1) (fun i => ([.string (mtx (j + ((1 * i : Nat) : Int)))] : List Value)) := hu.step hs3 hlt
    all_goals ((repeat' ((conv => whnf); first | refine go ?_ | (refine VSome.mk ?_; intro gQ hA'; first | subst hA' | cases hA' | (dsimp only at hA'; subst hA')) | refine And.intro ?_ ?_ | intro _ | (first | ((show VStore _ _ _ _ _ _); refine VStore.rowAt 0 (k * 1) (by have := mulS_eq k 1; show mulS k 1 = k * 1; omega) rfl rfl (by simp only [setRange_length, List.length_cons, List.length_nil]; omega) rfl ?_) | ((show VCall _ _ _ 54 _ _); refine VCall.grow _ (fun w1 m1 => markText_v _ w1 (by omega) (by omega)) ?_)))))
    all_goals (conv => whnf)
    all_goals refine VNext.mk (k + 1, _) ⟨by show k + 1 ≤ n; omega, hup⟩ (by show n - (k + 1) < n - k; omega) ?_ (OwnLe.mk [0] (by simp) rfl)
    all_goals (((conv => whnf); repeat (first | exact trivial | refine ⟨rfl, ?_⟩ | refine ⟨congrArg (Value.int .i64) (by first | omega | assumption | exact Eq.symm (by assumption)), ?_⟩)))
  · obtain rfl : k = n := by omega
    have he := hu.full hs3
    (repeat' ((conv => whnf); first | refine go ?_ | (refine VSome.mk ?_; intro gQ hA'; first | subst hA' | cases hA' | (dsimp only at hA'; subst hA')) | refine And.intro ?_ ?_ | intro _))
    (conv => whnf)
    exact VRet.mk fun w' m => ⟨rfl, by rw [show TxS.marks j k = cs from he.symm]; exact m⟩
theorem lend_StringS {w0 : Base} {own : List Own} {K : Value → List Own → Prop} {A : Option Addr} {n c : Nat} {xs : List Value} {j : Int} (k : Nat) (hk : own[k]? = some (.row (.slice A n c) 9 1 n xs)) (hn : n ≤ 1048576) (h0 : 0 ≤ j) (h1 : j ≤ 1125899906842624)
    (h : setK own k (.row (.slice A n c) 9 1 n (TxS.marks j n)) fun own => K (.int .i64 (j + ((1 * n : Nat) : Int))) own) : VCall Tryz.prog w0 own 16 [.slice A n c, .int .i64 j] K :=
  VCall.lend k hk _ _ (fun w1 m1 => markStringS_v A n c xs j w1 hn h0 h1 m1) h
set_option maxHeartbeats 800000 in
theorem heldStringS_v (A : Option Addr) (n c : Nat) (j : Int) (w : World) (hn : n ≤ 1048576) (h0 : 0 ≤ j) (h1 : j ≤ 1125899906842624) (hA : Seen w A (TxS.marks j n)) :
    Calls Tryz.prog 17 #[.slice A n c, .int .i64 j] w (Post (.int .i64 (j + ((1 * n : Nat) : Int))) w) := by
  refine post_of_vc ?_
  refine calls_of_vc tb_ok (args := [.slice A n c, .int .i64 j]) Tryz.func17 rfl ?_
  (repeat' ((conv => whnf); first | refine go ?_ | (refine VSome.mk ?_; intro gQ hA'; first | subst hA' | cases hA' | (dsimp only at hA'; subst hA')) | refine And.intro ?_ ?_ | intro _))
  (conv => whnf)
  refine VLoop.mk (ι := Nat) [1, 4, 5, 6, 7, 8, 9, 10, 11, 12, 13, 14, 15, 16, 17, 18, 19, 20] (fun k => [(5, .int .i64 k), (1, .int .i64 (j + ((1 * k : Nat) : Int)))]) (fun _ => []) (fun k => k ≤ n) (fun k => n - k) 0 (Nat.zero_le _) ?_ (OwnLe.mk [] (by simp) rfl) (fun k u hk => ?_)
  · ((conv => whnf); repeat (first | exact trivial | refine ⟨rfl, ?_⟩ | refine ⟨congrArg (Value.int .i64) (by first | omega | assumption | exact Eq.symm (by assumption)), ?_⟩))
  by_cases hlt : k < n
  · obtain ⟨b, off, rfl, r⟩ := Seen.rowAt (s := 1) (f := fun i => ([.string (mtx (j + ((1 * i : Nat) : Int)))] : List Value)) (fun _ => rfl) (by omega) hA hlt
    have hb := r.1
    have h2 : w.cell? ⟨b, off + k, none⟩ = some (.string (mtx (j + ((1 * k : Nat) : Int)))) := by have := r.2 0 _ rfl; simpa using this
    all_goals ((repeat' ((conv => whnf); first | refine go ?_ | (refine VSome.mk ?_; intro gQ hA'; first | subst hA' | cases hA' | (dsimp only at hA'; subst hA')) | refine And.intro ?_ ?_ | intro _ | (first | ((show VCall _ _ _ 54 _ _); refine VCall.grow _ (fun w1 m1 => markText_v _ w1 (by omega) (by omega)) ?_) | ((show VDraw _ _ _ _ _ _); refine VDraw.mk (.take 0 (.take 1 (.take 2 (.take 3 (.take 4 (.br 5 (.take 6 .done) .done)))))) [] (by kernel_rfl) (by kernel_rfl) ?_)))))
    all_goals (conv => whnf)
    all_goals refine VNext.mk (k + 1) (by omega) (by omega) ?_ (OwnLe.mk [] (by simp) rfl)
    all_goals (((conv => whnf); repeat (first | exact trivial | refine ⟨rfl, ?_⟩ | refine ⟨congrArg (Value.int .i64) (by first | omega | assumption | exact Eq.symm (by assumption)), ?_⟩)))
  · obtain rfl : k = n := by omega
    (repeat' ((conv => whnf); first | refine go ?_ | (refine VSome.mk ?_; intro gQ hA'; first | subst hA' | cases hA' | (dsimp only at hA'; subst hA')) | refine And.intro ?_ ?_ | intro _))
    (conv => whnf); refine VRet.mk fun w' m => ?_
    exact ⟨rfl, m.keeps.below⟩
set_option maxRecDepth 100000 in
theorem open_TxS {H : Type} {enc : TypeId × Value → H} {w : World} {base : Nat} {spare : Nat → Bool} {held : Bool} {fuel : Nat} {cs : List Value} {x : DataW H × List MemPlace} (h : DataW.trod enc Tryz.prog w base spare held fuel 31 cs = some x) :
    ∃ (A : Option Addr) (n c : Nat) (f : Nat → ByteArray), cs = [.slice A n c] ∧ n ≤ 9223372036854775807 ∧ Seen w A (TxS n f) ∧ ∀ i, i < n → (f i).size ≤ maxLen := by
  obtain ⟨A, n, c, rfl, hn, fu, he⟩ := open_elems (s := 1) Tryz.underlying31 (by kernel_rfl) (by omega) h
  have H : ∀ i, i < n → ∃ l : ByteArray, (∃ b off, A = some ⟨b, off, none⟩ ∧ RowAt w b (off + i * 1) [.string l]) ∧ l.size ≤ maxLen := fun i hi => by
    obtain ⟨b, off, cs', y, hA, hb, hlen, hc, ht⟩ := he i hi
    obtain ⟨l, rfl, hwf⟩ := cell_string Tryz.underlying9 ht
    exact ⟨l, ⟨b, off, hA, hb, fun j u hj => (hc j (by
      rcases Nat.lt_or_ge j 1 with h2 | h2
      · exact h2
      · rw [List.getElem?_eq_none h2] at hj; cases hj)).trans hj⟩, hwf⟩
  obtain ⟨f, hf⟩ := choose_below (ByteArray.empty : ByteArray) H
  exact ⟨A, n, c, f, rfl, hn, Seen.ofRows (s := 1) (fun _ => rfl) (fun i hi => (hf i hi).1), fun i hi => (hf i hi).2⟩
theorem openV_TxS {H : Type} {enc : TypeId × Value → H} {w : World} {base : Nat} {spare : Nat → Bool} {held : Bool} {r : Reach} {b0 : Nat} {v : Value} {d : DataW H} {ps : List MemPlace} (hv : Value.okWide Tryz.prog w r b0 31 v) (h : DataW.Trod enc Tryz.prog w base spare held 31 v d ps) :
    ∃ (A : Option Addr) (n c : Nat) (f : Nat → ByteArray), v = .slice A n c ∧ n ≤ 9223372036854775807 ∧ Seen w A (TxS n f) ∧ ∀ i, i < n → (f i).size ≤ maxLen := by
  obtain ⟨A, n, c, fuel, rfl, hf⟩ := openV_slice Tryz.underlying31 hv h
  obtain ⟨A', n', c', f, e, hn, hr, hw⟩ := open_TxS hf
  cases e
  exact ⟨A, n, c, f, rfl, hn, hr, hw⟩
end Go.Proofs.YtadjhkehfklmnaaGreatDoor
namespace Go.Proofs.YtadjhkehfklmnaaGreatDoor
set_option linter.unusedSimpArgs false
set_option linter.unusedVariables false
open Go.RowKit
set_option maxRecDepth 10000
structure Rc where
  command : ByteArray
  reply : ByteArray
def Rc.cells (l : Rc) : List Value := [.string l.command, .string l.reply]
def Rc.wf (l : Rc) : Prop := l.command.size ≤ maxLen ∧ l.reply.size ≤ maxLen
def RcS (n : Nat) (f : Nat → Rc) : List Value := rowsN n fun i => (f i).cells
theorem RcS.len (n : Nat) (f : Nat → Rc) : (RcS n f).length = n * 2 := rowsN_length (f := fun i => (f i).cells) (s := 2) (fun _ => rfl) n
theorem RcS.one (n : Nat) (f : Nat → Rc) : (RcS n f).all (·.oneCell') = true := rowsN_all (fun _ => rfl) n
theorem RcS.congr {n : Nat} {f g : Nat → Rc} (h : ∀ i, i < n → f i = g i) : RcS n f = RcS n g := rowsN_congr fun i hi => by rw [h i hi]
theorem RcS.look {w : World} {A : Option Addr} {n i : Nat} {f : Nat → Rc} (h : Seen w A (RcS n f)) (hi : i < n) : ∃ b off, A = some ⟨b, off, none⟩ ∧ b < w.heap.size ∧ RowAt w b (off + i * 2) (f i).cells ∧ w.cell? ⟨b, off + i * 2, none⟩ = some (.string (f i).command) ∧ w.cell? ⟨b, off + i * 2 + 1, none⟩ = some (.string (f i).reply) := by
  obtain ⟨b, off, e, r⟩ := Seen.rowAt (s := 2) (fun _ => rfl) (by omega) h hi
  exact ⟨b, off, e, r.1, r, r.2 0 _ rfl, r.2 1 _ rfl⟩
structure Lg where
  durable : ByteArray
  pending : ByteArray
  count : Int
def Lg.cells (l : Lg) : List Value := [.string l.durable, .string l.pending, .int .i64 l.count]
def Lg.wf (l : Lg) : Prop := l.durable.size ≤ maxLen ∧ l.pending.size ≤ maxLen ∧ In64 l.count
def LgS (n : Nat) (f : Nat → Lg) : List Value := rowsN n fun i => (f i).cells
theorem LgS.len (n : Nat) (f : Nat → Lg) : (LgS n f).length = n * 3 := rowsN_length (f := fun i => (f i).cells) (s := 3) (fun _ => rfl) n
theorem LgS.one (n : Nat) (f : Nat → Lg) : (LgS n f).all (·.oneCell') = true := rowsN_all (fun _ => rfl) n
theorem LgS.congr {n : Nat} {f g : Nat → Lg} (h : ∀ i, i < n → f i = g i) : LgS n f = LgS n g := rowsN_congr fun i hi => by rw [h i hi]
theorem LgS.look {w : World} {A : Option Addr} {n i : Nat} {f : Nat → Lg} (h : Seen w A (LgS n f)) (hi : i < n) : ∃ b off, A = some ⟨b, off, none⟩ ∧ b < w.heap.size ∧ RowAt w b (off + i * 3) (f i).cells ∧ w.cell? ⟨b, off + i * 3, none⟩ = some (.string (f i).durable) ∧ w.cell? ⟨b, off + i * 3 + 1, none⟩ = some (.string (f i).pending) ∧ w.cell? ⟨b, off + i * 3 + 2, none⟩ = some (.int .i64 (f i).count) := by
  obtain ⟨b, off, e, r⟩ := Seen.rowAt (s := 3) (fun _ => rfl) (by omega) h hi
  exact ⟨b, off, e, r.1, r, r.2 0 _ rfl, r.2 1 _ rfl, r.2 2 _ rfl⟩
theorem toLog_v (l : Lg) (w : World) : Calls Tryz.prog 35 #[.agg l.cells.toArray] w (Post (.agg l.cells.toArray) w) := by
  refine post_of_vc ?_
  refine calls_of_vc tb_ok (args := [.agg l.cells.toArray]) Tryz.func35 rfl ?_
  (repeat' ((conv => whnf); first | refine go ?_ | (refine VSome.mk ?_; intro gQ hA'; first | subst hA' | cases hA' | (dsimp only at hA'; subst hA')) | refine And.intro ?_ ?_ | intro _ | (first | fail)))
  all_goals ((conv => whnf); refine VRet.mk fun w' m => ?_)
  all_goals refine ⟨?_, m.keeps.below⟩
  all_goals first | rfl | (simp only [Lg.cells, *]; rfl)
theorem eqLog_v (l : Lg) (w : World) : Calls Tryz.prog 51 #[.agg l.cells.toArray, .agg l.cells.toArray] w (Post (.bool true) w) := by
  refine post_of_vc ?_
  refine calls_of_vc tb_ok (args := [.agg l.cells.toArray, .agg l.cells.toArray]) Tryz.func51 rfl ?_
  (repeat' ((conv => whnf); first | refine go ?_ | (refine VSome.mk ?_; intro gQ hA'; first | subst hA' | cases hA' | (dsimp only at hA'; subst hA')) | refine And.intro ?_ ?_ | intro _ | (first | fail)))
  all_goals first | contradiction | skip
  all_goals ((conv => whnf); refine VRet.mk fun w' m => ?_)
  all_goals exact ⟨rfl, m.keeps.below⟩
theorem szLog_v (l : Lg) (left : Int) (w : World) (h0 : 0 ≤ left) (h1 : left ≤ 1048576) (h_durable : l.durable.size ≤ 9223372036854775807) (h_pending : l.pending.size ≤ 9223372036854775807) :
    Calls Tryz.prog 33 #[.agg l.cells.toArray, .int .i64 left] w fun e w' => ∃ r : Int, (((l.durable.size : Int) + (l.pending.size : Int) ≤ left ∧ r = left - ((l.durable.size : Int) + (l.pending.size : Int))) ∨ (left < (l.durable.size : Int) + (l.pending.size : Int) ∧ r = -1)) ∧ Post (.int .i64 r) w e w' := by
  refine some_of_vc ?_
  refine calls_of_vc tb_ok (args := [.agg l.cells.toArray, .int .i64 left]) Tryz.func33 rfl ?_
  (repeat' ((conv => whnf); first | refine go ?_ | (refine VSome.mk ?_; intro gQ hA'; first | subst hA' | cases hA' | (dsimp only at hA'; subst hA')) | refine And.intro ?_ ?_ | intro _ | (first | fail)))
  all_goals ((conv => whnf); refine VRet.mk fun w' m => ?_)
  all_goals exact ⟨_, by omega, rfl, m.keeps.below⟩
set_option maxRecDepth 100000 in
theorem open_Lg {H : Type} {enc : TypeId × Value → H} {w : World} {base : Nat} {spare : Nat → Bool} {held : Bool} {fuel : Nat} {cs : List Value} {x : DataW H × List MemPlace} (h : DataW.trod enc Tryz.prog w base spare held fuel 27 cs = some x) :
    ∃ l : Lg, cs = l.cells ∧ l.wf := by
  obtain ⟨hl, n, hf⟩ := open_field Tryz.underlying27 h
  have hkint : Tryz.prog.cellsOf 3 = 1 := by kernel_rfl
  have hkstring : Tryz.prog.cellsOf 9 = 1 := by kernel_rfl
  obtain ⟨y0, h0⟩ := hf 0 _ rfl
  obtain ⟨a0, e0, g0⟩ := cell_string Tryz.underlying9 h0
  replace e0 : (cs.drop 0).take (Tryz.prog.cellsOf 9) = _ := e0
  rw [hkstring] at e0
  obtain ⟨y1, h1⟩ := hf 1 _ rfl
  obtain ⟨a1, e1, g1⟩ := cell_string Tryz.underlying9 h1
  replace e1 : (cs.drop 1).take (Tryz.prog.cellsOf 9) = _ := e1
  rw [hkstring] at e1
  obtain ⟨y2, h2⟩ := hf 2 _ rfl
  obtain ⟨a2, e2, g2⟩ := cell_int Tryz.underlying3 h2
  replace e2 : (cs.drop 2).take (Tryz.prog.cellsOf 3) = _ := e2
  rw [hkint] at e2
  rw [show Tryz.prog.cellsOf 27 = 3 from by kernel_rfl] at hl
  match cs, hl, e0, e1, e2 with
  | [c0, c1, c2], _, e0, e1, e2 =>
    simp only [List.drop_zero, List.drop_succ_cons, List.take_succ_cons, List.take_zero, List.cons.injEq, and_true] at e0 e1 e2
    exact ⟨⟨a0, a1, a2⟩, by rw [e0, e1, e2]; rfl, ⟨g0, g1, g2⟩⟩
theorem openV_Lg {H : Type} {enc : TypeId × Value → H} {w : World} {base : Nat} {spare : Nat → Bool} {held : Bool} {r : Reach} {b0 : Nat} {v : Value} {d : DataW H} {ps : List MemPlace} (hv : Value.okWide Tryz.prog w r b0 27 v) (h : DataW.Trod enc Tryz.prog w base spare held 27 v d ps) :
    ∃ l : Lg, v = .agg l.cells.toArray ∧ l.wf := by
  obtain ⟨cs, fuel, rfl, hf⟩ := openV_struct Tryz.underlying27 hv h
  obtain ⟨l, e, hw⟩ := open_Lg hf
  exact ⟨l, congrArg Value.agg (Array.ext' e), hw⟩
end Go.Proofs.YtadjhkehfklmnaaGreatDoor
