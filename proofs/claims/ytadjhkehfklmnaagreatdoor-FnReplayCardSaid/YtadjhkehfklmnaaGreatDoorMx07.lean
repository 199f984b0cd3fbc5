/-
  Texts joined: how the calls that the law reaches are walked, and the plain laws behind them.
  Conditions: none beyond each statement's own premises.
-/
import Derived.Test.YtadjhkehfklmnaaGreatDoorMx06
namespace Go.Proofs.YtadjhkehfklmnaaGreatDoor
set_option linter.unusedSimpArgs false
set_option linter.unusedVariables false
open Go.RowKit
set_option maxRecDepth 10000
def rdC (k : Nat) (s : List UInt8) : Prop := 10 ∈ s ∧ k < 60 ∧ okp k (bfs 10 s)
theorem sl_hash (t : List UInt8) : 35 ∈ sl t := by unfold sl; simp
theorem okp_parts {k : Nat} {p : List UInt8} (h : okp k p) : 35 ∈ p ∧ 32 ∈ bfs 35 p ∧ 64 ∈ afs 32 (bfs 35 p) := by
  obtain ⟨hg, e⟩ := h
  obtain ⟨e1, e2, e3, _, _⟩ := parts (k := k) hg
  rw [e] at e1
  refine ⟨by rw [← e]; exact sl_hash _, by rw [e1]; unfold bod; simp, by rw [e1, e3]; simp⟩
set_option maxHeartbeats 1600000 in
theorem iRead_yes (k : Nat) (s : List UInt8) (w : World) (hl : s.length ≤ 4194304) (h : rdC k s) (ht : PTab w) : Calls Tryz.prog 116 #[.string (tx s), .int .i64 k] w (Post (.tuple #[.agg #[.string (tx (cmd (bfs 10 s))), .string (tx (rep (bfs 10 s)))], .int .i64 ((bfs 10 s).length + 1), .bool true]) w) := by
  obtain ⟨h10, hk, hp⟩ := h
  obtain ⟨q35, q32, q64⟩ := okp_parts hp
  have l1 := bfs_le 10 s
  have l2 := bfs_le 35 (bfs 10 s)
  have l3 := bfs_le 32 (bfs 35 (bfs 10 s))
  obtain ⟨hg, he⟩ := hp
  have hn := tx_size s
  have hn1 := tx_size (bfs 10 s)
  have f10 := tr_yes h10
  have f35 := tr_yes q35
  have f32 := tr_yes q32
  have f64 := tr_yes q64
  have hC1 := fun w => cut_v 10 s w (by omega)
  have hC2 := fun w => cut_v 35 (bfs 10 s) w (by omega)
  have hC3 := fun w => cut_v 32 (bfs 35 (bfs 10 s)) w (by omega)
  have hC4 : ∀ w, Calls Tryz.prog 153 #[.string (tx (afs 32 (bfs 35 (bfs 10 s)))), .string ⟨#[64]⟩] w (Post (.tuple #[.string (tx (cmd (bfs 10 s))), .string (tx (rep (bfs 10 s))), .bool (tr (64 ∈ afs 32 (bfs 35 (bfs 10 s))))]) w) := fun w => cut_v 64 _ w (by omega)
  have hG := fun w => iGood_v (cmd (bfs 10 s)) (rep (bfs 10 s)) w (by have := hg.2.2.2.1; omega) (by have := hg.2.2.2.2.1; omega)
  have hE := fun w ht => encode_v k (cmd (bfs 10 s)) (rep (bfs 10 s)) w (by omega) hg ht
  rw [tr_yes hg] at hG
  rw [he] at hE
  refine post_of_vc ?_
  refine calls_of_vc tb_ok (args := [.string (tx s), .int .i64 k]) Tryz.func116 rfl ?_
  (repeat' ((conv => whnf); first | refine go ?_ | (refine VSome.mk ?_; intro gQ hA'; first | subst hA' | cases hA' | (dsimp only at hA'; subst hA')) | refine And.intro ?_ ?_ | intro _ | (first | ((show VCall _ _ _ 153 [_, .string { data := #[10] }] _); refine VCall.grow _ (fun w1 _ => hC1 w1) ?_) | ((show VCall _ _ _ 153 [_, .string { data := #[35] }] _); refine VCall.grow _ (fun w1 _ => hC2 w1) ?_) | ((show VCall _ _ _ 153 [_, .string { data := #[32] }] _); refine VCall.grow _ (fun w1 _ => hC3 w1) ?_) | ((show VCall _ _ _ 153 [_, .string { data := #[64] }] _); refine VCall.grow _ (fun w1 _ => hC4 w1) ?_) | ((show VCall _ _ _ 76 _ _); refine VCall.grow _ (fun w1 _ => hG w1) ?_) | ((show VCall _ _ _ 115 _ _); refine VCall.grow _ (fun w1 m1 => hE w1 (ht.on m1)) ?_) | ((show VCat _ _ _); refine VCat.of (b := [10]) (by show _ + 1 ≤ _; omega) ?_))))
  (conv => whnf); refine VRet.mk fun w' m => ?_
  refine ⟨?_, m.keeps.below⟩
  rw [hn1]
  rfl
set_option maxHeartbeats 4000000 in
theorem iRead_no (k : Nat) (s : List UInt8) (w : World) (hl : s.length ≤ 4194304) (h : ¬ rdC k s) (ht : PTab w) : Calls Tryz.prog 116 #[.string (tx s), .int .i64 k] w (Post (.tuple #[.agg #[.string (tx []), .string (tx [])], .int .i64 0, .bool false]) w) := by
  have l1 := bfs_le 10 s
  have l2 := bfs_le 35 (bfs 10 s)
  have l3 := bfs_le 32 (bfs 35 (bfs 10 s))
  have l4 : (cmd (bfs 10 s)).length ≤ (afs 32 (bfs 35 (bfs 10 s))).length ∧ (rep (bfs 10 s)).length ≤ (afs 32 (bfs 35 (bfs 10 s))).length := bfs_le 64 _
  have hn := tx_size s
  have hn1 := tx_size (bfs 10 s)
  have hC1 := fun w => cut_v 10 s w (by omega)
  have hC2 := fun w => cut_v 35 (bfs 10 s) w (by omega)
  have hC3 := fun w => cut_v 32 (bfs 35 (bfs 10 s)) w (by omega)
  have hC4 : ∀ w, Calls Tryz.prog 153 #[.string (tx (afs 32 (bfs 35 (bfs 10 s)))), .string ⟨#[64]⟩] w (Post (.tuple #[.string (tx (cmd (bfs 10 s))), .string (tx (rep (bfs 10 s))), .bool (tr (64 ∈ afs 32 (bfs 35 (bfs 10 s))))]) w) := fun w => cut_v 64 _ w (by omega)
  generalize tr (35 ∈ bfs 10 s) = t35 at hC2
  generalize tr (32 ∈ bfs 35 (bfs 10 s)) = t32 at hC3
  generalize tr (64 ∈ afs 32 (bfs 35 (bfs 10 s))) = t64 at hC4
  have hG := fun w => iGood_v (cmd (bfs 10 s)) (rep (bfs 10 s)) w (by omega) (by omega)
  refine post_of_vc ?_
  refine calls_of_vc tb_ok (args := [.string (tx s), .int .i64 k]) Tryz.func116 rfl ?_
  by_cases h10 : 10 ∈ s
  · rw [tr_yes h10] at hC1
    by_cases hk : k < 60
    · by_cases hg : okR (cmd (bfs 10 s)) (rep (bfs 10 s))
      · have hne : ¬ ln k (cmd (bfs 10 s)) (rep (bfs 10 s)) = bfs 10 s := fun e => h ⟨h10, hk, hg, e⟩
        have hne2 : ¬ tx (ln k (cmd (bfs 10 s)) (rep (bfs 10 s)) ++ [10]) = tx (bfs 10 s ++ [10]) := fun e => hne (List.append_cancel_right (tx_inj e))
        have hE := fun w ht => encode_v k (cmd (bfs 10 s)) (rep (bfs 10 s)) w (by omega) hg ht
        rw [tr_yes hg] at hG
        (repeat' ((conv => whnf); first | refine go ?_ | (refine VSome.mk ?_; intro gQ hA'; first | subst hA' | cases hA' | (dsimp only at hA'; subst hA')) | refine And.intro ?_ ?_ | intro _ | (first | ((show VCall _ _ _ 153 [_, .string { data := #[10] }] _); refine VCall.grow _ (fun w1 _ => hC1 w1) ?_) | ((show VCall _ _ _ 153 [_, .string { data := #[35] }] _); refine VCall.grow _ (fun w1 _ => hC2 w1) ?_) | ((show VCall _ _ _ 153 [_, .string { data := #[32] }] _); refine VCall.grow _ (fun w1 _ => hC3 w1) ?_) | ((show VCall _ _ _ 153 [_, .string { data := #[64] }] _); refine VCall.grow _ (fun w1 _ => hC4 w1) ?_) | ((show VCall _ _ _ 76 _ _); refine VCall.grow _ (fun w1 _ => hG w1) ?_) | ((show VCall _ _ _ 115 _ _); refine VCall.grow _ (fun w1 m1 => hE w1 (ht.on m1)) ?_) | ((show VCat _ _ _); refine VCat.of (b := [10]) (by show _ + 1 ≤ _; omega) ?_))))
        all_goals ((conv => whnf); refine VRet.mk fun w' m => ?_)
        all_goals exact ⟨rfl, m.keeps.below⟩
      · rw [tr_no hg] at hG
        (repeat' ((conv => whnf); first | refine go ?_ | (refine VSome.mk ?_; intro gQ hA'; first | subst hA' | cases hA' | (dsimp only at hA'; subst hA')) | refine And.intro ?_ ?_ | intro _ | (first | ((show VCall _ _ _ 153 [_, .string { data := #[10] }] _); refine VCall.grow _ (fun w1 _ => hC1 w1) ?_) | ((show VCall _ _ _ 153 [_, .string { data := #[35] }] _); refine VCall.grow _ (fun w1 _ => hC2 w1) ?_) | ((show VCall _ _ _ 153 [_, .string { data := #[32] }] _); refine VCall.grow _ (fun w1 _ => hC3 w1) ?_) | ((show VCall _ _ _ 153 [_, .string { data := #[64] }] _); refine VCall.grow _ (fun w1 _ => hC4 w1) ?_) | ((show VCall _ _ _ 76 _ _); refine VCall.grow _ (fun w1 _ => hG w1) ?_))))
        all_goals ((conv => whnf); refine VRet.mk fun w' m => ?_)
        all_goals exact ⟨rfl, m.keeps.below⟩
    · (repeat' ((conv => whnf); first | refine go ?_ | (refine VSome.mk ?_; intro gQ hA'; first | subst hA' | cases hA' | (dsimp only at hA'; subst hA')) | refine And.intro ?_ ?_ | intro _ | (first | ((show VCall _ _ _ 153 [_, .string { data := #[10] }] _); refine VCall.grow _ (fun w1 _ => hC1 w1) ?_) | ((show VCall _ _ _ 153 [_, .string { data := #[35] }] _); refine VCall.grow _ (fun w1 _ => hC2 w1) ?_) | ((show VCall _ _ _ 153 [_, .string { data := #[32] }] _); refine VCall.grow _ (fun w1 _ => hC3 w1) ?_) | ((show VCall _ _ _ 153 [_, .string { data := #[64] }] _); refine VCall.grow _ (fun w1 _ => hC4 w1) ?_))))
      all_goals ((conv => whnf); refine VRet.mk fun w' m => ?_)
      all_goals exact ⟨rfl, m.keeps.below⟩
  · rw [tr_no h10] at hC1
    (repeat' ((conv => whnf); first | refine go ?_ | (refine VSome.mk ?_; intro gQ hA'; first | subst hA' | cases hA' | (dsimp only at hA'; subst hA')) | refine And.intro ?_ ?_ | intro _ | (first | ((show VCall _ _ _ 153 [_, .string { data := #[10] }] _); refine VCall.grow _ (fun w1 _ => hC1 w1) ?_) | ((show VCall _ _ _ 153 [_, .string { data := #[35] }] _); refine VCall.grow _ (fun w1 _ => hC2 w1) ?_) | ((show VCall _ _ _ 153 [_, .string { data := #[32] }] _); refine VCall.grow _ (fun w1 _ => hC3 w1) ?_) | ((show VCall _ _ _ 153 [_, .string { data := #[64] }] _); refine VCall.grow _ (fun w1 _ => hC4 w1) ?_))))
    all_goals ((conv => whnf); refine VRet.mk fun w' m => ?_)
    all_goals exact ⟨rfl, m.keeps.below⟩
theorem hd_len (k : Nat) : (hd k).length = (Lib.decDigits k).length + 1 := by unfold hd; simp
theorem VSub.as {s : ByteArray} {lo hi : Option Value} {K : Value → Prop} (l h : Nat) (t : ByteArray) (hl : bnd lo 0 l) (hh : bnd hi s.size h) (h1 : l ≤ h) (h2 : h ≤ s.size) (e : s.extract l h = t) (k : K (.string t)) : VSub s lo hi K := .mk l h hl hh h1 h2 (by rw [e]; exact k)
set_option maxHeartbeats 1600000 in
theorem sRead_yes (k : Nat) (p : List UInt8) (w : World) (hl : p.length ≤ 2097152) (hk : k < 100) (h : okp k p) : Calls Tryz.prog 137 #[.string (tx p), .int .i64 k] w (Post (.tuple #[.agg #[.string (tx (cmd p)), .string (tx (rep p))], .bool true]) w) := by
  have hq := okq_iff.2 h
  obtain ⟨r1, r2⟩ := okq_rec h
  obtain ⟨⟨hp1, hp2⟩, hm, hg, he⟩ := hq
  rw [← r1, ← r2]
  have hd2 := dd_len 1 k (by omega)
  have hl1 := hd_len k
  have hn1 := tx_size (bfs 35 p)
  have hn2 := tx_size (rst k p)
  have hn3 := tx_size (hd k)
  have l2 := bfs_le 35 p
  have l3 := bfs_le 64 (rst k p)
  have hr : (rst k p).length = (bfs 35 p).length - (hd k).length := by unfold rst; rw [List.length_drop]
  have hN := fun w => l1Num_v k w (by omega)
  have hS1 := fun w => l1Split_v 35 35 p w rfl (by omega)
  have hS2 := fun w => l1Split_v 64 64 (rst k p) w rfl (by omega)
  obtain ⟨t1, e1, _⟩ := sps_head 35 p
  obtain ⟨t2, e2, _⟩ := sps_head 64 (rst k p)
  rw [e1] at hS1
  rw [e2] at hS2
  have hn4 := tx_size (bfs 64 (rst k p))
  have hP1 : ∀ o, o = 0 → (TS (bfs 35 p :: t1))[o]? = some (.string (tx (bfs 35 p))) := fun o e => by subst e; rfl
  have hP2 : ∀ o, o = 0 → (TS (bfs 64 (rst k p) :: t2))[o]? = some (.string (tx (bfs 64 (rst k p)))) := fun o e => by subst e; rfl
  have x1 : (tx (bfs 35 p)).extract 0 (tx (hd k)).size = tx ((bfs 35 p).take (hd k).length) := by rw [tx_to, hn3]
  have x2 : (tx (bfs 35 p)).extract (tx (hd k)).size (tx (bfs 35 p)).size = tx (rst k p) := by rw [tx_from, hn3]; rfl
  have lb := bfs_len hm
  have x3 : (tx (rst k p)).extract ((tx (bfs 64 (rst k p))).size + 1) (tx (rst k p)).size = tx (afs 64 (rst k p)) := by rw [tx_from, hn4, afs_drop hm]
  have hG := fun w => sGood_v (bfs 64 (rst k p)) (afs 64 (rst k p)) w (by omega) (by omega)
  have hE := fun w => l27Line_v k (bfs 64 (rst k p)) (afs 64 (rst k p)) w (by omega) hg
  rw [tr_yes hg] at hG
  rw [he] at hE
  rw [hp2] at x1
  unfold hd at hn3 x1 x2 hl1 hp1 hp2 hr
  refine post_of_vc ?_
  refine calls_of_vc tb_ok (args := [.string (tx p), .int .i64 k]) Tryz.func137 rfl ?_
  (repeat' ((conv => whnf); first | refine go ?_ | (refine VSome.mk ?_; intro gQ hA'; first | subst hA' | cases hA' | (dsimp only at hA'; subst hA')) | refine And.intro ?_ ?_ | intro _ | (first | ((show VCall _ _ _ 61 _ _); refine VCall.grow _ (fun w1 _ => hN w1) ?_) | ((show VCall _ _ _ 44 [_, .int .u8 35] _); refine VCall.ret (fun w1 m1 => hS1 w1) (fun (gP, cP) _ => ?_)) | ((show VCall _ _ _ 44 [_, .int .u8 64] _); refine VCall.ret (fun w1 m1 => hS2 w1) (fun (gP, cP) _ => ?_)) | ((show VCall _ _ _ 85 _ _); refine VCall.grow _ (fun w1 _ => hG w1) ?_) | ((show VCall _ _ _ 104 _ _); refine VCall.grow _ (fun w1 _ => hE w1) ?_) | ((show VDraw _ _ _ _ _ _); refine VDraw.mk (.take 0 (.take 1 (.br 2 (.take 3 (.take 4 (.take 5 (.take 7 (.take 8 (.br 6 (.take 9 (.take 10 (.br 11 (.take 12 .done) .done))) .done)))))) .done))) [3] (by kernel_rfl) (by kernel_rfl) ?_) | ((show VIdx _ _ _ _ _ _ _); refine VIdx.at_ rfl 0 rfl (by simp only [List.length_cons]; omega) ?_) | ((show VLoad1 _ _ _ _ _); first | refine VLoad1.mk _ (Rd.row 1 rfl (hP1 _ (by show 0 + mulS 0 1 = 0; rw [mulS_eq]))) ?_ | refine VLoad1.mk _ (Rd.row 2 rfl (hP2 _ (by show 0 + mulS 0 1 = 0; rw [mulS_eq]))) ?_) | ((show VCat _ _ _); refine VCat.of (by first | (show _ + 1 ≤ _; omega)) ?_) | ((show VSub _ _ _ _); first | refine VSub.as 0 (tx (Lib.decDigits k ++ [32])).size _ rfl rfl (Nat.zero_le _) (by omega) x1 ?_ | refine VSub.as (tx (Lib.decDigits k ++ [32])).size (tx (bfs 35 p)).size _ rfl rfl (by omega) (by omega) x2 ?_ | refine VSub.as ((tx (bfs 64 (rst k p))).size + 1) (tx (rst k p)).size _ rfl rfl (by omega) (by omega) x3 ?_))))
  (conv => whnf); refine VRet.mk fun w' m => ?_
  exact ⟨rfl, m.keeps.below⟩
set_option maxHeartbeats 4000000 in
theorem sRead_no (k : Nat) (p : List UInt8) (w : World) (hl : p.length ≤ 2097152) (hk : k < 100) (h : ¬ okp k p) : Calls Tryz.prog 137 #[.string (tx p), .int .i64 k] w fun e w' => ∃ i : List UInt8 × List UInt8, True ∧ Post (.tuple #[.agg #[.string (tx i.1), .string (tx i.2)], .bool false]) w e w' := by
  have hnq : ¬ okq k p := fun e => h (okq_iff.1 e)
  have hd2 := dd_len 1 k (by omega)
  have hl1 := hd_len k
  have hn1 := tx_size (bfs 35 p)
  have hn2 := tx_size (rst k p)
  have hn3 := tx_size (hd k)
  have l2 := bfs_le 35 p
  have l3 := bfs_le 64 (rst k p)
  have hr : (rst k p).length = (bfs 35 p).length - (hd k).length := by unfold rst; rw [List.length_drop]
  have hN := fun w => l1Num_v k w (by omega)
  have hS1 := fun w => l1Split_v 35 35 p w rfl (by omega)
  have hS2 := fun w => l1Split_v 64 64 (rst k p) w rfl (by omega)
  obtain ⟨t1, e1, _⟩ := sps_head 35 p
  obtain ⟨t2, e2, _⟩ := sps_head 64 (rst k p)
  rw [e1] at hS1
  rw [e2] at hS2
  have hn4 := tx_size (bfs 64 (rst k p))
  have hP1 : ∀ o, o = 0 → (TS (bfs 35 p :: t1))[o]? = some (.string (tx (bfs 35 p))) := fun o e => by subst e; rfl
  have hP2 : ∀ o, o = 0 → (TS (bfs 64 (rst k p) :: t2))[o]? = some (.string (tx (bfs 64 (rst k p)))) := fun o e => by subst e; rfl
  have x1 : (tx (bfs 35 p)).extract 0 (tx (hd k)).size = tx ((bfs 35 p).take (hd k).length) := by rw [tx_to, hn3]
  have x2 : (tx (bfs 35 p)).extract (tx (hd k)).size (tx (bfs 35 p)).size = tx (rst k p) := by rw [tx_from, hn3]; rfl
  by_cases hp1 : (hd k).length ≤ (bfs 35 p).length
  · by_cases hp2 : (bfs 35 p).take (hd k).length = hd k
    · rw [hp2] at x1
      by_cases hm : 64 ∈ rst k p
      · have lb := bfs_len hm
        have x3 : (tx (rst k p)).extract ((tx (bfs 64 (rst k p))).size + 1) (tx (rst k p)).size = tx (afs 64 (rst k p)) := by rw [tx_from, hn4, afs_drop hm]
        have hG := fun w => sGood_v (bfs 64 (rst k p)) (afs 64 (rst k p)) w (by omega) (by omega)
        by_cases hg : okR (bfs 64 (rst k p)) (afs 64 (rst k p))
        · have hne : ¬ ln k (bfs 64 (rst k p)) (afs 64 (rst k p)) = p := fun e => hnq ⟨⟨hp1, hp2⟩, hm, hg, e⟩
          have hne2 : ¬ tx (ln k (bfs 64 (rst k p)) (afs 64 (rst k p)) ++ [10]) = tx (p ++ [10]) := fun e => hne (List.append_cancel_right (tx_inj e))
          have hE := fun w => l27Line_v k (bfs 64 (rst k p)) (afs 64 (rst k p)) w (by omega) hg
          rw [tr_yes hg] at hG
          unfold hd at hn3 x1 x2 hl1 hp1 hp2 hr
          refine some_of_vc ?_
          refine calls_of_vc tb_ok (args := [.string (tx p), .int .i64 k]) Tryz.func137 rfl ?_
          (repeat' ((conv => whnf); first | refine go ?_ | (refine VSome.mk ?_; intro gQ hA'; first | subst hA' | cases hA' | (dsimp only at hA'; subst hA')) | refine And.intro ?_ ?_ | intro _ | (first | ((show VCall _ _ _ 61 _ _); refine VCall.grow _ (fun w1 _ => hN w1) ?_) | ((show VCall _ _ _ 44 [_, .int .u8 35] _); refine VCall.ret (fun w1 m1 => hS1 w1) (fun (gP, cP) _ => ?_)) | ((show VCall _ _ _ 44 [_, .int .u8 64] _); refine VCall.ret (fun w1 m1 => hS2 w1) (fun (gP, cP) _ => ?_)) | ((show VCall _ _ _ 85 _ _); refine VCall.grow _ (fun w1 _ => hG w1) ?_) | ((show VCall _ _ _ 104 _ _); refine VCall.grow _ (fun w1 _ => hE w1) ?_) | ((show VDraw _ _ _ _ _ _); refine VDraw.mk (.take 0 (.take 1 (.br 2 (.take 3 (.take 4 (.take 5 (.take 7 (.take 8 (.br 6 (.take 9 (.take 10 (.br 11 (.take 12 .done) .done))) .done)))))) .done))) [3] (by kernel_rfl) (by kernel_rfl) ?_) | ((show VIdx _ _ _ _ _ _ _); refine VIdx.at_ rfl 0 rfl (by simp only [List.length_cons]; omega) ?_) | ((show VLoad1 _ _ _ _ _); first | refine VLoad1.mk _ (Rd.row 1 rfl (hP1 _ (by show 0 + mulS 0 1 = 0; rw [mulS_eq]))) ?_ | refine VLoad1.mk _ (Rd.row 2 rfl (hP2 _ (by show 0 + mulS 0 1 = 0; rw [mulS_eq]))) ?_) | ((show VCat _ _ _); refine VCat.of (by first | (show _ + 1 ≤ _; omega)) ?_) | ((show VSub _ _ _ _); first | refine VSub.as 0 (tx (Lib.decDigits k ++ [32])).size _ rfl rfl (Nat.zero_le _) (by omega) x1 ?_ | refine VSub.as (tx (Lib.decDigits k ++ [32])).size (tx (bfs 35 p)).size _ rfl rfl (by omega) (by omega) x2 ?_ | refine VSub.as ((tx (bfs 64 (rst k p))).size + 1) (tx (rst k p)).size _ rfl rfl (by omega) (by omega) x3 ?_))))
          all_goals ((conv => whnf); refine VRet.mk fun w' m => ?_)
          all_goals exact ⟨(bfs 64 (rst k p), afs 64 (rst k p)), trivial, rfl, m.keeps.below⟩
        · rw [tr_no hg] at hG
          unfold hd at hn3 x1 x2 hl1 hp1 hp2 hr
          refine some_of_vc ?_
          refine calls_of_vc tb_ok (args := [.string (tx p), .int .i64 k]) Tryz.func137 rfl ?_
          (repeat' ((conv => whnf); first | refine go ?_ | (refine VSome.mk ?_; intro gQ hA'; first | subst hA' | cases hA' | (dsimp only at hA'; subst hA')) | refine And.intro ?_ ?_ | intro _ | (first | ((show VCall _ _ _ 61 _ _); refine VCall.grow _ (fun w1 _ => hN w1) ?_) | ((show VCall _ _ _ 44 [_, .int .u8 35] _); refine VCall.ret (fun w1 m1 => hS1 w1) (fun (gP, cP) _ => ?_)) | ((show VCall _ _ _ 44 [_, .int .u8 64] _); refine VCall.ret (fun w1 m1 => hS2 w1) (fun (gP, cP) _ => ?_)) | ((show VCall _ _ _ 85 _ _); refine VCall.grow _ (fun w1 _ => hG w1) ?_) | ((show VDraw _ _ _ _ _ _); refine VDraw.mk (.take 0 (.take 1 (.br 2 (.take 3 (.take 4 (.take 5 (.take 7 (.take 8 (.br 6 (.take 9 (.take 10 (.br 11 (.take 12 .done) .done))) .done)))))) .done))) [3] (by kernel_rfl) (by kernel_rfl) ?_) | ((show VIdx _ _ _ _ _ _ _); refine VIdx.at_ rfl 0 rfl (by simp only [List.length_cons]; omega) ?_) | ((show VLoad1 _ _ _ _ _); first | refine VLoad1.mk _ (Rd.row 1 rfl (hP1 _ (by show 0 + mulS 0 1 = 0; rw [mulS_eq]))) ?_ | refine VLoad1.mk _ (Rd.row 2 rfl (hP2 _ (by show 0 + mulS 0 1 = 0; rw [mulS_eq]))) ?_) | ((show VCat _ _ _); refine VCat.of (by first | (show _ + 1 ≤ _; omega)) ?_) | ((show VSub _ _ _ _); first | refine VSub.as 0 (tx (Lib.decDigits k ++ [32])).size _ rfl rfl (Nat.zero_le _) (by omega) x1 ?_ | refine VSub.as (tx (Lib.decDigits k ++ [32])).size (tx (bfs 35 p)).size _ rfl rfl (by omega) (by omega) x2 ?_ | refine VSub.as ((tx (bfs 64 (rst k p))).size + 1) (tx (rst k p)).size _ rfl rfl (by omega) (by omega) x3 ?_))))
          all_goals ((conv => whnf); refine VRet.mk fun w' m => ?_)
          all_goals exact ⟨(bfs 64 (rst k p), afs 64 (rst k p)), trivial, rfl, m.keeps.below⟩
      · have ha := bfs_all.2 hm
        unfold hd at hn3 x1 x2 hl1 hp1 hp2 hr
        refine some_of_vc ?_
        refine calls_of_vc tb_ok (args := [.string (tx p), .int .i64 k]) Tryz.func137 rfl ?_
        (repeat' ((conv => whnf); first | refine go ?_ | (refine VSome.mk ?_; intro gQ hA'; first | subst hA' | cases hA' | (dsimp only at hA'; subst hA')) | refine And.intro ?_ ?_ | intro _ | (first | ((show VCall _ _ _ 61 _ _); refine VCall.grow _ (fun w1 _ => hN w1) ?_) | ((show VCall _ _ _ 44 [_, .int .u8 35] _); refine VCall.ret (fun w1 m1 => hS1 w1) (fun (gP, cP) _ => ?_)) | ((show VCall _ _ _ 44 [_, .int .u8 64] _); refine VCall.ret (fun w1 m1 => hS2 w1) (fun (gP, cP) _ => ?_))  | ((show VIdx _ _ _ _ _ _ _); refine VIdx.at_ rfl 0 rfl (by simp only [List.length_cons]; omega) ?_) | ((show VLoad1 _ _ _ _ _); first | refine VLoad1.mk _ (Rd.row 1 rfl (hP1 _ (by show 0 + mulS 0 1 = 0; rw [mulS_eq]))) ?_ | refine VLoad1.mk _ (Rd.row 2 rfl (hP2 _ (by show 0 + mulS 0 1 = 0; rw [mulS_eq]))) ?_) | ((show VCat _ _ _); refine VCat.of (by first | (show _ + 1 ≤ _; omega)) ?_) | ((show VSub _ _ _ _); first | refine VSub.as 0 (tx (Lib.decDigits k ++ [32])).size _ rfl rfl (Nat.zero_le _) (by omega) x1 ?_ | refine VSub.as (tx (Lib.decDigits k ++ [32])).size (tx (bfs 35 p)).size _ rfl rfl (by omega) (by omega) x2 ?_))))
        all_goals ((conv => whnf); refine VRet.mk fun w' m => ?_)
        all_goals exact ⟨([], []), trivial, rfl, m.keeps.below⟩
    · have hne : ¬ tx ((bfs 35 p).take (hd k).length) = tx (hd k) := tx_ne hp2
      unfold hd at hn3 x1 x2 hl1 hp1 hp2 hr hne
      refine some_of_vc ?_
      refine calls_of_vc tb_ok (args := [.string (tx p), .int .i64 k]) Tryz.func137 rfl ?_
      (repeat' ((conv => whnf); first | refine go ?_ | (refine VSome.mk ?_; intro gQ hA'; first | subst hA' | cases hA' | (dsimp only at hA'; subst hA')) | refine And.intro ?_ ?_ | intro _ | (first | ((show VCall _ _ _ 61 _ _); refine VCall.grow _ (fun w1 _ => hN w1) ?_) | ((show VCall _ _ _ 44 [_, .int .u8 35] _); refine VCall.ret (fun w1 m1 => hS1 w1) (fun (gP, cP) _ => ?_)) | ((show VCall _ _ _ 44 [_, .int .u8 64] _); refine VCall.ret (fun w1 m1 => hS2 w1) (fun (gP, cP) _ => ?_))  | ((show VIdx _ _ _ _ _ _ _); refine VIdx.at_ rfl 0 rfl (by simp only [List.length_cons]; omega) ?_) | ((show VLoad1 _ _ _ _ _); first | refine VLoad1.mk _ (Rd.row 1 rfl (hP1 _ (by show 0 + mulS 0 1 = 0; rw [mulS_eq]))) ?_ | refine VLoad1.mk _ (Rd.row 2 rfl (hP2 _ (by show 0 + mulS 0 1 = 0; rw [mulS_eq]))) ?_) | ((show VCat _ _ _); refine VCat.of (by first | (show _ + 1 ≤ _; omega)) ?_) | ((show VSub _ _ _ _); first | refine VSub.as 0 (tx (Lib.decDigits k ++ [32])).size _ rfl rfl (Nat.zero_le _) (by omega) x1 ?_ | refine VSub.as (tx (Lib.decDigits k ++ [32])).size (tx (bfs 35 p)).size _ rfl rfl (by omega) (by omega) x2 ?_))))
      all_goals ((conv => whnf); refine VRet.mk fun w' m => ?_)
      all_goals exact ⟨([], []), trivial, rfl, m.keeps.below⟩
  · unfold hd at hn3 x1 x2 hl1 hp1 hr
    refine some_of_vc ?_
    refine calls_of_vc tb_ok (args := [.string (tx p), .int .i64 k]) Tryz.func137 rfl ?_
    (repeat' ((conv => whnf); first | refine go ?_ | (refine VSome.mk ?_; intro gQ hA'; first | subst hA' | cases hA' | (dsimp only at hA'; subst hA')) | refine And.intro ?_ ?_ | intro _ | (first | ((show VCall _ _ _ 61 _ _); refine VCall.grow _ (fun w1 _ => hN w1) ?_) | ((show VCall _ _ _ 44 [_, .int .u8 35] _); refine VCall.ret (fun w1 m1 => hS1 w1) (fun (gP, cP) _ => ?_)) | ((show VCall _ _ _ 44 [_, .int .u8 64] _); refine VCall.ret (fun w1 m1 => hS2 w1) (fun (gP, cP) _ => ?_))  | ((show VIdx _ _ _ _ _ _ _); refine VIdx.at_ rfl 0 rfl (by simp only [List.length_cons]; omega) ?_) | ((show VLoad1 _ _ _ _ _); first | refine VLoad1.mk _ (Rd.row 1 rfl (hP1 _ (by show 0 + mulS 0 1 = 0; rw [mulS_eq]))) ?_ | refine VLoad1.mk _ (Rd.row 2 rfl (hP2 _ (by show 0 + mulS 0 1 = 0; rw [mulS_eq]))) ?_) | ((show VCat _ _ _); refine VCat.of (by first | (show _ + 1 ≤ _; omega)) ?_) | ((show VSub _ _ _ _); first | refine VSub.as 0 (tx (Lib.decDigits k ++ [32])).size _ rfl rfl (Nat.zero_le _) (by omega) x1 ?_ | refine VSub.as (tx (Lib.decDigits k ++ [32])).size (tx (bfs 35 p)).size _ rfl rfl (by omega) (by omega) x2 ?_))))
    all_goals ((conv => whnf); refine VRet.mk fun w' m => ?_)
    all_goals exact ⟨([], []), trivial, rfl, m.keeps.below⟩
end Go.Proofs.YtadjhkehfklmnaaGreatDoor
namespace Go.Proofs.YtadjhkehfklmnaaGreatDoor
set_option linter.unusedSimpArgs false
set_option linter.unusedVariables false
open Go.RowKit
set_option maxRecDepth 10000
def rcd (s : List UInt8) (i : Nat) : Rc := ⟨tx (cmd (lin s (ends s i))), tx (rep (lin s (ends s i)))⟩
theorem RcS_suc (k : Nat) (f : Nat → Rc) : RcS (k + 1) f = RcS k f ++ (f k).cells := rowsN_succ _ _
theorem IS_suc (k : Nat) (f : Nat → Int) : IS (k + 1) f = IS k f ++ [.int .i64 (f k)] := rowsN_succ _ _
theorem rd_step {s : List UInt8} {k : Nat} : rdC k (s.drop (ends s k)) ↔ step s k :=
  ⟨fun ⟨a, b, c⟩ => ⟨b, a, c⟩, fun ⟨b, a, c⟩ => ⟨a, b, c⟩⟩
theorem step_at {s : List UInt8} {k : Nat} (h : step s k) : ends s k < s.length := by
  have := step_ends h
  have e : ends s (k + 1) = ends s k + (lin s (ends s k)).length + 1 := rfl
  omega
set_option maxHeartbeats 1600000 in
theorem iOpen_v (s : List UInt8) (w : World) (hl : s.length ≤ 2097152) (ht : PTab w) :
    Calls Tryz.prog 81 #[.string (tx s)] w fun e w' => ∃ v, e = .returned v ∧ RetV (ι := Nat × Nat × Nat × Nat) (fun _ => True) (fun (g, c, h, d) => .tuple #[.slice (some ⟨g, 0, none⟩) (cnt s) c, .slice (some ⟨h, 0, none⟩) (cnt s + 1) d])
      (fun (g, c, h, d) => [.row (.slice (some ⟨g, 0, none⟩) (cnt s) c) 74 2 (cnt s) (RcS (cnt s) (rcd s)), .row (.slice (some ⟨h, 0, none⟩) (cnt s + 1) d) 3 1 (cnt s + 1) (IS (cnt s + 1) fun i => (ends s i : Nat))]) (Base.of w) v w' := by
  have hsz := tx_size s
  have h60 := cnt_le s
  refine calls_of_vc tb_ok (args := [.string (tx s)]) Tryz.func81 rfl ?_
  (repeat' ((conv => whnf); first | refine go ?_ | (refine VSome.mk ?_; intro gQ hA'; first | subst hA' | cases hA' | (dsimp only at hA'; subst hA')) | refine And.intro ?_ ?_ | intro _))
  rename_i g0 h0
  (conv => whnf)
  refine VLoop.mk (ι := Nat × Nat × Nat × Nat × Nat) [2, 3, 4, 5, 6, 7, 8, 9, 12, 13, 14, 15, 16, 17, 18, 19, 20, 21, 22, 23, 24, 25, 26, 27, 28, 29, 30, 31, 32, 33, 34, 35, 36] (fun (k, g, c, h, d) => [(6, .int .i64 (ends s k : Nat)), (4, .slice (some ⟨g, 0, none⟩) k c), (5, .slice (some ⟨h, 0, none⟩) (k + 1) d)])
    (fun (k, g, c, h, d) => [.row (.slice (some ⟨g, 0, none⟩) k c) 74 2 k (RcS k (rcd s)), .row (.slice (some ⟨h, 0, none⟩) (k + 1) d) 3 1 (k + 1) (IS (k + 1) fun i => (ends s i : Nat))]) (fun i => i.1 ≤ cnt s) (fun i => cnt s - i.1) (0, g0, 0, h0, 1) (Nat.zero_le _) ?_ (OwnLe.turn 1 (n := 1) (size := 1) rfl rfl (by decide) [0, 1] (by simp) rfl) (fun i u hk => ?_)
  · ((conv => whnf); repeat (first | exact trivial | refine ⟨rfl, ?_⟩ | refine ⟨congrArg (Value.int .i64) (by first | omega | assumption | exact Eq.symm (by assumption)), ?_⟩))
  obtain ⟨k, g, c, h, d⟩ := i
  replace hk : k ≤ cnt s := hk
  have hle := ends_le hk
  have hdl : (s.drop (ends s k)).length = s.length - ends s k := List.length_drop
  have hn1 := tx_size (s.drop (ends s k))
  have x1 : (tx s).extract (ends s k) (tx s).size = tx (s.drop (ends s k)) := tx_from _ _
  by_cases hs : step s k
  · have hlt := cnt_lt hk hs
    have hR := fun w ht => iRead_yes k (s.drop (ends s k)) w (by omega) (rd_step.2 hs) ht
    have he : ends s (k + 1) = ends s k + (bfs 10 (s.drop (ends s k))).length + 1 := rfl
    have hle2 := ends_le (k := k + 1) hlt
    have eR := RcS_suc k (rcd s)
    have eI : IS (k + 1 + 1) (fun i => (ends s i : Nat)) = IS (k + 1) (fun i => (ends s i : Nat)) ++ [.int .i64 ((ends s k : Nat) + (((bfs 10 (s.drop (ends s k))).length : Nat) + 1))] := by
      rw [IS_suc]
      have e2 : ((ends s (k + 1) : Nat) : Int) = (ends s k : Nat) + (((bfs 10 (s.drop (ends s k))).length : Nat) + 1) := by omega
      rw [e2]
    (repeat' ((conv => whnf); first | refine go ?_ | (refine VSome.mk ?_; intro gQ hA'; first | subst hA' | cases hA' | (dsimp only at hA'; subst hA')) | refine And.intro ?_ ?_ | intro _ | (first | ((show VCall _ _ _ 116 _ _); refine VCall.grow _ (fun w1 m1 => hR w1 (ht.on m1)) ?_) | ((show VSub _ _ _ _); refine VSub.as (ends s k) (tx s).size _ rfl rfl (by omega) (by omega) x1 ?_))))
    (conv => whnf)
    (refine VApp.pushS 0 3 rfl rfl rfl rfl rfl (by omega) (by omega) (fun g' c' => ?_))
    (repeat' ((conv => whnf); first | refine go ?_ | (refine VSome.mk ?_; intro gQ hA'; first | subst hA' | cases hA' | (dsimp only at hA'; subst hA')) | refine And.intro ?_ ?_ | intro _))
    (conv => whnf)
    refine VApp.pushS 1 4 rfl rfl rfl rfl rfl (by omega) (by omega) (fun g'' c'' => ?_)
    (repeat' ((conv => whnf); first | refine go ?_ | (refine VSome.mk ?_; intro gQ hA'; first | subst hA' | cases hA' | (dsimp only at hA'; subst hA')) | refine And.intro ?_ ?_ | intro _))
    (conv => whnf)
    refine VNext.mk (k + 1, g', c', g'', c'') hlt (by show cnt s - (k + 1) < cnt s - k; omega) ?_ (OwnLe.mk [0, 1] (by simp) (by show [_, _] = [Own.row _ _ _ _ (_ ++ _), Own.row _ _ _ _ (_ ++ _)]; rw [eR, eI]; rfl))
    ((conv => whnf); repeat (first | exact trivial | refine ⟨rfl, ?_⟩ | refine ⟨congrArg (Value.int .i64) (by first | omega | assumption | exact Eq.symm (by assumption)), ?_⟩))
  · obtain rfl := cnt_eq hk hs
    have hR := fun w ht => iRead_no (cnt s) (s.drop (ends s (cnt s))) w (by omega) (fun e => hs (rd_step.1 e)) ht
    (repeat' ((conv => whnf); first | refine go ?_ | (refine VSome.mk ?_; intro gQ hA'; first | subst hA' | cases hA' | (dsimp only at hA'; subst hA')) | refine And.intro ?_ ?_ | intro _ | (first | ((show VCall _ _ _ 116 _ _); refine VCall.grow _ (fun w1 m1 => hR w1 (ht.on m1)) ?_) | ((show VSub _ _ _ _); refine VSub.as (ends s (cnt s)) (tx s).size _ rfl rfl (by omega) (by omega) x1 ?_))))
    (conv => whnf)
    exact VRet.sel (g, c, h, d) trivial rfl [0, 1] (by simp) rfl
set_option maxHeartbeats 4000000 in
theorem sOpen_v (s : List UInt8) (w : World) (hl : s.length ≤ 2097152) :
    Calls Tryz.prog 105 #[.string (tx s)] w fun e w' => ∃ v, e = .returned v ∧ RetV (ι := Nat × Nat) (fun _ => True) (fun (g, c) => .tuple #[.slice (some ⟨g, 0, none⟩) (cnt s) c, .int .i64 (ends s (cnt s) : Nat)])
      (fun (g, c) => [.row (.slice (some ⟨g, 0, none⟩) (cnt s) c) 74 2 (cnt s) (RcS (cnt s) (rcd s))]) (Base.of w) v w' := by
  have hsz := tx_size s
  have h60 := cnt_le s
  refine calls_of_vc tb_ok (args := [.string (tx s)]) Tryz.func105 rfl ?_
  (repeat' ((conv => whnf); first | refine go ?_ | (refine VSome.mk ?_; intro gQ hA'; first | subst hA' | cases hA' | (dsimp only at hA'; subst hA')) | refine And.intro ?_ ?_ | intro _))
  rename_i g0
  (conv => whnf)
  refine VLoop.mk (ι := Nat × Nat × Nat) [4, 5, 6, 7, 8, 10, 11, 12, 13, 14, 15, 16, 17, 18, 19, 20, 21, 22, 23, 24, 25, 26, 27, 28, 29, 30, 31, 32, 33, 34, 35, 36, 37, 38, 39, 40, 41, 42, 43, 44, 45, 46, 47, 48, 49] (fun (k, g, c) => [(5, .int .i64 (ends s k : Nat)), (4, .slice (some ⟨g, 0, none⟩) k c)])
    (fun (k, g, c) => [.row (.slice (some ⟨g, 0, none⟩) k c) 74 2 k (RcS k (rcd s))]) (fun i => i.1 ≤ cnt s) (fun i => cnt s - i.1) (0, g0, 0) (Nat.zero_le _) ?_ (OwnLe.mk [0] (by simp) rfl) (fun i u hk => ?_)
  · ((conv => whnf); repeat (first | exact trivial | refine ⟨rfl, ?_⟩ | refine ⟨congrArg (Value.int .i64) (by first | omega | assumption | exact Eq.symm (by assumption)), ?_⟩))
  obtain ⟨k, g, c⟩ := i
  replace hk : k ≤ cnt s := hk
  have hle := ends_le hk
  have hdl : (s.drop (ends s k)).length = s.length - ends s k := List.length_drop
  have hn1 := tx_size (s.drop (ends s k))
  have x1 : (tx s).extract (ends s k) (tx s).size = tx (s.drop (ends s k)) := tx_from _ _
  have hS := fun w => l1Split_v 10 10 (s.drop (ends s k)) w rfl (by omega)
  obtain ⟨t, e1, ht1⟩ := sps_head 10 (s.drop (ends s k))
  rw [e1] at hS
  have hP : ∀ o, o = 0 → (TS (bfs 10 (s.drop (ends s k)) :: t))[o]? = some (.string (tx (bfs 10 (s.drop (ends s k))))) := fun o e => by subst e; rfl
  have hn2 := tx_size (bfs 10 (s.drop (ends s k)))
  have hbl := bfs_le 10 (s.drop (ends s k))
  have hlc : (bfs 10 (s.drop (ends s k)) :: t).length = t.length + 1 := rfl
  by_cases hs : step s k
  · have hlt := cnt_lt hk hs
    have hat := step_at hs
    obtain ⟨hk60, hm, hok⟩ := hs
    have htl : 1 ≤ t.length := by
      cases t with
      | nil => exact absurd hm (ht1.1 rfl)
      | cons a t => simp
    have hR := fun w => sRead_yes k (bfs 10 (s.drop (ends s k))) w (by omega) (by omega) hok
    have he : ends s (k + 1) = ends s k + (bfs 10 (s.drop (ends s k))).length + 1 := rfl
    have hle2 := ends_le (k := k + 1) hlt
    have eR := RcS_suc k (rcd s)
    (repeat' ((conv => whnf); first | refine go ?_ | (refine VSome.mk ?_; intro gQ hA'; first | subst hA' | cases hA' | (dsimp only at hA'; subst hA')) | refine And.intro ?_ ?_ | intro _ | (first | ((show VCall _ _ _ 44 _ _); refine VCall.ret (fun w1 m1 => hS w1) (fun (gP, cP) _ => ?_)) | ((show VCall _ _ _ 137 _ _); refine VCall.grow _ (fun w1 m1 => hR w1) ?_) | ((show VSub _ _ _ _); refine VSub.as (ends s k) (tx s).size _ rfl rfl (by omega) (by omega) x1 ?_) | ((show VIdx _ _ _ _ _ _ _); refine VIdx.at_ rfl 0 rfl (by simp only [List.length_cons]; omega) ?_) | ((show VLoad1 _ _ _ _ _); refine VLoad1.mk _ (Rd.row 1 rfl (hP _ (by show 0 + mulS 0 1 = 0; rw [mulS_eq]))) ?_))))
    (conv => whnf)
    (refine VApp.pushS 0 3 rfl rfl rfl rfl rfl (by omega) (by omega) (fun g' c' => ?_))
    (repeat' ((conv => whnf); first | refine go ?_ | (refine VSome.mk ?_; intro gQ hA'; first | subst hA' | cases hA' | (dsimp only at hA'; subst hA')) | refine And.intro ?_ ?_ | intro _ | (first | ((show VIdx _ _ _ _ _ _ _); refine VIdx.at_ rfl 0 rfl (by simp only [List.length_cons]; omega) ?_) | ((show VLoad1 _ _ _ _ _); refine VLoad1.mk _ (Rd.row 1 rfl (hP _ (by show 0 + mulS 0 1 = 0; rw [mulS_eq]))) ?_))))
    (conv => whnf)
    refine VNext.mk (k + 1, g', c') hlt (by show cnt s - (k + 1) < cnt s - k; omega) ?_ (OwnLe.mk [0] (by simp) (by show [_] = [Own.row _ _ _ _ (_ ++ _)]; rw [eR]; rfl))
    ((conv => whnf); repeat (first | exact trivial | refine ⟨rfl, ?_⟩ | refine ⟨congrArg (Value.int .i64) (by first | omega | assumption | exact Eq.symm (by assumption)), ?_⟩))
  · obtain rfl := cnt_eq hk hs
    by_cases hat : ends s (cnt s) < s.length ∧ cnt s < 60
    · obtain ⟨hat, hlt60⟩ := hat
      by_cases hm : 10 ∈ s.drop (ends s (cnt s))
      · have hno : ¬ okp (cnt s) (bfs 10 (s.drop (ends s (cnt s)))) := fun e => hs ⟨hlt60, hm, e⟩
        have hR := fun w => sRead_no (cnt s) (bfs 10 (s.drop (ends s (cnt s)))) w (by omega) (by omega) hno
        have htl : 1 ≤ t.length := by
          cases t with
          | nil => exact absurd hm (ht1.1 rfl)
          | cons a t => simp
        (repeat' ((conv => whnf); first | refine go ?_ | (refine VSome.mk ?_; intro gQ hA'; first | subst hA' | cases hA' | (dsimp only at hA'; subst hA')) | refine And.intro ?_ ?_ | intro _ | (first | ((show VCall _ _ _ 44 _ _); refine VCall.ret (fun w1 m1 => hS w1) (fun (gP, cP) _ => ?_)) | ((show VCall _ _ _ 137 _ _); refine VCall.some _ _ (fun w1 m1 => hR w1) (fun r hr => ?_)) | ((show VSub _ _ _ _); refine VSub.as (ends s (cnt s)) (tx s).size _ rfl rfl (by omega) (by omega) x1 ?_) | ((show VIdx _ _ _ _ _ _ _); refine VIdx.at_ rfl 0 rfl (by simp only [List.length_cons]; omega) ?_) | ((show VLoad1 _ _ _ _ _); refine VLoad1.mk _ (Rd.row 1 rfl (hP _ (by show 0 + mulS 0 1 = 0; rw [mulS_eq]))) ?_))))
        (conv => whnf)
        exact VRet.sel (g, c) trivial rfl [0] (by simp) rfl
      · have htl : t.length = 0 := by rw [ht1.2 hm]; rfl
        by_cases hok : okp (cnt s) (bfs 10 (s.drop (ends s (cnt s))))
        · have hR := fun w => sRead_yes (cnt s) (bfs 10 (s.drop (ends s (cnt s)))) w (by omega) (by omega) hok
          (repeat' ((conv => whnf); first | refine go ?_ | (refine VSome.mk ?_; intro gQ hA'; first | subst hA' | cases hA' | (dsimp only at hA'; subst hA')) | refine And.intro ?_ ?_ | intro _ | (first | ((show VCall _ _ _ 44 _ _); refine VCall.ret (fun w1 m1 => hS w1) (fun (gP, cP) _ => ?_)) | ((show VCall _ _ _ 137 _ _); refine VCall.grow _ (fun w1 m1 => hR w1) ?_) | ((show VSub _ _ _ _); refine VSub.as (ends s (cnt s)) (tx s).size _ rfl rfl (by omega) (by omega) x1 ?_) | ((show VIdx _ _ _ _ _ _ _); refine VIdx.at_ rfl 0 rfl (by simp only [List.length_cons]; omega) ?_) | ((show VLoad1 _ _ _ _ _); refine VLoad1.mk _ (Rd.row 1 rfl (hP _ (by show 0 + mulS 0 1 = 0; rw [mulS_eq]))) ?_))))
          (conv => whnf)
          exact VRet.sel (g, c) trivial rfl [0] (by simp) rfl
        · have hR := fun w => sRead_no (cnt s) (bfs 10 (s.drop (ends s (cnt s)))) w (by omega) (by omega) hok
          (repeat' ((conv => whnf); first | refine go ?_ | (refine VSome.mk ?_; intro gQ hA'; first | subst hA' | cases hA' | (dsimp only at hA'; subst hA')) | refine And.intro ?_ ?_ | intro _ | (first | ((show VCall _ _ _ 44 _ _); refine VCall.ret (fun w1 m1 => hS w1) (fun (gP, cP) _ => ?_)) | ((show VCall _ _ _ 137 _ _); refine VCall.some _ _ (fun w1 m1 => hR w1) (fun r hr => ?_)) | ((show VSub _ _ _ _); refine VSub.as (ends s (cnt s)) (tx s).size _ rfl rfl (by omega) (by omega) x1 ?_) | ((show VIdx _ _ _ _ _ _ _); refine VIdx.at_ rfl 0 rfl (by simp only [List.length_cons]; omega) ?_) | ((show VLoad1 _ _ _ _ _); refine VLoad1.mk _ (Rd.row 1 rfl (hP _ (by show 0 + mulS 0 1 = 0; rw [mulS_eq]))) ?_))))
          (conv => whnf)
          exact VRet.sel (g, c) trivial rfl [0] (by simp) rfl
    · (repeat' ((conv => whnf); first | refine go ?_ | (refine VSome.mk ?_; intro gQ hA'; first | subst hA' | cases hA' | (dsimp only at hA'; subst hA')) | refine And.intro ?_ ?_ | intro _))
      all_goals (conv => whnf)
      all_goals first
        | exact VRet.sel (g, c) trivial rfl [0] (by simp) rfl
        | (exfalso; omega)
end Go.Proofs.YtadjhkehfklmnaaGreatDoor
namespace Go.Proofs.YtadjhkehfklmnaaGreatDoor
set_option linter.unusedSimpArgs false
set_option linter.unusedVariables false
open Go.RowKit
set_option maxRecDepth 10000
theorem IS_get {n j o : Nat} {f : Nat → Int} (ho : o = j) (h : j < n) : (IS n f)[o]? = some (.int .i64 (f j)) := by
  subst ho
  have := rowsN_get (f := fun i => ([.int .i64 (f i)] : List Value)) (s := 1) (fun _ => rfl) (n := n) (i := o) (j := 0) h (by omega)
  simpa [IS] using this
theorem okL_iff {d p : List UInt8} {c : Int} : okL d p c ↔ (ends (d ++ p) (cnt (d ++ p)) = (d ++ p).length ∧ (cnt (d ++ p) : Int) = c ∧ ∃ j, j ≤ cnt (d ++ p) ∧ ends (d ++ p) j = d.length) := by
  unfold okL
  rw [whole (d := d) (p := p)]
set_option maxHeartbeats 1600000 in
theorem iLog_v (d p : List UInt8) (c : Int) (w : World) (hd : d.length ≤ 1048576) (hp : p.length ≤ 1048576) (ht : PTab w) : Calls Tryz.prog 79 #[.agg #[.string (tx d), .string (tx p), .int .i64 c]] w (Post (.bool (tr (okL d p c))) w) := by
  have hls : (d ++ p).length = d.length + p.length := List.length_append
  have hn := tx_size (d ++ p)
  have hnd := tx_size d
  have h60 := cnt_le (d ++ p)
  refine post_of_vc ?_
  refine calls_of_vc tb_ok (args := [.agg #[.string (tx d), .string (tx p), .int .i64 c]]) Tryz.func79 rfl ?_
  have hR := fun w ht => iOpen_v (d ++ p) w (by omega) ht
  have hI : ∀ o, o = cnt (d ++ p) → (IS (cnt (d ++ p) + 1) fun i => (ends (d ++ p) i : Nat))[o]? = some (.int .i64 (ends (d ++ p) (cnt (d ++ p)) : Nat)) := fun o e => IS_get e (by omega)
  by_cases h1 : ends (d ++ p) (cnt (d ++ p)) = (d ++ p).length ∧ (cnt (d ++ p) : Int) = c
  · obtain ⟨h1, h2⟩ := h1
    (repeat' ((conv => whnf); first | refine go ?_ | (refine VSome.mk ?_; intro gQ hA'; first | subst hA' | cases hA' | (dsimp only at hA'; subst hA')) | refine And.intro ?_ ?_ | intro _ | (first | ((show VCall _ _ _ 81 _ _); refine VCall.ret (fun w1 m1 => hR w1 (ht.on m1)) (fun (g, cc, h, dd) _ => ?_)) | ((show VCat _ _ _); refine VCat.of (by omega) ?_) | ((show VIdx _ _ _ _ _ _ _); refine VIdx.at_ rfl (cnt (d ++ p)) rfl (by omega) ?_) | ((show VLoad1 _ _ _ _ _); refine VLoad1.mk _ (Rd.row 2 rfl (hI _ (by first | (show 0 + mulS (cnt (d ++ p)) 1 = _; rw [mulS_eq]; omega) | (show mulS (cnt (d ++ p)) 1 = _; rw [mulS_eq]; omega)))) ?_))))
    rename_i g0 h89 h90 h91 h92
    (conv => whnf)
    refine VLoop.mk (ι := Nat) [2, 7, 35, 36, 37, 38, 39, 40, 41, 42, 43, 44] (fun k => [(35, .int .i64 k)]) (fun _ => [.blk g0 37 [.string (tx d), .string (tx p), .int .i64 c], .row (.slice (some ⟨h, 0, none⟩) (cnt (d ++ p) + 1) dd) 3 1 (cnt (d ++ p) + 1) (IS (cnt (d ++ p) + 1) fun i => (ends (d ++ p) i : Nat))]) (fun k => k ≤ cnt (d ++ p) + 1 ∧ ∀ j, j < k → ¬ ends (d ++ p) j = d.length) (fun k => cnt (d ++ p) + 1 - k) 0 ⟨Nat.zero_le _, fun j h => absurd h (by omega)⟩ ?_ (OwnLe.mk [0, 2] (by simp) rfl) (fun k u hk => ?_)
    · ((conv => whnf); repeat (first | exact trivial | refine ⟨rfl, ?_⟩ | refine ⟨congrArg (Value.int .i64) (by first | omega | assumption | exact Eq.symm (by assumption)), ?_⟩))
    obtain ⟨hk, hall⟩ := hk
    by_cases hlt : k < cnt (d ++ p) + 1
    · have hJ : ∀ o, o = k → (IS (cnt (d ++ p) + 1) fun i => (ends (d ++ p) i : Nat))[o]? = some (.int .i64 (ends (d ++ p) k : Nat)) := fun o e => IS_get e hlt
      by_cases hf : ends (d ++ p) k = d.length
      · (repeat' ((conv => whnf); first | refine go ?_ | (refine VSome.mk ?_; intro gQ hA'; first | subst hA' | cases hA' | (dsimp only at hA'; subst hA')) | refine And.intro ?_ ?_ | intro _ | (first | ((show VIdx _ _ _ _ _ _ _); refine VIdx.at_ rfl k rfl (by omega) ?_) | ((show VLoad1 _ _ _ _ _); refine VLoad1.mk _ (Rd.row 1 rfl (hJ _ (by first | (show 0 + mulS k 1 = _; rw [mulS_eq]; omega) | (show mulS k 1 = _; rw [mulS_eq]; omega)))) ?_))))
        (conv => whnf); refine VRet.mk fun w' m => ?_
        refine ⟨?_, m.keeps.below⟩
        rw [tr_yes (okL_iff.2 ⟨h1, h2, k, by omega, hf⟩)]
      · (repeat' ((conv => whnf); first | refine go ?_ | (refine VSome.mk ?_; intro gQ hA'; first | subst hA' | cases hA' | (dsimp only at hA'; subst hA')) | refine And.intro ?_ ?_ | intro _ | (first | ((show VIdx _ _ _ _ _ _ _); refine VIdx.at_ rfl k rfl (by omega) ?_) | ((show VLoad1 _ _ _ _ _); refine VLoad1.mk _ (Rd.row 1 rfl (hJ _ (by first | (show 0 + mulS k 1 = _; rw [mulS_eq]; omega) | (show mulS k 1 = _; rw [mulS_eq]; omega)))) ?_))))
        (conv => whnf)
        refine VNext.mk (k + 1) ⟨by omega, upto_succ hall hf⟩ (by omega) ?_ (OwnLe.mk [0, 1] (by simp) rfl)
        ((conv => whnf); repeat (first | exact trivial | refine ⟨rfl, ?_⟩ | refine ⟨congrArg (Value.int .i64) (by first | omega | assumption | exact Eq.symm (by assumption)), ?_⟩))
    · (repeat' ((conv => whnf); first | refine go ?_ | (refine VSome.mk ?_; intro gQ hA'; first | subst hA' | cases hA' | (dsimp only at hA'; subst hA')) | refine And.intro ?_ ?_ | intro _))
      (conv => whnf); refine VRet.mk fun w' m => ?_
      refine ⟨?_, m.keeps.below⟩
      rw [tr_no (fun e => by
        obtain ⟨_, _, j, hj, e2⟩ := okL_iff.1 e
        exact hall j (by omega) e2)]
  · have hno : ¬ okL d p c := fun e => h1 ⟨e.1, e.2.1⟩
    rw [tr_no hno]
    (repeat' ((conv => whnf); first | refine go ?_ | (refine VSome.mk ?_; intro gQ hA'; first | subst hA' | cases hA' | (dsimp only at hA'; subst hA')) | refine And.intro ?_ ?_ | intro _ | (first | ((show VCall _ _ _ 81 _ _); refine VCall.ret (fun w1 m1 => hR w1 (ht.on m1)) (fun (g, cc, h, dd) _ => ?_)) | ((show VCat _ _ _); refine VCat.of (by omega) ?_) | ((show VIdx _ _ _ _ _ _ _); refine VIdx.at_ rfl (cnt (d ++ p)) rfl (by omega) ?_) | ((show VLoad1 _ _ _ _ _); refine VLoad1.mk _ (Rd.row 2 rfl (hI _ (by first | (show 0 + mulS (cnt (d ++ p)) 1 = _; rw [mulS_eq]; omega) | (show mulS (cnt (d ++ p)) 1 = _; rw [mulS_eq]; omega)))) ?_))))
    all_goals (conv => whnf)
    all_goals first
      | (refine VRet.mk fun w' m => ⟨rfl, m.keeps.below⟩; done)
      | (exfalso; omega)
set_option maxHeartbeats 1600000 in
theorem sLog_v (d p : List UInt8) (c : Int) (w : World) (hd : d.length ≤ 1048576) (hp : p.length ≤ 1048576) : Calls Tryz.prog 66 #[.agg #[.string (tx d), .string (tx p), .int .i64 c]] w (Post (.bool (tr (okL d p c))) w) := by
  have hls : (d ++ p).length = d.length + p.length := List.length_append
  have hn := tx_size (d ++ p)
  have hnd := tx_size d
  have hnp := tx_size p
  have h60 := cnt_le (d ++ p)
  have h602 := cnt_le d
  refine post_of_vc ?_
  refine calls_of_vc tb_ok (args := [.agg #[.string (tx d), .string (tx p), .int .i64 c]]) Tryz.func66 rfl ?_
  have hR1 := fun w => sOpen_v (d ++ p) w (by omega)
  have hR2 := fun w => sOpen_v d w (by omega)
  by_cases hk : okL d p c
  · have hll := okL_len hk
    rw [tr_yes hk]
    obtain ⟨h1, h2, h3⟩ := hk
    (repeat' ((conv => whnf); first | refine go ?_ | (refine VSome.mk ?_; intro gQ hA'; first | subst hA' | cases hA' | (dsimp only at hA'; subst hA')) | refine And.intro ?_ ?_ | intro _ | (first | ((show VCall _ _ _ 105 [.string (tx (d ++ p))] _); refine VCall.ret (fun w1 m1 => hR1 w1) (fun (g, cc) _ => ?_)) | ((show VCall _ _ _ 105 _ _); refine VCall.ret (fun w1 m1 => hR2 w1) (fun (g, cc) _ => ?_)) | ((show VCat _ _ _); refine VCat.of (by omega) ?_))))
    all_goals (conv => whnf)
    all_goals first
      | (refine VRet.mk fun w' m => ⟨rfl, m.keeps.below⟩; done)
      | (exfalso; omega)
  · rw [tr_no hk]
    have hk' : ¬ (ends (d ++ p) (cnt (d ++ p)) = (d ++ p).length ∧ (cnt (d ++ p) : Int) = c ∧ ends d (cnt d) = d.length) := hk
    (repeat' ((conv => whnf); first | refine go ?_ | (refine VSome.mk ?_; intro gQ hA'; first | subst hA' | cases hA' | (dsimp only at hA'; subst hA')) | refine And.intro ?_ ?_ | intro _ | (first | ((show VCall _ _ _ 105 [.string (tx (d ++ p))] _); refine VCall.ret (fun w1 m1 => hR1 w1) (fun (g, cc) _ => ?_)) | ((show VCall _ _ _ 105 _ _); refine VCall.ret (fun w1 m1 => hR2 w1) (fun (g, cc) _ => ?_)) | ((show VCat _ _ _); refine VCat.of (by omega) ?_))))
    all_goals (conv => whnf)
    all_goals first
      | (refine VRet.mk fun w' m => ⟨rfl, m.keeps.below⟩; done)
      | (exfalso; omega)
noncomputable def apV (d p : List UInt8) (c : Int) (x r : List UInt8) : List UInt8 × Int × Int := if tr (okL d p c ∧ okR x r) then (if c = 60 then (p, c, 2) else (p ++ (ln c.toNat x r ++ [10]), c + 1, 0)) else (p, c, 1)
theorem apV_no {d p x r : List UInt8} {c : Int} (h : ¬ (okL d p c ∧ okR x r)) : apV d p c x r = (p, c, 1) := by unfold apV; rw [tr_no h]; rfl
theorem apV_full {d p x r : List UInt8} {c : Int} (h : okL d p c ∧ okR x r) (hc : c = 60) : apV d p c x r = (p, c, 2) := by unfold apV; rw [tr_yes h, if_pos rfl, if_pos hc]
theorem apV_yes {d p x r : List UInt8} {k : Nat} (h : okL d p k ∧ okR x r) (hc : ¬ k = 60) : apV d p k x r = (p ++ (ln k x r ++ [10]), (k : Int) + 1, 0) := by unfold apV; rw [tr_yes h, if_pos rfl, if_neg (by omega)]; rfl
set_option maxHeartbeats 1600000 in
theorem iApp_v (d p : List UInt8) (c : Int) (x r : List UInt8) (w : World) (hd : d.length ≤ 1048576) (hp : p.length ≤ 1048576) (hx : x.length ≤ 1048576) (hr : r.length ≤ 1048576) (ht : PTab w) : Calls Tryz.prog 78 #[.agg #[.string (tx d), .string (tx p), .int .i64 c], .agg #[.string (tx x), .string (tx r)]] w (Post (.tuple #[.agg #[.string (tx d), .string (tx (apV d p c x r).1), .int .i64 (apV d p c x r).2.1], .int .i64 (apV d p c x r).2.2]) w) := by
  have hG := fun w => iGood_v x r w (by omega) (by omega)
  have hL := fun w ht => iLog_v d p c w hd hp ht
  refine post_of_vc ?_
  by_cases hk : okL d p c
  · rw [tr_yes hk] at hL
    by_cases hg : okR x r
    · rw [tr_yes hg] at hG
      obtain ⟨n, rfl⟩ : ∃ n : Nat, c = n := ⟨_, hk.2.1.symm⟩
      have h60 := cnt_le (d ++ p)
      have hc := hk.2.1
      by_cases h6 : n = 60
      · rw [apV_full ⟨hk, hg⟩ (by omega)]
        refine calls_of_vc tb_ok (args := [.agg #[.string (tx d), .string (tx p), .int .i64 n], .agg #[.string (tx x), .string (tx r)]]) Tryz.func78 rfl ?_
        (repeat' ((conv => whnf); first | refine go ?_ | (refine VSome.mk ?_; intro gQ hA'; first | subst hA' | cases hA' | (dsimp only at hA'; subst hA')) | refine And.intro ?_ ?_ | intro _ | (first | ((show VCall _ _ _ 79 _ _); refine VCall.grow _ (fun w1 m1 => hL w1 (ht.on m1)) ?_) | ((show VCall _ _ _ 76 _ _); refine VCall.grow _ (fun w1 _ => hG w1) ?_))))
        all_goals ((conv => whnf); refine VRet.mk fun w' m => ?_)
        all_goals exact ⟨rfl, m.keeps.below⟩
      · rw [apV_yes ⟨hk, hg⟩ h6]
        have hll := ln_len (k := n) (by omega) hg
        refine calls_of_vc tb_ok (args := [.agg #[.string (tx d), .string (tx p), .int .i64 n], .agg #[.string (tx x), .string (tx r)]]) Tryz.func78 rfl ?_
        (repeat' ((conv => whnf); first | refine go ?_ | (refine VSome.mk ?_; intro gQ hA'; first | subst hA' | cases hA' | (dsimp only at hA'; subst hA')) | refine And.intro ?_ ?_ | intro _ | (first | ((show VCall _ _ _ 79 _ _); refine VCall.grow _ (fun w1 m1 => hL w1 (ht.on m1)) ?_) | ((show VCall _ _ _ 76 _ _); refine VCall.grow _ (fun w1 _ => hG w1) ?_) | ((show VCall _ _ _ 115 _ _); refine VCall.grow _ (fun w1 m1 => encode_v n x r w1 (by omega) hg (ht.on m1)) ?_) | ((show VDraw _ _ _ _ _ _); refine VDraw.mk (.take 0 (.take 1 (.take 2 (.take 3 (.take 4 (.take 5 (.take 6 (.take 9 (.take 10 (.take 11 (.br 7 (.take 8 (.take 12 (.br 13 (.take 14 .done) .done))) .done))))))))))) [0, 1] (by kernel_rfl) (by kernel_rfl) ?_) | ((show VCat _ _ _); refine VCat.of (by show p.length + (ln n x r ++ [10]).length ≤ _; simp only [List.length_append, List.length_cons, List.length_nil]; omega) ?_))))
        all_goals ((conv => whnf); refine VRet.mk fun w' m => ?_)
        all_goals exact ⟨rfl, m.keeps.below⟩
    · rw [tr_no hg] at hG
      rw [apV_no (fun h => hg h.2)]
      refine calls_of_vc tb_ok (args := [.agg #[.string (tx d), .string (tx p), .int .i64 c], .agg #[.string (tx x), .string (tx r)]]) Tryz.func78 rfl ?_
      (repeat' ((conv => whnf); first | refine go ?_ | (refine VSome.mk ?_; intro gQ hA'; first | subst hA' | cases hA' | (dsimp only at hA'; subst hA')) | refine And.intro ?_ ?_ | intro _ | (first | ((show VCall _ _ _ 79 _ _); refine VCall.grow _ (fun w1 m1 => hL w1 (ht.on m1)) ?_) | ((show VCall _ _ _ 76 _ _); refine VCall.grow _ (fun w1 _ => hG w1) ?_))))
      all_goals ((conv => whnf); refine VRet.mk fun w' m => ?_)
      all_goals exact ⟨rfl, m.keeps.below⟩
  · rw [tr_no hk] at hL
    rw [apV_no (fun h => hk h.1)]
    refine calls_of_vc tb_ok (args := [.agg #[.string (tx d), .string (tx p), .int .i64 c], .agg #[.string (tx x), .string (tx r)]]) Tryz.func78 rfl ?_
    (repeat' ((conv => whnf); first | refine go ?_ | (refine VSome.mk ?_; intro gQ hA'; first | subst hA' | cases hA' | (dsimp only at hA'; subst hA')) | refine And.intro ?_ ?_ | intro _ | (first | ((show VCall _ _ _ 79 _ _); refine VCall.grow _ (fun w1 m1 => hL w1 (ht.on m1)) ?_))))
    all_goals ((conv => whnf); refine VRet.mk fun w' m => ?_)
    all_goals exact ⟨rfl, m.keeps.below⟩
set_option maxHeartbeats 1600000 in
theorem sApp_v (d p : List UInt8) (c : Int) (x r : List UInt8) (w : World) (hd : d.length ≤ 1048576) (hp : p.length ≤ 1048576) (hx : x.length ≤ 1048576) (hr : r.length ≤ 1048576) : Calls Tryz.prog 64 #[.agg #[.string (tx d), .string (tx p), .int .i64 c], .agg #[.string (tx x), .string (tx r)]] w (Post (.tuple #[.agg #[.string (tx d), .string (tx (apV d p c x r).1), .int .i64 (apV d p c x r).2.1], .int .i64 (apV d p c x r).2.2]) w) := by
  have hG := fun w => sGood_v x r w (by omega) (by omega)
  have hL := fun w => sLog_v d p c w hd hp
  refine post_of_vc ?_
  by_cases hk : okL d p c
  · rw [tr_yes hk] at hL
    by_cases hg : okR x r
    · rw [tr_yes hg] at hG
      obtain ⟨n, rfl⟩ : ∃ n : Nat, c = n := ⟨_, hk.2.1.symm⟩
      have h60 := cnt_le (d ++ p)
      have hc := hk.2.1
      by_cases h6 : n = 60
      · rw [apV_full ⟨hk, hg⟩ (by omega)]
        refine calls_of_vc tb_ok (args := [.agg #[.string (tx d), .string (tx p), .int .i64 n], .agg #[.string (tx x), .string (tx r)]]) Tryz.func64 rfl ?_
        (repeat' ((conv => whnf); first | refine go ?_ | (refine VSome.mk ?_; intro gQ hA'; first | subst hA' | cases hA' | (dsimp only at hA'; subst hA')) | refine And.intro ?_ ?_ | intro _ | (first | ((show VCall _ _ _ 66 _ _); refine VCall.grow _ (fun w1 m1 => hL w1) ?_) | ((show VCall _ _ _ 85 _ _); refine VCall.grow _ (fun w1 _ => hG w1) ?_))))
        all_goals ((conv => whnf); refine VRet.mk fun w' m => ?_)
        all_goals exact ⟨rfl, m.keeps.below⟩
      · rw [apV_yes ⟨hk, hg⟩ h6]
        have hll := ln_len (k := n) (by omega) hg
        refine calls_of_vc tb_ok (args := [.agg #[.string (tx d), .string (tx p), .int .i64 n], .agg #[.string (tx x), .string (tx r)]]) Tryz.func64 rfl ?_
        (repeat' ((conv => whnf); first | refine go ?_ | (refine VSome.mk ?_; intro gQ hA'; first | subst hA' | cases hA' | (dsimp only at hA'; subst hA')) | refine And.intro ?_ ?_ | intro _ | (first | ((show VCall _ _ _ 66 _ _); refine VCall.grow _ (fun w1 m1 => hL w1) ?_) | ((show VCall _ _ _ 85 _ _); refine VCall.grow _ (fun w1 _ => hG w1) ?_) | ((show VCall _ _ _ 104 _ _); refine VCall.grow _ (fun w1 m1 => l27Line_v n x r w1 (by omega) hg) ?_) | ((show VDraw _ _ _ _ _ _); refine VDraw.mk (.take 0 (.take 2 (.take 4 (.br 1 (.br 3 (.br 5 (.take 6 (.take 7 (.br 8 .done .done))) .done) .done) (.br 3 (.br 1 (.br 5 (.take 6 (.take 7 (.br 8 .done .done))) .done) (.br 5 (.br 1 (.take 6 (.take 7 (.br 8 .done .done))) .done) .done)) .done))))) [1] (by kernel_rfl) (by kernel_rfl) ?_) | ((show VCat _ _ _); refine VCat.of (by show p.length + (ln n x r ++ [10]).length ≤ _; simp only [List.length_append, List.length_cons, List.length_nil]; omega) ?_))))
        all_goals ((conv => whnf); refine VRet.mk fun w' m => ?_)
        all_goals exact ⟨rfl, m.keeps.below⟩
    · rw [tr_no hg] at hG
      rw [apV_no (fun h => hg h.2)]
      refine calls_of_vc tb_ok (args := [.agg #[.string (tx d), .string (tx p), .int .i64 c], .agg #[.string (tx x), .string (tx r)]]) Tryz.func64 rfl ?_
      (repeat' ((conv => whnf); first | refine go ?_ | (refine VSome.mk ?_; intro gQ hA'; first | subst hA' | cases hA' | (dsimp only at hA'; subst hA')) | refine And.intro ?_ ?_ | intro _ | (first | ((show VCall _ _ _ 66 _ _); refine VCall.grow _ (fun w1 m1 => hL w1) ?_) | ((show VCall _ _ _ 85 _ _); refine VCall.grow _ (fun w1 _ => hG w1) ?_))))
      all_goals ((conv => whnf); refine VRet.mk fun w' m => ?_)
      all_goals exact ⟨rfl, m.keeps.below⟩
  · rw [tr_no hk] at hL
    rw [apV_no (fun h => hk h.1)]
    refine calls_of_vc tb_ok (args := [.agg #[.string (tx d), .string (tx p), .int .i64 c], .agg #[.string (tx x), .string (tx r)]]) Tryz.func64 rfl ?_
    (repeat' ((conv => whnf); first | refine go ?_ | (refine VSome.mk ?_; intro gQ hA'; first | subst hA' | cases hA' | (dsimp only at hA'; subst hA')) | refine And.intro ?_ ?_ | intro _ | (first | ((show VCall _ _ _ 66 _ _); refine VCall.grow _ (fun w1 m1 => hL w1) ?_))))
    all_goals ((conv => whnf); refine VRet.mk fun w' m => ?_)
    all_goals exact ⟨rfl, m.keeps.below⟩
noncomputable def syV (d p : List UInt8) (c : Int) : List UInt8 × Int × Bool := if tr (okL d p c) then (d ++ p, c, true) else ([], 0, false)
theorem syV_yes {d p : List UInt8} {c : Int} (h : okL d p c) : syV d p c = (d ++ p, c, true) := by unfold syV; rw [tr_yes h]; rfl
theorem syV_no {d p : List UInt8} {c : Int} (h : ¬ okL d p c) : syV d p c = ([], 0, false) := by unfold syV; rw [tr_no h]; rfl
set_option maxHeartbeats 800000 in
theorem sSync_v (d p : List UInt8) (c : Int) (w : World) (hd : d.length ≤ 1048576) (hp : p.length ≤ 1048576) : Calls Tryz.prog 169 #[.agg #[.string (tx d), .string (tx p), .int .i64 c]] w (Post (.tuple #[.agg #[.string (tx (syV d p c).1), .string (tx []), .int .i64 (syV d p c).2.1], .bool (syV d p c).2.2]) w) := by
  have hL := fun w => sLog_v d p c w hd hp
  refine post_of_vc ?_
  refine calls_of_vc tb_ok (args := [.agg #[.string (tx d), .string (tx p), .int .i64 c]]) Tryz.func169 rfl ?_
  by_cases hk : okL d p c
  · rw [tr_yes hk] at hL
    rw [syV_yes hk]
    (repeat' ((conv => whnf); first | refine go ?_ | (refine VSome.mk ?_; intro gQ hA'; first | subst hA' | cases hA' | (dsimp only at hA'; subst hA')) | refine And.intro ?_ ?_ | intro _ | (first | ((show VCall _ _ _ 66 _ _); refine VCall.grow _ (fun w1 m1 => hL w1) ?_) | ((show VCat _ _ _); refine VCat.of (by omega) ?_))))
    all_goals ((conv => whnf); refine VRet.mk fun w' m => ?_)
    all_goals exact ⟨rfl, m.keeps.below⟩
  · rw [tr_no hk] at hL
    rw [syV_no hk]
    (repeat' ((conv => whnf); first | refine go ?_ | (refine VSome.mk ?_; intro gQ hA'; first | subst hA' | cases hA' | (dsimp only at hA'; subst hA')) | refine And.intro ?_ ?_ | intro _ | (first | ((show VCall _ _ _ 66 _ _); refine VCall.grow _ (fun w1 m1 => hL w1) ?_))))
    all_goals ((conv => whnf); refine VRet.mk fun w' m => ?_)
    all_goals exact ⟨rfl, m.keeps.below⟩
noncomputable def reV (s : List UInt8) : List UInt8 × Nat × Nat × Bool := if tr (s.length ≤ 30000) then (s.take (ends s (cnt s)), cnt s, ends s (cnt s), true) else ([], 0, 0, false)
theorem reV_yes {s : List UInt8} (h : s.length ≤ 30000) : reV s = (s.take (ends s (cnt s)), cnt s, ends s (cnt s), true) := by unfold reV; rw [tr_yes h]; rfl
theorem reV_no {s : List UInt8} (h : ¬ s.length ≤ 30000) : reV s = ([], 0, 0, false) := by unfold reV; rw [tr_no h]; rfl
set_option maxHeartbeats 800000 in
theorem iRec_v (s : List UInt8) (w : World) (ht : PTab w) : Calls Tryz.prog 31 #[.string (tx s)] w (Post (.tuple #[.agg #[.string (tx (reV s).1), .string (tx []), .int .i64 (reV s).2.1], .int .i64 (reV s).2.2.1, .bool (reV s).2.2.2]) w) := by
  have hn := tx_size s
  have h60 := cnt_le s
  have hle := ends_le (Nat.le_refl (cnt s))
  refine post_of_vc ?_
  refine calls_of_vc tb_ok (args := [.string (tx s)]) Tryz.func31 rfl ?_
  by_cases hk : s.length ≤ 30000
  · rw [reV_yes hk]
    have x1 : (tx s).extract 0 (ends s (cnt s)) = tx (s.take (ends s (cnt s))) := tx_to _ _
    have hI : ∀ o, o = cnt s → (IS (cnt s + 1) fun i => (ends s i : Nat))[o]? = some (.int .i64 (ends s (cnt s) : Nat)) := fun o e => IS_get e (by omega)
    (repeat' ((conv => whnf); first | refine go ?_ | (refine VSome.mk ?_; intro gQ hA'; first | subst hA' | cases hA' | (dsimp only at hA'; subst hA')) | refine And.intro ?_ ?_ | intro _ | (first | ((show VCall _ _ _ 81 _ _); refine VCall.ret (fun w1 m1 => iOpen_v s w1 (by omega) (ht.on m1)) (fun (g, cc, h, dd) _ => ?_)) | ((show VIdx _ _ _ _ _ _ _); refine VIdx.at_ rfl (cnt s) rfl (by omega) ?_) | ((show VLoad1 _ _ _ _ _); refine VLoad1.mk _ (Rd.row 2 rfl (hI _ (by first | (show 0 + mulS (cnt s) 1 = _; rw [mulS_eq]; omega) | (show mulS (cnt s) 1 = _; rw [mulS_eq]; omega)))) ?_) | ((show VSub _ _ _ _); refine VSub.as 0 (ends s (cnt s)) _ rfl rfl (Nat.zero_le _) (by omega) x1 ?_))))
    all_goals ((conv => whnf); refine VRet.mk fun w' m => ?_)
    all_goals exact ⟨rfl, m.keeps.below⟩
  · rw [reV_no hk]
    (repeat' ((conv => whnf); first | refine go ?_ | (refine VSome.mk ?_; intro gQ hA'; first | subst hA' | cases hA' | (dsimp only at hA'; subst hA')) | refine And.intro ?_ ?_ | intro _))
    all_goals ((conv => whnf); refine VRet.mk fun w' m => ?_)
    all_goals exact ⟨rfl, m.keeps.below⟩
noncomputable def lrN (d p : List UInt8) (c : Int) : Nat := if tr (okL d p c) then cnt (d ++ p) else 0
theorem lrN_yes {d p : List UInt8} {c : Int} (h : okL d p c) : lrN d p c = cnt (d ++ p) := by unfold lrN; rw [tr_yes h]; rfl
theorem lrN_no {d p : List UInt8} {c : Int} (h : ¬ okL d p c) : lrN d p c = 0 := by unfold lrN; rw [tr_no h]; rfl
theorem lrN_le (d p : List UInt8) (c : Int) : lrN d p c ≤ 60 := by
  by_cases h : okL d p c
  · rw [lrN_yes h]; exact cnt_le _
  · rw [lrN_no h]; omega
set_option maxHeartbeats 800000 in
theorem iLr_v (d p : List UInt8) (c : Int) (w : World) (hd : d.length ≤ 1048576) (hp : p.length ≤ 1048576) (ht : PTab w) : Calls Tryz.prog 41 #[.agg #[.string (tx d), .string (tx p), .int .i64 c]] w fun e w' => ∃ v, e = .returned v ∧ RetV (ι := Option Addr × Nat) (fun _ => True) (fun (A, cc) => .tuple #[.slice A (lrN d p c) cc, .bool (tr (okL d p c))]) (fun (A, cc) => [.row (.slice A (lrN d p c) cc) 74 2 (lrN d p c) (RcS (lrN d p c) (rcd (d ++ p)))]) (Base.of w) v w' := by
  have hls : (d ++ p).length = d.length + p.length := List.length_append
  have hL := fun w ht => iLog_v d p c w hd hp ht
  have h60 := cnt_le (d ++ p)
  refine calls_of_vc tb_ok (args := [.agg #[.string (tx d), .string (tx p), .int .i64 c]]) Tryz.func41 rfl ?_
  by_cases hk : okL d p c
  · rw [tr_yes hk] at hL ⊢
    rw [lrN_yes hk]
    (repeat' ((conv => whnf); first | refine go ?_ | (refine VSome.mk ?_; intro gQ hA'; first | subst hA' | cases hA' | (dsimp only at hA'; subst hA')) | refine And.intro ?_ ?_ | intro _ | (first | ((show VCall _ _ _ 79 _ _); refine VCall.grow _ (fun w1 m1 => hL w1 (ht.on m1)) ?_) | ((show VCall _ _ _ 81 _ _); refine VCall.ret (fun w1 m1 => iOpen_v (d ++ p) w1 (by omega) (ht.on m1)) (fun (g, cc, h, dd) _ => ?_)) | ((show VCat _ _ _); refine VCat.of (by omega) ?_))))
    (conv => whnf)
    exact VRet.sel (some ⟨g, 0, none⟩, cc) trivial rfl [1] (by simp) rfl
  · rw [tr_no hk] at hL ⊢
    rw [lrN_no hk]
    (repeat' ((conv => whnf); first | refine go ?_ | (refine VSome.mk ?_; intro gQ hA'; first | subst hA' | cases hA' | (dsimp only at hA'; subst hA')) | refine And.intro ?_ ?_ | intro _ | (first | ((show VCall _ _ _ 79 _ _); refine VCall.grow _ (fun w1 m1 => hL w1 (ht.on m1)) ?_))))
    (conv => whnf)
    exact VRet.nilRow (none, 0) trivial rfl rfl
set_option maxHeartbeats 800000 in
theorem sLr_v (d p : List UInt8) (c : Int) (w : World) (hd : d.length ≤ 1048576) (hp : p.length ≤ 1048576) : Calls Tryz.prog 67 #[.agg #[.string (tx d), .string (tx p), .int .i64 c]] w fun e w' => ∃ v, e = .returned v ∧ RetV (ι := Option Addr × Nat) (fun _ => True) (fun (A, cc) => .tuple #[.slice A (lrN d p c) cc, .bool (tr (okL d p c))]) (fun (A, cc) => [.row (.slice A (lrN d p c) cc) 74 2 (lrN d p c) (RcS (lrN d p c) (rcd (d ++ p)))]) (Base.of w) v w' := by
  have hls : (d ++ p).length = d.length + p.length := List.length_append
  have hL := fun w => sLog_v d p c w hd hp
  have h60 := cnt_le (d ++ p)
  refine calls_of_vc tb_ok (args := [.agg #[.string (tx d), .string (tx p), .int .i64 c]]) Tryz.func67 rfl ?_
  by_cases hk : okL d p c
  · rw [tr_yes hk] at hL ⊢
    rw [lrN_yes hk]
    (repeat' ((conv => whnf); first | refine go ?_ | (refine VSome.mk ?_; intro gQ hA'; first | subst hA' | cases hA' | (dsimp only at hA'; subst hA')) | refine And.intro ?_ ?_ | intro _ | (first | ((show VCall _ _ _ 66 _ _); refine VCall.grow _ (fun w1 m1 => hL w1) ?_) | ((show VCall _ _ _ 105 _ _); refine VCall.ret (fun w1 m1 => sOpen_v (d ++ p) w1 (by omega)) (fun (g, cc) _ => ?_)) | ((show VCat _ _ _); refine VCat.of (by omega) ?_))))
    (conv => whnf)
    exact VRet.sel (some ⟨g, 0, none⟩, cc) trivial rfl [1] (by simp) rfl
  · rw [tr_no hk] at hL ⊢
    rw [lrN_no hk]
    (repeat' ((conv => whnf); first | refine go ?_ | (refine VSome.mk ?_; intro gQ hA'; first | subst hA' | cases hA' | (dsimp only at hA'; subst hA')) | refine And.intro ?_ ?_ | intro _ | (first | ((show VCall _ _ _ 66 _ _); refine VCall.grow _ (fun w1 m1 => hL w1) ?_))))
    rename_i g
    (conv => whnf)
    exact VRet.sel (some ⟨g, 0, none⟩, 0) trivial rfl [1] (by simp) rfl
end Go.Proofs.YtadjhkehfklmnaaGreatDoor
