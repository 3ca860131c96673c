/- ClusterIgnores over the clean machine. Conditions: none. -/
import Derived.Test.YtobnlhfgebfebaaGreatDoorIgR1
import Derived.Test.YtobnlhfgebfebaaGreatDoorIgR2
import Derived.Test.YtobnlhfgebfebaaGreatDoorIgR3
import Derived.Test.YtobnlhfgebfebaaGreatDoorIgR4
import Derived.Test.YtobnlhfgebfebaaGreatDoorIgL
namespace Go.Proofs.YtobnlhfgebfebaaGreatDoor
open Go.Dp
set_option linter.unusedSimpArgs false
set_option linter.unusedVariables false
set_option maxHeartbeats 400000
set_option maxRecDepth 8000
attribute [local irreducible] Ex.thnK Ex.inK Ret

theorem four {n : Nat} (h : n ≤ 3) : n = 0 ∨ n = 1 ∨ n = 2 ∨ n = 3 := by omega
theorem ig_1 (M x : Nat) (hM : M ≤ 3) (hx : x ≤ 3) (k m d s p z : Int) (av : AV) (n : Nat) (t : Tr AV) (dl pg : Nat) : IgCs 1 M x k m d s p z av n t dl pg := by
  rcases four hM with rfl | rfl | rfl | rfl <;> rcases four hx with rfl | rfl | rfl | rfl
  · exact ig_1_0_0 k m d s p z av n t dl pg
  · exact ig_1_0_1 k m d s p z av n t dl pg
  · exact ig_1_0_2 k m d s p z av n t dl pg
  · exact ig_1_0_3 k m d s p z av n t dl pg
  · exact ig_1_1_0 k m d s p z av n t dl pg
  · exact ig_1_1_1 k m d s p z av n t dl pg
  · exact ig_1_1_2 k m d s p z av n t dl pg
  · exact ig_1_1_3 k m d s p z av n t dl pg
  · exact ig_1_2_0 k m d s p z av n t dl pg
  · exact ig_1_2_1 k m d s p z av n t dl pg
  · exact ig_1_2_2 k m d s p z av n t dl pg
  · exact ig_1_2_3 k m d s p z av n t dl pg
  · exact ig_1_3_0 k m d s p z av n t dl pg
  · exact ig_1_3_1 k m d s p z av n t dl pg
  · exact ig_1_3_2 k m d s p z av n t dl pg
  · exact ig_1_3_3 k m d s p z av n t dl pg
theorem ig_2 (M x : Nat) (hM : M ≤ 3) (hx : x ≤ 3) (k m d s p z : Int) (av : AV) (n : Nat) (t : Tr AV) (dl pg : Nat) : IgCs 2 M x k m d s p z av n t dl pg := by
  rcases four hM with rfl | rfl | rfl | rfl <;> rcases four hx with rfl | rfl | rfl | rfl
  · exact ig_2_0_0 k m d s p z av n t dl pg
  · exact ig_2_0_1 k m d s p z av n t dl pg
  · exact ig_2_0_2 k m d s p z av n t dl pg
  · exact ig_2_0_3 k m d s p z av n t dl pg
  · exact ig_2_1_0 k m d s p z av n t dl pg
  · exact ig_2_1_1 k m d s p z av n t dl pg
  · exact ig_2_1_2 k m d s p z av n t dl pg
  · exact ig_2_1_3 k m d s p z av n t dl pg
  · exact ig_2_2_0 k m d s p z av n t dl pg
  · exact ig_2_2_1 k m d s p z av n t dl pg
  · exact ig_2_2_2 k m d s p z av n t dl pg
  · exact ig_2_2_3 k m d s p z av n t dl pg
  · exact ig_2_3_0 k m d s p z av n t dl pg
  · exact ig_2_3_1 k m d s p z av n t dl pg
  · exact ig_2_3_2 k m d s p z av n t dl pg
  · exact ig_2_3_3 k m d s p z av n t dl pg
theorem ig_3 (M x : Nat) (hM : M ≤ 3) (hx : x ≤ 3) (k m d s p z : Int) (av : AV) (n : Nat) (t : Tr AV) (dl pg : Nat) : IgCs 3 M x k m d s p z av n t dl pg := by
  rcases four hM with rfl | rfl | rfl | rfl <;> rcases four hx with rfl | rfl | rfl | rfl
  · exact ig_3_0_0 k m d s p z av n t dl pg
  · exact ig_3_0_1 k m d s p z av n t dl pg
  · exact ig_3_0_2 k m d s p z av n t dl pg
  · exact ig_3_0_3 k m d s p z av n t dl pg
  · exact ig_3_1_0 k m d s p z av n t dl pg
  · exact ig_3_1_1 k m d s p z av n t dl pg
  · exact ig_3_1_2 k m d s p z av n t dl pg
  · exact ig_3_1_3 k m d s p z av n t dl pg
  · exact ig_3_2_0 k m d s p z av n t dl pg
  · exact ig_3_2_1 k m d s p z av n t dl pg
  · exact ig_3_2_2 k m d s p z av n t dl pg
  · exact ig_3_2_3 k m d s p z av n t dl pg
  · exact ig_3_3_0 k m d s p z av n t dl pg
  · exact ig_3_3_1 k m d s p z av n t dl pg
  · exact ig_3_3_2 k m d s p z av n t dl pg
  · exact ig_3_3_3 k m d s p z av n t dl pg
theorem ig_4 (M x : Nat) (hM : M ≤ 3) (hx : x ≤ 3) (k m d s p z : Int) (av : AV) (n : Nat) (t : Tr AV) (dl pg : Nat) : IgCs 4 M x k m d s p z av n t dl pg := by
  rcases four hM with rfl | rfl | rfl | rfl <;> rcases four hx with rfl | rfl | rfl | rfl
  · exact ig_4_0_0 k m d s p z av n t dl pg
  · exact ig_4_0_1 k m d s p z av n t dl pg
  · exact ig_4_0_2 k m d s p z av n t dl pg
  · exact ig_4_0_3 k m d s p z av n t dl pg
  · exact ig_4_1_0 k m d s p z av n t dl pg
  · exact ig_4_1_1 k m d s p z av n t dl pg
  · exact ig_4_1_2 k m d s p z av n t dl pg
  · exact ig_4_1_3 k m d s p z av n t dl pg
  · exact ig_4_2_0 k m d s p z av n t dl pg
  · exact ig_4_2_1 k m d s p z av n t dl pg
  · exact ig_4_2_2 k m d s p z av n t dl pg
  · exact ig_4_2_3 k m d s p z av n t dl pg
  · exact ig_4_3_0 k m d s p z av n t dl pg
  · exact ig_4_3_1 k m d s p z av n t dl pg
  · exact ig_4_3_2 k m d s p z av n t dl pg
  · exact ig_4_3_3 k m d s p z av n t dl pg
theorem ig_all (K M x : Nat) (hK : 1 ≤ K) (hK4 : K ≤ 4) (hM : M ≤ 3) (hx : x ≤ 3) (k m d s p z : Int) (av : AV) (n : Nat) (t : Tr AV) (dl pg : Nat) : IgCs K M x k m d s p z av n t dl pg := by
  have : K = 1 ∨ K = 2 ∨ K = 3 ∨ K = 4 := by omega
  rcases this with rfl | rfl | rfl | rfl
  · exact ig_1 M x hM hx k m d s p z av n t dl pg
  · exact ig_2 M x hM hx k m d s p z av n t dl pg
  · exact ig_3 M x hM hx k m d s p z av n t dl pg
  · exact ig_4 M x hM hx k m d s p z av n t dl pg

theorem vT_of (x lo hi : Nat) (h1 : lo ≤ x) (h2 : x ≤ hi) : vT x lo hi := Fs.Pure.of fun H Q hQ => by
  show Eo lib n_task_within [.int .i64 (.ofNat x), .int .i64 (.ofNat lo), .int .i64 (.ofNat hi)] H Q
  refine Eo.code at_task_within rfl ?_
  repeat (first | ((first | apply Xk.sAny | apply Xk.tAny); (case hok => rfl); (case h => intro C hC; simp (disch := omega) only [w1, ↓reduceIte, Nat.reduceEqDiff, Nat.reduceLeDiff, Nat.reduceAdd, Nat.reduceSub, h1, h2]; with_reducible exact hC); refine gc ?_) | refine gm ?_)
  repeat (first | ((first | apply Xk.sAny | apply Xk.tAny); (case hok => rfl); (case h => intro C hC; simp (disch := omega) only [w1, ↓reduceIte, Nat.reduceEqDiff, Nat.reduceLeDiff, Nat.reduceAdd, Nat.reduceSub, h1, h2]; with_reducible exact hC); refine gc ?_) | refine gm ?_)
  exact hQ
theorem slT_all {pg : Nat} (h1 : 16 ≤ pg) (h2 : pg ≤ 48) : ∀ S : Nat, ∀ y ∈ slT pg S, y
  | 0, y, h => by cases h
  | S + 1, y, h => by
    have a1 : pT pg := by
      show bin .lss (.int .i64 (.ofNat pg)) (.int .i64 (.ofNat 1)) = _
      rw [lssi, decide_eq_false (by rw [nat_lt]; omega)]
    have a2 : qT pg := by
      show bin .gtr (.int .i64 (.ofNat pg)) (.int .i64 (.ofNat 64)) = _
      rw [gtri, decide_eq_false (by rw [nat_lt]; omega)]
    rcases List.mem_cons.1 h with rfl | h
    · exact a1
    · rcases List.mem_cons.1 h with rfl | h
      · exact a2
      · exact slT_all h1 h2 S y h
theorem sameI (x : Int) : sI x := by
  show sameV (.int .i64 x) (.int .i64 x) = true
  simp [sameV, sameAV, kbeq_eq, ibeq_eq]
theorem sameC (a b c d e : Nat) : sT a b c d e := by
  show sameV (.agg [nI a, nI b, nI c, nI d, nI e, nI 4096]) (.agg [nI a, nI b, nI c, nI d, nI e, nI 4096]) = true
  simp [sameV, sameCells, sameAV, nI, kbeq_eq, ibeq_eq]

theorem Ignores_law (k m d s p z : Int) (l : List Sp) (hl : SpOk l) (X : List AV) (av : AV) (hs : Sl (noHeap.new (.cells X 0)) 3 av (sps l)) :
    Eo lib n_depotlaw24_ClusterIgnores [.agg [.int .i64 k, .int .i64 m, .int .i64 d, .int .i64 s, .int .i64 p, .int .i64 z], av] (noHeap.new (.cells X 0)) fun v _ => v = .bool true := by
  obtain ⟨K, K1, K2, wK⟩ := Within_ex k 1 4 (by omega) (by omega)
  obtain ⟨M, _, M2, wM⟩ := Within_ex m 0 3 (by omega) (by omega)
  obtain ⟨dl, _, d2, wd⟩ := Within_ex d 0 M (by omega) (by omega)
  obtain ⟨x, _, x2, wx⟩ := Within_ex s 0 3 (by omega) (by omega)
  obtain ⟨pg, p1, p2, wp⟩ := Within_ex p 16 48 (by omega) (by omega)
  obtain ⟨t, ht⟩ := cr_ex X
  have hrun : igQ (igM k m d s p z av X.length t (igT m s p K M x dl pg)) X.length t av (K + M + x) = _ := ig_all K M x K1 K2 M2 x2 k m d s p z av X.length t dl pg
  have hP : conj True (igL k m d s p K M x dl pg) ∧ (some (Fs.FB.c X.length t 0) = some (Fs.FB.c X.length t 0) ∧ av = av) := by
    refine ⟨conj_all trivial fun y hy => ?_, rfl, rfl⟩
    rcases List.mem_append.1 hy with hy | hy
    · simp only [List.mem_cons, List.not_mem_nil, or_false] at hy
      rcases hy with rfl | rfl | rfl | rfl | rfl | rfl | rfl | rfl | rfl | rfl | rfl | rfl | rfl | rfl | rfl | rfl | rfl | rfl | rfl | rfl
      · rfl
      · exact wK
      · exact sameI m
      · exact wM
      · rfl
      · rfl
      · exact wd
      · exact sameI p
      · exact sameI s
      · exact wx
      · exact sameI p
      · exact wp
      · exact vT_of dl 0 M (Nat.zero_le _) d2
      · exact vT_of (K + M + x) (K + M) 12 (by omega) (by omega)
      · exact vT_of pg 1 64 (by omega) (by omega)
      · exact vT_of 4096 64 65536 (by omega) (by omega)
      · rfl
      · exact sameC K M dl (K + M + x) pg
      · rfl
      · exact sameC K M dl (K + M + x) pg
    · exact slT_all p1 p2 _ y hy
  have hq : igQ (igM k m d s p z av X.length t (igT m s p K M x dl pg)) X.length t av (K + M + x) := by rw [hrun]; exact hP
  have hH := ig_hr ht (igT m s p K M x dl pg)
  have hS : 0 < K + M + x ∧ K + M + x < 1000 := by omega
  generalize K + M + x = S at hq hS
  unfold igQ at hq
  split at hq
  · rename_i fr Z hm
    rw [Fs.bif'_eq] at hq
    cases hc : chkI fr Z.c S with
    | false => rw [hc] at hq; exact hq.elim
    | true =>
      rw [hc] at hq
      obtain ⟨hok, hX, h1⟩ := hq
      simp only [chkI, Bool.and_eq_true] at hc
      obtain ⟨c1, c2, c3, c4, c5, c6⟩ := hc
      refine Fs.run_mid (tr := tree0) (orc := igO) (told := fun _ => false) (td := igD) ig_lib Fs.orcOf_flag (Fs.orcOf_ok rfl) (n := 200) (k := 5) (m := 96) at_depotlaw24_ClusterIgnores rfl hm hok hH ?_ c4 ?_ [1, 5, 6, 8] fun H' hO' hR' => ?_
      · rw [nble, decide_eq_true_eq] at c6
        exact c6
      · cases e : Fs.gt fr (96 + 1) with
        | none => rfl
        | some v => rw [show (97 : Nat) = 96 + 1 from rfl, e] at c5; cases c5
      · obtain ⟨pp, np, fb, wb, e6, e8, hC, _⟩ := chkC_ok hR' c1
        obtain ⟨_, R', l1, w1, l2, w2, r1, r2, r3, r4, r5⟩ : ∃ _ : True, ∃ (R' l1 : List AV) (w1 : Nat) (l2 : List AV) (w2 : Nat), R'.length = S * 9 ∧ H'.get fb = some (.cells l1 w1) ∧ H'.get wb = some (.cells l2 w2) ∧ (∀ j, j < S * 9 → l1[j]? = R'[j]?) ∧ (∀ j, j < S * 9 → l2[j]? = R'[j]?) := by
          obtain ⟨pp', np', fb', wb', f6, f8, hC', R', l1, w1, l2, w2, q⟩ := chkC_ok hR' c1
          rw [e6] at f6
          rw [e8] at f8
          injection f6 with f6 _
          injection f8 with f8 _ _ _
          subst f6 f8
          have : np' = np := by
            obtain ⟨⟨la, wa, g1, g2, _⟩, _⟩ := hC
            obtain ⟨⟨lb, wb, g3, g4, _⟩, _⟩ := hC'
            rw [g1] at g3; cases g3; rw [g2] at g4; cases g4; rfl
          subst this
          have : fb' = fb := by
            obtain ⟨_, wa, g1⟩ := hC
            obtain ⟨_, wb, g3⟩ := hC'
            rw [g1] at g3; cases g3; rfl
          subst this
          exact ⟨trivial, R', l1, w1, l2, w2, q⟩
        rw [e8] at c2
        obtain ⟨R, l2', w2', s1, s2, s3, s4, s5⟩ := chkR_ok hR' c2
        obtain ⟨ob, ol, ou, e5, o1, o2, o3⟩ := chkO_ok hR' c3
        have hRR : R' = R := by
          rw [r3] at s2
          cases s2
          refine List.ext_getElem? fun j => ?_
          by_cases hj : j < S * 9
          · rw [← r5 j hj, s3 j hj]
          · rw [List.getElem?_eq_none (by omega), List.getElem?_eq_none (by omega)]
        subst hRR
        have hfr : Fs.knT fr [1, 5, 6, 8] = [(1, av), (5, .ptr ob 0), (6, .ptr pp 0), (8, .sl wb 0 S 9)] := by
          show [(1, Fs.look fr 1), (5, Fs.look fr 5), (6, Fs.look fr 6), (8, Fs.look fr 8)] = _
          rw [h1, e5, e6, e8]
        rw [hfr]
        have hX' : H'.get 0 = some (.cells X 0) := by
          obtain ⟨l', a1, a2, a3⟩ := hR'.c hX
          have : l' = X := by
            refine List.ext_getElem? fun j => ?_
            rw [← a3, ht]
          rw [a1, this]
        have hle : HLe (noHeap.new (.cells X 0)) H' := by
          intro b y hb
          by_cases e : b = 0
          · subst e
            have : (noHeap.new (.cells X 0)).get 0 = some (.cells X 0) := rfl
            rw [this] at hb; cases hb; exact hX'
          · rw [Heap.get_new_ne _ _ e] at hb; cases hb
        exact Ign_loop pp np fb wb S ob hS.1 hS.2 av l hl H' hO' hC (hs.mono hle) R' l1 l2 ol w1 w2 ou r1 s4 r2 r3 r4 r5 s5 o1 o2 o3
  · exact hq.elim
end Go.Proofs.YtobnlhfgebfebaaGreatDoor
