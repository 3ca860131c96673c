/- Layer 14: the stats as they are told. Conditions: none. -/
import Derived.Test.YtkjmelfgopammaaDoorAnF
namespace Go.Proofs.YtkjmelfgopammaaDoor
open Go.Dp
set_option linter.unusedSimpArgs false
set_option linter.unusedVariables false
set_option maxHeartbeats 2000000
set_option maxRecDepth 8000
attribute [local irreducible] Ex.thnK Ex.inK Ret

def stN : List (List UInt8) := [[115, 108, 111, 116, 115, 95, 117, 112], [99, 109, 100, 95, 103, 101, 116], [99, 109, 100, 95, 115, 101, 116], [103, 101, 116, 95, 104, 105, 116, 115]]
def stL (st : List Int) (i : Nat) : List UInt8 := [83, 84, 65, 84, 32] ++ stN.getD i [] ++ [32] ++ num0 (st.getD i 0) ++ [13, 10]
def stB (st : List Int) : Nat → List UInt8
  | 0 => []
  | n + 1 => stB st n ++ stL st n
theorem stN_len (i : Nat) (h : i < 4) : (stN.getD i []).length ≤ 8 := by
  have : i = 0 ∨ i = 1 ∨ i = 2 ∨ i = 3 := by omega
  rcases this with rfl | rfl | rfl | rfl <;> decide
theorem icell_at (st : List Int) {i : Nat} (h : i < st.length) : ((st.map (AV.int .i64)).drop i).take 1 = [.int .i64 (st.getD i 0)] := by
  rw [← List.map_drop, List.drop_eq_getElem_cons h, List.getD_eq_getElem?_getD, List.getElem?_eq_getElem h]
  rfl

theorem stats_ev (s0 s1 s2 s3 : Int) (h0 : s0 < 9223372036854775808) (h1 : s1 < 9223372036854775808) (h2 : s2 < 9223372036854775808) (h3 : s3 < 9223372036854775808) (H : Heap) (hT : Tab H) (Q : AV → Heap → Prop)
    (hQ : ∀ H', H'.Ok → HLe H H' → Q (.str (stB [s0, s1, s2, s3] 4 ++ [69, 78, 68] ++ [13, 10])) H') : Eo lib n_answer_stats [.agg [.int .i64 s0, .int .i64 s1, .int .i64 s2, .int .i64 s3]] H Q := by
  refine Eo.ok fun hOk => ?_
  refine Eo.code at_answer_stats rfl ?_
  have hle1 := HLe.new (hOk _ (Nat.le_refl _)) (.cells [.int .i64 s0, .int .i64 s1, .int .i64 s2, .int .i64 s3] 1)
  have hO1 := hOk.new (.cells [.int .i64 s0, .int .i64 s1, .int .i64 s2, .int .i64 s3] 1)
  have hbx : nBox [.int .i64 s0, .int .i64 s1, .int .i64 s2, .int .i64 s3] = some (.cells [.int .i64 s0, .int .i64 s1, .int .i64 s2, .int .i64 s3] 1, ptrTo) := rfl
  repeat (first | ((first | apply Xk.sAny | apply Xk.tAny); (case hok => rfl); (case h => intro C hC; simp (disch := omega) only [w1, ↓reduceIte, Nat.reduceEqDiff, Nat.reduceLeDiff, Nat.reduceAdd, Nat.reduceSub, hbx]; with_reducible exact hC); refine gc ?_) | refine gm ?_)
  have hle2 := hle1.trans (HLe.new (hO1 _ (Nat.le_refl _)) (.cells (stN.map AV.str) 1))
  have hO2 := hO1.new (.cells (stN.map AV.str) 1)
  have hg1 := Heap.get_new2' H (.cells [.int .i64 s0, .int .i64 s1, .int .i64 s2, .int .i64 s3] 1) (.cells (stN.map AV.str) 1)
  have hg2 := Heap.get_new2 H (.cells [.int .i64 s0, .int .i64 s1, .int .i64 s2, .int .i64 s3] 1) (.cells (stN.map AV.str) 1)
  have hsz : ∀ i, i < 4 → ([s0, s1, s2, s3].getD i 0) < 9223372036854775808 := by
    intro i hi
    have : i = 0 ∨ i = 1 ∨ i = 2 ∨ i = 3 := by omega
    rcases this with rfl | rfl | rfl | rfl
    · exact h0
    · exact h1
    · exact h2
    · exact h3
  have hst : ∀ n, n ≤ 4 → (stB [s0, s1, s2, s3] n).length ≤ n * 60 := by
    intro n
    induction n with
    | zero => intro _; exact Nat.le_refl _
    | succ n ih =>
      intro hn
      have a1 := ih (by omega)
      have a2 := stN_len n (by omega)
      have a3 := num0_len (hsz n (by omega))
      show (stB [s0, s1, s2, s3] n ++ stL [s0, s1, s2, s3] n).length ≤ _
      unfold stL
      simp only [List.length_append, List.length_cons, List.length_nil]
      omega
  generalize hH2 : (H.new (.cells [.int .i64 s0, .int .i64 s1, .int .i64 s2, .int .i64 s3] 1)).new (.cells (stN.map AV.str) 1) = H2 at hle2 hO2 hg1 hg2
  have hH2' : (H.new (.cells [.int .i64 s0, .int .i64 s1, .int .i64 s2, .int .i64 s3] 1)).new (.cells [.str [115, 108, 111, 116, 115, 95, 117, 112], .str [99, 109, 100, 95, 103, 101, 116], .str [99, 109, 100, 95, 115, 101, 116], .str [103, 101, 116, 95, 104, 105, 116, 115]] 1) = H2 := hH2
  rw [hH2']
  clear hH2 hH2' hle1 hO1 hbx
  generalize H.next + 1 = nb2 at hg2 ⊢
  generalize H.next = nb1 at hg1 ⊢
  have hst4 : (stN.map AV.str).length = 4 := rfl
  refine Xk.iter [1, 3, 6, 7, 8] (fun m k G => ∃ i, m = 4 - i ∧ i ≤ 4 ∧ k = [(1, .ptr nb1 0), (3, .str (stB [s0, s1, s2, s3] i)), (6, .sl nb2 0 4 1), (7, .int .i64 (.ofNat 4)), (8, .int .i64 (.ofNat i))] ∧ G.Ok ∧ HLe H2 G) rfl
    ⟨_, 0, rfl, Nat.zero_le _, rfl, hO2, HLe.refl _⟩ ?_
  rintro m k G ⟨i, rfl, hi, rfl, hOG, hleG⟩
  unfold l0_answer_stats
  have hsi := hst i hi
  by_cases c : i < 4
  · have c1 : i + 1 ≤ 4 := c
    have k1 := icell_at [s0, s1, s2, s3] (i := i) c
    have k2 := cell_at stN (i := i) c
    have k1' : (List.drop i [AV.int .i64 s0, AV.int .i64 s1, AV.int .i64 s2, AV.int .i64 s3]).take 1 = [.int .i64 ([s0, s1, s2, s3].getD i 0)] := k1
    have a2 := stN_len i c
    have a3 := num0_len (hsz i c)
    have ga := hleG _ _ hg1
    have gb := hleG _ _ hg2
    generalize hz : [s0, s1, s2, s3].getD i 0 = z at *
    generalize hw : stN.getD i [] = nm at *
    have n1 : ([83, 84, 65, 84, 32] : List UInt8).length + nm.length ≤ 4611686018427387904 := by simp; omega
    have n2 : (83 :: 84 :: 65 :: 84 :: 32 :: nm).length + ([32] : List UInt8).length ≤ 4611686018427387904 := by simp; omega
    have n3 : (83 :: 84 :: 65 :: 84 :: 32 :: (nm ++ [32])).length + (num0 z).length ≤ 4611686018427387904 := by simp; omega
    have n4 : (83 :: 84 :: 65 :: 84 :: 32 :: (nm ++ [32] ++ num0 z)).length + ([13, 10] : List UInt8).length ≤ 4611686018427387904 := by simp; omega
    have n5 : (stB [s0, s1, s2, s3] i).length + (83 :: 84 :: 65 :: 84 :: 32 :: (nm ++ [32] ++ num0 z ++ [13, 10])).length ≤ 4611686018427387904 := by simp; omega
    have e5 : stB [s0, s1, s2, s3] (i + 1) = stB [s0, s1, s2, s3] i ++ (83 :: 84 :: 65 :: 84 :: 32 :: (nm ++ [32] ++ num0 z ++ [13, 10])) := by
      show stB _ i ++ stL _ i = _
      unfold stL
      rw [hz, hw]
      rfl
    have hzb : z < 9223372036854775808 := hz ▸ hsz i c
    repeat (first | ((first | apply Xk.sAny | apply Xk.tAny); (case hok => rfl); (case h => intro C hC; simp (disch := omega) only [w1, ↓reduceIte, Nat.reduceEqDiff, Nat.reduceLeDiff, Nat.reduceAdd, Nat.reduceSub, c, c1, ga, gb, k1', k2, hst4, Nat.mul_one, Nat.zero_add, n1, n2]; with_reducible exact hC); refine gc ?_) | refine gm ?_)
    repeat (first | ((first | apply Xk.sAny | apply Xk.tAny); (case hok => rfl); (case h => intro C hC; simp (disch := omega) only [w1, ↓reduceIte, Nat.reduceEqDiff, Nat.reduceLeDiff, Nat.reduceAdd, Nat.reduceSub, c, c1, ga, gb, k1', k2, hst4, Nat.mul_one, Nat.zero_add, n1, n2, rIaarr]; with_reducible exact hC); refine gc ?_) | refine gm ?_)
    refine number_ev z hzb _ ((hT.mono hle2).mono hleG) _ fun G1 hO1 hle3 => ?_
    repeat (first | ((first | apply Xk.sAny | apply Xk.tAny); (case hok => rfl); (case h => intro C hC; simp (disch := omega) only [w1, ↓reduceIte, Nat.reduceEqDiff, Nat.reduceLeDiff, Nat.reduceAdd, Nat.reduceSub, n3, n4, n5]; with_reducible exact hC); refine gc ?_) | refine gm ?_)
    exact ⟨rfl, _, by omega, i + 1, rfl, by omega, by rw [e5]; rfl, hO1, hleG.trans hle3⟩
  · repeat (first | ((first | apply Xk.sAny | apply Xk.tAny); (case hok => rfl); (case h => intro C hC; simp (disch := omega) only [w1, ↓reduceIte, Nat.reduceEqDiff, Nat.reduceLeDiff, Nat.reduceAdd, Nat.reduceSub, c]; with_reducible exact hC); refine gc ?_) | refine gm ?_)
    obtain rfl : i = 4 := by omega
    have n1 : (stB [s0, s1, s2, s3] 4).length + ([69, 78, 68] : List UInt8).length ≤ 4611686018427387904 := by simp; omega
    have n2 : (stB [s0, s1, s2, s3] 4 ++ [69, 78, 68]).length + ([13, 10] : List UInt8).length ≤ 4611686018427387904 := by simp; omega
    repeat (first | ((first | apply Xk.sAny | apply Xk.tAny); (case hok => rfl); (case h => intro C hC; simp (disch := omega) only [w1, ↓reduceIte, Nat.reduceEqDiff, Nat.reduceLeDiff, Nat.reduceAdd, Nat.reduceSub, n1, n2]; with_reducible exact hC); refine gc ?_) | refine gm ?_)
    exact hQ _ hOG (hle2.trans hleG)
end Go.Proofs.YtkjmelfgopammaaDoor
