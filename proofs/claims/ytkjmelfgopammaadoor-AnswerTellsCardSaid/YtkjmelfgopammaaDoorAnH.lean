/- Layer 14: plain answers. Conditions: none. -/
import Derived.Test.YtkjmelfgopammaaDoorAnG
namespace Go.Proofs.YtkjmelfgopammaaDoor
open Go.Dp
set_option linter.unusedSimpArgs false
set_option linter.unusedVariables false
set_option maxHeartbeats 2000000
set_option maxRecDepth 8000
attribute [local irreducible] Ex.thnK Ex.inK Ret

/-- a plain line, by kinds -/
def plainB (k : Int) : List UInt8 :=
  if k = .ofNat 2 then [83, 84, 79, 82, 69, 68] else
  if k = .ofNat 3 then [78, 79, 84, 95, 83, 84, 79, 82, 69, 68] else
  if k = .ofNat 4 then [69, 88, 73, 83, 84, 83] else
  if k = .ofNat 5 then [78, 79, 84, 95, 70, 79, 85, 78, 68] else
  if k = .ofNat 6 then [68, 69, 76, 69, 84, 69, 68] else
  if k = .ofNat 7 then [84, 79, 85, 67, 72, 69, 68] else
  if k = .ofNat 9 then [79, 75] else
  if k = .ofNat 12 then [69, 82, 82, 79, 82] else
  if k = .ofNat 10 then [86, 69, 82, 83, 73, 79, 78, 32, 100, 101, 112, 111, 116] else
  []

theorem plain_ev (k : Int) (H : Heap) (Q : AV → Heap → Prop) (hQ : Q (.str (plainB k)) H) : Eo lib n_answer_plain [.int .i64 k] H Q := by
  refine Eo.code at_answer_plain rfl ?_
  by_cases h2 : k = .ofNat 2
  · subst h2
    repeat (first | ((first | apply Xk.sAny | apply Xk.tAny); (case hok => rfl); (case h => intro C hC; simp (disch := omega) only [w1, ↓reduceIte, Nat.reduceEqDiff, Nat.reduceLeDiff, Nat.reduceAdd, Nat.reduceSub, Nat.reduceEqDiff]; with_reducible exact hC); refine gc ?_) | refine gm ?_)
    exact hQ
  by_cases h3 : k = .ofNat 3
  · subst h3
    repeat (first | ((first | apply Xk.sAny | apply Xk.tAny); (case hok => rfl); (case h => intro C hC; simp (disch := omega) only [w1, ↓reduceIte, Nat.reduceEqDiff, Nat.reduceLeDiff, Nat.reduceAdd, Nat.reduceSub, Nat.reduceEqDiff]; with_reducible exact hC); refine gc ?_) | refine gm ?_)
    exact hQ
  by_cases h4 : k = .ofNat 4
  · subst h4
    repeat (first | ((first | apply Xk.sAny | apply Xk.tAny); (case hok => rfl); (case h => intro C hC; simp (disch := omega) only [w1, ↓reduceIte, Nat.reduceEqDiff, Nat.reduceLeDiff, Nat.reduceAdd, Nat.reduceSub, Nat.reduceEqDiff]; with_reducible exact hC); refine gc ?_) | refine gm ?_)
    exact hQ
  by_cases h5 : k = .ofNat 5
  · subst h5
    repeat (first | ((first | apply Xk.sAny | apply Xk.tAny); (case hok => rfl); (case h => intro C hC; simp (disch := omega) only [w1, ↓reduceIte, Nat.reduceEqDiff, Nat.reduceLeDiff, Nat.reduceAdd, Nat.reduceSub, Nat.reduceEqDiff]; with_reducible exact hC); refine gc ?_) | refine gm ?_)
    exact hQ
  by_cases h6 : k = .ofNat 6
  · subst h6
    repeat (first | ((first | apply Xk.sAny | apply Xk.tAny); (case hok => rfl); (case h => intro C hC; simp (disch := omega) only [w1, ↓reduceIte, Nat.reduceEqDiff, Nat.reduceLeDiff, Nat.reduceAdd, Nat.reduceSub, Nat.reduceEqDiff]; with_reducible exact hC); refine gc ?_) | refine gm ?_)
    exact hQ
  by_cases h7 : k = .ofNat 7
  · subst h7
    repeat (first | ((first | apply Xk.sAny | apply Xk.tAny); (case hok => rfl); (case h => intro C hC; simp (disch := omega) only [w1, ↓reduceIte, Nat.reduceEqDiff, Nat.reduceLeDiff, Nat.reduceAdd, Nat.reduceSub, Nat.reduceEqDiff]; with_reducible exact hC); refine gc ?_) | refine gm ?_)
    exact hQ
  by_cases h9 : k = .ofNat 9
  · subst h9
    repeat (first | ((first | apply Xk.sAny | apply Xk.tAny); (case hok => rfl); (case h => intro C hC; simp (disch := omega) only [w1, ↓reduceIte, Nat.reduceEqDiff, Nat.reduceLeDiff, Nat.reduceAdd, Nat.reduceSub, Nat.reduceEqDiff]; with_reducible exact hC); refine gc ?_) | refine gm ?_)
    exact hQ
  by_cases h12 : k = .ofNat 12
  · subst h12
    repeat (first | ((first | apply Xk.sAny | apply Xk.tAny); (case hok => rfl); (case h => intro C hC; simp (disch := omega) only [w1, ↓reduceIte, Nat.reduceEqDiff, Nat.reduceLeDiff, Nat.reduceAdd, Nat.reduceSub, Nat.reduceEqDiff]; with_reducible exact hC); refine gc ?_) | refine gm ?_)
    exact hQ
  by_cases h10 : k = .ofNat 10
  · subst h10
    repeat (first | ((first | apply Xk.sAny | apply Xk.tAny); (case hok => rfl); (case h => intro C hC; simp (disch := omega) only [w1, ↓reduceIte, Nat.reduceEqDiff, Nat.reduceLeDiff, Nat.reduceAdd, Nat.reduceSub, Nat.reduceEqDiff]; with_reducible exact hC); refine gc ?_) | refine gm ?_)
    exact hQ
  repeat (first | ((first | apply Xk.sAny | apply Xk.tAny); (case hok => rfl); (case h => intro C hC; simp (disch := omega) only [w1, ↓reduceIte, Nat.reduceEqDiff, Nat.reduceLeDiff, Nat.reduceAdd, Nat.reduceSub, h2, h3, h4, h5, h6, h7, h9, h12, h10]; with_reducible exact hC); refine gc ?_) | refine gm ?_)
  have e : plainB k = [] := by
    unfold plainB
    simp only [h2, h3, h4, h5, h6, h7, h9, h12, h10, if_false]
  rw [e] at hQ
  exact hQ
end Go.Proofs.YtkjmelfgopammaaDoor
