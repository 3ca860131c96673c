/- Layer 14: an answer's text, by kinds. Conditions: none. -/
import Derived.Test.YtkjmelfgopammaaDoorAnC
namespace Go.Proofs.YtkjmelfgopammaaDoor
open Go.Dp
set_option linter.unusedSimpArgs false
set_option linter.unusedVariables false
set_option maxHeartbeats 2000000
set_option maxRecDepth 8000
attribute [local irreducible] Ex.thnK Ex.inK Ret

/-- a number as it is told -/
def num0 (z : Int) : List UInt8 := dec z.toNat
theorem mm0 (z : Int) (fr : List AV) (h : z < 9223372036854775808) : mms true fr (.int .i64 z) [.c (.int .i64 (.ofNat 0))] = some (.int .i64 (.ofNat z.toNat)) := by
  cases z with
  | ofNat n => cases n <;> rfl
  | negSucc n => rfl

theorem number_ev (z : Int) (h : z < 9223372036854775808) (H : Heap) (hT : Tab H) (Q : AV → Heap → Prop) (hQ : ∀ H', H'.Ok → HLe H H' → Q (.str (num0 z)) H') : Eo lib n_answer_number [.int .i64 z] H Q := by
  refine Eo.code at_answer_number rfl ?_
  repeat (first | ((first | apply Xk.sAny | apply Xk.tAny); (case hok => rfl); (case h => intro C hC; simp (disch := omega) only [w1, ↓reduceIte, Nat.reduceEqDiff, Nat.reduceLeDiff, Nat.reduceAdd, Nat.reduceSub, rMm, mm0 _ _ h]; with_reducible exact hC); refine gc ?_) | refine gm ?_)
  refine Itoa_ev z.toNat (by omega) H hT _ fun H' hO hle => ?_
  repeat (first | ((first | apply Xk.sAny | apply Xk.tAny); (case hok => rfl); (case h => intro C hC; simp (disch := omega) only [w1, ↓reduceIte, Nat.reduceEqDiff, Nat.reduceLeDiff, Nat.reduceAdd, Nat.reduceSub]; with_reducible exact hC); refine gc ?_) | refine gm ?_)
  exact hQ _ hO hle
end Go.Proofs.YtkjmelfgopammaaDoor
