/- The hash table: put, get, drop, new, len. Conditions: none. -/
import Derived.Test.YtihoblfmhighpaaChD
namespace Go.Proofs.Ytihoblfmhighpaa
open Go.Dp
set_option linter.unusedSimpArgs false
set_option linter.unusedVariables false
set_option maxHeartbeats 400000
set_option maxRecDepth 8000
attribute [local irreducible] Ex.thnK Ex.inK Ret

theorem Len_ev (ω : Nat) (T : Tags) (H : Heap) (p : Nat) (M : List En) (hC : Ch ω T H p M) (Q : AV → Heap → Prop) (hQ : Q (.int .i64 (.ofNat M.length)) H) : Eo lib n_chain_Chain_Len [.ptr p 0] H Q := by
  refine Eo.ok fun hOk => ?_
  refine Eo.code at_chain_Chain_Len rfl ?_
  obtain ⟨c, vs, bs, vo, os, moved, hp, _⟩ := hC
  have hpg := hp.1
  repeat (first | ((first | apply Xk.sAny | apply Xk.tAny); (case hok => rfl); (case h => intro C hC; simp (disch := omega) only [w1, ↓reduceIte, Nat.reduceEqDiff, Nat.reduceLeDiff, Nat.reduceAdd, Nat.reduceSub, hpg]; with_reducible exact hC); refine gc ?_) | refine gm ?_)
  repeat (first | ((first | apply Xk.sAny | apply Xk.tAny); (case hok => rfl); (case h => intro C hC; simp (disch := omega) only [w1, ↓reduceIte, Nat.reduceEqDiff, Nat.reduceLeDiff, Nat.reduceAdd, Nat.reduceSub, hpg]; with_reducible exact hC); refine gc ?_) | refine gm ?_)
  exact hQ

end Go.Proofs.Ytihoblfmhighpaa
