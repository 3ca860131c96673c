/- The store of items, in a heap: peek, get, drop, len. Conditions: none. -/
import Derived.Test.YtihoblfmhighpaaItD
import Derived.Test.YtihoblfmhighpaaChL
namespace Go.Proofs.Ytihoblfmhighpaa
open Go.Dp
set_option linter.unusedSimpArgs false
set_option linter.unusedVariables false
set_option maxHeartbeats 400000
set_option maxRecDepth 8000
attribute [local irreducible] Ex.thnK Ex.inK Ret

theorem iLen_ev (τ : Nat) (T : Tags) (H : Heap) (p : Nat) (st : St) (h : SH τ T H p st) (Q : AV → Heap → Prop) (hQ : Q (.int .i64 (.ofNat st.l.length)) H) : Eo lib n_item_Store_Len [.ptr p 0] H Q := by
  refine Eo.ok fun hOk => ?_
  refine Eo.code at_item_Store_Len rfl ?_
  obtain ⟨ps, pc, c, cn, vs, ns, S⟩ := h
  have hg := S.head.1
  repeat (first | ((first | apply Xk.sAny | apply Xk.tAny); (case hok => rfl); (case h => intro C hC; simp (disch := omega) only [w1, ↓reduceIte, Nat.reduceEqDiff, Nat.reduceLeDiff, Nat.reduceAdd, Nat.reduceSub, hg]; with_reducible exact hC); refine gc ?_) | refine gm ?_)
  repeat (first | ((first | apply Xk.sAny | apply Xk.tAny); (case hok => rfl); (case h => intro C hC; simp (disch := omega) only [w1, ↓reduceIte, Nat.reduceEqDiff, Nat.reduceLeDiff, Nat.reduceAdd, Nat.reduceSub, hg]; with_reducible exact hC); refine gc ?_) | refine gm ?_)
  refine Len_ev (τ + 2) T H pc (keysOf st.l) S.keys _ ?_
  have e : (keysOf st.l).length = st.l.length := List.length_map ..
  rw [e]
  repeat (first | ((first | apply Xk.sAny | apply Xk.tAny); (case hok => rfl); (case h => intro C hC; simp (disch := omega) only [w1, ↓reduceIte, Nat.reduceEqDiff, Nat.reduceLeDiff, Nat.reduceAdd, Nat.reduceSub]; with_reducible exact hC); refine gc ?_) | refine gm ?_)
  repeat (first | ((first | apply Xk.sAny | apply Xk.tAny); (case hok => rfl); (case h => intro C hC; simp (disch := omega) only [w1, ↓reduceIte, Nat.reduceEqDiff, Nat.reduceLeDiff, Nat.reduceAdd, Nat.reduceSub]; with_reducible exact hC); refine gc ?_) | refine gm ?_)
  exact hQ
end Go.Proofs.Ytihoblfmhighpaa
