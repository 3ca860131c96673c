/- Layer 19: may a frame be? Conditions: none. -/
import Derived.Test.YtihoblfmhighpaaTgB
import Derived.Test.YtihoblfmhighpaaLibT
namespace Go.Proofs.Ytihoblfmhighpaa
open Go.Dp
set_option linter.unusedSimpArgs false
set_option linter.unusedVariables false
set_option maxHeartbeats 2000000
set_option maxRecDepth 8000
attribute [local irreducible] Ex.thnK Ex.inK Ret

theorem within_ev (z : Int) (n : Nat) (H : Heap) (Q : AV → Heap → Prop) (hQ : Q (.bool (inB z n)) H) : Eo lib n_wire_within [.int .i64 z, .int .i64 (.ofNat n)] H Q := by
  refine Eo.ok fun hOk => ?_
  refine Eo.code at_wire_within rfl ?_
  unfold inB at hQ
  by_cases c : .ofNat 0 ≤ z
  · rw [decide_eq_true c, Bool.true_and] at hQ
    by_cases d : z ≤ .ofNat n
    · rw [decide_eq_true d] at hQ
      repeat (first | ((first | apply Xk.sAny | apply Xk.tAny); (case hok => rfl); (case h => intro C hC; simp (disch := omega) only [w1, ↓reduceIte, Nat.reduceEqDiff, Nat.reduceLeDiff, Nat.reduceAdd, Nat.reduceSub, c, d]; with_reducible exact hC); refine gc ?_) | refine gm ?_)
      exact hQ
    · rw [decide_eq_false d] at hQ
      repeat (first | ((first | apply Xk.sAny | apply Xk.tAny); (case hok => rfl); (case h => intro C hC; simp (disch := omega) only [w1, ↓reduceIte, Nat.reduceEqDiff, Nat.reduceLeDiff, Nat.reduceAdd, Nat.reduceSub, c, d]; with_reducible exact hC); refine gc ?_) | refine gm ?_)
      exact hQ
  · rw [decide_eq_false c, Bool.false_and] at hQ
    repeat (first | ((first | apply Xk.sAny | apply Xk.tAny); (case hok => rfl); (case h => intro C hC; simp (disch := omega) only [w1, ↓reduceIte, Nat.reduceEqDiff, Nat.reduceLeDiff, Nat.reduceAdd, Nat.reduceSub, c]; with_reducible exact hC); refine gc ?_) | refine gm ?_)
    exact hQ

theorem role_ev (k r : Int) (H : Heap) (Q : AV → Heap → Prop) (hQ : Q (.bool (roleB k r)) H) : Eo lib n_wire_role [.int .i64 k, .int .i64 r] H Q := by
  refine Eo.ok fun hOk => ?_
  refine Eo.code at_wire_role rfl ?_
  unfold roleB at hQ
  by_cases c4 : k = .ofNat 4
  · subst c4
    rw [if_pos (.inl rfl)] at hQ
    iterate 2 repeat (first | ((first | apply Xk.sAny | apply Xk.tAny); (case hok => rfl); (case h => intro C hC; simp (disch := omega) only [w1, ↓reduceIte, Nat.reduceEqDiff, Nat.reduceLeDiff, Nat.reduceAdd, Nat.reduceSub]; with_reducible exact hC); refine gc ?_) | refine gm ?_)
    exact hQ
  by_cases c5 : k = .ofNat 5
  · subst c5
    rw [if_pos (.inr (.inl rfl))] at hQ
    iterate 2 repeat (first | ((first | apply Xk.sAny | apply Xk.tAny); (case hok => rfl); (case h => intro C hC; simp (disch := omega) only [w1, ↓reduceIte, Nat.reduceEqDiff, Nat.reduceLeDiff, Nat.reduceAdd, Nat.reduceSub]; with_reducible exact hC); refine gc ?_) | refine gm ?_)
    exact hQ
  by_cases c7 : k = .ofNat 7
  · subst c7
    rw [if_pos (.inr (.inr rfl))] at hQ
    iterate 2 repeat (first | ((first | apply Xk.sAny | apply Xk.tAny); (case hok => rfl); (case h => intro C hC; simp (disch := omega) only [w1, ↓reduceIte, Nat.reduceEqDiff, Nat.reduceLeDiff, Nat.reduceAdd, Nat.reduceSub]; with_reducible exact hC); refine gc ?_) | refine gm ?_)
    exact hQ
  rw [if_neg (fun h => h.elim c4 (fun h => h.elim c5 c7))] at hQ
  by_cases c6 : k = .ofNat 6
  · subst c6
    rw [if_pos rfl] at hQ
    by_cases d0 : r = .ofNat 0
    · rw [decide_eq_true d0] at hQ
      iterate 2 repeat (first | ((first | apply Xk.sAny | apply Xk.tAny); (case hok => rfl); (case h => intro C hC; simp (disch := omega) only [w1, ↓reduceIte, Nat.reduceEqDiff, Nat.reduceLeDiff, Nat.reduceAdd, Nat.reduceSub, d0]; with_reducible exact hC); refine gc ?_) | refine gm ?_)
      exact hQ
    by_cases d1 : r = .ofNat 1
    · rw [decide_eq_false d0, decide_eq_true d1] at hQ
      iterate 2 repeat (first | ((first | apply Xk.sAny | apply Xk.tAny); (case hok => rfl); (case h => intro C hC; simp (disch := omega) only [w1, ↓reduceIte, Nat.reduceEqDiff, Nat.reduceLeDiff, Nat.reduceAdd, Nat.reduceSub, d0, d1]; with_reducible exact hC); refine gc ?_) | refine gm ?_)
      exact hQ
    rw [decide_eq_false d0, decide_eq_false d1] at hQ
    iterate 2 repeat (first | ((first | apply Xk.sAny | apply Xk.tAny); (case hok => rfl); (case h => intro C hC; simp (disch := omega) only [w1, ↓reduceIte, Nat.reduceEqDiff, Nat.reduceLeDiff, Nat.reduceAdd, Nat.reduceSub, d0, d1]; with_reducible exact hC); refine gc ?_) | refine gm ?_)
    exact hQ
  rw [if_neg c6] at hQ
  by_cases d1 : r = .ofNat 1
  · rw [decide_eq_true d1] at hQ
    iterate 2 repeat (first | ((first | apply Xk.sAny | apply Xk.tAny); (case hok => rfl); (case h => intro C hC; simp (disch := omega) only [w1, ↓reduceIte, Nat.reduceEqDiff, Nat.reduceLeDiff, Nat.reduceAdd, Nat.reduceSub, c4, c5, c7, c6, d1]; with_reducible exact hC); refine gc ?_) | refine gm ?_)
    exact hQ
  rw [decide_eq_false d1] at hQ
  iterate 2 repeat (first | ((first | apply Xk.sAny | apply Xk.tAny); (case hok => rfl); (case h => intro C hC; simp (disch := omega) only [w1, ↓reduceIte, Nat.reduceEqDiff, Nat.reduceLeDiff, Nat.reduceAdd, Nat.reduceSub, c4, c5, c7, c6, d1]; with_reducible exact hC); refine gc ?_) | refine gm ?_)
  exact hQ

theorem box_fr (f : Fr) : nBox f.cells = some (.cells f.cells 1, ptrTo) := rfl
theorem Right_ev (f : Fr) (H : Heap) (Q : AV → Heap → Prop) (hQ : ∀ H', H'.Ok → HLe H H' → Q (.bool (rightB f)) H') : Eo lib n_wire_Right [.agg f.cells] H Q := by
  refine Eo.ok fun hOk => ?_
  refine Eo.code at_wire_Right rfl ?_
  have hbx := box_fr f
  have hO := hOk.new (.cells f.cells 1)
  have hle := HLe.new (hOk _ (Nat.le_refl _)) (.cells f.cells 1)
  have hg := Heap.get_new_self H (.cells f.cells 1)
  have hQ := hQ _ hO hle
  unfold rightB at hQ
  unfold Fr.cells at hbx hO hle hg hQ ⊢
  by_cases a1 : f.kind < .ofNat 1
  · have a1' : ¬ .ofNat 1 ≤ f.kind := Int.not_le.2 a1
    simp only [decide_eq_false a1', Bool.false_and] at hQ
    iterate 2 repeat (first | ((first | apply Xk.sAny | apply Xk.tAny); (case hok => rfl); (case h => intro C hC; simp (disch := omega) only [w1, ↓reduceIte, Nat.reduceEqDiff, Nat.reduceLeDiff, Nat.reduceAdd, Nat.reduceSub, hbx, hg, a1]; with_reducible exact hC); refine gc ?_) | refine gm ?_)
    exact hQ
  have a1' : .ofNat 1 ≤ f.kind := Int.not_lt.1 a1
  by_cases a2 : .ofNat 7 < f.kind
  · have a2' : ¬ f.kind ≤ .ofNat 7 := Int.not_le.2 a2
    simp only [decide_eq_true a1', decide_eq_false a2', Bool.false_and, Bool.true_and] at hQ
    iterate 2 repeat (first | ((first | apply Xk.sAny | apply Xk.tAny); (case hok => rfl); (case h => intro C hC; simp (disch := omega) only [w1, ↓reduceIte, Nat.reduceEqDiff, Nat.reduceLeDiff, Nat.reduceAdd, Nat.reduceSub, hbx, hg, a1, a2]; with_reducible exact hC); refine gc ?_) | refine gm ?_)
    exact hQ
  have a2' : f.kind ≤ .ofNat 7 := Int.not_lt.1 a2
  simp only [decide_eq_true a1', decide_eq_true a2', Bool.true_and] at hQ
  iterate 2 repeat (first | ((first | apply Xk.sAny | apply Xk.tAny); (case hok => rfl); (case h => intro C hC; simp (disch := omega) only [w1, ↓reduceIte, Nat.reduceEqDiff, Nat.reduceLeDiff, Nat.reduceAdd, Nat.reduceSub, hbx, hg, a1, a2]; with_reducible exact hC); refine gc ?_) | refine gm ?_)
  refine within_ev f.slot 11 _ _ ?_
  cases b3 : inB f.slot 11 with
  | false =>
    simp only [b3, Bool.false_and] at hQ
    iterate 2 repeat (first | ((first | apply Xk.sAny | apply Xk.tAny); (case hok => rfl); (case h => intro C hC; simp (disch := omega) only [w1, ↓reduceIte, Nat.reduceEqDiff, Nat.reduceLeDiff, Nat.reduceAdd, Nat.reduceSub, hg]; with_reducible exact hC); refine gc ?_) | refine gm ?_)
    exact hQ
  | true =>
  simp only [b3, Bool.true_and] at hQ
  repeat (first | ((first | apply Xk.sAny | apply Xk.tAny); (case hok => rfl); (case h => intro C hC; simp (disch := omega) only [w1, ↓reduceIte, Nat.reduceEqDiff, Nat.reduceLeDiff, Nat.reduceAdd, Nat.reduceSub, hg]; with_reducible exact hC); refine gc ?_) | refine gm ?_)
  refine role_ev f.kind f.role _ _ ?_
  cases b4 : roleB f.kind f.role with
  | false =>
    simp only [b4, Bool.false_and] at hQ
    iterate 2 repeat (first | ((first | apply Xk.sAny | apply Xk.tAny); (case hok => rfl); (case h => intro C hC; simp (disch := omega) only [w1, ↓reduceIte, Nat.reduceEqDiff, Nat.reduceLeDiff, Nat.reduceAdd, Nat.reduceSub, hg]; with_reducible exact hC); refine gc ?_) | refine gm ?_)
    exact hQ
  | true =>
  simp only [b4, Bool.true_and] at hQ
  iterate 2 repeat (first | ((first | apply Xk.sAny | apply Xk.tAny); (case hok => rfl); (case h => intro C hC; simp (disch := omega) only [w1, ↓reduceIte, Nat.reduceEqDiff, Nat.reduceLeDiff, Nat.reduceAdd, Nat.reduceSub, hg]; with_reducible exact hC); refine gc ?_) | refine gm ?_)
  refine within_ev f.inc 1099511627776 _ _ ?_
  cases b5 : inB f.inc 1099511627776 with
  | false =>
    simp only [b5, Bool.false_and] at hQ
    iterate 2 repeat (first | ((first | apply Xk.sAny | apply Xk.tAny); (case hok => rfl); (case h => intro C hC; simp (disch := omega) only [w1, ↓reduceIte, Nat.reduceEqDiff, Nat.reduceLeDiff, Nat.reduceAdd, Nat.reduceSub, hg]; with_reducible exact hC); refine gc ?_) | refine gm ?_)
    exact hQ
  | true =>
  simp only [b5, Bool.true_and] at hQ
  repeat (first | ((first | apply Xk.sAny | apply Xk.tAny); (case hok => rfl); (case h => intro C hC; simp (disch := omega) only [w1, ↓reduceIte, Nat.reduceEqDiff, Nat.reduceLeDiff, Nat.reduceAdd, Nat.reduceSub, hg]; with_reducible exact hC); refine gc ?_) | refine gm ?_)
  refine within_ev f.rid 1099511627776 _ _ ?_
  cases b6 : inB f.rid 1099511627776 with
  | false =>
    simp only [b6, Bool.false_and] at hQ
    iterate 2 repeat (first | ((first | apply Xk.sAny | apply Xk.tAny); (case hok => rfl); (case h => intro C hC; simp (disch := omega) only [w1, ↓reduceIte, Nat.reduceEqDiff, Nat.reduceLeDiff, Nat.reduceAdd, Nat.reduceSub, hg]; with_reducible exact hC); refine gc ?_) | refine gm ?_)
    exact hQ
  | true =>
  simp only [b6, Bool.true_and] at hQ
  repeat (first | ((first | apply Xk.sAny | apply Xk.tAny); (case hok => rfl); (case h => intro C hC; simp (disch := omega) only [w1, ↓reduceIte, Nat.reduceEqDiff, Nat.reduceLeDiff, Nat.reduceAdd, Nat.reduceSub, hg]; with_reducible exact hC); refine gc ?_) | refine gm ?_)
  refine within_ev f.floor 1099511627776 _ _ ?_
  cases b7 : inB f.floor 1099511627776 with
  | false =>
    simp only [b7, Bool.false_and] at hQ
    iterate 2 repeat (first | ((first | apply Xk.sAny | apply Xk.tAny); (case hok => rfl); (case h => intro C hC; simp (disch := omega) only [w1, ↓reduceIte, Nat.reduceEqDiff, Nat.reduceLeDiff, Nat.reduceAdd, Nat.reduceSub, hg]; with_reducible exact hC); refine gc ?_) | refine gm ?_)
    exact hQ
  | true =>
  simp only [b7, Bool.true_and] at hQ
  repeat (first | ((first | apply Xk.sAny | apply Xk.tAny); (case hok => rfl); (case h => intro C hC; simp (disch := omega) only [w1, ↓reduceIte, Nat.reduceEqDiff, Nat.reduceLeDiff, Nat.reduceAdd, Nat.reduceSub, hg]; with_reducible exact hC); refine gc ?_) | refine gm ?_)
  refine within_ev f.ver 1099511627776 _ _ ?_
  cases b8 : inB f.ver 1099511627776 with
  | false =>
    simp only [b8, Bool.false_and] at hQ
    iterate 2 repeat (first | ((first | apply Xk.sAny | apply Xk.tAny); (case hok => rfl); (case h => intro C hC; simp (disch := omega) only [w1, ↓reduceIte, Nat.reduceEqDiff, Nat.reduceLeDiff, Nat.reduceAdd, Nat.reduceSub, hg]; with_reducible exact hC); refine gc ?_) | refine gm ?_)
    exact hQ
  | true =>
  simp only [b8, Bool.true_and] at hQ
  repeat (first | ((first | apply Xk.sAny | apply Xk.tAny); (case hok => rfl); (case h => intro C hC; simp (disch := omega) only [w1, ↓reduceIte, Nat.reduceEqDiff, Nat.reduceLeDiff, Nat.reduceAdd, Nat.reduceSub, hg]; with_reducible exact hC); refine gc ?_) | refine gm ?_)
  by_cases b9 : f.key.length ≤ 250
  · simp only [decide_eq_true b9, Bool.true_and] at hQ
    iterate 2 repeat (first | ((first | apply Xk.sAny | apply Xk.tAny); (case hok => rfl); (case h => intro C hC; simp (disch := omega) only [w1, ↓reduceIte, Nat.reduceEqDiff, Nat.reduceLeDiff, Nat.reduceAdd, Nat.reduceSub, hg, b9]; with_reducible exact hC); refine gc ?_) | refine gm ?_)
    exact hQ
  · simp only [decide_eq_false b9, Bool.false_and] at hQ
    iterate 2 repeat (first | ((first | apply Xk.sAny | apply Xk.tAny); (case hok => rfl); (case h => intro C hC; simp (disch := omega) only [w1, ↓reduceIte, Nat.reduceEqDiff, Nat.reduceLeDiff, Nat.reduceAdd, Nat.reduceSub, hg, b9]; with_reducible exact hC); refine gc ?_) | refine gm ?_)
    exact hQ
end Go.Proofs.Ytihoblfmhighpaa
