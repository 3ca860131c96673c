/- Layer 19: the reference's look at a frame. Conditions: none. -/
import Derived.Test.YtcpcajfmkmgjeaaAkI
namespace Go.Proofs.Ytcpcajfmkmgjeaa
open Go.Dp
set_option linter.unusedSimpArgs false
set_option linter.unusedVariables false
set_option maxHeartbeats 1000000
set_option maxRecDepth 8000
attribute [local irreducible] Ex.thnK Ex.inK Ret

theorem refRight_ev (f : Fr) (H : Heap) (Q : AV → Heap → Prop) (hQ : ∀ H', H'.Ok → HLe H H' → Q (.bool (rightB f)) H') : Eo lib n_depotref9_Right [.agg f.cells] H Q := by
  refine Eo.ok fun hOk => ?_
  refine Eo.code at_depotref9_Right rfl ?_
  have hbx := box_fr f
  have hO := hOk.new (.cells f.cells 1)
  have hle := HLe.new (hOk _ (Nat.le_refl _)) (.cells f.cells 1)
  have hg := Heap.get_new_self H (.cells f.cells 1)
  have hQ := hQ _ hO hle
  unfold rightB inB at hQ
  simp only [Fr.cells] at hbx hO hle hg hQ ⊢
  by_cases a0 : f.kind < .ofNat 1
  · have g0 : ¬ .ofNat 1 ≤ f.kind := Int.not_le.2 a0
    simp only [decide_eq_false g0, Bool.false_and, Bool.and_false] at hQ
    repeat (first | ((first | apply Xk.sAny | apply Xk.tAny); (case hok => rfl); (case h => intro C hC; simp (disch := omega) only [w1, ↓reduceIte, Nat.reduceEqDiff, Nat.reduceLeDiff, Nat.reduceAdd, Nat.reduceSub, hbx, hg, a0]; with_reducible exact hC); refine gc ?_) | refine gm ?_)
    repeat (first | ((first | apply Xk.sAny | apply Xk.tAny); (case hok => rfl); (case h => intro C hC; simp (disch := omega) only [w1, ↓reduceIte, Nat.reduceEqDiff, Nat.reduceLeDiff, Nat.reduceAdd, Nat.reduceSub, hbx, hg, a0]; with_reducible exact hC); refine gc ?_) | refine gm ?_)
    exact hQ
  have g0 : .ofNat 1 ≤ f.kind := Int.not_lt.1 a0
  by_cases a1 : .ofNat 7 < f.kind
  · have g1 : ¬ f.kind ≤ .ofNat 7 := Int.not_le.2 a1
    simp only [decide_eq_false g1, Bool.false_and, Bool.and_false] at hQ
    repeat (first | ((first | apply Xk.sAny | apply Xk.tAny); (case hok => rfl); (case h => intro C hC; simp (disch := omega) only [w1, ↓reduceIte, Nat.reduceEqDiff, Nat.reduceLeDiff, Nat.reduceAdd, Nat.reduceSub, hbx, hg, a0, a1]; with_reducible exact hC); refine gc ?_) | refine gm ?_)
    repeat (first | ((first | apply Xk.sAny | apply Xk.tAny); (case hok => rfl); (case h => intro C hC; simp (disch := omega) only [w1, ↓reduceIte, Nat.reduceEqDiff, Nat.reduceLeDiff, Nat.reduceAdd, Nat.reduceSub, hbx, hg, a0, a1]; with_reducible exact hC); refine gc ?_) | refine gm ?_)
    exact hQ
  have g1 : f.kind ≤ .ofNat 7 := Int.not_lt.1 a1
  by_cases a2 : f.slot < .ofNat 0
  · have g2 : ¬ .ofNat 0 ≤ f.slot := Int.not_le.2 a2
    simp only [decide_eq_false g2, Bool.false_and, Bool.and_false] at hQ
    repeat (first | ((first | apply Xk.sAny | apply Xk.tAny); (case hok => rfl); (case h => intro C hC; simp (disch := omega) only [w1, ↓reduceIte, Nat.reduceEqDiff, Nat.reduceLeDiff, Nat.reduceAdd, Nat.reduceSub, hbx, hg, a0, a1, a2]; with_reducible exact hC); refine gc ?_) | refine gm ?_)
    repeat (first | ((first | apply Xk.sAny | apply Xk.tAny); (case hok => rfl); (case h => intro C hC; simp (disch := omega) only [w1, ↓reduceIte, Nat.reduceEqDiff, Nat.reduceLeDiff, Nat.reduceAdd, Nat.reduceSub, hbx, hg, a0, a1, a2]; with_reducible exact hC); refine gc ?_) | refine gm ?_)
    exact hQ
  have g2 : .ofNat 0 ≤ f.slot := Int.not_lt.1 a2
  by_cases a3 : .ofNat 12 ≤ f.slot
  · have g3 : ¬ f.slot ≤ .ofNat 11 := fun h => by have h1 : (12 : Int) ≤ f.slot := a3; have h2 : f.slot ≤ (11 : Int) := h; omega
    simp only [decide_eq_false g3, Bool.false_and, Bool.and_false] at hQ
    repeat (first | ((first | apply Xk.sAny | apply Xk.tAny); (case hok => rfl); (case h => intro C hC; simp (disch := omega) only [w1, ↓reduceIte, Nat.reduceEqDiff, Nat.reduceLeDiff, Nat.reduceAdd, Nat.reduceSub, hbx, hg, a0, a1, a2, a3]; with_reducible exact hC); refine gc ?_) | refine gm ?_)
    repeat (first | ((first | apply Xk.sAny | apply Xk.tAny); (case hok => rfl); (case h => intro C hC; simp (disch := omega) only [w1, ↓reduceIte, Nat.reduceEqDiff, Nat.reduceLeDiff, Nat.reduceAdd, Nat.reduceSub, hbx, hg, a0, a1, a2, a3]; with_reducible exact hC); refine gc ?_) | refine gm ?_)
    exact hQ
  have g3 : f.slot ≤ .ofNat 11 := by
    have h1 : ¬ (12 : Int) ≤ f.slot := a3
    show f.slot ≤ (11 : Int)
    omega
  by_cases a4 : f.inc < .ofNat 0
  · have g4 : ¬ .ofNat 0 ≤ f.inc := Int.not_le.2 a4
    simp only [decide_eq_false g4, Bool.false_and, Bool.and_false] at hQ
    repeat (first | ((first | apply Xk.sAny | apply Xk.tAny); (case hok => rfl); (case h => intro C hC; simp (disch := omega) only [w1, ↓reduceIte, Nat.reduceEqDiff, Nat.reduceLeDiff, Nat.reduceAdd, Nat.reduceSub, hbx, hg, a0, a1, a2, a3, a4]; with_reducible exact hC); refine gc ?_) | refine gm ?_)
    repeat (first | ((first | apply Xk.sAny | apply Xk.tAny); (case hok => rfl); (case h => intro C hC; simp (disch := omega) only [w1, ↓reduceIte, Nat.reduceEqDiff, Nat.reduceLeDiff, Nat.reduceAdd, Nat.reduceSub, hbx, hg, a0, a1, a2, a3, a4]; with_reducible exact hC); refine gc ?_) | refine gm ?_)
    exact hQ
  have g4 : .ofNat 0 ≤ f.inc := Int.not_lt.1 a4
  by_cases a5 : .ofNat 1099511627776 < f.inc
  · have g5 : ¬ f.inc ≤ .ofNat 1099511627776 := Int.not_le.2 a5
    simp only [decide_eq_false g5, Bool.false_and, Bool.and_false] at hQ
    repeat (first | ((first | apply Xk.sAny | apply Xk.tAny); (case hok => rfl); (case h => intro C hC; simp (disch := omega) only [w1, ↓reduceIte, Nat.reduceEqDiff, Nat.reduceLeDiff, Nat.reduceAdd, Nat.reduceSub, hbx, hg, a0, a1, a2, a3, a4, a5]; with_reducible exact hC); refine gc ?_) | refine gm ?_)
    repeat (first | ((first | apply Xk.sAny | apply Xk.tAny); (case hok => rfl); (case h => intro C hC; simp (disch := omega) only [w1, ↓reduceIte, Nat.reduceEqDiff, Nat.reduceLeDiff, Nat.reduceAdd, Nat.reduceSub, hbx, hg, a0, a1, a2, a3, a4, a5]; with_reducible exact hC); refine gc ?_) | refine gm ?_)
    exact hQ
  have g5 : f.inc ≤ .ofNat 1099511627776 := Int.not_lt.1 a5
  by_cases a6 : f.rid < .ofNat 0
  · have g6 : ¬ .ofNat 0 ≤ f.rid := Int.not_le.2 a6
    simp only [decide_eq_false g6, Bool.false_and, Bool.and_false] at hQ
    repeat (first | ((first | apply Xk.sAny | apply Xk.tAny); (case hok => rfl); (case h => intro C hC; simp (disch := omega) only [w1, ↓reduceIte, Nat.reduceEqDiff, Nat.reduceLeDiff, Nat.reduceAdd, Nat.reduceSub, hbx, hg, a0, a1, a2, a3, a4, a5, a6]; with_reducible exact hC); refine gc ?_) | refine gm ?_)
    repeat (first | ((first | apply Xk.sAny | apply Xk.tAny); (case hok => rfl); (case h => intro C hC; simp (disch := omega) only [w1, ↓reduceIte, Nat.reduceEqDiff, Nat.reduceLeDiff, Nat.reduceAdd, Nat.reduceSub, hbx, hg, a0, a1, a2, a3, a4, a5, a6]; with_reducible exact hC); refine gc ?_) | refine gm ?_)
    exact hQ
  have g6 : .ofNat 0 ≤ f.rid := Int.not_lt.1 a6
  by_cases a7 : .ofNat 1099511627776 < f.rid
  · have g7 : ¬ f.rid ≤ .ofNat 1099511627776 := Int.not_le.2 a7
    simp only [decide_eq_false g7, Bool.false_and, Bool.and_false] at hQ
    repeat (first | ((first | apply Xk.sAny | apply Xk.tAny); (case hok => rfl); (case h => intro C hC; simp (disch := omega) only [w1, ↓reduceIte, Nat.reduceEqDiff, Nat.reduceLeDiff, Nat.reduceAdd, Nat.reduceSub, hbx, hg, a0, a1, a2, a3, a4, a5, a6, a7]; with_reducible exact hC); refine gc ?_) | refine gm ?_)
    repeat (first | ((first | apply Xk.sAny | apply Xk.tAny); (case hok => rfl); (case h => intro C hC; simp (disch := omega) only [w1, ↓reduceIte, Nat.reduceEqDiff, Nat.reduceLeDiff, Nat.reduceAdd, Nat.reduceSub, hbx, hg, a0, a1, a2, a3, a4, a5, a6, a7]; with_reducible exact hC); refine gc ?_) | refine gm ?_)
    exact hQ
  have g7 : f.rid ≤ .ofNat 1099511627776 := Int.not_lt.1 a7
  by_cases a8 : f.floor < .ofNat 0
  · have g8 : ¬ .ofNat 0 ≤ f.floor := Int.not_le.2 a8
    simp only [decide_eq_false g8, Bool.false_and, Bool.and_false] at hQ
    repeat (first | ((first | apply Xk.sAny | apply Xk.tAny); (case hok => rfl); (case h => intro C hC; simp (disch := omega) only [w1, ↓reduceIte, Nat.reduceEqDiff, Nat.reduceLeDiff, Nat.reduceAdd, Nat.reduceSub, hbx, hg, a0, a1, a2, a3, a4, a5, a6, a7, a8]; with_reducible exact hC); refine gc ?_) | refine gm ?_)
    repeat (first | ((first | apply Xk.sAny | apply Xk.tAny); (case hok => rfl); (case h => intro C hC; simp (disch := omega) only [w1, ↓reduceIte, Nat.reduceEqDiff, Nat.reduceLeDiff, Nat.reduceAdd, Nat.reduceSub, hbx, hg, a0, a1, a2, a3, a4, a5, a6, a7, a8]; with_reducible exact hC); refine gc ?_) | refine gm ?_)
    exact hQ
  have g8 : .ofNat 0 ≤ f.floor := Int.not_lt.1 a8
  by_cases a9 : .ofNat 1099511627776 < f.floor
  · have g9 : ¬ f.floor ≤ .ofNat 1099511627776 := Int.not_le.2 a9
    simp only [decide_eq_false g9, Bool.false_and, Bool.and_false] at hQ
    repeat (first | ((first | apply Xk.sAny | apply Xk.tAny); (case hok => rfl); (case h => intro C hC; simp (disch := omega) only [w1, ↓reduceIte, Nat.reduceEqDiff, Nat.reduceLeDiff, Nat.reduceAdd, Nat.reduceSub, hbx, hg, a0, a1, a2, a3, a4, a5, a6, a7, a8, a9]; with_reducible exact hC); refine gc ?_) | refine gm ?_)
    repeat (first | ((first | apply Xk.sAny | apply Xk.tAny); (case hok => rfl); (case h => intro C hC; simp (disch := omega) only [w1, ↓reduceIte, Nat.reduceEqDiff, Nat.reduceLeDiff, Nat.reduceAdd, Nat.reduceSub, hbx, hg, a0, a1, a2, a3, a4, a5, a6, a7, a8, a9]; with_reducible exact hC); refine gc ?_) | refine gm ?_)
    exact hQ
  have g9 : f.floor ≤ .ofNat 1099511627776 := Int.not_lt.1 a9
  by_cases a10 : 250 < f.key.length
  · have g10 : ¬ f.key.length ≤ 250 := Nat.not_le.2 a10
    simp only [decide_eq_false g10, Bool.false_and, Bool.and_false] at hQ
    repeat (first | ((first | apply Xk.sAny | apply Xk.tAny); (case hok => rfl); (case h => intro C hC; simp (disch := omega) only [w1, ↓reduceIte, Nat.reduceEqDiff, Nat.reduceLeDiff, Nat.reduceAdd, Nat.reduceSub, hbx, hg, a0, a1, a2, a3, a4, a5, a6, a7, a8, a9, a10]; with_reducible exact hC); refine gc ?_) | refine gm ?_)
    repeat (first | ((first | apply Xk.sAny | apply Xk.tAny); (case hok => rfl); (case h => intro C hC; simp (disch := omega) only [w1, ↓reduceIte, Nat.reduceEqDiff, Nat.reduceLeDiff, Nat.reduceAdd, Nat.reduceSub, hbx, hg, a0, a1, a2, a3, a4, a5, a6, a7, a8, a9, a10]; with_reducible exact hC); refine gc ?_) | refine gm ?_)
    exact hQ
  have g10 : f.key.length ≤ 250 := Nat.not_lt.1 a10
  by_cases a11 : 1049600 < f.data.length
  · have g11 : ¬ f.data.length ≤ 1049600 := Nat.not_le.2 a11
    simp only [decide_eq_false g11, Bool.false_and, Bool.and_false] at hQ
    repeat (first | ((first | apply Xk.sAny | apply Xk.tAny); (case hok => rfl); (case h => intro C hC; simp (disch := omega) only [w1, ↓reduceIte, Nat.reduceEqDiff, Nat.reduceLeDiff, Nat.reduceAdd, Nat.reduceSub, hbx, hg, a0, a1, a2, a3, a4, a5, a6, a7, a8, a9, a10, a11]; with_reducible exact hC); refine gc ?_) | refine gm ?_)
    repeat (first | ((first | apply Xk.sAny | apply Xk.tAny); (case hok => rfl); (case h => intro C hC; simp (disch := omega) only [w1, ↓reduceIte, Nat.reduceEqDiff, Nat.reduceLeDiff, Nat.reduceAdd, Nat.reduceSub, hbx, hg, a0, a1, a2, a3, a4, a5, a6, a7, a8, a9, a10, a11]; with_reducible exact hC); refine gc ?_) | refine gm ?_)
    exact hQ
  have g11 : f.data.length ≤ 1049600 := Nat.not_lt.1 a11
  by_cases a12 : f.ver < .ofNat 0
  · have g12 : ¬ .ofNat 0 ≤ f.ver := Int.not_le.2 a12
    simp only [decide_eq_false g12, Bool.false_and, Bool.and_false] at hQ
    repeat (first | ((first | apply Xk.sAny | apply Xk.tAny); (case hok => rfl); (case h => intro C hC; simp (disch := omega) only [w1, ↓reduceIte, Nat.reduceEqDiff, Nat.reduceLeDiff, Nat.reduceAdd, Nat.reduceSub, hbx, hg, a0, a1, a2, a3, a4, a5, a6, a7, a8, a9, a10, a11, a12]; with_reducible exact hC); refine gc ?_) | refine gm ?_)
    repeat (first | ((first | apply Xk.sAny | apply Xk.tAny); (case hok => rfl); (case h => intro C hC; simp (disch := omega) only [w1, ↓reduceIte, Nat.reduceEqDiff, Nat.reduceLeDiff, Nat.reduceAdd, Nat.reduceSub, hbx, hg, a0, a1, a2, a3, a4, a5, a6, a7, a8, a9, a10, a11, a12]; with_reducible exact hC); refine gc ?_) | refine gm ?_)
    exact hQ
  have g12 : .ofNat 0 ≤ f.ver := Int.not_lt.1 a12
  by_cases a13 : .ofNat 1099511627776 < f.ver
  · have g13 : ¬ f.ver ≤ .ofNat 1099511627776 := Int.not_le.2 a13
    simp only [decide_eq_false g13, Bool.false_and, Bool.and_false] at hQ
    repeat (first | ((first | apply Xk.sAny | apply Xk.tAny); (case hok => rfl); (case h => intro C hC; simp (disch := omega) only [w1, ↓reduceIte, Nat.reduceEqDiff, Nat.reduceLeDiff, Nat.reduceAdd, Nat.reduceSub, hbx, hg, a0, a1, a2, a3, a4, a5, a6, a7, a8, a9, a10, a11, a12, a13]; with_reducible exact hC); refine gc ?_) | refine gm ?_)
    repeat (first | ((first | apply Xk.sAny | apply Xk.tAny); (case hok => rfl); (case h => intro C hC; simp (disch := omega) only [w1, ↓reduceIte, Nat.reduceEqDiff, Nat.reduceLeDiff, Nat.reduceAdd, Nat.reduceSub, hbx, hg, a0, a1, a2, a3, a4, a5, a6, a7, a8, a9, a10, a11, a12, a13]; with_reducible exact hC); refine gc ?_) | refine gm ?_)
    exact hQ
  have g13 : f.ver ≤ .ofNat 1099511627776 := Int.not_lt.1 a13
  simp only [decide_eq_true g0, decide_eq_true g1, decide_eq_true g2, decide_eq_true g3, decide_eq_true g4, decide_eq_true g5, decide_eq_true g6, decide_eq_true g7, decide_eq_true g8, decide_eq_true g9, decide_eq_true g10, decide_eq_true g11, decide_eq_true g12, decide_eq_true g13, Bool.true_and, Bool.and_true] at hQ
  unfold roleB at hQ
  by_cases c4 : f.kind = .ofNat 4
  · rw [if_pos (.inl c4)] at hQ
    repeat (first | ((first | apply Xk.sAny | apply Xk.tAny); (case hok => rfl); (case h => intro C hC; simp (disch := omega) only [w1, ↓reduceIte, Nat.reduceEqDiff, Nat.reduceLeDiff, Nat.reduceAdd, Nat.reduceSub, hbx, hg, a0, a1, a2, a3, a4, a5, a6, a7, a8, a9, a10, a11, a12, a13, decide_eq_true c4]; with_reducible exact hC); refine gc ?_) | refine gm ?_)
    repeat (first | ((first | apply Xk.sAny | apply Xk.tAny); (case hok => rfl); (case h => intro C hC; simp (disch := omega) only [w1, ↓reduceIte, Nat.reduceEqDiff, Nat.reduceLeDiff, Nat.reduceAdd, Nat.reduceSub, hbx, hg, a0, a1, a2, a3, a4, a5, a6, a7, a8, a9, a10, a11, a12, a13, decide_eq_true c4]; with_reducible exact hC); refine gc ?_) | refine gm ?_)
    exact hQ
  by_cases c5 : f.kind = .ofNat 5
  · rw [if_pos (.inr (.inl c5))] at hQ
    repeat (first | ((first | apply Xk.sAny | apply Xk.tAny); (case hok => rfl); (case h => intro C hC; simp (disch := omega) only [w1, ↓reduceIte, Nat.reduceEqDiff, Nat.reduceLeDiff, Nat.reduceAdd, Nat.reduceSub, hbx, hg, a0, a1, a2, a3, a4, a5, a6, a7, a8, a9, a10, a11, a12, a13, c4, decide_eq_true c5]; with_reducible exact hC); refine gc ?_) | refine gm ?_)
    repeat (first | ((first | apply Xk.sAny | apply Xk.tAny); (case hok => rfl); (case h => intro C hC; simp (disch := omega) only [w1, ↓reduceIte, Nat.reduceEqDiff, Nat.reduceLeDiff, Nat.reduceAdd, Nat.reduceSub, hbx, hg, a0, a1, a2, a3, a4, a5, a6, a7, a8, a9, a10, a11, a12, a13, c4, decide_eq_true c5]; with_reducible exact hC); refine gc ?_) | refine gm ?_)
    exact hQ
  by_cases c7 : f.kind = .ofNat 7
  · rw [if_pos (.inr (.inr c7))] at hQ
    repeat (first | ((first | apply Xk.sAny | apply Xk.tAny); (case hok => rfl); (case h => intro C hC; simp (disch := omega) only [w1, ↓reduceIte, Nat.reduceEqDiff, Nat.reduceLeDiff, Nat.reduceAdd, Nat.reduceSub, hbx, hg, a0, a1, a2, a3, a4, a5, a6, a7, a8, a9, a10, a11, a12, a13, c4, c5, decide_eq_true c7]; with_reducible exact hC); refine gc ?_) | refine gm ?_)
    repeat (first | ((first | apply Xk.sAny | apply Xk.tAny); (case hok => rfl); (case h => intro C hC; simp (disch := omega) only [w1, ↓reduceIte, Nat.reduceEqDiff, Nat.reduceLeDiff, Nat.reduceAdd, Nat.reduceSub, hbx, hg, a0, a1, a2, a3, a4, a5, a6, a7, a8, a9, a10, a11, a12, a13, c4, c5, decide_eq_true c7]; with_reducible exact hC); refine gc ?_) | refine gm ?_)
    exact hQ
  rw [if_neg (fun h => h.elim c4 (fun h => h.elim c5 c7))] at hQ
  by_cases d1 : f.role = .ofNat 1
  · have e0 : ¬ f.role = .ofNat 0 := fun e => by rw [d1] at e; exact absurd e (by decide)
    have e2 : decide (f.role = .ofNat 1) = true := decide_eq_true d1
    simp only [e2, Bool.or_true, Bool.true_or, ite_self] at hQ
    repeat (first | ((first | apply Xk.sAny | apply Xk.tAny); (case hok => rfl); (case h => intro C hC; simp (disch := omega) only [w1, ↓reduceIte, Nat.reduceEqDiff, Nat.reduceLeDiff, Nat.reduceAdd, Nat.reduceSub, hbx, hg, a0, a1, a2, a3, a4, a5, a6, a7, a8, a9, a10, a11, a12, a13, c4, c5, c7, e2]; with_reducible exact hC); refine gc ?_) | refine gm ?_)
    repeat (first | ((first | apply Xk.sAny | apply Xk.tAny); (case hok => rfl); (case h => intro C hC; simp (disch := omega) only [w1, ↓reduceIte, Nat.reduceEqDiff, Nat.reduceLeDiff, Nat.reduceAdd, Nat.reduceSub, hbx, hg, a0, a1, a2, a3, a4, a5, a6, a7, a8, a9, a10, a11, a12, a13, c4, c5, c7, e2]; with_reducible exact hC); refine gc ?_) | refine gm ?_)
    exact hQ
  by_cases d2 : f.role = .ofNat 2
  · have e2 : decide (f.role = .ofNat 2) = true := decide_eq_true d2
    simp only [e2, Bool.or_true, ite_self] at hQ
    repeat (first | ((first | apply Xk.sAny | apply Xk.tAny); (case hok => rfl); (case h => intro C hC; simp (disch := omega) only [w1, ↓reduceIte, Nat.reduceEqDiff, Nat.reduceLeDiff, Nat.reduceAdd, Nat.reduceSub, hbx, hg, a0, a1, a2, a3, a4, a5, a6, a7, a8, a9, a10, a11, a12, a13, c4, c5, c7, d1, e2]; with_reducible exact hC); refine gc ?_) | refine gm ?_)
    repeat (first | ((first | apply Xk.sAny | apply Xk.tAny); (case hok => rfl); (case h => intro C hC; simp (disch := omega) only [w1, ↓reduceIte, Nat.reduceEqDiff, Nat.reduceLeDiff, Nat.reduceAdd, Nat.reduceSub, hbx, hg, a0, a1, a2, a3, a4, a5, a6, a7, a8, a9, a10, a11, a12, a13, c4, c5, c7, d1, e2]; with_reducible exact hC); refine gc ?_) | refine gm ?_)
    exact hQ
  by_cases c6 : f.kind = .ofNat 6
  · rw [if_pos c6] at hQ
    simp only [decide_eq_false d1, decide_eq_false d2, Bool.or_false] at hQ
    repeat (first | ((first | apply Xk.sAny | apply Xk.tAny); (case hok => rfl); (case h => intro C hC; simp (disch := omega) only [w1, ↓reduceIte, Nat.reduceEqDiff, Nat.reduceLeDiff, Nat.reduceAdd, Nat.reduceSub, hbx, hg, a0, a1, a2, a3, a4, a5, a6, a7, a8, a9, a10, a11, a12, a13, c4, c5, c7, d1, d2, decide_eq_true c6]; with_reducible exact hC); refine gc ?_) | refine gm ?_)
    repeat (first | ((first | apply Xk.sAny | apply Xk.tAny); (case hok => rfl); (case h => intro C hC; simp (disch := omega) only [w1, ↓reduceIte, Nat.reduceEqDiff, Nat.reduceLeDiff, Nat.reduceAdd, Nat.reduceSub, hbx, hg, a0, a1, a2, a3, a4, a5, a6, a7, a8, a9, a10, a11, a12, a13, c4, c5, c7, d1, d2, decide_eq_true c6]; with_reducible exact hC); refine gc ?_) | refine gm ?_)
    exact hQ
  rw [if_neg c6] at hQ
  simp only [decide_eq_false d1, decide_eq_false d2, Bool.or_false] at hQ
  repeat (first | ((first | apply Xk.sAny | apply Xk.tAny); (case hok => rfl); (case h => intro C hC; simp (disch := omega) only [w1, ↓reduceIte, Nat.reduceEqDiff, Nat.reduceLeDiff, Nat.reduceAdd, Nat.reduceSub, hbx, hg, a0, a1, a2, a3, a4, a5, a6, a7, a8, a9, a10, a11, a12, a13, c4, c5, c7, d1, d2, c6]; with_reducible exact hC); refine gc ?_) | refine gm ?_)
  repeat (first | ((first | apply Xk.sAny | apply Xk.tAny); (case hok => rfl); (case h => intro C hC; simp (disch := omega) only [w1, ↓reduceIte, Nat.reduceEqDiff, Nat.reduceLeDiff, Nat.reduceAdd, Nat.reduceSub, hbx, hg, a0, a1, a2, a3, a4, a5, a6, a7, a8, a9, a10, a11, a12, a13, c4, c5, c7, d1, d2, c6]; with_reducible exact hC); refine gc ?_) | refine gm ?_)
  exact hQ
end Go.Proofs.Ytcpcajfmkmgjeaa
