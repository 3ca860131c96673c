/- Layer 14: the law AnswerTells, over the clean machine. Conditions: none. -/
import Derived.Test.YtkjmelfgopammaaDoorAnM
namespace Go.Proofs.YtkjmelfgopammaaDoor
open Go.Dp
set_option linter.unusedSimpArgs false
set_option linter.unusedVariables false
set_option maxHeartbeats 2000000
set_option maxRecDepth 8000
attribute [local irreducible] Ex.thnK Ex.inK Ret

theorem box_req (q : Bool) : nBox [.int .i64 (.ofNat 0), .nils, .int .i64 (.ofNat 0), .int .i64 (.ofNat 0), .int .i64 (.ofNat 0), .int .i64 (.ofNat 0), .int .u64 (.ofNat 0), .bool q, .str []] = some (.cells [.int .i64 (.ofNat 0), .nils, .int .i64 (.ofNat 0), .int .i64 (.ofNat 0), .int .i64 (.ofNat 0), .int .i64 (.ofNat 0), .int .u64 (.ofNat 0), .bool q, .str []] 1, ptrTo) := rfl

theorem Quiet_ev (q : Bool) (a : An) (va : AV) (hv : va.isSc = true) (H : Heap) (Q : AV → Heap → Prop) (hQ : ∀ H', H'.Ok → HLe H H' → Q (.bool (q && !decide (a.k = .ofNat 13))) H') :
    Eo lib n_answer_Quiet [.agg [.int .i64 (.ofNat 0), .nils, .int .i64 (.ofNat 0), .int .i64 (.ofNat 0), .int .i64 (.ofNat 0), .int .i64 (.ofNat 0), .int .u64 (.ofNat 0), .bool q, .str []], .agg (a.cells va)] H Q := by
  refine Eo.ok fun hOk => ?_
  refine Eo.code at_answer_Quiet rfl ?_
  have bxa := box_ans (kind := a.k) (gets := a.gets) (num := a.num) (text := a.text) (s0 := a.s0) (s1 := a.s1) (s2 := a.s2) (s3 := a.s3) hv
  have bxr := box_req q
  unfold An.cells ansC
  cases q with
  | false =>
    repeat (first | ((first | apply Xk.sAny | apply Xk.tAny); (case hok => rfl); (case h => intro C hC; simp (disch := omega) only [w1, ↓reduceIte, Nat.reduceEqDiff, Nat.reduceLeDiff, Nat.reduceAdd, Nat.reduceSub, bxa, bxr]; with_reducible exact hC); refine gc ?_) | refine gm ?_)
    repeat (first | ((first | apply Xk.sAny | apply Xk.tAny); (case hok => rfl); (case h => intro C hC; simp (disch := omega) only [w1, ↓reduceIte, Nat.reduceEqDiff, Nat.reduceLeDiff, Nat.reduceAdd, Nat.reduceSub, bxa, bxr]; with_reducible exact hC); refine gc ?_) | refine gm ?_)
    exact hQ _ ((hOk.new _).new _) (((HLe.refl H).new_ hOk _).new_ (hOk.new _) _)
  | true =>
    by_cases c : a.k = .ofNat 13
    · rw [decide_eq_true c] at hQ
      rw [c] at bxa ⊢
      repeat (first | ((first | apply Xk.sAny | apply Xk.tAny); (case hok => rfl); (case h => intro C hC; simp (disch := omega) only [w1, ↓reduceIte, Nat.reduceEqDiff, Nat.reduceLeDiff, Nat.reduceAdd, Nat.reduceSub, bxa, bxr]; with_reducible exact hC); refine gc ?_) | refine gm ?_)
      repeat (first | ((first | apply Xk.sAny | apply Xk.tAny); (case hok => rfl); (case h => intro C hC; simp (disch := omega) only [w1, ↓reduceIte, Nat.reduceEqDiff, Nat.reduceLeDiff, Nat.reduceAdd, Nat.reduceSub, bxa, bxr]; with_reducible exact hC); refine gc ?_) | refine gm ?_)
      exact hQ _ ((hOk.new _).new _) (((HLe.refl H).new_ hOk _).new_ (hOk.new _) _)
    · rw [decide_eq_false c] at hQ
      repeat (first | ((first | apply Xk.sAny | apply Xk.tAny); (case hok => rfl); (case h => intro C hC; simp (disch := omega) only [w1, ↓reduceIte, Nat.reduceEqDiff, Nat.reduceLeDiff, Nat.reduceAdd, Nat.reduceSub, bxa, bxr, c]; with_reducible exact hC); refine gc ?_) | refine gm ?_)
      repeat (first | ((first | apply Xk.sAny | apply Xk.tAny); (case hok => rfl); (case h => intro C hC; simp (disch := omega) only [w1, ↓reduceIte, Nat.reduceEqDiff, Nat.reduceLeDiff, Nat.reduceAdd, Nat.reduceSub, bxa, bxr, c]; with_reducible exact hC); refine gc ?_) | refine gm ?_)
      exact hQ _ ((hOk.new _).new _) (((HLe.refl H).new_ hOk _).new_ (hOk.new _) _)

theorem Tells_law (a : An) (q : Bool) (va : AV) (H : Heap) (hT : Tab H) (ha : a.Ok) (hva : Sl H 4 va (rows a.l)) :
    Eo lib n_depotlaw14_AnswerTells [.agg (a.cells va), .bool q] H fun v _ => v = .bool true := by
  refine Eo.ok fun hOk => ?_
  refine Eo.code at_depotlaw14_AnswerTells rfl ?_
  obtain ⟨_, hv2, _⟩ := Sl.lens4 hva
  have bxa := box_ans (kind := a.k) (gets := a.gets) (num := a.num) (text := a.text) (s0 := a.s0) (s1 := a.s1) (s2 := a.s2) (s3 := a.s3) hv2
  have ga := Heap.get_new_self H (.cells (a.cells va) 1)
  have hO2 := hOk.new (.cells (a.cells va) 1)
  have hle2 := HLe.new (hOk _ (Nat.le_refl _)) (.cells (a.cells va) 1)
  unfold An.cells ansC at ga hO2 hle2 ⊢
  repeat (first | ((first | apply Xk.sAny | apply Xk.tAny); (case hok => rfl); (case h => intro C hC; simp (disch := omega) only [w1, ↓reduceIte, Nat.reduceEqDiff, Nat.reduceLeDiff, Nat.reduceAdd, Nat.reduceSub, bxa, ga]; with_reducible exact hC); refine gc ?_) | refine gm ?_)
  repeat (first | ((first | apply Xk.sAny | apply Xk.tAny); (case hok => rfl); (case h => intro C hC; simp (disch := omega) only [w1, ↓reduceIte, Nat.reduceEqDiff, Nat.reduceLeDiff, Nat.reduceAdd, Nat.reduceSub, bxa, ga]; with_reducible exact hC); refine gc ?_) | refine gm ?_)
  refine light_ev a.k va a.l a.gets a.num a.text a.s0 a.s1 a.s2 a.s3 _ (hva.mono hle2) ha.tlen ha.flen ha.len _ fun H3 hO3 hle3 => ?_
  have ga3 := hle3 _ _ ga
  have hL3 := hle2.trans hle3
  generalize H.next = na at ga3 ⊢
  clear ga hle3 hle2 hO2 bxa
  by_cases la : a.text.length + wt a.l ≤ 3000
  case neg =>
    rw [decide_eq_false la]
    repeat (first | ((first | apply Xk.sAny | apply Xk.tAny); (case hok => rfl); (case h => intro C hC; simp (disch := omega) only [w1, ↓reduceIte, Nat.reduceEqDiff, Nat.reduceLeDiff, Nat.reduceAdd, Nat.reduceSub, ga3]; with_reducible exact hC); refine gc ?_) | refine gm ?_)
    refine ARuns_ev _ _ ?_
    repeat (first | ((first | apply Xk.sAny | apply Xk.tAny); (case hok => rfl); (case h => intro C hC; simp (disch := omega) only [w1, ↓reduceIte, Nat.reduceEqDiff, Nat.reduceLeDiff, Nat.reduceAdd, Nat.reduceSub]; with_reducible exact hC); refine gc ?_) | refine gm ?_)
    rfl
  rw [decide_eq_true la]
  repeat (first | ((first | apply Xk.sAny | apply Xk.tAny); (case hok => rfl); (case h => intro C hC; simp (disch := omega) only [w1, ↓reduceIte, Nat.reduceEqDiff, Nat.reduceLeDiff, Nat.reduceAdd, Nat.reduceSub, ga3]; with_reducible exact hC); refine gc ?_) | refine gm ?_)
  repeat (first | ((first | apply Xk.sAny | apply Xk.tAny); (case hok => rfl); (case h => intro C hC; simp (disch := omega) only [w1, ↓reduceIte, Nat.reduceEqDiff, Nat.reduceLeDiff, Nat.reduceAdd, Nat.reduceSub, ga3]; with_reducible exact hC); refine gc ?_) | refine gm ?_)
  refine Text_ev a.k va a.l a.gets a.num a.text a.s0 a.s1 a.s2 a.s3 H3 (hT.mono hL3) (hva.mono hL3) (by omega) ha.num ha.f ha.h0 ha.h1 ha.h2 ha.h3 _ fun H4 hO4 hle4 => ?_
  have ga4 := hle4 _ _ ga3
  have hL4 := hL3.trans hle4
  have hag := fun (k : Kn) (H : Heap) (r : List It) => agV_same k H r (.agg [.int .i64 a.k, va, .bool a.gets, .int .u64 (.ofNat a.num), .str a.text, .int .i64 a.s0, .int .i64 a.s1, .int .i64 a.s2, .int .i64 a.s3]) (by
    have hs := Sl.same hva
    simp only [sameV, sameCells, hs]
    simp [sameAV, kbeq_eq, ibeq_eq, beqB_eq])
  repeat (first | ((first | apply Xk.sAny | apply Xk.tAny); (case hok => rfl); (case h => intro C hC; simp (disch := omega) only [w1, ↓reduceIte, Nat.reduceEqDiff, Nat.reduceLeDiff, Nat.reduceAdd, Nat.reduceSub, ga4, hag]; with_reducible exact hC); refine gc ?_) | refine gm ?_)
  refine refText_ev a.k va a.l a.gets a.num a.text a.s0 a.s1 a.s2 a.s3 H4 (hva.mono hL4) (by omega) ha.num ha.f ha.h0 ha.h1 ha.h2 ha.h3 _ fun H5 hO5 hle5 => ?_
  have ga5 := hle5 _ _ ga4
  generalize textB a.k a.gets a.l a.num a.text [a.s0, a.s1, a.s2, a.s3] = s
  repeat (first | ((first | apply Xk.sAny | apply Xk.tAny); (case hok => rfl); (case h => intro C hC; simp (disch := omega) only [w1, ↓reduceIte, Nat.reduceEqDiff, Nat.reduceLeDiff, Nat.reduceAdd, Nat.reduceSub, ga5]; with_reducible exact hC); refine gc ?_) | refine gm ?_)
  refine Quiet_ev q a va hv2 H5 _ fun H6 hO6 hle6 => ?_
  have ga6 := hle6 _ _ ga5
  have hEt : negIf false (eqv EK.b (AV.bool true) (AV.bool true)) = some (.bool true) := rfl
  have hEf : negIf false (eqv EK.b (AV.bool false) (AV.bool false)) = some (.bool true) := rfl
  cases q with
  | false =>
    rw [Bool.false_and]
    repeat (first | ((first | apply Xk.sAny | apply Xk.tAny); (case hok => rfl); (case h => intro C hC; simp (disch := omega) only [w1, ↓reduceIte, Nat.reduceEqDiff, Nat.reduceLeDiff, Nat.reduceAdd, Nat.reduceSub, ga6, hEt, hEf]; with_reducible exact hC); refine gc ?_) | refine gm ?_)
    refine ARuns_ev _ _ ?_
    repeat (first | ((first | apply Xk.sAny | apply Xk.tAny); (case hok => rfl); (case h => intro C hC; simp (disch := omega) only [w1, ↓reduceIte, Nat.reduceEqDiff, Nat.reduceLeDiff, Nat.reduceAdd, Nat.reduceSub]; with_reducible exact hC); refine gc ?_) | refine gm ?_)
    rfl
  | true =>
    by_cases c : a.k = .ofNat 13
    · rw [decide_eq_true c, show (true && !true) = false from rfl]
      rw [c] at ga6
      repeat (first | ((first | apply Xk.sAny | apply Xk.tAny); (case hok => rfl); (case h => intro C hC; simp (disch := omega) only [w1, ↓reduceIte, Nat.reduceEqDiff, Nat.reduceLeDiff, Nat.reduceAdd, Nat.reduceSub, ga6, hEt, hEf]; with_reducible exact hC); refine gc ?_) | refine gm ?_)
      refine ARuns_ev _ _ ?_
      repeat (first | ((first | apply Xk.sAny | apply Xk.tAny); (case hok => rfl); (case h => intro C hC; simp (disch := omega) only [w1, ↓reduceIte, Nat.reduceEqDiff, Nat.reduceLeDiff, Nat.reduceAdd, Nat.reduceSub]; with_reducible exact hC); refine gc ?_) | refine gm ?_)
      rfl
    · rw [decide_eq_false c, show (true && !false) = true from rfl]
      repeat (first | ((first | apply Xk.sAny | apply Xk.tAny); (case hok => rfl); (case h => intro C hC; simp (disch := omega) only [w1, ↓reduceIte, Nat.reduceEqDiff, Nat.reduceLeDiff, Nat.reduceAdd, Nat.reduceSub, ga6, c, hEt, hEf]; with_reducible exact hC); refine gc ?_) | refine gm ?_)
      refine ARuns_ev _ _ ?_
      repeat (first | ((first | apply Xk.sAny | apply Xk.tAny); (case hok => rfl); (case h => intro C hC; simp (disch := omega) only [w1, ↓reduceIte, Nat.reduceEqDiff, Nat.reduceLeDiff, Nat.reduceAdd, Nat.reduceSub]; with_reducible exact hC); refine gc ?_) | refine gm ?_)
      rfl
end Go.Proofs.YtkjmelfgopammaaDoor
