/- Layer 21: the law TaskRecords, over the clean machine. Conditions: none. -/
import Derived.Test.YtfcjmllbejpbbaaGreatDoorPkI
namespace Go.Proofs.YtfcjmllbejpbbaaGreatDoor
open Go.Dp
set_option linter.unusedSimpArgs false
set_option linter.unusedVariables false
set_option maxHeartbeats 400000
set_option maxRecDepth 8000
attribute [local irreducible] Ex.thnK Ex.inK Ret

theorem TRuns_ev (H : Heap) (Q : AV → Heap → Prop) (hQ : Q (.bool true) H) : Eo lib n_depotlaw21_TaskRuns [] H Q := Eo.runs rfl hQ

theorem gr_put {a : List Int} (ha : RecOk a) : gr (put5 a) = if Rng a then (a, true) else ([0, 0, 0, 0, 0], false) := by
  have h := rns_put5 a ha.2 [] []
  rw [List.append_nil, List.nil_append, ha.1] at h
  have h : rns (put5 a) 5 (0, 0) = ((0 + (put5 a).length, 0), a) := h
  rw [gr_of h]
  have : ((0 : Nat) = 0 ∧ ¬ 0 + (put5 a).length < (put5 a).length) ∧ Rng a ↔ Rng a := ⟨fun h => h.2, fun h => ⟨⟨rfl, by omega⟩, h⟩⟩
  by_cases c : Rng a
  · rw [if_pos (this.2 c), if_pos c]
  · rw [if_neg (fun h => c (this.1 h)), if_neg c]
theorem gr_len (s : List UInt8) : (gr s).1.length = 5 := by
  unfold gr
  split
  · show (rns s 5 (0, 0)).2.length = 5
    simp only [rns, List.length_cons, List.length_nil]
  · rfl
theorem eqa_self (l : List Int) (h : l.length = 5) : negIf false (aggEq [.i .i64, .i .i64, .i .i64, .i .i64, .i .i64] (.agg (l.map (.int .i64))) (.agg (l.map (.int .i64)))) = some (.bool true) := by
  obtain ⟨x0, x1, x2, x3, x4, rfl⟩ := len5 h
  simp [aggEq, cellsEq, scEq, both, negIf, kbeq_eq, ibeq_eq]
theorem eqv_self (q : Bool) : negIf false (eqv .b (.bool q) (.bool q)) = some (.bool true) := by cases q <;> rfl

theorem Records_law (a : List Int) (ha : RecOk a) (s : List UInt8) (hs : s.length < 9223372036854775808) (H : Heap) : Eo lib n_depotlaw21_TaskRecords [.agg (a.map (.int .i64)), .str s] H fun v _ => v = .bool true := by
  refine Eo.ok fun hOk => ?_
  refine Eo.code at_depotlaw21_TaskRecords rfl ?_
  obtain ⟨x0, x1, x2, x3, x4, rfl⟩ := ha.mk5
  show Xk lib _ _ (argsK 0 [.agg [.int .i64 x0, .int .i64 x1, .int .i64 x2, .int .i64 x3, .int .i64 x4], .str s]) H _
  have hbx : nBox [.int .i64 x0, .int .i64 x1, .int .i64 x2, .int .i64 x3, .int .i64 x4] = some (.cells [.int .i64 x0, .int .i64 x1, .int .i64 x2, .int .i64 x3, .int .i64 x4] 1, ptrTo) := rfl
  repeat (first | ((first | apply Xk.sAny | apply Xk.tAny); (case hok => rfl); (case h => intro C hC; simp (disch := omega) only [w1, ↓reduceIte, Nat.reduceEqDiff, Nat.reduceLeDiff, Nat.reduceAdd, Nat.reduceSub, hbx]; with_reducible exact hC); refine gc ?_) | refine gm ?_)
  repeat (first | ((first | apply Xk.sAny | apply Xk.tAny); (case hok => rfl); (case h => intro C hC; simp (disch := omega) only [w1, ↓reduceIte, Nat.reduceEqDiff, Nat.reduceLeDiff, Nat.reduceAdd, Nat.reduceSub, hbx]; with_reducible exact hC); refine gc ?_) | refine gm ?_)
  refine Xk.cut [1, 2] (fun k H' => ∃ s' : List UInt8, k = [(1, .str s'), (2, .ptr H.next 0)] ∧ s'.length ≤ 200 ∧ H' = H.new (.cells [.int .i64 x0, .int .i64 x1, .int .i64 x2, .int .i64 x3, .int .i64 x4] 1)) ?_ ?_
  · refine Xk.if_ rfl rfl (fun c => ?_) (fun c => ?_)
    · have c2 : (200 : Nat) ≤ s.length := by omega
      repeat (first | ((first | apply Xk.sAny | apply Xk.tAny); (case hok => rfl); (case h => intro C hC; simp (disch := omega) only [w1, ↓reduceIte, Nat.reduceEqDiff, Nat.reduceLeDiff, Nat.reduceAdd, Nat.reduceSub, c2]; with_reducible exact hC); refine gc ?_) | refine gm ?_)
      exact ⟨rfl, _, rfl, by rw [List.length_take]; omega, rfl⟩
    · repeat (first | ((first | apply Xk.sAny | apply Xk.tAny); (case hok => rfl); (case h => intro C hC; simp (disch := omega) only [w1, ↓reduceIte, Nat.reduceEqDiff, Nat.reduceLeDiff, Nat.reduceAdd, Nat.reduceSub]; with_reducible exact hC); refine gc ?_) | refine gm ?_)
      exact ⟨rfl, _, rfl, by omega, rfl⟩
  rintro k H' ⟨s, rfl, hs, rfl⟩
  obtain ⟨T0, s0, a0⟩ := new1 (T := fun _ => (2, 0, 0)) hOk (1, 0, 0) (.cells [.int .i64 x0, .int .i64 x1, .int .i64 x2, .int .i64 x3, .int .i64 x4] 1)
  generalize H.new (.cells [.int .i64 x0, .int .i64 x1, .int .i64 x2, .int .i64 x3, .int .i64 x4] 1) = H0 at s0 a0 ⊢
  generalize H.next = pa at a0 ⊢
  have g0 := a0.1
  have hpl := put5_len _ ha.2
  rw [ha.1] at hpl
  rcases hgs : gr s with ⟨ys, b⟩
  have hl := gr_len s
  rw [hgs] at hl
  obtain ⟨y0, y1, y2, y3, y4, rfl⟩ := len5 hl
  rcases hgp : gr (put5 [x0, x1, x2, x3, x4]) with ⟨us, c⟩
  have hlu := gr_len (put5 [x0, x1, x2, x3, x4])
  rw [hgp] at hlu
  have hup := gr_put ha
  rw [hgp] at hup
  obtain ⟨u0, u1, u2, u3, u4, rfl⟩ := len5 hlu
  have ey : negIf false (aggEq [.i .i64, .i .i64, .i .i64, .i .i64, .i .i64] (.agg [.int .i64 y0, .int .i64 y1, .int .i64 y2, .int .i64 y3, .int .i64 y4]) (.agg [.int .i64 y0, .int .i64 y1, .int .i64 y2, .int .i64 y3, .int .i64 y4])) = some (.bool true) := eqa_self [y0, y1, y2, y3, y4] rfl
  have eb := eqv_self b
  have ec := eqv_self c
  repeat (first | ((first | apply Xk.sAny | apply Xk.tAny); (case hok => rfl); (case h => intro C hC; simp (disch := omega) only [w1, ↓reduceIte, Nat.reduceEqDiff, Nat.reduceLeDiff, Nat.reduceAdd, Nat.reduceSub, g0]; with_reducible exact hC); refine gc ?_) | refine gm ?_)
  refine PutRecord_ev 0 T0 H0 [x0, x1, x2, x3, x4] ha _ fun T1 H1 s1 => ?_
  have a1 := a0.step s1 (by decide)
  repeat (first | ((first | apply Xk.sAny | apply Xk.tAny); (case hok => rfl); (case h => intro C hC; simp (disch := omega) only [w1, ↓reduceIte, Nat.reduceEqDiff, Nat.reduceLeDiff, Nat.reduceAdd, Nat.reduceSub]; with_reducible exact hC); refine gc ?_) | refine gm ?_)
  repeat (first | ((first | apply Xk.sAny | apply Xk.tAny); (case hok => rfl); (case h => intro C hC; simp (disch := omega) only [w1, ↓reduceIte, Nat.reduceEqDiff, Nat.reduceLeDiff, Nat.reduceAdd, Nat.reduceSub]; with_reducible exact hC); refine gc ?_) | refine gm ?_)
  refine GetRecord_ev 0 T1 H1 s (by omega) _ fun T2 H2 s2 => ?_
  rw [hgs]
  have a2 := a1.step s2 (by decide)
  show Xk lib _ _ ((_, .tup [.agg [.int .i64 y0, .int .i64 y1, .int .i64 y2, .int .i64 y3, .int .i64 y4], .bool b]) :: _) _ _
  repeat (first | ((first | apply Xk.sAny | apply Xk.tAny); (case hok => rfl); (case h => intro C hC; simp (disch := omega) only [w1, ↓reduceIte, Nat.reduceEqDiff, Nat.reduceLeDiff, Nat.reduceAdd, Nat.reduceSub]; with_reducible exact hC); refine gc ?_) | refine gm ?_)
  repeat (first | ((first | apply Xk.sAny | apply Xk.tAny); (case hok => rfl); (case h => intro C hC; simp (disch := omega) only [w1, ↓reduceIte, Nat.reduceEqDiff, Nat.reduceLeDiff, Nat.reduceAdd, Nat.reduceSub]; with_reducible exact hC); refine gc ?_) | refine gm ?_)
  obtain ⟨T3, s3, p3⟩ := new1 (T := T2) s2.ok (1, 1, 0) (.cells [.int .i64 y0, .int .i64 y1, .int .i64 y2, .int .i64 y3, .int .i64 y4] 1)
  have a3 := a2.step s3 (fun h => h)
  generalize H2.new (.cells [.int .i64 y0, .int .i64 y1, .int .i64 y2, .int .i64 y3, .int .i64 y4] 1) = H3 at s3 a3 p3 ⊢
  generalize H2.next = pb at p3 ⊢
  refine gGetRecord_ev 0 T3 H3 s (by omega) _ fun T4 H4 s4 => ?_
  rw [hgs]
  have a4 := a3.step s4 (by decide)
  have p4 := p3.step s4 (by decide)
  repeat (first | ((first | apply Xk.sAny | apply Xk.tAny); (case hok => rfl); (case h => intro C hC; simp (disch := omega) only [w1, ↓reduceIte, Nat.reduceEqDiff, Nat.reduceLeDiff, Nat.reduceAdd, Nat.reduceSub]; with_reducible exact hC); refine gc ?_) | refine gm ?_)
  repeat (first | ((first | apply Xk.sAny | apply Xk.tAny); (case hok => rfl); (case h => intro C hC; simp (disch := omega) only [w1, ↓reduceIte, Nat.reduceEqDiff, Nat.reduceLeDiff, Nat.reduceAdd, Nat.reduceSub]; with_reducible exact hC); refine gc ?_) | refine gm ?_)
  obtain ⟨T5, s5, q5⟩ := new1 (T := T4) s4.ok (1, 2, 0) (.cells [.int .i64 y0, .int .i64 y1, .int .i64 y2, .int .i64 y3, .int .i64 y4] 1)
  have a5 := a4.step s5 (fun h => h)
  have p5 := p4.step s5 (fun h => h)
  generalize H4.new (.cells [.int .i64 y0, .int .i64 y1, .int .i64 y2, .int .i64 y3, .int .i64 y4] 1) = H5 at s5 a5 p5 q5 ⊢
  generalize H4.next = pc at q5 ⊢
  refine GetRecord_ev 0 T5 H5 (put5 [x0, x1, x2, x3, x4]) (by omega) _ fun T6 H6 s6 => ?_
  rw [hgp]
  have a6 := a5.step s6 (by decide)
  have p6 := p5.step s6 (by decide)
  have q6 := q5.step s6 (by decide)
  repeat (first | ((first | apply Xk.sAny | apply Xk.tAny); (case hok => rfl); (case h => intro C hC; simp (disch := omega) only [w1, ↓reduceIte, Nat.reduceEqDiff, Nat.reduceLeDiff, Nat.reduceAdd, Nat.reduceSub]; with_reducible exact hC); refine gc ?_) | refine gm ?_)
  repeat (first | ((first | apply Xk.sAny | apply Xk.tAny); (case hok => rfl); (case h => intro C hC; simp (disch := omega) only [w1, ↓reduceIte, Nat.reduceEqDiff, Nat.reduceLeDiff, Nat.reduceAdd, Nat.reduceSub]; with_reducible exact hC); refine gc ?_) | refine gm ?_)
  obtain ⟨T7, s7, r7⟩ := new1 (T := T6) s6.ok (1, 3, 0) (.cells [.int .i64 u0, .int .i64 u1, .int .i64 u2, .int .i64 u3, .int .i64 u4] 1)
  have a7 := a6.step s7 (fun h => h)
  have p7 := p6.step s7 (fun h => h)
  have q7 := q6.step s7 (fun h => h)
  generalize H6.new (.cells [.int .i64 u0, .int .i64 u1, .int .i64 u2, .int .i64 u3, .int .i64 u4] 1) = H7 at s7 a7 p7 q7 r7 ⊢
  generalize H6.next = pd at r7 ⊢
  refine gGetRecord_ev 0 T7 H7 (put5 [x0, x1, x2, x3, x4]) (by omega) _ fun T8 H8 s8 => ?_
  rw [hgp]
  have a8 := a7.step s8 (by decide)
  have p8 := p7.step s8 (by decide)
  have q8 := q7.step s8 (by decide)
  have r8 := r7.step s8 (by decide)
  repeat (first | ((first | apply Xk.sAny | apply Xk.tAny); (case hok => rfl); (case h => intro C hC; simp (disch := omega) only [w1, ↓reduceIte, Nat.reduceEqDiff, Nat.reduceLeDiff, Nat.reduceAdd, Nat.reduceSub]; with_reducible exact hC); refine gc ?_) | refine gm ?_)
  repeat (first | ((first | apply Xk.sAny | apply Xk.tAny); (case hok => rfl); (case h => intro C hC; simp (disch := omega) only [w1, ↓reduceIte, Nat.reduceEqDiff, Nat.reduceLeDiff, Nat.reduceAdd, Nat.reduceSub]; with_reducible exact hC); refine gc ?_) | refine gm ?_)
  obtain ⟨T9, s9, _⟩ := new1 (T := T8) s8.ok (1, 4, 0) (.cells [.int .i64 u0, .int .i64 u1, .int .i64 u2, .int .i64 u3, .int .i64 u4] 1)
  have a9 := a8.step s9 (fun h => h)
  have p9 := p8.step s9 (fun h => h)
  have q9 := q8.step s9 (fun h => h)
  have r9 := r8.step s9 (fun h => h)
  generalize H8.new (.cells [.int .i64 u0, .int .i64 u1, .int .i64 u2, .int .i64 u3, .int .i64 u4] 1) = H9 at s9 a9 p9 q9 r9 ⊢
  have g9 := a9.1
  repeat (first | ((first | apply Xk.sAny | apply Xk.tAny); (case hok => rfl); (case h => intro C hC; simp (disch := omega) only [w1, ↓reduceIte, Nat.reduceEqDiff, Nat.reduceLeDiff, Nat.reduceAdd, Nat.reduceSub, g9]; with_reducible exact hC); refine gc ?_) | refine gm ?_)
  refine gPutRecord_ev 0 T9 H9 [x0, x1, x2, x3, x4] ha _ fun TA HA sA => ?_
  have ga := (a9.step sA (by decide)).1
  have gp := (p9.step sA (by decide)).1
  have gq := (q9.step sA (by decide)).1
  have gr' := (r9.step sA (by decide)).1
  by_cases cr : Rng [x0, x1, x2, x3, x4]
  · rw [if_pos cr] at hup
    obtain ⟨⟨rfl, rfl, rfl, rfl, rfl⟩, rfl⟩ : (u0 = x0 ∧ u1 = x1 ∧ u2 = x2 ∧ u3 = x3 ∧ u4 = x4) ∧ c = true := by simpa using hup
    have eu : negIf false (aggEq [.i .i64, .i .i64, .i .i64, .i .i64, .i .i64] (.agg [.int .i64 u0, .int .i64 u1, .int .i64 u2, .int .i64 u3, .int .i64 u4]) (.agg [.int .i64 u0, .int .i64 u1, .int .i64 u2, .int .i64 u3, .int .i64 u4])) = some (.bool true) := eqa_self [u0, u1, u2, u3, u4] rfl
    repeat (first | ((first | apply Xk.sAny | apply Xk.tAny); (case hok => rfl); (case h => intro C hC; simp (disch := omega) only [w1, ↓reduceIte, Nat.reduceEqDiff, Nat.reduceLeDiff, Nat.reduceAdd, Nat.reduceSub, ga, gp, gq, gr', ey, eb, ec, eu]; with_reducible exact hC); refine gc ?_) | refine gm ?_)
    refine TRuns_ev _ _ ?_
    repeat (first | ((first | apply Xk.sAny | apply Xk.tAny); (case hok => rfl); (case h => intro C hC; simp (disch := omega) only [w1, ↓reduceIte, Nat.reduceEqDiff, Nat.reduceLeDiff, Nat.reduceAdd, Nat.reduceSub]; with_reducible exact hC); refine gc ?_) | refine gm ?_)
    rfl
  · rw [if_neg cr] at hup
    obtain rfl : c = false := (Prod.mk.inj hup).2
    repeat (first | ((first | apply Xk.sAny | apply Xk.tAny); (case hok => rfl); (case h => intro C hC; simp (disch := omega) only [w1, ↓reduceIte, Nat.reduceEqDiff, Nat.reduceLeDiff, Nat.reduceAdd, Nat.reduceSub, ga, gp, gq, gr', ey, eb, ec]; with_reducible exact hC); refine gc ?_) | refine gm ?_)
    refine TRuns_ev _ _ ?_
    repeat (first | ((first | apply Xk.sAny | apply Xk.tAny); (case hok => rfl); (case h => intro C hC; simp (disch := omega) only [w1, ↓reduceIte, Nat.reduceEqDiff, Nat.reduceLeDiff, Nat.reduceAdd, Nat.reduceSub]; with_reducible exact hC); refine gc ?_) | refine gm ?_)
    rfl
end Go.Proofs.YtfcjmllbejpbbaaGreatDoor
