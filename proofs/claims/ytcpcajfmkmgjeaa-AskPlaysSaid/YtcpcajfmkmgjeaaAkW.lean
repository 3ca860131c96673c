/- Layer 19: are two rows the same? Conditions: none. -/
import Derived.Test.YtcpcajfmkmgjeaaAkV
import Derived.Test.YtcpcajfmkmgjeaaAkN
namespace Go.Proofs.Ytcpcajfmkmgjeaa
open Go.Dp
set_option linter.unusedSimpArgs false
set_option linter.unusedVariables false
set_option maxHeartbeats 400000
set_option maxRecDepth 8000
attribute [local irreducible] Ex.thnK Ex.inK Ret

theorem SameI_ev (v w : AV) (z : List Int) (H : Heap) (hv : Sl H 1 v (ints z)) (hw : Sl H 1 w (ints z)) (hl : z.length ≤ 100000) (Q : AV → Heap → Prop) (hQ : Q (.bool true) H) : Eo lib n_depotbook_Same_int [v, w] H Q := by
  refine Eo.ok fun hOk => ?_
  refine Eo.code at_depotbook_Same_int rfl ?_
  have h1 := slints_len hv
  have h2 := slints_len hw
  have hnn : ∀ x : Int, (!decide (x = x)) = false := fun x => by rw [decide_eq_true rfl]; rfl
  have hn0 : ∀ x : Nat, (!decide (x = x)) = false := fun x => by rw [decide_eq_true rfl]; rfl
  have nbt : (!true) = false := rfl
  repeat (first | ((first | apply Xk.sAny | apply Xk.tAny); (case hok => rfl); (case h => intro C hC; simp (disch := omega) only [w1, ↓reduceIte, Nat.reduceEqDiff, Nat.reduceLeDiff, Nat.reduceAdd, Nat.reduceSub, h1, h2, hnn, hn0, nbt]; with_reducible exact hC); refine gc ?_) | refine gm ?_)
  refine Xk.iter [0, 1, 5] (fun m k G => ∃ i, m = z.length - i ∧ i ≤ z.length ∧ G = H ∧ k = [(0, v), (1, w), (5, .int .i64 (.ofNat i))]) rfl ⟨_, 0, rfl, Nat.zero_le _, rfl, rfl⟩ ?_
  rintro m k G ⟨i, rfl, hi, rfl, rfl⟩
  unfold l0_depotbook_Same_int
  by_cases c : i < z.length
  · obtain ⟨b1, o1, l1, w1', e1, g1, q1, r1⟩ := slints_row hv c
    obtain ⟨b2, o2, l2, w2', e2, g2, q2, r2⟩ := slints_row hw c
    subst e1 e2
    generalize z.getD i 0 = x at r1 r2
    repeat (first | ((first | apply Xk.sAny | apply Xk.tAny); (case hok => rfl); (case h => intro C hC; simp (disch := omega) only [w1, ↓reduceIte, Nat.reduceEqDiff, Nat.reduceLeDiff, Nat.reduceAdd, Nat.reduceSub, c, h1, h2, g1, g2, q1, q2, r1, r2, hnn, nbt]; with_reducible exact hC); refine gc ?_) | refine gm ?_)
    exact ⟨rfl, _, by omega, i + 1, rfl, by omega, rfl, rfl⟩
  · repeat (first | ((first | apply Xk.sAny | apply Xk.tAny); (case hok => rfl); (case h => intro C hC; simp (disch := omega) only [w1, ↓reduceIte, Nat.reduceEqDiff, Nat.reduceLeDiff, Nat.reduceAdd, Nat.reduceSub, c, h1]; with_reducible exact hC); refine gc ?_) | refine gm ?_)
    exact hQ

abbrev frK : List CK := [CK.i IntKind.i64, CK.i IntKind.i64, CK.i IntKind.i64, CK.i IntKind.i64, CK.i IntKind.i64, CK.i IntKind.i64, CK.s, CK.i IntKind.i64, CK.s]
theorem agg_same (x : Fr) : negIf true (aggEq frK (.agg x.cells) (.agg x.cells)) = some (.bool false) := by
  simp [aggEq, frK, Fr.cells, cellsEq, scEq, both, negIf, kbeq_eq, ibeq_eq, beqB_eq]

theorem SameF_ev (v w : AV) (z : List Fr) (H : Heap) (hv : Sl H 9 v (frs z)) (hw : Sl H 9 w (frs z)) (hl : z.length ≤ 100000) (Q : AV → Heap → Prop) (hQ : Q (.bool true) H) : Eo lib n_depotbook_Same_api_Frame [v, w] H Q := by
  refine Eo.ok fun hOk => ?_
  refine Eo.code at_depotbook_Same_api_Frame rfl ?_
  obtain ⟨h1, _, _⟩ := Sl.lensG (g := Fr.cells) (fun _ => rfl) hv (by decide)
  obtain ⟨h2, _, _⟩ := Sl.lensG (g := Fr.cells) (fun _ => rfl) hw (by decide)
  have nbt : (!true) = false := rfl
  repeat (first | ((first | apply Xk.sAny | apply Xk.tAny); (case hok => rfl); (case h => intro C hC; simp (disch := omega) only [w1, ↓reduceIte, Nat.reduceEqDiff, Nat.reduceLeDiff, Nat.reduceAdd, Nat.reduceSub, h1, h2, nbt]; with_reducible exact hC); refine gc ?_) | refine gm ?_)
  refine Xk.iter [0, 1, 5] (fun m k G => ∃ i, m = z.length - i ∧ i ≤ z.length ∧ G = H ∧ k = [(0, v), (1, w), (5, .int .i64 (.ofNat i))]) rfl ⟨_, 0, rfl, Nat.zero_le _, rfl, rfl⟩ ?_
  rintro m k G ⟨i, rfl, hi, rfl, rfl⟩
  unfold l0_depotbook_Same_api_Frame
  by_cases c : i < z.length
  · obtain ⟨b1, o1, l1, w1', e1, g1, hr1⟩ := Sl.rowG (g := Fr.cells) (fun _ => rfl) noFr hv (by omega) (by decide)
    obtain ⟨b2, o2, l2, w2', e2, g2, hr2⟩ := Sl.rowG (g := Fr.cells) (fun _ => rfl) noFr hw (by omega) (by decide)
    obtain ⟨q1, t1, s1⟩ := hr1 i c
    obtain ⟨q2, t2, s2⟩ := hr2 i c
    obtain ⟨_, _, r1⟩ := frs_at z c l1 o1 s1
    obtain ⟨_, _, r2⟩ := frs_at z c l2 o2 s2
    subst e1 e2
    generalize z.getD i noFr = x at r1 r2
    have hag := agg_same x
    simp only [Fr.cells, frK] at r1 r2 hag
    repeat (first | ((first | apply Xk.sAny | apply Xk.tAny); (case hok => rfl); (case h => intro C hC; simp (disch := omega) only [w1, ↓reduceIte, Nat.reduceEqDiff, Nat.reduceLeDiff, Nat.reduceAdd, Nat.reduceSub, c, h1, h2, g1, g2, q1, q2, r1, r2, nbt, hag]; with_reducible exact hC); refine gc ?_) | refine gm ?_)
    exact ⟨rfl, _, by omega, i + 1, rfl, by omega, rfl, rfl⟩
  · repeat (first | ((first | apply Xk.sAny | apply Xk.tAny); (case hok => rfl); (case h => intro C hC; simp (disch := omega) only [w1, ↓reduceIte, Nat.reduceEqDiff, Nat.reduceLeDiff, Nat.reduceAdd, Nat.reduceSub, c, h1]; with_reducible exact hC); refine gc ?_) | refine gm ?_)
    exact hQ
end Go.Proofs.Ytcpcajfmkmgjeaa
