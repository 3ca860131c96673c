/- slices.Sort of texts: a partition; a row turned round. Conditions: none. -/
import Derived.Test.YtihoblfmhighpaaSoB
namespace Go.Proofs.Ytihoblfmhighpaa
open Go.Dp
set_option linter.unusedSimpArgs false
set_option linter.unusedVariables false
set_option maxHeartbeats 2000000
set_option maxRecDepth 8000
attribute [local irreducible] Ex.thnK Ex.inK Ret

theorem reverse_ev (c n a b : Nat) (rest : List AV) (H0 H : Heap) (z : List (List UInt8)) (h : SR c n rest H0 z H) (hab : a < b) (hb : b ≤ n) (hn : n < 1000000000) (Q : AV → Heap → Prop)
    (hQ : ∀ G w, SR c n rest H0 w G → PIn a b z w → Q (.tup []) G) : Eo lib n_slices_reverseRangeOrdered_string [.sl c 0 n 1, .int .i64 (.ofNat a), .int .i64 (.ofNat b)] H Q := by
  refine Eo.ok fun hOk => ?_
  refine Eo.code at_slices_reverseRangeOrdered_string rfl ?_
  have hb1 : 1 ≤ b := by omega
  iterate 2 repeat (first | ((first | apply Xk.sAny | apply Xk.tAny); (case hok => rfl); (case h => intro C hC; simp (disch := omega) only [w1, ↓reduceIte, Nat.reduceEqDiff, Nat.reduceLeDiff, Nat.reduceAdd, Nat.reduceSub, hb1]; with_reducible exact hC); refine gc ?_) | refine gm ?_)
  refine Xk.iter [0, 6, 7] (fun m k G => ∃ i j w, m = j + 1 - i ∧ a ≤ i ∧ i ≤ j + 1 ∧ j < b ∧ PIn a b z w ∧ SR c n rest H0 w G ∧
      k = [(0, .sl c 0 n 1), (6, .int .i64 (.ofNat i)), (7, .int .i64 (.ofNat j))]) rfl ⟨_, a, b - 1, z, rfl, Nat.le_refl _, by omega, by omega, PIn.refl _ _ _, h, rfl⟩ ?_
  rintro m k G ⟨i, j, w, rfl, hi, hij, hj, hp, hR, rfl⟩
  unfold l0_slices_reverseRangeOrdered_string
  have hl := hR.ln
  by_cases ci : i < j
  · obtain ⟨cl, cl1, g, k1, k2, l1, l2, o1, l3, l4, R2⟩ := hR.at2 (i := i) (j := j) (by omega) (by omega)
    have e1 : i < n := by omega
    have e2 : j < n := by omega
    have e3 : 1 ≤ j := by omega
    iterate 2 repeat (first | ((first | apply Xk.sAny | apply Xk.tAny); (case hok => rfl); (case h => intro C hC; simp (disch := omega) only [w1, ↓reduceIte, Nat.reduceEqDiff, Nat.reduceLeDiff, Nat.reduceAdd, Nat.reduceSub, ci, g, k1, k2, l1, l2, e1, e2, e3, o1, l3]; with_reducible exact hC); refine gc ?_) | refine gm ?_)
    exact ⟨rfl, _, by omega, i + 1, j - 1, _, rfl, by omega, by omega, by omega, hp.trans (PIn.swp (by omega) (by omega) (by omega)), R2, rfl⟩
  · repeat (first | ((first | apply Xk.sAny | apply Xk.tAny); (case hok => rfl); (case h => intro C hC; simp (disch := omega) only [w1, ↓reduceIte, Nat.reduceEqDiff, Nat.reduceLeDiff, Nat.reduceAdd, Nat.reduceSub, ci]; with_reducible exact hC); refine gc ?_) | refine gm ?_)
    repeat (first | ((first | apply Xk.sAny | apply Xk.tAny); (case hok => rfl); (case h => intro C hC; simp (disch := omega) only [w1, ↓reduceIte, Nat.reduceEqDiff, Nat.reduceLeDiff, Nat.reduceAdd, Nat.reduceSub, ci]; with_reducible exact hC); refine gc ?_) | refine gm ?_)
    exact hQ _ _ hR hp

theorem partition_ev (c n a b p : Nat) (rest : List AV) (H0 H : Heap) (z : List (List UInt8)) (h : SR c n rest H0 z H) (hab : a ≤ p ∧ p < b) (hb : b ≤ n) (hn : n < 1000000000) (Q : AV → Heap → Prop)
    (hQ : ∀ G w mid f, SR c n rest H0 w G → PIn a b z w → Parted a b mid w → Q (.tup [.int .i64 (.ofNat mid), .bool f]) G) : Eo lib n_slices_partitionOrdered_string [.sl c 0 n 1, .int .i64 (.ofNat a), .int .i64 (.ofNat b), .int .i64 (.ofNat p)] H Q := by
  refine Eo.ok fun hOk => ?_
  refine Eo.code at_slices_partitionOrdered_string rfl ?_
  have hb1 : 1 ≤ b := by omega
  have hz := h.ln
  obtain ⟨cl, cl1, g, k1, k2, l1, l2, o1, l3, l4, hR0⟩ := h.at2 (i := a) (j := p) (by omega) (by omega)
  have e1 : a < n := by omega
  have e2 : p < n := by omega
  iterate 2 repeat (first | ((first | apply Xk.sAny | apply Xk.tAny); (case hok => rfl); (case h => intro C hC; simp (disch := omega) only [w1, ↓reduceIte, Nat.reduceEqDiff, Nat.reduceLeDiff, Nat.reduceAdd, Nat.reduceSub, hb1, g, k1, k2, l1, l2, e1, e2, o1, l3]; with_reducible exact hC); refine gc ?_) | refine gm ?_)
  have hp1 : PIn a b z (swp z a p) := PIn.swp (by omega) (by omega) (by omega)
  have hpt : ∃ pv, Pt a b (a + 1) (b - 1) pv (swp z a p) := ⟨_, rfl, by omega, by omega, by omega, fun k k1 k2 => by omega, fun k k1 k2 => by omega⟩
  obtain ⟨pv, hpt⟩ := hpt
  generalize H.put c _ = H1 at *
  generalize swp z a p = z1 at *
  clear g k1 k2 l1 l2 o1 l3 l4 cl cl1 h hOk
  refine lcut [0, 1, 2, 10, 11] (fun k G => ∃ i, a + 1 ≤ i ∧ Pt a b i (b - 1) pv z1 ∧ ((b - 1) < i ∨ bltB (gz z1 i) pv = false) ∧ SR c n rest H0 z1 G ∧ k = [(0, .sl c 0 n 1), (1, .int .i64 (.ofNat a)), (2, .int .i64 (.ofNat b)), (10, .int .i64 (.ofNat i)), (11, .int .i64 (.ofNat (b - 1)))])
    (Xk.iter [0, 1, 2, 10, 11] (fun m k G => ∃ i, m = b - i ∧ a + 1 ≤ i ∧ Pt a b i (b - 1) pv z1 ∧ SR c n rest H0 z1 G ∧ k = [(0, .sl c 0 n 1), (1, .int .i64 (.ofNat a)), (2, .int .i64 (.ofNat b)), (10, .int .i64 (.ofNat i)), (11, .int .i64 (.ofNat (b - 1)))]) rfl ⟨_, (a + 1), rfl, Nat.le_refl _, hpt, hR0, rfl⟩ ?_) ?_
  · rintro m k G ⟨i, rfl, hii, hP, hR, rfl⟩
    unfold l0_slices_partitionOrdered_string
    by_cases ci : i ≤ b - 1
    · have q1 := hP.ai
      have q2 := hP.jb
      obtain ⟨cl, cl1, g, k1, k2, l1, l2, o1, l3, l4, R2⟩ := hR.at2 (i := i) (j := a) (by omega) (by omega)
      have e3 : i < n := by omega
      have hat := hP.at_
      have hup := fun hl => hP.up ci hl
      rw [hat] at k2
      repeat (first | ((first | apply Xk.sAny | apply Xk.tAny); (case hok => rfl); (case h => intro C hC; simp (disch := omega) only [w1, ↓reduceIte, Nat.reduceEqDiff, Nat.reduceLeDiff, Nat.reduceAdd, Nat.reduceSub, ci, g, k1, k2, l1, l2, e1, e3]; with_reducible exact hC); refine gc ?_) | refine gm ?_)
      refine LessS_ev (gz z1 i) pv _ _ ?_
      cases hl : bltB (gz z1 i) pv with
      | true =>
        iterate 2 repeat (first | ((first | apply Xk.sAny | apply Xk.tAny); (case hok => rfl); (case h => intro C hC; simp (disch := omega) only [w1, ↓reduceIte, Nat.reduceEqDiff, Nat.reduceLeDiff, Nat.reduceAdd, Nat.reduceSub, ci]; with_reducible exact hC); refine gc ?_) | refine gm ?_)
        exact ⟨rfl, _, by omega, i + 1, rfl, by omega, hup hl, hR, rfl⟩
      | false =>
        iterate 2 repeat (first | ((first | apply Xk.sAny | apply Xk.tAny); (case hok => rfl); (case h => intro C hC; simp (disch := omega) only [w1, ↓reduceIte, Nat.reduceEqDiff, Nat.reduceLeDiff, Nat.reduceAdd, Nat.reduceSub, ci]; with_reducible exact hC); refine gc ?_) | refine gm ?_)
        exact ⟨rfl, rfl, i, hii, hP, .inr hl, hR, rfl⟩
    · repeat (first | ((first | apply Xk.sAny | apply Xk.tAny); (case hok => rfl); (case h => intro C hC; simp (disch := omega) only [w1, ↓reduceIte, Nat.reduceEqDiff, Nat.reduceLeDiff, Nat.reduceAdd, Nat.reduceSub, ci]; with_reducible exact hC); refine gc ?_) | refine gm ?_)
      repeat (first | ((first | apply Xk.sAny | apply Xk.tAny); (case hok => rfl); (case h => intro C hC; simp (disch := omega) only [w1, ↓reduceIte, Nat.reduceEqDiff, Nat.reduceLeDiff, Nat.reduceAdd, Nat.reduceSub, ci]; with_reducible exact hC); refine gc ?_) | refine gm ?_)
      exact ⟨rfl, rfl, i, hii, hP, .inl (by omega), hR, rfl⟩
  rintro k G ⟨i, hii, hP0, hx, hR0, rfl⟩
  clear hpt
  repeat (first | ((first | apply Xk.sAny | apply Xk.tAny); (case hok => rfl); (case h => intro C hC; simp (disch := omega) only [w1, ↓reduceIte, Nat.reduceEqDiff, Nat.reduceLeDiff, Nat.reduceAdd, Nat.reduceSub]; with_reducible exact hC); refine gc ?_) | refine gm ?_)
  refine lcut [0, 1, 2, 10, 11] (fun k G => ∃ j, j ≤ b - 1 ∧ Pt a b i j pv z1 ∧ (j < i ∨ bltB (gz z1 j) pv = true) ∧ SR c n rest H0 z1 G ∧ k = [(0, .sl c 0 n 1), (1, .int .i64 (.ofNat a)), (2, .int .i64 (.ofNat b)), (10, .int .i64 (.ofNat i)), (11, .int .i64 (.ofNat j))])
    (Xk.iter [0, 1, 2, 10, 11] (fun m k G => ∃ j, m = j + 1 ∧ j ≤ b - 1 ∧ Pt a b i j pv z1 ∧ SR c n rest H0 z1 G ∧ k = [(0, .sl c 0 n 1), (1, .int .i64 (.ofNat a)), (2, .int .i64 (.ofNat b)), (10, .int .i64 (.ofNat i)), (11, .int .i64 (.ofNat j))]) rfl ⟨_, (b - 1), rfl, Nat.le_refl _, hP0, hR0, rfl⟩ ?_) ?_
  · rintro m k G ⟨j, rfl, hjj, hP, hR, rfl⟩
    unfold l1_slices_partitionOrdered_string
    have q1 := hP.ai
    by_cases ci : i ≤ j
    · have q2 := hP.jb
      obtain ⟨cl, cl1, g, k1, k2, l1, l2, o1, l3, l4, R2⟩ := hR.at2 (i := j) (j := a) (by omega) (by omega)
      have e3 : j < n := by omega
      have e4 : 1 ≤ j := by omega
      have hat := hP.at_
      have hdn := fun hl => hP.down ci hl
      rw [hat] at k2
      repeat (first | ((first | apply Xk.sAny | apply Xk.tAny); (case hok => rfl); (case h => intro C hC; simp (disch := omega) only [w1, ↓reduceIte, Nat.reduceEqDiff, Nat.reduceLeDiff, Nat.reduceAdd, Nat.reduceSub, ci, g, k1, k2, l1, l2, e1, e3]; with_reducible exact hC); refine gc ?_) | refine gm ?_)
      refine LessS_ev (gz z1 j) pv _ _ ?_
      cases hl : bltB (gz z1 j) pv with
      | false =>
        iterate 2 repeat (first | ((first | apply Xk.sAny | apply Xk.tAny); (case hok => rfl); (case h => intro C hC; simp (disch := omega) only [w1, ↓reduceIte, Nat.reduceEqDiff, Nat.reduceLeDiff, Nat.reduceAdd, Nat.reduceSub, ci, e4, Bool.not_false]; with_reducible exact hC); refine gc ?_) | refine gm ?_)
        exact ⟨rfl, _, by omega, j - 1, rfl, by omega, hdn hl, hR, rfl⟩
      | true =>
        iterate 2 repeat (first | ((first | apply Xk.sAny | apply Xk.tAny); (case hok => rfl); (case h => intro C hC; simp (disch := omega) only [w1, ↓reduceIte, Nat.reduceEqDiff, Nat.reduceLeDiff, Nat.reduceAdd, Nat.reduceSub, ci, Bool.not_true]; with_reducible exact hC); refine gc ?_) | refine gm ?_)
        exact ⟨rfl, rfl, j, hjj, hP, .inr hl, hR, rfl⟩
    · repeat (first | ((first | apply Xk.sAny | apply Xk.tAny); (case hok => rfl); (case h => intro C hC; simp (disch := omega) only [w1, ↓reduceIte, Nat.reduceEqDiff, Nat.reduceLeDiff, Nat.reduceAdd, Nat.reduceSub, ci]; with_reducible exact hC); refine gc ?_) | refine gm ?_)
      repeat (first | ((first | apply Xk.sAny | apply Xk.tAny); (case hok => rfl); (case h => intro C hC; simp (disch := omega) only [w1, ↓reduceIte, Nat.reduceEqDiff, Nat.reduceLeDiff, Nat.reduceAdd, Nat.reduceSub, ci]; with_reducible exact hC); refine gc ?_) | refine gm ?_)
      exact ⟨rfl, rfl, j, hjj, hP, .inl (by omega), hR, rfl⟩
  rintro k G ⟨j, hjj, hP, hy, hR, rfl⟩
  have q1 := hP.ai
  have q2 := hP.jb
  have q3 := hP.ij
  have hz1 := hR.ln
  have fin : ∀ (f : Bool) (w : List (List UInt8)) (G : Heap) (i j : Nat), PIn a b z w → Pt a b i j pv w → j < i → SR c n rest H0 w G → SR c n rest H0 (swp w j a) G → Q (.tup [.int .i64 (.ofNat j), .bool f]) G := fun f w G i j h1 h2 h3 h4 h5 => by
    have a1 := h2.ai
    have a2 := h2.ij
    have a3 := h2.jb
    have hw := h4.ln
    exact hQ _ _ j f h5 (h1.trans (PIn.swp (by omega) (by omega) (by omega))) (h2.done (by omega) h3)
  by_cases cx : j < i
  · obtain ⟨cl, cl1, g, k1, k2, l1, l2, o1, l3, l4, R2⟩ := hR.at2 (i := j) (j := a) (by omega) (by omega)
    have e3 : j < n := by omega
    have hdone := hP.done (by omega) cx
    have hpin := hp1.trans (PIn.swp (z := z1) (i := j) (j := a) (by omega) (by omega) (by omega))
    iterate 2 repeat (first | ((first | apply Xk.sAny | apply Xk.tAny); (case hok => rfl); (case h => intro C hC; simp (disch := omega) only [w1, ↓reduceIte, Nat.reduceEqDiff, Nat.reduceLeDiff, Nat.reduceAdd, Nat.reduceSub, cx, g, k1, k2, l1, l2, e1, e3, o1, l3]; with_reducible exact hC); refine gc ?_) | refine gm ?_)
    exact hQ _ _ j true R2 hpin hdone
  obtain ⟨s1, s2⟩ := hP.swap (by omega) (by omega) (by rcases hx with h | h; omega; exact h) (by rcases hy with h | h; omega; exact h)
  obtain ⟨cl, cl1, g, k1, k2, l1, l2, o1, l3, l4, R2⟩ := hR.at2 (i := i) (j := j) (by omega) (by omega)
  have e3 : i < n := by omega
  have e4 : j < n := by omega
  have e5 : 1 ≤ j := by omega
  iterate 3 repeat (first | ((first | apply Xk.sAny | apply Xk.tAny); (case hok => rfl); (case h => intro C hC; simp (disch := omega) only [w1, ↓reduceIte, Nat.reduceEqDiff, Nat.reduceLeDiff, Nat.reduceAdd, Nat.reduceSub, cx, g, k1, k2, l1, l2, e3, e4, e5, o1, l3]; with_reducible exact hC); refine gc ?_) | refine gm ?_)
  have hp2 := hp1.trans (PIn.swp (z := z1) (i := i) (j := j) (by omega) (by omega) (by omega))
  clear fin g k1 k2 l1 l2 o1 l3 l4 hx hy hP hP0 hR hR0
  generalize G.put c _ = G2 at *
  generalize swp z1 i j = z2 at *
  refine lcut [0, 1, 2, 10, 11] (fun k G => ∃ i j w, Pt a b i j pv w ∧ j < i ∧ PIn a b z w ∧ SR c n rest H0 w G ∧ k = [(0, .sl c 0 n 1), (1, .int .i64 (.ofNat a)), (2, .int .i64 (.ofNat b)), (10, .int .i64 (.ofNat i)), (11, .int .i64 (.ofNat j))])
    (Xk.iter [0, 1, 2, 10, 11] (fun m k G => ∃ i j w, m = j + 1 - i ∧ Pt a b i j pv w ∧ PIn a b z w ∧ SR c n rest H0 w G ∧ k = [(0, .sl c 0 n 1), (1, .int .i64 (.ofNat a)), (2, .int .i64 (.ofNat b)), (10, .int .i64 (.ofNat i)), (11, .int .i64 (.ofNat j))]) rfl ⟨_, i + 1, j - 1, z2, rfl, s2, hp2, R2, rfl⟩ ?_) ?_
  · clear R2 s2 hp2 hz1 z2
    rintro m k G ⟨i, j, w, rfl, hP0, hpw, hR0, rfl⟩
    unfold l4_slices_partitionOrdered_string
    repeat (first | ((first | apply Xk.sAny | apply Xk.tAny); (case hok => rfl); (case h => intro C hC; simp (disch := omega) only [w1, ↓reduceIte, Nat.reduceEqDiff, Nat.reduceLeDiff, Nat.reduceAdd, Nat.reduceSub]; with_reducible exact hC); refine gc ?_) | refine gm ?_)
    refine lcut [0, 1, 2, 10, 11] (fun k G => ∃ ii, i ≤ ii ∧ Pt a b ii j pv w ∧ (j < ii ∨ bltB (gz w ii) pv = false) ∧ SR c n rest H0 w G ∧ k = [(0, .sl c 0 n 1), (1, .int .i64 (.ofNat a)), (2, .int .i64 (.ofNat b)), (10, .int .i64 (.ofNat ii)), (11, .int .i64 (.ofNat j))])
      (Xk.iter [0, 1, 2, 10, 11] (fun m k G => ∃ ii, m = b - ii ∧ i ≤ ii ∧ Pt a b ii j pv w ∧ SR c n rest H0 w G ∧ k = [(0, .sl c 0 n 1), (1, .int .i64 (.ofNat a)), (2, .int .i64 (.ofNat b)), (10, .int .i64 (.ofNat ii)), (11, .int .i64 (.ofNat j))]) rfl ⟨_, i, rfl, Nat.le_refl _, hP0, hR0, rfl⟩ ?_) ?_
    · rintro m k G ⟨i, rfl, hii, hP, hR, rfl⟩
      unfold l2_slices_partitionOrdered_string
      by_cases ci : i ≤ j
      · have q1 := hP.ai
        have q2 := hP.jb
        obtain ⟨cl, cl1, g, k1, k2, l1, l2, o1, l3, l4, R2⟩ := hR.at2 (i := i) (j := a) (by omega) (by omega)
        have e3 : i < n := by omega
        have hat := hP.at_
        have hup := fun hl => hP.up ci hl
        rw [hat] at k2
        repeat (first | ((first | apply Xk.sAny | apply Xk.tAny); (case hok => rfl); (case h => intro C hC; simp (disch := omega) only [w1, ↓reduceIte, Nat.reduceEqDiff, Nat.reduceLeDiff, Nat.reduceAdd, Nat.reduceSub, ci, g, k1, k2, l1, l2, e1, e3]; with_reducible exact hC); refine gc ?_) | refine gm ?_)
        refine LessS_ev (gz w i) pv _ _ ?_
        cases hl : bltB (gz w i) pv with
        | true =>
          iterate 2 repeat (first | ((first | apply Xk.sAny | apply Xk.tAny); (case hok => rfl); (case h => intro C hC; simp (disch := omega) only [w1, ↓reduceIte, Nat.reduceEqDiff, Nat.reduceLeDiff, Nat.reduceAdd, Nat.reduceSub, ci]; with_reducible exact hC); refine gc ?_) | refine gm ?_)
          exact ⟨rfl, _, by omega, i + 1, rfl, by omega, hup hl, hR, rfl⟩
        | false =>
          iterate 2 repeat (first | ((first | apply Xk.sAny | apply Xk.tAny); (case hok => rfl); (case h => intro C hC; simp (disch := omega) only [w1, ↓reduceIte, Nat.reduceEqDiff, Nat.reduceLeDiff, Nat.reduceAdd, Nat.reduceSub, ci]; with_reducible exact hC); refine gc ?_) | refine gm ?_)
          exact ⟨rfl, rfl, i, hii, hP, .inr hl, hR, rfl⟩
      · repeat (first | ((first | apply Xk.sAny | apply Xk.tAny); (case hok => rfl); (case h => intro C hC; simp (disch := omega) only [w1, ↓reduceIte, Nat.reduceEqDiff, Nat.reduceLeDiff, Nat.reduceAdd, Nat.reduceSub, ci]; with_reducible exact hC); refine gc ?_) | refine gm ?_)
        repeat (first | ((first | apply Xk.sAny | apply Xk.tAny); (case hok => rfl); (case h => intro C hC; simp (disch := omega) only [w1, ↓reduceIte, Nat.reduceEqDiff, Nat.reduceLeDiff, Nat.reduceAdd, Nat.reduceSub, ci]; with_reducible exact hC); refine gc ?_) | refine gm ?_)
        exact ⟨rfl, rfl, i, hii, hP, .inl (by omega), hR, rfl⟩
    rintro k G ⟨i1, hii, hP0, hx, hR0, rfl⟩
    repeat (first | ((first | apply Xk.sAny | apply Xk.tAny); (case hok => rfl); (case h => intro C hC; simp (disch := omega) only [w1, ↓reduceIte, Nat.reduceEqDiff, Nat.reduceLeDiff, Nat.reduceAdd, Nat.reduceSub]; with_reducible exact hC); refine gc ?_) | refine gm ?_)
    refine lcut [0, 1, 2, 10, 11] (fun k G => ∃ jj, jj ≤ j ∧ Pt a b i1 jj pv w ∧ (jj < i1 ∨ bltB (gz w jj) pv = true) ∧ SR c n rest H0 w G ∧ k = [(0, .sl c 0 n 1), (1, .int .i64 (.ofNat a)), (2, .int .i64 (.ofNat b)), (10, .int .i64 (.ofNat i1)), (11, .int .i64 (.ofNat jj))])
      (Xk.iter [0, 1, 2, 10, 11] (fun m k G => ∃ jj, m = jj + 1 ∧ jj ≤ j ∧ Pt a b i1 jj pv w ∧ SR c n rest H0 w G ∧ k = [(0, .sl c 0 n 1), (1, .int .i64 (.ofNat a)), (2, .int .i64 (.ofNat b)), (10, .int .i64 (.ofNat i1)), (11, .int .i64 (.ofNat jj))]) rfl ⟨_, j, rfl, Nat.le_refl _, hP0, hR0, rfl⟩ ?_) ?_
    · rintro m k G ⟨j, rfl, hjj, hP, hR, rfl⟩
      unfold l3_slices_partitionOrdered_string
      have q1 := hP.ai
      by_cases ci : i1 ≤ j
      · have q2 := hP.jb
        obtain ⟨cl, cl1, g, k1, k2, l1, l2, o1, l3, l4, R2⟩ := hR.at2 (i := j) (j := a) (by omega) (by omega)
        have e3 : j < n := by omega
        have e4 : 1 ≤ j := by omega
        have hat := hP.at_
        have hdn := fun hl => hP.down ci hl
        rw [hat] at k2
        repeat (first | ((first | apply Xk.sAny | apply Xk.tAny); (case hok => rfl); (case h => intro C hC; simp (disch := omega) only [w1, ↓reduceIte, Nat.reduceEqDiff, Nat.reduceLeDiff, Nat.reduceAdd, Nat.reduceSub, ci, g, k1, k2, l1, l2, e1, e3]; with_reducible exact hC); refine gc ?_) | refine gm ?_)
        refine LessS_ev (gz w j) pv _ _ ?_
        cases hl : bltB (gz w j) pv with
        | false =>
          iterate 2 repeat (first | ((first | apply Xk.sAny | apply Xk.tAny); (case hok => rfl); (case h => intro C hC; simp (disch := omega) only [w1, ↓reduceIte, Nat.reduceEqDiff, Nat.reduceLeDiff, Nat.reduceAdd, Nat.reduceSub, ci, e4, Bool.not_false]; with_reducible exact hC); refine gc ?_) | refine gm ?_)
          exact ⟨rfl, _, by omega, j - 1, rfl, by omega, hdn hl, hR, rfl⟩
        | true =>
          iterate 2 repeat (first | ((first | apply Xk.sAny | apply Xk.tAny); (case hok => rfl); (case h => intro C hC; simp (disch := omega) only [w1, ↓reduceIte, Nat.reduceEqDiff, Nat.reduceLeDiff, Nat.reduceAdd, Nat.reduceSub, ci, Bool.not_true]; with_reducible exact hC); refine gc ?_) | refine gm ?_)
          exact ⟨rfl, rfl, j, hjj, hP, .inr hl, hR, rfl⟩
      · repeat (first | ((first | apply Xk.sAny | apply Xk.tAny); (case hok => rfl); (case h => intro C hC; simp (disch := omega) only [w1, ↓reduceIte, Nat.reduceEqDiff, Nat.reduceLeDiff, Nat.reduceAdd, Nat.reduceSub, ci]; with_reducible exact hC); refine gc ?_) | refine gm ?_)
        repeat (first | ((first | apply Xk.sAny | apply Xk.tAny); (case hok => rfl); (case h => intro C hC; simp (disch := omega) only [w1, ↓reduceIte, Nat.reduceEqDiff, Nat.reduceLeDiff, Nat.reduceAdd, Nat.reduceSub, ci]; with_reducible exact hC); refine gc ?_) | refine gm ?_)
        exact ⟨rfl, rfl, j, hjj, hP, .inl (by omega), hR, rfl⟩
    rintro k G ⟨j1, hjj, hP, hy, hR, rfl⟩
    have q1 := hP.ai
    have q2 := hP.jb
    have q3 := hP.ij
    have hz1 := hR.ln
    by_cases cx : j1 < i1
    · repeat (first | ((first | apply Xk.sAny | apply Xk.tAny); (case hok => rfl); (case h => intro C hC; simp (disch := omega) only [w1, ↓reduceIte, Nat.reduceEqDiff, Nat.reduceLeDiff, Nat.reduceAdd, Nat.reduceSub, cx]; with_reducible exact hC); refine gc ?_) | refine gm ?_)
      repeat (first | ((first | apply Xk.sAny | apply Xk.tAny); (case hok => rfl); (case h => intro C hC; simp (disch := omega) only [w1, ↓reduceIte, Nat.reduceEqDiff, Nat.reduceLeDiff, Nat.reduceAdd, Nat.reduceSub, cx]; with_reducible exact hC); refine gc ?_) | refine gm ?_)
      exact ⟨rfl, rfl, i1, j1, w, hP, cx, hpw, hR, rfl⟩
    obtain ⟨s1, s2⟩ := hP.swap (by omega) (by omega) (by rcases hx with h | h; omega; exact h) (by rcases hy with h | h; omega; exact h)
    obtain ⟨cl, cl1, g, k1, k2, l1, l2, o1, l3, l4, R2⟩ := hR.at2 (i := i1) (j := j1) (by omega) (by omega)
    have e3 : i1 < n := by omega
    have e4 : j1 < n := by omega
    have e5 : 1 ≤ j1 := by omega
    iterate 3 repeat (first | ((first | apply Xk.sAny | apply Xk.tAny); (case hok => rfl); (case h => intro C hC; simp (disch := omega) only [w1, ↓reduceIte, Nat.reduceEqDiff, Nat.reduceLeDiff, Nat.reduceAdd, Nat.reduceSub, cx, g, k1, k2, l1, l2, e3, e4, e5, o1, l3]; with_reducible exact hC); refine gc ?_) | refine gm ?_)
    have a1 := hP0.ij
    exact ⟨rfl, _, by omega, i1 + 1, j1 - 1, _, rfl, s2, hpw.trans (PIn.swp (by omega) (by omega) (by omega)), R2, rfl⟩
  · rintro k G ⟨i, j, w, hP, cx, hpw, hR, rfl⟩
    have q1 := hP.ai
    have q2 := hP.jb
    have q3 := hP.ij
    have hz1 := hR.ln
    obtain ⟨cl, cl1, g, k1, k2, l1, l2, o1, l3, l4, R2⟩ := hR.at2 (i := j) (j := a) (by omega) (by omega)
    have e3 : j < n := by omega
    have hdone := hP.done (by omega) cx
    have hpin := hpw.trans (PIn.swp (z := w) (i := j) (j := a) (by omega) (by omega) (by omega))
    iterate 2 repeat (first | ((first | apply Xk.sAny | apply Xk.tAny); (case hok => rfl); (case h => intro C hC; simp (disch := omega) only [w1, ↓reduceIte, Nat.reduceEqDiff, Nat.reduceLeDiff, Nat.reduceAdd, Nat.reduceSub, cx, g, k1, k2, l1, l2, e1, e3, o1, l3]; with_reducible exact hC); refine gc ?_) | refine gm ?_)
    exact hQ _ _ j false R2 hpin hdone
end Go.Proofs.Ytihoblfmhighpaa
