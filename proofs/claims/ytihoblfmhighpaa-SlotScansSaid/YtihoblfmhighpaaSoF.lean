/- slices.Sort of texts: what is nearly sorted; pdqsort; Sort. Conditions: none. -/
import Derived.Test.YtihoblfmhighpaaSoE
namespace Go.Proofs.Ytihoblfmhighpaa
open Go.Dp
set_option linter.unusedSimpArgs false
set_option linter.unusedVariables false
set_option maxHeartbeats 2000000
set_option maxRecDepth 8000
attribute [local irreducible] Ex.thnK Ex.inK Ret

theorem Sd.snoc {a i : Nat} {w : List (List UInt8)} (h : Sd a i w) (hl : i = a ∨ le (gz w (i - 1)) (gz w i)) : Sd a (i + 1) w := by
  intro p q h1 h2 h3
  by_cases e : q = i
  · subst e
    rcases hl with hl | hl
    · omega
    · by_cases e2 : p = q - 1
      · rw [e2]; exact hl
      · exact le_trans (h p (q - 1) h1 (by omega) (by omega)) hl
  · exact h p q h1 h2 (by omega)
theorem Sd.sink {a i : Nat} {w : List (List UInt8)} (h : Sd a i w) (hl : i < w.length) (ha : a < i) : InsI a (i - 1) (i - 1) (swp w i (i - 1)) := by
  intro p q h1 h2 h3 h4
  rw [swp_get (by omega) (by omega), swp_get (by omega) (by omega), if_neg (show ¬ p = i - 1 by omega), if_neg (show ¬ p = i by omega), if_neg (show ¬ q = i - 1 by omega), if_neg (show ¬ q = i by omega)]
  exact h p q h1 h2 (by omega)

theorem partial_ev (c n a b : Nat) (rest : List AV) (H0 H : Heap) (z : List (List UInt8)) (h : SR c n rest H0 z H) (hab : a < b) (hb : b ≤ n) (hn : n < 1000000000) (hlow : a = 0 ∨ ∀ k, a ≤ k → k < b → le (gz z (a - 1)) (gz z k)) (Q : AV → Heap → Prop)
    (hQ : ∀ G w f, SR c n rest H0 w G → PIn a b z w → (f = true → Sd a b w) → Q (.bool f) G) : Eo lib n_slices_partialInsertionSortOrdered_string [.sl c 0 n 1, .int .i64 (.ofNat a), .int .i64 (.ofNat b)] H Q := by
  refine Eo.ok fun hOk => ?_
  refine Eo.code at_slices_partialInsertionSortOrdered_string rfl ?_
  iterate 2 repeat (first | ((first | apply Xk.sAny | apply Xk.tAny); (case hok => rfl); (case h => intro C hC; simp (disch := omega) only [w1, ↓reduceIte, Nat.reduceEqDiff, Nat.reduceLeDiff, Nat.reduceAdd, Nat.reduceSub]; with_reducible exact hC); refine gc ?_) | refine gm ?_)
  refine lcut [0, 1, 2] (fun k G => ∃ w, PIn a b z w ∧ SR c n rest H0 w G ∧ k = [(0, .sl c 0 n 1), (1, .int .i64 (.ofNat a)), (2, .int .i64 (.ofNat b))])
    (Xk.iter [0, 1, 2, 7, 8] (fun m k G => ∃ i j w, m = 5 - j ∧ j ≤ 5 ∧ a + 1 ≤ i ∧ i ≤ b ∧ Sd a i w ∧ PIn a b z w ∧ SR c n rest H0 w G ∧ k = [(0, .sl c 0 n 1), (1, .int .i64 (.ofNat a)), (2, .int .i64 (.ofNat b)), (7, .int .i64 (.ofNat i)), (8, .int .i64 (.ofNat j))]) rfl
      ⟨_, a + 1, 0, z, rfl, by omega, Nat.le_refl _, by omega, fun p q h1 h2 h3 => by omega, PIn.refl _ _ _, h, rfl⟩ ?_) ?_
  rotate_left
  · rintro k G ⟨w, hp, hR, rfl⟩
    iterate 2 repeat (first | ((first | apply Xk.sAny | apply Xk.tAny); (case hok => rfl); (case h => intro C hC; simp (disch := omega) only [w1, ↓reduceIte, Nat.reduceEqDiff, Nat.reduceLeDiff, Nat.reduceAdd, Nat.reduceSub]; with_reducible exact hC); refine gc ?_) | refine gm ?_)
    exact hQ G w false hR hp (fun h => by cases h)
  rintro m k G ⟨i, j, w, rfl, hj, hai, hib, hs, hp, hR, rfl⟩
  unfold l3_slices_partialInsertionSortOrdered_string
  by_cases cj : j < 5
  case neg =>
    iterate 2 repeat (first | ((first | apply Xk.sAny | apply Xk.tAny); (case hok => rfl); (case h => intro C hC; simp (disch := omega) only [w1, ↓reduceIte, Nat.reduceEqDiff, Nat.reduceLeDiff, Nat.reduceAdd, Nat.reduceSub, cj]; with_reducible exact hC); refine gc ?_) | refine gm ?_)
    exact ⟨rfl, rfl, w, hp, hR, rfl⟩
  repeat (first | ((first | apply Xk.sAny | apply Xk.tAny); (case hok => rfl); (case h => intro C hC; simp (disch := omega) only [w1, ↓reduceIte, Nat.reduceEqDiff, Nat.reduceLeDiff, Nat.reduceAdd, Nat.reduceSub, cj]; with_reducible exact hC); refine gc ?_) | refine gm ?_)
  refine lcut [0, 1, 2, 7, 8] (fun k G => ∃ i, a + 1 ≤ i ∧ i ≤ b ∧ Sd a i w ∧ (i < b → bltB (gz w i) (gz w (i - 1)) = true) ∧ SR c n rest H0 w G ∧ k = [(0, .sl c 0 n 1), (1, .int .i64 (.ofNat a)), (2, .int .i64 (.ofNat b)), (7, .int .i64 (.ofNat i)), (8, .int .i64 (.ofNat j))])
    (Xk.iter [0, 1, 2, 7, 8] (fun m k G => ∃ i, m = b - i ∧ a + 1 ≤ i ∧ i ≤ b ∧ Sd a i w ∧ SR c n rest H0 w G ∧ k = [(0, .sl c 0 n 1), (1, .int .i64 (.ofNat a)), (2, .int .i64 (.ofNat b)), (7, .int .i64 (.ofNat i)), (8, .int .i64 (.ofNat j))]) rfl ⟨_, i, rfl, hai, hib, hs, hR, rfl⟩ ?_) ?_
  · clear hs hR hai hib i
    rintro m k G ⟨i, rfl, hai, hib, hs, hR, rfl⟩
    unfold l0_slices_partialInsertionSortOrdered_string
    by_cases ci : i < b
    case neg =>
      iterate 2 repeat (first | ((first | apply Xk.sAny | apply Xk.tAny); (case hok => rfl); (case h => intro C hC; simp (disch := omega) only [w1, ↓reduceIte, Nat.reduceEqDiff, Nat.reduceLeDiff, Nat.reduceAdd, Nat.reduceSub, ci]; with_reducible exact hC); refine gc ?_) | refine gm ?_)
      exact ⟨rfl, rfl, i, hai, hib, hs, fun h => absurd h ci, hR, rfl⟩
    obtain ⟨cl, cl1, g, k1, k2, l1, l2, o1, l3, l4, R2⟩ := hR.at2 (i := i) (j := i - 1) (by omega) (by omega)
    have e1 : i < n := by omega
    have e2 : i - 1 < n := by omega
    have e3 : 1 ≤ i := by omega
    repeat (first | ((first | apply Xk.sAny | apply Xk.tAny); (case hok => rfl); (case h => intro C hC; simp (disch := omega) only [w1, ↓reduceIte, Nat.reduceEqDiff, Nat.reduceLeDiff, Nat.reduceAdd, Nat.reduceSub, ci, g, k1, k2, l1, l2, e1, e2, e3]; with_reducible exact hC); refine gc ?_) | refine gm ?_)
    refine LessS_ev _ _ _ _ ?_
    cases hl : bltB (gz w i) (gz w (i - 1)) with
    | false =>
      iterate 2 repeat (first | ((first | apply Xk.sAny | apply Xk.tAny); (case hok => rfl); (case h => intro C hC; simp (disch := omega) only [w1, ↓reduceIte, Nat.reduceEqDiff, Nat.reduceLeDiff, Nat.reduceAdd, Nat.reduceSub, Bool.not_false]; with_reducible exact hC); refine gc ?_) | refine gm ?_)
      exact ⟨rfl, _, by omega, i + 1, rfl, by omega, by omega, hs.snoc (.inr hl), hR, rfl⟩
    | true =>
      iterate 2 repeat (first | ((first | apply Xk.sAny | apply Xk.tAny); (case hok => rfl); (case h => intro C hC; simp (disch := omega) only [w1, ↓reduceIte, Nat.reduceEqDiff, Nat.reduceLeDiff, Nat.reduceAdd, Nat.reduceSub, Bool.not_true]; with_reducible exact hC); refine gc ?_) | refine gm ?_)
      exact ⟨rfl, rfl, i, hai, hib, hs, fun _ => hl, hR, rfl⟩
  clear hs hR hai hib i
  rintro k G ⟨i, hai, hib, hs, hlt, hR, rfl⟩
  have hl := hR.ln
  have hba : a ≤ b := by omega
  by_cases ci : i = b
  · have ci' := eq_true ci
    iterate 2 repeat (first | ((first | apply Xk.sAny | apply Xk.tAny); (case hok => rfl); (case h => intro C hC; simp (disch := omega) only [w1, ↓reduceIte, Nat.reduceEqDiff, Nat.reduceLeDiff, Nat.reduceAdd, Nat.reduceSub, ci']; with_reducible exact hC); refine gc ?_) | refine gm ?_)
    exact hQ G w true hR hp (fun _ => by rw [← ci]; exact hs)
  by_cases c50 : b - a < 50
  · repeat (first | ((first | apply Xk.sAny | apply Xk.tAny); (case hok => rfl); (case h => intro C hC; simp (disch := omega) only [w1, ↓reduceIte, Nat.reduceEqDiff, Nat.reduceLeDiff, Nat.reduceAdd, Nat.reduceSub, ci, c50, hba]; with_reducible exact hC); refine gc ?_) | refine gm ?_)
    repeat (first | ((first | apply Xk.sAny | apply Xk.tAny); (case hok => rfl); (case h => intro C hC; simp (disch := omega) only [w1, ↓reduceIte, Nat.reduceEqDiff, Nat.reduceLeDiff, Nat.reduceAdd, Nat.reduceSub, ci, c50, hba]; with_reducible exact hC); refine gc ?_) | refine gm ?_)
    exact hQ G w false hR hp (fun h => by cases h)
  obtain ⟨cl, cl1, g, k1, k2, l1, l2, o1, l3, l4, R2⟩ := hR.at2 (i := i) (j := i - 1) (by omega) (by omega)
  have e1 : i < n := by omega
  have e2 : i - 1 < n := by omega
  have e3 : 1 ≤ i := by omega
  have e4 : a ≤ i := by omega
  have e5 : i ≤ b := hib
  have hs1 := hs.sink (by omega) (by omega)
  have hp1 := hp.trans (PIn.swp (z := w) (i := i) (j := i - 1) (by omega) (by omega) (by omega))
  iterate 2 repeat (first | ((first | apply Xk.sAny | apply Xk.tAny); (case hok => rfl); (case h => intro C hC; simp (disch := omega) only [w1, ↓reduceIte, Nat.reduceEqDiff, Nat.reduceLeDiff, Nat.reduceAdd, Nat.reduceSub, ci, c50, hba, g, k1, k2, l1, l2, e1, e2, e3, e4, o1, l3]; with_reducible exact hC); refine gc ?_) | refine gm ?_)
  generalize G.put c _ = G1 at *
  generalize swp w i (i - 1) = wa at *
  clear g k1 k2 l1 l2 o1 l3 l4 cl cl1 hs hlt hR hp hl
  refine Xk.cut [0, 1, 2, 7, 8] (fun k G => ∃ w, Sd a i w ∧ PIn a b z w ∧ SR c n rest H0 w G ∧ k = [(0, .sl c 0 n 1), (1, .int .i64 (.ofNat a)), (2, .int .i64 (.ofNat b)), (7, .int .i64 (.ofNat i)), (8, .int .i64 (.ofNat j))]) ?_ ?_
  · refine Xk.if_ rfl rfl (fun c2 => ?_) (fun c2 => ?_)
    · repeat (first | ((first | apply Xk.sAny | apply Xk.tAny); (case hok => rfl); (case h => intro C hC; simp (disch := omega) only [w1, ↓reduceIte, Nat.reduceEqDiff, Nat.reduceLeDiff, Nat.reduceAdd, Nat.reduceSub, e3]; with_reducible exact hC); refine gc ?_) | refine gm ?_)
      refine Xk.iter [0, 1, 2, 7, 8, 9] (fun m k G => ∃ w, a ≤ m ∧ m ≤ i - 1 ∧ InsI a (i - 1) m w ∧ PIn a b z w ∧ SR c n rest H0 w G ∧ k = [(0, .sl c 0 n 1), (1, .int .i64 (.ofNat a)), (2, .int .i64 (.ofNat b)), (7, .int .i64 (.ofNat i)), (8, .int .i64 (.ofNat j)), (9, .int .i64 (.ofNat m))]) rfl
        ⟨i - 1, wa, by omega, Nat.le_refl _, hs1, hp1, R2, rfl⟩ ?_
      rintro q k G ⟨w, hq, hqi, hI, hp, hR, rfl⟩
      unfold l1_slices_partialInsertionSortOrdered_string
      have hl := hR.ln
      have ei : i - 1 + 1 = i := by omega
      by_cases cq : 1 ≤ q
      case neg =>
        have hd := hI.done (.inl (by omega))
        rw [ei] at hd
        iterate 2 repeat (first | ((first | apply Xk.sAny | apply Xk.tAny); (case hok => rfl); (case h => intro C hC; simp (disch := omega) only [w1, ↓reduceIte, Nat.reduceEqDiff, Nat.reduceLeDiff, Nat.reduceAdd, Nat.reduceSub, cq]; with_reducible exact hC); refine gc ?_) | refine gm ?_)
        exact ⟨rfl, w, hd, hp, hR, rfl⟩
      obtain ⟨cl, cl1, g, k1, k2, l1, l2, o1, l3, l4, R3⟩ := hR.at2 (i := q) (j := q - 1) (by omega) (by omega)
      have f1 : q < n := by omega
      have f2 : q - 1 < n := by omega
      repeat (first | ((first | apply Xk.sAny | apply Xk.tAny); (case hok => rfl); (case h => intro C hC; simp (disch := omega) only [w1, ↓reduceIte, Nat.reduceEqDiff, Nat.reduceLeDiff, Nat.reduceAdd, Nat.reduceSub, cq, g, k1, k2, l1, l2, f1, f2]; with_reducible exact hC); refine gc ?_) | refine gm ?_)
      refine LessS_ev _ _ _ _ ?_
      cases hl2 : bltB (gz w q) (gz w (q - 1)) with
      | false =>
        have hd := hI.done (j := q) (.inr hl2)
        rw [ei] at hd
        iterate 2 repeat (first | ((first | apply Xk.sAny | apply Xk.tAny); (case hok => rfl); (case h => intro C hC; simp (disch := omega) only [w1, ↓reduceIte, Nat.reduceEqDiff, Nat.reduceLeDiff, Nat.reduceAdd, Nat.reduceSub, Bool.not_false]; with_reducible exact hC); refine gc ?_) | refine gm ?_)
        exact ⟨rfl, w, hd, hp, hR, rfl⟩
      | true =>
        have haq : a < q := by
          rcases Nat.lt_or_ge a q with h | h
          · exact h
          · exfalso
            have e : q = a := by omega
            subst e
            rcases hlow with h0 | h0
            · omega
            · have := hp.in_ (fun x => le (gz z (q - 1)) x) h0 q (Nat.le_refl _) hab
              rw [← hp.out (q - 1) (by omega)] at this
              rw [show le _ _ = (bltB _ _ = false) from rfl, hl2] at this
              cases this
        have hst := InsI.step hI (by omega) haq hqi hl2
        iterate 2 repeat (first | ((first | apply Xk.sAny | apply Xk.tAny); (case hok => rfl); (case h => intro C hC; simp (disch := omega) only [w1, ↓reduceIte, Nat.reduceEqDiff, Nat.reduceLeDiff, Nat.reduceAdd, Nat.reduceSub, Bool.not_true, g, k1, k2, l1, l2, f1, f2, cq, o1, l3]; with_reducible exact hC); refine gc ?_) | refine gm ?_)
        exact ⟨rfl, q - 1, by omega, _, by omega, by omega, hst, hp.trans (PIn.swp (by omega) (by omega) (by omega)), R3, rfl⟩
    · repeat (first | ((first | apply Xk.sAny | apply Xk.tAny); (case hok => rfl); (case h => intro C hC; simp (disch := omega) only [w1, ↓reduceIte, Nat.reduceEqDiff, Nat.reduceLeDiff, Nat.reduceAdd, Nat.reduceSub]; with_reducible exact hC); refine gc ?_) | refine gm ?_)
      refine ⟨rfl, wa, fun p q h1 h2 h3 => by omega, hp1, R2, rfl⟩
  clear hs1 hp1 R2
  rintro k G2 ⟨w, hs, hp, hR, rfl⟩
  have outer : ∀ (w : List (List UInt8)) (G : Heap), Sd a i w → PIn a b z w → SR c n rest H0 w G → ∃ m', m' < 5 - j ∧ ∃ i' j' w', m' = 5 - j' ∧ j' ≤ 5 ∧ a + 1 ≤ i' ∧ i' ≤ b ∧ Sd a i' w' ∧ PIn a b z w' ∧ SR c n rest H0 w' G ∧
      ([(0, .sl c 0 n 1), (1, .int .i64 (.ofNat a)), (2, .int .i64 (.ofNat b)), (7, .int .i64 (.ofNat i)), (8, .int .i64 (.ofNat (j + 1)))] : Kn) = [(0, .sl c 0 n 1), (1, .int .i64 (.ofNat a)), (2, .int .i64 (.ofNat b)), (7, .int .i64 (.ofNat i')), (8, .int .i64 (.ofNat j'))] :=
    fun w G h1 h2 h3 => ⟨_, by omega, i, j + 1, w, rfl, by omega, hai, hib, h1, h2, h3, rfl⟩
  repeat (first | ((first | apply Xk.sAny | apply Xk.tAny); (case hok => rfl); (case h => intro C hC; simp (disch := omega) only [w1, ↓reduceIte, Nat.reduceEqDiff, Nat.reduceLeDiff, Nat.reduceAdd, Nat.reduceSub, e5]; with_reducible exact hC); refine gc ?_) | refine gm ?_)
  refine Xk.if_ rfl rfl (fun c2 => ?_) (fun c2 => ?_)
  · repeat (first | ((first | apply Xk.sAny | apply Xk.tAny); (case hok => rfl); (case h => intro C hC; simp (disch := omega) only [w1, ↓reduceIte, Nat.reduceEqDiff, Nat.reduceLeDiff, Nat.reduceAdd, Nat.reduceSub]; with_reducible exact hC); refine gc ?_) | refine gm ?_)
    refine Xk.iter [0, 1, 2, 7, 8, 10] (fun m k G => ∃ q w, m = b - q ∧ i + 1 ≤ q ∧ q ≤ b ∧ Sd a i w ∧ PIn a b z w ∧ SR c n rest H0 w G ∧ k = [(0, .sl c 0 n 1), (1, .int .i64 (.ofNat a)), (2, .int .i64 (.ofNat b)), (7, .int .i64 (.ofNat i)), (8, .int .i64 (.ofNat j)), (10, .int .i64 (.ofNat q))]) rfl
      ⟨_, i + 1, w, rfl, Nat.le_refl _, by omega, hs, hp, hR, rfl⟩ ?_
    clear hs hp hR
    rintro m k G ⟨q, w, rfl, hq, hqb, hs, hp, hR, rfl⟩
    unfold l2_slices_partialInsertionSortOrdered_string
    have hl := hR.ln
    by_cases cq : q < b
    case neg =>
      iterate 2 repeat (first | ((first | apply Xk.sAny | apply Xk.tAny); (case hok => rfl); (case h => intro C hC; simp (disch := omega) only [w1, ↓reduceIte, Nat.reduceEqDiff, Nat.reduceLeDiff, Nat.reduceAdd, Nat.reduceSub, cq]; with_reducible exact hC); refine gc ?_) | refine gm ?_)
      exact ⟨rfl, outer w _ hs hp hR⟩
    obtain ⟨cl, cl1, g, k1, k2, l1, l2, o1, l3, l4, R3⟩ := hR.at2 (i := q) (j := q - 1) (by omega) (by omega)
    have f1 : q < n := by omega
    have f2 : q - 1 < n := by omega
    have f3 : 1 ≤ q := by omega
    repeat (first | ((first | apply Xk.sAny | apply Xk.tAny); (case hok => rfl); (case h => intro C hC; simp (disch := omega) only [w1, ↓reduceIte, Nat.reduceEqDiff, Nat.reduceLeDiff, Nat.reduceAdd, Nat.reduceSub, cq, g, k1, k2, l1, l2, f1, f2, f3]; with_reducible exact hC); refine gc ?_) | refine gm ?_)
    refine LessS_ev _ _ _ _ ?_
    cases hl2 : bltB (gz w q) (gz w (q - 1)) with
    | false =>
      iterate 2 repeat (first | ((first | apply Xk.sAny | apply Xk.tAny); (case hok => rfl); (case h => intro C hC; simp (disch := omega) only [w1, ↓reduceIte, Nat.reduceEqDiff, Nat.reduceLeDiff, Nat.reduceAdd, Nat.reduceSub, Bool.not_false]; with_reducible exact hC); refine gc ?_) | refine gm ?_)
      exact ⟨rfl, outer w _ hs hp hR⟩
    | true =>
      iterate 2 repeat (first | ((first | apply Xk.sAny | apply Xk.tAny); (case hok => rfl); (case h => intro C hC; simp (disch := omega) only [w1, ↓reduceIte, Nat.reduceEqDiff, Nat.reduceLeDiff, Nat.reduceAdd, Nat.reduceSub, Bool.not_true, g, k1, k2, l1, l2, f1, f2, f3, o1, l3]; with_reducible exact hC); refine gc ?_) | refine gm ?_)
      refine ⟨rfl, _, by omega, q + 1, _, rfl, by omega, by omega, fun p r h1 h2 h3 => ?_, hp.trans (PIn.swp (by omega) (by omega) (by omega)), R3, rfl⟩
      rw [swp_get (by omega) (by omega), swp_get (by omega) (by omega), if_neg (show ¬ p = q - 1 by omega), if_neg (show ¬ p = q by omega), if_neg (show ¬ r = q - 1 by omega), if_neg (show ¬ r = q by omega)]
      exact hs p r h1 h2 h3
  · repeat (first | ((first | apply Xk.sAny | apply Xk.tAny); (case hok => rfl); (case h => intro C hC; simp (disch := omega) only [w1, ↓reduceIte, Nat.reduceEqDiff, Nat.reduceLeDiff, Nat.reduceAdd, Nat.reduceSub]; with_reducible exact hC); refine gc ?_) | refine gm ?_)
    repeat (first | ((first | apply Xk.sAny | apply Xk.tAny); (case hok => rfl); (case h => intro C hC; simp (disch := omega) only [w1, ↓reduceIte, Nat.reduceEqDiff, Nat.reduceLeDiff, Nat.reduceAdd, Nat.reduceSub]; with_reducible exact hC); refine gc ?_) | refine gm ?_)
    exact ⟨rfl, outer w _ hs hp hR⟩
end Go.Proofs.Ytihoblfmhighpaa
