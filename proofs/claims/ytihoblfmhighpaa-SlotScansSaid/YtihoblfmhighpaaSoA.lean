/- slices.Sort of texts: what a row holds; cmp.Less; insertion sort. Conditions: none. -/
import Derived.Test.YtihoblfmhighpaaLibT
import Derived.Test.YtihoblfmhighpaaSoP
namespace Go.Proofs.Ytihoblfmhighpaa
open Go.Dp
set_option linter.unusedSimpArgs false
set_option linter.unusedVariables false
set_option maxHeartbeats 2000000
set_option maxRecDepth 8000
attribute [local irreducible] Ex.thnK Ex.inK Ret

structure SR (c n : Nat) (rest : List AV) (H0 : Heap) (z : List (List UInt8)) (G : Heap) : Prop where
  ok : G.Ok
  at_ : G.get c = some (.cells (strs z ++ rest) 1)
  ln : z.length = n
  kp : ∀ b y, b ≠ c → H0.get b = some y → G.get b = some y
theorem SR.le {c n : Nat} {rest : List AV} {H0 G G' : Heap} {z : List (List UInt8)} (h : SR c n rest H0 z G) (hO : G'.Ok) (hle : HLe G G') : SR c n rest H0 z G' := ⟨hO, hle _ _ h.at_, h.ln, fun b y hb e => hle _ _ (h.kp b y hb e)⟩
theorem SR.at2 {c n : Nat} {rest : List AV} {H0 G : Heap} {z : List (List UInt8)} (h : SR c n rest H0 z G) {i j : Nat} (hi : i < n) (hj : j < n) :
    ∃ cl cl1 : List AV, G.get c = some (.cells cl 1) ∧ (cl.drop i).take 1 = [.str (gz z i)] ∧ (cl.drop j).take 1 = [.str (gz z j)] ∧ i + 1 ≤ cl.length ∧ j + 1 ≤ cl.length ∧
      cl.take i ++ (.str (gz z j) :: cl.drop (i + 1)) = cl1 ∧ j + 1 ≤ cl1.length ∧ i + 1 ≤ cl1.length ∧ SR c n rest H0 (swp z i j) (G.put c (.cells (cl1.take j ++ (.str (gz z i) :: cl1.drop (j + 1))) 1)) := by
  have hi' : i < z.length := by rw [h.ln]; exact hi
  have hj' : j < z.length := by rw [h.ln]; exact hj
  have hj2 : j < (z.set i (gz z j)).length := by rw [List.length_set]; exact hj'
  have hi2 : i < (z.set i (gz z j)).length := by rw [List.length_set]; exact hi'
  refine ⟨strs z ++ rest, strs (z.set i (gz z j)) ++ rest, h.at_, strs_at hi' rest, strs_at hj' rest, strs_le hi' rest, strs_le hj' rest, strs_set hi' rest _, strs_le hj2 rest, strs_le hi2 rest, ?_⟩
  rw [strs_set hj2 rest]
  exact ⟨h.ok.put h.at_ _, Heap.get_put_self _ _ _, by rw [swp_len]; exact h.ln, fun b y hb e => by rw [Heap.get_put_ne _ _ _ hb]; exact h.kp b y hb e⟩

theorem lcut {L : Lib} {n : Nat} {k : Kn} {H : Heap} {Q : Ex → Kn → Heap → Prop} {b c : PC} {id : Nat} (l : List Nat) (I : Kn → Heap → Prop)
    (h1 : Xk L n (.loop b) k H (fun e k' H' => match e with
      | .exit j => j = id ∧ l.all (has k'.keys) = true ∧ I (k'.only l) H'
      | .ret => Q .ret k' H'
      | .normal => False))
    (h2 : ∀ k' H', I k' H' → Xk L n c k' H' Q) : Xk L n (.loop b) k H (Ex.inK id (Ex.thnK (fun k' H' => Xk L n c k' H' Q) Q)) :=
  h1.mono fun e k' H' _ _ h => by
    cases e with
    | normal => exact h.elim
    | ret => exact Ex.in_r (Ex.thn_r h)
    | exit j =>
      obtain ⟨rfl, hl, hI⟩ := h
      exact Ex.in_hit (Ex.thn_n (Xk.only l hl (h2 _ _ hI)))

theorem lsss (a b : List UInt8) : bin .lss (.str a) (.str b) = some (.bool (bltB a b)) := rfl
theorem LessS_ev (x y : List UInt8) (H : Heap) (Q : AV → Heap → Prop) (hQ : Q (.bool (bltB x y)) H) : Eo lib n_cmp_Less_string [.str x, .str y] H Q := by
  refine Eo.ok fun hOk => ?_
  refine Eo.code at_cmp_Less_string rfl ?_
  repeat (first | ((first | apply Xk.sAny | apply Xk.tAny); (case hok => rfl); (case h => intro C hC; simp (disch := omega) only [w1, ↓reduceIte, Nat.reduceEqDiff, Nat.reduceLeDiff, Nat.reduceAdd, Nat.reduceSub]; with_reducible exact hC); refine gc ?_) | refine gm ?_)
  have nan : ∀ z : List UInt8, ∀ Q : AV → Heap → Prop, Q (.bool false) H → Eo lib n_cmp_isNaN_string [.str z] H Q := by
    intro z Q hQ
    refine Eo.ok fun hOk => ?_
    refine Eo.code at_cmp_isNaN_string rfl ?_
    have q1 : (!true) = false := rfl
    iterate 2 repeat (first | ((first | apply Xk.sAny | apply Xk.tAny); (case hok => rfl); (case h => intro C hC; simp (disch := omega) only [w1, ↓reduceIte, Nat.reduceEqDiff, Nat.reduceLeDiff, Nat.reduceAdd, Nat.reduceSub, q1]; with_reducible exact hC); refine gc ?_) | refine gm ?_)
    exact hQ
  refine nan x _ ?_
  iterate 2 repeat (first | ((first | apply Xk.sAny | apply Xk.tAny); (case hok => rfl); (case h => intro C hC; simp (disch := omega) only [w1, ↓reduceIte, Nat.reduceEqDiff, Nat.reduceLeDiff, Nat.reduceAdd, Nat.reduceSub, lsss]; with_reducible exact hC); refine gc ?_) | refine gm ?_)
  exact hQ

theorem insS_ev (c n a b : Nat) (rest : List AV) (H0 H : Heap) (z : List (List UInt8)) (h : SR c n rest H0 z H) (hab : a ≤ b) (hb : b ≤ n) (hn : n < 1000000000) (Q : AV → Heap → Prop)
    (hQ : ∀ G w, SR c n rest H0 w G → PIn a b z w → Sd a b w → Q (.tup []) G) : Eo lib n_slices_insertionSortOrdered_string [.sl c 0 n 1, .int .i64 (.ofNat a), .int .i64 (.ofNat b)] H Q := by
  refine Eo.ok fun hOk => ?_
  refine Eo.code at_slices_insertionSortOrdered_string rfl ?_
  iterate 2 repeat (first | ((first | apply Xk.sAny | apply Xk.tAny); (case hok => rfl); (case h => intro C hC; simp (disch := omega) only [w1, ↓reduceIte, Nat.reduceEqDiff, Nat.reduceLeDiff, Nat.reduceAdd, Nat.reduceSub]; with_reducible exact hC); refine gc ?_) | refine gm ?_)
  refine Xk.iter [0, 1, 2, 6] (fun m k G => ∃ i w, m = b + 1 - i ∧ a + 1 ≤ i ∧ (i ≤ b ∨ i = a + 1) ∧ PIn a b z w ∧ Sd a i w ∧ SR c n rest H0 w G ∧
      k = [(0, .sl c 0 n 1), (1, .int .i64 (.ofNat a)), (2, .int .i64 (.ofNat b)), (6, .int .i64 (.ofNat i))]) rfl ⟨_, a + 1, z, rfl, Nat.le_refl _, .inr rfl, PIn.refl _ _ _, fun p q h1 h2 h3 => by omega, h, rfl⟩ ?_
  rintro m k G ⟨i, w, rfl, hi, hi2, hp, hs, hR, rfl⟩
  unfold l1_slices_insertionSortOrdered_string
  by_cases ci : i < b
  case neg =>
    repeat (first | ((first | apply Xk.sAny | apply Xk.tAny); (case hok => rfl); (case h => intro C hC; simp (disch := omega) only [w1, ↓reduceIte, Nat.reduceEqDiff, Nat.reduceLeDiff, Nat.reduceAdd, Nat.reduceSub, ci]; with_reducible exact hC); refine gc ?_) | refine gm ?_)
    refine hQ _ _ hR hp ?_
    rcases hi2 with e | e
    · have : i = b := by omega
      rw [← this]; exact hs
    · intro p q h1 h2 h3; omega
  iterate 2 repeat (first | ((first | apply Xk.sAny | apply Xk.tAny); (case hok => rfl); (case h => intro C hC; simp (disch := omega) only [w1, ↓reduceIte, Nat.reduceEqDiff, Nat.reduceLeDiff, Nat.reduceAdd, Nat.reduceSub, ci]; with_reducible exact hC); refine gc ?_) | refine gm ?_)
  refine Xk.iter [0, 1, 2, 6, 7] (fun m k G => ∃ j w, m = j ∧ a ≤ j ∧ j ≤ i ∧ PIn a b z w ∧ InsI a i j w ∧ SR c n rest H0 w G ∧
      k = [(0, .sl c 0 n 1), (1, .int .i64 (.ofNat a)), (2, .int .i64 (.ofNat b)), (6, .int .i64 (.ofNat i)), (7, .int .i64 (.ofNat j))]) rfl ⟨_, i, w, rfl, by omega, Nat.le_refl _, hp, InsI.begin hs, hR, rfl⟩ ?_
  clear hR hs hp w
  rintro j k G' ⟨_, w, rfl, hj, hji, hp, hs, hR, rfl⟩
  unfold l0_slices_insertionSortOrdered_string
  have hl : w.length = n := hR.ln
  by_cases cj : a < j
  · obtain ⟨cl, cl1, g, k1, k2, l1, l2, o1, l3, l4, R2⟩ := hR.at2 (i := j) (j := j - 1) (by omega) (by omega)
    have e1 : j < n := by omega
    have e2 : j - 1 < n := by omega
    have e3 : 1 ≤ j := by omega
    have hstep := fun hlt => InsI.step hs (by omega) cj hji hlt
    have hdone := fun hle => InsI.done (j := j) hs (.inr hle)
    generalize gz w j = x at *
    generalize gz w (j - 1) = y at *
    have hgt : (Int.ofNat a < Int.ofNat j) = True := eq_true (by rw [nat_lt]; exact cj)
    iterate 2 repeat (first | ((first | apply Xk.sAny | apply Xk.tAny); (case hok => rfl); (case h => intro C hC; simp (disch := omega) only [w1, ↓reduceIte, Nat.reduceEqDiff, Nat.reduceLeDiff, Nat.reduceAdd, Nat.reduceSub, cj, g, k1, k2, l1, l2, e1, e2, e3]; with_reducible exact hC); refine gc ?_) | refine gm ?_)
    refine LessS_ev x y _ _ ?_
    cases hc : bltB x y with
    | true =>
      iterate 2 repeat (first | ((first | apply Xk.sAny | apply Xk.tAny); (case hok => rfl); (case h => intro C hC; simp (disch := omega) only [w1, ↓reduceIte, Nat.reduceEqDiff, Nat.reduceLeDiff, Nat.reduceAdd, Nat.reduceSub, cj, g, k1, k2, l1, l2, e1, e2, e3, o1, l3]; with_reducible exact hC); refine gc ?_) | refine gm ?_)
      exact ⟨rfl, j - 1, by omega, j - 1, _, rfl, by omega, by omega, hp.trans (PIn.swp (by omega) (by omega) (by omega)), hstep hc, R2, rfl⟩
    | false =>
      iterate 2 repeat (first | ((first | apply Xk.sAny | apply Xk.tAny); (case hok => rfl); (case h => intro C hC; simp (disch := omega) only [w1, ↓reduceIte, Nat.reduceEqDiff, Nat.reduceLeDiff, Nat.reduceAdd, Nat.reduceSub, cj, g, k1, k2, l1, l2, e1, e2, e3]; with_reducible exact hC); refine gc ?_) | refine gm ?_)
      exact ⟨rfl, _, by omega, i + 1, w, rfl, by omega, .inl (by omega), hp, hdone hc, hR, rfl⟩
  · have hs' := InsI.done (j := j) hs (.inl (by omega))
    iterate 2 repeat (first | ((first | apply Xk.sAny | apply Xk.tAny); (case hok => rfl); (case h => intro C hC; simp (disch := omega) only [w1, ↓reduceIte, Nat.reduceEqDiff, Nat.reduceLeDiff, Nat.reduceAdd, Nat.reduceSub, cj]; with_reducible exact hC); refine gc ?_) | refine gm ?_)
    exact ⟨rfl, _, by omega, i + 1, w, rfl, by omega, .inl (by omega), hp, hs', hR, rfl⟩
end Go.Proofs.Ytihoblfmhighpaa
