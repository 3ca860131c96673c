/- slices.Sort of texts: heap sort. Conditions: none. -/
import Derived.Test.YtihoblfmhighpaaSoC
namespace Go.Proofs.Ytihoblfmhighpaa
open Go.Dp
set_option linter.unusedSimpArgs false
set_option linter.unusedVariables false
set_option maxHeartbeats 2000000
set_option maxRecDepth 8000
attribute [local irreducible] Ex.thnK Ex.inK Ret

theorem sift_ev (c n f lo hi : Nat) (rest : List AV) (H0 H : Heap) (z : List (List UInt8)) (h : SR c n rest H0 z H) (hb : f + hi ≤ n) (hlo : lo ≤ n) (hn : n < 1000000000) (hh : Hp f (lo + 1) hi z) (Q : AV → Heap → Prop)
    (hQ : ∀ G w, SR c n rest H0 w G → PIn f (f + hi) z w → Hp f lo hi w → Q (.tup []) G) : Eo lib n_slices_siftDownOrdered_string [.sl c 0 n 1, .int .i64 (.ofNat lo), .int .i64 (.ofNat hi), .int .i64 (.ofNat f)] H Q := by
  refine Eo.ok fun hOk => ?_
  refine Eo.code at_slices_siftDownOrdered_string rfl ?_
  iterate 2 repeat (first | ((first | apply Xk.sAny | apply Xk.tAny); (case hok => rfl); (case h => intro C hC; simp (disch := omega) only [w1, ↓reduceIte, Nat.reduceEqDiff, Nat.reduceLeDiff, Nat.reduceAdd, Nat.reduceSub]; with_reducible exact hC); refine gc ?_) | refine gm ?_)
  refine Xk.iter [0, 2, 3, 8] (fun m k G => ∃ r w, m = n - r ∧ r ≤ n ∧ lo ≤ r ∧ HpI f lo hi r w ∧ PIn f (f + hi) z w ∧ SR c n rest H0 w G ∧ k = [(0, .sl c 0 n 1), (2, .int .i64 (.ofNat hi)), (3, .int .i64 (.ofNat f)), (8, .int .i64 (.ofNat r))]) rfl
    ⟨_, lo, z, rfl, hlo, Nat.le_refl _, HpI.begin hh, PIn.refl _ _ _, h, rfl⟩ ?_
  rintro m k G ⟨r, w, rfl, hr, hlr, hI, hp, hR, rfl⟩
  unfold l0_slices_siftDownOrdered_string
  have hl := hR.ln
  have hmul := muln_i64 2 r (by omega)
  by_cases ch : hi ≤ 2 * r + 1
  · have hd := hI.done (fun c hc1 hc2 => by omega)
    iterate 2 repeat (first | ((first | apply Xk.sAny | apply Xk.tAny); (case hok => rfl); (case h => intro C hC; simp (disch := omega) only [w1, ↓reduceIte, Nat.reduceEqDiff, Nat.reduceLeDiff, Nat.reduceAdd, Nat.reduceSub, hmul, ch]; with_reducible exact hC); refine gc ?_) | refine gm ?_)
    exact hQ _ _ hR hp hd
  have fin : ∀ d, (d = 2 * r + 1 ∨ d = 2 * r + 2) → d < hi → (∀ e, (e = 2 * r + 1 ∨ e = 2 * r + 2) → e < hi → le (gz w (f + e)) (gz w (f + d))) →
      (bltB (gz w (f + r)) (gz w (f + d)) = false → Hp f lo hi w) ∧ (bltB (gz w (f + r)) (gz w (f + d)) = true → HpI f lo hi d (swp w (f + r) (f + d)) ∧ PIn f (f + hi) z (swp w (f + r) (f + d))) := fun d h1 h2 h3 =>
    ⟨fun hb => hI.done fun c hc1 hc2 => le_trans (h3 c hc1 hc2) hb, fun hb => ⟨hI.step (by omega) hlr h1 h2 h3 hb, hp.trans (PIn.swp (by omega) (by omega) (by omega))⟩⟩
  obtain ⟨d, hd1, hd2, hmax, hcase⟩ : ∃ d, (d = 2 * r + 1 ∨ d = 2 * r + 2) ∧ d < hi ∧ (∀ e, (e = 2 * r + 1 ∨ e = 2 * r + 2) → e < hi → le (gz w (f + e)) (gz w (f + d))) ∧
      ((2 * r + 1 + 1 < hi ∧ bltB (gz w (f + (2 * r + 1))) (gz w (f + (2 * r + 1) + 1)) = true ∧ d = 2 * r + 1 + 1) ∨ (2 * r + 1 + 1 < hi ∧ bltB (gz w (f + (2 * r + 1))) (gz w (f + (2 * r + 1) + 1)) = false ∧ d = 2 * r + 1) ∨ (¬ 2 * r + 1 + 1 < hi ∧ d = 2 * r + 1)) := by
    by_cases c2 : 2 * r + 1 + 1 < hi
    · cases hb : bltB (gz w (f + (2 * r + 1))) (gz w (f + (2 * r + 1) + 1)) with
      | true =>
        refine ⟨2 * r + 2, .inr rfl, by omega, fun e h1 h2 => ?_, .inl ⟨c2, rfl, rfl⟩⟩
        rcases h1 with rfl | rfl
        · exact le_of_lt hb
        · exact le_refl _
      | false =>
        refine ⟨2 * r + 1, .inl rfl, by omega, fun e h1 h2 => ?_, .inr (.inl ⟨c2, rfl, rfl⟩)⟩
        rcases h1 with rfl | rfl
        · exact le_refl _
        · exact hb
    · refine ⟨2 * r + 1, .inl rfl, by omega, fun e h1 h2 => ?_, .inr (.inr ⟨c2, rfl⟩)⟩
      rcases h1 with rfl | rfl
      · exact le_refl _
      · omega
  obtain ⟨f1, f2⟩ := fin d hd1 hd2 hmax
  clear fin hmax
  have hlt : r < d := by omega
  obtain ⟨cl, cl1, g, k1, k2, l1, l2, o1, l3, l4, R2⟩ := hR.at2 (i := f + r) (j := f + d) (by omega) (by omega)
  have e1 : f + r < n := by omega
  have e2 : f + d < n := by omega
  have tail : ∀ x, bltB (gz w (f + r)) (gz w (f + d)) = x → (x = false → Hp f lo hi w) ∧ (x = true → HpI f lo hi d (swp w (f + r) (f + d)) ∧ PIn f (f + hi) z (swp w (f + r) (f + d))) := fun x hx => by subst hx; exact ⟨f1, f2⟩
  rcases hcase with ⟨c2, hb, hd⟩ | ⟨c2, hb, hd⟩ | ⟨c2, hd⟩
  case' inl =>
    obtain ⟨cl', cl1', g', k1', k2', l1', l2', _⟩ := hR.at2 (i := f + (2 * r + 1)) (j := f + (2 * r + 1) + 1) (by omega) (by omega)
    have e3 : f + (2 * r + 1) < n := by omega
    have e4 : f + (2 * r + 1) + 1 < n := by omega
    repeat (first | ((first | apply Xk.sAny | apply Xk.tAny); (case hok => rfl); (case h => intro C hC; simp (disch := omega) only [w1, ↓reduceIte, Nat.reduceEqDiff, Nat.reduceLeDiff, Nat.reduceAdd, Nat.reduceSub, hmul, ch, c2, g', k1', k2', l1', l2', e3, e4]; with_reducible exact hC); refine gc ?_) | refine gm ?_)
    refine LessS_ev _ _ _ _ ?_
    rw [hb]
    subst hd
    iterate 2 repeat (first | ((first | apply Xk.sAny | apply Xk.tAny); (case hok => rfl); (case h => intro C hC; simp (disch := omega) only [w1, ↓reduceIte, Nat.reduceEqDiff, Nat.reduceLeDiff, Nat.reduceAdd, Nat.reduceSub, g, k1, k2, l1, l2, e1, e2]; with_reducible exact hC); refine gc ?_) | refine gm ?_)
  case' inr.inl =>
    obtain ⟨cl', cl1', g', k1', k2', l1', l2', _⟩ := hR.at2 (i := f + (2 * r + 1)) (j := f + (2 * r + 1) + 1) (by omega) (by omega)
    have e3 : f + (2 * r + 1) < n := by omega
    have e4 : f + (2 * r + 1) + 1 < n := by omega
    repeat (first | ((first | apply Xk.sAny | apply Xk.tAny); (case hok => rfl); (case h => intro C hC; simp (disch := omega) only [w1, ↓reduceIte, Nat.reduceEqDiff, Nat.reduceLeDiff, Nat.reduceAdd, Nat.reduceSub, hmul, ch, c2, g', k1', k2', l1', l2', e3, e4]; with_reducible exact hC); refine gc ?_) | refine gm ?_)
    refine LessS_ev _ _ _ _ ?_
    rw [hb]
    subst hd
    iterate 2 repeat (first | ((first | apply Xk.sAny | apply Xk.tAny); (case hok => rfl); (case h => intro C hC; simp (disch := omega) only [w1, ↓reduceIte, Nat.reduceEqDiff, Nat.reduceLeDiff, Nat.reduceAdd, Nat.reduceSub, g, k1, k2, l1, l2, e1, e2]; with_reducible exact hC); refine gc ?_) | refine gm ?_)
  case' inr.inr =>
    subst hd
    iterate 2 repeat (first | ((first | apply Xk.sAny | apply Xk.tAny); (case hok => rfl); (case h => intro C hC; simp (disch := omega) only [w1, ↓reduceIte, Nat.reduceEqDiff, Nat.reduceLeDiff, Nat.reduceAdd, Nat.reduceSub, hmul, ch, c2, g, k1, k2, l1, l2, e1, e2]; with_reducible exact hC); refine gc ?_) | refine gm ?_)
  all_goals
    refine LessS_ev _ _ _ _ ?_
    cases hb2 : bltB (gz w (f + r)) _ with
    | false =>
      have t1 := (tail false hb2).1 rfl
      iterate 2 repeat (first | ((first | apply Xk.sAny | apply Xk.tAny); (case hok => rfl); (case h => intro C hC; simp (disch := omega) only [w1, ↓reduceIte, Nat.reduceEqDiff, Nat.reduceLeDiff, Nat.reduceAdd, Nat.reduceSub, Bool.not_false]; with_reducible exact hC); refine gc ?_) | refine gm ?_)
      exact hQ _ _ hR hp t1
    | true =>
      obtain ⟨t1, t2⟩ := (tail true hb2).2 rfl
      iterate 2 repeat (first | ((first | apply Xk.sAny | apply Xk.tAny); (case hok => rfl); (case h => intro C hC; simp (disch := omega) only [w1, ↓reduceIte, Nat.reduceEqDiff, Nat.reduceLeDiff, Nat.reduceAdd, Nat.reduceSub, Bool.not_true, g, k1, k2, l1, l2, e1, e2, o1, l3]; with_reducible exact hC); refine gc ?_) | refine gm ?_)
      exact ⟨rfl, _, by omega, _, _, rfl, by omega, by omega, t1, t2, R2, rfl⟩

def below1 : Nat → Int
  | 0 => .negSucc 0
  | m + 1 => .ofNat m
theorem sub_below (m : Nat) (h : m < 9223372036854775808) : bin .sub (.int .i64 (.ofNat m)) (.int .i64 (.ofNat 1)) = some (.int .i64 (below1 m)) := by
  cases m with
  | zero => rfl
  | succ m => rw [subn_i64 _ _ (by omega) (by omega)]; rfl

structure HSt (f i hi : Nat) (w : List (List UInt8)) : Prop where
  hp : Hp f 0 i w
  so : ∀ p q, i ≤ p → p < q → q < hi → le (gz w (f + p)) (gz w (f + q))
  ac : ∀ p q, p < i → i ≤ q → q < hi → le (gz w (f + p)) (gz w (f + q))
theorem HSt.step {f i hi : Nat} {w : List (List UInt8)} (h : HSt f (i + 1) hi w) (hl : f + hi ≤ w.length) (hi' : i + 1 ≤ hi) : Hp f 1 i (swp w f (f + i)) ∧ ∀ w2, PIn f (f + i) (swp w f (f + i)) w2 → Hp f 0 i w2 → HSt f i hi w2 := by
  have sg : ∀ k, gz (swp w f (f + i)) k = if k = f + i then gz w f else if k = f then gz w (f + i) else gz w k := fun k => swp_get (by omega) (by omega) k
  have top := h.hp.top
  have out : ∀ q, i < q → gz (swp w f (f + i)) (f + q) = gz w (f + q) := fun q hq => by rw [sg, if_neg (by omega), if_neg (by omega)]
  have at_i : gz (swp w f (f + i)) (f + i) = gz w f := by rw [sg, if_pos rfl]
  have low : ∀ p, p < i → ∃ p', p' < i + 1 ∧ gz (swp w f (f + i)) (f + p) = gz w (f + p') := fun p hp => by
    rw [sg, if_neg (by omega)]
    by_cases e : p = 0
    · subst e; rw [if_pos (by omega)]; exact ⟨i, by omega, rfl⟩
    · rw [if_neg (by omega)]; exact ⟨p, by omega, rfl⟩
  refine ⟨fun r c h1 h2 h3 => ?_, fun w2 hp hh => ⟨hh, fun p q h1 h2 h3 => ?_, fun p q h1 h2 h3 => ?_⟩⟩
  · rw [sg, if_neg (by omega), if_neg (by omega), sg, if_neg (by omega), if_neg (by omega)]
    exact h.hp r c (Nat.zero_le _) h2 (by omega)
  · rw [hp.out _ (by omega), hp.out _ (by omega), out q (by omega)]
    by_cases e : p = i
    · subst e
      rw [at_i]
      have := h.ac 0 q (by omega) (by omega) h3
      rwa [Nat.add_zero] at this
    · rw [out p (by omega)]
      exact h.so p q (by omega) h2 h3
  · rw [hp.out (f + q) (by omega)]
    refine hp.in_ (fun x => le x (gz (swp w f (f + i)) (f + q))) (fun k k1 k2 => ?_) (f + p) (by omega) (by omega)
    obtain ⟨p', hp', e⟩ := low (k - f) (by omega)
    rw [show f + (k - f) = k by omega] at e
    rw [e]
    by_cases eq : q = i
    · subst eq; rw [at_i]; exact top p' hp'
    · rw [out q (by omega)]; exact h.ac p' q hp' (by omega) h3

theorem heap_ev (c n a b : Nat) (rest : List AV) (H0 H : Heap) (z : List (List UInt8)) (h : SR c n rest H0 z H) (hab : a < b) (hb : b ≤ n) (hn : n < 1000000000) (Q : AV → Heap → Prop)
    (hQ : ∀ G w, SR c n rest H0 w G → PIn a b z w → Sd a b w → Q (.tup []) G) : Eo lib n_slices_heapSortOrdered_string [.sl c 0 n 1, .int .i64 (.ofNat a), .int .i64 (.ofNat b)] H Q := by
  refine Eo.ok fun hOk => ?_
  refine Eo.code at_slices_heapSortOrdered_string rfl ?_
  obtain ⟨e, rfl⟩ : ∃ e, b = a + (e + 1) := ⟨b - a - 1, by omega⟩
  have eb : a + (e + 1) - a = e + 1 := by omega
  have hle : a ≤ a + (e + 1) := by omega
  have hq2 := quon_i64 e 2 (by omega) (by omega)
  have e1 : 1 ≤ e + 1 := by omega
  iterate 2 repeat (first | ((first | apply Xk.sAny | apply Xk.tAny); (case hok => rfl); (case h => intro C hC; simp (disch := omega) only [w1, ↓reduceIte, Nat.reduceEqDiff, Nat.reduceLeDiff, Nat.reduceAdd, Nat.reduceSub, eb, hle, hq2, e1]; with_reducible exact hC); refine gc ?_) | refine gm ?_)
  have trv : Hp a (e / 2 + 1) (e + 1) z := fun r c h1 h2 h3 => by omega
  refine lcut [0, 6, 7, 8] (fun k G => ∃ w, Hp a 0 (e + 1) w ∧ PIn a (a + (e + 1)) z w ∧ SR c n rest H0 w G ∧ k = [(0, .sl c 0 n 1), (6, .int .i64 (.ofNat a)), (7, .int .i64 (.ofNat 0)), (8, .int .i64 (.ofNat (e + 1)))])
    (Xk.iter [0, 6, 7, 8, 9] (fun m k G => ∃ w, m ≤ n ∧ Hp a m (e + 1) w ∧ PIn a (a + (e + 1)) z w ∧ SR c n rest H0 w G ∧ k = [(0, .sl c 0 n 1), (6, .int .i64 (.ofNat a)), (7, .int .i64 (.ofNat 0)), (8, .int .i64 (.ofNat (e + 1))), (9, .int .i64 (below1 m))]) rfl ⟨e / 2 + 1, z, by omega, trv, PIn.refl _ _ _, h, rfl⟩ ?_) ?_
  · rintro m k G ⟨w, hm, hh, hp, hR, rfl⟩
    unfold l0_slices_heapSortOrdered_string
    cases m with
    | zero =>
      have h0 : (Int.ofNat 0 ≤ below1 0) = False := eq_false (by decide)
      iterate 2 repeat (first | ((first | apply Xk.sAny | apply Xk.tAny); (case hok => rfl); (case h => intro C hC; simp (disch := omega) only [w1, ↓reduceIte, Nat.reduceEqDiff, Nat.reduceLeDiff, Nat.reduceAdd, Nat.reduceSub, h0]; with_reducible exact hC); refine gc ?_) | refine gm ?_)
      exact ⟨rfl, rfl, w, hh, hp, hR, rfl⟩
    | succ m =>
      have h0 : (Int.ofNat 0 ≤ Int.ofNat m) = True := eq_true (Int.natCast_nonneg m)
      show Xk lib _ _ [_, _, _, _, (9, .int .i64 (.ofNat m))] _ _
      iterate 2 repeat (first | ((first | apply Xk.sAny | apply Xk.tAny); (case hok => rfl); (case h => intro C hC; simp (disch := omega) only [w1, ↓reduceIte, Nat.reduceEqDiff, Nat.reduceLeDiff, Nat.reduceAdd, Nat.reduceSub, h0]; with_reducible exact hC); refine gc ?_) | refine gm ?_)
      refine sift_ev c n a m (e + 1) rest H0 _ w hR hb (by omega) hn hh _ fun G2 w2 R2 p2 h2 => ?_
      have hs := sub_below m (by omega)
      iterate 2 repeat (first | ((first | apply Xk.sAny | apply Xk.tAny); (case hok => rfl); (case h => intro C hC; simp (disch := omega) only [w1, ↓reduceIte, Nat.reduceEqDiff, Nat.reduceLeDiff, Nat.reduceAdd, Nat.reduceSub, hs]; with_reducible exact hC); refine gc ?_) | refine gm ?_)
      exact ⟨rfl, m, Nat.lt_succ_self _, w2, by omega, h2, hp.trans p2, R2, rfl⟩
  rintro k G ⟨w, hh, hp, hR, rfl⟩
  have e2 : e + 1 - 1 = e := rfl
  have hs := sub_below (e + 1) (by omega)
  iterate 2 repeat (first | ((first | apply Xk.sAny | apply Xk.tAny); (case hok => rfl); (case h => intro C hC; simp (disch := omega) only [w1, ↓reduceIte, Nat.reduceEqDiff, Nat.reduceLeDiff, Nat.reduceAdd, Nat.reduceSub, hs, e1, e2]; with_reducible exact hC); refine gc ?_) | refine gm ?_)
  refine Xk.iter [0, 6, 7, 8, 10] (fun m k G => ∃ w, m ≤ e + 1 ∧ HSt a m (e + 1) w ∧ PIn a (a + (e + 1)) z w ∧ SR c n rest H0 w G ∧ k = [(0, .sl c 0 n 1), (6, .int .i64 (.ofNat a)), (7, .int .i64 (.ofNat 0)), (8, .int .i64 (.ofNat (e + 1))), (10, .int .i64 (below1 m))]) rfl
    ⟨e + 1, w, Nat.le_refl _, ⟨hh, fun p q h1 h2 h3 => by omega, fun p q h1 h2 h3 => by omega⟩, hp, hR, rfl⟩ ?_
  clear hR hp hh w
  rintro m k G ⟨w, hm, hh, hp, hR, rfl⟩
  unfold l1_slices_heapSortOrdered_string
  cases m with
  | zero =>
    have h0 : (Int.ofNat 0 ≤ below1 0) = False := eq_false (by decide)
    iterate 2 repeat (first | ((first | apply Xk.sAny | apply Xk.tAny); (case hok => rfl); (case h => intro C hC; simp (disch := omega) only [w1, ↓reduceIte, Nat.reduceEqDiff, Nat.reduceLeDiff, Nat.reduceAdd, Nat.reduceSub, h0]; with_reducible exact hC); refine gc ?_) | refine gm ?_)
    refine hQ _ w hR hp fun p q h1 h2 h3 => ?_
    have := hh.so (p - a) (q - a) (by omega) (by omega) (by omega)
    rwa [show a + (p - a) = p by omega, show a + (q - a) = q by omega] at this
  | succ m =>
    have h0 : (Int.ofNat 0 ≤ Int.ofNat m) = True := eq_true (Int.natCast_nonneg m)
    have hl := hR.ln
    obtain ⟨s1, s2⟩ := hh.step (by omega) hm
    obtain ⟨cl, cl1, g, k1, k2, l1, l2, o1, l3, l4, R2⟩ := hR.at2 (i := a) (j := a + m) (by omega) (by omega)
    have e3 : a < n := by omega
    have e4 : a + m < n := by omega
    show Xk lib _ _ [_, _, _, _, (10, .int .i64 (.ofNat m))] _ _
    iterate 2 repeat (first | ((first | apply Xk.sAny | apply Xk.tAny); (case hok => rfl); (case h => intro C hC; simp (disch := omega) only [w1, ↓reduceIte, Nat.reduceEqDiff, Nat.reduceLeDiff, Nat.reduceAdd, Nat.reduceSub, h0, g, k1, k2, l1, l2, e3, e4, o1, l3]; with_reducible exact hC); refine gc ?_) | refine gm ?_)
    refine sift_ev c n a 0 m rest H0 _ _ R2 (by omega) (by omega) hn s1 _ fun G2 w2 R3 p3 h3 => ?_
    have hs := sub_below m (by omega)
    iterate 2 repeat (first | ((first | apply Xk.sAny | apply Xk.tAny); (case hok => rfl); (case h => intro C hC; simp (disch := omega) only [w1, ↓reduceIte, Nat.reduceEqDiff, Nat.reduceLeDiff, Nat.reduceAdd, Nat.reduceSub, hs]; with_reducible exact hC); refine gc ?_) | refine gm ?_)
    have hp2 := hp.trans (PIn.swp (z := w) (i := a) (j := a + m) (by omega) (by omega) (by omega))
    exact ⟨rfl, m, Nat.lt_succ_self _, w2, by omega, s2 w2 p3 h3, hp2.trans (p3.mono (Nat.le_refl _) (by omega)), R3, rfl⟩
end Go.Proofs.Ytihoblfmhighpaa
