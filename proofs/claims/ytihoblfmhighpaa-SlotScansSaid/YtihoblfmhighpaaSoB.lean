/- slices.Sort of texts: the pivot. Conditions: none. -/
import Derived.Test.YtihoblfmhighpaaSoA
namespace Go.Proofs.Ytihoblfmhighpaa
open Go.Dp
set_option linter.unusedSimpArgs false
set_option linter.unusedVariables false
set_option maxHeartbeats 2000000
set_option maxRecDepth 8000
attribute [local irreducible] Ex.thnK Ex.inK Ret

structure SRs (c n : Nat) (rest : List AV) (H0 : Heap) (z : List (List UInt8)) (p s : Nat) (G : Heap) : Prop where
  r : SR c n rest H0 z G
  cnt : G.get p = some (.cells [.int .i64 (.ofNat s)] 1)
  ne : p ≠ c
  fr : H0.get p = none
theorem SRs.put {c n : Nat} {rest : List AV} {H0 G : Heap} {z : List (List UInt8)} {p s : Nat} (h : SRs c n rest H0 z p s G) (t : Nat) : SRs c n rest H0 z p t (G.put p (.cells [.int .i64 (.ofNat t)] 1)) :=
  ⟨⟨h.r.ok.put h.cnt _, by rw [Heap.get_put_ne _ _ _ (Ne.symm h.ne)]; exact h.r.at_, h.r.ln, fun b y hb e => by
    have hbp : b ≠ p := fun q => by subst q; rw [h.fr] at e; cases e
    rw [Heap.get_put_ne _ _ _ hbp]; exact h.r.kp b y hb e⟩, Heap.get_put_self _ _ _, h.ne, h.fr⟩

theorem order2_ev (c n a b p s : Nat) (rest : List AV) (H0 H : Heap) (z : List (List UInt8)) (h : SRs c n rest H0 z p s H) (ha : a < n) (hb : b < n) (hn : n < 1000000000) (hs : s < 1000) (Q : AV → Heap → Prop)
    (hQ : ∀ x y t G, (x = a ∧ y = b ∨ x = b ∧ y = a) → t ≤ s + 1 → SRs c n rest H0 z p t G → Q (.tup [.int .i64 (.ofNat x), .int .i64 (.ofNat y)]) G) :
    Eo lib n_slices_order2Ordered_string [.sl c 0 n 1, .int .i64 (.ofNat a), .int .i64 (.ofNat b), .ptr p 0] H Q := by
  refine Eo.ok fun hOk => ?_
  refine Eo.code at_slices_order2Ordered_string rfl ?_
  obtain ⟨cl, cl1, g, k1, k2, l1, l2, o1, l3, l4, R2⟩ := h.r.at2 hb ha
  have hc := h.cnt
  generalize gz z b = x at *
  generalize gz z a = y at *
  repeat (first | ((first | apply Xk.sAny | apply Xk.tAny); (case hok => rfl); (case h => intro C hC; simp (disch := omega) only [w1, ↓reduceIte, Nat.reduceEqDiff, Nat.reduceLeDiff, Nat.reduceAdd, Nat.reduceSub, g, k1, k2, l1, l2, ha, hb]; with_reducible exact hC); refine gc ?_) | refine gm ?_)
  refine LessS_ev x y _ _ ?_
  cases hl : bltB x y with
  | true =>
    iterate 2 repeat (first | ((first | apply Xk.sAny | apply Xk.tAny); (case hok => rfl); (case h => intro C hC; simp (disch := omega) only [w1, ↓reduceIte, Nat.reduceEqDiff, Nat.reduceLeDiff, Nat.reduceAdd, Nat.reduceSub, hc]; with_reducible exact hC); refine gc ?_) | refine gm ?_)
    exact hQ b a (s + 1) _ (.inr ⟨rfl, rfl⟩) (Nat.le_refl _) (h.put (s + 1))
  | false =>
    iterate 2 repeat (first | ((first | apply Xk.sAny | apply Xk.tAny); (case hok => rfl); (case h => intro C hC; simp (disch := omega) only [w1, ↓reduceIte, Nat.reduceEqDiff, Nat.reduceLeDiff, Nat.reduceAdd, Nat.reduceSub]; with_reducible exact hC); refine gc ?_) | refine gm ?_)
    exact hQ a b s _ (.inl ⟨rfl, rfl⟩) (by omega) h

theorem median_ev (c n a b d p s : Nat) (rest : List AV) (H0 H : Heap) (z : List (List UInt8)) (h : SRs c n rest H0 z p s H) (ha : a < n) (hb : b < n) (hd : d < n) (hn : n < 1000000000) (hs : s < 100) (Q : AV → Heap → Prop)
    (hQ : ∀ x t G, (x = a ∨ x = b ∨ x = d) → t ≤ s + 3 → SRs c n rest H0 z p t G → Q (.int .i64 (.ofNat x)) G) :
    Eo lib n_slices_medianOrdered_string [.sl c 0 n 1, .int .i64 (.ofNat a), .int .i64 (.ofNat b), .int .i64 (.ofNat d), .ptr p 0] H Q := by
  refine Eo.ok fun hOk => ?_
  refine Eo.code at_slices_medianOrdered_string rfl ?_
  repeat (first | ((first | apply Xk.sAny | apply Xk.tAny); (case hok => rfl); (case h => intro C hC; simp (disch := omega) only [w1, ↓reduceIte, Nat.reduceEqDiff, Nat.reduceLeDiff, Nat.reduceAdd, Nat.reduceSub]; with_reducible exact hC); refine gc ?_) | refine gm ?_)
  refine order2_ev c n a b p s rest H0 _ z h ha hb hn (by omega) _ fun a1 b1 s1 G1 h1 hs1 R1 => ?_
  repeat (first | ((first | apply Xk.sAny | apply Xk.tAny); (case hok => rfl); (case h => intro C hC; simp (disch := omega) only [w1, ↓reduceIte, Nat.reduceEqDiff, Nat.reduceLeDiff, Nat.reduceAdd, Nat.reduceSub]; with_reducible exact hC); refine gc ?_) | refine gm ?_)
  refine order2_ev c n b1 d p s1 rest H0 _ z R1 (by omega) hd hn (by omega) _ fun b2 d2 s2 G2 h2 hs2 R2 => ?_
  repeat (first | ((first | apply Xk.sAny | apply Xk.tAny); (case hok => rfl); (case h => intro C hC; simp (disch := omega) only [w1, ↓reduceIte, Nat.reduceEqDiff, Nat.reduceLeDiff, Nat.reduceAdd, Nat.reduceSub]; with_reducible exact hC); refine gc ?_) | refine gm ?_)
  refine order2_ev c n a1 b2 p s2 rest H0 _ z R2 (by omega) (by omega) hn (by omega) _ fun a3 b3 s3 G3 h3 hs3 R3 => ?_
  repeat (first | ((first | apply Xk.sAny | apply Xk.tAny); (case hok => rfl); (case h => intro C hC; simp (disch := omega) only [w1, ↓reduceIte, Nat.reduceEqDiff, Nat.reduceLeDiff, Nat.reduceAdd, Nat.reduceSub]; with_reducible exact hC); refine gc ?_) | refine gm ?_)
  exact hQ b3 s3 _ (by omega) (by omega) R3

theorem medianAdj_ev (c n a p s : Nat) (rest : List AV) (H0 H : Heap) (z : List (List UInt8)) (h : SRs c n rest H0 z p s H) (ha : 1 ≤ a) (hb : a + 1 < n) (hn : n < 1000000000) (hs : s < 100) (Q : AV → Heap → Prop)
    (hQ : ∀ x t G, (a - 1 ≤ x ∧ x ≤ a + 1) → t ≤ s + 3 → SRs c n rest H0 z p t G → Q (.int .i64 (.ofNat x)) G) :
    Eo lib n_slices_medianAdjacentOrdered_string [.sl c 0 n 1, .int .i64 (.ofNat a), .ptr p 0] H Q := by
  refine Eo.ok fun hOk => ?_
  refine Eo.code at_slices_medianAdjacentOrdered_string rfl ?_
  repeat (first | ((first | apply Xk.sAny | apply Xk.tAny); (case hok => rfl); (case h => intro C hC; simp (disch := omega) only [w1, ↓reduceIte, Nat.reduceEqDiff, Nat.reduceLeDiff, Nat.reduceAdd, Nat.reduceSub, ha]; with_reducible exact hC); refine gc ?_) | refine gm ?_)
  refine median_ev c n (a - 1) a (a + 1) p s rest H0 _ z h (by omega) (by omega) (by omega) hn hs _ fun x t G h1 h2 h3 => ?_
  repeat (first | ((first | apply Xk.sAny | apply Xk.tAny); (case hok => rfl); (case h => intro C hC; simp (disch := omega) only [w1, ↓reduceIte, Nat.reduceEqDiff, Nat.reduceLeDiff, Nat.reduceAdd, Nat.reduceSub]; with_reducible exact hC); refine gc ?_) | refine gm ?_)
  exact hQ x t _ (by omega) h2 h3

theorem choosePivot_ev (c n a b : Nat) (rest : List AV) (H0 H : Heap) (z : List (List UInt8)) (h : SR c n rest H0 z H) (hab : a + 8 ≤ b) (hb : b ≤ n) (hn : n < 1000000000) (hcl : c < H.next) (hH0 : ∀ q, H.next ≤ q → H0.get q = none) (Q : AV → Heap → Prop)
    (hQ : ∀ x i G, a ≤ x → x < b → SR c n rest H0 z G → (i = 0 ∨ i = 1 ∨ i = 2) → Q (.tup [.int .i64 (.ofNat x), .int .i64 (.ofNat i)]) G) :
    Eo lib n_slices_choosePivotOrdered_string [.sl c 0 n 1, .int .i64 (.ofNat a), .int .i64 (.ofNat b)] H Q := by
  refine Eo.ok fun hOk => ?_
  refine Eo.code at_slices_choosePivotOrdered_string rfl ?_
  have hO1 := hOk.new (.cells [.int .i64 (.ofNat 0)] 1)
  have hle1 := HLe.new (hOk _ (Nat.le_refl _)) (.cells [.int .i64 (.ofNat 0)] 1)
  have R1 : SRs c n rest H0 z H.next 0 (H.new (.cells [.int .i64 (.ofNat 0)] 1)) := ⟨h.le hO1 hle1, Heap.get_new_self _ _, by omega, hH0 _ (Nat.le_refl _)⟩
  have q4 := quon_i64 (b - a) 4 (by omega) (by omega)
  have e1 : (b - a) / 4 * 1 < 9223372036854775808 := by omega
  have m1 := muln_i64 ((b - a) / 4) 1 e1
  have m2 := muln_i64 ((b - a) / 4) 2 (by omega)
  have m3 := muln_i64 ((b - a) / 4) 3 (by omega)
  have hba : a ≤ b := by omega
  have c8 : 8 ≤ b - a := by omega
  have fin : ∀ (k : Kn), True := fun _ => trivial
  iterate 2 repeat (first | ((first | apply Xk.sAny | apply Xk.tAny); (case hok => rfl); (case h => intro C hC; simp (disch := omega) only [w1, ↓reduceIte, Nat.reduceEqDiff, Nat.reduceLeDiff, Nat.reduceAdd, Nat.reduceSub, q4, m1, m2, m3, hba, c8]; with_reducible exact hC); refine gc ?_) | refine gm ?_)
  generalize H.new (.cells [.int .i64 (.ofNat 0)] 1) = H1 at *
  generalize H.next = p at *
  have hr1 := R1.r.ok
  refine Xk.sIf rfl rfl (fun c50 => ?_) (fun c50 => ?_)
  · repeat (first | ((first | apply Xk.sAny | apply Xk.tAny); (case hok => rfl); (case h => intro C hC; simp (disch := omega) only [w1, ↓reduceIte, Nat.reduceEqDiff, Nat.reduceLeDiff, Nat.reduceAdd, Nat.reduceSub]; with_reducible exact hC); refine gc ?_) | refine gm ?_)
    refine medianAdj_ev c n (a + (b - a) / 4) p 0 rest H0 _ z R1 (by omega) (by omega) hn (by omega) _ fun x1 t1 G1 h1 t1h R2 => ?_
    repeat (first | ((first | apply Xk.sAny | apply Xk.tAny); (case hok => rfl); (case h => intro C hC; simp (disch := omega) only [w1, ↓reduceIte, Nat.reduceEqDiff, Nat.reduceLeDiff, Nat.reduceAdd, Nat.reduceSub]; with_reducible exact hC); refine gc ?_) | refine gm ?_)
    refine medianAdj_ev c n (a + (b - a) / 4 * 2) p t1 rest H0 _ z R2 (by omega) (by omega) hn (by omega) _ fun x2 t2 G2 h2 t2h R3 => ?_
    repeat (first | ((first | apply Xk.sAny | apply Xk.tAny); (case hok => rfl); (case h => intro C hC; simp (disch := omega) only [w1, ↓reduceIte, Nat.reduceEqDiff, Nat.reduceLeDiff, Nat.reduceAdd, Nat.reduceSub]; with_reducible exact hC); refine gc ?_) | refine gm ?_)
    refine medianAdj_ev c n (a + (b - a) / 4 * 3) p t2 rest H0 _ z R3 (by omega) (by omega) hn (by omega) _ fun x3 t3 G3 h3 t3h R4 => ?_
    repeat (first | ((first | apply Xk.sAny | apply Xk.tAny); (case hok => rfl); (case h => intro C hC; simp (disch := omega) only [w1, ↓reduceIte, Nat.reduceEqDiff, Nat.reduceLeDiff, Nat.reduceAdd, Nat.reduceSub]; with_reducible exact hC); refine gc ?_) | refine gm ?_)
    refine median_ev c n x1 x2 x3 p t3 rest H0 _ z R4 (by omega) (by omega) (by omega) hn (by omega) _ fun x t G h4 h5 h6 => ?_
    have hc := h6.cnt
    have hx : a ≤ x ∧ x < b := by omega
    by_cases t0 : t = 0
    · subst t0
      iterate 2 repeat (first | ((first | apply Xk.sAny | apply Xk.tAny); (case hok => rfl); (case h => intro C hC; simp (disch := omega) only [w1, ↓reduceIte, Nat.reduceEqDiff, Nat.reduceLeDiff, Nat.reduceAdd, Nat.reduceSub, hc]; with_reducible exact hC); refine gc ?_) | refine gm ?_)
      exact hQ x _ _ hx.1 hx.2 h6.r (by decide)
    · by_cases t12 : t = 12
      · subst t12
        iterate 2 repeat (first | ((first | apply Xk.sAny | apply Xk.tAny); (case hok => rfl); (case h => intro C hC; simp (disch := omega) only [w1, ↓reduceIte, Nat.reduceEqDiff, Nat.reduceLeDiff, Nat.reduceAdd, Nat.reduceSub, hc]; with_reducible exact hC); refine gc ?_) | refine gm ?_)
        exact hQ x _ _ hx.1 hx.2 h6.r (by decide)
      · repeat (first | ((first | apply Xk.sAny | apply Xk.tAny); (case hok => rfl); (case h => intro C hC; simp (disch := omega) only [w1, ↓reduceIte, Nat.reduceEqDiff, Nat.reduceLeDiff, Nat.reduceAdd, Nat.reduceSub, hc, t0, t12]; with_reducible exact hC); refine gc ?_) | refine gm ?_)
        repeat (first | ((first | apply Xk.sAny | apply Xk.tAny); (case hok => rfl); (case h => intro C hC; simp (disch := omega) only [w1, ↓reduceIte, Nat.reduceEqDiff, Nat.reduceLeDiff, Nat.reduceAdd, Nat.reduceSub, hc, t0, t12]; with_reducible exact hC); refine gc ?_) | refine gm ?_)
        exact hQ x _ _ hx.1 hx.2 h6.r (by decide)
  · repeat (first | ((first | apply Xk.sAny | apply Xk.tAny); (case hok => rfl); (case h => intro C hC; simp (disch := omega) only [w1, ↓reduceIte, Nat.reduceEqDiff, Nat.reduceLeDiff, Nat.reduceAdd, Nat.reduceSub]; with_reducible exact hC); refine gc ?_) | refine gm ?_)
    refine median_ev c n (a + (b - a) / 4) (a + (b - a) / 4 * 2) (a + (b - a) / 4 * 3) p 0 rest H0 _ z R1 (by omega) (by omega) (by omega) hn (by omega) _ fun x t G h4 h5 h6 => ?_
    have hc := h6.cnt
    have hx : a ≤ x ∧ x < b := by omega
    by_cases t0 : t = 0
    · subst t0
      iterate 2 repeat (first | ((first | apply Xk.sAny | apply Xk.tAny); (case hok => rfl); (case h => intro C hC; simp (disch := omega) only [w1, ↓reduceIte, Nat.reduceEqDiff, Nat.reduceLeDiff, Nat.reduceAdd, Nat.reduceSub, hc]; with_reducible exact hC); refine gc ?_) | refine gm ?_)
      exact hQ x _ _ hx.1 hx.2 h6.r (by decide)
    · by_cases t12 : t = 12
      · subst t12
        iterate 2 repeat (first | ((first | apply Xk.sAny | apply Xk.tAny); (case hok => rfl); (case h => intro C hC; simp (disch := omega) only [w1, ↓reduceIte, Nat.reduceEqDiff, Nat.reduceLeDiff, Nat.reduceAdd, Nat.reduceSub, hc]; with_reducible exact hC); refine gc ?_) | refine gm ?_)
        exact hQ x _ _ hx.1 hx.2 h6.r (by decide)
      · repeat (first | ((first | apply Xk.sAny | apply Xk.tAny); (case hok => rfl); (case h => intro C hC; simp (disch := omega) only [w1, ↓reduceIte, Nat.reduceEqDiff, Nat.reduceLeDiff, Nat.reduceAdd, Nat.reduceSub, hc, t0, t12]; with_reducible exact hC); refine gc ?_) | refine gm ?_)
        repeat (first | ((first | apply Xk.sAny | apply Xk.tAny); (case hok => rfl); (case h => intro C hC; simp (disch := omega) only [w1, ↓reduceIte, Nat.reduceEqDiff, Nat.reduceLeDiff, Nat.reduceAdd, Nat.reduceSub, hc, t0, t12]; with_reducible exact hC); refine gc ?_) | refine gm ?_)
        exact hQ x _ _ hx.1 hx.2 h6.r (by decide)
end Go.Proofs.Ytihoblfmhighpaa
