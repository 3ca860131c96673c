/- slices.Sort of texts. Conditions: none. -/
import Derived.Test.YtihoblfmhighpaaSoF
namespace Go.Proofs.Ytihoblfmhighpaa
open Go.Dp
set_option linter.unusedSimpArgs false
set_option linter.unusedVariables false
set_option maxHeartbeats 2000000
set_option maxRecDepth 8000
attribute [local irreducible] Ex.thnK Ex.inK Ret

theorem SR.lt {c n : Nat} {rest : List AV} {H0 G : Heap} {z : List (List UInt8)} (h : SR c n rest H0 z G) : c < G.next := h.ok.lt h.at_
theorem SR.fresh {c n : Nat} {rest : List AV} {H0 G : Heap} {z : List (List UInt8)} (h : SR c n rest H0 z G) : ∀ q, G.next ≤ q → H0.get q = none := by
  intro q hq
  cases e : H0.get q with
  | none => rfl
  | some y =>
    by_cases hc : q = c
    · have := h.lt; omega
    · have := h.ok.lt (h.kp q y hc e); omega
theorem nd_ne {w : List (List UInt8)} (h : w.Nodup) {i j : Nat} (hi : i < w.length) (hj : j < w.length) (hn : i ≠ j) : gz w i ≠ gz w j := by
  unfold gz
  rw [List.getD_eq_getElem?_getD, List.getD_eq_getElem?_getD, List.getElem?_eq_getElem hi, List.getElem?_eq_getElem hj]
  intro e
  exact hn ((List.getElem_inj h).1 e)
theorem Parted.pinL {a b mid : Nat} {z w : List (List UInt8)} (h : Parted a b mid z) (k : PIn a mid z w) : Parted a b mid w :=
  ⟨h.am, h.mb, fun i h1 h2 => by rw [k.out mid (by omega)]; exact k.in_ (fun x => le x (gz z mid)) (fun j j1 j2 => h.lo j j1 j2) i h1 h2, fun i h1 h2 => by rw [k.out mid (by omega), k.out i (by omega)]; exact h.hi i h1 h2⟩
theorem Parted.pinR {a b mid : Nat} {z w : List (List UInt8)} (h : Parted a b mid z) (k : PIn (mid + 1) b z w) : Parted a b mid w :=
  ⟨h.am, h.mb, fun i h1 h2 => by rw [k.out mid (by omega), k.out i (by omega)]; exact h.lo i h1 h2, fun i h1 h2 => by rw [k.out mid (by omega)]; exact k.in_ (fun x => le (gz z mid) x) (fun j j1 j2 => h.hi j (by omega) j2) i (by omega) h2⟩

theorem pdq_ev : ∀ (m c n a b lim : Nat) (rest : List AV) (H0 H : Heap) (z : List (List UInt8)) (h : SR c n rest H0 z H) (hab : a ≤ b) (hb : b ≤ n) (hm : b - a ≤ m) (hn : n < 65536) (hnd : z.Nodup) (hlim : lim ≤ 64) (hlow : a = 0 ∨ ∀ k, a ≤ k → k < b → le (gz z (a - 1)) (gz z k)) (Q : AV → Heap → Prop)
    (hQ : ∀ G w, SR c n rest H0 w G → PIn a b z w → Sd a b w → Q (.tup []) G), Eo lib n_slices_pdqsortOrdered_string [.sl c 0 n 1, .int .i64 (.ofNat a), .int .i64 (.ofNat b), .int .i64 (.ofNat lim)] H Q := by
  intro m
  induction m using Nat.strongRecOn with
  | ind m ih =>
  intro c n a b lim rest H0 H z h hab hb hm hn hnd hlim hlow Q hQ
  refine Eo.ok fun hOk => ?_
  refine Eo.code at_slices_pdqsortOrdered_string rfl ?_
  iterate 2 repeat (first | ((first | apply Xk.sAny | apply Xk.tAny); (case hok => rfl); (case h => intro C hC; simp (disch := omega) only [w1, ↓reduceIte, Nat.reduceEqDiff, Nat.reduceLeDiff, Nat.reduceAdd, Nat.reduceSub]; with_reducible exact hC); refine gc ?_) | refine gm ?_)
  refine Xk.iter [0, 1, 2, 3, 8, 9] (fun m k G => ∃ a' b' l x y w, m = b' - a' ∧ a ≤ a' ∧ a' ≤ b' ∧ b' ≤ b ∧ l ≤ 64 ∧ PIn a b z w ∧ Ord a b a' b' w ∧ SR c n rest H0 w G ∧
      k = [(0, .sl c 0 n 1), (1, .int .i64 (.ofNat a')), (2, .int .i64 (.ofNat b')), (3, .int .i64 (.ofNat l)), (8, .bool x), (9, .bool y)]) rfl ⟨_, a, b, lim, true, true, z, rfl, Nat.le_refl _, hab, Nat.le_refl _, hlim, PIn.refl _ _ _, Ord.all, h, rfl⟩ ?_
  clear h hOk H
  rintro m' k G ⟨a', b', l, x, y, w, rfl, ha, hab', hb', hl, hp, ho, hR, rfl⟩
  unfold l0_slices_pdqsortOrdered_string
  have fin : ∀ w2 G2, SR c n rest H0 w2 G2 → PIn a' b' w w2 → Sd a' b' w2 → Q (.tup []) G2 := fun w2 G2 h1 h2 h3 => hQ G2 w2 h1 (hp.trans (h2.mono ha hb')) ((ho.pin ha hb' h2).fin h3)
  by_cases c12 : b' - a' ≤ 12
  · repeat (first | ((first | apply Xk.sAny | apply Xk.tAny); (case hok => rfl); (case h => intro C hC; simp (disch := omega) only [w1, ↓reduceIte, Nat.reduceEqDiff, Nat.reduceLeDiff, Nat.reduceAdd, Nat.reduceSub, hab', c12]; with_reducible exact hC); refine gc ?_) | refine gm ?_)
    repeat (first | ((first | apply Xk.sAny | apply Xk.tAny); (case hok => rfl); (case h => intro C hC; simp (disch := omega) only [w1, ↓reduceIte, Nat.reduceEqDiff, Nat.reduceLeDiff, Nat.reduceAdd, Nat.reduceSub, hab', c12]; with_reducible exact hC); refine gc ?_) | refine gm ?_)
    refine insS_ev c n a' b' rest H0 _ w hR hab' (by omega) (by omega) _ fun G2 w2 h1 h2 h3 => ?_
    iterate 2 repeat (first | ((first | apply Xk.sAny | apply Xk.tAny); (case hok => rfl); (case h => intro C hC; simp (disch := omega) only [w1, ↓reduceIte, Nat.reduceEqDiff, Nat.reduceLeDiff, Nat.reduceAdd, Nat.reduceSub]; with_reducible exact hC); refine gc ?_) | refine gm ?_)
    exact fin w2 G2 h1 h2 h3
  by_cases cl : l = 0
  · subst cl
    iterate 2 repeat (first | ((first | apply Xk.sAny | apply Xk.tAny); (case hok => rfl); (case h => intro C hC; simp (disch := omega) only [w1, ↓reduceIte, Nat.reduceEqDiff, Nat.reduceLeDiff, Nat.reduceAdd, Nat.reduceSub, hab', c12]; with_reducible exact hC); refine gc ?_) | refine gm ?_)
    refine heap_ev c n a' b' rest H0 _ w hR (by omega) (by omega) (by omega) _ fun G2 w2 h1 h2 h3 => ?_
    iterate 2 repeat (first | ((first | apply Xk.sAny | apply Xk.tAny); (case hok => rfl); (case h => intro C hC; simp (disch := omega) only [w1, ↓reduceIte, Nat.reduceEqDiff, Nat.reduceLeDiff, Nat.reduceAdd, Nat.reduceSub]; with_reducible exact hC); refine gc ?_) | refine gm ?_)
    exact fin w2 G2 h1 h2 h3
  have l1 : 1 ≤ l := by omega
  iterate 2 repeat (first | ((first | apply Xk.sAny | apply Xk.tAny); (case hok => rfl); (case h => intro C hC; simp (disch := omega) only [w1, ↓reduceIte, Nat.reduceEqDiff, Nat.reduceLeDiff, Nat.reduceAdd, Nat.reduceSub, hab', c12, cl]; with_reducible exact hC); refine gc ?_) | refine gm ?_)
  refine Xk.cut [0, 1, 2, 3, 8, 9, 10] (fun k G => ∃ l w2, l ≤ 64 ∧ PIn a' b' w w2 ∧ SR c n rest H0 w2 G ∧ k = [(0, .sl c 0 n 1), (1, .int .i64 (.ofNat a')), (2, .int .i64 (.ofNat b')), (3, .int .i64 (.ofNat l)), (8, .bool x), (9, .bool y), (10, .int .i64 (.ofNat (b' - a')))]) ?_ ?_
  · cases x with
    | true =>
      refine Xk.false_ rfl rfl ?_
      iterate 2 repeat (first | ((first | apply Xk.sAny | apply Xk.tAny); (case hok => rfl); (case h => intro C hC; simp (disch := omega) only [w1, ↓reduceIte, Nat.reduceEqDiff, Nat.reduceLeDiff, Nat.reduceAdd, Nat.reduceSub]; with_reducible exact hC); refine gc ?_) | refine gm ?_)
      exact ⟨rfl, l, w, hl, PIn.refl _ _ _, hR, rfl⟩
    | false =>
      refine Xk.true_ rfl rfl ?_
      iterate 2 repeat (first | ((first | apply Xk.sAny | apply Xk.tAny); (case hok => rfl); (case h => intro C hC; simp (disch := omega) only [w1, ↓reduceIte, Nat.reduceEqDiff, Nat.reduceLeDiff, Nat.reduceAdd, Nat.reduceSub]; with_reducible exact hC); refine gc ?_) | refine gm ?_)
      refine break_ev c n a' b' rest H0 _ w hR (by omega) (by omega) hn hR.lt hR.fresh _ fun G2 w2 h1 h2 => ?_
      iterate 2 repeat (first | ((first | apply Xk.sAny | apply Xk.tAny); (case hok => rfl); (case h => intro C hC; simp (disch := omega) only [w1, ↓reduceIte, Nat.reduceEqDiff, Nat.reduceLeDiff, Nat.reduceAdd, Nat.reduceSub, l1]; with_reducible exact hC); refine gc ?_) | refine gm ?_)
      exact ⟨rfl, l - 1, w2, by omega, h2, h1, rfl⟩
  clear hR hl cl l1 l G
  rintro k G ⟨l, w2, hl, hp2, hR, rfl⟩
  repeat (first | ((first | apply Xk.sAny | apply Xk.tAny); (case hok => rfl); (case h => intro C hC; simp (disch := omega) only [w1, ↓reduceIte, Nat.reduceEqDiff, Nat.reduceLeDiff, Nat.reduceAdd, Nat.reduceSub]; with_reducible exact hC); refine gc ?_) | refine gm ?_)
  refine choosePivot_ev c n a' b' rest H0 _ w2 hR (by omega) (by omega) (by omega) hR.lt hR.fresh _ fun p hint G2 p1 p2 hR2 hh => ?_
  clear hR G
  iterate 2 repeat (first | ((first | apply Xk.sAny | apply Xk.tAny); (case hok => rfl); (case h => intro C hC; simp (disch := omega) only [w1, ↓reduceIte, Nat.reduceEqDiff, Nat.reduceLeDiff, Nat.reduceAdd, Nat.reduceSub]; with_reducible exact hC); refine gc ?_) | refine gm ?_)
  refine Xk.cut [0, 1, 2, 3, 8, 9, 10, 11, 12] (fun k G => ∃ p hint w3, a' ≤ p ∧ p < b' ∧ PIn a' b' w w3 ∧ SR c n rest H0 w3 G ∧ k = [(0, .sl c 0 n 1), (1, .int .i64 (.ofNat a')), (2, .int .i64 (.ofNat b')), (3, .int .i64 (.ofNat l)), (8, .bool x), (9, .bool y), (10, .int .i64 (.ofNat (b' - a'))), (11, .int .i64 (.ofNat p)), (12, .int .i64 (.ofNat hint))]) ?_ ?_
  · refine Xk.if_ rfl rfl (fun c2 => ?_) (fun c2 => ?_)
    · repeat (first | ((first | apply Xk.sAny | apply Xk.tAny); (case hok => rfl); (case h => intro C hC; simp (disch := omega) only [w1, ↓reduceIte, Nat.reduceEqDiff, Nat.reduceLeDiff, Nat.reduceAdd, Nat.reduceSub]; with_reducible exact hC); refine gc ?_) | refine gm ?_)
      refine reverse_ev c n a' b' rest H0 _ w2 hR2 (by omega) (by omega) (by omega) _ fun G3 w3 h1 h2 => ?_
      have b1 : 1 ≤ b' := by omega
      have b2 : p - a' ≤ b' - 1 := by omega
      iterate 2 repeat (first | ((first | apply Xk.sAny | apply Xk.tAny); (case hok => rfl); (case h => intro C hC; simp (disch := omega) only [w1, ↓reduceIte, Nat.reduceEqDiff, Nat.reduceLeDiff, Nat.reduceAdd, Nat.reduceSub, b1, b2, p1]; with_reducible exact hC); refine gc ?_) | refine gm ?_)
      exact ⟨rfl, b' - 1 - (p - a'), 1, w3, by omega, by omega, hp2.trans h2, h1, rfl⟩
    · repeat (first | ((first | apply Xk.sAny | apply Xk.tAny); (case hok => rfl); (case h => intro C hC; simp (disch := omega) only [w1, ↓reduceIte, Nat.reduceEqDiff, Nat.reduceLeDiff, Nat.reduceAdd, Nat.reduceSub]; with_reducible exact hC); refine gc ?_) | refine gm ?_)
      exact ⟨rfl, p, hint, w2, p1, p2, hp2, hR2, rfl⟩
  clear hR2 hp2 p1 p2 hh hint p w2 G2
  rintro k G ⟨p, hint, w2, p1, p2, hp2, hR, rfl⟩
  have low : ∀ w3, PIn a' b' w w3 → a' = 0 ∨ ∀ k, a' ≤ k → k < b' → le (gz w3 (a' - 1)) (gz w3 k) := fun w3 h3 => by
    by_cases a0 : a' = 0
    · exact .inl a0
    · refine .inr fun k k1 k2 => ?_
      have hp3 := hp.trans (h3.mono ha hb')
      have ho3 := ho.pin ha hb' h3
      by_cases e : a' = a
      · rcases hlow with h0 | h0
        · omega
        · rw [e, hp3.out (a - 1) (by omega)]
          exact hp3.in_ (fun x => le (gz z (a - 1)) x) h0 k (by omega) (by omega)
      · rcases ho3 (a' - 1) k (by omega) (by omega) (by omega) with h | h
        · omega
        · exact h
  refine Xk.cut [0, 1, 2, 3, 8, 9, 10, 11] (fun k G => ∃ w3, PIn a' b' w w3 ∧ SR c n rest H0 w3 G ∧ k = [(0, .sl c 0 n 1), (1, .int .i64 (.ofNat a')), (2, .int .i64 (.ofNat b')), (3, .int .i64 (.ofNat l)), (8, .bool x), (9, .bool y), (10, .int .i64 (.ofNat (b' - a'))), (11, .int .i64 (.ofNat p))]) ?_ ?_
  · cases x with
    | false =>
      iterate 2 repeat (first | ((first | apply Xk.sAny | apply Xk.tAny); (case hok => rfl); (case h => intro C hC; simp (disch := omega) only [w1, ↓reduceIte, Nat.reduceEqDiff, Nat.reduceLeDiff, Nat.reduceAdd, Nat.reduceSub]; with_reducible exact hC); refine gc ?_) | refine gm ?_)
      exact ⟨rfl, w2, hp2, hR, rfl⟩
    | true =>
      cases y with
      | false =>
        iterate 2 repeat (first | ((first | apply Xk.sAny | apply Xk.tAny); (case hok => rfl); (case h => intro C hC; simp (disch := omega) only [w1, ↓reduceIte, Nat.reduceEqDiff, Nat.reduceLeDiff, Nat.reduceAdd, Nat.reduceSub]; with_reducible exact hC); refine gc ?_) | refine gm ?_)
        exact ⟨rfl, w2, hp2, hR, rfl⟩
      | true =>
        by_cases h1 : hint = 1
        · subst h1
          iterate 2 repeat (first | ((first | apply Xk.sAny | apply Xk.tAny); (case hok => rfl); (case h => intro C hC; simp (disch := omega) only [w1, ↓reduceIte, Nat.reduceEqDiff, Nat.reduceLeDiff, Nat.reduceAdd, Nat.reduceSub]; with_reducible exact hC); refine gc ?_) | refine gm ?_)
          refine partial_ev c n a' b' rest H0 _ w2 hR (by omega) (by omega) (by omega) (low w2 hp2) _ fun G3 w3 f h1 h2 h3 => ?_
          cases f with
          | true =>
            iterate 2 repeat (first | ((first | apply Xk.sAny | apply Xk.tAny); (case hok => rfl); (case h => intro C hC; simp (disch := omega) only [w1, ↓reduceIte, Nat.reduceEqDiff, Nat.reduceLeDiff, Nat.reduceAdd, Nat.reduceSub]; with_reducible exact hC); refine gc ?_) | refine gm ?_)
            exact fin w3 G3 h1 (hp2.trans h2) (h3 rfl)
          | false =>
            iterate 2 repeat (first | ((first | apply Xk.sAny | apply Xk.tAny); (case hok => rfl); (case h => intro C hC; simp (disch := omega) only [w1, ↓reduceIte, Nat.reduceEqDiff, Nat.reduceLeDiff, Nat.reduceAdd, Nat.reduceSub]; with_reducible exact hC); refine gc ?_) | refine gm ?_)
            exact ⟨rfl, w3, hp2.trans h2, h1, rfl⟩
        · repeat (first | ((first | apply Xk.sAny | apply Xk.tAny); (case hok => rfl); (case h => intro C hC; simp (disch := omega) only [w1, ↓reduceIte, Nat.reduceEqDiff, Nat.reduceLeDiff, Nat.reduceAdd, Nat.reduceSub, h1]; with_reducible exact hC); refine gc ?_) | refine gm ?_)
          repeat (first | ((first | apply Xk.sAny | apply Xk.tAny); (case hok => rfl); (case h => intro C hC; simp (disch := omega) only [w1, ↓reduceIte, Nat.reduceEqDiff, Nat.reduceLeDiff, Nat.reduceAdd, Nat.reduceSub, h1]; with_reducible exact hC); refine gc ?_) | refine gm ?_)
          exact ⟨rfl, w2, hp2, hR, rfl⟩
  clear hR hp2 w2 G
  rintro k G ⟨w2, hp2, hR, rfl⟩
  have hln := hR.ln
  have hnd2 : w2.Nodup := (hp.trans (hp2.mono ha hb')).pm.nodup_iff.2 hnd
  have hlow2 := low w2 hp2
  have e1 : p < n := by omega
  have part : ∀ Q : AV → Heap → Prop, (∀ G3 w3 mid f, SR c n rest H0 w3 G3 → PIn a' b' w w3 → Parted a' b' mid w3 → Q (.tup [.int .i64 (.ofNat mid), .bool f]) G3) → Eo lib n_slices_partitionOrdered_string [.sl c 0 n 1, .int .i64 (.ofNat a'), .int .i64 (.ofNat b'), .int .i64 (.ofNat p)] G Q := fun Q hq =>
    partition_ev c n a' b' p rest H0 G w2 hR ⟨p1, p2⟩ (by omega) (by omega) Q fun G3 w3 mid f h1 h2 h3 => hq G3 w3 mid f h1 (hp2.trans h2) h3
  have recu : ∀ (a2 b2 : Nat) (w3 : List (List UInt8)) (G3 : Heap), SR c n rest H0 w3 G3 → PIn a' b' w w3 → a2 ≤ b2 → b2 ≤ b' → b2 - a2 < b' - a' → (a2 = 0 ∨ ∀ k, a2 ≤ k → k < b2 → le (gz w3 (a2 - 1)) (gz w3 k)) → ∀ Q : AV → Heap → Prop, (∀ G4 w4, SR c n rest H0 w4 G4 → PIn a2 b2 w3 w4 → Sd a2 b2 w4 → Q (.tup []) G4) →
      Eo lib n_slices_pdqsortOrdered_string [.sl c 0 n 1, .int .i64 (.ofNat a2), .int .i64 (.ofNat b2), .int .i64 (.ofNat l)] G3 Q := fun a2 b2 w3 G3 h1 h2 h3 h4 h5 h6 Q hq =>
    ih (b2 - a2) (by omega) c n a2 b2 l rest H0 G3 w3 h1 h3 (by omega) (Nat.le_refl _) hn ((hp.trans (h2.mono ha hb')).pm.nodup_iff.2 hnd) hl h6 Q hq
  have q8 := quon_i64 (b' - a') 8 (by omega) (by omega)
  by_cases a0 : 0 < a'
  case' pos =>
    obtain ⟨cl, cl1, g, k1, k2, l1, l2, o1, l3, l4, R2⟩ := hR.at2 (i := a' - 1) (j := p) (by omega) (by omega)
    have e2 : a' - 1 < n := by omega
    have e3 : 1 ≤ a' := by omega
    have hlt : bltB (gz w2 (a' - 1)) (gz w2 p) = true := by
      rcases hlow2 with h | h
      · omega
      · exact lt_of_ne (h p p1 p2) (nd_ne hnd2 (by omega) (by omega) (by omega))
    repeat (first | ((first | apply Xk.sAny | apply Xk.tAny); (case hok => rfl); (case h => intro C hC; simp (disch := omega) only [w1, ↓reduceIte, Nat.reduceEqDiff, Nat.reduceLeDiff, Nat.reduceAdd, Nat.reduceSub, a0, g, k1, k2, l1, l2, e1, e2, e3]; with_reducible exact hC); refine gc ?_) | refine gm ?_)
    refine LessS_ev _ _ _ _ ?_
    rw [hlt]
    iterate 2 repeat (first | ((first | apply Xk.sAny | apply Xk.tAny); (case hok => rfl); (case h => intro C hC; simp (disch := omega) only [w1, ↓reduceIte, Nat.reduceEqDiff, Nat.reduceLeDiff, Nat.reduceAdd, Nat.reduceSub, Bool.not_true]; with_reducible exact hC); refine gc ?_) | refine gm ?_)
  case' neg =>
    iterate 2 repeat (first | ((first | apply Xk.sAny | apply Xk.tAny); (case hok => rfl); (case h => intro C hC; simp (disch := omega) only [w1, ↓reduceIte, Nat.reduceEqDiff, Nat.reduceLeDiff, Nat.reduceAdd, Nat.reduceSub, a0]; with_reducible exact hC); refine gc ?_) | refine gm ?_)
  all_goals
    refine part _ fun G3 w3 mid f h1 h2 h3 => ?_
    have m1 := h3.am
    have m2 := h3.mb
    have m3 : mid ≤ b' := by omega
    iterate 2 repeat (first | ((first | apply Xk.sAny | apply Xk.tAny); (case hok => rfl); (case h => intro C hC; simp (disch := omega) only [w1, ↓reduceIte, Nat.reduceEqDiff, Nat.reduceLeDiff, Nat.reduceAdd, Nat.reduceSub, m1, m3, q8]; with_reducible exact hC); refine gc ?_) | refine gm ?_)
    have hp3 := hp.trans (h2.mono ha hb')
    have ho3 := ho.pin ha hb' h2
    refine Xk.if_ rfl rfl (fun cc => ?_) (fun cc => ?_)
    · repeat (first | ((first | apply Xk.sAny | apply Xk.tAny); (case hok => rfl); (case h => intro C hC; simp (disch := omega) only [w1, ↓reduceIte, Nat.reduceEqDiff, Nat.reduceLeDiff, Nat.reduceAdd, Nat.reduceSub]; with_reducible exact hC); refine gc ?_) | refine gm ?_)
      refine recu a' mid w3 G3 h1 h2 m1 m3 (by omega) (by
        rcases low w3 h2 with h | h
        · exact .inl h
        · exact .inr fun k k1 k2 => h k k1 (by omega)) _ fun G4 w4 r1 r2 r3 => ?_
      have hpt := h3.pinL r2
      have r2' := r2.mono (Nat.le_refl a') m3
      iterate 2 repeat (first | ((first | apply Xk.sAny | apply Xk.tAny); (case hok => rfl); (case h => intro C hC; simp (disch := omega) only [w1, ↓reduceIte, Nat.reduceEqDiff, Nat.reduceLeDiff, Nat.reduceAdd, Nat.reduceSub]; with_reducible exact hC); refine gc ?_) | refine gm ?_)
      exact ⟨rfl, _, by omega, mid + 1, b', l, _, f, w4, rfl, by omega, by omega, hb', hl, hp3.trans (r2'.mono ha hb'), (ho3.pin ha hb' r2').left ⟨m1, m2⟩ hpt.lo hpt.hi r3, r1, rfl⟩
    · repeat (first | ((first | apply Xk.sAny | apply Xk.tAny); (case hok => rfl); (case h => intro C hC; simp (disch := omega) only [w1, ↓reduceIte, Nat.reduceEqDiff, Nat.reduceLeDiff, Nat.reduceAdd, Nat.reduceSub]; with_reducible exact hC); refine gc ?_) | refine gm ?_)
      refine recu (mid + 1) b' w3 G3 h1 h2 (by omega) (Nat.le_refl _) (by omega) (.inr fun k k1 k2 => h3.hi k (by omega) k2) _ fun G4 w4 r1 r2 r3 => ?_
      have hpt := h3.pinR r2
      have r2' := r2.mono (show a' ≤ mid + 1 by omega) (Nat.le_refl b')
      iterate 2 repeat (first | ((first | apply Xk.sAny | apply Xk.tAny); (case hok => rfl); (case h => intro C hC; simp (disch := omega) only [w1, ↓reduceIte, Nat.reduceEqDiff, Nat.reduceLeDiff, Nat.reduceAdd, Nat.reduceSub]; with_reducible exact hC); refine gc ?_) | refine gm ?_)
      exact ⟨rfl, _, by omega, a', mid, l, _, f, w4, rfl, ha, m1, by omega, hl, hp3.trans (r2'.mono ha hb'), (ho3.pin ha hb' r2').right ⟨m1, m2⟩ hpt.lo hpt.hi r3, r1, rfl⟩

theorem SortS_ev (T : Tags) (H : Heap) (t : Tg) (v : AV) (z : List (List UInt8)) (hv : RT T H t 0 1 v (strs z)) (hnd : z.Nodup) (hl : z.length < 65536) (Q : AV → Heap → Prop)
    (hQ : ∀ H' w, Stp (fun u => u = t) T H T H' → RT T H' t 0 1 v (strs w) → w.Perm z → Sd 0 w.length w → Q (.tup []) H') : Eo lib n_slices_Sort_string_string [v] H Q := by
  refine Eo.ok fun hOk => ?_
  refine Eo.code at_slices_Sort_string_string rfl ?_
  have hvl := hv.lens (by decide)
  rw [strs_len, Nat.div_one] at hvl
  have hc := cint_u64 .i64 z.length (by omega)
  iterate 2 repeat (first | ((first | apply Xk.sAny | apply Xk.tAny); (case hok => rfl); (case h => intro C hC; simp (disch := omega) only [w1, ↓reduceIte, Nat.reduceEqDiff, Nat.reduceLeDiff, Nat.reduceAdd, Nat.reduceSub, hvl, hc]; with_reducible exact hC); refine gc ?_) | refine gm ?_)
  refine Len_ev' z.length hl _ _ fun lim h1 _ => ?_
  repeat (first | ((first | apply Xk.sAny | apply Xk.tAny); (case hok => rfl); (case h => intro C hC; simp (disch := omega) only [w1, ↓reduceIte, Nat.reduceEqDiff, Nat.reduceLeDiff, Nat.reduceAdd, Nat.reduceSub]; with_reducible exact hC); refine gc ?_) | refine gm ?_)
  rcases hv with ⟨rfl, hz⟩ | ⟨c, len, cl, rfl, h2, h3, h4, h5, h6⟩
  · have hz0 : z = [] := by
      cases z with
      | nil => rfl
      | cons a t => cases hz
    subst hz0
    have pdqn : ∀ Q : AV → Heap → Prop, Q (.tup []) H → Eo lib n_slices_pdqsortOrdered_string [.nils, .int .i64 (.ofNat 0), .int .i64 (.ofNat 0), .int .i64 (.ofNat lim)] H Q := by
      intro Q hQ
      refine Eo.code at_slices_pdqsortOrdered_string rfl ?_
      iterate 2 repeat (first | ((first | apply Xk.sAny | apply Xk.tAny); (case hok => rfl); (case h => intro C hC; simp (disch := omega) only [w1, ↓reduceIte, Nat.reduceEqDiff, Nat.reduceLeDiff, Nat.reduceAdd, Nat.reduceSub]; with_reducible exact hC); refine gc ?_) | refine gm ?_)
      refine Xk.iter [0, 1, 2, 3] (fun m k G => m = 1 ∧ k = [(0, .nils), (1, .int .i64 (.ofNat 0)), (2, .int .i64 (.ofNat 0)), (3, .int .i64 (.ofNat lim))] ∧ G = H) rfl ⟨_, rfl, rfl, rfl⟩ ?_
      rintro m k G ⟨rfl, rfl, rfl⟩
      unfold l0_slices_pdqsortOrdered_string
      iterate 2 repeat (first | ((first | apply Xk.sAny | apply Xk.tAny); (case hok => rfl); (case h => intro C hC; simp (disch := omega) only [w1, ↓reduceIte, Nat.reduceEqDiff, Nat.reduceLeDiff, Nat.reduceAdd, Nat.reduceSub]; with_reducible exact hC); refine gc ?_) | refine gm ?_)
      have nils : ∀ Q : AV → Heap → Prop, Q (.tup []) G → Eo lib n_slices_insertionSortOrdered_string [.nils, .int .i64 (.ofNat 0), .int .i64 (.ofNat 0)] G Q := by
        intro Q hQ
        refine Eo.code at_slices_insertionSortOrdered_string rfl ?_
        iterate 2 repeat (first | ((first | apply Xk.sAny | apply Xk.tAny); (case hok => rfl); (case h => intro C hC; simp (disch := omega) only [w1, ↓reduceIte, Nat.reduceEqDiff, Nat.reduceLeDiff, Nat.reduceAdd, Nat.reduceSub]; with_reducible exact hC); refine gc ?_) | refine gm ?_)
        refine Xk.iter [2, 6] (fun m k G' => m = 1 ∧ k = [(2, .int .i64 (.ofNat 0)), (6, .int .i64 (.ofNat 1))] ∧ G' = G) rfl ⟨_, rfl, rfl, rfl⟩ ?_
        rintro m k G' ⟨rfl, rfl, rfl⟩
        unfold l1_slices_insertionSortOrdered_string
        have h10 : ¬ 1 < 0 := by decide
        iterate 2 repeat (first | ((first | apply Xk.sAny | apply Xk.tAny); (case hok => rfl); (case h => intro C hC; simp (disch := omega) only [w1, ↓reduceIte, Nat.reduceEqDiff, Nat.reduceLeDiff, Nat.reduceAdd, Nat.reduceSub, h10]; with_reducible exact hC); refine gc ?_) | refine gm ?_)
        exact hQ
      refine nils _ ?_
      iterate 2 repeat (first | ((first | apply Xk.sAny | apply Xk.tAny); (case hok => rfl); (case h => intro C hC; simp (disch := omega) only [w1, ↓reduceIte, Nat.reduceEqDiff, Nat.reduceLeDiff, Nat.reduceAdd, Nat.reduceSub]; with_reducible exact hC); refine gc ?_) | refine gm ?_)
      exact hQ
    show Eo lib _ [.nils, .int .i64 (.ofNat 0), .int .i64 (.ofNat 0), .int .i64 (.ofNat lim)] H _
    refine pdqn _ ?_
    iterate 2 repeat (first | ((first | apply Xk.sAny | apply Xk.tAny); (case hok => rfl); (case h => intro C hC; simp (disch := omega) only [w1, ↓reduceIte, Nat.reduceEqDiff, Nat.reduceLeDiff, Nat.reduceAdd, Nat.reduceSub]; with_reducible exact hC); refine gc ?_) | refine gm ?_)
    exact hQ H [] (Stp.refl hOk) (.inl ⟨rfl, rfl⟩) (List.Perm.refl _) (fun p q h1 h2 h3 => by simp at h3)
  · rw [strs_len, Nat.mul_one] at h2
    subst h2
    rw [strs_len] at h4 h5
    have hcl : cl = strs z ++ cl.drop z.length := by
      have := List.take_append_drop z.length cl
      rw [h5] at this
      exact this.symm
    rw [hcl] at h3
    generalize cl.drop z.length = rest at h3
    have R0 : SR c z.length rest H z H := ⟨hOk, h3, rfl, fun _ _ _ e => e⟩
    refine pdq_ev z.length c z.length 0 z.length lim rest H H z R0 (Nat.zero_le _) (Nat.le_refl _) (by omega) hl hnd (by omega) (.inl rfl) _ fun G w h1 h2 h3' => ?_
    iterate 2 repeat (first | ((first | apply Xk.sAny | apply Xk.tAny); (case hok => rfl); (case h => intro C hC; simp (disch := omega) only [w1, ↓reduceIte, Nat.reduceEqDiff, Nat.reduceLeDiff, Nat.reduceAdd, Nat.reduceSub]; with_reducible exact hC); refine gc ?_) | refine gm ?_)
    have hlw := h2.len
    refine hQ G w ⟨h1.ok, fun b y e => ⟨rfl, ?_⟩, fun b y e hn => ?_⟩ (.inr ⟨c, z.length, _, rfl, by rw [strs_len, Nat.mul_one, hlw], h1.at_, by rw [List.length_append]; exact Nat.le_add_right _ _, List.take_left, h6⟩) h2.pm (by rw [hlw]; exact h3')
    · by_cases hb : b = c
      · rw [hb]; exact ⟨_, h1.at_⟩
      · exact ⟨y, h1.kp b y hb e⟩
    · refine h1.kp b y (fun hb => hn ?_) e
      rw [hb]; exact h6
end Go.Proofs.Ytihoblfmhighpaa
