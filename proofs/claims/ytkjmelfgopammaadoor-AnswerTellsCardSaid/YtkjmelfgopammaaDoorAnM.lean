/- Layer 14: the reference's text of an answer, over the clean machine. Conditions: none. -/
import Derived.Test.YtkjmelfgopammaaDoorAnL
namespace Go.Proofs.YtkjmelfgopammaaDoor
open Go.Dp
set_option linter.unusedSimpArgs false
set_option linter.unusedVariables false
set_option maxHeartbeats 2000000
set_option maxRecDepth 8000
attribute [local irreducible] Ex.thnK Ex.inK Ret

theorem valL_f (f : Fd) : valL false f = [86, 65, 76, 85, 69, 32] ++ f.key ++ [32] ++ num0 f.flags ++ [32] ++ dec f.val.length ++ [13, 10] ++ f.val ++ [13, 10] := by
  simp [valL, valW, joinB]
theorem valL_t (f : Fd) : valL true f = [86, 65, 76, 85, 69, 32] ++ f.key ++ [32] ++ num0 f.flags ++ [32] ++ dec f.val.length ++ [32] ++ num0 f.cas ++ [13, 10] ++ f.val ++ [13, 10] := by
  simp [valL, valW, joinB]

theorem plainB_out {k : Int} (h : k < .ofNat 2 ∨ .ofNat 12 < k) : plainB k = [] := by
  have g : ∀ n : Nat, 2 ≤ n → n ≤ 12 → ¬ k = .ofNat n := by
    intro n h1 h2 e
    have e1 : k = (n : Int) := e
    have e2 : k < (2 : Int) ∨ (12 : Int) < k := h
    omega
  unfold plainB
  simp only [g 2 (by decide) (by decide), g 3 (by decide) (by decide), g 4 (by decide) (by decide), g 5 (by decide) (by decide), g 6 (by decide) (by decide), g 7 (by decide) (by decide), g 9 (by decide) (by decide), g 12 (by decide) (by decide), g 10 (by decide) (by decide), if_false]

theorem refText_ev (k : Int) (v : AV) (l : List Fd) (gets : Bool) (num : Nat) (text : List UInt8) (s0 s1 s2 s3 : Int) (H : Heap) (hv : Sl H 4 v (rows l)) (hw : text.length + wt l ≤ 8000) (hnum : num < 18446744073709551616)
    (hf : ∀ f ∈ l, f.flags < 9223372036854775808 ∧ f.cas < 9223372036854775808) (h0 : s0 < 9223372036854775808) (h1 : s1 < 9223372036854775808) (h2 : s2 < 9223372036854775808) (h3 : s3 < 9223372036854775808) (Q : AV → Heap → Prop)
    (hQ : ∀ H', H'.Ok → HLe H H' → Q (.str (textB k gets l num text [s0, s1, s2, s3])) H') : Eo lib n_depotref9_Text [.agg (ansC k v gets num text s0 s1 s2 s3)] H Q := by
  refine Eo.ok fun hOk => ?_
  refine Eo.code at_depotref9_Text rfl ?_
  obtain ⟨hv1, hv2, hv3⟩ := Sl.lens4 hv
  have hnew := HLe.new (hOk _ (Nat.le_refl _)) (.cells (ansC k v gets num text s0 s1 s2 s3) 1)
  have hO1 := hOk.new (.cells (ansC k v gets num text s0 s1 s2 s3) 1)
  have hgb : (H.new (.cells (ansC k v gets num text s0 s1 s2 s3) 1)).get H.next = some (.cells (ansC k v gets num text s0 s1 s2 s3) 1) := Heap.get_new_self _ _
  have hbx := box_ans (kind := k) (gets := gets) (num := num) (text := text) (s0 := s0) (s1 := s1) (s2 := s2) (s3 := s3) hv2
  unfold ansC at hgb hnew hO1 ⊢
  have hwl := wt_len l
  by_cases c1 : k = .ofNat 1
  · subst c1
    have et : textB (.ofNat 1) gets l num text [s0, s1, s2, s3] = valsB gets l ++ [69, 78, 68] ++ [13, 10] := rfl
    rw [et] at hQ
    repeat (first | ((first | apply Xk.sAny | apply Xk.tAny); (case hok => rfl); (case h => intro C hC; simp (disch := omega) only [w1, ↓reduceIte, Nat.reduceEqDiff, Nat.reduceLeDiff, Nat.reduceAdd, Nat.reduceSub, hbx, hgb, Nat.reduceEqDiff]; with_reducible exact hC); refine gc ?_) | refine gm ?_)
    repeat (first | ((first | apply Xk.sAny | apply Xk.tAny); (case hok => rfl); (case h => intro C hC; simp (disch := omega) only [w1, ↓reduceIte, Nat.reduceEqDiff, Nat.reduceLeDiff, Nat.reduceAdd, Nat.reduceSub, hbx, hgb, Nat.reduceEqDiff]; with_reducible exact hC); refine gc ?_) | refine gm ?_)
    refine Xk.iter [1, 3, 4] (fun m k' G => ∃ i, m = l.length - i ∧ i ≤ l.length ∧ k' = [(1, .ptr H.next 0), (3, .str (valsB gets (l.take i))), (4, .int .i64 (.ofNat i))] ∧ G.Ok ∧ HLe (H.new (.cells [.int .i64 (.ofNat 1), v, .bool gets, .int .u64 (.ofNat num), .str text, .int .i64 s0, .int .i64 s1, .int .i64 s2, .int .i64 s3] 1)) G) rfl
      ⟨_, 0, rfl, Nat.zero_le _, rfl, hO1, HLe.refl _⟩ ?_
    rintro m k' G ⟨i, rfl, hi, rfl, hO2, hle2⟩
    unfold l0_depotref9_Text
    have hga := hle2 _ _ hgb
    generalize H.next = nb at hga ⊢
    have hpl := valsB_len gets (l.take i) (fun x hx => hf x (List.mem_of_mem_take hx)) (by have := wt_le l i; omega)
    have hwi := wt_le l i
    have hti : (l.take i).length ≤ 8000 := by rw [List.length_take]; omega
    by_cases c : i < l.length
    · obtain ⟨bb, o, cl, w, rfl, hg, hrow⟩ := Sl.row ((hv.mono hnew).mono hle2) (by omega)
      obtain ⟨c1, rest, c2⟩ := hrow i c
      obtain ⟨d4, d0, d1, d2, d3⟩ := cells_at c2
      have t1 := wt_snoc l c
      have t2 := wt_le l (i + 1)
      have hsn := valsB_snoc gets l c
      have hfm : l.getD i noFd ∈ l := by
        rw [List.getD_eq_getElem?_getD, List.getElem?_eq_getElem c]
        exact List.getElem_mem c
      obtain ⟨f1, f2⟩ := hf _ hfm
      generalize l.getD i noFd = f at c2 d4 d0 d1 d2 d3 t1 hsn hfm f1 f2
      have hnf := HLe.new (hO2 _ (Nat.le_refl _)) (.cells f.cells 1)
      have hOf := hO2.new (.cells f.cells 1)
      have hgf := Heap.get_new_self G (.cells f.cells 1)
      unfold Fd.cells at d4 hnf hgf hOf
      have hst : ((G.new (.cells [.str [], .int .i64 (.ofNat 0), .str [], .int .i64 (.ofNat 0)] 1)).put G.next (.cells [.str f.key, .int .i64 f.flags, .str f.val, .int .i64 f.cas] 1)) = G.new (.cells [.str f.key, .int .i64 f.flags, .str f.val, .int .i64 f.cas] 1) := Heap.new_put _ _ _
      have hgz := Heap.get_new_self G (.cells [.str [], .int .i64 (.ofNat 0), .str [], .int .i64 (.ofNat 0)] 1)
      have hmm1 := fun fr => mm0 f.flags fr f1
      have hmm2 := fun fr => mm0 f.cas fr f2
      have z1 : (dec f.flags.toNat).length ≤ 20 := num0_len f1
      have z2 : (dec f.cas.toNat).length ≤ 20 := num0_len f2
      have z3 : (dec f.val.length).length ≤ 20 := dec_len20 (by omega)
      have hga' := hnf _ _ hga
      repeat (first | ((first | apply Xk.sAny | apply Xk.tAny); (case hok => rfl); (case h => intro C hC; simp (disch := omega) only [w1, ↓reduceIte, Nat.reduceEqDiff, Nat.reduceLeDiff, Nat.reduceAdd, Nat.reduceSub, c, hga, hv1, hg, c1, d4, hgz, hst, hgf]; with_reducible exact hC); refine gc ?_) | refine gm ?_)
      repeat (first | ((first | apply Xk.sAny | apply Xk.tAny); (case hok => rfl); (case h => intro C hC; simp (disch := first | omega | (simp only [List.length_append, List.length_cons, List.length_nil] <;> omega)) only [w1, ↓reduceIte, Nat.reduceEqDiff, Nat.reduceLeDiff, Nat.reduceAdd, Nat.reduceSub, c, hga, hga', hv1, hg, c1, d4, hgz, hst, hgf, rMm, hmm1, hmm2]; with_reducible exact hC); refine gc ?_) | refine gm ?_)
      refine digits_ev f.flags.toNat (by omega) _ _ fun G1 hOG1 hG1 => ?_
      have hga1 := hG1 _ _ hga'
      have hgf1 := hG1 _ _ hgf
      repeat (first | ((first | apply Xk.sAny | apply Xk.tAny); (case hok => rfl); (case h => intro C hC; simp (disch := first | omega | (simp only [List.length_append, List.length_cons, List.length_nil] <;> omega)) only [w1, ↓reduceIte, Nat.reduceEqDiff, Nat.reduceLeDiff, Nat.reduceAdd, Nat.reduceSub, hga1, hgf1]; with_reducible exact hC); refine gc ?_) | refine gm ?_)
      refine digits_ev f.val.length (by omega) _ _ fun G2 hOG2 hG2 => ?_
      have hga2 := hG2 _ _ hga1
      have hgf2 := hG2 _ _ hgf1
      repeat (first | ((first | apply Xk.sAny | apply Xk.tAny); (case hok => rfl); (case h => intro C hC; simp (disch := first | omega | (simp only [List.length_append, List.length_cons, List.length_nil] <;> omega)) only [w1, ↓reduceIte, Nat.reduceEqDiff, Nat.reduceLeDiff, Nat.reduceAdd, Nat.reduceSub, hga2, hgf2]; with_reducible exact hC); refine gc ?_) | refine gm ?_)
      repeat (first | ((first | apply Xk.sAny | apply Xk.tAny); (case hok => rfl); (case h => intro C hC; simp (disch := first | omega | (simp only [List.length_append, List.length_cons, List.length_nil] <;> omega)) only [w1, ↓reduceIte, Nat.reduceEqDiff, Nat.reduceLeDiff, Nat.reduceAdd, Nat.reduceSub, hga2, hgf2]; with_reducible exact hC); refine gc ?_) | refine gm ?_)
      cases gets with
      | false =>
        repeat (first | ((first | apply Xk.sAny | apply Xk.tAny); (case hok => rfl); (case h => intro C hC; simp (disch := first | omega | (simp only [List.length_append, List.length_cons, List.length_nil] <;> omega)) only [w1, ↓reduceIte, Nat.reduceEqDiff, Nat.reduceLeDiff, Nat.reduceAdd, Nat.reduceSub, hga2, hgf2]; with_reducible exact hC); refine gc ?_) | refine gm ?_)
        repeat (first | ((first | apply Xk.sAny | apply Xk.tAny); (case hok => rfl); (case h => intro C hC; simp (disch := first | omega | (simp only [List.length_append, List.length_cons, List.length_nil] <;> omega)) only [w1, ↓reduceIte, Nat.reduceEqDiff, Nat.reduceLeDiff, Nat.reduceAdd, Nat.reduceSub, hga2, hgf2]; with_reducible exact hC); refine gc ?_) | refine gm ?_)
        exact ⟨rfl, _, by omega, i + 1, rfl, by omega, by rw [hsn, valL_f]; simp only [List.append_assoc]; rfl, hOG2, ((hle2.trans hnf).trans hG1).trans hG2⟩
      | true =>
        repeat (first | ((first | apply Xk.sAny | apply Xk.tAny); (case hok => rfl); (case h => intro C hC; simp (disch := first | omega | (simp only [List.length_append, List.length_cons, List.length_nil] <;> omega)) only [w1, ↓reduceIte, Nat.reduceEqDiff, Nat.reduceLeDiff, Nat.reduceAdd, Nat.reduceSub, hga2, hgf2, rMm, hmm2]; with_reducible exact hC); refine gc ?_) | refine gm ?_)
        refine digits_ev f.cas.toNat (by omega) _ _ fun G3 hOG3 hG3 => ?_
        have hga3 := hG3 _ _ hga2
        have hgf3 := hG3 _ _ hgf2
        repeat (first | ((first | apply Xk.sAny | apply Xk.tAny); (case hok => rfl); (case h => intro C hC; simp (disch := first | omega | (simp only [List.length_append, List.length_cons, List.length_nil] <;> omega)) only [w1, ↓reduceIte, Nat.reduceEqDiff, Nat.reduceLeDiff, Nat.reduceAdd, Nat.reduceSub, hga3, hgf3]; with_reducible exact hC); refine gc ?_) | refine gm ?_)
        repeat (first | ((first | apply Xk.sAny | apply Xk.tAny); (case hok => rfl); (case h => intro C hC; simp (disch := first | omega | (simp only [List.length_append, List.length_cons, List.length_nil] <;> omega)) only [w1, ↓reduceIte, Nat.reduceEqDiff, Nat.reduceLeDiff, Nat.reduceAdd, Nat.reduceSub, hga3, hgf3]; with_reducible exact hC); refine gc ?_) | refine gm ?_)
        exact ⟨rfl, _, by omega, i + 1, rfl, by omega, by rw [hsn, valL_t]; simp only [List.append_assoc]; rfl, hOG3, (((hle2.trans hnf).trans hG1).trans hG2).trans hG3⟩
    · repeat (first | ((first | apply Xk.sAny | apply Xk.tAny); (case hok => rfl); (case h => intro C hC; simp (disch := omega) only [w1, ↓reduceIte, Nat.reduceEqDiff, Nat.reduceLeDiff, Nat.reduceAdd, Nat.reduceSub, c, hga, hv1]; with_reducible exact hC); refine gc ?_) | refine gm ?_)
      obtain rfl : i = l.length := by omega
      have e6 : valsB gets l ++ [69, 78, 68] ++ [13, 10] = valsB gets l ++ [69, 78, 68, 13, 10] := by rw [List.append_assoc]; rfl
      rw [e6] at hQ
      rw [List.take_length] at hpl ⊢
      repeat (first | ((first | apply Xk.sAny | apply Xk.tAny); (case hok => rfl); (case h => intro C hC; simp (disch := first | omega | (simp only [List.length_append, List.length_cons, List.length_nil] <;> omega)) only [w1, ↓reduceIte, Nat.reduceEqDiff, Nat.reduceLeDiff, Nat.reduceAdd, Nat.reduceSub, c]; with_reducible exact hC); refine gc ?_) | refine gm ?_)
      repeat (first | ((first | apply Xk.sAny | apply Xk.tAny); (case hok => rfl); (case h => intro C hC; simp (disch := first | omega | (simp only [List.length_append, List.length_cons, List.length_nil] <;> omega)) only [w1, ↓reduceIte, Nat.reduceEqDiff, Nat.reduceLeDiff, Nat.reduceAdd, Nat.reduceSub, c]; with_reducible exact hC); refine gc ?_) | refine gm ?_)
      exact hQ _ hO2 (hnew.trans hle2)
  by_cases c8 : k = .ofNat 8
  · subst c8
    have et : textB (.ofNat 8) gets l num text [s0, s1, s2, s3] = dec num ++ [13, 10] := rfl
    rw [et] at hQ
    have n1 : (dec num).length + ([13, 10] : List UInt8).length ≤ 4611686018427387904 := by
      have := dec_len20 hnum
      simp; omega
    repeat (first | ((first | apply Xk.sAny | apply Xk.tAny); (case hok => rfl); (case h => intro C hC; simp (disch := omega) only [w1, ↓reduceIte, Nat.reduceEqDiff, Nat.reduceLeDiff, Nat.reduceAdd, Nat.reduceSub, hbx, hgb, Nat.reduceEqDiff]; with_reducible exact hC); refine gc ?_) | refine gm ?_)
    repeat (first | ((first | apply Xk.sAny | apply Xk.tAny); (case hok => rfl); (case h => intro C hC; simp (disch := omega) only [w1, ↓reduceIte, Nat.reduceEqDiff, Nat.reduceLeDiff, Nat.reduceAdd, Nat.reduceSub, hbx, hgb, Nat.reduceEqDiff]; with_reducible exact hC); refine gc ?_) | refine gm ?_)
    refine digits_ev num hnum _ _ fun H' hO' hle' => ?_
    repeat (first | ((first | apply Xk.sAny | apply Xk.tAny); (case hok => rfl); (case h => intro C hC; simp (disch := omega) only [w1, ↓reduceIte, Nat.reduceEqDiff, Nat.reduceLeDiff, Nat.reduceAdd, Nat.reduceSub, n1]; with_reducible exact hC); refine gc ?_) | refine gm ?_)
    exact hQ _ hO' (hnew.trans hle')
  by_cases c11 : k = .ofNat 11
  · subst c11
    have et : textB (.ofNat 11) gets l num text [s0, s1, s2, s3] = stB [s0, s1, s2, s3] 4 ++ [69, 78, 68] ++ [13, 10] := rfl
    rw [et] at hQ
    repeat (first | ((first | apply Xk.sAny | apply Xk.tAny); (case hok => rfl); (case h => intro C hC; simp (disch := omega) only [w1, ↓reduceIte, Nat.reduceEqDiff, Nat.reduceLeDiff, Nat.reduceAdd, Nat.reduceSub, hbx, hgb, Nat.reduceEqDiff]; with_reducible exact hC); refine gc ?_) | refine gm ?_)
    repeat (first | ((first | apply Xk.sAny | apply Xk.tAny); (case hok => rfl); (case h => intro C hC; simp (disch := omega) only [w1, ↓reduceIte, Nat.reduceEqDiff, Nat.reduceLeDiff, Nat.reduceAdd, Nat.reduceSub, hbx, hgb, Nat.reduceEqDiff]; with_reducible exact hC); refine gc ?_) | refine gm ?_)
    have hle2 := hnew.new_ hO1 (.cells (stN.map AV.str) 1)
    have hO2 := hO1.new (.cells (stN.map AV.str) 1)
    have hg1 := HLe.new (hO1 _ (Nat.le_refl _)) (.cells (stN.map AV.str) 1) _ _ hgb
    have hg2 := Heap.get_new2 H (.cells [.int .i64 (.ofNat 11), v, .bool gets, .int .u64 (.ofNat num), .str text, .int .i64 s0, .int .i64 s1, .int .i64 s2, .int .i64 s3] 1) (.cells (stN.map AV.str) 1)
    have hsz : ∀ i, i < 4 → ([s0, s1, s2, s3].getD i 0) < 9223372036854775808 := by
      intro i hi
      have : i = 0 ∨ i = 1 ∨ i = 2 ∨ i = 3 := by omega
      rcases this with rfl | rfl | rfl | rfl
      · exact h0
      · exact h1
      · exact h2
      · exact h3
    have hst : ∀ n, n ≤ 4 → (stB [s0, s1, s2, s3] n).length ≤ n * 60 := by
      intro n
      induction n with
      | zero => intro _; exact Nat.le_refl _
      | succ n ih =>
        intro hn
        have a1 := ih (by omega)
        have a2 := stN_len n (by omega)
        have a3 := num0_len (hsz n (by omega))
        show (stB [s0, s1, s2, s3] n ++ stL [s0, s1, s2, s3] n).length ≤ _
        unfold stL
        simp only [List.length_append, List.length_cons, List.length_nil]
        omega
    generalize hH2 : (H.new (.cells [.int .i64 (.ofNat 11), v, .bool gets, .int .u64 (.ofNat num), .str text, .int .i64 s0, .int .i64 s1, .int .i64 s2, .int .i64 s3] 1)).new (.cells (stN.map AV.str) 1) = H2 at hle2 hO2 hg1 hg2
    have hH2' : (H.new (.cells [.int .i64 (.ofNat 11), v, .bool gets, .int .u64 (.ofNat num), .str text, .int .i64 s0, .int .i64 s1, .int .i64 s2, .int .i64 s3] 1)).new (.cells [.str [115, 108, 111, 116, 115, 95, 117, 112], .str [99, 109, 100, 95, 103, 101, 116], .str [99, 109, 100, 95, 115, 101, 116], .str [103, 101, 116, 95, 104, 105, 116, 115]] 1) = H2 := hH2
    rw [hH2']
    clear hH2 hH2' hnew hO1 hgb hbx
    generalize H.next + 1 = nb2 at hg2 ⊢
    generalize H.next = nb1 at hg1 ⊢
    have hst4 : (stN.map AV.str).length = 4 := rfl
    refine Xk.iter [1, 6, 7, 8] (fun m k G => ∃ i, m = 4 - i ∧ i ≤ 4 ∧ k = [(1, .ptr nb1 0), (6, .sl nb2 0 4 1), (7, .str (stB [s0, s1, s2, s3] i)), (8, .int .i64 (.ofNat i))] ∧ G.Ok ∧ HLe H2 G) rfl
      ⟨_, 0, rfl, Nat.zero_le _, rfl, hO2, HLe.refl _⟩ ?_
    rintro m k G ⟨i, rfl, hi, rfl, hOG, hleG⟩
    unfold l1_depotref9_Text
    have hsi := hst i hi
    by_cases c : i < 4
    · have c1 : i + 1 ≤ 4 := c
      have c5 : 5 + i + 1 ≤ 9 := by omega
      have k1 := icell_at [s0, s1, s2, s3] (i := i) c
      have k2 := cell_at stN (i := i) c
      have k1' : (List.drop (5 + i) [AV.int .i64 (.ofNat 11), v, .bool gets, .int .u64 (.ofNat num), .str text, .int .i64 s0, .int .i64 s1, .int .i64 s2, .int .i64 s3]).take 1 = [.int .i64 ([s0, s1, s2, s3].getD i 0)] := by
        rw [← List.drop_drop]
        exact k1
      have a2 := stN_len i c
      have a3 := num0_len (hsz i c)
      have ga := hleG _ _ hg1
      have gb := hleG _ _ hg2
      have hzb := hsz i c
      have e5 : stB [s0, s1, s2, s3] (i + 1) = stB [s0, s1, s2, s3] i ++ [83, 84, 65, 84, 32] ++ stN.getD i [] ++ [32] ++ num0 ([s0, s1, s2, s3].getD i 0) ++ [13, 10] := by
        show stB _ i ++ stL _ i = _
        unfold stL
        simp only [List.append_assoc]
      generalize hz : [s0, s1, s2, s3].getD i 0 = z at k1 k1' a3 hzb e5
      generalize hw' : stN.getD i [] = nm at k2 a2 e5
      have hmm := fun fr => mm0 z fr hzb
      have a4 : (dec z.toNat).length ≤ 20 := a3
      repeat (first | ((first | apply Xk.sAny | apply Xk.tAny); (case hok => rfl); (case h => intro C hC; simp (disch := omega) only [w1, ↓reduceIte, Nat.reduceEqDiff, Nat.reduceLeDiff, Nat.reduceAdd, Nat.reduceSub, c]; with_reducible exact hC); refine gc ?_) | refine gm ?_)
      repeat (first | ((first | apply Xk.sAny | apply Xk.tAny); (case hok => rfl); (case h => intro C hC; simp (disch := first | omega | (simp only [List.length_append, List.length_cons, List.length_nil] <;> omega)) only [w1, ↓reduceIte, Nat.reduceEqDiff, Nat.reduceLeDiff, Nat.reduceAdd, Nat.reduceSub, c, c1, c5, ga, gb, k1', k2, hst4, Nat.mul_one, Nat.zero_add, rIaarr, rMm, hmm]; with_reducible exact hC); refine gc ?_) | refine gm ?_)
      refine digits_ev z.toNat (by omega) _ _ fun G1 hO1 hle3 => ?_
      have ga1 := hle3 _ _ ga
      have gb1 := hle3 _ _ gb
      repeat (first | ((first | apply Xk.sAny | apply Xk.tAny); (case hok => rfl); (case h => intro C hC; simp (disch := first | omega | (simp only [List.length_append, List.length_cons, List.length_nil] <;> omega)) only [w1, ↓reduceIte, Nat.reduceEqDiff, Nat.reduceLeDiff, Nat.reduceAdd, Nat.reduceSub, c, c1, c5, ga1, gb1, k1', k2, hst4, Nat.mul_one, Nat.zero_add]; with_reducible exact hC); refine gc ?_) | refine gm ?_)
      exact ⟨rfl, _, by omega, i + 1, rfl, by omega, by rw [e5]; rfl, hO1, hleG.trans hle3⟩
    · repeat (first | ((first | apply Xk.sAny | apply Xk.tAny); (case hok => rfl); (case h => intro C hC; simp (disch := omega) only [w1, ↓reduceIte, Nat.reduceEqDiff, Nat.reduceLeDiff, Nat.reduceAdd, Nat.reduceSub, c]; with_reducible exact hC); refine gc ?_) | refine gm ?_)
      obtain rfl : i = 4 := by omega
      have e6 : stB [s0, s1, s2, s3] 4 ++ [69, 78, 68] ++ [13, 10] = stB [s0, s1, s2, s3] 4 ++ [69, 78, 68, 13, 10] := by rw [List.append_assoc]; rfl
      rw [e6] at hQ
      repeat (first | ((first | apply Xk.sAny | apply Xk.tAny); (case hok => rfl); (case h => intro C hC; simp (disch := first | omega | (simp only [List.length_append, List.length_cons, List.length_nil] <;> omega)) only [w1, ↓reduceIte, Nat.reduceEqDiff, Nat.reduceLeDiff, Nat.reduceAdd, Nat.reduceSub, c]; with_reducible exact hC); refine gc ?_) | refine gm ?_)
      repeat (first | ((first | apply Xk.sAny | apply Xk.tAny); (case hok => rfl); (case h => intro C hC; simp (disch := first | omega | (simp only [List.length_append, List.length_cons, List.length_nil] <;> omega)) only [w1, ↓reduceIte, Nat.reduceEqDiff, Nat.reduceLeDiff, Nat.reduceAdd, Nat.reduceSub, c]; with_reducible exact hC); refine gc ?_) | refine gm ?_)
      exact hQ _ hOG (hle2.trans hleG)
  by_cases c13 : k = .ofNat 13
  · subst c13
    have et : textB (.ofNat 13) gets l num text [s0, s1, s2, s3] = cliE ++ text ++ [13, 10] := rfl
    rw [et] at hQ
    have n1 : ([67, 76, 73, 69, 78, 84, 95, 69, 82, 82, 79, 82, 32] : List UInt8).length + text.length ≤ 4611686018427387904 := by simp; omega
    have n2 : (67 :: 76 :: 73 :: 69 :: 78 :: 84 :: 95 :: 69 :: 82 :: 82 :: 79 :: 82 :: 32 :: text).length + ([13, 10] : List UInt8).length ≤ 4611686018427387904 := by simp; omega
    repeat (first | ((first | apply Xk.sAny | apply Xk.tAny); (case hok => rfl); (case h => intro C hC; simp (disch := omega) only [w1, ↓reduceIte, Nat.reduceEqDiff, Nat.reduceLeDiff, Nat.reduceAdd, Nat.reduceSub, hbx, hgb, n1, n2, Nat.reduceEqDiff]; with_reducible exact hC); refine gc ?_) | refine gm ?_)
    exact hQ _ hO1 hnew
  by_cases c14 : k = .ofNat 14
  · subst c14
    have et : textB (.ofNat 14) gets l num text [s0, s1, s2, s3] = srvE ++ text ++ [13, 10] := rfl
    rw [et] at hQ
    have n1 : ([83, 69, 82, 86, 69, 82, 95, 69, 82, 82, 79, 82, 32] : List UInt8).length + text.length ≤ 4611686018427387904 := by simp; omega
    have n2 : (83 :: 69 :: 82 :: 86 :: 69 :: 82 :: 95 :: 69 :: 82 :: 82 :: 79 :: 82 :: 32 :: text).length + ([13, 10] : List UInt8).length ≤ 4611686018427387904 := by simp; omega
    repeat (first | ((first | apply Xk.sAny | apply Xk.tAny); (case hok => rfl); (case h => intro C hC; simp (disch := omega) only [w1, ↓reduceIte, Nat.reduceEqDiff, Nat.reduceLeDiff, Nat.reduceAdd, Nat.reduceSub, hbx, hgb, n1, n2, Nat.reduceEqDiff]; with_reducible exact hC); refine gc ?_) | refine gm ?_)
    exact hQ _ hO1 hnew
  have et : textB k gets l num text [s0, s1, s2, s3] = if plainB k = [] then [] else plainB k ++ [13, 10] := by
    unfold textB
    simp only [c1, c8, c11, c13, c14, if_false]
  rw [et] at hQ
  by_cases cl : k < .ofNat 2
  · rw [if_pos (plainB_out (.inl cl))] at hQ
    repeat (first | ((first | apply Xk.sAny | apply Xk.tAny); (case hok => rfl); (case h => intro C hC; simp (disch := omega) only [w1, ↓reduceIte, Nat.reduceEqDiff, Nat.reduceLeDiff, Nat.reduceAdd, Nat.reduceSub, hbx, hgb, c1, c8, c11, c13, c14, cl]; with_reducible exact hC); refine gc ?_) | refine gm ?_)
    repeat (first | ((first | apply Xk.sAny | apply Xk.tAny); (case hok => rfl); (case h => intro C hC; simp (disch := omega) only [w1, ↓reduceIte, Nat.reduceEqDiff, Nat.reduceLeDiff, Nat.reduceAdd, Nat.reduceSub, hbx, hgb, c1, c8, c11, c13, c14, cl]; with_reducible exact hC); refine gc ?_) | refine gm ?_)
    exact hQ _ hO1 hnew
  by_cases ch : .ofNat 12 < k
  · rw [if_pos (plainB_out (.inr ch))] at hQ
    repeat (first | ((first | apply Xk.sAny | apply Xk.tAny); (case hok => rfl); (case h => intro C hC; simp (disch := omega) only [w1, ↓reduceIte, Nat.reduceEqDiff, Nat.reduceLeDiff, Nat.reduceAdd, Nat.reduceSub, hbx, hgb, c1, c8, c11, c13, c14, cl, ch]; with_reducible exact hC); refine gc ?_) | refine gm ?_)
    repeat (first | ((first | apply Xk.sAny | apply Xk.tAny); (case hok => rfl); (case h => intro C hC; simp (disch := omega) only [w1, ↓reduceIte, Nat.reduceEqDiff, Nat.reduceLeDiff, Nat.reduceAdd, Nat.reduceSub, hbx, hgb, c1, c8, c11, c13, c14, cl, ch]; with_reducible exact hC); refine gc ?_) | refine gm ?_)
    exact hQ _ hO1 hnew
  obtain ⟨n, rfl⟩ : ∃ n : Nat, k = .ofNat n := ⟨k.toNat, by
    have e : ¬ k < (2 : Int) := cl
    show k = ((k.toNat : Nat) : Int)
    omega⟩
  have d1 : ¬ ((n : Int) < 2) := cl
  have d2 : ¬ ((12 : Int) < (n : Int)) := ch
  have d3 : n ≠ 8 := fun e => c8 (by rw [e])
  have d4 : n ≠ 11 := fun e => c11 (by rw [e])
  have : n = 2 ∨ n = 3 ∨ n = 4 ∨ n = 5 ∨ n = 6 ∨ n = 7 ∨ n = 9 ∨ n = 10 ∨ n = 12 := by omega
  clear c1 c8 c11 c13 c14 d1 d2 d3 d4 et
  have hr : rep 11 [AV.str []] = [.str [], .str [], .str [], .str [], .str [], .str [], .str [], .str [], .str [], .str [], .str []] := rfl
  rcases this with rfl | rfl | rfl | rfl | rfl | rfl | rfl | rfl | rfl
  all_goals
    repeat (first | ((first | apply Xk.sAny | apply Xk.tAny); (case hok => rfl); (case h => intro C hC; simp (disch := omega) only [w1, ↓reduceIte, Nat.reduceEqDiff, Nat.reduceLeDiff, Nat.reduceAdd, Nat.reduceSub, hbx, hgb, cl, ch, hr, Nat.reduceLT]; with_reducible exact hC); refine gc ?_) | refine gm ?_)
    repeat (first | ((first | apply Xk.sAny | apply Xk.tAny); (case hok => rfl); (case h => intro C hC; simp (disch := omega) only [w1, ↓reduceIte, Nat.reduceEqDiff, Nat.reduceLeDiff, Nat.reduceAdd, Nat.reduceSub, hbx, hgb, cl, ch, hr, Nat.reduceLT]; with_reducible exact hC); refine gc ?_) | refine gm ?_)
    exact hQ _ (hO1.new _) (hnew.new_ hO1 _)
end Go.Proofs.YtkjmelfgopammaaDoor
