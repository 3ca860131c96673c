/- Layer 14: values as they are told. Conditions: none. -/
import Derived.Test.YtkjmelfgopammaaDoorAnE
namespace Go.Proofs.YtkjmelfgopammaaDoor
open Go.Dp
set_option linter.unusedSimpArgs false
set_option linter.unusedVariables false
set_option maxHeartbeats 2000000
set_option maxRecDepth 8000
attribute [local irreducible] Ex.thnK Ex.inK Ret

theorem Bld.mono {H0 H H' : Heap} {b : Nat} {s : List UInt8} (hle : HLe H H') (h : Bld H0 H b s) : Bld H0 H' b s := by
  obtain ⟨p, v, h1, h2, h3, h4, h5⟩ := h
  exact ⟨p, v, hle _ _ h1, h2, h3, h4.keep fun c x hc _ => hle c x hc, h5⟩

/-- a value's words -/
def valW (gets : Bool) (f : Fd) : List (List UInt8) := [[86, 65, 76, 85, 69], f.key, num0 f.flags, dec f.val.length] ++ (if gets = true then [num0 f.cas] else [])
def valL (gets : Bool) (f : Fd) : List UInt8 := joinB (valW gets f) ++ [13, 10] ++ f.val ++ [13, 10]
def valsB (gets : Bool) (l : List Fd) : List UInt8 := l.flatMap (valL gets)

theorem dec_len20 {u : Nat} (h : u < 18446744073709551616) : (dec u).length ≤ 20 := by
  obtain ⟨n, h1, h2, h3, h4⟩ := dec_nd h
  rw [dec_eq h1 h2 h3 h4, dgs_len]
  exact h2
theorem num0_len {z : Int} (h : z < 9223372036854775808) : (num0 z).length ≤ 20 := dec_len20 (by omega)
theorem joinB_len (l : List (List UInt8)) (h : 0 < l.length) : (joinB l).length ≤ l.length + 2 * tl l := by
  have ej : jn l (l.length - 1) = joinB l := by
    unfold jn joinB
    rw [List.take_of_length_le (by rw [List.length_drop]; exact Nat.le_refl _)]
  rw [← ej]
  exact jn_len l _ h
theorem valW_tl (gets : Bool) {f : Fd} (h1 : f.flags < 9223372036854775808) (h2 : f.cas < 9223372036854775808) (h3 : f.val.length ≤ 8000) : tl (valW gets f) ≤ f.key.length + 65 ∧ (valW gets f).length ≤ 5 ∧ 4 ≤ (valW gets f).length := by
  have a1 := num0_len h1
  have a2 := num0_len h2
  have a3 := dec_len20 (u := f.val.length) (by omega)
  cases gets
  · refine ⟨?_, by simp [valW], by simp [valW]⟩
    simp only [valW, tl, List.map_append, List.map_cons, List.map_nil, List.sum_append, List.sum_cons, List.sum_nil, List.length_cons, List.length_nil, Bool.false_eq_true, if_false]
    omega
  · refine ⟨?_, by simp [valW], by simp [valW]⟩
    simp only [valW, tl, List.map_append, List.map_cons, List.map_nil, List.sum_append, List.sum_cons, List.sum_nil, List.length_cons, List.length_nil, if_true]
    omega
theorem valL_len (gets : Bool) {f : Fd} (h1 : f.flags < 9223372036854775808) (h2 : f.cas < 9223372036854775808) (h3 : f.val.length ≤ 8000) : (valL gets f).length ≤ 140 + 2 * (f.key.length + f.val.length + 1) := by
  obtain ⟨a1, a2, a3⟩ := valW_tl gets h1 h2 h3
  have a4 := joinB_len (valW gets f) (by omega)
  unfold valL
  simp only [List.length_append, List.length_cons, List.length_nil]
  omega
theorem valsB_len (gets : Bool) : ∀ (l : List Fd), (∀ f ∈ l, f.flags < 9223372036854775808 ∧ f.cas < 9223372036854775808) → wt l ≤ 8000 → (valsB gets l).length ≤ 140 * l.length + 2 * wt l
  | [], _, _ => Nat.zero_le _
  | f :: l, h, hw => by
    have e : wt (f :: l) = f.key.length + f.val.length + 1 + wt l := rfl
    rw [e] at hw ⊢
    obtain ⟨h1, h2⟩ := h f (List.mem_cons_self ..)
    have a1 := valL_len gets h1 h2 (by omega)
    have a2 := valsB_len gets l (fun x hx => h x (List.mem_cons_of_mem _ hx)) (by omega)
    show (valL gets f ++ valsB gets l).length ≤ _
    rw [List.length_append, List.length_cons]
    omega
theorem valsB_snoc (gets : Bool) (l : List Fd) {i : Nat} (h : i < l.length) : valsB gets (l.take (i + 1)) = valsB gets (l.take i) ++ valL gets (l.getD i noFd) := by
  have e : l.take (i + 1) = l.take i ++ [l.getD i noFd] := by
    rw [List.take_add_one, List.getD_eq_getElem?_getD, List.getElem?_eq_getElem h]
    rfl
  rw [e]
  unfold valsB
  rw [List.flatMap_append]
  simp

theorem values_ev (v : AV) (l : List Fd) (gets : Bool) (H : Heap) (hT : Tab H) (hv : Sl H 4 v (rows l)) (hb : wt l ≤ 8000) (hl : l.length ≤ 8000) (hf : ∀ f ∈ l, f.flags < 9223372036854775808 ∧ f.cas < 9223372036854775808) (Q : AV → Heap → Prop)
    (hQ : ∀ H', H'.Ok → HLe H H' → Q (.str (valsB gets l ++ [69, 78, 68] ++ [13, 10])) H') : Eo lib n_answer_values [v, .bool gets] H Q := by
  refine Eo.ok fun hOk => ?_
  refine Eo.code at_answer_values rfl ?_
  obtain ⟨hv1, hv2, hv3⟩ := Sl.lens4 hv
  have hnew := HLe.new (hOk _ (Nat.le_refl _)) (.cells [.nilp, .nils] 2)
  have hO1 := hOk.new (.cells [.nilp, .nils] 2)
  have hB1 : Bld H (H.new (.cells [.nilp, .nils] 2)) H.next [] := Bld.fresh (Heap.get_new_self _ _) (hOk _ (Nat.le_refl _))
  repeat (first | ((first | apply Xk.sAny | apply Xk.tAny); (case hok => rfl); (case h => intro C hC; simp (disch := omega) only [w1, ↓reduceIte, Nat.reduceEqDiff, Nat.reduceLeDiff, Nat.reduceAdd, Nat.reduceSub, hv1]; with_reducible exact hC); refine gc ?_) | refine gm ?_)
  refine Xk.iter [1, 5, 9, 10, 11] (fun m k G => ∃ i, m = l.length - i ∧ i ≤ l.length ∧ k = [(1, .bool gets), (5, .ptr H.next 0), (9, v), (10, .int .i64 (.ofNat l.length)), (11, .int .i64 (.ofNat i))] ∧ G.Ok ∧ HLe H G ∧ Bld H G H.next (valsB gets (l.take i))) rfl
    ⟨_, 0, rfl, Nat.zero_le _, rfl, hO1, hnew, hB1⟩ ?_
  rintro m k G ⟨i, rfl, hi, rfl, hO2, hle2, hB2⟩
  unfold l0_answer_values
  by_cases c : i < l.length
  · obtain ⟨bb, o, cl, w, rfl, hg, hrow⟩ := Sl.row (hv.mono hle2) (by omega)
    obtain ⟨c1, rest, c2⟩ := hrow i c
    obtain ⟨d4, d0, d1, d2, d3⟩ := cells_at c2
    generalize hfe : l.getD i noFd = f at *
    have hfm : f ∈ l := by
      rw [← hfe, List.getD_eq_getElem?_getD, List.getElem?_eq_getElem c]
      exact List.getElem_mem c
    obtain ⟨f1, f2⟩ := hf f hfm
    have hnf := HLe.new (hO2 _ (Nat.le_refl _)) (.cells f.cells 1)
    have hOf := hO2.new (.cells f.cells 1)
    have hgf := Heap.get_new_self G (.cells f.cells 1)
    unfold Fd.cells at d4 hnf hgf hOf
    have hst : ((G.new (.cells [.str [], .int .i64 (.ofNat 0), .str [], .int .i64 (.ofNat 0)] 1)).put G.next (.cells [.str f.key, .int .i64 f.flags, .str f.val, .int .i64 f.cas] 1)) = G.new (.cells [.str f.key, .int .i64 f.flags, .str f.val, .int .i64 f.cas] 1) := Heap.new_put _ _ _
    have hgz := Heap.get_new_self G (.cells [.str [], .int .i64 (.ofNat 0), .str [], .int .i64 (.ofNat 0)] 1)
    repeat (first | ((first | apply Xk.sAny | apply Xk.tAny); (case hok => rfl); (case h => intro C hC; simp (disch := omega) only [w1, ↓reduceIte, Nat.reduceEqDiff, Nat.reduceLeDiff, Nat.reduceAdd, Nat.reduceSub, c, hg, c1, d4, hgz, hst, hgf]; with_reducible exact hC); refine gc ?_) | refine gm ?_)
    have hlv : f.val.length ≤ 8000 := by
      have t1 := wt_snoc l c
      have t2 := wt_le l (i + 1)
      rw [hfe] at t1
      omega
    refine number_ev f.flags f1 _ (hT.mono (hle2.trans hnf)) _ fun G1 hOG1 hG1 => ?_
    have hgf1 := hG1 _ _ hgf
    repeat (first | ((first | apply Xk.sAny | apply Xk.tAny); (case hok => rfl); (case h => intro C hC; simp (disch := omega) only [w1, ↓reduceIte, Nat.reduceEqDiff, Nat.reduceLeDiff, Nat.reduceAdd, Nat.reduceSub, hgf1]; with_reducible exact hC); refine gc ?_) | refine gm ?_)
    refine Itoa_ev f.val.length (by omega) _ (hT.mono ((hle2.trans hnf).trans hG1)) _ fun G2 hOG2 hG2 => ?_
    have hgf2 := hG2 _ _ hgf1
    cases gets with
    | false =>
      have hn3 := HLe.new (hOG2 _ (Nat.le_refl _)) (.cells [.str [86, 65, 76, 85, 69], .str f.key, .str (num0 f.flags), .str (dec f.val.length)] 1)
      have hgf3 := hn3 _ _ hgf2
      repeat (first | ((first | apply Xk.sAny | apply Xk.tAny); (case hok => rfl); (case h => intro C hC; simp (disch := omega) only [w1, ↓reduceIte, Nat.reduceEqDiff, Nat.reduceLeDiff, Nat.reduceAdd, Nat.reduceSub, hgf2]; with_reducible exact hC); refine gc ?_) | refine gm ?_)
      repeat (first | ((first | apply Xk.sAny | apply Xk.tAny); (case hok => rfl); (case h => intro C hC; simp (disch := omega) only [w1, ↓reduceIte, Nat.reduceEqDiff, Nat.reduceLeDiff, Nat.reduceAdd, Nat.reduceSub, hgf3]; with_reducible exact hC); refine gc ?_) | refine gm ?_)
      have hwl := valW_tl false f1 f2 hlv
      have hkl : f.key.length ≤ 8000 := by
        have t1 := wt_snoc l c
        have t2 := wt_le l (i + 1)
        rw [hfe] at t1
        omega
      have hjl := joinB_len (valW false f) (by omega)
      refine Join_ev G2.next 1 (valW false f) _ (Heap.get_new_self _ _) (by omega) (by omega) (by omega) _ fun G6 hOG6 hG6 => ?_
      have hgf6 := hG6 _ _ hgf3
      have n1 : (joinB (valW false f)).length + ([13, 10] : List UInt8).length ≤ 4611686018427387904 := by simp; omega
      have n2 : (joinB (valW false f) ++ [13, 10]).length + f.val.length ≤ 4611686018427387904 := by simp; omega
      have n3 : (joinB (valW false f) ++ [13, 10] ++ f.val).length + ([13, 10] : List UInt8).length ≤ 4611686018427387904 := by simp; omega
      repeat (first | ((first | apply Xk.sAny | apply Xk.tAny); (case hok => rfl); (case h => intro C hC; simp (disch := omega) only [w1, ↓reduceIte, Nat.reduceEqDiff, Nat.reduceLeDiff, Nat.reduceAdd, Nat.reduceSub, hgf6, n1, n2, n3]; with_reducible exact hC); refine gc ?_) | refine gm ?_)
      have hch : HLe G G6 := (((hnf.trans hG1).trans hG2).trans hn3).trans hG6
      have hpl := valsB_len false (l.take i) (fun x hx => hf x (List.mem_of_mem_take hx)) (by have := wt_le l i; omega)
      have hwi := wt_le l i
      have hti : (l.take i).length ≤ 8000 := by rw [List.length_take]; omega
      refine WriteString_ev H.next _ _ H G6 (hle2.trans hch) (hB2.mono hch) (by simp only [List.length_append, List.length_cons, List.length_nil]; omega) _ fun v7 G7 hOG7 hle7 hn7 hB7 => ?_
      repeat (first | ((first | apply Xk.sAny | apply Xk.tAny); (case hok => rfl); (case h => intro C hC; simp (disch := omega) only [w1, ↓reduceIte, Nat.reduceEqDiff, Nat.reduceLeDiff, Nat.reduceAdd, Nat.reduceSub]; with_reducible exact hC); refine gc ?_) | refine gm ?_)
      refine ⟨rfl, _, ?_, i + 1, rfl, by omega, rfl, hOG7, hle7, ?_⟩
      · omega
      · rw [valsB_snoc false l c, hfe]
        exact hB7
    | true =>
      have hn3 := HLe.new (hOG2 _ (Nat.le_refl _)) (.cells [.str [86, 65, 76, 85, 69], .str f.key, .str (num0 f.flags), .str (dec f.val.length)] 1)
      have hO3 := hOG2.new (.cells [.str [86, 65, 76, 85, 69], .str f.key, .str (num0 f.flags), .str (dec f.val.length)] 1)
      have hgf3 := hn3 _ _ hgf2
      repeat (first | ((first | apply Xk.sAny | apply Xk.tAny); (case hok => rfl); (case h => intro C hC; simp (disch := omega) only [w1, ↓reduceIte, Nat.reduceEqDiff, Nat.reduceLeDiff, Nat.reduceAdd, Nat.reduceSub, hgf2]; with_reducible exact hC); refine gc ?_) | refine gm ?_)
      repeat (first | ((first | apply Xk.sAny | apply Xk.tAny); (case hok => rfl); (case h => intro C hC; simp (disch := omega) only [w1, ↓reduceIte, Nat.reduceEqDiff, Nat.reduceLeDiff, Nat.reduceAdd, Nat.reduceSub, hgf3]; with_reducible exact hC); refine gc ?_) | refine gm ?_)
      refine number_ev f.cas f2 _ (hT.mono ((((hle2.trans hnf).trans hG1).trans hG2).trans hn3)) _ fun G4 hOG4 hG4 => ?_
      have hown : Own G2 G4 0 1 (.sl G2.next 0 4 1) [.str [86, 65, 76, 85, 69], .str f.key, .str (num0 f.flags), .str (dec f.val.length)] := .inr ⟨G2.next, 4, rfl, rfl, hG4 _ _ (Heap.get_new_self _ _), hOG2 _ (Nat.le_refl _)⟩
      obtain ⟨v5, G5, hap, hOG5, hle5, _, hown5, _⟩ := Own.push (w := 1) (bytes := 16) (row := [.str (num0 f.cas)]) hOG4 (hn3.trans hG4) hown rfl rfl (by decide) (show (4 / 1 + 1) * 16 ≤ 35184372088832 by decide) (show 4 / 1 + 1 ≤ 35184372088832 by decide)
      rcases hown5 with ⟨_, hbad⟩ | ⟨b5, len5, rfl, hlen5, hg5, _⟩
      · cases hbad
      obtain rfl : len5 = 5 := by
        have : (5 : Nat) = len5 * 1 := hlen5
        omega
      have hgf5 := hle5 _ _ hgf2
      repeat (first | ((first | apply Xk.sAny | apply Xk.tAny); (case hok => rfl); (case h => intro C hC; simp (disch := omega) only [w1, ↓reduceIte, Nat.reduceEqDiff, Nat.reduceLeDiff, Nat.reduceAdd, Nat.reduceSub, hap]; with_reducible exact hC); refine gc ?_) | refine gm ?_)
      repeat (first | ((first | apply Xk.sAny | apply Xk.tAny); (case hok => rfl); (case h => intro C hC; simp (disch := omega) only [w1, ↓reduceIte, Nat.reduceEqDiff, Nat.reduceLeDiff, Nat.reduceAdd, Nat.reduceSub, hgf5]; with_reducible exact hC); refine gc ?_) | refine gm ?_)
      have hwl := valW_tl true f1 f2 hlv
      have hkl : f.key.length ≤ 8000 := by
        have t1 := wt_snoc l c
        have t2 := wt_le l (i + 1)
        rw [hfe] at t1
        omega
      have hjl := joinB_len (valW true f) (by omega)
      refine Join_ev b5 1 (valW true f) _ hg5 (by omega) (by omega) (by omega) _ fun G6 hOG6 hG6 => ?_
      have hgf6 := hG6 _ _ hgf5
      have n1 : (joinB (valW true f)).length + ([13, 10] : List UInt8).length ≤ 4611686018427387904 := by simp; omega
      have n2 : (joinB (valW true f) ++ [13, 10]).length + f.val.length ≤ 4611686018427387904 := by simp; omega
      have n3 : (joinB (valW true f) ++ [13, 10] ++ f.val).length + ([13, 10] : List UInt8).length ≤ 4611686018427387904 := by simp; omega
      repeat (first | ((first | apply Xk.sAny | apply Xk.tAny); (case hok => rfl); (case h => intro C hC; simp (disch := omega) only [w1, ↓reduceIte, Nat.reduceEqDiff, Nat.reduceLeDiff, Nat.reduceAdd, Nat.reduceSub, hgf6, n1, n2, n3]; with_reducible exact hC); refine gc ?_) | refine gm ?_)
      have hch : HLe G G6 := (((hnf.trans hG1).trans hG2).trans hle5).trans hG6
      have hpl := valsB_len true (l.take i) (fun x hx => hf x (List.mem_of_mem_take hx)) (by have := wt_le l i; omega)
      have hwi := wt_le l i
      have hti : (l.take i).length ≤ 8000 := by rw [List.length_take]; omega
      refine WriteString_ev H.next _ _ H G6 (hle2.trans hch) (hB2.mono hch) (by simp only [List.length_append, List.length_cons, List.length_nil]; omega) _ fun v7 G7 hOG7 hle7 hn7 hB7 => ?_
      repeat (first | ((first | apply Xk.sAny | apply Xk.tAny); (case hok => rfl); (case h => intro C hC; simp (disch := omega) only [w1, ↓reduceIte, Nat.reduceEqDiff, Nat.reduceLeDiff, Nat.reduceAdd, Nat.reduceSub]; with_reducible exact hC); refine gc ?_) | refine gm ?_)
      refine ⟨rfl, _, ?_, i + 1, rfl, by omega, rfl, hOG7, hle7, ?_⟩
      · omega
      · rw [valsB_snoc true l c, hfe]
        exact hB7
  · repeat (first | ((first | apply Xk.sAny | apply Xk.tAny); (case hok => rfl); (case h => intro C hC; simp (disch := omega) only [w1, ↓reduceIte, Nat.reduceEqDiff, Nat.reduceLeDiff, Nat.reduceAdd, Nat.reduceSub, c]; with_reducible exact hC); refine gc ?_) | refine gm ?_)
    have e : i = l.length := by omega
    subst e
    rw [List.take_length] at hB2
    have hlen := valsB_len gets l hf hb
    have n1 : (valsB gets l).length + ([69, 78, 68] : List UInt8).length ≤ 4611686018427387904 := by simp; omega
    have n2 : (valsB gets l ++ [69, 78, 68]).length + ([13, 10] : List UInt8).length ≤ 4611686018427387904 := by simp; omega
    refine String_ev H.next _ H G hle2 hB2 (by omega) _ fun H' hO' hle' hn' => ?_
    repeat (first | ((first | apply Xk.sAny | apply Xk.tAny); (case hok => rfl); (case h => intro C hC; simp (disch := omega) only [w1, ↓reduceIte, Nat.reduceEqDiff, Nat.reduceLeDiff, Nat.reduceAdd, Nat.reduceSub, n1, n2]; with_reducible exact hC); refine gc ?_) | refine gm ?_)
    exact hQ _ hO' hle'
end Go.Proofs.YtkjmelfgopammaaDoor
