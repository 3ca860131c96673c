/- Layer 14: the law AnswerValues, over the clean machine. Conditions: none. -/
import Derived.Test.YtkjmelfgopammaaDoorAnJ
namespace Go.Proofs.YtkjmelfgopammaaDoor
open Go.Dp
set_option linter.unusedSimpArgs false
set_option linter.unusedVariables false
set_option maxHeartbeats 2000000
set_option maxRecDepth 8000
attribute [local irreducible] Ex.thnK Ex.inK Ret

theorem rows_app (a b : List Fd) : rows a ++ rows b = rows (a ++ b) := by
  unfold rows
  rw [List.flatMap_append]
theorem valsB_app (gets : Bool) (a b : List Fd) : valsB gets (a ++ b) = valsB gets a ++ valsB gets b := by
  unfold valsB
  rw [List.flatMap_append]
theorem wt_app (a b : List Fd) : wt (a ++ b) = wt a + wt b := by
  unfold wt
  rw [List.map_append, List.sum_append]
theorem rows_sc (l : List Fd) : (rows l).all AV.isSc = true := by
  rw [List.all_eq_true]
  intro x hx
  obtain ⟨f, _, hf⟩ := List.mem_flatMap.1 hx
  simp only [Fd.cells, List.mem_cons, List.not_mem_nil, or_false] at hf
  rcases hf with rfl | rfl | rfl | rfl <;> rfl

theorem Sl.same {H : Heap} {sz : Nat} {v : AV} {cs : List AV} (h : Sl H sz v cs) : sameAV v v = true := by
  rcases h with ⟨rfl, _⟩ | ⟨b, o, len, l, w, rest, rfl, _⟩
  · rfl
  · simp [sameAV, nbeq]

theorem new2_put2 {H : Heap} (hO : H.Ok) (z z' a b : Blk) : ((((H.new z).new z').put H.next a).put (H.next + 1) b).get H.next = some a ∧ ((((H.new z).new z').put H.next a).put (H.next + 1) b).get (H.next + 1) = some b ∧
    ((((H.new z).new z').put H.next a).put (H.next + 1) b).Ok ∧ HLe H ((((H.new z).new z').put H.next a).put (H.next + 1) b) := by
  have h1 := hO H.next (Nat.le_refl _)
  have h2 := hO (H.next + 1) (Nat.le_succ _)
  have g1 := Heap.get_new2' H z z'
  have g2 := Heap.get_new2 H z z'
  refine ⟨?_, Heap.get_put_self _ _ _, ?_, ((((HLe.refl H).new_ hO z).new_ (hO.new z) z').put_ h1 a).put_ h2 b⟩
  · rw [Heap.get_put_ne _ _ _ (by omega), Heap.get_put_self]
  · exact (((hO.new z).new z').put g1 a).put (by rw [Heap.get_put_ne _ _ _ (by omega)]; exact g2) b

theorem textB_vals (gets : Bool) (l : List Fd) : textB (.ofNat 1) gets l 0 [] [.ofNat 0, .ofNat 0, .ofNat 0, .ofNat 0] = valsB gets l ++ [69, 78, 68, 13, 10] := by
  show valsB gets l ++ [69, 78, 68] ++ [13, 10] = _
  rw [List.append_assoc]
  rfl

theorem Values_law (la lb : List Fd) (gets : Bool) (va vb : AV) (H : Heap) (hT : Tab H) (hna : la.length < 9223372036854775808) (hnb : lb.length < 9223372036854775808)
    (hfa : ∀ f ∈ la, (f.flags < 9223372036854775808 ∧ f.cas < 9223372036854775808) ∧ f.key.length ≤ 281474976710656 ∧ f.val.length ≤ 281474976710656)
    (hfb : ∀ f ∈ lb, (f.flags < 9223372036854775808 ∧ f.cas < 9223372036854775808) ∧ f.key.length ≤ 281474976710656 ∧ f.val.length ≤ 281474976710656)
    (hva : Sl H 4 va (rows la)) (hvb : Sl H 4 vb (rows lb)) :
    Eo lib n_depotlaw14_AnswerValues [va, vb, .bool gets] H fun v _ => v = .bool true := by
  refine Eo.ok fun hOk => ?_
  refine Eo.code at_depotlaw14_AnswerValues rfl ?_
  obtain ⟨_, hv2, hv3⟩ := Sl.lens4 hva
  obtain ⟨_, hw2, hw3⟩ := Sl.lens4 hvb
  have key := new2_put2 hOk (.cells (ansC (.ofNat 0) .nils false 0 [] (.ofNat 0) (.ofNat 0) (.ofNat 0) (.ofNat 0)) 1) (.cells (ansC (.ofNat 0) .nils false 0 [] (.ofNat 0) (.ofNat 0) (.ofNat 0) (.ofNat 0)) 1) (.cells (ansC (.ofNat 1) va gets 0 [] (.ofNat 0) (.ofNat 0) (.ofNat 0) (.ofNat 0)) 1) (.cells (ansC (.ofNat 1) vb gets 0 [] (.ofNat 0) (.ofNat 0) (.ofNat 0) (.ofNat 0)) 1)
  unfold ansC at key
  obtain ⟨ga, gb, hO2, hle2⟩ := key
  repeat (first | ((first | apply Xk.sAny | apply Xk.tAny); (case hok => rfl); (case h => intro C hC; simp (disch := omega) only [w1, ↓reduceIte, Nat.reduceEqDiff, Nat.reduceLeDiff, Nat.reduceAdd, Nat.reduceSub, hv2, hv3, hw2, hw3]; with_reducible exact hC); refine gc ?_) | refine gm ?_)
  repeat (first | ((first | apply Xk.sAny | apply Xk.tAny); (case hok => rfl); (case h => intro C hC; simp (disch := omega) only [w1, ↓reduceIte, Nat.reduceEqDiff, Nat.reduceLeDiff, Nat.reduceAdd, Nat.reduceSub, hv2, hv3, hw2, hw3, ga, gb]; with_reducible exact hC); refine gc ?_) | refine gm ?_)
  refine light_ev (.ofNat 1) va la gets 0 [] (.ofNat 0) (.ofNat 0) (.ofNat 0) (.ofNat 0) _ (hva.mono hle2) (Nat.zero_le _) (fun f hf => (hfa f hf).2) hna _ fun H3 hO3 hle3 => ?_
  have ga3 := hle3 _ _ ga
  have gb3 := hle3 _ _ gb
  have hL3 := hle2.trans hle3
  clear ga gb hO2 hle2 hle3
  generalize H.next + 1 = nb at gb3 ⊢
  generalize H.next = na at ga3 ⊢
  simp only [List.length_nil, Nat.zero_add]
  by_cases ca : wt la ≤ 3000
  case neg =>
    rw [decide_eq_false ca]
    repeat (first | ((first | apply Xk.sAny | apply Xk.tAny); (case hok => rfl); (case h => intro C hC; simp (disch := omega) only [w1, ↓reduceIte, Nat.reduceEqDiff, Nat.reduceLeDiff, Nat.reduceAdd, Nat.reduceSub, ga3, gb3]; with_reducible exact hC); refine gc ?_) | refine gm ?_)
    refine ARuns_ev _ _ ?_
    repeat (first | ((first | apply Xk.sAny | apply Xk.tAny); (case hok => rfl); (case h => intro C hC; simp (disch := omega) only [w1, ↓reduceIte, Nat.reduceEqDiff, Nat.reduceLeDiff, Nat.reduceAdd, Nat.reduceSub]; with_reducible exact hC); refine gc ?_) | refine gm ?_)
    rfl
  rw [decide_eq_true ca]
  repeat (first | ((first | apply Xk.sAny | apply Xk.tAny); (case hok => rfl); (case h => intro C hC; simp (disch := omega) only [w1, ↓reduceIte, Nat.reduceEqDiff, Nat.reduceLeDiff, Nat.reduceAdd, Nat.reduceSub, ga3, gb3]; with_reducible exact hC); refine gc ?_) | refine gm ?_)
  refine light_ev (.ofNat 1) vb lb gets 0 [] (.ofNat 0) (.ofNat 0) (.ofNat 0) (.ofNat 0) _ (hvb.mono hL3) (Nat.zero_le _) (fun f hf => (hfb f hf).2) hnb _ fun H4 hO4 hle4 => ?_
  have ga4 := hle4 _ _ ga3
  have gb4 := hle4 _ _ gb3
  have hL4 := hL3.trans hle4
  clear ga3 gb3 hL3 hO3 hle4
  simp only [List.length_nil, Nat.zero_add]
  by_cases cb : wt lb ≤ 3000
  case neg =>
    rw [decide_eq_false cb]
    repeat (first | ((first | apply Xk.sAny | apply Xk.tAny); (case hok => rfl); (case h => intro C hC; simp (disch := omega) only [w1, ↓reduceIte, Nat.reduceEqDiff, Nat.reduceLeDiff, Nat.reduceAdd, Nat.reduceSub, ga4, gb4]; with_reducible exact hC); refine gc ?_) | refine gm ?_)
    refine ARuns_ev _ _ ?_
    repeat (first | ((first | apply Xk.sAny | apply Xk.tAny); (case hok => rfl); (case h => intro C hC; simp (disch := omega) only [w1, ↓reduceIte, Nat.reduceEqDiff, Nat.reduceLeDiff, Nat.reduceAdd, Nat.reduceSub]; with_reducible exact hC); refine gc ?_) | refine gm ?_)
    rfl
  rw [decide_eq_true cb]
  have la3 : la.length ≤ 3000 := Nat.le_trans (wt_len la) ca
  have lb3 : lb.length ≤ 3000 := Nat.le_trans (wt_len lb) cb
  repeat (first | ((first | apply Xk.sAny | apply Xk.tAny); (case hok => rfl); (case h => intro C hC; simp (disch := omega) only [w1, ↓reduceIte, Nat.reduceEqDiff, Nat.reduceLeDiff, Nat.reduceAdd, Nat.reduceSub, ga4, gb4]; with_reducible exact hC); refine gc ?_) | refine gm ?_)
  repeat (first | ((first | apply Xk.sAny | apply Xk.tAny); (case hok => rfl); (case h => intro C hC; simp (disch := omega) only [w1, ↓reduceIte, Nat.reduceEqDiff, Nat.reduceLeDiff, Nat.reduceAdd, Nat.reduceSub, ga4, gb4]; with_reducible exact hC); refine gc ?_) | refine gm ?_)
  have ea : (rows la).length / 4 = la.length := by rw [rows_len]; omega
  have eb : (rows lb).length / 4 = lb.length := by rw [rows_len]; omega
  have hn5 : HLe H4 (H4.new (.cells [] 1)) := HLe.new (hO4 _ (Nat.le_refl _)) _
  have own0 : Own H4 (H4.new (.cells [] 1)) 0 4 (.sl H4.next 0 0 4) [] := .inr ⟨H4.next, 0, rfl, rfl, Heap.get_new_self _ _, hO4 _ (Nat.le_refl _)⟩
  have srca := Sl.src ((hva.mono hL4).mono hn5) (rows_sc la) (by decide)
  rw [ea] at srca
  obtain ⟨v1, H5, e1, hO5, hle5, _, own1, _⟩ := Own.app (bytes := 48) (hO4.new _) hn5 own0 srca (rows_len la) (by decide) (by rw [List.length_nil]; omega) (by rw [List.length_nil]; omega)
  rw [List.nil_append] at own1
  have srcb := Sl.src ((hvb.mono hL4).mono hle5) (rows_sc lb) (by decide)
  rw [eb] at srcb
  obtain ⟨v2, H6, e2, hO6, hle6, _, own2, _⟩ := Own.app (bytes := 48) hO5 hle5 own1 srcb (rows_len lb) (by decide) (by omega) (by omega)
  rw [rows_app] at own2
  obtain ⟨oc, os⟩ := own2.sc
  have ga6 := hle6 _ _ ga4
  have gb6 := hle6 _ _ gb4
  clear ga4 gb4 hn5 own0 srca srcb own1 hle5 ea eb
  repeat (first | ((first | apply Xk.sAny | apply Xk.tAny); (case hok => rfl); (case h => intro C hC; simp (disch := omega) only [w1, ↓reduceIte, Nat.reduceEqDiff, Nat.reduceLeDiff, Nat.reduceAdd, Nat.reduceSub, ga6, gb6, e1, e2, oc, os]; with_reducible exact hC); refine gc ?_) | refine gm ?_)
  clear e1 e2
  have hx7 := HLe.new (hO6 _ (Nat.le_refl _)) (.cells (ansC (.ofNat 1) v2 gets 0 [] (.ofNat 0) (.ofNat 0) (.ofNat 0) (.ofNat 0)) 1)
  have hO7 := hO6.new (.cells (ansC (.ofNat 1) v2 gets 0 [] (.ofNat 0) (.ofNat 0) (.ofNat 0) (.ofNat 0)) 1)
  have gc7 := Heap.get_new_self H6 (.cells (ansC (.ofNat 1) v2 gets 0 [] (.ofNat 0) (.ofNat 0) (.ofNat 0) (.ofNat 0)) 1)
  have ga7 := hx7 _ _ ga6
  have gb7 := hx7 _ _ gb6
  have hL7 := (hL4.trans hle6).trans hx7
  have hv2 := own2.sl.mono hx7
  unfold ansC at ga7 gb7 gc7 hO7 hL7 hv2
  clear ga6 gb6 own2 hx7 hle6
  generalize H6.new (.cells [.int .i64 (.ofNat 1), v2, .bool gets, .int .u64 (.ofNat 0), .str [], .int .i64 (.ofNat 0), .int .i64 (.ofNat 0), .int .i64 (.ofNat 0), .int .i64 (.ofNat 0)] 1) = H7 at ga7 gb7 gc7 hO7 hL7 hv2 ⊢
  generalize H6.next = nc at gc7 ⊢
  repeat (first | ((first | apply Xk.sAny | apply Xk.tAny); (case hok => rfl); (case h => intro C hC; simp (disch := omega) only [w1, ↓reduceIte, Nat.reduceEqDiff, Nat.reduceLeDiff, Nat.reduceAdd, Nat.reduceSub, ga7, gb7, gc7]; with_reducible exact hC); refine gc ?_) | refine gm ?_)
  refine Text_ev (.ofNat 1) va la gets 0 [] (.ofNat 0) (.ofNat 0) (.ofNat 0) (.ofNat 0) H7 (hT.mono hL7) (hva.mono hL7) (by simp only [List.length_nil]; omega) (by decide) (fun f hf => (hfa f hf).1) (by decide) (by decide) (by decide) (by decide) _ fun H8 hO8 hle8 => ?_
  have ga8 := hle8 _ _ ga7
  have gb8 := hle8 _ _ gb7
  have gc8 := hle8 _ _ gc7
  have hL8 := hL7.trans hle8
  have hv8 := hv2.mono hle8
  clear ga7 gb7 gc7 hL7 hv2 hO7 hle8
  rw [textB_vals]
  have hag := fun (k : Kn) (H : Heap) (r : List It) => agV_same k H r (.agg [.int .i64 (.ofNat 1), vb, .bool gets, .int .u64 (.ofNat 0), .str [], .int .i64 (.ofNat 0), .int .i64 (.ofNat 0), .int .i64 (.ofNat 0), .int .i64 (.ofNat 0)]) (by
    have hs := Sl.same hvb
    simp only [sameV, sameCells, hs]
    simp [sameAV, kbeq_eq, ibeq_eq, beqB_eq])
  repeat (first | ((first | apply Xk.sAny | apply Xk.tAny); (case hok => rfl); (case h => intro C hC; simp (disch := omega) only [w1, ↓reduceIte, Nat.reduceEqDiff, Nat.reduceLeDiff, Nat.reduceAdd, Nat.reduceSub, ga8, gb8, gc8, hag]; with_reducible exact hC); refine gc ?_) | refine gm ?_)
  refine Text_ev (.ofNat 1) vb lb gets 0 [] (.ofNat 0) (.ofNat 0) (.ofNat 0) (.ofNat 0) H8 (hT.mono hL8) (hvb.mono hL8) (by simp only [List.length_nil]; omega) (by decide) (fun f hf => (hfb f hf).1) (by decide) (by decide) (by decide) (by decide) _ fun H9 hO9 hle9 => ?_
  have ga9 := hle9 _ _ ga8
  have gb9 := hle9 _ _ gb8
  have gc9 := hle9 _ _ gc8
  have hL9 := hL8.trans hle9
  have hv9 := hv8.mono hle9
  clear ga8 gb8 gc8 hL8 hv8 hO8 hle9
  rw [textB_vals]
  have lA := valsB_len gets la (fun f hf => (hfa f hf).1) (by omega)
  have q1 : 5 ≤ (valsB gets la ++ [69, 78, 68, 13, 10]).length := by rw [List.length_append]; exact Nat.le_add_left 5 _
  have q2 : (valsB gets la ++ [69, 78, 68, 13, 10]).length - 5 = (valsB gets la).length := by rw [List.length_append]; exact Nat.add_sub_cancel _ 5
  have q3 : (valsB gets la ++ [69, 78, 68, 13, 10]).take (valsB gets la).length = valsB gets la := List.take_left
  have q4 : (valsB gets la ++ [69, 78, 68, 13, 10]).drop (valsB gets la).length = [69, 78, 68, 13, 10] := List.drop_left
  have q5 : (valsB gets la ++ [69, 78, 68, 13, 10]).length - (valsB gets la).length = 5 := by rw [List.length_append]; exact Nat.add_sub_cancel_left _ 5
  have q6 : (valsB gets la).length ≤ (valsB gets la ++ [69, 78, 68, 13, 10]).length := by rw [List.length_append]; exact Nat.le_add_right _ 5
  generalize valsB gets la ++ [69, 78, 68, 13, 10] = s at q1 q2 q3 q4 q5 q6 ⊢
  have q7 : s.length - 5 < 9223372036854775808 := by omega
  have q8 : ((valsB gets la).length ≤ s.length) = True := eq_true q6
  have lB := valsB_len gets lb (fun f hf => (hfb f hf).1) (by omega)
  have hadd : bin .add (.str (valsB gets la)) (.str (valsB gets lb ++ [69, 78, 68, 13, 10])) = some (.str (valsB gets la ++ (valsB gets lb ++ [69, 78, 68, 13, 10]))) := adds _ _ (by rw [List.length_append]; show _ + (_ + 5) ≤ _; omega)
  repeat (first | ((first | apply Xk.sAny | apply Xk.tAny); (case hok => rfl); (case h => intro C hC; simp (disch := omega) only [w1, ↓reduceIte, Nat.reduceEqDiff, Nat.reduceLeDiff, Nat.reduceAdd, Nat.reduceSub, ga9, gb9, gc9, q1, q7, q2, q3, q4, q5, q8, hadd]; with_reducible exact hC); refine gc ?_) | refine gm ?_)
  refine Text_ev (.ofNat 1) v2 (la ++ lb) gets 0 [] (.ofNat 0) (.ofNat 0) (.ofNat 0) (.ofNat 0) H9 (hT.mono hL9) hv9 (by rw [wt_app]; simp only [List.length_nil]; omega) (by decide) (fun f hf => (List.mem_append.1 hf).elim (fun h => (hfa f h).1) (fun h => (hfb f h).1)) (by decide) (by decide) (by decide) (by decide) _ fun H10 hO10 hle10 => ?_
  rw [textB_vals, valsB_app, List.append_assoc]
  generalize valsB gets la ++ (valsB gets lb ++ [69, 78, 68, 13, 10]) = u
  repeat (first | ((first | apply Xk.sAny | apply Xk.tAny); (case hok => rfl); (case h => intro C hC; simp (disch := omega) only [w1, ↓reduceIte, Nat.reduceEqDiff, Nat.reduceLeDiff, Nat.reduceAdd, Nat.reduceSub, q1, q7, q2, q3, q4, q5, q8]; with_reducible exact hC); refine gc ?_) | refine gm ?_)
  repeat (first | ((first | apply Xk.sAny | apply Xk.tAny); (case hok => rfl); (case h => intro C hC; simp (disch := omega) only [w1, ↓reduceIte, Nat.reduceEqDiff, Nat.reduceLeDiff, Nat.reduceAdd, Nat.reduceSub, q1, q7, q2, q3, q4, q5, q8]; with_reducible exact hC); refine gc ?_) | refine gm ?_)
  refine ARuns_ev _ _ ?_
  repeat (first | ((first | apply Xk.sAny | apply Xk.tAny); (case hok => rfl); (case h => intro C hC; simp (disch := omega) only [w1, ↓reduceIte, Nat.reduceEqDiff, Nat.reduceLeDiff, Nat.reduceAdd, Nat.reduceSub]; with_reducible exact hC); refine gc ?_) | refine gm ?_)
  rfl
end Go.Proofs.YtkjmelfgopammaaDoor
