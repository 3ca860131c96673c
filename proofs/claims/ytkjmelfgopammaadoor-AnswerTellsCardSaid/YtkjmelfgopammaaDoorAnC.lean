/- Layer 14: strings.Join of few words by a blank. Conditions: none. -/
import Derived.Test.YtkjmelfgopammaaDoorAnB
namespace Go.Proofs.YtkjmelfgopammaaDoor
open Go.Dp
set_option linter.unusedSimpArgs false
set_option linter.unusedVariables false
set_option maxHeartbeats 2000000
set_option maxRecDepth 8000
attribute [local irreducible] Ex.thnK Ex.inK Ret

def tl (l : List (List UInt8)) : Nat := (l.map List.length).sum
def joinB (l : List (List UInt8)) : List UInt8 := l.getD 0 [] ++ (l.drop 1).flatMap (fun x => [32] ++ x)
theorem getD_drop (m : List (List UInt8)) {i : Nat} (h : i < m.length) : m.drop i = m.getD i [] :: m.drop (i + 1) := by
  rw [List.drop_eq_getElem_cons h, List.getD_eq_getElem?_getD, List.getElem?_eq_getElem h]
  rfl
theorem take_snoc (m : List (List UInt8)) {i : Nat} (h : i < m.length) : m.take (i + 1) = m.take i ++ [m.getD i []] := by
  rw [List.take_add_one, List.getD_eq_getElem?_getD, List.getElem?_eq_getElem h]
  rfl
theorem tl_snoc (m : List (List UInt8)) {i : Nat} (h : i < m.length) : tl (m.take (i + 1)) = tl (m.take i) + (m.getD i []).length := by
  rw [take_snoc m h]
  simp [tl]
theorem tl_le (m : List (List UInt8)) (i : Nat) : tl (m.take i) ≤ tl m := by
  have e : tl m = tl (m.take i ++ m.drop i) := by rw [List.take_append_drop]
  have e2 : tl (m.take i ++ m.drop i) = tl (m.take i) + tl (m.drop i) := by simp only [tl, List.map_append, List.sum_append]
  omega
theorem fm_len (m : List (List UInt8)) : (m.flatMap (fun x => [32] ++ x)).length = m.length + tl m := by
  induction m with
  | nil => rfl
  | cons a m ih =>
    rw [List.flatMap_cons, List.length_append, ih]
    simp [tl]
    omega
theorem cell_at (l : List (List UInt8)) {i : Nat} (h : i < l.length) : ((l.map AV.str).drop i).take 1 = [.str (l.getD i [])] := by
  rw [← List.map_drop, getD_drop l h]
  rfl

theorem el_le (l : List (List UInt8)) {i : Nat} (h : i < l.length) : (l.getD i []).length ≤ tl l := by
  have h1 := tl_snoc l h
  have h2 := tl_le l (i + 1)
  omega
theorem tl_drop (l : List (List UInt8)) (i : Nat) : tl (l.drop i) ≤ tl l := by
  have e2 : tl (l.take i ++ l.drop i) = tl (l.take i) + tl (l.drop i) := by simp only [tl, List.map_append, List.sum_append]
  rw [List.take_append_drop] at e2
  omega
/-- what was put together behind i more words -/
def jn (l : List (List UInt8)) (i : Nat) : List UInt8 := l.getD 0 [] ++ ((l.drop 1).take i).flatMap (fun x => [32] ++ x)
theorem jn_step (l : List (List UInt8)) {i : Nat} (h : 1 + i < l.length) : jn l (i + 1) = jn l i ++ [32] ++ l.getD (1 + i) [] := by
  unfold jn
  rw [take_snoc _ (by rw [List.length_drop]; omega), List.flatMap_append, List.append_assoc, List.append_assoc]
  congr 2
  have : (l.drop 1).getD i [] = l.getD (1 + i) [] := by rw [List.getD_eq_getElem?_getD, List.getD_eq_getElem?_getD, List.getElem?_drop]
  rw [this]
  simp
theorem jn_len (l : List (List UInt8)) (i : Nat) (h : 0 < l.length) : (jn l i).length ≤ l.length + 2 * tl l := by
  unfold jn
  have h1 := el_le l h
  have h2 := tl_drop l 1
  have h3 := tl_le (l.drop 1) i
  rw [List.length_append, fm_len, List.length_take, List.length_drop]
  omega

theorem Join_ev (b w : Nat) (l : List (List UInt8)) (H : Heap) (hb : H.get b = some (.cells (l.map AV.str) w)) (h2 : 2 ≤ l.length) (h100 : l.length ≤ 100) (ht : tl l ≤ 4294967296) (Q : AV → Heap → Prop)
    (hQ : ∀ H', H'.Ok → HLe H H' → Q (.str (joinB l)) H') : Eo lib n_strings_Join [.sl b 0 l.length 1, .str [32]] H Q := by
  refine Eo.ok fun hOk => ?_
  refine Eo.code at_strings_Join rfl ?_
  have z0 : ¬ l.length = 0 := by omega
  have z1 : ¬ l.length = 1 := by omega
  have z2 : 1 ≤ l.length := by omega
  have z3 : ¬ l.length - 1 = 0 := by omega
  have hq : ¬ 9223372036854775807 / (l.length - 1) ≤ 1 := by
    have : 2 ≤ 9223372036854775807 / (l.length - 1) := (Nat.le_div_iff_mul_le (by omega)).2 (by omega)
    omega
  have q01 : (0 < 1) = True := eq_true (by decide)
  have q00 : (0 : Nat) + 1 = 1 := rfl
  have qd : bin .quo (.int .i64 (.ofNat 9223372036854775807)) (.int .i64 (.ofNat (l.length - 1))) = some (.int .i64 (.ofNat (9223372036854775807 / (l.length - 1)))) := by
    exact quon_i64 _ _ (by omega) (by have := Nat.div_le_self 9223372036854775807 (l.length - 1); omega)
  repeat (first | ((first | apply Xk.sAny | apply Xk.tAny); (case hok => rfl); (case h => intro C hC; simp (disch := omega) only [w1, ↓reduceIte, Nat.reduceEqDiff, Nat.reduceLeDiff, Nat.reduceAdd, Nat.reduceSub, z0, z1, z2, z3, hq, q01, q00, qd]; with_reducible exact hC); refine gc ?_) | refine gm ?_)
  have e10 : l.length - 1 + tl (l.take 0) = 1 * (l.length - 1) := by rw [List.take_zero, Nat.one_mul]; rfl
  refine Xk.iter [0, 1, 5, 39, 40, 41] (fun m k H' => ∃ i, m = l.length - i ∧ i ≤ l.length ∧ k = [(0, .sl b 0 l.length 1), (1, .str [32]), (5, .int .i64 (.ofNat (l.length - 1 + tl (l.take i)))), (39, .sl b 0 l.length 1), (40, .int .i64 (.ofNat l.length)), (41, .int .i64 (.ofNat i))] ∧ H' = H) rfl
    ⟨_, 0, rfl, Nat.zero_le _, by rw [e10]; rfl, rfl⟩ ?_
  rintro m k H' ⟨i, rfl, hi, rfl, rfl⟩
  unfold l0_strings_Join
  by_cases c : i < l.length
  · have c1 := cell_at l c
    have c2 : 0 + i + 1 ≤ (l.map AV.str).length := by rw [List.length_map]; omega
    have c3 := tl_snoc l c
    have c4 := tl_le l (i + 1)
    have c5 : ¬ 9223372036854775807 - (l.length - 1 + tl (l.take i)) < (l.getD i []).length := by omega
    have c6 : l.length - 1 + tl (l.take i) ≤ 9223372036854775807 := by omega
    have c7 : i + 1 ≤ l.length := c
    repeat (first | ((first | apply Xk.sAny | apply Xk.tAny); (case hok => rfl); (case h => intro C hC; simp (disch := omega) only [w1, ↓reduceIte, Nat.reduceEqDiff, Nat.reduceLeDiff, Nat.reduceAdd, Nat.reduceSub, c, c1, c2, c5, c6, c7, hb, List.length_map, Nat.zero_add]; with_reducible exact hC); refine gc ?_) | refine gm ?_)
    exact ⟨rfl, _, by omega, i + 1, rfl, by omega, by rw [c3, ← Nat.add_assoc]; rfl, rfl⟩
  repeat (first | ((first | apply Xk.sAny | apply Xk.tAny); (case hok => rfl); (case h => intro C hC; simp (disch := omega) only [w1, ↓reduceIte, Nat.reduceEqDiff, Nat.reduceLeDiff, Nat.reduceAdd, Nat.reduceSub, c]; with_reducible exact hC); refine gc ?_) | refine gm ?_)
  obtain rfl : i = l.length := by omega
  rw [List.take_length]
  have d0 := cell_at l (i := 0) (by omega)
  have d1 : 0 + 1 ≤ (l.map AV.str).length := by rw [List.length_map]; omega
  have d2 : (l.getD 0 []).length ≤ tl l := by
    have h1 := tl_snoc l (i := 0) (by omega)
    have h2 := tl_le l (0 + 1)
    omega
  refine Grow_ev H'.next _ H' _ (HLe.new (hOk _ (Nat.le_refl _)) _) (Heap.get_new_self _ _) (hOk _ (Nat.le_refl _)) (by omega) _ fun v H1 hO1 hle1 hn1 hB => ?_
  have hb1 := hle1 _ _ hb
  have d0' : (l.map AV.str).take 1 = [.str (l.getD 0 [])] := d0
  repeat (first | ((first | apply Xk.sAny | apply Xk.tAny); (case hok => rfl); (case h => intro C hC; simp (disch := omega) only [w1, ↓reduceIte, Nat.reduceEqDiff, Nat.reduceLeDiff, Nat.reduceAdd, Nat.reduceSub]; with_reducible exact hC); refine gc ?_) | refine gm ?_)
  have z5 : 0 < l.length := by omega
  repeat (first | ((first | apply Xk.sAny | apply Xk.tAny); (case hok => rfl); (case h => intro C hC; simp (disch := omega) only [w1, ↓reduceIte, Nat.reduceEqDiff, Nat.reduceLeDiff, Nat.reduceAdd, Nat.reduceSub, hb1, d0, d0', z2, z5, List.length_map, Nat.zero_add]; with_reducible exact hC); refine gc ?_) | refine gm ?_)
  refine WriteString_ev H'.next [] _ H' H1 hle1 hB (by rw [List.length_nil]; omega) _ fun v H2 hO2 hle2 hn2 hB2 => ?_
  rw [List.nil_append] at hB2
  have hb2 := hle2 _ _ hb
  repeat (first | ((first | apply Xk.sAny | apply Xk.tAny); (case hok => rfl); (case h => intro C hC; simp (disch := omega) only [w1, ↓reduceIte, Nat.reduceEqDiff, Nat.reduceLeDiff, Nat.reduceAdd, Nat.reduceSub, hb2, z2, List.length_map, Nat.zero_add]; with_reducible exact hC); refine gc ?_) | refine gm ?_)
  refine Xk.iter [1, 8, 63, 64, 65] (fun m k G => ∃ i, m = l.length - 1 - i ∧ i ≤ l.length - 1 ∧ k = [(1, .str [32]), (8, .ptr H'.next 0), (63, .sl b 1 (l.length - 1) 1), (64, .int .i64 (.ofNat (l.length - 1))), (65, .int .i64 (.ofNat i))] ∧ G.Ok ∧ HLe H' G ∧ Bld H' G H'.next (jn l i)) rfl
    ⟨_, 0, rfl, Nat.zero_le _, rfl, hO2, hle2, by unfold jn; rw [List.take_zero, List.flatMap_nil, List.append_nil]; exact hB2⟩ ?_
  rintro m k G ⟨i, rfl, hi, rfl, hO3, hle3, hB3⟩
  unfold l1_strings_Join
  have hb3 := hle3 _ _ hb
  have hjl := jn_len l i (by omega)
  by_cases c : i < l.length - 1
  · have e1 := cell_at l (i := 1 + i) (by omega)
    have e2 : 1 + i + 1 ≤ l.length := by omega
    have e3 := el_le l (i := 1 + i) (by omega)
    repeat (first | ((first | apply Xk.sAny | apply Xk.tAny); (case hok => rfl); (case h => intro C hC; simp (disch := omega) only [w1, ↓reduceIte, Nat.reduceEqDiff, Nat.reduceLeDiff, Nat.reduceAdd, Nat.reduceSub, c, e1, e2, hb3, List.length_map]; with_reducible exact hC); refine gc ?_) | refine gm ?_)
    refine WriteString_ev H'.next _ _ H' G hle3 hB3 (by show _ + 1 ≤ _; omega) _ fun v H4 hO4 hle4 hn4 hB4 => ?_
    repeat (first | ((first | apply Xk.sAny | apply Xk.tAny); (case hok => rfl); (case h => intro C hC; simp (disch := omega) only [w1, ↓reduceIte, Nat.reduceEqDiff, Nat.reduceLeDiff, Nat.reduceAdd, Nat.reduceSub]; with_reducible exact hC); refine gc ?_) | refine gm ?_)
    refine WriteString_ev H'.next _ _ H' H4 hle4 hB4 (by rw [List.length_append]; show _ + 1 + _ ≤ _; omega) _ fun v H5 hO5 hle5 hn5 hB5 => ?_
    repeat (first | ((first | apply Xk.sAny | apply Xk.tAny); (case hok => rfl); (case h => intro C hC; simp (disch := omega) only [w1, ↓reduceIte, Nat.reduceEqDiff, Nat.reduceLeDiff, Nat.reduceAdd, Nat.reduceSub]; with_reducible exact hC); refine gc ?_) | refine gm ?_)
    refine ⟨rfl, _, ?_, i + 1, rfl, by omega, rfl, hO5, hle5, ?_⟩
    · omega
    · rw [jn_step l (by omega)]
      exact hB5
  repeat (first | ((first | apply Xk.sAny | apply Xk.tAny); (case hok => rfl); (case h => intro C hC; simp (disch := omega) only [w1, ↓reduceIte, Nat.reduceEqDiff, Nat.reduceLeDiff, Nat.reduceAdd, Nat.reduceSub, c]; with_reducible exact hC); refine gc ?_) | refine gm ?_)
  refine String_ev H'.next _ H' G hle3 hB3 (by omega) _ fun H6 hO6 hle6 hn6 => ?_
  obtain rfl : i = l.length - 1 := by omega
  have ej : jn l (l.length - 1) = joinB l := by
    unfold jn joinB
    rw [List.take_of_length_le (by rw [List.length_drop]; exact Nat.le_refl _)]
  rw [ej]
  repeat (first | ((first | apply Xk.sAny | apply Xk.tAny); (case hok => rfl); (case h => intro C hC; simp (disch := omega) only [w1, ↓reduceIte, Nat.reduceEqDiff, Nat.reduceLeDiff, Nat.reduceAdd, Nat.reduceSub]; with_reducible exact hC); refine gc ?_) | refine gm ?_)
  exact hQ _ hO6 hle6
end Go.Proofs.YtkjmelfgopammaaDoor
