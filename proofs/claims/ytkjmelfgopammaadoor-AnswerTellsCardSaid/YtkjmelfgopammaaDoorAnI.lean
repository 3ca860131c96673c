/- Layer 14: an answer's text. Conditions: none. -/
import Derived.Test.YtkjmelfgopammaaDoorAnH
namespace Go.Proofs.YtkjmelfgopammaaDoor
open Go.Dp
set_option linter.unusedSimpArgs false
set_option linter.unusedVariables false
set_option maxHeartbeats 2000000
set_option maxRecDepth 8000
attribute [local irreducible] Ex.thnK Ex.inK Ret

def cliE : List UInt8 := [67, 76, 73, 69, 78, 84, 95, 69, 82, 82, 79, 82, 32]
def srvE : List UInt8 := [83, 69, 82, 86, 69, 82, 95, 69, 82, 82, 79, 82, 32]
/-- what is told of an answer -/
def textB (k : Int) (gets : Bool) (l : List Fd) (num : Nat) (text : List UInt8) (st : List Int) : List UInt8 :=
  if k = .ofNat 1 then valsB gets l ++ [69, 78, 68] ++ [13, 10] else
  if k = .ofNat 8 then dec num ++ [13, 10] else
  if k = .ofNat 11 then stB st 4 ++ [69, 78, 68] ++ [13, 10] else
  if k = .ofNat 13 then cliE ++ text ++ [13, 10] else
  if k = .ofNat 14 then srvE ++ text ++ [13, 10] else
  if plainB k = [] then [] else plainB k ++ [13, 10]
theorem wt_len : ∀ l : List Fd, l.length ≤ wt l
  | [] => Nat.le_refl _
  | f :: l => by
    have := wt_len l
    have e : wt (f :: l) = f.key.length + f.val.length + 1 + wt l := rfl
    rw [e, List.length_cons]
    omega
theorem plainB_len (k : Int) : (plainB k).length ≤ 20 := by
  unfold plainB
  repeat' split
  all_goals decide

theorem Text_ev (k : Int) (v : AV) (l : List Fd) (gets : Bool) (num : Nat) (text : List UInt8) (s0 s1 s2 s3 : Int) (H : Heap) (hT : Tab H) (hv : Sl H 4 v (rows l)) (hw : text.length + wt l ≤ 8000) (hnum : num < 18446744073709551616)
    (hf : ∀ f ∈ l, f.flags < 9223372036854775808 ∧ f.cas < 9223372036854775808) (h0 : s0 < 9223372036854775808) (h1 : s1 < 9223372036854775808) (h2 : s2 < 9223372036854775808) (h3 : s3 < 9223372036854775808) (Q : AV → Heap → Prop)
    (hQ : ∀ H', H'.Ok → HLe H H' → Q (.str (textB k gets l num text [s0, s1, s2, s3])) H') : Eo lib n_answer_Text [.agg (ansC k v gets num text s0 s1 s2 s3)] H Q := by
  refine Eo.ok fun hOk => ?_
  refine Eo.code at_answer_Text rfl ?_
  obtain ⟨hv1, hv2, hv3⟩ := Sl.lens4 hv
  have hnew := HLe.new (hOk _ (Nat.le_refl _)) (.cells (ansC k v gets num text s0 s1 s2 s3) 1)
  have hO1 := hOk.new (.cells (ansC k v gets num text s0 s1 s2 s3) 1)
  have hgb : (H.new (.cells (ansC k v gets num text s0 s1 s2 s3) 1)).get H.next = some (.cells (ansC k v gets num text s0 s1 s2 s3) 1) := Heap.get_new_self _ _
  have hbx := box_ans (kind := k) (gets := gets) (num := num) (text := text) (s0 := s0) (s1 := s1) (s2 := s2) (s3 := s3) hv2
  unfold ansC at hgb hnew hO1 ⊢
  have hwl := wt_len l
  by_cases c1 : k = .ofNat 1
  · subst c1
    have et : textB (.ofNat 1) gets l num text [s0, s1, s2, s3] = valsB gets l ++ [69, 78, 68] ++ [13, 10] := rfl
    rw [et] at hQ
    repeat (first | ((first | apply Xk.sAny | apply Xk.tAny); (case hok => rfl); (case h => intro C hC; simp (disch := omega) only [w1, ↓reduceIte, Nat.reduceEqDiff, Nat.reduceLeDiff, Nat.reduceAdd, Nat.reduceSub, hbx, hgb, Nat.reduceEqDiff]; with_reducible exact hC); refine gc ?_) | refine gm ?_)
    refine values_ev v l gets _ (hT.mono hnew) (hv.mono hnew) (by omega) (by omega) hf _ fun H' hO' hle' => ?_
    repeat (first | ((first | apply Xk.sAny | apply Xk.tAny); (case hok => rfl); (case h => intro C hC; simp (disch := omega) only [w1, ↓reduceIte, Nat.reduceEqDiff, Nat.reduceLeDiff, Nat.reduceAdd, Nat.reduceSub]; with_reducible exact hC); refine gc ?_) | refine gm ?_)
    exact hQ _ hO' (hnew.trans hle')
  by_cases c8 : k = .ofNat 8
  · subst c8
    have et : textB (.ofNat 8) gets l num text [s0, s1, s2, s3] = dec num ++ [13, 10] := rfl
    rw [et] at hQ
    have n1 : (dec num).length + ([13, 10] : List UInt8).length ≤ 4611686018427387904 := by
      have := dec_len20 hnum
      simp; omega
    repeat (first | ((first | apply Xk.sAny | apply Xk.tAny); (case hok => rfl); (case h => intro C hC; simp (disch := omega) only [w1, ↓reduceIte, Nat.reduceEqDiff, Nat.reduceLeDiff, Nat.reduceAdd, Nat.reduceSub, hbx, hgb, Nat.reduceEqDiff]; with_reducible exact hC); refine gc ?_) | refine gm ?_)
    repeat (first | ((first | apply Xk.sAny | apply Xk.tAny); (case hok => rfl); (case h => intro C hC; simp (disch := omega) only [w1, ↓reduceIte, Nat.reduceEqDiff, Nat.reduceLeDiff, Nat.reduceAdd, Nat.reduceSub, hbx, hgb, Nat.reduceEqDiff]; with_reducible exact hC); refine gc ?_) | refine gm ?_)
    refine FormatUint_ev num hnum _ (hT.mono hnew) _ fun H' hO' hle' => ?_
    repeat (first | ((first | apply Xk.sAny | apply Xk.tAny); (case hok => rfl); (case h => intro C hC; simp (disch := omega) only [w1, ↓reduceIte, Nat.reduceEqDiff, Nat.reduceLeDiff, Nat.reduceAdd, Nat.reduceSub, n1]; with_reducible exact hC); refine gc ?_) | refine gm ?_)
    exact hQ _ hO' (hnew.trans hle')
  by_cases c11 : k = .ofNat 11
  · subst c11
    have et : textB (.ofNat 11) gets l num text [s0, s1, s2, s3] = stB [s0, s1, s2, s3] 4 ++ [69, 78, 68] ++ [13, 10] := rfl
    rw [et] at hQ
    repeat (first | ((first | apply Xk.sAny | apply Xk.tAny); (case hok => rfl); (case h => intro C hC; simp (disch := omega) only [w1, ↓reduceIte, Nat.reduceEqDiff, Nat.reduceLeDiff, Nat.reduceAdd, Nat.reduceSub, hbx, hgb, Nat.reduceEqDiff]; with_reducible exact hC); refine gc ?_) | refine gm ?_)
    repeat (first | ((first | apply Xk.sAny | apply Xk.tAny); (case hok => rfl); (case h => intro C hC; simp (disch := omega) only [w1, ↓reduceIte, Nat.reduceEqDiff, Nat.reduceLeDiff, Nat.reduceAdd, Nat.reduceSub, hbx, hgb, Nat.reduceEqDiff]; with_reducible exact hC); refine gc ?_) | refine gm ?_)
    refine stats_ev s0 s1 s2 s3 h0 h1 h2 h3 _ (hT.mono hnew) _ fun H' hO' hle' => ?_
    repeat (first | ((first | apply Xk.sAny | apply Xk.tAny); (case hok => rfl); (case h => intro C hC; simp (disch := omega) only [w1, ↓reduceIte, Nat.reduceEqDiff, Nat.reduceLeDiff, Nat.reduceAdd, Nat.reduceSub]; with_reducible exact hC); refine gc ?_) | refine gm ?_)
    exact hQ _ hO' (hnew.trans hle')
  by_cases c13 : k = .ofNat 13
  · subst c13
    have et : textB (.ofNat 13) gets l num text [s0, s1, s2, s3] = cliE ++ text ++ [13, 10] := rfl
    rw [et] at hQ
    have n1 : ([67, 76, 73, 69, 78, 84, 95, 69, 82, 82, 79, 82, 32] : List UInt8).length + text.length ≤ 4611686018427387904 := by simp; omega
    have n2 : (67 :: 76 :: 73 :: 69 :: 78 :: 84 :: 95 :: 69 :: 82 :: 82 :: 79 :: 82 :: 32 :: text).length + ([13, 10] : List UInt8).length ≤ 4611686018427387904 := by simp; omega
    repeat (first | ((first | apply Xk.sAny | apply Xk.tAny); (case hok => rfl); (case h => intro C hC; simp (disch := omega) only [w1, ↓reduceIte, Nat.reduceEqDiff, Nat.reduceLeDiff, Nat.reduceAdd, Nat.reduceSub, hbx, hgb, n1, n2, Nat.reduceEqDiff]; with_reducible exact hC); refine gc ?_) | refine gm ?_)
    exact hQ _ hO1 hnew
  by_cases c14 : k = .ofNat 14
  · subst c14
    have et : textB (.ofNat 14) gets l num text [s0, s1, s2, s3] = srvE ++ text ++ [13, 10] := rfl
    rw [et] at hQ
    have n1 : ([83, 69, 82, 86, 69, 82, 95, 69, 82, 82, 79, 82, 32] : List UInt8).length + text.length ≤ 4611686018427387904 := by simp; omega
    have n2 : (83 :: 69 :: 82 :: 86 :: 69 :: 82 :: 95 :: 69 :: 82 :: 82 :: 79 :: 82 :: 32 :: text).length + ([13, 10] : List UInt8).length ≤ 4611686018427387904 := by simp; omega
    repeat (first | ((first | apply Xk.sAny | apply Xk.tAny); (case hok => rfl); (case h => intro C hC; simp (disch := omega) only [w1, ↓reduceIte, Nat.reduceEqDiff, Nat.reduceLeDiff, Nat.reduceAdd, Nat.reduceSub, hbx, hgb, n1, n2, Nat.reduceEqDiff]; with_reducible exact hC); refine gc ?_) | refine gm ?_)
    exact hQ _ hO1 hnew
  have et : textB k gets l num text [s0, s1, s2, s3] = if plainB k = [] then [] else plainB k ++ [13, 10] := by
    unfold textB
    simp only [c1, c8, c11, c13, c14, if_false]
  rw [et] at hQ
  have hpl := plainB_len k
  have n1 : (plainB k).length + ([13, 10] : List UInt8).length ≤ 4611686018427387904 := by simp; omega
  repeat (first | ((first | apply Xk.sAny | apply Xk.tAny); (case hok => rfl); (case h => intro C hC; simp (disch := omega) only [w1, ↓reduceIte, Nat.reduceEqDiff, Nat.reduceLeDiff, Nat.reduceAdd, Nat.reduceSub, hbx, hgb, c1, c8, c11, c13, c14]; with_reducible exact hC); refine gc ?_) | refine gm ?_)
  refine plain_ev k _ _ ?_
  by_cases hp : plainB k = []
  · rw [if_pos hp] at hQ
    repeat (first | ((first | apply Xk.sAny | apply Xk.tAny); (case hok => rfl); (case h => intro C hC; simp (disch := omega) only [w1, ↓reduceIte, Nat.reduceEqDiff, Nat.reduceLeDiff, Nat.reduceAdd, Nat.reduceSub, hp]; with_reducible exact hC); refine gc ?_) | refine gm ?_)
    exact hQ _ hO1 hnew
  · rw [if_neg hp] at hQ
    repeat (first | ((first | apply Xk.sAny | apply Xk.tAny); (case hok => rfl); (case h => intro C hC; simp (disch := omega) only [w1, ↓reduceIte, Nat.reduceEqDiff, Nat.reduceLeDiff, Nat.reduceAdd, Nat.reduceSub, hp, n1]; with_reducible exact hC); refine gc ?_) | refine gm ?_)
    exact hQ _ hO1 hnew
end Go.Proofs.YtkjmelfgopammaaDoor
