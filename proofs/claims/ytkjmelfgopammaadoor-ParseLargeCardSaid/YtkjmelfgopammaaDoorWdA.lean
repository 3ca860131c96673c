/- Layer 12's functions of the program: what a call of each comes to. Conditions: none. -/
import Derived.Test.YtkjmelfgopammaaDoorWdV
namespace Go.Proofs.YtkjmelfgopammaaDoor
open Go.Dp Go.Wd
set_option linter.unusedSimpArgs false
set_option linter.unusedVariables false
set_option maxHeartbeats 400000
attribute [local irreducible] Ex.thnK Ex.inK Ret

theorem Key_ev (s : List UInt8) (H : Heap) (Q : AV → Heap → Prop) (hQ : Q (.bool (keyOk s)) H) : Eo lib n_words_Key [.str s] H Q := by
  refine Eo.code at_words_Key rfl ?_
  repeat (first | ((first | apply Xk.sAny | apply Xk.tAny); (case hok => rfl); (case h => intro C hC; simp (disch := omega) only [w0, ↓reduceIte, Nat.reduceEqDiff, Nat.reduceLeDiff, Nat.reduceAdd, Nat.reduceSub]; with_reducible exact hC); refine gm ?_) | refine gm ?_)
  by_cases h1 : s.length < 1
  · repeat (first | ((first | apply Xk.sAny | apply Xk.tAny); (case hok => rfl); (case h => intro C hC; simp (disch := omega) only [w0, ↓reduceIte, Nat.reduceEqDiff, Nat.reduceLeDiff, Nat.reduceAdd, Nat.reduceSub, h1]; with_reducible exact hC); refine gm ?_) | refine gm ?_)
    have : keyOk s = false := by simp [keyOk]; omega
    rw [this] at hQ; exact hQ
  by_cases h2 : 250 < s.length
  · repeat (first | ((first | apply Xk.sAny | apply Xk.tAny); (case hok => rfl); (case h => intro C hC; simp (disch := omega) only [w0, ↓reduceIte, Nat.reduceEqDiff, Nat.reduceLeDiff, Nat.reduceAdd, Nat.reduceSub, h1, h2]; with_reducible exact hC); refine gm ?_) | refine gm ?_)
    have : keyOk s = false := by simp [keyOk]; omega
    rw [this] at hQ; exact hQ
  repeat (first | ((first | apply Xk.sAny | apply Xk.tAny); (case hok => rfl); (case h => intro C hC; simp (disch := omega) only [w0, ↓reduceIte, Nat.reduceEqDiff, Nat.reduceLeDiff, Nat.reduceAdd, Nat.reduceSub, h1, h2]; with_reducible exact hC); refine gm ?_) | refine gm ?_)
  refine Xk.iter [0, 13, 14] (fun m k H' => ∃ i, m = s.length - i ∧ i ≤ s.length ∧ keyOk s = (s.drop i).all keyCh ∧ k = [(0, .str s), (13, .int .i64 (.ofNat s.length)), (14, .int .i64 (.ofNat i))] ∧ H' = H) rfl ⟨_, 0, rfl, by omega, by unfold keyOk; rw [decide_eq_true (by omega), decide_eq_true (by omega)]; rfl, rfl, rfl⟩ ?_
  rintro m k H' ⟨i, hm, hi, hk, rfl, rfl⟩
  by_cases h : i < s.length
  · rw [all_drop h] at hk
    by_cases h3 : (s.getD i 0).toNat ≤ 32
    · repeat (first | ((first | apply Xk.sAny | apply Xk.tAny); (case hok => rfl); (case h => intro C hC; simp (disch := omega) only [w0, ↓reduceIte, Nat.reduceEqDiff, Nat.reduceLeDiff, Nat.reduceAdd, Nat.reduceSub, h, h3]; with_reducible exact hC); refine gm ?_) | refine gm ?_)
      have : keyOk s = false := by rw [hk]; unfold keyCh; rw [decide_eq_false (by omega)]; rfl
      rw [this] at hQ; exact hQ
    · by_cases h4 : (s.getD i 0).toNat = 127
      · repeat (first | ((first | apply Xk.sAny | apply Xk.tAny); (case hok => rfl); (case h => intro C hC; simp (disch := omega) only [w0, ↓reduceIte, Nat.reduceEqDiff, Nat.reduceLeDiff, Nat.reduceAdd, Nat.reduceSub, h, h3, h4]; with_reducible exact hC); refine gm ?_) | refine gm ?_)
        have : keyOk s = false := by rw [hk]; unfold keyCh; rw [decide_eq_false (p := _ ≠ 127) (fun e => e h4), Bool.and_false]; rfl
        rw [this] at hQ; exact hQ
      · repeat (first | ((first | apply Xk.sAny | apply Xk.tAny); (case hok => rfl); (case h => intro C hC; simp (disch := omega) only [w0, ↓reduceIte, Nat.reduceEqDiff, Nat.reduceLeDiff, Nat.reduceAdd, Nat.reduceSub, h, h3, h4]; with_reducible exact hC); refine gm ?_) | refine gm ?_)
        refine ⟨rfl, _, ?_, i + 1, rfl, by omega, ?_, rfl, rfl⟩
        · omega
        · rw [hk]; unfold keyCh; rw [decide_eq_true (by omega), decide_eq_true h4]; rfl
  · repeat (first | ((first | apply Xk.sAny | apply Xk.tAny); (case hok => rfl); (case h => intro C hC; simp (disch := omega) only [w0, ↓reduceIte, Nat.reduceEqDiff, Nat.reduceLeDiff, Nat.reduceAdd, Nat.reduceSub, h]; with_reducible exact hC); refine gm ?_) | refine gm ?_)
    rw [hk, List.drop_eq_nil_of_le (by omega)] at hQ
    exact hQ

theorem Storing_ev (v : Nat) (H : Heap) (Q : AV → Heap → Prop) (hQ : Q (.bool (decide (3 ≤ v ∧ v ≤ 8))) H) : Eo lib n_words_Storing [.int .i64 (.ofNat v)] H Q := by
  refine Eo.code at_words_Storing rfl ?_
  by_cases h : 3 ≤ v
  · repeat (first | ((first | apply Xk.sAny | apply Xk.tAny); (case hok => rfl); (case h => intro C hC; simp (disch := omega) only [w0, ↓reduceIte, Nat.reduceEqDiff, Nat.reduceLeDiff, Nat.reduceAdd, Nat.reduceSub, h]; with_reducible exact hC); refine gm ?_) | refine gm ?_)
    have : decide (3 ≤ v ∧ v ≤ 8) = decide (v ≤ 8) := by simp [h]
    rw [this] at hQ; exact hQ
  · repeat (first | ((first | apply Xk.sAny | apply Xk.tAny); (case hok => rfl); (case h => intro C hC; simp (disch := omega) only [w0, ↓reduceIte, Nat.reduceEqDiff, Nat.reduceLeDiff, Nat.reduceAdd, Nat.reduceSub, h]; with_reducible exact hC); refine gm ?_) | refine gm ?_)
    have : decide (3 ≤ v ∧ v ≤ 8) = false := by simp [h]
    rw [this] at hQ; exact hQ

theorem HasPrefix_ev (s p : List UInt8) (H : Heap) (Q : AV → Heap → Prop) (hQ : Q (.bool (decide (s.take p.length = p))) H) : Eo lib n_internal_stringslite_HasPrefix [.str s, .str p] H Q := by
  refine Eo.code at_internal_stringslite_HasPrefix rfl ?_
  by_cases h : p.length ≤ s.length
  · repeat (first | ((first | apply Xk.sAny | apply Xk.tAny); (case hok => rfl); (case h => intro C hC; simp (disch := omega) only [w0, ↓reduceIte, Nat.reduceEqDiff, Nat.reduceLeDiff, Nat.reduceAdd, Nat.reduceSub, h, rSlstr, bnds, bnd, natOf, nble, Nat.sub_zero, List.drop_zero, Nat.zero_le]; with_reducible exact hC); refine gm ?_) | refine gm ?_)
    exact hQ
  · repeat (first | ((first | apply Xk.sAny | apply Xk.tAny); (case hok => rfl); (case h => intro C hC; simp (disch := omega) only [w0, ↓reduceIte, Nat.reduceEqDiff, Nat.reduceLeDiff, Nat.reduceAdd, Nat.reduceSub, h]; with_reducible exact hC); refine gm ?_) | refine gm ?_)
    have : decide (s.take p.length = p) = false := decide_eq_false fun e => h (by rw [← e, List.length_take]; omega)
    rw [this] at hQ; exact hQ

theorem CutPrefix_ev (s p : List UInt8) (H : Heap) (Q : AV → Heap → Prop) (hQ : Q (if s.take p.length = p then .tup [.str (s.drop p.length), .bool true] else .tup [.str s, .bool false]) H) : Eo lib n_internal_stringslite_CutPrefix [.str s, .str p] H Q := by
  refine Eo.code at_internal_stringslite_CutPrefix rfl ?_
  repeat (first | ((first | apply Xk.sAny | apply Xk.tAny); (case hok => rfl); (case h => intro C hC; simp (disch := omega) only [w0, ↓reduceIte, Nat.reduceEqDiff, Nat.reduceLeDiff, Nat.reduceAdd, Nat.reduceSub]; with_reducible exact hC); refine gc ?_) | refine gm ?_)
  refine HasPrefix_ev _ _ _ _ ?_
  by_cases h : s.take p.length = p
  · have hl : p.length ≤ s.length := by rw [← h, List.length_take]; omega
    repeat (first | ((first | apply Xk.sAny | apply Xk.tAny); (case hok => rfl); (case h => intro C hC; simp (disch := omega) only [w0, ↓reduceIte, Nat.reduceEqDiff, Nat.reduceLeDiff, Nat.reduceAdd, Nat.reduceSub, h, hl, rSlstr, bnds, bnd, natOf, nble, Nat.le_refl]; with_reducible exact hC); refine gm ?_) | refine gm ?_)
    rw [if_pos h] at hQ
    have : (s.drop p.length).take (s.length - p.length) = s.drop p.length := List.take_of_length_le (Nat.le_of_eq List.length_drop)
    rw [← this] at hQ; exact hQ
  · repeat (first | ((first | apply Xk.sAny | apply Xk.tAny); (case hok => rfl); (case h => intro C hC; simp (disch := omega) only [w0, ↓reduceIte, Nat.reduceEqDiff, Nat.reduceLeDiff, Nat.reduceAdd, Nat.reduceSub, h]; with_reducible exact hC); refine gm ?_) | refine gm ?_)
    rw [if_neg h] at hQ; exact hQ

theorem strings_CutPrefix_ev (s p : List UInt8) (H : Heap) (Q : AV → Heap → Prop) (hQ : Q (if s.take p.length = p then .tup [.str (s.drop p.length), .bool true] else .tup [.str s, .bool false]) H) : Eo lib n_strings_CutPrefix [.str s, .str p] H Q := by
  refine Eo.code at_strings_CutPrefix rfl ?_
  repeat (first | ((first | apply Xk.sAny | apply Xk.tAny); (case hok => rfl); (case h => intro C hC; simp (disch := omega) only [w0, ↓reduceIte, Nat.reduceEqDiff, Nat.reduceLeDiff, Nat.reduceAdd, Nat.reduceSub]; with_reducible exact hC); refine gc ?_) | refine gm ?_)
  refine CutPrefix_ev _ _ _ _ ?_
  by_cases h : s.take p.length = p
  · rw [if_pos h] at hQ ⊢
    repeat (first | ((first | apply Xk.sAny | apply Xk.tAny); (case hok => rfl); (case h => intro C hC; simp (disch := omega) only [w0, ↓reduceIte, Nat.reduceEqDiff, Nat.reduceLeDiff, Nat.reduceAdd, Nat.reduceSub, rExt, List.getElem?_cons_zero, List.getElem?_cons_succ]; with_reducible exact hC); refine gm ?_) | refine gm ?_)
    exact hQ
  · rw [if_neg h] at hQ ⊢
    repeat (first | ((first | apply Xk.sAny | apply Xk.tAny); (case hok => rfl); (case h => intro C hC; simp (disch := omega) only [w0, ↓reduceIte, Nat.reduceEqDiff, Nat.reduceLeDiff, Nat.reduceAdd, Nat.reduceSub, rExt, List.getElem?_cons_zero, List.getElem?_cons_succ]; with_reducible exact hC); refine gm ?_) | refine gm ?_)
    exact hQ

theorem negn (n : Nat) (h : n < 9223372036854775808) : un .neg (.int .i64 (.ofNat n)) = some (.int .i64 (-(Int.ofNat n))) := by
  show some (AV.int .i64 (wr .i64 (0 - Int.ofNat n))) = _
  rw [wr_eq]
  congr 2
  simp [IntKind.wrap, IntKind.bits, IntKind.signed]
  omega

theorem signed_ev (s : List UInt8) (most : Nat) (hm : most < 4611686018427387904) (H : Heap) (Q : AV → Heap → Prop) (hQ : Q (.tup [.int .i64 (sgn s most).1, .bool (sgn s most).2]) H) :
    Eo lib n_words_signed [.str s, .int .u64 (.ofNat most)] H Q := by
  refine Eo.code at_words_signed rfl ?_
  repeat (first | ((first | apply Xk.sAny | apply Xk.tAny); (case hok => rfl); (case h => intro C hC; simp (disch := omega) only [w0, ↓reduceIte, Nat.reduceEqDiff, Nat.reduceLeDiff, Nat.reduceAdd, Nat.reduceSub]; with_reducible exact hC); refine gc ?_) | refine gm ?_)
  refine strings_CutPrefix_ev _ _ _ _ ?_
  have hl := num_getD (s.drop [(45 : UInt8)].length) most
  have hl' := num_getD s most
  by_cases h : s.take [(45 : UInt8)].length = [45]
  · rw [if_pos h]
    have hs : sgn s most = (-(Int.ofNat ((num (s.drop 1) most).getD 0)), (num (s.drop 1) most).isSome) := by
      cases s with
      | nil => simp at h
      | cons c r =>
        simp at h
        subst h
        rfl
    repeat (first | ((first | apply Xk.sAny | apply Xk.tAny); (case hok => rfl); (case h => intro C hC; simp (disch := omega) only [w0, ↓reduceIte, Nat.reduceEqDiff, Nat.reduceLeDiff, Nat.reduceAdd, Nat.reduceSub, rExt, List.getElem?_cons_zero, List.getElem?_cons_succ]; with_reducible exact hC); refine gc ?_) | refine gm ?_)
    refine Number_ev _ _ (by omega) _ _ ?_
    repeat (first | ((first | apply Xk.sAny | apply Xk.tAny); (case hok => rfl); (case h => intro C hC; simp (disch := omega) only [w0, ↓reduceIte, Nat.reduceEqDiff, Nat.reduceLeDiff, Nat.reduceAdd, Nat.reduceSub, rExt, List.getElem?_cons_zero, List.getElem?_cons_succ, negn]; with_reducible exact hC); refine gm ?_) | refine gm ?_)
    rw [hs] at hQ
    exact hQ
  · rw [if_neg h]
    have hs : sgn s most = (Int.ofNat ((num s most).getD 0), (num s most).isSome) := by
      cases s with
      | nil => rfl
      | cons c r =>
        refine if_neg fun e => h ?_
        have : c = 45 := UInt8.toNat_inj.1 e
        subst this
        simp
    repeat (first | ((first | apply Xk.sAny | apply Xk.tAny); (case hok => rfl); (case h => intro C hC; simp (disch := omega) only [w0, ↓reduceIte, Nat.reduceEqDiff, Nat.reduceLeDiff, Nat.reduceAdd, Nat.reduceSub, rExt, List.getElem?_cons_zero, List.getElem?_cons_succ]; with_reducible exact hC); refine gc ?_) | refine gm ?_)
    refine Number_ev _ _ (by omega) _ _ ?_
    repeat (first | ((first | apply Xk.sAny | apply Xk.tAny); (case hok => rfl); (case h => intro C hC; simp (disch := omega) only [w0, ↓reduceIte, Nat.reduceEqDiff, Nat.reduceLeDiff, Nat.reduceAdd, Nat.reduceSub, rExt, List.getElem?_cons_zero, List.getElem?_cons_succ, negn]; with_reducible exact hC); refine gm ?_) | refine gm ?_)
    rw [hs] at hQ
    exact hQ

end Go.Proofs.YtkjmelfgopammaaDoor
