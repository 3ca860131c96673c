/- words.Key: what a call of it comes to. Conditions: none. -/
import Derived.Test.YtjlfnolaifkakaaDoorWdV
namespace Go.Proofs.YtjlfnolaifkakaaDoor
open Go.Dp Go.Wd
set_option linter.unusedSimpArgs false
set_option linter.unusedVariables false
set_option maxHeartbeats 400000
attribute [local irreducible] Ex.thnK Ex.inK Ret

theorem Key_ev (s : List UInt8) (H : Heap) (Q : AV → Heap → Prop) (hQ : Q (.bool (keyOk s)) H) : Eo lib n_words_Key [.str s] H Q := by
  refine Eo.code at_words_Key rfl ?_
  repeat (first | ((first | apply Xk.sAny | apply Xk.tAny); (case hok => rfl); (case h => intro C hC; simp (disch := omega) only [w0, ↓reduceIte, Nat.reduceEqDiff, Nat.reduceLeDiff, Nat.reduceAdd, Nat.reduceSub]; with_reducible exact hC); refine gm ?_) | refine gm ?_)
  by_cases h1 : s.length < 1
  · repeat (first | ((first | apply Xk.sAny | apply Xk.tAny); (case hok => rfl); (case h => intro C hC; simp (disch := omega) only [w0, ↓reduceIte, Nat.reduceEqDiff, Nat.reduceLeDiff, Nat.reduceAdd, Nat.reduceSub, h1]; with_reducible exact hC); refine gm ?_) | refine gm ?_)
    have : keyOk s = false := by simp [keyOk]; omega
    rw [this] at hQ; exact hQ
  by_cases h2 : 250 < s.length
  · repeat (first | ((first | apply Xk.sAny | apply Xk.tAny); (case hok => rfl); (case h => intro C hC; simp (disch := omega) only [w0, ↓reduceIte, Nat.reduceEqDiff, Nat.reduceLeDiff, Nat.reduceAdd, Nat.reduceSub, h1, h2]; with_reducible exact hC); refine gm ?_) | refine gm ?_)
    have : keyOk s = false := by simp [keyOk]; omega
    rw [this] at hQ; exact hQ
  repeat (first | ((first | apply Xk.sAny | apply Xk.tAny); (case hok => rfl); (case h => intro C hC; simp (disch := omega) only [w0, ↓reduceIte, Nat.reduceEqDiff, Nat.reduceLeDiff, Nat.reduceAdd, Nat.reduceSub, h1, h2]; with_reducible exact hC); refine gm ?_) | refine gm ?_)
  refine Xk.iter [0, 13, 14] (fun m k H' => ∃ i, m = s.length - i ∧ i ≤ s.length ∧ keyOk s = (s.drop i).all keyCh ∧ k = [(0, .str s), (13, .int .i64 (.ofNat s.length)), (14, .int .i64 (.ofNat i))] ∧ H' = H) rfl ⟨_, 0, rfl, by omega, by unfold keyOk; rw [decide_eq_true (by omega), decide_eq_true (by omega)]; rfl, rfl, rfl⟩ ?_
  rintro m k H' ⟨i, hm, hi, hk, rfl, rfl⟩
  by_cases h : i < s.length
  · rw [all_drop h] at hk
    by_cases h3 : (s.getD i 0).toNat ≤ 32
    · repeat (first | ((first | apply Xk.sAny | apply Xk.tAny); (case hok => rfl); (case h => intro C hC; simp (disch := omega) only [w0, ↓reduceIte, Nat.reduceEqDiff, Nat.reduceLeDiff, Nat.reduceAdd, Nat.reduceSub, h, h3]; with_reducible exact hC); refine gm ?_) | refine gm ?_)
      have : keyOk s = false := by rw [hk]; unfold keyCh; rw [decide_eq_false (by omega)]; rfl
      rw [this] at hQ; exact hQ
    · by_cases h4 : (s.getD i 0).toNat = 127
      · repeat (first | ((first | apply Xk.sAny | apply Xk.tAny); (case hok => rfl); (case h => intro C hC; simp (disch := omega) only [w0, ↓reduceIte, Nat.reduceEqDiff, Nat.reduceLeDiff, Nat.reduceAdd, Nat.reduceSub, h, h3, h4]; with_reducible exact hC); refine gm ?_) | refine gm ?_)
        have : keyOk s = false := by rw [hk]; unfold keyCh; rw [decide_eq_false (p := _ ≠ 127) (fun e => e h4), Bool.and_false]; rfl
        rw [this] at hQ; exact hQ
      · repeat (first | ((first | apply Xk.sAny | apply Xk.tAny); (case hok => rfl); (case h => intro C hC; simp (disch := omega) only [w0, ↓reduceIte, Nat.reduceEqDiff, Nat.reduceLeDiff, Nat.reduceAdd, Nat.reduceSub, h, h3, h4]; with_reducible exact hC); refine gm ?_) | refine gm ?_)
        refine ⟨rfl, _, ?_, i + 1, rfl, by omega, ?_, rfl, rfl⟩
        · omega
        · rw [hk]; unfold keyCh; rw [decide_eq_true (by omega), decide_eq_true h4]; rfl
  · repeat (first | ((first | apply Xk.sAny | apply Xk.tAny); (case hok => rfl); (case h => intro C hC; simp (disch := omega) only [w0, ↓reduceIte, Nat.reduceEqDiff, Nat.reduceLeDiff, Nat.reduceAdd, Nat.reduceSub, h]; with_reducible exact hC); refine gm ?_) | refine gm ?_)
    rw [hk, List.drop_eq_nil_of_le (by omega)] at hQ
    exact hQ

end Go.Proofs.YtjlfnolaifkakaaDoor
