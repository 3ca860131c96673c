/- The reference's Key: what a call comes to. Conditions: none. -/
import Derived.Test.YtkjmelfgopammaaDoorWdV
namespace Go.Proofs.YtkjmelfgopammaaDoor
open Go.Dp Go.Wd
set_option linter.unusedSimpArgs false
set_option linter.unusedVariables false
set_option maxHeartbeats 2000000
attribute [local irreducible] Ex.thnK Ex.inK Ret

theorem rKey_ev (s : List UInt8) (hs : s.length < 9223372036854775808) (H : Heap) (Q : AV → Heap → Prop) (hQ : Q (.bool (keyOk s)) H) : Eo lib n_depotref9_Key [.str s] H Q := by
  refine Eo.code at_depotref9_Key rfl ?_
  repeat (first | ((first | apply Xk.sAny | apply Xk.tAny); (case hok => rfl); (case h => intro C hC; simp (disch := omega) only [w0, ↓reduceIte, Nat.reduceEqDiff, Nat.reduceLeDiff, Nat.reduceAdd, Nat.reduceSub]; with_reducible exact hC); refine gm ?_) | refine gm ?_)
  refine Xk.iter [0, 3] (fun m k H' => ∃ i, m = s.length - i ∧ i ≤ s.length ∧ s.all keyCh = (s.drop i).all keyCh ∧ k = [(0, .str s), (3, .int .i64 (.ofNat i))] ∧ H' = H) rfl ⟨_, 0, rfl, by omega, rfl, rfl, rfl⟩ ?_
  rintro m k H' ⟨i, hm, hi, hk, rfl, rfl⟩
  by_cases h : i < s.length
  · rw [all_drop h] at hk
    by_cases h3 : (s.getD i 0).toNat ≤ 32
    · repeat (first | ((first | apply Xk.sAny | apply Xk.tAny); (case hok => rfl); (case h => intro C hC; simp (disch := omega) only [w0, ↓reduceIte, Nat.reduceEqDiff, Nat.reduceLeDiff, Nat.reduceAdd, Nat.reduceSub, h, h3]; with_reducible exact hC); refine gm ?_) | refine gm ?_)
      have : keyOk s = false := by unfold keyOk; rw [hk]; unfold keyCh; rw [decide_eq_false (p := 32 < (s.getD i 0).toNat) (by omega)]; simp
      rw [this] at hQ; exact hQ
    · by_cases h4 : (s.getD i 0).toNat = 127
      · repeat (first | ((first | apply Xk.sAny | apply Xk.tAny); (case hok => rfl); (case h => intro C hC; simp (disch := omega) only [w0, ↓reduceIte, Nat.reduceEqDiff, Nat.reduceLeDiff, Nat.reduceAdd, Nat.reduceSub, h, h3, h4]; with_reducible exact hC); refine gm ?_) | refine gm ?_)
        have : keyOk s = false := by unfold keyOk; rw [hk]; unfold keyCh; rw [decide_eq_false (p := _ ≠ 127) (fun e => e h4)]; simp
        rw [this] at hQ; exact hQ
      · repeat (first | ((first | apply Xk.sAny | apply Xk.tAny); (case hok => rfl); (case h => intro C hC; simp (disch := omega) only [w0, ↓reduceIte, Nat.reduceEqDiff, Nat.reduceLeDiff, Nat.reduceAdd, Nat.reduceSub, h, h3, h4]; with_reducible exact hC); refine gm ?_) | refine gm ?_)
        refine ⟨rfl, _, ?_, i + 1, rfl, by omega, ?_, rfl, rfl⟩
        · omega
        · rw [hk]; unfold keyCh; rw [decide_eq_true (by omega), decide_eq_true h4]; rfl
  · rw [List.drop_eq_nil_of_le (by omega)] at hk
    by_cases h5 : s = []
    · subst h5
      repeat (first | ((first | apply Xk.sAny | apply Xk.tAny); (case hok => rfl); (case h => intro C hC; simp (disch := omega) only [w0, ↓reduceIte, Nat.reduceEqDiff, Nat.reduceLeDiff, Nat.reduceAdd, Nat.reduceSub, List.length_nil, Nat.not_lt_zero, eq_self]; with_reducible exact hC); refine gm ?_) | refine gm ?_)
      exact hQ
    · repeat (first | ((first | apply Xk.sAny | apply Xk.tAny); (case hok => rfl); (case h => intro C hC; simp (disch := omega) only [w0, ↓reduceIte, Nat.reduceEqDiff, Nat.reduceLeDiff, Nat.reduceAdd, Nat.reduceSub, h, h5]; with_reducible exact hC); refine gm ?_) | refine gm ?_)
      have : 1 ≤ s.length := by cases s with | nil => exact absurd rfl h5 | cons a r => simp
      have : keyOk s = decide (s.length ≤ 250) := by unfold keyOk; rw [hk, decide_eq_true this]; simp
      rw [this] at hQ; exact hQ
end Go.Proofs.YtkjmelfgopammaaDoor
