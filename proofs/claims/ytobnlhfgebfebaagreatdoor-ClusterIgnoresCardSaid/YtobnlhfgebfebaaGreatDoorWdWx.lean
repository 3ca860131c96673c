/- depotbook.Within: what it answers, on whatever heap. Conditions: none. -/
import Derived.Test.YtobnlhfgebfebaaGreatDoorWdU
import Derived.Test.YtobnlhfgebfebaaGreatDoorQfD
namespace Go.Proofs.YtobnlhfgebfebaaGreatDoor
open Go.Dp
set_option linter.unusedSimpArgs false
set_option linter.unusedVariables false

theorem Within_ex (x : Int) (lo hi : Nat) (h : lo ≤ hi) (h2 : hi < 4611686018427387904) : ∃ r, lo ≤ r ∧ r ≤ hi ∧ Fs.Pure lib n_depotbook_Within [.int .i64 x, .int .i64 (.ofNat lo), .int .i64 (.ofNat hi)] (.int .i64 (.ofNat r)) := by
  have e1 := remi .i64 x (hi - lo + 1) (by omega)
  rcases tmod_cases x (hi - lo + 1) (by omega) with ⟨r, e2, hr⟩ | ⟨r, e2, hr⟩
  · rw [e2] at e1
    refine ⟨?w, ?h1, ?h2, Fs.Pure.of fun H Q hQ => ?h3⟩
    case h3 =>
      refine Eo.code at_depotbook_Within rfl ?_
      repeat (first | ((first | apply Xk.sAny | apply Xk.tAny); (case hok => rfl); (case h => intro C hC; simp (disch := omega) only [w0, ↓reduceIte, Nat.reduceEqDiff, Nat.reduceLeDiff, Nat.reduceAdd, Nat.reduceSub, e1, h, Nat.not_lt_zero]; with_reducible exact hC); refine gm ?_) | refine gm ?_)
      exact hQ
    · omega
    · omega
  · rw [e2] at e1
    have e3 : Int.negSucc r < Int.ofNat 0 := Int.negSucc_lt_zero r
    refine ⟨?v, ?g1, ?g2, Fs.Pure.of fun H Q hQ => ?g3⟩
    case g3 =>
      refine Eo.code at_depotbook_Within rfl ?_
      repeat (first | ((first | apply Xk.sAny | apply Xk.tAny); (case hok => rfl); (case h => intro C hC; simp (disch := omega) only [w0, ↓reduceIte, Nat.reduceEqDiff, Nat.reduceLeDiff, Nat.reduceAdd, Nat.reduceSub, e1, h, e3, add_neg]; with_reducible exact hC); refine gm ?_) | refine gm ?_)
      exact hQ
    · omega
    · omega

end Go.Proofs.YtobnlhfgebfebaaGreatDoor
