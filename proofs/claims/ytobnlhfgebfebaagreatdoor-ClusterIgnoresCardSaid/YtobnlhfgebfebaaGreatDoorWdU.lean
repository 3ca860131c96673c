/- Within. Conditions: none. -/
import Derived.Test.YtobnlhfgebfebaaGreatDoorLibI
import Derived.Test.YtobnlhfgebfebaaGreatDoorQsJ
namespace Go.Proofs.YtobnlhfgebfebaaGreatDoor
open Go.Dp
set_option linter.unusedSimpArgs false
set_option linter.unusedVariables false
set_option maxHeartbeats 2000000
attribute [local irreducible] Ex.thnK Ex.inK Ret

theorem remi (k : IntKind) (x : Int) (b : Nat) (h : 0 < b) : bin .rem (.int k x) (.int k (.ofNat b)) = some (.int k (x.tmod (.ofNat b))) := by
  have h0 : ibeq (Int.ofNat b) 0 = false := by rw [ibeq_eq]; simp; omega
  show binII .rem k x k (.ofNat b) = _
  simp only [binII, kbeq_eq, decide_true, cond_true, binInt, h0, cond_false]
theorem tmod_cases (x : Int) (b : Nat) (h : 0 < b) : (∃ r, x.tmod (.ofNat b) = .ofNat r ∧ r < b) ∨ (∃ r, x.tmod (.ofNat b) = .negSucc r ∧ r + 1 < b) := by
  cases x with
  | ofNat a => exact .inl ⟨a % b, rfl, Nat.mod_lt _ h⟩
  | negSucc a =>
    have e : (Int.negSucc a).tmod (.ofNat b) = -((((a + 1) % b : Nat)) : Int) := rfl
    have hl := Nat.mod_lt (a + 1) h
    rw [e]
    generalize (a + 1) % b = r at *
    cases r with
    | zero => exact .inl ⟨0, rfl, h⟩
    | succ r => exact .inr ⟨r, rfl, hl⟩
theorem add_neg (r m : Nat) (h : r + 1 ≤ m) (h2 : m < 9223372036854775808) : bin .add (.int .i64 (.negSucc r)) (.int .i64 (.ofNat m)) = some (.int .i64 (.ofNat (m - (r + 1)))) := by
  have e : Int.negSucc r + Int.ofNat m = Int.ofNat (m - (r + 1)) := by
    show Int.negSucc r + (m : Int) = ((m - (r + 1) : Nat) : Int)
    omega
  have : bin .add (.int .i64 (.negSucc r)) (.int .i64 (.ofNat m)) = some (AV.int .i64 (wr .i64 (Int.negSucc r + Int.ofNat m))) := by
    show binII .add .i64 (.negSucc r) .i64 (.ofNat m) = _
    simp only [binII, kbeq_eq, decide_true, cond_true, binInt]
  rw [this, e, wrn_i64 _ (by omega)]
theorem lss_neg (k : IntKind) (r m : Nat) : bin .lss (.int k (.negSucc r)) (.int k (.ofNat m)) = some (.bool true) := by
  rw [lssi]
  have : Int.negSucc r < Int.ofNat m := by show Int.negSucc r < (m : Int); omega
  rw [decide_eq_true this]

theorem Within_ev (x : Int) (lo hi : Nat) (h : lo ≤ hi) (h2 : hi < 4611686018427387904) (H : Heap) (Q : AV → Heap → Prop) (hQ : ∀ r, lo ≤ r → r ≤ hi → Q (.int .i64 (.ofNat r)) H) :
    Eo lib n_depotbook_Within [.int .i64 x, .int .i64 (.ofNat lo), .int .i64 (.ofNat hi)] H Q := by
  refine Eo.code at_depotbook_Within rfl ?_
  have e1 := remi .i64 x (hi - lo + 1) (by omega)
  rcases tmod_cases x (hi - lo + 1) (by omega) with ⟨r, e2, hr⟩ | ⟨r, e2, hr⟩
  · rw [e2] at e1
    repeat (first | ((first | apply Xk.sAny | apply Xk.tAny); (case hok => rfl); (case h => intro C hC; simp (disch := omega) only [w0, ↓reduceIte, Nat.reduceEqDiff, Nat.reduceLeDiff, Nat.reduceAdd, Nat.reduceSub, e1, h, Nat.not_lt_zero]; with_reducible exact hC); refine gm ?_) | refine gm ?_)
    exact hQ _ (by omega) (by omega)
  · rw [e2] at e1
    have e3 : Int.negSucc r < Int.ofNat 0 := Int.negSucc_lt_zero r
    repeat (first | ((first | apply Xk.sAny | apply Xk.tAny); (case hok => rfl); (case h => intro C hC; simp (disch := omega) only [w0, ↓reduceIte, Nat.reduceEqDiff, Nat.reduceLeDiff, Nat.reduceAdd, Nat.reduceSub, e1, h, e3, add_neg]; with_reducible exact hC); refine gm ?_) | refine gm ?_)
    exact hQ _ (by omega) (by omega)

end Go.Proofs.YtobnlhfgebfebaaGreatDoor
