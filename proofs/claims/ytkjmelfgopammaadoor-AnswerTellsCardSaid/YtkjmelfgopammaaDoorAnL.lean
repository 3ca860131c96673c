/- Layer 14: the reference's digits, over the clean machine. Conditions: none. -/
import Derived.Test.YtkjmelfgopammaaDoorAnK
namespace Go.Proofs.YtkjmelfgopammaaDoor
open Go.Dp
set_option linter.unusedSimpArgs false
set_option linter.unusedVariables false
set_option maxHeartbeats 2000000
set_option maxRecDepth 8000
attribute [local irreducible] Ex.thnK Ex.inK Ret

theorem dgs_front : ∀ (i u : Nat), dgs (i + 1) u = UInt8.ofNat (48 + u / 10 ^ i % 10) :: dgs i u
  | 0, u => by
    show [] ++ [UInt8.ofNat (48 + u % 10)] = _
    rw [Nat.pow_zero, Nat.div_one]
    rfl
  | i + 1, u => by
    show dgs (i + 1) (u / 10) ++ [UInt8.ofNat (48 + u % 10)] = _
    rw [dgs_front i (u / 10), Nat.div_div_eq_div_mul, Nat.pow_succ, Nat.mul_comm 10]
    rfl

theorem digits_ev (u : Nat) (h : u < 18446744073709551616) (H : Heap) (Q : AV → Heap → Prop) (hQ : ∀ H', H'.Ok → HLe H H' → Q (.str (dec u)) H') : Eo lib n_depotref9_digits [.int .u64 (.ofNat u)] H Q := by
  refine Eo.ok fun hOk => ?_
  refine Eo.code at_depotref9_digits rfl ?_
  repeat (first | ((first | apply Xk.sAny | apply Xk.tAny); (case hok => rfl); (case h => intro C hC; simp (disch := omega) only [w1, ↓reduceIte, Nat.reduceEqDiff, Nat.reduceLeDiff, Nat.reduceAdd, Nat.reduceSub]; with_reducible exact hC); refine gc ?_) | refine gm ?_)
  refine Xk.iter [0, 3] (fun m k H' => ∃ i, m = 20 - i ∧ i ≤ 20 ∧ (i = 0 ∨ 10 ^ (i - 1) ≤ u ∨ i = 1) ∧ k = [(0, .int .u64 (.ofNat (u / 10 ^ i))), (3, .str (dgs i u))] ∧ H'.Ok ∧ HLe H H') rfl
    ⟨_, 0, rfl, Nat.zero_le _, .inl rfl, by rw [Nat.pow_zero, Nat.div_one]; rfl, hOk, HLe.refl _⟩ ?_
  rintro m k H' ⟨i, rfl, hi, hlo, rfl, hO', hle'⟩
  unfold l0_depotref9_digits
  have hx : u / 10 ^ i < 18446744073709551616 := Nat.lt_of_le_of_lt (Nat.div_le_self _ _) h
  have hfr := dgs_front i u
  have hdl := dgs_len i u
  have hnx : u / 10 ^ (i + 1) = u / 10 ^ i / 10 := by rw [Nat.pow_succ, Nat.div_div_eq_div_mul]
  generalize hxe : u / 10 ^ i = x at hx hfr hnx ⊢
  have hb2 : rB2s (H'.new (.cells [.int .u8 (.ofNat (48 + x % 10))] 3)) (.sl H'.next 0 1 1) = some (.str [UInt8.ofNat (48 + x % 10)]) := by
    show strOf ((H'.new (.cells [.int .u8 (.ofNat (48 + x % 10))] 3)).ld H'.next 0 1) = _
    rw [Heap.ld_of (Heap.get_new_self _ _) (Nat.le_refl _)]
    have e : (UInt8.ofNat (48 + x % 10)).toNat = 48 + x % 10 := by rw [UInt8.toNat_ofNat']; omega
    have := strOf_of [UInt8.ofNat (48 + x % 10)]
    unfold ofBytes at this
    rw [List.map_cons, e] at this
    exact this
  have hadd : i < 20 → bin .add (.str [UInt8.ofNat (48 + x % 10)]) (.str (dgs i u)) = some (.str (dgs (i + 1) u)) := fun hi20 => by
    rw [hfr]
    exact adds _ _ (by rw [hdl]; simp only [List.length_cons, List.length_nil]; omega)
  by_cases c : 0 < x
  · have hi20 : i < 20 := by
      rcases Nat.lt_or_ge i 20 with h1 | h1
      · exact h1
      · obtain rfl : i = 20 := by omega
        have : u / 10 ^ 20 = 0 := Nat.div_eq_of_lt (by omega)
        omega
    have hadd := hadd hi20
    repeat (first | ((first | apply Xk.sAny | apply Xk.tAny); (case hok => rfl); (case h => intro C hC; simp (disch := omega) only [w1, ↓reduceIte, Nat.reduceEqDiff, Nat.reduceLeDiff, Nat.reduceAdd, Nat.reduceSub, c]; with_reducible exact hC); refine gc ?_) | refine gm ?_)
    repeat (first | ((first | apply Xk.sAny | apply Xk.tAny); (case hok => rfl); (case h => intro C hC; simp (disch := omega) only [w1, ↓reduceIte, Nat.reduceEqDiff, Nat.reduceLeDiff, Nat.reduceAdd, Nat.reduceSub, c, hb2, hadd]; with_reducible exact hC); refine gc ?_) | refine gm ?_)
    refine ⟨rfl, _, by omega, i + 1, rfl, by omega, .inr (.inl ?_), by rw [hnx]; rfl, hO'.new _, hle'.new_ hO' _⟩
    rw [Nat.add_sub_cancel]
    rw [← hxe] at c
    exact Nat.le_of_not_lt fun h => by rw [Nat.div_eq_of_lt h] at c; exact Nat.lt_irrefl _ c
  · by_cases c0 : i = 0
    · subst c0
      have hd0 : dgs 0 u = [] := rfl
      have hadd := hadd (by decide)
      rw [hd0] at hadd ⊢
      repeat (first | ((first | apply Xk.sAny | apply Xk.tAny); (case hok => rfl); (case h => intro C hC; simp (disch := omega) only [w1, ↓reduceIte, Nat.reduceEqDiff, Nat.reduceLeDiff, Nat.reduceAdd, Nat.reduceSub, c]; with_reducible exact hC); refine gc ?_) | refine gm ?_)
      repeat (first | ((first | apply Xk.sAny | apply Xk.tAny); (case hok => rfl); (case h => intro C hC; simp (disch := omega) only [w1, ↓reduceIte, Nat.reduceEqDiff, Nat.reduceLeDiff, Nat.reduceAdd, Nat.reduceSub, c, hb2, hadd]; with_reducible exact hC); refine gc ?_) | refine gm ?_)
      exact ⟨rfl, _, by omega, 1, rfl, by omega, .inr (.inr rfl), by rw [hnx]; rfl, hO'.new _, hle'.new_ hO' _⟩
    · obtain rfl : x = 0 := by omega
      have hult : u < 10 ^ i := by
        rcases Nat.lt_or_ge u (10 ^ i) with h1 | h1
        · exact h1
        · have := Nat.div_pos h1 (Nat.pow_pos (by decide : 0 < 10))
          omega
      have hne : (dgs i u = []) = False := eq_false fun h => by rw [h] at hdl; exact c0 hdl.symm
      repeat (first | ((first | apply Xk.sAny | apply Xk.tAny); (case hok => rfl); (case h => intro C hC; simp (disch := omega) only [w1, ↓reduceIte, Nat.reduceEqDiff, Nat.reduceLeDiff, Nat.reduceAdd, Nat.reduceSub, hne, Nat.lt_irrefl]; with_reducible exact hC); refine gc ?_) | refine gm ?_)
      repeat (first | ((first | apply Xk.sAny | apply Xk.tAny); (case hok => rfl); (case h => intro C hC; simp (disch := omega) only [w1, ↓reduceIte, Nat.reduceEqDiff, Nat.reduceLeDiff, Nat.reduceAdd, Nat.reduceSub, hne, Nat.lt_irrefl]; with_reducible exact hC); refine gc ?_) | refine gm ?_)
      rw [← dec_eq (n := i) (u := u) (by omega) hi (by rcases hlo with h1 | h1 | h1 <;> first | exact absurd h1 c0 | exact .inl h1 | exact .inr h1) hult]
      exact hQ _ hO' hle'
end Go.Proofs.YtkjmelfgopammaaDoor
