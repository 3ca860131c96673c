/- The code's Size and Encode: what a call of each comes to. Conditions: none. -/
import Derived.Test.YtjlfnolaifkakaaDoorRsA
import Derived.Test.YtjlfnolaifkakaaDoorWdU
namespace Go.Proofs.YtjlfnolaifkakaaDoor
open Go.Dp
set_option linter.unusedSimpArgs false
set_option linter.unusedVariables false
set_option maxHeartbeats 400000
set_option maxRecDepth 8000
attribute [local irreducible] Ex.thnK Ex.inK Ret

theorem quo_i64 (a b : Nat) (ha : a < 9223372036854775808) (hb : 0 < b) : bin .quo (.int .i64 (.ofNat a)) (.int .i64 (.ofNat b)) = some (.int .i64 (.ofNat (a / b))) := by
  show (bif ibeq (.ofNat b) 0 then none else some (AV.int .i64 (wr .i64 ((Int.ofNat a).tdiv (Int.ofNat b))))) = _
  have h0 : ibeq (Int.ofNat b) 0 = false := by
    rw [ibeq_eq, beq_eq_false_iff_ne]
    intro e
    have : (b : Int) = 0 := e
    omega
  have h1 : (Int.ofNat a).tdiv (Int.ofNat b) = Int.ofNat (a / b) := rfl
  have := Nat.div_le_self a b
  rw [h0, h1, wrn_i64 _ (by omega)]
  rfl
theorem rem_i64 (a b : Nat) (hb : 0 < b) : bin .rem (.int .i64 (.ofNat a)) (.int .i64 (.ofNat b)) = some (.int .i64 (.ofNat (a % b))) := remi .i64 (.ofNat a) b hb

/-- the code's object -/
structure CodeAt (H : Heap) (p rb ro k n : Nat) (rows : List (List Nat)) : Prop where
  obj : ∃ l w, H.get p = some (.cells l w) ∧ l[0]? = some (.int .i64 (.ofNat k)) ∧ l[1]? = some (.int .i64 (.ofNat n)) ∧ l[768]? = some (.sl rb ro n 1) ∧ ∀ i, i < 766 → l[2 + i]? = Mk.table[i]?
  rows_ : ∃ l w, H.get rb = some (.cells l w) ∧ ∀ i, i < n → ∃ b o l' w', l[ro + i]? = some (.sl b o k 1) ∧ H.get b = some (.cells l' w') ∧ ∀ j, j < k → l'[o + j]? = some (.int .u8 (.ofNat ((rows.getD i []).getD j 0)))
  rlen : ∀ i, i < n → (rows.getD i []).length = k
  row8 : ∀ i, Below256 (rows.getD i [])
  k0 : 0 < k
  k1 : k < 1000
  n1 : n < 1000

theorem CodeAt.tab {H : Heap} {p rb ro k n : Nat} {rows : List (List Nat)} (h : CodeAt H p rb ro k n rows) : TabAt H p 2 := by
  obtain ⟨l, w, h1, _, _, h4, h5⟩ := h.obj
  have := (List.getElem?_eq_some_iff.1 h4).1
  exact ⟨l, w, h1, by omega, h5⟩

theorem Size_ev (p rb ro k n m : Nat) (rows : List (List Nat)) (hm : m < 1000000) (H : Heap) (h : CodeAt H p rb ro k n rows) (Q : AV → Heap → Prop) (hQ : Q (.int .i64 (.ofNat (sizeN k m))) H) : Eo lib n_rs_Code_Size [.ptr p 0, .int .i64 (.ofNat m)] H Q := by
  refine Eo.ok fun hOk => ?_
  refine Eo.code at_rs_Code_Size rfl ?_
  obtain ⟨l, w, g1, g2, _⟩ := h.obj
  obtain ⟨a1, a2⟩ := cell1 g2
  have a1 : 1 ≤ l.length := by omega
  rw [List.drop_zero] at a2
  have hk := h.k0
  have e1 := quo_i64 m k (by omega) hk
  have e2 := rem_i64 m k hk
  have hd := Nat.div_le_self m k
  by_cases h0 : m ≤ 0
  · repeat (first | ((first | apply Xk.sAny | apply Xk.tAny); (case hok => rfl); (case h => intro C hC; simp (disch := omega) only [w1, ↓reduceIte, Nat.reduceEqDiff, Nat.reduceLeDiff, Nat.reduceAdd, Nat.reduceSub, h0]; with_reducible exact hC); refine gc ?_) | refine gm ?_)
    have : sizeN k m = 0 := by unfold sizeN; rw [if_pos (by omega)]
    rw [this] at hQ
    exact hQ
  · by_cases h1 : 0 < m % k
    · repeat (first | ((first | apply Xk.sAny | apply Xk.tAny); (case hok => rfl); (case h => intro C hC; simp (disch := omega) only [w1, ↓reduceIte, Nat.reduceEqDiff, Nat.reduceLeDiff, Nat.reduceAdd, Nat.reduceSub, h0, g1, a1, a2, e1, e2, h1]; with_reducible exact hC); refine gc ?_) | refine gm ?_)
      have : sizeN k m = m / k + 1 := by unfold sizeN; rw [if_neg (by omega), if_neg (by omega)]
      rw [this] at hQ
      exact hQ
    · repeat (first | ((first | apply Xk.sAny | apply Xk.tAny); (case hok => rfl); (case h => intro C hC; simp (disch := omega) only [w1, ↓reduceIte, Nat.reduceEqDiff, Nat.reduceLeDiff, Nat.reduceAdd, Nat.reduceSub, h0, g1, a1, a2, e1, e2, h1]; with_reducible exact hC); refine gc ?_) | refine gm ?_)
      have : sizeN k m = m / k := by unfold sizeN; rw [if_neg (by omega), if_pos (by omega)]; rfl
      rw [this] at hQ
      exact hQ

end Go.Proofs.YtjlfnolaifkakaaDoor
