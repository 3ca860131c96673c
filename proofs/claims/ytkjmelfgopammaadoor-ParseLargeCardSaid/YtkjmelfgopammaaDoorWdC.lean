/- Layer 12's functions of the program that read a request: what a call of each comes to. Conditions: none. -/
import Derived.Test.YtkjmelfgopammaaDoorWdB
namespace Go.Proofs.YtkjmelfgopammaaDoor
open Go.Dp Go.Wd
set_option linter.unusedSimpArgs false
set_option linter.unusedVariables false
set_option maxHeartbeats 2000000
attribute [local irreducible] Ex.thnK Ex.inK Ret

def shapeV : Option (Nat × Nat × Nat × Bool) → AV
  | some (v, l, m, q) => .tup [.agg [.int .i64 (.ofNat v), .int .i64 (.ofNat l), .int .i64 (.ofNat m), .bool q], .bool true]
  | none => .tup [.agg [.int .i64 (.ofNat 0), .int .i64 (.ofNat 0), .int .i64 (.ofNat 0), .bool false], .bool false]

theorem shapeOf_ev (w : List UInt8) (H : Heap) (Q : AV → Heap → Prop) (hQ : ∀ H', H'.Ok → HLe H H' → Q (shapeV (verbOf w)) H') : Eo lib n_words_shapeOf [.str w] H Q := by
  refine Eo.ok fun hOk => ?_
  have hQ' : ∀ x, Q (shapeV (verbOf w)) (H.new x) := fun x => hQ _ (hOk.new _) (HLe.new (hOk _ (Nat.le_refl _)) _)
  refine Eo.code at_words_shapeOf rfl ?_
  by_cases h0 : w = [103, 101, 116]
  · subst h0
    have e : verbOf [103, 101, 116] = some (1, 1, 64, false) := by decide
    rw [e] at hQ'
    repeat (first | ((first | apply Xk.sAny | apply Xk.tAny); (case hok => rfl); (case h => intro C hC; simp (disch := omega) only [w1, ↓reduceIte, Nat.reduceEqDiff, Nat.reduceLeDiff, Nat.reduceAdd, Nat.reduceSub]; with_reducible exact hC); refine gm ?_) | refine gm ?_)
    refine Ret.ret rfl (by simp only [resKs, resK, cond_true, w1, ↓reduceIte, Nat.reduceEqDiff, Nat.reduceLeDiff, Nat.reduceAdd, Nat.reduceSub, pf_words_shapeOf]; rfl) rfl ?_
    exact hQ' _
  by_cases h1 : w = [103, 101, 116, 115]
  · subst h1
    have e : verbOf [103, 101, 116, 115] = some (2, 1, 64, false) := by decide
    rw [e] at hQ'
    repeat (first | ((first | apply Xk.sAny | apply Xk.tAny); (case hok => rfl); (case h => intro C hC; simp (disch := omega) only [w1, ↓reduceIte, Nat.reduceEqDiff, Nat.reduceLeDiff, Nat.reduceAdd, Nat.reduceSub, h0]; with_reducible exact hC); refine gm ?_) | refine gm ?_)
    refine Ret.ret rfl (by simp only [resKs, resK, cond_true, w1, ↓reduceIte, Nat.reduceEqDiff, Nat.reduceLeDiff, Nat.reduceAdd, Nat.reduceSub, pf_words_shapeOf]; rfl) rfl ?_
    exact hQ' _
  by_cases h2 : w = [115, 101, 116]
  · subst h2
    have e : verbOf [115, 101, 116] = some (3, 4, 4, true) := by decide
    rw [e] at hQ'
    repeat (first | ((first | apply Xk.sAny | apply Xk.tAny); (case hok => rfl); (case h => intro C hC; simp (disch := omega) only [w1, ↓reduceIte, Nat.reduceEqDiff, Nat.reduceLeDiff, Nat.reduceAdd, Nat.reduceSub, h0, h1]; with_reducible exact hC); refine gm ?_) | refine gm ?_)
    refine Ret.ret rfl (by simp only [resKs, resK, cond_true, w1, ↓reduceIte, Nat.reduceEqDiff, Nat.reduceLeDiff, Nat.reduceAdd, Nat.reduceSub, pf_words_shapeOf]; rfl) rfl ?_
    exact hQ' _
  by_cases h3 : w = [97, 100, 100]
  · subst h3
    have e : verbOf [97, 100, 100] = some (4, 4, 4, true) := by decide
    rw [e] at hQ'
    repeat (first | ((first | apply Xk.sAny | apply Xk.tAny); (case hok => rfl); (case h => intro C hC; simp (disch := omega) only [w1, ↓reduceIte, Nat.reduceEqDiff, Nat.reduceLeDiff, Nat.reduceAdd, Nat.reduceSub, h0, h1, h2]; with_reducible exact hC); refine gm ?_) | refine gm ?_)
    refine Ret.ret rfl (by simp only [resKs, resK, cond_true, w1, ↓reduceIte, Nat.reduceEqDiff, Nat.reduceLeDiff, Nat.reduceAdd, Nat.reduceSub, pf_words_shapeOf]; rfl) rfl ?_
    exact hQ' _
  by_cases h4 : w = [114, 101, 112, 108, 97, 99, 101]
  · subst h4
    have e : verbOf [114, 101, 112, 108, 97, 99, 101] = some (5, 4, 4, true) := by decide
    rw [e] at hQ'
    repeat (first | ((first | apply Xk.sAny | apply Xk.tAny); (case hok => rfl); (case h => intro C hC; simp (disch := omega) only [w1, ↓reduceIte, Nat.reduceEqDiff, Nat.reduceLeDiff, Nat.reduceAdd, Nat.reduceSub, h0, h1, h2, h3]; with_reducible exact hC); refine gm ?_) | refine gm ?_)
    refine Ret.ret rfl (by simp only [resKs, resK, cond_true, w1, ↓reduceIte, Nat.reduceEqDiff, Nat.reduceLeDiff, Nat.reduceAdd, Nat.reduceSub, pf_words_shapeOf]; rfl) rfl ?_
    exact hQ' _
  by_cases h5 : w = [97, 112, 112, 101, 110, 100]
  · subst h5
    have e : verbOf [97, 112, 112, 101, 110, 100] = some (6, 4, 4, true) := by decide
    rw [e] at hQ'
    repeat (first | ((first | apply Xk.sAny | apply Xk.tAny); (case hok => rfl); (case h => intro C hC; simp (disch := omega) only [w1, ↓reduceIte, Nat.reduceEqDiff, Nat.reduceLeDiff, Nat.reduceAdd, Nat.reduceSub, h0, h1, h2, h3, h4]; with_reducible exact hC); refine gm ?_) | refine gm ?_)
    refine Ret.ret rfl (by simp only [resKs, resK, cond_true, w1, ↓reduceIte, Nat.reduceEqDiff, Nat.reduceLeDiff, Nat.reduceAdd, Nat.reduceSub, pf_words_shapeOf]; rfl) rfl ?_
    exact hQ' _
  by_cases h6 : w = [112, 114, 101, 112, 101, 110, 100]
  · subst h6
    have e : verbOf [112, 114, 101, 112, 101, 110, 100] = some (7, 4, 4, true) := by decide
    rw [e] at hQ'
    repeat (first | ((first | apply Xk.sAny | apply Xk.tAny); (case hok => rfl); (case h => intro C hC; simp (disch := omega) only [w1, ↓reduceIte, Nat.reduceEqDiff, Nat.reduceLeDiff, Nat.reduceAdd, Nat.reduceSub, h0, h1, h2, h3, h4, h5]; with_reducible exact hC); refine gm ?_) | refine gm ?_)
    refine Ret.ret rfl (by simp only [resKs, resK, cond_true, w1, ↓reduceIte, Nat.reduceEqDiff, Nat.reduceLeDiff, Nat.reduceAdd, Nat.reduceSub, pf_words_shapeOf]; rfl) rfl ?_
    exact hQ' _
  by_cases h7 : w = [99, 97, 115]
  · subst h7
    have e : verbOf [99, 97, 115] = some (8, 5, 5, true) := by decide
    rw [e] at hQ'
    repeat (first | ((first | apply Xk.sAny | apply Xk.tAny); (case hok => rfl); (case h => intro C hC; simp (disch := omega) only [w1, ↓reduceIte, Nat.reduceEqDiff, Nat.reduceLeDiff, Nat.reduceAdd, Nat.reduceSub, h0, h1, h2, h3, h4, h5, h6]; with_reducible exact hC); refine gm ?_) | refine gm ?_)
    refine Ret.ret rfl (by simp only [resKs, resK, cond_true, w1, ↓reduceIte, Nat.reduceEqDiff, Nat.reduceLeDiff, Nat.reduceAdd, Nat.reduceSub, pf_words_shapeOf]; rfl) rfl ?_
    exact hQ' _
  by_cases h8 : w = [100, 101, 108, 101, 116, 101]
  · subst h8
    have e : verbOf [100, 101, 108, 101, 116, 101] = some (9, 1, 1, true) := by decide
    rw [e] at hQ'
    repeat (first | ((first | apply Xk.sAny | apply Xk.tAny); (case hok => rfl); (case h => intro C hC; simp (disch := omega) only [w1, ↓reduceIte, Nat.reduceEqDiff, Nat.reduceLeDiff, Nat.reduceAdd, Nat.reduceSub, h0, h1, h2, h3, h4, h5, h6, h7]; with_reducible exact hC); refine gm ?_) | refine gm ?_)
    refine Ret.ret rfl (by simp only [resKs, resK, cond_true, w1, ↓reduceIte, Nat.reduceEqDiff, Nat.reduceLeDiff, Nat.reduceAdd, Nat.reduceSub, pf_words_shapeOf]; rfl) rfl ?_
    exact hQ' _
  by_cases h9 : w = [105, 110, 99, 114]
  · subst h9
    have e : verbOf [105, 110, 99, 114] = some (10, 2, 2, true) := by decide
    rw [e] at hQ'
    repeat (first | ((first | apply Xk.sAny | apply Xk.tAny); (case hok => rfl); (case h => intro C hC; simp (disch := omega) only [w1, ↓reduceIte, Nat.reduceEqDiff, Nat.reduceLeDiff, Nat.reduceAdd, Nat.reduceSub, h0, h1, h2, h3, h4, h5, h6, h7, h8]; with_reducible exact hC); refine gm ?_) | refine gm ?_)
    refine Ret.ret rfl (by simp only [resKs, resK, cond_true, w1, ↓reduceIte, Nat.reduceEqDiff, Nat.reduceLeDiff, Nat.reduceAdd, Nat.reduceSub, pf_words_shapeOf]; rfl) rfl ?_
    exact hQ' _
  by_cases h10 : w = [100, 101, 99, 114]
  · subst h10
    have e : verbOf [100, 101, 99, 114] = some (11, 2, 2, true) := by decide
    rw [e] at hQ'
    repeat (first | ((first | apply Xk.sAny | apply Xk.tAny); (case hok => rfl); (case h => intro C hC; simp (disch := omega) only [w1, ↓reduceIte, Nat.reduceEqDiff, Nat.reduceLeDiff, Nat.reduceAdd, Nat.reduceSub, h0, h1, h2, h3, h4, h5, h6, h7, h8, h9]; with_reducible exact hC); refine gm ?_) | refine gm ?_)
    refine Ret.ret rfl (by simp only [resKs, resK, cond_true, w1, ↓reduceIte, Nat.reduceEqDiff, Nat.reduceLeDiff, Nat.reduceAdd, Nat.reduceSub, pf_words_shapeOf]; rfl) rfl ?_
    exact hQ' _
  by_cases h11 : w = [116, 111, 117, 99, 104]
  · subst h11
    have e : verbOf [116, 111, 117, 99, 104] = some (12, 2, 2, true) := by decide
    rw [e] at hQ'
    repeat (first | ((first | apply Xk.sAny | apply Xk.tAny); (case hok => rfl); (case h => intro C hC; simp (disch := omega) only [w1, ↓reduceIte, Nat.reduceEqDiff, Nat.reduceLeDiff, Nat.reduceAdd, Nat.reduceSub, h0, h1, h2, h3, h4, h5, h6, h7, h8, h9, h10]; with_reducible exact hC); refine gm ?_) | refine gm ?_)
    refine Ret.ret rfl (by simp only [resKs, resK, cond_true, w1, ↓reduceIte, Nat.reduceEqDiff, Nat.reduceLeDiff, Nat.reduceAdd, Nat.reduceSub, pf_words_shapeOf]; rfl) rfl ?_
    exact hQ' _
  by_cases h12 : w = [102, 108, 117, 115, 104, 95, 97, 108, 108]
  · subst h12
    have e : verbOf [102, 108, 117, 115, 104, 95, 97, 108, 108] = some (13, 0, 1, true) := by decide
    rw [e] at hQ'
    repeat (first | ((first | apply Xk.sAny | apply Xk.tAny); (case hok => rfl); (case h => intro C hC; simp (disch := omega) only [w1, ↓reduceIte, Nat.reduceEqDiff, Nat.reduceLeDiff, Nat.reduceAdd, Nat.reduceSub, h0, h1, h2, h3, h4, h5, h6, h7, h8, h9, h10, h11]; with_reducible exact hC); refine gm ?_) | refine gm ?_)
    refine Ret.ret rfl (by simp only [resKs, resK, cond_true, w1, ↓reduceIte, Nat.reduceEqDiff, Nat.reduceLeDiff, Nat.reduceAdd, Nat.reduceSub, pf_words_shapeOf]; rfl) rfl ?_
    exact hQ' _
  by_cases h13 : w = [118, 101, 114, 115, 105, 111, 110]
  · subst h13
    have e : verbOf [118, 101, 114, 115, 105, 111, 110] = some (14, 0, 0, false) := by decide
    rw [e] at hQ'
    repeat (first | ((first | apply Xk.sAny | apply Xk.tAny); (case hok => rfl); (case h => intro C hC; simp (disch := omega) only [w1, ↓reduceIte, Nat.reduceEqDiff, Nat.reduceLeDiff, Nat.reduceAdd, Nat.reduceSub, h0, h1, h2, h3, h4, h5, h6, h7, h8, h9, h10, h11, h12]; with_reducible exact hC); refine gm ?_) | refine gm ?_)
    refine Ret.ret rfl (by simp only [resKs, resK, cond_true, w1, ↓reduceIte, Nat.reduceEqDiff, Nat.reduceLeDiff, Nat.reduceAdd, Nat.reduceSub, pf_words_shapeOf]; rfl) rfl ?_
    exact hQ' _
  by_cases h14 : w = [118, 101, 114, 98, 111, 115, 105, 116, 121]
  · subst h14
    have e : verbOf [118, 101, 114, 98, 111, 115, 105, 116, 121] = some (15, 1, 1, true) := by decide
    rw [e] at hQ'
    repeat (first | ((first | apply Xk.sAny | apply Xk.tAny); (case hok => rfl); (case h => intro C hC; simp (disch := omega) only [w1, ↓reduceIte, Nat.reduceEqDiff, Nat.reduceLeDiff, Nat.reduceAdd, Nat.reduceSub, h0, h1, h2, h3, h4, h5, h6, h7, h8, h9, h10, h11, h12, h13]; with_reducible exact hC); refine gm ?_) | refine gm ?_)
    refine Ret.ret rfl (by simp only [resKs, resK, cond_true, w1, ↓reduceIte, Nat.reduceEqDiff, Nat.reduceLeDiff, Nat.reduceAdd, Nat.reduceSub, pf_words_shapeOf]; rfl) rfl ?_
    exact hQ' _
  by_cases h15 : w = [115, 116, 97, 116, 115]
  · subst h15
    have e : verbOf [115, 116, 97, 116, 115] = some (16, 0, 0, false) := by decide
    rw [e] at hQ'
    repeat (first | ((first | apply Xk.sAny | apply Xk.tAny); (case hok => rfl); (case h => intro C hC; simp (disch := omega) only [w1, ↓reduceIte, Nat.reduceEqDiff, Nat.reduceLeDiff, Nat.reduceAdd, Nat.reduceSub, h0, h1, h2, h3, h4, h5, h6, h7, h8, h9, h10, h11, h12, h13, h14]; with_reducible exact hC); refine gm ?_) | refine gm ?_)
    refine Ret.ret rfl (by simp only [resKs, resK, cond_true, w1, ↓reduceIte, Nat.reduceEqDiff, Nat.reduceLeDiff, Nat.reduceAdd, Nat.reduceSub, pf_words_shapeOf]; rfl) rfl ?_
    exact hQ' _
  by_cases h16 : w = [113, 117, 105, 116]
  · subst h16
    have e : verbOf [113, 117, 105, 116] = some (17, 0, 0, false) := by decide
    rw [e] at hQ'
    repeat (first | ((first | apply Xk.sAny | apply Xk.tAny); (case hok => rfl); (case h => intro C hC; simp (disch := omega) only [w1, ↓reduceIte, Nat.reduceEqDiff, Nat.reduceLeDiff, Nat.reduceAdd, Nat.reduceSub, h0, h1, h2, h3, h4, h5, h6, h7, h8, h9, h10, h11, h12, h13, h14, h15]; with_reducible exact hC); refine gm ?_) | refine gm ?_)
    refine Ret.ret rfl (by simp only [resKs, resK, cond_true, w1, ↓reduceIte, Nat.reduceEqDiff, Nat.reduceLeDiff, Nat.reduceAdd, Nat.reduceSub, pf_words_shapeOf]; rfl) rfl ?_
    exact hQ' _
  have e : verbOf w = none := by unfold verbOf; simp only [h0, h1, h2, h3, h4, h5, h6, h7, h8, h9, h10, h11, h12, h13, h14, h15, h16, if_false]
  rw [e] at hQ'
  repeat (first | ((first | apply Xk.sAny | apply Xk.tAny); (case hok => rfl); (case h => intro C hC; simp (disch := omega) only [w1, ↓reduceIte, Nat.reduceEqDiff, Nat.reduceLeDiff, Nat.reduceAdd, Nat.reduceSub, h0, h1, h2, h3, h4, h5, h6, h7, h8, h9, h10, h11, h12, h13, h14, h15, h16]; with_reducible exact hC); refine gm ?_) | refine gm ?_)
  refine Ret.ret rfl (by simp only [resKs, resK, cond_true, w1, ↓reduceIte, Nat.reduceEqDiff, Nat.reduceLeDiff, Nat.reduceAdd, Nat.reduceSub, pf_words_shapeOf]; rfl) rfl ?_
  exact hQ' _

end Go.Proofs.YtkjmelfgopammaaDoor
