/- Layer 12's functions of the reference: what a call of each comes to. Conditions: none. -/
import Derived.Test.YtkjmelfgopammaaWdG
namespace Go.Proofs.Ytkjmelfgopammaa
open Go.Dp Go.Wd
set_option linter.unusedSimpArgs false
set_option linter.unusedVariables false
set_option maxHeartbeats 2000000
attribute [local irreducible] Ex.thnK Ex.inK Ret

theorem neg_lt (a b : Nat) : (Int.negSucc a < Int.ofNat b) = True := by rw [eq_iff_iff]; simp; omega
theorem pos_lt (a b : Nat) : (Int.ofNat a < Int.negSucc b) = False := by rw [eq_iff_iff]; simp; omega
theorem neg_le (a b : Nat) : (Int.negSucc a ≤ Int.ofNat b) = True := by rw [eq_iff_iff]; simp; omega
theorem pos_le (a b : Nat) : (Int.ofNat a ≤ Int.negSucc b) = False := by rw [eq_iff_iff]; simp; omega
theorem subw_u64 (a b : Nat) (h : a < b) (hb : b ≤ 18446744073709551616) : bin .sub (.int .u64 (.ofNat a)) (.int .u64 (.ofNat b)) = some (.int .u64 (.ofNat (18446744073709551616 + a - b))) := by
  have : bin .sub (.int .u64 (.ofNat a)) (.int .u64 (.ofNat b)) = some (AV.int .u64 (wr .u64 (Int.ofNat a - Int.ofNat b))) := by
    show binII .sub .u64 (.ofNat a) .u64 (.ofNat b) = _
    simp only [binII, kbeq_eq, decide_true, cond_true, binInt]
  rw [this, wr_eq]
  congr 2
  simp [IntKind.wrap, IntKind.bits, IntKind.signed]
  omega

theorem rKey_ev (s : List UInt8) (hs : s.length < 1000000000) (H : Heap) (Q : AV → Heap → Prop) (hQ : Q (.bool (keyOk s)) H) : Eo lib n_depotref9_Key [.str s] H Q := by
  refine Eo.code at_depotref9_Key rfl ?_
  repeat (first | ((first | apply Xk.sAny | apply Xk.tAny); (case hok => rfl); (case h => intro C hC; simp (disch := omega) only [w0, ↓reduceIte, Nat.reduceEqDiff, Nat.reduceLeDiff, Nat.reduceAdd, Nat.reduceSub]; with_reducible exact hC); refine gm ?_) | refine gm ?_)
  refine Xk.iter [0, 3] (fun m k H' => ∃ i, m = s.length - i ∧ i ≤ s.length ∧ s.all keyCh = (s.drop i).all keyCh ∧ k = [(0, .str s), (3, .int .i64 (.ofNat i))] ∧ H' = H) rfl ⟨_, 0, rfl, by omega, rfl, rfl, rfl⟩ ?_
  rintro m k H' ⟨i, hm, hi, hk, rfl, rfl⟩
  by_cases h : i < s.length
  · rw [all_drop h] at hk
    by_cases h3 : (s.getD i 0).toNat ≤ 32
    · repeat (first | ((first | apply Xk.sAny | apply Xk.tAny); (case hok => rfl); (case h => intro C hC; simp (disch := omega) only [w0, ↓reduceIte, Nat.reduceEqDiff, Nat.reduceLeDiff, Nat.reduceAdd, Nat.reduceSub, h, h3]; with_reducible exact hC); refine gm ?_) | refine gm ?_)
      have : keyOk s = false := by unfold keyOk; rw [hk]; unfold keyCh; rw [decide_eq_false (p := 32 < (s.getD i 0).toNat) (by omega)]; simp
      rw [this] at hQ; exact hQ
    · by_cases h4 : (s.getD i 0).toNat = 127
      · repeat (first | ((first | apply Xk.sAny | apply Xk.tAny); (case hok => rfl); (case h => intro C hC; simp (disch := omega) only [w0, ↓reduceIte, Nat.reduceEqDiff, Nat.reduceLeDiff, Nat.reduceAdd, Nat.reduceSub, h, h3, h4]; with_reducible exact hC); refine gm ?_) | refine gm ?_)
        have : keyOk s = false := by unfold keyOk; rw [hk]; unfold keyCh; rw [decide_eq_false (p := _ ≠ 127) (fun e => e h4)]; simp
        rw [this] at hQ; exact hQ
      · repeat (first | ((first | apply Xk.sAny | apply Xk.tAny); (case hok => rfl); (case h => intro C hC; simp (disch := omega) only [w0, ↓reduceIte, Nat.reduceEqDiff, Nat.reduceLeDiff, Nat.reduceAdd, Nat.reduceSub, h, h3, h4]; with_reducible exact hC); refine gm ?_) | refine gm ?_)
        refine ⟨rfl, _, ?_, i + 1, rfl, by omega, ?_, rfl, rfl⟩
        · omega
        · rw [hk]; unfold keyCh; rw [decide_eq_true (by omega), decide_eq_true h4]; rfl
  · rw [List.drop_eq_nil_of_le (by omega)] at hk
    by_cases h5 : s = []
    · subst h5
      repeat (first | ((first | apply Xk.sAny | apply Xk.tAny); (case hok => rfl); (case h => intro C hC; simp (disch := omega) only [w0, ↓reduceIte, Nat.reduceEqDiff, Nat.reduceLeDiff, Nat.reduceAdd, Nat.reduceSub, List.length_nil, Nat.not_lt_zero, eq_self]; with_reducible exact hC); refine gm ?_) | refine gm ?_)
      exact hQ
    · repeat (first | ((first | apply Xk.sAny | apply Xk.tAny); (case hok => rfl); (case h => intro C hC; simp (disch := omega) only [w0, ↓reduceIte, Nat.reduceEqDiff, Nat.reduceLeDiff, Nat.reduceAdd, Nat.reduceSub, h, h5]; with_reducible exact hC); refine gm ?_) | refine gm ?_)
      have : 1 ≤ s.length := by cases s with | nil => exact absurd rfl h5 | cons a r => simp
      have : keyOk s = decide (s.length ≤ 250) := by unfold keyOk; rw [hk, decide_eq_true this]; simp
      rw [this] at hQ; exact hQ

theorem rfit {x n most : Nat} (h4 : ¬ 57 < x) (h0 : x - 48 ≤ most) (h5 : ¬ (most - (x - 48)) / 10 < n) : 10 * n + (x - 48) ≤ most := by omega
theorem rovf {x n most : Nat} (h0 : x - 48 ≤ most) (h5 : (most - (x - 48)) / 10 < n) : most < 10 * n + (x - 48) := by omega

theorem rNumber_ev (s : List UInt8) (most : Nat) (hm : most < 18446744073709551616) (H : Heap) (Q : AV → Heap → Prop) (hQ : Q (.tup [.int .u64 (.ofNat ((num s most).getD 0)), .bool (num s most).isSome]) H) :
    Eo lib n_depotref9_Number [.str s, .int .u64 (.ofNat most)] H Q := by
  have bad : num s most = none → Q (.tup [.int .u64 (.ofNat 0), .bool false]) H := fun e => by rw [e] at hQ; exact hQ
  refine Eo.code at_depotref9_Number rfl ?_
  by_cases h1 : s = []
  · repeat (first | ((first | apply Xk.sAny | apply Xk.tAny); (case hok => rfl); (case h => intro C hC; simp (disch := omega) only [w0, ↓reduceIte, Nat.reduceEqDiff, Nat.reduceLeDiff, Nat.reduceAdd, Nat.reduceSub, h1]; with_reducible exact hC); refine gm ?_) | refine gm ?_)
    exact bad (if_neg fun h => by rw [h1] at h; simp at h)
  have h1' : 1 ≤ s.length := by cases s with | nil => exact absurd rfl h1 | cons a r => simp
  by_cases h2 : 20 < s.length
  · repeat (first | ((first | apply Xk.sAny | apply Xk.tAny); (case hok => rfl); (case h => intro C hC; simp (disch := omega) only [w0, ↓reduceIte, Nat.reduceEqDiff, Nat.reduceLeDiff, Nat.reduceAdd, Nat.reduceSub, h1, h2]; with_reducible exact hC); refine gm ?_) | refine gm ?_)
    exact bad (if_neg fun h => by omega)
  repeat (first | ((first | apply Xk.sAny | apply Xk.tAny); (case hok => rfl); (case h => intro C hC; simp (disch := omega) only [w0, ↓reduceIte, Nat.reduceEqDiff, Nat.reduceLeDiff, Nat.reduceAdd, Nat.reduceSub, h1, h2]; with_reducible exact hC); refine gm ?_) | refine gm ?_)
  refine Xk.iter [0, 1, 6, 7] (fun m k H' => ∃ i n, m = s.length - i ∧ i ≤ s.length ∧ s.all dig = (s.drop i).all dig ∧ decF 0 s = decF n (s.drop i) ∧ n ≤ most ∧
    k = [(0, .str s), (1, .int .u64 (.ofNat most)), (6, .int .u64 (.ofNat n)), (7, .int .i64 (.ofNat i))] ∧ H' = H) rfl ⟨_, 0, 0, rfl, by omega, rfl, rfl, by omega, rfl, rfl⟩ ?_
  rintro m k H' ⟨i, n, hm', hi, ha, hd, hn, rfl, rfl⟩
  by_cases h : i < s.length
  · rw [all_drop h] at ha
    rw [drop_getD 0 h, decF_cons] at hd
    have hc := (s.getD i 0).toNat_lt
    have hc' : (s.getD i 0).toNat < 18446744073709551616 := by omega
    by_cases h3 : (s.getD i 0).toNat < 48
    · repeat (first | ((first | apply Xk.sAny | apply Xk.tAny); (case hok => rfl); (case h => intro C hC; simp (disch := omega) only [w0, ↓reduceIte, Nat.reduceEqDiff, Nat.reduceLeDiff, Nat.reduceAdd, Nat.reduceSub, h, h3, subw_u64]; with_reducible exact hC); refine gm ?_) | refine gm ?_)
      refine bad (if_neg fun e => ?_)
      rw [ha] at e; unfold dig at e; rw [decide_eq_false (by omega)] at e; exact absurd e.2.2.1 (by simp)
    by_cases h4 : 57 < (s.getD i 0).toNat
    · repeat (first | ((first | apply Xk.sAny | apply Xk.tAny); (case hok => rfl); (case h => intro C hC; simp (disch := omega) only [w0, ↓reduceIte, Nat.reduceEqDiff, Nat.reduceLeDiff, Nat.reduceAdd, Nat.reduceSub, h, h3, h4]; with_reducible exact hC); refine gm ?_) | refine gm ?_)
      refine bad (if_neg fun e => ?_)
      rw [ha] at e; unfold dig at e; rw [decide_eq_false (p := _ ≤ 57) (by omega), Bool.and_false] at e; exact absurd e.2.2.1 (by simp)
    by_cases h0 : (s.getD i 0).toNat - 48 ≤ most
    · by_cases h5 : (most - ((s.getD i 0).toNat - 48)) / 10 < n
      · repeat (first | ((first | apply Xk.sAny | apply Xk.tAny); (case hok => rfl); (case h => intro C hC; simp (disch := omega) only [w0, ↓reduceIte, Nat.reduceEqDiff, Nat.reduceLeDiff, Nat.reduceAdd, Nat.reduceSub, h, h3, h4, h5]; with_reducible exact hC); refine gm ?_) | refine gm ?_)
        refine bad (if_neg fun e => ?_)
        have h6 := decF_ge (s.drop (i + 1)) (decS n (s.getD i 0))
        have h7 := rovf h0 h5
        rw [hd] at e
        unfold decS at h6 e
        have := e.2.2.2
        omega
      · have h0' : ¬ most < (s.getD i 0).toNat - 48 := by omega
        have hf := rfit h4 h0 h5
        unfold decS at hd
        have hcm : n * 10 = 10 * n := by omega
        repeat (first | ((first | apply Xk.sAny | apply Xk.tAny); (case hok => rfl); (case h => intro C hC; simp (disch := omega) only [w0, ↓reduceIte, Nat.reduceEqDiff, Nat.reduceLeDiff, Nat.reduceAdd, Nat.reduceSub, h, h3, h4, h5, h0', hcm]; with_reducible exact hC); refine gm ?_) | refine gm ?_)
        refine ⟨rfl, _, ?_, i + 1, _, rfl, by omega, ?_, hd, hf, rfl, rfl⟩
        · omega
        · rw [ha]; unfold dig; rw [decide_eq_true (by omega), decide_eq_true (by omega)]; rfl
    · have h0' : most < (s.getD i 0).toNat - 48 := by omega
      have hno : num s most = none := by
        refine if_neg fun e => ?_
        have h6 := decF_ge (s.drop (i + 1)) (decS n (s.getD i 0))
        rw [hd] at e
        unfold decS at h6 e
        have := e.2.2.2
        omega
      have h5 : ¬ (18446744073709551616 + most - ((s.getD i 0).toNat - 48)) / 10 < n := by omega
      repeat (first | ((first | apply Xk.sAny | apply Xk.tAny); (case hok => rfl); (case h => intro C hC; simp (disch := omega) only [w0, ↓reduceIte, Nat.reduceEqDiff, Nat.reduceLeDiff, Nat.reduceAdd, Nat.reduceSub, h, h3, h4, subw_u64, h5, h0']; with_reducible exact hC); refine gm ?_) | refine gm ?_)
      exact bad hno
  · rw [List.drop_eq_nil_of_le (by omega)] at ha hd
    repeat (first | ((first | apply Xk.sAny | apply Xk.tAny); (case hok => rfl); (case h => intro C hC; simp (disch := omega) only [w0, ↓reduceIte, Nat.reduceEqDiff, Nat.reduceLeDiff, Nat.reduceAdd, Nat.reduceSub, h]; with_reducible exact hC); refine gm ?_) | refine gm ?_)
    have : num s most = some n := by
      unfold num; rw [hd, ha]; exact if_pos ⟨by omega, by omega, rfl, by rw [decF_nil]; omega⟩
    rw [this] at hQ; exact hQ

theorem rSigned_ev (s : List UInt8) (most : Nat) (hm : most < 4611686018427387904) (H : Heap) (Q : AV → Heap → Prop) (hQ : Q (.tup [.int .i64 (sgn s most).1, .bool (sgn s most).2]) H) :
    Eo lib n_depotref9_Signed [.str s, .int .u64 (.ofNat most)] H Q := by
  refine Eo.code at_depotref9_Signed rfl ?_
  have hl' := num_getD s most
  by_cases h1 : 1 < s.length
  · have h0 : 0 < s.length := by omega
    by_cases h2 : (s.getD 0 0).toNat = 45
    · have hs : sgn s most = (-(Int.ofNat ((num (s.drop 1) most).getD 0)), (num (s.drop 1) most).isSome) := by
        cases s with
        | nil => simp at h1
        | cons c r => exact if_pos h2
      have hl := num_getD (s.drop 1) most
      have ht : (s.drop 1).take (s.length - 1) = s.drop 1 := List.take_of_length_le (by rw [List.length_drop]; omega)
      have hle : 1 ≤ s.length := by omega
      repeat (first | ((first | apply Xk.sAny | apply Xk.tAny); (case hok => rfl); (case h => intro C hC; simp (disch := omega) only [w1, ↓reduceIte, Nat.reduceEqDiff, Nat.reduceLeDiff, Nat.reduceAdd, Nat.reduceSub, h1, h2, hle, ht]; with_reducible exact hC); refine gc ?_) | refine gm ?_)
      refine rNumber_ev _ _ (by omega) _ _ ?_
      repeat (first | ((first | apply Xk.sAny | apply Xk.tAny); (case hok => rfl); (case h => intro C hC; simp (disch := omega) only [w1, ↓reduceIte, Nat.reduceEqDiff, Nat.reduceLeDiff, Nat.reduceAdd, Nat.reduceSub, negn]; with_reducible exact hC); refine gm ?_) | refine gm ?_)
      rw [hs] at hQ
      exact hQ
    · have hs : sgn s most = (Int.ofNat ((num s most).getD 0), (num s most).isSome) := by
        cases s with
        | nil => rfl
        | cons c r => exact if_neg h2
      repeat (first | ((first | apply Xk.sAny | apply Xk.tAny); (case hok => rfl); (case h => intro C hC; simp (disch := omega) only [w1, ↓reduceIte, Nat.reduceEqDiff, Nat.reduceLeDiff, Nat.reduceAdd, Nat.reduceSub, h1, h2]; with_reducible exact hC); refine gc ?_) | refine gm ?_)
      refine rNumber_ev _ _ (by omega) _ _ ?_
      repeat (first | ((first | apply Xk.sAny | apply Xk.tAny); (case hok => rfl); (case h => intro C hC; simp (disch := omega) only [w1, ↓reduceIte, Nat.reduceEqDiff, Nat.reduceLeDiff, Nat.reduceAdd, Nat.reduceSub]; with_reducible exact hC); refine gm ?_) | refine gm ?_)
      rw [hs] at hQ
      exact hQ
  · have hs : sgn s most = (Int.ofNat ((num s most).getD 0), (num s most).isSome) := by
      cases s with
      | nil => rfl
      | cons c r =>
        cases r with
        | cons d t => simp at h1
        | nil =>
          have e0 : num [] most = none := if_neg fun h => by simp at h
          by_cases h45 : c.toNat = 45
          · have e1 : num [c] most = none := if_neg fun h => by
              have := h.2.2.1
              simp [dig] at this
              omega
            show (if c.toNat = 45 then _ else _) = _
            rw [if_pos h45, e0, e1]
            rfl
          · exact if_neg h45
    repeat (first | ((first | apply Xk.sAny | apply Xk.tAny); (case hok => rfl); (case h => intro C hC; simp (disch := omega) only [w1, ↓reduceIte, Nat.reduceEqDiff, Nat.reduceLeDiff, Nat.reduceAdd, Nat.reduceSub, h1]; with_reducible exact hC); refine gc ?_) | refine gm ?_)
    refine rNumber_ev _ _ (by omega) _ _ ?_
    repeat (first | ((first | apply Xk.sAny | apply Xk.tAny); (case hok => rfl); (case h => intro C hC; simp (disch := omega) only [w1, ↓reduceIte, Nat.reduceEqDiff, Nat.reduceLeDiff, Nat.reduceAdd, Nat.reduceSub]; with_reducible exact hC); refine gm ?_) | refine gm ?_)
    rw [hs] at hQ
    exact hQ

def verbV : Option (Nat × Nat × Nat × Bool) → AV
  | some (v, l, m, q) => .tup [.int .i64 (.ofNat v), .int .i64 (.ofNat l), .int .i64 (.ofNat m), .bool q]
  | none => .tup [.int .i64 (.ofNat 0), .int .i64 (.ofNat 0), .int .i64 (.ofNat 0), .bool false]

theorem rverb_ev (w : List UInt8) (H : Heap) (Q : AV → Heap → Prop) (hQ : Q (verbV (verbOf w)) H) : Eo lib n_depotref9_verb [.str w] H Q := by
  refine Eo.code at_depotref9_verb rfl ?_
  by_cases h0 : w = [103, 101, 116]
  · subst h0
    have e : verbOf [103, 101, 116] = some (1, 1, 64, false) := by decide
    rw [e] at hQ
    repeat (first | ((first | apply Xk.sAny | apply Xk.tAny); (case hok => rfl); (case h => intro C hC; simp (disch := omega) only [w0, ↓reduceIte, Nat.reduceEqDiff, Nat.reduceLeDiff, Nat.reduceAdd, Nat.reduceSub, eq_self]; with_reducible exact hC); refine gm ?_) | refine gm ?_)
    exact hQ
  by_cases h1 : w = [103, 101, 116, 115]
  · subst h1
    have e : verbOf [103, 101, 116, 115] = some (2, 1, 64, false) := by decide
    rw [e] at hQ
    repeat (first | ((first | apply Xk.sAny | apply Xk.tAny); (case hok => rfl); (case h => intro C hC; simp (disch := omega) only [w0, ↓reduceIte, Nat.reduceEqDiff, Nat.reduceLeDiff, Nat.reduceAdd, Nat.reduceSub, eq_self, h0]; with_reducible exact hC); refine gm ?_) | refine gm ?_)
    exact hQ
  by_cases h2 : w = [115, 101, 116]
  · subst h2
    have e : verbOf [115, 101, 116] = some (3, 4, 4, true) := by decide
    rw [e] at hQ
    repeat (first | ((first | apply Xk.sAny | apply Xk.tAny); (case hok => rfl); (case h => intro C hC; simp (disch := omega) only [w0, ↓reduceIte, Nat.reduceEqDiff, Nat.reduceLeDiff, Nat.reduceAdd, Nat.reduceSub, eq_self, h0, h1]; with_reducible exact hC); refine gm ?_) | refine gm ?_)
    exact hQ
  by_cases h3 : w = [97, 100, 100]
  · subst h3
    have e : verbOf [97, 100, 100] = some (4, 4, 4, true) := by decide
    rw [e] at hQ
    repeat (first | ((first | apply Xk.sAny | apply Xk.tAny); (case hok => rfl); (case h => intro C hC; simp (disch := omega) only [w0, ↓reduceIte, Nat.reduceEqDiff, Nat.reduceLeDiff, Nat.reduceAdd, Nat.reduceSub, eq_self, h0, h1, h2]; with_reducible exact hC); refine gm ?_) | refine gm ?_)
    exact hQ
  by_cases h4 : w = [114, 101, 112, 108, 97, 99, 101]
  · subst h4
    have e : verbOf [114, 101, 112, 108, 97, 99, 101] = some (5, 4, 4, true) := by decide
    rw [e] at hQ
    repeat (first | ((first | apply Xk.sAny | apply Xk.tAny); (case hok => rfl); (case h => intro C hC; simp (disch := omega) only [w0, ↓reduceIte, Nat.reduceEqDiff, Nat.reduceLeDiff, Nat.reduceAdd, Nat.reduceSub, eq_self, h0, h1, h2, h3]; with_reducible exact hC); refine gm ?_) | refine gm ?_)
    exact hQ
  by_cases h5 : w = [97, 112, 112, 101, 110, 100]
  · subst h5
    have e : verbOf [97, 112, 112, 101, 110, 100] = some (6, 4, 4, true) := by decide
    rw [e] at hQ
    repeat (first | ((first | apply Xk.sAny | apply Xk.tAny); (case hok => rfl); (case h => intro C hC; simp (disch := omega) only [w0, ↓reduceIte, Nat.reduceEqDiff, Nat.reduceLeDiff, Nat.reduceAdd, Nat.reduceSub, eq_self, h0, h1, h2, h3, h4]; with_reducible exact hC); refine gm ?_) | refine gm ?_)
    exact hQ
  by_cases h6 : w = [112, 114, 101, 112, 101, 110, 100]
  · subst h6
    have e : verbOf [112, 114, 101, 112, 101, 110, 100] = some (7, 4, 4, true) := by decide
    rw [e] at hQ
    repeat (first | ((first | apply Xk.sAny | apply Xk.tAny); (case hok => rfl); (case h => intro C hC; simp (disch := omega) only [w0, ↓reduceIte, Nat.reduceEqDiff, Nat.reduceLeDiff, Nat.reduceAdd, Nat.reduceSub, eq_self, h0, h1, h2, h3, h4, h5]; with_reducible exact hC); refine gm ?_) | refine gm ?_)
    exact hQ
  by_cases h7 : w = [99, 97, 115]
  · subst h7
    have e : verbOf [99, 97, 115] = some (8, 5, 5, true) := by decide
    rw [e] at hQ
    repeat (first | ((first | apply Xk.sAny | apply Xk.tAny); (case hok => rfl); (case h => intro C hC; simp (disch := omega) only [w0, ↓reduceIte, Nat.reduceEqDiff, Nat.reduceLeDiff, Nat.reduceAdd, Nat.reduceSub, eq_self, h0, h1, h2, h3, h4, h5, h6]; with_reducible exact hC); refine gm ?_) | refine gm ?_)
    exact hQ
  by_cases h8 : w = [100, 101, 108, 101, 116, 101]
  · subst h8
    have e : verbOf [100, 101, 108, 101, 116, 101] = some (9, 1, 1, true) := by decide
    rw [e] at hQ
    repeat (first | ((first | apply Xk.sAny | apply Xk.tAny); (case hok => rfl); (case h => intro C hC; simp (disch := omega) only [w0, ↓reduceIte, Nat.reduceEqDiff, Nat.reduceLeDiff, Nat.reduceAdd, Nat.reduceSub, eq_self, h0, h1, h2, h3, h4, h5, h6, h7]; with_reducible exact hC); refine gm ?_) | refine gm ?_)
    exact hQ
  by_cases h9 : w = [105, 110, 99, 114]
  · subst h9
    have e : verbOf [105, 110, 99, 114] = some (10, 2, 2, true) := by decide
    rw [e] at hQ
    repeat (first | ((first | apply Xk.sAny | apply Xk.tAny); (case hok => rfl); (case h => intro C hC; simp (disch := omega) only [w0, ↓reduceIte, Nat.reduceEqDiff, Nat.reduceLeDiff, Nat.reduceAdd, Nat.reduceSub, eq_self, h0, h1, h2, h3, h4, h5, h6, h7, h8]; with_reducible exact hC); refine gm ?_) | refine gm ?_)
    exact hQ
  by_cases h10 : w = [100, 101, 99, 114]
  · subst h10
    have e : verbOf [100, 101, 99, 114] = some (11, 2, 2, true) := by decide
    rw [e] at hQ
    repeat (first | ((first | apply Xk.sAny | apply Xk.tAny); (case hok => rfl); (case h => intro C hC; simp (disch := omega) only [w0, ↓reduceIte, Nat.reduceEqDiff, Nat.reduceLeDiff, Nat.reduceAdd, Nat.reduceSub, eq_self, h0, h1, h2, h3, h4, h5, h6, h7, h8, h9]; with_reducible exact hC); refine gm ?_) | refine gm ?_)
    exact hQ
  by_cases h11 : w = [116, 111, 117, 99, 104]
  · subst h11
    have e : verbOf [116, 111, 117, 99, 104] = some (12, 2, 2, true) := by decide
    rw [e] at hQ
    repeat (first | ((first | apply Xk.sAny | apply Xk.tAny); (case hok => rfl); (case h => intro C hC; simp (disch := omega) only [w0, ↓reduceIte, Nat.reduceEqDiff, Nat.reduceLeDiff, Nat.reduceAdd, Nat.reduceSub, eq_self, h0, h1, h2, h3, h4, h5, h6, h7, h8, h9, h10]; with_reducible exact hC); refine gm ?_) | refine gm ?_)
    exact hQ
  by_cases h12 : w = [102, 108, 117, 115, 104, 95, 97, 108, 108]
  · subst h12
    have e : verbOf [102, 108, 117, 115, 104, 95, 97, 108, 108] = some (13, 0, 1, true) := by decide
    rw [e] at hQ
    repeat (first | ((first | apply Xk.sAny | apply Xk.tAny); (case hok => rfl); (case h => intro C hC; simp (disch := omega) only [w0, ↓reduceIte, Nat.reduceEqDiff, Nat.reduceLeDiff, Nat.reduceAdd, Nat.reduceSub, eq_self, h0, h1, h2, h3, h4, h5, h6, h7, h8, h9, h10, h11]; with_reducible exact hC); refine gm ?_) | refine gm ?_)
    exact hQ
  by_cases h13 : w = [118, 101, 114, 115, 105, 111, 110]
  · subst h13
    have e : verbOf [118, 101, 114, 115, 105, 111, 110] = some (14, 0, 0, false) := by decide
    rw [e] at hQ
    repeat (first | ((first | apply Xk.sAny | apply Xk.tAny); (case hok => rfl); (case h => intro C hC; simp (disch := omega) only [w0, ↓reduceIte, Nat.reduceEqDiff, Nat.reduceLeDiff, Nat.reduceAdd, Nat.reduceSub, eq_self, h0, h1, h2, h3, h4, h5, h6, h7, h8, h9, h10, h11, h12]; with_reducible exact hC); refine gm ?_) | refine gm ?_)
    exact hQ
  by_cases h14 : w = [118, 101, 114, 98, 111, 115, 105, 116, 121]
  · subst h14
    have e : verbOf [118, 101, 114, 98, 111, 115, 105, 116, 121] = some (15, 1, 1, true) := by decide
    rw [e] at hQ
    repeat (first | ((first | apply Xk.sAny | apply Xk.tAny); (case hok => rfl); (case h => intro C hC; simp (disch := omega) only [w0, ↓reduceIte, Nat.reduceEqDiff, Nat.reduceLeDiff, Nat.reduceAdd, Nat.reduceSub, eq_self, h0, h1, h2, h3, h4, h5, h6, h7, h8, h9, h10, h11, h12, h13]; with_reducible exact hC); refine gm ?_) | refine gm ?_)
    exact hQ
  by_cases h15 : w = [115, 116, 97, 116, 115]
  · subst h15
    have e : verbOf [115, 116, 97, 116, 115] = some (16, 0, 0, false) := by decide
    rw [e] at hQ
    repeat (first | ((first | apply Xk.sAny | apply Xk.tAny); (case hok => rfl); (case h => intro C hC; simp (disch := omega) only [w0, ↓reduceIte, Nat.reduceEqDiff, Nat.reduceLeDiff, Nat.reduceAdd, Nat.reduceSub, eq_self, h0, h1, h2, h3, h4, h5, h6, h7, h8, h9, h10, h11, h12, h13, h14]; with_reducible exact hC); refine gm ?_) | refine gm ?_)
    exact hQ
  by_cases h16 : w = [113, 117, 105, 116]
  · subst h16
    have e : verbOf [113, 117, 105, 116] = some (17, 0, 0, false) := by decide
    rw [e] at hQ
    repeat (first | ((first | apply Xk.sAny | apply Xk.tAny); (case hok => rfl); (case h => intro C hC; simp (disch := omega) only [w0, ↓reduceIte, Nat.reduceEqDiff, Nat.reduceLeDiff, Nat.reduceAdd, Nat.reduceSub, eq_self, h0, h1, h2, h3, h4, h5, h6, h7, h8, h9, h10, h11, h12, h13, h14, h15]; with_reducible exact hC); refine gm ?_) | refine gm ?_)
    exact hQ
  have e : verbOf w = none := by unfold verbOf; simp only [h0, h1, h2, h3, h4, h5, h6, h7, h8, h9, h10, h11, h12, h13, h14, h15, h16, if_false]
  rw [e] at hQ
  repeat (first | ((first | apply Xk.sAny | apply Xk.tAny); (case hok => rfl); (case h => intro C hC; simp (disch := omega) only [w0, ↓reduceIte, Nat.reduceEqDiff, Nat.reduceLeDiff, Nat.reduceAdd, Nat.reduceSub, h0, h1, h2, h3, h4, h5, h6, h7, h8, h9, h10, h11, h12, h13, h14, h15, h16]; with_reducible exact hC); refine gm ?_) | refine gm ?_)
  exact hQ

theorem rwords_ev (s : List UInt8) (hs : s.length < 1000000000) (H : Heap) (Q : AV → Heap → Prop) (hQ : ∀ v H', H'.Ok → HLe H H' → Own H H' 0 1 v (strs (splitW s)) → Q v H') : Eo lib n_depotref9_words [.str s] H Q := by
  refine Eo.ok fun hOk => ?_
  refine Eo.code at_depotref9_words rfl ?_
  repeat (first | ((first | apply Xk.sAny | apply Xk.tAny); (case hok => rfl); (case h => intro C hC; simp (disch := omega) only [w0, ↓reduceIte, Nat.reduceEqDiff, Nat.reduceLeDiff, Nat.reduceAdd, Nat.reduceSub]; with_reducible exact hC); refine gm ?_) | refine gm ?_)
  refine Xk.iter [0, 3, 4, 5] (fun m k H' => ∃ i fv cur v out, m = s.length + 1 - i ∧ i ≤ s.length + 1 ∧ (i = s.length + 1 → splitW s = out) ∧ (i ≤ s.length → splitW s = out ++ splitGo cur (s.drop i)) ∧ out.length ≤ i ∧
    ((fv = Int.negSucc 0 ∧ cur = []) ∨ ∃ a, a < i ∧ fv = Int.ofNat a ∧ cur = (s.drop a).take (i - a)) ∧
    H'.Ok ∧ HLe H H' ∧ Own H H' 0 1 v (strs out) ∧ k = [(0, .str s), (3, v), (4, .int .i64 fv), (5, .int .i64 (.ofNat i))]) rfl ⟨_, 0, Int.negSucc 0, [], .nils, [], rfl, by omega, fun h => by omega, fun _ => rfl, by simp, .inl ⟨rfl, rfl⟩, hOk, HLe.refl _, .inl ⟨rfl, rfl⟩, rfl⟩ ?_
  rintro m k H' ⟨i, fv, cur, v, out, hm, hi, he, hsp, hlen, hcur, hO, hle, hown, rfl⟩
  by_cases hd : s.length < i
  · have hd' : ¬ i ≤ s.length := by omega
    repeat (first | ((first | apply Xk.sAny | apply Xk.tAny); (case hok => rfl); (case h => intro C hC; simp (disch := omega) only [w0, ↓reduceIte, Nat.reduceEqDiff, Nat.reduceLeDiff, Nat.reduceAdd, Nat.reduceSub, hd']; with_reducible exact hC); refine gm ?_) | refine gm ?_)
    rw [← he (by omega)] at hown
    exact hQ _ _ hO hle hown
  have hd' : i ≤ s.length := by omega
  have hsp := hsp hd'
  by_cases hl : i < s.length
  · rw [drop_getD 0 hl] at hsp
    by_cases hb : (s.getD i 0).toNat = 32
    · rw [splitGo_blank _ _ _ hb] at hsp
      rcases hcur with ⟨rfl, rfl⟩ | ⟨a, hai, rfl, rfl⟩
      · rw [if_pos (show ([] : List UInt8).length = 0 from rfl)] at hsp
        repeat (first | ((first | apply Xk.sAny | apply Xk.tAny); (case hok => rfl); (case h => intro C hC; simp (disch := omega) only [w0, ↓reduceIte, Nat.reduceEqDiff, Nat.reduceLeDiff, Nat.reduceAdd, Nat.reduceSub, hd', hl, hb, neg_le, pos_le, neg_lt, pos_lt]; with_reducible exact hC); refine gm ?_) | refine gm ?_)
        exact ⟨rfl, _, by omega, i + 1, Int.negSucc 0, [], v, out, rfl, by omega, by omega, fun _ => hsp, by omega, .inl ⟨rfl, rfl⟩, hO, hle, hown, rfl⟩
      · rw [mid_len s hd' (Nat.le_of_lt hai), if_neg (by omega)] at hsp
        have hia' : a ≤ i := by omega
        obtain ⟨v', H2, e, hO2, hle2, _, hown2, _⟩ := Own.push (w := 1) (bytes := 16) (row := [.str ((s.drop a).take (i - a))]) hO hle hown rfl rfl (by omega) (by rw [strs_len]; omega) (by rw [strs_len]; omega)
        repeat (first | ((first | apply Xk.sAny | apply Xk.tAny); (case hok => rfl); (case h => intro C hC; simp (disch := omega) only [w1, ↓reduceIte, Nat.reduceEqDiff, Nat.reduceLeDiff, Nat.reduceAdd, Nat.reduceSub, hd', hl, hb, e, hia']; with_reducible exact hC); refine gm ?_) | refine gm ?_)
        exact ⟨rfl, _, by omega, i + 1, Int.negSucc 0, [], v', out ++ [(s.drop a).take (i - a)], rfl, by omega, by omega, fun _ => by rw [hsp, List.append_assoc]; rfl, by rw [List.length_append]; simp; omega, .inl ⟨rfl, rfl⟩, hO2, hle2, by rw [strs_app]; exact hown2, rfl⟩
    · rw [splitGo_other _ _ _ hb] at hsp
      rcases hcur with ⟨rfl, rfl⟩ | ⟨a, hai, rfl, rfl⟩
      · repeat (first | ((first | apply Xk.sAny | apply Xk.tAny); (case hok => rfl); (case h => intro C hC; simp (disch := omega) only [w0, ↓reduceIte, Nat.reduceEqDiff, Nat.reduceLeDiff, Nat.reduceAdd, Nat.reduceSub, hd', hl, hb, neg_le, pos_le, neg_lt, pos_lt]; with_reducible exact hC); refine gm ?_) | refine gm ?_)
        refine ⟨rfl, _, by omega, i + 1, Int.ofNat i, (s.drop i).take (i + 1 - i), v, out, rfl, by omega, by omega, fun _ => ?_, by omega, .inr ⟨i, by omega, rfl, rfl⟩, hO, hle, hown, rfl⟩
        rw [hsp, ← mid_add s hl (Nat.le_refl i), Nat.sub_self, List.take_zero]
      · rw [mid_add s hl (Nat.le_of_lt hai)] at hsp
        repeat (first | ((first | apply Xk.sAny | apply Xk.tAny); (case hok => rfl); (case h => intro C hC; simp (disch := omega) only [w0, ↓reduceIte, Nat.reduceEqDiff, Nat.reduceLeDiff, Nat.reduceAdd, Nat.reduceSub, hd', hl, hb, Nat.not_lt_zero]; with_reducible exact hC); refine gm ?_) | refine gm ?_)
        exact ⟨rfl, _, by omega, i + 1, Int.ofNat a, _, v, out, rfl, by omega, by omega, fun _ => hsp, by omega, .inr ⟨a, by omega, rfl, rfl⟩, hO, hle, hown, rfl⟩
  · rw [show s.drop i = [] from List.drop_eq_nil_of_le (by omega), splitGo_nil] at hsp
    rcases hcur with ⟨rfl, rfl⟩ | ⟨a, hai, rfl, rfl⟩
    · rw [if_pos (show ([] : List UInt8).length = 0 from rfl), List.append_nil] at hsp
      repeat (first | ((first | apply Xk.sAny | apply Xk.tAny); (case hok => rfl); (case h => intro C hC; simp (disch := omega) only [w0, ↓reduceIte, Nat.reduceEqDiff, Nat.reduceLeDiff, Nat.reduceAdd, Nat.reduceSub, hd', hl, neg_le, pos_le, neg_lt, pos_lt]; with_reducible exact hC); refine gm ?_) | refine gm ?_)
      exact ⟨rfl, _, by omega, i + 1, Int.negSucc 0, [], v, out, rfl, by omega, fun _ => hsp, fun h => by omega, by omega, .inl ⟨rfl, rfl⟩, hO, hle, hown, rfl⟩
    · rw [mid_len s hd' (Nat.le_of_lt hai), if_neg (by omega)] at hsp
      have hia' : a ≤ i := by omega
      obtain ⟨v', H2, e, hO2, hle2, _, hown2, _⟩ := Own.push (w := 1) (bytes := 16) (row := [.str ((s.drop a).take (i - a))]) hO hle hown rfl rfl (by omega) (by rw [strs_len]; omega) (by rw [strs_len]; omega)
      repeat (first | ((first | apply Xk.sAny | apply Xk.tAny); (case hok => rfl); (case h => intro C hC; simp (disch := omega) only [w1, ↓reduceIte, Nat.reduceEqDiff, Nat.reduceLeDiff, Nat.reduceAdd, Nat.reduceSub, hd', hl, e, hia']; with_reducible exact hC); refine gm ?_) | refine gm ?_)
      exact ⟨rfl, _, by omega, i + 1, Int.negSucc 0, [], v', out ++ [(s.drop a).take (i - a)], rfl, by omega, fun _ => hsp, fun h => by omega, by rw [List.length_append]; simp; omega, .inl ⟨rfl, rfl⟩, hO2, hle2, by rw [strs_app]; exact hown2, rfl⟩

end Go.Proofs.Ytkjmelfgopammaa
