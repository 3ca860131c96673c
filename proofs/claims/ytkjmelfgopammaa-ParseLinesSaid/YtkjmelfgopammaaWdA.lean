/- Layer 12's functions of the program: what a call of each comes to. Conditions: none. -/
import Derived.Test.YtkjmelfgopammaaLibP
import Derived.Test.YtkjmelfgopammaaQsJ
import Derived.Test.YtkjmelfgopammaaWdS
namespace Go.Proofs.Ytkjmelfgopammaa
open Go.Dp Go.Wd
set_option linter.unusedSimpArgs false
set_option linter.unusedVariables false
set_option maxHeartbeats 400000
attribute [local irreducible] Ex.thnK Ex.inK Ret

theorem all_drop {p : UInt8 → Bool} {s : List UInt8} {i : Nat} (h : i < s.length) : (s.drop i).all p = (p (s.getD i 0) && (s.drop (i + 1)).all p) := by
  rw [drop_getD 0 h, List.all_cons]

theorem Key_ev (s : List UInt8) (H : Heap) (Q : AV → Heap → Prop) (hQ : Q (.bool (keyOk s)) H) : Eo lib n_words_Key [.str s] H Q := by
  refine Eo.code at_words_Key rfl ?_
  repeat (first | ((first | apply Xk.sAny | apply Xk.tAny); (case hok => rfl); (case h => intro C hC; simp (disch := omega) only [w0, ↓reduceIte, Nat.reduceEqDiff, Nat.reduceLeDiff, Nat.reduceAdd, Nat.reduceSub]; with_reducible exact hC); refine gm ?_) | refine gm ?_)
  by_cases h1 : s.length < 1
  · repeat (first | ((first | apply Xk.sAny | apply Xk.tAny); (case hok => rfl); (case h => intro C hC; simp (disch := omega) only [w0, ↓reduceIte, Nat.reduceEqDiff, Nat.reduceLeDiff, Nat.reduceAdd, Nat.reduceSub, h1]; with_reducible exact hC); refine gm ?_) | refine gm ?_)
    have : keyOk s = false := by simp [keyOk]; omega
    rw [this] at hQ; exact hQ
  by_cases h2 : 250 < s.length
  · repeat (first | ((first | apply Xk.sAny | apply Xk.tAny); (case hok => rfl); (case h => intro C hC; simp (disch := omega) only [w0, ↓reduceIte, Nat.reduceEqDiff, Nat.reduceLeDiff, Nat.reduceAdd, Nat.reduceSub, h1, h2]; with_reducible exact hC); refine gm ?_) | refine gm ?_)
    have : keyOk s = false := by simp [keyOk]; omega
    rw [this] at hQ; exact hQ
  repeat (first | ((first | apply Xk.sAny | apply Xk.tAny); (case hok => rfl); (case h => intro C hC; simp (disch := omega) only [w0, ↓reduceIte, Nat.reduceEqDiff, Nat.reduceLeDiff, Nat.reduceAdd, Nat.reduceSub, h1, h2]; with_reducible exact hC); refine gm ?_) | refine gm ?_)
  refine Xk.iter [0, 13, 14] (fun m k H' => ∃ i, m = s.length - i ∧ i ≤ s.length ∧ keyOk s = (s.drop i).all keyCh ∧ k = [(0, .str s), (13, .int .i64 (.ofNat s.length)), (14, .int .i64 (.ofNat i))] ∧ H' = H) rfl ⟨_, 0, rfl, by omega, by unfold keyOk; rw [decide_eq_true (by omega), decide_eq_true (by omega)]; rfl, rfl, rfl⟩ ?_
  rintro m k H' ⟨i, hm, hi, hk, rfl, rfl⟩
  by_cases h : i < s.length
  · rw [all_drop h] at hk
    by_cases h3 : (s.getD i 0).toNat ≤ 32
    · repeat (first | ((first | apply Xk.sAny | apply Xk.tAny); (case hok => rfl); (case h => intro C hC; simp (disch := omega) only [w0, ↓reduceIte, Nat.reduceEqDiff, Nat.reduceLeDiff, Nat.reduceAdd, Nat.reduceSub, h, h3]; with_reducible exact hC); refine gm ?_) | refine gm ?_)
      have : keyOk s = false := by rw [hk]; unfold keyCh; rw [decide_eq_false (by omega)]; rfl
      rw [this] at hQ; exact hQ
    · by_cases h4 : (s.getD i 0).toNat = 127
      · repeat (first | ((first | apply Xk.sAny | apply Xk.tAny); (case hok => rfl); (case h => intro C hC; simp (disch := omega) only [w0, ↓reduceIte, Nat.reduceEqDiff, Nat.reduceLeDiff, Nat.reduceAdd, Nat.reduceSub, h, h3, h4]; with_reducible exact hC); refine gm ?_) | refine gm ?_)
        have : keyOk s = false := by rw [hk]; unfold keyCh; rw [decide_eq_false (p := _ ≠ 127) (fun e => e h4), Bool.and_false]; rfl
        rw [this] at hQ; exact hQ
      · repeat (first | ((first | apply Xk.sAny | apply Xk.tAny); (case hok => rfl); (case h => intro C hC; simp (disch := omega) only [w0, ↓reduceIte, Nat.reduceEqDiff, Nat.reduceLeDiff, Nat.reduceAdd, Nat.reduceSub, h, h3, h4]; with_reducible exact hC); refine gm ?_) | refine gm ?_)
        refine ⟨rfl, _, ?_, i + 1, rfl, by omega, ?_, rfl, rfl⟩
        · omega
        · rw [hk]; unfold keyCh; rw [decide_eq_true (by omega), decide_eq_true h4]; rfl
  · repeat (first | ((first | apply Xk.sAny | apply Xk.tAny); (case hok => rfl); (case h => intro C hC; simp (disch := omega) only [w0, ↓reduceIte, Nat.reduceEqDiff, Nat.reduceLeDiff, Nat.reduceAdd, Nat.reduceSub, h]; with_reducible exact hC); refine gm ?_) | refine gm ?_)
    rw [hk, List.drop_eq_nil_of_le (by omega)] at hQ
    exact hQ

theorem Storing_ev (v : Nat) (H : Heap) (Q : AV → Heap → Prop) (hQ : Q (.bool (decide (3 ≤ v ∧ v ≤ 8))) H) : Eo lib n_words_Storing [.int .i64 (.ofNat v)] H Q := by
  refine Eo.code at_words_Storing rfl ?_
  by_cases h : 3 ≤ v
  · repeat (first | ((first | apply Xk.sAny | apply Xk.tAny); (case hok => rfl); (case h => intro C hC; simp (disch := omega) only [w0, ↓reduceIte, Nat.reduceEqDiff, Nat.reduceLeDiff, Nat.reduceAdd, Nat.reduceSub, h]; with_reducible exact hC); refine gm ?_) | refine gm ?_)
    have : decide (3 ≤ v ∧ v ≤ 8) = decide (v ≤ 8) := by simp [h]
    rw [this] at hQ; exact hQ
  · repeat (first | ((first | apply Xk.sAny | apply Xk.tAny); (case hok => rfl); (case h => intro C hC; simp (disch := omega) only [w0, ↓reduceIte, Nat.reduceEqDiff, Nat.reduceLeDiff, Nat.reduceAdd, Nat.reduceSub, h]; with_reducible exact hC); refine gm ?_) | refine gm ?_)
    have : decide (3 ≤ v ∧ v ≤ 8) = false := by simp [h]
    rw [this] at hQ; exact hQ

theorem ovf {x n D most : Nat} (h4 : ¬ 57 < x) (h5 : (18446744073709551615 - (x - 48)) / 10 < n) (hge : 10 * n + (x - 48) ≤ D) (hm : most < 18446744073709551616) (hle : D ≤ most) : False := by omega
theorem fit {x n : Nat} (h4 : ¬ 57 < x) (h5 : ¬ (18446744073709551615 - (x - 48)) / 10 < n) : 10 * n + (x - 48) < 18446744073709551616 := by omega

theorem Number_ev (s : List UInt8) (most : Nat) (hm : most < 18446744073709551616) (H : Heap) (Q : AV → Heap → Prop) (hQ : Q (.tup [.int .u64 (.ofNat ((num s most).getD 0)), .bool (num s most).isSome]) H) :
    Eo lib n_words_Number [.str s, .int .u64 (.ofNat most)] H Q := by
  have bad : num s most = none → Q (.tup [.int .u64 (.ofNat 0), .bool false]) H := fun e => by rw [e] at hQ; exact hQ
  refine Eo.code at_words_Number rfl ?_
  repeat (first | ((first | apply Xk.sAny | apply Xk.tAny); (case hok => rfl); (case h => intro C hC; simp (disch := omega) only [w0, ↓reduceIte, Nat.reduceEqDiff, Nat.reduceLeDiff, Nat.reduceAdd, Nat.reduceSub]; with_reducible exact hC); refine gm ?_) | refine gm ?_)
  by_cases h1 : s.length < 1
  · repeat (first | ((first | apply Xk.sAny | apply Xk.tAny); (case hok => rfl); (case h => intro C hC; simp (disch := omega) only [w0, ↓reduceIte, Nat.reduceEqDiff, Nat.reduceLeDiff, Nat.reduceAdd, Nat.reduceSub, h1]; with_reducible exact hC); refine gm ?_) | refine gm ?_)
    exact bad (if_neg fun h => by omega)
  by_cases h2 : 20 < s.length
  · repeat (first | ((first | apply Xk.sAny | apply Xk.tAny); (case hok => rfl); (case h => intro C hC; simp (disch := omega) only [w0, ↓reduceIte, Nat.reduceEqDiff, Nat.reduceLeDiff, Nat.reduceAdd, Nat.reduceSub, h1, h2]; with_reducible exact hC); refine gm ?_) | refine gm ?_)
    exact bad (if_neg fun h => by omega)
  repeat (first | ((first | apply Xk.sAny | apply Xk.tAny); (case hok => rfl); (case h => intro C hC; simp (disch := omega) only [w0, ↓reduceIte, Nat.reduceEqDiff, Nat.reduceLeDiff, Nat.reduceAdd, Nat.reduceSub, h1, h2]; with_reducible exact hC); refine gm ?_) | refine gm ?_)
  refine Xk.iter [0, 1, 19, 20, 6] (fun m k H' => ∃ i n, m = s.length - i ∧ i ≤ s.length ∧ s.all dig = (s.drop i).all dig ∧ decF 0 s = decF n (s.drop i) ∧ n < 18446744073709551616 ∧
    k = [(0, .str s), (1, .int .u64 (.ofNat most)), (19, .int .i64 (.ofNat s.length)), (20, .int .i64 (.ofNat i)), (6, .int .u64 (.ofNat n))] ∧ H' = H) rfl ⟨_, 0, 0, rfl, by omega, rfl, rfl, by omega, rfl, rfl⟩ ?_
  rintro m k H' ⟨i, n, hm', hi, ha, hd, hn, rfl, rfl⟩
  by_cases h : i < s.length
  · rw [all_drop h] at ha
    rw [drop_getD 0 h, decF_cons] at hd
    have hc := (s.getD i 0).toNat_lt
    by_cases h3 : (s.getD i 0).toNat < 48
    · repeat (first | ((first | apply Xk.sAny | apply Xk.tAny); (case hok => rfl); (case h => intro C hC; simp (disch := omega) only [w0, ↓reduceIte, Nat.reduceEqDiff, Nat.reduceLeDiff, Nat.reduceAdd, Nat.reduceSub, h, h3]; with_reducible exact hC); refine gm ?_) | refine gm ?_)
      refine bad (if_neg fun e => ?_)
      rw [ha] at e; unfold dig at e; rw [decide_eq_false (by omega)] at e; exact absurd e.2.2.1 (by simp)
    by_cases h4 : 57 < (s.getD i 0).toNat
    · repeat (first | ((first | apply Xk.sAny | apply Xk.tAny); (case hok => rfl); (case h => intro C hC; simp (disch := omega) only [w0, ↓reduceIte, Nat.reduceEqDiff, Nat.reduceLeDiff, Nat.reduceAdd, Nat.reduceSub, h, h3, h4]; with_reducible exact hC); refine gm ?_) | refine gm ?_)
      refine bad (if_neg fun e => ?_)
      rw [ha] at e; unfold dig at e; rw [decide_eq_false (p := _ ≤ 57) (by omega), Bool.and_false] at e; exact absurd e.2.2.1 (by simp)
    repeat (first | ((first | apply Xk.sAny | apply Xk.tAny); (case hok => rfl); (case h => intro C hC; simp (disch := omega) only [w0, ↓reduceIte, Nat.reduceEqDiff, Nat.reduceLeDiff, Nat.reduceAdd, Nat.reduceSub, h, h3, h4]; with_reducible exact hC); refine gm ?_) | refine gm ?_)
    refine Xk.sIf rfl rfl (fun h5 => ?_) (fun h5 => ?_)
    · repeat (first | ((first | apply Xk.sAny | apply Xk.tAny); (case hok => rfl); (case h => intro C hC; simp (disch := omega) only [w0, ↓reduceIte, Nat.reduceEqDiff, Nat.reduceLeDiff, Nat.reduceAdd, Nat.reduceSub]; with_reducible exact hC); refine gm ?_) | refine gm ?_)
      refine bad (if_neg fun e => ?_)
      have := decF_ge (s.drop (i + 1)) (decS n (s.getD i 0))
      rw [hd] at e
      unfold decS at this e
      exact ovf h4 h5 this hm e.2.2.2
    · have hf := fit h4 h5
      unfold decS at hd
      repeat (first | ((first | apply Xk.sAny | apply Xk.tAny); (case hok => rfl); (case h => intro C hC; simp (disch := omega) only [w0, ↓reduceIte, Nat.reduceEqDiff, Nat.reduceLeDiff, Nat.reduceAdd, Nat.reduceSub]; with_reducible exact hC); refine gm ?_) | refine gm ?_)
      refine ⟨rfl, _, ?_, i + 1, _, rfl, by omega, ?_, hd, hf, rfl, rfl⟩
      · omega
      · rw [ha]; unfold dig; rw [decide_eq_true (by omega), decide_eq_true (by omega)]; rfl
  · rw [List.drop_eq_nil_of_le (by omega)] at ha hd
    by_cases h3 : most < n
    · repeat (first | ((first | apply Xk.sAny | apply Xk.tAny); (case hok => rfl); (case h => intro C hC; simp (disch := omega) only [w0, ↓reduceIte, Nat.reduceEqDiff, Nat.reduceLeDiff, Nat.reduceAdd, Nat.reduceSub, h, h3]; with_reducible exact hC); refine gm ?_) | refine gm ?_)
      refine bad (if_neg fun e => ?_)
      rw [hd, decF_nil] at e
      omega
    · repeat (first | ((first | apply Xk.sAny | apply Xk.tAny); (case hok => rfl); (case h => intro C hC; simp (disch := omega) only [w0, ↓reduceIte, Nat.reduceEqDiff, Nat.reduceLeDiff, Nat.reduceAdd, Nat.reduceSub, h, h3]; with_reducible exact hC); refine gm ?_) | refine gm ?_)
      have : num s most = some n := by
        unfold num; rw [hd, ha]; exact if_pos ⟨by omega, by omega, rfl, by rw [decF_nil]; omega⟩
      rw [this] at hQ; exact hQ

theorem HasPrefix_ev (s p : List UInt8) (H : Heap) (Q : AV → Heap → Prop) (hQ : Q (.bool (decide (s.take p.length = p))) H) : Eo lib n_internal_stringslite_HasPrefix [.str s, .str p] H Q := by
  refine Eo.code at_internal_stringslite_HasPrefix rfl ?_
  by_cases h : p.length ≤ s.length
  · repeat (first | ((first | apply Xk.sAny | apply Xk.tAny); (case hok => rfl); (case h => intro C hC; simp (disch := omega) only [w0, ↓reduceIte, Nat.reduceEqDiff, Nat.reduceLeDiff, Nat.reduceAdd, Nat.reduceSub, h, rSlstr, bnds, bnd, natOf, nble, Nat.sub_zero, List.drop_zero, Nat.zero_le]; with_reducible exact hC); refine gm ?_) | refine gm ?_)
    exact hQ
  · repeat (first | ((first | apply Xk.sAny | apply Xk.tAny); (case hok => rfl); (case h => intro C hC; simp (disch := omega) only [w0, ↓reduceIte, Nat.reduceEqDiff, Nat.reduceLeDiff, Nat.reduceAdd, Nat.reduceSub, h]; with_reducible exact hC); refine gm ?_) | refine gm ?_)
    have : decide (s.take p.length = p) = false := decide_eq_false fun e => h (by rw [← e, List.length_take]; omega)
    rw [this] at hQ; exact hQ

theorem CutPrefix_ev (s p : List UInt8) (H : Heap) (Q : AV → Heap → Prop) (hQ : Q (if s.take p.length = p then .tup [.str (s.drop p.length), .bool true] else .tup [.str s, .bool false]) H) : Eo lib n_internal_stringslite_CutPrefix [.str s, .str p] H Q := by
  refine Eo.code at_internal_stringslite_CutPrefix rfl ?_
  repeat (first | ((first | apply Xk.sAny | apply Xk.tAny); (case hok => rfl); (case h => intro C hC; simp (disch := omega) only [w0, ↓reduceIte, Nat.reduceEqDiff, Nat.reduceLeDiff, Nat.reduceAdd, Nat.reduceSub]; with_reducible exact hC); refine gc ?_) | refine gm ?_)
  refine HasPrefix_ev _ _ _ _ ?_
  by_cases h : s.take p.length = p
  · have hl : p.length ≤ s.length := by rw [← h, List.length_take]; omega
    repeat (first | ((first | apply Xk.sAny | apply Xk.tAny); (case hok => rfl); (case h => intro C hC; simp (disch := omega) only [w0, ↓reduceIte, Nat.reduceEqDiff, Nat.reduceLeDiff, Nat.reduceAdd, Nat.reduceSub, h, hl, rSlstr, bnds, bnd, natOf, nble, Nat.le_refl]; with_reducible exact hC); refine gm ?_) | refine gm ?_)
    rw [if_pos h] at hQ
    have : (s.drop p.length).take (s.length - p.length) = s.drop p.length := List.take_of_length_le (Nat.le_of_eq List.length_drop)
    rw [← this] at hQ; exact hQ
  · repeat (first | ((first | apply Xk.sAny | apply Xk.tAny); (case hok => rfl); (case h => intro C hC; simp (disch := omega) only [w0, ↓reduceIte, Nat.reduceEqDiff, Nat.reduceLeDiff, Nat.reduceAdd, Nat.reduceSub, h]; with_reducible exact hC); refine gm ?_) | refine gm ?_)
    rw [if_neg h] at hQ; exact hQ

theorem strings_CutPrefix_ev (s p : List UInt8) (H : Heap) (Q : AV → Heap → Prop) (hQ : Q (if s.take p.length = p then .tup [.str (s.drop p.length), .bool true] else .tup [.str s, .bool false]) H) : Eo lib n_strings_CutPrefix [.str s, .str p] H Q := by
  refine Eo.code at_strings_CutPrefix rfl ?_
  repeat (first | ((first | apply Xk.sAny | apply Xk.tAny); (case hok => rfl); (case h => intro C hC; simp (disch := omega) only [w0, ↓reduceIte, Nat.reduceEqDiff, Nat.reduceLeDiff, Nat.reduceAdd, Nat.reduceSub]; with_reducible exact hC); refine gc ?_) | refine gm ?_)
  refine CutPrefix_ev _ _ _ _ ?_
  by_cases h : s.take p.length = p
  · rw [if_pos h] at hQ ⊢
    repeat (first | ((first | apply Xk.sAny | apply Xk.tAny); (case hok => rfl); (case h => intro C hC; simp (disch := omega) only [w0, ↓reduceIte, Nat.reduceEqDiff, Nat.reduceLeDiff, Nat.reduceAdd, Nat.reduceSub, rExt, List.getElem?_cons_zero, List.getElem?_cons_succ]; with_reducible exact hC); refine gm ?_) | refine gm ?_)
    exact hQ
  · rw [if_neg h] at hQ ⊢
    repeat (first | ((first | apply Xk.sAny | apply Xk.tAny); (case hok => rfl); (case h => intro C hC; simp (disch := omega) only [w0, ↓reduceIte, Nat.reduceEqDiff, Nat.reduceLeDiff, Nat.reduceAdd, Nat.reduceSub, rExt, List.getElem?_cons_zero, List.getElem?_cons_succ]; with_reducible exact hC); refine gm ?_) | refine gm ?_)
    exact hQ

theorem negn (n : Nat) (h : n < 9223372036854775808) : un .neg (.int .i64 (.ofNat n)) = some (.int .i64 (-(Int.ofNat n))) := by
  show some (AV.int .i64 (wr .i64 (0 - Int.ofNat n))) = _
  rw [wr_eq]
  congr 2
  simp [IntKind.wrap, IntKind.bits, IntKind.signed]
  omega

theorem signed_ev (s : List UInt8) (most : Nat) (hm : most < 4611686018427387904) (H : Heap) (Q : AV → Heap → Prop) (hQ : Q (.tup [.int .i64 (sgn s most).1, .bool (sgn s most).2]) H) :
    Eo lib n_words_signed [.str s, .int .u64 (.ofNat most)] H Q := by
  refine Eo.code at_words_signed rfl ?_
  repeat (first | ((first | apply Xk.sAny | apply Xk.tAny); (case hok => rfl); (case h => intro C hC; simp (disch := omega) only [w0, ↓reduceIte, Nat.reduceEqDiff, Nat.reduceLeDiff, Nat.reduceAdd, Nat.reduceSub]; with_reducible exact hC); refine gc ?_) | refine gm ?_)
  refine strings_CutPrefix_ev _ _ _ _ ?_
  have hl := num_getD (s.drop [(45 : UInt8)].length) most
  have hl' := num_getD s most
  by_cases h : s.take [(45 : UInt8)].length = [45]
  · rw [if_pos h]
    have hs : sgn s most = (-(Int.ofNat ((num (s.drop 1) most).getD 0)), (num (s.drop 1) most).isSome) := by
      cases s with
      | nil => simp at h
      | cons c r =>
        simp at h
        subst h
        rfl
    repeat (first | ((first | apply Xk.sAny | apply Xk.tAny); (case hok => rfl); (case h => intro C hC; simp (disch := omega) only [w0, ↓reduceIte, Nat.reduceEqDiff, Nat.reduceLeDiff, Nat.reduceAdd, Nat.reduceSub, rExt, List.getElem?_cons_zero, List.getElem?_cons_succ]; with_reducible exact hC); refine gc ?_) | refine gm ?_)
    refine Number_ev _ _ (by omega) _ _ ?_
    repeat (first | ((first | apply Xk.sAny | apply Xk.tAny); (case hok => rfl); (case h => intro C hC; simp (disch := omega) only [w0, ↓reduceIte, Nat.reduceEqDiff, Nat.reduceLeDiff, Nat.reduceAdd, Nat.reduceSub, rExt, List.getElem?_cons_zero, List.getElem?_cons_succ, negn]; with_reducible exact hC); refine gm ?_) | refine gm ?_)
    rw [hs] at hQ
    exact hQ
  · rw [if_neg h]
    have hs : sgn s most = (Int.ofNat ((num s most).getD 0), (num s most).isSome) := by
      cases s with
      | nil => rfl
      | cons c r =>
        refine if_neg fun e => h ?_
        have : c = 45 := UInt8.toNat_inj.1 e
        subst this
        simp
    repeat (first | ((first | apply Xk.sAny | apply Xk.tAny); (case hok => rfl); (case h => intro C hC; simp (disch := omega) only [w0, ↓reduceIte, Nat.reduceEqDiff, Nat.reduceLeDiff, Nat.reduceAdd, Nat.reduceSub, rExt, List.getElem?_cons_zero, List.getElem?_cons_succ]; with_reducible exact hC); refine gc ?_) | refine gm ?_)
    refine Number_ev _ _ (by omega) _ _ ?_
    repeat (first | ((first | apply Xk.sAny | apply Xk.tAny); (case hok => rfl); (case h => intro C hC; simp (disch := omega) only [w0, ↓reduceIte, Nat.reduceEqDiff, Nat.reduceLeDiff, Nat.reduceAdd, Nat.reduceSub, rExt, List.getElem?_cons_zero, List.getElem?_cons_succ, negn]; with_reducible exact hC); refine gm ?_) | refine gm ?_)
    rw [hs] at hQ
    exact hQ

end Go.Proofs.Ytkjmelfgopammaa
