/- Layer 12: numbers. Conditions: none. -/
import Derived.Test.YtjlfnolaifkakaaDoorLibF
import Derived.Test.YtjlfnolaifkakaaDoorQsJ
import Derived.Test.YtjlfnolaifkakaaDoorWdS
namespace Go.Proofs.YtjlfnolaifkakaaDoor
open Go.Dp Go.Wd
set_option linter.unusedSimpArgs false
set_option linter.unusedVariables false
set_option maxHeartbeats 400000
attribute [local irreducible] Ex.thnK Ex.inK Ret

theorem all_drop {p : UInt8 → Bool} {s : List UInt8} {i : Nat} (h : i < s.length) : (s.drop i).all p = (p (s.getD i 0) && (s.drop (i + 1)).all p) := by
  rw [drop_getD 0 h, List.all_cons]

theorem ovf {x n D most : Nat} (h4 : ¬ 57 < x) (h5 : (18446744073709551615 - (x - 48)) / 10 < n) (hge : 10 * n + (x - 48) ≤ D) (hm : most < 18446744073709551616) (hle : D ≤ most) : False := by omega
theorem fit {x n : Nat} (h4 : ¬ 57 < x) (h5 : ¬ (18446744073709551615 - (x - 48)) / 10 < n) : 10 * n + (x - 48) < 18446744073709551616 := by omega

theorem Number_ev (s : List UInt8) (most : Nat) (hm : most < 18446744073709551616) (H : Heap) (Q : AV → Heap → Prop) (hQ : Q (.tup [.int .u64 (.ofNat ((num s most).getD 0)), .bool (num s most).isSome]) H) :
    Eo lib n_words_Number [.str s, .int .u64 (.ofNat most)] H Q := by
  have bad : num s most = none → Q (.tup [.int .u64 (.ofNat 0), .bool false]) H := fun e => by rw [e] at hQ; exact hQ
  refine Eo.code at_words_Number rfl ?_
  repeat (first | ((first | apply Xk.sAny | apply Xk.tAny); (case hok => rfl); (case h => intro C hC; simp (disch := omega) only [w0, ↓reduceIte, Nat.reduceEqDiff, Nat.reduceLeDiff, Nat.reduceAdd, Nat.reduceSub]; with_reducible exact hC); refine gm ?_) | refine gm ?_)
  by_cases h1 : s.length < 1
  · repeat (first | ((first | apply Xk.sAny | apply Xk.tAny); (case hok => rfl); (case h => intro C hC; simp (disch := omega) only [w0, ↓reduceIte, Nat.reduceEqDiff, Nat.reduceLeDiff, Nat.reduceAdd, Nat.reduceSub, h1]; with_reducible exact hC); refine gm ?_) | refine gm ?_)
    exact bad (if_neg fun h => by omega)
  by_cases h2 : 20 < s.length
  · repeat (first | ((first | apply Xk.sAny | apply Xk.tAny); (case hok => rfl); (case h => intro C hC; simp (disch := omega) only [w0, ↓reduceIte, Nat.reduceEqDiff, Nat.reduceLeDiff, Nat.reduceAdd, Nat.reduceSub, h1, h2]; with_reducible exact hC); refine gm ?_) | refine gm ?_)
    exact bad (if_neg fun h => by omega)
  repeat (first | ((first | apply Xk.sAny | apply Xk.tAny); (case hok => rfl); (case h => intro C hC; simp (disch := omega) only [w0, ↓reduceIte, Nat.reduceEqDiff, Nat.reduceLeDiff, Nat.reduceAdd, Nat.reduceSub, h1, h2]; with_reducible exact hC); refine gm ?_) | refine gm ?_)
  refine Xk.iter [0, 1, 19, 20, 6] (fun m k H' => ∃ i n, m = s.length - i ∧ i ≤ s.length ∧ s.all dig = (s.drop i).all dig ∧ decF 0 s = decF n (s.drop i) ∧ n < 18446744073709551616 ∧
    k = [(0, .str s), (1, .int .u64 (.ofNat most)), (19, .int .i64 (.ofNat s.length)), (20, .int .i64 (.ofNat i)), (6, .int .u64 (.ofNat n))] ∧ H' = H) rfl ⟨_, 0, 0, rfl, by omega, rfl, rfl, by omega, rfl, rfl⟩ ?_
  rintro m k H' ⟨i, n, hm', hi, ha, hd, hn, rfl, rfl⟩
  by_cases h : i < s.length
  · rw [all_drop h] at ha
    rw [drop_getD 0 h, decF_cons] at hd
    have hc := (s.getD i 0).toNat_lt
    by_cases h3 : (s.getD i 0).toNat < 48
    · repeat (first | ((first | apply Xk.sAny | apply Xk.tAny); (case hok => rfl); (case h => intro C hC; simp (disch := omega) only [w0, ↓reduceIte, Nat.reduceEqDiff, Nat.reduceLeDiff, Nat.reduceAdd, Nat.reduceSub, h, h3]; with_reducible exact hC); refine gm ?_) | refine gm ?_)
      refine bad (if_neg fun e => ?_)
      rw [ha] at e; unfold dig at e; rw [decide_eq_false (by omega)] at e; exact absurd e.2.2.1 (by simp)
    by_cases h4 : 57 < (s.getD i 0).toNat
    · repeat (first | ((first | apply Xk.sAny | apply Xk.tAny); (case hok => rfl); (case h => intro C hC; simp (disch := omega) only [w0, ↓reduceIte, Nat.reduceEqDiff, Nat.reduceLeDiff, Nat.reduceAdd, Nat.reduceSub, h, h3, h4]; with_reducible exact hC); refine gm ?_) | refine gm ?_)
      refine bad (if_neg fun e => ?_)
      rw [ha] at e; unfold dig at e; rw [decide_eq_false (p := _ ≤ 57) (by omega), Bool.and_false] at e; exact absurd e.2.2.1 (by simp)
    repeat (first | ((first | apply Xk.sAny | apply Xk.tAny); (case hok => rfl); (case h => intro C hC; simp (disch := omega) only [w0, ↓reduceIte, Nat.reduceEqDiff, Nat.reduceLeDiff, Nat.reduceAdd, Nat.reduceSub, h, h3, h4]; with_reducible exact hC); refine gm ?_) | refine gm ?_)
    refine Xk.sIf rfl rfl (fun h5 => ?_) (fun h5 => ?_)
    · repeat (first | ((first | apply Xk.sAny | apply Xk.tAny); (case hok => rfl); (case h => intro C hC; simp (disch := omega) only [w0, ↓reduceIte, Nat.reduceEqDiff, Nat.reduceLeDiff, Nat.reduceAdd, Nat.reduceSub]; with_reducible exact hC); refine gm ?_) | refine gm ?_)
      refine bad (if_neg fun e => ?_)
      have := decF_ge (s.drop (i + 1)) (decS n (s.getD i 0))
      rw [hd] at e
      unfold decS at this e
      exact ovf h4 h5 this hm e.2.2.2
    · have hf := fit h4 h5
      unfold decS at hd
      repeat (first | ((first | apply Xk.sAny | apply Xk.tAny); (case hok => rfl); (case h => intro C hC; simp (disch := omega) only [w0, ↓reduceIte, Nat.reduceEqDiff, Nat.reduceLeDiff, Nat.reduceAdd, Nat.reduceSub]; with_reducible exact hC); refine gm ?_) | refine gm ?_)
      refine ⟨rfl, _, ?_, i + 1, _, rfl, by omega, ?_, hd, hf, rfl, rfl⟩
      · omega
      · rw [ha]; unfold dig; rw [decide_eq_true (by omega), decide_eq_true (by omega)]; rfl
  · rw [List.drop_eq_nil_of_le (by omega)] at ha hd
    by_cases h3 : most < n
    · repeat (first | ((first | apply Xk.sAny | apply Xk.tAny); (case hok => rfl); (case h => intro C hC; simp (disch := omega) only [w0, ↓reduceIte, Nat.reduceEqDiff, Nat.reduceLeDiff, Nat.reduceAdd, Nat.reduceSub, h, h3]; with_reducible exact hC); refine gm ?_) | refine gm ?_)
      refine bad (if_neg fun e => ?_)
      rw [hd, decF_nil] at e
      omega
    · repeat (first | ((first | apply Xk.sAny | apply Xk.tAny); (case hok => rfl); (case h => intro C hC; simp (disch := omega) only [w0, ↓reduceIte, Nat.reduceEqDiff, Nat.reduceLeDiff, Nat.reduceAdd, Nat.reduceSub, h, h3]; with_reducible exact hC); refine gm ?_) | refine gm ?_)
      have : num s most = some n := by
        unfold num; rw [hd, ha]; exact if_pos ⟨by omega, by omega, rfl, by rw [decF_nil]; omega⟩
      rw [this] at hQ; exact hQ

end Go.Proofs.YtjlfnolaifkakaaDoor
