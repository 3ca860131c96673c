/- slices.Sort of texts: patterns broken; what is nearly sorted. Conditions: none. -/
import Derived.Test.YtihoblfmhighpaaSoD
import Derived.Test.YtihoblfmhighpaaPkC
namespace Go.Proofs.Ytihoblfmhighpaa
open Go.Dp
set_option linter.unusedSimpArgs false
set_option linter.unusedVariables false
set_option maxHeartbeats 2000000
set_option maxRecDepth 8000
attribute [local irreducible] Ex.thnK Ex.inK Ret

theorem bvnat (a : Nat) : BitVec.ofInt 64 (Int.ofNat a) = BitVec.ofNat 64 a := BitVec.ofInt_natCast 64 a
theorem shl_any (x : Int) (k : Nat) : ∃ y, bin .shl (.int .u64 x) (.int .u64 (.ofNat k)) = some (.int .u64 y) := ⟨_, rfl⟩
theorem shr_any (x : Int) (k : Nat) : ∃ y, bin .shr (.int .u64 x) (.int .u64 (.ofNat k)) = some (.int .u64 y) := ⟨_, rfl⟩
theorem xor_any (x y : Int) : ∃ z, bin .xor (.int .u64 x) (.int .u64 y) = some (.int .u64 z) := ⟨_, rfl⟩
theorem and_any (x : Int) (m : Nat) (hm : m < 4294967296) : ∃ r, r ≤ m ∧ bin .and (.int .u64 x) (.int .u64 (.ofNat m)) = some (.int .u64 (.ofNat r)) := by
  refine ⟨(BitVec.ofInt 64 x &&& BitVec.ofInt 64 (Int.ofNat m)).toNat, ?_, ?_⟩
  · rw [bvnat, BitVec.toNat_and, BitVec.toNat_ofNat]
    exact Nat.le_trans Nat.and_le_right (Nat.mod_le _ _)
  · show some (AV.int .u64 (wr .u64 (((BitVec.ofInt 64 x &&& BitVec.ofInt 64 (Int.ofNat m)).toNat : Nat) : Int))) = _
    exact congrArg (fun z => some (AV.int .u64 z)) (wrn_u64 _ (BitVec.isLt _))

theorem xorshift_ev (p : Nat) (x : Int) (H : Heap) (hg : H.get p = some (.cells [.int .u64 x] 1)) (Q : AV → Heap → Prop) (hQ : ∀ y, Q (.int .u64 y) (H.put p (.cells [.int .u64 y] 1))) : Eo lib n_slices_xorshift_Next [.ptr p 0] H Q := by
  refine Eo.ok fun hOk => ?_
  refine Eo.code at_slices_xorshift_Next rfl ?_
  obtain ⟨a1, h1⟩ := shl_any x 13
  obtain ⟨a2, h2⟩ := xor_any x a1
  obtain ⟨a3, h3⟩ := shr_any a2 7
  obtain ⟨a4, h4⟩ := xor_any a2 a3
  obtain ⟨a5, h5⟩ := shl_any a4 17
  obtain ⟨a6, h6⟩ := xor_any a4 a5
  repeat (first | ((first | apply Xk.sAny | apply Xk.tAny); (case hok => rfl); (case h => intro C hC; simp (disch := omega) only [w1, ↓reduceIte, Nat.reduceEqDiff, Nat.reduceLeDiff, Nat.reduceAdd, Nat.reduceSub, hg, h1, h2]; with_reducible exact hC); refine gc ?_) | refine gm ?_)
  repeat (first | ((first | apply Xk.sAny | apply Xk.tAny); (case hok => rfl); (case h => intro C hC; simp (disch := omega) only [w1, ↓reduceIte, Nat.reduceEqDiff, Nat.reduceLeDiff, Nat.reduceAdd, Nat.reduceSub, hg, h1, h2, h3, h4]; with_reducible exact hC); refine gc ?_) | refine gm ?_)
  iterate 2 repeat (first | ((first | apply Xk.sAny | apply Xk.tAny); (case hok => rfl); (case h => intro C hC; simp (disch := omega) only [w1, ↓reduceIte, Nat.reduceEqDiff, Nat.reduceLeDiff, Nat.reduceAdd, Nat.reduceSub, hg, h1, h2, h3, h4, h5, h6]; with_reducible exact hC); refine gc ?_) | refine gm ?_)
  exact hQ a6

theorem l8 : ∀ n : Fin 256, 2 ^ (([0, 1, 2, 2, 3, 3, 3, 3, 4, 4, 4, 4, 4, 4, 4, 4, 5, 5, 5, 5, 5, 5, 5, 5, 5, 5, 5, 5, 5, 5, 5, 5, 6, 6, 6, 6, 6, 6, 6, 6, 6, 6, 6, 6, 6, 6, 6, 6, 6, 6, 6, 6, 6, 6, 6, 6, 6, 6, 6, 6, 6, 6, 6, 6, 7, 7, 7, 7, 7, 7, 7, 7, 7, 7, 7, 7, 7, 7, 7, 7, 7, 7, 7, 7, 7, 7, 7, 7, 7, 7, 7, 7, 7, 7, 7, 7, 7, 7, 7, 7, 7, 7, 7, 7, 7, 7, 7, 7, 7, 7, 7, 7, 7, 7, 7, 7, 7, 7, 7, 7, 7, 7, 7, 7, 7, 7, 7, 7, 8, 8, 8, 8, 8, 8, 8, 8, 8, 8, 8, 8, 8, 8, 8, 8, 8, 8, 8, 8, 8, 8, 8, 8, 8, 8, 8, 8, 8, 8, 8, 8, 8, 8, 8, 8, 8, 8, 8, 8, 8, 8, 8, 8, 8, 8, 8, 8, 8, 8, 8, 8, 8, 8, 8, 8, 8, 8, 8, 8, 8, 8, 8, 8, 8, 8, 8, 8, 8, 8, 8, 8, 8, 8, 8, 8, 8, 8, 8, 8, 8, 8, 8, 8, 8, 8, 8, 8, 8, 8, 8, 8, 8, 8, 8, 8, 8, 8, 8, 8, 8, 8, 8, 8, 8, 8, 8, 8, 8, 8, 8, 8, 8, 8, 8, 8, 8, 8, 8, 8, 8, 8, 8, 8, 8, 8, 8, 8] : List UInt8).getD n.1 0).toNat ≤ 2 * n.1 + 1 ∧ (([0, 1, 2, 2, 3, 3, 3, 3, 4, 4, 4, 4, 4, 4, 4, 4, 5, 5, 5, 5, 5, 5, 5, 5, 5, 5, 5, 5, 5, 5, 5, 5, 6, 6, 6, 6, 6, 6, 6, 6, 6, 6, 6, 6, 6, 6, 6, 6, 6, 6, 6, 6, 6, 6, 6, 6, 6, 6, 6, 6, 6, 6, 6, 6, 7, 7, 7, 7, 7, 7, 7, 7, 7, 7, 7, 7, 7, 7, 7, 7, 7, 7, 7, 7, 7, 7, 7, 7, 7, 7, 7, 7, 7, 7, 7, 7, 7, 7, 7, 7, 7, 7, 7, 7, 7, 7, 7, 7, 7, 7, 7, 7, 7, 7, 7, 7, 7, 7, 7, 7, 7, 7, 7, 7, 7, 7, 7, 7, 8, 8, 8, 8, 8, 8, 8, 8, 8, 8, 8, 8, 8, 8, 8, 8, 8, 8, 8, 8, 8, 8, 8, 8, 8, 8, 8, 8, 8, 8, 8, 8, 8, 8, 8, 8, 8, 8, 8, 8, 8, 8, 8, 8, 8, 8, 8, 8, 8, 8, 8, 8, 8, 8, 8, 8, 8, 8, 8, 8, 8, 8, 8, 8, 8, 8, 8, 8, 8, 8, 8, 8, 8, 8, 8, 8, 8, 8, 8, 8, 8, 8, 8, 8, 8, 8, 8, 8, 8, 8, 8, 8, 8, 8, 8, 8, 8, 8, 8, 8, 8, 8, 8, 8, 8, 8, 8, 8, 8, 8, 8, 8, 8, 8, 8, 8, 8, 8, 8, 8, 8, 8, 8, 8, 8, 8, 8, 8] : List UInt8).getD n.1 0).toNat ≤ 8 := by decide +kernel
theorem l8' {n : Nat} (h : n < 256) : 2 ^ (([0, 1, 2, 2, 3, 3, 3, 3, 4, 4, 4, 4, 4, 4, 4, 4, 5, 5, 5, 5, 5, 5, 5, 5, 5, 5, 5, 5, 5, 5, 5, 5, 6, 6, 6, 6, 6, 6, 6, 6, 6, 6, 6, 6, 6, 6, 6, 6, 6, 6, 6, 6, 6, 6, 6, 6, 6, 6, 6, 6, 6, 6, 6, 6, 7, 7, 7, 7, 7, 7, 7, 7, 7, 7, 7, 7, 7, 7, 7, 7, 7, 7, 7, 7, 7, 7, 7, 7, 7, 7, 7, 7, 7, 7, 7, 7, 7, 7, 7, 7, 7, 7, 7, 7, 7, 7, 7, 7, 7, 7, 7, 7, 7, 7, 7, 7, 7, 7, 7, 7, 7, 7, 7, 7, 7, 7, 7, 7, 8, 8, 8, 8, 8, 8, 8, 8, 8, 8, 8, 8, 8, 8, 8, 8, 8, 8, 8, 8, 8, 8, 8, 8, 8, 8, 8, 8, 8, 8, 8, 8, 8, 8, 8, 8, 8, 8, 8, 8, 8, 8, 8, 8, 8, 8, 8, 8, 8, 8, 8, 8, 8, 8, 8, 8, 8, 8, 8, 8, 8, 8, 8, 8, 8, 8, 8, 8, 8, 8, 8, 8, 8, 8, 8, 8, 8, 8, 8, 8, 8, 8, 8, 8, 8, 8, 8, 8, 8, 8, 8, 8, 8, 8, 8, 8, 8, 8, 8, 8, 8, 8, 8, 8, 8, 8, 8, 8, 8, 8, 8, 8, 8, 8, 8, 8, 8, 8, 8, 8, 8, 8, 8, 8, 8, 8, 8, 8] : List UInt8).getD n 0).toNat ≤ 2 * n + 1 ∧ (([0, 1, 2, 2, 3, 3, 3, 3, 4, 4, 4, 4, 4, 4, 4, 4, 5, 5, 5, 5, 5, 5, 5, 5, 5, 5, 5, 5, 5, 5, 5, 5, 6, 6, 6, 6, 6, 6, 6, 6, 6, 6, 6, 6, 6, 6, 6, 6, 6, 6, 6, 6, 6, 6, 6, 6, 6, 6, 6, 6, 6, 6, 6, 6, 7, 7, 7, 7, 7, 7, 7, 7, 7, 7, 7, 7, 7, 7, 7, 7, 7, 7, 7, 7, 7, 7, 7, 7, 7, 7, 7, 7, 7, 7, 7, 7, 7, 7, 7, 7, 7, 7, 7, 7, 7, 7, 7, 7, 7, 7, 7, 7, 7, 7, 7, 7, 7, 7, 7, 7, 7, 7, 7, 7, 7, 7, 7, 7, 8, 8, 8, 8, 8, 8, 8, 8, 8, 8, 8, 8, 8, 8, 8, 8, 8, 8, 8, 8, 8, 8, 8, 8, 8, 8, 8, 8, 8, 8, 8, 8, 8, 8, 8, 8, 8, 8, 8, 8, 8, 8, 8, 8, 8, 8, 8, 8, 8, 8, 8, 8, 8, 8, 8, 8, 8, 8, 8, 8, 8, 8, 8, 8, 8, 8, 8, 8, 8, 8, 8, 8, 8, 8, 8, 8, 8, 8, 8, 8, 8, 8, 8, 8, 8, 8, 8, 8, 8, 8, 8, 8, 8, 8, 8, 8, 8, 8, 8, 8, 8, 8, 8, 8, 8, 8, 8, 8, 8, 8, 8, 8, 8, 8, 8, 8, 8, 8, 8, 8, 8, 8, 8, 8, 8, 8, 8, 8] : List UInt8).getD n 0).toNat ≤ 8 := l8 ⟨n, h⟩
theorem ix8 {x : Nat} (h : x < 256) : ∃ m : Nat, 2 ^ m ≤ 2 * x + 1 ∧ m ≤ 8 ∧ rIxstr (.str [0, 1, 2, 2, 3, 3, 3, 3, 4, 4, 4, 4, 4, 4, 4, 4, 5, 5, 5, 5, 5, 5, 5, 5, 5, 5, 5, 5, 5, 5, 5, 5, 6, 6, 6, 6, 6, 6, 6, 6, 6, 6, 6, 6, 6, 6, 6, 6, 6, 6, 6, 6, 6, 6, 6, 6, 6, 6, 6, 6, 6, 6, 6, 6, 7, 7, 7, 7, 7, 7, 7, 7, 7, 7, 7, 7, 7, 7, 7, 7, 7, 7, 7, 7, 7, 7, 7, 7, 7, 7, 7, 7, 7, 7, 7, 7, 7, 7, 7, 7, 7, 7, 7, 7, 7, 7, 7, 7, 7, 7, 7, 7, 7, 7, 7, 7, 7, 7, 7, 7, 7, 7, 7, 7, 7, 7, 7, 7, 8, 8, 8, 8, 8, 8, 8, 8, 8, 8, 8, 8, 8, 8, 8, 8, 8, 8, 8, 8, 8, 8, 8, 8, 8, 8, 8, 8, 8, 8, 8, 8, 8, 8, 8, 8, 8, 8, 8, 8, 8, 8, 8, 8, 8, 8, 8, 8, 8, 8, 8, 8, 8, 8, 8, 8, 8, 8, 8, 8, 8, 8, 8, 8, 8, 8, 8, 8, 8, 8, 8, 8, 8, 8, 8, 8, 8, 8, 8, 8, 8, 8, 8, 8, 8, 8, 8, 8, 8, 8, 8, 8, 8, 8, 8, 8, 8, 8, 8, 8, 8, 8, 8, 8, 8, 8, 8, 8, 8, 8, 8, 8, 8, 8, 8, 8, 8, 8, 8, 8, 8, 8, 8, 8, 8, 8, 8, 8]) (.int .u8 (.ofNat x)) = some (.int .u8 (.ofNat m)) :=
  ⟨_, (l8' h).1, (l8' h).2, ixs [0, 1, 2, 2, 3, 3, 3, 3, 4, 4, 4, 4, 4, 4, 4, 4, 5, 5, 5, 5, 5, 5, 5, 5, 5, 5, 5, 5, 5, 5, 5, 5, 6, 6, 6, 6, 6, 6, 6, 6, 6, 6, 6, 6, 6, 6, 6, 6, 6, 6, 6, 6, 6, 6, 6, 6, 6, 6, 6, 6, 6, 6, 6, 6, 7, 7, 7, 7, 7, 7, 7, 7, 7, 7, 7, 7, 7, 7, 7, 7, 7, 7, 7, 7, 7, 7, 7, 7, 7, 7, 7, 7, 7, 7, 7, 7, 7, 7, 7, 7, 7, 7, 7, 7, 7, 7, 7, 7, 7, 7, 7, 7, 7, 7, 7, 7, 7, 7, 7, 7, 7, 7, 7, 7, 7, 7, 7, 7, 8, 8, 8, 8, 8, 8, 8, 8, 8, 8, 8, 8, 8, 8, 8, 8, 8, 8, 8, 8, 8, 8, 8, 8, 8, 8, 8, 8, 8, 8, 8, 8, 8, 8, 8, 8, 8, 8, 8, 8, 8, 8, 8, 8, 8, 8, 8, 8, 8, 8, 8, 8, 8, 8, 8, 8, 8, 8, 8, 8, 8, 8, 8, 8, 8, 8, 8, 8, 8, 8, 8, 8, 8, 8, 8, 8, 8, 8, 8, 8, 8, 8, 8, 8, 8, 8, 8, 8, 8, 8, 8, 8, 8, 8, 8, 8, 8, 8, 8, 8, 8, 8, 8, 8, 8, 8, 8, 8, 8, 8, 8, 8, 8, 8, 8, 8, 8, 8, 8, 8, 8, 8, 8, 8, 8, 8, 8, 8] .u8 x (by show x < 256; omega)⟩
theorem shr8 (n : Nat) : bin .shr (.int .u64 (.ofNat n)) (.int .u64 (.ofNat 8)) = some (.int .u64 (.ofNat (n / 256))) := by
  show some (AV.int .u64 ((Int.ofNat n).fdiv (2 ^ 8))) = _
  have e : (Int.ofNat n).fdiv (2 ^ 8) = Int.ofNat (n / 256) := by
    show ((n : Int)).fdiv ((256 : Nat) : Int) = _
    rw [Int.fdiv_eq_ediv_of_nonneg _ (by omega)]
    rfl
  rw [e]
theorem Len_ev' (n : Nat) (hn : n < 65536) (H : Heap) (Q : AV → Heap → Prop) (hQ : ∀ v : Nat, v ≤ 16 → (0 < n → 2 ^ v ≤ 2 * n) → Q (.int .i64 (.ofNat v)) H) : Eo lib n_math_bits_Len [.int .u64 (.ofNat n)] H Q := by
  refine Eo.ok fun hOk => ?_
  refine Eo.code at_math_bits_Len rfl ?_
  iterate 2 repeat (first | ((first | apply Xk.sAny | apply Xk.tAny); (case hok => rfl); (case h => intro C hC; simp (disch := omega) only [w1, ↓reduceIte, Nat.reduceEqDiff, Nat.reduceLeDiff, Nat.reduceAdd, Nat.reduceSub]; with_reducible exact hC); refine gc ?_) | refine gm ?_)
  have e64 : ∀ Q : AV → Heap → Prop, (∀ v : Nat, v ≤ 16 → (0 < n → 2 ^ v ≤ 2 * n) → Q (.int .i64 (.ofNat v)) H) → Eo lib n_math_bits_Len64 [.int .u64 (.ofNat n)] H Q := by
    intro Q hQ
    refine Eo.ok fun hOk => ?_
    refine Eo.code at_math_bits_Len64 rfl ?_
    have c1 : ¬ 4294967296 ≤ n := by omega
    have c2 : ¬ 65536 ≤ n := by omega
    by_cases c3 : 256 ≤ n
    · have hd : n / 256 < 256 := by omega
      obtain ⟨m, b1, b2, h22⟩ := ix8 hd
      have h8 := shr8 n
      iterate 5 repeat (first | ((first | apply Xk.sAny | apply Xk.tAny); (case hok => rfl); (case h => intro C hC; simp (disch := omega) only [w1, ↓reduceIte, Nat.reduceEqDiff, Nat.reduceLeDiff, Nat.reduceAdd, Nat.reduceSub, c1, c2, c3, h8, h22]; with_reducible exact hC); refine gc ?_) | refine gm ?_)
      refine hQ (8 + m) (by omega) fun _ => ?_
      have p1 : 2 ^ (8 + m) = 256 * 2 ^ m := by rw [Nat.pow_add]
      have p2 : 2 ^ m ≤ 2 * (n / 256) := by
        rcases Nat.lt_or_ge (2 * (n / 256)) (2 ^ m) with h | h
        · have e : 2 ^ m = 2 * (n / 256) + 1 := by omega
          cases m with
          | zero => have : 0 < n / 256 := by omega
                    omega
          | succ m => rw [Nat.pow_succ] at e; omega
        · exact h
      rw [p1]
      omega
    · obtain ⟨m, b1, b2, h22⟩ := ix8 (x := n) (by omega)
      iterate 5 repeat (first | ((first | apply Xk.sAny | apply Xk.tAny); (case hok => rfl); (case h => intro C hC; simp (disch := omega) only [w1, ↓reduceIte, Nat.reduceEqDiff, Nat.reduceLeDiff, Nat.reduceAdd, Nat.reduceSub, c1, c2, c3, h22]; with_reducible exact hC); refine gc ?_) | refine gm ?_)
      refine hQ m (by omega) fun h0 => ?_
      rcases Nat.lt_or_ge (2 * n) (2 ^ m) with h | h
      · have e : 2 ^ m = 2 * n + 1 := by omega
        cases m with
        | zero => have : 0 < n := h0
                  omega
        | succ m => rw [Nat.pow_succ] at e; omega
      · exact h
  refine e64 _ fun v h1 h2 => ?_
  iterate 2 repeat (first | ((first | apply Xk.sAny | apply Xk.tAny); (case hok => rfl); (case h => intro C hC; simp (disch := omega) only [w1, ↓reduceIte, Nat.reduceEqDiff, Nat.reduceLeDiff, Nat.reduceAdd, Nat.reduceSub]; with_reducible exact hC); refine gc ?_) | refine gm ?_)
  exact hQ v h1 h2

theorem shl1 (v : Nat) (h : v ≤ 16) : bin .shl (.int .u64 (.ofNat 1)) (.int .i64 (.ofNat v)) = some (.int .u64 (.ofNat (2 ^ v))) := by
  have hp : 2 ^ v ≤ 2 ^ 16 := Nat.pow_le_pow_right (by decide) h
  have := shl64 .i64 1 v (by omega) (by omega)
  rwa [Nat.one_mul] at this
theorem nextPow_ev (n : Nat) (hn : n < 65536) (h0 : 0 < n) (H : Heap) (Q : AV → Heap → Prop) (hQ : ∀ v : Nat, 1 ≤ v → v ≤ 2 * n → Q (.int .u64 (.ofNat v)) H) : Eo lib n_slices_nextPowerOfTwo [.int .i64 (.ofNat n)] H Q := by
  refine Eo.ok fun hOk => ?_
  refine Eo.code at_slices_nextPowerOfTwo rfl ?_
  have hc := cint_u64 .i64 n (by omega)
  iterate 2 repeat (first | ((first | apply Xk.sAny | apply Xk.tAny); (case hok => rfl); (case h => intro C hC; simp (disch := omega) only [w1, ↓reduceIte, Nat.reduceEqDiff, Nat.reduceLeDiff, Nat.reduceAdd, Nat.reduceSub, hc]; with_reducible exact hC); refine gc ?_) | refine gm ?_)
  refine Len_ev' n hn _ _ fun v h1 h2 => ?_
  have hs := shl1 v h1
  iterate 2 repeat (first | ((first | apply Xk.sAny | apply Xk.tAny); (case hok => rfl); (case h => intro C hC; simp (disch := omega) only [w1, ↓reduceIte, Nat.reduceEqDiff, Nat.reduceLeDiff, Nat.reduceAdd, Nat.reduceSub, hs]; with_reducible exact hC); refine gc ?_) | refine gm ?_)
  exact hQ _ (Nat.one_le_two_pow) (h2 h0)

theorem break_ev (c n a b : Nat) (rest : List AV) (H0 H : Heap) (z : List (List UInt8)) (h : SR c n rest H0 z H) (hab : a + 8 ≤ b) (hb : b ≤ n) (hn : n < 65536) (hcl : c < H.next) (hH0 : ∀ q, H.next ≤ q → H0.get q = none) (Q : AV → Heap → Prop)
    (hQ : ∀ G w, SR c n rest H0 w G → PIn a b z w → Q (.tup []) G) : Eo lib n_slices_breakPatternsOrdered_string [.sl c 0 n 1, .int .i64 (.ofNat a), .int .i64 (.ofNat b)] H Q := by
  refine Eo.ok fun hOk => ?_
  refine Eo.code at_slices_breakPatternsOrdered_string rfl ?_
  have hba : a ≤ b := by omega
  have c8 : 8 ≤ b - a := by omega
  have hc := cint_u64 .i64 (b - a) (by omega)
  have hO1 := hOk.new (.cells [.int .u64 (.ofNat (b - a))] 1)
  have hle1 := HLe.new (hOk _ (Nat.le_refl _)) (.cells [.int .u64 (.ofNat (b - a))] 1)
  have R1 := h.le hO1 hle1
  have q4 := quon_i64 (b - a) 4 (by omega) (by omega)
  have m2 := muln_i64 ((b - a) / 4) 2 (by omega)
  have e1 : 1 ≤ a + (b - a) / 4 * 2 := by omega
  repeat (first | ((first | apply Xk.sAny | apply Xk.tAny); (case hok => rfl); (case h => intro C hC; simp (disch := omega) only [w1, ↓reduceIte, Nat.reduceEqDiff, Nat.reduceLeDiff, Nat.reduceAdd, Nat.reduceSub, hba, c8, hc]; with_reducible exact hC); refine gc ?_) | refine gm ?_)
  repeat (first | ((first | apply Xk.sAny | apply Xk.tAny); (case hok => rfl); (case h => intro C hC; simp (disch := omega) only [w1, ↓reduceIte, Nat.reduceEqDiff, Nat.reduceLeDiff, Nat.reduceAdd, Nat.reduceSub, hba, hc]; with_reducible exact hC); refine gc ?_) | refine gm ?_)
  have gx := Heap.get_new_self H (.cells [.int .u64 (.ofNat (b - a))] 1)
  have ne1 : H.next ≠ c := by omega
  have fr1 := hH0 _ (Nat.le_refl H.next)
  generalize H.new (.cells [.int .u64 (.ofNat (b - a))] 1) = H1 at *
  generalize H.next = p at *
  refine nextPow_ev (b - a) (by omega) (by omega) _ _ fun v v1 v2 => ?_
  iterate 2 repeat (first | ((first | apply Xk.sAny | apply Xk.tAny); (case hok => rfl); (case h => intro C hC; simp (disch := omega) only [w1, ↓reduceIte, Nat.reduceEqDiff, Nat.reduceLeDiff, Nat.reduceAdd, Nat.reduceSub, q4, m2, e1]; with_reducible exact hC); refine gc ?_) | refine gm ?_)
  refine Xk.iter [0, 1, 6, 7, 8, 9] (fun m k G => ∃ i w x, m = a + (b - a) / 4 * 2 + 2 - i ∧ a + (b - a) / 4 * 2 - 1 ≤ i ∧ PIn a b z w ∧ SR c n rest H0 w G ∧ G.get p = some (.cells [.int .u64 x] 1) ∧
      k = [(0, .sl c 0 n 1), (1, .int .i64 (.ofNat a)), (6, .int .i64 (.ofNat (b - a))), (7, .ptr p 0), (8, .int .u64 (.ofNat v)), (9, .int .i64 (.ofNat i))]) rfl ⟨_, _, z, _, rfl, Nat.le_refl _, PIn.refl _ _ _, R1, gx, rfl⟩ ?_
  rintro m k G ⟨i, w, x, rfl, hi, hp, hR, hx, rfl⟩
  unfold l0_slices_breakPatternsOrdered_string
  by_cases ci : i ≤ a + (b - a) / 4 * 2 + 1
  case neg =>
    iterate 2 repeat (first | ((first | apply Xk.sAny | apply Xk.tAny); (case hok => rfl); (case h => intro C hC; simp (disch := omega) only [w1, ↓reduceIte, Nat.reduceEqDiff, Nat.reduceLeDiff, Nat.reduceAdd, Nat.reduceSub, q4, m2, ci]; with_reducible exact hC); refine gc ?_) | refine gm ?_)
    exact hQ _ _ hR hp
  iterate 2 repeat (first | ((first | apply Xk.sAny | apply Xk.tAny); (case hok => rfl); (case h => intro C hC; simp (disch := omega) only [w1, ↓reduceIte, Nat.reduceEqDiff, Nat.reduceLeDiff, Nat.reduceAdd, Nat.reduceSub, q4, m2, ci]; with_reducible exact hC); refine gc ?_) | refine gm ?_)
  refine xorshift_ev p x _ hx _ fun y => ?_
  obtain ⟨r, hr, ha⟩ := and_any y (v - 1) (by omega)
  have hcr := cint_i64 .u64 r (by omega)
  have R2 : SR c n rest H0 w (G.put p (.cells [.int .u64 y] 1)) := ⟨hR.ok.put hx _, by rw [Heap.get_put_ne _ _ _ (Ne.symm ne1)]; exact hR.at_, hR.ln, fun q y' hq e => by
    have hqp : q ≠ p := fun e' => by rw [e', fr1] at e; cases e
    rw [Heap.get_put_ne _ _ _ hqp]; exact hR.kp q y' hq e⟩
  have gx2 := Heap.get_put_self G p (.cells [.int .u64 y] 1)
  generalize G.put p (.cells [.int .u64 y] 1) = G2 at *
  repeat (first | ((first | apply Xk.sAny | apply Xk.tAny); (case hok => rfl); (case h => intro C hC; simp (disch := omega) only [w1, ↓reduceIte, Nat.reduceEqDiff, Nat.reduceLeDiff, Nat.reduceAdd, Nat.reduceSub, v1, ha, hcr]; with_reducible exact hC); refine gc ?_) | refine gm ?_)
  have hl := hR.ln
  refine Xk.sIf rfl rfl (fun cr => ?_) (fun cr => ?_)
  repeat (first | ((first | apply Xk.sAny | apply Xk.tAny); (case hok => rfl); (case h => intro C hC; simp (disch := omega) only [w1, ↓reduceIte, Nat.reduceEqDiff, Nat.reduceLeDiff, Nat.reduceAdd, Nat.reduceSub, cr]; with_reducible exact hC); refine gc ?_) | refine gm ?_)
  have ho : r - (b - a) < b - a := by omega
  generalize r - (b - a) = o at ho ⊢
  rotate_left
  repeat (first | ((first | apply Xk.sAny | apply Xk.tAny); (case hok => rfl); (case h => intro C hC; simp (disch := omega) only [w1, ↓reduceIte, Nat.reduceEqDiff, Nat.reduceLeDiff, Nat.reduceAdd, Nat.reduceSub]; with_reducible exact hC); refine gc ?_) | refine gm ?_)
  have ho : r < b - a := by omega
  generalize r = o at ho ⊢
  all_goals
    obtain ⟨cl, cl1, g, k1, k2, l1, l2, o1, l3, l4, R3⟩ := R2.at2 (i := i) (j := a + o) (by omega) (by omega)
    have e3 : i < n := by omega
    have e4 : a + o < n := by omega
    iterate 2 repeat (first | ((first | apply Xk.sAny | apply Xk.tAny); (case hok => rfl); (case h => intro C hC; simp (disch := omega) only [w1, ↓reduceIte, Nat.reduceEqDiff, Nat.reduceLeDiff, Nat.reduceAdd, Nat.reduceSub, g, k1, k2, l1, l2, e3, e4, o1, l3]; with_reducible exact hC); refine gc ?_) | refine gm ?_)
    exact ⟨rfl, _, by omega, i + 1, _, y, rfl, by omega, hp.trans (PIn.swp (by omega) (by omega) (by omega)), R3, by rw [Heap.get_put_ne _ _ _ ne1]; exact gx2, rfl⟩
end Go.Proofs.Ytihoblfmhighpaa
