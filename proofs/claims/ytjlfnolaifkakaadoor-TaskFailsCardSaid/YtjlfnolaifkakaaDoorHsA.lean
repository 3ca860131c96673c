/- chain.Hash. Conditions: none. -/
import Derived.Test.YtjlfnolaifkakaaDoorChP
import Derived.Test.YtjlfnolaifkakaaDoorLibF
namespace Go.Proofs.YtjlfnolaifkakaaDoor
open Go.Dp
set_option linter.unusedSimpArgs false
set_option linter.unusedVariables false
set_option maxHeartbeats 400000
set_option maxRecDepth 8000
attribute [local irreducible] Ex.thnK Ex.inK Ret

theorem bxor (a b : Int) : bin .xor (.int .u32 a) (.int .u32 b) = some (.int .u32 (wr .u32 ((BitVec.ofInt 32 a ^^^ BitVec.ofInt 32 b).toNat : Nat))) := rfl
theorem bmul32 (a b : Int) : bin .mul (.int .u32 a) (.int .u32 b) = some (.int .u32 (wr .u32 (a * b))) := rfl
theorem cu32 (j : IntKind) (a : Nat) (h : a < 4294967296) : rCint .u32 (.int j (.ofNat a)) = some (.int .u32 (.ofNat a)) := by
  show some (AV.int .u32 (wr .u32 (.ofNat a))) = _
  rw [wr_eq]
  simp [IntKind.wrap, IntKind.bits, IntKind.signed]
  omega
theorem Hash_ev (key : List UInt8) (hk : key.length ≤ 1000000) (H : Heap) (Q : AV → Heap → Prop) (hQ : Q (.int .u32 (.ofNat (hashN key))) H) : Eo lib n_chain_Hash [.str key] H Q := by
  refine Eo.ok fun hOk => ?_
  refine Eo.code at_chain_Hash rfl ?_
  repeat (first | ((first | apply Xk.sAny | apply Xk.tAny); (case hok => rfl); (case h => intro C hC; simp (disch := omega) only [w1, ↓reduceIte, Nat.reduceEqDiff, Nat.reduceLeDiff, Nat.reduceAdd, Nat.reduceSub]; with_reducible exact hC); refine gc ?_) | refine gm ?_)
  refine Xk.iter [0, 3, 6, 7] (fun m k H' => ∃ i, m = key.length - i ∧ i ≤ key.length ∧ k = [(0, .str key), (3, .int .u32 ((key.take i).foldl hstep (Int.ofNat 2166136261))), (6, .int .i64 (.ofNat key.length)), (7, .int .i64 (.ofNat i))] ∧ H' = H) rfl
    ⟨_, 0, rfl, Nat.zero_le _, rfl, rfl⟩ ?_
  rintro m k H' ⟨i, rfl, hi, rfl, rfl⟩
  unfold l0_chain_Hash
  by_cases c : i < key.length
  · have hs : (key.take (i + 1)).foldl hstep (Int.ofNat 2166136261) = hstep ((key.take i).foldl hstep (Int.ofNat 2166136261)) (key.getD i 0) := by
      rw [List.take_add_one, List.foldl_append, List.getElem?_eq_getElem c, List.getD_eq_getElem?_getD, List.getElem?_eq_getElem c]
      rfl
    generalize (key.take i).foldl hstep (Int.ofNat 2166136261) = z at hs
    have hb := (key.getD i 0).toNat_lt
    have hb2 := cu32 .u8 (key.getD i 0).toNat (by omega)
    repeat (first | ((first | apply Xk.sAny | apply Xk.tAny); (case hok => rfl); (case h => intro C hC; simp (disch := omega) only [w1, ↓reduceIte, Nat.reduceEqDiff, Nat.reduceLeDiff, Nat.reduceAdd, Nat.reduceSub, c, bxor, bmul32, hb2]; with_reducible exact hC); refine gc ?_) | refine gm ?_)
    repeat (first | ((first | apply Xk.sAny | apply Xk.tAny); (case hok => rfl); (case h => intro C hC; simp (disch := omega) only [w1, ↓reduceIte, Nat.reduceEqDiff, Nat.reduceLeDiff, Nat.reduceAdd, Nat.reduceSub, c, bxor, bmul32, hb2]; with_reducible exact hC); refine gc ?_) | refine gm ?_)
    refine ⟨rfl, _, by omega, i + 1, rfl, by omega, ?_, rfl⟩
    rw [hs]
    rfl
  · repeat (first | ((first | apply Xk.sAny | apply Xk.tAny); (case hok => rfl); (case h => intro C hC; simp (disch := omega) only [w1, ↓reduceIte, Nat.reduceEqDiff, Nat.reduceLeDiff, Nat.reduceAdd, Nat.reduceSub, c]; with_reducible exact hC); refine gc ?_) | refine gm ?_)
    obtain rfl : i = key.length := by omega
    rw [List.take_length]
    have he := (hashI_eq key).1
    unfold hashI at he
    rw [he]
    repeat (first | ((first | apply Xk.sAny | apply Xk.tAny); (case hok => rfl); (case h => intro C hC; simp (disch := omega) only [w1, ↓reduceIte, Nat.reduceEqDiff, Nat.reduceLeDiff, Nat.reduceAdd, Nat.reduceSub, c]; with_reducible exact hC); refine gc ?_) | refine gm ?_)
    exact hQ

end Go.Proofs.YtjlfnolaifkakaaDoor
