/- The slot: new, clear, wipe, reset, len. Conditions: none. -/
import Derived.Test.YtihoblfmhighpaaSlF
import Derived.Test.YtihoblfmhighpaaItL
namespace Go.Proofs.Ytihoblfmhighpaa
open Go.Dp
set_option linter.unusedSimpArgs false
set_option linter.unusedVariables false
set_option maxHeartbeats 400000
set_option maxRecDepth 8000
attribute [local irreducible] Ex.thnK Ex.inK Ret

theorem Wipe_ev (κ : Nat) (T : Tags) (H : Heap) (p : Nat) (s : Sw) (h : SW κ T H p s) (hs : s.Rt) (Q : AV → Heap → Prop)
    (hQ : ∀ T' H', Stp (O7 κ) T H T' H' → SW κ T' H' p { s.clear with on := false } → Q (.tup []) H') : Eo lib n_slot_Slot_Wipe [.ptr p 0] H Q := by
  refine Eo.ok fun hOk => ?_
  refine Eo.code at_slot_Slot_Wipe rfl ?_
  repeat (first | ((first | apply Xk.sAny | apply Xk.tAny); (case hok => rfl); (case h => intro C hC; simp (disch := omega) only [w1, ↓reduceIte, Nat.reduceEqDiff, Nat.reduceLeDiff, Nat.reduceAdd, Nat.reduceSub]; with_reducible exact hC); refine gc ?_) | refine gm ?_)
  repeat (first | ((first | apply Xk.sAny | apply Xk.tAny); (case hok => rfl); (case h => intro C hC; simp (disch := omega) only [w1, ↓reduceIte, Nat.reduceEqDiff, Nat.reduceLeDiff, Nat.reduceAdd, Nat.reduceSub]; with_reducible exact hC); refine gc ?_) | refine gm ?_)
  refine clear_ev κ T H p s h hs _ fun T1 H1 s1 W1 => ?_
  obtain ⟨ps, vd, S1⟩ := W1
  have hg1 := S1.head.1
  have hg1 : H1.get p = some (.cells [.int .i64 s.id, .int .i64 (.ofNat s.a), .int .i64 (.ofNat s.b), .bool s.on, .int .i64 s.inc, .int .i64 (.ofNat 0), .ptr ps 0, vd] 1) := hg1
  repeat (first | ((first | apply Xk.sAny | apply Xk.tAny); (case hok => rfl); (case h => intro C hC; simp (disch := omega) only [w1, ↓reduceIte, Nat.reduceEqDiff, Nat.reduceLeDiff, Nat.reduceAdd, Nat.reduceSub, hg1]; with_reducible exact hC); refine gc ?_) | refine gm ?_)
  repeat (first | ((first | apply Xk.sAny | apply Xk.tAny); (case hok => rfl); (case h => intro C hC; simp (disch := omega) only [w1, ↓reduceIte, Nat.reduceEqDiff, Nat.reduceLeDiff, Nat.reduceAdd, Nat.reduceSub, hg1]; with_reducible exact hC); refine gc ?_) | refine gm ?_)
  have s2 := S1.head.stp1 s1.ok (.cells [.int .i64 s.id, .int .i64 (.ofNat s.a), .int .i64 (.ofNat s.b), .bool false, .int .i64 s.inc, .int .i64 (.ofNat 0), .ptr ps 0, vd] 1)
  exact hQ T1 _ ((s1.mono fun u h => ⟨h.1, by have := h.2; omega⟩).trans (s2.mono fun u h => by rw [h]; exact o70)) ⟨ps, vd, S1.head.put _, S1.store.step s2 (fun t ht => noT0 ht), S1.row.step s2 (tg3 (by decide))⟩

theorem sLen_ev (κ : Nat) (T : Tags) (H : Heap) (p : Nat) (s : Sw) (h : SW κ T H p s) (Q : AV → Heap → Prop) (hQ : Q (.int .i64 (.ofNat s.st.l.length)) H) : Eo lib n_slot_Slot_Len [.ptr p 0] H Q := by
  refine Eo.ok fun hOk => ?_
  refine Eo.code at_slot_Slot_Len rfl ?_
  obtain ⟨ps, vd, S⟩ := h
  have hg := S.head.1
  repeat (first | ((first | apply Xk.sAny | apply Xk.tAny); (case hok => rfl); (case h => intro C hC; simp (disch := omega) only [w1, ↓reduceIte, Nat.reduceEqDiff, Nat.reduceLeDiff, Nat.reduceAdd, Nat.reduceSub, hg]; with_reducible exact hC); refine gc ?_) | refine gm ?_)
  repeat (first | ((first | apply Xk.sAny | apply Xk.tAny); (case hok => rfl); (case h => intro C hC; simp (disch := omega) only [w1, ↓reduceIte, Nat.reduceEqDiff, Nat.reduceLeDiff, Nat.reduceAdd, Nat.reduceSub, hg]; with_reducible exact hC); refine gc ?_) | refine gm ?_)
  refine iLen_ev (κ + 1) T H ps s.st S.store _ ?_
  repeat (first | ((first | apply Xk.sAny | apply Xk.tAny); (case hok => rfl); (case h => intro C hC; simp (disch := omega) only [w1, ↓reduceIte, Nat.reduceEqDiff, Nat.reduceLeDiff, Nat.reduceAdd, Nat.reduceSub]; with_reducible exact hC); refine gc ?_) | refine gm ?_)
  repeat (first | ((first | apply Xk.sAny | apply Xk.tAny); (case hok => rfl); (case h => intro C hC; simp (disch := omega) only [w1, ↓reduceIte, Nat.reduceEqDiff, Nat.reduceLeDiff, Nat.reduceAdd, Nat.reduceSub]; with_reducible exact hC); refine gc ?_) | refine gm ?_)
  exact hQ
theorem sInc_ev (κ : Nat) (T : Tags) (H : Heap) (p : Nat) (s : Sw) (h : SW κ T H p s) (Q : AV → Heap → Prop) (hQ : Q (.int .i64 s.inc) H) : Eo lib n_slot_Slot_Inc [.ptr p 0] H Q := by
  refine Eo.ok fun hOk => ?_
  refine Eo.code at_slot_Slot_Inc rfl ?_
  obtain ⟨ps, vd, S⟩ := h
  have hg := S.head.1
  repeat (first | ((first | apply Xk.sAny | apply Xk.tAny); (case hok => rfl); (case h => intro C hC; simp (disch := omega) only [w1, ↓reduceIte, Nat.reduceEqDiff, Nat.reduceLeDiff, Nat.reduceAdd, Nat.reduceSub, hg]; with_reducible exact hC); refine gc ?_) | refine gm ?_)
  repeat (first | ((first | apply Xk.sAny | apply Xk.tAny); (case hok => rfl); (case h => intro C hC; simp (disch := omega) only [w1, ↓reduceIte, Nat.reduceEqDiff, Nat.reduceLeDiff, Nat.reduceAdd, Nat.reduceSub, hg]; with_reducible exact hC); refine gc ?_) | refine gm ?_)
  exact hQ

end Go.Proofs.Ytihoblfmhighpaa
