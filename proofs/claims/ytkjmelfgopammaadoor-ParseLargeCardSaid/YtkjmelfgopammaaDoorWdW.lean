/- Layer 12 and later: slices as they may be read. Conditions: none. -/
import Derived.Test.YtkjmelfgopammaaDoorWdG
namespace Go.Proofs.YtkjmelfgopammaaDoor
open Go.Dp Go.Wd
set_option linter.unusedSimpArgs false
set_option linter.unusedVariables false
set_option maxHeartbeats 2000000
set_option maxRecDepth 4000
attribute [local irreducible] Ex.thnK Ex.inK Ret

theorem _root_.Go.Dp.Sl.sc {H : Heap} {sz : Nat} {v : AV} {cs : List AV} (h : Sl H sz v cs) : v.cells = [v] ∧ v.isSc = true := by
  rcases h with ⟨rfl, _⟩ | ⟨c, o, len, l, w, rest, rfl, _⟩ <;> exact ⟨rfl, rfl⟩
theorem _root_.Go.Dp.Sl.lens {H : Heap} {v : AV} {l : List (List UInt8)} (h : Sl H 1 v (strs l)) : rLensl v = some (.int .i64 (.ofNat l.length)) := by
  rcases h with ⟨rfl, h⟩ | ⟨c, o, len, cl, w, rest, rfl, h2, _⟩
  · cases l with
    | nil => rfl
    | cons a r => cases h
  · rw [strs_len, Nat.mul_one] at h2
    rw [h2]
    rfl
theorem _root_.Go.Dp.Sl.txt {H : Heap} {v : AV} {l : List (List UInt8)} (h : Sl H 1 v (strs l)) (hl : 0 < l.length) : ∃ bl o cl w, v = .sl bl o l.length 1 ∧ Txt H bl o cl w l := by
  rcases h with ⟨rfl, h⟩ | ⟨c, o, len, cl, w, rest, rfl, h2, h3, h4, h5⟩
  · cases l with
    | nil => simp at hl
    | cons a r => cases h
  · rw [strs_len, Nat.mul_one] at h2
    rw [← h2]
    exact ⟨c, o, cl, w, rfl, h3, h4, rest, h5⟩
theorem eqvb (q : Bool) : negIf false (eqv .b (.bool q) (.bool q)) = some (.bool true) := by cases q <;> rfl
theorem nbox (cs : List AV) (h : cs.all AV.isSc = true) : nBox cs = some (.cells cs 1, ptrTo) := by unfold nBox; rw [h]; rfl
theorem _root_.Go.Dp.Sl.cell {H : Heap} {v : AV} {cs : List AV} (h : Sl H 1 v cs) {i : Nat} (hi : i < cs.length) : ∃ b o cl w, v = .sl b o cs.length 1 ∧ H.get b = some (.cells cl w) ∧ o + i + 1 ≤ cl.length ∧ (cl.drop (o + i)).take 1 = [cs.getD i .undef] := by
  rcases h with ⟨rfl, rfl⟩ | ⟨c, o, len, l, w, rest, rfl, h2, h3, h4, h5⟩
  · simp at hi
  · rw [Nat.mul_one] at h2
    have hl : l.length - o = cs.length + rest.length := by rw [← List.length_drop, h5, List.length_append]
    refine ⟨c, o, l, w, by rw [h2], h3, by omega, ?_⟩
    rw [← List.drop_drop, h5, List.drop_append_of_le_length (by omega), drop_getD .undef hi]
    rfl
theorem _root_.Go.Dp.Sl.lensg {H : Heap} {v : AV} {cs : List AV} (h : Sl H 1 v cs) : rLensl v = some (.int .i64 (.ofNat cs.length)) := by
  rcases h with ⟨rfl, rfl⟩ | ⟨c, o, len, l, w, rest, rfl, h2, _⟩
  · rfl
  · rw [h2, Nat.mul_one]; rfl
end Go.Proofs.YtkjmelfgopammaaDoor
