/- Layer 13: plain laws of a parser's feeding. Conditions: none. -/
import Derived.Test.YtkjmelfgopammaaDoorPaI
namespace Go.Proofs.YtkjmelfgopammaaDoor
open Go.Dp Go.Wd
set_option linter.unusedSimpArgs false
set_option linter.unusedVariables false
set_option maxHeartbeats 2000000

/-- an event's keys are few -/
theorem step_keys {p : PS} (hp : p.Ok) : ∀ e ∈ (stepP p).2.2, e.r.keys.length ≤ p.left.length + 2 := by
  have ans : ∀ k t (n : Nat), (evAns k t).r.keys.length ≤ n := fun k t n => Nat.zero_le _
  unfold stepP
  split
  · unfold lineStep
    simp only []
    split
    · intro e he; rw [List.mem_singleton] at he; subst he; exact ans _ _ _
    split
    · intro e he; cases he
    · rw [doLine_eq]
      have hk := lineOf_keys (trimCR (p.left.take (upTo 10 p.left)))
      have ht := upTo_trim (p.left.take (upTo 10 p.left))
      rw [List.length_take] at ht
      split
      · intro e he; rw [List.mem_singleton] at he; subst he; exact ans _ _ _
      split
      · intro e he; rw [List.mem_singleton] at he; subst he; exact ans _ _ _
      split
      · intro e he; rw [List.mem_singleton] at he; subst he; exact ans _ _ _
      split
      · split
        · intro e he; cases he
        · intro e he; rw [List.mem_singleton] at he; subst he; exact ans _ _ _
      split
      · intro e he; cases he
      · intro e he; rw [List.mem_singleton] at he; subst he
        show (lineOf _).1.keys.length ≤ _
        omega
  split
  · rename_i h1
    have hd := (hp.data h1).2.2
    unfold dataStep
    simp only []
    split
    · intro e he; cases he
    split
    · intro e he; cases he
    split
    · intro e he; rw [List.mem_singleton] at he; subst he
      show p.asked.keys.length ≤ _
      omega
    · intro e he; rw [List.mem_singleton] at he; subst he; exact ans _ _ _
  split
  · unfold pastStep
    split <;> (intro e he; cases he)
  · unfold brokenStep
    simp only []
    split <;> (intro e he; cases he)

/-- what a run leaves -/
theorem run_ok {p : PS} (hp : p.Ok) : (runP p).2.Ok ∧ (runP p).2.left.length ≤ p.left.length ∧ (runP p).1.length ≤ meas p ∧ ∀ e ∈ (runP p).1, e.r.keys.length ≤ p.left.length + 2 := by
  have go : ∀ (n : Nat) (p : PS), meas p ≤ n → p.Ok → (runP p).2.Ok ∧ (runP p).2.left.length ≤ p.left.length ∧ (runP p).1.length ≤ meas p ∧ ∀ e ∈ (runP p).1, e.r.keys.length ≤ p.left.length + 2 := by
    intro n
    induction n with
    | zero =>
      intro p h hp
      cases hs : p.shut with
      | true => rw [runP_shut hs]; exact ⟨hp, Nat.le_refl _, Nat.zero_le _, fun e he => by cases he⟩
      | false => obtain ⟨m, hm⟩ := meas_pos hs; omega
    | succ n ih =>
      intro p h hp
      cases hs : p.shut with
      | true => rw [runP_shut hs]; exact ⟨hp, Nat.le_refl _, Nat.zero_le _, fun e he => by cases he⟩
      | false =>
        obtain ⟨o1, o2, o3, o4⟩ := step_ok hp hs
        have ok := step_keys hp
        rcases hq : stepP p with ⟨d, q, es⟩
        rw [hq] at o1 o2 o3 o4 ok
        simp only at o1 o2 o3 o4 ok
        cases d with
        | false => rw [runP_stop hq hs]; exact ⟨o1, o2, Nat.zero_le _, fun e he => by cases he⟩
        | true =>
          have hm := o4 rfl
          obtain ⟨a1, a2, a3, a4⟩ := ih q (by omega) o1
          rw [runP_go hp hq hs]
          refine ⟨a1, Nat.le_trans a2 o2, ?_, fun e he => ?_⟩
          · show (es ++ (runP q).1).length ≤ _
            rw [List.length_append]; omega
          · rcases List.mem_append.1 he with he | he
            · exact ok e he
            · exact Nat.le_trans (a4 e he) (by omega)
  exact go _ p (Nat.le_refl _) hp
theorem meas_le (p : PS) : meas p ≤ 2 * p.left.length + 2 := by
  unfold meas
  split
  · omega
  · split <;> omega
theorem feed_ok {p : PS} (hp : p.Ok) (b : List UInt8) : (feed p b).2.Ok ∧ (feed p b).2.left.length ≤ p.left.length + b.length ∧ (feed p b).1.length ≤ 2 * (p.left.length + b.length) + 2 ∧ ∀ e ∈ (feed p b).1, e.r.keys.length ≤ p.left.length + b.length + 2 := by
  cases hs : p.shut with
  | true => rw [feed_shut hs]; exact ⟨hp, Nat.le_add_right _ _, Nat.zero_le _, fun e he => by cases he⟩
  | false =>
    rw [feed_eq hs]
    have hp2 : PS.Ok { p with left := p.left ++ b } := okM hp.at_ hp.count hp.zero hp.most hp.data hp.asked
    obtain ⟨a1, a2, a3, a4⟩ := run_ok hp2
    have := meas_le { p with left := p.left ++ b }
    simp only [List.length_append] at a2 a4 this
    exact ⟨a1, a2, by omega, a4⟩
end Go.Proofs.YtkjmelfgopammaaDoor
