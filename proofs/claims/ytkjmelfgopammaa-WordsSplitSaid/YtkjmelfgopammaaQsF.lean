/- From a run of the clean machine to the model's call: laws that answer true. Conditions: none. -/
import Derived.Test.YtkjmelfgopammaaQsE
namespace Go.Dp
open Go.RowKit

theorem law_of {c : Cx} {L : Lib} (O : ProgOk c) (hL : LibOk c L) {g f : Nat} (hg : c.fm g = some f) {args : List AV} {vs : Array Value} {ρ : Rho} {H : Heap} {W : World} (R : Rel c W.heap.size ρ H W) (hx : All2 (VRel c ρ) args vs.toList) (hO : H.Ok)
    (h : Eo L f args H fun v _ => v = .bool true) : Calls c.P g vs W fun e W' => e = .returned (.bool true) ∧ Below W.heap.size W W' := by
  obtain ⟨n, v, H', h1, h2, h3, rfl⟩ := h hO
  refine (call_ok O hL n W.heap.size ρ H W g f args vs (.bool true) H' hg R hx h1).mono fun e W' ⟨v', ρ', q1, q2, q3⟩ => ?_
  rw [VRel_bool] at q3
  subst q3
  exact ⟨q1, q2.below⟩

end Go.Dp
