/- A closed call that is known to answer true, as one step of the library. Conditions: none. -/
import Derived.Test.YtkjmelfgopammaaQsC
import Derived.Test.YtkjmelfgopammaaQrB
namespace Go.Dp
open Go.RowKit

theorem Goes.under {c : Cx} {base : Nat} {ρ : Rho} {H : Heap} {W W' : World} (R : Rel c base ρ H W) (hb : Below W.heap.size W W') : Goes c base ρ H W ρ H W' :=
  ⟨.refl _, ⟨Nat.le_trans R.size hb.size, R.dom, fun b p hp => Nat.lt_of_lt_of_le (R.in_ b p hp) hb.size, fun b p hp => let ⟨x, hx, hr⟩ := R.blk b p hp; ⟨x, hx, hr.heap (hb.block p.c (R.in_ b p hp))⟩, R.low, R.apart, R.glob⟩,
    hb.mono R.size, Nat.le_refl _, fun _ _ h => .inl h, fun _ _ _ => rfl⟩

def runsPrim (args : List AV) (H : Heap) : Option (AV × Heap) := match args with
  | [] => some (.bool true, H)
  | _ => none

theorem ent_runs {c : Cx} {L : Lib} {g : Nat} (hrun : ∀ w, Calls c.P g #[] w fun e w' => e = .returned (.bool true) ∧ Below w.heap.size w w') (hL : L g = some (.prim runsPrim)) : EntOk c L g := by
  refine .inr ⟨runsPrim, hL, fun base ρ H W args vs v H' R hx h => ?_⟩
  cases args with
  | cons a r => cases h
  | nil =>
    cases h
    have hvs : vs = #[] := by
      cases hl : vs.toList with
      | nil => exact Array.toList_eq_nil_iff.1 hl
      | cons a r => rw [hl] at hx; exact hx.elim
    subst hvs
    exact (hrun W).mono fun e W' ⟨h1, h2⟩ => ⟨.bool true, ρ, h1, Goes.under R h2, by rw [VRel_bool]⟩

theorem Eo.runs {L : Lib} {g : Nat} {H : Heap} {Q : AV → Heap → Prop} (hL : L g = some (.prim runsPrim)) (h : Q (.bool true) H) : Eo L g [] H Q :=
  fun hH => ⟨1, .bool true, H, by rw [call_succ]; unfold callBy; rw [hL]; rfl, hH, Nat.le_refl _, h⟩

end Go.Dp
