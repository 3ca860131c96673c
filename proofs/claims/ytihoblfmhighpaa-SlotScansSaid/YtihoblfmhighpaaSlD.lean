/- The slot: a frame is taken. Conditions: none. -/
import Derived.Test.YtihoblfmhighpaaSlC
namespace Go.Proofs.Ytihoblfmhighpaa
open Go.Dp
set_option linter.unusedSimpArgs false
set_option linter.unusedVariables false
set_option maxHeartbeats 400000
set_option maxRecDepth 8000
attribute [local irreducible] Ex.thnK Ex.inK Ret

abbrev O7 (κ : Nat) : Tg → Prop := fun u => κ ≤ u.1 ∧ u.1 ≤ κ + 7
theorem m6 {κ a b : Nat} : ¬ O6 κ (κ + 7, a, b) := by rintro ⟨_, h⟩; dsimp only at h; omega
theorem m0 {κ a b c d : Nat} : ¬ ((κ + 7, a, b) : Tg) = (κ, c, d) := by intro h; injection h with h; omega
theorem m7 {κ a b : Nat} {t : Tg} (h : Ok4 κ t) : ¬ t = (κ + 7, a, b) := by rintro rfl; have := h.2; dsimp only at this; omega
theorem o67 {κ : Nat} {u : Tg} (h : O6 κ u) : O7 κ u := ⟨by have := h.1; omega, by have := h.2; omega⟩
theorem o7 {κ a b : Nat} : O7 κ (κ + 7, a, b) := ⟨by dsimp only; omega, Nat.le_refl _⟩
theorem o70 {κ a b : Nat} : O7 κ (κ, a, b) := ⟨Nat.le_refl _, by dsimp only; omega⟩
end Go.Proofs.Ytihoblfmhighpaa
