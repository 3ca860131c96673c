/- strconv: FormatUint. Conditions: none. -/
import Derived.Test.YtihoblfmhighpaaDoorStB
namespace Go.Proofs.YtihoblfmhighpaaDoor
open Go.Dp
set_option linter.unusedSimpArgs false
set_option linter.unusedVariables false
set_option maxHeartbeats 2000000
set_option maxRecDepth 8000
attribute [local irreducible] Ex.thnK Ex.inK Ret

/-- how many digits -/
def ndF : Nat → Nat → Nat
  | 0, _ => 1
  | f + 1, u => if u < 10 then 1 else ndF f (u / 10) + 1
def dec (u : Nat) : List UInt8 := dgs (ndF 20 u) u
theorem ndF_eq : ∀ (f n u : Nat), 1 ≤ n → n ≤ f → (10 ^ (n - 1) ≤ u ∨ n = 1) → u < 10 ^ n → ndF f u = n
  | 0, n, u, h1, h2, _, _ => by omega
  | f + 1, n, u, h1, h2, h3, h4 => by
    unfold ndF
    by_cases h : u < 10
    · rw [if_pos h]
      rcases h3 with h3 | h3
      · have : n - 1 < 1 := by
          rcases Nat.lt_or_ge (n - 1) 1 with x | x
          · exact x
          · have : (10 : Nat) ^ 1 ≤ 10 ^ (n - 1) := Nat.pow_le_pow_right (by decide) x
            omega
        omega
      · exact h3.symm
    · rw [if_neg h]
      have hn : 2 ≤ n := by
        rcases Nat.lt_or_ge n 2 with x | x
        · have : n = 1 := by omega
          subst this; omega
        · exact x
      obtain ⟨m, rfl⟩ : ∃ m, n = m + 2 := ⟨n - 2, by omega⟩
      have h5 : 10 ^ (m + 1) ≤ u := by
        rcases h3 with h3 | h3
        · exact h3
        · omega
      have e : 10 ^ (m + 1) = 10 ^ m * 10 := Nat.pow_succ ..
      have e2 : 10 ^ (m + 2) = 10 ^ (m + 1) * 10 := Nat.pow_succ ..
      rw [ndF_eq f (m + 1) (u / 10) (by omega) (by omega) (.inl (by
        show 10 ^ m ≤ u / 10
        rw [Nat.le_div_iff_mul_le (by decide)]; omega)) (by rw [Nat.div_lt_iff_lt_mul (by decide)]; omega)]
theorem dec_eq {n u : Nat} (h1 : 1 ≤ n) (h2 : n ≤ 20) (h3 : 10 ^ (n - 1) ≤ u ∨ n = 1) (h4 : u < 10 ^ n) : dec u = dgs n u := by
  unfold dec
  rw [ndF_eq 20 n u h1 h2 h3 h4]
theorem dec_nd {u : Nat} (h : u < 18446744073709551616) : ∃ n, 1 ≤ n ∧ n ≤ 20 ∧ (10 ^ (n - 1) ≤ u ∨ n = 1) ∧ u < 10 ^ n := by
  have go : ∀ k, k ≤ 20 → 1 ≤ k → u < 10 ^ k → ∃ n, 1 ≤ n ∧ n ≤ 20 ∧ (10 ^ (n - 1) ≤ u ∨ n = 1) ∧ u < 10 ^ n := by
    intro k
    induction k with
    | zero => intro _ h; omega
    | succ k ih =>
      intro h1 h2 h3
      by_cases hk : k = 0
      · subst hk; exact ⟨1, by omega, by omega, .inr rfl, h3⟩
      · by_cases hu : u < 10 ^ k
        · exact ih (by omega) (by omega) hu
        · exact ⟨k + 1, by omega, h1, .inl (by show 10 ^ k ≤ u; omega), h3⟩
  exact go 20 (Nat.le_refl _) (by decide) (by omega)
theorem bytesOf_of : ∀ s : List UInt8, bytesOf (ofBytes s) = some s
  | [] => rfl
  | c :: r => by
    have h : Go.Dp.byteOf (.int .u8 (Int.ofNat c.toNat)) = some c := by
      show some (UInt8.ofNat c.toNat) = _
      rw [UInt8.ofNat_toNat]
    show (match Go.Dp.byteOf (.int .u8 (Int.ofNat c.toNat)) with
      | some c => (match bytesOf (ofBytes r) with
        | some l => some (c :: l)
        | none => none)
      | none => none) = _
    rw [h, bytesOf_of r]
theorem strOf_of (s : List UInt8) : strOf (some (ofBytes s)) = some (.str s) := by
  unfold strOf
  simp only [bytesOf_of]
theorem ofBytes_len (s : List UInt8) : (ofBytes s).length = s.length := List.length_map ..

end Go.Proofs.YtihoblfmhighpaaDoor
