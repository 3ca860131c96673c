/- Numbers as bytes and back, plainly. Conditions: none. -/
import Derived.Test.YtihoblfmhighpaaTgB
namespace Go.Proofs.Ytihoblfmhighpaa
open Go.Dp
set_option linter.unusedSimpArgs false
set_option linter.unusedVariables false
set_option maxHeartbeats 2000000

def vi (u : Nat) : List UInt8 := if u < 128 then [UInt8.ofNat u] else UInt8.ofNat (u % 128 + 128) :: vi (u / 128)
termination_by u
decreasing_by omega

theorem u8n {x : Nat} (h : x < 256) : (UInt8.ofNat x).toNat = x := by rw [UInt8.toNat_ofNat']; omega
theorem vi_small {u : Nat} (h : u < 128) : vi u = [UInt8.ofNat u] := by rw [vi, if_pos h]
theorem vi_large {u : Nat} (h : 128 ≤ u) : vi u = UInt8.ofNat (u % 128 + 128) :: vi (u / 128) := by rw [vi, if_neg (by omega)]
theorem vi_len : ∀ (k : Nat) {u : Nat}, u < 2 ^ (7 * k) * 128 → (vi u).length ≤ k + 1
  | 0, u, h => by rw [vi_small (by simpa using h)]; exact Nat.le_refl _
  | k + 1, u, h => by
      by_cases hu : u < 128
      · rw [vi_small hu]; simp
      · rw [vi_large (by omega), List.length_cons]
        have e : (2 : Nat) ^ (7 * (k + 1)) = 2 ^ (7 * k) * 128 := by rw [show 7 * (k + 1) = 7 * k + 7 by omega, Nat.pow_add]
        have := vi_len k (u := u / 128) (by rw [e] at h; exact Nat.div_lt_of_lt_mul (by omega))
        omega
theorem vi_len10 {u : Nat} (h : u < 2 ^ 64) : (vi u).length ≤ 10 := vi_len 9 (Nat.lt_of_lt_of_le h (by decide))
def dn : List UInt8 → Nat → Nat → Nat × Nat × Nat
  | [], _, _ => (3, 0, 0)
  | c :: l, i, u => if (0 < i ∧ c.toNat = 0) ∨ (i = 9 ∧ 1 < c.toNat) then (4, 0, 0) else if c.toNat < 128 then (0, u + c.toNat % 128 * 2 ^ (7 * i), i + 1) else dn l (i + 1) (u + c.toNat % 128 * 2 ^ (7 * i))

theorem dn_vi (r : List UInt8) : ∀ (v i u : Nat), i ≤ 9 → v * 2 ^ (7 * i) < 2 ^ 64 → (0 < i → 0 < v) → dn (vi v ++ r) i u = (0, u + v * 2 ^ (7 * i), i + (vi v).length) := by
  intro v
  induction v using Nat.strongRecOn with
  | _ v ih =>
    intro i u hi hv h0
    have h9 : i = 9 → v ≤ 1 := by
      rintro rfl
      have e : (2 : Nat) ^ 64 = 2 * 2 ^ (7 * 9) := by decide
      rw [e] at hv
      have := Nat.lt_of_mul_lt_mul_right hv
      omega
    by_cases hu : v < 128
    · have hcn : ¬ ((0 < i ∧ v = 0) ∨ (i = 9 ∧ 1 < v)) := by
        rintro (⟨a, b⟩ | ⟨a, b⟩)
        · have := h0 a; omega
        · have := h9 a; omega
      rw [vi_small hu, List.singleton_append, dn, u8n (by omega), if_neg hcn, if_pos hu, Nat.mod_eq_of_lt hu]
      rfl
    · have hi8 : i ≠ 9 := fun h => by have := h9 h; omega
      have e : v * 2 ^ (7 * i) = v % 128 * 2 ^ (7 * i) + v / 128 * 2 ^ (7 * (i + 1)) := by
        rw [show 7 * (i + 1) = 7 * i + 7 by omega, Nat.pow_add, show (2 : Nat) ^ 7 = 128 by decide, Nat.mul_comm (2 ^ (7 * i)) 128, ← Nat.mul_assoc, ← Nat.add_mul, Nat.mod_add_div' v 128]
      rw [vi_large (by omega), List.cons_append, dn, u8n (by omega), if_neg (by rintro (⟨a, b⟩ | ⟨a, b⟩) <;> omega), if_neg (by omega), show (v % 128 + 128) % 128 = v % 128 by omega, ih (v / 128) (by omega) (i + 1) _ (by omega) (by omega) (by omega), List.length_cons]
      rw [e]
      refine Prod.ext rfl (Prod.ext ?_ ?_)
      · show u + v % 128 * 2 ^ (7 * i) + v / 128 * 2 ^ (7 * (i + 1)) = u + (v % 128 * 2 ^ (7 * i) + v / 128 * 2 ^ (7 * (i + 1)))
        omega
      · show i + 1 + (vi (v / 128)).length = i + ((vi (v / 128)).length + 1)
        omega

def zig (n : Int) : Nat := if 0 ≤ n then 2 * n.toNat else 2 * (-n).toNat - 1
def unz (u : Nat) : Int := if u % 2 = 0 then (u / 2 : Nat) else -((u / 2 : Nat) : Int) - 1
theorem unz_zig (n : Int) : unz (zig n) = n := by
  simp only [unz, zig]; split <;> split <;> omega
theorem zig_lt {n : Int} (h : -9223372036854775808 ≤ n) (h2 : n ≤ 9223372036854775807) : zig n < 2 ^ 64 := by
  simp only [zig]; split <;> omega
def rn (b : List UInt8) (s : Nat × Nat) : (Nat × Nat) × Int :=
  if s.2 = 0 then (if (dn (b.drop s.1) 0 0).1 = 0 then ((s.1 + (dn (b.drop s.1) 0 0).2.2, 0), unz (dn (b.drop s.1) 0 0).2.1) else ((s.1, (dn (b.drop s.1) 0 0).1), 0)) else (s, 0)

theorem rn_vi (pre post : List UInt8) {n : Int} (h : -9223372036854775808 ≤ n) (h2 : n ≤ 9223372036854775807) :
    rn (pre ++ (vi (zig n) ++ post)) (pre.length, 0) = ((pre.length + (vi (zig n)).length, 0), n) := by
  have e := dn_vi post (zig n) 0 0 (by omega) (by simpa using zig_lt h h2) (fun h => absurd h (Nat.lt_irrefl _))
  simp only [Nat.mul_zero, Nat.pow_zero, Nat.mul_one, Nat.zero_add] at e
  have ed : (pre ++ (vi (zig n) ++ post)).drop pre.length = vi (zig n) ++ post := List.drop_left
  simp only [rn, ed, e, if_true, unz_zig]

end Go.Proofs.Ytihoblfmhighpaa
