/- strconv's digits, read as a number: plain laws. Conditions: none. -/
import Derived.Test.YtkjmelfgopammaaDoorStC
import Derived.Test.YtkjmelfgopammaaDoorWdS
namespace Go.Proofs.YtkjmelfgopammaaDoor
open Go.Dp Go.Wd
set_option linter.unusedSimpArgs false
set_option linter.unusedVariables false
set_option maxHeartbeats 2000000
set_option maxRecDepth 8000
attribute [local irreducible] Ex.thnK Ex.inK Ret

theorem decF_app : ∀ (x : List UInt8) (a : Nat) (y : List UInt8), decF a (x ++ y) = decF (decF a x) y
  | [], _, _ => rfl
  | c :: r, a, y => by rw [List.cons_append, decF_cons, decF_cons, decF_app r]
theorem digit_ok (d : Nat) (h : d < 10) : dig (UInt8.ofNat (48 + d)) = true ∧ (UInt8.ofNat (48 + d)).toNat - 48 = d := by
  have e : (UInt8.ofNat (48 + d)).toNat = 48 + d := by rw [UInt8.toNat_ofNat']; omega
  refine ⟨?_, by rw [e]; omega⟩
  unfold dig
  rw [e, decide_eq_true (by omega), decide_eq_true (by omega)]; rfl
theorem decS_eq (n : Nat) (c : UInt8) : decS n c = 10 * n + (c.toNat - 48) := by unfold decS; rfl
theorem decF_dgs (n : Nat) : ∀ (u a : Nat), u < 10 ^ n → decF a (dgs n u) = a * 10 ^ n + u := by
  induction n with
  | zero =>
    intro u a h
    have h1 : u < 1 := h
    have h2 : u = 0 := Nat.lt_one_iff.1 h1
    rw [h2, Nat.pow_zero, Nat.mul_one, Nat.add_zero]
    rfl
  | succ n ih =>
    intro u a h
    have e1 : dgs (n + 1) u = dgs n (u / 10) ++ [UInt8.ofNat (48 + u % 10)] := rfl
    have e2 : (10 : Nat) ^ (n + 1) = 10 ^ n * 10 := rfl
    have h2 : u / 10 < 10 ^ n := (Nat.div_lt_iff_lt_mul (by decide)).2 (by rw [← e2]; exact h)
    have e3 : decF a (dgs (n + 1) u) = 10 * (a * 10 ^ n + u / 10) + u % 10 := by
      rw [e1, decF_app, ih (u / 10) a h2, decF_cons, decF_nil, decS_eq, (digit_ok (u % 10) (Nat.mod_lt _ (by decide))).2]
    rw [e3, e2, Nat.mul_add, ← Nat.mul_assoc a]
    have e4 : 10 * (a * 10 ^ n) = a * 10 ^ n * 10 := Nat.mul_comm _ _
    rw [e4, Nat.add_assoc, Nat.div_add_mod]
theorem all_dgs : ∀ (n u : Nat), (dgs n u).all dig = true
  | 0, _ => rfl
  | n + 1, u => by
    unfold dgs
    rw [List.all_append, all_dgs n, List.all_cons, (digit_ok (u % 10) (by omega)).1]
    rfl
theorem dec_facts {u : Nat} (h : u < 18446744073709551616) : 1 ≤ (dec u).length ∧ (dec u).length ≤ 20 ∧ (dec u).all dig = true ∧ decF 0 (dec u) = u := by
  obtain ⟨n, h1, h2, h3, h4⟩ := dec_nd h
  rw [dec_eq h1 h2 h3 h4]
  refine ⟨by rw [dgs_len]; exact h1, by rw [dgs_len]; exact h2, all_dgs n u, ?_⟩
  rw [decF_dgs n u 0 h4]; omega
theorem num_zeros {u : Nat} (h : u < 18446744073709551616) (k most : Nat) (hk : k + (dec u).length ≤ 20) : num (List.replicate k 48 ++ dec u) most = if u ≤ most then some u else none := by
  obtain ⟨h1, h2, h3, h4⟩ := dec_facts h
  have hz : ∀ k, decF 0 (List.replicate k 48) = 0 := by
    intro k
    induction k with
    | zero => rfl
    | succ k ih =>
      rw [List.replicate_succ, decF_cons]
      have : decS 0 48 = 0 := by unfold decS; rfl
      rw [this, ih]
  have hd : (List.replicate k (48 : UInt8)).all dig = true := by
    rw [List.all_replicate]
    simp [dig]
  unfold num
  rw [List.length_append, List.length_replicate, List.all_append, hd, h3, decF_app, hz, h4]
  by_cases hm : u ≤ most
  · rw [if_pos ⟨by omega, hk, rfl, hm⟩, if_pos hm]
  · rw [if_neg (fun x => hm x.2.2.2), if_neg hm]
theorem num_long {s : List UInt8} (most : Nat) (h : 20 < s.length) : num s most = none := by
  unfold num
  rw [if_neg (by omega)]
theorem num_dec {u : Nat} (h : u < 18446744073709551616) (most : Nat) : num (dec u) most = if u ≤ most then some u else none := by
  have := num_zeros h 0 most (by have := (dec_facts h).2.1; omega)
  exact this
theorem noughts20 : ∀ k, k ≤ 20 → List.take k ([48, 48, 48, 48, 48, 48, 48, 48, 48, 48, 48, 48, 48, 48, 48, 48, 48, 48, 48, 48] : List UInt8) = List.replicate k 48 := by decide
theorem noughts22 : ∀ k, k ≤ 22 → List.take k ([48, 48, 48, 48, 48, 48, 48, 48, 48, 48, 48, 48, 48, 48, 48, 48, 48, 48, 48, 48, 48, 48] : List UInt8) = List.replicate k 48 := by decide
end Go.Proofs.YtkjmelfgopammaaDoor
