/- strconv: digits of a number; what the smaller functions come to. Conditions: none. -/
import Derived.Test.YtihoblfmhighpaaDoorLibT
import Derived.Test.YtihoblfmhighpaaDoorQsJ
namespace Go.Proofs.YtihoblfmhighpaaDoor
open Go.Dp
set_option linter.unusedSimpArgs false
set_option linter.unusedVariables false
set_option maxHeartbeats 2000000
set_option maxRecDepth 8000
attribute [local irreducible] Ex.thnK Ex.inK Ret

/-- n digits of u, the low one last -/
def dgs : Nat → Nat → List UInt8
  | 0, _ => []
  | n + 1, u => dgs n (u / 10) ++ [UInt8.ofNat (48 + u % 10)]
theorem dgs_len : ∀ n u, (dgs n u).length = n
  | 0, _ => rfl
  | n + 1, u => by unfold dgs; rw [List.length_append, dgs_len]; rfl
def pr (p : Nat) : List UInt8 := [UInt8.ofNat (48 + p / 10), UInt8.ofNat (48 + p % 10)]
theorem dgs2 (n u : Nat) : dgs (n + 2) u = dgs n (u / 100) ++ pr (u % 100) := by
  have h1 : u / 10 % 10 = u % 100 / 10 := by omega
  have h2 : u % 10 = u % 100 % 10 := by omega
  have h3 : u / 10 / 10 = u / 100 := by omega
  show (dgs n (u / 10 / 10) ++ [UInt8.ofNat (48 + u / 10 % 10)]) ++ [UInt8.ofNat (48 + u % 10)] = _
  rw [h1, h2, h3, List.append_assoc]
  rfl
theorem sm_all : ∀ p, p < 100 → (([48, 48, 48, 49, 48, 50, 48, 51, 48, 52, 48, 53, 48, 54, 48, 55, 48, 56, 48, 57, 49, 48, 49, 49, 49, 50, 49, 51, 49, 52, 49, 53, 49, 54, 49, 55, 49, 56, 49, 57, 50, 48, 50, 49, 50, 50, 50, 51, 50, 52, 50, 53, 50, 54, 50, 55, 50, 56, 50, 57, 51, 48, 51, 49, 51, 50, 51, 51, 51, 52, 51, 53, 51, 54, 51, 55, 51, 56, 51, 57, 52, 48, 52, 49, 52, 50, 52, 51, 52, 52, 52, 53, 52, 54, 52, 55, 52, 56, 52, 57, 53, 48, 53, 49, 53, 50, 53, 51, 53, 52, 53, 53, 53, 54, 53, 55, 53, 56, 53, 57, 54, 48, 54, 49, 54, 50, 54, 51, 54, 52, 54, 53, 54, 54, 54, 55, 54, 56, 54, 57, 55, 48, 55, 49, 55, 50, 55, 51, 55, 52, 55, 53, 55, 54, 55, 55, 55, 56, 55, 57, 56, 48, 56, 49, 56, 50, 56, 51, 56, 52, 56, 53, 56, 54, 56, 55, 56, 56, 56, 57, 57, 48, 57, 49, 57, 50, 57, 51, 57, 52, 57, 53, 57, 54, 57, 55, 57, 56, 57, 57] : List UInt8).getD (p * 2) 0).toNat = 48 + p / 10 ∧ (([48, 48, 48, 49, 48, 50, 48, 51, 48, 52, 48, 53, 48, 54, 48, 55, 48, 56, 48, 57, 49, 48, 49, 49, 49, 50, 49, 51, 49, 52, 49, 53, 49, 54, 49, 55, 49, 56, 49, 57, 50, 48, 50, 49, 50, 50, 50, 51, 50, 52, 50, 53, 50, 54, 50, 55, 50, 56, 50, 57, 51, 48, 51, 49, 51, 50, 51, 51, 51, 52, 51, 53, 51, 54, 51, 55, 51, 56, 51, 57, 52, 48, 52, 49, 52, 50, 52, 51, 52, 52, 52, 53, 52, 54, 52, 55, 52, 56, 52, 57, 53, 48, 53, 49, 53, 50, 53, 51, 53, 52, 53, 53, 53, 54, 53, 55, 53, 56, 53, 57, 54, 48, 54, 49, 54, 50, 54, 51, 54, 52, 54, 53, 54, 54, 54, 55, 54, 56, 54, 57, 55, 48, 55, 49, 55, 50, 55, 51, 55, 52, 55, 53, 55, 54, 55, 55, 55, 56, 55, 57, 56, 48, 56, 49, 56, 50, 56, 51, 56, 52, 56, 53, 56, 54, 56, 55, 56, 56, 56, 57, 57, 48, 57, 49, 57, 50, 57, 51, 57, 52, 57, 53, 57, 54, 57, 55, 57, 56, 57, 57] : List UInt8).getD (p * 2 + 1) 0).toNat = 48 + p % 10 := by decide +kernel
theorem sm0 (p : Nat) (h : p < 100) : rIxstr (.str [48, 48, 48, 49, 48, 50, 48, 51, 48, 52, 48, 53, 48, 54, 48, 55, 48, 56, 48, 57, 49, 48, 49, 49, 49, 50, 49, 51, 49, 52, 49, 53, 49, 54, 49, 55, 49, 56, 49, 57, 50, 48, 50, 49, 50, 50, 50, 51, 50, 52, 50, 53, 50, 54, 50, 55, 50, 56, 50, 57, 51, 48, 51, 49, 51, 50, 51, 51, 51, 52, 51, 53, 51, 54, 51, 55, 51, 56, 51, 57, 52, 48, 52, 49, 52, 50, 52, 51, 52, 52, 52, 53, 52, 54, 52, 55, 52, 56, 52, 57, 53, 48, 53, 49, 53, 50, 53, 51, 53, 52, 53, 53, 53, 54, 53, 55, 53, 56, 53, 57, 54, 48, 54, 49, 54, 50, 54, 51, 54, 52, 54, 53, 54, 54, 54, 55, 54, 56, 54, 57, 55, 48, 55, 49, 55, 50, 55, 51, 55, 52, 55, 53, 55, 54, 55, 55, 55, 56, 55, 57, 56, 48, 56, 49, 56, 50, 56, 51, 56, 52, 56, 53, 56, 54, 56, 55, 56, 56, 56, 57, 57, 48, 57, 49, 57, 50, 57, 51, 57, 52, 57, 53, 57, 54, 57, 55, 57, 56, 57, 57]) (.int .u32 (.ofNat (p * 2))) = some (.int .u8 (.ofNat (48 + p / 10))) := by
  rw [ixs _ _ _ (show p * 2 < 200 by omega), (sm_all p h).1]
theorem sm1 (p : Nat) (h : p < 100) : rIxstr (.str [48, 48, 48, 49, 48, 50, 48, 51, 48, 52, 48, 53, 48, 54, 48, 55, 48, 56, 48, 57, 49, 48, 49, 49, 49, 50, 49, 51, 49, 52, 49, 53, 49, 54, 49, 55, 49, 56, 49, 57, 50, 48, 50, 49, 50, 50, 50, 51, 50, 52, 50, 53, 50, 54, 50, 55, 50, 56, 50, 57, 51, 48, 51, 49, 51, 50, 51, 51, 51, 52, 51, 53, 51, 54, 51, 55, 51, 56, 51, 57, 52, 48, 52, 49, 52, 50, 52, 51, 52, 52, 52, 53, 52, 54, 52, 55, 52, 56, 52, 57, 53, 48, 53, 49, 53, 50, 53, 51, 53, 52, 53, 53, 53, 54, 53, 55, 53, 56, 53, 57, 54, 48, 54, 49, 54, 50, 54, 51, 54, 52, 54, 53, 54, 54, 54, 55, 54, 56, 54, 57, 55, 48, 55, 49, 55, 50, 55, 51, 55, 52, 55, 53, 55, 54, 55, 55, 55, 56, 55, 57, 56, 48, 56, 49, 56, 50, 56, 51, 56, 52, 56, 53, 56, 54, 56, 55, 56, 56, 56, 57, 57, 48, 57, 49, 57, 50, 57, 51, 57, 52, 57, 53, 57, 54, 57, 55, 57, 56, 57, 57]) (.int .u32 (.ofNat (p * 2 + 1))) = some (.int .u8 (.ofNat (48 + p % 10))) := by
  rw [ixs _ _ _ (show p * 2 + 1 < 200 by omega), (sm_all p h).2]
theorem l8_all : ∀ x, x < 256 → 1 ≤ x → (([0, 1, 2, 2, 3, 3, 3, 3, 4, 4, 4, 4, 4, 4, 4, 4, 5, 5, 5, 5, 5, 5, 5, 5, 5, 5, 5, 5, 5, 5, 5, 5, 6, 6, 6, 6, 6, 6, 6, 6, 6, 6, 6, 6, 6, 6, 6, 6, 6, 6, 6, 6, 6, 6, 6, 6, 6, 6, 6, 6, 6, 6, 6, 6, 7, 7, 7, 7, 7, 7, 7, 7, 7, 7, 7, 7, 7, 7, 7, 7, 7, 7, 7, 7, 7, 7, 7, 7, 7, 7, 7, 7, 7, 7, 7, 7, 7, 7, 7, 7, 7, 7, 7, 7, 7, 7, 7, 7, 7, 7, 7, 7, 7, 7, 7, 7, 7, 7, 7, 7, 7, 7, 7, 7, 7, 7, 7, 7, 8, 8, 8, 8, 8, 8, 8, 8, 8, 8, 8, 8, 8, 8, 8, 8, 8, 8, 8, 8, 8, 8, 8, 8, 8, 8, 8, 8, 8, 8, 8, 8, 8, 8, 8, 8, 8, 8, 8, 8, 8, 8, 8, 8, 8, 8, 8, 8, 8, 8, 8, 8, 8, 8, 8, 8, 8, 8, 8, 8, 8, 8, 8, 8, 8, 8, 8, 8, 8, 8, 8, 8, 8, 8, 8, 8, 8, 8, 8, 8, 8, 8, 8, 8, 8, 8, 8, 8, 8, 8, 8, 8, 8, 8, 8, 8, 8, 8, 8, 8, 8, 8, 8, 8, 8, 8, 8, 8, 8, 8, 8, 8, 8, 8, 8, 8, 8, 8, 8, 8, 8, 8, 8, 8, 8, 8, 8, 8] : List UInt8).getD x 0).toNat = Nat.log2 x + 1 := by decide +kernel
theorem l8 (x : Nat) (h : x < 256) (h1 : 1 ≤ x) : rIxstr (.str [0, 1, 2, 2, 3, 3, 3, 3, 4, 4, 4, 4, 4, 4, 4, 4, 5, 5, 5, 5, 5, 5, 5, 5, 5, 5, 5, 5, 5, 5, 5, 5, 6, 6, 6, 6, 6, 6, 6, 6, 6, 6, 6, 6, 6, 6, 6, 6, 6, 6, 6, 6, 6, 6, 6, 6, 6, 6, 6, 6, 6, 6, 6, 6, 7, 7, 7, 7, 7, 7, 7, 7, 7, 7, 7, 7, 7, 7, 7, 7, 7, 7, 7, 7, 7, 7, 7, 7, 7, 7, 7, 7, 7, 7, 7, 7, 7, 7, 7, 7, 7, 7, 7, 7, 7, 7, 7, 7, 7, 7, 7, 7, 7, 7, 7, 7, 7, 7, 7, 7, 7, 7, 7, 7, 7, 7, 7, 7, 8, 8, 8, 8, 8, 8, 8, 8, 8, 8, 8, 8, 8, 8, 8, 8, 8, 8, 8, 8, 8, 8, 8, 8, 8, 8, 8, 8, 8, 8, 8, 8, 8, 8, 8, 8, 8, 8, 8, 8, 8, 8, 8, 8, 8, 8, 8, 8, 8, 8, 8, 8, 8, 8, 8, 8, 8, 8, 8, 8, 8, 8, 8, 8, 8, 8, 8, 8, 8, 8, 8, 8, 8, 8, 8, 8, 8, 8, 8, 8, 8, 8, 8, 8, 8, 8, 8, 8, 8, 8, 8, 8, 8, 8, 8, 8, 8, 8, 8, 8, 8, 8, 8, 8, 8, 8, 8, 8, 8, 8, 8, 8, 8, 8, 8, 8, 8, 8, 8, 8, 8, 8, 8, 8, 8, 8, 8, 8]) (.int .u8 (.ofNat x)) = some (.int .u8 (.ofNat (Nat.log2 x + 1))) := by
  rw [ixs _ _ _ (show x < 256 by omega), l8_all x h h1]

theorem wrn_u32 (n : Nat) (h : n < 4294967296) : wr .u32 (.ofNat n) = .ofNat n := by
  have : Nat.blt n (lim .u32) = true := by rw [nblt]; exact decide_eq_true h
  simp only [wr, this, cond_true]
theorem addn_u32 (a b : Nat) (h : a + b < 4294967296) : bin .add (.int .u32 (.ofNat a)) (.int .u32 (.ofNat b)) = some (.int .u32 (.ofNat (a + b))) := by
  show some (AV.int .u32 (wr .u32 (.ofNat (a + b)))) = _
  rw [wrn_u32 _ h]
theorem muln_u32 (a b : Nat) (h : a * b < 4294967296) : bin .mul (.int .u32 (.ofNat a)) (.int .u32 (.ofNat b)) = some (.int .u32 (.ofNat (a * b))) := by
  show some (AV.int .u32 (wr .u32 (.ofNat (a * b)))) = _
  rw [wrn_u32 _ h]
theorem quon_u32 (a b : Nat) (hb : 0 < b) (h : a / b < 4294967296) : bin .quo (.int .u32 (.ofNat a)) (.int .u32 (.ofNat b)) = some (.int .u32 (.ofNat (a / b))) := by
  have h0 : ibeq (Int.ofNat b) 0 = false := by rw [ibeq_eq]; simp; omega
  show binII .quo .u32 (.ofNat a) .u32 (.ofNat b) = _
  simp only [binII, kbeq_eq, decide_true, cond_true, binInt, h0, cond_false]
  have : (Int.ofNat a).tdiv (Int.ofNat b) = Int.ofNat (a / b) := rfl
  rw [this, wrn_u32 _ h]
theorem cint_u32 (j : IntKind) (a : Nat) (h : a < 4294967296) : rCint .u32 (.int j (.ofNat a)) = some (.int .u32 (.ofNat a)) := by
  show some (AV.int .u32 (wr .u32 (.ofNat a))) = _
  rw [wrn_u32 _ h]
theorem shrn (k j : IntKind) (a s : Nat) (h : s ≤ k.bits) : bin .shr (.int k (.ofNat a)) (.int j (.ofNat s)) = some (.int k (.ofNat (a / 2 ^ s))) := by
  show shiftInt .shr k (.ofNat a) (.ofNat s) = _
  have h0 : ible 0 (Int.ofNat s) = true := by rw [ible_eq]; simp
  simp only [shiftInt, h0, cond_true]
  have : min (Int.ofNat s).toNat k.bits = s := by simp; omega
  rw [this]
  have : (Int.ofNat a).fdiv (2 ^ s) = Int.ofNat (a / 2 ^ s) := by
    have e : (2 ^ s : Int) = ((2 ^ s : Nat) : Int) := by simp
    rw [e]; exact (Int.ofNat_fdiv a (2 ^ s)).symm
  rw [this]

theorem dg_all : ∀ i, i < 10 → List.take (i + 1 - i) (List.drop i ([48, 49, 50, 51, 52, 53, 54, 55, 56, 57, 97, 98, 99, 100, 101, 102, 103, 104, 105, 106, 107, 108, 109, 110, 111, 112, 113, 114, 115, 116, 117, 118, 119, 120, 121, 122] : List UInt8)) = dgs 1 i := by decide +kernel
theorem sm_str : ∀ i, i < 100 → 10 ≤ i → List.take (i * 2 + 2 - i * 2) (List.drop (i * 2) ([48, 48, 48, 49, 48, 50, 48, 51, 48, 52, 48, 53, 48, 54, 48, 55, 48, 56, 48, 57, 49, 48, 49, 49, 49, 50, 49, 51, 49, 52, 49, 53, 49, 54, 49, 55, 49, 56, 49, 57, 50, 48, 50, 49, 50, 50, 50, 51, 50, 52, 50, 53, 50, 54, 50, 55, 50, 56, 50, 57, 51, 48, 51, 49, 51, 50, 51, 51, 51, 52, 51, 53, 51, 54, 51, 55, 51, 56, 51, 57, 52, 48, 52, 49, 52, 50, 52, 51, 52, 52, 52, 53, 52, 54, 52, 55, 52, 56, 52, 57, 53, 48, 53, 49, 53, 50, 53, 51, 53, 52, 53, 53, 53, 54, 53, 55, 53, 56, 53, 57, 54, 48, 54, 49, 54, 50, 54, 51, 54, 52, 54, 53, 54, 54, 54, 55, 54, 56, 54, 57, 55, 48, 55, 49, 55, 50, 55, 51, 55, 52, 55, 53, 55, 54, 55, 55, 55, 56, 55, 57, 56, 48, 56, 49, 56, 50, 56, 51, 56, 52, 56, 53, 56, 54, 56, 55, 56, 56, 56, 57, 57, 48, 57, 49, 57, 50, 57, 51, 57, 52, 57, 53, 57, 54, 57, 55, 57, 56, 57, 57] : List UInt8)) = dgs 2 i := by decide +kernel
theorem small_ev (i : Nat) (h : i < 100) (H : Heap) (Q : AV → Heap → Prop) (hQ : Q (.str (dgs (if i < 10 then 1 else 2) i)) H) : Eo lib n_internal_strconv_small [.int .i64 (.ofNat i)] H Q := by
  refine Eo.code at_internal_strconv_small rfl ?_
  by_cases h1 : i < 10
  · rw [if_pos h1] at hQ
    have g1 : i + 1 ≤ 36 := by omega
    have g2 : i ≤ i + 1 := by omega
    have g3 := dg_all i h1
    repeat (first | ((first | apply Xk.sAny | apply Xk.tAny); (case hok => rfl); (case h => intro C hC; simp (disch := omega) only [w1, ↓reduceIte, Nat.reduceEqDiff, Nat.reduceLeDiff, Nat.reduceAdd, Nat.reduceSub, h1, g1, g2, g3]; with_reducible exact hC); refine gc ?_) | refine gm ?_)
    exact hQ
  · rw [if_neg h1] at hQ
    have g1 : i * 2 + 2 ≤ 200 := by omega
    have g2 : i * 2 ≤ i * 2 + 2 := by omega
    have g3 := sm_str i h (by omega)
    repeat (first | ((first | apply Xk.sAny | apply Xk.tAny); (case hok => rfl); (case h => intro C hC; simp (disch := omega) only [w1, ↓reduceIte, Nat.reduceEqDiff, Nat.reduceLeDiff, Nat.reduceAdd, Nat.reduceSub, h1, g1, g2, g3]; with_reducible exact hC); refine gc ?_) | refine gm ?_)
    exact hQ

theorem len_fin {u n x L : Nat} (hx : x = u / 2 ^ n) (h1 : 2 ^ (L - 1) ≤ x) (h2 : x < 2 ^ L) (hL : 1 ≤ L) : 2 ^ (n + L - 1) ≤ u ∧ u < 2 ^ (n + L) := by
  have hp : 0 < 2 ^ n := Nat.pow_pos (by decide)
  have e1 : n + L - 1 = L - 1 + n := by omega
  have e2 : n + L = L + n := by omega
  rw [e1, e2, Nat.pow_add, Nat.pow_add]
  subst hx
  exact ⟨(Nat.le_div_iff_mul_le hp).1 h1, (Nat.div_lt_iff_lt_mul hp).1 h2⟩
theorem log_fin {x : Nat} (h1 : 1 ≤ x) : 2 ^ (Nat.log2 x + 1 - 1) ≤ x ∧ x < 2 ^ (Nat.log2 x + 1) := by
  refine ⟨?_, Nat.lt_log2_self⟩
  rw [Nat.add_sub_cancel]
  exact Nat.log2_self_le (by omega)
theorem log8 {x : Nat} (h : x < 256) (h1 : 1 ≤ x) : Nat.log2 x < 8 := (Nat.log2_lt (by omega)).2 h

theorem Len64_ev (u : Nat) (h : u < 18446744073709551616) (h1 : 1 ≤ u) (H : Heap) (Q : AV → Heap → Prop) (hQ : ∀ m, 1 ≤ m → m ≤ 64 → 2 ^ (m - 1) ≤ u → u < 2 ^ m → Q (.int .i64 (.ofNat m)) H) : Eo lib n_math_bits_Len64 [.int .u64 (.ofNat u)] H Q := by
  refine Eo.code at_math_bits_Len64 rfl ?_
  -- the end, from how far the number was shifted
  have fin : ∀ n x, x = u / 2 ^ n → x < 256 → 1 ≤ x → n ≤ 56 → Q (.int .i64 (.ofNat (n + (Nat.log2 x + 1)))) H := by
    intro n x hx h2 h3 hn
    obtain ⟨a1, a2⟩ := log_fin h3
    obtain ⟨b1, b2⟩ := len_fin hx a1 a2 (by omega)
    have := log8 h2 h3
    exact hQ _ (by omega) (by omega) b1 b2
  have s32 := fun a => shrn .u64 .u64 a 32 (by decide)
  have s16 := fun a => shrn .u64 .u64 a 16 (by decide)
  have s8 := fun a => shrn .u64 .u64 a 8 (by decide)
  by_cases c1 : 4294967296 ≤ u
  · by_cases c2 : 65536 ≤ u / 2 ^ 32
    · by_cases c3 : 256 ≤ u / 2 ^ 32 / 2 ^ 16
      · have hlt : u / 2 ^ 32 / 2 ^ 16 / 2 ^ 8 < 256 := by omega
        have hge : 1 ≤ u / 2 ^ 32 / 2 ^ 16 / 2 ^ 8 := by omega
        have hx : u / 2 ^ 32 / 2 ^ 16 / 2 ^ 8 = u / 2 ^ 56 := by omega
        have e := l8 (u / 2 ^ 32 / 2 ^ 16 / 2 ^ 8) hlt hge
        have hl := log8 hlt hge
        repeat (first | ((first | apply Xk.sAny | apply Xk.tAny); (case hok => rfl); (case h => intro C hC; simp (disch := omega) only [w1, ↓reduceIte, Nat.reduceEqDiff, Nat.reduceLeDiff, Nat.reduceAdd, Nat.reduceSub, c1, c2, c3, s32, s16, s8, e]; with_reducible exact hC); refine gc ?_) | refine gm ?_)
        exact fin 56 (u / 2 ^ 32 / 2 ^ 16 / 2 ^ 8) hx hlt hge (by decide)
      · have hlt : u / 2 ^ 32 / 2 ^ 16 < 256 := by omega
        have hge : 1 ≤ u / 2 ^ 32 / 2 ^ 16 := by omega
        have hx : u / 2 ^ 32 / 2 ^ 16 = u / 2 ^ 48 := by omega
        have e := l8 (u / 2 ^ 32 / 2 ^ 16) hlt hge
        have hl := log8 hlt hge
        repeat (first | ((first | apply Xk.sAny | apply Xk.tAny); (case hok => rfl); (case h => intro C hC; simp (disch := omega) only [w1, ↓reduceIte, Nat.reduceEqDiff, Nat.reduceLeDiff, Nat.reduceAdd, Nat.reduceSub, c1, c2, c3, s32, s16, s8, e]; with_reducible exact hC); refine gc ?_) | refine gm ?_)
        exact fin 48 (u / 2 ^ 32 / 2 ^ 16) hx hlt hge (by decide)
    · by_cases c3 : 256 ≤ u / 2 ^ 32
      · have hlt : u / 2 ^ 32 / 2 ^ 8 < 256 := by omega
        have hge : 1 ≤ u / 2 ^ 32 / 2 ^ 8 := by omega
        have hx : u / 2 ^ 32 / 2 ^ 8 = u / 2 ^ 40 := by omega
        have e := l8 (u / 2 ^ 32 / 2 ^ 8) hlt hge
        have hl := log8 hlt hge
        repeat (first | ((first | apply Xk.sAny | apply Xk.tAny); (case hok => rfl); (case h => intro C hC; simp (disch := omega) only [w1, ↓reduceIte, Nat.reduceEqDiff, Nat.reduceLeDiff, Nat.reduceAdd, Nat.reduceSub, c1, c2, c3, s32, s16, s8, e]; with_reducible exact hC); refine gc ?_) | refine gm ?_)
        exact fin 40 (u / 2 ^ 32 / 2 ^ 8) hx hlt hge (by decide)
      · have hlt : u / 2 ^ 32 < 256 := by omega
        have hge : 1 ≤ u / 2 ^ 32 := by omega
        have hx : u / 2 ^ 32 = u / 2 ^ 32 := by omega
        have e := l8 (u / 2 ^ 32) hlt hge
        have hl := log8 hlt hge
        repeat (first | ((first | apply Xk.sAny | apply Xk.tAny); (case hok => rfl); (case h => intro C hC; simp (disch := omega) only [w1, ↓reduceIte, Nat.reduceEqDiff, Nat.reduceLeDiff, Nat.reduceAdd, Nat.reduceSub, c1, c2, c3, s32, s16, s8, e]; with_reducible exact hC); refine gc ?_) | refine gm ?_)
        exact fin 32 (u / 2 ^ 32) hx hlt hge (by decide)
  · by_cases c2 : 65536 ≤ u
    · by_cases c3 : 256 ≤ u / 2 ^ 16
      · have hlt : u / 2 ^ 16 / 2 ^ 8 < 256 := by omega
        have hge : 1 ≤ u / 2 ^ 16 / 2 ^ 8 := by omega
        have hx : u / 2 ^ 16 / 2 ^ 8 = u / 2 ^ 24 := by omega
        have e := l8 (u / 2 ^ 16 / 2 ^ 8) hlt hge
        have hl := log8 hlt hge
        repeat (first | ((first | apply Xk.sAny | apply Xk.tAny); (case hok => rfl); (case h => intro C hC; simp (disch := omega) only [w1, ↓reduceIte, Nat.reduceEqDiff, Nat.reduceLeDiff, Nat.reduceAdd, Nat.reduceSub, c1, c2, c3, s32, s16, s8, e]; with_reducible exact hC); refine gc ?_) | refine gm ?_)
        exact fin 24 (u / 2 ^ 16 / 2 ^ 8) hx hlt hge (by decide)
      · have hlt : u / 2 ^ 16 < 256 := by omega
        have hge : 1 ≤ u / 2 ^ 16 := by omega
        have hx : u / 2 ^ 16 = u / 2 ^ 16 := by omega
        have e := l8 (u / 2 ^ 16) hlt hge
        have hl := log8 hlt hge
        repeat (first | ((first | apply Xk.sAny | apply Xk.tAny); (case hok => rfl); (case h => intro C hC; simp (disch := omega) only [w1, ↓reduceIte, Nat.reduceEqDiff, Nat.reduceLeDiff, Nat.reduceAdd, Nat.reduceSub, c1, c2, c3, s32, s16, s8, e]; with_reducible exact hC); refine gc ?_) | refine gm ?_)
        exact fin 16 (u / 2 ^ 16) hx hlt hge (by decide)
    · by_cases c3 : 256 ≤ u
      · have hlt : u / 2 ^ 8 < 256 := by omega
        have hge : 1 ≤ u / 2 ^ 8 := by omega
        have hx : u / 2 ^ 8 = u / 2 ^ 8 := by omega
        have e := l8 (u / 2 ^ 8) hlt hge
        have hl := log8 hlt hge
        repeat (first | ((first | apply Xk.sAny | apply Xk.tAny); (case hok => rfl); (case h => intro C hC; simp (disch := omega) only [w1, ↓reduceIte, Nat.reduceEqDiff, Nat.reduceLeDiff, Nat.reduceAdd, Nat.reduceSub, c1, c2, c3, s32, s16, s8, e]; with_reducible exact hC); refine gc ?_) | refine gm ?_)
        exact fin 8 (u / 2 ^ 8) hx hlt hge (by decide)
      · have hlt : u < 256 := by omega
        have hge : 1 ≤ u := by omega
        have hx : u = u / 2 ^ 0 := by omega
        have e := l8 (u) hlt hge
        have hl := log8 hlt hge
        repeat (first | ((first | apply Xk.sAny | apply Xk.tAny); (case hok => rfl); (case h => intro C hC; simp (disch := omega) only [w1, ↓reduceIte, Nat.reduceEqDiff, Nat.reduceLeDiff, Nat.reduceAdd, Nat.reduceSub, c1, c2, c3, s32, s16, s8, e, Nat.zero_add]; with_reducible exact hC); refine gc ?_) | refine gm ?_)
        have := fin 0 (u) hx hlt hge (by decide)
        rw [Nat.zero_add] at this
        exact this

/-- powers of ten, as the table holds them -/
def powC : List AV := [(.int .u64 (.ofNat 1)), (.int .u64 (.ofNat 10)), (.int .u64 (.ofNat 100)), (.int .u64 (.ofNat 1000)), (.int .u64 (.ofNat 10000)), (.int .u64 (.ofNat 100000)), (.int .u64 (.ofNat 1000000)), (.int .u64 (.ofNat 10000000)), (.int .u64 (.ofNat 100000000)), (.int .u64 (.ofNat 1000000000)), (.int .u64 (.ofNat 10000000000)), (.int .u64 (.ofNat 100000000000)), (.int .u64 (.ofNat 1000000000000)), (.int .u64 (.ofNat 10000000000000)), (.int .u64 (.ofNat 100000000000000)), (.int .u64 (.ofNat 1000000000000000)), (.int .u64 (.ofNat 10000000000000000)), (.int .u64 (.ofNat 100000000000000000)), (.int .u64 (.ofNat 1000000000000000000)), (.int .u64 (.ofNat 10000000000000000000))]
theorem pow_at : ∀ k, k < 20 → (powC.drop k).take 1 = [.int .u64 (.ofNat (10 ^ k))] := by
  intro k hk
  have h2 : ∀ k, k < 20 → (([(.int .u64 (.ofNat 1)), (.int .u64 (.ofNat 10)), (.int .u64 (.ofNat 100)), (.int .u64 (.ofNat 1000)), (.int .u64 (.ofNat 10000)), (.int .u64 (.ofNat 100000)), (.int .u64 (.ofNat 1000000)), (.int .u64 (.ofNat 10000000)), (.int .u64 (.ofNat 100000000)), (.int .u64 (.ofNat 1000000000)), (.int .u64 (.ofNat 10000000000)), (.int .u64 (.ofNat 100000000000)), (.int .u64 (.ofNat 1000000000000)), (.int .u64 (.ofNat 10000000000000)), (.int .u64 (.ofNat 100000000000000)), (.int .u64 (.ofNat 1000000000000000)), (.int .u64 (.ofNat 10000000000000000)), (.int .u64 (.ofNat 100000000000000000)), (.int .u64 (.ofNat 1000000000000000000)), (.int .u64 (.ofNat 10000000000000000000))] : List AV).drop k).take 1 = [.int .u64 (.ofNat (10 ^ k))] := by
    intro k hk
    match k, hk with
    | 0, _ => rfl
    | 1, _ => rfl
    | 2, _ => rfl
    | 3, _ => rfl
    | 4, _ => rfl
    | 5, _ => rfl
    | 6, _ => rfl
    | 7, _ => rfl
    | 8, _ => rfl
    | 9, _ => rfl
    | 10, _ => rfl
    | 11, _ => rfl
    | 12, _ => rfl
    | 13, _ => rfl
    | 14, _ => rfl
    | 15, _ => rfl
    | 16, _ => rfl
    | 17, _ => rfl
    | 18, _ => rfl
    | 19, _ => rfl
    | n + 20, hk => omega
  exact h2 k hk
/-- the table lies in block 0 -/
def Tab (H : Heap) : Prop := H.get 0 = some (.cells powC 0)
theorem Tab.mono {H H' : Heap} (h : Tab H) (hle : HLe H H') : Tab H' := hle _ _ h

theorem bool2_ev (b : Bool) (H : Heap) (Q : AV → Heap → Prop) (hQ : Q (.int .i64 (.ofNat (if b = true then 1 else 0))) H) : Eo lib n_internal_strconv_bool2_int [.bool b] H Q := by
  refine Eo.code at_internal_strconv_bool2_int rfl ?_
  cases b with
  | true =>
    repeat (first | ((first | apply Xk.sAny | apply Xk.tAny); (case hok => rfl); (case h => intro C hC; simp (disch := omega) only [w1, ↓reduceIte, Nat.reduceEqDiff, Nat.reduceLeDiff, Nat.reduceAdd, Nat.reduceSub]; with_reducible exact hC); refine gc ?_) | refine gm ?_)
    exact hQ
  | false =>
    repeat (first | ((first | apply Xk.sAny | apply Xk.tAny); (case hok => rfl); (case h => intro C hC; simp (disch := omega) only [w1, ↓reduceIte, Nat.reduceEqDiff, Nat.reduceLeDiff, Nat.reduceAdd, Nat.reduceSub]; with_reducible exact hC); refine gc ?_) | refine gm ?_)
    exact hQ
theorem log10_ev (m : Nat) (h : m ≤ 64) (H : Heap) (Q : AV → Heap → Prop) (hQ : Q (.int .i64 (.ofNat (m * 78913 / 2 ^ 18))) H) : Eo lib n_internal_strconv_log10Pow2 [.int .i64 (.ofNat m)] H Q := by
  have s18 := shrn .i64 .u64 (m * 78913) 18 (by decide)
  refine Eo.code at_internal_strconv_log10Pow2 rfl ?_
  repeat (first | ((first | apply Xk.sAny | apply Xk.tAny); (case hok => rfl); (case h => intro C hC; simp (disch := omega) only [w1, ↓reduceIte, Nat.reduceEqDiff, Nat.reduceLeDiff, Nat.reduceAdd, Nat.reduceSub, s18]; with_reducible exact hC); refine gc ?_) | refine gm ?_)
  exact hQ
theorem ten_all : ∀ m, m ≤ 64 → 1 ≤ m → m * 78913 / 2 ^ 18 < 20 ∧ 2 ^ m ≤ 10 ^ (m * 78913 / 2 ^ 18 + 1) ∧ (1 ≤ m * 78913 / 2 ^ 18 → 10 ^ (m * 78913 / 2 ^ 18 - 1) ≤ 2 ^ (m - 1)) := by decide +kernel
theorem numDigits_ev (u : Nat) (h : u < 18446744073709551616) (h1 : 1 ≤ u) (H : Heap) (hT : Tab H) (Q : AV → Heap → Prop) (hQ : ∀ n, 1 ≤ n → n ≤ 20 → 10 ^ (n - 1) ≤ u → u < 10 ^ n → Q (.int .i64 (.ofNat n)) H) :
    Eo lib n_internal_strconv_numDigits [.int .u64 (.ofNat u)] H Q := by
  refine Eo.code at_internal_strconv_numDigits rfl ?_
  repeat (first | ((first | apply Xk.sAny | apply Xk.tAny); (case hok => rfl); (case h => intro C hC; simp (disch := omega) only [w1, ↓reduceIte, Nat.reduceEqDiff, Nat.reduceLeDiff, Nat.reduceAdd, Nat.reduceSub]; with_reducible exact hC); refine gc ?_) | refine gm ?_)
  refine Len64_ev u h h1 _ _ fun m hm1 hm2 hm3 hm4 => ?_
  repeat (first | ((first | apply Xk.sAny | apply Xk.tAny); (case hok => rfl); (case h => intro C hC; simp (disch := omega) only [w1, ↓reduceIte, Nat.reduceEqDiff, Nat.reduceLeDiff, Nat.reduceAdd, Nat.reduceSub]; with_reducible exact hC); refine gc ?_) | refine gm ?_)
  refine log10_ev m hm2 _ _ ?_
  obtain ⟨t1, t2, t3⟩ := ten_all m hm2 hm1
  generalize m * 78913 / 2 ^ 18 = k at *
  have hp := pow_at k t1
  have hlen : k + 1 ≤ powC.length := by show k + 1 ≤ 20; omega
  unfold Tab at hT
  by_cases c : 10 ^ k ≤ u
  · have c' := eq_true c
    repeat (first | ((first | apply Xk.sAny | apply Xk.tAny); (case hok => rfl); (case h => intro C hC; simp (disch := omega) only [w1, ↓reduceIte, Nat.reduceEqDiff, Nat.reduceLeDiff, Nat.reduceAdd, Nat.reduceSub, hT, t1, hp, hlen, c', rIaarr]; with_reducible exact hC); refine gc ?_) | refine gm ?_)
    refine bool2_ev true _ _ ?_
    rw [if_pos rfl]
    repeat (first | ((first | apply Xk.sAny | apply Xk.tAny); (case hok => rfl); (case h => intro C hC; simp (disch := omega) only [w1, ↓reduceIte, Nat.reduceEqDiff, Nat.reduceLeDiff, Nat.reduceAdd, Nat.reduceSub]; with_reducible exact hC); refine gc ?_) | refine gm ?_)
    exact hQ (k + 1) (by omega) (by omega) c (by omega)
  · have c' := eq_false c
    have hk : 1 ≤ k := by
      rcases Nat.eq_zero_or_pos k with e | e
      · subst e; simp at c; omega
      · exact e
    repeat (first | ((first | apply Xk.sAny | apply Xk.tAny); (case hok => rfl); (case h => intro C hC; simp (disch := omega) only [w1, ↓reduceIte, Nat.reduceEqDiff, Nat.reduceLeDiff, Nat.reduceAdd, Nat.reduceSub, hT, t1, hp, hlen, c', rIaarr]; with_reducible exact hC); refine gc ?_) | refine gm ?_)
    refine bool2_ev false _ _ ?_
    rw [if_neg (by decide)]
    repeat (first | ((first | apply Xk.sAny | apply Xk.tAny); (case hok => rfl); (case h => intro C hC; simp (disch := omega) only [w1, ↓reduceIte, Nat.reduceEqDiff, Nat.reduceLeDiff, Nat.reduceAdd, Nat.reduceSub]; with_reducible exact hC); refine gc ?_) | refine gm ?_)
    have := t3 hk
    exact hQ k hk (by omega) (by omega) (by omega)
end Go.Proofs.YtihoblfmhighpaaDoor
