/- Numbers as bytes: the reference's writer and reader. Conditions: none. -/
import Derived.Test.YtfcjmllbejpbbaaGreatDoorPkD
namespace Go.Proofs.YtfcjmllbejpbbaaGreatDoor
open Go.Dp
set_option linter.unusedSimpArgs false
set_option linter.unusedVariables false
set_option maxHeartbeats 400000
set_option maxRecDepth 8000
attribute [local irreducible] Ex.thnK Ex.inK Ret

theorem not_neg (k : Nat) (h : k < 9223372036854775808) : un .xor (.int .i64 (Int.negSucc k)) = some (.int .i64 (.ofNat k)) := by
  show some (AV.int .i64 (wr .i64 (((BitVec.ofInt 64 (-1) ^^^ BitVec.ofInt 64 (Int.negSucc k)).toNat : Nat) : Int))) = _
  have e : (BitVec.ofInt 64 (-1) ^^^ BitVec.ofInt 64 (Int.negSucc k)).toNat = k := by
    have ea : BitVec.ofInt 64 (-1) = BitVec.allOnes 64 := by decide
    rw [ea, BitVec.xor_comm, BitVec.xor_allOnes, BitVec.toNat_not, BitVec.toNat_ofInt]
    have : (Int.negSucc k % ((2 ^ 64 : Nat) : Int)).toNat = 18446744073709551615 - k := by omega
    rw [this]
    omega
  rw [e]
  exact congrArg (fun z => some (AV.int .i64 z)) (wrn_i64 _ h)
theorem not_pos (a : Nat) (h : a < 2 ^ 63) : un .xor (.int .i64 (.ofNat a)) = some (.int .i64 (-(a : Int) - 1)) := by
  show some (AV.int .i64 (wr .i64 (((BitVec.ofInt 64 (-1) ^^^ BitVec.ofInt 64 (Int.ofNat a)).toNat : Nat) : Int))) = _
  have ea : BitVec.ofInt 64 (-1) = BitVec.allOnes 64 := by decide
  rw [ea, BitVec.xor_comm, not64 a h]
theorem bor_1 (k : Nat) (h : k < 9223372036854775808) : bin .or (.int .u64 (.ofNat (k * 2 ^ 1))) (.int .u64 (.ofNat 1)) = some (.int .u64 (.ofNat (2 * k + 1))) := by
  show some (AV.int .u64 (wr .u64 (((BitVec.ofInt 64 (Int.ofNat (k * 2 ^ 1)) ||| BitVec.ofInt 64 (Int.ofNat 1)).toNat : Nat) : Int))) = _
  have e : (BitVec.ofInt 64 (Int.ofNat (k * 2 ^ 1)) ||| BitVec.ofInt 64 (Int.ofNat 1)).toNat = 2 * k + 1 := by
    rw [bv64, bv64, BitVec.toNat_or, BitVec.toNat_ofNat, BitVec.toNat_ofNat, Nat.mod_eq_of_lt (by omega), Nat.mod_eq_of_lt (by omega), ← Nat.shiftLeft_eq, ← Nat.shiftLeft_add_eq_or_of_lt (by decide), Nat.shiftLeft_eq]
    omega
  rw [e]
  exact congrArg (fun z => some (AV.int .u64 z)) (wrn_u64 _ (by omega))
theorem band127w (u : Nat) (h : u < 2 ^ 64) : bin .and (.int .u64 (.ofNat u)) (.int .u64 (.ofNat 127)) = some (.int .u64 (.ofNat (u % 128))) := by
  show some (AV.int .u64 (wr .u64 (((BitVec.ofInt 64 (Int.ofNat u) &&& BitVec.ofInt 64 (Int.ofNat 127)).toNat : Nat) : Int))) = _
  have e : (BitVec.ofInt 64 (Int.ofNat u) &&& BitVec.ofInt 64 (Int.ofNat 127)).toNat = u % 128 := by
    rw [bv64, bv64, BitVec.toNat_and, BitVec.toNat_ofNat, BitVec.toNat_ofNat, Nat.mod_eq_of_lt h, show 127 % 2 ^ 64 = 2 ^ 7 - 1 by decide, Nat.and_two_pow_sub_one_eq_mod]
  rw [e]
  exact congrArg (fun z => some (AV.int .u64 z)) (wrn_u64 _ (by omega))

theorem gNum_ev (T : Tags) (H : Heap) (t : Tg) (v : AV) (s : List UInt8) (n : Int) (hv : Sl H 1 v (ofBytes s)) (hn : s.length ≤ 100000000) (h1 : -9223372036854775808 ≤ n) (h2 : n ≤ 9223372036854775807) (Q : AV → Heap → Prop)
    (hQ : ∀ v' T' H', Stp (fun u => u = t) T H T' H' → RT T' H' t 2 1 v' (ofBytes (s ++ vi (zig n))) → Q v' H') : Eo lib n_depotref1_Num [v, .int .i64 n] H Q := by
  refine Eo.ok fun hOk => ?_
  refine Eo.code at_depotref1_Num rfl ?_
  obtain ⟨k1, k2, k3⟩ := sl_len hv
  obtain ⟨a, b, m, d, z1, z2, z3, z4, z5⟩ := zig_ops n h1 h2
  have hz := zig_lt h1 h2
  have hsrc := (hv.mono (HLe.new (hOk _ (Nat.le_refl _)) (.cells [] 3))).src (pk_sc s) (by decide)
  rw [pk_len, Nat.div_one] at hsrc
  have s1 := Stp.new (O := fun _ => False) (T := T) hOk t (.cells [] 3)
  have hr : RT (T.lay H.next t) (H.new (.cells [] 3)) t 2 1 (.sl H.next 0 0 1) [] := .inr ⟨H.next, 0, _, rfl, rfl, Heap.get_new_self _ _, Nat.zero_le _, rfl, Tags.lay_self _ _ _⟩
  obtain ⟨v0, H0, T0, e1, e2, e3⟩ := RT.app (bytes := 1) s1.ok hr hsrc (by rw [pk_len, Nat.mul_one]) (by decide) (by simp; omega) (by simp; omega)
  rw [List.nil_append] at e3
  have st0 : Stp (fun u => u = t) T H T0 H0 := (s1.mono fun _ h => h.elim).trans e2
  obtain ⟨q1, q2⟩ := e3.sc
  repeat (first | ((first | apply Xk.sAny | apply Xk.tAny); (case hok => rfl); (case h => intro C hC; simp (disch := omega) only [w1, ↓reduceIte, Nat.reduceEqDiff, Nat.reduceLeDiff, Nat.reduceAdd, Nat.reduceSub, k2, k3, e1, q1, q2, z1, z2]; with_reducible exact hC); refine gc ?_) | refine gm ?_)
  refine Xk.cut [5, 6] (fun k H' => k = [(5, v0), (6, .int .u64 (.ofNat (zig n)))] ∧ H' = H0) ?_ ?_
  · by_cases c : n < Int.ofNat 0
    · have c' := eq_true c
      obtain ⟨k, rfl⟩ : ∃ k, n = Int.negSucc k := by
        cases n with
        | ofNat k => exact absurd c (by show ¬ ((k : Int) < 0); omega)
        | negSucc k => exact ⟨k, rfl⟩
      have hk : k < 9223372036854775808 := by omega
      have hzk : zig (Int.negSucc k) = 2 * k + 1 := by
        simp only [zig]
        rw [if_neg (by omega)]
        have : (-(Int.negSucc k)).toNat = k + 1 := by rw [Int.neg_negSucc]; rfl
        omega
      rw [hzk]
      have f1 := not_neg k hk
      have f2 := cint_u64 .i64 k (by omega)
      have f3 := shl64 .u64 k 1 (by omega) (by omega)
      have f4 := bor_1 k hk
      refine Xk.if_ rfl rfl (fun d => ?_) (fun d => ?_)
      · repeat (first | ((first | apply Xk.sAny | apply Xk.tAny); (case hok => rfl); (case h => intro C hC; simp (disch := omega) only [w1, ↓reduceIte, Nat.reduceEqDiff, Nat.reduceLeDiff, Nat.reduceAdd, Nat.reduceSub, c', f1, f2, f3, f4]; with_reducible exact hC); refine gc ?_) | refine gm ?_)
        exact ⟨rfl, rfl, rfl⟩
      · exact absurd c d
    · have c' := eq_false c
      have hzb : b = zig n := by
        cases n with
        | ofNat k =>
          have hk : k < 9223372036854775808 := by have : Int.ofNat k = (k : Int) := rfl; omega
          have ea := cint_u64 .i64 k (by omega)
          rw [ea] at z1
          injection z1 with z1
          injection z1 with _ z1
          injection z1 with z1
          subst z1
          have f3 := shl64 .u64 k 1 (by omega) (by omega)
          rw [f3] at z2
          injection z2 with z2
          injection z2 with _ z2
          injection z2 with z2
          rw [← z2]
          simp only [zig]
          have h0 : (0 : Int) ≤ Int.ofNat k := Int.natCast_nonneg k
          rw [if_pos h0]
          show k * 2 ^ 1 = 2 * k
          omega
        | negSucc k => exact absurd (by show Int.negSucc k < 0; omega) c
      subst hzb
      refine Xk.if_ rfl rfl (fun d => ?_) (fun d => ?_)
      · exact absurd d c
      · repeat (first | ((first | apply Xk.sAny | apply Xk.tAny); (case hok => rfl); (case h => intro C hC; simp (disch := omega) only [w1, ↓reduceIte, Nat.reduceEqDiff, Nat.reduceLeDiff, Nat.reduceAdd, Nat.reduceSub, c']; with_reducible exact hC); refine gc ?_) | refine gm ?_)
        exact ⟨rfl, rfl, rfl⟩
  rintro k H' ⟨rfl, rfl⟩
  generalize zig n = z at hz hQ
  refine Xk.cut [5, 6] (fun k H' => ∃ m v1 s1 T1, k = [(5, v1), (6, .int .u64 (.ofNat m))] ∧ m < 128 ∧ s1.length ≤ 1000000010 ∧ s1 ++ vi m = s ++ vi z ∧ Stp (fun u => u = t) T H T1 H' ∧ RT T1 H' t 2 1 v1 (ofBytes s1)) ?_ ?_
  · refine Xk.block ?_
    refine Xk.iter [5, 6] (fun m k H' => ∃ v1 s1 T1, k = [(5, v1), (6, .int .u64 (.ofNat m))] ∧ m < 2 ^ 64 ∧ s1.length + (vi m).length = s.length + (vi z).length ∧ s1 ++ vi m = s ++ vi z ∧ Stp (fun u => u = t) T H T1 H' ∧ RT T1 H' t 2 1 v1 (ofBytes s1)) rfl
      ⟨_, v0, s, T0, rfl, hz, rfl, rfl, st0, e3⟩ ?_
    rintro m k H' ⟨v1, s1, T1, rfl, hm, hle, heq, st1, hr⟩
    unfold l0_depotref1_Num
    obtain ⟨k1, k2, k3⟩ := rt_len hr
    have hz10 := vi_len10 hz
    have hsz : s1.length ≤ 1000000010 := by omega
    by_cases c : 128 ≤ m
    · have f0 := band127w m hm
      have f1 := cint_u8 .u64 (m % 128) (by omega)
      have f2 := bor128 (m % 128) (by omega)
      rw [Nat.mod_mod] at f2
      obtain ⟨v', H2, T2, e1, e2, e3⟩ := RT.push (bytes := 1) (w := 3) (row := [.int .u8 (.ofNat (m % 128 + 128))]) st1.ok hr rfl rfl (by decide) (by rw [pk_len]; omega) (by rw [pk_len]; omega)
      obtain ⟨q1, q2⟩ := e3.sc
      have f3 := shr64 m 7 (by omega)
      rw [show m / 2 ^ 7 = m / 128 from rfl] at f3
      repeat (first | ((first | apply Xk.sAny | apply Xk.tAny); (case hok => rfl); (case h => intro C hC; simp (disch := omega) only [w1, ↓reduceIte, Nat.reduceEqDiff, Nat.reduceLeDiff, Nat.reduceAdd, Nat.reduceSub, c, k2, k3, f0, f1, f2, e1, q1, q2, f3]; with_reducible exact hC); refine gc ?_) | refine gm ?_)
      repeat (first | ((first | apply Xk.sAny | apply Xk.tAny); (case hok => rfl); (case h => intro C hC; simp (disch := omega) only [w1, ↓reduceIte, Nat.reduceEqDiff, Nat.reduceLeDiff, Nat.reduceAdd, Nat.reduceSub, c, k2, k3, f0, f1, f2, e1, q1, q2, f3]; with_reducible exact hC); refine gc ?_) | refine gm ?_)
      repeat (first | ((first | apply Xk.sAny | apply Xk.tAny); (case hok => rfl); (case h => intro C hC; simp (disch := omega) only [w1, ↓reduceIte, Nat.reduceEqDiff, Nat.reduceLeDiff, Nat.reduceAdd, Nat.reduceSub, c, k2, k3, f0, f1, f2, e1, q1, q2, f3]; with_reducible exact hC); refine gc ?_) | refine gm ?_)
      rw [vi_large c] at hle heq
      rw [List.length_cons] at hle
      refine ⟨rfl, _, by omega, v', s1 ++ [UInt8.ofNat (m % 128 + 128)], T2, rfl, by omega, ?_, ?_, st1.trans e2, ?_⟩
      · rw [List.length_append, List.length_singleton]; omega
      · rw [List.append_assoc]; exact heq
      · rw [pk_app, pk_one (by omega)]; exact e3
    · repeat (first | ((first | apply Xk.sAny | apply Xk.tAny); (case hok => rfl); (case h => intro C hC; simp (disch := omega) only [w1, ↓reduceIte, Nat.reduceEqDiff, Nat.reduceLeDiff, Nat.reduceAdd, Nat.reduceSub, c]; with_reducible exact hC); refine gc ?_) | refine gm ?_)
      repeat (first | ((first | apply Xk.sAny | apply Xk.tAny); (case hok => rfl); (case h => intro C hC; simp (disch := omega) only [w1, ↓reduceIte, Nat.reduceEqDiff, Nat.reduceLeDiff, Nat.reduceAdd, Nat.reduceSub, c]; with_reducible exact hC); refine gc ?_) | refine gm ?_)
      exact ⟨rfl, m, v1, s1, T1, rfl, by omega, hsz, heq, st1, hr⟩
  · rintro k H' ⟨m, v1, s1, T1, rfl, c, hsz, heq, st1, hr⟩
    obtain ⟨k1, k2, k3⟩ := rt_len hr
    have f1 := cint_lo m
    rw [show m % 256 = m by omega] at f1
    obtain ⟨v', H2, T2, e1, e2, e3⟩ := RT.push (bytes := 1) (w := 3) (row := [.int .u8 (.ofNat m)]) st1.ok hr rfl rfl (by decide) (by rw [pk_len]; omega) (by rw [pk_len]; omega)
    obtain ⟨q1, q2⟩ := e3.sc
    repeat (first | ((first | apply Xk.sAny | apply Xk.tAny); (case hok => rfl); (case h => intro C hC; simp (disch := omega) only [w1, ↓reduceIte, Nat.reduceEqDiff, Nat.reduceLeDiff, Nat.reduceAdd, Nat.reduceSub, k2, k3, f1, e1, q1, q2]; with_reducible exact hC); refine gc ?_) | refine gm ?_)
    repeat (first | ((first | apply Xk.sAny | apply Xk.tAny); (case hok => rfl); (case h => intro C hC; simp (disch := omega) only [w1, ↓reduceIte, Nat.reduceEqDiff, Nat.reduceLeDiff, Nat.reduceAdd, Nat.reduceSub, k2, k3, f1, e1, q1, q2]; with_reducible exact hC); refine gc ?_) | refine gm ?_)
    rw [vi_small (by omega)] at heq
    refine hQ _ _ _ (st1.trans e2) ?_
    rw [← heq, pk_app, pk_one (by omega)]
    exact e3
end Go.Proofs.YtfcjmllbejpbbaaGreatDoor
