/- Numbers as bytes: the program's writer, its loop. Conditions: none. -/
import Derived.Test.YtfcjmllbejpbbaaGreatDoorPkA
namespace Go.Proofs.YtfcjmllbejpbbaaGreatDoor
open Go.Dp
set_option linter.unusedSimpArgs false
set_option linter.unusedVariables false
set_option maxHeartbeats 400000
set_option maxRecDepth 8000
attribute [local irreducible] Ex.thnK Ex.inK Ret

theorem num_ev (T : Tags) (H : Heap) (t : Tg) (v : AV) (s : List UInt8) (n : Int) (hv : RT T H t 2 1 v (ofBytes s)) (hn : s.length ≤ 1000000000) (h1 : -9223372036854775808 ≤ n) (h2 : n ≤ 9223372036854775807) (Q : AV → Heap → Prop)
    (hQ : ∀ v' T' H', Stp (fun u => u = t) T H T' H' → RT T' H' t 2 1 v' (ofBytes (s ++ vi (zig n))) → Q v' H') : Eo lib n_pack_num [v, .int .i64 n] H Q := by
  refine Eo.ok fun hOk => ?_
  refine Eo.code at_pack_num rfl ?_
  obtain ⟨a, b, m, d, z1, z2, z3, z4, z5⟩ := zig_ops n h1 h2
  have hz := zig_lt h1 h2
  generalize zig n = z at z5 hz hQ
  obtain ⟨k1, k2, k3⟩ := rt_len hv
  repeat (first | ((first | apply Xk.sAny | apply Xk.tAny); (case hok => rfl); (case h => intro C hC; simp (disch := omega) only [w1, ↓reduceIte, Nat.reduceEqDiff, Nat.reduceLeDiff, Nat.reduceAdd, Nat.reduceSub, k2, k3, z1, z2, z3, z4, z5]; with_reducible exact hC); refine gc ?_) | refine gm ?_)
  repeat (first | ((first | apply Xk.sAny | apply Xk.tAny); (case hok => rfl); (case h => intro C hC; simp (disch := omega) only [w1, ↓reduceIte, Nat.reduceEqDiff, Nat.reduceLeDiff, Nat.reduceAdd, Nat.reduceSub, k2, k3, z1, z2, z3, z4, z5]; with_reducible exact hC); refine gc ?_) | refine gm ?_)
  refine Xk.iter [0, 5] (fun m k H' => ∃ v1 s1 T1, k = [(0, v1), (5, .int .u64 (.ofNat m))] ∧ m < 2 ^ 64 ∧ s1.length + (vi m).length = s.length + (vi z).length ∧ s1 ++ vi m = s ++ vi z ∧ Stp (fun u => u = t) T H T1 H' ∧ RT T1 H' t 2 1 v1 (ofBytes s1)) rfl
    ⟨_, v, s, T, rfl, hz, rfl, rfl, Stp.refl hOk, hv⟩ ?_
  rintro m k H' ⟨v1, s1, T1, rfl, hm, hle, heq, st1, hr⟩
  unfold l0_pack_num
  obtain ⟨k1, k2, k3⟩ := rt_len hr
  have hz10 := vi_len10 hz
  by_cases c : 128 ≤ m
  · have hsz : s1.length ≤ 1000000010 := by omega
    have f1 := cint_lo m
    have f2 := bor128 (m % 256) (by omega)
    rw [show m % 256 % 128 = m % 128 by omega] at f2
    obtain ⟨v', H2, T2, e1, e2, e3⟩ := RT.push (bytes := 1) (w := 3) (row := [.int .u8 (.ofNat (m % 128 + 128))]) st1.ok hr rfl rfl (by decide) (by rw [pk_len]; omega) (by rw [pk_len]; omega)
    obtain ⟨q1, q2⟩ := e3.sc
    have f3 := shr64 m 7 (by omega)
    rw [show m / 2 ^ 7 = m / 128 from rfl] at f3
    repeat (first | ((first | apply Xk.sAny | apply Xk.tAny); (case hok => rfl); (case h => intro C hC; simp (disch := omega) only [w1, ↓reduceIte, Nat.reduceEqDiff, Nat.reduceLeDiff, Nat.reduceAdd, Nat.reduceSub, c, k2, k3, f1, f2]; with_reducible exact hC); refine gc ?_) | refine gm ?_)
    repeat (first | ((first | apply Xk.sAny | apply Xk.tAny); (case hok => rfl); (case h => intro C hC; simp (disch := omega) only [w1, ↓reduceIte, Nat.reduceEqDiff, Nat.reduceLeDiff, Nat.reduceAdd, Nat.reduceSub, c, k2, k3, f1, f2, e1, q1, q2, f3]; with_reducible exact hC); refine gc ?_) | refine gm ?_)
    repeat (first | ((first | apply Xk.sAny | apply Xk.tAny); (case hok => rfl); (case h => intro C hC; simp (disch := omega) only [w1, ↓reduceIte, Nat.reduceEqDiff, Nat.reduceLeDiff, Nat.reduceAdd, Nat.reduceSub, c, k2, k3, f1, f2, e1, q1, q2, f3]; with_reducible exact hC); refine gc ?_) | refine gm ?_)
    rw [vi_large c] at hle heq
    rw [List.length_cons] at hle
    refine ⟨rfl, _, by omega, v', s1 ++ [UInt8.ofNat (m % 128 + 128)], T2, rfl, by omega, ?_, ?_, st1.trans e2, ?_⟩
    · rw [List.length_append, List.length_singleton]; omega
    · rw [List.append_assoc]; exact heq
    · rw [pk_app, pk_one (by omega)]; exact e3
  · have hsz : s1.length ≤ 1000000010 := by omega
    have f1 := cint_lo m
    rw [show m % 256 = m by omega] at f1
    obtain ⟨v', H2, T2, e1, e2, e3⟩ := RT.push (bytes := 1) (w := 3) (row := [.int .u8 (.ofNat m)]) st1.ok hr rfl rfl (by decide) (by rw [pk_len]; omega) (by rw [pk_len]; omega)
    obtain ⟨q1, q2⟩ := e3.sc
    repeat (first | ((first | apply Xk.sAny | apply Xk.tAny); (case hok => rfl); (case h => intro C hC; simp (disch := omega) only [w1, ↓reduceIte, Nat.reduceEqDiff, Nat.reduceLeDiff, Nat.reduceAdd, Nat.reduceSub, c]; with_reducible exact hC); refine gc ?_) | refine gm ?_)
    repeat (first | ((first | apply Xk.sAny | apply Xk.tAny); (case hok => rfl); (case h => intro C hC; simp (disch := omega) only [w1, ↓reduceIte, Nat.reduceEqDiff, Nat.reduceLeDiff, Nat.reduceAdd, Nat.reduceSub, c, k2, k3, f1, e1, q1, q2]; with_reducible exact hC); refine gc ?_) | refine gm ?_)
    repeat (first | ((first | apply Xk.sAny | apply Xk.tAny); (case hok => rfl); (case h => intro C hC; simp (disch := omega) only [w1, ↓reduceIte, Nat.reduceEqDiff, Nat.reduceLeDiff, Nat.reduceAdd, Nat.reduceSub, c, k2, k3, f1, e1, q1, q2]; with_reducible exact hC); refine gc ?_) | refine gm ?_)
    rw [vi_small (by omega)] at heq
    refine hQ _ _ _ (st1.trans e2) ?_
    rw [← heq, pk_app, pk_one (by omega)]
    exact e3

theorem Num_ev (T : Tags) (H : Heap) (t : Tg) (v : AV) (s : List UInt8) (n : Int) (hv : Sl H 1 v (ofBytes s)) (hn : s.length ≤ 100000000) (h1 : -9223372036854775808 ≤ n) (h2 : n ≤ 9223372036854775807) (Q : AV → Heap → Prop)
    (hQ : ∀ v' T' H', Stp (fun u => u = t) T H T' H' → RT T' H' t 2 1 v' (ofBytes (s ++ vi (zig n))) → Q v' H') : Eo lib n_pack_Num [v, .int .i64 n] H Q := by
  refine Eo.ok fun hOk => ?_
  refine Eo.code at_pack_Num rfl ?_
  obtain ⟨k1, k2, k3⟩ := sl_len hv
  repeat (first | ((first | apply Xk.sAny | apply Xk.tAny); (case hok => rfl); (case h => intro C hC; simp (disch := omega) only [w1, ↓reduceIte, Nat.reduceEqDiff, Nat.reduceLeDiff, Nat.reduceAdd, Nat.reduceSub, k2, k3]; with_reducible exact hC); refine gc ?_) | refine gm ?_)
  repeat (first | ((first | apply Xk.sAny | apply Xk.tAny); (case hok => rfl); (case h => intro C hC; simp (disch := omega) only [w1, ↓reduceIte, Nat.reduceEqDiff, Nat.reduceLeDiff, Nat.reduceAdd, Nat.reduceSub, k2, k3]; with_reducible exact hC); refine gc ?_) | refine gm ?_)
  refine grown_ev T H t v s 10 hv (by omega) _ fun v' T' H' st hr => ?_
  obtain ⟨q1, q2⟩ := hr.sc
  repeat (first | ((first | apply Xk.sAny | apply Xk.tAny); (case hok => rfl); (case h => intro C hC; simp (disch := omega) only [w1, ↓reduceIte, Nat.reduceEqDiff, Nat.reduceLeDiff, Nat.reduceAdd, Nat.reduceSub, q1, q2]; with_reducible exact hC); refine gc ?_) | refine gm ?_)
  refine num_ev T' H' t v' s n hr (by omega) h1 h2 _ fun v2 T2 H2 st2 hr2 => ?_
  obtain ⟨q1, q2⟩ := hr2.sc
  repeat (first | ((first | apply Xk.sAny | apply Xk.tAny); (case hok => rfl); (case h => intro C hC; simp (disch := omega) only [w1, ↓reduceIte, Nat.reduceEqDiff, Nat.reduceLeDiff, Nat.reduceAdd, Nat.reduceSub, q1, q2]; with_reducible exact hC); refine gc ?_) | refine gm ?_)
  exact hQ _ _ _ (st.trans st2) hr2
end Go.Proofs.YtfcjmllbejpbbaaGreatDoor
