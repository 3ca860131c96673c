/- Numbers as bytes: the program's reader, its loop. Conditions: none. -/
import Derived.Test.YtihoblfmhighpaaPkC
namespace Go.Proofs.Ytihoblfmhighpaa
open Go.Dp
set_option linter.unusedSimpArgs false
set_option linter.unusedVariables false
set_option maxHeartbeats 400000
set_option maxRecDepth 8000
attribute [local irreducible] Ex.thnK Ex.inK Ret

theorem rn_of {b : List UInt8} {s e u n : Nat} (h : dn (b.drop s) 0 0 = (e, u, n)) : rn b (s, 0) = if e = 0 then ((s + n, 0), unz u) else ((s, e), 0) := by
  simp only [rn, if_true, h]

theorem rNum_ev (T : Tags) (H : Heap) (tr tb : Tg) (hne : tr ≠ tb) (p : Nat) (b : List UInt8) (s : Nat × Nat) (hr : Rdr T H tr tb p b s) (hb : b.length ≤ 1000000000) (hs : s.1 ≤ b.length) (Q : AV → Heap → Prop)
    (hQ : ∀ H', Stp (fun u => u = tr) T H T H' → Rdr T H' tr tb p b (rn b s).1 → Q (.int .i64 (rn b s).2) H') : Eo lib n_pack_Reader_Num [.ptr p 0] H Q := by
  refine Eo.ok fun hOk => ?_
  refine Eo.code at_pack_Reader_Num rfl ?_
  obtain ⟨v, ha, hrow⟩ := hr
  obtain ⟨s, w⟩ := s
  have hg := ha.1
  have hs : s ≤ b.length := hs
  by_cases hw : w = 0
  · subst hw
    have hg : H.get p = some (.cells [v, .int .i64 (.ofNat s), .int .i64 (.ofNat 0)] 1) := hg
    iterate 2 repeat (first | ((first | apply Xk.sAny | apply Xk.tAny); (case hok => rfl); (case h => intro C hC; simp (disch := omega) only [w1, ↓reduceIte, Nat.reduceEqDiff, Nat.reduceLeDiff, Nat.reduceAdd, Nat.reduceSub, hg]; with_reducible exact hC); refine gc ?_) | refine gm ?_)
    refine Xk.iter [0, 3, 4, 5] (fun m k H' => ∃ i u, m = b.length - (s + i) ∧ k = [(0, .ptr p 0), (3, .int .i64 (.ofNat s)), (4, .int .u64 (.ofNat u)), (5, .int .i64 (.ofNat i))] ∧ s + i ≤ b.length ∧ i ≤ 9 ∧ u < 2 ^ (7 * i) ∧ dn (b.drop s) 0 0 = dn (b.drop (s + i)) i u ∧ Stp (fun u => u = tr) T H T H' ∧ At T H' tr p (.cells [v, .int .i64 (.ofNat (s + i)), .int .i64 (.ofNat 0)] 1)) rfl
      ⟨_, 0, 0, rfl, rfl, hs, by omega, by decide, rfl, Stp.refl hOk, ha⟩ ?_
    rintro m k H' ⟨i, u, rfl, rfl, hi, hi9, hu, hdn, st, ha'⟩
    unfold l0_pack_Reader_Num
    have hg' := ha'.1
    have hrow' := hrow.step st (fun h => hne h.symm)
    obtain ⟨k1, k2, k3⟩ := rt_len hrow'
    by_cases c : s + i = b.length
    · have f := fail_ev H' p s 3 v (.int .i64 (.ofNat (s + i))) (.int .i64 (.ofNat 0)) hg'
      iterate 2 repeat (first | ((first | apply Xk.sAny | apply Xk.tAny); (case hok => rfl); (case h => intro C hC; simp (disch := omega) only [w1, ↓reduceIte, Nat.reduceEqDiff, Nat.reduceLeDiff, Nat.reduceAdd, Nat.reduceSub, hg', k1, k2, k3, c]; with_reducible exact hC); refine gc ?_) | refine gm ?_)
      refine f _ ?_
      iterate 2 repeat (first | ((first | apply Xk.sAny | apply Xk.tAny); (case hok => rfl); (case h => intro C hC; simp (disch := omega) only [w1, ↓reduceIte, Nat.reduceEqDiff, Nat.reduceLeDiff, Nat.reduceAdd, Nat.reduceSub]; with_reducible exact hC); refine gc ?_) | refine gm ?_)
      rw [c, List.drop_eq_nil_of_le (Nat.le_refl _), dn] at hdn
      have e := rn_of hdn
      rw [if_neg (by decide)] at e
      have s2 := ha'.stp1 st.ok (.cells [v, .int .i64 (.ofNat s), .int .i64 (.ofNat 3)] 1)
      have := hQ _ (st.trans s2) ⟨v, by rw [e]; exact ha'.put _, hrow'.step s2 (fun h => hne h.symm)⟩
      rw [e] at this
      exact this
    · have c2 : s + i < b.length := by omega
      obtain ⟨cb, l, rfl, hgb, htb, hlt, hll, hrd⟩ := rt_at hrow' (by omega)
      obtain ⟨j1, j2⟩ := hrd _ c2
      have hcp : cb ≠ p := fun h => hne (by rw [← ha'.2, ← htb, h])
      rw [drop_at c2, dn] at hdn
      have hc8 := (b.getD (s + i) 0).toNat_lt
      generalize (b.getD (s + i) 0).toNat = x at j2 hdn hc8
      have hc8 : x < 256 := hc8
      by_cases he : (0 < i ∧ x = 0) ∨ (i = 9 ∧ 1 < x)
      · rw [if_pos he] at hdn
        have e := rn_of hdn
        rw [if_neg (by decide)] at e
        have s2 := ha'.stp1 st.ok (.cells [.sl cb 0 b.length 1, .int .i64 (.ofNat s), .int .i64 (.ofNat 4)] 1)
        have hfin := hQ _ (st.trans s2) ⟨_, by rw [e]; exact ha'.put _, hrow'.step s2 (fun h => hne h.symm)⟩
        rw [e] at hfin
        have f := fail_ev H' p s 4 (.sl cb 0 b.length 1) (.int .i64 (.ofNat (s + i))) (.int .i64 (.ofNat 0)) hg'
        rcases he with ⟨e1, e2⟩ | ⟨e1, e2⟩
        · have e2 := eq_true e2
          iterate 3 repeat (first | ((first | apply Xk.sAny | apply Xk.tAny); (case hok => rfl); (case h => intro C hC; simp (disch := omega) only [w1, ↓reduceIte, Nat.reduceEqDiff, Nat.reduceLeDiff, Nat.reduceAdd, Nat.reduceSub, hg', c, c2, hgb, j1, j2, e1, e2]; with_reducible exact hC); refine gc ?_) | refine gm ?_)
          refine f _ ?_
          iterate 2 repeat (first | ((first | apply Xk.sAny | apply Xk.tAny); (case hok => rfl); (case h => intro C hC; simp (disch := omega) only [w1, ↓reduceIte, Nat.reduceEqDiff, Nat.reduceLeDiff, Nat.reduceAdd, Nat.reduceSub]; with_reducible exact hC); refine gc ?_) | refine gm ?_)
          exact hfin
        · have e3 : ¬ x = 0 := by omega
          have e4 : 0 < i := by omega
          have e1 := eq_true e1
          iterate 3 repeat (first | ((first | apply Xk.sAny | apply Xk.tAny); (case hok => rfl); (case h => intro C hC; simp (disch := omega) only [w1, ↓reduceIte, Nat.reduceEqDiff, Nat.reduceLeDiff, Nat.reduceAdd, Nat.reduceSub, hg', c, c2, hgb, j1, j2, e1, e2, e3, e4]; with_reducible exact hC); refine gc ?_) | refine gm ?_)
          refine f _ ?_
          iterate 2 repeat (first | ((first | apply Xk.sAny | apply Xk.tAny); (case hok => rfl); (case h => intro C hC; simp (disch := omega) only [w1, ↓reduceIte, Nat.reduceEqDiff, Nat.reduceLeDiff, Nat.reduceAdd, Nat.reduceSub]; with_reducible exact hC); refine gc ?_) | refine gm ?_)
          exact hfin
      · rw [if_neg he] at hdn
        have hsh : x % 128 * 2 ^ (7 * i) < 2 ^ 64 ∧ u + x % 128 * 2 ^ (7 * i) < 2 ^ (7 * (i + 1)) ∧ u + x % 128 * 2 ^ (7 * i) < 2 ^ 64 := by
          have ep : (2 : Nat) ^ (7 * (i + 1)) = 2 ^ (7 * i) * 128 := by rw [show 7 * (i + 1) = 7 * i + 7 by omega, Nat.pow_add]
          by_cases h9 : i = 9
          · have hx1 : x ≤ 1 := by
              rcases Nat.lt_or_ge 1 x with h | h
              · exact absurd (.inr ⟨h9, h⟩) he
              · exact h
            subst h9
            have e63 : (2 : Nat) ^ (7 * 9) = 9223372036854775808 := by decide
            rw [e63] at hu ep ⊢
            rw [ep]
            have : x % 128 ≤ 1 := by omega
            rcases Nat.lt_or_ge (x % 128) 1 with h | h
            · have : x % 128 = 0 := by omega
              rw [this]; omega
            · have : x % 128 = 1 := by omega
              rw [this]; omega
          · have hp : (2 : Nat) ^ (7 * (i + 1)) ≤ 2 ^ 63 := Nat.pow_le_pow_right (by decide) (by omega)
            have hm : x % 128 * 2 ^ (7 * i) ≤ 127 * 2 ^ (7 * i) := Nat.mul_le_mul_right _ (by omega)
            rw [ep] at hp ⊢
            omega
        have f1 := band127 x hc8
        have f2 : 7 * i < 9223372036854775808 := by omega
        have f3 := shl64 .u64 (x % 128) (7 * i) hsh.1 (by omega)
        have f4 := bor64 u (x % 128) (7 * i) hu hsh.2.2
        have f5 := cint_u64 .u8 (x % 128) (by omega)
        have f6 := cint_u64 .i64 (7 * i) (by omega)
        have s2 := ha'.stp1 st.ok (.cells [.sl cb 0 b.length 1, .int .i64 (.ofNat (s + i + 1)), .int .i64 (.ofNat 0)] 1)
        have ha2 := ha'.put (.cells [.sl cb 0 b.length 1, .int .i64 (.ofNat (s + i + 1)), .int .i64 (.ofNat 0)] 1)
        have h3 : (¬ 0 < i ∧ ¬ i = 9 ∧ True ∧ True) ∨ (0 < i ∧ ¬ i = 9 ∧ ¬ x = 0 ∧ True) ∨ (0 < i ∧ (i = 9) = True ∧ ¬ x = 0 ∧ ¬ 1 < x) := by
          have h4 : (¬ 0 < i ∧ ¬ i = 9) ∨ (0 < i ∧ ¬ i = 9 ∧ ¬ x = 0) ∨ (0 < i ∧ i = 9 ∧ ¬ x = 0 ∧ ¬ 1 < x) := by omega
          rcases h4 with ⟨a, b⟩ | ⟨a, b, c⟩ | ⟨a, b, c, d⟩
          · exact .inl ⟨a, b, trivial, trivial⟩
          · exact .inr (.inl ⟨a, b, c, trivial⟩)
          · exact .inr (.inr ⟨a, eq_true b, c, d⟩)
        generalize hU : u + x % 128 * 2 ^ (7 * i) = U at hsh f4 hdn
        by_cases d : x < 128
        · rw [if_pos d] at hdn
          have e := rn_of hdn
          rw [if_pos rfl] at e
          have hfin := hQ _ (st.trans s2) ⟨_, by rw [e]; exact ha2, hrow'.step s2 (fun h => hne h.symm)⟩
          rw [e] at hfin
          obtain ⟨m, u1, u2⟩ := unz_ops U hsh.2.2
          have u3 := shr64 U 1 (by omega)
          rw [show U / 2 ^ 1 = U / 2 from rfl] at u3
          have u4 := cint_i64 .u64 (U / 2) (by omega)
          have u5 := band1 U hsh.2.2
          have u6 := cint_i64 .u64 (U % 2) (by omega)
          rcases h3 with ⟨e1, e2, e3, e4⟩ | ⟨e1, e2, e3, e4⟩ | ⟨e1, e2, e3, e4⟩
          all_goals
            iterate 4 repeat (first | ((first | apply Xk.sAny | apply Xk.tAny); (case hok => rfl); (case h => intro C hC; simp (disch := omega) only [w1, ↓reduceIte, Nat.reduceEqDiff, Nat.reduceLeDiff, Nat.reduceAdd, Nat.reduceSub, hg', c, c2, hgb, j1, j2, e1, e2, e3, e4, f1, f2, f3, f4, f5, f6, d, u1, u2, u3, u4, u5, u6]; with_reducible exact hC); refine gc ?_) | refine gm ?_)
            exact hfin
        · rw [if_neg d] at hdn
          have hlt9 : i < 9 := by omega
          rcases h3 with ⟨e1, e2, e3, e4⟩ | ⟨e1, e2, e3, e4⟩ | ⟨e1, e2, e3, e4⟩
          all_goals
            iterate 4 repeat (first | ((first | apply Xk.sAny | apply Xk.tAny); (case hok => rfl); (case h => intro C hC; simp (disch := omega) only [w1, ↓reduceIte, Nat.reduceEqDiff, Nat.reduceLeDiff, Nat.reduceAdd, Nat.reduceSub, hg', c, c2, hgb, j1, j2, e1, e2, e3, e4, f1, f2, f3, f4, f5, f6, d]; with_reducible exact hC); refine gc ?_) | refine gm ?_)
            refine ⟨rfl, _, by omega, i + 1, U, rfl, rfl, by omega, by omega, hsh.2.1, hdn, st.trans s2, ha2⟩
  · have e : rn b (s, w) = ((s, w), 0) := by simp only [rn]; rw [if_neg hw]
    have hg : H.get p = some (.cells [v, .int .i64 (.ofNat s), .int .i64 (.ofNat w)] 1) := hg
    iterate 2 repeat (first | ((first | apply Xk.sAny | apply Xk.tAny); (case hok => rfl); (case h => intro C hC; simp (disch := omega) only [w1, ↓reduceIte, Nat.reduceEqDiff, Nat.reduceLeDiff, Nat.reduceAdd, Nat.reduceSub, hg, hw]; with_reducible exact hC); refine gc ?_) | refine gm ?_)
    have := hQ H (Stp.refl hOk) ⟨v, by rw [e]; exact ha, hrow⟩
    rw [e] at this
    exact this

end Go.Proofs.Ytihoblfmhighpaa
