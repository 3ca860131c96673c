/- Layer 17: the law SlotOnce, over the clean machine. Conditions: none. -/
import Derived.Test.YtihoblfmhighpaaOnP
import Derived.Test.YtihoblfmhighpaaWdU
namespace Go.Proofs.Ytihoblfmhighpaa
open Go.Dp
set_option linter.unusedSimpArgs false
set_option linter.unusedVariables false
set_option maxHeartbeats 4000000
set_option maxRecDepth 8000
attribute [local irreducible] Ex.thnK Ex.inK Ret

theorem SRuns_ev (H : Heap) (Q : AV → Heap → Prop) (hQ : Q (.bool true) H) : Eo lib n_depotlaw17_SlotRuns [] H Q := Eo.runs rfl hQ
/-- the law's own steps: the arguments stay -/
abbrev OL : Tg → Prop := fun u => u.1 ≠ 1
theorem ol7 {u : Tg} (h : O7 10 u) : OL u := by have := h.1; show u.1 ≠ 1; omega
theorem ol0 {a b : Nat} {u : Tg} (h : u = (0, a, b)) : OL u := by rw [h]; show (0 : Nat) ≠ 1; decide
theorem n70 {a b : Nat} : ¬ O7 10 ((0 : Nat), a, b) := by rintro ⟨h, _⟩; dsimp only at h; omega
theorem nK0 {a b : Nat} {t : Tg} (h : Ok4 10 t) : ¬ t = ((0 : Nat), a, b) := by rintro rfl; have := h.1; dsimp only at this; omega
theorem n00 {a b : Nat} (h : a ≠ b) : ¬ ((0, a, 0) : Tg) = (0, b, 0) := fun e => h (by injection e with _ e; injection e)
theorem hle_stp {H H' : Heap} {T' : Tags} (s : Stp OL (fun _ => ((1, 0, 0) : Tg)) H T' H') : HLe H H' := fun b y hb => s.kp b y hb (fun h => h rfl)
abbrev LW (T : Tags) (H : Heap) (p c : Nat) (M : Mp) (done : List Dd) : Prop := LS 10 T H p 4096 8 3 c (szs 4096 64) M done

/-- what holds behind the first loop -/
def One (ks : List (List UInt8)) (vo : AV) (p : Nat) (H : Heap) (k : Kn) (H' : Heap) : Prop :=
  ∃ n v7 T', k = [(1, vo), (5, .ptr p 0), (7, v7)] ∧ n ≤ 12 ∧ RT T' H' (0, 1, 0) 0 9 v7 ((rqL ks n).flatMap Fr.cells) ∧ LW T' H' p 0 (fun _ => none) [] ∧ Stp OL (fun _ => (1, 0, 0)) H T' H'
/-- behind the second -/
def Two (ks : List (List UInt8)) (p : Nat) (H : Heap) (k : Kn) (H' : Heap) : Prop :=
  ∃ n v7 b T' M V done es cl, k = [(5, .ptr p 0), (7, v7), (13, .map b)] ∧ n ≤ 12 ∧ RT T' H' (0, 1, 0) 0 9 v7 ((rqL ks n).flatMap Fr.cells) ∧ At T' H' (0, 4, 0) b (.mp es cl) ∧ VMl es V ∧ MV M V ∧ (∀ d ∈ done, d.rid < ((100 : Nat) : Int)) ∧ done.length ≤ 12 ∧ LW T' H' p done.length M done ∧ Stp OL (fun _ => (1, 0, 0)) H T' H'

theorem Once_law (vk : AV) (ks : List (List UInt8)) (vo : AV) (os : List Int) (H : Heap) (hvk : Sl H 1 vk (ks.map .str)) (hkl : ks.length < 9223372036854775808) (hvo : Sl H 1 vo (os.map (.int .i64))) (hol : os.length < 9223372036854775808) : Eo lib n_depotlaw17_SlotOnce [vk, vo] H fun v _ => v = .bool true := by
  refine Eo.ok fun hOk => ?_
  refine Eo.code at_depotlaw17_SlotOnce rfl ?_
  repeat (first | ((first | apply Xk.sAny | apply Xk.tAny); (case hok => rfl); (case h => intro C hC; simp (disch := omega) only [w1, ↓reduceIte, Nat.reduceEqDiff, Nat.reduceLeDiff, Nat.reduceAdd, Nat.reduceSub]; with_reducible exact hC); refine gc ?_) | refine gm ?_)
  repeat (first | ((first | apply Xk.sAny | apply Xk.tAny); (case hok => rfl); (case h => intro C hC; simp (disch := omega) only [w1, ↓reduceIte, Nat.reduceEqDiff, Nat.reduceLeDiff, Nat.reduceAdd, Nat.reduceSub]; with_reducible exact hC); refine gc ?_) | refine gm ?_)
  refine slNew_ev 10 (fun _ => (1, 0, 0)) H 1 8 4096 (by decide) (by decide) (by decide) (by decide) (by decide) _ fun p T1 H1 s1 W1 => ?_
  have epn : negIf false (rEqc H1 (.ptr p 0) .nilp) = some (.bool false) := rfl
  repeat (first | ((first | apply Xk.sAny | apply Xk.tAny); (case hok => rfl); (case h => intro C hC; simp (disch := omega) only [w1, ↓reduceIte, Nat.reduceEqDiff, Nat.reduceLeDiff, Nat.reduceAdd, Nat.reduceSub, epn, eq_self]; with_reducible exact hC); refine gc ?_) | refine gm ?_)
  repeat (first | ((first | apply Xk.sAny | apply Xk.tAny); (case hok => rfl); (case h => intro C hC; simp (disch := omega) only [w1, ↓reduceIte, Nat.reduceEqDiff, Nat.reduceLeDiff, Nat.reduceAdd, Nat.reduceSub, epn, eq_self]; with_reducible exact hC); refine gc ?_) | refine gm ?_)
  refine ask_ev 5 (.ofNat 1) [] [] (.ofNat 0) H1 _ fun H2 hO2 hle2 => ?_
  have s2 : Stp (fun _ => False) T1 H1 T1 H2 := Stp.le hO2 hle2
  have W2 := W1.step s2 (fun _ _ h => h)
  repeat (first | ((first | apply Xk.sAny | apply Xk.tAny); (case hok => rfl); (case h => intro C hC; simp (disch := omega) only [w1, ↓reduceIte, Nat.reduceEqDiff, Nat.reduceLeDiff, Nat.reduceAdd, Nat.reduceSub]; with_reducible exact hC); refine gc ?_) | refine gm ?_)
  refine Take_reset_ev 10 T1 H2 p _ W2 (askF 5 (.ofNat 1) [] [] (.ofNat 0)) ⟨by decide, by decide, by decide, by decide⟩ (by decide) rfl rfl (by decide) _ fun T3 H3 s3 W3 => ?_
  have L3 : LW T3 H3 p 0 (fun _ => none) [] := LS.begin (m := 3) W3
  have st3 : Stp OL (fun _ => (1, 0, 0)) H T3 H3 := ((s1.mono fun u h => ol7 h).trans (s2.mono fun _ h => h.elim)).trans (s3.mono fun u h => ol7 h)
  clear s1 W1 s2 W2 s3 W3 hle2 hO2 epn
  obtain ⟨k1, k2, k3⟩ := str_len hvk
  obtain ⟨j1, j2, j3⟩ := int_len hvo
  repeat (first | ((first | apply Xk.sAny | apply Xk.tAny); (case hok => rfl); (case h => intro C hC; simp (disch := omega) only [w1, ↓reduceIte, Nat.reduceEqDiff, Nat.reduceLeDiff, Nat.reduceAdd, Nat.reduceSub]; with_reducible exact hC); refine gc ?_) | refine gm ?_)
  repeat (first | ((first | apply Xk.sAny | apply Xk.tAny); (case hok => rfl); (case h => intro C hC; simp (disch := omega) only [w1, ↓reduceIte, Nat.reduceEqDiff, Nat.reduceLeDiff, Nat.reduceAdd, Nat.reduceSub]; with_reducible exact hC); refine gc ?_) | refine gm ?_)
  refine loop_cut [1, 5, 7] (One ks vo p H) (Xk.iter [0, 1, 5, 7, 8] (fun m k H' => ∃ i v7 T', m = 12 - i ∧ i ≤ 12 ∧ k = [(0, vk), (1, vo), (5, .ptr p 0), (7, v7), (8, .int .i64 (.ofNat i))] ∧
      RT T' H' (0, 1, 0) 0 9 v7 ((rqL ks i).flatMap Fr.cells) ∧ LW T' H' p 0 (fun _ => none) [] ∧ Stp OL (fun _ => (1, 0, 0)) H T' H') rfl
    ⟨_, 0, .nils, T3, rfl, by omega, rfl, RT.nil, L3, st3⟩ ?_) ?_
  · clear L3 st3
    rintro m k H4 ⟨kk, v7, T4, rfl, hi, rfl, hr, hL, st⟩
    unfold l0_depotlaw17_SlotOnce
    have hvk4 := hvk.mono (hle_stp st)
    by_cases hc : kk < ks.length ∧ kk < 12
    case neg =>
      have hor : (¬ kk < ks.length) ∨ (kk < ks.length ∧ ¬ kk < 12) := by omega
      rcases hor with h1 | ⟨h1, h2⟩
      case' inl => repeat (first | ((first | apply Xk.sAny | apply Xk.tAny); (case hok => rfl); (case h => intro C hC; simp (disch := omega) only [w1, ↓reduceIte, Nat.reduceEqDiff, Nat.reduceLeDiff, Nat.reduceAdd, Nat.reduceSub, k1, h1]; with_reducible exact hC); refine gc ?_) | refine gm ?_)
      case' inr => repeat (first | ((first | apply Xk.sAny | apply Xk.tAny); (case hok => rfl); (case h => intro C hC; simp (disch := omega) only [w1, ↓reduceIte, Nat.reduceEqDiff, Nat.reduceLeDiff, Nat.reduceAdd, Nat.reduceSub, k1, h1, h2]; with_reducible exact hC); refine gc ?_) | refine gm ?_)
      all_goals exact ⟨rfl, rfl, kk, v7, T4, rfl, hi, hr, hL, st⟩
    obtain ⟨c1, c2⟩ := hc
    obtain ⟨b, o, cl, k, rfl, hgb, e1, e2⟩ := str_at hvk4 c1
    have hky := kyF_len ks kk
    have hadd : bin .add (.str [118]) (.str (kyF ks kk)) = some (.str (118 :: kyF ks kk)) := add_str [118] (kyF ks kk) (by simp; omega)
    have hmod : bin .rem (.int .i64 (.ofNat kk)) (.int .i64 (.ofNat 4)) = some (.int .i64 (.ofNat (kk % 4))) := mod_i64 kk 4 (by decide)
    have hcase : (¬ 60 < (ks.getD kk []).length ∧ ks.getD kk [] = kyF ks kk) ∨ (60 < (ks.getD kk []).length ∧ (ks.getD kk []).take 60 = kyF ks kk) := by
      by_cases hq : 60 < (ks.getD kk []).length
      · exact .inr ⟨hq, rfl⟩
      · exact .inl ⟨hq, (List.take_of_length_le (by omega)).symm⟩
    have hfl : ((rqL ks kk).flatMap Fr.cells).length = kk * 9 := by rw [fm_len (g := Fr.cells) (n := 9) (fun _ => rfl), rqL_len]
    by_cases ck : kk % 4 = 3
    · rw [ck] at hmod
      have ck' := hmod
      have hrow : (rqL ks (kk + 1)).flatMap Fr.cells = (rqL ks kk).flatMap Fr.cells ++ [.int .i64 (.ofNat 3), .int .i64 (.ofNat 1), .int .i64 (.ofNat 3), .int .i64 (.ofNat (10 + kk)), .int .i64 (.ofNat 0), .int .i64 (.ofNat 1), .str (kyF ks kk), .int .i64 (.ofNat (kk + 1)), .str (118 :: kyF ks kk)] := by
        rw [rqL_succ, List.flatMap_append]
        unfold rqF
        rw [if_pos ck]
        rfl
      rcases hcase with ⟨hq, hse⟩ | ⟨hq, hse⟩
      · rw [hse] at e2 hq
        have hq2 := eq_false hq
        have hqs : kyF ks kk = kyF ks kk := rfl
        repeat (first | ((first | apply Xk.sAny | apply Xk.tAny); (case hok => rfl); (case h => intro C hC; simp (disch := omega) only [w1, ↓reduceIte, Nat.reduceEqDiff, Nat.reduceLeDiff, Nat.reduceAdd, Nat.reduceSub, k1, c1, c2, hgb, e1, e2, hq2, hmod, ck', hadd]; with_reducible exact hC); refine gc ?_) | refine gm ?_)
        repeat (first | ((first | apply Xk.sAny | apply Xk.tAny); (case hok => rfl); (case h => intro C hC; simp (disch := omega) only [w1, ↓reduceIte, Nat.reduceEqDiff, Nat.reduceLeDiff, Nat.reduceAdd, Nat.reduceSub, k1, c1, c2, hgb, e1, e2, hq2, hmod, ck', hadd]; with_reducible exact hC); refine gc ?_) | refine gm ?_)
        repeat (first | ((first | apply Xk.sAny | apply Xk.tAny); (case hok => rfl); (case h => intro C hC; simp (disch := omega) only [w1, ↓reduceIte, Nat.reduceEqDiff, Nat.reduceLeDiff, Nat.reduceAdd, Nat.reduceSub, k1, c1, c2, hgb, e1, e2, hq2, hmod, ck', hadd]; with_reducible exact hC); refine gc ?_) | refine gm ?_)
        repeat (first | ((first | apply Xk.sAny | apply Xk.tAny); (case hok => rfl); (case h => intro C hC; simp (disch := omega) only [w1, ↓reduceIte, Nat.reduceEqDiff, Nat.reduceLeDiff, Nat.reduceAdd, Nat.reduceSub, k1, c1, c2, hgb, e1, e2, hq2, hmod, ck', hadd]; with_reducible exact hC); refine gc ?_) | refine gm ?_)
        refine ask_ev 3 (.ofNat (10 + kk)) (kyF ks kk) (118 :: kyF ks kk) (.ofNat (kk + 1)) H4 _ fun H5 hO5 hle5 => ?_
        have s5 : Stp (fun _ => False) T4 H4 T4 H5 := Stp.le hO5 hle5
        have hr5 := hr.step s5 (fun h => h)
        show Xk lib _ _ (kput _ _ (.agg [.int .i64 (.ofNat 3), .int .i64 (.ofNat 1), .int .i64 (.ofNat 3), .int .i64 (.ofNat (10 + kk)), .int .i64 (.ofNat 0), .int .i64 (.ofNat 1), .str (kyF ks kk), .int .i64 (.ofNat (kk + 1)), .str (118 :: kyF ks kk)])) H5 _
        obtain ⟨v', H6, T6, f1, f2, f3⟩ := RT.push (bytes := 88) (w := 1) (row := [.int .i64 (.ofNat 3), .int .i64 (.ofNat 1), .int .i64 (.ofNat 3), .int .i64 (.ofNat (10 + kk)), .int .i64 (.ofNat 0), .int .i64 (.ofNat 1), .str (kyF ks kk), .int .i64 (.ofNat (kk + 1)), .str (118 :: kyF ks kk)]) hO5 hr5 rfl rfl (by decide) (by rw [hfl, Nat.mul_div_cancel _ (by decide)]; omega) (by rw [hfl, Nat.mul_div_cancel _ (by decide)]; omega)
        obtain ⟨q1, q2⟩ := hr5.sc
        obtain ⟨q3, q4⟩ := f3.sc
        repeat (first | ((first | apply Xk.sAny | apply Xk.tAny); (case hok => rfl); (case h => intro C hC; simp (disch := omega) only [w1, ↓reduceIte, Nat.reduceEqDiff, Nat.reduceLeDiff, Nat.reduceAdd, Nat.reduceSub, q1, q2, f1, q3, q4]; with_reducible exact hC); refine gc ?_) | refine gm ?_)
        repeat (first | ((first | apply Xk.sAny | apply Xk.tAny); (case hok => rfl); (case h => intro C hC; simp (disch := omega) only [w1, ↓reduceIte, Nat.reduceEqDiff, Nat.reduceLeDiff, Nat.reduceAdd, Nat.reduceSub, q1, q2, f1, q3, q4]; with_reducible exact hC); refine gc ?_) | refine gm ?_)
        repeat (first | ((first | apply Xk.sAny | apply Xk.tAny); (case hok => rfl); (case h => intro C hC; simp (disch := omega) only [w1, ↓reduceIte, Nat.reduceEqDiff, Nat.reduceLeDiff, Nat.reduceAdd, Nat.reduceSub, q1, q2, f1, q3, q4]; with_reducible exact hC); refine gc ?_) | refine gm ?_)
        exact ⟨rfl, _, by omega, kk + 1, v', T6, rfl, by omega, rfl, by rw [hrow]; exact f3, (hL.step s5 (fun _ _ h => h)).step f2 (fun t ht => nK0 ht), (st.trans (s5.mono fun _ h => h.elim)).trans (f2.mono (P := OL) fun u h => ol0 h)⟩
      · have hq' : 60 ≤ (ks.getD kk []).length := by omega
        have hq2 := eq_true hq
        repeat (first | ((first | apply Xk.sAny | apply Xk.tAny); (case hok => rfl); (case h => intro C hC; simp (disch := omega) only [w1, ↓reduceIte, Nat.reduceEqDiff, Nat.reduceLeDiff, Nat.reduceAdd, Nat.reduceSub, k1, c1, c2, hgb, e1, e2, hq2, hq', hse, hmod, ck', hadd]; with_reducible exact hC); refine gc ?_) | refine gm ?_)
        repeat (first | ((first | apply Xk.sAny | apply Xk.tAny); (case hok => rfl); (case h => intro C hC; simp (disch := omega) only [w1, ↓reduceIte, Nat.reduceEqDiff, Nat.reduceLeDiff, Nat.reduceAdd, Nat.reduceSub, k1, c1, c2, hgb, e1, e2, hq2, hq', hse, hmod, ck', hadd]; with_reducible exact hC); refine gc ?_) | refine gm ?_)
        repeat (first | ((first | apply Xk.sAny | apply Xk.tAny); (case hok => rfl); (case h => intro C hC; simp (disch := omega) only [w1, ↓reduceIte, Nat.reduceEqDiff, Nat.reduceLeDiff, Nat.reduceAdd, Nat.reduceSub, k1, c1, c2, hgb, e1, e2, hq2, hq', hse, hmod, ck', hadd]; with_reducible exact hC); refine gc ?_) | refine gm ?_)
        repeat (first | ((first | apply Xk.sAny | apply Xk.tAny); (case hok => rfl); (case h => intro C hC; simp (disch := omega) only [w1, ↓reduceIte, Nat.reduceEqDiff, Nat.reduceLeDiff, Nat.reduceAdd, Nat.reduceSub, k1, c1, c2, hgb, e1, e2, hq2, hq', hse, hmod, ck', hadd]; with_reducible exact hC); refine gc ?_) | refine gm ?_)
        refine ask_ev 3 (.ofNat (10 + kk)) (kyF ks kk) (118 :: kyF ks kk) (.ofNat (kk + 1)) H4 _ fun H5 hO5 hle5 => ?_
        have s5 : Stp (fun _ => False) T4 H4 T4 H5 := Stp.le hO5 hle5
        have hr5 := hr.step s5 (fun h => h)
        show Xk lib _ _ (kput _ _ (.agg [.int .i64 (.ofNat 3), .int .i64 (.ofNat 1), .int .i64 (.ofNat 3), .int .i64 (.ofNat (10 + kk)), .int .i64 (.ofNat 0), .int .i64 (.ofNat 1), .str (kyF ks kk), .int .i64 (.ofNat (kk + 1)), .str (118 :: kyF ks kk)])) H5 _
        obtain ⟨v', H6, T6, f1, f2, f3⟩ := RT.push (bytes := 88) (w := 1) (row := [.int .i64 (.ofNat 3), .int .i64 (.ofNat 1), .int .i64 (.ofNat 3), .int .i64 (.ofNat (10 + kk)), .int .i64 (.ofNat 0), .int .i64 (.ofNat 1), .str (kyF ks kk), .int .i64 (.ofNat (kk + 1)), .str (118 :: kyF ks kk)]) hO5 hr5 rfl rfl (by decide) (by rw [hfl, Nat.mul_div_cancel _ (by decide)]; omega) (by rw [hfl, Nat.mul_div_cancel _ (by decide)]; omega)
        obtain ⟨q1, q2⟩ := hr5.sc
        obtain ⟨q3, q4⟩ := f3.sc
        repeat (first | ((first | apply Xk.sAny | apply Xk.tAny); (case hok => rfl); (case h => intro C hC; simp (disch := omega) only [w1, ↓reduceIte, Nat.reduceEqDiff, Nat.reduceLeDiff, Nat.reduceAdd, Nat.reduceSub, q1, q2, f1, q3, q4]; with_reducible exact hC); refine gc ?_) | refine gm ?_)
        repeat (first | ((first | apply Xk.sAny | apply Xk.tAny); (case hok => rfl); (case h => intro C hC; simp (disch := omega) only [w1, ↓reduceIte, Nat.reduceEqDiff, Nat.reduceLeDiff, Nat.reduceAdd, Nat.reduceSub, q1, q2, f1, q3, q4]; with_reducible exact hC); refine gc ?_) | refine gm ?_)
        repeat (first | ((first | apply Xk.sAny | apply Xk.tAny); (case hok => rfl); (case h => intro C hC; simp (disch := omega) only [w1, ↓reduceIte, Nat.reduceEqDiff, Nat.reduceLeDiff, Nat.reduceAdd, Nat.reduceSub, q1, q2, f1, q3, q4]; with_reducible exact hC); refine gc ?_) | refine gm ?_)
        exact ⟨rfl, _, by omega, kk + 1, v', T6, rfl, by omega, rfl, by rw [hrow]; exact f3, (hL.step s5 (fun _ _ h => h)).step f2 (fun t ht => nK0 ht), (st.trans (s5.mono fun _ h => h.elim)).trans (f2.mono (P := OL) fun u h => ol0 h)⟩
    · have ck' := eq_false ck
      have hrow : (rqL ks (kk + 1)).flatMap Fr.cells = (rqL ks kk).flatMap Fr.cells ++ [.int .i64 (.ofNat 1), .int .i64 (.ofNat 1), .int .i64 (.ofNat 3), .int .i64 (.ofNat (10 + kk)), .int .i64 (.ofNat 0), .int .i64 (.ofNat 1), .str (kyF ks kk), .int .i64 (.ofNat (kk + 1)), .str (118 :: kyF ks kk)] := by
        rw [rqL_succ, List.flatMap_append]
        unfold rqF
        rw [if_neg ck]
        rfl
      rcases hcase with ⟨hq, hse⟩ | ⟨hq, hse⟩
      · rw [hse] at e2 hq
        have hq2 := eq_false hq
        have hqs : kyF ks kk = kyF ks kk := rfl
        repeat (first | ((first | apply Xk.sAny | apply Xk.tAny); (case hok => rfl); (case h => intro C hC; simp (disch := omega) only [w1, ↓reduceIte, Nat.reduceEqDiff, Nat.reduceLeDiff, Nat.reduceAdd, Nat.reduceSub, k1, c1, c2, hgb, e1, e2, hq2, hmod, ck', hadd]; with_reducible exact hC); refine gc ?_) | refine gm ?_)
        repeat (first | ((first | apply Xk.sAny | apply Xk.tAny); (case hok => rfl); (case h => intro C hC; simp (disch := omega) only [w1, ↓reduceIte, Nat.reduceEqDiff, Nat.reduceLeDiff, Nat.reduceAdd, Nat.reduceSub, k1, c1, c2, hgb, e1, e2, hq2, hmod, ck', hadd]; with_reducible exact hC); refine gc ?_) | refine gm ?_)
        repeat (first | ((first | apply Xk.sAny | apply Xk.tAny); (case hok => rfl); (case h => intro C hC; simp (disch := omega) only [w1, ↓reduceIte, Nat.reduceEqDiff, Nat.reduceLeDiff, Nat.reduceAdd, Nat.reduceSub, k1, c1, c2, hgb, e1, e2, hq2, hmod, ck', hadd]; with_reducible exact hC); refine gc ?_) | refine gm ?_)
        repeat (first | ((first | apply Xk.sAny | apply Xk.tAny); (case hok => rfl); (case h => intro C hC; simp (disch := omega) only [w1, ↓reduceIte, Nat.reduceEqDiff, Nat.reduceLeDiff, Nat.reduceAdd, Nat.reduceSub, k1, c1, c2, hgb, e1, e2, hq2, hmod, ck', hadd]; with_reducible exact hC); refine gc ?_) | refine gm ?_)
        refine ask_ev 1 (.ofNat (10 + kk)) (kyF ks kk) (118 :: kyF ks kk) (.ofNat (kk + 1)) H4 _ fun H5 hO5 hle5 => ?_
        have s5 : Stp (fun _ => False) T4 H4 T4 H5 := Stp.le hO5 hle5
        have hr5 := hr.step s5 (fun h => h)
        show Xk lib _ _ (kput _ _ (.agg [.int .i64 (.ofNat 1), .int .i64 (.ofNat 1), .int .i64 (.ofNat 3), .int .i64 (.ofNat (10 + kk)), .int .i64 (.ofNat 0), .int .i64 (.ofNat 1), .str (kyF ks kk), .int .i64 (.ofNat (kk + 1)), .str (118 :: kyF ks kk)])) H5 _
        obtain ⟨v', H6, T6, f1, f2, f3⟩ := RT.push (bytes := 88) (w := 1) (row := [.int .i64 (.ofNat 1), .int .i64 (.ofNat 1), .int .i64 (.ofNat 3), .int .i64 (.ofNat (10 + kk)), .int .i64 (.ofNat 0), .int .i64 (.ofNat 1), .str (kyF ks kk), .int .i64 (.ofNat (kk + 1)), .str (118 :: kyF ks kk)]) hO5 hr5 rfl rfl (by decide) (by rw [hfl, Nat.mul_div_cancel _ (by decide)]; omega) (by rw [hfl, Nat.mul_div_cancel _ (by decide)]; omega)
        obtain ⟨q1, q2⟩ := hr5.sc
        obtain ⟨q3, q4⟩ := f3.sc
        repeat (first | ((first | apply Xk.sAny | apply Xk.tAny); (case hok => rfl); (case h => intro C hC; simp (disch := omega) only [w1, ↓reduceIte, Nat.reduceEqDiff, Nat.reduceLeDiff, Nat.reduceAdd, Nat.reduceSub, q1, q2, f1, q3, q4]; with_reducible exact hC); refine gc ?_) | refine gm ?_)
        repeat (first | ((first | apply Xk.sAny | apply Xk.tAny); (case hok => rfl); (case h => intro C hC; simp (disch := omega) only [w1, ↓reduceIte, Nat.reduceEqDiff, Nat.reduceLeDiff, Nat.reduceAdd, Nat.reduceSub, q1, q2, f1, q3, q4]; with_reducible exact hC); refine gc ?_) | refine gm ?_)
        repeat (first | ((first | apply Xk.sAny | apply Xk.tAny); (case hok => rfl); (case h => intro C hC; simp (disch := omega) only [w1, ↓reduceIte, Nat.reduceEqDiff, Nat.reduceLeDiff, Nat.reduceAdd, Nat.reduceSub, q1, q2, f1, q3, q4]; with_reducible exact hC); refine gc ?_) | refine gm ?_)
        exact ⟨rfl, _, by omega, kk + 1, v', T6, rfl, by omega, rfl, by rw [hrow]; exact f3, (hL.step s5 (fun _ _ h => h)).step f2 (fun t ht => nK0 ht), (st.trans (s5.mono fun _ h => h.elim)).trans (f2.mono (P := OL) fun u h => ol0 h)⟩
      · have hq' : 60 ≤ (ks.getD kk []).length := by omega
        have hq2 := eq_true hq
        repeat (first | ((first | apply Xk.sAny | apply Xk.tAny); (case hok => rfl); (case h => intro C hC; simp (disch := omega) only [w1, ↓reduceIte, Nat.reduceEqDiff, Nat.reduceLeDiff, Nat.reduceAdd, Nat.reduceSub, k1, c1, c2, hgb, e1, e2, hq2, hq', hse, hmod, ck', hadd]; with_reducible exact hC); refine gc ?_) | refine gm ?_)
        repeat (first | ((first | apply Xk.sAny | apply Xk.tAny); (case hok => rfl); (case h => intro C hC; simp (disch := omega) only [w1, ↓reduceIte, Nat.reduceEqDiff, Nat.reduceLeDiff, Nat.reduceAdd, Nat.reduceSub, k1, c1, c2, hgb, e1, e2, hq2, hq', hse, hmod, ck', hadd]; with_reducible exact hC); refine gc ?_) | refine gm ?_)
        repeat (first | ((first | apply Xk.sAny | apply Xk.tAny); (case hok => rfl); (case h => intro C hC; simp (disch := omega) only [w1, ↓reduceIte, Nat.reduceEqDiff, Nat.reduceLeDiff, Nat.reduceAdd, Nat.reduceSub, k1, c1, c2, hgb, e1, e2, hq2, hq', hse, hmod, ck', hadd]; with_reducible exact hC); refine gc ?_) | refine gm ?_)
        repeat (first | ((first | apply Xk.sAny | apply Xk.tAny); (case hok => rfl); (case h => intro C hC; simp (disch := omega) only [w1, ↓reduceIte, Nat.reduceEqDiff, Nat.reduceLeDiff, Nat.reduceAdd, Nat.reduceSub, k1, c1, c2, hgb, e1, e2, hq2, hq', hse, hmod, ck', hadd]; with_reducible exact hC); refine gc ?_) | refine gm ?_)
        refine ask_ev 1 (.ofNat (10 + kk)) (kyF ks kk) (118 :: kyF ks kk) (.ofNat (kk + 1)) H4 _ fun H5 hO5 hle5 => ?_
        have s5 : Stp (fun _ => False) T4 H4 T4 H5 := Stp.le hO5 hle5
        have hr5 := hr.step s5 (fun h => h)
        show Xk lib _ _ (kput _ _ (.agg [.int .i64 (.ofNat 1), .int .i64 (.ofNat 1), .int .i64 (.ofNat 3), .int .i64 (.ofNat (10 + kk)), .int .i64 (.ofNat 0), .int .i64 (.ofNat 1), .str (kyF ks kk), .int .i64 (.ofNat (kk + 1)), .str (118 :: kyF ks kk)])) H5 _
        obtain ⟨v', H6, T6, f1, f2, f3⟩ := RT.push (bytes := 88) (w := 1) (row := [.int .i64 (.ofNat 1), .int .i64 (.ofNat 1), .int .i64 (.ofNat 3), .int .i64 (.ofNat (10 + kk)), .int .i64 (.ofNat 0), .int .i64 (.ofNat 1), .str (kyF ks kk), .int .i64 (.ofNat (kk + 1)), .str (118 :: kyF ks kk)]) hO5 hr5 rfl rfl (by decide) (by rw [hfl, Nat.mul_div_cancel _ (by decide)]; omega) (by rw [hfl, Nat.mul_div_cancel _ (by decide)]; omega)
        obtain ⟨q1, q2⟩ := hr5.sc
        obtain ⟨q3, q4⟩ := f3.sc
        repeat (first | ((first | apply Xk.sAny | apply Xk.tAny); (case hok => rfl); (case h => intro C hC; simp (disch := omega) only [w1, ↓reduceIte, Nat.reduceEqDiff, Nat.reduceLeDiff, Nat.reduceAdd, Nat.reduceSub, q1, q2, f1, q3, q4]; with_reducible exact hC); refine gc ?_) | refine gm ?_)
        repeat (first | ((first | apply Xk.sAny | apply Xk.tAny); (case hok => rfl); (case h => intro C hC; simp (disch := omega) only [w1, ↓reduceIte, Nat.reduceEqDiff, Nat.reduceLeDiff, Nat.reduceAdd, Nat.reduceSub, q1, q2, f1, q3, q4]; with_reducible exact hC); refine gc ?_) | refine gm ?_)
        repeat (first | ((first | apply Xk.sAny | apply Xk.tAny); (case hok => rfl); (case h => intro C hC; simp (disch := omega) only [w1, ↓reduceIte, Nat.reduceEqDiff, Nat.reduceLeDiff, Nat.reduceAdd, Nat.reduceSub, q1, q2, f1, q3, q4]; with_reducible exact hC); refine gc ?_) | refine gm ?_)
        exact ⟨rfl, _, by omega, kk + 1, v', T6, rfl, by omega, rfl, by rw [hrow]; exact f3, (hL.step s5 (fun _ _ h => h)).step f2 (fun t ht => nK0 ht), (st.trans (s5.mono fun _ h => h.elim)).trans (f2.mono (P := OL) fun u h => ol0 h)⟩
  · clear L3 st3 k1 k2 k3
    rintro k H4 ⟨n, v7, T4, rfl, hn, hr, hL, st⟩
    obtain ⟨l1, l2, l3⟩ := RT.lensG (g := Fr.cells) (n := 9) (fun _ => rfl) hr (by decide)
    rw [rqL_len] at l1
    have mk1 := mksl_fr n (by omega)
    have mk2 := mksl_bool n (by omega)
    have ez : noFr.cells = [.int .i64 (.ofNat 0), .int .i64 (.ofNat 0), .int .i64 (.ofNat 0), .int .i64 (.ofNat 0), .int .i64 (.ofNat 0), .int .i64 (.ofNat 0), .str [], .int .i64 (.ofNat 0), .str []] := rfl
    obtain ⟨T5, s5, at5, aw5, am5⟩ := new3 (T := T4) st.ok (0, 2, 0) (0, 3, 0) (0, 4, 0) (.cells (rep n noFr.cells) 1) (.cells (rep n [.bool false]) 1) (.mp [] 0)
    have rt5 := rt_made (g := Fr.cells) (w := 9) (fun _ => rfl) at5
    have rw5 := rt_made (g := bcell) (w := 1) (x := false) (fun _ => rfl) aw5
    have r75 := hr.step s5 (fun h => h)
    have hL5 := hL.step s5 (fun _ _ h => h)
    have st5 := st.trans (s5.mono (P := OL) fun _ h => h.elim)
    clear hr hL st s5 at5 aw5
    repeat (first | ((first | apply Xk.sAny | apply Xk.tAny); (case hok => rfl); (case h => intro C hC; simp (disch := omega) only [w1, ↓reduceIte, Nat.reduceEqDiff, Nat.reduceLeDiff, Nat.reduceAdd, Nat.reduceSub, l1, l2, l3, mk1, mk2]; with_reducible exact hC); refine gc ?_) | refine gm ?_)
    repeat (first | ((first | apply Xk.sAny | apply Xk.tAny); (case hok => rfl); (case h => intro C hC; simp (disch := omega) only [w1, ↓reduceIte, Nat.reduceEqDiff, Nat.reduceLeDiff, Nat.reduceAdd, Nat.reduceSub, l1, l2, l3, mk1, mk2]; with_reducible exact hC); refine gc ?_) | refine gm ?_)
    repeat (first | ((first | apply Xk.sAny | apply Xk.tAny); (case hok => rfl); (case h => intro C hC; simp (disch := omega) only [w1, ↓reduceIte, Nat.reduceEqDiff, Nat.reduceLeDiff, Nat.reduceAdd, Nat.reduceSub, l1, l2, l3, mk1, mk2]; with_reducible exact hC); refine gc ?_) | refine gm ?_)
    repeat (first | ((first | apply Xk.sAny | apply Xk.tAny); (case hok => rfl); (case h => intro C hC; simp (disch := omega) only [w1, ↓reduceIte, Nat.reduceEqDiff, Nat.reduceLeDiff, Nat.reduceAdd, Nat.reduceSub, l1, l2, l3, mk1, mk2]; with_reducible exact hC); refine gc ?_) | refine gm ?_)
    generalize ((H4.new (.cells (rep n noFr.cells) 1)).new (.cells (rep n [.bool false]) 1)).new (.mp [] 0) = H5 at rt5 rw5 am5 r75 hL5 st5 ⊢
    have epr : H4.next + 1 + 1 = H4.next + 2 := rfl
    rw [epr]
    generalize H4.next + 2 = pm at am5 ⊢
    generalize H4.next + 1 = pw at rw5 ⊢
    generalize H4.next = pt at rt5 ⊢
    refine loop_cut [5, 7, 13] (Two ks p H) (Xk.iter [1, 5, 7, 11, 12, 13, 14] (fun m k H' => ∃ i T' M V done W A es cl, m = 60 - i ∧ i ≤ 60 ∧ k = [(1, vo), (5, .ptr p 0), (7, v7), (11, .sl pt 0 n 9), (12, .sl pw 0 n 1), (13, .map pm), (14, .int .i64 (.ofNat i))] ∧
        RT T' H' (0, 1, 0) 0 9 v7 ((rqL ks n).flatMap Fr.cells) ∧ RT T' H' (0, 2, 0) 0 9 (.sl pt 0 n 9) (A.flatMap Fr.cells) ∧ RT T' H' (0, 3, 0) 0 1 (.sl pw 0 n 1) (W.flatMap bcell) ∧ At T' H' (0, 4, 0) pm (.mp es cl) ∧ VMl es V ∧ MV M V ∧ Dn done n W A ∧ LW T' H' p done.length M done ∧ Stp OL (fun _ => (1, 0, 0)) H T' H') rfl
      ⟨_, 0, T5, _, _, [], _, _, [], 0, rfl, by omega, rfl, r75, rt5, rw5, am5, fun _ => rfl, MV.start, Dn.start n, hL5, st5⟩ ?_) ?_
    · clear r75 rt5 rw5 am5 hL5 st5
      rintro m k H5 ⟨i, T5, M, V, done, W, A, es, cl, rfl, hi, rfl, r7, rt, rw5, am, hV, hM, hD, hL, st⟩
      unfold l1_depotlaw17_SlotOnce
      have hvo5 := hvo.mono (hle_stp st)
      have hrid : ∀ d ∈ done, d.rid < ((100 : Nat) : Int) := fun d hd => by
        obtain ⟨k, h1, h2, _⟩ := hD.ea d hd
        rw [h2]
        show ((10 + k : Nat) : Int) < _
        omega
      have hdl := hD.len
      by_cases hc : i < os.length ∧ i < 60 ∧ 0 < n
      case neg =>
        have hor : (¬ i < os.length) ∨ (i < os.length ∧ ¬ i < 60) ∨ (i < os.length ∧ i < 60 ∧ ¬ 0 < n) := by omega
        rcases hor with h1 | ⟨h1, h2⟩ | ⟨h1, h2, h3⟩
        case' inl => repeat (first | ((first | apply Xk.sAny | apply Xk.tAny); (case hok => rfl); (case h => intro C hC; simp (disch := omega) only [w1, ↓reduceIte, Nat.reduceEqDiff, Nat.reduceLeDiff, Nat.reduceAdd, Nat.reduceSub, j1, l1, h1]; with_reducible exact hC); refine gc ?_) | refine gm ?_)
        case' inr.inl => repeat (first | ((first | apply Xk.sAny | apply Xk.tAny); (case hok => rfl); (case h => intro C hC; simp (disch := omega) only [w1, ↓reduceIte, Nat.reduceEqDiff, Nat.reduceLeDiff, Nat.reduceAdd, Nat.reduceSub, j1, l1, h1, h2]; with_reducible exact hC); refine gc ?_) | refine gm ?_)
        case' inr.inr => repeat (first | ((first | apply Xk.sAny | apply Xk.tAny); (case hok => rfl); (case h => intro C hC; simp (disch := omega) only [w1, ↓reduceIte, Nat.reduceEqDiff, Nat.reduceLeDiff, Nat.reduceAdd, Nat.reduceSub, j1, l1, h1, h2, h3]; with_reducible exact hC); refine gc ?_) | refine gm ?_)
        all_goals exact ⟨rfl, rfl, n, v7, pm, T5, M, V, done, es, cl, rfl, hn, r7, am, hV, hM, hrid, by omega, hL, st⟩
      obtain ⟨c1, c2, c3⟩ := hc
      obtain ⟨b, o, clo, ko, rfl, hgb, e1, e2⟩ := int_at hvo5 c1
      have hsub : bin .sub (.int .i64 (.ofNat n)) (.int .i64 (.ofNat 1)) = some (.int .i64 (.ofNat (n - 1))) := by
        have : n = 1 ∨ n = 2 ∨ n = 3 ∨ n = 4 ∨ n = 5 ∨ n = 6 ∨ n = 7 ∨ n = 8 ∨ n = 9 ∨ n = 10 ∨ n = 11 ∨ n = 12 := by omega
        rcases this with rfl | rfl | rfl | rfl | rfl | rfl | rfl | rfl | rfl | rfl | rfl | rfl <;> rfl
      repeat (first | ((first | apply Xk.sAny | apply Xk.tAny); (case hok => rfl); (case h => intro C hC; simp (disch := omega) only [w1, ↓reduceIte, Nat.reduceEqDiff, Nat.reduceLeDiff, Nat.reduceAdd, Nat.reduceSub, j1, l1, c1, c2, c3, hgb, e1, e2, hsub]; with_reducible exact hC); refine gc ?_) | refine gm ?_)
      repeat (first | ((first | apply Xk.sAny | apply Xk.tAny); (case hok => rfl); (case h => intro C hC; simp (disch := omega) only [w1, ↓reduceIte, Nat.reduceEqDiff, Nat.reduceLeDiff, Nat.reduceAdd, Nat.reduceSub, j1, l1, c1, c2, c3, hgb, e1, e2, hsub]; with_reducible exact hC); refine gc ?_) | refine gm ?_)
      repeat (first | ((first | apply Xk.sAny | apply Xk.tAny); (case hok => rfl); (case h => intro C hC; simp (disch := omega) only [w1, ↓reduceIte, Nat.reduceEqDiff, Nat.reduceLeDiff, Nat.reduceAdd, Nat.reduceSub, j1, l1, c1, c2, c3, hgb, e1, e2, hsub]; with_reducible exact hC); refine gc ?_) | refine gm ?_)
      refine Within_ev (os.getD i 0) 0 (n - 1) (Nat.zero_le _) (by omega) H5 _ fun kk h0 hkn1 => ?_
      have hkn : kk < n := by omega
      obtain ⟨c7, cl7, h7, g7, t7, ll7, tk7, row7⟩ := RT.rowG (g := Fr.cells) (n := 9) (fun _ => rfl) noFr r7 (by rw [rqL_len]; exact c3) (by decide)
      obtain ⟨b7, rest7, d7⟩ := row7 kk (by rw [rqL_len]; exact hkn)
      rw [rqL_at ks hkn] at d7
      have d9 : (cl7.drop (kk * 9)).take 9 = (rqF ks kk).cells := by rw [d7]; exact List.take_left' rfl
      rw [rqL_len] at h7
      subst h7
      have a7 : At T5 H5 (0, 1, 0) c7 (.cells cl7 1) := ⟨g7, t7⟩
      obtain ⟨ct, clt, ht, gt, tt, llt, tkt, rowt⟩ := RT.rowG (g := Fr.cells) (n := 9) (fun _ => rfl) noFr rt (by rw [hD.a]; exact c3) (by decide)
      injection ht with ht
      subst ht
      obtain ⟨bt, restt, dt⟩ := rowt kk (by rw [hD.a]; exact hkn)
      have dt9 : (clt.drop (kk * 9)).take 9 = (A.getD kk noFr).cells := by rw [dt]; exact List.take_left' rfl
      have at_ : At T5 H5 (0, 2, 0) pt (.cells clt 1) := ⟨gt, tt⟩
      obtain ⟨cw, clw, hw, gw, tw, llw, tkw, roww⟩ := RT.rowG (g := bcell) (n := 1) (fun _ => rfl) false rw5 (by rw [hD.w]; exact c3) (by decide)
      injection hw with hw
      subst hw
      obtain ⟨bw, restw, dw⟩ := roww kk (by rw [hD.w]; exact hkn)
      rw [Nat.mul_one] at bw dw
      have dw1 : (clw.drop kk).take 1 = [.bool (W.getD kk false)] := by rw [dw]; exact List.take_left' rfl
      have aw : At T5 H5 (0, 3, 0) pw (.cells clw 1) := ⟨gw, tw⟩
      clear row7 rowt roww d7 dt dw rt rw5 hgb e1 e2 hsub
      obtain ⟨sl, SL⟩ := hL
      have hMo := SL.mo
      have hL : LW T5 H5 p done.length M done := ⟨sl, SL⟩
      clear SL
      have hf := rqF_lr ks (j := kk) (by omega)
      have hkl60 := kyF_len ks kk
      have hpt : pt ≠ pw := at_.ne aw (n00 (by decide))
      by_cases ck : kk % 4 = 3
      · skip
        have ef : rqF ks kk = (reqF 3 (.ofNat (10 + kk)) 1 (kyF ks kk) (.ofNat (kk + 1)) (118 :: kyF ks kk)) := by unfold rqF; rw [if_pos ck]
        rw [ef] at hf d9
        have hn1 := nameB_len _ hf.ok.v1 hf.ok.v2
        have hn2 := verB_len (reqF 3 (.ofNat (10 + kk)) 1 (kyF ks kk) (.ofNat (kk + 1)) (118 :: kyF ks kk)).ver (reqF 3 (.ofNat (10 + kk)) 1 (kyF ks kk) (.ofNat (kk + 1)) (118 :: kyF ks kk)).data hf.ok.v1 hf.ok.v2
        have hn3 : (reqF 3 (.ofNat (10 + kk)) 1 (kyF ks kk) (.ofNat (kk + 1)) (118 :: kyF ks kk)).key = kyF ks kk := rfl
        have hn4 : (reqF 3 (.ofNat (10 + kk)) 1 (kyF ks kk) (.ofNat (kk + 1)) (118 :: kyF ks kk)).data.length = (kyF ks kk).length + 1 := rfl
        rw [hn3] at hn1
        have d9 : (cl7.drop (kk * 9)).take 9 = [.int .i64 (.ofNat 3), .int .i64 (.ofNat 1), .int .i64 (.ofNat 3), .int .i64 (.ofNat (10 + kk)), .int .i64 (.ofNat 0), .int .i64 (.ofNat 1), .str (kyF ks kk), .int .i64 (.ofNat (kk + 1)), .str (118 :: kyF ks kk)] := d9
        repeat (first | ((first | apply Xk.sAny | apply Xk.tAny); (case hok => rfl); (case h => intro C hC; simp (disch := omega) only [w1, ↓reduceIte, Nat.reduceEqDiff, Nat.reduceLeDiff, Nat.reduceAdd, Nat.reduceSub, g7, b7, d9, hkn]; with_reducible exact hC); refine gc ?_) | refine gm ?_)
        repeat (first | ((first | apply Xk.sAny | apply Xk.tAny); (case hok => rfl); (case h => intro C hC; simp (disch := omega) only [w1, ↓reduceIte, Nat.reduceEqDiff, Nat.reduceLeDiff, Nat.reduceAdd, Nat.reduceSub, g7, b7, d9, hkn]; with_reducible exact hC); refine gc ?_) | refine gm ?_)
        refine tReq_ev 10 T5 H5 p hL (by omega) (reqF 3 (.ofNat (10 + kk)) 1 (kyF ks kk) (.ofNat (kk + 1)) (118 :: kyF ks kk)) hf (by show Int.ofNat 3 < Int.ofNat 6; decide) (by show Int.ofNat 3 ≠ Int.ofNat 5; decide) _ (dropR_ok hMo (reqF 3 (.ofNat (10 + kk)) 1 (kyF ks kk) (.ofNat (kk + 1)) (118 :: kyF ks kk))) (fun s S => dropIs S (by omega) hf rfl) _ (fun d pre post e h1 h2 T6 H6 s6 L6 => ?_) (fun hno T6 H6 s6 L6 => ?_)
        · clear ef
          have hmem : d ∈ done := by rw [e]; exact List.mem_append_right _ (List.mem_cons_self ..)
          obtain ⟨hwf, hAf, hDn⟩ := hD.old hkn hmem h2
          rw [hwf] at dw1
          rw [hAf] at dt9
          generalize d.f = a at hDn dt9 ⊢
          obtain ⟨u1, u2, u3, u4, u5, u6, u7, u8, u9⟩ := a
          have dt9 : (clt.drop (kk * 9)).take 9 = [.int .i64 u1, .int .i64 u2, .int .i64 u3, .int .i64 u4, .int .i64 u5, .int .i64 u6, .str u7, .int .i64 u8, .str u9] := dt9
          have hE : negIf true (aggEq [.i .i64, .i .i64, .i .i64, .i .i64, .i .i64, .i .i64, .s, .i .i64, .s] (.agg [.int .i64 u1, .int .i64 u2, .int .i64 u3, .int .i64 u4, .int .i64 u5, .int .i64 u6, .str u7, .int .i64 u8, .str u9]) (.agg [.int .i64 u1, .int .i64 u2, .int .i64 u3, .int .i64 u4, .int .i64 u5, .int .i64 u6, .str u7, .int .i64 u8, .str u9])) = some (.bool false) := by
            have h := agg_self ⟨u1, u2, u3, u4, u5, u6, u7, u8, u9⟩
            have h : aggEq [.i .i64, .i .i64, .i .i64, .i .i64, .i .i64, .i .i64, .s, .i .i64, .s] (.agg [.int .i64 u1, .int .i64 u2, .int .i64 u3, .int .i64 u4, .int .i64 u5, .int .i64 u6, .str u7, .int .i64 u8, .str u9]) (.agg [.int .i64 u1, .int .i64 u2, .int .i64 u3, .int .i64 u4, .int .i64 u5, .int .i64 u6, .str u7, .int .i64 u8, .str u9]) = some true := h
            rw [h]
            rfl
          have st6 := st.trans (s6.mono (P := OL) fun u h => ol7 h)
          obtain ⟨T8, s8, a8⟩ := new1 (T := T6) s6.ok (0, 5, 0) (.cells [.int .i64 u1, .int .i64 u2, .int .i64 u3, .int .i64 u4, .int .i64 u5, .int .i64 u6, .str u7, .int .i64 u8, .str u9] 1)
          have r78 := (r7.step s6 n70).step s8 (fun h => h)
          have a78 := (a7.step s6 n70).step s8 (fun h => h)
          have at8 := (at_.step s6 n70).step s8 (fun h => h)
          have aw8 := (aw.step s6 n70).step s8 (fun h => h)
          have am8 := (am.step s6 n70).step s8 (fun h => h)
          have L8 := L6.step s8 (fun _ _ h => h)
          have t8 := st6.trans (s8.mono (P := OL) fun _ h => h.elim)
          show Xk lib _ _ (kput _ _ (.tup [.agg [.int .i64 u1, .int .i64 u2, .int .i64 u3, .int .i64 u4, .int .i64 u5, .int .i64 u6, .str u7, .int .i64 u8, .str u9], .bool true])) H6 _
          repeat (first | ((first | apply Xk.sAny | apply Xk.tAny); (case hok => rfl); (case h => intro C hC; simp (disch := omega) only [w1, ↓reduceIte, Nat.reduceEqDiff, Nat.reduceLeDiff, Nat.reduceAdd, Nat.reduceSub]; with_reducible exact hC); refine gc ?_) | refine gm ?_)
          generalize H6.new (.cells [.int .i64 u1, .int .i64 u2, .int .i64 u3, .int .i64 u4, .int .i64 u5, .int .i64 u6, .str u7, .int .i64 u8, .str u9] 1) = H8 at r78 a78 at8 aw8 am8 L8 t8 a8 s8 ⊢
          generalize H6.next = p8 at a8 ⊢
          have g88 := a8.1
          have gw8 := aw8.1
          have gt8 := at8.1
          have g78 := a78.1
          repeat (first | ((first | apply Xk.sAny | apply Xk.tAny); (case hok => rfl); (case h => intro C hC; simp (disch := omega) only [w1, ↓reduceIte, Nat.reduceEqDiff, Nat.reduceLeDiff, Nat.reduceAdd, Nat.reduceSub, g88, gw8, gt8, hkn, bw, bt, dw1, dt9, hE]; with_reducible exact hC); refine gc ?_) | refine gm ?_)
          repeat (first | ((first | apply Xk.sAny | apply Xk.tAny); (case hok => rfl); (case h => intro C hC; simp (disch := omega) only [w1, ↓reduceIte, Nat.reduceEqDiff, Nat.reduceLeDiff, Nat.reduceAdd, Nat.reduceSub, g88, gw8, gt8, hkn, bw, bt, dw1, dt9, hE]; with_reducible exact hC); refine gc ?_) | refine gm ?_)
          obtain ⟨TX, tX, r7X, atX, awX, amX, LX, a8X⟩ : ∃ TX, Stp OL (fun _ => (1, 0, 0)) H TX H8 ∧ RT TX H8 (0, 1, 0) 0 9 (.sl c7 0 n 9) ((rqL ks n).flatMap Fr.cells) ∧ At TX H8 (0, 2, 0) pt (.cells clt 1) ∧ At TX H8 (0, 3, 0) pw (.cells clw 1) ∧ At TX H8 (0, 4, 0) pm (.mp es cl) ∧ LW TX H8 p done.length M done ∧ At TX H8 (0, 5, 0) p8 (.cells [.int .i64 u1, .int .i64 u2, .int .i64 u3, .int .i64 u4, .int .i64 u5, .int .i64 u6, .str u7, .int .i64 u8, .str u9] 1) := ⟨T8, t8, r78, at8, aw8, am8, L8, a8⟩
          have gwX := awX.1
          have gtX := atX.1
          have g8X := a8X.1
          have hp8 : p8 ≠ pw := a8X.ne awX (n00 (by decide))
          obtain ⟨rwN, swN, _⟩ := RT.setG (g := bcell) (n := 1) (fun _ => rfl) false tX.ok gwX awX.2 (by rw [hD.w]; rw [hD.w] at llw; exact llw) tkw (i := kk) (by rw [hD.w]; exact hkn) (j := 0) (ys := [.bool true]) (by decide) (x' := true) (by cases W.getD kk false <;> rfl)
          rw [hD.w] at rwN
          have ew : kk * 1 + 0 = kk := by omega
          rw [ew] at rwN swN
          have hovw : clw.take kk ++ (.bool true :: clw.drop (kk + 1)) = over clw kk [.bool true] := rfl
          have atN := atX.step swN (n00 (by decide))
          obtain ⟨rtN, stN, _⟩ := RT.setG (g := Fr.cells) (n := 9) (fun _ => rfl) noFr swN.ok atN.1 atN.2 llt tkt (i := kk) (by rw [hD.a]; exact hkn) (j := 0) (ys := [.int .i64 u1, .int .i64 u2, .int .i64 u3, .int .i64 u4, .int .i64 u5, .int .i64 u6, .str u7, .int .i64 u8, .str u9]) (by show 0 + 9 ≤ 9; decide) (x' := ⟨u1, u2, u3, u4, u5, u6, u7, u8, u9⟩) (by rfl)
          rw [hD.a] at rtN
          rw [Nat.add_zero] at rtN stN
          have hovt : clt.take (kk * 9) ++ (.int .i64 u1 :: .int .i64 u2 :: .int .i64 u3 :: .int .i64 u4 :: .int .i64 u5 :: .int .i64 u6 :: .str u7 :: .int .i64 u8 :: .str u9 :: clt.drop (kk * 9 + 9)) = over clt (kk * 9) [.int .i64 u1, .int .i64 u2, .int .i64 u3, .int .i64 u4, .int .i64 u5, .int .i64 u6, .str u7, .int .i64 u8, .str u9] := rfl
          generalize over clt (kk * 9) [.int .i64 u1, .int .i64 u2, .int .i64 u3, .int .i64 u4, .int .i64 u5, .int .i64 u6, .str u7, .int .i64 u8, .str u9] = clt2 at *
          generalize over clw kk [.bool true] = clw2 at *
          have tN := (tX.trans (swN.mono (P := OL) fun u h => ol0 h)).trans (stN.mono (P := OL) fun u h => ol0 h)
          have r7N := (r7X.step swN (n00 (by decide))).step stN (n00 (by decide))
          have rwN := rwN.step stN (n00 (by decide))
          have amN := (amX.step swN (n00 (by decide))).step stN (n00 (by decide))
          have LN := (LX.step swN (fun t ht => nK0 ht)).step stN (fun t ht => nK0 ht)
          have hag := fun (k : Kn) (H : Heap) (r : List Go.Dp.It) => agV_same k H r (.agg [.int .i64 u1, .int .i64 u2, .int .i64 u3, .int .i64 u4, .int .i64 u5, .int .i64 u6, .str u7, .int .i64 u8, .str u9]) (by simp [sameV, sameCells, sameAV, kbeq_eq, ibeq_eq, beqB_eq])
          repeat (first | ((first | apply Xk.sAny | apply Xk.tAny); (case hok => rfl); (case h => intro C hC; simp (disch := omega) only [w1, ↓reduceIte, Nat.reduceEqDiff, Nat.reduceLeDiff, Nat.reduceAdd, Nat.reduceSub, g8X, gwX, gtX, hp8, hpt, bw, bt, hovw, hovt, hkn, hag]; with_reducible exact hC); refine gc ?_) | refine gm ?_)
          repeat (first | ((first | apply Xk.sAny | apply Xk.tAny); (case hok => rfl); (case h => intro C hC; simp (disch := omega) only [w1, ↓reduceIte, Nat.reduceEqDiff, Nat.reduceLeDiff, Nat.reduceAdd, Nat.reduceSub, g8X, gwX, gtX, hp8, hpt, bw, bt, hovw, hovt, hkn, hag]; with_reducible exact hC); refine gc ?_) | refine gm ?_)
          repeat (first | ((first | apply Xk.sAny | apply Xk.tAny); (case hok => rfl); (case h => intro C hC; simp (disch := omega) only [w1, ↓reduceIte, Nat.reduceEqDiff, Nat.reduceLeDiff, Nat.reduceAdd, Nat.reduceSub, g8X, gwX, gtX, hp8, hpt, bw, bt, hovw, hovt, hkn, hag]; with_reducible exact hC); refine gc ?_) | refine gm ?_)
          exact ⟨rfl, _, by omega, i + 1, TX, M, V, done, _, _, es, cl, rfl, by omega, rfl, r7N, rtN, rwN, amN, hV, hM, hDn, LN, tN⟩
        · clear ef
          obtain ⟨hwf, hDn⟩ := hD.new hkn hno (dropR M ((reqF 3 (.ofNat (10 + kk)) 1 (kyF ks kk) (.ofNat (kk + 1)) (118 :: kyF ks kk)))).2
          generalize (dropR M ((reqF 3 (.ofNat (10 + kk)) 1 (kyF ks kk) (.ofNat (kk + 1)) (118 :: kyF ks kk)))).2 = a at L6 hDn ⊢
          obtain ⟨u1, u2, u3, u4, u5, u6, u7, u8, u9⟩ := a
          rw [hwf] at dw1
          have st6 := st.trans (s6.mono (P := OL) fun u h => ol7 h)
          obtain ⟨T8, s8, a8⟩ := new1 (T := T6) s6.ok (0, 5, 0) (.cells [.int .i64 u1, .int .i64 u2, .int .i64 u3, .int .i64 u4, .int .i64 u5, .int .i64 u6, .str u7, .int .i64 u8, .str u9] 1)
          have r78 := (r7.step s6 n70).step s8 (fun h => h)
          have a78 := (a7.step s6 n70).step s8 (fun h => h)
          have at8 := (at_.step s6 n70).step s8 (fun h => h)
          have aw8 := (aw.step s6 n70).step s8 (fun h => h)
          have am8 := (am.step s6 n70).step s8 (fun h => h)
          have L8 := L6.step s8 (fun _ _ h => h)
          have t8 := st6.trans (s8.mono (P := OL) fun _ h => h.elim)
          show Xk lib _ _ (kput _ _ (.tup [.agg [.int .i64 u1, .int .i64 u2, .int .i64 u3, .int .i64 u4, .int .i64 u5, .int .i64 u6, .str u7, .int .i64 u8, .str u9], .bool true])) H6 _
          repeat (first | ((first | apply Xk.sAny | apply Xk.tAny); (case hok => rfl); (case h => intro C hC; simp (disch := omega) only [w1, ↓reduceIte, Nat.reduceEqDiff, Nat.reduceLeDiff, Nat.reduceAdd, Nat.reduceSub]; with_reducible exact hC); refine gc ?_) | refine gm ?_)
          generalize H6.new (.cells [.int .i64 u1, .int .i64 u2, .int .i64 u3, .int .i64 u4, .int .i64 u5, .int .i64 u6, .str u7, .int .i64 u8, .str u9] 1) = H8 at r78 a78 at8 aw8 am8 L8 t8 a8 s8 ⊢
          generalize H6.next = p8 at a8 ⊢
          have g88 := a8.1
          have gw8 := aw8.1
          have gt8 := at8.1
          have g78 := a78.1
          repeat (first | ((first | apply Xk.sAny | apply Xk.tAny); (case hok => rfl); (case h => intro C hC; simp (disch := omega) only [w1, ↓reduceIte, Nat.reduceEqDiff, Nat.reduceLeDiff, Nat.reduceAdd, Nat.reduceSub, g88, gw8, gt8, hkn, bw, bt, dw1]; with_reducible exact hC); refine gc ?_) | refine gm ?_)
          repeat (first | ((first | apply Xk.sAny | apply Xk.tAny); (case hok => rfl); (case h => intro C hC; simp (disch := omega) only [w1, ↓reduceIte, Nat.reduceEqDiff, Nat.reduceLeDiff, Nat.reduceAdd, Nat.reduceSub, g88, gw8, gt8, hkn, bw, bt, dw1]; with_reducible exact hC); refine gc ?_) | refine gm ?_)
          obtain ⟨T9, s9, a9⟩ := new1 (T := T8) t8.ok (0, 6, 0) (.cells [.int .i64 (.ofNat 3), .int .i64 (.ofNat 1), .int .i64 (.ofNat 3), .int .i64 (.ofNat (10 + kk)), .int .i64 (.ofNat 0), .int .i64 (.ofNat 1), .str (kyF ks kk), .int .i64 (.ofNat (kk + 1)), .str (118 :: kyF ks kk)] 1)
          have r79 := r78.step s9 (fun h => h)
          have at9 := at8.step s9 (fun h => h)
          have aw9 := aw8.step s9 (fun h => h)
          have am9 := am8.step s9 (fun h => h)
          have a89 := a8.step s9 (fun h => h)
          have L9 := L8.step s9 (fun _ _ h => h)
          have t9 := t8.trans (s9.mono (P := OL) fun _ h => h.elim)
          repeat (first | ((first | apply Xk.sAny | apply Xk.tAny); (case hok => rfl); (case h => intro C hC; simp (disch := omega) only [w1, ↓reduceIte, Nat.reduceEqDiff, Nat.reduceLeDiff, Nat.reduceAdd, Nat.reduceSub, g88, gw8, gt8, hkn, bw, bt, dw1, g78, b7, d9]; with_reducible exact hC); refine gc ?_) | refine gm ?_)
          repeat (first | ((first | apply Xk.sAny | apply Xk.tAny); (case hok => rfl); (case h => intro C hC; simp (disch := omega) only [w1, ↓reduceIte, Nat.reduceEqDiff, Nat.reduceLeDiff, Nat.reduceAdd, Nat.reduceSub, g88, gw8, gt8, hkn, bw, bt, dw1, g78, b7, d9]; with_reducible exact hC); refine gc ?_) | refine gm ?_)
          generalize H8.new (.cells [.int .i64 (.ofNat 3), .int .i64 (.ofNat 1), .int .i64 (.ofNat 3), .int .i64 (.ofNat (10 + kk)), .int .i64 (.ofNat 0), .int .i64 (.ofNat 1), .str (kyF ks kk), .int .i64 (.ofNat (kk + 1)), .str (118 :: kyF ks kk)] 1) = H9 at r79 at9 aw9 am9 a89 L9 t9 a9 s9 ⊢
          generalize H8.next = p9 at a9 ⊢
          have g99 := a9.1
          have hlk := vm_look am9.1 hV (kyF ks kk)
          have hM2 := hM.drop (rid := .ofNat (10 + kk)) (k := kyF ks kk) (d := 118 :: kyF ks kk) (v := kk + 1)
          by_cases cv : V (kyF ks kk) ≤ kk + 1
          · rw [if_pos cv] at hM2
            have cv' := eq_true cv
            obtain ⟨es', cl', hu, hV'⟩ := vm_upd am9.1 hV (kyF ks kk) 0
            repeat (first | ((first | apply Xk.sAny | apply Xk.tAny); (case hok => rfl); (case h => intro C hC; simp (disch := omega) only [w1, ↓reduceIte, Nat.reduceEqDiff, Nat.reduceLeDiff, Nat.reduceAdd, Nat.reduceSub, g99, hlk, cv', hu, eq_self]; with_reducible exact hC); refine gc ?_) | refine gm ?_)
            repeat (first | ((first | apply Xk.sAny | apply Xk.tAny); (case hok => rfl); (case h => intro C hC; simp (disch := omega) only [w1, ↓reduceIte, Nat.reduceEqDiff, Nat.reduceLeDiff, Nat.reduceAdd, Nat.reduceSub, g99, hlk, cv', hu, eq_self]; with_reducible exact hC); refine gc ?_) | refine gm ?_)
            repeat (first | ((first | apply Xk.sAny | apply Xk.tAny); (case hok => rfl); (case h => intro C hC; simp (disch := omega) only [w1, ↓reduceIte, Nat.reduceEqDiff, Nat.reduceLeDiff, Nat.reduceAdd, Nat.reduceSub, g99, hlk, cv', hu, eq_self]; with_reducible exact hC); refine gc ?_) | refine gm ?_)
            repeat (first | ((first | apply Xk.sAny | apply Xk.tAny); (case hok => rfl); (case h => intro C hC; simp (disch := omega) only [w1, ↓reduceIte, Nat.reduceEqDiff, Nat.reduceLeDiff, Nat.reduceAdd, Nat.reduceSub, g99, hlk, cv', hu, eq_self]; with_reducible exact hC); refine gc ?_) | refine gm ?_)
            have sX := am9.stp1 t9.ok (.mp es' cl')
            obtain ⟨TX, tX, r7X, atX, awX, amX, LX, a8X⟩ : ∃ TX, Stp OL (fun _ => (1, 0, 0)) H TX (H9.put pm (.mp es' cl')) ∧ RT TX (H9.put pm (.mp es' cl')) (0, 1, 0) 0 9 (.sl c7 0 n 9) ((rqL ks n).flatMap Fr.cells) ∧ At TX (H9.put pm (.mp es' cl')) (0, 2, 0) pt (.cells clt 1) ∧ At TX (H9.put pm (.mp es' cl')) (0, 3, 0) pw (.cells clw 1) ∧ At TX (H9.put pm (.mp es' cl')) (0, 4, 0) pm (.mp es' cl') ∧ LW TX (H9.put pm (.mp es' cl')) p (done.length + 1) ((dropR M (reqF 3 (.ofNat (10 + kk)) 1 (kyF ks kk) (.ofNat (kk + 1)) (118 :: kyF ks kk))).1) _ ∧ At TX (H9.put pm (.mp es' cl')) (0, 5, 0) p8 (.cells [.int .i64 u1, .int .i64 u2, .int .i64 u3, .int .i64 u4, .int .i64 u5, .int .i64 u6, .str u7, .int .i64 u8, .str u9] 1) :=
              ⟨T9, t9.trans (sX.mono (P := OL) fun u h => ol0 h), r79.step sX (n00 (by decide)), at9.step sX (n00 (by decide)), aw9.step sX (n00 (by decide)), am9.put _, L9.step sX (fun t ht => nK0 ht), a89.step sX (n00 (by decide))⟩
            have gwX := awX.1
            have gtX := atX.1
            have g8X := a8X.1
            have hp8 : p8 ≠ pw := a8X.ne awX (n00 (by decide))
            obtain ⟨rwN, swN, _⟩ := RT.setG (g := bcell) (n := 1) (fun _ => rfl) false tX.ok gwX awX.2 (by rw [hD.w]; rw [hD.w] at llw; exact llw) tkw (i := kk) (by rw [hD.w]; exact hkn) (j := 0) (ys := [.bool true]) (by decide) (x' := true) (by cases W.getD kk false <;> rfl)
            rw [hD.w] at rwN
            have ew : kk * 1 + 0 = kk := by omega
            rw [ew] at rwN swN
            have hovw : clw.take kk ++ (.bool true :: clw.drop (kk + 1)) = over clw kk [.bool true] := rfl
            have atN := atX.step swN (n00 (by decide))
            obtain ⟨rtN, stN, _⟩ := RT.setG (g := Fr.cells) (n := 9) (fun _ => rfl) noFr swN.ok atN.1 atN.2 llt tkt (i := kk) (by rw [hD.a]; exact hkn) (j := 0) (ys := [.int .i64 u1, .int .i64 u2, .int .i64 u3, .int .i64 u4, .int .i64 u5, .int .i64 u6, .str u7, .int .i64 u8, .str u9]) (by show 0 + 9 ≤ 9; decide) (x' := ⟨u1, u2, u3, u4, u5, u6, u7, u8, u9⟩) (by rfl)
            rw [hD.a] at rtN
            rw [Nat.add_zero] at rtN stN
            have hovt : clt.take (kk * 9) ++ (.int .i64 u1 :: .int .i64 u2 :: .int .i64 u3 :: .int .i64 u4 :: .int .i64 u5 :: .int .i64 u6 :: .str u7 :: .int .i64 u8 :: .str u9 :: clt.drop (kk * 9 + 9)) = over clt (kk * 9) [.int .i64 u1, .int .i64 u2, .int .i64 u3, .int .i64 u4, .int .i64 u5, .int .i64 u6, .str u7, .int .i64 u8, .str u9] := rfl
            generalize over clt (kk * 9) [.int .i64 u1, .int .i64 u2, .int .i64 u3, .int .i64 u4, .int .i64 u5, .int .i64 u6, .str u7, .int .i64 u8, .str u9] = clt2 at *
            generalize over clw kk [.bool true] = clw2 at *
            have tN := (tX.trans (swN.mono (P := OL) fun u h => ol0 h)).trans (stN.mono (P := OL) fun u h => ol0 h)
            have r7N := (r7X.step swN (n00 (by decide))).step stN (n00 (by decide))
            have rwN := rwN.step stN (n00 (by decide))
            have amN := (amX.step swN (n00 (by decide))).step stN (n00 (by decide))
            have LN := (LX.step swN (fun t ht => nK0 ht)).step stN (fun t ht => nK0 ht)
            have hag := fun (k : Kn) (H : Heap) (r : List Go.Dp.It) => agV_same k H r (.agg [.int .i64 u1, .int .i64 u2, .int .i64 u3, .int .i64 u4, .int .i64 u5, .int .i64 u6, .str u7, .int .i64 u8, .str u9]) (by simp [sameV, sameCells, sameAV, kbeq_eq, ibeq_eq, beqB_eq])
            repeat (first | ((first | apply Xk.sAny | apply Xk.tAny); (case hok => rfl); (case h => intro C hC; simp (disch := omega) only [w1, ↓reduceIte, Nat.reduceEqDiff, Nat.reduceLeDiff, Nat.reduceAdd, Nat.reduceSub, g8X, gwX, gtX, hp8, hpt, bw, bt, hovw, hovt, hkn, hag]; with_reducible exact hC); refine gc ?_) | refine gm ?_)
            repeat (first | ((first | apply Xk.sAny | apply Xk.tAny); (case hok => rfl); (case h => intro C hC; simp (disch := omega) only [w1, ↓reduceIte, Nat.reduceEqDiff, Nat.reduceLeDiff, Nat.reduceAdd, Nat.reduceSub, g8X, gwX, gtX, hp8, hpt, bw, bt, hovw, hovt, hkn, hag]; with_reducible exact hC); refine gc ?_) | refine gm ?_)
            repeat (first | ((first | apply Xk.sAny | apply Xk.tAny); (case hok => rfl); (case h => intro C hC; simp (disch := omega) only [w1, ↓reduceIte, Nat.reduceEqDiff, Nat.reduceLeDiff, Nat.reduceAdd, Nat.reduceSub, g8X, gwX, gtX, hp8, hpt, bw, bt, hovw, hovt, hkn, hag]; with_reducible exact hC); refine gc ?_) | refine gm ?_)
            exact ⟨rfl, _, by omega, i + 1, TX, _, _, _, _, _, es', cl', rfl, by omega, rfl, r7N, rtN, rwN, amN, hV', hM2, hDn, by rw [List.length_append, List.length_singleton]; exact LN, tN⟩
          · rw [if_neg cv] at hM2
            have cv' := eq_false cv
            repeat (first | ((first | apply Xk.sAny | apply Xk.tAny); (case hok => rfl); (case h => intro C hC; simp (disch := omega) only [w1, ↓reduceIte, Nat.reduceEqDiff, Nat.reduceLeDiff, Nat.reduceAdd, Nat.reduceSub, g99, hlk, cv', eq_self]; with_reducible exact hC); refine gc ?_) | refine gm ?_)
            repeat (first | ((first | apply Xk.sAny | apply Xk.tAny); (case hok => rfl); (case h => intro C hC; simp (disch := omega) only [w1, ↓reduceIte, Nat.reduceEqDiff, Nat.reduceLeDiff, Nat.reduceAdd, Nat.reduceSub, g99, hlk, cv', eq_self]; with_reducible exact hC); refine gc ?_) | refine gm ?_)
            repeat (first | ((first | apply Xk.sAny | apply Xk.tAny); (case hok => rfl); (case h => intro C hC; simp (disch := omega) only [w1, ↓reduceIte, Nat.reduceEqDiff, Nat.reduceLeDiff, Nat.reduceAdd, Nat.reduceSub, g99, hlk, cv', eq_self]; with_reducible exact hC); refine gc ?_) | refine gm ?_)
            repeat (first | ((first | apply Xk.sAny | apply Xk.tAny); (case hok => rfl); (case h => intro C hC; simp (disch := omega) only [w1, ↓reduceIte, Nat.reduceEqDiff, Nat.reduceLeDiff, Nat.reduceAdd, Nat.reduceSub, g99, hlk, cv', eq_self]; with_reducible exact hC); refine gc ?_) | refine gm ?_)
            obtain ⟨TX, tX, r7X, atX, awX, amX, LX, a8X⟩ : ∃ TX, Stp OL (fun _ => (1, 0, 0)) H TX H9 ∧ RT TX H9 (0, 1, 0) 0 9 (.sl c7 0 n 9) ((rqL ks n).flatMap Fr.cells) ∧ At TX H9 (0, 2, 0) pt (.cells clt 1) ∧ At TX H9 (0, 3, 0) pw (.cells clw 1) ∧ At TX H9 (0, 4, 0) pm (.mp es cl) ∧ LW TX H9 p (done.length + 1) ((dropR M (reqF 3 (.ofNat (10 + kk)) 1 (kyF ks kk) (.ofNat (kk + 1)) (118 :: kyF ks kk))).1) _ ∧ At TX H9 (0, 5, 0) p8 (.cells [.int .i64 u1, .int .i64 u2, .int .i64 u3, .int .i64 u4, .int .i64 u5, .int .i64 u6, .str u7, .int .i64 u8, .str u9] 1) := ⟨T9, t9, r79, at9, aw9, am9, L9, a89⟩
            have gwX := awX.1
            have gtX := atX.1
            have g8X := a8X.1
            have hp8 : p8 ≠ pw := a8X.ne awX (n00 (by decide))
            obtain ⟨rwN, swN, _⟩ := RT.setG (g := bcell) (n := 1) (fun _ => rfl) false tX.ok gwX awX.2 (by rw [hD.w]; rw [hD.w] at llw; exact llw) tkw (i := kk) (by rw [hD.w]; exact hkn) (j := 0) (ys := [.bool true]) (by decide) (x' := true) (by cases W.getD kk false <;> rfl)
            rw [hD.w] at rwN
            have ew : kk * 1 + 0 = kk := by omega
            rw [ew] at rwN swN
            have hovw : clw.take kk ++ (.bool true :: clw.drop (kk + 1)) = over clw kk [.bool true] := rfl
            have atN := atX.step swN (n00 (by decide))
            obtain ⟨rtN, stN, _⟩ := RT.setG (g := Fr.cells) (n := 9) (fun _ => rfl) noFr swN.ok atN.1 atN.2 llt tkt (i := kk) (by rw [hD.a]; exact hkn) (j := 0) (ys := [.int .i64 u1, .int .i64 u2, .int .i64 u3, .int .i64 u4, .int .i64 u5, .int .i64 u6, .str u7, .int .i64 u8, .str u9]) (by show 0 + 9 ≤ 9; decide) (x' := ⟨u1, u2, u3, u4, u5, u6, u7, u8, u9⟩) (by rfl)
            rw [hD.a] at rtN
            rw [Nat.add_zero] at rtN stN
            have hovt : clt.take (kk * 9) ++ (.int .i64 u1 :: .int .i64 u2 :: .int .i64 u3 :: .int .i64 u4 :: .int .i64 u5 :: .int .i64 u6 :: .str u7 :: .int .i64 u8 :: .str u9 :: clt.drop (kk * 9 + 9)) = over clt (kk * 9) [.int .i64 u1, .int .i64 u2, .int .i64 u3, .int .i64 u4, .int .i64 u5, .int .i64 u6, .str u7, .int .i64 u8, .str u9] := rfl
            generalize over clt (kk * 9) [.int .i64 u1, .int .i64 u2, .int .i64 u3, .int .i64 u4, .int .i64 u5, .int .i64 u6, .str u7, .int .i64 u8, .str u9] = clt2 at *
            generalize over clw kk [.bool true] = clw2 at *
            have tN := (tX.trans (swN.mono (P := OL) fun u h => ol0 h)).trans (stN.mono (P := OL) fun u h => ol0 h)
            have r7N := (r7X.step swN (n00 (by decide))).step stN (n00 (by decide))
            have rwN := rwN.step stN (n00 (by decide))
            have amN := (amX.step swN (n00 (by decide))).step stN (n00 (by decide))
            have LN := (LX.step swN (fun t ht => nK0 ht)).step stN (fun t ht => nK0 ht)
            have hag := fun (k : Kn) (H : Heap) (r : List Go.Dp.It) => agV_same k H r (.agg [.int .i64 u1, .int .i64 u2, .int .i64 u3, .int .i64 u4, .int .i64 u5, .int .i64 u6, .str u7, .int .i64 u8, .str u9]) (by simp [sameV, sameCells, sameAV, kbeq_eq, ibeq_eq, beqB_eq])
            repeat (first | ((first | apply Xk.sAny | apply Xk.tAny); (case hok => rfl); (case h => intro C hC; simp (disch := omega) only [w1, ↓reduceIte, Nat.reduceEqDiff, Nat.reduceLeDiff, Nat.reduceAdd, Nat.reduceSub, g8X, gwX, gtX, hp8, hpt, bw, bt, hovw, hovt, hkn, hag]; with_reducible exact hC); refine gc ?_) | refine gm ?_)
            repeat (first | ((first | apply Xk.sAny | apply Xk.tAny); (case hok => rfl); (case h => intro C hC; simp (disch := omega) only [w1, ↓reduceIte, Nat.reduceEqDiff, Nat.reduceLeDiff, Nat.reduceAdd, Nat.reduceSub, g8X, gwX, gtX, hp8, hpt, bw, bt, hovw, hovt, hkn, hag]; with_reducible exact hC); refine gc ?_) | refine gm ?_)
            repeat (first | ((first | apply Xk.sAny | apply Xk.tAny); (case hok => rfl); (case h => intro C hC; simp (disch := omega) only [w1, ↓reduceIte, Nat.reduceEqDiff, Nat.reduceLeDiff, Nat.reduceAdd, Nat.reduceSub, g8X, gwX, gtX, hp8, hpt, bw, bt, hovw, hovt, hkn, hag]; with_reducible exact hC); refine gc ?_) | refine gm ?_)
            exact ⟨rfl, _, by omega, i + 1, TX, _, _, _, _, _, es, cl, rfl, by omega, rfl, r7N, rtN, rwN, amN, hV, hM2, hDn, by rw [List.length_append, List.length_singleton]; exact LN, tN⟩
      · skip
        have ef : rqF ks kk = (reqF 1 (.ofNat (10 + kk)) 1 (kyF ks kk) (.ofNat (kk + 1)) (118 :: kyF ks kk)) := by unfold rqF; rw [if_neg ck]
        rw [ef] at hf d9
        have hn1 := nameB_len _ hf.ok.v1 hf.ok.v2
        have hn2 := verB_len (reqF 1 (.ofNat (10 + kk)) 1 (kyF ks kk) (.ofNat (kk + 1)) (118 :: kyF ks kk)).ver (reqF 1 (.ofNat (10 + kk)) 1 (kyF ks kk) (.ofNat (kk + 1)) (118 :: kyF ks kk)).data hf.ok.v1 hf.ok.v2
        have hn3 : (reqF 1 (.ofNat (10 + kk)) 1 (kyF ks kk) (.ofNat (kk + 1)) (118 :: kyF ks kk)).key = kyF ks kk := rfl
        have hn4 : (reqF 1 (.ofNat (10 + kk)) 1 (kyF ks kk) (.ofNat (kk + 1)) (118 :: kyF ks kk)).data.length = (kyF ks kk).length + 1 := rfl
        rw [hn3] at hn1
        have d9 : (cl7.drop (kk * 9)).take 9 = [.int .i64 (.ofNat 1), .int .i64 (.ofNat 1), .int .i64 (.ofNat 3), .int .i64 (.ofNat (10 + kk)), .int .i64 (.ofNat 0), .int .i64 (.ofNat 1), .str (kyF ks kk), .int .i64 (.ofNat (kk + 1)), .str (118 :: kyF ks kk)] := d9
        repeat (first | ((first | apply Xk.sAny | apply Xk.tAny); (case hok => rfl); (case h => intro C hC; simp (disch := omega) only [w1, ↓reduceIte, Nat.reduceEqDiff, Nat.reduceLeDiff, Nat.reduceAdd, Nat.reduceSub, g7, b7, d9, hkn]; with_reducible exact hC); refine gc ?_) | refine gm ?_)
        repeat (first | ((first | apply Xk.sAny | apply Xk.tAny); (case hok => rfl); (case h => intro C hC; simp (disch := omega) only [w1, ↓reduceIte, Nat.reduceEqDiff, Nat.reduceLeDiff, Nat.reduceAdd, Nat.reduceSub, g7, b7, d9, hkn]; with_reducible exact hC); refine gc ?_) | refine gm ?_)
        refine tReq_ev 10 T5 H5 p hL (by omega) (reqF 1 (.ofNat (10 + kk)) 1 (kyF ks kk) (.ofNat (kk + 1)) (118 :: kyF ks kk)) hf (by show Int.ofNat 1 < Int.ofNat 6; decide) (by show Int.ofNat 1 ≠ Int.ofNat 5; decide) _ (putR_ok hMo hf) (fun s S => putIs S (by omega) hf rfl (by decide) (fit2 (by omega) (by omega))) _ (fun d pre post e h1 h2 T6 H6 s6 L6 => ?_) (fun hno T6 H6 s6 L6 => ?_)
        · clear ef
          have hmem : d ∈ done := by rw [e]; exact List.mem_append_right _ (List.mem_cons_self ..)
          obtain ⟨hwf, hAf, hDn⟩ := hD.old hkn hmem h2
          rw [hwf] at dw1
          rw [hAf] at dt9
          generalize d.f = a at hDn dt9 ⊢
          obtain ⟨u1, u2, u3, u4, u5, u6, u7, u8, u9⟩ := a
          have dt9 : (clt.drop (kk * 9)).take 9 = [.int .i64 u1, .int .i64 u2, .int .i64 u3, .int .i64 u4, .int .i64 u5, .int .i64 u6, .str u7, .int .i64 u8, .str u9] := dt9
          have hE : negIf true (aggEq [.i .i64, .i .i64, .i .i64, .i .i64, .i .i64, .i .i64, .s, .i .i64, .s] (.agg [.int .i64 u1, .int .i64 u2, .int .i64 u3, .int .i64 u4, .int .i64 u5, .int .i64 u6, .str u7, .int .i64 u8, .str u9]) (.agg [.int .i64 u1, .int .i64 u2, .int .i64 u3, .int .i64 u4, .int .i64 u5, .int .i64 u6, .str u7, .int .i64 u8, .str u9])) = some (.bool false) := by
            have h := agg_self ⟨u1, u2, u3, u4, u5, u6, u7, u8, u9⟩
            have h : aggEq [.i .i64, .i .i64, .i .i64, .i .i64, .i .i64, .i .i64, .s, .i .i64, .s] (.agg [.int .i64 u1, .int .i64 u2, .int .i64 u3, .int .i64 u4, .int .i64 u5, .int .i64 u6, .str u7, .int .i64 u8, .str u9]) (.agg [.int .i64 u1, .int .i64 u2, .int .i64 u3, .int .i64 u4, .int .i64 u5, .int .i64 u6, .str u7, .int .i64 u8, .str u9]) = some true := h
            rw [h]
            rfl
          have st6 := st.trans (s6.mono (P := OL) fun u h => ol7 h)
          obtain ⟨T8, s8, a8⟩ := new1 (T := T6) s6.ok (0, 5, 0) (.cells [.int .i64 u1, .int .i64 u2, .int .i64 u3, .int .i64 u4, .int .i64 u5, .int .i64 u6, .str u7, .int .i64 u8, .str u9] 1)
          have r78 := (r7.step s6 n70).step s8 (fun h => h)
          have a78 := (a7.step s6 n70).step s8 (fun h => h)
          have at8 := (at_.step s6 n70).step s8 (fun h => h)
          have aw8 := (aw.step s6 n70).step s8 (fun h => h)
          have am8 := (am.step s6 n70).step s8 (fun h => h)
          have L8 := L6.step s8 (fun _ _ h => h)
          have t8 := st6.trans (s8.mono (P := OL) fun _ h => h.elim)
          show Xk lib _ _ (kput _ _ (.tup [.agg [.int .i64 u1, .int .i64 u2, .int .i64 u3, .int .i64 u4, .int .i64 u5, .int .i64 u6, .str u7, .int .i64 u8, .str u9], .bool true])) H6 _
          repeat (first | ((first | apply Xk.sAny | apply Xk.tAny); (case hok => rfl); (case h => intro C hC; simp (disch := omega) only [w1, ↓reduceIte, Nat.reduceEqDiff, Nat.reduceLeDiff, Nat.reduceAdd, Nat.reduceSub]; with_reducible exact hC); refine gc ?_) | refine gm ?_)
          generalize H6.new (.cells [.int .i64 u1, .int .i64 u2, .int .i64 u3, .int .i64 u4, .int .i64 u5, .int .i64 u6, .str u7, .int .i64 u8, .str u9] 1) = H8 at r78 a78 at8 aw8 am8 L8 t8 a8 s8 ⊢
          generalize H6.next = p8 at a8 ⊢
          have g88 := a8.1
          have gw8 := aw8.1
          have gt8 := at8.1
          have g78 := a78.1
          repeat (first | ((first | apply Xk.sAny | apply Xk.tAny); (case hok => rfl); (case h => intro C hC; simp (disch := omega) only [w1, ↓reduceIte, Nat.reduceEqDiff, Nat.reduceLeDiff, Nat.reduceAdd, Nat.reduceSub, g88, gw8, gt8, hkn, bw, bt, dw1, dt9, hE]; with_reducible exact hC); refine gc ?_) | refine gm ?_)
          repeat (first | ((first | apply Xk.sAny | apply Xk.tAny); (case hok => rfl); (case h => intro C hC; simp (disch := omega) only [w1, ↓reduceIte, Nat.reduceEqDiff, Nat.reduceLeDiff, Nat.reduceAdd, Nat.reduceSub, g88, gw8, gt8, hkn, bw, bt, dw1, dt9, hE]; with_reducible exact hC); refine gc ?_) | refine gm ?_)
          obtain ⟨TX, tX, r7X, atX, awX, amX, LX, a8X⟩ : ∃ TX, Stp OL (fun _ => (1, 0, 0)) H TX H8 ∧ RT TX H8 (0, 1, 0) 0 9 (.sl c7 0 n 9) ((rqL ks n).flatMap Fr.cells) ∧ At TX H8 (0, 2, 0) pt (.cells clt 1) ∧ At TX H8 (0, 3, 0) pw (.cells clw 1) ∧ At TX H8 (0, 4, 0) pm (.mp es cl) ∧ LW TX H8 p done.length M done ∧ At TX H8 (0, 5, 0) p8 (.cells [.int .i64 u1, .int .i64 u2, .int .i64 u3, .int .i64 u4, .int .i64 u5, .int .i64 u6, .str u7, .int .i64 u8, .str u9] 1) := ⟨T8, t8, r78, at8, aw8, am8, L8, a8⟩
          have gwX := awX.1
          have gtX := atX.1
          have g8X := a8X.1
          have hp8 : p8 ≠ pw := a8X.ne awX (n00 (by decide))
          obtain ⟨rwN, swN, _⟩ := RT.setG (g := bcell) (n := 1) (fun _ => rfl) false tX.ok gwX awX.2 (by rw [hD.w]; rw [hD.w] at llw; exact llw) tkw (i := kk) (by rw [hD.w]; exact hkn) (j := 0) (ys := [.bool true]) (by decide) (x' := true) (by cases W.getD kk false <;> rfl)
          rw [hD.w] at rwN
          have ew : kk * 1 + 0 = kk := by omega
          rw [ew] at rwN swN
          have hovw : clw.take kk ++ (.bool true :: clw.drop (kk + 1)) = over clw kk [.bool true] := rfl
          have atN := atX.step swN (n00 (by decide))
          obtain ⟨rtN, stN, _⟩ := RT.setG (g := Fr.cells) (n := 9) (fun _ => rfl) noFr swN.ok atN.1 atN.2 llt tkt (i := kk) (by rw [hD.a]; exact hkn) (j := 0) (ys := [.int .i64 u1, .int .i64 u2, .int .i64 u3, .int .i64 u4, .int .i64 u5, .int .i64 u6, .str u7, .int .i64 u8, .str u9]) (by show 0 + 9 ≤ 9; decide) (x' := ⟨u1, u2, u3, u4, u5, u6, u7, u8, u9⟩) (by rfl)
          rw [hD.a] at rtN
          rw [Nat.add_zero] at rtN stN
          have hovt : clt.take (kk * 9) ++ (.int .i64 u1 :: .int .i64 u2 :: .int .i64 u3 :: .int .i64 u4 :: .int .i64 u5 :: .int .i64 u6 :: .str u7 :: .int .i64 u8 :: .str u9 :: clt.drop (kk * 9 + 9)) = over clt (kk * 9) [.int .i64 u1, .int .i64 u2, .int .i64 u3, .int .i64 u4, .int .i64 u5, .int .i64 u6, .str u7, .int .i64 u8, .str u9] := rfl
          generalize over clt (kk * 9) [.int .i64 u1, .int .i64 u2, .int .i64 u3, .int .i64 u4, .int .i64 u5, .int .i64 u6, .str u7, .int .i64 u8, .str u9] = clt2 at *
          generalize over clw kk [.bool true] = clw2 at *
          have tN := (tX.trans (swN.mono (P := OL) fun u h => ol0 h)).trans (stN.mono (P := OL) fun u h => ol0 h)
          have r7N := (r7X.step swN (n00 (by decide))).step stN (n00 (by decide))
          have rwN := rwN.step stN (n00 (by decide))
          have amN := (amX.step swN (n00 (by decide))).step stN (n00 (by decide))
          have LN := (LX.step swN (fun t ht => nK0 ht)).step stN (fun t ht => nK0 ht)
          have hag := fun (k : Kn) (H : Heap) (r : List Go.Dp.It) => agV_same k H r (.agg [.int .i64 u1, .int .i64 u2, .int .i64 u3, .int .i64 u4, .int .i64 u5, .int .i64 u6, .str u7, .int .i64 u8, .str u9]) (by simp [sameV, sameCells, sameAV, kbeq_eq, ibeq_eq, beqB_eq])
          repeat (first | ((first | apply Xk.sAny | apply Xk.tAny); (case hok => rfl); (case h => intro C hC; simp (disch := omega) only [w1, ↓reduceIte, Nat.reduceEqDiff, Nat.reduceLeDiff, Nat.reduceAdd, Nat.reduceSub, g8X, gwX, gtX, hp8, hpt, bw, bt, hovw, hovt, hkn, hag]; with_reducible exact hC); refine gc ?_) | refine gm ?_)
          repeat (first | ((first | apply Xk.sAny | apply Xk.tAny); (case hok => rfl); (case h => intro C hC; simp (disch := omega) only [w1, ↓reduceIte, Nat.reduceEqDiff, Nat.reduceLeDiff, Nat.reduceAdd, Nat.reduceSub, g8X, gwX, gtX, hp8, hpt, bw, bt, hovw, hovt, hkn, hag]; with_reducible exact hC); refine gc ?_) | refine gm ?_)
          repeat (first | ((first | apply Xk.sAny | apply Xk.tAny); (case hok => rfl); (case h => intro C hC; simp (disch := omega) only [w1, ↓reduceIte, Nat.reduceEqDiff, Nat.reduceLeDiff, Nat.reduceAdd, Nat.reduceSub, g8X, gwX, gtX, hp8, hpt, bw, bt, hovw, hovt, hkn, hag]; with_reducible exact hC); refine gc ?_) | refine gm ?_)
          exact ⟨rfl, _, by omega, i + 1, TX, M, V, done, _, _, es, cl, rfl, by omega, rfl, r7N, rtN, rwN, amN, hV, hM, hDn, LN, tN⟩
        · clear ef
          obtain ⟨hwf, hDn⟩ := hD.new hkn hno (putR M ((reqF 1 (.ofNat (10 + kk)) 1 (kyF ks kk) (.ofNat (kk + 1)) (118 :: kyF ks kk)))).2
          generalize (putR M ((reqF 1 (.ofNat (10 + kk)) 1 (kyF ks kk) (.ofNat (kk + 1)) (118 :: kyF ks kk)))).2 = a at L6 hDn ⊢
          obtain ⟨u1, u2, u3, u4, u5, u6, u7, u8, u9⟩ := a
          rw [hwf] at dw1
          have st6 := st.trans (s6.mono (P := OL) fun u h => ol7 h)
          obtain ⟨T8, s8, a8⟩ := new1 (T := T6) s6.ok (0, 5, 0) (.cells [.int .i64 u1, .int .i64 u2, .int .i64 u3, .int .i64 u4, .int .i64 u5, .int .i64 u6, .str u7, .int .i64 u8, .str u9] 1)
          have r78 := (r7.step s6 n70).step s8 (fun h => h)
          have a78 := (a7.step s6 n70).step s8 (fun h => h)
          have at8 := (at_.step s6 n70).step s8 (fun h => h)
          have aw8 := (aw.step s6 n70).step s8 (fun h => h)
          have am8 := (am.step s6 n70).step s8 (fun h => h)
          have L8 := L6.step s8 (fun _ _ h => h)
          have t8 := st6.trans (s8.mono (P := OL) fun _ h => h.elim)
          show Xk lib _ _ (kput _ _ (.tup [.agg [.int .i64 u1, .int .i64 u2, .int .i64 u3, .int .i64 u4, .int .i64 u5, .int .i64 u6, .str u7, .int .i64 u8, .str u9], .bool true])) H6 _
          repeat (first | ((first | apply Xk.sAny | apply Xk.tAny); (case hok => rfl); (case h => intro C hC; simp (disch := omega) only [w1, ↓reduceIte, Nat.reduceEqDiff, Nat.reduceLeDiff, Nat.reduceAdd, Nat.reduceSub]; with_reducible exact hC); refine gc ?_) | refine gm ?_)
          generalize H6.new (.cells [.int .i64 u1, .int .i64 u2, .int .i64 u3, .int .i64 u4, .int .i64 u5, .int .i64 u6, .str u7, .int .i64 u8, .str u9] 1) = H8 at r78 a78 at8 aw8 am8 L8 t8 a8 s8 ⊢
          generalize H6.next = p8 at a8 ⊢
          have g88 := a8.1
          have gw8 := aw8.1
          have gt8 := at8.1
          have g78 := a78.1
          repeat (first | ((first | apply Xk.sAny | apply Xk.tAny); (case hok => rfl); (case h => intro C hC; simp (disch := omega) only [w1, ↓reduceIte, Nat.reduceEqDiff, Nat.reduceLeDiff, Nat.reduceAdd, Nat.reduceSub, g88, gw8, gt8, hkn, bw, bt, dw1]; with_reducible exact hC); refine gc ?_) | refine gm ?_)
          repeat (first | ((first | apply Xk.sAny | apply Xk.tAny); (case hok => rfl); (case h => intro C hC; simp (disch := omega) only [w1, ↓reduceIte, Nat.reduceEqDiff, Nat.reduceLeDiff, Nat.reduceAdd, Nat.reduceSub, g88, gw8, gt8, hkn, bw, bt, dw1]; with_reducible exact hC); refine gc ?_) | refine gm ?_)
          obtain ⟨T9, s9, a9⟩ := new1 (T := T8) t8.ok (0, 6, 0) (.cells [.int .i64 (.ofNat 1), .int .i64 (.ofNat 1), .int .i64 (.ofNat 3), .int .i64 (.ofNat (10 + kk)), .int .i64 (.ofNat 0), .int .i64 (.ofNat 1), .str (kyF ks kk), .int .i64 (.ofNat (kk + 1)), .str (118 :: kyF ks kk)] 1)
          have r79 := r78.step s9 (fun h => h)
          have at9 := at8.step s9 (fun h => h)
          have aw9 := aw8.step s9 (fun h => h)
          have am9 := am8.step s9 (fun h => h)
          have a89 := a8.step s9 (fun h => h)
          have L9 := L8.step s9 (fun _ _ h => h)
          have t9 := t8.trans (s9.mono (P := OL) fun _ h => h.elim)
          repeat (first | ((first | apply Xk.sAny | apply Xk.tAny); (case hok => rfl); (case h => intro C hC; simp (disch := omega) only [w1, ↓reduceIte, Nat.reduceEqDiff, Nat.reduceLeDiff, Nat.reduceAdd, Nat.reduceSub, g88, gw8, gt8, hkn, bw, bt, dw1, g78, b7, d9]; with_reducible exact hC); refine gc ?_) | refine gm ?_)
          repeat (first | ((first | apply Xk.sAny | apply Xk.tAny); (case hok => rfl); (case h => intro C hC; simp (disch := omega) only [w1, ↓reduceIte, Nat.reduceEqDiff, Nat.reduceLeDiff, Nat.reduceAdd, Nat.reduceSub, g88, gw8, gt8, hkn, bw, bt, dw1, g78, b7, d9]; with_reducible exact hC); refine gc ?_) | refine gm ?_)
          generalize H8.new (.cells [.int .i64 (.ofNat 1), .int .i64 (.ofNat 1), .int .i64 (.ofNat 3), .int .i64 (.ofNat (10 + kk)), .int .i64 (.ofNat 0), .int .i64 (.ofNat 1), .str (kyF ks kk), .int .i64 (.ofNat (kk + 1)), .str (118 :: kyF ks kk)] 1) = H9 at r79 at9 aw9 am9 a89 L9 t9 a9 s9 ⊢
          generalize H8.next = p9 at a9 ⊢
          have g99 := a9.1
          have hlk := vm_look am9.1 hV (kyF ks kk)
          have hM2 := hM.put (rid := .ofNat (10 + kk)) (k := kyF ks kk) (v := kk + 1) (by omega) (by omega)
          have hmx := min_mx (V (kyF ks kk)) (kk + 1)
          obtain ⟨es', cl', hu, hV'⟩ := vm_upd am9.1 hV (kyF ks kk) (max (V (kyF ks kk)) (kk + 1))
          repeat (first | ((first | apply Xk.sAny | apply Xk.tAny); (case hok => rfl); (case h => intro C hC; simp (disch := omega) only [w1, ↓reduceIte, Nat.reduceEqDiff, Nat.reduceLeDiff, Nat.reduceAdd, Nat.reduceSub, g99, hlk, rMm, mms, hmx, hu, eq_self]; with_reducible exact hC); refine gc ?_) | refine gm ?_)
          repeat (first | ((first | apply Xk.sAny | apply Xk.tAny); (case hok => rfl); (case h => intro C hC; simp (disch := omega) only [w1, ↓reduceIte, Nat.reduceEqDiff, Nat.reduceLeDiff, Nat.reduceAdd, Nat.reduceSub, g99, hlk, rMm, mms, hmx, hu, eq_self]; with_reducible exact hC); refine gc ?_) | refine gm ?_)
          repeat (first | ((first | apply Xk.sAny | apply Xk.tAny); (case hok => rfl); (case h => intro C hC; simp (disch := omega) only [w1, ↓reduceIte, Nat.reduceEqDiff, Nat.reduceLeDiff, Nat.reduceAdd, Nat.reduceSub, g99, hlk, rMm, mms, hmx, hu, eq_self]; with_reducible exact hC); refine gc ?_) | refine gm ?_)
          have sX := am9.stp1 t9.ok (.mp es' cl')
          obtain ⟨TX, tX, r7X, atX, awX, amX, LX, a8X⟩ : ∃ TX, Stp OL (fun _ => (1, 0, 0)) H TX (H9.put pm (.mp es' cl')) ∧ RT TX (H9.put pm (.mp es' cl')) (0, 1, 0) 0 9 (.sl c7 0 n 9) ((rqL ks n).flatMap Fr.cells) ∧ At TX (H9.put pm (.mp es' cl')) (0, 2, 0) pt (.cells clt 1) ∧ At TX (H9.put pm (.mp es' cl')) (0, 3, 0) pw (.cells clw 1) ∧ At TX (H9.put pm (.mp es' cl')) (0, 4, 0) pm (.mp es' cl') ∧ LW TX (H9.put pm (.mp es' cl')) p (done.length + 1) ((putR M (reqF 1 (.ofNat (10 + kk)) 1 (kyF ks kk) (.ofNat (kk + 1)) (118 :: kyF ks kk))).1) _ ∧ At TX (H9.put pm (.mp es' cl')) (0, 5, 0) p8 (.cells [.int .i64 u1, .int .i64 u2, .int .i64 u3, .int .i64 u4, .int .i64 u5, .int .i64 u6, .str u7, .int .i64 u8, .str u9] 1) :=
            ⟨T9, t9.trans (sX.mono (P := OL) fun u h => ol0 h), r79.step sX (n00 (by decide)), at9.step sX (n00 (by decide)), aw9.step sX (n00 (by decide)), am9.put _, L9.step sX (fun t ht => nK0 ht), a89.step sX (n00 (by decide))⟩
          have gwX := awX.1
          have gtX := atX.1
          have g8X := a8X.1
          have hp8 : p8 ≠ pw := a8X.ne awX (n00 (by decide))
          obtain ⟨rwN, swN, _⟩ := RT.setG (g := bcell) (n := 1) (fun _ => rfl) false tX.ok gwX awX.2 (by rw [hD.w]; rw [hD.w] at llw; exact llw) tkw (i := kk) (by rw [hD.w]; exact hkn) (j := 0) (ys := [.bool true]) (by decide) (x' := true) (by cases W.getD kk false <;> rfl)
          rw [hD.w] at rwN
          have ew : kk * 1 + 0 = kk := by omega
          rw [ew] at rwN swN
          have hovw : clw.take kk ++ (.bool true :: clw.drop (kk + 1)) = over clw kk [.bool true] := rfl
          have atN := atX.step swN (n00 (by decide))
          obtain ⟨rtN, stN, _⟩ := RT.setG (g := Fr.cells) (n := 9) (fun _ => rfl) noFr swN.ok atN.1 atN.2 llt tkt (i := kk) (by rw [hD.a]; exact hkn) (j := 0) (ys := [.int .i64 u1, .int .i64 u2, .int .i64 u3, .int .i64 u4, .int .i64 u5, .int .i64 u6, .str u7, .int .i64 u8, .str u9]) (by show 0 + 9 ≤ 9; decide) (x' := ⟨u1, u2, u3, u4, u5, u6, u7, u8, u9⟩) (by rfl)
          rw [hD.a] at rtN
          rw [Nat.add_zero] at rtN stN
          have hovt : clt.take (kk * 9) ++ (.int .i64 u1 :: .int .i64 u2 :: .int .i64 u3 :: .int .i64 u4 :: .int .i64 u5 :: .int .i64 u6 :: .str u7 :: .int .i64 u8 :: .str u9 :: clt.drop (kk * 9 + 9)) = over clt (kk * 9) [.int .i64 u1, .int .i64 u2, .int .i64 u3, .int .i64 u4, .int .i64 u5, .int .i64 u6, .str u7, .int .i64 u8, .str u9] := rfl
          generalize over clt (kk * 9) [.int .i64 u1, .int .i64 u2, .int .i64 u3, .int .i64 u4, .int .i64 u5, .int .i64 u6, .str u7, .int .i64 u8, .str u9] = clt2 at *
          generalize over clw kk [.bool true] = clw2 at *
          have tN := (tX.trans (swN.mono (P := OL) fun u h => ol0 h)).trans (stN.mono (P := OL) fun u h => ol0 h)
          have r7N := (r7X.step swN (n00 (by decide))).step stN (n00 (by decide))
          have rwN := rwN.step stN (n00 (by decide))
          have amN := (amX.step swN (n00 (by decide))).step stN (n00 (by decide))
          have LN := (LX.step swN (fun t ht => nK0 ht)).step stN (fun t ht => nK0 ht)
          have hag := fun (k : Kn) (H : Heap) (r : List Go.Dp.It) => agV_same k H r (.agg [.int .i64 u1, .int .i64 u2, .int .i64 u3, .int .i64 u4, .int .i64 u5, .int .i64 u6, .str u7, .int .i64 u8, .str u9]) (by simp [sameV, sameCells, sameAV, kbeq_eq, ibeq_eq, beqB_eq])
          repeat (first | ((first | apply Xk.sAny | apply Xk.tAny); (case hok => rfl); (case h => intro C hC; simp (disch := omega) only [w1, ↓reduceIte, Nat.reduceEqDiff, Nat.reduceLeDiff, Nat.reduceAdd, Nat.reduceSub, g8X, gwX, gtX, hp8, hpt, bw, bt, hovw, hovt, hkn, hag]; with_reducible exact hC); refine gc ?_) | refine gm ?_)
          repeat (first | ((first | apply Xk.sAny | apply Xk.tAny); (case hok => rfl); (case h => intro C hC; simp (disch := omega) only [w1, ↓reduceIte, Nat.reduceEqDiff, Nat.reduceLeDiff, Nat.reduceAdd, Nat.reduceSub, g8X, gwX, gtX, hp8, hpt, bw, bt, hovw, hovt, hkn, hag]; with_reducible exact hC); refine gc ?_) | refine gm ?_)
          repeat (first | ((first | apply Xk.sAny | apply Xk.tAny); (case hok => rfl); (case h => intro C hC; simp (disch := omega) only [w1, ↓reduceIte, Nat.reduceEqDiff, Nat.reduceLeDiff, Nat.reduceAdd, Nat.reduceSub, g8X, gwX, gtX, hp8, hpt, bw, bt, hovw, hovt, hkn, hag]; with_reducible exact hC); refine gc ?_) | refine gm ?_)
          exact ⟨rfl, _, by omega, i + 1, TX, _, _, _, _, _, es', cl', rfl, by omega, rfl, r7N, rtN, rwN, amN, hV', hM2, hDn, by rw [List.length_append, List.length_singleton]; exact LN, tN⟩
    · rintro k H5 ⟨n, v7, pm, T5, M, V, done, es, cl, rfl, hn, r7, am, hV, hM, hrid, hdl, hL, st⟩
      obtain ⟨l1, l2, l3⟩ := RT.lensG (g := Fr.cells) (n := 9) (fun _ => rfl) r7 (by decide)
      rw [rqL_len] at l1
      repeat (first | ((first | apply Xk.sAny | apply Xk.tAny); (case hok => rfl); (case h => intro C hC; simp (disch := omega) only [w1, ↓reduceIte, Nat.reduceEqDiff, Nat.reduceLeDiff, Nat.reduceAdd, Nat.reduceSub]; with_reducible exact hC); refine gc ?_) | refine gm ?_)
      repeat (first | ((first | apply Xk.sAny | apply Xk.tAny); (case hok => rfl); (case h => intro C hC; simp (disch := omega) only [w1, ↓reduceIte, Nat.reduceEqDiff, Nat.reduceLeDiff, Nat.reduceAdd, Nat.reduceSub]; with_reducible exact hC); refine gc ?_) | refine gm ?_)
      refine Xk.iter [5, 7, 13, 19] (fun m k H' => ∃ i T' done c, m = n - i ∧ i ≤ n ∧ k = [(5, .ptr p 0), (7, v7), (13, .map pm), (19, .int .i64 (.ofNat i))] ∧ RT T' H' (0, 1, 0) 0 9 v7 ((rqL ks n).flatMap Fr.cells) ∧ At T' H' (0, 4, 0) pm (.mp es cl) ∧ (∀ d ∈ done, d.rid < ((100 + i : Nat) : Int)) ∧ done.length ≤ 12 + i ∧ c ≤ 12 + i ∧ LW T' H' p c M done ∧ Stp OL (fun _ => (1, 0, 0)) H T' H') rfl
        ⟨_, 0, T5, done, done.length, rfl, by omega, rfl, r7, am, hrid, hdl, hdl, hL, st⟩ ?_
      clear r7 am hrid hdl hL st
      rintro m k H6 ⟨i, T6, done, c, rfl, hi, rfl, r7, am, hrid, hdl, hcl, hL, st⟩
      unfold l2_depotlaw17_SlotOnce
      by_cases c1 : i < n
      case neg =>
        repeat (first | ((first | apply Xk.sAny | apply Xk.tAny); (case hok => rfl); (case h => intro C hC; simp (disch := omega) only [w1, ↓reduceIte, Nat.reduceEqDiff, Nat.reduceLeDiff, Nat.reduceAdd, Nat.reduceSub, l1, c1]; with_reducible exact hC); refine gc ?_) | refine gm ?_)
        repeat (first | ((first | apply Xk.sAny | apply Xk.tAny); (case hok => rfl); (case h => intro C hC; simp (disch := omega) only [w1, ↓reduceIte, Nat.reduceEqDiff, Nat.reduceLeDiff, Nat.reduceAdd, Nat.reduceSub, l1, c1]; with_reducible exact hC); refine gc ?_) | refine gm ?_)
        refine SRuns_ev _ _ ?_
        repeat (first | ((first | apply Xk.sAny | apply Xk.tAny); (case hok => rfl); (case h => intro C hC; simp (disch := omega) only [w1, ↓reduceIte, Nat.reduceEqDiff, Nat.reduceLeDiff, Nat.reduceAdd, Nat.reduceSub]; with_reducible exact hC); refine gc ?_) | refine gm ?_)
        rfl
      obtain ⟨c7, cl7, h7, g7, t7, ll7, tk7, row7⟩ := RT.rowG (g := Fr.cells) (n := 9) (fun _ => rfl) noFr r7 (by rw [rqL_len]; omega) (by decide)
      obtain ⟨b7, rest7, d7⟩ := row7 i (by rw [rqL_len]; exact c1)
      rw [rqL_at ks c1] at d7
      rw [rqL_len] at h7
      subst h7
      have d6 : (cl7.drop (i * 9 + 6)).take 1 = [.str (kyF ks i)] := by
        rw [← List.drop_drop, d7]
        rfl
      have b6 : i * 9 + 6 + 1 ≤ cl7.length := by omega
      have a7 : At T6 H6 (0, 1, 0) c7 (.cells cl7 1) := ⟨g7, t7⟩
      clear d7 row7
      obtain ⟨sl, SL⟩ := hL
      have hMo := SL.mo
      have hL : LW T6 H6 p c M done := ⟨sl, SL⟩
      clear SL
      have hky := kyF_len ks i
      have hv12 := hM.v (kyF ks i)
      repeat (first | ((first | apply Xk.sAny | apply Xk.tAny); (case hok => rfl); (case h => intro C hC; simp (disch := omega) only [w1, ↓reduceIte, Nat.reduceEqDiff, Nat.reduceLeDiff, Nat.reduceAdd, Nat.reduceSub, l1, c1, g7, b6, d6]; with_reducible exact hC); refine gc ?_) | refine gm ?_)
      repeat (first | ((first | apply Xk.sAny | apply Xk.tAny); (case hok => rfl); (case h => intro C hC; simp (disch := omega) only [w1, ↓reduceIte, Nat.reduceEqDiff, Nat.reduceLeDiff, Nat.reduceAdd, Nat.reduceSub, l1, c1, g7, b6, d6]; with_reducible exact hC); refine gc ?_) | refine gm ?_)
      repeat (first | ((first | apply Xk.sAny | apply Xk.tAny); (case hok => rfl); (case h => intro C hC; simp (disch := omega) only [w1, ↓reduceIte, Nat.reduceEqDiff, Nat.reduceLeDiff, Nat.reduceAdd, Nat.reduceSub, l1, c1, g7, b6, d6]; with_reducible exact hC); refine gc ?_) | refine gm ?_)
      refine ask_ev 2 (.ofNat (100 + i)) (kyF ks i) [] (.ofNat 0) H6 _ fun H7 hO7 hle7 => ?_
      rw [askF_req _ _ _ _ (by decide)]
      have s7 : Stp (fun _ => False) T6 H6 T6 H7 := Stp.le hO7 hle7
      have L7 := hL.step s7 (fun _ _ h => h)
      have hf : LR (reqF 2 (.ofNat (100 + i)) 1 (kyF ks i) (.ofNat 0) []) := reqF_lr (.inr (.inl rfl)) (.inl rfl) (Int.natCast_nonneg _) (by show ((100 + i : Nat) : Int) ≤ _; omega) (by decide) (by decide) (by omega) (by decide)
      repeat (first | ((first | apply Xk.sAny | apply Xk.tAny); (case hok => rfl); (case h => intro C hC; simp (disch := omega) only [w1, ↓reduceIte, Nat.reduceEqDiff, Nat.reduceLeDiff, Nat.reduceAdd, Nat.reduceSub]; with_reducible exact hC); refine gc ?_) | refine gm ?_)
      refine tReq_ev 10 T6 H7 p L7 (by omega) (reqF 2 (.ofNat (100 + i)) 1 (kyF ks i) (.ofNat 0) []) hf (by show Int.ofNat 2 < Int.ofNat 6; decide) (by show Int.ofNat 2 ≠ Int.ofNat 5; decide) (getR M (reqF 2 (.ofNat (100 + i)) 1 (kyF ks i) (.ofNat 0) [])) hMo (fun s S => getIs S (by omega) hf rfl) _ (fun d pre post e _ h2 => ?_) (fun _ T8 H8 s8 L8 => ?_)
      · have h3 := hrid d (by rw [e]; exact List.mem_append_right _ (List.mem_cons_self ..))
        rw [h2] at h3
        exact absurd h3 (Int.lt_irrefl _)
      have st8 := (st.trans (s7.mono (P := OL) fun _ h => h.elim)).trans (s8.mono (P := OL) fun u h => ol7 h)
      have r78 := (r7.step s7 (fun h => h)).step s8 n70
      have a78 := (a7.step s7 (fun h => h)).step s8 n70
      have am8 := (am.step s7 (fun h => h)).step s8 n70
      have hrid8 : ∀ a : Fr, ∀ d ∈ done ++ [(⟨.ofNat (100 + i), a⟩ : Dd)], d.rid < ((100 + (i + 1) : Nat) : Int) := fun a d hd => by
        rcases List.mem_append.1 hd with hd | hd
        · have := hrid d hd
          omega
        · rw [List.mem_singleton] at hd
          subst hd
          show ((100 + i : Nat) : Int) < _
          omega
      have hadd : bin .add (.str [118]) (.str (kyF ks i)) = some (.str (118 :: kyF ks i)) := add_str [118] (kyF ks i) (by simp; omega)
      by_cases hz : V (kyF ks i) = 0
      · have h00 : (0 < 0) = False := eq_false (Nat.lt_irrefl 0)
        rw [hM.get] at L8
        rw [hM.get]
        rw [if_pos hz] at L8
        rw [if_pos hz, hz]
        show Xk lib _ _ (kput _ _ (.tup [.agg [.int .i64 (.ofNat 6), .int .i64 (.ofNat 1), .int .i64 (.ofNat 3), .int .i64 (.ofNat (100 + i)), .int .i64 (.ofNat 0), .int .i64 (.ofNat 1), .str (kyF ks i), .int .i64 (.ofNat 0), .str []], .bool true])) H8 _
        obtain ⟨T9, s9, a9⟩ := new1 (T := T8) s8.ok (0, 7, 0) (.cells [.int .i64 (.ofNat 6), .int .i64 (.ofNat 1), .int .i64 (.ofNat 3), .int .i64 (.ofNat (100 + i)), .int .i64 (.ofNat 0), .int .i64 (.ofNat 1), .str (kyF ks i), .int .i64 (.ofNat 0), .str []] 1)
        have r79 := r78.step s9 (fun h => h)
        have a79 := a78.step s9 (fun h => h)
        have am9 := am8.step s9 (fun h => h)
        have L9 := L8.step s9 (fun _ _ h => h)
        have t9 := st8.trans (s9.mono (P := OL) fun _ h => h.elim)
        repeat (first | ((first | apply Xk.sAny | apply Xk.tAny); (case hok => rfl); (case h => intro C hC; simp (disch := omega) only [w1, ↓reduceIte, Nat.reduceEqDiff, Nat.reduceLeDiff, Nat.reduceAdd, Nat.reduceSub]; with_reducible exact hC); refine gc ?_) | refine gm ?_)
        generalize H8.new (.cells [.int .i64 (.ofNat 6), .int .i64 (.ofNat 1), .int .i64 (.ofNat 3), .int .i64 (.ofNat (100 + i)), .int .i64 (.ofNat 0), .int .i64 (.ofNat 1), .str (kyF ks i), .int .i64 (.ofNat 0), .str []] 1) = H9 at r79 a79 am9 L9 t9 a9 s9 ⊢
        generalize H8.next = p9 at a9 ⊢
        have g99 := a9.1
        have g79 := a79.1
        have hlk := vm_look am9.1 hV (kyF ks i)
        rw [hz] at hlk
        repeat (first | ((first | apply Xk.sAny | apply Xk.tAny); (case hok => rfl); (case h => intro C hC; simp (disch := omega) only [w1, ↓reduceIte, Nat.reduceEqDiff, Nat.reduceLeDiff, Nat.reduceAdd, Nat.reduceSub, g99, g79, c1, b6, d6, hlk, eq_self, hadd, h00]; with_reducible exact hC); refine gc ?_) | refine gm ?_)
        repeat (first | ((first | apply Xk.sAny | apply Xk.tAny); (case hok => rfl); (case h => intro C hC; simp (disch := omega) only [w1, ↓reduceIte, Nat.reduceEqDiff, Nat.reduceLeDiff, Nat.reduceAdd, Nat.reduceSub, g99, g79, c1, b6, d6, hlk, eq_self, hadd, h00]; with_reducible exact hC); refine gc ?_) | refine gm ?_)
        repeat (first | ((first | apply Xk.sAny | apply Xk.tAny); (case hok => rfl); (case h => intro C hC; simp (disch := omega) only [w1, ↓reduceIte, Nat.reduceEqDiff, Nat.reduceLeDiff, Nat.reduceAdd, Nat.reduceSub, g99, g79, c1, b6, d6, hlk, eq_self, hadd, h00]; with_reducible exact hC); refine gc ?_) | refine gm ?_)
        exact ⟨rfl, _, by omega, i + 1, T9, _, c + 1, rfl, by omega, rfl, r79, am9, hrid8 _, by rw [List.length_append, List.length_singleton]; omega, by omega, L9, t9⟩
      · have hpos : 0 < V (kyF ks i) := by omega
        rw [hM.get] at L8
        rw [hM.get]
        rw [if_neg hz] at L8
        rw [if_neg hz]
        show Xk lib _ _ (kput _ _ (.tup [.agg [.int .i64 (.ofNat 6), .int .i64 (.ofNat 1), .int .i64 (.ofNat 3), .int .i64 (.ofNat (100 + i)), .int .i64 (.ofNat 0), .int .i64 (.ofNat 1), .str (kyF ks i), .int .i64 (.ofNat (V (kyF ks i))), .str (118 :: kyF ks i)], .bool true])) H8 _
        obtain ⟨T9, s9, a9⟩ := new1 (T := T8) s8.ok (0, 7, 0) (.cells [.int .i64 (.ofNat 6), .int .i64 (.ofNat 1), .int .i64 (.ofNat 3), .int .i64 (.ofNat (100 + i)), .int .i64 (.ofNat 0), .int .i64 (.ofNat 1), .str (kyF ks i), .int .i64 (.ofNat (V (kyF ks i))), .str (118 :: kyF ks i)] 1)
        have r79 := r78.step s9 (fun h => h)
        have a79 := a78.step s9 (fun h => h)
        have am9 := am8.step s9 (fun h => h)
        have L9 := L8.step s9 (fun _ _ h => h)
        have t9 := st8.trans (s9.mono (P := OL) fun _ h => h.elim)
        repeat (first | ((first | apply Xk.sAny | apply Xk.tAny); (case hok => rfl); (case h => intro C hC; simp (disch := omega) only [w1, ↓reduceIte, Nat.reduceEqDiff, Nat.reduceLeDiff, Nat.reduceAdd, Nat.reduceSub]; with_reducible exact hC); refine gc ?_) | refine gm ?_)
        generalize H8.new (.cells [.int .i64 (.ofNat 6), .int .i64 (.ofNat 1), .int .i64 (.ofNat 3), .int .i64 (.ofNat (100 + i)), .int .i64 (.ofNat 0), .int .i64 (.ofNat 1), .str (kyF ks i), .int .i64 (.ofNat (V (kyF ks i))), .str (118 :: kyF ks i)] 1) = H9 at r79 a79 am9 L9 t9 a9 s9 ⊢
        generalize H8.next = p9 at a9 ⊢
        have g99 := a9.1
        have g79 := a79.1
        have hlk := vm_look am9.1 hV (kyF ks i)
        repeat (first | ((first | apply Xk.sAny | apply Xk.tAny); (case hok => rfl); (case h => intro C hC; simp (disch := omega) only [w1, ↓reduceIte, Nat.reduceEqDiff, Nat.reduceLeDiff, Nat.reduceAdd, Nat.reduceSub, g99, g79, c1, b6, d6, hlk, eq_self, hadd, hpos]; with_reducible exact hC); refine gc ?_) | refine gm ?_)
        repeat (first | ((first | apply Xk.sAny | apply Xk.tAny); (case hok => rfl); (case h => intro C hC; simp (disch := omega) only [w1, ↓reduceIte, Nat.reduceEqDiff, Nat.reduceLeDiff, Nat.reduceAdd, Nat.reduceSub, g99, g79, c1, b6, d6, hlk, eq_self, hadd, hpos]; with_reducible exact hC); refine gc ?_) | refine gm ?_)
        repeat (first | ((first | apply Xk.sAny | apply Xk.tAny); (case hok => rfl); (case h => intro C hC; simp (disch := omega) only [w1, ↓reduceIte, Nat.reduceEqDiff, Nat.reduceLeDiff, Nat.reduceAdd, Nat.reduceSub, g99, g79, c1, b6, d6, hlk, eq_self, hadd, hpos]; with_reducible exact hC); refine gc ?_) | refine gm ?_)
        exact ⟨rfl, _, by omega, i + 1, T9, _, c + 1, rfl, by omega, rfl, r79, am9, hrid8 _, by rw [List.length_append, List.length_singleton]; omega, by omega, L9, t9⟩
end Go.Proofs.Ytihoblfmhighpaa
