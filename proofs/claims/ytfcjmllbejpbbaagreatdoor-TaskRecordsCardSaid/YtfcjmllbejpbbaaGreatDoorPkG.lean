/- Layer 21: a record as a text, the program's and the reference's. Conditions: none. -/
import Derived.Test.YtfcjmllbejpbbaaGreatDoorPkF
namespace Go.Proofs.YtfcjmllbejpbbaaGreatDoor
open Go.Dp
set_option linter.unusedSimpArgs false
set_option linter.unusedVariables false
set_option maxHeartbeats 400000
set_option maxRecDepth 8000
attribute [local irreducible] Ex.thnK Ex.inK Ret

theorem within_ev (H : Heap) (n lo hi : Int) (Q : AV → Heap → Prop) (hy : lo ≤ n ∧ n ≤ hi → Q (.bool true) H) (hn : ¬ (lo ≤ n ∧ n ≤ hi) → Q (.bool false) H) : Eo lib n_task_within [.int .i64 n, .int .i64 lo, .int .i64 hi] H Q := by
  refine Eo.code at_task_within rfl ?_
  by_cases a : lo ≤ n
  · by_cases b : n ≤ hi
    · have a' := eq_true a
      have b' := eq_true b
      repeat (first | ((first | apply Xk.sAny | apply Xk.tAny); (case hok => rfl); (case h => intro C hC; simp (disch := omega) only [w1, ↓reduceIte, Nat.reduceEqDiff, Nat.reduceLeDiff, Nat.reduceAdd, Nat.reduceSub, a', b']; with_reducible exact hC); refine gc ?_) | refine gm ?_)
      repeat (first | ((first | apply Xk.sAny | apply Xk.tAny); (case hok => rfl); (case h => intro C hC; simp (disch := omega) only [w1, ↓reduceIte, Nat.reduceEqDiff, Nat.reduceLeDiff, Nat.reduceAdd, Nat.reduceSub, a', b']; with_reducible exact hC); refine gc ?_) | refine gm ?_)
      exact hy ⟨a, b⟩
    · have a' := eq_true a
      have b' := eq_false b
      repeat (first | ((first | apply Xk.sAny | apply Xk.tAny); (case hok => rfl); (case h => intro C hC; simp (disch := omega) only [w1, ↓reduceIte, Nat.reduceEqDiff, Nat.reduceLeDiff, Nat.reduceAdd, Nat.reduceSub, a', b']; with_reducible exact hC); refine gc ?_) | refine gm ?_)
      repeat (first | ((first | apply Xk.sAny | apply Xk.tAny); (case hok => rfl); (case h => intro C hC; simp (disch := omega) only [w1, ↓reduceIte, Nat.reduceEqDiff, Nat.reduceLeDiff, Nat.reduceAdd, Nat.reduceSub, a', b']; with_reducible exact hC); refine gc ?_) | refine gm ?_)
      exact hn fun h => b h.2
  · have a' := eq_false a
    repeat (first | ((first | apply Xk.sAny | apply Xk.tAny); (case hok => rfl); (case h => intro C hC; simp (disch := omega) only [w1, ↓reduceIte, Nat.reduceEqDiff, Nat.reduceLeDiff, Nat.reduceAdd, Nat.reduceSub, a']; with_reducible exact hC); refine gc ?_) | refine gm ?_)
    repeat (first | ((first | apply Xk.sAny | apply Xk.tAny); (case hok => rfl); (case h => intro C hC; simp (disch := omega) only [w1, ↓reduceIte, Nat.reduceEqDiff, Nat.reduceLeDiff, Nat.reduceAdd, Nat.reduceSub, a']; with_reducible exact hC); refine gc ?_) | refine gm ?_)
    exact hn fun h => a h.1

theorem put5_take (l : List Int) {i : Nat} (h : i < l.length) : put5 (l.take (i + 1)) = put5 (l.take i) ++ vi (zig (l.getD i 0)) := by
  unfold put5
  rw [List.take_add_one, List.getD_eq_getElem?_getD, List.getElem?_eq_getElem h, List.flatMap_append]
  show _ ++ (vi (zig l[i]) ++ []) = _
  rw [List.append_nil]
  rfl
theorem put5_len : ∀ (l : List Int), (∀ x ∈ l, -9223372036854775808 ≤ x ∧ x ≤ 9223372036854775807) → (put5 l).length ≤ 10 * l.length
  | [], _ => Nat.le_refl _
  | x :: l, h => by
      have a := put5_len l fun y hy => h y (List.mem_cons_of_mem _ hy)
      have b := vi_len10 (zig_lt (h x (List.mem_cons_self ..)).1 (h x (List.mem_cons_self ..)).2)
      have e : put5 (x :: l) = vi (zig x) ++ put5 l := by simp [put5]
      rw [e, List.length_append, List.length_cons]
      omega
theorem pk_cell (st : List Int) {i : Nat} (h : i < st.length) : ((st.map (AV.int .i64)).drop i).take 1 = [.int .i64 (st.getD i 0)] := by
  rw [← List.map_drop, List.drop_eq_getElem_cons h, List.getD_eq_getElem?_getD, List.getElem?_eq_getElem h]
  rfl
theorem pk_mem (st : List Int) {i : Nat} (h : i < st.length) : st.getD i 0 ∈ st := by
  rw [List.getD_eq_getElem?_getD, List.getElem?_eq_getElem h]
  exact List.getElem_mem h
def RecOk (a : List Int) : Prop := a.length = 5 ∧ ∀ x ∈ a, -9223372036854775808 ≤ x ∧ x ≤ 9223372036854775807
theorem RecOk.mk5 {a : List Int} (h : RecOk a) : ∃ x0 x1 x2 x3 x4, a = [x0, x1, x2, x3, x4] := by
  match a, h.1 with
  | [x0, x1, x2, x3, x4], _ => exact ⟨x0, x1, x2, x3, x4, rfl⟩

theorem PutRecord_ev (ω : Nat) (T : Tags) (H : Heap) (a : List Int) (ha : RecOk a) (Q : AV → Heap → Prop)
    (hQ : ∀ T' H', Stp (fun u => u.1 = ω) T H T' H' → Q (.str (put5 a)) H') : Eo lib n_task_PutRecord [.agg (a.map (.int .i64))] H Q := by
  refine Eo.ok fun hOk => ?_
  refine Eo.code at_task_PutRecord rfl ?_
  obtain ⟨x0, x1, x2, x3, x4, rfl⟩ := ha.mk5
  have hbx : nBox ([x0, x1, x2, x3, x4].map (AV.int .i64)) = some (.cells ([x0, x1, x2, x3, x4].map (AV.int .i64)) 1, ptrTo) := rfl
  have hx : ([x0, x1, x2, x3, x4].map (AV.int .i64)) = [.int .i64 x0, .int .i64 x1, .int .i64 x2, .int .i64 x3, .int .i64 x4] := rfl
  rw [hx] at hbx ⊢
  repeat (first | ((first | apply Xk.sAny | apply Xk.tAny); (case hok => rfl); (case h => intro C hC; simp (disch := omega) only [w1, ↓reduceIte, Nat.reduceEqDiff, Nat.reduceLeDiff, Nat.reduceAdd, Nat.reduceSub, hbx]; with_reducible exact hC); refine gc ?_) | refine gm ?_)
  repeat (first | ((first | apply Xk.sAny | apply Xk.tAny); (case hok => rfl); (case h => intro C hC; simp (disch := omega) only [w1, ↓reduceIte, Nat.reduceEqDiff, Nat.reduceLeDiff, Nat.reduceAdd, Nat.reduceSub, hbx]; with_reducible exact hC); refine gc ?_) | refine gm ?_)
  have s1 := Stp.new (O := fun _ => False) (T := T) hOk (ω, 0, 0) (.cells [.int .i64 x0, .int .i64 x1, .int .i64 x2, .int .i64 x3, .int .i64 x4] 1)
  have s2 := Stp.new (O := fun _ => False) (T := T.lay H.next (ω, 0, 0)) s1.ok (ω, 0, 1) (.cells [.int .i64 x0, .int .i64 x1, .int .i64 x2, .int .i64 x3, .int .i64 x4] 1)
  have s3 := s1.trans s2
  have a3 := At.new (T := T.lay H.next (ω, 0, 0)) (H := H.new (.cells [.int .i64 x0, .int .i64 x1, .int .i64 x2, .int .i64 x3, .int .i64 x4] 1)) (ω, 0, 1) (.cells [.int .i64 x0, .int .i64 x1, .int .i64 x2, .int .i64 x3, .int .i64 x4] 1)
  rw [Heap.next_new] at a3 s3
  generalize (T.lay H.next (ω, 0, 0)).lay (H.next + 1) (ω, 0, 1) = T3 at s3 a3
  generalize (H.new (.cells [.int .i64 x0, .int .i64 x1, .int .i64 x2, .int .i64 x3, .int .i64 x4] 1)).new (.cells [.int .i64 x0, .int .i64 x1, .int .i64 x2, .int .i64 x3, .int .i64 x4] 1) = H3 at s3 a3 ⊢
  generalize H.next + 1 = nb at a3 ⊢
  rw [← hx] at a3
  clear s1 s2 hbx
  generalize hl : [x0, x1, x2, x3, x4] = l at *
  have hl5 : l.length = 5 := ha.1
  refine Xk.iter [3, 16, 17, 18] (fun m k H' => ∃ i v T', m = 5 - i ∧ i ≤ 5 ∧ k = [(3, v), (16, .sl nb 0 5 1), (17, .int .i64 (.ofNat 5)), (18, .int .i64 (.ofNat i))] ∧ Stp (fun u => u.1 = ω) T H T' H' ∧ At T' H' (ω, 0, 1) nb (.cells (l.map (.int .i64)) 1) ∧ RT T' H' (ω, 1, 0) 2 1 v (ofBytes (put5 (l.take i)))) rfl
    ⟨_, 0, .nils, T3, rfl, by omega, rfl, s3.mono (fun _ h => h.elim), a3, RT.nil⟩ ?_
  rintro m k H' ⟨i, v, T', rfl, hi, rfl, st, at', hr⟩
  unfold l0_task_PutRecord
  obtain ⟨k1, k2, k3⟩ := rt_len hr
  by_cases c : i < 5
  · have hg := at'.1
    have j1 := pk_cell l (show i < l.length by omega)
    have j2 : i + 1 ≤ (l.map (AV.int .i64)).length := by rw [List.length_map]; omega
    have hbd := ha.2 _ (pk_mem l (show i < l.length by omega))
    have hpl := put5_len (l.take i) (fun x hx => ha.2 x (List.mem_of_mem_take hx))
    rw [List.length_take] at hpl
    have hst := put5_take l (show i < l.length by omega)
    generalize l.getD i 0 = x at j1 hbd hst
    repeat (first | ((first | apply Xk.sAny | apply Xk.tAny); (case hok => rfl); (case h => intro C hC; simp (disch := omega) only [w1, ↓reduceIte, Nat.reduceEqDiff, Nat.reduceLeDiff, Nat.reduceAdd, Nat.reduceSub, c, hg, j1, j2, k2, k3]; with_reducible exact hC); refine gc ?_) | refine gm ?_)
    repeat (first | ((first | apply Xk.sAny | apply Xk.tAny); (case hok => rfl); (case h => intro C hC; simp (disch := omega) only [w1, ↓reduceIte, Nat.reduceEqDiff, Nat.reduceLeDiff, Nat.reduceAdd, Nat.reduceSub, c, hg, j1, j2, k2, k3]; with_reducible exact hC); refine gc ?_) | refine gm ?_)
    repeat (first | ((first | apply Xk.sAny | apply Xk.tAny); (case hok => rfl); (case h => intro C hC; simp (disch := omega) only [w1, ↓reduceIte, Nat.reduceEqDiff, Nat.reduceLeDiff, Nat.reduceAdd, Nat.reduceSub, c, hg, j1, j2, k2, k3]; with_reducible exact hC); refine gc ?_) | refine gm ?_)
    refine Num_ev T' H' (ω, 1, 0) v _ x hr.sl (by omega) hbd.1 hbd.2 _ fun v2 T2 H2 st2 hr2 => ?_
    obtain ⟨q1, q2⟩ := hr2.sc
    repeat (first | ((first | apply Xk.sAny | apply Xk.tAny); (case hok => rfl); (case h => intro C hC; simp (disch := omega) only [w1, ↓reduceIte, Nat.reduceEqDiff, Nat.reduceLeDiff, Nat.reduceAdd, Nat.reduceSub, q1, q2]; with_reducible exact hC); refine gc ?_) | refine gm ?_)
    repeat (first | ((first | apply Xk.sAny | apply Xk.tAny); (case hok => rfl); (case h => intro C hC; simp (disch := omega) only [w1, ↓reduceIte, Nat.reduceEqDiff, Nat.reduceLeDiff, Nat.reduceAdd, Nat.reduceSub, q1, q2]; with_reducible exact hC); refine gc ?_) | refine gm ?_)
    refine ⟨rfl, _, by omega, i + 1, v2, T2, rfl, by omega, rfl, st.trans (st2.mono fun u h => by rw [h]), at'.step st2 (tgn (.inl (by decide))), ?_⟩
    rw [hst]
    exact hr2
  · repeat (first | ((first | apply Xk.sAny | apply Xk.tAny); (case hok => rfl); (case h => intro C hC; simp (disch := omega) only [w1, ↓reduceIte, Nat.reduceEqDiff, Nat.reduceLeDiff, Nat.reduceAdd, Nat.reduceSub, c]; with_reducible exact hC); refine gc ?_) | refine gm ?_)
    repeat (first | ((first | apply Xk.sAny | apply Xk.tAny); (case hok => rfl); (case h => intro C hC; simp (disch := omega) only [w1, ↓reduceIte, Nat.reduceEqDiff, Nat.reduceLeDiff, Nat.reduceAdd, Nat.reduceSub, c]; with_reducible exact hC); refine gc ?_) | refine gm ?_)
    have : i = 5 := by omega
    subst this
    rw [List.take_of_length_le (by omega)] at hr
    have k4 := rt_str hr
    repeat (first | ((first | apply Xk.sAny | apply Xk.tAny); (case hok => rfl); (case h => intro C hC; simp (disch := omega) only [w1, ↓reduceIte, Nat.reduceEqDiff, Nat.reduceLeDiff, Nat.reduceAdd, Nat.reduceSub, k2, k3, k4]; with_reducible exact hC); refine gc ?_) | refine gm ?_)
    repeat (first | ((first | apply Xk.sAny | apply Xk.tAny); (case hok => rfl); (case h => intro C hC; simp (disch := omega) only [w1, ↓reduceIte, Nat.reduceEqDiff, Nat.reduceLeDiff, Nat.reduceAdd, Nat.reduceSub, k2, k3, k4]; with_reducible exact hC); refine gc ?_) | refine gm ?_)
    exact hQ _ _ st

theorem gPutRecord_ev (ω : Nat) (T : Tags) (H : Heap) (a : List Int) (ha : RecOk a) (Q : AV → Heap → Prop)
    (hQ : ∀ T' H', Stp (fun u => u.1 = ω) T H T' H' → Q (.str (put5 a)) H') : Eo lib n_depotref21_PutRecord [.agg (a.map (.int .i64))] H Q := by
  refine Eo.ok fun hOk => ?_
  refine Eo.code at_depotref21_PutRecord rfl ?_
  obtain ⟨x0, x1, x2, x3, x4, rfl⟩ := ha.mk5
  have hbx : nBox ([x0, x1, x2, x3, x4].map (AV.int .i64)) = some (.cells ([x0, x1, x2, x3, x4].map (AV.int .i64)) 1, ptrTo) := rfl
  have hx : ([x0, x1, x2, x3, x4].map (AV.int .i64)) = [.int .i64 x0, .int .i64 x1, .int .i64 x2, .int .i64 x3, .int .i64 x4] := rfl
  rw [hx] at hbx ⊢
  repeat (first | ((first | apply Xk.sAny | apply Xk.tAny); (case hok => rfl); (case h => intro C hC; simp (disch := omega) only [w1, ↓reduceIte, Nat.reduceEqDiff, Nat.reduceLeDiff, Nat.reduceAdd, Nat.reduceSub, hbx]; with_reducible exact hC); refine gc ?_) | refine gm ?_)
  repeat (first | ((first | apply Xk.sAny | apply Xk.tAny); (case hok => rfl); (case h => intro C hC; simp (disch := omega) only [w1, ↓reduceIte, Nat.reduceEqDiff, Nat.reduceLeDiff, Nat.reduceAdd, Nat.reduceSub, hbx]; with_reducible exact hC); refine gc ?_) | refine gm ?_)
  have s1 := Stp.new (O := fun _ => False) (T := T) hOk (ω, 0, 0) (.cells [.int .i64 x0, .int .i64 x1, .int .i64 x2, .int .i64 x3, .int .i64 x4] 1)
  have s2 := Stp.new (O := fun _ => False) (T := T.lay H.next (ω, 0, 0)) s1.ok (ω, 0, 1) (.cells [.int .i64 x0, .int .i64 x1, .int .i64 x2, .int .i64 x3, .int .i64 x4] 1)
  have s3 := s1.trans s2
  have a3 := At.new (T := T.lay H.next (ω, 0, 0)) (H := H.new (.cells [.int .i64 x0, .int .i64 x1, .int .i64 x2, .int .i64 x3, .int .i64 x4] 1)) (ω, 0, 1) (.cells [.int .i64 x0, .int .i64 x1, .int .i64 x2, .int .i64 x3, .int .i64 x4] 1)
  rw [Heap.next_new] at a3 s3
  generalize (T.lay H.next (ω, 0, 0)).lay (H.next + 1) (ω, 0, 1) = T3 at s3 a3
  generalize (H.new (.cells [.int .i64 x0, .int .i64 x1, .int .i64 x2, .int .i64 x3, .int .i64 x4] 1)).new (.cells [.int .i64 x0, .int .i64 x1, .int .i64 x2, .int .i64 x3, .int .i64 x4] 1) = H3 at s3 a3 ⊢
  generalize H.next + 1 = nb at a3 ⊢
  rw [← hx] at a3
  clear s1 s2 hbx
  generalize hl : [x0, x1, x2, x3, x4] = l at *
  have hl5 : l.length = 5 := ha.1
  refine Xk.iter [3, 16, 17, 18] (fun m k H' => ∃ i v T', m = 5 - i ∧ i ≤ 5 ∧ k = [(3, v), (16, .sl nb 0 5 1), (17, .int .i64 (.ofNat 5)), (18, .int .i64 (.ofNat i))] ∧ Stp (fun u => u.1 = ω) T H T' H' ∧ At T' H' (ω, 0, 1) nb (.cells (l.map (.int .i64)) 1) ∧ RT T' H' (ω, 1, 0) 2 1 v (ofBytes (put5 (l.take i)))) rfl
    ⟨_, 0, .nils, T3, rfl, by omega, rfl, s3.mono (fun _ h => h.elim), a3, RT.nil⟩ ?_
  rintro m k H' ⟨i, v, T', rfl, hi, rfl, st, at', hr⟩
  unfold l0_depotref21_PutRecord
  obtain ⟨k1, k2, k3⟩ := rt_len hr
  by_cases c : i < 5
  · have hg := at'.1
    have j1 := pk_cell l (show i < l.length by omega)
    have j2 : i + 1 ≤ (l.map (AV.int .i64)).length := by rw [List.length_map]; omega
    have hbd := ha.2 _ (pk_mem l (show i < l.length by omega))
    have hpl := put5_len (l.take i) (fun x hx => ha.2 x (List.mem_of_mem_take hx))
    rw [List.length_take] at hpl
    have hst := put5_take l (show i < l.length by omega)
    generalize l.getD i 0 = x at j1 hbd hst
    repeat (first | ((first | apply Xk.sAny | apply Xk.tAny); (case hok => rfl); (case h => intro C hC; simp (disch := omega) only [w1, ↓reduceIte, Nat.reduceEqDiff, Nat.reduceLeDiff, Nat.reduceAdd, Nat.reduceSub, c, hg, j1, j2, k2, k3]; with_reducible exact hC); refine gc ?_) | refine gm ?_)
    repeat (first | ((first | apply Xk.sAny | apply Xk.tAny); (case hok => rfl); (case h => intro C hC; simp (disch := omega) only [w1, ↓reduceIte, Nat.reduceEqDiff, Nat.reduceLeDiff, Nat.reduceAdd, Nat.reduceSub, c, hg, j1, j2, k2, k3]; with_reducible exact hC); refine gc ?_) | refine gm ?_)
    repeat (first | ((first | apply Xk.sAny | apply Xk.tAny); (case hok => rfl); (case h => intro C hC; simp (disch := omega) only [w1, ↓reduceIte, Nat.reduceEqDiff, Nat.reduceLeDiff, Nat.reduceAdd, Nat.reduceSub, c, hg, j1, j2, k2, k3]; with_reducible exact hC); refine gc ?_) | refine gm ?_)
    refine gNum_ev T' H' (ω, 1, 0) v _ x hr.sl (by omega) hbd.1 hbd.2 _ fun v2 T2 H2 st2 hr2 => ?_
    obtain ⟨q1, q2⟩ := hr2.sc
    repeat (first | ((first | apply Xk.sAny | apply Xk.tAny); (case hok => rfl); (case h => intro C hC; simp (disch := omega) only [w1, ↓reduceIte, Nat.reduceEqDiff, Nat.reduceLeDiff, Nat.reduceAdd, Nat.reduceSub, q1, q2]; with_reducible exact hC); refine gc ?_) | refine gm ?_)
    repeat (first | ((first | apply Xk.sAny | apply Xk.tAny); (case hok => rfl); (case h => intro C hC; simp (disch := omega) only [w1, ↓reduceIte, Nat.reduceEqDiff, Nat.reduceLeDiff, Nat.reduceAdd, Nat.reduceSub, q1, q2]; with_reducible exact hC); refine gc ?_) | refine gm ?_)
    refine ⟨rfl, _, by omega, i + 1, v2, T2, rfl, by omega, rfl, st.trans (st2.mono fun u h => by rw [h]), at'.step st2 (tgn (.inl (by decide))), ?_⟩
    rw [hst]
    exact hr2
  · repeat (first | ((first | apply Xk.sAny | apply Xk.tAny); (case hok => rfl); (case h => intro C hC; simp (disch := omega) only [w1, ↓reduceIte, Nat.reduceEqDiff, Nat.reduceLeDiff, Nat.reduceAdd, Nat.reduceSub, c]; with_reducible exact hC); refine gc ?_) | refine gm ?_)
    repeat (first | ((first | apply Xk.sAny | apply Xk.tAny); (case hok => rfl); (case h => intro C hC; simp (disch := omega) only [w1, ↓reduceIte, Nat.reduceEqDiff, Nat.reduceLeDiff, Nat.reduceAdd, Nat.reduceSub, c]; with_reducible exact hC); refine gc ?_) | refine gm ?_)
    have : i = 5 := by omega
    subst this
    rw [List.take_of_length_le (by omega)] at hr
    have k4 := rt_str hr
    repeat (first | ((first | apply Xk.sAny | apply Xk.tAny); (case hok => rfl); (case h => intro C hC; simp (disch := omega) only [w1, ↓reduceIte, Nat.reduceEqDiff, Nat.reduceLeDiff, Nat.reduceAdd, Nat.reduceSub, k2, k3, k4]; with_reducible exact hC); refine gc ?_) | refine gm ?_)
    repeat (first | ((first | apply Xk.sAny | apply Xk.tAny); (case hok => rfl); (case h => intro C hC; simp (disch := omega) only [w1, ↓reduceIte, Nat.reduceEqDiff, Nat.reduceLeDiff, Nat.reduceAdd, Nat.reduceSub, k2, k3, k4]; with_reducible exact hC); refine gc ?_) | refine gm ?_)
    exact hQ _ _ st
end Go.Proofs.YtfcjmllbejpbbaaGreatDoor
