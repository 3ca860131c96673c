/- The cluster: steps that don't apply. Conditions: none. -/
import Derived.Test.YtobnlhfgebfebaaGreatDoorLibI
import Derived.Test.YtobnlhfgebfebaaGreatDoorQsJ
namespace Go.Proofs.YtobnlhfgebfebaaGreatDoor
open Go.Dp
set_option linter.unusedSimpArgs false
set_option linter.unusedVariables false
set_option maxHeartbeats 400000
set_option maxRecDepth 8000
attribute [local irreducible] Ex.thnK Ex.inK Ret

theorem cell1' {l : List AV} {o : Nat} {v : AV} (h : l[o]? = some v) : o + 1 ≤ l.length ∧ (l.drop o).take 1 = [v] := by
  obtain ⟨h1, rfl⟩ := List.getElem?_eq_some_iff.1 h
  refine ⟨h1, ?_⟩
  rw [List.drop_eq_getElem_cons h1, List.take_succ_cons, List.take_zero]

/-- what a cluster's object holds that such steps look at -/
structure CAt (H : Heap) (p np fb S : Nat) : Prop where
  obj : ∃ l w, H.get p = some (.cells l w) ∧ l[8]? = some (.ptr np 0) ∧ l[27]? = some .nils
  net : ∃ w, H.get np = some (.cells [.sl fb 0 S 9] w)
theorem CAt.le {H H' : Heap} {p np fb S : Nat} (h : CAt H p np fb S) (hle : HLe H H') : CAt H' p np fb S := by
  obtain ⟨⟨l, w, h1, h2, h3⟩, w', h4⟩ := h
  exact ⟨⟨l, w, hle _ _ h1, h2, h3⟩, w', hle _ _ h4⟩

def zFr : List AV := [.int .i64 (.ofNat 0), .int .i64 (.ofNat 0), .int .i64 (.ofNat 0), .int .i64 (.ofNat 0), .int .i64 (.ofNat 0), .int .i64 (.ofNat 0), .str [], .int .i64 (.ofNat 0), .str []]

theorem Copy_no (p np fb S n : Nat) (hn : S ≤ n) (H : Heap) (h : CAt H p np fb S) (Q : AV → Heap → Prop) (hQ : ∀ H', H'.Ok → HLe H H' → Q (.tup [.agg zFr, .bool false]) H') : Eo lib n_net_Net_Copy [.ptr np 0, .int .i64 (.ofNat n)] H Q := by
  refine Eo.ok fun hOk => ?_
  refine Eo.code at_net_Net_Copy rfl ?_
  obtain ⟨w, g⟩ := h.net
  have gl := hOk.lt g
  have c : ¬ n < S := by omega
  unfold zFr at hQ
  have ne : np ≠ H.next := by omega
  repeat (first | ((first | apply Xk.sAny | apply Xk.tAny); (case hok => rfl); (case h => intro C hC; simp (disch := omega) only [w1, ↓reduceIte, Nat.reduceEqDiff, Nat.reduceLeDiff, Nat.reduceAdd, Nat.reduceSub, g, ne, c, hn, Nat.not_lt_zero]; with_reducible exact hC); refine gc ?_) | refine gm ?_)
  refine Ret.ret rfl (by simp only [resKs, resK, cond_true, w1, ↓reduceIte, Nat.reduceEqDiff, Nat.reduceLeDiff, Nat.reduceAdd, Nat.reduceSub, pf_net_Net_Copy]; rfl) rfl ?_
  exact hQ _ (hOk.new _) (HLe.new (hOk _ (Nat.le_refl _)) _)

theorem frame_no (p np fb S n : Nat) (hn : S ≤ n) (kind : Int) (t : List UInt8) (H : Heap) (h : CAt H p np fb S) (Q : AV → Heap → Prop) (hQ : ∀ H', H'.Ok → HLe H H' → Q (.bool false) H') :
    Eo lib n_cluster_Cluster_frame [.ptr p 0, .agg [.int .i64 kind, .int .i64 (.ofNat n), .str t]] H Q := by
  refine Eo.ok fun hOk => ?_
  refine Eo.code at_cluster_Cluster_frame rfl ?_
  obtain ⟨l, w, g1, g2, _⟩ := h.obj
  obtain ⟨a1, a2⟩ := cell1' g2
  have gl := hOk.lt g1
  have ne : p ≠ H.next := by omega
  have hO1 := hOk.new (.cells [.int .i64 kind, .int .i64 (.ofNat n), .str t] 1)
  have hle1 := HLe.new (hOk _ (Nat.le_refl _)) (.cells [.int .i64 kind, .int .i64 (.ofNat n), .str t] 1)
  have hO2 := hO1.new (.cells zFr 1)
  have hle2 := hle1.trans (HLe.new (hO1 _ (Nat.le_refl _)) (.cells zFr 1))
  have g3 := hle1 _ _ g1
  have hbx := Heap.get_new_self H (.cells [.int .i64 kind, .int .i64 (.ofNat n), .str t] 1)
  unfold zFr at hO2 hle2
  have hb : nBox [.int .i64 kind, .int .i64 (.ofNat n), .str t] = some (.cells [.int .i64 kind, .int .i64 (.ofNat n), .str t] 1, ptrTo) := rfl
  repeat (first | ((first | apply Xk.sAny | apply Xk.tAny); (case hok => rfl); (case h => intro C hC; simp (disch := omega) only [w1, ↓reduceIte, Nat.reduceEqDiff, Nat.reduceLeDiff, Nat.reduceAdd, Nat.reduceSub, hb, g1, ne, a1, a2]; with_reducible exact hC); refine gc ?_) | refine gm ?_)
  refine Copy_no p np fb S n hn _ (h.le hle2) _ fun H3 hO3 hle3 => ?_
  have hz : H3.get (H.next + 1) = some (.cells zFr 1) := hle3 _ _ (Heap.get_new_self _ _)
  unfold zFr at hz
  unfold zFr
  repeat (first | ((first | apply Xk.sAny | apply Xk.tAny); (case hok => rfl); (case h => intro C hC; simp (disch := omega) only [w1, ↓reduceIte, Nat.reduceEqDiff, Nat.reduceLeDiff, Nat.reduceAdd, Nat.reduceSub, hz]; with_reducible exact hC); refine gc ?_) | refine gm ?_)
  exact hQ _ (hO3.put hz _) (HLe.put_ (hle2.trans hle3) (hOk _ (by omega)) _)

theorem send_no (p n : Nat) (hn : 6 ≤ n) (kind : Int) (t : List UInt8) (H : Heap) (Q : AV → Heap → Prop) (hQ : ∀ H', H'.Ok → HLe H H' → Q (.bool false) H') :
    Eo lib n_cluster_Cluster_send [.ptr p 0, .agg [.int .i64 kind, .int .i64 (.ofNat n), .str t]] H Q := by
  refine Eo.ok fun hOk => ?_
  refine Eo.code at_cluster_Cluster_send rfl ?_
  have hb : nBox [.int .i64 kind, .int .i64 (.ofNat n), .str t] = some (.cells [.int .i64 kind, .int .i64 (.ofNat n), .str t] 1, ptrTo) := rfl
  repeat (first | ((first | apply Xk.sAny | apply Xk.tAny); (case hok => rfl); (case h => intro C hC; simp (disch := omega) only [w1, ↓reduceIte, Nat.reduceEqDiff, Nat.reduceLeDiff, Nat.reduceAdd, Nat.reduceSub, hb, hn, Nat.not_lt_zero]; with_reducible exact hC); refine gc ?_) | refine gm ?_)
  exact hQ _ (hOk.new _) (HLe.new (hOk _ (Nat.le_refl _)) _)

/-- a step that doesn't apply -/
def Ign (S : Nat) (kind N : Int) : Prop := (kind = .ofNat 1 ∧ ∃ n : Nat, N = .ofNat n ∧ 6 ≤ n) ∨ ((kind = .ofNat 2 ∨ kind = .ofNat 3 ∨ kind = .ofNat 4) ∧ ∃ n : Nat, N = .ofNat n ∧ S ≤ n) ∨ (kind = .ofNat 6 ∧ ∃ n, N = .negSucc n) ∨ (kind ≠ .ofNat 1 ∧ kind ≠ .ofNat 2 ∧ kind ≠ .ofNat 3 ∧ kind ≠ .ofNat 4 ∧ kind ≠ .ofNat 5 ∧ kind ≠ .ofNat 6)

theorem eqi_no (k : IntKind) (a b : Int) (h : a ≠ b) : bin .eql (.int k a) (.int k b) = some (.bool false) := by
  show binII .eql k a k b = _
  simp only [binII, kbeq_eq, decide_true, cond_true, binInt, ibeq_eq]
  rw [show (a == b) = false by rw [beq_eq_false_iff_ne]; exact h]

theorem Do_no (p np fb S : Nat) (kind N : Int) (t : List UInt8) (hi : Ign S kind N) (H : Heap) (h : CAt H p np fb S) (Q : AV → Heap → Prop) (hQ : ∀ H', H'.Ok → HLe H H' → Q (.bool false) H') :
    Eo lib n_cluster_Cluster_Do [.ptr p 0, .agg [.int .i64 kind, .int .i64 N, .str t]] H Q := by
  refine Eo.ok fun hOk => ?_
  refine Eo.code at_cluster_Cluster_Do rfl ?_
  have hle1 := HLe.new (hOk _ (Nat.le_refl _)) (.cells [.int .i64 kind, .int .i64 N, .str t] 1)
  have hO1 := hOk.new (.cells [.int .i64 kind, .int .i64 N, .str t] 1)
  have hb : nBox [.int .i64 kind, .int .i64 N, .str t] = some (.cells [.int .i64 kind, .int .i64 N, .str t] 1, ptrTo) := rfl
  rcases hi with ⟨rfl, n, rfl, hn⟩ | ⟨hk, n, rfl, hn⟩ | ⟨rfl, n, rfl⟩ | ⟨k1, k2, k3, k4, k5, k6⟩
  · repeat (first | ((first | apply Xk.sAny | apply Xk.tAny); (case hok => rfl); (case h => intro C hC; simp (disch := omega) only [w1, ↓reduceIte, Nat.reduceEqDiff, Nat.reduceLeDiff, Nat.reduceAdd, Nat.reduceSub, hb]; with_reducible exact hC); refine gc ?_) | refine gm ?_)
    refine send_no p n hn _ t _ _ fun H2 hO2 hle2 => ?_
    repeat (first | ((first | apply Xk.sAny | apply Xk.tAny); (case hok => rfl); (case h => intro C hC; simp (disch := omega) only [w1, ↓reduceIte, Nat.reduceEqDiff, Nat.reduceLeDiff, Nat.reduceAdd, Nat.reduceSub, hb]; with_reducible exact hC); refine gc ?_) | refine gm ?_)
    exact hQ _ hO2 (hle1.trans hle2)
  · rcases hk with rfl | rfl | rfl
    all_goals
      repeat (first | ((first | apply Xk.sAny | apply Xk.tAny); (case hok => rfl); (case h => intro C hC; simp (disch := omega) only [w1, ↓reduceIte, Nat.reduceEqDiff, Nat.reduceLeDiff, Nat.reduceAdd, Nat.reduceSub, hb]; with_reducible exact hC); refine gc ?_) | refine gm ?_)
      refine frame_no p np fb S n hn _ t _ (h.le hle1) _ fun H2 hO2 hle2 => ?_
      repeat (first | ((first | apply Xk.sAny | apply Xk.tAny); (case hok => rfl); (case h => intro C hC; simp (disch := omega) only [w1, ↓reduceIte, Nat.reduceEqDiff, Nat.reduceLeDiff, Nat.reduceAdd, Nat.reduceSub, hb]; with_reducible exact hC); refine gc ?_) | refine gm ?_)
      exact hQ _ hO2 (hle1.trans hle2)
  · have hlt : ¬ Int.ofNat 0 ≤ Int.negSucc n := by show ¬ (0 : Int) ≤ Int.negSucc n; omega
    repeat (first | ((first | apply Xk.sAny | apply Xk.tAny); (case hok => rfl); (case h => intro C hC; simp (disch := omega) only [w1, ↓reduceIte, Nat.reduceEqDiff, Nat.reduceLeDiff, Nat.reduceAdd, Nat.reduceSub, hb, hlt]; with_reducible exact hC); refine gc ?_) | refine gm ?_)
    exact hQ _ hO1 hle1
  · have e1 := eqi_no .i64 kind _ k1
    have e2 := eqi_no .i64 kind _ k2
    have e3 := eqi_no .i64 kind _ k3
    have e4 := eqi_no .i64 kind _ k4
    have e5 := eqi_no .i64 kind _ k5
    have e6 := eqi_no .i64 kind _ k6
    repeat (first | ((first | apply Xk.sAny | apply Xk.tAny); (case hok => rfl); (case h => intro C hC; simp (disch := omega) only [w1, ↓reduceIte, Nat.reduceEqDiff, Nat.reduceLeDiff, Nat.reduceAdd, Nat.reduceSub, hb, e1, e2, e3, e4, e5, e6]; with_reducible exact hC); refine gc ?_) | refine gm ?_)
    exact hQ _ hO1 hle1

theorem CloneE_nil (H : Heap) (Q : AV → Heap → Prop) (hQ : Q .nils H) : Eo lib n_slices_Clone_api_Event_api_Event [.nils] H Q := by
  refine Eo.code at_slices_Clone_api_Event_api_Event rfl ?_
  have hnil : negIf false (eqv .s .nils .nils) = some (.bool true) := rfl
  repeat (first | ((first | apply Xk.sAny | apply Xk.tAny); (case hok => rfl); (case h => intro C hC; simp (disch := omega) only [w1, ↓reduceIte, Nat.reduceEqDiff, Nat.reduceLeDiff, Nat.reduceAdd, Nat.reduceSub, hnil]; with_reducible exact hC); refine gc ?_) | refine gm ?_)
  exact hQ
theorem History_nil (p np fb S : Nat) (H : Heap) (h : CAt H p np fb S) (Q : AV → Heap → Prop) (hQ : Q .nils H) : Eo lib n_cluster_Cluster_History [.ptr p 0] H Q := by
  refine Eo.ok fun hOk => ?_
  refine Eo.code at_cluster_Cluster_History rfl ?_
  obtain ⟨l, w, g1, _, g2⟩ := h.obj
  obtain ⟨a1, a2⟩ := cell1' g2
  repeat (first | ((first | apply Xk.sAny | apply Xk.tAny); (case hok => rfl); (case h => intro C hC; simp (disch := omega) only [w1, ↓reduceIte, Nat.reduceEqDiff, Nat.reduceLeDiff, Nat.reduceAdd, Nat.reduceSub, g1, a1, a2]; with_reducible exact hC); refine gc ?_) | refine gm ?_)
  refine CloneE_nil _ _ ?_
  repeat (first | ((first | apply Xk.sAny | apply Xk.tAny); (case hok => rfl); (case h => intro C hC; simp (disch := omega) only [w1, ↓reduceIte, Nat.reduceEqDiff, Nat.reduceLeDiff, Nat.reduceAdd, Nat.reduceSub]; with_reducible exact hC); refine gc ?_) | refine gm ?_)
  refine Xk.iter [3, 11, 12] (fun m k H' => m = 0 ∧ k = [(3, .nils), (11, .int .i64 (.ofNat 0)), (12, .int .i64 (.ofNat 0))] ∧ H' = H) rfl ⟨_, rfl, rfl, rfl⟩ ?_
  rintro m k H' ⟨rfl, rfl, rfl⟩
  unfold l0_cluster_Cluster_History
  repeat (first | ((first | apply Xk.sAny | apply Xk.tAny); (case hok => rfl); (case h => intro C hC; simp (disch := omega) only [w1, ↓reduceIte, Nat.reduceEqDiff, Nat.reduceLeDiff, Nat.reduceAdd, Nat.reduceSub, Nat.not_lt_zero]; with_reducible exact hC); refine gc ?_) | refine gm ?_)
  exact hQ

end Go.Proofs.YtobnlhfgebfebaaGreatDoor
