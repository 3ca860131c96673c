/- The slot: a frame is taken. Conditions: none. -/
import Derived.Test.YtihoblfmhighpaaSlC
namespace Go.Proofs.Ytihoblfmhighpaa
open Go.Dp
set_option linter.unusedSimpArgs false
set_option linter.unusedVariables false
set_option maxHeartbeats 400000
set_option maxRecDepth 8000
attribute [local irreducible] Ex.thnK Ex.inK Ret

abbrev O7 (κ : Nat) : Tg → Prop := fun u => κ ≤ u.1 ∧ u.1 ≤ κ + 7
theorem m6 {κ a b : Nat} : ¬ O6 κ (κ + 7, a, b) := by rintro ⟨_, h⟩; dsimp only at h; omega
theorem m60 {κ a b : Nat} : ¬ O6 κ (κ, a, b) := by rintro ⟨h, _⟩; dsimp only at h; omega
theorem m0 {κ a b c d : Nat} : ¬ ((κ + 7, a, b) : Tg) = (κ, c, d) := by intro h; injection h with h; omega
theorem m7 {κ a b : Nat} {t : Tg} (h : Ok4 κ t) : ¬ t = (κ + 7, a, b) := by rintro rfl; have := h.2; dsimp only at this; omega
theorem o67 {κ : Nat} {u : Tg} (h : O6 κ u) : O7 κ u := ⟨by have := h.1; omega, by have := h.2; omega⟩
theorem o7 {κ a b : Nat} : O7 κ (κ + 7, a, b) := ⟨by dsimp only; omega, Nat.le_refl _⟩
theorem o70 {κ a b : Nat} : O7 κ (κ, a, b) := ⟨Nat.le_refl _, by dsimp only; omega⟩
theorem noFr_cells : noFr.cells = [.int .i64 (.ofNat 0), .int .i64 (.ofNat 0), .int .i64 (.ofNat 0), .int .i64 (.ofNat 0), .int .i64 (.ofNat 0), .int .i64 (.ofNat 0), .str [], .int .i64 (.ofNat 0), .str []] := rfl

/-- frames that are not taken -/
def TNo (s : Sw) (f : Fr) : Prop := rightB f = false ∨ .ofNat 6 ≤ f.kind ∨ f.slot ≠ s.id ∨ (f.kind ≠ .ofNat 5 ∧ (s.on = false ∨ f.inc ≠ s.inc ∨ f.rid < s.floor)) ∨ (f.kind = .ofNat 5 ∧ ¬ s.inc < f.inc ∧ (s.on = false ∨ f.inc ≠ s.inc))

theorem Take_no_ev (κ : Nat) (T : Tags) (H : Heap) (p : Nat) (s : Sw) (h : SW κ T H p s) (f : Fr) (hno : TNo s f) (h5 : f.kind ≠ .ofNat 5) (Q : AV → Heap → Prop)
    (hQ : ∀ T' H', Stp (O7 κ) T H T' H' → SW κ T' H' p s → Q (.tup [.agg noFr.cells, .bool false]) H') : Eo lib n_slot_Slot_Take [.ptr p 0, .agg f.cells] H Q := by
  refine Eo.ok fun hOk => ?_
  refine Eo.code at_slot_Slot_Take rfl ?_
  obtain ⟨ps, vd, S⟩ := h
  have hbx : nBox [.int .i64 f.kind, .int .i64 f.slot, .int .i64 f.inc, .int .i64 f.rid, .int .i64 f.floor, .int .i64 f.role, .str f.key, .int .i64 f.ver, .str f.data] = some (.cells [.int .i64 f.kind, .int .i64 f.slot, .int .i64 f.inc, .int .i64 f.rid, .int .i64 f.floor, .int .i64 f.role, .str f.key, .int .i64 f.ver, .str f.data] 1, ptrTo) := box_fr f
  have hbp : nBox [.ptr p 0] = some (.cells [.ptr p 0] 1, ptrTo) := rfl
  have hfc : f.cells = [.int .i64 f.kind, .int .i64 f.slot, .int .i64 f.inc, .int .i64 f.rid, .int .i64 f.floor, .int .i64 f.role, .str f.key, .int .i64 f.ver, .str f.data] := rfl
  obtain ⟨T1, s1, ap, af, ar⟩ := new3 (T := T) hOk (κ + 7, 0, 0) (κ + 7, 1, 0) (κ + 7, 2, 0) (.cells [.ptr p 0] 1) (.cells [.int .i64 f.kind, .int .i64 f.slot, .int .i64 f.inc, .int .i64 f.rid, .int .i64 f.floor, .int .i64 f.role, .str f.key, .int .i64 f.ver, .str f.data] 1) (.cells [.int .i64 (.ofNat 0), .int .i64 (.ofNat 0), .int .i64 (.ofNat 0), .int .i64 (.ofNat 0), .int .i64 (.ofNat 0), .int .i64 (.ofNat 0), .str [], .int .i64 (.ofNat 0), .str []] 1)
  have S1 := S.step s1 (fun h => h) (fun h => h) (fun _ _ h => h)
  have hst1 : Stp (O7 κ) T H T1 _ := s1.mono fun _ h => h.elim
  have haf := af.1
  rw [hfc]
  repeat (first | ((first | apply Xk.sAny | apply Xk.tAny); (case hok => rfl); (case h => intro C hC; simp (disch := omega) only [w1, ↓reduceIte, Nat.reduceEqDiff, Nat.reduceLeDiff, Nat.reduceAdd, Nat.reduceSub, hbx, hbp]; with_reducible exact hC); refine gc ?_) | refine gm ?_)
  repeat (first | ((first | apply Xk.sAny | apply Xk.tAny); (case hok => rfl); (case h => intro C hC; simp (disch := omega) only [w1, ↓reduceIte, Nat.reduceEqDiff, Nat.reduceLeDiff, Nat.reduceAdd, Nat.reduceSub, hbx, hbp, haf]; with_reducible exact hC); refine gc ?_) | refine gm ?_)
  generalize ((H.new (.cells [.ptr p 0] 1)).new (.cells [.int .i64 f.kind, .int .i64 f.slot, .int .i64 f.inc, .int .i64 f.rid, .int .i64 f.floor, .int .i64 f.role, .str f.key, .int .i64 f.ver, .str f.data] 1)).new (.cells [.int .i64 (.ofNat 0), .int .i64 (.ofNat 0), .int .i64 (.ofNat 0), .int .i64 (.ofNat 0), .int .i64 (.ofNat 0), .int .i64 (.ofNat 0), .str [], .int .i64 (.ofNat 0), .str []] 1) = H1 at s1 ap af ar S1 hst1 haf ⊢
  have epr : H.next + 1 + 1 = H.next + 2 := rfl
  rw [epr]
  generalize H.next + 2 = pr at ar ⊢
  generalize H.next + 1 = pf at af haf ⊢
  generalize H.next = pb at ap ⊢
  refine Right_ev f H1 _ fun H2 hO2 hle2 => ?_
  have s2 : Stp (fun _ => False) T1 H1 T1 H2 := Stp.le hO2 hle2
  have S2 := S1.step s2 (fun h => h) (fun h => h) (fun _ _ h => h)
  have ap2 := ap.step s2 (fun h => h)
  have af2 := af.step s2 (fun h => h)
  have ar2 := ar.step s2 (fun h => h)
  have hst2 : Stp (O7 κ) T H T1 H2 := hst1.trans (s2.mono fun _ h => h.elim)
  clear S S1 s1 s2 ap af ar haf hle2
  have hg := S2.head.1
  have hgb := ap2.1
  have hgf := af2.1
  have hgr := ar2.1
  have s3 := ar2.stp1 hO2 (.cells [.int .i64 (.ofNat 0), .int .i64 (.ofNat 0), .int .i64 (.ofNat 0), .int .i64 (.ofNat 0), .int .i64 (.ofNat 0), .int .i64 (.ofNat 0), .str [], .int .i64 (.ofNat 0), .str []] 1)
  have hfin := hQ T1 _ (hst2.trans (s3.mono fun u h => by rw [h]; exact o7)) (SW.step (p := p) (s := s) ⟨ps, vd, S2⟩ s3 (fun t ht => m7 ht))
  rw [noFr_cells] at hfin
  cases hr : rightB f with
  | false =>
    repeat (first | ((first | apply Xk.sAny | apply Xk.tAny); (case hok => rfl); (case h => intro C hC; simp (disch := omega) only [w1, ↓reduceIte, Nat.reduceEqDiff, Nat.reduceLeDiff, Nat.reduceAdd, Nat.reduceSub, hgr]; with_reducible exact hC); refine gc ?_) | refine gm ?_)
    repeat (first | ((first | apply Xk.sAny | apply Xk.tAny); (case hok => rfl); (case h => intro C hC; simp (disch := omega) only [w1, ↓reduceIte, Nat.reduceEqDiff, Nat.reduceLeDiff, Nat.reduceAdd, Nat.reduceSub, hgr]; with_reducible exact hC); refine gc ?_) | refine gm ?_)
    repeat (first | ((first | apply Xk.sAny | apply Xk.tAny); (case hok => rfl); (case h => intro C hC; simp (disch := omega) only [w1, ↓reduceIte, Nat.reduceEqDiff, Nat.reduceLeDiff, Nat.reduceAdd, Nat.reduceSub, hgr]; with_reducible exact hC); refine gc ?_) | refine gm ?_)
    refine ret_cell (p := pr) (t1 := 4) (t2 := 5) rfl rfl (load_agg (Heap.get_put_self _ _ _) rfl) rfl rfl ?_
    exact hfin
  | true =>
    by_cases c6 : .ofNat 6 ≤ f.kind
    · have c6' := eq_true c6
      repeat (first | ((first | apply Xk.sAny | apply Xk.tAny); (case hok => rfl); (case h => intro C hC; simp (disch := omega) only [w1, ↓reduceIte, Nat.reduceEqDiff, Nat.reduceLeDiff, Nat.reduceAdd, Nat.reduceSub, hgf, c6', hgr]; with_reducible exact hC); refine gc ?_) | refine gm ?_)
      repeat (first | ((first | apply Xk.sAny | apply Xk.tAny); (case hok => rfl); (case h => intro C hC; simp (disch := omega) only [w1, ↓reduceIte, Nat.reduceEqDiff, Nat.reduceLeDiff, Nat.reduceAdd, Nat.reduceSub, hgf, c6', hgr]; with_reducible exact hC); refine gc ?_) | refine gm ?_)
      refine ret_cell (p := pr) (t1 := 4) (t2 := 5) rfl rfl (load_agg (Heap.get_put_self _ _ _) rfl) rfl rfl ?_
      exact hfin
    have c6' := eq_false c6
    by_cases cs : f.slot = s.id
    · have cs' := eq_true cs
      have h5' := eq_false h5
      have h3 : s.on = false ∨ f.inc ≠ s.inc ∨ f.rid < s.floor := by
        rcases hno with h | h | h | h | h
        · rw [hr] at h; cases h
        · exact absurd h c6
        · exact absurd cs h
        · exact h.2
        · exact absurd h.1 h5
      cases ho : s.on with
      | false =>
        rw [ho] at hg
        repeat (first | ((first | apply Xk.sAny | apply Xk.tAny); (case hok => rfl); (case h => intro C hC; simp (disch := omega) only [w1, ↓reduceIte, Nat.reduceEqDiff, Nat.reduceLeDiff, Nat.reduceAdd, Nat.reduceSub, hgf, c6', hgb, hg, cs', h5', hgr]; with_reducible exact hC); refine gc ?_) | refine gm ?_)
        repeat (first | ((first | apply Xk.sAny | apply Xk.tAny); (case hok => rfl); (case h => intro C hC; simp (disch := omega) only [w1, ↓reduceIte, Nat.reduceEqDiff, Nat.reduceLeDiff, Nat.reduceAdd, Nat.reduceSub, hgf, c6', hgb, hg, cs', h5', hgr]; with_reducible exact hC); refine gc ?_) | refine gm ?_)
        repeat (first | ((first | apply Xk.sAny | apply Xk.tAny); (case hok => rfl); (case h => intro C hC; simp (disch := omega) only [w1, ↓reduceIte, Nat.reduceEqDiff, Nat.reduceLeDiff, Nat.reduceAdd, Nat.reduceSub, hgf, c6', hgb, hg, cs', h5', hgr]; with_reducible exact hC); refine gc ?_) | refine gm ?_)
        repeat (first | ((first | apply Xk.sAny | apply Xk.tAny); (case hok => rfl); (case h => intro C hC; simp (disch := omega) only [w1, ↓reduceIte, Nat.reduceEqDiff, Nat.reduceLeDiff, Nat.reduceAdd, Nat.reduceSub, hgf, c6', hgb, hg, cs', h5', hgr]; with_reducible exact hC); refine gc ?_) | refine gm ?_)
        refine ret_cell (p := pr) (t1 := 4) (t2 := 5) rfl rfl (load_agg (Heap.get_put_self _ _ _) rfl) rfl rfl ?_
        exact hfin
      | true =>
        rw [ho] at hg
        by_cases ci : f.inc = s.inc
        · have ci' := eq_true ci
          have cf : f.rid < s.floor := by
            rcases h3 with h | h | h
            · rw [ho] at h; cases h
            · exact absurd ci h
            · exact h
          have cf' := eq_true cf
          repeat (first | ((first | apply Xk.sAny | apply Xk.tAny); (case hok => rfl); (case h => intro C hC; simp (disch := omega) only [w1, ↓reduceIte, Nat.reduceEqDiff, Nat.reduceLeDiff, Nat.reduceAdd, Nat.reduceSub, hgf, c6', hgb, hg, cs', h5', ci', cf', hgr]; with_reducible exact hC); refine gc ?_) | refine gm ?_)
          repeat (first | ((first | apply Xk.sAny | apply Xk.tAny); (case hok => rfl); (case h => intro C hC; simp (disch := omega) only [w1, ↓reduceIte, Nat.reduceEqDiff, Nat.reduceLeDiff, Nat.reduceAdd, Nat.reduceSub, hgf, c6', hgb, hg, cs', h5', ci', cf', hgr]; with_reducible exact hC); refine gc ?_) | refine gm ?_)
          repeat (first | ((first | apply Xk.sAny | apply Xk.tAny); (case hok => rfl); (case h => intro C hC; simp (disch := omega) only [w1, ↓reduceIte, Nat.reduceEqDiff, Nat.reduceLeDiff, Nat.reduceAdd, Nat.reduceSub, hgf, c6', hgb, hg, cs', h5', ci', cf', hgr]; with_reducible exact hC); refine gc ?_) | refine gm ?_)
          repeat (first | ((first | apply Xk.sAny | apply Xk.tAny); (case hok => rfl); (case h => intro C hC; simp (disch := omega) only [w1, ↓reduceIte, Nat.reduceEqDiff, Nat.reduceLeDiff, Nat.reduceAdd, Nat.reduceSub, hgf, c6', hgb, hg, cs', h5', ci', cf', hgr]; with_reducible exact hC); refine gc ?_) | refine gm ?_)
          refine ret_cell (p := pr) (t1 := 4) (t2 := 5) rfl rfl (load_agg (Heap.get_put_self _ _ _) rfl) rfl rfl ?_
          exact hfin
        · have ci' := eq_false ci
          repeat (first | ((first | apply Xk.sAny | apply Xk.tAny); (case hok => rfl); (case h => intro C hC; simp (disch := omega) only [w1, ↓reduceIte, Nat.reduceEqDiff, Nat.reduceLeDiff, Nat.reduceAdd, Nat.reduceSub, hgf, c6', hgb, hg, cs', h5', ci', hgr]; with_reducible exact hC); refine gc ?_) | refine gm ?_)
          repeat (first | ((first | apply Xk.sAny | apply Xk.tAny); (case hok => rfl); (case h => intro C hC; simp (disch := omega) only [w1, ↓reduceIte, Nat.reduceEqDiff, Nat.reduceLeDiff, Nat.reduceAdd, Nat.reduceSub, hgf, c6', hgb, hg, cs', h5', ci', hgr]; with_reducible exact hC); refine gc ?_) | refine gm ?_)
          repeat (first | ((first | apply Xk.sAny | apply Xk.tAny); (case hok => rfl); (case h => intro C hC; simp (disch := omega) only [w1, ↓reduceIte, Nat.reduceEqDiff, Nat.reduceLeDiff, Nat.reduceAdd, Nat.reduceSub, hgf, c6', hgb, hg, cs', h5', ci', hgr]; with_reducible exact hC); refine gc ?_) | refine gm ?_)
          repeat (first | ((first | apply Xk.sAny | apply Xk.tAny); (case hok => rfl); (case h => intro C hC; simp (disch := omega) only [w1, ↓reduceIte, Nat.reduceEqDiff, Nat.reduceLeDiff, Nat.reduceAdd, Nat.reduceSub, hgf, c6', hgb, hg, cs', h5', ci', hgr]; with_reducible exact hC); refine gc ?_) | refine gm ?_)
          refine ret_cell (p := pr) (t1 := 4) (t2 := 5) rfl rfl (load_agg (Heap.get_put_self _ _ _) rfl) rfl rfl ?_
          exact hfin
    · have cs' := eq_false cs
      repeat (first | ((first | apply Xk.sAny | apply Xk.tAny); (case hok => rfl); (case h => intro C hC; simp (disch := omega) only [w1, ↓reduceIte, Nat.reduceEqDiff, Nat.reduceLeDiff, Nat.reduceAdd, Nat.reduceSub, hgf, c6', hgb, hg, cs', hgr]; with_reducible exact hC); refine gc ?_) | refine gm ?_)
      repeat (first | ((first | apply Xk.sAny | apply Xk.tAny); (case hok => rfl); (case h => intro C hC; simp (disch := omega) only [w1, ↓reduceIte, Nat.reduceEqDiff, Nat.reduceLeDiff, Nat.reduceAdd, Nat.reduceSub, hgf, c6', hgb, hg, cs', hgr]; with_reducible exact hC); refine gc ?_) | refine gm ?_)
      refine ret_cell (p := pr) (t1 := 4) (t2 := 5) rfl rfl (load_agg (Heap.get_put_self _ _ _) rfl) rfl rfl ?_
      exact hfin
end Go.Proofs.Ytihoblfmhighpaa
