/- The slot: resets that are not taken; a frame that raises the floor. Conditions: none. -/
import Derived.Test.YtihoblfmhighpaaSlH
import Derived.Test.YtihoblfmhighpaaSlW
namespace Go.Proofs.Ytihoblfmhighpaa
open Go.Dp
set_option linter.unusedSimpArgs false
set_option linter.unusedVariables false
set_option maxHeartbeats 400000
set_option maxRecDepth 8000
attribute [local irreducible] Ex.thnK Ex.inK Ret

theorem reset_no_ev (κ : Nat) (T : Tags) (H : Heap) (p : Nat) (s : Sw) (h : SW κ T H p s) (f : Fr) (hi : ¬ s.inc < f.inc) (hn : s.on = false ∨ f.inc ≠ s.inc) (Q : AV → Heap → Prop)
    (hQ : ∀ T' H', Stp (Or κ) T H T' H' → SW κ T' H' p s → Q (.tup [.agg noFr.cells, .bool false]) H') : Eo lib n_slot_Slot_reset [.ptr p 0, .agg f.cells] H Q := by
  refine Eo.ok fun hOk => ?_
  refine Eo.code at_slot_Slot_reset rfl ?_
  have hbx : nBox [.int .i64 f.kind, .int .i64 f.slot, .int .i64 f.inc, .int .i64 f.rid, .int .i64 f.floor, .int .i64 f.role, .str f.key, .int .i64 f.ver, .str f.data] = some (.cells [.int .i64 f.kind, .int .i64 f.slot, .int .i64 f.inc, .int .i64 f.rid, .int .i64 f.floor, .int .i64 f.role, .str f.key, .int .i64 f.ver, .str f.data] 1, ptrTo) := box_fr f
  have hfc : f.cells = [.int .i64 f.kind, .int .i64 f.slot, .int .i64 f.inc, .int .i64 f.rid, .int .i64 f.floor, .int .i64 f.role, .str f.key, .int .i64 f.ver, .str f.data] := rfl
  obtain ⟨T1, s1, af, ar⟩ := new2 (T := T) hOk (κ + 6, 0, 0) (κ + 6, 1, 0) (.cells [.int .i64 f.kind, .int .i64 f.slot, .int .i64 f.inc, .int .i64 f.rid, .int .i64 f.floor, .int .i64 f.role, .str f.key, .int .i64 f.ver, .str f.data] 1) (.cells [.int .i64 (.ofNat 0), .int .i64 (.ofNat 0), .int .i64 (.ofNat 0), .int .i64 (.ofNat 0), .int .i64 (.ofNat 0), .int .i64 (.ofNat 0), .str [], .int .i64 (.ofNat 0), .str []] 1)
  have W1 := h.step s1 (fun _ _ h => h)
  rw [hfc]
  repeat (first | ((first | apply Xk.sAny | apply Xk.tAny); (case hok => rfl); (case h => intro C hC; simp (disch := omega) only [w1, ↓reduceIte, Nat.reduceEqDiff, Nat.reduceLeDiff, Nat.reduceAdd, Nat.reduceSub, hbx]; with_reducible exact hC); refine gc ?_) | refine gm ?_)
  repeat (first | ((first | apply Xk.sAny | apply Xk.tAny); (case hok => rfl); (case h => intro C hC; simp (disch := omega) only [w1, ↓reduceIte, Nat.reduceEqDiff, Nat.reduceLeDiff, Nat.reduceAdd, Nat.reduceSub, hbx]; with_reducible exact hC); refine gc ?_) | refine gm ?_)
  generalize (H.new (.cells [.int .i64 f.kind, .int .i64 f.slot, .int .i64 f.inc, .int .i64 f.rid, .int .i64 f.floor, .int .i64 f.role, .str f.key, .int .i64 f.ver, .str f.data] 1)).new (.cells [.int .i64 (.ofNat 0), .int .i64 (.ofNat 0), .int .i64 (.ofNat 0), .int .i64 (.ofNat 0), .int .i64 (.ofNat 0), .int .i64 (.ofNat 0), .str [], .int .i64 (.ofNat 0), .str []] 1) = H1 at s1 af ar W1 ⊢
  generalize H.next + 1 = pr at ar ⊢
  generalize H.next = pf at af ⊢
  have hgf := af.1
  have hgr := ar.1
  obtain ⟨ps, vd, S⟩ := W1
  have hg1 := S.head.1
  have ci := eq_false hi
  have s4 := ar.stp1 s1.ok (.cells [.int .i64 (.ofNat 0), .int .i64 (.ofNat 0), .int .i64 (.ofNat 0), .int .i64 (.ofNat 0), .int .i64 (.ofNat 0), .int .i64 (.ofNat 0), .str [], .int .i64 (.ofNat 0), .str []] 1)
  have hfin := hQ T1 _ ((s1.mono fun _ h => h.elim).trans (s4.mono fun u h => by rw [h]; exact ⟨by dsimp only; omega, Nat.le_refl _⟩)) (SW.step (p := p) (s := s) ⟨ps, vd, S⟩ s4 (fun t ht => n6 ht))
  rw [noFr_cells] at hfin
  cases ho : s.on with
  | false =>
    rw [ho] at hg1
    repeat (first | ((first | apply Xk.sAny | apply Xk.tAny); (case hok => rfl); (case h => intro C hC; simp (disch := omega) only [w1, ↓reduceIte, Nat.reduceEqDiff, Nat.reduceLeDiff, Nat.reduceAdd, Nat.reduceSub, hgf, hg1, ci, hgr]; with_reducible exact hC); refine gc ?_) | refine gm ?_)
    repeat (first | ((first | apply Xk.sAny | apply Xk.tAny); (case hok => rfl); (case h => intro C hC; simp (disch := omega) only [w1, ↓reduceIte, Nat.reduceEqDiff, Nat.reduceLeDiff, Nat.reduceAdd, Nat.reduceSub, hgf, hg1, ci, hgr]; with_reducible exact hC); refine gc ?_) | refine gm ?_)
    repeat (first | ((first | apply Xk.sAny | apply Xk.tAny); (case hok => rfl); (case h => intro C hC; simp (disch := omega) only [w1, ↓reduceIte, Nat.reduceEqDiff, Nat.reduceLeDiff, Nat.reduceAdd, Nat.reduceSub, hgf, hg1, ci, hgr]; with_reducible exact hC); refine gc ?_) | refine gm ?_)
    refine ret_cell (p := pr) (t1 := 4) (t2 := 5) rfl rfl (load_agg (Heap.get_put_self _ _ _) rfl) rfl rfl ?_
    exact hfin
  | true =>
    have cj : (f.inc = s.inc) = False := eq_false (hn.resolve_left (by rw [ho]; exact Bool.noConfusion))
    rw [ho] at hg1
    repeat (first | ((first | apply Xk.sAny | apply Xk.tAny); (case hok => rfl); (case h => intro C hC; simp (disch := omega) only [w1, ↓reduceIte, Nat.reduceEqDiff, Nat.reduceLeDiff, Nat.reduceAdd, Nat.reduceSub, hgf, hg1, ci, cj, hgr]; with_reducible exact hC); refine gc ?_) | refine gm ?_)
    repeat (first | ((first | apply Xk.sAny | apply Xk.tAny); (case hok => rfl); (case h => intro C hC; simp (disch := omega) only [w1, ↓reduceIte, Nat.reduceEqDiff, Nat.reduceLeDiff, Nat.reduceAdd, Nat.reduceSub, hgf, hg1, ci, cj, hgr]; with_reducible exact hC); refine gc ?_) | refine gm ?_)
    repeat (first | ((first | apply Xk.sAny | apply Xk.tAny); (case hok => rfl); (case h => intro C hC; simp (disch := omega) only [w1, ↓reduceIte, Nat.reduceEqDiff, Nat.reduceLeDiff, Nat.reduceAdd, Nat.reduceSub, hgf, hg1, ci, cj, hgr]; with_reducible exact hC); refine gc ?_) | refine gm ?_)
    refine ret_cell (p := pr) (t1 := 4) (t2 := 5) rfl rfl (load_agg (Heap.get_put_self _ _ _) rfl) rfl rfl ?_
    exact hfin
theorem o7r {κ : Nat} {u : Tg} (h : Or κ u) : O7 κ u := ⟨h.1, by have := h.2; omega⟩

theorem Take_no5_ev (κ : Nat) (T : Tags) (H : Heap) (p : Nat) (s : Sw) (h : SW κ T H p s) (f : Fr) (hno : TNo s f) (h5 : f.kind = .ofNat 5) (Q : AV → Heap → Prop)
    (hQ : ∀ T' H', Stp (O7 κ) T H T' H' → SW κ T' H' p s → Q (.tup [.agg noFr.cells, .bool false]) H') : Eo lib n_slot_Slot_Take [.ptr p 0, .agg f.cells] H Q := by
  refine Eo.ok fun hOk => ?_
  refine Eo.code at_slot_Slot_Take rfl ?_
  obtain ⟨ps, vd, S⟩ := h
  have hbx : nBox [.int .i64 f.kind, .int .i64 f.slot, .int .i64 f.inc, .int .i64 f.rid, .int .i64 f.floor, .int .i64 f.role, .str f.key, .int .i64 f.ver, .str f.data] = some (.cells [.int .i64 f.kind, .int .i64 f.slot, .int .i64 f.inc, .int .i64 f.rid, .int .i64 f.floor, .int .i64 f.role, .str f.key, .int .i64 f.ver, .str f.data] 1, ptrTo) := box_fr f
  have hbp : nBox [.ptr p 0] = some (.cells [.ptr p 0] 1, ptrTo) := rfl
  have hfc : f.cells = [.int .i64 f.kind, .int .i64 f.slot, .int .i64 f.inc, .int .i64 f.rid, .int .i64 f.floor, .int .i64 f.role, .str f.key, .int .i64 f.ver, .str f.data] := rfl
  obtain ⟨T1, s1, ap, af, ar⟩ := new3 (T := T) hOk (κ + 7, 0, 0) (κ + 7, 1, 0) (κ + 7, 2, 0) (.cells [.ptr p 0] 1) (.cells [.int .i64 f.kind, .int .i64 f.slot, .int .i64 f.inc, .int .i64 f.rid, .int .i64 f.floor, .int .i64 f.role, .str f.key, .int .i64 f.ver, .str f.data] 1) (.cells [.int .i64 (.ofNat 0), .int .i64 (.ofNat 0), .int .i64 (.ofNat 0), .int .i64 (.ofNat 0), .int .i64 (.ofNat 0), .int .i64 (.ofNat 0), .str [], .int .i64 (.ofNat 0), .str []] 1)
  have S1 := S.step s1 (fun h => h) (fun h => h) (fun _ _ h => h)
  have hst1 : Stp (O7 κ) T H T1 _ := s1.mono fun _ h => h.elim
  have haf := af.1
  rw [hfc]
  repeat (first | ((first | apply Xk.sAny | apply Xk.tAny); (case hok => rfl); (case h => intro C hC; simp (disch := omega) only [w1, ↓reduceIte, Nat.reduceEqDiff, Nat.reduceLeDiff, Nat.reduceAdd, Nat.reduceSub, hbx, hbp]; with_reducible exact hC); refine gc ?_) | refine gm ?_)
  repeat (first | ((first | apply Xk.sAny | apply Xk.tAny); (case hok => rfl); (case h => intro C hC; simp (disch := omega) only [w1, ↓reduceIte, Nat.reduceEqDiff, Nat.reduceLeDiff, Nat.reduceAdd, Nat.reduceSub, hbx, hbp, haf]; with_reducible exact hC); refine gc ?_) | refine gm ?_)
  generalize ((H.new (.cells [.ptr p 0] 1)).new (.cells [.int .i64 f.kind, .int .i64 f.slot, .int .i64 f.inc, .int .i64 f.rid, .int .i64 f.floor, .int .i64 f.role, .str f.key, .int .i64 f.ver, .str f.data] 1)).new (.cells [.int .i64 (.ofNat 0), .int .i64 (.ofNat 0), .int .i64 (.ofNat 0), .int .i64 (.ofNat 0), .int .i64 (.ofNat 0), .int .i64 (.ofNat 0), .str [], .int .i64 (.ofNat 0), .str []] 1) = H1 at s1 ap af ar S1 hst1 haf ⊢
  have epr : H.next + 1 + 1 = H.next + 2 := rfl
  rw [epr]
  generalize H.next + 2 = pr at ar ⊢
  generalize H.next + 1 = pf at af haf ⊢
  generalize H.next = pb at ap ⊢
  refine Right_ev f H1 _ fun H2 hO2 hle2 => ?_
  have s2 : Stp (fun _ => False) T1 H1 T1 H2 := Stp.le hO2 hle2
  have S2 := S1.step s2 (fun h => h) (fun h => h) (fun _ _ h => h)
  have ap2 := ap.step s2 (fun h => h)
  have af2 := af.step s2 (fun h => h)
  have ar2 := ar.step s2 (fun h => h)
  have hst2 : Stp (O7 κ) T H T1 H2 := hst1.trans (s2.mono fun _ h => h.elim)
  clear S S1 s1 s2 ap af ar haf hle2
  have hg := S2.head.1
  have hgb := ap2.1
  have hgf := af2.1
  have hgr := ar2.1
  have s3 := ar2.stp1 hO2 (.cells [.int .i64 (.ofNat 0), .int .i64 (.ofNat 0), .int .i64 (.ofNat 0), .int .i64 (.ofNat 0), .int .i64 (.ofNat 0), .int .i64 (.ofNat 0), .str [], .int .i64 (.ofNat 0), .str []] 1)
  have hfin := hQ T1 _ (hst2.trans (s3.mono fun u h => by rw [h]; exact o7)) (SW.step (p := p) (s := s) ⟨ps, vd, S2⟩ s3 (fun t ht => m7 ht))
  rw [noFr_cells] at hfin
  cases hr : rightB f with
  | false =>
    repeat (first | ((first | apply Xk.sAny | apply Xk.tAny); (case hok => rfl); (case h => intro C hC; simp (disch := omega) only [w1, ↓reduceIte, Nat.reduceEqDiff, Nat.reduceLeDiff, Nat.reduceAdd, Nat.reduceSub, hgr]; with_reducible exact hC); refine gc ?_) | refine gm ?_)
    repeat (first | ((first | apply Xk.sAny | apply Xk.tAny); (case hok => rfl); (case h => intro C hC; simp (disch := omega) only [w1, ↓reduceIte, Nat.reduceEqDiff, Nat.reduceLeDiff, Nat.reduceAdd, Nat.reduceSub, hgr]; with_reducible exact hC); refine gc ?_) | refine gm ?_)
    repeat (first | ((first | apply Xk.sAny | apply Xk.tAny); (case hok => rfl); (case h => intro C hC; simp (disch := omega) only [w1, ↓reduceIte, Nat.reduceEqDiff, Nat.reduceLeDiff, Nat.reduceAdd, Nat.reduceSub, hgr]; with_reducible exact hC); refine gc ?_) | refine gm ?_)
    refine ret_cell (p := pr) (t1 := 4) (t2 := 5) rfl rfl (load_agg (Heap.get_put_self _ _ _) rfl) rfl rfl ?_
    exact hfin
  | true =>
    have c6 : ¬ .ofNat 6 ≤ f.kind := by rw [h5]; decide
    have c6' := eq_false c6
    by_cases cs : f.slot = s.id
    · have cs' := eq_true cs
      have h5' := eq_true h5
      have h3 : ¬ s.inc < f.inc ∧ (s.on = false ∨ f.inc ≠ s.inc) := by
        rcases hno with h | h | h | h | h
        · rw [hr] at h; cases h
        · exact absurd h c6
        · exact absurd cs h
        · exact absurd h5 h.1
        · exact h.2
      repeat (first | ((first | apply Xk.sAny | apply Xk.tAny); (case hok => rfl); (case h => intro C hC; simp (disch := omega) only [w1, ↓reduceIte, Nat.reduceEqDiff, Nat.reduceLeDiff, Nat.reduceAdd, Nat.reduceSub, hgf, c6', hgb, hg, cs', h5']; with_reducible exact hC); refine gc ?_) | refine gm ?_)
      repeat (first | ((first | apply Xk.sAny | apply Xk.tAny); (case hok => rfl); (case h => intro C hC; simp (disch := omega) only [w1, ↓reduceIte, Nat.reduceEqDiff, Nat.reduceLeDiff, Nat.reduceAdd, Nat.reduceSub, hgf, c6', hgb, hg, cs', h5']; with_reducible exact hC); refine gc ?_) | refine gm ?_)
      refine reset_no_ev κ T1 H2 p s ⟨ps, vd, S2⟩ f h3.1 h3.2 _ fun T3 H3 s3 W3 => ?_
      have ar3 := ar2.step s3 orn
      have hgr3 := ar3.1
      rw [noFr_cells]
      repeat (first | ((first | apply Xk.sAny | apply Xk.tAny); (case hok => rfl); (case h => intro C hC; simp (disch := omega) only [w1, ↓reduceIte, Nat.reduceEqDiff, Nat.reduceLeDiff, Nat.reduceAdd, Nat.reduceSub, hgr3]; with_reducible exact hC); refine gc ?_) | refine gm ?_)
      repeat (first | ((first | apply Xk.sAny | apply Xk.tAny); (case hok => rfl); (case h => intro C hC; simp (disch := omega) only [w1, ↓reduceIte, Nat.reduceEqDiff, Nat.reduceLeDiff, Nat.reduceAdd, Nat.reduceSub, hgr3]; with_reducible exact hC); refine gc ?_) | refine gm ?_)
      refine ret_cell (p := pr) (t1 := 4) (t2 := 5) rfl rfl (load_agg (Heap.get_put_self _ _ _) rfl) rfl rfl ?_
      have s4 := ar3.stp1 s3.ok (.cells [.int .i64 (.ofNat 0), .int .i64 (.ofNat 0), .int .i64 (.ofNat 0), .int .i64 (.ofNat 0), .int .i64 (.ofNat 0), .int .i64 (.ofNat 0), .str [], .int .i64 (.ofNat 0), .str []] 1)
      have hfin2 := hQ T3 _ ((hst2.trans (s3.mono fun u h => o7r h)).trans (s4.mono fun u h => by rw [h]; exact o7)) (W3.step s4 (fun t ht => m7 ht))
      rw [noFr_cells] at hfin2
      exact hfin2
    · have cs' := eq_false cs
      repeat (first | ((first | apply Xk.sAny | apply Xk.tAny); (case hok => rfl); (case h => intro C hC; simp (disch := omega) only [w1, ↓reduceIte, Nat.reduceEqDiff, Nat.reduceLeDiff, Nat.reduceAdd, Nat.reduceSub, hgf, c6', hgb, hg, cs', hgr]; with_reducible exact hC); refine gc ?_) | refine gm ?_)
      repeat (first | ((first | apply Xk.sAny | apply Xk.tAny); (case hok => rfl); (case h => intro C hC; simp (disch := omega) only [w1, ↓reduceIte, Nat.reduceEqDiff, Nat.reduceLeDiff, Nat.reduceAdd, Nat.reduceSub, hgf, c6', hgb, hg, cs', hgr]; with_reducible exact hC); refine gc ?_) | refine gm ?_)
      refine ret_cell (p := pr) (t1 := 4) (t2 := 5) rfl rfl (load_agg (Heap.get_put_self _ _ _) rfl) rfl rfl ?_
      exact hfin
theorem Take_not_ev (κ : Nat) (T : Tags) (H : Heap) (p : Nat) (s : Sw) (h : SW κ T H p s) (f : Fr) (hno : TNo s f) (Q : AV → Heap → Prop)
    (hQ : ∀ T' H', Stp (O7 κ) T H T' H' → SW κ T' H' p s → Q (.tup [.agg noFr.cells, .bool false]) H') : Eo lib n_slot_Slot_Take [.ptr p 0, .agg f.cells] H Q := by
  by_cases h5 : f.kind = .ofNat 5
  · exact Take_no5_ev κ T H p s h f hno h5 Q hQ
  · exact Take_no_ev κ T H p s h f hno h5 Q hQ

theorem Take_rise_ev (κ : Nat) (T : Tags) (H : Heap) (p : Nat) (s : Sw) (h : SW κ T H p s) (f : Fr) (hr : rightB f = true) (h6 : f.kind < .ofNat 6) (h5 : f.kind ≠ .ofNat 5) (hs : f.slot = s.id) (hon : s.on = true) (hi : f.inc = s.inc) (hrf : ¬ f.rid < s.floor) (hfl : s.floor < f.floor) (hrg : ¬ f.rid < f.floor) (d : Dd) (hd : s.done = [d]) (hdf : d.rid < f.floor)
    (sn : Sw) (hsn : sn = { s with floor := f.floor, done := [] })
    (R : Fr → St → Prop) (hdo : ∀ T' H' (Q' : AV → Heap → Prop), SW κ T' H' p sn → (∀ a st' T'' H'', R a st' → Stp (O6 κ) T' H' T'' H'' → SW κ T'' H'' p { sn with st := st' } → Q' (.agg a.cells) H'') → Eo lib n_slot_Slot_do [.ptr p 0, .agg f.cells] H' Q') (Q : AV → Heap → Prop)
    (hnew : ∀ a st' T' H', R a st' → Stp (O7 κ) T H T' H' → SW κ T' H' p { sn with st := st', done := [⟨f.rid, a⟩] } → Q (.tup [.agg a.cells, .bool true]) H') : Eo lib n_slot_Slot_Take [.ptr p 0, .agg f.cells] H Q := by
  refine Eo.ok fun hOk => ?_
  refine Eo.code at_slot_Slot_Take rfl ?_
  obtain ⟨ps, vd, S⟩ := h
  have hbx : nBox [.int .i64 f.kind, .int .i64 f.slot, .int .i64 f.inc, .int .i64 f.rid, .int .i64 f.floor, .int .i64 f.role, .str f.key, .int .i64 f.ver, .str f.data] = some (.cells [.int .i64 f.kind, .int .i64 f.slot, .int .i64 f.inc, .int .i64 f.rid, .int .i64 f.floor, .int .i64 f.role, .str f.key, .int .i64 f.ver, .str f.data] 1, ptrTo) := box_fr f
  have hbp : nBox [.ptr p 0] = some (.cells [.ptr p 0] 1, ptrTo) := rfl
  have hfc : f.cells = [.int .i64 f.kind, .int .i64 f.slot, .int .i64 f.inc, .int .i64 f.rid, .int .i64 f.floor, .int .i64 f.role, .str f.key, .int .i64 f.ver, .str f.data] := rfl
  obtain ⟨T1, s1, ap, af, ar⟩ := new3 (T := T) hOk (κ + 7, 0, 0) (κ + 7, 1, 0) (κ + 7, 2, 0) (.cells [.ptr p 0] 1) (.cells [.int .i64 f.kind, .int .i64 f.slot, .int .i64 f.inc, .int .i64 f.rid, .int .i64 f.floor, .int .i64 f.role, .str f.key, .int .i64 f.ver, .str f.data] 1) (.cells [.int .i64 (.ofNat 0), .int .i64 (.ofNat 0), .int .i64 (.ofNat 0), .int .i64 (.ofNat 0), .int .i64 (.ofNat 0), .int .i64 (.ofNat 0), .str [], .int .i64 (.ofNat 0), .str []] 1)
  have S1 := S.step s1 (fun h => h) (fun h => h) (fun _ _ h => h)
  have hst1 : Stp (O7 κ) T H T1 _ := s1.mono fun _ h => h.elim
  have haf := af.1
  rw [hfc]
  repeat (first | ((first | apply Xk.sAny | apply Xk.tAny); (case hok => rfl); (case h => intro C hC; simp (disch := omega) only [w1, ↓reduceIte, Nat.reduceEqDiff, Nat.reduceLeDiff, Nat.reduceAdd, Nat.reduceSub, hbx, hbp]; with_reducible exact hC); refine gc ?_) | refine gm ?_)
  repeat (first | ((first | apply Xk.sAny | apply Xk.tAny); (case hok => rfl); (case h => intro C hC; simp (disch := omega) only [w1, ↓reduceIte, Nat.reduceEqDiff, Nat.reduceLeDiff, Nat.reduceAdd, Nat.reduceSub, hbx, hbp, haf]; with_reducible exact hC); refine gc ?_) | refine gm ?_)
  generalize ((H.new (.cells [.ptr p 0] 1)).new (.cells [.int .i64 f.kind, .int .i64 f.slot, .int .i64 f.inc, .int .i64 f.rid, .int .i64 f.floor, .int .i64 f.role, .str f.key, .int .i64 f.ver, .str f.data] 1)).new (.cells [.int .i64 (.ofNat 0), .int .i64 (.ofNat 0), .int .i64 (.ofNat 0), .int .i64 (.ofNat 0), .int .i64 (.ofNat 0), .int .i64 (.ofNat 0), .str [], .int .i64 (.ofNat 0), .str []] 1) = H1 at s1 ap af ar S1 hst1 haf ⊢
  have epr : H.next + 1 + 1 = H.next + 2 := rfl
  rw [epr]
  generalize H.next + 2 = pr at ar ⊢
  generalize H.next + 1 = pf at af haf ⊢
  generalize H.next = pb at ap ⊢
  refine Right_ev f H1 _ fun H2 hO2 hle2 => ?_
  have s2 : Stp (fun _ => False) T1 H1 T1 H2 := Stp.le hO2 hle2
  have S2 := S1.step s2 (fun h => h) (fun h => h) (fun _ _ h => h)
  have ap2 := ap.step s2 (fun h => h)
  have af2 := af.step s2 (fun h => h)
  have ar2 := ar.step s2 (fun h => h)
  have hst2 : Stp (O7 κ) T H T1 H2 := hst1.trans (s2.mono fun _ h => h.elim)
  clear S S1 s1 s2 ap af ar haf hle2
  have hg := S2.head.1
  have hgb := ap2.1
  have hgf := af2.1
  have hgr := ar2.1
  have c6' : (Int.ofNat 6 ≤ f.kind) = False := eq_false (Int.not_le.2 h6)
  have h5' : (f.kind = Int.ofNat 5) = False := eq_false h5
  have cs' := eq_true hs
  have ci' := eq_true hi
  have cf' := eq_false hrf
  have cg' := eq_false hrg
  have cl' := eq_true hfl
  rw [hr]
  have hd2 : At T1 H2 (κ, 0, 0) p (.cells [.int .i64 s.id, .int .i64 (.ofNat s.a), .int .i64 (.ofNat s.b), .bool true, .int .i64 s.inc, .int .i64 s.floor, .ptr ps 0, vd] 1) := by
    rw [← hon]
    exact S2.head
  have hpb : pb ≠ p := Ne.symm (hd2.ne ap2 (by intro h; injection h with h; omega))
  have hpf : pf ≠ p := Ne.symm (hd2.ne af2 (by intro h; injection h with h; omega))
  have hg := hd2.1
  have s3 := hd2.stp1 hO2 (.cells [.int .i64 s.id, .int .i64 (.ofNat s.a), .int .i64 (.ofNat s.b), .bool true, .int .i64 s.inc, .int .i64 f.floor, .ptr ps 0, vd] 1)
  have ap3 := ap2.step s3 m0
  have af3 := af2.step s3 m0
  have ar3 := ar2.step s3 m0
  have hd3 := hd2.put (.cells [.int .i64 s.id, .int .i64 (.ofNat s.a), .int .i64 (.ofNat s.b), .bool true, .int .i64 s.inc, .int .i64 f.floor, .ptr ps 0, vd] 1)
  have hgb3 := ap3.1
  have hmk : rMkfn 25 [.ptr pb 0] = some (.fn 25 [.ptr pb 0]) := rfl
  have row3 : RT T1 (H2.put p (.cells [.int .i64 s.id, .int .i64 (.ofNat s.a), .int .i64 (.ofNat s.b), .bool true, .int .i64 s.inc, .int .i64 f.floor, .ptr ps 0, vd] 1)) (κ, 1, 0) 0 10 vd ([d].flatMap Dd.cells) := by
    rw [← hd]
    exact S2.row.step s3 (tg3 (by decide))
  repeat (first | ((first | apply Xk.sAny | apply Xk.tAny); (case hok => rfl); (case h => intro C hC; simp (disch := omega) only [w1, ↓reduceIte, Nat.reduceEqDiff, Nat.reduceLeDiff, Nat.reduceAdd, Nat.reduceSub, hgf, c6', hgb, hg, cs', h5', ci', cf', cl', hpb, hgb3, hmk]; with_reducible exact hC); refine gc ?_) | refine gm ?_)
  repeat (first | ((first | apply Xk.sAny | apply Xk.tAny); (case hok => rfl); (case h => intro C hC; simp (disch := omega) only [w1, ↓reduceIte, Nat.reduceEqDiff, Nat.reduceLeDiff, Nat.reduceAdd, Nat.reduceSub, hgf, c6', hgb, hg, cs', h5', ci', cf', cl', hpb, hgb3, hmk]; with_reducible exact hC); refine gc ?_) | refine gm ?_)
  repeat (first | ((first | apply Xk.sAny | apply Xk.tAny); (case hok => rfl); (case h => intro C hC; simp (disch := omega) only [w1, ↓reduceIte, Nat.reduceEqDiff, Nat.reduceLeDiff, Nat.reduceAdd, Nat.reduceSub, hgf, c6', hgb, hg, cs', h5', ci', cf', cl', hpb, hgb3, hmk]; with_reducible exact hC); refine gc ?_) | refine gm ?_)
  refine del1_ev T1 (κ, 1, 0) _ p pb vd d row3 _ _ _ _ _ _ _ f.floor hgb3 (Heap.get_put_self _ _ _) hdf _ fun vq H4 s4 r4 => ?_
  have hd4 := hd3.step s4 (tg3 (by decide))
  have ap4 := ap3.step s4 m0
  have af4 := af3.step s4 m0
  have ar4 := ar3.step s4 m0
  have hg4 := hd4.1
  have hgb4 := ap4.1
  have hgf4 := af4.1
  have s5 := hd4.stp1 s4.ok (.cells [.int .i64 s.id, .int .i64 (.ofNat s.a), .int .i64 (.ofNat s.b), .bool true, .int .i64 s.inc, .int .i64 f.floor, .ptr ps 0, vq] 1)
  have apq := ap4.step s5 m0
  have afq := af4.step s5 m0
  have arq := ar4.step s5 m0
  have hstq := ((hst2.trans (s3.mono fun u h => (by rw [h]; exact o70 : O7 κ u))).trans (s4.mono fun u h => by rw [h]; exact o70)).trans (s5.mono fun u h => by rw [h]; exact o70)
  have hOq := s5.ok
  have Sq : SWo κ T1 (H4.put p (.cells [.int .i64 s.id, .int .i64 (.ofNat s.a), .int .i64 (.ofNat s.b), .bool true, .int .i64 s.inc, .int .i64 f.floor, .ptr ps 0, vq] 1)) p sn ps vq := by
    rw [hsn]
    refine ⟨?_, ((S2.store.step s3 (fun t ht => noT0 ht)).step s4 (fun t ht => noT0 ht)).step s5 (fun t ht => noT0 ht), r4.step s5 (tg3 (by decide))⟩
    show At _ _ _ _ (.cells [.int .i64 s.id, .int .i64 (.ofNat s.a), .int .i64 (.ofNat s.b), .bool s.on, .int .i64 s.inc, .int .i64 f.floor, .ptr ps 0, vq] 1)
    rw [hon]
    exact hd4.put _
  have hdn : sn.done = [] := by rw [hsn]
  obtain ⟨vl, v1, v2⟩ := RT.lensG (g := Dd.cells) (fun _ => rfl) Sq.row (by decide)
  repeat (first | ((first | apply Xk.sAny | apply Xk.tAny); (case hok => rfl); (case h => intro C hC; simp (disch := omega) only [w1, ↓reduceIte, Nat.reduceEqDiff, Nat.reduceLeDiff, Nat.reduceAdd, Nat.reduceSub, hg4, hgb4, hgf4, hpb, hpf, cg', vl, v1, v2]; with_reducible exact hC); refine gc ?_) | refine gm ?_)
  repeat (first | ((first | apply Xk.sAny | apply Xk.tAny); (case hok => rfl); (case h => intro C hC; simp (disch := omega) only [w1, ↓reduceIte, Nat.reduceEqDiff, Nat.reduceLeDiff, Nat.reduceAdd, Nat.reduceSub, hg4, hgb4, hgf4, hpb, hpf, cg', vl, v1, v2]; with_reducible exact hC); refine gc ?_) | refine gm ?_)
  repeat (first | ((first | apply Xk.sAny | apply Xk.tAny); (case hok => rfl); (case h => intro C hC; simp (disch := omega) only [w1, ↓reduceIte, Nat.reduceEqDiff, Nat.reduceLeDiff, Nat.reduceAdd, Nat.reduceSub, hg4, hgb4, hgf4, hpb, hpf, cg', vl, v1, v2]; with_reducible exact hC); refine gc ?_) | refine gm ?_)
  repeat (first | ((first | apply Xk.sAny | apply Xk.tAny); (case hok => rfl); (case h => intro C hC; simp (disch := omega) only [w1, ↓reduceIte, Nat.reduceEqDiff, Nat.reduceLeDiff, Nat.reduceAdd, Nat.reduceSub, hg4, hgb4, hgf4, hpb, hpf, cg', vl, v1, v2]; with_reducible exact hC); refine gc ?_) | refine gm ?_)
  have hold : ∀ e pre post, sn.done = pre ++ e :: post → (∀ x ∈ pre, x.rid ≠ f.rid) → e.rid = f.rid → ∀ T' H', Stp (O7 κ) T H T' H' → SW κ T' H' p sn → Q (.tup [.agg e.f.cells, .bool true]) H' := by
    intro e pre post he
    rw [hdn] at he
    cases pre <;> cases he
  have hnew : (∀ d ∈ sn.done, d.rid ≠ f.rid) → ∀ a st' T' H', R a st' → Stp (O7 κ) T H T' H' → SW κ T' H' p { sn with st := st', done := sn.done ++ [⟨f.rid, a⟩] } → Q (.tup [.agg a.cells, .bool true]) H' := by
    intro _
    rw [hdn]
    exact hnew
  have hdl : sn.done.length ≤ 100000 := by rw [hdn]; exact Nat.zero_le _
  clear hgb hgf hgr hg ap2 af2 ar2 S2 ap3 af3 ar3 hd3 hgb3 row3 hd4 ap4 af4 ar4 hg4 hgb4 hgf4 hst2 s3 r4
  generalize H4.put p (.cells [.int .i64 s.id, .int .i64 (.ofNat s.a), .int .i64 (.ofNat s.b), .bool true, .int .i64 s.inc, .int .i64 f.floor, .ptr ps 0, vq] 1) = Hq at *
  refine Xk.iter [2, 3, 4, 91, 92, 93] (fun m k H' => ∃ i, m = sn.done.length - i ∧ i ≤ sn.done.length ∧ k = [(2, .ptr pb 0), (3, .ptr pf 0), (4, .ptr pr 0), (91, vq), (92, .int .i64 (.ofNat sn.done.length)), (93, .int .i64 (.ofNat i))] ∧ (∀ x ∈ sn.done.take i, x.rid ≠ f.rid) ∧ H'.Ok ∧ HLe Hq H') rfl
    ⟨_, 0, rfl, Nat.zero_le _, rfl, (fun x hx => by cases hx), hOq, HLe.refl _⟩ ?_
  rintro m k H3 ⟨i, rfl, hil, rfl, hne, hO3, hle3⟩
  unfold l0_slot_Slot_Take
  have s3 : Stp (fun _ => False) T1 Hq T1 H3 := Stp.le hO3 hle3
  have hst3 : Stp (O7 κ) T H T1 H3 := hstq.trans (s3.mono fun _ h => h.elim)
  have S3 := Sq.step s3 (fun h => h) (fun h => h) (fun _ _ h => h)
  have ap3 := apq.step s3 (fun h => h)
  have af3 := afq.step s3 (fun h => h)
  have ar3 := arq.step s3 (fun h => h)
  by_cases c : i < sn.done.length
  · obtain ⟨bc, cl, rfl, hgc, _, _, _, hrow⟩ := RT.rowG (g := Dd.cells) (fun _ => rfl) noDd S3.row (by omega) (by decide)
    obtain ⟨c1, rest, c2⟩ := hrow i c
    have d10 : (cl.drop (i * 10)).take 10 = (sn.done.getD i noDd).cells := by rw [c2]; exact List.take_left' rfl
    have hsp : sn.done = sn.done.take i ++ sn.done.getD i noDd :: sn.done.drop (i + 1) := by
      rw [List.getD_eq_getElem?_getD, List.getElem?_eq_getElem c]
      show sn.done = sn.done.take i ++ sn.done[i] :: sn.done.drop (i + 1)
      rw [← List.drop_eq_getElem_cons c, List.take_append_drop]
    have hsn : sn.done.take (i + 1) = sn.done.take i ++ [sn.done.getD i noDd] := by
      rw [List.take_add_one, List.getD_eq_getElem?_getD, List.getElem?_eq_getElem c]
      rfl
    have hho := hold (sn.done.getD i noDd) _ _ hsp hne
    generalize sn.done.getD i noDd = dx at d10 hsn hho
    obtain ⟨dr, dk, ds, di, dq, dl, dp, dy, dv, dd⟩ := dx
    have d10 : (cl.drop (i * 10)).take 10 = [.int .i64 dr, .int .i64 dk, .int .i64 ds, .int .i64 di, .int .i64 dq, .int .i64 dl, .int .i64 dp, .str dy, .int .i64 dv, .str dd] := d10
    have hO4 := hO3.new (.cells [.int .i64 dr, .int .i64 dk, .int .i64 ds, .int .i64 di, .int .i64 dq, .int .i64 dl, .int .i64 dp, .str dy, .int .i64 dv, .str dd] 1)
    have hle4 := HLe.new (hO3 _ (Nat.le_refl _)) (.cells [.int .i64 dr, .int .i64 dk, .int .i64 ds, .int .i64 di, .int .i64 dq, .int .i64 dl, .int .i64 dp, .str dy, .int .i64 dv, .str dd] 1)
    have s4 : Stp (fun _ => False) T1 H3 T1 (H3.new (.cells [.int .i64 dr, .int .i64 dk, .int .i64 ds, .int .i64 di, .int .i64 dq, .int .i64 dl, .int .i64 dp, .str dy, .int .i64 dv, .str dd] 1)) := Stp.le hO4 hle4
    have hgn := Heap.get_new_self H3 (.cells [.int .i64 dr, .int .i64 dk, .int .i64 ds, .int .i64 di, .int .i64 dq, .int .i64 dl, .int .i64 dp, .str dy, .int .i64 dv, .str dd] 1)
    have hgf4 := hle4 _ _ af3.1
    have ar4 := ar3.step s4 (fun h => h)
    have hgr4 := ar4.1
    by_cases e : dr = f.rid
    · have e' := eq_true e
      repeat (first | ((first | apply Xk.sAny | apply Xk.tAny); (case hok => rfl); (case h => intro C hC; simp (disch := omega) only [w1, ↓reduceIte, Nat.reduceEqDiff, Nat.reduceLeDiff, Nat.reduceAdd, Nat.reduceSub, c, hgc, c1, d10, hgf4, e', hgr4]; with_reducible exact hC); refine gc ?_) | refine gm ?_)
      repeat (first | ((first | apply Xk.sAny | apply Xk.tAny); (case hok => rfl); (case h => intro C hC; simp (disch := omega) only [w1, ↓reduceIte, Nat.reduceEqDiff, Nat.reduceLeDiff, Nat.reduceAdd, Nat.reduceSub, c, hgc, c1, d10, hgf4, e', hgr4]; with_reducible exact hC); refine gc ?_) | refine gm ?_)
      repeat (first | ((first | apply Xk.sAny | apply Xk.tAny); (case hok => rfl); (case h => intro C hC; simp (disch := omega) only [w1, ↓reduceIte, Nat.reduceEqDiff, Nat.reduceLeDiff, Nat.reduceAdd, Nat.reduceSub, c, hgc, c1, d10, hgf4, e', hgr4]; with_reducible exact hC); refine gc ?_) | refine gm ?_)
      refine ret_cell (p := pr) (t1 := 4) (t2 := 5) rfl rfl (load_agg (Heap.get_put_self _ _ _) rfl) rfl rfl ?_
      have s5 := ar4.stp1 hO4 (.cells [.int .i64 dk, .int .i64 ds, .int .i64 di, .int .i64 dq, .int .i64 dl, .int .i64 dp, .str dy, .int .i64 dv, .str dd] 1)
      refine hho e T1 _ ((hst3.trans (s4.mono fun _ h => h.elim)).trans (s5.mono fun u h => by rw [h]; exact o7)) ?_
      exact (SW.step (p := p) (s := sn) ⟨ps, _, S3⟩ s4 (fun _ _ h => h)).step s5 (fun t ht => m7 ht)
    · have e' := eq_false e
      repeat (first | ((first | apply Xk.sAny | apply Xk.tAny); (case hok => rfl); (case h => intro C hC; simp (disch := omega) only [w1, ↓reduceIte, Nat.reduceEqDiff, Nat.reduceLeDiff, Nat.reduceAdd, Nat.reduceSub, c, hgc, c1, d10, hgf4, e', hgr4]; with_reducible exact hC); refine gc ?_) | refine gm ?_)
      repeat (first | ((first | apply Xk.sAny | apply Xk.tAny); (case hok => rfl); (case h => intro C hC; simp (disch := omega) only [w1, ↓reduceIte, Nat.reduceEqDiff, Nat.reduceLeDiff, Nat.reduceAdd, Nat.reduceSub, c, hgc, c1, d10, hgf4, e', hgr4]; with_reducible exact hC); refine gc ?_) | refine gm ?_)
      repeat (first | ((first | apply Xk.sAny | apply Xk.tAny); (case hok => rfl); (case h => intro C hC; simp (disch := omega) only [w1, ↓reduceIte, Nat.reduceEqDiff, Nat.reduceLeDiff, Nat.reduceAdd, Nat.reduceSub, c, hgc, c1, d10, hgf4, e', hgr4]; with_reducible exact hC); refine gc ?_) | refine gm ?_)
      refine ⟨rfl, _, by omega, i + 1, rfl, by omega, rfl, fun x hx => ?_, hO4, hle3.trans hle4⟩
      rw [hsn] at hx
      rcases List.mem_append.1 hx with h | h
      · exact hne x h
      · rw [List.mem_singleton] at h
        rw [h]
        exact e
  · obtain rfl : i = sn.done.length := by omega
    rw [List.take_length] at hne
    have hgf3 := af3.1
    have hgb3 := ap3.1
    have hgr3 := ar3.1
    repeat (first | ((first | apply Xk.sAny | apply Xk.tAny); (case hok => rfl); (case h => intro C hC; simp (disch := omega) only [w1, ↓reduceIte, Nat.reduceEqDiff, Nat.reduceLeDiff, Nat.reduceAdd, Nat.reduceSub, c, hgf3, hgb3]; with_reducible exact hC); refine gc ?_) | refine gm ?_)
    repeat (first | ((first | apply Xk.sAny | apply Xk.tAny); (case hok => rfl); (case h => intro C hC; simp (disch := omega) only [w1, ↓reduceIte, Nat.reduceEqDiff, Nat.reduceLeDiff, Nat.reduceAdd, Nat.reduceSub, c, hgf3, hgb3]; with_reducible exact hC); refine gc ?_) | refine gm ?_)
    refine hdo T1 H3 _ ⟨ps, vq, S3⟩ fun a st' T4 H4 hR s4 W4 => ?_
    obtain ⟨ps3, vd3, S4⟩ := W4
    have ap4 := ap3.step s4 m6
    have af4 := af3.step s4 m6
    have ar4 := ar3.step s4 m6
    have hn := hnew hne a st'
    obtain ⟨u1, u2, u3, u4, u5, u6, u7, u8, u9⟩ := a
    obtain ⟨T5, s5, a8⟩ := new1 (T := T4) s4.ok (κ + 7, 3, 0) (.cells [.int .i64 u1, .int .i64 u2, .int .i64 u3, .int .i64 u4, .int .i64 u5, .int .i64 u6, .str u7, .int .i64 u8, .str u9] 1)
    have S5 := S4.step s5 (fun h => h) (fun h => h) (fun _ _ h => h)
    have ap5 := ap4.step s5 (fun h => h)
    have af5 := af4.step s5 (fun h => h)
    have ar5 := ar4.step s5 (fun h => h)
    have hst5 : Stp (O7 κ) T H T5 _ := (hst3.trans (s4.mono fun u h => o67 h)).trans (s5.mono fun _ h => h.elim)
    show Xk lib _ _ (kput _ _ (.agg [.int .i64 u1, .int .i64 u2, .int .i64 u3, .int .i64 u4, .int .i64 u5, .int .i64 u6, .str u7, .int .i64 u8, .str u9])) H4 _
    repeat (first | ((first | apply Xk.sAny | apply Xk.tAny); (case hok => rfl); (case h => intro C hC; simp (disch := omega) only [w1, ↓reduceIte, Nat.reduceEqDiff, Nat.reduceLeDiff, Nat.reduceAdd, Nat.reduceSub]; with_reducible exact hC); refine gc ?_) | refine gm ?_)
    repeat (first | ((first | apply Xk.sAny | apply Xk.tAny); (case hok => rfl); (case h => intro C hC; simp (disch := omega) only [w1, ↓reduceIte, Nat.reduceEqDiff, Nat.reduceLeDiff, Nat.reduceAdd, Nat.reduceSub]; with_reducible exact hC); refine gc ?_) | refine gm ?_)
    generalize H4.new (.cells [.int .i64 u1, .int .i64 u2, .int .i64 u3, .int .i64 u4, .int .i64 u5, .int .i64 u6, .str u7, .int .i64 u8, .str u9] 1) = H5 at s5 a8 S5 ap5 af5 ar5 hst5 ⊢
    generalize H4.next = p8 at a8 ⊢
    have hfl : (sn.done.flatMap Dd.cells).length = sn.done.length * 10 := fm_len (g := Dd.cells) (fun _ => rfl) sn.done
    have row5 : RT T5 H5 (κ, 1, 0) 0 10 vd3 (sn.done.flatMap Dd.cells) := S5.row
    obtain ⟨v9, H6, T6, f1, f2, f3⟩ := RT.push (bytes := 96) (w := 1) (row := [.int .i64 f.rid, .int .i64 u1, .int .i64 u2, .int .i64 u3, .int .i64 u4, .int .i64 u5, .int .i64 u6, .str u7, .int .i64 u8, .str u9]) s5.ok row5 rfl rfl (by decide) (by rw [hfl, Nat.mul_div_cancel _ (by decide)]; omega) (by rw [hfl, Nat.mul_div_cancel _ (by decide)]; omega)
    obtain ⟨q1, q2⟩ := f3.sc
    have h6 := S5.head.step f2 (tg3 (by decide))
    have ap6 := ap5.step f2 m0
    have ar6 := ar5.step f2 m0
    have a86 := a8.step f2 m0
    have s7 := h6.stp1 f2.ok (.cells [.int .i64 sn.id, .int .i64 (.ofNat sn.a), .int .i64 (.ofNat sn.b), .bool sn.on, .int .i64 sn.inc, .int .i64 sn.floor, .ptr ps3 0, v9] 1)
    have ar7 := ar6.step s7 m0
    have a87 := a86.step s7 m0
    have hg5 := S5.head.1
    have hgb5 := ap5.1
    have hgf5 := af5.1
    have hg85 := a8.1
    have hg6 := h6.1
    have hgb6 := ap6.1
    have hg87 := a87.1
    have hgr7 := ar7.1
    have hg5 : H5.get p = some (.cells [.int .i64 sn.id, .int .i64 (.ofNat sn.a), .int .i64 (.ofNat sn.b), .bool sn.on, .int .i64 sn.inc, .int .i64 sn.floor, .ptr ps3 0, vd3] 1) := hg5
    have hg6 : H6.get p = some (.cells [.int .i64 sn.id, .int .i64 (.ofNat sn.a), .int .i64 (.ofNat sn.b), .bool sn.on, .int .i64 sn.inc, .int .i64 sn.floor, .ptr ps3 0, vd3] 1) := hg6
    have hgb5' : ∀ w, (H5.new w).get pb = some (.cells [.ptr p 0] 1) := fun w => by rw [Heap.get_new_ne _ _ (Nat.ne_of_lt (ap5.lt s5.ok))]; exact hgb5
    obtain ⟨vs1, vs2⟩ := row5.sc
    repeat (first | ((first | apply Xk.sAny | apply Xk.tAny); (case hok => rfl); (case h => intro C hC; simp (disch := omega) only [w1, ↓reduceIte, Nat.reduceEqDiff, Nat.reduceLeDiff, Nat.reduceAdd, Nat.reduceSub, hg5, hgb5, hgf5, hg85, vs1, vs2, f1, q1, q2, hgb6, hg6, hgb5']; with_reducible exact hC); refine gc ?_) | refine gm ?_)
    repeat (first | ((first | apply Xk.sAny | apply Xk.tAny); (case hok => rfl); (case h => intro C hC; simp (disch := omega) only [w1, ↓reduceIte, Nat.reduceEqDiff, Nat.reduceLeDiff, Nat.reduceAdd, Nat.reduceSub, hg5, hgb5, hgf5, hg85, vs1, vs2, f1, q1, q2, hgb6, hg6, hgb5', hg87, hgr7]; with_reducible exact hC); refine gc ?_) | refine gm ?_)
    repeat (first | ((first | apply Xk.sAny | apply Xk.tAny); (case hok => rfl); (case h => intro C hC; simp (disch := omega) only [w1, ↓reduceIte, Nat.reduceEqDiff, Nat.reduceLeDiff, Nat.reduceAdd, Nat.reduceSub, hg5, hgb5, hgf5, hg85, vs1, vs2, f1, q1, q2, hgb6, hg6, hgb5', hg87, hgr7]; with_reducible exact hC); refine gc ?_) | refine gm ?_)
    refine ret_cell (p := pr) (t1 := 4) (t2 := 5) rfl rfl (load_agg (Heap.get_put_self _ _ _) rfl) rfl rfl ?_
    have s8 := ar7.stp1 s7.ok (.cells [.int .i64 u1, .int .i64 u2, .int .i64 u3, .int .i64 u4, .int .i64 u5, .int .i64 u6, .str u7, .int .i64 u8, .str u9] 1)
    have store6 := (S5.store.step f2 (fun t ht => noT0 ht)).step s7 (fun t ht => noT0 ht)
    have f3 : RT T6 H6 (κ, 1, 0) 0 10 v9 ((sn.done ++ [(⟨f.rid, ⟨u1, u2, u3, u4, u5, u6, u7, u8, u9⟩⟩ : Dd)]).flatMap Dd.cells) := by
      rw [List.flatMap_append]
      exact f3
    have W7 : SW κ T6 (H6.put p (.cells [.int .i64 sn.id, .int .i64 (.ofNat sn.a), .int .i64 (.ofNat sn.b), .bool sn.on, .int .i64 sn.inc, .int .i64 sn.floor, .ptr ps3 0, v9] 1)) p { sn with st := st', done := sn.done ++ [⟨f.rid, ⟨u1, u2, u3, u4, u5, u6, u7, u8, u9⟩⟩] } := ⟨ps3, v9, h6.put _, store6, f3.step s7 (tg3 (by decide))⟩
    exact hn T6 _ hR (((hst5.trans (f2.mono fun u h => by rw [h]; exact o70)).trans (s7.mono fun u h => by rw [h]; exact o70)).trans (s8.mono fun u h => by rw [h]; exact o7)) (W7.step s8 (fun t ht => m7 ht))
end Go.Proofs.Ytihoblfmhighpaa
