/- Layer 14: what a strings.Builder's methods come to. Conditions: none. -/
import Derived.Test.YtkjmelfgopammaaDoorAnA
namespace Go.Proofs.YtkjmelfgopammaaDoor
open Go.Dp
set_option linter.unusedSimpArgs false
set_option linter.unusedVariables false
set_option maxHeartbeats 2000000
set_option maxRecDepth 8000
attribute [local irreducible] Ex.thnK Ex.inK Ret

theorem eqc_nn (H : Heap) : negIf false (rEqc H .nilp .nilp) = some (.bool true) := rfl
theorem eqc_pn (H : Heap) (b o : Nat) : negIf false (rEqc H (.ptr b o) .nilp) = some (.bool false) := rfl
theorem eqc_self {H : Heap} {b : Nat} {x y : AV} (hb : H.get b = some (.cells [x, y] 2)) : negIf true (rEqc H (.ptr b 0) (.ptr b 0)) = some (.bool false) := by
  rw [show rEqc H (.ptr b 0) (.ptr b 0) = eqPlace b 0 b 0 (H.get b) (H.get b) from rfl, hb]
  simp [eqPlace, Go.Dp.isVar, nbeq, negIf, Nat.blt, Nat.ble]
theorem p2u_self {H : Heap} {b : Nat} {x y : AV} (hb : H.get b = some (.cells [x, y] 2)) : rP2u H (.ptr b 0) = some (.ptr b 0) := by
  simp [rP2u, hb, Nat.blt, Nat.ble]
theorem u2b_self {H : Heap} {b : Nat} {x y : AV} (hb : H.get b = some (.cells [x, y] 2)) : rU2b H 2 (.ptr b 0) = some (.ptr b 0) := by
  simp [rU2b, hb, nbeq, Nat.ble]

/-- behind copyCheck the builder names itself -/
theorem copyCheck_ev (b : Nat) (p v : AV) (H : Heap) (hb : H.get b = some (.cells [p, v] 2)) (hp : p = .nilp ∨ p = .ptr b 0) (Q : AV → Heap → Prop)
    (hQ : ∀ H', H'.Ok → H'.next = H.next → (∀ c, c ≠ b → H'.get c = H.get c) → H'.get b = some (.cells [.ptr b 0, v] 2) → Q (.tup []) H') : Eo lib n_strings_Builder_copyCheck [.ptr b 0] H Q := by
  refine Eo.ok fun hOk => ?_
  refine Eo.code at_strings_Builder_copyCheck rfl ?_
  rcases hp with rfl | rfl
  · have g1 := p2u_self hb
    have g2 := u2b_self hb
    repeat (first | ((first | apply Xk.sAny | apply Xk.tAny); (case hok => rfl); (case h => intro C hC; simp (disch := omega) only [w1, ↓reduceIte, Nat.reduceEqDiff, Nat.reduceLeDiff, Nat.reduceAdd, Nat.reduceSub, hb, eqc_nn, g1, g2]; with_reducible exact hC); refine gc ?_) | refine gm ?_)
    exact hQ _ (hOk.put hb _) rfl (fun c hc => Heap.get_put_ne _ _ _ hc) (Heap.get_put_self _ _ _)
  · have g1 := eqc_self hb
    repeat (first | ((first | apply Xk.sAny | apply Xk.tAny); (case hok => rfl); (case h => intro C hC; simp (disch := omega) only [w1, ↓reduceIte, Nat.reduceEqDiff, Nat.reduceLeDiff, Nat.reduceAdd, Nat.reduceSub, hb, eqc_pn, g1]; with_reducible exact hC); refine gc ?_) | refine gm ?_)
    exact hQ _ hOk rfl (fun _ _ => rfl) hb
theorem BV.ne {H0 H H' : Heap} {b : Nat} {v : AV} {s : List UInt8} (h : BV H0 H v s) (hne : ∀ o l z, v ≠ .sl b o l z) (k : ∀ c, c ≠ b → H'.get c = H.get c) : BV H0 H' v s := by
  rcases h with h | ⟨c, l, rfl, h2, h3, h4, h5⟩
  · exact .inl h
  · exact .inr ⟨c, l, rfl, by rw [k c (by intro e; subst e; exact hne _ _ _ rfl)]; exact h2, h3, h4, h5⟩

theorem WriteString_ev (b : Nat) (s t : List UInt8) (H0 H : Heap) (hle : HLe H0 H) (hB : Bld H0 H b s) (hl : s.length + t.length ≤ 35184372088832) (Q : AV → Heap → Prop)
    (hQ : ∀ v H', H'.Ok → HLe H0 H' → H.next ≤ H'.next → Bld H0 H' b (s ++ t) → Q v H') : Eo lib n_strings_Builder_WriteString [.ptr b 0, .str t] H Q := by
  refine Eo.ok fun hOk => ?_
  obtain ⟨p, v, hb, hp, h0, hv, hne⟩ := hB
  refine Eo.code at_strings_Builder_WriteString rfl ?_
  repeat (first | ((first | apply Xk.sAny | apply Xk.tAny); (case hok => rfl); (case h => intro C hC; simp (disch := omega) only [w1, ↓reduceIte, Nat.reduceEqDiff, Nat.reduceLeDiff, Nat.reduceAdd, Nat.reduceSub]; with_reducible exact hC); refine gc ?_) | refine gm ?_)
  refine copyCheck_ev b p v H hb hp _ fun H1 hO1 hn1 hk1 hb1 => ?_
  have hle1 : HLe H0 H1 := fun c x hc => by
    rw [hk1 c (by intro e; subst e; rw [h0] at hc; cases hc)]
    exact hle c x hc
  obtain ⟨v', H2, e1, hO2, hle2, hn2, hv2, hk2⟩ := BV.app hO1 hle1 (hv.ne hne hk1) t hl
  obtain ⟨hb2, hne2⟩ := hk2 b _ hb1 hne
  obtain ⟨c1, c2⟩ := hv2.sc
  repeat (first | ((first | apply Xk.sAny | apply Xk.tAny); (case hok => rfl); (case h => intro C hC; simp (disch := omega) only [w1, ↓reduceIte, Nat.reduceEqDiff, Nat.reduceLeDiff, Nat.reduceAdd, Nat.reduceSub, hb1, e1, hb2, c1, c2]; with_reducible exact hC); refine gc ?_) | refine gm ?_)
  exact hQ _ _ (hO2.put hb2 _) (hle2.put_ h0 _) (by rw [Heap.next_put]; omega) ⟨_, v', Heap.get_put_self _ _ _, .inr rfl, h0, hv2.ne hne2 (fun c hc => Heap.get_put_ne _ _ _ hc), hne2⟩

theorem Bld.fresh {H0 H : Heap} {b : Nat} (hb : H.get b = some (.cells [.nilp, .nils] 2)) (h0 : H0.get b = none) : Bld H0 H b [] := ⟨.nilp, .nils, hb, .inl rfl, h0, .inl ⟨rfl, rfl⟩, fun _ _ _ h => by cases h⟩

theorem String_ev (b : Nat) (s : List UInt8) (H0 H : Heap) (hle : HLe H0 H) (hB : Bld H0 H b s) (hl : s.length ≤ 35184372088832) (Q : AV → Heap → Prop)
    (hQ : ∀ H', H'.Ok → HLe H0 H' → H.next ≤ H'.next → Q (.str s) H') : Eo lib n_strings_Builder_String [.ptr b 0] H Q := by
  refine Eo.ok fun hOk => ?_
  obtain ⟨p, v, hb, hp, h0, hv, hne⟩ := hB
  refine Eo.code at_strings_Builder_String rfl ?_
  rcases hv with ⟨rfl, rfl⟩ | ⟨c, l, rfl, h2, h3, h4, h5, h6⟩
  · have e1 : rSdata H .nils = some .nilp := rfl
    have e2 : eUstr' H .nilp (.int .i64 (.ofNat 0)) = some (.str [], H) := rfl
    repeat (first | ((first | apply Xk.sAny | apply Xk.tAny); (case hok => rfl); (case h => intro C hC; simp (disch := omega) only [w1, ↓reduceIte, Nat.reduceEqDiff, Nat.reduceLeDiff, Nat.reduceAdd, Nat.reduceSub, hb, e1, e2]; with_reducible exact hC); refine gc ?_) | refine gm ?_)
    exact hQ _ hOk hle (Nat.le_refl _)
  · have e1 : rSdata H (.sl c 0 s.length 1) = some (.ptr c 0) := by
      show (match H.get c with | some (.cells l _) => bif Nat.blt 0 l.length then some (AV.ptr c 0) else none | _ => none) = _
      rw [h2]
      show (bif Nat.blt 0 l.length then some (AV.ptr c 0) else none) = _
      rw [show Nat.blt 0 l.length = true from Nat.ble_eq_true_of_le h6]
      rfl
    by_cases hz : s.length = 0
    · have hs : s = [] := List.eq_nil_of_length_eq_zero hz
      subst hs
      have e2 : eUstr' H (.ptr c 0) (.int .i64 (.ofNat 0)) = some (.str [], H) := rfl
      have e1' : rSdata H (.sl c 0 0 1) = some (.ptr c 0) := e1
      have hb' : H.get b = some (.cells [p, .sl c 0 0 1] 2) := hb
      clear hb e1
      repeat (first | ((first | apply Xk.sAny | apply Xk.tAny); (case hok => rfl); (case h => intro C hC; simp (disch := omega) only [w1, ↓reduceIte, Nat.reduceEqDiff, Nat.reduceLeDiff, Nat.reduceAdd, Nat.reduceSub, hb', e1', e2]; with_reducible exact hC); refine gc ?_) | refine gm ?_)
      exact hQ _ hOk hle (Nat.le_refl _)
    · have e2 : eUstr' H (.ptr c 0) (.int .i64 (.ofNat s.length)) = some (.str s, H.put c (.cells l 0)) := by
        show (bif Nat.ble s.length 35184372088832 then eUstr H (.ptr c 0) s.length else none) = _
        rw [nble, decide_eq_true hl]
        show eUstr H (.ptr c 0) s.length = _
        unfold eUstr
        simp only [nbeq, decide_eq_false hz, cond_false, h2, decide_true, cond_true, Heap.ld_of h2 (o := 0) (n := s.length) (by omega), List.drop_zero, h4, strOf_of]
      repeat (first | ((first | apply Xk.sAny | apply Xk.tAny); (case hok => rfl); (case h => intro C hC; simp (disch := omega) only [w1, ↓reduceIte, Nat.reduceEqDiff, Nat.reduceLeDiff, Nat.reduceAdd, Nat.reduceSub, hb, e1, e2]; with_reducible exact hC); refine gc ?_) | refine gm ?_)
      exact hQ _ (hOk.put h2 _) (hle.put_ h5 _) (by rw [Heap.next_put]; exact Nat.le_refl _)

theorem grow_ev (b n : Nat) (H0 H : Heap) (hle : HLe H0 H) (hb : H.get b = some (.cells [.ptr b 0, .nils] 2)) (h0 : H0.get b = none) (hn : 0 < n) (hl : n ≤ 35184372088832) (Q : AV → Heap → Prop)
    (hQ : ∀ v H', H'.Ok → HLe H0 H' → H.next ≤ H'.next → Bld H0 H' b [] → Q v H') : Eo lib n_strings_Builder_grow [.ptr b 0, .int .i64 (.ofNat n)] H Q := by
  refine Eo.ok fun hOk => ?_
  refine Eo.code at_strings_Builder_grow rfl ?_
  have hbn : b ≠ H.next := by intro e; subst e; rw [hOk H.next (Nat.le_refl _)] at hb; cases hb
  have hn2 : nNozero (.int .i64 (.ofNat n)) = some (.cells (List.replicate n .undef) 3, slTo n 1) := by
    show (bif Nat.ble n 35184372088832 then _ else _) = _
    rw [nble, decide_eq_true hl]; rfl
  have e0 : rCap .nils = some (.int .i64 (.ofNat 0)) := rfl
  have hfresh : H0.get H.next = none := hle.none (hOk _ (Nat.le_refl _))
  have hb1 : (H.new (.cells (List.replicate n .undef) 3)).get b = some (.cells [.ptr b 0, .nils] 2) := by rw [Heap.get_new_ne _ _ hbn]; exact hb
  have e3 : eCopy (H.new (.cells (List.replicate n .undef) 3)) 1 (.sl H.next 0 0 1) .nils = some (.int .i64 (.ofNat 0), H.new (.cells (List.replicate n .undef) 3)) := by
    rw [← Heap.new_put H (.cells (List.replicate n .undef) 3) (.cells (List.replicate n .undef) 3)]
    unfold eCopy srcCells
    simp only [nbeq, decide_true, cond_true]
    rw [show List.take (min 0 0 * 1) ([] : List AV) = [] from rfl, Heap.new_put, Heap.st_of (Heap.get_new_self _ _) (by simp)]
    rw [show over (List.replicate n AV.undef) 0 [] = List.replicate n AV.undef from rfl, Heap.new_put]
    rfl
  repeat (first | ((first | apply Xk.sAny | apply Xk.tAny); (case hok => rfl); (case h => intro C hC; simp (disch := omega) only [w1, ↓reduceIte, Nat.reduceEqDiff, Nat.reduceLeDiff, Nat.reduceAdd, Nat.reduceSub, hb, e0, hn2, hb1, e3, Nat.mul_zero, Nat.zero_add]; with_reducible exact hC); refine gc ?_) | refine gm ?_)
  have hO1 := hOk.new (.cells (List.replicate n .undef) 3)
  refine hQ _ _ (hO1.put hb1 _) ((hle.new_ hOk _).put_ h0 _) (by rw [Heap.next_put]; exact Nat.le_succ _) ⟨.ptr b 0, .sl H.next 0 0 1, Heap.get_put_self _ _ _, .inr rfl, h0, ?_, ?_⟩
  · exact .inr ⟨H.next, List.replicate n .undef, rfl, by rw [Heap.get_put_ne _ _ _ (Ne.symm hbn)]; exact Heap.get_new_self _ _, Nat.zero_le _, rfl, hfresh, by rw [List.length_replicate]; exact hn⟩
  · intro o l z e
    injection e with q
    exact hbn q.symm

theorem Grow_ev (b n : Nat) (H0 H : Heap) (hle : HLe H0 H) (hb : H.get b = some (.cells [.nilp, .nils] 2)) (h0 : H0.get b = none) (hl : n ≤ 35184372088832) (Q : AV → Heap → Prop)
    (hQ : ∀ v H', H'.Ok → HLe H0 H' → H.next ≤ H'.next → Bld H0 H' b [] → Q v H') : Eo lib n_strings_Builder_Grow [.ptr b 0, .int .i64 (.ofNat n)] H Q := by
  refine Eo.ok fun hOk => ?_
  refine Eo.code at_strings_Builder_Grow rfl ?_
  have e0 : rCap .nils = some (.int .i64 (.ofNat 0)) := rfl
  repeat (first | ((first | apply Xk.sAny | apply Xk.tAny); (case hok => rfl); (case h => intro C hC; simp (disch := omega) only [w1, ↓reduceIte, Nat.reduceEqDiff, Nat.reduceLeDiff, Nat.reduceAdd, Nat.reduceSub]; with_reducible exact hC); refine gc ?_) | refine gm ?_)
  refine copyCheck_ev b _ _ H hb (.inl rfl) _ fun H1 hO1 hn1 hk1 hb1 => ?_
  have hle1 : HLe H0 H1 := fun c x hc => by
    rw [hk1 c (by intro e; subst e; rw [h0] at hc; cases hc)]
    exact hle c x hc
  by_cases hn : 0 < n
  · repeat (first | ((first | apply Xk.sAny | apply Xk.tAny); (case hok => rfl); (case h => intro C hC; simp (disch := omega) only [w1, ↓reduceIte, Nat.reduceEqDiff, Nat.reduceLeDiff, Nat.reduceAdd, Nat.reduceSub, hb1, e0, hn, Nat.not_lt_zero, Nat.sub_self]; with_reducible exact hC); refine gc ?_) | refine gm ?_)
    refine grow_ev b n H0 H1 hle1 hb1 h0 hn hl _ fun v H2 hO2 hle2 hn2 hB => ?_
    repeat (first | ((first | apply Xk.sAny | apply Xk.tAny); (case hok => rfl); (case h => intro C hC; simp (disch := omega) only [w1, ↓reduceIte, Nat.reduceEqDiff, Nat.reduceLeDiff, Nat.reduceAdd, Nat.reduceSub]; with_reducible exact hC); refine gc ?_) | refine gm ?_)
    exact hQ _ _ hO2 hle2 (by omega) hB
  · repeat (first | ((first | apply Xk.sAny | apply Xk.tAny); (case hok => rfl); (case h => intro C hC; simp (disch := omega) only [w1, ↓reduceIte, Nat.reduceEqDiff, Nat.reduceLeDiff, Nat.reduceAdd, Nat.reduceSub, hb1, e0, hn, Nat.not_lt_zero, Nat.sub_self]; with_reducible exact hC); refine gc ?_) | refine gm ?_)
    exact hQ _ _ hO1 hle1 (by omega) ⟨_, _, hb1, .inr rfl, h0, .inl ⟨rfl, rfl⟩, fun _ _ _ h => by cases h⟩
end Go.Proofs.YtkjmelfgopammaaDoor
