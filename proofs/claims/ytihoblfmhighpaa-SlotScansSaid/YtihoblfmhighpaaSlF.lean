/- The slot: new, clear, wipe, reset, len. Conditions: none. -/
import Derived.Test.YtihoblfmhighpaaSlE
namespace Go.Proofs.Ytihoblfmhighpaa
open Go.Dp
set_option linter.unusedSimpArgs false
set_option linter.unusedVariables false
set_option maxHeartbeats 400000
set_option maxRecDepth 8000
attribute [local irreducible] Ex.thnK Ex.inK Ret

structure Sw.Rt (s : Sw) : Prop where
  a1 : 1 ≤ s.a
  a2 : s.a ≤ 64
  b1 : 64 ≤ s.b
  b2 : s.b ≤ 65536
def Sw.clear (s : Sw) : Sw := { s with floor := .ofNat 0, st := newSt s.a s.b, done := [] }

theorem slNew_ev (κ : Nat) (T : Tags) (H : Heap) (id a b : Nat) (hid : id < 12) (ha1 : 1 ≤ a) (ha2 : a ≤ 64) (hb1 : 64 ≤ b) (hb2 : b ≤ 65536) (Q : AV → Heap → Prop)
    (hQ : ∀ p T' H', Stp (O7 κ) T H T' H' → SW κ T' H' p ⟨.ofNat id, a, b, false, .ofNat 0, .ofNat 0, newSt a b, []⟩ → Q (.tup [.ptr p 0, .int .i64 (.ofNat 0)]) H') :
    Eo lib n_slot_New [.int .i64 (.ofNat id), .int .i64 (.ofNat a), .int .i64 (.ofNat b)] H Q := by
  refine Eo.ok fun hOk => ?_
  refine Eo.code at_slot_New rfl ?_
  have h12 : ¬ 12 ≤ id := Nat.not_le.2 hid
  iterate 2 repeat (first | ((first | apply Xk.sAny | apply Xk.tAny); (case hok => rfl); (case h => intro C hC; simp (disch := omega) only [w1, ↓reduceIte, Nat.reduceEqDiff, Nat.reduceLeDiff, Nat.reduceAdd, Nat.reduceSub, Nat.not_lt_zero, h12]; with_reducible exact hC); refine gc ?_) | refine gm ?_)
  refine iNew_ev (κ + 1) T H (.ofNat a) (.ofNat b) _ (fun hb => ?_) (fun a' b' h1 h2 _ _ _ _ ps T1 H1 s1 S1 => ?_)
  · exfalso
    have e1 : Int.ofNat a = (a : Int) := rfl
    have e2 : Int.ofNat b = (b : Int) := rfl
    omega
  · obtain rfl := Int.ofNat.inj h1
    obtain rfl := Int.ofNat.inj h2
    have hbx : nBox [.int .i64 (.ofNat id), .int .i64 (.ofNat a), .int .i64 (.ofNat b), .bool false, .int .i64 (.ofNat 0), .int .i64 (.ofNat 0), .ptr ps 0, .nils] = some (.cells [.int .i64 (.ofNat id), .int .i64 (.ofNat a), .int .i64 (.ofNat b), .bool false, .int .i64 (.ofNat 0), .int .i64 (.ofNat 0), .ptr ps 0, .nils] 1, ptrTo) := rfl
    iterate 2 repeat (first | ((first | apply Xk.sAny | apply Xk.tAny); (case hok => rfl); (case h => intro C hC; simp (disch := omega) only [w1, ↓reduceIte, Nat.reduceEqDiff, Nat.reduceLeDiff, Nat.reduceAdd, Nat.reduceSub, eq_self, hbx]; with_reducible exact hC); refine gc ?_) | refine gm ?_)
    obtain ⟨T2, s2, a2⟩ := new1 (T := T1) s1.ok (κ, 0, 0) (.cells [.int .i64 (.ofNat id), .int .i64 (.ofNat a), .int .i64 (.ofNat b), .bool false, .int .i64 (.ofNat 0), .int .i64 (.ofNat 0), .ptr ps 0, .nils] 1)
    exact hQ _ T2 _ ((s1.mono fun u h => o67 (oT6 h)).trans (s2.mono fun _ h => h.elim)) ⟨ps, .nils, a2, S1.step s2 (fun _ _ h => h), RT.nil⟩

theorem clear_ev (κ : Nat) (T : Tags) (H : Heap) (p : Nat) (s : Sw) (h : SW κ T H p s) (hs : s.Rt) (Q : AV → Heap → Prop)
    (hQ : ∀ T' H', Stp (fun u => κ ≤ u.1 ∧ u.1 ≤ κ + 3) T H T' H' → SW κ T' H' p s.clear → Q (.tup []) H') : Eo lib n_slot_Slot_clear [.ptr p 0] H Q := by
  refine Eo.ok fun hOk => ?_
  refine Eo.code at_slot_Slot_clear rfl ?_
  obtain ⟨ps, vd, S⟩ := h
  have hg := S.head.1
  iterate 2 repeat (first | ((first | apply Xk.sAny | apply Xk.tAny); (case hok => rfl); (case h => intro C hC; simp (disch := omega) only [w1, ↓reduceIte, Nat.reduceEqDiff, Nat.reduceLeDiff, Nat.reduceAdd, Nat.reduceSub, hg]; with_reducible exact hC); refine gc ?_) | refine gm ?_)
  refine iNew_ev (κ + 1) T H (.ofNat s.a) (.ofNat s.b) _ (fun hb => ?_) (fun a' b' h1 h2 _ _ _ _ ps1 T1 H1 s1 S1 => ?_)
  · exfalso
    have e1 : Int.ofNat s.a = (s.a : Int) := rfl
    have e2 : Int.ofNat s.b = (s.b : Int) := rfl
    have := hs.a1
    have := hs.a2
    have := hs.b1
    have := hs.b2
    omega
  · obtain rfl := Int.ofNat.inj h1
    obtain rfl := Int.ofNat.inj h2
    have h1 := S.head.step s1 noT
    have hg1 := h1.1
    iterate 3 repeat (first | ((first | apply Xk.sAny | apply Xk.tAny); (case hok => rfl); (case h => intro C hC; simp (disch := omega) only [w1, ↓reduceIte, Nat.reduceEqDiff, Nat.reduceLeDiff, Nat.reduceAdd, Nat.reduceSub, hg1]; with_reducible exact hC); refine gc ?_) | refine gm ?_)
    have s2 := h1.stp1 s1.ok (.cells [.int .i64 s.id, .int .i64 (.ofNat s.a), .int .i64 (.ofNat s.b), .bool s.on, .int .i64 s.inc, .int .i64 (.ofNat 0), .ptr ps1 0, .nils] 1)
    exact hQ T1 _ ((s1.mono fun u h => ⟨by have := h.1; omega, by have := h.2; omega⟩).trans (s2.mono fun u h => by rw [h]; exact ⟨Nat.le_refl _, by dsimp only; omega⟩)) ⟨ps1, .nils, h1.put _, S1.step s2 (fun t ht => noT0 ht), RT.nil⟩

def ansR (id : Int) (f : Fr) : Fr := ⟨.ofNat 6, id, f.inc, f.rid, .ofNat 0, .ofNat 0, [], .ofNat 0, []⟩
def Sw.begun (s : Sw) (f : Fr) : Sw := { s.clear with on := true, inc := f.inc }
abbrev Or (κ : Nat) : Tg → Prop := fun u => κ ≤ u.1 ∧ u.1 ≤ κ + 6
theorem orn {κ a b : Nat} : ¬ Or κ (κ + 7, a, b) := by rintro ⟨_, h⟩; dsimp only at h; omega
theorem or3 {κ a b : Nat} : ¬ ((κ + 6, a, b) : Tg).1 ≤ κ + 3 := by dsimp only; omega

theorem reset_ev (κ : Nat) (T : Tags) (H : Heap) (p : Nat) (s : Sw) (h : SW κ T H p s) (hs : s.Rt) (f : Fr) (hi : s.inc < f.inc) (Q : AV → Heap → Prop)
    (hQ : ∀ T' H', Stp (Or κ) T H T' H' → SW κ T' H' p (s.begun f) → Q (.tup [.agg (ansR s.id f).cells, .bool true]) H') : Eo lib n_slot_Slot_reset [.ptr p 0, .agg f.cells] H Q := by
  refine Eo.ok fun hOk => ?_
  refine Eo.code at_slot_Slot_reset rfl ?_
  have hbx : nBox [.int .i64 f.kind, .int .i64 f.slot, .int .i64 f.inc, .int .i64 f.rid, .int .i64 f.floor, .int .i64 f.role, .str f.key, .int .i64 f.ver, .str f.data] = some (.cells [.int .i64 f.kind, .int .i64 f.slot, .int .i64 f.inc, .int .i64 f.rid, .int .i64 f.floor, .int .i64 f.role, .str f.key, .int .i64 f.ver, .str f.data] 1, ptrTo) := box_fr f
  have hfc : f.cells = [.int .i64 f.kind, .int .i64 f.slot, .int .i64 f.inc, .int .i64 f.rid, .int .i64 f.floor, .int .i64 f.role, .str f.key, .int .i64 f.ver, .str f.data] := rfl
  obtain ⟨T1, s1, af, ar⟩ := new2 (T := T) hOk (κ + 6, 0, 0) (κ + 6, 1, 0) (.cells [.int .i64 f.kind, .int .i64 f.slot, .int .i64 f.inc, .int .i64 f.rid, .int .i64 f.floor, .int .i64 f.role, .str f.key, .int .i64 f.ver, .str f.data] 1) (.cells [.int .i64 (.ofNat 0), .int .i64 (.ofNat 0), .int .i64 (.ofNat 0), .int .i64 (.ofNat 0), .int .i64 (.ofNat 0), .int .i64 (.ofNat 0), .str [], .int .i64 (.ofNat 0), .str []] 1)
  have W1 := h.step s1 (fun _ _ h => h)
  rw [hfc]
  iterate 2 repeat (first | ((first | apply Xk.sAny | apply Xk.tAny); (case hok => rfl); (case h => intro C hC; simp (disch := omega) only [w1, ↓reduceIte, Nat.reduceEqDiff, Nat.reduceLeDiff, Nat.reduceAdd, Nat.reduceSub, hbx]; with_reducible exact hC); refine gc ?_) | refine gm ?_)
  generalize (H.new (.cells [.int .i64 f.kind, .int .i64 f.slot, .int .i64 f.inc, .int .i64 f.rid, .int .i64 f.floor, .int .i64 f.role, .str f.key, .int .i64 f.ver, .str f.data] 1)).new (.cells [.int .i64 (.ofNat 0), .int .i64 (.ofNat 0), .int .i64 (.ofNat 0), .int .i64 (.ofNat 0), .int .i64 (.ofNat 0), .int .i64 (.ofNat 0), .str [], .int .i64 (.ofNat 0), .str []] 1) = H1 at s1 af ar W1 ⊢
  generalize H.next + 1 = pr at ar ⊢
  generalize H.next = pf at af ⊢
  have hgf := af.1
  have hg1 : ∃ ps vd, H1.get p = some (.cells [.int .i64 s.id, .int .i64 (.ofNat s.a), .int .i64 (.ofNat s.b), .bool s.on, .int .i64 s.inc, .int .i64 s.floor, .ptr ps 0, vd] 1) := by
    obtain ⟨ps, vd, S⟩ := W1
    exact ⟨ps, vd, S.head.1⟩
  obtain ⟨ps, vd, hg1⟩ := hg1
  have ci := eq_true hi
  iterate 2 repeat (first | ((first | apply Xk.sAny | apply Xk.tAny); (case hok => rfl); (case h => intro C hC; simp (disch := omega) only [w1, ↓reduceIte, Nat.reduceEqDiff, Nat.reduceLeDiff, Nat.reduceAdd, Nat.reduceSub, hgf, hg1, ci]; with_reducible exact hC); refine gc ?_) | refine gm ?_)
  refine clear_ev κ T1 H1 p s W1 hs _ fun T2 H2 s2 W2 => ?_
  obtain ⟨ps2, vd2, S2⟩ := W2
  have af2 := af.step s2 (fun h => or3 h.2)
  have ar2 := ar.step s2 (fun h => or3 h.2)
  have hgf2 := af2.1
  have hg2 : H2.get p = some (.cells [.int .i64 s.id, .int .i64 (.ofNat s.a), .int .i64 (.ofNat s.b), .bool s.on, .int .i64 s.inc, .int .i64 (.ofNat 0), .ptr ps2 0, vd2] 1) := S2.head.1
  have s3 := S2.head.stp1 s2.ok (.cells [.int .i64 s.id, .int .i64 (.ofNat s.a), .int .i64 (.ofNat s.b), .bool true, .int .i64 f.inc, .int .i64 (.ofNat 0), .ptr ps2 0, vd2] 1)
  have hpf : p ≠ pf := S2.head.ne af2 (by intro h; injection h with h; omega)
  have hpr : p ≠ pr := S2.head.ne ar2 (by intro h; injection h with h; omega)
  have n06 : ∀ a b, ¬ ((κ + 6, a, b) : Tg) = (κ, 0, 0) := fun a b h => by injection h with h; omega
  have af3 := af2.step s3 (n06 _ _)
  have ar3 := ar2.step s3 (n06 _ _)
  have hgr3 := ar3.1
  have hgf3 := af3.1
  have hgfp : pf ≠ p := Ne.symm hpf
  repeat (first | ((first | apply Xk.sAny | apply Xk.tAny); (case hok => rfl); (case h => intro C hC; simp (disch := omega) only [w1, ↓reduceIte, Nat.reduceEqDiff, Nat.reduceLeDiff, Nat.reduceAdd, Nat.reduceSub, hg2, hgf2, hgfp, eq_self]; with_reducible exact hC); refine gc ?_) | refine gm ?_)
  iterate 2 repeat (first | ((first | apply Xk.sAny | apply Xk.tAny); (case hok => rfl); (case h => intro C hC; simp (disch := omega) only [w1, ↓reduceIte, Nat.reduceEqDiff, Nat.reduceLeDiff, Nat.reduceAdd, Nat.reduceSub, hg2, hgf2, hgfp, hgr3, hgf3, eq_self]; with_reducible exact hC); refine gc ?_) | refine gm ?_)
  refine ret_cell (p := pr) (t1 := 4) (t2 := 5) rfl rfl (load_agg (Heap.get_put_self _ _ _) rfl) rfl rfl ?_
  have s4 := ar3.stp1 s3.ok (.cells (ansR s.id f).cells 1)
  have W3 : SW κ T2 (H2.put p (.cells [.int .i64 s.id, .int .i64 (.ofNat s.a), .int .i64 (.ofNat s.b), .bool true, .int .i64 f.inc, .int .i64 (.ofNat 0), .ptr ps2 0, vd2] 1)) p (s.begun f) := ⟨ps2, vd2, S2.head.put _, S2.store.step s3 (fun t ht => noT0 ht), S2.row.step s3 (tg3 (by decide))⟩
  exact hQ T2 _ ((((s1.mono fun _ h => h.elim).trans (s2.mono fun u h => ⟨h.1, by have := h.2; omega⟩)).trans (s3.mono fun u h => by rw [h]; exact ⟨Nat.le_refl _, by dsimp only; omega⟩)).trans (s4.mono fun u h => by rw [h]; exact ⟨by dsimp only; omega, Nat.le_refl _⟩)) (W3.step s4 (fun t ht => n6 ht))

theorem Take_reset_ev (κ : Nat) (T : Tags) (H : Heap) (p : Nat) (s : Sw) (h : SW κ T H p s) (f : Fr) (hs : s.Rt) (hr : rightB f = true) (h5 : f.kind = .ofNat 5) (hid : f.slot = s.id) (hi : s.inc < f.inc) (Q : AV → Heap → Prop)
    (hQ : ∀ T' H', Stp (O7 κ) T H T' H' → SW κ T' H' p (s.begun f) → Q (.tup [.agg (ansR s.id f).cells, .bool true]) H') : Eo lib n_slot_Slot_Take [.ptr p 0, .agg f.cells] H Q := by
  refine Eo.ok fun hOk => ?_
  refine Eo.code at_slot_Slot_Take rfl ?_
  obtain ⟨ps, vd, S⟩ := h
  have hbx : nBox [.int .i64 f.kind, .int .i64 f.slot, .int .i64 f.inc, .int .i64 f.rid, .int .i64 f.floor, .int .i64 f.role, .str f.key, .int .i64 f.ver, .str f.data] = some (.cells [.int .i64 f.kind, .int .i64 f.slot, .int .i64 f.inc, .int .i64 f.rid, .int .i64 f.floor, .int .i64 f.role, .str f.key, .int .i64 f.ver, .str f.data] 1, ptrTo) := box_fr f
  have hbp : nBox [.ptr p 0] = some (.cells [.ptr p 0] 1, ptrTo) := rfl
  have hfc : f.cells = [.int .i64 f.kind, .int .i64 f.slot, .int .i64 f.inc, .int .i64 f.rid, .int .i64 f.floor, .int .i64 f.role, .str f.key, .int .i64 f.ver, .str f.data] := rfl
  obtain ⟨T1, s1, ap, af, ar⟩ := new3 (T := T) hOk (κ + 7, 0, 0) (κ + 7, 1, 0) (κ + 7, 2, 0) (.cells [.ptr p 0] 1) (.cells [.int .i64 f.kind, .int .i64 f.slot, .int .i64 f.inc, .int .i64 f.rid, .int .i64 f.floor, .int .i64 f.role, .str f.key, .int .i64 f.ver, .str f.data] 1) (.cells [.int .i64 (.ofNat 0), .int .i64 (.ofNat 0), .int .i64 (.ofNat 0), .int .i64 (.ofNat 0), .int .i64 (.ofNat 0), .int .i64 (.ofNat 0), .str [], .int .i64 (.ofNat 0), .str []] 1)
  have S1 := S.step s1 (fun h => h) (fun h => h) (fun _ _ h => h)
  have hst1 : Stp (O7 κ) T H T1 _ := s1.mono fun _ h => h.elim
  have haf := af.1
  rw [hfc]
  repeat (first | ((first | apply Xk.sAny | apply Xk.tAny); (case hok => rfl); (case h => intro C hC; simp (disch := omega) only [w1, ↓reduceIte, Nat.reduceEqDiff, Nat.reduceLeDiff, Nat.reduceAdd, Nat.reduceSub, hbx, hbp]; with_reducible exact hC); refine gc ?_) | refine gm ?_)
  repeat (first | ((first | apply Xk.sAny | apply Xk.tAny); (case hok => rfl); (case h => intro C hC; simp (disch := omega) only [w1, ↓reduceIte, Nat.reduceEqDiff, Nat.reduceLeDiff, Nat.reduceAdd, Nat.reduceSub, hbx, hbp, haf]; with_reducible exact hC); refine gc ?_) | refine gm ?_)
  generalize ((H.new (.cells [.ptr p 0] 1)).new (.cells [.int .i64 f.kind, .int .i64 f.slot, .int .i64 f.inc, .int .i64 f.rid, .int .i64 f.floor, .int .i64 f.role, .str f.key, .int .i64 f.ver, .str f.data] 1)).new (.cells [.int .i64 (.ofNat 0), .int .i64 (.ofNat 0), .int .i64 (.ofNat 0), .int .i64 (.ofNat 0), .int .i64 (.ofNat 0), .int .i64 (.ofNat 0), .str [], .int .i64 (.ofNat 0), .str []] 1) = H1 at s1 ap af ar S1 hst1 haf ⊢
  have epr : H.next + 1 + 1 = H.next + 2 := rfl
  rw [epr]
  generalize H.next + 2 = pr at ar ⊢
  generalize H.next + 1 = pf at af haf ⊢
  generalize H.next = pb at ap ⊢
  refine Right_ev f H1 _ fun H2 hO2 hle2 => ?_
  have s2 : Stp (fun _ => False) T1 H1 T1 H2 := Stp.le hO2 hle2
  have S2 := S1.step s2 (fun h => h) (fun h => h) (fun _ _ h => h)
  have ap2 := ap.step s2 (fun h => h)
  have af2 := af.step s2 (fun h => h)
  have ar2 := ar.step s2 (fun h => h)
  have hst2 : Stp (O7 κ) T H T1 H2 := hst1.trans (s2.mono fun _ h => h.elim)
  clear S S1 s1 s2 ap af ar haf hle2
  have hg := S2.head.1
  have hgb := ap2.1
  have hgf := af2.1
  have hgr := ar2.1
  have c6' : (Int.ofNat 6 ≤ f.kind) = False := by rw [h5]; exact eq_false (by decide)
  have h5' := eq_true h5
  have cs' := eq_true hid
  rw [hr]
  iterate 2 repeat (first | ((first | apply Xk.sAny | apply Xk.tAny); (case hok => rfl); (case h => intro C hC; simp (disch := omega) only [w1, ↓reduceIte, Nat.reduceEqDiff, Nat.reduceLeDiff, Nat.reduceAdd, Nat.reduceSub, hgf, c6', hgb, hg, cs', h5']; with_reducible exact hC); refine gc ?_) | refine gm ?_)
  refine reset_ev κ T1 H2 p s ⟨ps, vd, S2⟩ hs f hi _ fun T3 H3 s3 W3 => ?_
  have ar3 := ar2.step s3 orn
  have hgr3 := ar3.1
  show Xk lib _ _ (kput _ _ (.tup [.agg [.int .i64 (.ofNat 6), .int .i64 s.id, .int .i64 f.inc, .int .i64 f.rid, .int .i64 (.ofNat 0), .int .i64 (.ofNat 0), .str [], .int .i64 (.ofNat 0), .str []], .bool true])) H3 _
  iterate 2 repeat (first | ((first | apply Xk.sAny | apply Xk.tAny); (case hok => rfl); (case h => intro C hC; simp (disch := omega) only [w1, ↓reduceIte, Nat.reduceEqDiff, Nat.reduceLeDiff, Nat.reduceAdd, Nat.reduceSub, hgr3]; with_reducible exact hC); refine gc ?_) | refine gm ?_)
  refine ret_cell (p := pr) (t1 := 4) (t2 := 5) rfl rfl (load_agg (Heap.get_put_self _ _ _) rfl) rfl rfl ?_
  have s4 := ar3.stp1 s3.ok (.cells (ansR s.id f).cells 1)
  exact hQ T3 _ ((hst2.trans (s3.mono fun u h => ⟨h.1, by have := h.2; omega⟩)).trans (s4.mono fun u h => by rw [h]; exact o7)) (W3.step s4 (fun t ht => m7 ht))
end Go.Proofs.Ytihoblfmhighpaa
