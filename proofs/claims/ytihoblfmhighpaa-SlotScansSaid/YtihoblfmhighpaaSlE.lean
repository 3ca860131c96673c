/- The slot: a frame is taken. Conditions: none. -/
import Derived.Test.YtihoblfmhighpaaSlD
namespace Go.Proofs.Ytihoblfmhighpaa
open Go.Dp
set_option linter.unusedSimpArgs false
set_option linter.unusedVariables false
set_option maxHeartbeats 400000
set_option maxRecDepth 8000
attribute [local irreducible] Ex.thnK Ex.inK Ret

theorem Take_req_ev (κ : Nat) (T : Tags) (H : Heap) (p : Nat) (s : Sw) (h : SW κ T H p s) (f : Fr) (hr : rightB f = true) (h6 : f.kind < .ofNat 6) (h5 : f.kind ≠ .ofNat 5) (hs : f.slot = s.id) (hon : s.on = true) (hi : f.inc = s.inc) (hrf : ¬ f.rid < s.floor) (hfl : ¬ s.floor < f.floor) (hdl : s.done.length ≤ 100000)
    (R : Fr → St → Prop) (hdo : ∀ T' H' (Q' : AV → Heap → Prop), SW κ T' H' p s → (∀ a st' T'' H'', R a st' → Stp (O6 κ) T' H' T'' H'' → SW κ T'' H'' p { s with st := st' } → Q' (.agg a.cells) H'') → Eo lib n_slot_Slot_do [.ptr p 0, .agg f.cells] H' Q') (Q : AV → Heap → Prop)
    (hold : ∀ d pre post, s.done = pre ++ d :: post → (∀ x ∈ pre, x.rid ≠ f.rid) → d.rid = f.rid → ∀ T' H', Stp (O7 κ) T H T' H' → SW κ T' H' p s → Q (.tup [.agg d.f.cells, .bool true]) H')
    (hnew : (∀ d ∈ s.done, d.rid ≠ f.rid) → ∀ a st' T' H', R a st' → Stp (O7 κ) T H T' H' → SW κ T' H' p { s with st := st', done := s.done ++ [⟨f.rid, a⟩] } → Q (.tup [.agg a.cells, .bool true]) H') : Eo lib n_slot_Slot_Take [.ptr p 0, .agg f.cells] H Q := by
  refine Eo.ok fun hOk => ?_
  refine Eo.code at_slot_Slot_Take rfl ?_
  obtain ⟨ps, vd, S⟩ := h
  have hbx : nBox [.int .i64 f.kind, .int .i64 f.slot, .int .i64 f.inc, .int .i64 f.rid, .int .i64 f.floor, .int .i64 f.role, .str f.key, .int .i64 f.ver, .str f.data] = some (.cells [.int .i64 f.kind, .int .i64 f.slot, .int .i64 f.inc, .int .i64 f.rid, .int .i64 f.floor, .int .i64 f.role, .str f.key, .int .i64 f.ver, .str f.data] 1, ptrTo) := box_fr f
  have hbp : nBox [.ptr p 0] = some (.cells [.ptr p 0] 1, ptrTo) := rfl
  have hfc : f.cells = [.int .i64 f.kind, .int .i64 f.slot, .int .i64 f.inc, .int .i64 f.rid, .int .i64 f.floor, .int .i64 f.role, .str f.key, .int .i64 f.ver, .str f.data] := rfl
  obtain ⟨T1, s1, ap, af, ar⟩ := new3 (T := T) hOk (κ + 7, 0, 0) (κ + 7, 1, 0) (κ + 7, 2, 0) (.cells [.ptr p 0] 1) (.cells [.int .i64 f.kind, .int .i64 f.slot, .int .i64 f.inc, .int .i64 f.rid, .int .i64 f.floor, .int .i64 f.role, .str f.key, .int .i64 f.ver, .str f.data] 1) (.cells [.int .i64 (.ofNat 0), .int .i64 (.ofNat 0), .int .i64 (.ofNat 0), .int .i64 (.ofNat 0), .int .i64 (.ofNat 0), .int .i64 (.ofNat 0), .str [], .int .i64 (.ofNat 0), .str []] 1)
  have S1 := S.step s1 (fun h => h) (fun h => h) (fun _ _ h => h)
  have hst1 : Stp (O7 κ) T H T1 _ := s1.mono fun _ h => h.elim
  have haf := af.1
  rw [hfc]
  repeat (first | ((first | apply Xk.sAny | apply Xk.tAny); (case hok => rfl); (case h => intro C hC; simp (disch := omega) only [w1, ↓reduceIte, Nat.reduceEqDiff, Nat.reduceLeDiff, Nat.reduceAdd, Nat.reduceSub, hbx, hbp]; with_reducible exact hC); refine gc ?_) | refine gm ?_)
  repeat (first | ((first | apply Xk.sAny | apply Xk.tAny); (case hok => rfl); (case h => intro C hC; simp (disch := omega) only [w1, ↓reduceIte, Nat.reduceEqDiff, Nat.reduceLeDiff, Nat.reduceAdd, Nat.reduceSub, hbx, hbp, haf]; with_reducible exact hC); refine gc ?_) | refine gm ?_)
  generalize ((H.new (.cells [.ptr p 0] 1)).new (.cells [.int .i64 f.kind, .int .i64 f.slot, .int .i64 f.inc, .int .i64 f.rid, .int .i64 f.floor, .int .i64 f.role, .str f.key, .int .i64 f.ver, .str f.data] 1)).new (.cells [.int .i64 (.ofNat 0), .int .i64 (.ofNat 0), .int .i64 (.ofNat 0), .int .i64 (.ofNat 0), .int .i64 (.ofNat 0), .int .i64 (.ofNat 0), .str [], .int .i64 (.ofNat 0), .str []] 1) = H1 at s1 ap af ar S1 hst1 haf ⊢
  have epr : H.next + 1 + 1 = H.next + 2 := rfl
  rw [epr]
  generalize H.next + 2 = pr at ar ⊢
  generalize H.next + 1 = pf at af haf ⊢
  generalize H.next = pb at ap ⊢
  refine Right_ev f H1 _ fun H2 hO2 hle2 => ?_
  have s2 : Stp (fun _ => False) T1 H1 T1 H2 := Stp.le hO2 hle2
  have S2 := S1.step s2 (fun h => h) (fun h => h) (fun _ _ h => h)
  have ap2 := ap.step s2 (fun h => h)
  have af2 := af.step s2 (fun h => h)
  have ar2 := ar.step s2 (fun h => h)
  have hst2 : Stp (O7 κ) T H T1 H2 := hst1.trans (s2.mono fun _ h => h.elim)
  clear S S1 s1 s2 ap af ar haf hle2
  have hg := S2.head.1
  have hgb := ap2.1
  have hgf := af2.1
  have hgr := ar2.1
  have c6' : (Int.ofNat 6 ≤ f.kind) = False := eq_false (Int.not_le.2 h6)
  have h5' : (f.kind = Int.ofNat 5) = False := eq_false h5
  have cs' := eq_true hs
  have ci' := eq_true hi
  have cf' := eq_false hrf
  have cl' := eq_false hfl
  rw [hon] at hg
  rw [hr]
  obtain ⟨vl, v1, v2⟩ := RT.lensG (g := Dd.cells) (fun _ => rfl) S2.row (by decide)
  iterate 3 repeat (first | ((first | apply Xk.sAny | apply Xk.tAny); (case hok => rfl); (case h => intro C hC; simp (disch := omega) only [w1, ↓reduceIte, Nat.reduceEqDiff, Nat.reduceLeDiff, Nat.reduceAdd, Nat.reduceSub, hgf, c6', hgb, hg, cs', h5', ci', cf', cl', vl, v1, v2]; with_reducible exact hC); refine gc ?_) | refine gm ?_)
  refine Xk.iter [2, 3, 4, 91, 92, 93] (fun m k H' => ∃ i, m = s.done.length - i ∧ i ≤ s.done.length ∧ k = [(2, .ptr pb 0), (3, .ptr pf 0), (4, .ptr pr 0), (91, vd), (92, .int .i64 (.ofNat s.done.length)), (93, .int .i64 (.ofNat i))] ∧ (∀ x ∈ s.done.take i, x.rid ≠ f.rid) ∧ H'.Ok ∧ HLe H2 H') rfl
    ⟨_, 0, rfl, Nat.zero_le _, rfl, (fun x hx => by cases hx), hO2, HLe.refl _⟩ ?_
  rintro m k H3 ⟨i, rfl, hil, rfl, hne, hO3, hle3⟩
  unfold l0_slot_Slot_Take
  have s3 : Stp (fun _ => False) T1 H2 T1 H3 := Stp.le hO3 hle3
  have hst3 : Stp (O7 κ) T H T1 H3 := hst2.trans (s3.mono fun _ h => h.elim)
  have S3 := S2.step s3 (fun h => h) (fun h => h) (fun _ _ h => h)
  have ap3 := ap2.step s3 (fun h => h)
  have af3 := af2.step s3 (fun h => h)
  have ar3 := ar2.step s3 (fun h => h)
  by_cases c : i < s.done.length
  · obtain ⟨bc, cl, rfl, hgc, _, _, _, hrow⟩ := RT.rowG (g := Dd.cells) (fun _ => rfl) noDd S3.row (by omega) (by decide)
    obtain ⟨c1, rest, c2⟩ := hrow i c
    have d10 : (cl.drop (i * 10)).take 10 = (s.done.getD i noDd).cells := by rw [c2]; exact List.take_left' rfl
    have hsp : s.done = s.done.take i ++ s.done.getD i noDd :: s.done.drop (i + 1) := by
      rw [List.getD_eq_getElem?_getD, List.getElem?_eq_getElem c]
      show s.done = s.done.take i ++ s.done[i] :: s.done.drop (i + 1)
      rw [← List.drop_eq_getElem_cons c, List.take_append_drop]
    have hsn : s.done.take (i + 1) = s.done.take i ++ [s.done.getD i noDd] := by
      rw [List.take_add_one, List.getD_eq_getElem?_getD, List.getElem?_eq_getElem c]
      rfl
    have hho := hold (s.done.getD i noDd) _ _ hsp hne
    generalize s.done.getD i noDd = dx at d10 hsn hho
    obtain ⟨dr, dk, ds, di, dq, dl, dp, dy, dv, dd⟩ := dx
    have d10 : (cl.drop (i * 10)).take 10 = [.int .i64 dr, .int .i64 dk, .int .i64 ds, .int .i64 di, .int .i64 dq, .int .i64 dl, .int .i64 dp, .str dy, .int .i64 dv, .str dd] := d10
    have hO4 := hO3.new (.cells [.int .i64 dr, .int .i64 dk, .int .i64 ds, .int .i64 di, .int .i64 dq, .int .i64 dl, .int .i64 dp, .str dy, .int .i64 dv, .str dd] 1)
    have hle4 := HLe.new (hO3 _ (Nat.le_refl _)) (.cells [.int .i64 dr, .int .i64 dk, .int .i64 ds, .int .i64 di, .int .i64 dq, .int .i64 dl, .int .i64 dp, .str dy, .int .i64 dv, .str dd] 1)
    have s4 : Stp (fun _ => False) T1 H3 T1 (H3.new (.cells [.int .i64 dr, .int .i64 dk, .int .i64 ds, .int .i64 di, .int .i64 dq, .int .i64 dl, .int .i64 dp, .str dy, .int .i64 dv, .str dd] 1)) := Stp.le hO4 hle4
    have hgn := Heap.get_new_self H3 (.cells [.int .i64 dr, .int .i64 dk, .int .i64 ds, .int .i64 di, .int .i64 dq, .int .i64 dl, .int .i64 dp, .str dy, .int .i64 dv, .str dd] 1)
    have hgf4 := hle4 _ _ af3.1
    have ar4 := ar3.step s4 (fun h => h)
    have hgr4 := ar4.1
    by_cases e : dr = f.rid
    · have e' := eq_true e
      iterate 3 repeat (first | ((first | apply Xk.sAny | apply Xk.tAny); (case hok => rfl); (case h => intro C hC; simp (disch := omega) only [w1, ↓reduceIte, Nat.reduceEqDiff, Nat.reduceLeDiff, Nat.reduceAdd, Nat.reduceSub, c, hgc, c1, d10, hgf4, e', hgr4]; with_reducible exact hC); refine gc ?_) | refine gm ?_)
      refine ret_cell (p := pr) (t1 := 4) (t2 := 5) rfl rfl (load_agg (Heap.get_put_self _ _ _) rfl) rfl rfl ?_
      have s5 := ar4.stp1 hO4 (.cells [.int .i64 dk, .int .i64 ds, .int .i64 di, .int .i64 dq, .int .i64 dl, .int .i64 dp, .str dy, .int .i64 dv, .str dd] 1)
      refine hho e T1 _ ((hst3.trans (s4.mono fun _ h => h.elim)).trans (s5.mono fun u h => by rw [h]; exact o7)) ?_
      exact (SW.step (p := p) (s := s) ⟨ps, _, S3⟩ s4 (fun _ _ h => h)).step s5 (fun t ht => m7 ht)
    · have e' := eq_false e
      iterate 3 repeat (first | ((first | apply Xk.sAny | apply Xk.tAny); (case hok => rfl); (case h => intro C hC; simp (disch := omega) only [w1, ↓reduceIte, Nat.reduceEqDiff, Nat.reduceLeDiff, Nat.reduceAdd, Nat.reduceSub, c, hgc, c1, d10, hgf4, e', hgr4]; with_reducible exact hC); refine gc ?_) | refine gm ?_)
      refine ⟨rfl, _, by omega, i + 1, rfl, by omega, rfl, fun x hx => ?_, hO4, hle3.trans hle4⟩
      rw [hsn] at hx
      rcases List.mem_append.1 hx with h | h
      · exact hne x h
      · rw [List.mem_singleton] at h
        rw [h]
        exact e
  · obtain rfl : i = s.done.length := by omega
    rw [List.take_length] at hne
    have hgf3 := af3.1
    have hgb3 := ap3.1
    have hgr3 := ar3.1
    iterate 2 repeat (first | ((first | apply Xk.sAny | apply Xk.tAny); (case hok => rfl); (case h => intro C hC; simp (disch := omega) only [w1, ↓reduceIte, Nat.reduceEqDiff, Nat.reduceLeDiff, Nat.reduceAdd, Nat.reduceSub, c, hgf3, hgb3]; with_reducible exact hC); refine gc ?_) | refine gm ?_)
    refine hdo T1 H3 _ ⟨ps, vd, S3⟩ fun a st' T4 H4 hR s4 W4 => ?_
    obtain ⟨ps3, vd3, S4⟩ := W4
    have ap4 := ap3.step s4 m6
    have af4 := af3.step s4 m6
    have ar4 := ar3.step s4 m6
    have hn := hnew hne a st'
    obtain ⟨u1, u2, u3, u4, u5, u6, u7, u8, u9⟩ := a
    obtain ⟨T5, s5, a8⟩ := new1 (T := T4) s4.ok (κ + 7, 3, 0) (.cells [.int .i64 u1, .int .i64 u2, .int .i64 u3, .int .i64 u4, .int .i64 u5, .int .i64 u6, .str u7, .int .i64 u8, .str u9] 1)
    have S5 := S4.step s5 (fun h => h) (fun h => h) (fun _ _ h => h)
    have ap5 := ap4.step s5 (fun h => h)
    have af5 := af4.step s5 (fun h => h)
    have ar5 := ar4.step s5 (fun h => h)
    have hst5 : Stp (O7 κ) T H T5 _ := (hst3.trans (s4.mono fun u h => o67 h)).trans (s5.mono fun _ h => h.elim)
    show Xk lib _ _ (kput _ _ (.agg [.int .i64 u1, .int .i64 u2, .int .i64 u3, .int .i64 u4, .int .i64 u5, .int .i64 u6, .str u7, .int .i64 u8, .str u9])) H4 _
    iterate 2 repeat (first | ((first | apply Xk.sAny | apply Xk.tAny); (case hok => rfl); (case h => intro C hC; simp (disch := omega) only [w1, ↓reduceIte, Nat.reduceEqDiff, Nat.reduceLeDiff, Nat.reduceAdd, Nat.reduceSub]; with_reducible exact hC); refine gc ?_) | refine gm ?_)
    generalize H4.new (.cells [.int .i64 u1, .int .i64 u2, .int .i64 u3, .int .i64 u4, .int .i64 u5, .int .i64 u6, .str u7, .int .i64 u8, .str u9] 1) = H5 at s5 a8 S5 ap5 af5 ar5 hst5 ⊢
    generalize H4.next = p8 at a8 ⊢
    have hfl : (s.done.flatMap Dd.cells).length = s.done.length * 10 := fm_len (g := Dd.cells) (fun _ => rfl) s.done
    have row5 : RT T5 H5 (κ, 1, 0) 0 10 vd3 (s.done.flatMap Dd.cells) := S5.row
    obtain ⟨v9, H6, T6, f1, f2, f3⟩ := RT.push (bytes := 96) (w := 1) (row := [.int .i64 f.rid, .int .i64 u1, .int .i64 u2, .int .i64 u3, .int .i64 u4, .int .i64 u5, .int .i64 u6, .str u7, .int .i64 u8, .str u9]) s5.ok row5 rfl rfl (by decide) (by rw [hfl, Nat.mul_div_cancel _ (by decide)]; omega) (by rw [hfl, Nat.mul_div_cancel _ (by decide)]; omega)
    obtain ⟨q1, q2⟩ := f3.sc
    have h6 := S5.head.step f2 (tg3 (by decide))
    have ap6 := ap5.step f2 m0
    have ar6 := ar5.step f2 m0
    have a86 := a8.step f2 m0
    have s7 := h6.stp1 f2.ok (.cells [.int .i64 s.id, .int .i64 (.ofNat s.a), .int .i64 (.ofNat s.b), .bool s.on, .int .i64 s.inc, .int .i64 s.floor, .ptr ps3 0, v9] 1)
    have ar7 := ar6.step s7 m0
    have a87 := a86.step s7 m0
    have hg5 := S5.head.1
    have hgb5 := ap5.1
    have hgf5 := af5.1
    have hg85 := a8.1
    have hg6 := h6.1
    have hgb6 := ap6.1
    have hg87 := a87.1
    have hgr7 := ar7.1
    have hg5 : H5.get p = some (.cells [.int .i64 s.id, .int .i64 (.ofNat s.a), .int .i64 (.ofNat s.b), .bool s.on, .int .i64 s.inc, .int .i64 s.floor, .ptr ps3 0, vd3] 1) := hg5
    have hg6 : H6.get p = some (.cells [.int .i64 s.id, .int .i64 (.ofNat s.a), .int .i64 (.ofNat s.b), .bool s.on, .int .i64 s.inc, .int .i64 s.floor, .ptr ps3 0, vd3] 1) := hg6
    have hgb5' : ∀ w, (H5.new w).get pb = some (.cells [.ptr p 0] 1) := fun w => by rw [Heap.get_new_ne _ _ (Nat.ne_of_lt (ap5.lt s5.ok))]; exact hgb5
    obtain ⟨vs1, vs2⟩ := row5.sc
    repeat (first | ((first | apply Xk.sAny | apply Xk.tAny); (case hok => rfl); (case h => intro C hC; simp (disch := omega) only [w1, ↓reduceIte, Nat.reduceEqDiff, Nat.reduceLeDiff, Nat.reduceAdd, Nat.reduceSub, hg5, hgb5, hgf5, hg85, vs1, vs2, f1, q1, q2, hgb6, hg6, hgb5']; with_reducible exact hC); refine gc ?_) | refine gm ?_)
    iterate 2 repeat (first | ((first | apply Xk.sAny | apply Xk.tAny); (case hok => rfl); (case h => intro C hC; simp (disch := omega) only [w1, ↓reduceIte, Nat.reduceEqDiff, Nat.reduceLeDiff, Nat.reduceAdd, Nat.reduceSub, hg5, hgb5, hgf5, hg85, vs1, vs2, f1, q1, q2, hgb6, hg6, hgb5', hg87, hgr7]; with_reducible exact hC); refine gc ?_) | refine gm ?_)
    refine ret_cell (p := pr) (t1 := 4) (t2 := 5) rfl rfl (load_agg (Heap.get_put_self _ _ _) rfl) rfl rfl ?_
    have s8 := ar7.stp1 s7.ok (.cells [.int .i64 u1, .int .i64 u2, .int .i64 u3, .int .i64 u4, .int .i64 u5, .int .i64 u6, .str u7, .int .i64 u8, .str u9] 1)
    have store6 := (S5.store.step f2 (fun t ht => noT0 ht)).step s7 (fun t ht => noT0 ht)
    have f3 : RT T6 H6 (κ, 1, 0) 0 10 v9 ((s.done ++ [(⟨f.rid, ⟨u1, u2, u3, u4, u5, u6, u7, u8, u9⟩⟩ : Dd)]).flatMap Dd.cells) := by
      rw [List.flatMap_append]
      exact f3
    have W7 : SW κ T6 (H6.put p (.cells [.int .i64 s.id, .int .i64 (.ofNat s.a), .int .i64 (.ofNat s.b), .bool s.on, .int .i64 s.inc, .int .i64 s.floor, .ptr ps3 0, v9] 1)) p { s with st := st', done := s.done ++ [⟨f.rid, ⟨u1, u2, u3, u4, u5, u6, u7, u8, u9⟩⟩] } := ⟨ps3, v9, h6.put _, store6, f3.step s7 (tg3 (by decide))⟩
    exact hn T6 _ hR (((hst5.trans (f2.mono fun u h => by rw [h]; exact o70)).trans (s7.mono fun u h => by rw [h]; exact o70)).trans (s8.mono fun u h => by rw [h]; exact o7)) (W7.step s8 (fun t ht => m7 ht))
end Go.Proofs.Ytihoblfmhighpaa
