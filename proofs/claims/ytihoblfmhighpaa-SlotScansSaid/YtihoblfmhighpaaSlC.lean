/- The slot: a request is done. Conditions: none. -/
import Derived.Test.YtihoblfmhighpaaSlQ
namespace Go.Proofs.Ytihoblfmhighpaa
open Go.Dp
set_option linter.unusedSimpArgs false
set_option linter.unusedVariables false
set_option maxHeartbeats 400000
set_option maxRecDepth 8000
attribute [local irreducible] Ex.thnK Ex.inK Ret

theorem ret_cell1 {k : Kn} {H : Heap} {t n p : Nat} {l : List AV} {Q : AV → Heap → Prop} (h1 : k.get t = .ptr p 0) (hl : rLoad H true n (.ptr p 0) = some (.agg l)) (ok : okRes [.cell t true n] k.keys = true) (hQ : Q (.agg l) H) : Ret [.cell t true n] Q .ret k H := by
  refine Ret.ret (vs := [.agg l]) ok ?_ rfl hQ
  simp only [resKs, resK, h1, hl]
def ansF (s : Sw) (f : Fr) (v : Int) (d : List UInt8) : Fr := ⟨.ofNat 6, s.id, s.inc, f.rid, .ofNat 0, f.role, f.key, v, d⟩
def verB (v : Int) (d : List UInt8) : List UInt8 := vi (zig v) ++ d
theorem verB_len (v : Int) (d : List UInt8) (h1 : -9223372036854775808 ≤ v) (h2 : v ≤ 9223372036854775807) : (verB v d).length ≤ d.length + 10 := by
  unfold verB
  have := vi_len10 (zig_lt h1 h2)
  rw [List.length_append]
  omega
theorem SH.ok {τ : Nat} {T : Tags} {H : Heap} {p : Nat} {st : St} (h : SH τ T H p st) : st.Ok := by
  obtain ⟨_, _, _, _, _, _, S⟩ := h
  exact S.ok
abbrev O6 (κ : Nat) : Tg → Prop := fun u => κ + 1 ≤ u.1 ∧ u.1 ≤ κ + 6
theorem n5 {κ a b : Nat} : ¬ O5 κ (κ + 6, a, b) := by rintro ⟨_, h⟩; dsimp only at h; omega
theorem n4 {κ a b : Nat} : ¬ ((κ + 6, a, b) : Tg).1 = κ + 4 := by dsimp only; omega
theorem nT {κ a b : Nat} : ¬ Ot (κ + 1) (κ + 6, a, b) := by rintro ⟨_, h⟩; dsimp only at h; omega
theorem n6 {κ a b : Nat} {t : Tg} (h : Ok4 κ t) : ¬ t = (κ + 6, a, b) := by rintro rfl; have := h.2; dsimp only at this; omega
theorem o56 {κ : Nat} {u : Tg} (h : O5 κ u) : O6 κ u := ⟨h.1, by have := h.2; omega⟩
theorem o46 {κ : Nat} {u : Tg} (h : u.1 = κ + 4) : O6 κ u := ⟨by omega, by omega⟩
theorem oT6 {κ : Nat} {u : Tg} (h : Ot (κ + 1) u) : O6 κ u := ⟨h.1, by have := h.2; omega⟩
theorem o6 {κ a b : Nat} : O6 κ (κ + 6, a, b) := ⟨by dsimp only; omega, Nat.le_refl _⟩
theorem nil_sl (H : Heap) : Sl H 1 .nils (ofBytes []) := .inl ⟨rfl, rfl⟩

theorem doPut_ev (κ : Nat) (T : Tags) (H : Heap) (p : Nat) (s : Sw) (h : SW κ T H p s) {pg P m c : Nat} {szl : List Nat} (hK : KP pg P m c szl s.st) (hc : c ≤ 30000) (f : Fr) (hfo : f.Ok) (hkd : f.kind = .ofNat 1) (hP : m ≤ P) (hfit : Fit pg m c szl ((nameB f).length + (verB f.ver f.data).length)) (Q : AV → Heap → Prop)
    (hold : ∀ v d st' T' H', s.st.look (nameB f) = some (verB v d) → f.ver < v → v ≤ 9223372036854775807 → KP pg P m c szl st' → (∀ k, st'.look k = s.st.look k) → Stp (O6 κ) T H T' H' → SW κ T' H' p { s with st := st' } → Q (.agg (ansF s f v []).cells) H')
    (hput : ∀ st' T' H', (s.st.look (nameB f) = none ∨ ∃ v d, s.st.look (nameB f) = some (verB v d) ∧ v ≤ f.ver ∧ -9223372036854775808 ≤ v) → KP pg P m (c + 1) szl st' → (∀ k, st'.look k = if nameB f = k then some (verB f.ver f.data) else s.st.look k) → Stp (O6 κ) T H T' H' → SW κ T' H' p { s with st := st' } → Q (.agg (ansF s f f.ver []).cells) H') : Eo lib n_slot_Slot_do [.ptr p 0, .agg f.cells] H Q := by
  refine Eo.ok fun hOk => ?_
  refine Eo.code at_slot_Slot_do rfl ?_
  obtain ⟨ps, vd, S⟩ := h
  have hok : s.st.Ok := S.store.ok
  have hf := hK.few (by omega)
  have hbx : nBox [.int .i64 f.kind, .int .i64 f.slot, .int .i64 f.inc, .int .i64 f.rid, .int .i64 f.floor, .int .i64 f.role, .str f.key, .int .i64 f.ver, .str f.data] = some (.cells [.int .i64 f.kind, .int .i64 f.slot, .int .i64 f.inc, .int .i64 f.rid, .int .i64 f.floor, .int .i64 f.role, .str f.key, .int .i64 f.ver, .str f.data] 1, ptrTo) := box_fr f
  have hfc : f.cells = [.int .i64 f.kind, .int .i64 f.slot, .int .i64 f.inc, .int .i64 f.rid, .int .i64 f.floor, .int .i64 f.role, .str f.key, .int .i64 f.ver, .str f.data] := rfl
  have hnl := nameB_len f hfo.v1 hfo.v2
  have hky := hfo.ky
  have hdt := hfo.dt
  have hv1 := hfo.v1
  have hv2 := hfo.v2
  have e4 : (f.kind = Int.ofNat 4) = False := by rw [hkd]; exact eq_false (by decide)
  have e1 : (f.kind = Int.ofNat 1) = True := by rw [hkd]; exact eq_true rfl
  obtain ⟨T1, s1, af1, ar1⟩ := new2 (T := T) hOk (κ + 6, 2, 0) (κ + 6, 3, 0) (.cells [.int .i64 f.kind, .int .i64 f.slot, .int .i64 f.inc, .int .i64 f.rid, .int .i64 f.floor, .int .i64 f.role, .str f.key, .int .i64 f.ver, .str f.data] 1) (.cells [.int .i64 (.ofNat 0), .int .i64 (.ofNat 0), .int .i64 (.ofNat 0), .int .i64 (.ofNat 0), .int .i64 (.ofNat 0), .int .i64 (.ofNat 0), .str [], .int .i64 (.ofNat 0), .str []] 1)
  have S1 := S.step s1 (fun h => h) (fun h => h) (fun _ _ h => h)
  rw [hfc]
  iterate 2 repeat (first | ((first | apply Xk.sAny | apply Xk.tAny); (case hok => rfl); (case h => intro C hC; simp (disch := omega) only [w1, ↓reduceIte, Nat.reduceEqDiff, Nat.reduceLeDiff, Nat.reduceAdd, Nat.reduceSub, hbx]; with_reducible exact hC); refine gc ?_) | refine gm ?_)
  generalize (H.new (.cells [.int .i64 f.kind, .int .i64 f.slot, .int .i64 f.inc, .int .i64 f.rid, .int .i64 f.floor, .int .i64 f.role, .str f.key, .int .i64 f.ver, .str f.data] 1)).new (.cells [.int .i64 (.ofNat 0), .int .i64 (.ofNat 0), .int .i64 (.ofNat 0), .int .i64 (.ofNat 0), .int .i64 (.ofNat 0), .int .i64 (.ofNat 0), .str [], .int .i64 (.ofNat 0), .str []] 1) = H1 at s1 af1 ar1 S1 ⊢
  generalize H.next + 1 = pr at ar1 ⊢
  generalize H.next = pf at af1 ⊢
  have hg1 := S1.head.1
  have haf1 := af1.1
  obtain ⟨T2, s2, aa⟩ := new1 (T := T1) s1.ok (κ + 6, 4, 0) (.cells [.int .i64 (.ofNat 6), .int .i64 s.id, .int .i64 s.inc, .int .i64 f.rid, .int .i64 (.ofNat 0), .int .i64 f.role, .str f.key, .int .i64 (.ofNat 0), .str []] 1)
  have S2 := S1.step s2 (fun h => h) (fun h => h) (fun _ _ h => h)
  have af := af1.step s2 (fun h => h)
  have ar := ar1.step s2 (fun h => h)
  have hst2 : Stp (O6 κ) T H T2 _ := (s1.mono fun _ h => h.elim).trans (s2.mono fun _ h => h.elim)
  have haf2 := af.1
  iterate 2 repeat (first | ((first | apply Xk.sAny | apply Xk.tAny); (case hok => rfl); (case h => intro C hC; simp (disch := omega) only [w1, ↓reduceIte, Nat.reduceEqDiff, Nat.reduceLeDiff, Nat.reduceAdd, Nat.reduceSub, hg1, haf1, haf2, e4]; with_reducible exact hC); refine gc ?_) | refine gm ?_)
  have haf2 := af.1
  repeat (first | ((first | apply Xk.sAny | apply Xk.tAny); (case hok => rfl); (case h => intro C hC; simp (disch := omega) only [w1, ↓reduceIte, Nat.reduceEqDiff, Nat.reduceLeDiff, Nat.reduceAdd, Nat.reduceSub, haf2, e4]; with_reducible exact hC); refine gc ?_) | refine gm ?_)
  generalize H1.new (.cells [.int .i64 (.ofNat 6), .int .i64 s.id, .int .i64 s.inc, .int .i64 f.rid, .int .i64 (.ofNat 0), .int .i64 f.role, .str f.key, .int .i64 (.ofNat 0), .str []] 1) = H2 at s2 aa S2 af ar hst2 haf2 ⊢
  generalize H1.next = pa at aa ⊢
  clear S S1 s1 s2 af1 ar1 hg1 haf1
  refine stands_ev κ T2 H2 p s ⟨ps, vd, S2⟩ hf (fun x hx => (hK.tx x hx).1) f hfo _ (fun hn T3 H3 s3 W3 => ?_) (fun pre x post v d e hkx hxd hw1 hw2 T3 H3 s3 W3 => ?_)
  · skip
    have a3 := aa.step s3 n5
    have r3 := ar.step s3 n5
    have f3 := af.step s3 n5
    have hga := a3.1
    have hf3 := f3.1
    have s4 := a3.stp1 s3.ok (.cells [.int .i64 (.ofNat 6), .int .i64 s.id, .int .i64 s.inc, .int .i64 f.rid, .int .i64 (.ofNat 0), .int .i64 f.role, .str f.key, .int .i64 f.ver, .str []] 1)
    have a4 := a3.put (.cells [.int .i64 (.ofNat 6), .int .i64 s.id, .int .i64 s.inc, .int .i64 f.rid, .int .i64 (.ofNat 0), .int .i64 f.role, .str f.key, .int .i64 f.ver, .str []] 1)
    have r4 := r3.step s4 (tg3 (by decide))
    have f4 := f3.step s4 (tg3 (by decide))
    have hgr := r4.1
    have hf4 := f4.1
    have hga4 := a4.1
    have W4 := W3.step s4 (fun t ht => n6 ht)
    have hst4 := ((hst2.trans (s3.mono fun u h => o56 h)).trans (s4.mono fun u h => by rw [h]; exact o6))
    repeat (first | ((first | apply Xk.sAny | apply Xk.tAny); (case hok => rfl); (case h => intro C hC; simp (disch := omega) only [w1, ↓reduceIte, Nat.reduceEqDiff, Nat.reduceLeDiff, Nat.reduceAdd, Nat.reduceSub, e1]; with_reducible exact hC); refine gc ?_) | refine gm ?_)
    repeat (first | ((first | apply Xk.sAny | apply Xk.tAny); (case hok => rfl); (case h => intro C hC; simp (disch := omega) only [w1, ↓reduceIte, Nat.reduceEqDiff, Nat.reduceLeDiff, Nat.reduceAdd, Nat.reduceSub, e1, hf3, hga]; with_reducible exact hC); refine gc ?_) | refine gm ?_)
    repeat (first | ((first | apply Xk.sAny | apply Xk.tAny); (case hok => rfl); (case h => intro C hC; simp (disch := omega) only [w1, ↓reduceIte, Nat.reduceEqDiff, Nat.reduceLeDiff, Nat.reduceAdd, Nat.reduceSub, e1, hf3, hga, hf4]; with_reducible exact hC); refine gc ?_) | refine gm ?_)
    obtain ⟨ps4, vd4, S4⟩ := W4
    have hg4 := S4.head.1
    repeat (first | ((first | apply Xk.sAny | apply Xk.tAny); (case hok => rfl); (case h => intro C hC; simp (disch := omega) only [w1, ↓reduceIte, Nat.reduceEqDiff, Nat.reduceLeDiff, Nat.reduceAdd, Nat.reduceSub, hg4, hf4]; with_reducible exact hC); refine gc ?_) | refine gm ?_)
    refine name_ev (κ + 4) T3 _ f hv1 hv2 (by omega) _ fun T5 H5 s5 => ?_
    have S5 := S4.step s5 no4 no4 (fun t ht => noT4 ht)
    have r5 := r4.step s5 n4
    have a5 := a4.step s5 n4
    have f5 := f4.step s5 n4
    have hg5 := S5.head.1
    have hf5 := f5.1
    iterate 2 repeat (first | ((first | apply Xk.sAny | apply Xk.tAny); (case hok => rfl); (case h => intro C hC; simp (disch := omega) only [w1, ↓reduceIte, Nat.reduceEqDiff, Nat.reduceLeDiff, Nat.reduceAdd, Nat.reduceSub, hg5, hf5]; with_reducible exact hC); refine gc ?_) | refine gm ?_)
    refine Num_ev T5 H5 (κ + 4, 5, 0) .nils [] f.ver (nil_sl H5) (Nat.zero_le _) hv1 hv2 _ fun v' T6 H6 s6 hr6 => ?_
    have s6' := s6.mono (P := fun u => u.1 = κ + 4) fun u h => by rw [h]
    have S6 := S5.step s6' no4 no4 (fun t ht => noT4 ht)
    have r6 := r5.step s6' n4
    have a6 := a5.step s6' n4
    have f6 := f5.step s6' n4
    have hg6 := S6.head.1
    have hf6 := f6.1
    have hstr : rB2s H6 v' = some (.str (vi (zig f.ver))) := rt_str hr6
    obtain ⟨q1, q2⟩ := hr6.sc
    have hl10 := vi_len10 (zig_lt hv1 hv2)
    have hadd : bin .add (.str (vi (zig f.ver))) (.str f.data) = some (.str (verB f.ver f.data)) := add_str _ _ (by omega)
    have hvl := verB_len f.ver f.data hv1 hv2
    iterate 2 repeat (first | ((first | apply Xk.sAny | apply Xk.tAny); (case hok => rfl); (case h => intro C hC; simp (disch := omega) only [w1, ↓reduceIte, Nat.reduceEqDiff, Nat.reduceLeDiff, Nat.reduceAdd, Nat.reduceSub, hg6, hf6, hstr, q1, q2, hadd]; with_reducible exact hC); refine gc ?_) | refine gm ?_)
    have hok0 : (s.st).Ok := S6.store.ok
    have hK0 : KP pg P m c szl (s.st) := hK
    have hroom : ∀ st1 i, Drp (s.st) (nameB f) st1 → clsOf st1.s.cs (nameB f ++ verB f.ver f.data).length = some i → ¬ st1.s.full i ∧ KP pg P m (c + 1) szl (st1.put (nameB f) (verB f.ver f.data) i) := by
      intro st1 i hdr hcl
      have hk1 := hK0.drp hok0 hdr
      obtain ⟨i', h1, h2, h3⟩ := hfit.cls hk1.rm.sz
      rw [← List.length_append, hcl] at h2
      obtain rfl := Option.some.inj h2
      exact hk1.put (hdr.ok hok0).1 (clsOf_lt hcl) h1 hP h3 _ _ (by omega) (by omega) ⟨f.ver, f.data, rfl, hv1, hv2⟩
    refine iPut_ev (κ + 1) T6 H6 ps4 (s.st) S6.store (hK0.few (by omega)) (by have := hK0.n; omega) (nameB f) (verB f.ver f.data) (by omega) (by omega) (fun st1 i hdr hcl => (hroom st1 i hdr hcl).1) _ (fun st1 hdr hcl T7 H7 s7 S7 => ?_) (fun st1 i hdr hcl T7 H7 s7 S7 => ?_)
    · obtain ⟨i', h1, h2, h3⟩ := hfit.cls (hK0.drp hok0 hdr).rm.sz
      rw [← List.length_append, hcl] at h2
      cases h2
    have r7 := r6.step s7 nT
    have a7 := a6.step s7 nT
    have hgr7 := r7.1
    have hga7 := a7.1
    have s8 := r7.stp1 s7.ok (.cells [.int .i64 (.ofNat 6), .int .i64 s.id, .int .i64 s.inc, .int .i64 f.rid, .int .i64 (.ofNat 0), .int .i64 f.role, .str f.key, .int .i64 f.ver, .str []] 1)
    iterate 2 repeat (first | ((first | apply Xk.sAny | apply Xk.tAny); (case hok => rfl); (case h => intro C hC; simp (disch := omega) only [w1, ↓reduceIte, Nat.reduceEqDiff, Nat.reduceLeDiff, Nat.reduceAdd, Nat.reduceSub, eq_self, hgr7, hga7]; with_reducible exact hC); refine gc ?_) | refine gm ?_)
    refine ret_cell1 (p := pr) (t := 4) rfl (load_agg (Heap.get_put_self _ _ _) rfl) rfl ?_
    refine hput _ T7 _ (.inl (lookL_no hn)) (hroom st1 i hdr hcl).2 (fun k => by rw [look_put, look_drp hok0 hdr]; split <;> rfl) ((((hst4.trans (s5.mono fun u h => o46 h)).trans (s6'.mono fun u h => o46 h)).trans (s7.mono fun u h => oT6 h)).trans (s8.mono fun u h => by rw [h]; exact o6)) ?_
    have W7 : SW κ T7 H7 p { s with st := st1.put (nameB f) (verB f.ver f.data) i } := ⟨ps4, vd4, S6.head.step s7 noT, S7, S6.row.step s7 noT⟩
    exact W7.step s8 (fun t ht => n6 ht)
  · have hlk : s.st.look (nameB f) = some (verB v d) := by rw [← hkx, look_at hok e, hxd]; rfl
    by_cases c1 : f.ver < v
    · have c1' := eq_true c1
      have a3 := aa.step s3 n5
      have r3 := ar.step s3 n5
      have f3 := af.step s3 n5
      have hga := a3.1
      have hf3 := f3.1
      have s4 := a3.stp1 s3.ok (.cells [.int .i64 (.ofNat 6), .int .i64 s.id, .int .i64 s.inc, .int .i64 f.rid, .int .i64 (.ofNat 0), .int .i64 f.role, .str f.key, .int .i64 v, .str []] 1)
      have r4 := r3.step s4 (tg3 (by decide))
      have hgr := r4.1
      have s5 := r4.stp1 s4.ok (.cells [.int .i64 (.ofNat 6), .int .i64 s.id, .int .i64 s.inc, .int .i64 f.rid, .int .i64 (.ofNat 0), .int .i64 f.role, .str f.key, .int .i64 v, .str []] 1)
      have W4 := W3.step s4 (fun t ht => n6 ht)
      have hst4 := ((hst2.trans (s3.mono fun u h => o56 h)).trans (s4.mono fun u h => by rw [h]; exact o6))
      repeat (first | ((first | apply Xk.sAny | apply Xk.tAny); (case hok => rfl); (case h => intro C hC; simp (disch := omega) only [w1, ↓reduceIte, Nat.reduceEqDiff, Nat.reduceLeDiff, Nat.reduceAdd, Nat.reduceSub, e1]; with_reducible exact hC); refine gc ?_) | refine gm ?_)
      repeat (first | ((first | apply Xk.sAny | apply Xk.tAny); (case hok => rfl); (case h => intro C hC; simp (disch := omega) only [w1, ↓reduceIte, Nat.reduceEqDiff, Nat.reduceLeDiff, Nat.reduceAdd, Nat.reduceSub, e1, hf3, hga, c1']; with_reducible exact hC); refine gc ?_) | refine gm ?_)
      iterate 2 repeat (first | ((first | apply Xk.sAny | apply Xk.tAny); (case hok => rfl); (case h => intro C hC; simp (disch := omega) only [w1, ↓reduceIte, Nat.reduceEqDiff, Nat.reduceLeDiff, Nat.reduceAdd, Nat.reduceSub, e1, hf3, hga, c1', hgr]; with_reducible exact hC); refine gc ?_) | refine gm ?_)
      refine ret_cell1 (p := pr) (t := 4) rfl (load_agg (Heap.get_put_self _ _ _) rfl) rfl ?_
      exact hold v d (s.st.touch pre post x) T3 _ hlk c1 hw2 (hK.touch e) (fun k => look_touch hok e k) (hst4.trans (s5.mono fun u h => by rw [h]; exact o6)) (W4.step s5 (fun t ht => n6 ht))
    · have c1' := eq_false c1
      have a3 := aa.step s3 n5
      have r3 := ar.step s3 n5
      have f3 := af.step s3 n5
      have hga := a3.1
      have hf3 := f3.1
      have s4 := a3.stp1 s3.ok (.cells [.int .i64 (.ofNat 6), .int .i64 s.id, .int .i64 s.inc, .int .i64 f.rid, .int .i64 (.ofNat 0), .int .i64 f.role, .str f.key, .int .i64 f.ver, .str []] 1)
      have a4 := a3.put (.cells [.int .i64 (.ofNat 6), .int .i64 s.id, .int .i64 s.inc, .int .i64 f.rid, .int .i64 (.ofNat 0), .int .i64 f.role, .str f.key, .int .i64 f.ver, .str []] 1)
      have r4 := r3.step s4 (tg3 (by decide))
      have f4 := f3.step s4 (tg3 (by decide))
      have hgr := r4.1
      have hf4 := f4.1
      have hga4 := a4.1
      have W4 := W3.step s4 (fun t ht => n6 ht)
      have hst4 := ((hst2.trans (s3.mono fun u h => o56 h)).trans (s4.mono fun u h => by rw [h]; exact o6))
      repeat (first | ((first | apply Xk.sAny | apply Xk.tAny); (case hok => rfl); (case h => intro C hC; simp (disch := omega) only [w1, ↓reduceIte, Nat.reduceEqDiff, Nat.reduceLeDiff, Nat.reduceAdd, Nat.reduceSub, e1]; with_reducible exact hC); refine gc ?_) | refine gm ?_)
      repeat (first | ((first | apply Xk.sAny | apply Xk.tAny); (case hok => rfl); (case h => intro C hC; simp (disch := omega) only [w1, ↓reduceIte, Nat.reduceEqDiff, Nat.reduceLeDiff, Nat.reduceAdd, Nat.reduceSub, e1, hf3, hga, c1']; with_reducible exact hC); refine gc ?_) | refine gm ?_)
      repeat (first | ((first | apply Xk.sAny | apply Xk.tAny); (case hok => rfl); (case h => intro C hC; simp (disch := omega) only [w1, ↓reduceIte, Nat.reduceEqDiff, Nat.reduceLeDiff, Nat.reduceAdd, Nat.reduceSub, e1, hf3, hga, c1', hf4]; with_reducible exact hC); refine gc ?_) | refine gm ?_)
      obtain ⟨ps4, vd4, S4⟩ := W4
      have hg4 := S4.head.1
      repeat (first | ((first | apply Xk.sAny | apply Xk.tAny); (case hok => rfl); (case h => intro C hC; simp (disch := omega) only [w1, ↓reduceIte, Nat.reduceEqDiff, Nat.reduceLeDiff, Nat.reduceAdd, Nat.reduceSub, hg4, hf4]; with_reducible exact hC); refine gc ?_) | refine gm ?_)
      refine name_ev (κ + 4) T3 _ f hv1 hv2 (by omega) _ fun T5 H5 s5 => ?_
      have S5 := S4.step s5 no4 no4 (fun t ht => noT4 ht)
      have r5 := r4.step s5 n4
      have a5 := a4.step s5 n4
      have f5 := f4.step s5 n4
      have hg5 := S5.head.1
      have hf5 := f5.1
      iterate 2 repeat (first | ((first | apply Xk.sAny | apply Xk.tAny); (case hok => rfl); (case h => intro C hC; simp (disch := omega) only [w1, ↓reduceIte, Nat.reduceEqDiff, Nat.reduceLeDiff, Nat.reduceAdd, Nat.reduceSub, hg5, hf5]; with_reducible exact hC); refine gc ?_) | refine gm ?_)
      refine Num_ev T5 H5 (κ + 4, 5, 0) .nils [] f.ver (nil_sl H5) (Nat.zero_le _) hv1 hv2 _ fun v' T6 H6 s6 hr6 => ?_
      have s6' := s6.mono (P := fun u => u.1 = κ + 4) fun u h => by rw [h]
      have S6 := S5.step s6' no4 no4 (fun t ht => noT4 ht)
      have r6 := r5.step s6' n4
      have a6 := a5.step s6' n4
      have f6 := f5.step s6' n4
      have hg6 := S6.head.1
      have hf6 := f6.1
      have hstr : rB2s H6 v' = some (.str (vi (zig f.ver))) := rt_str hr6
      obtain ⟨q1, q2⟩ := hr6.sc
      have hl10 := vi_len10 (zig_lt hv1 hv2)
      have hadd : bin .add (.str (vi (zig f.ver))) (.str f.data) = some (.str (verB f.ver f.data)) := add_str _ _ (by omega)
      have hvl := verB_len f.ver f.data hv1 hv2
      iterate 2 repeat (first | ((first | apply Xk.sAny | apply Xk.tAny); (case hok => rfl); (case h => intro C hC; simp (disch := omega) only [w1, ↓reduceIte, Nat.reduceEqDiff, Nat.reduceLeDiff, Nat.reduceAdd, Nat.reduceSub, hg6, hf6, hstr, q1, q2, hadd]; with_reducible exact hC); refine gc ?_) | refine gm ?_)
      have hok0 : (s.st.touch pre post x).Ok := S6.store.ok
      have hK0 : KP pg P m c szl (s.st.touch pre post x) := hK.touch e
      have hroom : ∀ st1 i, Drp (s.st.touch pre post x) (nameB f) st1 → clsOf st1.s.cs (nameB f ++ verB f.ver f.data).length = some i → ¬ st1.s.full i ∧ KP pg P m (c + 1) szl (st1.put (nameB f) (verB f.ver f.data) i) := by
        intro st1 i hdr hcl
        have hk1 := hK0.drp hok0 hdr
        obtain ⟨i', h1, h2, h3⟩ := hfit.cls hk1.rm.sz
        rw [← List.length_append, hcl] at h2
        obtain rfl := Option.some.inj h2
        exact hk1.put (hdr.ok hok0).1 (clsOf_lt hcl) h1 hP h3 _ _ (by omega) (by omega) ⟨f.ver, f.data, rfl, hv1, hv2⟩
      refine iPut_ev (κ + 1) T6 H6 ps4 (s.st.touch pre post x) S6.store (hK0.few (by omega)) (by have := hK0.n; omega) (nameB f) (verB f.ver f.data) (by omega) (by omega) (fun st1 i hdr hcl => (hroom st1 i hdr hcl).1) _ (fun st1 hdr hcl T7 H7 s7 S7 => ?_) (fun st1 i hdr hcl T7 H7 s7 S7 => ?_)
      · obtain ⟨i', h1, h2, h3⟩ := hfit.cls (hK0.drp hok0 hdr).rm.sz
        rw [← List.length_append, hcl] at h2
        cases h2
      have r7 := r6.step s7 nT
      have a7 := a6.step s7 nT
      have hgr7 := r7.1
      have hga7 := a7.1
      have s8 := r7.stp1 s7.ok (.cells [.int .i64 (.ofNat 6), .int .i64 s.id, .int .i64 s.inc, .int .i64 f.rid, .int .i64 (.ofNat 0), .int .i64 f.role, .str f.key, .int .i64 f.ver, .str []] 1)
      iterate 2 repeat (first | ((first | apply Xk.sAny | apply Xk.tAny); (case hok => rfl); (case h => intro C hC; simp (disch := omega) only [w1, ↓reduceIte, Nat.reduceEqDiff, Nat.reduceLeDiff, Nat.reduceAdd, Nat.reduceSub, eq_self, hgr7, hga7]; with_reducible exact hC); refine gc ?_) | refine gm ?_)
      refine ret_cell1 (p := pr) (t := 4) rfl (load_agg (Heap.get_put_self _ _ _) rfl) rfl ?_
      refine hput _ T7 _ (.inr ⟨v, d, hlk, Int.not_lt.1 c1, hw1⟩) (hroom st1 i hdr hcl).2 (fun k => by rw [look_put, look_drp hok0 hdr, look_touch hok e]; split <;> rfl) ((((hst4.trans (s5.mono fun u h => o46 h)).trans (s6'.mono fun u h => o46 h)).trans (s7.mono fun u h => oT6 h)).trans (s8.mono fun u h => by rw [h]; exact o6)) ?_
      have W7 : SW κ T7 H7 p { s with st := st1.put (nameB f) (verB f.ver f.data) i } := ⟨ps4, vd4, S6.head.step s7 noT, S7, S6.row.step s7 noT⟩
      exact W7.step s8 (fun t ht => n6 ht)
end Go.Proofs.Ytihoblfmhighpaa
