/- The store of items, in a heap: an item goes. Conditions: none. -/
import Derived.Test.YtihoblfmhighpaaItB
import Derived.Test.YtihoblfmhighpaaItQ
namespace Go.Proofs.Ytihoblfmhighpaa
open Go.Dp
set_option linter.unusedSimpArgs false
set_option linter.unusedVariables false
set_option maxHeartbeats 400000
set_option maxRecDepth 8000
attribute [local irreducible] Ex.thnK Ex.inK Ret

def keysOf (l : List It) : List En := l.map fun x => (x.key, x.node)
structure SHo (τ : Nat) (T : Tags) (H : Heap) (p : Nat) (st : St) (ps pc c cn : Nat) (vs : AV) (ns : List Nd) : Prop where
  head : At T H (τ, 0, 0) p (.cells [.ptr ps 0, .ptr pc 0, .sl cn 0 st.n 6, vs] 1)
  slab : SbC (τ + 1) T H ps st.s c
  keys : Ch (τ + 2) T H pc (keysOf st.l)
  row : Nrow τ T H cn st.n ns
  spare : RT T H (τ, 2, 0) 0 1 vs (nats st.spare)
  ring : Ring ns st
  ok : st.Ok
def SH (τ : Nat) (T : Tags) (H : Heap) (p : Nat) (st : St) : Prop := ∃ ps pc c cn vs ns, SHo τ T H p st ps pc c cn vs ns
abbrev Ot (τ : Nat) : Tg → Prop := fun u => τ ≤ u.1 ∧ u.1 ≤ τ + 2
theorem SHo.step {τ : Nat} {O : Tg → Prop} {T T' : Tags} {H H' : Heap} {p : Nat} {st : St} {ps pc c cn : Nat} {vs : AV} {ns : List Nd} (h : SHo τ T H p st ps pc c cn vs ns) (s : Stp O T H T' H') (ho : ∀ t, Ot τ t → ¬ O t) : SHo τ T' H' p st ps pc c cn vs ns :=
  ⟨h.head.step s (ho _ ⟨Nat.le_refl _, Nat.le_add_right _ _⟩), h.slab.step s (fun t ht => ho t ⟨by omega, by omega⟩), h.keys.step s (fun t ht => ho t ⟨by omega, by omega⟩), h.row.step s (ho _ ⟨Nat.le_refl _, Nat.le_add_right _ _⟩), h.spare.step s (ho _ ⟨Nat.le_refl _, Nat.le_add_right _ _⟩), h.ring, h.ok⟩
theorem SH.step {τ : Nat} {O : Tg → Prop} {T T' : Tags} {H H' : Heap} {p : Nat} {st : St} (h : SH τ T H p st) (s : Stp O T H T' H') (ho : ∀ t, Ot τ t → ¬ O t) : SH τ T' H' p st := by
  obtain ⟨ps, pc, c, cn, vs, ns, h⟩ := h
  exact ⟨ps, pc, c, cn, vs, ns, h.step s ho⟩
theorem ot0 (τ a b : Nat) : Ot τ (τ, a, b) := ⟨Nat.le_refl _, Nat.le_add_right _ _⟩
theorem ot1 {τ : Nat} {u : Tg} (h : u.1 = τ + 1) : Ot τ u := ⟨by omega, by omega⟩
theorem ot2 {τ : Nat} {u : Tg} (h : u.1 = τ + 2) : Ot τ u := ⟨by omega, by omega⟩
theorem no1 {τ a b : Nat} : ¬ ((τ, a, b) : Tg).1 = τ + 1 := by dsimp only; omega
theorem no2 {τ a b : Nat} : ¬ ((τ, a, b) : Tg).1 = τ + 2 := by dsimp only; omega
theorem no0 {τ a b : Nat} {u : Tg} (h : u.1 = τ + 1 ∨ u.1 = τ + 2) : ¬ u = (τ, a, b) := by
  rintro rfl
  dsimp only at h
  omega
structure St.Few (st : St) : Prop where
  n : st.n ≤ 50000
  l : st.l.length ≤ 50000
  sp : st.spare.length ≤ 50000
  ky : ∀ x ∈ st.l, x.key.length ≤ 1000000
  dt : ∀ x ∈ st.l, x.data.length ≤ 1000000

theorem gone_ev (τ : Nat) (T : Tags) (H : Heap) (p : Nat) (st : St) (h : SH τ T H p st) (hf : st.Few) (pre post : List It) (x : It) (e : st.l = pre ++ x :: post) (Q : AV → Heap → Prop)
    (hQ : ∀ T' H', Stp (Ot τ) T H T' H' → SH τ T' H' p (st.gone pre post x) → Q (.tup []) H') : Eo lib n_item_Store_gone [.ptr p 0, .int .i64 (.ofNat x.node)] H Q := by
  refine Eo.ok fun hOk => ?_
  refine Eo.code at_item_Store_gone rfl ?_
  obtain ⟨ps, pc, c, cn, vs, ns, S⟩ := h
  have hx : x ∈ st.l := by rw [e]; exact List.mem_append_right _ (List.mem_cons_self ..)
  have hok := S.ok
  obtain ⟨m1, m2, R'⟩ := S.ring.gone hok e
  have hxn : x.node < st.n := hok.lt _ (List.mem_cons_of_mem _ (List.mem_append_left _ (List.mem_map_of_mem hx)))
  have hN := hf.n
  obtain ⟨cl, hc, hcl, hat⟩ := ndAt S.row S.ring.ln (by omega)
  obtain ⟨b6, d6, dk, dh, _, _, _, _⟩ := hat _ hxn
  obtain ⟨e1, e2, e3⟩ := S.ring.nd x hx
  rw [e1] at dk
  rw [e2, e3] at dh
  have hg := S.head.1
  have hgc := hc.1
  have b1 : x.node * 6 + 1 + 2 ≤ cl.length := by omega
  repeat (first | ((first | apply Xk.sAny | apply Xk.tAny); (case hok => rfl); (case h => intro C hC; simp (disch := omega) only [w1, ↓reduceIte, Nat.reduceEqDiff, Nat.reduceLeDiff, Nat.reduceAdd, Nat.reduceSub, hg, hgc, hxn, b1, dh]; with_reducible exact hC); refine gc ?_) | refine gm ?_)
  refine Free_ev (τ + 1) T H ps st.s c S.slab hok.s x.cls x.chunk _ (hok.has x hx) _ fun T1 H1 s1 sl1 => ?_
  have h1 := S.head.step s1 no1
  have r1 := S.row.step s1 no1
  have k1 := S.keys.step s1 (fun t ht h => by omega)
  have sp1 := S.spare.step s1 no1
  have hc1 := hc.step s1 no1
  have hg1 := h1.1
  have hgc1 := hc1.1
  have b0 : x.node * 6 + 1 ≤ cl.length := by omega
  iterate 2 repeat (first | ((first | apply Xk.sAny | apply Xk.tAny); (case hok => rfl); (case h => intro C hC; simp (disch := omega) only [w1, ↓reduceIte, Nat.reduceEqDiff, Nat.reduceLeDiff, Nat.reduceAdd, Nat.reduceSub, hg1, hgc1, hxn, b0, dk]; with_reducible exact hC); refine gc ?_) | refine gm ?_)
  have hpm : (keysOf st.l).Perm ((x.key, x.node) :: keysOf (pre ++ post)) := by
    rw [e]
    exact (perm_mid ..).map _
  refine Drop_ev (τ + 2) T1 H1 pc (keysOf st.l) (keysOf (pre ++ post)) x.key x.node k1 (hf.ky x hx) (by unfold keysOf; rw [List.length_map]; have := hf.l; omega) (fun y hy => by
    obtain ⟨z, hz, rfl⟩ := List.mem_map.1 hy
    exact hf.ky z hz) hpm _ fun T2 H2 s2 k2 => ?_
  have h2 := h1.step s2 no2
  have r2 := r1.step s2 no2
  have sl2 := sl1.step s2 (fun t ht h => by omega)
  have sp2 := sp1.step s2 no2
  iterate 2 repeat (first | ((first | apply Xk.sAny | apply Xk.tAny); (case hok => rfl); (case h => intro C hC; simp (disch := omega) only [w1, ↓reduceIte, Nat.reduceEqDiff, Nat.reduceLeDiff, Nat.reduceAdd, Nat.reduceSub]; with_reducible exact hC); refine gc ?_) | refine gm ?_)
  refine out_ev τ T2 H2 p _ _ _ cn st.n ns h2 r2 S.ring.ln (by omega) x.node hxn m1 m2 _ fun H3 s3 r3 => ?_
  have r3 : Nrow τ T2 H3 cn st.n (outN ns x.node) := r3
  have hlo : (outN ns x.node).length = st.n := by rw [outN_len]; exact S.ring.ln
  have h3 := h2.step s3 (tg3 (by decide))
  have sl3 := sl2.step s3 (fun t ht => no0 (.inl ht))
  have k3 := k2.step s3 (fun t ht => no0 (.inr ht))
  have sp3 := sp2.step s3 (tg3 (by decide))
  obtain ⟨cl3, hc3, _, _⟩ := ndAt r3 hlo (by omega)
  obtain ⟨r4, s4, b4⟩ := nrow_put (τ := τ) s3.ok r3 hlo hc3.1 hxn (j := 0) (ys := noNd.cells) (n := noNd) (by decide) rfl
  rw [Nat.add_zero] at r4 s4 b4
  have h4 := h3.step s4 (tg3 (by decide))
  have sl4 := sl3.step s4 (fun t ht => no0 (.inl ht))
  have k4 := k3.step s4 (fun t ht => no0 (.inr ht))
  have sp4 := sp3.step s4 (tg3 (by decide))
  obtain ⟨v', H5, T5, f1, f2, f3⟩ := RT.push (bytes := 8) (w := 1) (row := [.int .i64 (.ofNat x.node)]) s4.ok sp4 rfl rfl (by decide) (by rw [nats_len]; have := hf.sp; omega) (by rw [nats_len]; have := hf.sp; omega)
  rw [Heap.next_put] at f1
  have h5 := h4.step f2 (tg3 (by decide))
  have s6 := h5.stp1 f2.ok (.cells [.ptr ps 0, .ptr pc 0, .sl cn 0 st.n 6, v'] 1)
  have hg3 := h3.1
  have hgc3 := hc3.1
  have hg4 := h4.1
  have hg5 := h5.1
  obtain ⟨y1, y2⟩ := sp4.sc
  obtain ⟨y3, y4⟩ := f3.sc
  have b4 : x.node * 6 + 6 ≤ cl3.length := b4
  have hov : cl3.take (x.node * 6) ++ (.str [] :: .int .i64 (.ofNat 0) :: .int .i64 (.ofNat 0) :: .bool false :: .int .i64 (.ofNat 0) :: .int .i64 (.ofNat 0) :: cl3.drop (x.node * 6 + 6)) = over cl3 (x.node * 6) noNd.cells := rfl
  generalize over cl3 (x.node * 6) noNd.cells = cl4 at *
  have hst := (((s1.mono (P := Ot τ) fun u h => ot1 h).trans (s2.mono (P := Ot τ) fun u h => ot2 h)).trans (s3.mono (P := Ot τ) fun u h => by rw [h]; exact ot0 ..)).trans ((s4.mono (P := Ot τ) fun u h => by rw [h]; exact ot0 ..).trans ((f2.mono (P := Ot τ) fun u h => by rw [h]; exact ot0 ..).trans (s6.mono (P := Ot τ) fun u h => by rw [h]; exact ot0 ..)))
  have hfin := hQ T5 _ hst ⟨ps, pc, c, cn, v', (outN ns x.node).set x.node noNd, h5.put _, (sl4.step f2 (fun t ht => no0 (.inl ht))).step s6 (fun t ht => no0 (.inl ht)), (k4.step f2 (fun t ht => no0 (.inr ht))).step s6 (fun t ht => no0 (.inr ht)), (r4.step f2 (tg3 (by decide))).step s6 (tg3 (by decide)),
    by show RT _ _ _ 0 1 v' (nats (st.spare ++ [x.node])); rw [nats_app]; exact f3.step s6 (tg3 (by decide)), R', hok.gone e⟩
  repeat (first | ((first | apply Xk.sAny | apply Xk.tAny); (case hok => rfl); (case h => intro C hC; simp (disch := omega) only [w1, ↓reduceIte, Nat.reduceEqDiff, Nat.reduceLeDiff, Nat.reduceAdd, Nat.reduceSub]; with_reducible exact hC); refine gc ?_) | refine gm ?_)
  iterate 2 repeat (first | ((first | apply Xk.sAny | apply Xk.tAny); (case hok => rfl); (case h => intro C hC; simp (disch := omega) only [w1, ↓reduceIte, Nat.reduceEqDiff, Nat.reduceLeDiff, Nat.reduceAdd, Nat.reduceSub, hg3, hgc3, hxn, b4, hov, hg4, y1, y2, f1, y3, y4, hg5]; with_reducible exact hC); refine gc ?_) | refine gm ?_)
  exact hfin
end Go.Proofs.Ytihoblfmhighpaa
