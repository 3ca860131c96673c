/- The store of items, in a heap: peek, get, drop, len. Conditions: none. -/
import Derived.Test.YtihoblfmhighpaaItC
namespace Go.Proofs.Ytihoblfmhighpaa
open Go.Dp
set_option linter.unusedSimpArgs false
set_option linter.unusedVariables false
set_option maxHeartbeats 400000
set_option maxRecDepth 8000
attribute [local irreducible] Ex.thnK Ex.inK Ret

theorem keysOf_no {l : List It} {key : List UInt8} (h : ∀ e ∈ keysOf l, ¬ e.1 = key) : ∀ x ∈ l, x.key ≠ key := fun x hx => h (x.key, x.node) (List.mem_map_of_mem hx)
theorem keysOf_yes {l : List It} {key : List UInt8} {n : Nat} (h : (key, n) ∈ keysOf l) : ∃ pre x post, l = pre ++ x :: post ∧ x.key = key ∧ x.node = n := by
  obtain ⟨x, hx, e⟩ := List.mem_map.1 h
  obtain ⟨pre, post, rfl⟩ := List.append_of_mem hx
  exact ⟨pre, x, post, rfl, (Prod.mk.inj e).1, (Prod.mk.inj e).2⟩
theorem nodup_inj {α β : Type} {f : α → β} : ∀ {l : List α}, (l.map f).Nodup → ∀ {x y : α}, x ∈ l → y ∈ l → f x = f y → x = y
  | [], _, _, _, h, _, _ => by cases h
  | a :: l, hn, x, y, hx, hy, e => by
      rw [List.map_cons, List.nodup_cons] at hn
      rcases List.mem_cons.1 hx with e1 | hx'
      · rcases List.mem_cons.1 hy with e2 | hy'
        · rw [e1, e2]
        · exact absurd (by rw [← e1, e]; exact List.mem_map_of_mem hy') hn.1
      · rcases List.mem_cons.1 hy with e2 | hy'
        · exact absurd (by rw [← e2, ← e]; exact List.mem_map_of_mem hx') hn.1
        · exact nodup_inj hn.2 hx' hy' e
theorem St.Ok.one {st : St} (h : st.Ok) {pre post pre' post' : List It} {x y : It} (e : st.l = pre ++ x :: post) (e' : st.l = pre' ++ y :: post') (hk : x.key = y.key) : x = y := by
  have hx : x ∈ st.l := by rw [e]; exact List.mem_append_right _ (List.mem_cons_self ..)
  have hy : y ∈ st.l := by rw [e']; exact List.mem_append_right _ (List.mem_cons_self ..)
  exact nodup_inj h.ky hx hy hk

theorem Peek_ev (τ : Nat) (T : Tags) (H : Heap) (p : Nat) (st : St) (h : SH τ T H p st) (hf : st.Few) (key : List UInt8) (hk : key.length ≤ 1000000) (Q : AV → Heap → Prop)
    (hno : (∀ x ∈ st.l, x.key ≠ key) → ∀ H', H'.Ok → HLe H H' → Q (.tup [.str [], .bool false]) H')
    (hyes : ∀ pre x post, st.l = pre ++ x :: post → x.key = key → ∀ H', H'.Ok → HLe H H' → Q (.tup [.str x.data, .bool true]) H') : Eo lib n_item_Store_Peek [.ptr p 0, .str key] H Q := by
  refine Eo.ok fun hOk => ?_
  refine Eo.code at_item_Store_Peek rfl ?_
  obtain ⟨ps, pc, c, cn, vs, ns, S⟩ := h
  have hg := S.head.1
  iterate 2 repeat (first | ((first | apply Xk.sAny | apply Xk.tAny); (case hok => rfl); (case h => intro C hC; simp (disch := omega) only [w1, ↓reduceIte, Nat.reduceEqDiff, Nat.reduceLeDiff, Nat.reduceAdd, Nat.reduceSub, hg]; with_reducible exact hC); refine gc ?_) | refine gm ?_)
  refine Get_ev (τ + 2) T H pc (keysOf st.l) key S.keys hk (by unfold keysOf; rw [List.length_map]; have := hf.l; omega) _ (fun hn H1 hO1 hle1 => ?_) (fun n hn H1 hO1 hle1 => ?_)
  · repeat (first | ((first | apply Xk.sAny | apply Xk.tAny); (case hok => rfl); (case h => intro C hC; simp (disch := omega) only [w1, ↓reduceIte, Nat.reduceEqDiff, Nat.reduceLeDiff, Nat.reduceAdd, Nat.reduceSub]; with_reducible exact hC); refine gc ?_) | refine gm ?_)
    repeat (first | ((first | apply Xk.sAny | apply Xk.tAny); (case hok => rfl); (case h => intro C hC; simp (disch := omega) only [w1, ↓reduceIte, Nat.reduceEqDiff, Nat.reduceLeDiff, Nat.reduceAdd, Nat.reduceSub]; with_reducible exact hC); refine gc ?_) | refine gm ?_)
    exact hno (keysOf_no hn) _ hO1 hle1
  · obtain ⟨pre, x, post, e, rfl, rfl⟩ := keysOf_yes hn
    have hx : x ∈ st.l := by rw [e]; exact List.mem_append_right _ (List.mem_cons_self ..)
    have hok := S.ok
    have hxn : x.node < st.n := hok.lt _ (List.mem_cons_of_mem _ (List.mem_append_left _ (List.mem_map_of_mem hx)))
    obtain ⟨cl, hc, hcl, hat⟩ := ndAt S.row S.ring.ln (by omega)
    obtain ⟨b6, d6, dk, dh, _, _, _, _⟩ := hat _ hxn
    obtain ⟨e1, e2, e3⟩ := S.ring.nd x hx
    rw [e2, e3] at dh
    have hg1 := hle1 _ _ hg
    have hgc := hle1 _ _ hc.1
    have b1 : x.node * 6 + 1 + 2 ≤ cl.length := by omega
    have hN := hf.n
    iterate 2 repeat (first | ((first | apply Xk.sAny | apply Xk.tAny); (case hok => rfl); (case h => intro C hC; simp (disch := omega) only [w1, ↓reduceIte, Nat.reduceEqDiff, Nat.reduceLeDiff, Nat.reduceAdd, Nat.reduceSub, hg1, hgc, hxn, b1, dh]; with_reducible exact hC); refine gc ?_) | refine gm ?_)
    have s1 : Stp (fun _ => False) T H T H1 := Stp.le hO1 hle1
    refine Read_ev2 (τ + 1) T H1 ps st.s c (S.slab.step s1 (fun _ _ h => h)) hok.s x.cls x.chunk _ (hok.has x hx) _ fun H2 hO2 hle2 => ?_
    have hdl : x.key.length ≤ (x.key ++ x.data).length := by rw [List.length_append]; omega
    have hdt : ((x.key ++ x.data).drop x.key.length).take ((x.key ++ x.data).length - x.key.length) = x.data := by
      rw [List.drop_left, List.length_append, Nat.add_sub_cancel_left, List.take_length]
    have hdd := hf.dt x hx
    have hlen : (x.key ++ x.data).length ≤ 2000000 := by rw [List.length_append]; omega
    generalize x.key ++ x.data = d at *
    iterate 3 repeat (first | ((first | apply Xk.sAny | apply Xk.tAny); (case hok => rfl); (case h => intro C hC; simp (disch := omega) only [w1, ↓reduceIte, Nat.reduceEqDiff, Nat.reduceLeDiff, Nat.reduceAdd, Nat.reduceSub, hdl, hdt]; with_reducible exact hC); refine gc ?_) | refine gm ?_)
    exact hyes pre x post e rfl _ hO2 (hle1.trans hle2)

theorem iGet_ev (τ : Nat) (T : Tags) (H : Heap) (p : Nat) (st : St) (h : SH τ T H p st) (hf : st.Few) (key : List UInt8) (hk : key.length ≤ 1000000) (Q : AV → Heap → Prop)
    (hno : (∀ x ∈ st.l, x.key ≠ key) → ∀ T' H', Stp (Ot τ) T H T' H' → SH τ T' H' p st → Q (.tup [.str [], .bool false]) H')
    (hyes : ∀ pre x post, st.l = pre ++ x :: post → x.key = key → ∀ T' H', Stp (Ot τ) T H T' H' → SH τ T' H' p (st.touch pre post x) → Q (.tup [.str x.data, .bool true]) H') : Eo lib n_item_Store_Get [.ptr p 0, .str key] H Q := by
  refine Eo.ok fun hOk => ?_
  refine Eo.code at_item_Store_Get rfl ?_
  iterate 2 repeat (first | ((first | apply Xk.sAny | apply Xk.tAny); (case hok => rfl); (case h => intro C hC; simp (disch := omega) only [w1, ↓reduceIte, Nat.reduceEqDiff, Nat.reduceLeDiff, Nat.reduceAdd, Nat.reduceSub]; with_reducible exact hC); refine gc ?_) | refine gm ?_)
  refine Peek_ev τ T H p st h hf key hk _ (fun hn H1 hO1 hle1 => ?_) (fun pre x post e hkx H1 hO1 hle1 => ?_)
  · repeat (first | ((first | apply Xk.sAny | apply Xk.tAny); (case hok => rfl); (case h => intro C hC; simp (disch := omega) only [w1, ↓reduceIte, Nat.reduceEqDiff, Nat.reduceLeDiff, Nat.reduceAdd, Nat.reduceSub]; with_reducible exact hC); refine gc ?_) | refine gm ?_)
    repeat (first | ((first | apply Xk.sAny | apply Xk.tAny); (case hok => rfl); (case h => intro C hC; simp (disch := omega) only [w1, ↓reduceIte, Nat.reduceEqDiff, Nat.reduceLeDiff, Nat.reduceAdd, Nat.reduceSub]; with_reducible exact hC); refine gc ?_) | refine gm ?_)
    exact hno hn T H1 (Stp.le hO1 hle1) (h.step (Stp.le (O := fun _ => False) hO1 hle1) (fun _ _ h => h))
  · have s1 : Stp (fun _ => False) T H T H1 := Stp.le hO1 hle1
    obtain ⟨ps, pc, c, cn, vs, ns, S⟩ := h.step s1 (fun _ _ h => h)
    have hg := S.head.1
    iterate 2 repeat (first | ((first | apply Xk.sAny | apply Xk.tAny); (case hok => rfl); (case h => intro C hC; simp (disch := omega) only [w1, ↓reduceIte, Nat.reduceEqDiff, Nat.reduceLeDiff, Nat.reduceAdd, Nat.reduceSub, hg]; with_reducible exact hC); refine gc ?_) | refine gm ?_)
    refine Get_ev (τ + 2) T H1 pc (keysOf st.l) key S.keys hk (by unfold keysOf; rw [List.length_map]; have := hf.l; omega) _ (fun hn H2 hO2 hle2 => absurd hkx (keysOf_no hn x (by rw [e]; exact List.mem_append_right _ (List.mem_cons_self ..)))) (fun n hn H2 hO2 hle2 => ?_)
    obtain ⟨pre', x', post', e', hk', rfl⟩ := keysOf_yes hn
    obtain rfl : x = x' := S.ok.one e e' (hkx.trans hk'.symm)
    have s2 : Stp (fun _ => False) T H1 T H2 := Stp.le hO2 hle2
    have S2 := S.step s2 (fun _ _ h => h)
    obtain ⟨m1, m2, m3, R'⟩ := S2.ring.touch S2.ok e
    have hN := hf.n
    have hxn : x.node < st.n := S2.ok.lt _ (List.mem_cons_of_mem _ (List.mem_append_left _ (List.mem_map_of_mem (by rw [e]; exact List.mem_append_right _ (List.mem_cons_self ..)))))
    iterate 2 repeat (first | ((first | apply Xk.sAny | apply Xk.tAny); (case hok => rfl); (case h => intro C hC; simp (disch := omega) only [w1, ↓reduceIte, Nat.reduceEqDiff, Nat.reduceLeDiff, Nat.reduceAdd, Nat.reduceSub]; with_reducible exact hC); refine gc ?_) | refine gm ?_)
    refine out_ev τ T H2 p _ _ _ cn st.n ns S2.head S2.row S2.ring.ln (by omega) x.node hxn m1 m2 _ fun H3 s3 r3 => ?_
    have r3 : Nrow τ T H3 cn st.n (outN ns x.node) := r3
    have h3 := S2.head.step s3 (tg3 (by decide))
    iterate 2 repeat (first | ((first | apply Xk.sAny | apply Xk.tAny); (case hok => rfl); (case h => intro C hC; simp (disch := omega) only [w1, ↓reduceIte, Nat.reduceEqDiff, Nat.reduceLeDiff, Nat.reduceAdd, Nat.reduceSub]; with_reducible exact hC); refine gc ?_) | refine gm ?_)
    refine in_ev τ T H3 p _ _ _ cn st.n (outN ns x.node) h3 r3 (by rw [outN_len]; exact S2.ring.ln) (by omega) x.node hxn m3 _ fun H4 s4 r4 => ?_
    have r4 : Nrow τ T H4 cn st.n (inN (outN ns x.node) x.node) := r4
    iterate 2 repeat (first | ((first | apply Xk.sAny | apply Xk.tAny); (case hok => rfl); (case h => intro C hC; simp (disch := omega) only [w1, ↓reduceIte, Nat.reduceEqDiff, Nat.reduceLeDiff, Nat.reduceAdd, Nat.reduceSub]; with_reducible exact hC); refine gc ?_) | refine gm ?_)
    have hst := ((s1.mono (P := Ot τ) fun _ h => h.elim).trans (s2.mono (P := Ot τ) fun _ h => h.elim)).trans ((s3.mono (P := Ot τ) fun u h => by rw [h]; exact ot0 ..).trans (s4.mono (P := Ot τ) fun u h => by rw [h]; exact ot0 ..))
    have hk5 : Ch (τ + 2) T H4 pc (keysOf (st.touch pre post x).l) := by
      have := (S2.keys.step s3 (fun t ht => no0 (.inr ht))).step s4 (fun t ht => no0 (.inr ht))
      refine this.perm ?_
      show (keysOf st.l).Perm (keysOf (x :: (pre ++ post)))
      rw [e]
      exact (perm_mid ..).map _
    exact hyes pre x post e hkx T H4 hst ⟨ps, pc, c, cn, vs, _, h3.step s4 (tg3 (by decide)), (S2.slab.step s3 (fun t ht => no0 (.inl ht))).step s4 (fun t ht => no0 (.inl ht)), hk5, r4, (S2.spare.step s3 (tg3 (by decide))).step s4 (tg3 (by decide)), R', S2.ok.touch e⟩

theorem iDrop_ev (τ : Nat) (T : Tags) (H : Heap) (p : Nat) (st : St) (h : SH τ T H p st) (hf : st.Few) (key : List UInt8) (hk : key.length ≤ 1000000) (Q : AV → Heap → Prop)
    (hno : (∀ x ∈ st.l, x.key ≠ key) → ∀ T' H', Stp (Ot τ) T H T' H' → SH τ T' H' p st → Q (.bool false) H')
    (hyes : ∀ pre x post, st.l = pre ++ x :: post → x.key = key → ∀ T' H', Stp (Ot τ) T H T' H' → SH τ T' H' p (st.gone pre post x) → Q (.bool true) H') : Eo lib n_item_Store_Drop [.ptr p 0, .str key] H Q := by
  refine Eo.ok fun hOk => ?_
  refine Eo.code at_item_Store_Drop rfl ?_
  obtain ⟨ps, pc, c, cn, vs, ns, S⟩ := h
  have hg := S.head.1
  iterate 2 repeat (first | ((first | apply Xk.sAny | apply Xk.tAny); (case hok => rfl); (case h => intro C hC; simp (disch := omega) only [w1, ↓reduceIte, Nat.reduceEqDiff, Nat.reduceLeDiff, Nat.reduceAdd, Nat.reduceSub, hg]; with_reducible exact hC); refine gc ?_) | refine gm ?_)
  refine Get_ev (τ + 2) T H pc (keysOf st.l) key S.keys hk (by unfold keysOf; rw [List.length_map]; have := hf.l; omega) _ (fun hn H1 hO1 hle1 => ?_) (fun n hn H1 hO1 hle1 => ?_)
  · repeat (first | ((first | apply Xk.sAny | apply Xk.tAny); (case hok => rfl); (case h => intro C hC; simp (disch := omega) only [w1, ↓reduceIte, Nat.reduceEqDiff, Nat.reduceLeDiff, Nat.reduceAdd, Nat.reduceSub]; with_reducible exact hC); refine gc ?_) | refine gm ?_)
    repeat (first | ((first | apply Xk.sAny | apply Xk.tAny); (case hok => rfl); (case h => intro C hC; simp (disch := omega) only [w1, ↓reduceIte, Nat.reduceEqDiff, Nat.reduceLeDiff, Nat.reduceAdd, Nat.reduceSub]; with_reducible exact hC); refine gc ?_) | refine gm ?_)
    exact hno (keysOf_no hn) T H1 (Stp.le hO1 hle1) ⟨ps, pc, c, cn, vs, ns, S.step (Stp.le (O := fun _ => False) hO1 hle1) (fun _ _ h => h)⟩
  · obtain ⟨pre, x, post, e, hkx, rfl⟩ := keysOf_yes hn
    have s1 : Stp (fun _ => False) T H T H1 := Stp.le hO1 hle1
    iterate 2 repeat (first | ((first | apply Xk.sAny | apply Xk.tAny); (case hok => rfl); (case h => intro C hC; simp (disch := omega) only [w1, ↓reduceIte, Nat.reduceEqDiff, Nat.reduceLeDiff, Nat.reduceAdd, Nat.reduceSub]; with_reducible exact hC); refine gc ?_) | refine gm ?_)
    refine gone_ev τ T H1 p st ⟨ps, pc, c, cn, vs, ns, S.step s1 (fun _ _ h => h)⟩ hf pre post x e _ fun T2 H2 s2 S2 => ?_
    iterate 2 repeat (first | ((first | apply Xk.sAny | apply Xk.tAny); (case hok => rfl); (case h => intro C hC; simp (disch := omega) only [w1, ↓reduceIte, Nat.reduceEqDiff, Nat.reduceLeDiff, Nat.reduceAdd, Nat.reduceSub]; with_reducible exact hC); refine gc ?_) | refine gm ?_)
    exact hyes pre x post e hkx T2 H2 ((s1.mono fun _ h => h.elim).trans s2) S2

end Go.Proofs.Ytihoblfmhighpaa
