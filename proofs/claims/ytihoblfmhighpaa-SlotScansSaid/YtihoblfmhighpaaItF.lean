/- The store of items, in a heap: an item is put where there is room. Conditions: none. -/
import Derived.Test.YtihoblfmhighpaaItE
namespace Go.Proofs.Ytihoblfmhighpaa
open Go.Dp
set_option linter.unusedSimpArgs false
set_option linter.unusedVariables false
set_option maxHeartbeats 400000
set_option maxRecDepth 8000
attribute [local irreducible] Ex.thnK Ex.inK Ret

theorem iDrop2_ev (τ : Nat) (T : Tags) (H : Heap) (p : Nat) (st : St) (h : SH τ T H p st) (hf : st.Few) (key : List UInt8) (hk : key.length ≤ 1000000) (Q : AV → Heap → Prop)
    (hQ : ∀ b st1 T' H', Drp st key st1 → Stp (Ot τ) T H T' H' → SH τ T' H' p st1 → Q (.bool b) H') : Eo lib n_item_Store_Drop [.ptr p 0, .str key] H Q :=
  iDrop_ev τ T H p st h hf key hk Q (fun hn T' H' s S => hQ _ _ _ _ (.inl ⟨hn, rfl⟩) s S) (fun pre x post e hkx T' H' s S => hQ _ _ _ _ (.inr ⟨pre, x, post, e, hkx, rfl⟩) s S)

theorem rt_last {T : Tags} {H : Heap} {t : Tg} {v : AV} {l : List Nat} (h : RT T H t 0 1 v (nats l)) (hf : l ≠ []) :
    ∃ f fl, v = .sl f 0 l.length 1 ∧ H.get f = some (.cells fl 1) ∧ T f = t ∧ (fl.drop (l.length - 1)).take 1 = [.int .i64 (.ofNat (l.getLastD 0))] ∧ 0 < l.length ∧ l.length ≤ fl.length ∧ RT T H t 0 1 (.sl f 0 (l.length - 1) 1) (nats l.dropLast) := by
  have hlen : 0 < l.length := List.length_pos_iff.2 hf
  have hsp := last_split 0 hf
  rcases h with ⟨_, h2⟩ | ⟨f, len, fl, e1, h2, h3, h4, h5, h6⟩
  · exact absurd (List.eq_nil_of_length_eq_zero (by rw [← nats_len, h2]; rfl)) hf
  · rw [nats_len, Nat.mul_one] at h2
    subst h2
    rw [nats_len] at h4 h5
    have hd1 : l.dropLast.length = l.length - 1 := List.length_dropLast
    refine ⟨f, fl, e1, h3, h6, ?_, hlen, h4, ?_⟩
    · have e : (fl.take l.length).drop (l.length - 1) = (fl.drop (l.length - 1)).take 1 := by
        rw [List.drop_take]
        congr 1
        omega
      rw [← e, h5]
      have hnat : nats l = nats l.dropLast ++ [.int .i64 (.ofNat (l.getLastD 0))] := by
        conv => lhs; rw [hsp]
        rw [nats_app]
        rfl
      rw [hnat, List.drop_append_of_le_length (by rw [nats_len]; omega), List.drop_eq_nil_of_le (by rw [nats_len]; omega)]
      rfl
    · have := RT.cut (T := T) (t := t) (cs := nats l) (sz := 1) (l.length - 1) (Nat.sub_le _ _) (by rw [nats_len, Nat.mul_one]) h3 (by rw [nats_len]; exact h4) (by rw [nats_len]; exact h5) h6
      rw [Nat.mul_one] at this
      have e : (nats l).take (l.length - 1) = nats l.dropLast := by
        unfold nats
        rw [List.dropLast_eq_take, List.map_take]
      rw [e] at this
      exact this

theorem iPut_ev (τ : Nat) (T : Tags) (H : Heap) (p : Nat) (st : St) (h : SH τ T H p st) (hf : st.Few) (hn : st.n < 50000) (key data : List UInt8) (hk : key.length ≤ 1000000) (hd : data.length ≤ 1000000)
    (hroom : ∀ st1 i, Drp st key st1 → clsOf st1.s.cs (key ++ data).length = some i → ¬ st1.s.full i) (Q : AV → Heap → Prop)
    (hlong : ∀ st1, Drp st key st1 → clsOf st1.s.cs (key ++ data).length = none → ∀ T' H', Stp (Ot τ) T H T' H' → SH τ T' H' p st1 → Q (.tup [.nils, .int .i64 (.ofNat 2)]) H')
    (hyes : ∀ st1 i, Drp st key st1 → clsOf st1.s.cs (key ++ data).length = some i → ∀ T' H', Stp (Ot τ) T H T' H' → SH τ T' H' p (st1.put key data i) → Q (.tup [.nils, .int .i64 (.ofNat 0)]) H') :
    Eo lib n_item_Store_Put [.ptr p 0, .str key, .str data, .bool false] H Q := by
  refine Eo.ok fun hOk => ?_
  refine Eo.code at_item_Store_Put rfl ?_
  have hok0 : st.Ok := by
    obtain ⟨ps, pc, c, cn, vs, ns, S⟩ := h
    exact S.ok
  iterate 2 repeat (first | ((first | apply Xk.sAny | apply Xk.tAny); (case hok => rfl); (case h => intro C hC; simp (disch := omega) only [w1, ↓reduceIte, Nat.reduceEqDiff, Nat.reduceLeDiff, Nat.reduceAdd, Nat.reduceSub]; with_reducible exact hC); refine gc ?_) | refine gm ?_)
  refine iDrop2_ev τ T H p st h hf key hk _ fun b st1 T1 H1 hdr s1 h1 => ?_
  obtain ⟨hok1, hno⟩ := hdr.ok hok0
  have hroom1 := hroom st1
  have hlong1 := hlong st1 hdr
  have hyes1 := fun i => hyes st1 i hdr
  have hf1 : st1.n ≤ st.n ∧ st1.l.length ≤ 50000 ∧ st1.spare.length ≤ 50001 ∧ ∀ x ∈ st1.l, x.key.length ≤ 1000000 := by
    rcases hdr with ⟨_, rfl⟩ | ⟨pre, x, post, e, _, rfl⟩
    · exact ⟨Nat.le_refl _, hf.l, Nat.le_succ_of_le hf.sp, hf.ky⟩
    · refine ⟨Nat.le_refl _, ?_, ?_, fun y hy => hf.ky y ?_⟩
      · have := hf.l
        rw [e, List.length_append, List.length_cons] at this
        show (pre ++ post).length ≤ _
        rw [List.length_append]
        omega
      · show (st.spare ++ [x.node]).length ≤ _
        rw [List.length_append, List.length_singleton]
        have := hf.sp
        omega
      · rw [e]
        exact (perm_mid ..).mem_iff.2 (List.mem_cons_of_mem _ hy)
  clear hlong hyes hroom
  obtain ⟨ps, pc, c, cn, vs, ns, S⟩ := h1
  have hg1 := S.head.1
  iterate 2 repeat (first | ((first | apply Xk.sAny | apply Xk.tAny); (case hok => rfl); (case h => intro C hC; simp (disch := omega) only [w1, ↓reduceIte, Nat.reduceEqDiff, Nat.reduceLeDiff, Nat.reduceAdd, Nat.reduceSub, hg1]; with_reducible exact hC); refine gc ?_) | refine gm ?_)
  refine Class_ev (τ + 1) T1 H1 ps st1.s c S.slab hok1.s.ln (key.length + data.length) _ (fun hc H2 hO2 hle2 => ?_) (fun i hc H2 hO2 hle2 => ?_)
  · have hneg : (Int.negSucc 0 < Int.ofNat 0) = True := eq_true (by decide)
    iterate 2 repeat (first | ((first | apply Xk.sAny | apply Xk.tAny); (case hok => rfl); (case h => intro C hC; simp (disch := omega) only [w1, ↓reduceIte, Nat.reduceEqDiff, Nat.reduceLeDiff, Nat.reduceAdd, Nat.reduceSub, hneg]; with_reducible exact hC); refine gc ?_) | refine gm ?_)
    have s2 : Stp (fun _ => False) T1 H1 T1 H2 := Stp.le hO2 hle2
    exact hlong1 (by rw [List.length_append]; exact hc) T1 H2 (s1.trans (s2.mono fun _ h => h.elim)) ⟨ps, pc, c, cn, vs, ns, S.step s2 (fun _ _ h => h)⟩
  have s2 : Stp (fun _ => False) T1 H1 T1 H2 := Stp.le hO2 hle2
  have S2 := S.step s2 (fun _ _ h => h)
  have hst2 : Stp (Ot τ) T H T1 H2 := s1.trans (s2.mono fun _ h => h.elim)
  have hcl : clsOf st1.s.cs (key ++ data).length = some i := by rw [List.length_append]; exact hc
  have hnf := hroom1 i hdr hcl
  have hye := hyes1 i hcl
  have hil := clsOf_lt hcl
  have hlb := hok1.s.ln
  clear hroom1 hyes1 hlong1 S hg1 s1 s2 hle2
  have hg2 := S2.head.1
  have hkd : key.length + data.length ≤ 4611686018427387904 := by omega
  iterate 2 repeat (first | ((first | apply Xk.sAny | apply Xk.tAny); (case hok => rfl); (case h => intro C hC; simp (disch := omega) only [w1, ↓reduceIte, Nat.reduceEqDiff, Nat.reduceLeDiff, Nat.reduceAdd, Nat.reduceSub, Nat.not_lt_zero, hg2, hkd]; with_reducible exact hC); refine gc ?_) | refine gm ?_)
  refine Alloc_ev (τ + 1) T1 H2 ps st1.s c S2.slab hok1.s (key ++ data) (by rw [List.length_append]; omega) _ (fun hl => absurd (hl.symm.trans hcl) (by simp)) (fun i' hi' hfu => ?_) (fun i' hi' hnf' T3 H3 s3 sl3 => ?_)
  · obtain rfl : i = i' := Option.some.inj (hcl.symm.trans hi')
    exact absurd hfu hnf
  obtain rfl : i = i' := Option.some.inj (hcl.symm.trans hi')
  have h3 := S2.head.step s3 no1
  have k3 := S2.keys.step s3 (fun t ht h => by omega)
  have r3 := S2.row.step s3 no1
  have sp3 := S2.spare.step s3 no1
  have hst3 := hst2.trans (s3.mono (P := Ot τ) fun u h => ot1 h)
  have hR := S2.ring
  obtain ⟨hokp, hndp, hltp⟩ := hok1.put (key := key) (data := data) hil hnf hno
  generalize hal : (st1.s.alloc i (key ++ data)).2 = ch at *
  iterate 2 repeat (first | ((first | apply Xk.sAny | apply Xk.tAny); (case hok => rfl); (case h => intro C hC; simp (disch := omega) only [w1, ↓reduceIte, Nat.reduceEqDiff, Nat.reduceLeDiff, Nat.reduceAdd, Nat.reduceSub]; with_reducible exact hC); refine gc ?_) | refine gm ?_)
  obtain ⟨T4, s4, a4⟩ := new1 (T := T3) s3.ok (τ, 9, 0) (.cells [.int .i64 (.ofNat i), .int .i64 (.ofNat ch)] 1)
  have h4 := h3.step s4 (fun h => h)
  have sl4 := sl3.step s4 (fun _ _ h => h)
  have k4 := k3.step s4 (fun _ _ h => h)
  have r4 := r3.step s4 (fun h => h)
  have sp4 := sp3.step s4 (fun h => h)
  have hst4 := hst3.trans (s4.mono (P := Ot τ) fun _ h => h.elim)
  generalize H3.new (.cells [.int .i64 (.ofNat i), .int .i64 (.ofNat ch)] 1) = H4 at s4 a4 h4 sl4 k4 r4 sp4 hst4 ⊢
  generalize H3.next = ph at a4 ⊢
  clear h3 sl3 k3 r3 sp3 hst3 s3 s4 S2 hst2 hg2
  refine Xk.iter [0, 1, 3, 11, 12, 13] (fun m k H' => k = [(0, .ptr p 0), (1, .str key), (3, .bool false), (11, .nils), (12, .ptr ph 0), (13, .int .i64 (.ofNat 0))] ∧ H' = H4) rfl ⟨0, rfl, rfl⟩ ?_
  rintro m k H' ⟨rfl, rfl⟩
  unfold l0_item_Store_Put
  have h06 : (0 = 6) = False := eq_false (by decide)
  have hg4 := h4.1
  have vl := sp4.lens (by decide)
  rw [nats_len, Nat.div_one] at vl
  obtain ⟨v1, v2⟩ := sp4.sc
  have hn1 : st1.n ≤ 50000 := by omega
  repeat (first | ((first | apply Xk.sAny | apply Xk.tAny); (case hok => rfl); (case h => intro C hC; simp (disch := omega) only [w1, ↓reduceIte, Nat.reduceEqDiff, Nat.reduceLeDiff, Nat.reduceAdd, Nat.reduceSub, h06]; with_reducible exact hC); refine gc ?_) | refine gm ?_)
  repeat (first | ((first | apply Xk.sAny | apply Xk.tAny); (case hok => rfl); (case h => intro C hC; simp (disch := omega) only [w1, ↓reduceIte, Nat.reduceEqDiff, Nat.reduceLeDiff, Nat.reduceAdd, Nat.reduceSub, h06, hg4, vl, v1, v2]; with_reducible exact hC); refine gc ?_) | refine gm ?_)
  refine Xk.cut [0, 1, 3, 11, 12, 15] (fun k H'' => ∃ T' cn' vs' ns', k = [(0, .ptr p 0), (1, .str key), (3, .bool false), (11, .nils), (12, .ptr ph 0), (15, .int .i64 (.ofNat st1.nnode))] ∧ At T' H'' (τ, 0, 0) p (.cells [.ptr ps 0, .ptr pc 0, .sl cn' 0 (st1.put key data i).n 6, vs'] 1) ∧
      Nrow τ T' H'' cn' (st1.put key data i).n ns' ∧ RT T' H'' (τ, 2, 0) 0 1 vs' (nats st1.spare.dropLast) ∧ ns'.length = (st1.put key data i).n ∧ (∀ a, a < st1.n → ns'.getD a noNd = ns.getD a noNd) ∧ SbC (τ + 1) T' H'' ps (st1.s.alloc i (key ++ data)).1 c ∧ Ch (τ + 2) T' H'' pc (keysOf st1.l) ∧
      At T' H'' (τ, 9, 0) ph (.cells [.int .i64 (.ofNat i), .int .i64 (.ofNat ch)] 1) ∧ Stp (Ot τ) T H T' H'') ?_ ?_
  · refine Xk.if_ rfl rfl (fun z => ?_) (fun z => ?_)
    · have hs : st1.spare ≠ [] := fun e => by rw [e] at z; cases z
      have e1 : st1.nnode = st1.spare.getLastD 0 := if_neg hs
      have e2 : (st1.put key data i).n = st1.n := if_neg hs
      obtain ⟨f, fl, g1, g2, g3, g4, g5, g6, g7⟩ := rt_last sp4 hs
      subst g1
      rw [e1, e2]
      have s5 := h4.stp1 hst4.ok (.cells [.ptr ps 0, .ptr pc 0, .sl cn 0 st1.n 6, .sl f 0 (st1.spare.length - 1) 1] 1)
      have hsl := hf1.2.2.1
      generalize st1.spare.getLastD 0 = last at *
      generalize hlen : st1.spare.length = ln at *
      have f1 : 1 ≤ ln := g5
      have f2 : ln - 1 < ln := by omega
      have f3 : ln - 1 + 1 ≤ fl.length := by omega
      have f4 : ln - 1 ≤ fl.length := by omega
      repeat (first | ((first | apply Xk.sAny | apply Xk.tAny); (case hok => rfl); (case h => intro C hC; simp (disch := omega) only [w1, ↓reduceIte, Nat.reduceEqDiff, Nat.reduceLeDiff, Nat.reduceAdd, Nat.reduceSub, hg4, g2, g4, f1, f2, f3, f4]; with_reducible exact hC); refine gc ?_) | refine gm ?_)
      refine ⟨rfl, T4, cn, _, ns, rfl, h4.put _, r4.step s5 (tg3 (by decide)), g7.step s5 (tg3 (by decide)), hR.ln, fun _ _ => rfl, sl4.step s5 (fun t ht => no0 (.inl ht)), k4.step s5 (fun t ht => no0 (.inr ht)), a4.step s5 (tg3 (by decide)), hst4.trans (s5.mono (P := Ot τ) fun u h => by rw [h]; exact ot0 ..)⟩
    · have hs : st1.spare = [] := List.eq_nil_of_length_eq_zero (by omega)
      have e1 : st1.nnode = st1.n := if_pos hs
      have e2 : (st1.put key data i).n = st1.n + 1 := if_pos hs
      rw [e1, e2]
      have hfl : (ns.flatMap Nd.cells).length = ns.length * 6 := fm_len (g := Nd.cells) (fun _ => rfl) ns
      obtain ⟨v', H5, T5, f1, f2, f3⟩ := RT.push (bytes := 56) (w := 1) (row := noNd.cells) hst4.ok r4 rfl rfl (by decide) (by rw [hfl, Nat.mul_div_cancel _ (by decide), hR.ln]; omega) (by rw [hfl, Nat.mul_div_cancel _ (by decide), hR.ln]; omega)
      have f3 : RT T5 H5 (τ, 1, 0) 0 6 v' ((ns ++ [noNd]).flatMap Nd.cells) := by
        rw [List.flatMap_append]
        exact f3
      have hln : (ns ++ [noNd]).length = st1.n + 1 := by rw [List.length_append, hR.ln]; rfl
      obtain ⟨cn', cl', q1, _, _, _, _, _⟩ := RT.rowG (g := Nd.cells) (fun _ => rfl) noNd f3 (by omega) (by decide)
      rw [hln] at q1
      subst q1
      have h5 := h4.step f2 (tg3 (by decide))
      have s6 := h5.stp1 f2.ok (.cells [.ptr ps 0, .ptr pc 0, .sl cn' 0 (st1.n + 1) 6, vs] 1)
      have hg5 := h5.1
      have f1 : evalApp 0 6 56 (H'.new (.cells [.str [], .int .i64 (.ofNat 0), .int .i64 (.ofNat 0), .bool false, .int .i64 (.ofNat 0), .int .i64 (.ofNat 0)] 1)) (.sl cn 0 st1.n 6) (.sl H'.next 0 1 6) = some (.sl cn' 0 (st1.n + 1) 6, H5) := f1
      have sp5 : RT T4 H' (τ, 2, 0) 0 1 vs (nats st1.spare.dropLast) := by rw [hs] at sp4 ⊢; exact sp4
      have z' := eq_false z
      repeat (first | ((first | apply Xk.sAny | apply Xk.tAny); (case hok => rfl); (case h => intro C hC; simp (disch := omega) only [w1, ↓reduceIte, Nat.reduceEqDiff, Nat.reduceLeDiff, Nat.reduceAdd, Nat.reduceSub, hg4, f1, hg5]; with_reducible exact hC); refine gc ?_) | refine gm ?_)
      refine ⟨rfl, T5, cn', vs, ns ++ [noNd], rfl, h5.put _, f3.step s6 (tg3 (by decide)), (sp5.step f2 (tg3 (by decide))).step s6 (tg3 (by decide)), hln, fun a ha => ?_, (sl4.step f2 (fun t ht => no0 (.inl ht))).step s6 (fun t ht => no0 (.inl ht)), (k4.step f2 (fun t ht => no0 (.inr ht))).step s6 (fun t ht => no0 (.inr ht)), (a4.step f2 (tg3 (by decide))).step s6 (tg3 (by decide)), (hst4.trans (f2.mono (P := Ot τ) fun u h => by rw [h]; exact ot0 ..)).trans (s6.mono (P := Ot τ) fun u h => by rw [h]; exact ot0 ..)⟩
      rw [List.getD_eq_getElem?_getD, List.getD_eq_getElem?_getD, List.getElem?_append_left (by rw [hR.ln]; exact ha)]
  · rintro k H5 ⟨T5, cn', vs', ns', rfl, h5, r5, sp5, hl5, hsame, sl5, k5, a5, hst5⟩
    have hnl : st1.nnode < (st1.put key data i).n := hltp _ (List.mem_cons_of_mem _ (List.mem_cons_self ..))
    have hnN : (st1.put key data i).n ≤ 50001 := by
      have e : (st1.put key data i).n = if st1.spare = [] then st1.n + 1 else st1.n := rfl
      rw [e]
      split <;> omega
    obtain ⟨cl5, hc5, hcl5, _⟩ := ndAt r5 hl5 (by omega)
    obtain ⟨r6, s6, b6⟩ := nrow_put (τ := τ) hst5.ok r5 hl5 hc5.1 hnl (j := 0) (ys := Nd.cells ⟨key, i, ch, 0, 0⟩) (n := ⟨key, i, ch, 0, 0⟩) (by show 0 + 6 ≤ 6; omega) rfl
    rw [Nat.add_zero] at r6 s6 b6
    have hg5 := h5.1
    have hgc5 := hc5.1
    have hga5 := a5.1
    have b6 : st1.nnode * 6 + 6 ≤ cl5.length := b6
    have h6 := h5.step s6 (tg3 (by decide))
    have hov : cl5.take (st1.nnode * 6) ++ (.str key :: .int .i64 (.ofNat i) :: .int .i64 (.ofNat ch) :: .bool false :: .int .i64 (.ofNat 0) :: .int .i64 (.ofNat 0) :: cl5.drop (st1.nnode * 6 + 6)) = over cl5 (st1.nnode * 6) (Nd.cells ⟨key, i, ch, 0, 0⟩) := rfl
    generalize over cl5 (st1.nnode * 6) (Nd.cells ⟨key, i, ch, 0, 0⟩) = cl6 at *
    have hnot : st1.nnode ∉ 0 :: st1.l.map (·.node) := by
      have hp : (0 :: st1.nnode :: st1.l.map (·.node)).Perm (st1.nnode :: 0 :: st1.l.map (·.node)) := List.Perm.swap ..
      exact (List.nodup_cons.1 (hp.nodup_iff.1 hndp)).1
    have hget : ∀ a, a ∈ 0 :: st1.l.map (·.node) → (ns'.set st1.nnode ⟨key, i, ch, 0, 0⟩).getD a noNd = ns.getD a noNd := fun a ha => by
      rw [getD_setN (by rw [hl5]; exact hnl), if_neg (show ¬ a = st1.nnode from fun q => hnot (q ▸ ha)), hsame a (hok1.lt a (by
        rcases List.mem_cons.1 ha with q | q
        · rw [q]; exact List.mem_cons_self ..
        · exact List.mem_cons_of_mem _ (List.mem_append_left _ q)))]
    obtain ⟨m3, R'⟩ := Ring.add (st := st1) (x := ⟨key, data, i, ch, st1.nnode⟩) (ns := ns'.set st1.nnode ⟨key, i, ch, 0, 0⟩) (n' := (st1.put key data i).n) (by rw [List.length_set]; exact hl5)
      (hR.chn.congr (fun y hy => by show (List.getD _ y noNd).nx = (List.getD _ y noNd).nx; rw [hget y hy]) (fun y hy => by show (List.getD _ y noNd).pv = (List.getD _ y noNd).pv; rw [hget y (List.mem_cons_of_mem _ hy)]) (by show (List.getD _ 0 noNd).pv = (List.getD _ 0 noNd).pv; rw [hget 0 (List.mem_cons_self ..)]))
      (fun y hy => by rw [hget _ (List.mem_cons_of_mem _ (List.mem_map_of_mem hy))]; exact hR.nd y hy) hndp hltp (by rw [getD_setN (by rw [hl5]; exact hnl), if_pos rfl]; exact ⟨rfl, rfl, rfl⟩) (st1.s.alloc i (key ++ data)).1 st1.spare.dropLast
    have m3' : nxt (ns'.set st1.nnode ⟨key, i, ch, 0, 0⟩) 0 < (st1.put key data i).n := m3
    iterate 2 repeat (first | ((first | apply Xk.sAny | apply Xk.tAny); (case hok => rfl); (case h => intro C hC; simp (disch := omega) only [w1, ↓reduceIte, Nat.reduceEqDiff, Nat.reduceLeDiff, Nat.reduceAdd, Nat.reduceSub, hg5, hgc5, hga5, hnl, b6, hov]; with_reducible exact hC); refine gc ?_) | refine gm ?_)
    refine in_ev τ T5 _ p _ _ _ cn' (st1.put key data i).n _ h6 r6 (by rw [List.length_set]; exact hl5) (by omega) st1.nnode hnl m3' _ fun H7 s7 r7 => ?_
    have h7 := h6.step s7 (tg3 (by decide))
    have k7 := (k5.step s6 (fun t ht => no0 (.inr ht))).step s7 (fun t ht => no0 (.inr ht))
    have sl7 := (sl5.step s6 (fun t ht => no0 (.inl ht))).step s7 (fun t ht => no0 (.inl ht))
    have sp7 := (sp5.step s6 (tg3 (by decide))).step s7 (tg3 (by decide))
    have hst7 := (hst5.trans (s6.mono (P := Ot τ) fun u h => by rw [h]; exact ot0 ..)).trans (s7.mono (P := Ot τ) fun u h => by rw [h]; exact ot0 ..)
    have hg7 := h7.1
    iterate 2 repeat (first | ((first | apply Xk.sAny | apply Xk.tAny); (case hok => rfl); (case h => intro C hC; simp (disch := omega) only [w1, ↓reduceIte, Nat.reduceEqDiff, Nat.reduceLeDiff, Nat.reduceAdd, Nat.reduceSub, hg7]; with_reducible exact hC); refine gc ?_) | refine gm ?_)
    refine Put_ev (τ + 2) T5 H7 pc (keysOf st1.l) key st1.nnode k7 hk (by unfold keysOf; rw [List.length_map]; have := hf1.2.1; omega) (fun e he => by
      obtain ⟨x, hx, rfl⟩ := List.mem_map.1 he
      exact hf1.2.2.2 x hx) (fun e he => by
      obtain ⟨x, hx, rfl⟩ := List.mem_map.1 he
      exact hno x hx) _ fun T8 H8 s8 k8 => ?_
    iterate 2 repeat (first | ((first | apply Xk.sAny | apply Xk.tAny); (case hok => rfl); (case h => intro C hC; simp (disch := omega) only [w1, ↓reduceIte, Nat.reduceEqDiff, Nat.reduceLeDiff, Nat.reduceAdd, Nat.reduceSub]; with_reducible exact hC); refine gc ?_) | refine gm ?_)
    refine hye T8 H8 (hst7.trans (s8.mono (P := Ot τ) fun u h => ot2 h)) ⟨ps, pc, c, cn', vs', _, h7.step s8 no2, sl7.step s8 (fun t ht h => by omega), k8.perm ?_, r7.step s8 no2, sp7.step s8 no2, ?_, hokp⟩
    · exact List.perm_append_singleton _ _
    · have e : st1.put key data i = ⟨(st1.s.alloc i (key ++ data)).1, ⟨key, data, i, ch, st1.nnode⟩ :: st1.l, st1.spare.dropLast, (st1.put key data i).n⟩ := by rw [← hal]; rfl
      rw [e]
      exact R'
end Go.Proofs.Ytihoblfmhighpaa
