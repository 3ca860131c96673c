/- Layer 13: the reference's parser: data, step, Feed. Conditions: none. -/
import Derived.Test.YtkjmelfgopammaaPaC
namespace Go.Proofs.Ytkjmelfgopammaa
open Go.Dp Go.Wd
set_option linter.unusedSimpArgs false
set_option linter.unusedVariables false
set_option maxHeartbeats 2000000
set_option maxRecDepth 4000
attribute [local irreducible] Ex.thnK Ex.inK Ret

theorem rPdata_ev (H0 H : Heap) (b : Nat) (p : PS) (P : Ra H0 H b p) (hp : p.Ok) (hat : p.at_ = 1) (hlen : p.left.length < 1000000000) (Q : AV → Heap → Prop)
    (hQ : ∀ H' kv, Ra H0 H' b (dataStep p).2.1 → EvOk H0 H' kv (evOf (dataStep p).2.2) → Q (.tup [.agg (evC kv (evOf (dataStep p).2.2)), .bool (dataStep p).1]) H') (hkk : p.asked.keys ≠ []) : Eo lib n_depotref9_Parser_data [.ptr b 0] H Q := by
  have hby := (hp.data hat).1
  obtain ⟨a, l, c, asked, sh⟩ := p
  simp only at hat hlen hby hkk
  subst hat
  obtain ⟨kv, hb, hkv, hnn⟩ := P.body
  simp only at hkv
  have hb0 := hb
  have hltb := P.ok.lt hb
  have hnone := P.none (Nat.le_refl _)
  have hnone2 := P.none (Nat.le_succ H.next)
  have hne : H.next ≠ b := by omega
  have hne' : b ≠ H.next := by omega
  have hne2 : H.next + 1 ≠ b := by omega
  have hne2' : b ≠ H.next + 1 := by omega
  have hne3 : H.next ≠ H.next + 1 := by omega
  have hne3' : H.next + 1 ≠ H.next := by omega
  obtain ⟨q1, q2⟩ := hkv.sc
  unfold rsC at hb
  have hl1 : HLe H (H.new (.cells (evC .nils noEv) 1)) := HLe.new (P.ok _ (Nat.le_refl _)) _
  have hl2 : HLe (H.new (.cells (evC .nils noEv) 1)) ((H.new (.cells (evC .nils noEv) 1)).new (.cells (reqC asked.verb kv asked.flags asked.exp asked.bytes asked.cas asked.delta asked.noReply asked.data) 1)) := HLe.new ((P.ok.new _) _ (Nat.le_refl _)) _
  have P2 := (P.mono (P.ok.new (.cells (evC .nils noEv) 1)) hl1).mono ((P.ok.new (.cells (evC .nils noEv) 1)).new (.cells (reqC asked.verb kv asked.flags asked.exp asked.bytes asked.cas asked.delta asked.noReply asked.data) 1)) hl2
  have hb2 := hl2 _ _ (hl1 _ _ hb0)
  have hz2 := hl2 _ _ (Heap.get_new_self H (.cells (evC .nils noEv) 1))
  have hr2 : ((H.new (.cells (evC .nils noEv) 1)).new (.cells (reqC asked.verb kv asked.flags asked.exp asked.bytes asked.cas asked.delta asked.noReply asked.data) 1)).get (H.next + 1) = some (.cells (reqC asked.verb kv asked.flags asked.exp asked.bytes asked.cas asked.delta asked.noReply asked.data) 1) := Heap.get_new2 _ _ _
  have hkv2 := (hkv.mono hl1).mono hl2
  refine Eo.code at_depotref9_Parser_data rfl ?_
  have e0 : dataStep ⟨1, l, c, asked, sh⟩ = (if l.length ≤ asked.bytes then (false, ⟨1, l, c, asked, sh⟩, []) else if l.drop asked.bytes = [13] then (false, ⟨1, l, c, asked, sh⟩, [])
      else if (l.drop asked.bytes).take 2 = [13, 10] then (true, ⟨0, (l.drop asked.bytes).drop 2, c, noReq, sh⟩, [evReq { asked with data := l.take asked.bytes }]) else (true, ⟨3, l.drop asked.bytes, c, noReq, sh⟩, [evAns 13 badData])) := rfl
  rw [e0] at hQ
  clear e0
  by_cases h0 : l.length ≤ asked.bytes
  · rw [if_pos h0] at hQ
    have h1 : l.length < asked.bytes + 2 := by omega
    have h2 : ¬ (asked.bytes < l.length) := by omega
    repeat (first | ((first | apply Xk.sAny | apply Xk.tAny); (case hok => rfl); (case h => intro C hC; simp (disch := omega) only [w1, ↓reduceIte, Nat.reduceEqDiff, Nat.reduceLeDiff, Nat.reduceAdd, Nat.reduceSub, hb, q1, q2, hne, hne', hne2, hne2', hne3, hne3', h1, h2]; with_reducible exact hC); refine gc ?_) | refine gm ?_)
    refine Ret.ret rfl (by simp only [resKs, resK, cond_true, w1, ↓reduceIte, Nat.reduceEqDiff, Nat.reduceLeDiff, Nat.reduceAdd, Nat.reduceSub, pf_depotref9_Parser_data, hne, hne', hne2, hne2', hne3, hne3']; rfl) rfl ?_
    obtain ⟨u1, u2⟩ := P2.out hz2 hnone hne (kq := .nils) (e := noEv) (EvOk.nils rfl) (.cells (evC .nils noEv) 1)
    exact hQ _ .nils u1 u2
  rw [if_neg h0] at hQ
  have h00 : asked.bytes < l.length := by omega
  have h01 : asked.bytes ≤ l.length := by omega
  have h3 : (l.drop asked.bytes).take (l.length - asked.bytes) = l.drop asked.bytes := List.take_of_length_le (by rw [List.length_drop]; omega)
  have hld : (l.drop asked.bytes).length = l.length - asked.bytes := List.length_drop
  have hx : l.getD asked.bytes 0 = (l.drop asked.bytes).getD 0 0 := by simp [List.getD_eq_getElem?_getD]
  generalize hrest : l.drop asked.bytes = rest at *
  cases rest with
  | nil => simp at hld; omega
  | cons x tl =>
    rw [List.getD_cons_zero] at hx
    by_cases h1 : x :: tl = [13]
    · rw [if_pos h1] at hQ
      obtain ⟨rfl, rfl⟩ := List.cons.inj h1
      have h4 : l.length < asked.bytes + 2 := by simp at hld; omega
      have h5 : ((13 : UInt8).toNat = 13) = True := by decide
      repeat (first | ((first | apply Xk.sAny | apply Xk.tAny); (case hok => rfl); (case h => intro C hC; simp (disch := omega) only [w1, ↓reduceIte, Nat.reduceEqDiff, Nat.reduceLeDiff, Nat.reduceAdd, Nat.reduceSub, hb, q1, q2, hne, hne', hne2, hne2', hne3, hne3', h4, h00, hx, h5]; with_reducible exact hC); refine gc ?_) | refine gm ?_)
      refine Ret.ret rfl (by simp only [resKs, resK, cond_true, w1, ↓reduceIte, Nat.reduceEqDiff, Nat.reduceLeDiff, Nat.reduceAdd, Nat.reduceSub, pf_depotref9_Parser_data, hne, hne', hne2, hne2', hne3, hne3']; rfl) rfl ?_
      obtain ⟨u1, u2⟩ := P2.out hz2 hnone hne (kq := .nils) (e := noEv) (EvOk.nils rfl) (.cells (evC .nils noEv) 1)
      exact hQ _ .nils u1 u2
    rw [if_neg h1] at hQ
    have hx13 : tl = [] → ¬ x.toNat = 13 := by
      intro e h
      subst e
      exact h1 (by rw [show x = 13 from UInt8.toNat_inj.1 h])
    cases tl with
    | nil =>
      have h4 : l.length < asked.bytes + 2 := by simp at hld; omega
      have h5 := eq_false (hx13 rfl)
      have h6 : (0 + 1 < 2) = True := by decide
      rw [if_neg (show ¬ List.take 2 [x] = [13, 10] by simp)] at hQ
      repeat (first | ((first | apply Xk.sAny | apply Xk.tAny); (case hok => rfl); (case h => intro C hC; simp (disch := omega) only [w1, ↓reduceIte, Nat.reduceEqDiff, Nat.reduceLeDiff, Nat.reduceAdd, Nat.reduceSub, hb, q1, q2, hne, hne', hne2, hne2', hne3, hne3', h4, h00, h01, hx, hrest, h3, h5, h6]; with_reducible exact hC); refine gc ?_) | refine gm ?_)
      refine client_ev _ _ _ fun H4 hO4 hle4 => ?_
      have P3 := ((P2.set (p' := ⟨1, l, c, noReq, sh⟩) (kv := .nils) (.inl ⟨rfl, rfl⟩) (.inl rfl) hb2).set (p' := ⟨1, [x], c, noReq, sh⟩) (kv := .nils) (.inl ⟨rfl, rfl⟩) (.inl rfl) (Heap.get_put_self _ _ _)).set (p' := ⟨3, [x], c, noReq, sh⟩) (kv := .nils) (.inl ⟨rfl, rfl⟩) (.inl rfl) (Heap.get_put_self _ _ _)
      rw [Heap.put_put, Heap.put_put] at P3
      have hz4 := hle4 _ _ ((Heap.get_put_ne _ _ _ hne).trans hz2)
      obtain ⟨u1, u2⟩ := (P3.mono hO4 hle4).out hz4 hnone hne (kq := .nils) (e := evAns 13 badData) (EvOk.nils rfl) (.cells (evC .nils (evAns 13 badData)) 1)
      unfold evC noEv noReq reqC at hz4
      simp only [List.cons_append, List.nil_append] at hz4
      repeat (first | ((first | apply Xk.sAny | apply Xk.tAny); (case hok => rfl); (case h => intro C hC; simp (disch := omega) only [w1, ↓reduceIte, Nat.reduceEqDiff, Nat.reduceLeDiff, Nat.reduceAdd, Nat.reduceSub, hz4, evC, evAns, noReq, reqC]; with_reducible exact hC); refine gc ?_) | refine gm ?_)
      refine Ret.ret rfl (by simp only [resKs, resK, cond_true, w1, ↓reduceIte, Nat.reduceEqDiff, Nat.reduceLeDiff, Nat.reduceAdd, Nat.reduceSub, pf_depotref9_Parser_data, hz4]; rfl) rfl ?_
      exact hQ _ .nils u1 u2
    | cons y tl =>
      have h4 : ¬ (l.length < asked.bytes + 2) := by simp at hld; omega
      have h6 : (tl.length + 1 + 1 < 2) = False := by simp
      have g0 : 0 < tl.length + 1 + 1 := by omega
      have g1 : 1 < tl.length + 1 + 1 := by omega
      by_cases hx5 : x.toNat = 13
      · have h5 := eq_true hx5
        by_cases hy5 : y.toNat = 10
        · have h7 := eq_true hy5
          obtain rfl : x = 13 := UInt8.toNat_inj.1 hx5
          obtain rfl : y = 10 := UInt8.toNat_inj.1 hy5
          rw [if_pos (show List.take 2 ((13 : UInt8) :: 10 :: tl) = [13, 10] from rfl)] at hQ
          have g2 : 2 ≤ tl.length + 1 + 1 := by omega
          have g3 : tl.length + 1 + 1 - 2 = tl.length := by omega
          repeat (first | ((first | apply Xk.sAny | apply Xk.tAny); (case hok => rfl); (case h => intro C hC; simp (disch := omega) only [w1, ↓reduceIte, Nat.reduceEqDiff, Nat.reduceLeDiff, Nat.reduceAdd, Nat.reduceSub, hb, q1, q2, hne, hne', hne2, hne2', hne3, hne3', h4, h00, h01, hx, hrest, h3, h5, h6, h7, g0, g1, g2, g3, List.getD_cons_zero, List.getD_cons_succ, List.take_length]; with_reducible exact hC); refine gc ?_) | refine gm ?_)
          refine Ret.ret rfl (by simp only [resKs, resK, cond_true, w1, ↓reduceIte, Nat.reduceEqDiff, Nat.reduceLeDiff, Nat.reduceAdd, Nat.reduceSub, pf_depotref9_Parser_data, hne, hne', hne2, hne2', hne3, hne3']; rfl) rfl ?_
          have P3 := ((P2.set (p' := ⟨0, l, c, noReq, sh⟩) (kv := .nils) (.inl ⟨rfl, rfl⟩) (.inl rfl) hb2).set (p' := ⟨0, 13 :: 10 :: tl, c, noReq, sh⟩) (kv := .nils) (.inl ⟨rfl, rfl⟩) (.inl rfl) (Heap.get_put_self _ _ _)).set (p' := ⟨0, tl, c, noReq, sh⟩) (kv := .nils) (.inl ⟨rfl, rfl⟩) (.inl rfl) (Heap.get_put_self _ _ _)
          rw [Heap.put_put, Heap.put_put] at P3
          have hr3 := (Heap.get_put_ne ((H.new (.cells (evC .nils noEv) 1)).new (.cells (reqC asked.verb kv asked.flags asked.exp asked.bytes asked.cas asked.delta asked.noReply asked.data) 1)) b (.cells (rsC ⟨0, tl, c, noReq, sh⟩ .nils) 1) hne2).trans hr2
          have hz3 := (Heap.get_put_ne ((H.new (.cells (evC .nils noEv) 1)).new (.cells (reqC asked.verb kv asked.flags asked.exp asked.bytes asked.cas asked.delta asked.noReply asked.data) 1)) b (.cells (rsC ⟨0, tl, c, noReq, sh⟩ .nils) 1) hne).trans hz2
          have P4 := P3.new (x := .cells (reqC asked.verb kv asked.flags asked.exp asked.bytes asked.cas asked.delta asked.noReply (l.take asked.bytes)) 1) hr3 (fun ks => no_keys_int _ _ _ _) hnone2 hne2
          have hkv4 := key_put hr3 (fun ks => no_keys_int _ _ _ _) (.cells (reqC asked.verb kv asked.flags asked.exp asked.bytes asked.cas asked.delta asked.noReply (l.take asked.bytes)) 1) (key_put hb2 (rsC_keys _ _) (.cells (rsC ⟨0, tl, c, noReq, sh⟩ .nils) 1) hkv2)
          obtain ⟨u1, u2⟩ := P4.out ((Heap.get_put_ne _ _ _ hne3).trans hz3) hnone hne (kq := kv) (e := evReq { asked with data := l.take asked.bytes }) ⟨hkv4, .inr (.inl hkk)⟩ (.cells (evC kv (evReq { asked with data := l.take asked.bytes })) 1)
          exact hQ _ kv u1 u2
        · have h7 := eq_false hy5
          rw [if_neg (by intro h; cases h; exact hy5 rfl)] at hQ
          repeat (first | ((first | apply Xk.sAny | apply Xk.tAny); (case hok => rfl); (case h => intro C hC; simp (disch := omega) only [w1, ↓reduceIte, Nat.reduceEqDiff, Nat.reduceLeDiff, Nat.reduceAdd, Nat.reduceSub, hb, q1, q2, hne, hne', hne2, hne2', hne3, hne3', h4, h00, h01, hx, hrest, h3, h5, h6, h7, g0, g1, List.getD_cons_zero, List.getD_cons_succ]; with_reducible exact hC); refine gc ?_) | refine gm ?_)
          refine client_ev _ _ _ fun H4 hO4 hle4 => ?_
          have P3 := ((P2.set (p' := ⟨1, l, c, noReq, sh⟩) (kv := .nils) (.inl ⟨rfl, rfl⟩) (.inl rfl) hb2).set (p' := ⟨1, (x :: y :: tl), c, noReq, sh⟩) (kv := .nils) (.inl ⟨rfl, rfl⟩) (.inl rfl) (Heap.get_put_self _ _ _)).set (p' := ⟨3, (x :: y :: tl), c, noReq, sh⟩) (kv := .nils) (.inl ⟨rfl, rfl⟩) (.inl rfl) (Heap.get_put_self _ _ _)
          rw [Heap.put_put, Heap.put_put] at P3
          have hz4 := hle4 _ _ ((Heap.get_put_ne _ _ _ hne).trans hz2)
          obtain ⟨u1, u2⟩ := (P3.mono hO4 hle4).out hz4 hnone hne (kq := .nils) (e := evAns 13 badData) (EvOk.nils rfl) (.cells (evC .nils (evAns 13 badData)) 1)
          unfold evC noEv noReq reqC at hz4
          simp only [List.cons_append, List.nil_append] at hz4
          repeat (first | ((first | apply Xk.sAny | apply Xk.tAny); (case hok => rfl); (case h => intro C hC; simp (disch := omega) only [w1, ↓reduceIte, Nat.reduceEqDiff, Nat.reduceLeDiff, Nat.reduceAdd, Nat.reduceSub, hz4, evC, evAns, noReq, reqC]; with_reducible exact hC); refine gc ?_) | refine gm ?_)
          refine Ret.ret rfl (by simp only [resKs, resK, cond_true, w1, ↓reduceIte, Nat.reduceEqDiff, Nat.reduceLeDiff, Nat.reduceAdd, Nat.reduceSub, pf_depotref9_Parser_data, hz4]; rfl) rfl ?_
          exact hQ _ .nils u1 u2
      · have h5 := eq_false hx5
        rw [if_neg (by intro h; cases h; exact hx5 rfl)] at hQ
        repeat (first | ((first | apply Xk.sAny | apply Xk.tAny); (case hok => rfl); (case h => intro C hC; simp (disch := omega) only [w1, ↓reduceIte, Nat.reduceEqDiff, Nat.reduceLeDiff, Nat.reduceAdd, Nat.reduceSub, hb, q1, q2, hne, hne', hne2, hne2', hne3, hne3', h4, h00, h01, hx, hrest, h3, h5, h6, g0, g1, List.getD_cons_zero, List.getD_cons_succ]; with_reducible exact hC); refine gc ?_) | refine gm ?_)
        refine client_ev _ _ _ fun H4 hO4 hle4 => ?_
        have P3 := ((P2.set (p' := ⟨1, l, c, noReq, sh⟩) (kv := .nils) (.inl ⟨rfl, rfl⟩) (.inl rfl) hb2).set (p' := ⟨1, (x :: y :: tl), c, noReq, sh⟩) (kv := .nils) (.inl ⟨rfl, rfl⟩) (.inl rfl) (Heap.get_put_self _ _ _)).set (p' := ⟨3, (x :: y :: tl), c, noReq, sh⟩) (kv := .nils) (.inl ⟨rfl, rfl⟩) (.inl rfl) (Heap.get_put_self _ _ _)
        rw [Heap.put_put, Heap.put_put] at P3
        have hz4 := hle4 _ _ ((Heap.get_put_ne _ _ _ hne).trans hz2)
        obtain ⟨u1, u2⟩ := (P3.mono hO4 hle4).out hz4 hnone hne (kq := .nils) (e := evAns 13 badData) (EvOk.nils rfl) (.cells (evC .nils (evAns 13 badData)) 1)
        unfold evC noEv noReq reqC at hz4
        simp only [List.cons_append, List.nil_append] at hz4
        repeat (first | ((first | apply Xk.sAny | apply Xk.tAny); (case hok => rfl); (case h => intro C hC; simp (disch := omega) only [w1, ↓reduceIte, Nat.reduceEqDiff, Nat.reduceLeDiff, Nat.reduceAdd, Nat.reduceSub, hz4, evC, evAns, noReq, reqC]; with_reducible exact hC); refine gc ?_) | refine gm ?_)
        refine Ret.ret rfl (by simp only [resKs, resK, cond_true, w1, ↓reduceIte, Nat.reduceEqDiff, Nat.reduceLeDiff, Nat.reduceAdd, Nat.reduceSub, pf_depotref9_Parser_data, hz4]; rfl) rfl ?_
        exact hQ _ .nils u1 u2

theorem rstep_ev (H0 H : Heap) (b : Nat) (p : PS) (P : Ra H0 H b p) (hp : p.Ok) (hs : p.shut = false) (hlen : p.left.length < 1000000000) (Q : AV → Heap → Prop)
    (hQ : ∀ H' kv m, Ra H0 H' b (stepP p).2.1 → EvOk H0 H' kv (evOf (stepP p).2.2) → (m = (stepP p).1 ∨ m = false ∧ ((stepP p).2.1.shut = true ∨ (stepP p).2.1.at_ = 2 ∧ (stepP p).2.1.left = [])) → Q (.tup [.agg (evC kv (evOf (stepP p).2.2)), .bool m]) H') :
    Eo lib n_depotref9_Parser_step [.ptr b 0] H Q := by
  obtain ⟨a, l, c, asked, sh⟩ := p
  simp only at hs hlen
  subst hs
  obtain ⟨kv, hb, hkv, hnn⟩ := P.body
  simp only at hkv
  have hb0 := hb
  have hltb := P.ok.lt hb
  have hnone := P.none (Nat.le_refl _)
  have hne : H.next ≠ b := by omega
  have hne' : b ≠ H.next := by omega
  obtain ⟨q1, q2⟩ := hkv.sc
  have hl1 : HLe H (H.new (.cells (evC .nils noEv) 1)) := HLe.new (P.ok _ (Nat.le_refl _)) _
  have P1 := P.mono (P.ok.new (.cells (evC .nils noEv) 1)) hl1
  have hb1 := hl1 _ _ hb0
  have hz1 := Heap.get_new_self H (.cells (evC .nils noEv) 1)
  have hkv1 := hkv.mono hl1
  have hlt1 : b < H.next := hltb
  have hat : a ≤ 3 := hp.at_
  unfold rsC at hb
  have hb1' := hb1
  unfold rsC at hb1
  refine Eo.code at_depotref9_Parser_step rfl ?_
  by_cases h2 : a = 2
  · subst h2
    have hc : 0 < c := hp.count rfl
    have e0 : stepP ⟨2, l, c, asked, false⟩ = pastStep ⟨2, l, c, asked, false⟩ := rfl
    rw [e0] at hQ
    have m1 : min c l.length ≤ l.length := Nat.min_le_right _ _
    have m2 : min c l.length ≤ c := Nat.min_le_left _ _
    have m3 : (l.drop (min c l.length)).take (l.length - min c l.length) = l.drop (min c l.length) := List.take_of_length_le (by rw [List.length_drop]; omega)
    have hmo : c ≤ 2147483649 := hp.most
    unfold pastStep at hQ
    simp only at hQ
    by_cases hz : c - min c l.length = 0
    · have hl0 : l ≠ [] := by intro e; subst e; simp at hz; omega
      rw [if_neg hl0, if_pos hz] at hQ
      have P3 := P1.set (p' := ⟨0, l.drop (min c l.length), c - min c l.length, asked, false⟩) hkv1 hnn hb1'
      obtain ⟨u1, u2⟩ := P3.out ((Heap.get_put_ne _ _ _ hne).trans hz1) hnone hne (kq := .nils) (e := noEv) (EvOk.nils rfl) (.cells (evC .nils noEv) 1)
      have hz' := eq_true hz
      repeat (first | ((first | apply Xk.sAny | apply Xk.tAny); (case hok => rfl); (case h => intro C hC; simp (disch := omega) only [w1, ↓reduceIte, Nat.reduceEqDiff, Nat.reduceLeDiff, Nat.reduceAdd, Nat.reduceSub, hb, q1, q2, hne, hne', rMm, mms, mm_min, m1, m2, m3, hc, hz']; with_reducible exact hC); refine gc ?_) | refine gm ?_)
      refine Ret.ret rfl (by simp only [resKs, resK, cond_true, w1, ↓reduceIte, Nat.reduceEqDiff, Nat.reduceLeDiff, Nat.reduceAdd, Nat.reduceSub, pf_depotref9_Parser_step, hne, hne']; rfl) rfl ?_
      exact hQ _ .nils true u1 u2 (.inl rfl)
    · have hz' := eq_false hz
      have hmin : min c l.length = l.length := by omega
      have hdl : l.drop (min c l.length) = [] := by rw [hmin]; exact List.drop_eq_nil_of_le (Nat.le_refl _)
      have P3 := P1.set (p' := ⟨2, l.drop (min c l.length), c - min c l.length, asked, false⟩) hkv1 hnn hb1'
      obtain ⟨u1, u2⟩ := P3.out ((Heap.get_put_ne _ _ _ hne).trans hz1) hnone hne (kq := .nils) (e := noEv) (EvOk.nils rfl) (.cells (evC .nils noEv) 1)
      repeat (first | ((first | apply Xk.sAny | apply Xk.tAny); (case hok => rfl); (case h => intro C hC; simp (disch := omega) only [w1, ↓reduceIte, Nat.reduceEqDiff, Nat.reduceLeDiff, Nat.reduceAdd, Nat.reduceSub, hb, q1, q2, hne, hne', rMm, mms, mm_min, m1, m2, m3, hc, hz']; with_reducible exact hC); refine gc ?_) | refine gm ?_)
      refine Ret.ret rfl (by simp only [resKs, resK, cond_true, w1, ↓reduceIte, Nat.reduceEqDiff, Nat.reduceLeDiff, Nat.reduceAdd, Nat.reduceSub, pf_depotref9_Parser_step, hne, hne']; rfl) rfl ?_
      by_cases hl0 : l = []
      · subst hl0
        rw [if_pos rfl] at hQ
        have e1 : min c ([] : List UInt8).length = 0 := by simp
        rw [e1] at u1 u2 ⊢
        exact hQ _ .nils false u1 u2 (.inl rfl)
      · rw [if_neg hl0, if_neg hz] at hQ
        exact hQ _ .nils false u1 u2 (.inr ⟨rfl, .inr ⟨rfl, hdl⟩⟩)
  have hc0 : c = 0 := hp.zero h2
  subst hc0
  by_cases h1 : a = 1
  · subst h1
    obtain ⟨d1, d2, d3⟩ := hp.data rfl
    simp only at d1 d2 d3
    replace d3 := one_ne d3
    have hv : 3 ≤ asked.verb ∧ asked.verb ≤ 8 := of_decide_eq_true d2
    have hv0 : (asked.verb = 0) = False := eq_false (by omega)
    repeat (first | ((first | apply Xk.sAny | apply Xk.tAny); (case hok => rfl); (case h => intro C hC; simp (disch := omega) only [w1, ↓reduceIte, Nat.reduceEqDiff, Nat.reduceLeDiff, Nat.reduceAdd, Nat.reduceSub, hb, q1, q2, hne, hne', hv0, Nat.lt_irrefl]; with_reducible exact hC); refine gc ?_) | refine gm ?_)
    refine rPdata_ev _ _ b _ P1.self hp rfl hlen _ (fun H' kv' P' ev' => ?_) d3
    have hz2 := P'.keep _ _ hne hz1
    have P'' := P1.trans P'
    have ev'' := ev'.old P1
    have e0 : stepP ⟨1, l, 0, asked, false⟩ = dataStep ⟨1, l, 0, asked, false⟩ := rfl
    rw [e0] at hQ
    obtain ⟨u1, u2⟩ := P''.out hz2 hnone hne ev'' (.cells (evC kv' (evOf (dataStep ⟨1, l, 0, asked, false⟩).2.2)) 1)
    have hl18 := evC_len kv' (evOf (dataStep ⟨1, l, 0, asked, false⟩).2.2)
    have hsc : (evC kv' (evOf (dataStep ⟨1, l, 0, asked, false⟩).2.2)).all AV.isSc = true := by
      simp only [evC, reqC, List.cons_append, List.nil_append, List.all_cons, List.all_nil, wh, ev'.1.sc.2, Bool.and_self]
    generalize hro : evC kv' (evOf (dataStep ⟨1, l, 0, asked, false⟩).2.2) = row at *
    have hz2' := hz2
    unfold evC noEv noReq reqC at hz2
    simp only [List.cons_append, List.nil_append] at hz2
    have hdr : ([] : List AV) = [] := rfl
    repeat (first | ((first | apply Xk.sAny | apply Xk.tAny); (case hok => rfl); (case h => intro C hC; simp (disch := omega) only [w1, ↓reduceIte, Nat.reduceEqDiff, Nat.reduceLeDiff, Nat.reduceAdd, Nat.reduceSub, hz2, hl18, hsc]; with_reducible exact hC); refine gc ?_) | refine gm ?_)
    have hrow : row.take 18 = row := List.take_of_length_le (by omega)
    refine Ret.ret rfl (by simp only [resKs, resK, cond_true, w1, ↓reduceIte, Nat.reduceEqDiff, Nat.reduceLeDiff, Nat.reduceAdd, Nat.reduceSub, pf_depotref9_Parser_step, hl18, hrow]; rfl) rfl ?_
    have := hQ _ _ _ u1 u2 (.inl rfl)
    rw [hro] at this
    exact this
  obtain rfl : asked = noReq := hp.asked h1
  have hup := upTo_le 10 l
  simp only [noReq] at hb
  repeat (first | ((first | apply Xk.sAny | apply Xk.tAny); (case hok => rfl); (case h => intro C hC; simp (disch := omega) only [w1, ↓reduceIte, Nat.reduceEqDiff, Nat.reduceLeDiff, Nat.reduceAdd, Nat.reduceSub, hb, q1, q2, hne, hne', Nat.lt_irrefl]; with_reducible exact hC); refine gc ?_) | refine gm ?_)
  refine Xk.iter [0, 2, 5] (fun m k H' => ∃ i, m = l.length - i ∧ i ≤ upTo 10 l ∧ k = [(0, .ptr b 0), (2, .ptr H.next 0), (5, .int .i64 (.ofNat i))] ∧ H' = H.new (.cells (evC .nils noEv) 1)) rfl ⟨_, 0, rfl, Nat.zero_le _, rfl, rfl⟩ ?_
  rintro m k H' ⟨i, hm, hi, rfl, rfl⟩
  unfold l0_depotref9_Parser_step
  unfold evC noEv noReq reqC at hb1 ⊢
  simp only [List.cons_append, List.nil_append] at hb1 ⊢
  by_cases hend : i = upTo 10 l
  case neg =>
    have h10 := upTo_lt 10 l i (by omega)
    have h10' : ((l.getD i 0).toNat = 10) = False := eq_false (fun e => h10 (UInt8.toNat_inj.1 e))
    have hlt : i < l.length := by omega
    repeat (first | ((first | apply Xk.sAny | apply Xk.tAny); (case hok => rfl); (case h => intro C hC; simp (disch := omega) only [w1, ↓reduceIte, Nat.reduceEqDiff, Nat.reduceLeDiff, Nat.reduceAdd, Nat.reduceSub, hb1, hlt, h10']; with_reducible exact hC); refine gc ?_) | refine gm ?_)
    exact ⟨rfl, _, by omega, i + 1, rfl, by omega, rfl, rfl⟩
  subst hend
  have hat10 := upTo_at 10 l
  have e0 : stepP ⟨a, l, 0, noReq, false⟩ = if a = 0 then lineStep ⟨a, l, 0, noReq, false⟩ else brokenStep ⟨a, l, 0, noReq, false⟩ := by
    unfold stepP
    simp only [if_neg h1, if_neg h2]
  rw [e0] at hQ
  clear e0
  unfold lineStep brokenStep at hQ
  simp only at hQ
  generalize hn : upTo 10 l = n at *
  by_cases h3 : a = 3
  · subst h3
    rw [if_neg (by decide)] at hQ
    by_cases hl : n = l.length
    · rw [if_pos hl] at hQ
      have hlt : ¬ n < l.length := by omega
      have P3 := P1.set (p' := ⟨3, [], 0, noReq, false⟩) hkv1 hnn hb1'
      obtain ⟨u1, u2⟩ := P3.out ((Heap.get_put_ne _ _ _ hne).trans hz1) hnone hne (kq := .nils) (e := noEv) (EvOk.nils rfl) (.cells (evC .nils noEv) 1)
      have hl' := eq_true hl
      repeat (first | ((first | apply Xk.sAny | apply Xk.tAny); (case hok => rfl); (case h => intro C hC; simp (disch := omega) only [w1, ↓reduceIte, Nat.reduceEqDiff, Nat.reduceLeDiff, Nat.reduceAdd, Nat.reduceSub, hb1, hlt, hne, hne', hl']; with_reducible exact hC); refine gc ?_) | refine gm ?_)
      refine Ret.ret rfl (by simp only [resKs, resK, cond_true, w1, ↓reduceIte, Nat.reduceEqDiff, Nat.reduceLeDiff, Nat.reduceAdd, Nat.reduceSub, pf_depotref9_Parser_step, hne, hne']; rfl) rfl ?_
      exact hQ _ .nils false u1 u2 (.inl rfl)
    · rw [if_neg hl] at hQ
      have hlt : n < l.length := by omega
      have h10 := hat10 hlt
      have h10' : ((10 : UInt8).toNat = 10) = True := by decide
      have g1 : n + 1 ≤ l.length := by omega
      have g2 : (l.drop (n + 1)).take (l.length - (n + 1)) = l.drop (n + 1) := List.take_of_length_le (by rw [List.length_drop]; omega)
      have P3 := P1.set (p' := ⟨0, l.drop (n + 1), 0, noReq, false⟩) hkv1 hnn hb1'
      obtain ⟨u1, u2⟩ := P3.out ((Heap.get_put_ne _ _ _ hne).trans hz1) hnone hne (kq := .nils) (e := noEv) (EvOk.nils rfl) (.cells (evC .nils noEv) 1)
      have hl' := eq_false hl
      repeat (first | ((first | apply Xk.sAny | apply Xk.tAny); (case hok => rfl); (case h => intro C hC; simp (disch := omega) only [w1, ↓reduceIte, Nat.reduceEqDiff, Nat.reduceLeDiff, Nat.reduceAdd, Nat.reduceSub, hb1, hlt, hne, hne', hl', h10, h10', g1, g2]; with_reducible exact hC); refine gc ?_) | refine gm ?_)
      refine Ret.ret rfl (by simp only [resKs, resK, cond_true, w1, ↓reduceIte, Nat.reduceEqDiff, Nat.reduceLeDiff, Nat.reduceAdd, Nat.reduceSub, pf_depotref9_Parser_step, hne, hne']; rfl) rfl ?_
      exact hQ _ .nils true u1 u2 (.inl rfl)
  obtain rfl : a = 0 := by omega
  rw [if_pos rfl] at hQ
  by_cases hbig : 2048 < n
  · rw [if_pos hbig] at hQ
    have hbig' := eq_true hbig
    have P3 := P1.set (p' := ⟨0, [], 0, noReq, true⟩) hkv1 hnn hb1'
    obtain ⟨u1, u2⟩ := P3.out ((Heap.get_put_ne _ _ _ hne).trans hz1) hnone hne (kq := .nils) (e := evAns 15 []) (EvOk.nils rfl) (.cells (evC .nils (evAns 15 [])) 1)
    by_cases hl : n = l.length
    · have hlt : ¬ n < l.length := by omega
      repeat (first | ((first | apply Xk.sAny | apply Xk.tAny); (case hok => rfl); (case h => intro C hC; simp (disch := omega) only [w1, ↓reduceIte, Nat.reduceEqDiff, Nat.reduceLeDiff, Nat.reduceAdd, Nat.reduceSub, hb1, hlt, hne, hne', hbig']; with_reducible exact hC); refine gc ?_) | refine gm ?_)
      refine Ret.ret rfl (by simp only [resKs, resK, cond_true, w1, ↓reduceIte, Nat.reduceEqDiff, Nat.reduceLeDiff, Nat.reduceAdd, Nat.reduceSub, pf_depotref9_Parser_step, hne, hne']; rfl) rfl ?_
      exact hQ _ .nils false u1 u2 (.inr ⟨rfl, .inl rfl⟩)
    · have hlt : n < l.length := by omega
      have h10 := hat10 hlt
      have h10' : ((10 : UInt8).toNat = 10) = True := by decide
      repeat (first | ((first | apply Xk.sAny | apply Xk.tAny); (case hok => rfl); (case h => intro C hC; simp (disch := omega) only [w1, ↓reduceIte, Nat.reduceEqDiff, Nat.reduceLeDiff, Nat.reduceAdd, Nat.reduceSub, hb1, hlt, hne, hne', hbig', h10, h10']; with_reducible exact hC); refine gc ?_) | refine gm ?_)
      refine Ret.ret rfl (by simp only [resKs, resK, cond_true, w1, ↓reduceIte, Nat.reduceEqDiff, Nat.reduceLeDiff, Nat.reduceAdd, Nat.reduceSub, pf_depotref9_Parser_step, hne, hne']; rfl) rfl ?_
      exact hQ _ .nils false u1 u2 (.inr ⟨rfl, .inl rfl⟩)
  rw [if_neg hbig] at hQ
  have hbig' := eq_false hbig
  by_cases hl : n = l.length
  · rw [if_pos hl] at hQ
    have hlt : ¬ n < l.length := by omega
    have hl' := eq_true hl
    obtain ⟨u1, u2⟩ := P1.out hz1 hnone hne (kq := .nils) (e := noEv) (EvOk.nils rfl) (.cells (evC .nils noEv) 1)
    repeat (first | ((first | apply Xk.sAny | apply Xk.tAny); (case hok => rfl); (case h => intro C hC; simp (disch := omega) only [w1, ↓reduceIte, Nat.reduceEqDiff, Nat.reduceLeDiff, Nat.reduceAdd, Nat.reduceSub, hb1, hlt, hne, hne', hbig', hl']; with_reducible exact hC); refine gc ?_) | refine gm ?_)
    refine Ret.ret rfl (by simp only [resKs, resK, cond_true, w1, ↓reduceIte, Nat.reduceEqDiff, Nat.reduceLeDiff, Nat.reduceAdd, Nat.reduceSub, pf_depotref9_Parser_step, hne, hne']; rfl) rfl ?_
    rw [Heap.new_put] at u1 u2
    exact hQ _ .nils false u1 u2 (.inl rfl)
  rw [if_neg hl] at hQ
  have hlt : n < l.length := by omega
  have hl' := eq_false hl
  have h10 := hat10 hlt
  have h10' : ((10 : UInt8).toNat = 10) = True := by decide
  have g1 : n + 1 ≤ l.length := by omega
  have g0 : n ≤ l.length := by omega
  have g2 : (l.drop (n + 1)).take (l.length - (n + 1)) = l.drop (n + 1) := List.take_of_length_le (by rw [List.length_drop]; omega)
  have P3 := P1.set (p' := ⟨0, l.drop (n + 1), 0, noReq, false⟩) hkv1 hnn hb1'
  have htr : trimCR (l.take n) = if 0 < n ∧ l.getD (n - 1) 0 = 13 then l.take (n - 1) else l.take n := by
    have hn' : (l.take n).length = n := by rw [List.length_take]; omega
    unfold trimCR
    rw [hn']
    by_cases h : 0 < n
    · have hg : (l.take n).getD (n - 1) 0 = l.getD (n - 1) 0 := by
        simp only [List.getD_eq_getElem?_getD]
        rw [List.getElem?_take_of_lt (by omega)]
      rw [hg, List.take_take, Nat.min_eq_left (by omega)]
    · rw [if_neg (fun x => h x.1), if_neg (fun x => h x.1)]
  have hlen3 : (trimCR (l.take n)).length < 1000000 := by
    have := upTo_trim (l.take n)
    rw [List.length_take] at this
    omega
  have hz3 := (Heap.get_put_ne _ b (.cells (rsC ⟨0, l.drop (n + 1), 0, noReq, false⟩ kv) 1) hne).trans hz1
  rw [htr] at hQ hlen3
  by_cases h0 : 0 < n
  case neg =>
    rw [if_neg (fun x => h0 x.1)] at hQ hlen3
    repeat (first | ((first | apply Xk.sAny | apply Xk.tAny); (case hok => rfl); (case h => intro C hC; simp (disch := omega) only [w1, ↓reduceIte, Nat.reduceEqDiff, Nat.reduceLeDiff, Nat.reduceAdd, Nat.reduceSub, hb1, hlt, hne, hne', hbig', hl', h10, h10', g0, g1, g2, h0]; with_reducible exact hC); refine gc ?_) | refine gm ?_)
    refine rPline_ev _ _ b _ _ hlen3 P3.self (okM (by decide) (fun h => nomatch h) (fun _ => rfl) (by decide) (fun h => nomatch h) (fun _ => rfl)) rfl _ fun H' kv' P' ev' => ?_
    have hz4 := P'.keep _ _ hne hz3
    have P'' := P3.trans P'
    have ev'' := ev'.old P3
    obtain ⟨u1, u2⟩ := P''.out hz4 hnone hne ev'' (.cells (evC kv' (evOf (doLine ⟨0, l.drop (n + 1), 0, noReq, false⟩ (l.take n)).2)) 1)
    have hl18 := evC_len kv' (evOf (doLine ⟨0, l.drop (n + 1), 0, noReq, false⟩ (l.take n)).2)
    have hsc : (evC kv' (evOf (doLine ⟨0, l.drop (n + 1), 0, noReq, false⟩ (l.take n)).2)).all AV.isSc = true := by
      simp only [evC, reqC, List.cons_append, List.nil_append, List.all_cons, List.all_nil, wh, ev'.1.sc.2, Bool.and_self]
    have hfin := hQ _ _ true u1 u2 (.inl rfl)
    generalize evC kv' (evOf (doLine ⟨0, l.drop (n + 1), 0, noReq, false⟩ (l.take n)).2) = row at *
    have hrow : row.take 18 = row := List.take_of_length_le (by omega)
    unfold evC noEv noReq reqC at hz4
    simp only [List.cons_append, List.nil_append] at hz4
    repeat (first | ((first | apply Xk.sAny | apply Xk.tAny); (case hok => rfl); (case h => intro C hC; simp (disch := omega) only [w1, ↓reduceIte, Nat.reduceEqDiff, Nat.reduceLeDiff, Nat.reduceAdd, Nat.reduceSub, hz4, hl18, hsc]; with_reducible exact hC); refine gc ?_) | refine gm ?_)
    refine Ret.ret rfl (by simp only [resKs, resK, cond_true, w1, ↓reduceIte, Nat.reduceEqDiff, Nat.reduceLeDiff, Nat.reduceAdd, Nat.reduceSub, pf_depotref9_Parser_step, hl18, hrow]; rfl) rfl ?_
    exact hfin
  have g5 : (l.take n).getD (n - 1) 0 = l.getD (n - 1) 0 := by
    simp only [List.getD_eq_getElem?_getD]
    rw [List.getElem?_take_of_lt (by omega)]
  have g6 : (l.take n).length = n := by rw [List.length_take]; omega
  have g7 : n - 1 < n := by omega
  have g8 : 1 ≤ n := h0
  have g9 : n - 1 ≤ n := by omega
  have g10 : (l.take n).take (n - 1) = l.take (n - 1) := by rw [List.take_take, Nat.min_eq_left (by omega)]
  have h0' := eq_true h0
  by_cases h13 : l.getD (n - 1) 0 = 13
  · rw [if_pos ⟨h0, h13⟩] at hQ hlen3
    have h13' : ((13 : UInt8).toNat = 13) = True := by decide
    repeat (first | ((first | apply Xk.sAny | apply Xk.tAny); (case hok => rfl); (case h => intro C hC; simp (disch := omega) only [w1, ↓reduceIte, Nat.reduceEqDiff, Nat.reduceLeDiff, Nat.reduceAdd, Nat.reduceSub, hb1, hlt, hne, hne', hbig', hl', h10, h10', g0, g1, g2, h0', g5, g6, g7, g8, g9, g10, h13, h13']; with_reducible exact hC); refine gc ?_) | refine gm ?_)
    refine rPline_ev _ _ b _ _ hlen3 P3.self (okM (by decide) (fun h => nomatch h) (fun _ => rfl) (by decide) (fun h => nomatch h) (fun _ => rfl)) rfl _ fun H' kv' P' ev' => ?_
    have hz4 := P'.keep _ _ hne hz3
    have P'' := P3.trans P'
    have ev'' := ev'.old P3
    obtain ⟨u1, u2⟩ := P''.out hz4 hnone hne ev'' (.cells (evC kv' (evOf (doLine ⟨0, l.drop (n + 1), 0, noReq, false⟩ (l.take (n - 1))).2)) 1)
    have hl18 := evC_len kv' (evOf (doLine ⟨0, l.drop (n + 1), 0, noReq, false⟩ (l.take (n - 1))).2)
    have hsc : (evC kv' (evOf (doLine ⟨0, l.drop (n + 1), 0, noReq, false⟩ (l.take (n - 1))).2)).all AV.isSc = true := by
      simp only [evC, reqC, List.cons_append, List.nil_append, List.all_cons, List.all_nil, wh, ev'.1.sc.2, Bool.and_self]
    have hfin := hQ _ _ true u1 u2 (.inl rfl)
    generalize evC kv' (evOf (doLine ⟨0, l.drop (n + 1), 0, noReq, false⟩ (l.take (n - 1))).2) = row at *
    have hrow : row.take 18 = row := List.take_of_length_le (by omega)
    unfold evC noEv noReq reqC at hz4
    simp only [List.cons_append, List.nil_append] at hz4
    repeat (first | ((first | apply Xk.sAny | apply Xk.tAny); (case hok => rfl); (case h => intro C hC; simp (disch := omega) only [w1, ↓reduceIte, Nat.reduceEqDiff, Nat.reduceLeDiff, Nat.reduceAdd, Nat.reduceSub, hz4, hl18, hsc]; with_reducible exact hC); refine gc ?_) | refine gm ?_)
    refine Ret.ret rfl (by simp only [resKs, resK, cond_true, w1, ↓reduceIte, Nat.reduceEqDiff, Nat.reduceLeDiff, Nat.reduceAdd, Nat.reduceSub, pf_depotref9_Parser_step, hl18, hrow]; rfl) rfl ?_
    exact hfin
  · rw [if_neg (fun x => h13 x.2)] at hQ hlen3
    have h13' : ((l.getD (n - 1) 0).toNat = 13) = False := eq_false (fun e => h13 (UInt8.toNat_inj.1 e))
    repeat (first | ((first | apply Xk.sAny | apply Xk.tAny); (case hok => rfl); (case h => intro C hC; simp (disch := omega) only [w1, ↓reduceIte, Nat.reduceEqDiff, Nat.reduceLeDiff, Nat.reduceAdd, Nat.reduceSub, hb1, hlt, hne, hne', hbig', hl', h10, h10', g0, g1, g2, h0', g5, g6, g7, g8, g9, g10, h13']; with_reducible exact hC); refine gc ?_) | refine gm ?_)
    refine rPline_ev _ _ b _ _ hlen3 P3.self (okM (by decide) (fun h => nomatch h) (fun _ => rfl) (by decide) (fun h => nomatch h) (fun _ => rfl)) rfl _ fun H' kv' P' ev' => ?_
    have hz4 := P'.keep _ _ hne hz3
    have P'' := P3.trans P'
    have ev'' := ev'.old P3
    obtain ⟨u1, u2⟩ := P''.out hz4 hnone hne ev'' (.cells (evC kv' (evOf (doLine ⟨0, l.drop (n + 1), 0, noReq, false⟩ (l.take n)).2)) 1)
    have hl18 := evC_len kv' (evOf (doLine ⟨0, l.drop (n + 1), 0, noReq, false⟩ (l.take n)).2)
    have hsc : (evC kv' (evOf (doLine ⟨0, l.drop (n + 1), 0, noReq, false⟩ (l.take n)).2)).all AV.isSc = true := by
      simp only [evC, reqC, List.cons_append, List.nil_append, List.all_cons, List.all_nil, wh, ev'.1.sc.2, Bool.and_self]
    have hfin := hQ _ _ true u1 u2 (.inl rfl)
    generalize evC kv' (evOf (doLine ⟨0, l.drop (n + 1), 0, noReq, false⟩ (l.take n)).2) = row at *
    have hrow : row.take 18 = row := List.take_of_length_le (by omega)
    unfold evC noEv noReq reqC at hz4
    simp only [List.cons_append, List.nil_append] at hz4
    repeat (first | ((first | apply Xk.sAny | apply Xk.tAny); (case hok => rfl); (case h => intro C hC; simp (disch := omega) only [w1, ↓reduceIte, Nat.reduceEqDiff, Nat.reduceLeDiff, Nat.reduceAdd, Nat.reduceSub, hz4, hl18, hsc]; with_reducible exact hC); refine gc ?_) | refine gm ?_)
    refine Ret.ret rfl (by simp only [resKs, resK, cond_true, w1, ↓reduceIte, Nat.reduceEqDiff, Nat.reduceLeDiff, Nat.reduceAdd, Nat.reduceSub, pf_depotref9_Parser_step, hl18, hrow]; rfl) rfl ?_
    exact hfin
end Go.Proofs.Ytkjmelfgopammaa
