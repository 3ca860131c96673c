/- Layer 13: the reference's Feed. Conditions: none. -/
import Derived.Test.YtkjmelfgopammaaPaD
namespace Go.Proofs.Ytkjmelfgopammaa
open Go.Dp Go.Wd
set_option linter.unusedSimpArgs false
set_option linter.unusedVariables false
set_option maxHeartbeats 2000000
set_option maxRecDepth 4000
attribute [local irreducible] Ex.thnK Ex.inK Ret

theorem verbOf_pos {s : List UInt8} (h : (lineOf s).2 = 0) : (lineOf s).1.verb ≠ 0 := by
  obtain ⟨w, l, v, _, hv, hc, ha⟩ := line_ok h
  obtain ⟨e1, _⟩ := argsOf_verb ha
  have := (verbOf_ok hv).1
  rw [e1]
  exact Nat.ne_of_gt this
theorem doLine_real (p : PS) (s : List UInt8) : (doLine p s).2 = [] ∨ ∃ e, (doLine p s).2 = [e] ∧ (e.r.verb ≠ 0 ∨ e.kind ≠ 0) := by
  rw [doLine_eq]
  split
  · exact .inr ⟨_, rfl, .inr (by decide)⟩
  split
  · exact .inr ⟨_, rfl, .inr (by decide)⟩
  split
  · exact .inr ⟨_, rfl, .inr (by decide)⟩
  split
  · split
    · exact .inl rfl
    · exact .inr ⟨_, rfl, .inr (by decide)⟩
  split
  · exact .inl rfl
  · rename_i h0 _ _ _
    exact .inr ⟨_, rfl, .inl (verbOf_pos (Nat.eq_zero_of_not_pos fun x => h0 (by omega)))⟩
theorem step_real {p : PS} (hp : p.Ok) : (stepP p).2.2 = [] ∨ ∃ e, (stepP p).2.2 = [e] ∧ (e.r.verb ≠ 0 ∨ e.kind ≠ 0) := by
  unfold stepP
  split
  · unfold lineStep
    simp only []
    split
    · exact .inr ⟨_, rfl, .inr (by decide)⟩
    split
    · exact .inl rfl
    · exact doLine_real _ _
  split
  · rename_i h1
    unfold dataStep
    simp only []
    split
    · exact .inl rfl
    split
    · exact .inl rfl
    split
    · refine .inr ⟨_, rfl, .inl ?_⟩
      have := of_decide_eq_true (hp.data h1).2.1
      show p.asked.verb ≠ 0
      omega
    · exact .inr ⟨_, rfl, .inr (by decide)⟩
  split
  · unfold pastStep
    split <;> exact .inl rfl
  · unfold brokenStep
    simp only []
    split <;> exact .inl rfl

theorem own_keepb {H0 H H' : Heap} {b k sz : Nat} {v : AV} {cs : List AV} {z : Blk} (h : Own H0 H k sz v cs) (hb : H0.get b = some z) (hk : ∀ c y, c ≠ b → H.get c = some y → H'.get c = some y) : Own H0 H' k sz v cs := by
  rcases h with h | ⟨c, len, a1, a2, a3, a4⟩
  · exact .inl h
  · exact .inr ⟨c, len, a1, a2, hk _ _ (by intro e; subst e; rw [hb] at a4; cases a4) a3, a4⟩
theorem key_keepb {H H' : Heap} {b w : Nat} {l : List AV} {kv : AV} {ks : List (List UInt8)} (h : Own noHeap H 0 1 kv (strs ks)) (hb : H.get b = some (.cells l w)) (hl : ∀ ks, strs ks ≠ l) (hk : ∀ c y, c ≠ b → H.get c = some y → H'.get c = some y) : Own noHeap H' 0 1 kv (strs ks) := by
  rcases h with h | ⟨c, len, a1, a2, a3, a4⟩
  · exact .inl h
  · exact .inr ⟨c, len, a1, a2, hk _ _ (by intro e; subst e; rw [hb] at a3; cases a3; exact hl ks rfl) a3, a4⟩
theorem EvRows.keepb {H H' : Heap} {b w : Nat} {l : List AV} (hb : H.get b = some (.cells l w)) (hl : ∀ ks, strs ks ≠ l) (hk : ∀ c y, c ≠ b → H.get c = some y → H'.get c = some y) : ∀ {es : List Ev} {cs : List AV}, EvRows H es cs → EvRows H' es cs
  | [], cs, h => h
  | e :: es, cs, ⟨kv, rest, h1, h2, h3⟩ => ⟨kv, rest, h1, key_keepb h2 hb hl hk, EvRows.keepb hb hl hk h3⟩

/-- the reference's parser at rest -/
def AtR (H : Heap) (b : Nat) (p : PS) : Prop := ∃ kv, H.get b = some (.cells (rsC p kv) 1) ∧ Own noHeap H 0 1 kv (strs p.asked.keys) ∧ (kv = .nils ∨ p.asked.keys ≠ [])

theorem rFeed_ev (H : Heap) (b : Nat) (p : PS) (bs : List UInt8) (hA : AtR H b p) (hp : p.Ok) (hl : p.left.length + bs.length < 1000000000) (Q : AV → Heap → Prop)
    (hQ : ∀ H' ev cs, H'.Ok → (∀ c y, c ≠ b → H.get c = some y → H'.get c = some y) → AtR H' b (feed p bs).2 → Own H H' 0 18 ev cs → EvRows H' (feed p bs).1 cs → Q ev H') : Eo lib n_depotref9_Parser_Feed [.ptr b 0, .str bs] H Q := by
  refine Eo.ok fun hOk => ?_
  obtain ⟨a, l, c, asked, s⟩ := p
  obtain ⟨kv, hb, hkv, hnn⟩ := hA
  have hb0 := hb
  unfold rsC at hb
  refine Eo.code at_depotref9_Parser_Feed rfl ?_
  cases s with
  | true =>
    rw [feed_shut rfl] at hQ
    repeat (first | ((first | apply Xk.sAny | apply Xk.tAny); (case hok => rfl); (case h => intro C hC; simp (disch := omega) only [w1, ↓reduceIte, Nat.reduceEqDiff, Nat.reduceLeDiff, Nat.reduceAdd, Nat.reduceSub, hb]; with_reducible exact hC); refine gc ?_) | refine gm ?_)
    exact hQ _ _ _ hOk (fun _ _ _ h => h) ⟨kv, hb0, hkv, hnn⟩ (.inl ⟨rfl, rfl⟩) rfl
  | false =>
    rw [feed_eq rfl] at hQ
    have P0 : Ra H H b ⟨a, l, c, asked, false⟩ := ⟨hOk, ⟨_, hb0⟩, fun _ _ _ h => h, kv, hb0, hkv, hnn⟩
    have P1 := P0.set (p' := ⟨a, l ++ bs, c, asked, false⟩) hkv hnn hb0
    have hq : PS.Ok ⟨a, l ++ bs, c, asked, false⟩ := okM hp.at_ hp.count hp.zero hp.most hp.data hp.asked
    have hql : (l ++ bs).length < 1000000000 := by simp only [List.length_append]; exact hl
    simp only at hQ
    have hl' : l.length + bs.length < 1000000000 := hl
    repeat (first | ((first | apply Xk.sAny | apply Xk.tAny); (case hok => rfl); (case h => intro C hC; simp (disch := omega) only [w1, ↓reduceIte, Nat.reduceEqDiff, Nat.reduceLeDiff, Nat.reduceAdd, Nat.reduceSub, hb]; with_reducible exact hC); refine gc ?_) | refine gm ?_)
    have fin : ∀ H' es q ev cs, es = (runP ⟨a, l ++ bs, c, asked, false⟩).1 → q = (runP ⟨a, l ++ bs, c, asked, false⟩).2 → Ra H H' b q → Own H H' 0 18 ev cs → EvRows H' es cs → Q ev H' := by
      intro H' es q ev cs e1 e2 R h2 h3
      subst e1; subst e2
      exact hQ _ ev cs R.ok R.keep R.body h2 h3
    refine Xk.iter [0, 5] (fun m k H' => ∃ q es ev cs, m = meas q ∧ k = [(0, .ptr b 0), (5, ev)] ∧ Ra H H' b q ∧ Own H H' 0 18 ev cs ∧ EvRows H' es cs ∧ q.Ok ∧ q.left.length < 1000000000 ∧ es.length + meas q < 3000000000 ∧ es ++ (runP q).1 = (runP ⟨a, l ++ bs, c, asked, false⟩).1 ∧ (runP q).2 = (runP ⟨a, l ++ bs, c, asked, false⟩).2) rfl
      ⟨_, ⟨a, l ++ bs, c, asked, false⟩, [], .nils, [], rfl, rfl, P1, .inl ⟨rfl, rfl⟩, rfl, hq, hql, ?_, rfl, rfl⟩ ?_
    · show 0 + (if false = true then 0 else 2 * (l ++ bs).length + (if a = 1 then 1 else 0) + 1) < _
      rw [if_neg (by decide)]
      split <;> omega
    rintro m k H' ⟨⟨qa, ql, qc, qr, qs⟩, es, ev, cs, rfl, rfl, P, hev, hrow, hqk, hqm, hem, e1, e2⟩
    unfold l0_depotref9_Parser_Feed
    obtain ⟨kv', hb, hkv, hnn'⟩ := P.body
    have hb' := hb
    unfold rsC at hb
    cases qs with
    | true =>
      rw [runP_shut rfl] at e1 e2
      rw [List.append_nil] at e1
      repeat (first | ((first | apply Xk.sAny | apply Xk.tAny); (case hok => rfl); (case h => intro C hC; simp (disch := omega) only [w1, ↓reduceIte, Nat.reduceEqDiff, Nat.reduceLeDiff, Nat.reduceAdd, Nat.reduceSub, hb]; with_reducible exact hC); refine gc ?_) | refine gm ?_)
      exact fin _ _ _ _ _ e1 e2 P hev hrow
    | false =>
      obtain ⟨o1, o2, o3, o4⟩ := step_ok hqk rfl
      have hreal := step_real hqk
      have hstp := rstep_ev H' H' b _ P.self hqk rfl hqm
      rcases hst : stepP ⟨qa, ql, qc, qr, false⟩ with ⟨d, q', es'⟩
      rw [hst] at o1 o2 o3 o4 hreal hstp
      simp only at o1 o2 o3 o4 hqm hreal hstp
      have hrun : d = false → (runP ⟨qa, ql, qc, qr, false⟩) = ([], q') := fun h => runP_stop (by rw [hst, h]) rfl
      have hrun2 : d = true → (runP ⟨qa, ql, qc, qr, false⟩) = (es' ++ (runP q').1, (runP q').2) := fun h => runP_go hqk (by rw [hst, h]) rfl
      have hout : d = true → (q'.shut = true ∨ q'.at_ = 2 ∧ q'.left = []) → runP q' = ([], q') := by
        intro hd h
        rcases h with h | ⟨h1, h2⟩
        · exact runP_shut h
        · cases hs : q'.shut with
          | true => exact runP_shut hs
          | false =>
            refine runP_stop (es := []) ?_ hs
            unfold stepP
            rw [if_neg (by omega), if_neg (by omega), if_pos h1]
            unfold pastStep
            rw [if_pos h2]
      repeat (first | ((first | apply Xk.sAny | apply Xk.tAny); (case hok => rfl); (case h => intro C hC; simp (disch := omega) only [w1, ↓reduceIte, Nat.reduceEqDiff, Nat.reduceLeDiff, Nat.reduceAdd, Nat.reduceSub, hb]; with_reducible exact hC); refine gc ?_) | refine gm ?_)
      refine hstp _ fun H2 kq m P2 eq hm => ?_
      obtain ⟨y, hy⟩ := P.old
      have hev2 := own_keepb hev hy P2.keep
      have hrow2 := hrow.keepb hb' (rsC_keys _ _) P2.keep
      have P3 := P.trans P2
      have hlen := hrow.len
      rcases hreal with rfl | ⟨e, rfl, hne⟩
      · have hnew := HLe.new (P2.ok _ (Nat.le_refl _)) (.cells (evC kq (evOf [])) 1)
        have PN := P3.mono (P2.ok.new (.cells (evC kq (evOf [])) 1)) hnew
        have hevN := hev2.mono hnew
        have hrowN := hrow2.mono hnew
        obtain ⟨t1, t2⟩ := eq.1.sc
        simp only [evC, reqC, evOf, List.headD_nil, noEv, noReq, List.cons_append, List.nil_append] at PN hevN hrowN ⊢
        cases m with
        | false =>
          repeat (first | ((first | apply Xk.sAny | apply Xk.tAny); (case hok => rfl); (case h => intro C hC; simp (disch := omega) only [w1, ↓reduceIte, Nat.reduceEqDiff, Nat.reduceLeDiff, Nat.reduceAdd, Nat.reduceSub, t1, t2]; with_reducible exact hC); refine gc ?_) | refine gm ?_)
          rcases hm with hm | ⟨_, hm⟩
          · subst hm
            obtain hnil := stop_nil hst
            rw [hrun rfl] at e1 e2
            rw [List.append_nil] at e1
            exact fin _ _ _ _ _ e1 e2 PN hevN hrowN
          · cases d with
            | false =>
              obtain hnil := stop_nil hst
              rw [hrun rfl] at e1 e2
              rw [List.append_nil] at e1
              exact fin _ _ _ _ _ e1 e2 PN hevN hrowN
            | true =>
              rw [hrun2 rfl, hout rfl hm] at e1 e2
              simp only [List.append_nil] at e1
              exact fin _ _ _ _ _ e1 e2 PN hevN hrowN
        | true =>
          obtain rfl : d = true := by
            rcases hm with hm | ⟨hm, _⟩
            · exact hm.symm
            · cases hm
          rw [hrun2 rfl] at e1 e2
          have := o4 rfl
          repeat (first | ((first | apply Xk.sAny | apply Xk.tAny); (case hok => rfl); (case h => intro C hC; simp (disch := omega) only [w1, ↓reduceIte, Nat.reduceEqDiff, Nat.reduceLeDiff, Nat.reduceAdd, Nat.reduceSub, t1, t2]; with_reducible exact hC); refine gc ?_) | refine gm ?_)
          exact ⟨rfl, _, this, q', es, _, _, rfl, rfl, PN, hevN, hrowN, o1, by omega, by omega, e1, e2⟩
      · obtain ⟨kv5, hb5, hkv5, hnn5⟩ := P3.body
        have hnew := HLe.new (P2.ok _ (Nat.le_refl _)) (.cells (evC kq e) 1)
        have hO3 := P2.ok.new (.cells (evC kq e) 1)
        have eqk := eq.1
        have hev3 := hev2.mono hnew
        have hrow3 := hrow2.mono hnew
        have hb3 := hnew _ _ hb5
        have P4 := P3.mono hO3 hnew
        have hlt := P2.ok.lt hb5
        have hle3 : HLe (H.put b (.cells (rsC q' kv5) 1)) (H2.new (.cells (evC kq e) 1)) := by
          intro c x hc
          by_cases hcb : c = b
          · subst hcb; rw [Heap.get_put_self] at hc; cases hc; exact hb3
          · rw [Heap.get_put_ne _ _ _ hcb] at hc; exact P4.keep c x hcb hc
        obtain ⟨v', H4, e3, hO4, hle4, hn4, hown4, hkeep⟩ := Own.push (w := 1) (bytes := 192) (row := evC kq e) hO3 hle3 (own_put hy hev3) rfl (by simp only [evC, reqC, List.cons_append, List.nil_append, List.all_cons, List.all_nil, wh, eqk.sc.2, Bool.and_self]) (by omega) (by omega) (by omega)
        have hevN := put_own hy hown4
        have hap : Apart kq ev := by
          rcases eq.2 with h | h | h
          · intro c o l z o' l' z' h1 h2; rw [h] at h1; cases h1
          · exact apart_keys eqk hev2 hrow2 (.inr h)
          · intro c o l z o' l' z' h1 h2
            have h3 := h c o l z h1
            rcases hev with ⟨h4, _⟩ | ⟨c', len, a1, a2, a3, a4⟩
            · rw [h4] at h2; cases h2
            · rw [a1] at h2; cases h2; rw [h3] at a3; cases a3
        have hrowN := EvRows.snoc (e := e) (keep_apart hkeep (eqk.mono hnew) hap) (hrow3.keep hkeep hev3)
        have hb4 : H4.get b = some (.cells (rsC q' kv5) 1) := hkeep _ _ hb3 (by
          intro o l z e; subst e
          rcases hev3 with ⟨h, _⟩ | ⟨c, len, h1, h2, h3, h4⟩
          · cases h
          · cases h1; rw [hy] at h4; cases h4)
        have PN : Ra H H4 b q' := ⟨hO4, P.old, fun c x hc h => hle4 _ _ (by rw [Heap.get_put_ne _ _ _ hc]; exact h), kv5, hb4, asked_keep hkeep (hkv5.mono hnew) hev3 hrow3 hnn5, hnn5⟩
        obtain ⟨t1, t2⟩ := eqk.sc
        have hee : evOf [e] = e := rfl
        rw [hee]
        unfold evC reqC at e3 ⊢
        simp only [List.cons_append, List.nil_append, Heap.next_new] at e3 ⊢
        by_cases hv : e.r.verb = 0
        · have hk : (e.kind = 0) = False := eq_false (hne.resolve_left (fun h => h hv))
          have hv' := eq_true hv
          cases m with
          | false =>
            repeat (first | ((first | apply Xk.sAny | apply Xk.tAny); (case hok => rfl); (case h => intro C hC; simp (disch := omega) only [w1, ↓reduceIte, Nat.reduceEqDiff, Nat.reduceLeDiff, Nat.reduceAdd, Nat.reduceSub, t1, t2, hv', hk, e3]; with_reducible exact hC); refine gc ?_) | refine gm ?_)
            rcases hm with hm | ⟨_, hm⟩
            · subst hm
              exact nomatch stop_nil hst
            · cases d with
              | false => exact nomatch stop_nil hst
              | true =>
                rw [hrun2 rfl, hout rfl hm] at e1 e2
                simp only [List.append_nil] at e1
                exact fin _ _ _ _ _ e1 e2 PN hevN hrowN
          | true =>
            obtain rfl : d = true := by
              rcases hm with hm | ⟨hm, _⟩
              · exact hm.symm
              · cases hm
            rw [hrun2 rfl] at e1 e2
            have := o4 rfl
            repeat (first | ((first | apply Xk.sAny | apply Xk.tAny); (case hok => rfl); (case h => intro C hC; simp (disch := omega) only [w1, ↓reduceIte, Nat.reduceEqDiff, Nat.reduceLeDiff, Nat.reduceAdd, Nat.reduceSub, t1, t2, hv', hk, e3]; with_reducible exact hC); refine gc ?_) | refine gm ?_)
            exact ⟨rfl, _, this, q', es ++ [e], _, _, rfl, rfl, PN, hevN, hrowN, o1, by omega, by rw [List.length_append]; simp only [List.length_cons, List.length_nil]; omega, by rw [List.append_assoc]; exact e1, e2⟩
        · have hv' := eq_false hv
          cases m with
          | false =>
            repeat (first | ((first | apply Xk.sAny | apply Xk.tAny); (case hok => rfl); (case h => intro C hC; simp (disch := omega) only [w1, ↓reduceIte, Nat.reduceEqDiff, Nat.reduceLeDiff, Nat.reduceAdd, Nat.reduceSub, t1, t2, hv', e3]; with_reducible exact hC); refine gc ?_) | refine gm ?_)
            rcases hm with hm | ⟨_, hm⟩
            · subst hm
              exact nomatch stop_nil hst
            · cases d with
              | false => exact nomatch stop_nil hst
              | true =>
                rw [hrun2 rfl, hout rfl hm] at e1 e2
                simp only [List.append_nil] at e1
                exact fin _ _ _ _ _ e1 e2 PN hevN hrowN
          | true =>
            obtain rfl : d = true := by
              rcases hm with hm | ⟨hm, _⟩
              · exact hm.symm
              · cases hm
            rw [hrun2 rfl] at e1 e2
            have := o4 rfl
            repeat (first | ((first | apply Xk.sAny | apply Xk.tAny); (case hok => rfl); (case h => intro C hC; simp (disch := omega) only [w1, ↓reduceIte, Nat.reduceEqDiff, Nat.reduceLeDiff, Nat.reduceAdd, Nat.reduceSub, t1, t2, hv', e3]; with_reducible exact hC); refine gc ?_) | refine gm ?_)
            exact ⟨rfl, _, this, q', es ++ [e], _, _, rfl, rfl, PN, hevN, hrowN, o1, by omega, by rw [List.length_append]; simp only [List.length_cons, List.length_nil]; omega, by rw [List.append_assoc]; exact e1, e2⟩
end Go.Proofs.Ytkjmelfgopammaa
