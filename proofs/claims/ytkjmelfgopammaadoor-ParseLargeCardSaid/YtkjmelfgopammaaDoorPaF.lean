/- Layer 13: the program's Feed. Conditions: none. -/
import Derived.Test.YtkjmelfgopammaaDoorPaB
namespace Go.Proofs.YtkjmelfgopammaaDoor
open Go.Dp Go.Wd
set_option linter.unusedSimpArgs false
set_option linter.unusedVariables false
set_option maxHeartbeats 2000000
attribute [local irreducible] Ex.thnK Ex.inK Ret

theorem okM {a : Nat} {l : List UInt8} {c : Nat} {q : Req} {s : Bool} (h1 : a ≤ 3) (h2 : a = 2 → 0 < c) (h3 : a ≠ 2 → c = 0) (h4 : c ≤ 2147483649) (h5 : a = 1 → q.bytes ≤ 1048576 ∧ storing q.verb = true ∧ q.keys.length = 1) (h6 : a ≠ 1 → q = noReq) : PS.Ok ⟨a, l, c, q, s⟩ := ⟨h1, h2, h3, h4, h5, h6⟩
theorem doLine_ok {p : PS} (h : p.Ok) (h0 : p.at_ = 0) (s : List UInt8) : (doLine p s).1.Ok ∧ (doLine p s).1.left.length ≤ p.left.length ∧ (doLine p s).2.length ≤ 1 ∧ ((doLine p s).1.shut = true ∨ meas (doLine p s).1 ≤ 2 * p.left.length + 2) := by
  have hc := h.zero (by omega)
  have ha := h.asked (by omega)
  have hm : meas p ≤ 2 * p.left.length + 2 := by unfold meas; split; (exact Nat.zero_le _); split <;> omega
  rw [doLine_eq]
  have hb := lineOf_bytes s
  have hkey := fun a b => storing_keys (s := s) a b
  generalize hr : (lineOf s).1 = r at *
  by_cases c4 : (lineOf s).2 = 4
  · rw [if_pos c4]; exact ⟨h, Nat.le_refl _, Nat.le_refl _, .inr hm⟩
  rw [if_neg c4]
  by_cases c0 : (lineOf s).2 ≠ 0
  · rw [if_pos c0]; exact ⟨h, Nat.le_refl _, Nat.le_refl _, .inr hm⟩
  rw [if_neg c0]
  by_cases c17 : r.verb = 17
  · rw [if_pos c17]; exact ⟨okM h.at_ h.count h.zero h.most h.data h.asked, Nat.zero_le _, Nat.le_refl _, .inl rfl⟩
  rw [if_neg c17]
  by_cases cb : storing r.verb = true ∧ 1048576 < r.bytes
  · rw [if_pos cb]
    refine ⟨okM (by decide) (fun _ => Nat.succ_pos _) (fun h => absurd rfl h) (Nat.add_le_add_right hb 2) (fun h => nomatch h) (fun _ => ha), Nat.le_refl _, by split <;> simp, .inr ?_⟩
    unfold meas
    simp only
    split <;> simp
  rw [if_neg cb]
  by_cases cs : storing r.verb = true
  · rw [if_pos cs]
    refine ⟨okM (by decide) (fun h => nomatch h) (fun _ => hc) h.most (fun _ => ⟨?_, cs, hkey (Nat.eq_zero_of_not_pos fun x => c0 (by omega)) cs⟩) (fun h => absurd rfl h), Nat.le_refl _, Nat.zero_le _, .inr ?_⟩
    · exact Nat.le_of_not_lt fun x => cb ⟨cs, x⟩
    · unfold meas
      simp only
      split <;> simp
  rw [if_neg cs]
  exact ⟨h, Nat.le_refl _, Nat.le_refl _, .inr hm⟩

theorem step_ok {p : PS} (h : p.Ok) (hs : p.shut = false) : (stepP p).2.1.Ok ∧ (stepP p).2.1.left.length ≤ p.left.length ∧ (stepP p).2.2.length ≤ 1 ∧ ((stepP p).1 = true → meas (stepP p).2.1 < meas p) := by
  have hup := upTo_le 10 p.left
  have hm : meas p = 2 * p.left.length + (if p.at_ = 1 then 1 else 0) + 1 := by unfold meas; rw [hs]; simp
  unfold stepP
  by_cases h0 : p.at_ = 0
  · rw [if_pos h0]
    rw [if_neg (by omega)] at hm
    unfold lineStep
    simp only []
    by_cases a : 2048 < upTo 10 p.left
    · rw [if_pos a]
      refine ⟨okM h.at_ h.count h.zero h.most h.data h.asked, Nat.zero_le _, Nat.le_refl _, fun _ => ?_⟩
      unfold meas at hm ⊢
      rw [if_pos rfl]
      omega
    rw [if_neg a]
    by_cases b : upTo 10 p.left = p.left.length
    · rw [if_pos b]
      exact ⟨h, Nat.le_refl _, Nat.zero_le _, (fun h => nomatch h)⟩
    rw [if_neg b]
    obtain ⟨d1, d2, d3, d4⟩ := doLine_ok (p := { p with left := p.left.drop (upTo 10 p.left + 1) }) ⟨h.at_, h.count, h.zero, h.most, h.data, h.asked⟩ h0 (trimCR (p.left.take (upTo 10 p.left)))
    simp only [List.length_drop] at d2 d4
    refine ⟨d1, Nat.le_trans d2 (by omega), d3, fun _ => ?_⟩
    rcases d4 with d4 | d4
    · show meas _ < _
      rw [hm]
      unfold meas
      rw [if_pos d4]
      omega
    · rw [hm]
      exact Nat.lt_of_le_of_lt d4 (by omega)
  rw [if_neg h0]
  by_cases h1 : p.at_ = 1
  · rw [if_pos h1]
    rw [if_pos h1] at hm
    have hc := h.zero (by omega)
    unfold dataStep
    simp only []
    split
    · exact ⟨h, Nat.le_refl _, Nat.zero_le _, (fun h => nomatch h)⟩
    split
    · exact ⟨h, Nat.le_refl _, Nat.zero_le _, (fun h => nomatch h)⟩
    split
    · refine ⟨okM (by decide) (fun h => nomatch h) (fun _ => hc) h.most (fun h => nomatch h) (fun _ => rfl), by simp only [List.length_drop]; omega, Nat.le_refl _, fun _ => ?_⟩
      rw [hm]
      unfold meas
      simp only [hs, List.length_drop]
      split <;> simp <;> omega
    · refine ⟨okM (by decide) (fun h => nomatch h) (fun _ => hc) h.most (fun h => nomatch h) (fun _ => rfl), by simp only [List.length_drop]; omega, Nat.le_refl _, fun _ => ?_⟩
      rw [hm]
      unfold meas
      simp only [hs, List.length_drop]
      split <;> simp <;> omega
  rw [if_neg h1]
  rw [if_neg h1] at hm
  by_cases h2 : p.at_ = 2
  · rw [if_pos h2]
    have hc := h.count h2
    unfold pastStep
    by_cases hl : p.left = []
    · rw [if_pos hl]
      exact ⟨h, Nat.le_refl _, Nat.zero_le _, (fun h => nomatch h)⟩
    rw [if_neg hl]
    have hpos : 0 < p.left.length := List.length_pos_iff.2 hl
    have ha := h.asked h1
    have hmo := h.most
    have m1 : min p.count p.left.length ≤ p.left.length := Nat.min_le_right _ _
    have m2 : min p.count p.left.length ≤ p.count := Nat.min_le_left _ _
    have m3 : 0 < min p.count p.left.length := by omega
    generalize min p.count p.left.length = n at *
    simp only []
    by_cases hz : p.count - n = 0
    · rw [if_pos hz]
      refine ⟨okM (by decide) (fun h => nomatch h) (fun _ => hz) (by omega) (fun h => nomatch h) (fun _ => ha), by simp only [List.length_drop]; omega, Nat.zero_le _, fun _ => ?_⟩
      rw [hm]
      unfold meas
      simp only [hs, List.length_drop]
      split <;> simp <;> omega
    · rw [if_neg hz]
      refine ⟨okM h.at_ (fun _ => by omega) (fun h => absurd h2 h) (by omega) (fun h => absurd h h1) (fun _ => ha), by simp only [List.length_drop]; omega, Nat.zero_le _, fun _ => ?_⟩
      rw [hm]
      unfold meas
      simp only [hs, h1, List.length_drop]
      split <;> simp <;> omega
  rw [if_neg h2]
  have hc := h.zero h2
  have ha := h.asked h1
  unfold brokenStep
  simp only []
  by_cases b : upTo 10 p.left = p.left.length
  · rw [if_pos b]
    exact ⟨okM h.at_ h.count h.zero h.most h.data h.asked, Nat.zero_le _, Nat.zero_le _, (fun h => nomatch h)⟩
  rw [if_neg b]
  refine ⟨okM (by decide) (fun h => nomatch h) (fun _ => hc) h.most (fun h => nomatch h) (fun _ => ha), by simp only [List.length_drop]; omega, Nat.zero_le _, fun _ => ?_⟩
  rw [hm]
  unfold meas
  simp only [hs, List.length_drop]
  split <;> simp <;> omega

theorem stop_nil {p q : PS} {es : List Ev} (h : stepP p = (false, q, es)) : es = [] := by
  unfold stepP at h
  split at h
  · unfold lineStep at h
    simp only [] at h
    split at h
    · cases h
    split at h
    · cases h; rfl
    · cases h
  split at h
  · unfold dataStep at h
    simp only [] at h
    split at h
    · cases h; rfl
    split at h
    · cases h; rfl
    split at h <;> cases h
  split at h
  · unfold pastStep at h
    split at h
    · cases h; rfl
    · cases h
  · unfold brokenStep at h
    simp only [] at h
    split at h <;> cases h
    rfl
theorem quiet_nil {p q : PS} {es : List Ev} {d : Bool} (h : stepP p = (d, q, es)) (h2 : 2 ≤ p.at_) : es = [] := by
  unfold stepP at h
  rw [if_neg (by omega), if_neg (by omega)] at h
  split at h
  · unfold pastStep at h
    split at h <;> cases h <;> rfl
  · unfold brokenStep at h
    simp only [] at h
    split at h <;> cases h <;> rfl
def runP (p : PS) : List Ev × PS := feedN (meas p) p
theorem runP_shut {p : PS} (h : p.shut = true) : runP p = ([], p) := by
  unfold runP
  have : meas p = 0 := by unfold meas; rw [if_pos h]
  rw [this]; rfl
theorem meas_pos {p : PS} (h : p.shut = false) : ∃ m, meas p = m + 1 := ⟨2 * p.left.length + (if p.at_ = 1 then 1 else 0), by unfold meas; rw [h]; simp⟩
theorem feedN_eq : ∀ (n : Nat) (p : PS), p.Ok → meas p ≤ n → feedN n p = runP p := by
  intro n
  induction n using Nat.strongRecOn with
  | ind n ih =>
    intro p hp hn
    cases hs : p.shut with
    | true =>
      rw [runP_shut hs]
      cases n with
      | zero => rfl
      | succ n => unfold feedN; rw [if_pos hs]
    | false =>
      obtain ⟨m, hm⟩ := meas_pos hs
      obtain ⟨a1, a2, a3, a4⟩ := step_ok hp hs
      unfold runP
      rw [hm]
      cases n with
      | zero => omega
      | succ n =>
        unfold feedN
        rw [if_neg (by rw [hs]; decide), if_neg (by rw [hs]; decide)]
        rcases hq : stepP p with ⟨d, q, es⟩
        rw [hq] at a1 a4
        cases d with
        | false => rfl
        | true =>
          have := a4 rfl
          simp only at this a1 ⊢
          rw [ih n (Nat.lt_succ_self _) q a1 (by omega), ih m (by omega) q a1 (by omega)]
theorem runP_stop {p q : PS} {es : List Ev} (h : stepP p = (false, q, es)) (hs : p.shut = false) : runP p = ([], q) := by
  obtain ⟨m, hm⟩ := meas_pos hs
  unfold runP
  rw [hm]
  unfold feedN
  rw [if_neg (by rw [hs]; decide), h]
theorem feedN_go {p q : PS} {es : List Ev} (m : Nat) (h : stepP p = (true, q, es)) (hs : p.shut = false) : feedN (m + 1) p = (es ++ (feedN m q).1, (feedN m q).2) := by
  rw [feedN, if_neg (by rw [hs]; decide), h]
theorem runP_go {p q : PS} {es : List Ev} (hp : p.Ok) (h : stepP p = (true, q, es)) (hs : p.shut = false) : runP p = (es ++ (runP q).1, (runP q).2) := by
  obtain ⟨m, hm⟩ := meas_pos hs
  obtain ⟨a1, a2, a3, a4⟩ := step_ok hp hs
  rw [h] at a1 a4
  have := a4 rfl
  simp only at this a1
  have e : runP q = feedN m q := (feedN_eq m q a1 (by omega)).symm
  rw [e]
  unfold runP
  rw [hm]
  exact feedN_go m h hs
theorem feed_eq {p : PS} (hs : p.shut = false) (b : List UInt8) : feed p b = runP { p with left := p.left ++ b } := by
  unfold feed runP
  rw [hs]; simp
theorem feed_shut {p : PS} (hs : p.shut = true) (b : List UInt8) : feed p b = ([], p) := by
  unfold feed
  rw [if_pos hs]

/-- a parser at rest -/
def AtP (H : Heap) (b : Nat) (p : PS) : Prop := ∃ kv, H.get b = some (.cells (psC p kv .nils) 1) ∧ Own noHeap H 0 1 kv (strs p.asked.keys) ∧ (kv = .nils ∨ p.asked.keys ≠ [])

theorem Feed_ev (H : Heap) (b : Nat) (p : PS) (bs : List UInt8) (hA : AtP H b p) (hp : p.Ok) (hl : p.left.length + bs.length < 1000000000) (Q : AV → Heap → Prop)
    (hQ : ∀ H' ev cs, H'.Ok → (∀ c y, c ≠ b → H.get c = some y → H'.get c = some y) → AtP H' b (feed p bs).2 → Own H H' 0 18 ev cs → EvRows H' (feed p bs).1 cs → Q ev H') : Eo lib n_parse_Parser_Feed [.ptr b 0, .str bs] H Q := by
  refine Eo.ok fun hOk => ?_
  obtain ⟨a, l, c, asked, s⟩ := p
  obtain ⟨kv, hb, hkv, hnn⟩ := hA
  have hb0 := hb
  unfold psC at hb
  refine Eo.code at_parse_Parser_Feed rfl ?_
  cases s with
  | true =>
    rw [feed_shut rfl] at hQ
    repeat (first | ((first | apply Xk.sAny | apply Xk.tAny); (case hok => rfl); (case h => intro C hC; simp (disch := omega) only [w1, ↓reduceIte, Nat.reduceEqDiff, Nat.reduceLeDiff, Nat.reduceAdd, Nat.reduceSub, hb]; with_reducible exact hC); refine gc ?_) | refine gm ?_)
    exact hQ _ _ _ hOk (fun _ _ _ h => h) ⟨kv, hb0, hkv, hnn⟩ (.inl ⟨rfl, rfl⟩) rfl
  | false =>
    rw [feed_eq rfl] at hQ
    have P0 : Pa H H b ⟨a, l, c, asked, false⟩ [] := ⟨hOk, ⟨_, hb0⟩, fun _ _ _ h => h, kv, .nils, [], hb0, hkv, .inl ⟨rfl, rfl⟩, rfl, hnn⟩
    have P1 := P0.set (p' := ⟨a, l ++ bs, c, asked, false⟩) hkv (.inl ⟨rfl, rfl⟩) rfl hnn hb0
    have hq : PS.Ok ⟨a, l ++ bs, c, asked, false⟩ := okM hp.at_ hp.count hp.zero hp.most hp.data hp.asked
    have hql : (l ++ bs).length < 1000000000 := by simp only [List.length_append]; exact hl
    simp only at hQ
    have hl' : l.length + bs.length < 1000000000 := hl
    repeat (first | ((first | apply Xk.sAny | apply Xk.tAny); (case hok => rfl); (case h => intro C hC; simp (disch := omega) only [w1, ↓reduceIte, Nat.reduceEqDiff, Nat.reduceLeDiff, Nat.reduceAdd, Nat.reduceSub, hb]; with_reducible exact hC); refine gc ?_) | refine gm ?_)
    have fin : ∀ H' es q kv' ev cs, es = (runP ⟨a, l ++ bs, c, asked, false⟩).1 → q = (runP ⟨a, l ++ bs, c, asked, false⟩).2 → H'.Ok → (∀ c y, c ≠ b → H.get c = some y → H'.get c = some y) → H'.get b = some (.cells (psC q kv' ev) 1) → Own noHeap H' 0 1 kv' (strs q.asked.keys) → Own H H' 0 18 ev cs → EvRows H' es cs → (kv' = .nils ∨ q.asked.keys ≠ []) → Q ev (H'.put b (.cells (psC q kv' .nils) 1)) := by
      intro H' es q kv' ev cs e1 e2 hO' hk hb' h1 h2 h3 h4
      subst e1; subst e2
      exact hQ _ ev cs (hO'.put hb' _) (fun c y hc h => by rw [Heap.get_put_ne _ _ _ hc]; exact hk c y hc h) ⟨kv', Heap.get_put_self _ _ _, key_put hb' (psC_keys _ _ _) _ h1, h4⟩ (h2.put hb0 _) (h3.put hb' (psC_keys _ _ _) _)
    refine Xk.iter [0] (fun m k H' => ∃ q es, m = meas q ∧ k = [(0, .ptr b 0)] ∧ Pa H H' b q es ∧ q.Ok ∧ q.left.length < 1000000000 ∧ es.length + meas q < 3000000000 ∧ es ++ (runP q).1 = (runP ⟨a, l ++ bs, c, asked, false⟩).1 ∧ (runP q).2 = (runP ⟨a, l ++ bs, c, asked, false⟩).2) rfl ⟨_, ⟨a, l ++ bs, c, asked, false⟩, [], rfl, rfl, P1, hq, hql, ?_, rfl, rfl⟩ ?_
    · show 0 + (if false = true then 0 else 2 * (l ++ bs).length + (if a = 1 then 1 else 0) + 1) < _
      rw [if_neg (by decide)]
      split <;> omega
    rintro m k H' ⟨⟨qa, ql, qc, qr, qs⟩, es, rfl, rfl, P, hqk, hqm, hem, e1, e2⟩
    unfold l0_parse_Parser_Feed
    obtain ⟨kv', ev, cs, hb, hkv, hev, hrow, hnn⟩ := P.body
    have hb' := hb
    unfold psC at hb
    cases qs with
    | true =>
      rw [runP_shut rfl] at e1 e2
      rw [List.append_nil] at e1
      repeat (first | ((first | apply Xk.sAny | apply Xk.tAny); (case hok => rfl); (case h => intro C hC; simp (disch := omega) only [w1, ↓reduceIte, Nat.reduceEqDiff, Nat.reduceLeDiff, Nat.reduceAdd, Nat.reduceSub, hb]; with_reducible exact hC); refine gc ?_) | refine gm ?_)
      exact fin _ _ _ _ _ _ e1 e2 P.ok P.keep hb' hkv hev hrow hnn
    | false =>
      obtain ⟨o1, o2, o3, o4⟩ := step_ok hqk rfl
      have hat : qa ≤ 3 := hqk.at_
      rcases hst : stepP ⟨qa, ql, qc, qr, false⟩ with ⟨d, q', es'⟩
      rw [hst] at o1 o2 o3 o4
      simp only at o1 o2 o3 o4 hqm
      have hrun : d = false → (runP ⟨qa, ql, qc, qr, false⟩) = ([], q') := fun h => runP_stop (by rw [hst, h]) rfl
      have hrun2 : d = true → (runP ⟨qa, ql, qc, qr, false⟩) = (es' ++ (runP q').1, (runP q').2) := fun h => runP_go hqk (by rw [hst, h]) rfl
      by_cases h0 : qa = 0
      · subst h0
        have hls : lineStep ⟨0, ql, qc, qr, false⟩ = (d, q', es') := hst
        repeat (first | ((first | apply Xk.sAny | apply Xk.tAny); (case hok => rfl); (case h => intro C hC; simp (disch := omega) only [w1, ↓reduceIte, Nat.reduceEqDiff, Nat.reduceLeDiff, Nat.reduceAdd, Nat.reduceSub, hb]; with_reducible exact hC); refine gc ?_) | refine gm ?_)
        refine line_ev H H' b _ es P (by omega) hqm rfl (hqk.asked (fun h => nomatch h)) _ fun H2 P2 => ?_
        rw [hls] at P2 ⊢
        cases d with
        | false =>
          obtain ⟨kv', ev, cs, hb, hkv, hev, hrow, hnn⟩ := P2.body
          have hb' := hb
          unfold psC at hb
          rw [hrun rfl] at e1 e2
          obtain rfl := stop_nil hst
          repeat (first | ((first | apply Xk.sAny | apply Xk.tAny); (case hok => rfl); (case h => intro C hC; simp (disch := omega) only [w1, ↓reduceIte, Nat.reduceEqDiff, Nat.reduceLeDiff, Nat.reduceAdd, Nat.reduceSub, hb]; with_reducible exact hC); refine gc ?_) | refine gm ?_)
          rw [List.append_nil] at e1 hrow
          exact fin _ _ _ _ _ _ e1 e2 P2.ok P2.keep hb' hkv hev hrow hnn
        | true =>
          rw [hrun2 rfl] at e1 e2
          have := o4 rfl
          repeat (first | ((first | apply Xk.sAny | apply Xk.tAny); (case hok => rfl); (case h => intro C hC; simp (disch := omega) only [w1, ↓reduceIte, Nat.reduceEqDiff, Nat.reduceLeDiff, Nat.reduceAdd, Nat.reduceSub]; with_reducible exact hC); refine gc ?_) | refine gm ?_)
          exact ⟨rfl, _, this, q', es ++ es', rfl, rfl, P2, o1, by omega, by rw [List.length_append]; omega, by rw [List.append_assoc]; exact e1, e2⟩
      by_cases h1 : qa = 1
      · subst h1
        have hls : dataStep ⟨1, ql, qc, qr, false⟩ = (d, q', es') := hst
        repeat (first | ((first | apply Xk.sAny | apply Xk.tAny); (case hok => rfl); (case h => intro C hC; simp (disch := omega) only [w1, ↓reduceIte, Nat.reduceEqDiff, Nat.reduceLeDiff, Nat.reduceAdd, Nat.reduceSub, hb]; with_reducible exact hC); refine gc ?_) | refine gm ?_)
        refine data_ev H H' b _ es P (by omega) hqm (by have := (hqk.data rfl).1; simp only at this ⊢; omega) _ fun H2 P2 => ?_
        rw [hls] at P2 ⊢
        cases d with
        | false =>
          obtain ⟨kv', ev, cs, hb, hkv, hev, hrow, hnn⟩ := P2.body
          have hb' := hb
          unfold psC at hb
          rw [hrun rfl] at e1 e2
          obtain rfl := stop_nil hst
          repeat (first | ((first | apply Xk.sAny | apply Xk.tAny); (case hok => rfl); (case h => intro C hC; simp (disch := omega) only [w1, ↓reduceIte, Nat.reduceEqDiff, Nat.reduceLeDiff, Nat.reduceAdd, Nat.reduceSub, hb]; with_reducible exact hC); refine gc ?_) | refine gm ?_)
          rw [List.append_nil] at e1 hrow
          exact fin _ _ _ _ _ _ e1 e2 P2.ok P2.keep hb' hkv hev hrow hnn
        | true =>
          rw [hrun2 rfl] at e1 e2
          have := o4 rfl
          repeat (first | ((first | apply Xk.sAny | apply Xk.tAny); (case hok => rfl); (case h => intro C hC; simp (disch := omega) only [w1, ↓reduceIte, Nat.reduceEqDiff, Nat.reduceLeDiff, Nat.reduceAdd, Nat.reduceSub]; with_reducible exact hC); refine gc ?_) | refine gm ?_)
          exact ⟨rfl, _, this, q', es ++ es', rfl, rfl, P2, o1, by omega, by rw [List.length_append]; omega, by rw [List.append_assoc]; exact e1, e2⟩
      by_cases h2 : qa = 2
      · subst h2
        have hls : pastStep ⟨2, ql, qc, qr, false⟩ = (d, q', es') := hst
        repeat (first | ((first | apply Xk.sAny | apply Xk.tAny); (case hok => rfl); (case h => intro C hC; simp (disch := omega) only [w1, ↓reduceIte, Nat.reduceEqDiff, Nat.reduceLeDiff, Nat.reduceAdd, Nat.reduceSub, hb]; with_reducible exact hC); refine gc ?_) | refine gm ?_)
        refine past_ev H H' b _ es P hqm (by have := hqk.most; simp only at this ⊢; omega) _ fun H2 P2 => ?_
        rw [hls] at P2 ⊢
        cases d with
        | false =>
          obtain ⟨kv', ev, cs, hb, hkv, hev, hrow, hnn⟩ := P2.body
          have hb' := hb
          unfold psC at hb
          rw [hrun rfl] at e1 e2
          obtain rfl := stop_nil hst
          repeat (first | ((first | apply Xk.sAny | apply Xk.tAny); (case hok => rfl); (case h => intro C hC; simp (disch := omega) only [w1, ↓reduceIte, Nat.reduceEqDiff, Nat.reduceLeDiff, Nat.reduceAdd, Nat.reduceSub, hb]; with_reducible exact hC); refine gc ?_) | refine gm ?_)
          rw [List.append_nil] at e1
          exact fin _ _ _ _ _ _ e1 e2 P2.ok P2.keep hb' hkv hev hrow hnn
        | true =>
          rw [hrun2 rfl] at e1 e2
          have := o4 rfl
          repeat (first | ((first | apply Xk.sAny | apply Xk.tAny); (case hok => rfl); (case h => intro C hC; simp (disch := omega) only [w1, ↓reduceIte, Nat.reduceEqDiff, Nat.reduceLeDiff, Nat.reduceAdd, Nat.reduceSub]; with_reducible exact hC); refine gc ?_) | refine gm ?_)
          obtain rfl := quiet_nil hst (by simp only; omega)
          exact ⟨rfl, _, this, q', es, rfl, rfl, P2, o1, by omega, by omega, e1, e2⟩
      obtain rfl : qa = 3 := by omega
      have hls : brokenStep ⟨3, ql, qc, qr, false⟩ = (d, q', es') := hst
      repeat (first | ((first | apply Xk.sAny | apply Xk.tAny); (case hok => rfl); (case h => intro C hC; simp (disch := omega) only [w1, ↓reduceIte, Nat.reduceEqDiff, Nat.reduceLeDiff, Nat.reduceAdd, Nat.reduceSub, hb]; with_reducible exact hC); refine gc ?_) | refine gm ?_)
      refine broken_ev H H' b _ es P hqm _ fun H2 P2 => ?_
      rw [hls] at P2 ⊢
      cases d with
      | false =>
        obtain ⟨kv', ev, cs, hb, hkv, hev, hrow, hnn⟩ := P2.body
        have hb' := hb
        unfold psC at hb
        rw [hrun rfl] at e1 e2
        obtain rfl := stop_nil hst
        repeat (first | ((first | apply Xk.sAny | apply Xk.tAny); (case hok => rfl); (case h => intro C hC; simp (disch := omega) only [w1, ↓reduceIte, Nat.reduceEqDiff, Nat.reduceLeDiff, Nat.reduceAdd, Nat.reduceSub, hb]; with_reducible exact hC); refine gc ?_) | refine gm ?_)
        rw [List.append_nil] at e1
        exact fin _ _ _ _ _ _ e1 e2 P2.ok P2.keep hb' hkv hev hrow hnn
      | true =>
        rw [hrun2 rfl] at e1 e2
        have := o4 rfl
        repeat (first | ((first | apply Xk.sAny | apply Xk.tAny); (case hok => rfl); (case h => intro C hC; simp (disch := omega) only [w1, ↓reduceIte, Nat.reduceEqDiff, Nat.reduceLeDiff, Nat.reduceAdd, Nat.reduceSub]; with_reducible exact hC); refine gc ?_) | refine gm ?_)
        obtain rfl := quiet_nil hst (by simp only; omega)
        exact ⟨rfl, _, this, q', es, rfl, rfl, P2, o1, by omega, by omega, e1, e2⟩
end Go.Proofs.YtkjmelfgopammaaDoor
