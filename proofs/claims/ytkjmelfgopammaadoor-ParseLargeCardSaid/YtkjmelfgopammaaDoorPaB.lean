/- Layer 13: the program's parser: what a call of each comes to. Conditions: none. -/
import Derived.Test.YtkjmelfgopammaaDoorPaA
namespace Go.Proofs.YtkjmelfgopammaaDoor
open Go.Dp Go.Wd
set_option linter.unusedSimpArgs false
set_option linter.unusedVariables false
set_option maxHeartbeats 2000000
set_option maxRecDepth 4000
attribute [local irreducible] Ex.thnK Ex.inK Ret

theorem Pa.put {H0 H : Heap} {b : Nat} {p : PS} {es : List Ev} (P : Pa H0 H b p es) {p' : PS} {kv ev : AV} {cs : List AV} {es' : List Ev} {H' : Heap} (hO : H'.Ok) (hk : ∀ c y, c ≠ b → H0.get c = some y → H'.get c = some y)
    {l : List AV} {w : Nat} (hb : H'.get b = some (.cells l w)) (hl : ∀ ks, strs ks ≠ l) (h1 : Own noHeap H' 0 1 kv (strs p'.asked.keys)) (h2 : Own H0 H' 0 18 ev cs) (h3 : EvRows H' es' cs) (h4 : kv = .nils ∨ p'.asked.keys ≠ []) : Pa H0 (H'.put b (.cells (psC p' kv ev) 1)) b p' es' := by
  obtain ⟨y, hy⟩ := P.old
  exact ⟨hO.put hb _, P.old, fun c x hc h => by rw [Heap.get_put_ne _ _ _ hc]; exact hk c x hc h, kv, ev, cs, Heap.get_put_self _ _ _, key_put hb hl _ h1, h2.put hy _, h3.put hb hl _, h4⟩

theorem own_put {H0 H : Heap} {b k sz : Nat} {y x : Blk} {v : AV} {cs : List AV} (hy : H0.get b = some y) (h : Own H0 H k sz v cs) : Own (H0.put b x) H k sz v cs := by
  rcases h with h | ⟨c, len, a1, a2, a3, a4⟩
  · exact .inl h
  · exact .inr ⟨c, len, a1, a2, a3, by rw [Heap.get_put_ne _ _ _ (by intro e; subst e; rw [hy] at a4; cases a4)]; exact a4⟩
theorem put_own {H0 H : Heap} {b k sz : Nat} {y x : Blk} {v : AV} {cs : List AV} (hy : H0.get b = some y) (h : Own (H0.put b x) H k sz v cs) : Own H0 H k sz v cs := by
  rcases h with h | ⟨c, len, a1, a2, a3, a4⟩
  · exact .inl h
  · refine .inr ⟨c, len, a1, a2, a3, ?_⟩
    by_cases e : c = b
    · subst e; rw [Heap.get_put_self] at a4; cases a4
    · rw [Heap.get_put_ne _ _ _ e] at a4; exact a4
theorem Pa.hle {H0 H : Heap} {b : Nat} {p : PS} {es : List Ev} (P : Pa H0 H b p es) {z : Blk} (hb : H.get b = some z) : HLe (H0.put b z) H := by
  intro c x hc
  by_cases e : c = b
  · subst e; rw [Heap.get_put_self] at hc; cases hc; exact hb
  · rw [Heap.get_put_ne _ _ _ e] at hc; exact P.keep c x e hc

theorem Pa.mono {H0 H H' : Heap} {b : Nat} {p : PS} {es : List Ev} (P : Pa H0 H b p es) (hO : H'.Ok) (hle : HLe H H') : Pa H0 H' b p es := by
  obtain ⟨kv, ev, cs, hb, hkv, hev, hrow, hnn⟩ := P.body
  exact ⟨hO, P.old, fun c y hc h => hle _ _ (P.keep c y hc h), kv, ev, cs, hle _ _ hb, hkv.mono hle, hev.mono hle, hrow.mono hle, hnn⟩
theorem own_any {H0 H : Heap} {k sz : Nat} {v : AV} {cs : List AV} (h : Own H0 H k sz v cs) : Own noHeap H k sz v cs := by
  rcases h with h | ⟨c, len, a1, a2, a3, a4⟩
  · exact .inl h
  · exact .inr ⟨c, len, a1, a2, a3, rfl⟩

/-- what a push into the events leaves: all but their own block -/
def Keeps (H H' : Heap) (ev : AV) : Prop := ∀ c y, H.get c = some y → (∀ o l z, ev ≠ .sl c o l z) → H'.get c = some y
theorem own_keep {H0 H H' : Heap} {kv ev : AV} {ks : List (List UInt8)} {cs : List AV} (hk : Keeps H H' ev) (h1 : Own noHeap H 0 1 kv (strs ks)) (h2 : Own H0 H 0 18 ev cs) (hd : kv = .nils ∨ strs ks ≠ cs) : Own noHeap H' 0 1 kv (strs ks) := by
  rcases h1 with h | ⟨c, len, rfl, a2, a3, a4⟩
  · exact .inl h
  · refine .inr ⟨c, len, rfl, a2, hk _ _ a3 (fun o l z e => ?_), a4⟩
    rcases h2 with ⟨h, _⟩ | ⟨c', len', b1, b2, b3, b4⟩
    · rw [h] at e; cases e
    · rw [b1] at e
      cases e
      rw [a3] at b3
      cases b3
      rcases hd with h | h
      · cases h
      · exact h rfl
theorem EvRows.head {H : Heap} {es : List Ev} {cs : List AV} (h : EvRows H es cs) (hn : es ≠ []) (ks : List (List UInt8)) : strs ks ≠ cs := by
  cases es with
  | nil => exact absurd rfl hn
  | cons e es =>
    obtain ⟨kv, rest, h1, _⟩ := h
    rw [h1]
    exact no_keys_int _ _ _ _
theorem EvRows.keepAll {H0 H H' : Heap} {ev : AV} {CS : List AV} (hk : Keeps H H' ev) (h2 : Own H0 H 0 18 ev CS) (hd : ∀ ks, strs ks ≠ CS) : ∀ {es : List Ev} {cs : List AV}, EvRows H es cs → EvRows H' es cs
  | [], cs, h => h
  | e :: es, cs, ⟨kv, rest, h1, h3, h4⟩ => ⟨kv, rest, h1, own_keep hk h3 h2 (.inr (hd _)), EvRows.keepAll hk h2 hd h4⟩
theorem EvRows.keep {H0 H H' : Heap} {ev : AV} {cs : List AV} {es : List Ev} (hk : Keeps H H' ev) (h2 : Own H0 H 0 18 ev cs) (h : EvRows H es cs) : EvRows H' es cs := by
  by_cases hn : es = []
  · subst hn; exact h
  · exact EvRows.keepAll hk h2 (fun ks => h.head hn ks) h
theorem asked_keep {H0 H H' : Heap} {kv ev : AV} {ks : List (List UInt8)} {cs : List AV} {es : List Ev} (hk : Keeps H H' ev) (h1 : Own noHeap H 0 1 kv (strs ks)) (h2 : Own H0 H 0 18 ev cs) (h : EvRows H es cs) (hd : kv = .nils ∨ ks ≠ []) : Own noHeap H' 0 1 kv (strs ks) := by
  refine own_keep hk h1 h2 (hd.imp id fun hn => ?_)
  by_cases he : es = []
  · subst he
    rw [show cs = [] from h]
    intro e
    cases ks with
    | nil => exact hn rfl
    | cons k r => cases e
  · exact h.head he ks

theorem say_ev (H0 H : Heap) (b : Nat) (p : PS) (es : List Ev) (kind : Nat) (text : List UInt8) (P : Pa H0 H b p es) (hes : es.length < 10000000000) (Q : AV → Heap → Prop) (hQ : ∀ H' v, Pa H0 H' b p (es ++ [evAns kind text]) → (∀ c l w, c ≠ b → H.get c = some (.cells l w) → l.length % 18 ≠ 0 → H'.get c = some (.cells l w)) → Q v H') :
    Eo lib n_parse_Parser_say [.ptr b 0, .int .i64 (.ofNat kind), .str text] H Q := by
  obtain ⟨kv, ev, cs, hb, hkv, hev, hrow, hnn⟩ := P.body
  obtain ⟨y, hy⟩ := P.old
  have hlen := hrow.len
  have hb' := hb
  unfold psC at hb
  refine Eo.code at_parse_Parser_say rfl ?_
  obtain ⟨v', H2, e1, hO2, hle2, hn2, hown2, hkeep⟩ := Own.push (w := 1) (bytes := 192) (row := evC .nils (evAns kind text)) P.ok (P.hle hb') (own_put hy hev) rfl rfl (by omega) (by omega) (by omega)
  have hb2 : H2.get b = some (.cells (psC p kv ev) 1) := hkeep _ _ hb' (by
    intro o l z e; subst e
    rcases hev with ⟨h, _⟩ | ⟨c, len, h1, h2, h3, h4⟩
    · cases h
    · cases h1; rw [hy] at h4; cases h4)
  show Xk lib _ (PC.region _) _ _ _
  simp only [evC, evAns, noReq, reqC, List.cons_append, List.nil_append] at e1
  have hz : AV.int .i64 (0 : Int) = AV.int .i64 (.ofNat 0) := rfl
  rw [hz] at e1
  have hb2' := hb2
  unfold psC at hb2
  have hev2 := put_own hy hown2
  obtain ⟨s1, s2⟩ := hev2.sc
  repeat (first | ((first | apply Xk.sAny | apply Xk.tAny); (case hok => rfl); (case h => intro C hC; simp (disch := omega) only [w1, ↓reduceIte, Nat.reduceEqDiff, Nat.reduceLeDiff, Nat.reduceAdd, Nat.reduceSub, hb, e1, hb2, s1, s2]; with_reducible exact hC); refine gm ?_) | refine gm ?_)
  exact hQ _ _ (P.put (p' := p) hO2 (fun c x hc h => hle2 _ _ (by rw [Heap.get_put_ne _ _ _ hc]; exact h)) hb2' (psC_keys _ _ _) (asked_keep hkeep hkv hev hrow hnn) hev2 (EvRows.snoc (.inl ⟨rfl, rfl⟩) (hrow.keep hkeep hev)) hnn) (fun c l w hc h hl => by
    rw [Heap.get_put_ne _ _ _ hc]
    refine hkeep c _ h (fun o' l' z' e => ?_)
    subst e
    rcases hev with ⟨h', _⟩ | ⟨c', len, h1, h2, h3, h4⟩
    · cases h'
    · cases h1
      rw [h] at h3
      cases h3
      omega)

/-- a store into the parser's own block -/
theorem Pa.set {H0 H : Heap} {b : Nat} {p : PS} {es : List Ev} (P : Pa H0 H b p es) {p' : PS} {kv ev : AV} {cs : List AV} (h1 : Own noHeap H 0 1 kv (strs p'.asked.keys)) (h2 : Own H0 H 0 18 ev cs) (h3 : EvRows H es cs) (h4 : kv = .nils ∨ p'.asked.keys ≠ [])
    {q : PS} {kq eq : AV} (hb : H.get b = some (.cells (psC q kq eq) 1)) : Pa H0 (H.put b (.cells (psC p' kv ev) 1)) b p' es := P.put P.ok P.keep hb (psC_keys _ _ _) h1 h2 h3 h4

theorem end_ev (H0 H : Heap) (b : Nat) (p : PS) (es : List Ev) (P : Pa H0 H b p es) (hes : es.length < 10000000000) (Q : AV → Heap → Prop) (hQ : ∀ H' v, Pa H0 H' b { p with shut := true, left := [] } (es ++ [evAns 15 []]) → Q v H') :
    Eo lib n_parse_Parser_end [.ptr b 0] H Q := by
  refine Eo.code at_parse_Parser_end rfl ?_
  repeat (first | ((first | apply Xk.sAny | apply Xk.tAny); (case hok => rfl); (case h => intro C hC; simp (disch := omega) only [w1, ↓reduceIte, Nat.reduceEqDiff, Nat.reduceLeDiff, Nat.reduceAdd, Nat.reduceSub]; with_reducible exact hC); refine gc ?_) | refine gm ?_)
  refine say_ev H0 H b p es 15 [] P hes _ fun H' v P' _ => ?_
  obtain ⟨kv, ev, cs, hb, hkv, hev, hrow, hnn⟩ := P'.body
  have hb' := hb
  unfold psC at hb
  repeat (first | ((first | apply Xk.sAny | apply Xk.tAny); (case hok => rfl); (case h => intro C hC; simp (disch := omega) only [w1, ↓reduceIte, Nat.reduceEqDiff, Nat.reduceLeDiff, Nat.reduceAdd, Nat.reduceSub, hb]; with_reducible exact hC); refine gm ?_) | refine gm ?_)
  exact hQ _ _ (P'.set (p' := { p with shut := true, left := [] }) hkv hev hrow hnn hb')

theorem mm_min (k : IntKind) (a b : Nat) : mm false (.int k (.ofNat a)) (.int k (.ofNat b)) = some (.int k (.ofNat (min a b))) := by
  simp only [mm, kbeq_eq, decide_true, cond_true, cond_false, ible_eq]
  have e : (Int.ofNat a ≤ Int.ofNat b) ↔ a ≤ b := Int.ofNat_le
  by_cases h : a ≤ b
  · rw [decide_eq_true (e.2 h), cond_true, Nat.min_eq_left h]
  · rw [decide_eq_false (fun x => h (e.1 x)), cond_false, Nat.min_eq_right (by omega)]

theorem past_ev (H0 H : Heap) (b : Nat) (p : PS) (es : List Ev) (P : Pa H0 H b p es) (hl : p.left.length < 1000000000) (hc : p.count < 10000000000) (Q : AV → Heap → Prop) (hQ : ∀ H', Pa H0 H' b (pastStep p).2.1 es → Q (.bool (pastStep p).1) H') :
    Eo lib n_parse_Parser_past [.ptr b 0] H Q := by
  obtain ⟨kv, ev, cs, hb, hkv, hev, hrow, hnn⟩ := P.body
  have hb' := hb
  unfold psC at hb
  refine Eo.code at_parse_Parser_past rfl ?_
  by_cases h0 : p.left = []
  · have e : pastStep p = (false, p, []) := if_pos h0
    rw [e] at hQ
    repeat (first | ((first | apply Xk.sAny | apply Xk.tAny); (case hok => rfl); (case h => intro C hC; simp (disch := omega) only [w1, ↓reduceIte, Nat.reduceEqDiff, Nat.reduceLeDiff, Nat.reduceAdd, Nat.reduceSub, hb, h0]; with_reducible exact hC); refine gm ?_) | refine gm ?_)
    exact hQ _ P
  have e : pastStep p = (true, { p with left := p.left.drop (min p.count p.left.length), count := p.count - min p.count p.left.length, at_ := if p.count - min p.count p.left.length = 0 then 0 else p.at_ }, []) := if_neg h0
  have m1 : min p.count p.left.length ≤ p.left.length := Nat.min_le_right _ _
  have m2 : min p.count p.left.length ≤ p.count := Nat.min_le_left _ _
  have m3 : (p.left.drop (min p.count p.left.length)).take (p.left.length - min p.count p.left.length) = p.left.drop (min p.count p.left.length) := List.take_of_length_le (by rw [List.length_drop]; omega)
  rw [e] at hQ
  generalize hn : min p.count p.left.length = n at *
  by_cases hz : p.count - n = 0
  · rw [if_pos hz] at hQ
    repeat (first | ((first | apply Xk.sAny | apply Xk.tAny); (case hok => rfl); (case h => intro C hC; simp (disch := omega) only [w1, ↓reduceIte, Nat.reduceEqDiff, Nat.reduceLeDiff, Nat.reduceAdd, Nat.reduceSub, hb, h0, rMm, mms, mm_min, hn, m1, m2, m3, hz]; with_reducible exact hC); refine gm ?_) | refine gm ?_)
    have := hQ _ (P.set (p' := { p with left := p.left.drop n, count := p.count - n, at_ := 0 }) hkv hev hrow hnn hb')
    unfold psC at this
    rw [hz] at this
    exact this
  · rw [if_neg hz] at hQ
    repeat (first | ((first | apply Xk.sAny | apply Xk.tAny); (case hok => rfl); (case h => intro C hC; simp (disch := omega) only [w1, ↓reduceIte, Nat.reduceEqDiff, Nat.reduceLeDiff, Nat.reduceAdd, Nat.reduceSub, hb, h0, rMm, mms, mm_min, hn, m1, m2, m3, hz]; with_reducible exact hC); refine gm ?_) | refine gm ?_)
    exact hQ _ (P.set (p' := { p with left := p.left.drop n, count := p.count - n }) hkv hev hrow hnn hb')

theorem broken_ev (H0 H : Heap) (b : Nat) (p : PS) (es : List Ev) (P : Pa H0 H b p es) (hl : p.left.length < 1000000000) (Q : AV → Heap → Prop) (hQ : ∀ H', Pa H0 H' b (brokenStep p).2.1 es → Q (.bool (brokenStep p).1) H') :
    Eo lib n_parse_Parser_broken [.ptr b 0] H Q := by
  obtain ⟨kv, ev, cs, hb, hkv, hev, hrow, hnn⟩ := P.body
  have hb' := hb
  unfold psC at hb
  refine Eo.code at_parse_Parser_broken rfl ?_
  repeat (first | ((first | apply Xk.sAny | apply Xk.tAny); (case hok => rfl); (case h => intro C hC; simp (disch := omega) only [w1, ↓reduceIte, Nat.reduceEqDiff, Nat.reduceLeDiff, Nat.reduceAdd, Nat.reduceSub, hb]; with_reducible exact hC); refine gc ?_) | refine gm ?_)
  refine IndexByte_ev p.left _ _ ?_
  have hup := upTo_le 10 p.left
  by_cases h : upTo 10 p.left = p.left.length
  · rw [if_pos h]
    have e : brokenStep p = (false, { p with left := [] }, []) := if_pos h
    rw [e] at hQ
    have hn : Int.negSucc 0 < Int.ofNat 0 := by decide
    repeat (first | ((first | apply Xk.sAny | apply Xk.tAny); (case hok => rfl); (case h => intro C hC; simp (disch := omega) only [w1, ↓reduceIte, Nat.reduceEqDiff, Nat.reduceLeDiff, Nat.reduceAdd, Nat.reduceSub, hb, hn]; with_reducible exact hC); refine gm ?_) | refine gm ?_)
    exact hQ _ (P.set (p' := { p with left := [] }) hkv hev hrow hnn hb')
  · rw [if_neg h]
    have e : brokenStep p = (true, { p with at_ := 0, left := p.left.drop (upTo 10 p.left + 1) }, []) := if_neg h
    rw [e] at hQ
    have h1 : upTo 10 p.left + 1 ≤ p.left.length := by omega
    have h3 : (p.left.drop (upTo 10 p.left + 1)).take (p.left.length - (upTo 10 p.left + 1)) = p.left.drop (upTo 10 p.left + 1) := List.take_of_length_le (by rw [List.length_drop]; omega)
    repeat (first | ((first | apply Xk.sAny | apply Xk.tAny); (case hok => rfl); (case h => intro C hC; simp (disch := omega) only [w1, ↓reduceIte, Nat.reduceEqDiff, Nat.reduceLeDiff, Nat.reduceAdd, Nat.reduceSub, hb, h1, h3, Nat.not_lt_zero]; with_reducible exact hC); refine gm ?_) | refine gm ?_)
    exact hQ _ (P.set (p' := { p with at_ := 0, left := p.left.drop (upTo 10 p.left + 1) }) hkv hev hrow hnn hb')

/-- kq and ev lie apart -/
def Apart (kq ev : AV) : Prop := ∀ c o l z o' l' z', kq = .sl c o l z → ev ≠ .sl c o' l' z'
theorem apart_keys {H0 H : Heap} {kv ev : AV} {ks : List (List UInt8)} {cs : List AV} {es : List Ev} (h1 : Own noHeap H 0 1 kv (strs ks)) (h2 : Own H0 H 0 18 ev cs) (hr : EvRows H es cs) (hd : kv = .nils ∨ ks ≠ []) : Apart kv ev := by
  intro c o l z o' l' z' e1 e2
  subst e1; subst e2
  have hk : ks ≠ [] := hd.resolve_left (by intro h; cases h)
  rcases h1 with ⟨h, _⟩ | ⟨c1, len, a1, a2, a3, a4⟩
  · cases h
  rcases h2 with ⟨h, _⟩ | ⟨c2, len2, b1, b2, b3, b4⟩
  · cases h
  cases a1; cases b1
  rw [a3] at b3
  have e : strs ks = cs := by cases b3; rfl
  by_cases he : es = []
  · subst he
    rw [show cs = [] from hr] at e
    cases ks with
    | nil => exact hk rfl
    | cons k r => cases e
  · exact hr.head he ks e
theorem keep_apart {H H' : Heap} {kq ev : AV} {ks : List (List UInt8)} (hk : Keeps H H' ev) (h : Own noHeap H 0 1 kq (strs ks)) (hd : Apart kq ev) : Own noHeap H' 0 1 kq (strs ks) := by
  rcases h with h | ⟨c, len, rfl, a2, a3, a4⟩
  · exact .inl h
  · exact .inr ⟨c, len, rfl, a2, hk _ _ a3 (fun o l z e => hd _ _ _ _ _ _ _ rfl e), a4⟩

theorem push_row {H0 H : Heap} {b : Nat} {p : PS} {es : List Ev} {kv ev : AV} {cs : List AV} (P : Pa H0 H b p es) (hb : H.get b = some (.cells (psC p kv ev) 1)) (hkv : Own noHeap H 0 1 kv (strs p.asked.keys)) (hev : Own H0 H 0 18 ev cs) (hrow : EvRows H es cs) (hnn : kv = .nils ∨ p.asked.keys ≠ [])
    {kq : AV} {e : Ev} (hq : Own noHeap H 0 1 kq (strs e.r.keys)) (hd : Apart kq ev) (hes : es.length < 10000000000) :
    ∃ v' H2, evalApp 0 18 192 (H.new (.cells (evC kq e) 1)) ev (.sl H.next 0 1 18) = some (v', H2) ∧ v'.cells = [v'] ∧ v'.isSc = true ∧ H2.get b = some (.cells (psC p kv ev) 1) ∧
      ∀ p' kv', (kv' = .nils ∧ p'.asked.keys = [] ∨ kv' = kv ∧ p'.asked.keys = p.asked.keys) → Pa H0 (H2.put b (.cells (psC p' kv' v') 1)) b p' (es ++ [e]) := by
  obtain ⟨y, hy⟩ := P.old
  have hlen := hrow.len
  obtain ⟨v', H2, e1, hO2, hle2, hn2, hown2, hkeep⟩ := Own.push (w := 1) (bytes := 192) (row := evC kq e) P.ok (P.hle hb) (own_put hy hev) rfl (by simp only [evC, reqC, List.cons_append, List.nil_append, List.all_cons, List.all_nil, wh, hq.sc.2, Bool.and_self]) (by omega) (by omega) (by omega)
  have hb2 : H2.get b = some (.cells (psC p kv ev) 1) := hkeep _ _ hb (by
    intro o l z e; subst e
    rcases hev with ⟨h, _⟩ | ⟨c, len, h1, h2, h3, h4⟩
    · cases h
    · cases h1; rw [hy] at h4; cases h4)
  have hev2 := put_own hy hown2
  refine ⟨v', H2, e1, hev2.sc.1, hev2.sc.2, hb2, fun p' kv' h => ?_⟩
  have hk2 := keep_apart hkeep hq hd
  have hr2 := hrow.keep hkeep hev
  have hkk : ∀ c x, c ≠ b → H0.get c = some x → H2.get c = some x := fun c x hc h => hle2 _ _ (by rw [Heap.get_put_ne _ _ _ hc]; exact h)
  rcases h with ⟨rfl, h⟩ | ⟨rfl, h⟩
  · exact P.put hO2 hkk hb2 (psC_keys _ _ _) (.inl ⟨rfl, by rw [h]; rfl⟩) hev2 (EvRows.snoc hk2 hr2) (.inl rfl)
  · refine P.put hO2 hkk hb2 (psC_keys _ _ _) (by rw [h]; exact asked_keep hkeep hkv hev hrow hnn) hev2 (EvRows.snoc hk2 hr2) (by rw [h]; exact hnn)

theorem data_ev (H0 H : Heap) (b : Nat) (p : PS) (es : List Ev) (P : Pa H0 H b p es) (hes : es.length < 10000000000) (hl : p.left.length < 1000000000) (hn : p.asked.bytes < 1000000000) (Q : AV → Heap → Prop) (hQ : ∀ H', Pa H0 H' b (dataStep p).2.1 (es ++ (dataStep p).2.2) → Q (.bool (dataStep p).1) H') :
    Eo lib n_parse_Parser_data [.ptr b 0] H Q := by
  obtain ⟨kv, ev, cs, hb, hkv, hev, hrow, hnn⟩ := P.body
  have hb' := hb
  unfold psC at hb
  refine Eo.code at_parse_Parser_data rfl ?_
  by_cases h0 : p.left.length ≤ p.asked.bytes
  · have e : dataStep p = (false, p, []) := if_pos h0
    rw [e, List.append_nil] at hQ
    repeat (first | ((first | apply Xk.sAny | apply Xk.tAny); (case hok => rfl); (case h => intro C hC; simp (disch := omega) only [w1, ↓reduceIte, Nat.reduceEqDiff, Nat.reduceLeDiff, Nat.reduceAdd, Nat.reduceSub, hb, h0]; with_reducible exact hC); refine gm ?_) | refine gm ?_)
    exact hQ _ P
  have h1 : p.asked.bytes ≤ p.left.length := by omega
  have h3 : (p.left.drop p.asked.bytes).take (p.left.length - p.asked.bytes) = p.left.drop p.asked.bytes := List.take_of_length_le (by rw [List.length_drop]; omega)
  by_cases h2 : p.left.drop p.asked.bytes = [13]
  · have e : dataStep p = (false, p, []) := by unfold dataStep; simp only [if_neg h0, if_pos h2]
    rw [e, List.append_nil] at hQ
    have h3' := h3
    rw [h2] at h3'
    repeat (first | ((first | apply Xk.sAny | apply Xk.tAny); (case hok => rfl); (case h => intro C hC; simp (disch := omega) only [w1, ↓reduceIte, Nat.reduceEqDiff, Nat.reduceLeDiff, Nat.reduceAdd, Nat.reduceSub, hb, h0, h1, h3', h2]; with_reducible exact hC); refine gm ?_) | refine gm ?_)
    exact hQ _ P
  repeat (first | ((first | apply Xk.sAny | apply Xk.tAny); (case hok => rfl); (case h => intro C hC; simp (disch := omega) only [w1, ↓reduceIte, Nat.reduceEqDiff, Nat.reduceLeDiff, Nat.reduceAdd, Nat.reduceSub, hb, h0, h1, h3, h2]; with_reducible exact hC); refine gc ?_) | refine gm ?_)
  refine HasPrefix2_ev _ _ _ _ ?_
  by_cases h4 : (p.left.drop p.asked.bytes).take 2 = [13, 10]
  · have e : dataStep p = (true, { p with at_ := 0, left := (p.left.drop p.asked.bytes).drop 2, asked := noReq }, [evReq { p.asked with data := p.left.take p.asked.bytes }]) := by unfold dataStep; simp only [if_neg h0, if_neg h2, if_pos h4]
    rw [e] at hQ
    have hd : decide (List.take ([13, 10] : List UInt8).length (p.left.drop p.asked.bytes) = [13, 10]) = true := decide_eq_true h4
    rw [hd]
    obtain ⟨y, hy⟩ := P.old
    have hlen := hrow.len
    have hlt := P.ok.lt hb'
    have hne : b ≠ H.next := by omega
    have hnew := HLe.new (P.ok _ (Nat.le_refl _)) (.cells (reqC p.asked.verb kv p.asked.flags p.asked.exp p.asked.bytes p.asked.cas p.asked.delta p.asked.noReply (p.left.take p.asked.bytes)) 1)
    have hbn := hnew _ _ hb'
    obtain ⟨v', H2, e1, hO2, hle2, hn2, hown2, hkeep⟩ := Own.push (w := 1) (bytes := 192) (row := evC kv (evReq { p.asked with data := p.left.take p.asked.bytes })) (P.ok.new (.cells (reqC p.asked.verb kv p.asked.flags p.asked.exp p.asked.bytes p.asked.cas p.asked.delta p.asked.noReply (p.left.take p.asked.bytes)) 1)) ((P.hle hb').trans hnew) ((own_put hy hev).mono hnew) rfl (by simp only [evC, evReq, reqC, List.cons_append, List.nil_append, List.all_cons, List.all_nil, wh, hkv.sc.2, Bool.and_self]) (by omega) (by omega) (by omega)
    have hb2 : H2.get b = some (.cells (psC p kv ev) 1) := hkeep _ _ hbn (by
      intro o l z e; subst e
      rcases hev with ⟨h, _⟩ | ⟨c, len, h1, h2, h3, h4⟩
      · cases h
      · cases h1; rw [hy] at h4; cases h4)
    have hk2 := asked_keep (ks := p.asked.keys) hkeep (hkv.mono hnew) (hev.mono hnew) (hrow.mono hnew) hnn
    have hr2 := (hrow.mono hnew).keep hkeep (hev.mono hnew)
    simp only [evC, evReq, reqC, List.cons_append, List.nil_append, List.length_cons, List.length_nil, Heap.next_new] at e1
    have hz : AV.int .i64 (0 : Int) = AV.int .i64 (.ofNat 0) := rfl
    have hb2' := hb2
    unfold psC at hb2
    have hev2 := put_own hy hown2
    obtain ⟨s1, s2⟩ := hev2.sc
    obtain ⟨t1, t2⟩ := hkv.sc
    have h5 : 2 ≤ (p.left.drop p.asked.bytes).length := by
      have := congrArg List.length h4
      rw [List.length_take] at this
      simp only [List.length_cons, List.length_nil] at this
      omega
    have h6 : ((p.left.drop p.asked.bytes).drop 2).take ((p.left.drop p.asked.bytes).length - 2) = (p.left.drop p.asked.bytes).drop 2 := List.take_of_length_le (by rw [List.length_drop]; omega)
    repeat (first | ((first | apply Xk.sAny | apply Xk.tAny); (case hok => rfl); (case h => intro C hC; simp (disch := omega) only [w1, ↓reduceIte, Nat.reduceEqDiff, Nat.reduceLeDiff, Nat.reduceAdd, Nat.reduceSub, hb, e1, hb2, s1, s2, t1, t2, hne, h1, h5, h6]; with_reducible exact hC); refine gm ?_) | refine gm ?_)
    exact hQ _ (P.put (p' := { p with at_ := 0, left := (p.left.drop p.asked.bytes).drop 2, asked := noReq }) (kv := .nils) hO2 (fun c x hc h => hle2 _ _ (by rw [Heap.get_put_ne _ _ _ hc]; exact h)) hb2' (psC_keys _ _ _) (.inl ⟨rfl, rfl⟩) hev2 (EvRows.snoc (e := evReq { p.asked with data := p.left.take p.asked.bytes }) hk2 hr2) (.inl rfl))
  · have e : dataStep p = (true, { p with at_ := 3, left := p.left.drop p.asked.bytes, asked := noReq }, [evAns 13 badData]) := by unfold dataStep; simp only [if_neg h0, if_neg h2, if_neg h4]
    rw [e] at hQ
    have hd : decide (List.take ([13, 10] : List UInt8).length (p.left.drop p.asked.bytes) = [13, 10]) = false := decide_eq_false h4
    rw [hd]
    repeat (first | ((first | apply Xk.sAny | apply Xk.tAny); (case hok => rfl); (case h => intro C hC; simp (disch := omega) only [w1, ↓reduceIte, Nat.reduceEqDiff, Nat.reduceLeDiff, Nat.reduceAdd, Nat.reduceSub]; with_reducible exact hC); refine gc ?_) | refine gm ?_)
    refine say_ev H0 H b p es 13 badData P hes _ fun H' v P' _ => ?_
    obtain ⟨kv2, ev2, cs2, hb2, hkv2, hev2, hrow2, hnn2⟩ := P'.body
    have hb2' := hb2
    unfold psC at hb2
    repeat (first | ((first | apply Xk.sAny | apply Xk.tAny); (case hok => rfl); (case h => intro C hC; simp (disch := omega) only [w1, ↓reduceIte, Nat.reduceEqDiff, Nat.reduceLeDiff, Nat.reduceAdd, Nat.reduceSub, hb2]; with_reducible exact hC); refine gm ?_) | refine gm ?_)
    exact hQ _ (P'.set (p' := { p with at_ := 3, left := p.left.drop p.asked.bytes, asked := noReq }) (kv := .nils) (.inl ⟨rfl, rfl⟩) hev2 hrow2 (.inl rfl) hb2')
theorem storing_keys {s : List UInt8} (h : (lineOf s).2 = 0) (hs : storing (lineOf s).1.verb = true) : (lineOf s).1.keys.length = 1 := by
  obtain ⟨w, l, v, _, hv, hc, ha⟩ := line_ok h
  obtain ⟨e1, _, _, _⟩ := argsOf_verb ha
  have h1 : 3 ≤ v.1 ∧ v.1 ≤ 8 := by
    have := of_decide_eq_true hs
    rw [e1] at this
    exact this
  unfold argsOf at ha
  simp only [] at ha
  rw [if_neg (by omega), if_neg (by omega), if_neg (by omega), if_neg (by omega)] at ha
  split at ha
  · obtain ⟨_, _, _, d⟩ := argsB_verb ha
    rw [d]
    rfl
  · cases ha
theorem one_ne {α : Type} {l : List α} (h : l.length = 1) : l ≠ [] := by
  intro e; rw [e] at h; cases h

theorem sameCells_refl : ∀ (l : List AV), l.all (fun v => sameAV v v) = true → sameCells l l = true
  | [], _ => rfl
  | a :: r, h => by
    rw [List.all_cons, Bool.and_eq_true] at h
    show (sameAV a a && sameCells r r) = true
    rw [h.1, sameCells_refl r h.2]; rfl
theorem own_same {H0 H : Heap} {k sz : Nat} {v : AV} {cs : List AV} (h : Own H0 H k sz v cs) : sameAV v v = true := by
  rcases h with ⟨rfl, _⟩ | ⟨c, len, rfl, _⟩
  · rfl
  · simp [sameAV, nbeq]
theorem reqC_same {kq : AV} (h : sameAV kq kq = true) (verb flags : Nat) (exp : Int) (bytes cas delta : Nat) (q : Bool) (data : List UInt8) : (reqC verb kq flags exp bytes cas delta q data).all (fun v => sameAV v v) = true := by
  have hi : ∀ k n, sameAV (.int k n) (.int k n) = true := fun k n => by simp [sameAV, kbeq_eq, ibeq_eq]
  have hs : ∀ s, sameAV (.str s) (.str s) = true := fun s => by simp [sameAV, beqB_eq]
  have hb : ∀ b, sameAV (.bool b) (.bool b) = true := fun b => by simp [sameAV]
  simp only [reqC, List.all_cons, List.all_nil, hi, hs, hb, h, Bool.and_self]
theorem agV_agg {k : Kn} {H : Heap} {rr : List It} {cs : List AV} (h : cs.all (fun v => sameAV v v) = true) : agV k H (run rr) (.agg cs) (some (.agg cs)) = run rr k H := agV_same _ _ _ _ (sameCells_refl cs h)
theorem doLine_eq (p : PS) (s : List UInt8) : doLine p s = (if (lineOf s).2 = 4 then (p, [evAns 12 []])
    else if (lineOf s).2 ≠ 0 then (p, [evAns 13 badLine])
    else if (lineOf s).1.verb = 17 then ({ p with shut := true, left := [] }, [evAns 15 []])
    else if storing (lineOf s).1.verb = true ∧ 1048576 < (lineOf s).1.bytes then ({ p with at_ := 2, count := (lineOf s).1.bytes + 2 }, if (lineOf s).1.noReply = true then [] else [evAns 14 tooLarge])
    else if storing (lineOf s).1.verb = true then ({ p with at_ := 1, asked := (lineOf s).1 }, [])
    else (p, [evReq (lineOf s).1])) := rfl
theorem argsB_bytes {r x : Req} {l : List (List UInt8)} (h : argsB r l = some x) (hb : r.bytes ≤ 2147483647) : x.bytes ≤ 2147483647 := by
  unfold argsB at h
  repeat' split at h
  all_goals first
    | (cases h; first | exact num_getD _ _ | exact hb)
    | cases h
theorem argsOf_bytes {r x : Req} {l : List (List UInt8)} (h : argsOf r l = some x) (hb : r.bytes ≤ 2147483647) : x.bytes ≤ 2147483647 := by
  unfold argsOf at h
  repeat' split at h
  all_goals first
    | (cases h; exact hb)
    | cases h
    | exact argsB_bytes h hb
theorem lineOf_bytes (s : List UInt8) : (lineOf s).1.bytes ≤ 2147483647 := by
  by_cases h : (lineOf s).2 = 0
  · obtain ⟨w, l, v, hs, hv, hc, ha⟩ := line_ok h
    exact argsOf_bytes ha (Nat.zero_le _)
  · have : (lineOf s).1 = noReq := by
      unfold lineOf at h ⊢
      cases hs : splitW s with
      | nil => rfl
      | cons w l =>
        rw [hs] at h
        cases hv : verbOf w with
        | none => rw [wordsOf_none hv]
        | some v =>
          by_cases hc : (quietOf v l).1.length < v.2.1 ∨ v.2.2.1 < (quietOf v l).1.length
          · rw [wordsOf_short hv hc]
          · rw [wordsOf_args hv hc] at h ⊢
            cases ha : argsOf ⟨v.1, [], 0, 0, 0, 0, 0, (quietOf v l).2, []⟩ (quietOf v l).1 with
            | none => rfl
            | some r => rw [ha] at h; exact absurd rfl h
    rw [this]
    decide
theorem upTo_trim (s : List UInt8) : (trimCR s).length ≤ s.length := by
  unfold trimCR
  split
  · rw [List.length_take]; omega
  · exact Nat.le_refl _

theorem line_ev (H0 H : Heap) (b : Nat) (p : PS) (es : List Ev) (P : Pa H0 H b p es) (hes : es.length < 10000000000) (hl : p.left.length < 1000000000) (hat : p.at_ = 0) (hask : p.asked = noReq) (Q : AV → Heap → Prop) (hQ : ∀ H', Pa H0 H' b (lineStep p).2.1 (es ++ (lineStep p).2.2) → Q (.bool (lineStep p).1) H') :
    Eo lib n_parse_Parser_line [.ptr b 0] H Q := by
  obtain ⟨kv, ev, cs, hb, hkv, hev, hrow, hnn⟩ := P.body
  have hb' := hb
  unfold psC at hb
  have hup := upTo_le 10 p.left
  refine Eo.code at_parse_Parser_line rfl ?_
  repeat (first | ((first | apply Xk.sAny | apply Xk.tAny); (case hok => rfl); (case h => intro C hC; simp (disch := omega) only [w1, ↓reduceIte, Nat.reduceEqDiff, Nat.reduceLeDiff, Nat.reduceAdd, Nat.reduceSub, hb]; with_reducible exact hC); refine gc ?_) | refine gm ?_)
  refine IndexByte_ev p.left _ _ ?_
  by_cases h0 : 2048 < upTo 10 p.left
  · have e : lineStep p = (true, { p with shut := true, left := [] }, [evAns 15 []]) := if_pos h0
    rw [e] at hQ
    by_cases h1 : upTo 10 p.left = p.left.length
    · rw [if_pos h1]
      have hn : Int.negSucc 0 < Int.ofNat 0 := by decide
      have hn2 : ¬ (Int.ofNat 2048 < Int.negSucc 0) := by decide
      have h2 : 2048 < p.left.length := by omega
      repeat (first | ((first | apply Xk.sAny | apply Xk.tAny); (case hok => rfl); (case h => intro C hC; simp (disch := omega) only [w1, ↓reduceIte, Nat.reduceEqDiff, Nat.reduceLeDiff, Nat.reduceAdd, Nat.reduceSub, hb, hn, hn2, h2]; with_reducible exact hC); refine gc ?_) | refine gm ?_)
      refine end_ev H0 H b p es P hes _ fun H' v P' => ?_
      repeat (first | ((first | apply Xk.sAny | apply Xk.tAny); (case hok => rfl); (case h => intro C hC; simp (disch := omega) only [w0, ↓reduceIte, Nat.reduceEqDiff, Nat.reduceLeDiff, Nat.reduceAdd, Nat.reduceSub]; with_reducible exact hC); refine gm ?_) | refine gm ?_)
      exact hQ _ P'
    · rw [if_neg h1]
      repeat (first | ((first | apply Xk.sAny | apply Xk.tAny); (case hok => rfl); (case h => intro C hC; simp (disch := omega) only [w1, ↓reduceIte, Nat.reduceEqDiff, Nat.reduceLeDiff, Nat.reduceAdd, Nat.reduceSub, hb, h0]; with_reducible exact hC); refine gc ?_) | refine gm ?_)
      refine end_ev H0 H b p es P hes _ fun H' v P' => ?_
      repeat (first | ((first | apply Xk.sAny | apply Xk.tAny); (case hok => rfl); (case h => intro C hC; simp (disch := omega) only [w0, ↓reduceIte, Nat.reduceEqDiff, Nat.reduceLeDiff, Nat.reduceAdd, Nat.reduceSub]; with_reducible exact hC); refine gm ?_) | refine gm ?_)
      exact hQ _ P'
  by_cases h1 : upTo 10 p.left = p.left.length
  · rw [if_pos h1]
    have e : lineStep p = (false, p, []) := by unfold lineStep; simp only [if_neg h0, if_pos h1]
    rw [e, List.append_nil] at hQ
    have hn : Int.negSucc 0 < Int.ofNat 0 := by decide
    have hn2 : ¬ (Int.ofNat 2048 < Int.negSucc 0) := by decide
    have h2 : ¬ 2048 < p.left.length := by omega
    repeat (first | ((first | apply Xk.sAny | apply Xk.tAny); (case hok => rfl); (case h => intro C hC; simp (disch := omega) only [w1, ↓reduceIte, Nat.reduceEqDiff, Nat.reduceLeDiff, Nat.reduceAdd, Nat.reduceSub, hb, hn, hn2, h2]; with_reducible exact hC); refine gc ?_) | refine gm ?_)
    exact hQ _ P
  rw [if_neg h1]
  have e : lineStep p = (true, (doLine { p with left := p.left.drop (upTo 10 p.left + 1) } (trimCR (p.left.take (upTo 10 p.left))))) := by unfold lineStep; simp only [if_neg h0, if_neg h1]
  rw [e] at hQ
  clear e
  generalize hn : upTo 10 p.left = n at *
  have h2 : n ≤ p.left.length := by omega
  have h3 : n + 1 ≤ p.left.length := by omega
  have h4 : (p.left.drop (n + 1)).take (p.left.length - (n + 1)) = p.left.drop (n + 1) := List.take_of_length_le (by rw [List.length_drop]; omega)
  have ht := upTo_trim (p.left.take n)
  rw [List.length_take] at ht
  have P1 := P.set (p' := { p with left := p.left.drop (n + 1) }) hkv hev hrow hnn hb'
  repeat (first | ((first | apply Xk.sAny | apply Xk.tAny); (case hok => rfl); (case h => intro C hC; simp (disch := omega) only [w1, ↓reduceIte, Nat.reduceEqDiff, Nat.reduceLeDiff, Nat.reduceAdd, Nat.reduceSub, hb, h0, h2, Nat.not_lt_zero]; with_reducible exact hC); refine gc ?_) | refine gm ?_)
  refine TrimCR_ev (p.left.take n) (by rw [List.length_take]; omega) _ _ ?_
  repeat (first | ((first | apply Xk.sAny | apply Xk.tAny); (case hok => rfl); (case h => intro C hC; simp (disch := omega) only [w1, ↓reduceIte, Nat.reduceEqDiff, Nat.reduceLeDiff, Nat.reduceAdd, Nat.reduceSub, hb, h3, h4]; with_reducible exact hC); refine gc ?_) | refine gm ?_)
  generalize trimCR (p.left.take n) = t at *
  refine Line_evO t (by omega) _ _ fun H2 cells hO2 hle2 hrep => ?_
  obtain ⟨kq, rfl, hkq⟩ := hrep
  have P2 := P1.mono hO2 hle2
  have hnew := HLe.new (hO2 _ (Nat.le_refl _)) (.cells (reqC (lineOf t).1.verb kq (lineOf t).1.flags (lineOf t).1.exp (lineOf t).1.bytes (lineOf t).1.cas (lineOf t).1.delta (lineOf t).1.noReply (lineOf t).1.data) 1)
  have P3 := P2.mono (hO2.new _) hnew
  obtain ⟨q1, q2⟩ := hkq.sc
  have hby := lineOf_bytes t
  have hgn := Heap.get_new_self H2 (.cells (reqC (lineOf t).1.verb kq (lineOf t).1.flags (lineOf t).1.exp (lineOf t).1.bytes (lineOf t).1.cas (lineOf t).1.delta (lineOf t).1.noReply (lineOf t).1.data) 1)
  have hkq3 := hkq.mono hnew
  have hag := reqC_same (own_same hkq) (lineOf t).1.verb (lineOf t).1.flags (lineOf t).1.exp (lineOf t).1.bytes (lineOf t).1.cas (lineOf t).1.delta (lineOf t).1.noReply (lineOf t).1.data
  have hag := fun k H rr => agV_agg (k := k) (H := H) (rr := rr) hag
  unfold reqC at P3 hgn hkq3 hag
  rw [doLine_eq] at hQ
  unfold reqC
  generalize hr : (lineOf t).1 = r at *
  by_cases c4 : (lineOf t).2 = 4
  · rw [if_pos c4] at hQ
    repeat (first | ((first | apply Xk.sAny | apply Xk.tAny); (case hok => rfl); (case h => intro C hC; simp (disch := omega) only [w1, ↓reduceIte, Nat.reduceEqDiff, Nat.reduceLeDiff, Nat.reduceAdd, Nat.reduceSub, q1, q2, c4]; with_reducible exact hC); refine gc ?_) | refine gm ?_)
    refine say_ev H0 _ b _ es 12 [] P3 hes _ fun H' v P' _ => ?_
    repeat (first | ((first | apply Xk.sAny | apply Xk.tAny); (case hok => rfl); (case h => intro C hC; simp (disch := omega) only [w0, ↓reduceIte, Nat.reduceEqDiff, Nat.reduceLeDiff, Nat.reduceAdd, Nat.reduceSub]; with_reducible exact hC); refine gm ?_) | refine gm ?_)
    exact hQ _ P'
  rw [if_neg c4] at hQ
  by_cases c0 : (lineOf t).2 = 0
  case neg =>
    rw [if_pos c0] at hQ
    repeat (first | ((first | apply Xk.sAny | apply Xk.tAny); (case hok => rfl); (case h => intro C hC; simp (disch := omega) only [w1, ↓reduceIte, Nat.reduceEqDiff, Nat.reduceLeDiff, Nat.reduceAdd, Nat.reduceSub, q1, q2, c4, c0]; with_reducible exact hC); refine gc ?_) | refine gm ?_)
    refine say_ev H0 _ b _ es 13 badLine P3 hes _ fun H' v P' _ => ?_
    repeat (first | ((first | apply Xk.sAny | apply Xk.tAny); (case hok => rfl); (case h => intro C hC; simp (disch := omega) only [w0, ↓reduceIte, Nat.reduceEqDiff, Nat.reduceLeDiff, Nat.reduceAdd, Nat.reduceSub]; with_reducible exact hC); refine gm ?_) | refine gm ?_)
    exact hQ _ P'
  rw [if_neg (by omega)] at hQ
  by_cases c17 : r.verb = 17
  · rw [if_pos c17] at hQ
    have c17' := eq_true c17
    repeat (first | ((first | apply Xk.sAny | apply Xk.tAny); (case hok => rfl); (case h => intro C hC; simp (disch := omega) only [w1, ↓reduceIte, Nat.reduceEqDiff, Nat.reduceLeDiff, Nat.reduceAdd, Nat.reduceSub, q1, q2, c4, c0, c17']; with_reducible exact hC); refine gc ?_) | refine gm ?_)
    refine end_ev H0 _ b _ es P3 hes _ fun H' v P' => ?_
    repeat (first | ((first | apply Xk.sAny | apply Xk.tAny); (case hok => rfl); (case h => intro C hC; simp (disch := omega) only [w0, ↓reduceIte, Nat.reduceEqDiff, Nat.reduceLeDiff, Nat.reduceAdd, Nat.reduceSub]; with_reducible exact hC); refine gm ?_) | refine gm ?_)
    exact hQ _ P'
  rw [if_neg c17] at hQ
  repeat (first | ((first | apply Xk.sAny | apply Xk.tAny); (case hok => rfl); (case h => intro C hC; simp (disch := omega) only [w1, ↓reduceIte, Nat.reduceEqDiff, Nat.reduceLeDiff, Nat.reduceAdd, Nat.reduceSub, q1, q2, c4, c0, c17]; with_reducible exact hC); refine gc ?_) | refine gm ?_)
  refine Storing_ev _ _ _ ?_
  have hb3 := hnew _ _ (hle2 _ _ (Heap.get_put_self H b (.cells (psC { p with left := p.left.drop (n + 1) } kv ev) 1)))
  obtain ⟨y, hy⟩ := P.old
  have hev1 := hev.put hy (.cells (psC { p with left := p.left.drop (n + 1) } kv ev) 1)
  have hap : Apart kq ev := by
    intro c o l z o' l' z' e1 e2
    subst e1; subst e2
    rcases hkq with ⟨h, _⟩ | ⟨c1, len, a1, a2, a3, a4⟩
    · cases h
    rcases hev1 with ⟨h, _⟩ | ⟨c2, len2, b1, b2, b3, b4⟩
    · cases h
    cases a1; cases b1
    unfold psC at b3
    rw [b3] at a4
    cases a4
  have hkv3 := ((key_put hb' (psC_keys _ _ _) (.cells (psC { p with left := p.left.drop (n + 1) } kv ev) 1) hkv).mono hle2).mono hnew
  have hev3 := (hev1.mono hle2).mono hnew
  have hrow3 := ((hrow.put hb' (psC_keys _ _ _) (.cells (psC { p with left := p.left.drop (n + 1) } kv ev) 1)).mono hle2).mono hnew
  have hlt : b < H2.next := by
    obtain ⟨_, _, _, hb2, _⟩ := P2.body
    exact hO2.lt hb2
  have hne : b ≠ H2.next := by omega
  have hne' : H2.next ≠ b := by omega
  unfold reqC at hb3 hkv3 hev3 hrow3
  have hb3' := hb3
  unfold psC at hb3
  by_cases hst : 3 ≤ r.verb ∧ r.verb ≤ 8
  case neg =>
    have hst' : storing r.verb = false := decide_eq_false hst
    rw [if_neg (by rw [hst']; simp), if_neg (by rw [hst']; simp)] at hQ
    rw [decide_eq_false hst]
    repeat (first | ((first | apply Xk.sAny | apply Xk.tAny); (case hok => rfl); (case h => intro C hC; simp (disch := omega) only [w1, ↓reduceIte, Nat.reduceEqDiff, Nat.reduceLeDiff, Nat.reduceAdd, Nat.reduceSub, q1, q2, hgn]; with_reducible exact hC); refine gc ?_) | refine gm ?_)
    refine Storing_ev _ _ _ ?_
    rw [decide_eq_false hst]
    obtain ⟨v', H4, e1, s1, s2, hb4, hfin⟩ := push_row P3 hb3' hkv3 hev3 hrow3 hnn (e := evReq r) (own_any hkq3) hap hes
    unfold psC at hb4
    unfold evC evReq reqC at e1
    simp only [List.cons_append, List.nil_append, Heap.next_new] at e1
    repeat (first | ((first | apply Xk.sAny | apply Xk.tAny); (case hok => rfl); (case h => intro C hC; simp (disch := omega) only [w1, ↓reduceIte, Nat.reduceEqDiff, Nat.reduceLeDiff, Nat.reduceAdd, Nat.reduceSub, q1, q2, hgn, hb3, hne, hne', e1, s1, s2, hb4]; with_reducible exact hC); refine gc ?_) | refine gm ?_)
    exact hQ _ (hfin { p with left := p.left.drop (n + 1) } kv (.inr ⟨rfl, rfl⟩))
  have hst' : storing r.verb = true := decide_eq_true hst
  rw [decide_eq_true hst]
  by_cases hbig : 1048576 < r.bytes
  · rw [if_pos ⟨hst', hbig⟩] at hQ
    have hbig' := eq_true hbig
    cases hnr : r.noReply with
    | true =>
      rw [hnr, if_pos rfl] at hQ
      rw [hnr] at hb3 hgn hb3' hkv3 hev3 hrow3 P3
      repeat (first | ((first | apply Xk.sAny | apply Xk.tAny); (case hok => rfl); (case h => intro C hC; simp (disch := omega) only [w1, ↓reduceIte, Nat.reduceEqDiff, Nat.reduceLeDiff, Nat.reduceAdd, Nat.reduceSub, q1, q2, hgn, hbig', hb3, hne, hne', hag]; with_reducible exact hC); refine gc ?_) | refine gm ?_)
      have := P3.set (p' := { p with left := p.left.drop (n + 1), at_ := 2, count := r.bytes + 2 }) hkv3 hev3 hrow3 hnn hb3'
      rw [← List.append_nil es] at this
      exact hQ _ this
    | false =>
      rw [hnr, if_neg (by decide)] at hQ
      rw [hnr] at P3 hgn
      repeat (first | ((first | apply Xk.sAny | apply Xk.tAny); (case hok => rfl); (case h => intro C hC; simp (disch := omega) only [w1, ↓reduceIte, Nat.reduceEqDiff, Nat.reduceLeDiff, Nat.reduceAdd, Nat.reduceSub, q1, q2, hgn, hbig']; with_reducible exact hC); refine gc ?_) | refine gm ?_)
      refine say_ev H0 _ b _ es 14 tooLarge P3 hes _ fun H' v P' hk' => ?_
      obtain ⟨kv4, ev4, cs4, hb4, hkv4, hev4, hrow4, hnn4⟩ := P'.body
      have hb4' := hb4
      have hg4 := hk' H2.next _ _ (by omega) hgn (show (9 : Nat) % 18 ≠ 0 by decide)
      unfold psC at hb4
      repeat (first | ((first | apply Xk.sAny | apply Xk.tAny); (case hok => rfl); (case h => intro C hC; simp (disch := omega) only [w1, ↓reduceIte, Nat.reduceEqDiff, Nat.reduceLeDiff, Nat.reduceAdd, Nat.reduceSub, hg4, hb4, hne, hne', hag]; with_reducible exact hC); refine gc ?_) | refine gm ?_)
      exact hQ _ (P'.set (p' := { p with left := p.left.drop (n + 1), at_ := 2, count := r.bytes + 2 }) hkv4 hev4 hrow4 hnn4 hb4')
  · rw [if_neg (fun h => hbig h.2), if_pos hst'] at hQ
    have hbig' := eq_false hbig
    repeat (first | ((first | apply Xk.sAny | apply Xk.tAny); (case hok => rfl); (case h => intro C hC; simp (disch := omega) only [w1, ↓reduceIte, Nat.reduceEqDiff, Nat.reduceLeDiff, Nat.reduceAdd, Nat.reduceSub, q1, q2, hgn, hbig', hb3, hne, hne', hag]; with_reducible exact hC); refine gc ?_) | refine gm ?_)
    refine Storing_ev _ _ _ ?_
    rw [decide_eq_true hst]
    repeat (first | ((first | apply Xk.sAny | apply Xk.tAny); (case hok => rfl); (case h => intro C hC; simp (disch := omega) only [w1, ↓reduceIte, Nat.reduceEqDiff, Nat.reduceLeDiff, Nat.reduceAdd, Nat.reduceSub, q1, q2, hgn, hbig', hb3, hne, hne', hag]; with_reducible exact hC); refine gc ?_) | refine gm ?_)
    have hk0 : r.keys ≠ [] := by
      have := fun h => one_ne (storing_keys (s := t) c0 h)
      rw [hr] at this
      exact this hst'
    have := P3.set (p' := { p with left := p.left.drop (n + 1), at_ := 1, asked := r }) (own_any hkq3) hev3 hrow3 (.inr hk0) hb3'
    rw [← List.append_nil es] at this
    exact hQ _ this
end Go.Proofs.YtkjmelfgopammaaDoor
