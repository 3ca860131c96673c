/- The law ParseCuts, over the clean machine. Conditions: none. -/
import Derived.Test.YtkjmelfgopammaaPaL
namespace Go.Proofs.Ytkjmelfgopammaa
open Go.Dp Go.Wd
set_option linter.unusedSimpArgs false
set_option linter.unusedVariables false
set_option maxHeartbeats 2000000
set_option maxRecDepth 4000
attribute [local irreducible] Ex.thnK Ex.inK Ret

theorem EvRows.app {H : Heap} {fs : List Ev} {ds : List AV} (h2 : EvRows H fs ds) : ∀ {es : List Ev} {cs : List AV}, EvRows H es cs → EvRows H (es ++ fs) (cs ++ ds)
  | [], cs, h => by rw [show cs = [] from h]; exact h2
  | e :: es, cs, ⟨kv, rest, a1, a2, a3⟩ => ⟨kv, rest ++ ds, by rw [a1, List.append_assoc], a2, EvRows.app h2 a3⟩

/-- rows of events behind others -/
theorem evs_app {H0 H : Heap} {bv ev : AV} {bes es : List Ev} {bc : List AV} (hO : H.Ok) (hb : Own H0 H 0 18 bv bc) (hbr : EvRows H bes bc) (hbn : bes = [] → bv = .nils) (he : Evs H ev es) (hd : Apart ev bv)
    (hl : bes.length + es.length < 10000000000) (hH : HLe H0 H) :
    ∃ v' H' bc', evalApp 0 18 192 H bv ev = some (v', H') ∧ H'.Ok ∧ HLe H0 H' ∧ Keeps H H' bv ∧ Own H0 H' 0 18 v' bc' ∧ EvRows H' (bes ++ es) bc' ∧ (bes ++ es = [] → v' = .nils) := by
  obtain ⟨cs, h1, h2⟩ := he
  have hlen := h2.len
  have hbl := hbr.len
  have hsc : ∀ {es : List Ev} {cs : List AV}, EvRows H es cs → cs.all AV.isSc = true := by
    intro es
    induction es with
    | nil => intro cs h; rw [show cs = [] from h]; rfl
    | cons e es ih =>
      intro cs ⟨kv, rest, a1, a2, a3⟩
      rw [a1, List.all_append, ih a3]
      simp only [evC, reqC, List.cons_append, List.nil_append, List.all_cons, List.all_nil, wh, a2.sc.2, Bool.and_self]
  have hx := Sl.src h1.sl (hsc h2) (by decide)
  obtain ⟨v', H', e1, e2, e3, e4, e5, e6⟩ := Own.app hO hH hb hx (by rw [hlen]; omega) (by decide) (bytes := 192) (by rw [hbl, hlen]; omega) (by rw [hbl, hlen]; omega)
  have hkeep : Keeps H H' bv := e6
  have hbr2 : EvRows H' bes bc := hbr.keep hkeep hb
  have her2 : EvRows H' es cs := by
    by_cases hn : bes = []
    · have hbv := hbn hn
      have : ∀ {es : List Ev} {cs : List AV}, EvRows H es cs → EvRows H' es cs := by
        intro es
        induction es with
        | nil => intro cs h; exact h
        | cons e es ih =>
          intro cs ⟨kv, rest, a1, a2, a3⟩
          refine ⟨kv, rest, a1, keep_apart hkeep a2 ?_, ih a3⟩
          intro c o l z o' l' z' _ hb'
          rw [hbv] at hb'; cases hb'
      exact this h2
    · exact EvRows.keepAll hkeep hb (fun ks => hbr.head hn ks) h2
  refine ⟨v', H', _, e1, e2, e3, hkeep, e5, EvRows.app her2 hbr2, ?_⟩
  · intro hn
    obtain ⟨n1, n2⟩ := List.append_eq_nil_iff.1 hn
    subst n1; subst n2
    have hcs : cs = [] := h2
    rw [hbn rfl] at e1
    have hbc : bc = [] := hbr
    subst hcs
    have : evalApp 0 18 192 H .nils ev = some (.nils, H) := by
      unfold evalApp
      rw [hx]
      rfl
    rw [this] at e1
    exact (Prod.mk.inj (Option.some.inj e1)).1.symm

/-- one piece more -/
theorem piece_ev {Hb H' : Heap} {bq : Nat} {a t : List UInt8} {bv : AV} {bc : List AV} (hy : ∃ y, Hb.get bq = some y) (hk : KeepB bq Hb H') (AQ : AtP H' bq (feed p0 a).2) (hbv : Own Hb H' 0 18 bv bc) (hbr : EvRows H' (feed p0 a).1 bc) (hbn : (feed p0 a).1 = [] → bv = .nils)
    (ha : a.length ≤ 6000) (ht : t.length ≤ 6000) (Q : AV → Heap → Prop)
    (hQ : ∀ H4 ev v' H5 bc', evalApp 0 18 192 H4 bv ev = some (v', H5) → H5.Ok → KeepB bq Hb H5 → AtP H5 bq (feed p0 (a ++ t)).2 → Own Hb H5 0 18 v' bc' → EvRows H5 (feed p0 (a ++ t)).1 bc' → ((feed p0 (a ++ t)).1 = [] → v' = .nils) → Q ev H4) :
    Eo lib n_parse_Parser_Feed [.ptr bq 0, .str t] H' Q := by
  obtain ⟨y, hy⟩ := hy
  obtain ⟨f1, f2, f3, f4⟩ := feed_ok p0_ok a
  have e0 : p0.left.length = 0 := rfl
  rw [e0] at f2 f3
  obtain ⟨g1, g2, g3, g4⟩ := feed_ok f1 t
  refine Feed_ev H' bq _ t AQ f1 (by omega) _ fun H4 ev cs hO4 hk4 AQ4 hev4 hrow4 => ?_
  have happ := feed_app p0_ok a t
  obtain ⟨kq, hq0, _⟩ := id AQ
  have hbv4 := own_keepb hbv hy hk4
  have hbr4 := hbr.keepb hq0 (psC_keys _ _ _) hk4
  have hd : Apart ev bv := by
    intro c o l z o' l' z' e1 e2
    subst e1; subst e2
    rcases hev4 with ⟨h, _⟩ | ⟨c1, len, a1, a2, a3, a4⟩
    · cases h
    rcases hbv with ⟨h, _⟩ | ⟨c2, len2, b1, b2, b3, b4⟩
    · cases h
    cases a1; cases b1
    rw [b3] at a4; cases a4
  have hkb : KeepB bq Hb H4 := fun c y hc h => hk4 c y hc (hk c y hc h)
  obtain ⟨kv, hq4, hkv4, hnn4⟩ := AQ4
  have hle : HLe (Hb.put bq (.cells (psC (feed (feed p0 a).2 t).2 kv .nils) 1)) H4 := by
    intro c x hc
    by_cases e : c = bq
    · subst e; rw [Heap.get_put_self] at hc; cases hc; exact hq4
    · rw [Heap.get_put_ne _ _ _ e] at hc; exact hkb c x e hc
  obtain ⟨v', H5, bc', e1, e2, e3, e4, e5, e6, e7⟩ := evs_app hO4 (own_put hy hbv4) hbr4 hbn ⟨cs, own_any hev4, hrow4⟩ hd (by omega) hle
  have hq5 : H5.get bq = some (.cells (psC (feed (feed p0 a).2 t).2 kv .nils) 1) := e3 _ _ (Heap.get_put_self _ _ _)
  rw [happ] at hQ
  refine hQ H4 ev v' H5 bc' e1 e2 (fun c x hc h => e3 c x (by rw [Heap.get_put_ne _ _ _ hc]; exact h)) ⟨kv, hq5, asked_keep e4 hkv4 hbv4 hbr4 hnn4, hnn4⟩ (put_own hy e5) e6 e7

theorem feed0 : feed p0 [] = ([], p0) := rfl
theorem PCuts_law (s0 : List UInt8) (va : AV) (l : List Int) (H : Heap) (ha : Sl H 1 va (l.map (AV.int .i64))) (hl : l.length < 9223372036854775808) : Eo lib n_depotlaw13_ParseCuts [.str s0, va] H fun v _ => v = .bool true := by
  refine Eo.ok fun hOk => ?_
  have la := ha.lensg
  rw [List.length_map] at la
  refine Eo.code at_depotlaw13_ParseCuts rfl ?_
  obtain ⟨s, hs, hcase⟩ : ∃ s : List UInt8, s.length ≤ 6000 ∧ ((¬ 6000 < s0.length ∧ s = s0) ∨ (6000 < s0.length ∧ s = s0.take 6000)) := by
    by_cases hc : 6000 < s0.length
    · exact ⟨_, by rw [List.length_take]; omega, .inr ⟨hc, rfl⟩⟩
    · exact ⟨_, by omega, .inl ⟨hc, rfl⟩⟩
  rcases hcase with ⟨hc, hse⟩ | ⟨hc, hse⟩
  case' inl =>
    repeat (first | ((first | apply Xk.sAny | apply Xk.tAny); (case hok => rfl); (case h => intro C hC; simp (disch := omega) only [w1, ↓reduceIte, Nat.reduceEqDiff, Nat.reduceLeDiff, Nat.reduceAdd, Nat.reduceSub, hc]; with_reducible exact hC); refine gc ?_) | refine gm ?_)
    refine New_ev _ _ fun H1 hO1 hle1 hn1 hp1 => ?_
    repeat (first | ((first | apply Xk.sAny | apply Xk.tAny); (case hok => rfl); (case h => intro C hC; simp (disch := omega) only [w1, ↓reduceIte, Nat.reduceEqDiff, Nat.reduceLeDiff, Nat.reduceAdd, Nat.reduceSub]; with_reducible exact hC); refine gc ?_) | refine gm ?_)
    refine New_ev _ _ fun H2 hO2 hle2 hn2 hp2 => ?_
    repeat (first | ((first | apply Xk.sAny | apply Xk.tAny); (case hok => rfl); (case h => intro C hC; simp (disch := omega) only [w1, ↓reduceIte, Nat.reduceEqDiff, Nat.reduceLeDiff, Nat.reduceAdd, Nat.reduceSub, eqc_nilp]; with_reducible exact hC); refine gc ?_) | refine gm ?_)
    rw [← hse]
  case' inr =>
    have hc' : 6000 ≤ s0.length := by omega
    repeat (first | ((first | apply Xk.sAny | apply Xk.tAny); (case hok => rfl); (case h => intro C hC; simp (disch := omega) only [w1, ↓reduceIte, Nat.reduceEqDiff, Nat.reduceLeDiff, Nat.reduceAdd, Nat.reduceSub, hc, hc']; with_reducible exact hC); refine gc ?_) | refine gm ?_)
    refine New_ev _ _ fun H1 hO1 hle1 hn1 hp1 => ?_
    repeat (first | ((first | apply Xk.sAny | apply Xk.tAny); (case hok => rfl); (case h => intro C hC; simp (disch := omega) only [w1, ↓reduceIte, Nat.reduceEqDiff, Nat.reduceLeDiff, Nat.reduceAdd, Nat.reduceSub]; with_reducible exact hC); refine gc ?_) | refine gm ?_)
    refine New_ev _ _ fun H2 hO2 hle2 hn2 hp2 => ?_
    repeat (first | ((first | apply Xk.sAny | apply Xk.tAny); (case hok => rfl); (case h => intro C hC; simp (disch := omega) only [w1, ↓reduceIte, Nat.reduceEqDiff, Nat.reduceLeDiff, Nat.reduceAdd, Nat.reduceSub, eqc_nilp]; with_reducible exact hC); refine gc ?_) | refine gm ?_)
    rw [← hse]
  all_goals
    clear hse hc
    have hp1' := hle2 _ _ hp1
    have hlt := hO1.lt hp1
    have hne : H.next ≠ H1.next := by omega
    have hH2 : HLe H H2 := hle1.trans hle2
    have hbp0 : H.get H.next = none := hOk _ (Nat.le_refl _)
    have hbq0 : H.get H1.next = none := hOk _ (by omega)
    have AP : AtP H2 H.next p0 := ⟨.nils, hp1', .inl ⟨rfl, rfl⟩, .inl rfl⟩
    have AQ : AtP H2 H1.next p0 := ⟨.nils, hp2, .inl ⟨rfl, rfl⟩, .inl rfl⟩
    generalize H1.next = bq at *
    generalize H.next = bp at *
    clear hp1 hp2 hp1' hlt hle1 hle2 hn1 hn2 hO1
    have hp00 : p0.left.length + s.length < 1000000000 := by show 0 + s.length < _; omega
    refine Feed_ev H2 bp p0 s AP p0_ok hp00 _ fun Hb ea cs hOb hkb APb hea hrowa => ?_
    have AQ0 := AQ
    have AQb : AtP Hb bq p0 := AQ.keepP AP hne.symm hkb
    have hHb : HLe H Hb := hle_keepB hH2 hbp0 hkb
    have EA : Evs Hb ea (feed p0 s).1 := ⟨cs, own_any hea, hrowa⟩
    obtain ⟨f1, f2, f3, f4⟩ := feed_ok p0_ok s
    rw [show p0.left.length = 0 from rfl] at f2 f3 f4
    repeat (first | ((first | apply Xk.sAny | apply Xk.tAny); (case hok => rfl); (case h => intro C hC; simp (disch := omega) only [w1, ↓reduceIte, Nat.reduceEqDiff, Nat.reduceLeDiff, Nat.reduceAdd, Nat.reduceSub]; with_reducible exact hC); refine gc ?_) | refine gm ?_)
    obtain ⟨kq0, hq0, _⟩ := id AQb
    refine Xk.iter [0, 1, 5, 6, 7, 8, 9, 10] (fun m k H' => ∃ i fr bv bc, m = 60 - i ∧ i ≤ 60 ∧ fr ≤ s.length ∧ k = [(0, .str s), (1, va), (5, .ptr bp 0), (6, .ptr bq 0), (7, ea), (8, bv), (9, .int .i64 (.ofNat fr)), (10, .int .i64 (.ofNat i))] ∧
      H'.Ok ∧ KeepB bq Hb H' ∧ AtP H' bq (feed p0 (s.take fr)).2 ∧ Own Hb H' 0 18 bv bc ∧ EvRows H' (feed p0 (s.take fr)).1 bc ∧ ((feed p0 (s.take fr)).1 = [] → bv = .nils)) rfl
      ⟨_, 0, 0, .nils, [], rfl, by omega, by omega, rfl, hOb, fun _ _ _ h => h, by rw [List.take_zero, feed0]; exact AQb, .inl ⟨rfl, rfl⟩, by rw [List.take_zero, feed0]; rfl, fun _ => rfl⟩ ?_
    rintro m k H' ⟨i, fr, bv, bc, rfl, hi, hfr, rfl, hO', hkb', AQ, hbv, hbr, hbn⟩
    unfold l0_depotlaw13_ParseCuts
    have hta : (s.take fr).length ≤ 6000 := by rw [List.length_take]; omega
    have hle : HLe H H' := hle_keepB hHb hbq0 hkb'
    by_cases hlt : i < l.length ∧ i < 60
    case neg =>
      have hor : (¬ i < l.length ∧ rLensl va = some (.int .i64 (.ofNat l.length))) ∨ (i < l.length ∧ ¬ i < 60) := by
        by_cases h1 : i < l.length
        · exact .inr ⟨h1, fun h2 => hlt ⟨h1, h2⟩⟩
        · exact .inl ⟨h1, la⟩
      have g2 : (s.drop fr).take (s.length - fr) = s.drop fr := List.take_of_length_le (by rw [List.length_drop]; omega)
      rcases hor with ⟨h1, h2⟩ | ⟨h1, h2⟩
      all_goals
        repeat (first | ((first | apply Xk.sAny | apply Xk.tAny); (case hok => rfl); (case h => intro C hC; simp (disch := omega) only [w1, ↓reduceIte, Nat.reduceEqDiff, Nat.reduceLeDiff, Nat.reduceAdd, Nat.reduceSub, la, h1, h2, hfr, g2]; with_reducible exact hC); refine gc ?_) | refine gm ?_)
        refine piece_ev (a := s.take fr) ⟨_, hq0⟩ hkb' AQ hbv hbr hbn hta (by rw [List.length_drop]; omega) _ fun H4 ev v' H5 bc' e1 hO5 hk5 AQ5 hbv5 hbr5 hbn5 => ?_
        rw [List.take_append_drop] at AQ5 hbr5
        repeat (first | ((first | apply Xk.sAny | apply Xk.tAny); (case hok => rfl); (case h => intro C hC; simp (disch := omega) only [w1, ↓reduceIte, Nat.reduceEqDiff, Nat.reduceLeDiff, Nat.reduceAdd, Nat.reduceSub, e1]; with_reducible exact hC); refine gc ?_) | refine gm ?_)
        have APe : AtP H5 bp (feed p0 s).2 := APb.keepP AQb hne hk5
        have EAe : Evs H5 ea (feed p0 s).1 := by
          obtain ⟨cs, c1, c2⟩ := EA
          refine ⟨cs, ?_, c2.keepb hq0 (psC_keys _ _ _) hk5⟩
          rcases c1 with c1 | ⟨c, len, d1, d2, d3, d4⟩
          · exact .inl c1
          · refine .inr ⟨c, len, d1, d2, hk5 _ _ ?_ d3, d4⟩
            intro e; subst e
            rcases hea with ⟨q1, _⟩ | ⟨c', len', q1, q2, q3, q4⟩
            · rw [q1] at d1; cases d1
            · rw [q1] at d1; cases d1
              obtain ⟨kz, hz, _⟩ := AQ0
              rw [hz] at q4; cases q4
        refine same_ev H5 ea v' _ EAe ⟨bc', own_any hbv5, hbr5⟩ (by omega) (fun e he => by have := f4 e he; omega) _ fun H6 hO6 hle6 => ?_
        repeat (first | ((first | apply Xk.sAny | apply Xk.tAny); (case hok => rfl); (case h => intro C hC; simp (disch := omega) only [w1, ↓reduceIte, Nat.reduceEqDiff, Nat.reduceLeDiff, Nat.reduceAdd, Nat.reduceSub]; with_reducible exact hC); refine gc ?_) | refine gm ?_)
        refine Shut_ev _ bp _ (APe.mono hle6) _ ?_
        repeat (first | ((first | apply Xk.sAny | apply Xk.tAny); (case hok => rfl); (case h => intro C hC; simp (disch := omega) only [w1, ↓reduceIte, Nat.reduceEqDiff, Nat.reduceLeDiff, Nat.reduceAdd, Nat.reduceSub]; with_reducible exact hC); refine gc ?_) | refine gm ?_)
        refine Shut_ev _ bq _ (AQ5.mono hle6) _ ?_
        repeat (first | ((first | apply Xk.sAny | apply Xk.tAny); (case hok => rfl); (case h => intro C hC; simp (disch := omega) only [w1, ↓reduceIte, Nat.reduceEqDiff, Nat.reduceLeDiff, Nat.reduceAdd, Nat.reduceSub, eqvb]; with_reducible exact hC); refine gc ?_) | refine gm ?_)
        refine Left_ev _ bp _ (APe.mono hle6) _ ?_
        repeat (first | ((first | apply Xk.sAny | apply Xk.tAny); (case hok => rfl); (case h => intro C hC; simp (disch := omega) only [w1, ↓reduceIte, Nat.reduceEqDiff, Nat.reduceLeDiff, Nat.reduceAdd, Nat.reduceSub]; with_reducible exact hC); refine gc ?_) | refine gm ?_)
        refine Left_ev _ bq _ (AQ5.mono hle6) _ ?_
        repeat (first | ((first | apply Xk.sAny | apply Xk.tAny); (case hok => rfl); (case h => intro C hC; simp (disch := omega) only [w1, ↓reduceIte, Nat.reduceEqDiff, Nat.reduceLeDiff, Nat.reduceAdd, Nat.reduceSub]; with_reducible exact hC); refine gc ?_) | refine gm ?_)
        refine PRuns_ev _ _ ?_
        repeat (first | ((first | apply Xk.sAny | apply Xk.tAny); (case hok => rfl); (case h => intro C hC; simp (disch := omega) only [w1, ↓reduceIte, Nat.reduceEqDiff, Nat.reduceLeDiff, Nat.reduceAdd, Nat.reduceSub]; with_reducible exact hC); refine gm ?_) | refine gm ?_)
        rfl
    obtain ⟨h1, h2⟩ := hlt
    obtain ⟨bx, ox, cx', wx, rfl, hgx, x1, x2⟩ := Sl.cell (ha.mono hle) (i := i) (by rw [List.length_map]; exact h1)
    rw [List.length_map] at *
    have hx3 : (l.map (AV.int .i64)).getD i .undef = .int .i64 (l.getD i 0) := by
      rw [List.getD_eq_getElem?_getD, List.getElem?_map, List.getElem?_eq_getElem h1, List.getD_eq_getElem?_getD, List.getElem?_eq_getElem h1]
      rfl
    rw [hx3] at x2
    repeat (first | ((first | apply Xk.sAny | apply Xk.tAny); (case hok => rfl); (case h => intro C hC; simp (disch := omega) only [w1, ↓reduceIte, Nat.reduceEqDiff, Nat.reduceLeDiff, Nat.reduceAdd, Nat.reduceSub, h1, h2, hgx, x1, x2]; with_reducible exact hC); refine gc ?_) | refine gm ?_)
    refine Within_ev _ fr s.length hfr (by omega) _ _ fun to ht1 ht2 => ?_
    have g3 : fr ≤ to := ht1
    have g4 : s.take fr ++ (s.drop fr).take (to - fr) = s.take to := by
      have : s.take to = s.take (fr + (to - fr)) := by congr 1; omega
      rw [this, List.take_add]
    repeat (first | ((first | apply Xk.sAny | apply Xk.tAny); (case hok => rfl); (case h => intro C hC; simp (disch := omega) only [w1, ↓reduceIte, Nat.reduceEqDiff, Nat.reduceLeDiff, Nat.reduceAdd, Nat.reduceSub, g3, ht2]; with_reducible exact hC); refine gc ?_) | refine gm ?_)
    refine piece_ev (a := s.take fr) ⟨_, hq0⟩ hkb' AQ hbv hbr hbn hta (by rw [List.length_take, List.length_drop]; omega) _ fun H4 ev v' H5 bc' e1 hO5 hk5 AQ5 hbv5 hbr5 hbn5 => ?_
    rw [g4] at AQ5 hbr5 hbn5
    repeat (first | ((first | apply Xk.sAny | apply Xk.tAny); (case hok => rfl); (case h => intro C hC; simp (disch := omega) only [w1, ↓reduceIte, Nat.reduceEqDiff, Nat.reduceLeDiff, Nat.reduceAdd, Nat.reduceSub, e1]; with_reducible exact hC); refine gc ?_) | refine gm ?_)
    exact ⟨rfl, _, by omega, i + 1, to, v', bc', rfl, by omega, ht2, rfl, hO5, hk5, AQ5, hbv5, hbr5, hbn5⟩
end Go.Proofs.Ytkjmelfgopammaa
