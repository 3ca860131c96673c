/- The law ParseTells, over the clean machine. Conditions: none. -/
import Derived.Test.YtkjmelfgopammaaPaK
import Derived.Test.YtkjmelfgopammaaWdT
namespace Go.Proofs.Ytkjmelfgopammaa
open Go.Dp Go.Wd
set_option linter.unusedSimpArgs false
set_option linter.unusedVariables false
set_option maxHeartbeats 2000000
set_option maxRecDepth 4000
attribute [local irreducible] Ex.thnK Ex.inK Ret

theorem PRuns_ev (H : Heap) (Q : AV → Heap → Prop) (hQ : Q (.bool true) H) : Eo lib n_depotlaw13_ParseRuns [] H Q := Eo.runs rfl hQ
def p0 : PS := ⟨0, [], 0, noReq, false⟩
theorem p0_ok : p0.Ok := okM (by decide) (fun h => nomatch h) (fun _ => rfl) (by decide) (fun h => nomatch h) (fun _ => rfl)
theorem New_ev (H : Heap) (Q : AV → Heap → Prop) (hQ : ∀ H', H'.Ok → HLe H H' → H'.next = H.next + 1 → H'.get H.next = some (.cells (psC p0 .nils .nils) 1) → Q (.ptr H.next 0) H') : Eo lib n_parse_New [] H Q := by
  refine Eo.ok fun hOk => ?_
  refine Eo.code at_parse_New rfl ?_
  repeat (first | ((first | apply Xk.sAny | apply Xk.tAny); (case hok => rfl); (case h => intro C hC; simp (disch := omega) only [w1, ↓reduceIte, Nat.reduceEqDiff, Nat.reduceLeDiff, Nat.reduceAdd, Nat.reduceSub, nBox]; with_reducible exact hC); refine gc ?_) | refine gm ?_)
  exact hQ _ (hOk.new _) (HLe.new (hOk _ (Nat.le_refl _)) _) rfl (Heap.get_new_self _ _)
theorem Shut_ev (H : Heap) (b : Nat) (p : PS) (hA : AtP H b p) (Q : AV → Heap → Prop) (hQ : Q (.bool p.shut) H) : Eo lib n_parse_Parser_Shut [.ptr b 0] H Q := by
  obtain ⟨kv, hb, _⟩ := hA
  unfold psC at hb
  refine Eo.code at_parse_Parser_Shut rfl ?_
  repeat (first | ((first | apply Xk.sAny | apply Xk.tAny); (case hok => rfl); (case h => intro C hC; simp (disch := omega) only [w1, ↓reduceIte, Nat.reduceEqDiff, Nat.reduceLeDiff, Nat.reduceAdd, Nat.reduceSub, hb]; with_reducible exact hC); refine gc ?_) | refine gm ?_)
  exact hQ
theorem Left_ev (H : Heap) (b : Nat) (p : PS) (hA : AtP H b p) (Q : AV → Heap → Prop) (hQ : Q (.int .i64 (.ofNat p.left.length)) H) : Eo lib n_parse_Parser_Left [.ptr b 0] H Q := by
  obtain ⟨kv, hb, _⟩ := hA
  unfold psC at hb
  refine Eo.code at_parse_Parser_Left rfl ?_
  repeat (first | ((first | apply Xk.sAny | apply Xk.tAny); (case hok => rfl); (case h => intro C hC; simp (disch := omega) only [w1, ↓reduceIte, Nat.reduceEqDiff, Nat.reduceLeDiff, Nat.reduceAdd, Nat.reduceSub, hb]; with_reducible exact hC); refine gc ?_) | refine gm ?_)
  exact hQ

theorem AtP.mono {H H' : Heap} {b : Nat} {p : PS} (h : AtP H b p) (hle : HLe H H') : AtP H' b p :=
  let ⟨kv, a, c, d⟩ := h; ⟨kv, hle _ _ a, c.mono hle, d⟩
theorem AtR.mono {H H' : Heap} {b : Nat} {p : PS} (h : AtR H b p) (hle : HLe H H') : AtR H' b p :=
  let ⟨kv, a, c, d⟩ := h; ⟨kv, hle _ _ a, c.mono hle, d⟩
/-- all blocks but b stay -/
def KeepB (b : Nat) (H H' : Heap) : Prop := ∀ c y, c ≠ b → H.get c = some y → H'.get c = some y
theorem AtP.keepR {H H' : Heap} {b r : Nat} {p q : PS} (h : AtP H b p) (hr : AtR H r q) (hne : b ≠ r) (hk : KeepB r H H') : AtP H' b p := by
  obtain ⟨kv, a, c, d⟩ := h
  obtain ⟨kr, ar, _⟩ := hr
  exact ⟨kv, hk _ _ hne a, key_keepb c ar (rsC_keys _ _) hk, d⟩
theorem AtR.keepP {H H' : Heap} {b r : Nat} {p q : PS} (h : AtR H r q) (hr : AtP H b p) (hne : r ≠ b) (hk : KeepB b H H') : AtR H' r q := by
  obtain ⟨kv, a, c, d⟩ := h
  obtain ⟨kr, ar, _⟩ := hr
  exact ⟨kv, hk _ _ hne a, key_keepb c ar (psC_keys _ _ _) hk, d⟩
theorem AtP.keepP {H H' : Heap} {b r : Nat} {p q : PS} (h : AtP H r q) (hr : AtP H b p) (hne : r ≠ b) (hk : KeepB b H H') : AtP H' r q := by
  obtain ⟨kv, a, c, d⟩ := h
  obtain ⟨kr, ar, _⟩ := hr
  exact ⟨kv, hk _ _ hne a, key_keepb c ar (psC_keys _ _ _) hk, d⟩
theorem hle_keepB {H0 H H' : Heap} {b : Nat} (h : HLe H0 H) (hb : H0.get b = none) (hk : KeepB b H H') : HLe H0 H' :=
  fun c y hc => hk c y (by intro e; subst e; rw [hb] at hc; cases hc) (h c y hc)
theorem Evs.keepP {H0 H H' : Heap} {b : Nat} {p : PS} {v : AV} {es : List Ev} {cs : List AV} (h1 : Own H0 H 0 18 v cs) (h2 : EvRows H es cs) (hb0 : ∃ y, H0.get b = some y) (hb : AtP H b p) (hk : KeepB b H H') : Evs H' v es := by
  obtain ⟨kv, a, _⟩ := hb
  obtain ⟨y, hy⟩ := hb0
  exact ⟨cs, own_any (own_keepb h1 hy hk), h2.keepb a (psC_keys _ _ _) hk⟩

theorem eqc_nilp (H : Heap) (b o : Nat) : negIf false (rEqc H (.ptr b o) .nilp) = some (.bool false) := rfl
theorem neqb (q : Bool) : negIf true (eqv .b (.bool q) (.bool q)) = some (.bool false) := by cases q <;> rfl

theorem apart_old {H0 H : Heap} {kv w : AV} {ks : List (List UInt8)} {cs : List AV} (h1 : Own noHeap H0 0 1 kv (strs ks)) (h2 : Own H0 H 0 18 w cs) : Apart kv w := by
  intro c o l z o' l' z' e1 e2
  subst e1; subst e2
  rcases h1 with ⟨h, _⟩ | ⟨c1, len, a1, a2, a3, a4⟩
  · cases h
  rcases h2 with ⟨h, _⟩ | ⟨c2, len2, b1, b2, b3, b4⟩
  · cases h
  cases a1; cases b1
  rw [a3] at b4; cases b4
theorem take_snoc {es : List Ev} {j : Nat} (h : j < es.length) : es.take (j + 1) = es.take j ++ [es.getD j noEv] := by
  rw [List.take_add_one, List.getD_eq_getElem?_getD, List.getElem?_eq_getElem h]
  rfl

theorem PTells_law (va : AV) (l : List (List UInt8)) (H : Heap) (ha : Sl H 1 va (strs l)) (hl : l.length < 9223372036854775808) : Eo lib n_depotlaw13_ParseTells [va] H fun v _ => v = .bool true := by
  refine Eo.ok fun hOk => ?_
  have la := ha.lens
  refine Eo.code at_depotlaw13_ParseTells rfl ?_
  repeat (first | ((first | apply Xk.sAny | apply Xk.tAny); (case hok => rfl); (case h => intro C hC; simp (disch := omega) only [w1, ↓reduceIte, Nat.reduceEqDiff, Nat.reduceLeDiff, Nat.reduceAdd, Nat.reduceSub]; with_reducible exact hC); refine gc ?_) | refine gm ?_)
  refine New_ev _ _ fun H1 hO1 hle1 hn1 hp1 => ?_
  have hle2 := HLe.new (hO1 _ (Nat.le_refl _)) (.cells (rsC p0 .nils) 1)
  have hlt := hO1.lt hp1
  have hne : H.next ≠ H1.next := by omega
  have AP : AtP (H1.new (.cells (rsC p0 .nils) 1)) H.next p0 := ⟨.nils, hle2 _ _ hp1, .inl ⟨rfl, rfl⟩, .inl rfl⟩
  have AR : AtR (H1.new (.cells (rsC p0 .nils) 1)) H1.next p0 := ⟨.nils, Heap.get_new_self _ _, .inl ⟨rfl, rfl⟩, .inl rfl⟩
  repeat (first | ((first | apply Xk.sAny | apply Xk.tAny); (case hok => rfl); (case h => intro C hC; simp (disch := omega) only [w1, ↓reduceIte, Nat.reduceEqDiff, Nat.reduceLeDiff, Nat.reduceAdd, Nat.reduceSub, nBox, eqc_nilp]; with_reducible exact hC); refine gc ?_) | refine gm ?_)
  have hbp0 : H.get H.next = none := hOk _ (Nat.le_refl _)
  have hbr0 : H.get H1.next = none := hOk _ (by omega)
  have hH2 : HLe H (H1.new (.cells (rsC p0 .nils) 1)) := hle1.trans hle2
  have hO2 : (H1.new (.cells (rsC p0 .nils) 1)).Ok := hO1.new _
  generalize H1.next = br at *
  generalize H.next = bp at *
  refine Xk.iter [0, 3, 4, 5] (fun m k H' => ∃ i p, m = 30 - i ∧ i ≤ 30 ∧ k = [(0, va), (3, .ptr bp 0), (4, .ptr br 0), (5, .int .i64 (.ofNat i))] ∧ H'.Ok ∧ HLe H H' ∧ AtP H' bp p ∧ AtR H' br p ∧ p.Ok ∧ p.left.length ≤ 3000 * i) rfl
    ⟨_, 0, p0, rfl, by omega, rfl, hO2, hH2, AP, AR, p0_ok, by decide⟩ ?_
  clear AP AR hO2 hH2
  rintro m k H' ⟨i, p, rfl, hi, rfl, hO', hle, AP, AR, hp, hpl⟩
  unfold l1_depotlaw13_ParseTells
  by_cases h : i < l.length
  case neg =>
    repeat (first | ((first | apply Xk.sAny | apply Xk.tAny); (case hok => rfl); (case h => intro C hC; simp (disch := omega) only [w1, ↓reduceIte, Nat.reduceEqDiff, Nat.reduceLeDiff, Nat.reduceAdd, Nat.reduceSub, la, h]; with_reducible exact hC); refine gc ?_) | refine gm ?_)
    refine PRuns_ev _ _ ?_
    repeat (first | ((first | apply Xk.sAny | apply Xk.tAny); (case hok => rfl); (case h => intro C hC; simp (disch := omega) only [w1, ↓reduceIte, Nat.reduceEqDiff, Nat.reduceLeDiff, Nat.reduceAdd, Nat.reduceSub]; with_reducible exact hC); refine gm ?_) | refine gm ?_)
    rfl
  by_cases h30 : i < 30
  case neg =>
    repeat (first | ((first | apply Xk.sAny | apply Xk.tAny); (case hok => rfl); (case h => intro C hC; simp (disch := omega) only [w1, ↓reduceIte, Nat.reduceEqDiff, Nat.reduceLeDiff, Nat.reduceAdd, Nat.reduceSub, la, h, h30]; with_reducible exact hC); refine gc ?_) | refine gm ?_)
    refine PRuns_ev _ _ ?_
    repeat (first | ((first | apply Xk.sAny | apply Xk.tAny); (case hok => rfl); (case h => intro C hC; simp (disch := omega) only [w1, ↓reduceIte, Nat.reduceEqDiff, Nat.reduceLeDiff, Nat.reduceAdd, Nat.reduceSub]; with_reducible exact hC); refine gm ?_) | refine gm ?_)
    rfl
  obtain ⟨bl, ol, cl, wl, rfl, T⟩ := (ha.mono hle).txt (by omega)
  obtain ⟨a1, a2⟩ := T.cell h
  have ga := T.at_
  obtain ⟨s, hs, hcase⟩ : ∃ s : List UInt8, s.length ≤ 3000 ∧ ((¬ 3000 < (l.getD i []).length ∧ s = l.getD i []) ∨ (3000 < (l.getD i []).length ∧ s = (l.getD i []).take 3000)) := by
    by_cases hc : 3000 < (l.getD i []).length
    · exact ⟨_, by rw [List.length_take]; omega, .inr ⟨hc, rfl⟩⟩
    · exact ⟨_, by omega, .inl ⟨hc, rfl⟩⟩
  rcases hcase with ⟨hc, hse⟩ | ⟨hc, hse⟩
  case' inl =>
    repeat (first | ((first | apply Xk.sAny | apply Xk.tAny); (case hok => rfl); (case h => intro C hC; simp (disch := omega) only [w1, ↓reduceIte, Nat.reduceEqDiff, Nat.reduceLeDiff, Nat.reduceAdd, Nat.reduceSub, la, h, h30, a1, a2, ga, hc]; with_reducible exact hC); refine gc ?_) | refine gm ?_)
    rw [← hse]
  case' inr =>
    have hc' : 3000 ≤ (l.getD i []).length := by omega
    repeat (first | ((first | apply Xk.sAny | apply Xk.tAny); (case hok => rfl); (case h => intro C hC; simp (disch := omega) only [w1, ↓reduceIte, Nat.reduceEqDiff, Nat.reduceLeDiff, Nat.reduceAdd, Nat.reduceSub, la, h, h30, a1, a2, ga, hc, hc']; with_reducible exact hC); refine gc ?_) | refine gm ?_)
    rw [← hse]
  all_goals
    clear hse hc a1 a2 ga
    have hsl : p.left.length + s.length < 1000000000 := by omega
    obtain ⟨f1, f2, f3, f4⟩ := feed_ok hp s
    refine rFeed_ev H' br p s AR hp hsl _ fun H2 ev cs hO2 hk2 AR2 hev hrow => ?_
    have AP2 : AtP H2 bp p := AP.keepR AR hne hk2
    have hle2 : HLe H H2 := hle_keepB hle hbr0 hk2
    generalize hes : (feed p s).1 = es at *
    have hE : Evs H2 ev es := ⟨cs, own_any hev, hrow⟩
    have lE := hE.lens
    repeat (first | ((first | apply Xk.sAny | apply Xk.tAny); (case hok => rfl); (case h => intro C hC; simp (disch := omega) only [w1, ↓reduceIte, Nat.reduceEqDiff, Nat.reduceLeDiff, Nat.reduceAdd, Nat.reduceSub]; with_reducible exact hC); refine gc ?_) | refine gm ?_)
    refine Xk.iter [0, 3, 4, 5, 6, 7, 8, 9] (fun m k H3 => ∃ j w wc, m = es.length - j ∧ j ≤ es.length ∧ k = [(0, .sl bl ol l.length 1), (3, .ptr bp 0), (4, .ptr br 0), (5, .int .i64 (.ofNat i)), (6, .str s), (7, w), (8, ev), (9, .int .i64 (.ofNat j))] ∧ H3.Ok ∧ HLe H2 H3 ∧ Own H2 H3 0 18 w wc ∧ EvRows H3 (es.take j) wc) rfl
      ⟨_, 0, .nils, [], rfl, by omega, rfl, hO2, HLe.refl _, .inl ⟨rfl, rfl⟩, rfl⟩ ?_
    rintro m k H3 ⟨j, w, wc, rfl, hj, rfl, hO3, hle3, hw, hwr⟩
    unfold l0_depotlaw13_ParseTells
    by_cases hjl : j < es.length
    · have hjt := eq_true hjl
      obtain ⟨be, ce, ke, rfl, e1, e2, e3, e4, e5⟩ := hE.row hjl
      have e1' := hle3 _ _ e1
      have e6 : j * 18 + 9 ≤ ce.length := by omega
      have e5' := e5.mono hle3
      have hwl := hwr.len
      rw [List.length_take] at hwl
      obtain ⟨w', H4, g1, hO4, hle4, hn4, hown4, hkeep4⟩ := Own.push (w := 1) (bytes := 192) (row := evC ke (es.getD j noEv)) hO3 hle3 hw rfl (by simp only [evC, reqC, List.cons_append, List.nil_append, List.all_cons, List.all_nil, wh, e5.sc.2, Bool.and_self]) (by omega) (by omega) (by omega)
      unfold evC reqC at g1
      unfold reqC at e3
      unfold ansC at e4
      simp only [List.cons_append, List.nil_append] at g1
      obtain ⟨t1, t2⟩ := e5.sc
      repeat (first | ((first | apply Xk.sAny | apply Xk.tAny); (case hok => rfl); (case h => intro C hC; simp (disch := omega) only [w1, ↓reduceIte, Nat.reduceEqDiff, Nat.reduceLeDiff, Nat.reduceAdd, Nat.reduceSub, lE, hjt, e1', e2, e3, e4, e6, t1, t2, g1]; with_reducible exact hC); refine gc ?_) | refine gm ?_)
      have hrowN := EvRows.snoc (keep_apart hkeep4 e5' (apart_old e5 hw)) (EvRows.keep hkeep4 hw hwr)
      rw [← take_snoc hjl] at hrowN
      exact ⟨rfl, _, by omega, j + 1, w', _, rfl, by omega, rfl, hO4, hle4, hown4, hrowN⟩
    · have hjf := eq_false hjl
      repeat (first | ((first | apply Xk.sAny | apply Xk.tAny); (case hok => rfl); (case h => intro C hC; simp (disch := omega) only [w1, ↓reduceIte, Nat.reduceEqDiff, Nat.reduceLeDiff, Nat.reduceAdd, Nat.reduceSub, lE, hjf]; with_reducible exact hC); refine gc ?_) | refine gm ?_)
      have hje : es.take j = es := List.take_of_length_le (by omega)
      rw [hje] at hwr
      have AP3 := AP2.mono hle3
      have AR3 := AR2.mono hle3
      refine Feed_ev H3 bp p s AP3 hp hsl _ fun H5 ev2 cs2 hO5 hk5 AP5 hev5 hrow5 => ?_
      rw [hes] at hrow5
      obtain ⟨kq, hgp, _⟩ := AP2
      have hEw : Evs H5 w es := Evs.keepP hw hwr ⟨_, hgp⟩ AP3 hk5
      have AR5 := AR3.keepP AP3 hne.symm hk5
      have hle5 : HLe H H5 := hle_keepB (hle2.trans hle3) hbp0 hk5
      repeat (first | ((first | apply Xk.sAny | apply Xk.tAny); (case hok => rfl); (case h => intro C hC; simp (disch := omega) only [w1, ↓reduceIte, Nat.reduceEqDiff, Nat.reduceLeDiff, Nat.reduceAdd, Nat.reduceSub]; with_reducible exact hC); refine gc ?_) | refine gm ?_)
      refine same_ev H5 ev2 w es ⟨cs2, own_any hev5, hrow5⟩ hEw (by omega) (fun e he => by have := f4 e he; omega) _ fun H6 hO6 hle6 => ?_
      have AR6 := AR5.mono hle6
      have AP6 := AP5.mono hle6
      obtain ⟨kr, hgr, _⟩ := id AR6
      unfold rsC at hgr
      repeat (first | ((first | apply Xk.sAny | apply Xk.tAny); (case hok => rfl); (case h => intro C hC; simp (disch := omega) only [w1, ↓reduceIte, Nat.reduceEqDiff, Nat.reduceLeDiff, Nat.reduceAdd, Nat.reduceSub, hgr]; with_reducible exact hC); refine gc ?_) | refine gm ?_)
      refine Shut_ev _ bp _ AP6 _ ?_
      repeat (first | ((first | apply Xk.sAny | apply Xk.tAny); (case hok => rfl); (case h => intro C hC; simp (disch := omega) only [w1, ↓reduceIte, Nat.reduceEqDiff, Nat.reduceLeDiff, Nat.reduceAdd, Nat.reduceSub, hgr, agV_bool, neqb]; with_reducible exact hC); refine gc ?_) | refine gm ?_)
      refine Left_ev _ bp _ AP6 _ ?_
      repeat (first | ((first | apply Xk.sAny | apply Xk.tAny); (case hok => rfl); (case h => intro C hC; simp (disch := omega) only [w1, ↓reduceIte, Nat.reduceEqDiff, Nat.reduceLeDiff, Nat.reduceAdd, Nat.reduceSub, hgr, agV_str, eq_self]; with_reducible exact hC); refine gc ?_) | refine gm ?_)
      exact ⟨rfl, _, by omega, i + 1, _, rfl, by omega, rfl, hO6, hle5.trans hle6, AP6, AR6, f1, by omega⟩
end Go.Proofs.Ytkjmelfgopammaa
